import Derived.Test.YtjjnbanlofhhnaaGreatE1
import Derived.Test.YtjjnbanlofhhnaaGreatP2
namespace Go.Proofs.Tc
open Go.RowKit Go.Sort
attribute [local go_sem] stepO_0 stepO_1 stepO_2 stepO_3 stepV_0 stepV_1 stepV_2 stepV_3 stepV_5

theorem KeepL.trans' {lab lab' : Nat → Option Nat} {w w1 w2 : World} (h : KeepL lab w w1) (he : ∀ g, g < w.heap.size → lab g = none → lab' g = none) (h' : KeepL lab' w1 w2) : KeepL lab w w2 :=
  ⟨h'.os.trans h.os, h'.tape.trans h.tape, h'.output.trans h.output, Nat.le_trans h.size h'.size, fun g hg hl => (h'.block g (Nat.lt_of_lt_of_le hg h.size) (he g hg hl)).trans (h.block g hg hl)⟩

theorem mem_replL {α : Type} {l : List α} {i : Nat} {p q x : α} (h : x ∈ replL l i p q) : x = p ∨ x = q ∨ ∃ j, j ≠ i ∧ l[j]? = some x := by
  unfold replL at h
  rcases List.mem_append.1 h with h | h
  · rcases List.mem_append.1 h with h | h
    · obtain ⟨j, hj, rfl⟩ := List.mem_iff_getElem.1 h
      rw [List.length_take] at hj
      refine .inr (.inr ⟨j, by omega, ?_⟩)
      rw [List.getElem_take, List.getElem?_eq_getElem]
    · simp only [List.mem_cons, List.not_mem_nil, or_false] at h
      rcases h with h | h
      · exact .inl h
      · exact .inr (.inl h)
  · obtain ⟨j, hj, rfl⟩ := List.mem_iff_getElem.1 h
    rw [List.length_drop] at hj
    refine .inr (.inr ⟨i + 1 + j, by omega, ?_⟩)
    rw [List.getElem_drop, List.getElem?_eq_getElem]
theorem map_replL {α β : Type} (f : α → β) (l : List α) (i : Nat) (p q : α) : (replL l i p q).map f = replL (l.map f) i (f p) (f q) := by
  unfold replL; simp [List.map_take, List.map_drop]
theorem nodup_replL {l : List Nat} {i p q : Nat} (hn : l.Nodup) (hp : p ∉ l) (hq : q ∉ l) (hpq : p ≠ q) : (replL l i p q).Nodup := by
  unfold replL
  have hd : ∀ x ∈ l.take i, x ∉ l.drop (i + 1) := by
    intro x hx hy
    have h1 : l = l.take i ++ l.drop i := (List.take_append_drop i l).symm
    rw [h1, List.nodup_append] at hn
    exact hn.2.2 x hx x (by
      have : l.drop (i + 1) = (l.drop i).drop 1 := by rw [List.drop_drop]
      rw [this] at hy
      exact List.mem_of_mem_drop hy) rfl
  refine List.nodup_append.2 ⟨List.nodup_append.2 ⟨hn.sublist (List.take_sublist _ _), by simp [hpq], fun a ha b hb he => ?_⟩, hn.sublist (List.drop_sublist _ _), fun a ha b hb he => ?_⟩
  · subst he
    simp only [List.mem_cons, List.not_mem_nil, or_false] at hb
    rcases hb with rfl | rfl
    · exact hp (List.mem_of_mem_take ha)
    · exact hq (List.mem_of_mem_take ha)
  · subst he
    rcases List.mem_append.1 ha with ha | ha
    · exact hd _ ha hb
    · simp only [List.mem_cons, List.not_mem_nil, or_false] at ha
      rcases ha with rfl | rfl
      · exact hp (List.mem_of_mem_drop hb)
      · exact hq (List.mem_of_mem_drop hb)
theorem famAt_ext {w w' : World} {m : Nat} {v v' : Bool → Value} (h : FamAt w m v) (e : v = v') : FamAt w m v' := e ▸ h

/-- A table of which one bucket has been split. -/
theorem TbIn.split {w w' : World} {t : Nat} {own : ByteArray} {now : Int} {lab : Nat → Option Nat} {m : Nat} {v : Bool → Value} {L : Bool → List Pl} (h : TbIn w t own now lab m v L) {b : Bool} {i : Nat} {x y z : Pl} (hx : (L b)[i]? = some x) {v' : Value}
    (hK : Keeps (m :: fpv (v b)) w w') (hm : FamAt w' m (fun c => if c = b then v' else v c)) (ho : OwnP w' v' (replL ((L b).map (·.a)) i y.a z.a)) (hf : ∀ g ∈ fpv v', g ∈ fpv (v b) ∨ w.heap.size ≤ g)
    (hy : BkIn w' y.a y.k y.S) (hz : BkIn w' z.a z.k z.S) (hyn : ∀ g ∈ y.a :: y.S, w.heap.size ≤ g ∧ g ∉ fpv v' ∧ g ∉ z.a :: z.S) (hzn : ∀ g ∈ z.a :: z.S, w.heap.size ≤ g ∧ g ∉ fpv v') :
    ∃ lab', TbIn w' t own now lab' m (fun c => if c = b then v' else v c) (fun c => if c = b then replL (L b) i y z else L c) ∧ (∀ g, g < w.heap.size → lab g = none → lab' g = none) ∧ (∀ g ∈ x.a :: x.S, lab' g = none) ∧ KeepL lab w w' ∧ BkIn w' x.a x.k x.S := by
  have hxm : x ∈ L b := List.mem_of_getElem? hx
  have hlx := h.lk b x hxm
  have hxlt : ∀ g ∈ x.a :: x.S, g < w.heap.size := fun g hg => h.lt g _ (hlx g hg)
  let lab' : Nat → Option Nat := fun g => if g < w.heap.size then (if g ∈ x.a :: x.S then none else lab g) else if g ∈ fpv v' then some (if b then 3 else 2) else if g ∈ y.a :: y.S then some (y.a + 4) else if g ∈ z.a :: z.S then some (z.a + 4) else none
  have hlab : ∀ g j, lab g = some j → j ≠ x.a + 4 → lab' g = some j := fun g j hg hj => by
    show (if g < w.heap.size then (if g ∈ x.a :: x.S then none else lab g) else _) = _
    rw [if_pos (h.lt g j hg), if_neg (fun hm => by rw [hlx g hm] at hg; injection hg with hg; exact hj hg.symm)]
    exact hg
  have hnew : ∀ g, w.heap.size ≤ g → lab' g = if g ∈ fpv v' then some (if b then 3 else 2) else if g ∈ y.a :: y.S then some (y.a + 4) else if g ∈ z.a :: z.S then some (z.a + 4) else none := fun g hg => if_neg (by omega)
  have hmv : ∀ g j, lab g = some j → j ≠ 1 → j ≠ (if b then 3 else 2) → w'.heap[g]? = w.heap[g]? := fun g j hg h1 h2 => hK.block g (h.lt g j hg) fun hmm => by
    rcases List.mem_cons.1 hmm with rfl | hmm
    · rw [h.l1] at hg; injection hg with hg; exact h1 hg.symm
    · rw [h.lv b g hmm] at hg; injection hg with hg; exact h2 hg.symm
  have hb4 : ∀ n : Nat, n + 4 ≠ (if b then 3 else 2) := fun n => by cases b <;> simp
  have hold : ∀ c, ∀ u ∈ L c, BkIn w' u.a u.k u.S := fun c u hu => (h.hk c u hu).of_blocks fun g hg => hmv g _ (h.lk c u hu g hg) (by omega) (hb4 _)
  have hne : ∀ c, ∀ u ∈ L c, w.heap.size ≤ u.a → False := fun c u hu hg => by have := h.lt _ _ (h.lk c u hu u.a (by simp)); omega
  have hynew := (hyn y.a (by simp)).1
  have hznew := (hzn z.a (by simp)).1
  have hyz : y.a ≠ z.a := fun e => (hyn y.a (by simp)).2.2 (by rw [e]; simp)
  have hmem : ∀ c, ∀ u ∈ (if c = b then replL (L b) i y z else L c), (c = b ∧ u = y) ∨ (c = b ∧ u = z) ∨ (u ∈ L c ∧ u.a ≠ x.a) := by
    intro c u hu
    by_cases hc : c = b
    · subst hc
      rw [if_pos rfl] at hu
      rcases mem_replL hu with hu | hu | ⟨j, hj, hju⟩
      · exact .inl ⟨rfl, hu⟩
      · exact .inr (.inl ⟨rfl, hu⟩)
      · exact .inr (.inr ⟨List.mem_of_getElem? hju, nodup_idx (h.nd c) hx hju hj⟩)
    · rw [if_neg hc] at hu
      refine .inr (.inr ⟨hu, ?_⟩)
      cases b <;> cases c <;> simp at hc
      · exact fun he => h.dj x hxm u hu he.symm
      · exact h.dj u hu x hxm
  refine ⟨lab', ⟨?_, hm, ?_, ?_, ?_, hlab _ _ h.l0 (by omega), hlab _ _ h.l1 (by omega), ?_, ?_, ?_, ?_⟩, ?_, ?_, ?_, ?_⟩
  · exact (hmv t 0 h.l0 (by omega) (by cases b <;> simp)).trans h.hh
  · intro c
    by_cases hc : c = b
    · subst hc
      simp only [if_pos, map_replL]
      exact ho
    · simp only [if_neg hc]
      exact (h.hv c).of_blocks fun g hg => hmv g _ (h.lv c g hg) (by cases c <;> simp) (by cases b <;> cases c <;> simp at hc ⊢)
  · intro c u hu
    rcases hmem c u hu with ⟨_, rfl⟩ | ⟨_, rfl⟩ | ⟨hu, _⟩
    · exact hy
    · exact hz
    · exact hold c u hu
  · intro g j hg
    by_cases hlt : g < w.heap.size
    · exact Nat.lt_of_lt_of_le hlt hK.size
    · rw [hnew g (by omega)] at hg
      split at hg
      · rename_i hs; exact ho.fp_lt g hs
      · split at hg
        · rename_i hs; exact hy.lt g hs
        · split at hg
          · rename_i hs; exact hz.lt g hs
          · cases hg
  · intro c g hg
    by_cases hc : c = b
    · subst hc
      simp only [if_pos] at hg
      rcases hf g hg with ho' | ho'
      · exact hlab _ _ (h.lv c g ho') (fun e => hb4 _ e.symm)
      · rw [hnew g ho', if_pos hg]
    · simp only [if_neg hc] at hg
      exact hlab _ _ (h.lv c g hg) (by cases c <;> simp <;> omega)
  · intro c u hu g hg
    rcases hmem c u hu with ⟨_, rfl⟩ | ⟨_, rfl⟩ | ⟨hu, hua⟩
    · obtain ⟨h1, h2, h3⟩ := hyn g hg
      rw [hnew g h1, if_neg h2, if_pos hg]
    · obtain ⟨h1, h2⟩ := hzn g hg
      rw [hnew g h1, if_neg h2, if_neg (fun hm => (hyn g hm).2.2 hg), if_pos hg]
    · exact hlab _ _ (h.lk c u hu g hg) (by omega)
  · intro c
    by_cases hc : c = b
    · subst hc
      simp only [if_pos, map_replL]
      refine nodup_replL (h.nd c) ?_ ?_ hyz
      · intro hm; obtain ⟨u, hu, he⟩ := List.mem_map.1 hm; exact hne c u hu (by rw [he]; exact hynew)
      · intro hm; obtain ⟨u, hu, he⟩ := List.mem_map.1 hm; exact hne c u hu (by rw [he]; exact hznew)
    · simp only [if_neg hc]
      exact h.nd c
  · intro u hu u' hu' he
    have key : ∀ c c', c ≠ c' → ∀ u ∈ (if c = b then replL (L b) i y z else L c), ∀ u' ∈ (if c' = b then replL (L b) i y z else L c'), u.a = u'.a → u ∈ L c ∧ u' ∈ L c' := by
      intro c c' hcc u hu u' hu' he
      rcases hmem c u hu with ⟨e1, rfl⟩ | ⟨e1, rfl⟩ | ⟨h1, _⟩ <;> rcases hmem c' u' hu' with ⟨e2, rfl⟩ | ⟨e2, rfl⟩ | ⟨h2, _⟩
      · exact absurd (e1.trans e2.symm) hcc
      · exact absurd (e1.trans e2.symm) hcc
      · exact (hne c' _ h2 (by rw [← he]; exact hynew)).elim
      · exact absurd (e1.trans e2.symm) hcc
      · exact absurd (e1.trans e2.symm) hcc
      · exact (hne c' _ h2 (by rw [← he]; exact hznew)).elim
      · exact (hne c _ h1 (by rw [he]; exact hynew)).elim
      · exact (hne c _ h1 (by rw [he]; exact hznew)).elim
      · exact ⟨h1, h2⟩
    obtain ⟨h1, h2⟩ := key false true (by simp) u hu u' hu' he
    exact h.dj u h1 u' h2 he
  · intro g hg hl
    show (if g < w.heap.size then (if g ∈ x.a :: x.S then none else lab g) else _) = _
    rw [if_pos hg, hl]
    split <;> rfl
  · intro g hg
    show (if g < w.heap.size then (if g ∈ x.a :: x.S then none else lab g) else _) = _
    rw [if_pos (hxlt g hg), if_pos hg]
  · exact KeepL.of_keeps hK fun g hg _ => by
      rcases List.mem_cons.1 hg with rfl | hg
      · rw [h.l1]; simp
      · rw [h.lv b g hg]; simp
  · exact hold b x hxm
end Go.Proofs.Tc
