import Derived.Test.YtjjnbanlofhhnaaGreatD3
namespace Go.Proofs.Tc
open Go.RowKit Go.Sort
attribute [local go_sem] stepO_0 stepO_1 stepO_2 stepO_3 stepV_0 stepV_1 stepV_2 stepV_3 stepV_5

theorem set_map_a {l : List Pl} {i : Nat} {x y : Pl} (hx : l[i]? = some x) (ha : y.a = x.a) : (l.set i y).map (·.a) = l.map (·.a) := by
  rw [List.map_set]
  apply List.ext_getElem?
  intro j
  rw [List.getElem?_set]
  by_cases hj : i = j
  · subst hj
    obtain ⟨hl, hx'⟩ := List.getElem?_eq_some_iff.1 hx
    simp [hl, hx', ha]
  · simp [hj]
theorem mem_set {α : Type} {l : List α} {i : Nat} {x y z : α} (hx : l[i]? = some x) (hz : z ∈ l.set i y) : z = y ∨ (z ∈ l ∧ ∃ j, j ≠ i ∧ l[j]? = some z) := by
  obtain ⟨j, hj, rfl⟩ := List.mem_iff_getElem.1 hz
  rw [List.length_set] at hj
  rw [List.getElem_set]
  by_cases h : i = j
  · simp [h]
  · rw [if_neg h]
    exact .inr ⟨List.getElem_mem _, j, fun h' => h h'.symm, List.getElem?_eq_getElem hj⟩
theorem nodup_idx {l : List Pl} (hn : (l.map (·.a)).Nodup) {i j : Nat} {x y : Pl} (hx : l[i]? = some x) (hy : l[j]? = some y) (hij : j ≠ i) : y.a ≠ x.a := by
  obtain ⟨hi, rfl⟩ := List.getElem?_eq_some_iff.1 hx
  obtain ⟨hj, rfl⟩ := List.getElem?_eq_some_iff.1 hy
  intro he
  have hp := List.pairwise_iff_getElem.1 hn
  rcases Nat.lt_or_gt_of_ne hij with hlt | hlt
  · exact hp j i (by simpa using hj) (by simpa using hi) hlt (by simpa using he)
  · exact hp i j (by simpa using hi) (by simpa using hj) hlt (by simpa using he.symm)

/-- Of a table one bucket has turned. -/
theorem TbIn.turn {w w' : World} {t : Nat} {own : ByteArray} {now : Int} {lab : Nat → Option Nat} {m : Nat} {v : Bool → Value} {L : Bool → List Pl} (h : TbIn w t own now lab m v L) {b : Bool} {i : Nat} {x : Pl} (hx : (L b)[i]? = some x) {k' : Bk} (hT : BkTurn w x.a x.S k' w') :
    ∃ lab' S', TbIn w' t own now lab' m v (fun c => if c = b then (L b).set i ⟨x.a, k', S'⟩ else L c) ∧ (∀ g, g < w.heap.size → lab' g = lab g) ∧ KeepL lab w w' := by
  obtain ⟨S', hB, hK, hS⟩ := hT
  have hxm : x ∈ L b := List.mem_of_getElem? hx
  have hbk := h.hk b x hxm
  have hlx := h.lk b x hxm
  let lab' : Nat → Option Nat := fun g => if g < w.heap.size then lab g else if g ∈ S' then some (x.a + 4) else none
  have hold : ∀ g, g < w.heap.size → lab' g = lab g := fun g hg => if_pos hg
  have hlab : ∀ g i, lab g = some i → lab' g = some i := fun g i hg => (hold g (h.lt g i hg)).trans hg
  have hne : ∀ g i, lab g = some i → i ≠ x.a + 4 → g ∉ x.a :: x.S := fun g i hg hi hm => by
    have := hlx g hm
    rw [hg] at this
    exact hi (by simpa using this)
  have hkeep : ∀ g i, lab g = some i → i ≠ x.a + 4 → w'.heap[g]? = w.heap[g]? := fun g i hg hi => hK.block g (h.lt g i hg) (hne g i hg hi)
  have hSl : ∀ g ∈ x.a :: S', lab' g = some (x.a + 4) := by
    intro g hg
    rcases List.mem_cons.1 hg with rfl | hg
    · exact hlab _ _ (hlx _ (by simp))
    · rcases hS g hg with hs | hs
      · exact hlab _ _ (hlx _ (List.mem_cons_of_mem _ hs))
      · show (if g < w.heap.size then lab g else if g ∈ S' then some (x.a + 4) else none) = _
        rw [if_neg (by omega), if_pos hg]
  have hother : ∀ c, ∀ y ∈ L c, y.a ≠ x.a → BkIn w' y.a y.k y.S := fun c y hy hya =>
    (h.hk c y hy).of_blocks fun g hg => hkeep g _ (h.lk c y hy g hg) (by omega)
  have hmem : ∀ c, ∀ y ∈ (if c = b then (L b).set i ⟨x.a, k', S'⟩ else L c), (y = ⟨x.a, k', S'⟩) ∨ (y ∈ L c ∧ y.a ≠ x.a) := by
    intro c y hy
    by_cases hc : c = b
    · subst hc
      rw [if_pos rfl] at hy
      rcases mem_set hx hy with hy | ⟨hy, j, hj, hjy⟩
      · exact .inl hy
      · exact .inr ⟨hy, nodup_idx (h.nd c) hx hjy hj⟩
    · rw [if_neg hc] at hy
      refine .inr ⟨hy, ?_⟩
      cases b <;> cases c <;> simp at hc
      · exact fun he => h.dj x hxm y hy he.symm
      · exact h.dj y hy x hxm
  have hmapa : ∀ c, ((if c = b then (L b).set i ⟨x.a, k', S'⟩ else L c)).map (·.a) = (L c).map (·.a) := by
    intro c
    by_cases hc : c = b
    · subst hc; rw [if_pos rfl]; exact set_map_a hx rfl
    · rw [if_neg hc]
  refine ⟨lab', S', ⟨?_, ?_, ?_, ?_, ?_, hlab _ _ h.l0, hlab _ _ h.l1, fun c g hg => hlab _ _ (h.lv c g hg), ?_, fun c => by rw [hmapa c]; exact h.nd c, ?_⟩, hold, ?_⟩
  · exact (hkeep t 0 h.l0 (by omega)).trans h.hh
  · exact (hkeep m 1 h.l1 (by omega)).trans h.hm
  · intro c
    rw [hmapa c]
    exact (h.hv c).of_blocks fun g hg => hkeep g _ (h.lv c g hg) (by cases c <;> simp <;> omega)
  · intro c y hy
    rcases hmem c y hy with rfl | ⟨hy, hya⟩
    · exact hB
    · exact hother c y hy hya
  · intro g j hg
    by_cases hlt : g < w.heap.size
    · exact Nat.lt_of_lt_of_le hlt hK.size
    · have : (if g < w.heap.size then lab g else if g ∈ S' then some (x.a + 4) else none) = some j := hg
      rw [if_neg hlt] at this
      split at this
      · rename_i hs
        exact hB.lt g (List.mem_cons_of_mem _ hs)
      · cases this
  · intro c y hy g hg
    rcases hmem c y hy with rfl | ⟨hy, hya⟩
    · exact hSl g hg
    · exact hlab _ _ (h.lk c y hy g hg)
  · intro y hy z hz
    have h1 : y.a ∈ (L false).map (·.a) := by rw [← hmapa false]; exact List.mem_map.2 ⟨y, hy, rfl⟩
    have h2 : z.a ∈ (L true).map (·.a) := by rw [← hmapa true]; exact List.mem_map.2 ⟨z, hz, rfl⟩
    obtain ⟨y', hy', hya⟩ := List.mem_map.1 h1
    obtain ⟨z', hz', hza⟩ := List.mem_map.1 h2
    rw [← hya, ← hza]
    exact h.dj y' hy' z' hz'
  · exact KeepL.of_keeps hK fun g hg _ => by rw [hlx g hg]; simp
end Go.Proofs.Tc
