import Derived.Test.YtjjnbanlofhhnaaGreatC7
namespace Go.Proofs.Tc
open Go.RowKit Go.Sort
attribute [local go_sem] stepO_0 stepO_1 stepO_2 stepO_3 stepV_0 stepV_1 stepV_2 stepV_3 stepV_5

def notedF (now : Int) (e : Ent) (ans : Bool) : Ent := if ans then { e with an := now, fl := 0 } else { e with ak := now }
theorem noted_calls (w : World) (t : Nat) (now : Int) (e : Ent) (ans : Bool) (ht : w.cell? ⟨t, 1, none⟩ = some (.int .i64 now)) :
    Calls Tryz.prog 32 #[.pointer (some ⟨t, 0, none⟩), entV e, .bool ans] w (Ret w (entV (notedF now e ans))) := by
  cases ans with
  | true => exact noted_yes w t now _ _ _ _ _ _ _ _ ht
  | false => exact noted_no w t now _ _ _ _ _ _ _ _ ht

def replB (k : Bk) (i : Nat) (e : Ent) : Bk := { k with ents := delF k.ents i ++ [e] }
/-- What a table makes of a node that it knows. -/
def knownF (now : Int) (k : Bk) (n : Nd) (ans : Bool) : Option Bk :=
  match k.ents.findIdx? (fun e => decide (e.nd = n)) with
  | some i => some { k with ents := k.ents.modify i (notedF now · ans), ch := now }
  | none => match k.spare.findIdx? (fun e => decide (e.nd = n)) with
    | some s => match ans, (worstF k.ents) with
      | true, .ofNat x => match k.spare[s]? with
        | some e => some { replB k x (notedF now e ans) with spare := delF k.spare s, ch := now }
        | none => none
      | _, _ => some { k with spare := k.spare.modify s (notedF now · ans), ch := now }
    | none => none
theorem idxF_some {α : Type} {p : α → Bool} {l : List α} {i : Nat} (h : l.findIdx? p = some i) : idxF p l = i := by simp [idxF, h]
theorem idxF_no {α : Type} {p : α → Bool} {l : List α} (h : l.findIdx? p = none) : idxF p l = -1 := by simp [idxF, h]
theorem findIdx_lt {α : Type} {p : α → Bool} {l : List α} {i : Nat} (h : l.findIdx? p = some i) : i < l.length := by
  rw [List.findIdx?_eq_some_iff_getElem] at h; exact h.1

theorem modify_set {α : Type} {l : List α} {i : Nat} {x : α} (f : α → α) (h : l[i]? = some x) : l.modify i f = l.set i (f x) := by
  apply List.ext_getElem?
  intro j
  rw [List.getElem?_modify, List.getElem?_set]
  by_cases hj : i = j
  · subst hj
    obtain ⟨hl, hx⟩ := List.getElem?_eq_some_iff.1 h
    simp [hl, hx]
  · simp [hj]
theorem putEnt_own {w : World} {v : Value} {es : List Ent} (h : OwnE w v es) {g k : Nat} (e : Ent) (hg : g ∉ fpv v) : OwnE (putEnt w g k e) v es := by
  unfold putEnt
  exact (((((((h.setO _ hg).setO _ hg).setO _ hg).setO _ hg).setO _ hg).setO _ hg).setO _ hg).setO _ hg
theorem putEnt_heap {w : World} {g k b : Nat} (e : Ent) (h : b ≠ g) : (putEnt w g k e).heap[b]? = w.heap[b]? := by
  have hh : ∀ (W : World) (i : Nat) (v : Value), (W.setCell ⟨g, i, none⟩ v).heap[b]? = W.heap[b]? := fun W i v => Below.heap_setCell W ⟨g, i, none⟩ v b h
  unfold putEnt
  simp only [hh]

theorem delete_calls' (w : World) (g cap : Nat) (es : List Ent) (n i : Nat) (hn : es.length = n) (hi : i < n) (ho : Own w 60 8 (.slice (some ⟨g, 0, none⟩) n (cap + 1)) n (evs es)) (hm : n * 80 ≤ 140737488355328) :
    Calls Tryz.prog 35 #[.slice (some ⟨g, 0, none⟩) n (cap + 1), .int .i64 i, .int .i64 ((i : Int) + 1)] w fun e w' =>
      e = .returned (.slice (some ⟨g, 0, none⟩) (n - 1) (cap + 1)) ∧ Own w' 60 8 (.slice (some ⟨g, 0, none⟩) (n - 1) (cap + 1)) (n - 1) (evs (delF es i)) ∧ Keeps [g] w w' := by
  subst hn
  refine (delete_calls w g cap es i hi ho hm).mono fun e w' h => ⟨h.1, ?_, h.2.2⟩
  have h2 := h.2.1
  unfold OwnE at h2
  have hl : (delF es i).length = es.length - 1 := by simp [delF]; omega
  rw [hl] at h2
  exact h2
theorem delF_length {α : Type} {l : List α} {i : Nat} (h : i < l.length) : (delF l i).length = l.length - 1 := by simp [delF]; omega
theorem stepV_3h {P : Program} {ops : Array Oper} {V : World → Prop} {o : Oper} {a : Act} {w : World} {N : Act → World → Prop} (hg : o.guard = none) (h : o.wp P a w N NoExit) : stepV P ops V o 3 a w N := by
  rw [stepV_3, if_pos (by simp [Region.wanted, hg])]; exact h
theorem wpT_room {P : Program} {w : World} {t e : TypeId} {size bytes : Nat} {z : Value} {o : Oper} {a : Act} {ops : Array Oper} {V : World → Prop} {rest : List (List (Oper × Nat))} {Q : Exit → Act → World → Prop} (hgd : o.guard = none) {s x : Operand}
    (ho : o.op = .call { callee := .builtin .append, args := #[s, x], argTypes := #[t, t] }) (T : ElemT P t e size bytes z)
    {g n cap : Nat} {xs : List Value} (hs : a.eval s = .slice (some ⟨g, 0, none⟩) n (cap + 1)) (hown : Own w e size (.slice (some ⟨g, 0, none⟩) n (cap + 1)) n xs)
    {ad : Addr} {m c : Nat} (news : List Value) (hx : a.eval x = .slice (some ad) m c) (hl : news.length = m * size) (hnews : ∀ j u, news[j]? = some u → w.cell? (ad.add j) = some u) (h1 : ∀ u ∈ news, u.oneCell' = true)
    (hroom : n + m ≤ cap + 1)
    (h : ∀ w', Own w' e size (.slice (some ⟨g, 0, none⟩) (n + m) (cap + 1)) (n + m) (xs ++ news) → Keeps [g] w w' → w'.heap.size = w.heap.size → wpT P ops V Q rest (a.put o.dst (.slice (some ⟨g, 0, none⟩) (n + m) (cap + 1))) w') : wpT P ops V Q ([(o, 3)] :: rest) a w := by
  refine stepV_3h (V := V) hgd ?_
  obtain ⟨w', hr, h2, h3, h4⟩ := own_room o.type T hown ad m c news hl hnews h1 hroom
  unfold Oper.wp execOp
  simp only [ho, resolve, invoke, builtin, Sem.run_bind, Sem.run_pure, Result.andThen_ok, List.map_toArray, List.map_cons, List.map_nil, hs, hx, hr]
  exact h w' h2 h3 h4

theorem new_cells (w : World) (l : List Value) (t : TypeId) : ∀ j u, l[j]? = some u → (w.alloc (.cells l.toArray t)).cell? ((⟨w.heap.size, 0, none⟩ : Addr).add j) = some u := by
  intro j u hu
  rw [show (⟨w.heap.size, 0, none⟩ : Addr).add j = ⟨w.heap.size, j, none⟩ by unfold Addr.add; split <;> simp_all]
  have h : (w.alloc (.cells l.toArray t)).heap[w.heap.size]? = some (.cells l.toArray t (0, 0)) := heap_alloc_new w _
  unfold World.cell?
  rw [h]
  simpa using hu

set_option maxRecDepth 100000 in
set_option maxHeartbeats 1000000 in
theorem known_calls (w : World) (tb b : Nat) (now : Int) (k : Bk) (S : List Nat) (n : Nd) (ans : Bool) (ht : w.cell? ⟨tb, 1, none⟩ = some (.int .i64 now)) (htb : tb ∉ b :: S) (hk : BkIn w b k S)
    (hm1 : k.ents.length * 80 ≤ 140737488355328) (hm2 : k.spare.length * 80 ≤ 140737488355328) :
    Calls Tryz.prog 30 #[.pointer (some ⟨tb, 0, none⟩), .pointer (some ⟨b, 0, none⟩), ndV n, .bool ans] w fun e w' =>
      (knownF now k n ans = none ∧ e = .returned (.bool false) ∧ Below w.heap.size w w') ∨ (∃ k', knownF now k n ans = some k' ∧ e = .returned (.bool true) ∧ BkTurn w b S k' w') := by
  obtain ⟨ve, vs, hh, hve, hvs, rfl, hnd⟩ := hk
  have lt : b < w.heap.size := (Array.getElem?_eq_some_iff.1 hh).1
  have ltt := World.block_lt_of_cell? w _ ht
  simp only at ltt
  have hb : b ∉ fpv ve ++ fpv vs := (List.nodup_cons.1 hnd).1
  obtain ⟨hnd1, hnd2, hdis⟩ := List.nodup_append.1 (List.nodup_cons.1 hnd).2
  have hbe : b ∉ fpv ve := fun h => hb (List.mem_append.2 (.inl h))
  have hbs : b ∉ fpv vs := fun h => hb (List.mem_append.2 (.inr h))
  obtain ⟨c0, c1, c2, c3, c4⟩ := cells5 hh
  have HH := Lib.hid hh
  have HE := Lib.hid hve
  have HS := Lib.hid hvs
  have HD := Lib.hid hdis
  clear hve hvs hh hnd hb hdis
  unfold ndV
  go_enter Tryz.func30, Tryz.ntmps30
  go_wp2
  refine wp_region_ord [(0,0),(1,0),(2,0),(3,1),(4,1),(6,0),(7,0),(8,0),(9,1),(10,1),(5,2),(11,2),(12,0),(13,0)] (by kernel_rfl) (by kernel_rfl) ?_
  simp only [pickO, List.map_cons, List.map_nil, List.getD_cons_zero, List.getD_cons_succ]
  repeat (first | ((with_reducible refine wpO_skip ?_ ?_); rfl; simp only [Act.put, List.setIfInBounds_toArray, List.set_cons_zero, List.set_cons_succ]) | ((with_reducible refine wpO_step (fun K hK => ?_)); go_simp; (try go_bits); (first | (with_reducible refine hK _ _ ?_) | (simp only [IntWalk.iteOmega]; go_simp; (try go_bits); (with_reducible refine hK _ _ ?_))); clear hK K))
  (with_reducible refine wpO_step (fun K hK => ?_)); go_simp; (try go_bits)
  obtain ⟨W0, hW0⟩ : ∃ W0, (w.alloc (.cells #[.string n.id, .int .i64 n.fam, .string n.ip, .int .i64 n.port] 33)).drew = W0 := ⟨_, rfl⟩
  have hB0 : Below w.heap.size w W0 := by rw [← hW0]; exact (below_new (Below.refl _ w) _).drew
  rw [hW0]
  refine (index_calls W0 ve k.ents n (HE.out.ext hB0)).mono ?_; rintro e1 w1 ⟨rfl, hb1⟩
  refine ⟨by first | exact hb1 | exact hb1.mono (by rw [← hW0]; simp), ?_⟩
  (with_reducible refine hK _ _ ?_); clear hK K
  have hB1 : Below w.heap.size w w1 := below_ext hB0 hb1
  have c3' := (hB1.cell (p := ⟨b, 3, none⟩) (by exact lt)).trans c3
  repeat (first | ((with_reducible refine wpO_skip ?_ ?_); rfl; simp only [Act.put, List.setIfInBounds_toArray, List.set_cons_zero, List.set_cons_succ]) | ((with_reducible refine wpO_step (fun K hK => ?_)); go_simp; (try go_bits); (first | (with_reducible refine hK _ _ ?_) | (simp only [IntWalk.iteOmega]; go_simp; (try go_bits); (with_reducible refine hK _ _ ?_))); clear hK K))
  (with_reducible refine wpO_step (fun K hK => ?_)); go_simp; (try go_bits)
  refine (index_calls w1 vs k.spare n (HS.out.ext hB1)).mono ?_; rintro e2 w2 ⟨rfl, hb2⟩
  refine ⟨hb2, ?_⟩
  (with_reducible refine hK _ _ ?_); clear hK K
  repeat (first | ((with_reducible refine wpO_skip ?_ ?_); rfl; simp only [Act.put, List.setIfInBounds_toArray, List.set_cons_zero, List.set_cons_succ]) | ((with_reducible refine wpO_step (fun K hK => ?_)); go_simp; (try go_bits); (first | (with_reducible refine hK _ _ ?_) | (simp only [IntWalk.iteOmega]; go_simp; (try go_bits); (with_reducible refine hK _ _ ?_))); clear hK K))
  (with_reducible refine wpO_nil ?_)
  have hB2 : Below w.heap.size w w2 := below_ext hB1 hb2
  have hh2 := (hB2.block b lt).trans HH.out
  have ht2 := (hB2.cell (p := ⟨tb, 1, none⟩) (by exact ltt)).trans ht
  have hve2 := HE.out.ext hB2
  have hvs2 := HS.out.ext hB2
  have lt2 : b < w2.heap.size := Nat.lt_of_lt_of_le lt hB2.size
  have ltt2 : tb < w2.heap.size := Nat.lt_of_lt_of_le ltt hB2.size
  clear c0 c1 c2 c3 c4 c3' ht hb1 hb2 hB0 hB1 hW0
  obtain ⟨c0, c1, c2, c3, c4⟩ := cells5 hh2
  have HH2 := Lib.hid hh2
  have HE2 := Lib.hid hve2
  have HS2 := Lib.hid hvs2
  clear hh2 hve2 hvs2 HE HS HH
  cases h1 : k.ents.findIdx? (fun e => decide (e.nd = n)) with
  | some i =>
    rw [idxF_some h1]
    obtain ⟨e, he⟩ : ∃ e, k.ents[i]? = some e := ⟨_, List.getElem?_eq_getElem (findIdx_lt h1)⟩
    have hil : i < k.ents.length := findIdx_lt h1
    obtain ⟨g, cap, rfl, hle, hcm, hfp, _⟩ := HE2.out.row (by omega)
    have HF : Hid (knownF now k n ans = some { k with ents := k.ents.set i (notedF now e ans), ch := now }) := by show _ = _; unfold knownF; rw [h1, ← modify_set (notedF now · ans) he]
    obtain ⟨a0, a1, a2, a3, a4, a5, a6, a7⟩ := OwnE.at HE2.out he
    have lt3 := World.block_lt_of_cell? w2 _ a0
    simp only at lt3
    have hgb : b ≠ g := fun h => hbe (by rw [hfp, h]; simp)
    have hgt : tb ≠ g := fun h => htb (by rw [hfp, h]; simp)
    have hgs : g ∉ fpv vs := fun h => HD.out g (by rw [hfp]; simp) g h rfl
    clear h1 he
    go_wp2_with fail
    refine wp_region_ord [(0,0),(1,0),(2,0),(3,1),(4,0),(5,0),(6,0),(7,0),(8,0),(9,1),(10,0),(11,0),(12,1),(13,0),(14,2),(15,0),(16,3)] (by kernel_rfl) (by kernel_rfl) ?_
    simp only [pickO, List.map_cons, List.map_nil, List.getD_cons_zero, List.getD_cons_succ]
    repeat (first | ((with_reducible refine wpO_skip ?_ ?_); rfl; simp only [Act.put, List.setIfInBounds_toArray, List.set_cons_zero, List.set_cons_succ]) | ((with_reducible refine wpO_step (fun K hK => ?_)); go_simp; (try go_bits); (first | (with_reducible refine hK _ _ ?_) | (simp only [IntWalk.iteOmega]; go_simp; (try go_bits); (with_reducible refine hK _ _ ?_))); clear hK K))
    (with_reducible refine wpO_step (fun K hK => ?_)); go_simp; (try go_bits)
    refine (noted_calls w2.drew tb now e ans ht2).mono ?_; rintro e3 w3 ⟨rfl, hb3⟩
    refine ⟨hb3, ?_⟩
    (with_reducible refine hK _ _ ?_); clear hK K
    have hB3 : Below w2.heap.size w2 w3 := (Below.refl _ w2).drew.trans hb3
    have hE3 := HE2.out.ext hB3
    have hfr : ∀ j, j < 8 → w3.frozen? ⟨g, i * 8 + j, none⟩ = false := fun j hj => hE3.frozen (by omega)
    have f0 := hfr 0 (by omega); have f1 := hfr 1 (by omega); have f2 := hfr 2 (by omega); have f3 := hfr 3 (by omega)
    have f4 := hfr 4 (by omega); have f5 := hfr 5 (by omega); have f6 := hfr 6 (by omega); have f7 := hfr 7 (by omega)
    rw [Nat.add_zero] at f0
    have hh3 := (hB3.block b lt2).trans HH2.out
    have ht3 := (hB3.cell (p := ⟨tb, 1, none⟩) (by exact ltt2)).trans ht2
    have b0 := (hB3.cell (p := ⟨g, i * 8, none⟩) (by exact lt3)).trans a0
    have b1 := (hB3.cell (p := ⟨g, i * 8 + 1, none⟩) (by exact lt3)).trans a1
    have b2 := (hB3.cell (p := ⟨g, i * 8 + 2, none⟩) (by exact lt3)).trans a2
    have b3 := (hB3.cell (p := ⟨g, i * 8 + 3, none⟩) (by exact lt3)).trans a3
    have b4 := (hB3.cell (p := ⟨g, i * 8 + 4, none⟩) (by exact lt3)).trans a4
    have b5 := (hB3.cell (p := ⟨g, i * 8 + 5, none⟩) (by exact lt3)).trans a5
    have b6 := (hB3.cell (p := ⟨g, i * 8 + 6, none⟩) (by exact lt3)).trans a6
    have b7 := (hB3.cell (p := ⟨g, i * 8 + 7, none⟩) (by exact lt3)).trans a7
    clear a0 a1 a2 a3 a4 a5 a6 a7 c0 c1 c2 c3 c4 ht2
    obtain ⟨c0, c1, c2, c3, c4⟩ := cells5 hh3
    have u4 := unfrozen0 hh3 4
    have HH3 := Lib.hid hh3
    have HE3 := Lib.hid hE3
    have HS3 := Lib.hid (HS2.out.ext hB3)
    clear hh3 hE3 hfr
    obtain ⟨e', he'⟩ : ∃ e', notedF now e ans = e' := ⟨_, rfl⟩
    rw [he'] at HF ⊢
    simp only [entV]
    repeat (first | ((with_reducible refine wpO_skip ?_ ?_); rfl; simp only [Act.put, List.setIfInBounds_toArray, List.set_cons_zero, List.set_cons_succ]) | ((with_reducible refine wpO_step (fun K hK => ?_)); go_simp; (try go_bits); (first | (with_reducible refine hK _ _ ?_) | (simp only [IntWalk.iteOmega]; go_simp; (try go_bits); (with_reducible refine hK _ _ ?_))); clear hK K))
    (with_reducible refine wpO_nil ?_)
    go_wp2
    go_ret
    refine .inr ⟨_, HF.out, rfl, ?_⟩
    refine BkTurn.make (k' := { k with ents := k.ents.set i e', ch := now }) (v1 := .slice (some ⟨g, 0, none⟩) k.ents.length (cap + 1)) (v2 := vs) (set_c _ ((putEnt_heap e' hgb).trans HH3.out)) ?_ ((putEnt_own HS3.out e' hgs).setO _ hbs) ?_ (nodup3 hbe hbs (fun g h1 h2 => HD.out g h1 g h2 rfl)) ?_
    · unfold OwnE
      rw [List.length_set]
      exact (OwnE.put HE3.out e' hil).setO _ hbe
    · intro g' hg'
      exact .inl (List.mem_append.2 hg')
    · refine (((hB2.keep).trans (hB3.keep)).trans ((putEnt_keeps w3 g i e').mono (fun x hx _ => ?_))).setCell _ (.inl (by simp))
      rw [hfp]
      simp only [List.mem_singleton] at hx
      simp [hx]
  | none =>
    rw [idxF_no h1]
    cases h2 : k.spare.findIdx? (fun e => decide (e.nd = n)) with
    | none =>
      rw [idxF_no h2]
      have HF : Hid (knownF now k n ans = none) := by show _ = _; unfold knownF; rw [h1]; simp only [h2]
      clear h1 h2
      go_wp2
      go_ret
      exact .inl ⟨HF.out, rfl, hB2⟩
    | some s =>
      rw [idxF_some h2]
      obtain ⟨e, he⟩ : ∃ e, k.spare[s]? = some e := ⟨_, List.getElem?_eq_getElem (findIdx_lt h2)⟩
      have hil : s < k.spare.length := findIdx_lt h2
      obtain ⟨g, cap, rfl, hle, hcm, hfp, _⟩ := HS2.out.row (by omega)
      obtain ⟨a0, a1, a2, a3, a4, a5, a6, a7⟩ := OwnE.at HS2.out he
      have lt3 := World.block_lt_of_cell? w2 _ a0
      simp only at lt3
      have hgb : b ≠ g := fun h => hbs (by rw [hfp, h]; simp)
      have hgt : tb ≠ g := fun h => htb (by rw [hfp, h]; simp)
      have hge : g ∉ fpv ve := fun h => HD.out g h g (by rw [hfp]; simp) rfl
      have HF : Hid (knownF now k n ans = match ans, (worstF k.ents) with
        | true, .ofNat x => some { replB k x (notedF now e ans) with spare := delF k.spare s, ch := now }
        | _, _ => some { k with spare := k.spare.set s (notedF now e ans), ch := now }) := by
        show _ = _; unfold knownF; rw [h1]; simp only [h2, he, ← modify_set (notedF now · ans) he]
      clear h1 h2 he
      go_wp2_with fail
      refine wp_region_ord [(0,0),(1,0),(2,0),(3,1),(4,0),(5,0),(6,0),(7,0),(8,0),(9,1),(10,0),(11,0),(12,1),(13,0),(14,2),(15,0),(16,3)] (by kernel_rfl) (by kernel_rfl) ?_
      simp only [pickO, List.map_cons, List.map_nil, List.getD_cons_zero, List.getD_cons_succ]
      repeat (first | ((with_reducible refine wpO_skip ?_ ?_); rfl; simp only [Act.put, List.setIfInBounds_toArray, List.set_cons_zero, List.set_cons_succ]) | ((with_reducible refine wpO_step (fun K hK => ?_)); go_simp; (try go_bits); (first | (with_reducible refine hK _ _ ?_) | (simp only [IntWalk.iteOmega]; go_simp; (try go_bits); (with_reducible refine hK _ _ ?_))); clear hK K))
      (with_reducible refine wpO_step (fun K hK => ?_)); go_simp; (try go_bits)
      refine (noted_calls w2.drew tb now e ans ht2).mono ?_; rintro e3 w3 ⟨rfl, hb3⟩
      refine ⟨hb3, ?_⟩
      (with_reducible refine hK _ _ ?_); clear hK K
      have hB3 : Below w2.heap.size w2 w3 := (Below.refl _ w2).drew.trans hb3
      have hE3 := HS2.out.ext hB3
      have hfr : ∀ j, j < 8 → w3.frozen? ⟨g, s * 8 + j, none⟩ = false := fun j hj => hE3.frozen (by omega)
      have f0 := hfr 0 (by omega); have f1 := hfr 1 (by omega); have f2 := hfr 2 (by omega); have f3 := hfr 3 (by omega)
      have f4 := hfr 4 (by omega); have f5 := hfr 5 (by omega); have f6 := hfr 6 (by omega); have f7 := hfr 7 (by omega)
      rw [Nat.add_zero] at f0
      have hh3 := (hB3.block b lt2).trans HH2.out
      have ht3 := (hB3.cell (p := ⟨tb, 1, none⟩) (by exact ltt2)).trans ht2
      have b0 := (hB3.cell (p := ⟨g, s * 8, none⟩) (by exact lt3)).trans a0
      have b1 := (hB3.cell (p := ⟨g, s * 8 + 1, none⟩) (by exact lt3)).trans a1
      have b2 := (hB3.cell (p := ⟨g, s * 8 + 2, none⟩) (by exact lt3)).trans a2
      have b3 := (hB3.cell (p := ⟨g, s * 8 + 3, none⟩) (by exact lt3)).trans a3
      have b4 := (hB3.cell (p := ⟨g, s * 8 + 4, none⟩) (by exact lt3)).trans a4
      have b5 := (hB3.cell (p := ⟨g, s * 8 + 5, none⟩) (by exact lt3)).trans a5
      have b6 := (hB3.cell (p := ⟨g, s * 8 + 6, none⟩) (by exact lt3)).trans a6
      have b7 := (hB3.cell (p := ⟨g, s * 8 + 7, none⟩) (by exact lt3)).trans a7
      clear a0 a1 a2 a3 a4 a5 a6 a7 c0 c1 c2 c3 c4 ht2
      have HH3 := Lib.hid hh3
      have HE3 := Lib.hid (HE2.out.ext hB3)
      have HS3 := Lib.hid hE3
      have HT3 := Lib.hid ht3
      clear hh3 hE3 hfr
      obtain ⟨e', he'⟩ : ∃ e', notedF now e ans = e' := ⟨_, rfl⟩
      rw [he'] at HF ⊢
      simp only [entV]
      repeat (first | ((with_reducible refine wpO_skip ?_ ?_); rfl; simp only [Act.put, List.setIfInBounds_toArray, List.set_cons_zero, List.set_cons_succ]) | ((with_reducible refine wpO_step (fun K hK => ?_)); go_simp; (try go_bits); (first | (with_reducible refine hK _ _ ?_) | (simp only [IntWalk.iteOmega]; go_simp; (try go_bits); (with_reducible refine hK _ _ ?_))); clear hK K))
      (with_reducible refine wpO_nil ?_)
      obtain ⟨w4, hw4⟩ : ∃ w4, putEnt w3 g s e' = w4 := ⟨_, rfl⟩
      have hh4 : w4.heap[b]? = some (.cells #[.string k.pre, .int .i64 k.bits, ve, .slice (some ⟨g, 0, none⟩) k.spare.length (cap + 1), .int .i64 k.ch] 85 (0, 0)) := by rw [← hw4]; exact (putEnt_heap e' hgb).trans HH3.out
      have hE4 : OwnE w4 ve k.ents := by rw [← hw4]; exact putEnt_own HE3.out e' hge
      have hS4 : Own w4 60 8 (.slice (some ⟨g, 0, none⟩) k.spare.length (cap + 1)) k.spare.length (evs (k.spare.set s e')) := by rw [← hw4]; exact OwnE.put HS3.out e' hil
      have ht4 : w4.cell? ⟨tb, 1, none⟩ = some (.int .i64 now) := by rw [← hw4]; exact (World.cell?_of_block (a := ⟨tb, 1, none⟩) (putEnt_heap e' hgt)).trans HT3.out
      have hK4 : Keeps [g] w w4 := by rw [← hw4]; exact ((hB2.keep).trans (hB3.keep)).trans (putEnt_keeps w3 g s e')
      unfold putEnt at hw4
      rw [hw4]
      clear b0 b1 b2 b3 b4 b5 b6 b7 f0 f1 f2 f3 f4 f5 f6 f7 ht3 hw4
      have lt4 : b < w4.heap.size := (Array.getElem?_eq_some_iff.1 hh4).1
      obtain ⟨c0, c1, c2, c3, c4⟩ := cells5 hh4
      go_wp2_with fail
      refine (worst_calls w4 tb b now ve k.ents ht4 c2 hE4).mono ?_; rintro e5 w5 ⟨rfl, hb5⟩
      have hh5 := (hb5.block b lt4).trans hh4
      have hE5 := hE4.ext hb5
      have hS5 := hS4.ext hb5
      have hK5 : Keeps [g] w w5 := hK4.trans hb5.keep
      have ltt4 := World.block_lt_of_cell? w4 _ ht4
      simp only at ltt4
      have ht5 := (hb5.cell (p := ⟨tb, 1, none⟩) (by exact ltt4)).trans ht4
      clear ht4 c0 c1 c2 c3 c4 hE4 hS4 hK4
      obtain ⟨hq1, hq2⟩ := worstUp_bounds k.ents k.ents.length
      have lt5 : b < w5.heap.size := (Array.getElem?_eq_some_iff.1 hh5).1
      obtain ⟨c0, c1, c2, c3, c4⟩ := cells5 hh5
      have u3 := unfrozen0 hh5 3
      have u4 := unfrozen0 hh5 4
      have HH5 := Lib.hid hh5
      have HE5 := Lib.hid hE5
      have HS5 := Lib.hid hS5
      clear hh5 hE5 hS5 hh4
      have keepOnly : ∀ w' : World, w' = w5.setCell ⟨b, 4, none⟩ (.int .i64 now) → BkTurn w b (fpv ve ++ fpv (.slice (some ⟨g, 0, none⟩) k.spare.length (cap + 1))) { k with spare := k.spare.set s e', ch := now } w' := by
        rintro w' rfl
        refine BkTurn.make (k' := { k with spare := k.spare.set s e', ch := now }) (v1 := ve) (v2 := .slice (some ⟨g, 0, none⟩) k.spare.length (cap + 1)) (set_c _ HH5.out) (HE5.out.setO _ hbe) ?_ ?_ (nodup3 hbe hbs (fun g h1 h2 => HD.out g h1 g h2 rfl)) ?_
        · unfold OwnE
          rw [List.length_set]
          exact HS5.out.setO _ hbs
        · intro g' hg'
          exact .inl (List.mem_append.2 hg')
        · refine (hK5.mono (fun x hx _ => ?_)).setCell _ (.inl (by simp))
          simp only [List.mem_singleton] at hx
          simp [hx, fpv]
      change -1 ≤ worstF k.ents at hq1
      change worstF k.ents < _ at hq2
      cases ans with
      | false =>
        have HG : Hid (knownF now k n false = some { k with spare := k.spare.set s e', ch := now }) := by rw [HF.out]; rfl
        have HKO := Lib.hid keepOnly
        clear keepOnly HF
        go_wp2
        go_ret
        exact .inr ⟨_, HG.out, rfl, HKO.out _ rfl⟩
      | true =>
        cases hq : worstF k.ents with
        | negSucc x =>
          have HG : Hid (knownF now k n true = some { k with spare := k.spare.set s e', ch := now }) := by rw [HF.out, hq]; rfl
          have HKO := Lib.hid keepOnly
          have hx : x = 0 := by omega
          subst hx
          clear keepOnly HF hq
          go_wp2
          go_ret
          exact .inr ⟨_, HG.out, rfl, HKO.out _ rfl⟩
        | ofNat x =>
          have HG : Hid (knownF now k n true = some { replB k x e' with spare := delF k.spare s, ch := now }) := by rw [HF.out, hq]; rfl
          have hxl : x < k.ents.length := by rw [hq] at hq2; simpa using hq2
          clear keepOnly HF hq hq1 hq2
          rw [Int.ofNat_eq_natCast]
          obtain ⟨ge, cape, rfl, hlee, hcme, hfpe, _⟩ := HE5.out.row (by omega)
          have hbge : b ≠ ge := fun h => hbe (by rw [hfpe, h]; simp)
          have hgge : g ≠ ge := fun h => hge (by rw [hfpe, h]; simp)
          have hls : (k.spare.set s e').length = k.spare.length := List.length_set
          obtain ⟨a0, a1, a2, a3, a4, a5, a6, a7⟩ := OwnE.at HS5.out (k := s) (e := e') (by rw [List.getElem?_set_self hil])
          have HB5 := Lib.hid (by exact lt5 : b < w5.heap.size)
          have HLS := Lib.hid hls
          have HBG := Lib.hid hbge
          have HGG := Lib.hid hgge
          have HGB := Lib.hid hgb
          clear hls hbge hgge hgb
          go_wp2_with fail
          have hS6 := HS5.out.alloc (.cells #[.string e'.nd.id, .int .i64 e'.nd.fam, .string e'.nd.ip, .int .i64 e'.nd.port, .int .i64 e'.kd, .int .i64 e'.an, .int .i64 e'.ak, .int .i64 e'.fl] 60)
          refine (delete_calls' _ g cap (k.spare.set s e') k.spare.length s HLS.out hil hS6 hm2).mono ?_
          rintro e6 w6 ⟨rfl, ho6, hk6⟩
          have hl5 := HB5.out
          have hbx6 : w6.heap[w5.heap.size]? = some (.cells #[.string e'.nd.id, .int .i64 e'.nd.fam, .string e'.nd.ip, .int .i64 e'.nd.port, .int .i64 e'.kd, .int .i64 e'.an, .int .i64 e'.ak, .int .i64 e'.fl] 60 (0, 0)) := (hk6.block _ (by simp) (fun h => by simp at h; have := HS5.out.fp_lt w5.heap.size (by simp [fpv, h]); omega)).trans (heap_alloc_new w5 _)
          have hh6 := (hk6.block b (by simp; omega) (fun h => HGB.out (by simpa using h))).trans ((Below.heap_alloc w5 _ b hl5).trans HH5.out)
          have hE6 := (HE5.out.alloc (.cells #[.string e'.nd.id, .int .i64 e'.nd.fam, .string e'.nd.ip, .int .i64 e'.nd.port, .int .i64 e'.kd, .int .i64 e'.an, .int .i64 e'.ak, .int .i64 e'.fl] 60)).keeps hk6 (fun x hx h => HGG.out (by simp at h; rw [hfpe] at hx; simp at hx; omega))
          have ltt5 : tb < w5.heap.size := Nat.lt_of_lt_of_le ltt4 hb5.size
          have ht6 : w6.cell? ⟨tb, 1, none⟩ = some (.int .i64 now) := (hk6.cell (a := ⟨tb, 1, none⟩) (by simp; omega) (fun h => hgt (by simpa using h))).trans (((below_new (Below.refl _ w5) _).cell (p := ⟨tb, 1, none⟩) (by exact ltt5)).trans ht5)
          have hK6 : Keeps [g] w w6 := (hK5.alloc _).trans hk6
          clear c0 c1 c2 c3 c4 u3 u4 a0 a1 a2 a3 a4 a5 a6 a7 ht5 hS6
          obtain ⟨c0, c1, c2, c3, c4⟩ := cells5 hh6
          have u3 := unfrozen0 hh6 3
          have HH6 := Lib.hid hh6
          have HX6 := Lib.hid hbx6
          have HE6 := Lib.hid hE6
          have HO6 := Lib.hid ho6
          have hbx5 : b ≠ w5.heap.size := by have := HB5.out; omega
          have hgx5 : ge ≠ w5.heap.size := by have := HE5.out.fp_lt ge (by rw [hfpe]; simp); omega
          have hsx5 : g ≠ w5.heap.size := by have := HS5.out.fp_lt g (by simp [fpv]); omega
          have hsz6 : w5.heap.size + 1 ≤ w6.heap.size := by have := hk6.size; simpa using this
          have HN := Lib.hid (⟨hbx5, hgx5, hsx5⟩ : b ≠ w5.heap.size ∧ ge ≠ w5.heap.size ∧ g ≠ w5.heap.size)
          clear hh6 hbx6 hE6 ho6 hbx5 hgx5 hsx5
          go_wp2_with fail
          obtain ⟨w7, hw7⟩ : ∃ w7, w6.setCell ⟨b, 3, none⟩ (.slice (some ⟨g, 0, none⟩) (k.spare.length - 1) (cap + 1)) = w7 := ⟨_, rfl⟩
          have hh7 : w7.heap[b]? = some (.cells #[.string k.pre, .int .i64 k.bits, .slice (some ⟨ge, 0, none⟩) k.ents.length (cape + 1), .slice (some ⟨g, 0, none⟩) (k.spare.length - 1) (cap + 1), .int .i64 k.ch] 85 (0, 0)) := by rw [← hw7]; exact set_s _ HH6.out
          have hbx7 : w7.heap[w5.heap.size]? = some (.cells #[.string e'.nd.id, .int .i64 e'.nd.fam, .string e'.nd.ip, .int .i64 e'.nd.port, .int .i64 e'.kd, .int .i64 e'.an, .int .i64 e'.ak, .int .i64 e'.fl] 60 (0, 0)) := by rw [← hw7]; exact (Below.heap_setCell w6 ⟨b, 3, none⟩ _ _ (fun h => HN.out.1 h.symm)).trans HX6.out
          have hE7 : OwnE w7 (.slice (some ⟨ge, 0, none⟩) k.ents.length (cape + 1)) k.ents := by rw [← hw7]; exact HE6.out.setO _ hbe
          have hS7 : Own w7 60 8 (.slice (some ⟨g, 0, none⟩) (k.spare.length - 1) (cap + 1)) (k.spare.length - 1) (evs (delF (k.spare.set s e') s)) := by rw [← hw7]; exact HO6.out.setO _ (by simp [fpv]; exact HGB.out)
          have ht7 : w7.cell? ⟨tb, 1, none⟩ = some (.int .i64 now) := by rw [← hw7]; exact (World.cell?_of_block (a := ⟨tb, 1, none⟩) (Below.heap_setCell w6 ⟨b, 3, none⟩ _ tb (fun h => htb (by simp at h; simp [h])))).trans ht6
          have hK7 : Keeps (b :: (fpv (.slice (some ⟨ge, 0, none⟩) k.ents.length (cape + 1)) ++ fpv (.slice (some ⟨g, 0, none⟩) k.spare.length (cap + 1)))) w w7 := by
            rw [← hw7]
            exact (hK6.mono (fun x hx _ => by simp at hx; simp [fpv, hx])).setCell _ (.inl (by simp))
          have hs7 : w7.heap.size = w6.heap.size := by rw [← hw7]; simp [World.setCell]
          rw [hw7]
          clear c0 c1 c2 c3 c4 u3 ht6 hw7 hK6
          have hV7 : w7.drew.heap[b]? = some (.cells #[.string k.pre, .int .i64 k.bits, .slice (some ⟨ge, 0, none⟩) k.ents.length (cape + 1), .slice (some ⟨g, 0, none⟩) (k.spare.length - 1) (cap + 1), .int .i64 k.ch] 85 (0, 0)) ∧ w7.drew.heap[w5.heap.size]? = some (.cells #[.string e'.nd.id, .int .i64 e'.nd.fam, .string e'.nd.ip, .int .i64 e'.nd.port, .int .i64 e'.kd, .int .i64 e'.an, .int .i64 e'.ak, .int .i64 e'.fl] 60 (0, 0)) := ⟨hh7, hbx7⟩
          have HV7 := Lib.hid hV7
          have HE7 := Lib.hid hE7
          have HS7 := Lib.hid hS7
          have HT7 := Lib.hid ht7
          have HK7 := Lib.hid hK7
          clear hV7 hh7 hbx7 hE7 hS7 ht7 hK7
          refine wp_region_ordT (fun W => W.heap[b]? = some (.cells #[.string k.pre, .int .i64 k.bits, .slice (some ⟨ge, 0, none⟩) k.ents.length (cape + 1), .slice (some ⟨g, 0, none⟩) (k.spare.length - 1) (cap + 1), .int .i64 k.ch] 85 (0, 0)) ∧ W.heap[w5.heap.size]? = some (.cells #[.string e'.nd.id, .int .i64 e'.nd.fam, .string e'.nd.ip, .int .i64 e'.nd.port, .int .i64 e'.kd, .int .i64 e'.an, .int .i64 e'.ak, .int .i64 e'.fl] 60 (0, 0))) [[(0,0)],[(1,0)],[(2,0)],[(3,0)],[(4,4)],[(5,0)],[(6,0)],[(7,0)],[(9,4)],[(8,5),(10,5)],[(11,3)],[(12,0)],[(13,0)],[(14,3)]] (by kernel_rfl) (by kernel_rfl) ?_
          simp only [pickT, List.map_cons, List.map_nil, List.getD_cons_zero, List.getD_cons_succ]
          repeat (first | ((with_reducible refine wpT_skip ?_ ?_); rfl; simp only [Act.put, List.setIfInBounds_toArray, List.set_cons_zero, List.set_cons_succ]) | ((with_reducible refine wpT_step (fun K hK => ?_)); go_simp; (try go_bits); (first | (with_reducible refine hK _ _ ?_) | (simp only [IntWalk.iteOmega]; go_simp; (try go_bits); (with_reducible refine hK _ _ ?_))); clear hK K))
          have fin : ∀ w9 : World, w9.heap[b]? = some (.cells #[.string k.pre, .int .i64 k.bits, .slice (some ⟨ge, 0, none⟩) k.ents.length (cape + 1), .slice (some ⟨g, 0, none⟩) (k.spare.length - 1) (cap + 1), .int .i64 k.ch] 85 (0, 0)) →
             Own w9 60 8 (.slice (some ⟨ge, 0, none⟩) (k.ents.length - 1 + 1) (cape + 1)) (k.ents.length - 1 + 1) (evs (delF k.ents x) ++ e'.vals) →
             Own w9 60 8 (.slice (some ⟨g, 0, none⟩) (k.spare.length - 1) (cap + 1)) (k.spare.length - 1) (evs (delF (k.spare.set s e') s)) →
             Keeps (b :: (fpv (.slice (some ⟨ge, 0, none⟩) k.ents.length (cape + 1)) ++ fpv (.slice (some ⟨g, 0, none⟩) k.spare.length (cap + 1)))) w w9 →
             BkTurn w b (fpv (.slice (some ⟨ge, 0, none⟩) k.ents.length (cape + 1)) ++ fpv (.slice (some ⟨g, 0, none⟩) k.spare.length (cap + 1))) { replB k x e' with spare := delF k.spare s, ch := now }
               ((w9.setCell ⟨b, 2, none⟩ (.slice (some ⟨ge, 0, none⟩) (k.ents.length - 1 + 1) (cape + 1))).setCell ⟨b, 4, none⟩ (.int .i64 now)) := by
            intro w9 hh ho hs hk
            have hle1 : (delF k.ents x ++ [e']).length = k.ents.length - 1 + 1 := by rw [List.length_append, delF_length hxl]; rfl
            have hle2 : (delF k.spare s).length = k.spare.length - 1 := delF_length hil
            have hdd : delF (k.spare.set s e') s = delF k.spare s := by
              unfold delF
              rw [List.take_set_of_le (Nat.le_refl _), List.drop_set_of_lt (by omega)]
            rw [hdd] at hs
            refine BkTurn.make (k' := { replB k x e' with spare := delF k.spare s, ch := now }) (v1 := .slice (some ⟨ge, 0, none⟩) (k.ents.length - 1 + 1) (cape + 1)) (v2 := .slice (some ⟨g, 0, none⟩) (k.spare.length - 1) (cap + 1)) (set_c _ (set_e _ hh)) ?_ ?_ ?_ ?_ ?_
            · show Own _ 60 8 _ (delF k.ents x ++ [e']).length (evs (delF k.ents x ++ [e']))
              rw [hle1, evs_append, show evs [e'] = e'.vals by simp [evs]]
              exact (ho.setO _ (by simp [fpv]; exact HBG.out)).setO _ (by simp [fpv]; exact HBG.out)
            · show Own _ 60 8 _ (delF k.spare s).length (evs (delF k.spare s))
              rw [hle2]
              exact (hs.setO _ (by simp [fpv]; exact HGB.out)).setO _ (by simp [fpv]; exact HGB.out)
            · intro y hy
              refine .inl ?_
              simpa [fpv] using hy
            · exact nodup3 (by simp [fpv]; exact HBG.out) (by simp [fpv]; exact HGB.out) (by simp [fpv]; exact fun h => HGG.out h.symm)
            · exact (hk.setCell _ (.inl (by simp))).setCell _ (.inl (by simp))
          have FIN := Lib.hid fin
          clear fin
          have hV := HV7.out
          ((with_reducible refine wpT_step (fun K hK => ?_)); (refine stepV_4h (v := ?_) rfl ?_ (fun W hV => ?_) (hK _ _ ?_)); rotate_left; (first | assumption | go_simp | simp [*]); ((try dsimp only at hV); (try have hv5 := cells5 hV.1); (try have hv8 := cells8 hV.2); go_simp; try rfl); simp only [Act.put, List.setIfInBounds_toArray, List.set_cons_zero, List.set_cons_succ]; clear hK K)
          repeat (first | ((with_reducible refine wpT_skip ?_ ?_); rfl; simp only [Act.put, List.setIfInBounds_toArray, List.set_cons_zero, List.set_cons_succ]) | ((with_reducible refine wpT_step (fun K hK => ?_)); go_simp; (try go_bits); (first | (with_reducible refine hK _ _ ?_) | (simp only [IntWalk.iteOmega]; go_simp; (try go_bits); (with_reducible refine hK _ _ ?_))); clear hK K))
          ((with_reducible refine wpT_step (fun K hK => ?_)); (refine stepV_4h (v := ?_) rfl ?_ (fun W hV => ?_) (hK _ _ ?_)); rotate_left; (first | assumption | go_simp | simp [*]); ((try dsimp only at hV); (try have hv5 := cells5 hV.1); (try have hv8 := cells8 hV.2); go_simp; try rfl); simp only [Act.put, List.setIfInBounds_toArray, List.set_cons_zero, List.set_cons_succ]; clear hK K)
          repeat (first | ((with_reducible refine wpT_skip ?_ ?_); rfl; simp only [Act.put, List.setIfInBounds_toArray, List.set_cons_zero, List.set_cons_succ]) | ((with_reducible refine wpT_step (fun K hK => ?_)); go_simp; (try go_bits); (first | (with_reducible refine hK _ _ ?_) | (simp only [IntWalk.iteOmega]; go_simp; (try go_bits); (with_reducible refine hK _ _ ?_))); clear hK K))
          clear hV
          refine wpT_two ?_ ?_
          · (with_reducible refine wpT_step (fun K hK => ?_)); go_simp; (try go_bits)
            refine (delete_calls' _ ge cape k.ents k.ents.length x rfl hxl HE7.out.drew hm1).mono ?_; rintro e8 w8 ⟨rfl, ho8, hk8⟩
            have hb8 := (hk8.block b (by simp; exact (Array.getElem?_eq_some_iff.1 HV7.out.1).1) (fun h => HBG.out (by simpa using h)))
            have hx8 := (hk8.block w5.heap.size (by simp; omega) (fun h => HN.out.2.1 (by simp at h; omega)))
            refine ⟨fun hA hB => ⟨hb8.trans hA, hx8.trans hB⟩, ?_⟩
            (with_reducible refine hK _ _ ?_); clear hK K
            have hhY : w8.heap[b]? = some (.cells #[.string k.pre, .int .i64 k.bits, .slice (some ⟨ge, 0, none⟩) k.ents.length (cape + 1), .slice (some ⟨g, 0, none⟩) (k.spare.length - 1) (cap + 1), .int .i64 k.ch] 85 (0, 0)) := hb8.trans HV7.out.1
            have hb8l : b < w8.heap.size := (Array.getElem?_eq_some_iff.1 hhY).1
            have htY : w8.cell? ⟨tb, 1, none⟩ = some (.int .i64 now) := (hk8.cell (a := ⟨tb, 1, none⟩) (by simp; omega) (fun h => htb (by simp at h; simp [h, fpv]))).trans HT7.out
            have hsY := HS7.out.drew.keeps hk8 (fun y hy h => HGG.out (by simp [fpv] at hy; simp at h; omega))
            have hKY := (HK7.out.drew).trans (hk8.mono (fun y hy _ => by simp at hy; simp [hy, fpv]))
            have htb8 : tb < w8.heap.size := World.block_lt_of_cell? w8 _ htY
            have hhX := (Below.heap_alloc w8 (.cells #[.string e'.nd.id, .int .i64 e'.nd.fam, .string e'.nd.ip, .int .i64 e'.nd.port, .int .i64 e'.kd, .int .i64 e'.an, .int .i64 e'.ak, .int .i64 e'.fl] 60) b hb8l).trans hhY
            have htX := ((below_new (Below.refl _ w8) (.cells #[.string e'.nd.id, .int .i64 e'.nd.fam, .string e'.nd.ip, .int .i64 e'.nd.port, .int .i64 e'.kd, .int .i64 e'.an, .int .i64 e'.ak, .int .i64 e'.fl] 60)).cell (p := ⟨tb, 1, none⟩) (by exact htb8)).trans htY
            have hsX := hsY.alloc (.cells #[.string e'.nd.id, .int .i64 e'.nd.fam, .string e'.nd.ip, .int .i64 e'.nd.port, .int .i64 e'.kd, .int .i64 e'.an, .int .i64 e'.ak, .int .i64 e'.fl] 60)
            have hKX := hKY.alloc (.cells #[.string e'.nd.id, .int .i64 e'.nd.fam, .string e'.nd.ip, .int .i64 e'.nd.port, .int .i64 e'.kd, .int .i64 e'.an, .int .i64 e'.ak, .int .i64 e'.fl] 60)
            have hxY := hx8.trans HV7.out.2
            have hxX := (Below.heap_alloc w8 (.cells #[.string e'.nd.id, .int .i64 e'.nd.fam, .string e'.nd.ip, .int .i64 e'.nd.port, .int .i64 e'.kd, .int .i64 e'.an, .int .i64 e'.ak, .int .i64 e'.fl] 60) w5.heap.size (Array.getElem?_eq_some_iff.1 hxY).1).trans hxY
            have HB8 := Lib.hid hb8l
            have HHX := Lib.hid hhX
            have HXX := Lib.hid hxX
            have HT8 := Lib.hid htb8
            clear hb8 hx8 hhY htY hsY hKY hxY hb8l hhX hxX htb8
            (with_reducible refine wpT_step (fun K hK => ?_)); go_simp; (try go_bits)
            refine ⟨fun hA hB => ⟨HHX.out, HXX.out⟩, ?_⟩
            have hhX := HHX.out
            (with_reducible refine hK _ _ ?_); clear hK K
            repeat (first | ((with_reducible refine wpT_skip ?_ ?_); rfl; simp only [Act.put, List.setIfInBounds_toArray, List.set_cons_zero, List.set_cons_succ]) | ((with_reducible refine wpT_step (fun K hK => ?_)); go_simp; (try go_bits); (first | (with_reducible refine hK _ _ ?_) | (simp only [IntWalk.iteOmega]; go_simp; (try go_bits); (with_reducible refine hK _ _ ?_))); clear hK K))
            refine wpT_room rfl rfl Ee rfl (ho8.alloc _) e'.vals rfl rfl (new_cells w8 e'.vals 60) (by intro u hu; exact evs_one [e'] u (by simpa [evs] using hu)) (by omega) ?_
            intro w9 ho9 hk9 hs9
            have hh9 : w9.heap[b]? = some (.cells #[.string k.pre, .int .i64 k.bits, .slice (some ⟨ge, 0, none⟩) k.ents.length (cape + 1), .slice (some ⟨g, 0, none⟩) (k.spare.length - 1) (cap + 1), .int .i64 k.ch] 85 (0, 0)) := (hk9.block b (by simp; have := HB8.out; omega) (fun h => HBG.out (by simpa using h))).trans hhX
            have ht9 : w9.cell? ⟨tb, 1, none⟩ = some (.int .i64 now) := (hk9.cell (a := ⟨tb, 1, none⟩) (by simp; have := HT8.out; omega) (fun h => htb (by simp at h; simp [h, fpv]))).trans htX
            have hsp9 : Own w9 60 8 (.slice (some ⟨g, 0, none⟩) (k.spare.length - 1) (cap + 1)) (k.spare.length - 1) (evs (delF (k.spare.set s e') s)) := hsX.keeps hk9 (fun y hy h => HGG.out (by simp [fpv] at hy; simp at h; omega))
            have hK9 : Keeps (b :: (fpv (.slice (some ⟨ge, 0, none⟩) k.ents.length (cape + 1)) ++ fpv (.slice (some ⟨g, 0, none⟩) k.spare.length (cap + 1)))) w w9 := hKX.trans (hk9.mono (fun y hy _ => by simp at hy; simp [hy, fpv]))
            have HT9 := Lib.hid (FIN.out w9 hh9 ho9 hsp9 hK9)
            obtain ⟨c0, c1, c2, c3, c4⟩ := cells5 hh9
            have u2 := unfrozen0 hh9 2
            have u4 := unfrozen0 hh9 4
            have htb2 : tb ≠ b := fun h => htb (by simp [h])
            simp only [Act.put, List.setIfInBounds_toArray, List.set_cons_zero, List.set_cons_succ]
            clear hh9 ho9 hsp9 hK9 hhX htX hsX hKX
            repeat (first | ((with_reducible refine wpT_skip ?_ ?_); rfl; simp only [Act.put, List.setIfInBounds_toArray, List.set_cons_zero, List.set_cons_succ]) | ((with_reducible refine wpT_step (fun K hK => ?_)); go_simp; (try go_bits); (first | (with_reducible refine hK _ _ ?_) | (simp only [IntWalk.iteOmega]; go_simp; (try go_bits); (with_reducible refine hK _ _ ?_))); clear hK K))
            (with_reducible refine wpT_nil ?_)
            go_wp2
            go_ret
            exact .inr ⟨_, HG.out, rfl, HT9.out⟩
          · (with_reducible refine wpT_step (fun K hK => ?_)); go_simp; (try go_bits)
            have hA0 : b < w7.drew.heap.size := (Array.getElem?_eq_some_iff.1 HV7.out.1).1
            have hX0 : w5.heap.size < w7.drew.heap.size := (Array.getElem?_eq_some_iff.1 HV7.out.2).1
            obtain ⟨wA, hwA⟩ : ∃ wA, (w7.alloc (.cells #[.string e'.nd.id, .int .i64 e'.nd.fam, .string e'.nd.ip, .int .i64 e'.nd.port, .int .i64 e'.kd, .int .i64 e'.an, .int .i64 e'.ak, .int .i64 e'.fl] 60)).drew = wA := ⟨_, rfl⟩
            have hhA : wA.heap[b]? = some (.cells #[.string k.pre, .int .i64 k.bits, .slice (some ⟨ge, 0, none⟩) k.ents.length (cape + 1), .slice (some ⟨g, 0, none⟩) (k.spare.length - 1) (cap + 1), .int .i64 k.ch] 85 (0, 0)) := by rw [← hwA]; exact (Below.heap_alloc w7.drew _ b hA0).trans HV7.out.1
            have hxA : wA.heap[w5.heap.size]? = some (.cells #[.string e'.nd.id, .int .i64 e'.nd.fam, .string e'.nd.ip, .int .i64 e'.nd.port, .int .i64 e'.kd, .int .i64 e'.an, .int .i64 e'.ak, .int .i64 e'.fl] 60 (0, 0)) := by rw [← hwA]; exact (Below.heap_alloc w7.drew _ _ hX0).trans HV7.out.2
            have htA : wA.cell? ⟨tb, 1, none⟩ = some (.int .i64 now) := by rw [← hwA]; exact ((below_new (Below.refl _ w7.drew) _).cell (p := ⟨tb, 1, none⟩) (World.block_lt_of_cell? w7.drew ⟨tb, 1, none⟩ HT7.out)).trans HT7.out
            have hsA := (HS7.out.alloc (.cells #[.string e'.nd.id, .int .i64 e'.nd.fam, .string e'.nd.ip, .int .i64 e'.nd.port, .int .i64 e'.kd, .int .i64 e'.an, .int .i64 e'.ak, .int .i64 e'.fl] 60)).drew
            have hEA := (HE7.out.alloc (.cells #[.string e'.nd.id, .int .i64 e'.nd.fam, .string e'.nd.ip, .int .i64 e'.nd.port, .int .i64 e'.kd, .int .i64 e'.an, .int .i64 e'.ak, .int .i64 e'.fl] 60)).drew
            have hKA := (HK7.out.alloc (.cells #[.string e'.nd.id, .int .i64 e'.nd.fam, .string e'.nd.ip, .int .i64 e'.nd.port, .int .i64 e'.kd, .int .i64 e'.an, .int .i64 e'.ak, .int .i64 e'.fl] 60)).drew
            have hnA := new_cells w7.drew e'.vals 60
            have hszA : wA.heap.size = w7.heap.size + 1 := by rw [← hwA]; simp
            change ∀ (j : Nat) u, e'.vals[j]? = some u → (w7.alloc (.cells #[.string e'.nd.id, .int .i64 e'.nd.fam, .string e'.nd.ip, .int .i64 e'.nd.port, .int .i64 e'.kd, .int .i64 e'.an, .int .i64 e'.ak, .int .i64 e'.fl] 60)).drew.cell? ((⟨w7.heap.size, 0, none⟩ : Addr).add j) = some u at hnA
            rw [hwA] at hsA hEA hKA hnA ⊢
            have HHA := Lib.hid hhA
            have HXA := Lib.hid hxA
            have HTA := Lib.hid htA
            have HSA := Lib.hid hsA
            have HEA := Lib.hid hEA
            have HKA := Lib.hid hKA
            have HNA := Lib.hid hnA
            have HZA := Lib.hid hszA
            clear hA0 hX0 hwA hhA hxA htA hsA hEA hKA hnA hszA
            refine ⟨fun _ _ => ⟨HHA.out, HXA.out⟩, ?_⟩
            (with_reducible refine hK _ _ ?_); clear hK K
            repeat (first | ((with_reducible refine wpT_skip ?_ ?_); rfl; simp only [Act.put, List.setIfInBounds_toArray, List.set_cons_zero, List.set_cons_succ]) | ((with_reducible refine wpT_step (fun K hK => ?_)); go_simp; (try go_bits); (first | (with_reducible refine hK _ _ ?_) | (simp only [IntWalk.iteOmega]; go_simp; (try go_bits); (with_reducible refine hK _ _ ?_))); clear hK K))
            (with_reducible refine wpT_step (fun K hK => ?_)); go_simp; (try go_bits)
            refine (delete_calls' _ ge cape k.ents k.ents.length x rfl hxl HEA.out hm1).mono ?_; rintro e8 w8 ⟨rfl, ho8, hk8⟩
            have hb8 := (hk8.block b (Array.getElem?_eq_some_iff.1 HHA.out).1 (fun h => HBG.out (by simpa using h))).trans HHA.out
            have hx8 := (hk8.block w5.heap.size (Array.getElem?_eq_some_iff.1 HXA.out).1 (fun h => HN.out.2.1 (by simp at h; omega))).trans HXA.out
            refine ⟨fun _ _ => ⟨hb8, hx8⟩, ?_⟩
            (with_reducible refine hK _ _ ?_); clear hK K
            have hhX : w8.heap[b]? = some (.cells #[.string k.pre, .int .i64 k.bits, .slice (some ⟨ge, 0, none⟩) k.ents.length (cape + 1), .slice (some ⟨g, 0, none⟩) (k.spare.length - 1) (cap + 1), .int .i64 k.ch] 85 (0, 0)) := hb8
            have htX : w8.cell? ⟨tb, 1, none⟩ = some (.int .i64 now) := (hk8.cell (a := ⟨tb, 1, none⟩) (World.block_lt_of_cell? wA ⟨tb, 1, none⟩ HTA.out) (fun h => htb (by simp at h; simp [h, fpv]))).trans HTA.out
            have hsX := HSA.out.keeps hk8 (fun y hy h => HGG.out (by simp [fpv] at hy; simp at h; omega))
            have hKX := HKA.out.trans (hk8.mono (fun y hy _ => by simp at hy; simp [hy, fpv]))
            have hgA : ge < w7.heap.size := HE7.out.fp_lt ge (by simp [fpv])
            have hnc : ∀ (j : Nat) (u : Value), e'.vals[j]? = some u → w8.cell? ((⟨w7.heap.size, 0, none⟩ : Addr).add j) = some u := fun j u hu =>
              (hk8.cell (a := (⟨w7.heap.size, 0, none⟩ : Addr).add j) (by rw [show ((⟨w7.heap.size, 0, none⟩ : Addr).add j).block = w7.heap.size by unfold Addr.add; split <;> rfl, HZA.out]; omega) (by rw [show ((⟨w7.heap.size, 0, none⟩ : Addr).add j).block = w7.heap.size by unfold Addr.add; split <;> rfl]; simp; omega)).trans (HNA.out j u hu)
            have HB8 := Lib.hid ((Array.getElem?_eq_some_iff.1 hhX).1 : b < w8.heap.size)
            have HT8 := Lib.hid (World.block_lt_of_cell? w8 ⟨tb, 1, none⟩ htX)
            have HNC := Lib.hid hnc
            clear hb8 hx8 hnc hgA
            repeat (first | ((with_reducible refine wpT_skip ?_ ?_); rfl; simp only [Act.put, List.setIfInBounds_toArray, List.set_cons_zero, List.set_cons_succ]) | ((with_reducible refine wpT_step (fun K hK => ?_)); go_simp; (try go_bits); (first | (with_reducible refine hK _ _ ?_) | (simp only [IntWalk.iteOmega]; go_simp; (try go_bits); (with_reducible refine hK _ _ ?_))); clear hK K))
            have hnc := HNC.out
            refine wpT_room rfl rfl Ee rfl ho8 e'.vals rfl rfl (fun j u hu => by rw [← hs7]; exact hnc j u hu) (by intro u hu; exact evs_one [e'] u (by simpa [evs] using hu)) (by omega) ?_
            intro w9 ho9 hk9 hs9
            have hh9 : w9.heap[b]? = some (.cells #[.string k.pre, .int .i64 k.bits, .slice (some ⟨ge, 0, none⟩) k.ents.length (cape + 1), .slice (some ⟨g, 0, none⟩) (k.spare.length - 1) (cap + 1), .int .i64 k.ch] 85 (0, 0)) := (hk9.block b HB8.out (fun h => HBG.out (by simpa using h))).trans hhX
            have ht9 : w9.cell? ⟨tb, 1, none⟩ = some (.int .i64 now) := (hk9.cell (a := ⟨tb, 1, none⟩) HT8.out (fun h => htb (by simp at h; simp [h, fpv]))).trans htX
            have hsp9 : Own w9 60 8 (.slice (some ⟨g, 0, none⟩) (k.spare.length - 1) (cap + 1)) (k.spare.length - 1) (evs (delF (k.spare.set s e') s)) := hsX.keeps hk9 (fun y hy h => HGG.out (by simp [fpv] at hy; simp at h; omega))
            have hK9 : Keeps (b :: (fpv (.slice (some ⟨ge, 0, none⟩) k.ents.length (cape + 1)) ++ fpv (.slice (some ⟨g, 0, none⟩) k.spare.length (cap + 1)))) w w9 := hKX.trans (hk9.mono (fun y hy _ => by simp at hy; simp [hy, fpv]))
            have HT9 := Lib.hid (FIN.out w9 hh9 ho9 hsp9 hK9)
            obtain ⟨c0, c1, c2, c3, c4⟩ := cells5 hh9
            have u2 := unfrozen0 hh9 2
            have u4 := unfrozen0 hh9 4
            have htb2 : tb ≠ b := fun h => htb (by simp [h])
            simp only [Act.put, List.setIfInBounds_toArray, List.set_cons_zero, List.set_cons_succ]
            clear hh9 ho9 hsp9 hK9 hhX htX hsX hKX
            repeat (first | ((with_reducible refine wpT_skip ?_ ?_); rfl; simp only [Act.put, List.setIfInBounds_toArray, List.set_cons_zero, List.set_cons_succ]) | ((with_reducible refine wpT_step (fun K hK => ?_)); go_simp; (try go_bits); (first | (with_reducible refine hK _ _ ?_) | (simp only [IntWalk.iteOmega]; go_simp; (try go_bits); (with_reducible refine hK _ _ ?_))); clear hK K))
            (with_reducible refine wpT_nil ?_)
            go_wp2
            go_ret
            exact .inr ⟨_, HG.out, rfl, HT9.out⟩
end Go.Proofs.Tc
