import Derived.Test.YtjjnbanlofhhnaaGreatD9
namespace Go.Proofs.Tc
open Go.RowKit Go.Sort
attribute [local go_sem] stepO_0 stepO_1 stepO_2 stepO_3 stepV_0 stepV_1 stepV_2 stepV_3 stepV_5


theorem wpList_append_run {P : Program} {w w' : World} {t u : TypeId} {o : Oper} {a : Act} {ops : Array Oper} {rest : List Oper} {Q : Exit → Act → World → Prop} {s x : Operand} {v1 v2 v' : Value} (hgd : o.guard = none)
    (ho : o.op = .call { callee := .builtin .append, args := #[s, x], argTypes := #[t, u] }) (hs : a.eval s = v1) (hx : a.eval x = v2) (hr : ∀ ty, (Builtin.append_ #[t, u] ty #[v1, v2]).run P w = .ok v' w')
    (h : wpList P ops Q rest (a.put o.dst v') w') : wpList P ops Q (o :: rest) a w :=
  wpList_plain hgd fun K hK => by
    unfold Oper.wp execOp
    simp only [ho, resolve, invoke, builtin, Sem.run_bind, Sem.run_pure, Result.andThen_ok, List.map_toArray, List.map_cons, List.map_nil, hs, hx, hr]
    exact hK _ _ h

set_option maxRecDepth 100000 in
set_option maxHeartbeats 400000 in
theorem replace_grow (w : World) (g cap h : Nat) (L : List Nat) (i p q : Nat) (hi : i + 1 < L.length) (hgh : g ≠ h) (hc : cap + 1 < L.length + 1) (ho : OwnP w (.slice (some ⟨g, 0, none⟩) L.length (cap + 1)) L) (hm : L.length ≤ 1000)
    {tt : TypeId} (hh : w.heap[h]? = some (.cells #[.pointer (some ⟨p, 0, none⟩), .pointer (some ⟨q, 0, none⟩)] tt (0, 0))) :
    Calls Tryz.prog 128 #[.slice (some ⟨g, 0, none⟩) L.length (cap + 1), .int .i64 i, .int .i64 ((i : Int) + 1), .slice (some ⟨h, 0, none⟩) 2 2] w (ReplRes w (.slice (some ⟨g, 0, none⟩) L.length (cap + 1)) (replL L i p q)) := by
  obtain ⟨hle, hmx⟩ := ho.le
  have hcut : Own w.drew 74 1 (.slice (some ⟨g, 0, none⟩) i (cap + 1)) i (ptrs (L.take i)) := by
    have := ho.cut (i := i) (by omega)
    rw [Nat.mul_one, ptrs_take] at this
    exact this.drew
  have hne1 : ((i : Int) + 1 == (L.length : Int)) = false := by simp; omega
  have hne2 : ((i : Int) == (i : Int) + 1) = false := by simp; omega
  have HO := Lib.hid ho
  have HC := Lib.hid hcut
  clear ho hcut
  go_enter Tryz.func128, Tryz.ntmps128
  go_wp2_with fail
  have htot : (i : Int) + 2 + ((L.length - (i + 1) : Nat) : Int) = ((L.length + 1 : Nat) : Int) := by omega
  refine wp_region_ord [(0,0),(1,0),(2,0),(3,0),(4,0),(5,0),(6,0),(7,0),(8,0),(9,0),(10,0),(11,0),(12,0)] (by kernel_rfl) (by kernel_rfl) ?_
  simp only [pickO, List.map_cons, List.map_nil, List.getD_cons_zero, List.getD_cons_succ]
  repeat (first | ((with_reducible refine wpO_skip ?_ ?_); rfl; simp only [Act.put, List.setIfInBounds_toArray, List.set_cons_zero, List.set_cons_succ]) | ((with_reducible refine wpO_step (fun K hK => ?_)); go_simp; (try go_bits); (first | (with_reducible refine hK _ _ ?_) | (simp only [IntWalk.iteOmega]; go_simp; (try go_bits); (with_reducible refine hK _ _ ?_))); clear hK K))
  (with_reducible refine wpO_nil ?_)
  have hcap : ((cap : Int) + 1 < (L.length : Int) + 1) := by omega
  obtain ⟨c, hr, hown⟩ := own_grow_make (P := Tryz.prog) (u := 3) Ep Tryz.underlying3 HC.out (L.length + 1 - i) (by omega) (by unfold maxLen; omega) (by omega)
  rw [show i + (L.length + 1 - i) = L.length + 1 by omega] at hr hown
  have hk : (L.length : Int) + 1 - (i : Int) = ((L.length + 1 - i : Nat) : Int) := by omega
  obtain ⟨w3, hw3⟩ : ∃ w3, w.drew.drew.alloc (.cells ((ptrs (L.take i)).toArray ++ Builtin.zeroCells (Value.pointer none).cells (L.length + 1 - i) ++ Builtin.zeroCells (Value.pointer none).cells (c + 1 - (L.length + 1))) 74) = w3 := ⟨_, rfl⟩
  rw [hw3] at hr hown
  have hcge : L.length + 1 ≤ c + 1 := hown.le.1
  have hci : ¬ (c + 1 = i) := by omega
  have hci2 : ¬ (c + 1 = i + 2) := by omega
  have hB3 : Below w.heap.size w w3 := by rw [← hw3]; exact (below_new (Below.refl _ w) _).drew.drew
  have hg3 := HO.out.ext hB3
  have hh3 := (hB3.block h (Array.getElem?_eq_some_iff.1 hh).1).trans hh
  have hhl : h < w.heap.size := (Array.getElem?_eq_some_iff.1 hh).1
  have hgl : g < w.heap.size := HO.out.fp_lt g (by simp [fpv])
  obtain ⟨wA, hc1, hoA, hkA, hsA⟩ := own_copy Ep hown i (L.length + 1 - i) ⟨h, 0, none⟩ 2 (ptrs [p, q]) (by show 2 = min 2 (L.length + 1 - i); rw [Nat.min_eq_left (by omega)]) (by
    intro j u hu
    rw [show (⟨h, 0, none⟩ : Addr).add j = ⟨h, j, none⟩ by unfold Addr.add; split <;> simp_all]
    unfold World.cell?
    rw [hh3]
    match j, hu with
    | 0, hu => simp [ptrs] at hu; simp [hu]
    | 1, hu => simp [ptrs] at hu; simp [hu]
    | j + 2, hu => simp [ptrs] at hu) (ptrs_one _) (by show i + 2 ≤ L.length + 1; omega)
  have hgA := hg3.keeps hkA (fun y hy hm => by simp [fpv] at hy; simp at hm; omega)
  obtain ⟨wB, hc2, hoB, hkB, hsB⟩ := own_copy Ep hoA.drew (i + 2) (L.length - (i + 1)) ⟨g, i + 1, none⟩ (L.length - (i + 1)) (ptrs (L.drop (i + 1))) (by rw [ptrs_length, List.length_drop]; simp) (fun j u hu => hgA.drew.cell' (by rw [ptrs_drop]; exact hu)) (ptrs_one _) (by rw [ptrs_length, List.length_drop]; omega)
  have hll : (ptrs (L.take i)).length = i := by rw [ptrs_length, List.length_take]; omega
  have hz : ∀ Z : List Value, ((ptrs (L.take i) ++ Z).take i ++ ptrs [p, q] ++ (ptrs (L.take i) ++ Z).drop (i + (ptrs [p, q]).length)).take (i + 2) = ptrs (L.take i) ++ ptrs [p, q] := by
    intro Z
    have hA : (ptrs (L.take i) ++ Z).take i = ptrs (L.take i) := by rw [List.take_append_of_le_length (by omega), List.take_of_length_le (by omega)]
    have h2 : (ptrs (L.take i) ++ ptrs [p, q]).length = i + 2 := by rw [List.length_append, hll]; rfl
    rw [hA, List.take_append_of_le_length (by omega), List.take_of_length_le (by omega)]
  have hlenA := hoA.length
  have hd : ∀ Y : List Value, Y.length = (L.length + 1) * 1 → Y.drop (i + 2 + (ptrs (L.drop (i + 1))).length) = [] := fun Y hY => List.drop_of_length_le (by rw [hY, ptrs_length, List.length_drop]; omega)
  rw [hz, hd _ hlenA, List.append_nil] at hoB
  have hfin : ptrs (L.take i) ++ ptrs [p, q] ++ ptrs (L.drop (i + 1)) = ptrs (replL L i p q) := by unfold replL; rw [ptrs_append, ptrs_append]
  rw [hfin] at hoB
  have hrl : (replL L i p q).length = L.length + 1 := by unfold replL; simp; omega
  have HRES : Hid (OwnP wB (.slice (some ⟨w.heap.size, 0, none⟩) (L.length + 1) (c + 1)) (replL L i p q)) := by
    show OwnP _ _ _
    unfold OwnP
    rw [hrl]
    exact hoB
  have hgi : (goInt (ptrs (L.drop (i + 1))).length) = (.int .i64 ((L.length - (i + 1) : Nat) : Int)) := by rw [ptrs_length, List.length_drop]; rfl
  have hgi2 : (goInt (ptrs [p, q]).length) = (.int .i64 2) := rfl
  rw [hgi] at hc2
  rw [hgi2] at hc1
  have HKK : Hid (Keeps [g] w wB) := by
    have h1 : Below w.heap.size w wA := hB3.trans (hkA.below hB3.size (fun k hk => by simp at hk; omega))
    have h2 : Below w.heap.size w wB := h1.drew.trans (hkB.below h1.size (fun k hk => by simp at hk; omega))
    exact h2.keep
  have HRR := Lib.hid hr
  rw [show w.drew.heap.size = w.heap.size from rfl] at hc1 hc2
  clear hr hown hw3 hoA hoB hkA hkB hsA hsB hgA hg3 hh3 hz hd hlenA hfin hrl hgi hgi2 hB3 hll
  go_wp2_with ((at_builtin; refine wpList_append_run rfl rfl rfl rfl HRR.out ?_))
  refine wp_region_ord [(0,0),(1,0),(2,0),(3,0),(4,0),(5,0),(6,0),(7,0),(8,0),(9,3)] (by kernel_rfl) (by kernel_rfl) ?_
  simp only [pickO, List.map_cons, List.map_nil, List.getD_cons_zero, List.getD_cons_succ]
  repeat (first | ((with_reducible refine wpO_skip ?_ ?_); rfl; simp only [Act.put, List.setIfInBounds_toArray, List.set_cons_zero, List.set_cons_succ]) | ((with_reducible refine wpO_step (fun K hK => ?_)); go_simp; (try go_bits); (first | (with_reducible refine hK _ _ ?_) | (simp only [IntWalk.iteOmega]; go_simp; (try go_bits); (with_reducible refine hK _ _ ?_))); clear hK K))
  (with_reducible refine wpO_nil ?_)
  go_wp2
  go_ret
  exact ⟨_, rfl, HRES.out, fun y hy => .inr (by simp [fpv] at hy; omega), HKK.out⟩

/-- slices.Replace(l, i, i+1, p, q). -/
theorem replace_calls (w : World) (v : Value) (h : Nat) (L : List Nat) (i p q : Nat) (hi : i < L.length) (ho : OwnP w v L) (hm : L.length ≤ 1000) (hgh : h ∉ fpv v)
    {tt : TypeId} (hh : w.heap[h]? = some (.cells #[.pointer (some ⟨p, 0, none⟩), .pointer (some ⟨q, 0, none⟩)] tt (0, 0))) :
    Calls Tryz.prog 128 #[v, .int .i64 i, .int .i64 ((i : Int) + 1), .slice (some ⟨h, 0, none⟩) 2 2] w (ReplRes w v (replL L i p q)) := by
  obtain ⟨g, cap, rfl, hle, hcm, hfp, _⟩ := ho.row (by omega)
  have hne : g ≠ h := fun he => hgh (by rw [hfp, he]; simp)
  by_cases h1 : i + 1 = L.length
  · exact replace_last w g cap h L i p q h1 ho hm (by simp [World.cell?, hh]) (by simp [World.cell?, hh])
  · by_cases h2 : L.length + 1 ≤ cap + 1
    · exact replace_room w g cap h L i p q (by omega) h2 ho hm hne hh
    · exact replace_grow w g cap h L i p q (by omega) hne (by omega) ho hm hh
end Go.Proofs.Tc
