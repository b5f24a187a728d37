import Derived.Test.YtjjnbanlofhhnaaGreatD8
namespace Go.Proofs.Tc
open Go.RowKit Go.Sort
attribute [local go_sem] stepO_0 stepO_1 stepO_2 stepO_3 stepV_0 stepV_1 stepV_2 stepV_3 stepV_5

/-- The bucket at i makes way for two. -/
def replL {α : Type} (L : List α) (i : Nat) (p q : α) : List α := L.take i ++ [p, q] ++ L.drop (i + 1)
theorem ptrs_append (a b : List Nat) : ptrs (a ++ b) = ptrs a ++ ptrs b := by simp [ptrs]
theorem ptrs_take (L : List Nat) (i : Nat) : (ptrs L).take i = ptrs (L.take i) := by simp [ptrs, List.map_take]
theorem ptrs_drop (L : List Nat) (i : Nat) : (ptrs L).drop i = ptrs (L.drop i) := by simp [ptrs, List.map_drop]
theorem ptrs_one (L : List Nat) : ∀ u ∈ ptrs L, u.oneCell' = true := by
  intro u hu
  obtain ⟨x, _, rfl⟩ := List.mem_map.1 hu
  rfl
theorem own_heap {w : World} {e : TypeId} {size g n cap : Nat} {xs : List Value} (h : Own w e size (.slice (some ⟨g, 0, none⟩) n (cap + 1)) n xs) : ∃ cur, w.heap[g]? = some (.cells cur e (0, 0)) := by
  rcases h with ⟨a, hv, _⟩ | ⟨g', cap', cur, hv, _, _, h3, _⟩
  · injection hv with _ _ hc; omega
  · injection hv with ha _ hc
    injection ha with ha
    injection ha with hb' _ _
    subst hb'
    exact ⟨cur, h3⟩
theorem size74 (w : World) : (Go.sizeOf 74).run Tryz.prog w = .ok 1 w := by
  obtain ⟨j, hj, _, hs, _⟩ := info_parts Ep.i
  simp [sizeOf, typeInfo, hj, hs]
theorem overlap_run (w : World) (g h o : Nat) (cur : Array Value) (a b : Value) (hg : w.heap[g]? = some (.cells cur 74 (0, 0))) {tt : TypeId} (hh : w.heap[h]? = some (.cells #[a, b] tt (0, 0))) (hgh : g ≠ h) :
    ∀ lb cb ld cd, (callFunc 149 #[.slice (some ⟨g, o, none⟩) lb cb, .slice (some ⟨h, 0, none⟩) ld cd]).run Tryz.prog w = .ok (.value (.bool false)) w := by
  intro lb cb ld cd
  have hsA : w.shape? g = some (74, cur.size) := by simp [World.shape?, hg]
  have hsB : w.shape? h = some (tt, 2) := by simp [World.shape?, hh]
  have hfA : w.frozen? ⟨g, o, none⟩ = false := unfrozen0 hg o
  have hfE : w.frozen? ⟨g, cur.size, none⟩ = false := unfrozen0 hg _
  rw [run_callFunc_extern Tryz.func149 (by kernel_rfl) (by kernel_rfl) (by kernel_rfl) (e := Extern.SlicesOverlaps.overlaps #[88, 88] #[4]) (by kernel_rfl),
    Lib.run_overlaps_apart w 88 4 74 Tryz.underlying88 1 size74 ⟨g, o, none⟩ ⟨h, 0, none⟩ lb cb ld cd hgh 74 tt cur.size 2 hsA hsB (by omega) hfA hfE]
  rfl
theorem own_more {w : World} {e : TypeId} {g n cap : Nat} {xs : List Value} (h : Own w e 1 (.slice (some ⟨g, 0, none⟩) n (cap + 1)) n xs) (hn : n + 1 ≤ cap + 1) : ∃ u, Own w e 1 (.slice (some ⟨g, 0, none⟩) (n + 1) (cap + 1)) (n + 1) (xs ++ [u]) := by
  rcases h with ⟨a, hv, _⟩ | ⟨g', cap', cur, hv, h1, h2, h3, h4, h5, h6⟩
  · injection hv with _ _ hc; omega
  · injection hv with ha _ hc
    injection ha with ha
    injection ha with hb' _ _
    injection hc with hc
    subst hb' hc
    simp only [Nat.mul_one] at h4 h5 h6
    have hl : n < cur.toList.length := by simp; omega
    refine ⟨cur.toList[n], .inr ⟨g, cap, cur, rfl, hn, h2, h3, by omega, by simp [h5], ?_⟩⟩
    rw [Nat.mul_one, List.take_succ_eq_append_getElem hl, h6]
def ReplRes (w : World) (v : Value) (L' : List Nat) (e : Ending) (w' : World) : Prop := ∃ v', e = .returned v' ∧ OwnP w' v' L' ∧ (∀ g ∈ fpv v', g ∈ fpv v ∨ w.heap.size ≤ g) ∧ Keeps (fpv v) w w'
set_option maxRecDepth 100000 in
set_option maxHeartbeats 400000 in
theorem replace_last (w : World) (g cap h : Nat) (L : List Nat) (i p q : Nat) (hi : i + 1 = L.length) (ho : OwnP w (.slice (some ⟨g, 0, none⟩) L.length (cap + 1)) L) (hm : L.length ≤ 1000)
    (h0 : w.cell? ⟨h, 0, none⟩ = some (.pointer (some ⟨p, 0, none⟩))) (h1 : w.cell? ⟨h, 1, none⟩ = some (.pointer (some ⟨q, 0, none⟩))) :
    Calls Tryz.prog 128 #[.slice (some ⟨g, 0, none⟩) L.length (cap + 1), .int .i64 i, .int .i64 ((i : Int) + 1), .slice (some ⟨h, 0, none⟩) 2 2] w (ReplRes w (.slice (some ⟨g, 0, none⟩) L.length (cap + 1)) (replL L i p q)) := by
  obtain ⟨hle, hmx⟩ := ho.le
  have hcut : Own w 74 1 (.slice (some ⟨g, 0, none⟩) i (cap + 1)) i (ptrs (L.take i)) := by
    have := ho.cut (i := i) (by omega)
    rw [Nat.mul_one, ptrs_take] at this
    exact this
  have hnews : ∀ (j : Nat) (u : Value), (ptrs [p, q])[j]? = some u → w.cell? ((⟨h, 0, none⟩ : Addr).add j) = some u := by
    intro j u hu
    rw [show (⟨h, 0, none⟩ : Addr).add j = ⟨h, j, none⟩ by unfold Addr.add; split <;> simp_all]
    match j, hu with
    | 0, hu => simp [ptrs] at hu; rw [← hu]; exact h0
    | 1, hu => simp [ptrs] at hu; rw [← hu]; exact h1
    | j + 2, hu => simp [ptrs] at hu
  have hr : replL L i p q = L.take i ++ [p, q] := by unfold replL; rw [List.drop_of_length_le (by omega), List.append_nil]
  have hll : (L.take i).length = i := by rw [List.length_take]; omega
  have hlen : (replL L i p q).length = i + 2 := by rw [hr, List.length_append, hll]; rfl
  have HC := Lib.hid hcut
  have HN := Lib.hid hnews
  have HR := Lib.hid hr
  have HLN := Lib.hid hlen
  have HI := Lib.hid hi
  have hiL : (L.length : Int) = (i : Int) + 1 := by omega
  have hiL' : L.length = i + 1 := hi.symm
  clear hcut hnews hr hll hlen ho hi
  rw [hiL']
  go_enter Tryz.func128, Tryz.ntmps128
  go_wp2_with ((at_builtin; refine wpList_append' rfl rfl Ep rfl HC.out (ptrs [p, q]) rfl rfl HN.out (ptrs_one _) (by unfold maxLen; omega) (by omega) ?_; intro v' w3 ho' hk' hf' hz'; obtain ⟨a', cap', rfl, _⟩ := ho'.shape))
  go_ret
  have hf2 : ∀ y ∈ fpv (.slice a' (i + 2) cap'), y ∈ [g] ∨ y = w.heap.size := hf'
  have hk2 : Keeps [g] w w3 := hk'
  refine ⟨_, rfl, ?_, fun y hy => (hf2 y hy).imp id (fun h => by omega), hk2⟩
  unfold OwnP
  rw [HLN.out, HR.out, ptrs_append]
  exact ho'
set_option maxRecDepth 100000 in
set_option maxHeartbeats 400000 in
theorem replace_room (w : World) (g cap h : Nat) (L : List Nat) (i p q : Nat) (hi : i + 1 < L.length) (hc : L.length + 1 ≤ cap + 1) (ho : OwnP w (.slice (some ⟨g, 0, none⟩) L.length (cap + 1)) L) (hm : L.length ≤ 1000) (hgh : g ≠ h)
    {tt : TypeId} (hh : w.heap[h]? = some (.cells #[.pointer (some ⟨p, 0, none⟩), .pointer (some ⟨q, 0, none⟩)] tt (0, 0))) :
    Calls Tryz.prog 128 #[.slice (some ⟨g, 0, none⟩) L.length (cap + 1), .int .i64 i, .int .i64 ((i : Int) + 1), .slice (some ⟨h, 0, none⟩) 2 2] w (ReplRes w (.slice (some ⟨g, 0, none⟩) L.length (cap + 1)) (replL L i p q)) := by
  obtain ⟨hle, hmx⟩ := ho.le
  have hne1 : ((i : Int) + 1 == (L.length : Int)) = false := by simp; omega
  have hne2 : ((i : Int) == (i : Int) + 1) = false := by simp; omega
  go_enter Tryz.func128, Tryz.ntmps128
  go_wp2_with fail
  have htot : (i : Int) + 2 + ((L.length - (i + 1) : Nat) : Int) = ((L.length + 1 : Nat) : Int) := by omega
  refine wp_region_ord [(0,0),(1,0),(2,0),(3,0),(4,0),(5,0),(6,0),(7,0),(8,0),(9,0),(10,0),(11,0),(12,0)] (by kernel_rfl) (by kernel_rfl) ?_
  simp only [pickO, List.map_cons, List.map_nil, List.getD_cons_zero, List.getD_cons_succ]
  repeat (first | ((with_reducible refine wpO_skip ?_ ?_); rfl; simp only [Act.put, List.setIfInBounds_toArray, List.set_cons_zero, List.set_cons_succ]) | ((with_reducible refine wpO_step (fun K hK => ?_)); go_simp; (try go_bits); (first | (with_reducible refine hK _ _ ?_) | (simp only [IntWalk.iteOmega]; go_simp; (try go_bits); (with_reducible refine hK _ _ ?_))); clear hK K))
  (with_reducible refine wpO_nil ?_)
  have hcap : ¬ ((cap : Int) + 1 < (L.length : Int) + 1) := by omega
  have hov : ∀ lb cb ld cd, (callFunc 149 #[.slice (some ⟨g, i + 2, none⟩) lb cb, .slice (some ⟨h, 0, none⟩) ld cd]).run Tryz.prog w.drew = .ok (.value (.bool false)) w.drew := by
    obtain ⟨cur, hcur⟩ := own_heap ho
    exact overlap_run w.drew g h (i + 2) cur _ _ hcur hh hgh
  have HO := Lib.hid ho
  clear ho
  obtain ⟨u, hou⟩ := own_more HO.out.drew.drew hc
  obtain ⟨wA, hc1, hoA, hkA, hsA⟩ := own_copy Ep hou (i + 2) (L.length - (i + 1)) ⟨g, i + 1, none⟩ (L.length - (i + 1)) (ptrs (L.drop (i + 1))) (by rw [ptrs_length, List.length_drop]; simp) (fun j u hu => HO.out.drew.drew.cell' (by rw [ptrs_drop]; exact hu)) (ptrs_one _) (by rw [ptrs_length, List.length_drop]; omega)
  have hxs : ∀ u : Value, (ptrs L ++ [u]).take (i + 2) ++ ptrs (L.drop (i + 1)) ++ (ptrs L ++ [u]).drop (i + 2 + (ptrs (L.drop (i + 1))).length) = (ptrs L ++ [u]).take (i + 2) ++ ptrs (L.drop (i + 1)) := by
    intro u
    have hd : (ptrs L ++ [u]).drop (i + 2 + (ptrs (L.drop (i + 1))).length) = [] := List.drop_of_length_le (by rw [List.length_append, ptrs_length, ptrs_length, List.length_drop]; simp; omega)
    rw [hd, List.append_nil]
  rw [hxs u] at hoA
  have hgi : (goInt (ptrs (L.drop (i + 1))).length) = (.int .i64 ((L.length - (i + 1) : Nat) : Int)) := by rw [ptrs_length, List.length_drop]; rfl
  rw [hgi] at hc1
  have hhA : wA.heap[h]? = some (.cells #[.pointer (some ⟨p, 0, none⟩), .pointer (some ⟨q, 0, none⟩)] tt (0, 0)) := (hkA.block h (Array.getElem?_eq_some_iff.1 hh).1 (fun hm => hgh (by simp at hm; exact hm.symm))).trans hh
  obtain ⟨wB, hc2, hoB, hkB, hsB⟩ := own_copy Ep hoA i (L.length + 1 - i) ⟨h, 0, none⟩ 2 (ptrs [p, q]) (by show 2 = min 2 (L.length + 1 - i); rw [Nat.min_eq_left (by omega)]) (by
    intro j u hu
    rw [show (⟨h, 0, none⟩ : Addr).add j = ⟨h, j, none⟩ by unfold Addr.add; split <;> simp_all]
    unfold World.cell?
    rw [hhA]
    match j, hu with
    | 0, hu => simp [ptrs] at hu; simp [hu]
    | 1, hu => simp [ptrs] at hu; simp [hu]
    | j + 2, hu => simp [ptrs] at hu) (ptrs_one _) (by show i + 2 ≤ L.length + 1; omega)
  have hfin : ((ptrs L ++ [u]).take (i + 2) ++ ptrs (L.drop (i + 1))).take i ++ ptrs [p, q] ++ ((ptrs L ++ [u]).take (i + 2) ++ ptrs (L.drop (i + 1))).drop (i + (ptrs [p, q]).length) = ptrs (replL L i p q) := by
    have h1 : ((ptrs L ++ [u]).take (i + 2)).length = i + 2 := by simp [ptrs_length]; omega
    unfold replL
    rw [ptrs_append, ptrs_append, ← ptrs_take]
    congr 1
    · congr 1
      rw [List.take_append_of_le_length (by omega), List.take_take, Nat.min_eq_left (by omega), List.take_append_of_le_length (by rw [ptrs_length]; omega)]
    · rw [show (ptrs [p, q]).length = 2 from rfl, List.drop_append_of_le_length (by omega), List.drop_of_length_le (by omega), List.nil_append]
  rw [hfin] at hoB
  have hrl : (replL L i p q).length = L.length + 1 := by unfold replL; simp; omega
  have HRES : Hid (OwnP wB (.slice (some ⟨g, 0, none⟩) (L.length + 1) (cap + 1)) (replL L i p q)) := by
    show OwnP _ _ _
    unfold OwnP
    rw [hrl]
    exact hoB
  have hgi2 : (goInt (ptrs [p, q]).length) = (.int .i64 2) := rfl
  rw [hgi2] at hc2
  have HKK := Lib.hid (((Keeps.refl [g] w).drew.drew.trans hkA).trans hkB)
  clear hou hoA hkA hsA hhA hoB hkB hsB hxs hgi hgi2 hfin hrl
  go_wp2_with fail
  refine wp_region_ord [(0,0),(1,0),(2,0),(3,0),(4,0),(5,0),(6,0),(7,0),(8,0),(9,3)] (by kernel_rfl) (by kernel_rfl) ?_
  simp only [pickO, List.map_cons, List.map_nil, List.getD_cons_zero, List.getD_cons_succ]
  repeat (first | ((with_reducible refine wpO_skip ?_ ?_); rfl; simp only [Act.put, List.setIfInBounds_toArray, List.set_cons_zero, List.set_cons_succ]) | ((with_reducible refine wpO_step (fun K hK => ?_)); go_simp; (try go_bits); (first | (with_reducible refine hK _ _ ?_) | (simp only [IntWalk.iteOmega]; go_simp; (try go_bits); (with_reducible refine hK _ _ ?_))); clear hK K))
  (with_reducible refine wpO_nil ?_)
  go_wp2
  go_ret
  exact ⟨_, rfl, HRES.out, fun y hy => .inl hy, HKK.out⟩
end Go.Proofs.Tc
