import Derived.Test.YtjjnbanlofhhnaaGreatD10
namespace Go.Proofs.Tc
open Go.RowKit Go.Sort
attribute [local go_sem] stepO_0 stepO_1 stepO_2 stepO_3 stepV_0 stepV_1 stepV_2 stepV_3 stepV_5
theorem meth4 (w : World) : (method 354 188 (.agg #[]) "covey/addr.size").run Tryz.prog w = .ok (187, .agg #[]) w := by kernel_rfl
theorem meth6 (w : World) : (method 354 189 (.agg #[]) "covey/addr.size").run Tryz.prog w = .ok (192, .agg #[]) w := by kernel_rfl
theorem size4_calls (w : World) : Calls Tryz.prog 187 #[.agg #[]] w (Ret w (.int .i64 4)) := by
  go_enter Tryz.func187, Tryz.ntmps187
  go_wp2
  go_ret
  exact ⟨rfl, by go_grown⟩
theorem size6_calls (w : World) : Calls Tryz.prog 192 #[.agg #[]] w (Ret w (.int .i64 16)) := by
  go_enter Tryz.func192, Tryz.ntmps192
  go_wp2
  go_ret
  exact ⟨rfl, by go_grown⟩
def famV (f : Int) : Value := if f = 4 then .iface 188 (.agg #[]) else if f = 6 then .iface 189 (.agg #[]) else .nilIface
theorem families_calls (w : World) (f : Int) : Calls Tryz.prog 96 #[.int .i64 f] w (Ret w (famV f)) := by
  go_enter Tryz.func96, Tryz.ntmps96
  by_cases h4 : f = 4
  · subst h4
    go_wp2
    go_ret
    exact ⟨rfl, Below.refl _ _⟩
  · by_cases h6 : f = 6
    · subst h6
      go_wp2
      go_ret
      exact ⟨rfl, Below.refl _ _⟩
    · have e4 : (f == 4) = false := by simpa using h4
      have e6 : (f == 6) = false := by simpa using h6
      have hv : famV f = .nilIface := by unfold famV; rw [if_neg h4, if_neg h6]
      rw [hv]
      go_wp2
      go_ret
      exact ⟨rfl, Below.refl _ _⟩
theorem tell_ok (w : World) (t : Nat) (own : Value) (old now : Int) (b : Bool) (m : Value) (hh : w.heap[t]? = some (.cells #[own, .int .i64 old, m] 68 (0, 0))) (h1 : old ≤ now) (h2 : now ≤ 1000000000) :
    Calls Tryz.prog 25 #[.pointer (some ⟨t, 0, none⟩), .int .i64 now, .int .i64 (famN b)] w fun e w' => e = .returned (.int .i64 0) ∧ w' = w.setCell ⟨t, 1, none⟩ (.int .i64 now) := by
  obtain ⟨c0, c1, c2⟩ := cells3 hh
  have u1 := unfrozen0 hh 1
  have lt : t < w.heap.size := (Array.getElem?_eq_some_iff.1 hh).1
  have h1' : decide (now < old) = false := by simpa using h1
  have h2' : decide (1000000000 < now) = false := by simpa using h2
  clear hh
  cases b
  · show Calls Tryz.prog 25 #[.pointer (some ⟨t, 0, none⟩), .int .i64 now, .int .i64 4] w _
    go_enter Tryz.func25, Tryz.ntmps25
    go_wp2
    all_goals first | (go_ret; exact ⟨rfl, rfl⟩) | (exfalso; simp_all; omega)
  · show Calls Tryz.prog 25 #[.pointer (some ⟨t, 0, none⟩), .int .i64 now, .int .i64 6] w _
    go_enter Tryz.func25, Tryz.ntmps25
    go_wp2
    all_goals first | (go_ret; exact ⟨rfl, rfl⟩) | (exfalso; simp_all; omega)
theorem tell_no (w : World) (t : Nat) (own : Value) (old now f : Int) (m : Value) (hh : w.heap[t]? = some (.cells #[own, .int .i64 old, m] 68 (0, 0))) (h1 : now < old ∨ 1000000000 < now ∨ (f ≠ 4 ∧ f ≠ 6)) :
    Calls Tryz.prog 25 #[.pointer (some ⟨t, 0, none⟩), .int .i64 now, .int .i64 f] w fun e w' => e = .returned (.int .i64 7) ∧ w' = w := by
  obtain ⟨c0, c1, c2⟩ := cells3 hh
  have u1 := unfrozen0 hh 1
  have lt : t < w.heap.size := (Array.getElem?_eq_some_iff.1 hh).1
  clear hh
  by_cases ha : now < old
  · clear h1
    go_enter Tryz.func25, Tryz.ntmps25
    go_wp2
    all_goals first | (go_ret; exact ⟨rfl, rfl⟩) | (exfalso; simp_all; omega)
  · by_cases hb : 1000000000 < now
    · clear h1
      go_enter Tryz.func25, Tryz.ntmps25
      go_wp2
      all_goals first | (go_ret; exact ⟨rfl, rfl⟩) | (exfalso; simp_all; omega)
    · have hc : f ≠ 4 ∧ f ≠ 6 := by omega
      have e4 : (f == 4) = false := by simpa using hc.1
      have e6 : (f == 6) = false := by simpa using hc.2
      have n4 : (f != 4) = true := by simpa using hc.1
      have n6 : (f != 6) = true := by simpa using hc.2
      clear h1 hc
      go_enter Tryz.func25, Tryz.ntmps25
      go_wp2
      all_goals first | (go_ret; exact ⟨rfl, rfl⟩) | (exfalso; simp_all; omega)
/-- Whether an address is one. -/
def addrOk (f : Int) (ip : ByteArray) (port : Int) : Bool := ((f == 4 && (ip.size : Int) == 4) || (f == 6 && (ip.size : Int) == 16)) && decide (1 ≤ port ∧ port ≤ 65535)
set_option maxHeartbeats 2000000 in
theorem addrvalid_calls (w : World) (f port : Int) (ip : ByteArray) : Calls Tryz.prog 56 #[.agg #[.int .i64 f, .string ip, .int .i64 port]] w (Ret w (.bool (addrOk f ip port))) := by
  by_cases h4 : f = 4
  · subst h4
    by_cases hs : (ip.size : Int) = 4
    · by_cases hp : 1 ≤ port
      · by_cases hq : port ≤ 65535
        · have hs' : ((ip.size : Int) == 4) = true := by simpa using hs
          go_enter Tryz.func56, Tryz.ntmps56
          go_wp2_with fail
          refine (families_calls _ _).mono ?_; rintro e1 w1 ⟨rfl, hb1⟩
          rw [show famV 4 = .iface 188 (.agg #[]) from rfl]
          rw [World.size_alloc] at hb1
          have hx := cells3 (heap_box hb1)
          have hm := meth4
          go_wp2_with fail
          refine wp_region_ord [(0,0),(1,0),(2,0),(3,0),(4,1),(5,0),(6,0),(7,2),(8,0),(9,0),(10,0),(11,0),(12,1),(13,0),(14,0),(15,0),(16,0),(17,1),(18,0),(19,0),(20,0)] (by kernel_rfl) (by kernel_rfl) ?_
          simp only [pickO, List.map_cons, List.map_nil, List.getD_cons_zero, List.getD_cons_succ]
          repeat (first | ((with_reducible refine wpO_skip ?_ ?_); rfl; simp only [Act.put, List.setIfInBounds_toArray, List.set_cons_zero, List.set_cons_succ]) | ((with_reducible refine wpO_step (fun K hK => ?_)); go_simp; (try go_bits); (first | (with_reducible refine hK _ _ ?_) | (simp only [IntWalk.iteOmega]; go_simp; (try go_bits); (with_reducible refine hK _ _ ?_))); clear hK K))
          (with_reducible refine wpO_step (fun K hK => ?_)); go_simp; (try go_bits)
          refine (size4_calls _).mono ?_; rintro e2 w2 ⟨rfl, hb2⟩
          refine ⟨hb2, ?_⟩
          (with_reducible refine hK _ _ ?_); clear hK K
          have hlt := World.block_lt_of_cell? w1 _ hx.1
          have hB2 : Below w1.heap.size w1 w2 := (Below.refl _ w1).drew.trans hb2
          have hy2 := (hB2.cell (p := ⟨w.heap.size, 2, none⟩) (by exact hlt)).trans hx.2.2
          clear hx hlt
          repeat (first | ((with_reducible refine wpO_skip ?_ ?_); rfl; simp only [Act.put, List.setIfInBounds_toArray, List.set_cons_zero, List.set_cons_succ]) | ((with_reducible refine wpO_step (fun K hK => ?_)); go_simp; (try go_bits); (first | (with_reducible refine hK _ _ ?_) | (simp only [IntWalk.iteOmega]; go_simp; (try go_bits); (with_reducible refine hK _ _ ?_))); clear hK K))
          (with_reducible refine wpO_nil ?_)
          go_wp2
          go_ret
          exact Ret.bool rfl (by unfold addrOk; rw [hs']; first | rfl | (simp; done) | (simp; omega)) (((below_new (Below.refl _ w) _).trans (hb1.mono (by simp))).trans (hB2.mono (by have := hb1.size; simp at this; omega)))
        · have hs' : ((ip.size : Int) == 4) = true := by simpa using hs
          go_enter Tryz.func56, Tryz.ntmps56
          go_wp2_with fail
          refine (families_calls _ _).mono ?_; rintro e1 w1 ⟨rfl, hb1⟩
          rw [show famV 4 = .iface 188 (.agg #[]) from rfl]
          rw [World.size_alloc] at hb1
          have hx := cells3 (heap_box hb1)
          have hm := meth4
          go_wp2_with fail
          refine wp_region_ord [(0,0),(1,0),(2,0),(3,0),(4,1),(5,0),(6,0),(7,2),(8,0),(9,0),(10,0),(11,0),(12,1),(13,0),(14,0),(15,0),(16,0),(17,1),(18,0),(19,0),(20,0)] (by kernel_rfl) (by kernel_rfl) ?_
          simp only [pickO, List.map_cons, List.map_nil, List.getD_cons_zero, List.getD_cons_succ]
          repeat (first | ((with_reducible refine wpO_skip ?_ ?_); rfl; simp only [Act.put, List.setIfInBounds_toArray, List.set_cons_zero, List.set_cons_succ]) | ((with_reducible refine wpO_step (fun K hK => ?_)); go_simp; (try go_bits); (first | (with_reducible refine hK _ _ ?_) | (simp only [IntWalk.iteOmega]; go_simp; (try go_bits); (with_reducible refine hK _ _ ?_))); clear hK K))
          (with_reducible refine wpO_step (fun K hK => ?_)); go_simp; (try go_bits)
          refine (size4_calls _).mono ?_; rintro e2 w2 ⟨rfl, hb2⟩
          refine ⟨hb2, ?_⟩
          (with_reducible refine hK _ _ ?_); clear hK K
          have hlt := World.block_lt_of_cell? w1 _ hx.1
          have hB2 : Below w1.heap.size w1 w2 := (Below.refl _ w1).drew.trans hb2
          have hy2 := (hB2.cell (p := ⟨w.heap.size, 2, none⟩) (by exact hlt)).trans hx.2.2
          clear hx hlt
          repeat (first | ((with_reducible refine wpO_skip ?_ ?_); rfl; simp only [Act.put, List.setIfInBounds_toArray, List.set_cons_zero, List.set_cons_succ]) | ((with_reducible refine wpO_step (fun K hK => ?_)); go_simp; (try go_bits); (first | (with_reducible refine hK _ _ ?_) | (simp only [IntWalk.iteOmega]; go_simp; (try go_bits); (with_reducible refine hK _ _ ?_))); clear hK K))
          (with_reducible refine wpO_nil ?_)
          go_wp2
          go_ret
          exact Ret.bool rfl (by unfold addrOk; rw [hs']; first | rfl | (simp; done) | (simp; omega)) (((below_new (Below.refl _ w) _).trans (hb1.mono (by simp))).trans (hB2.mono (by have := hb1.size; simp at this; omega)))
      · have hs' : ((ip.size : Int) == 4) = true := by simpa using hs
        go_enter Tryz.func56, Tryz.ntmps56
        go_wp2_with fail
        refine (families_calls _ _).mono ?_; rintro e1 w1 ⟨rfl, hb1⟩
        rw [show famV 4 = .iface 188 (.agg #[]) from rfl]
        rw [World.size_alloc] at hb1
        have hx := cells3 (heap_box hb1)
        have hm := meth4
        go_wp2_with fail
        refine wp_region_ord [(0,0),(1,0),(2,0),(3,0),(4,1),(5,0),(6,0),(7,2),(8,0),(9,0),(10,0),(11,0),(12,1),(13,0),(14,0),(15,0),(16,0),(17,1),(18,0),(19,0),(20,0)] (by kernel_rfl) (by kernel_rfl) ?_
        simp only [pickO, List.map_cons, List.map_nil, List.getD_cons_zero, List.getD_cons_succ]
        repeat (first | ((with_reducible refine wpO_skip ?_ ?_); rfl; simp only [Act.put, List.setIfInBounds_toArray, List.set_cons_zero, List.set_cons_succ]) | ((with_reducible refine wpO_step (fun K hK => ?_)); go_simp; (try go_bits); (first | (with_reducible refine hK _ _ ?_) | (simp only [IntWalk.iteOmega]; go_simp; (try go_bits); (with_reducible refine hK _ _ ?_))); clear hK K))
        (with_reducible refine wpO_step (fun K hK => ?_)); go_simp; (try go_bits)
        refine (size4_calls _).mono ?_; rintro e2 w2 ⟨rfl, hb2⟩
        refine ⟨hb2, ?_⟩
        (with_reducible refine hK _ _ ?_); clear hK K
        have hlt := World.block_lt_of_cell? w1 _ hx.1
        have hB2 : Below w1.heap.size w1 w2 := (Below.refl _ w1).drew.trans hb2
        have hy2 := (hB2.cell (p := ⟨w.heap.size, 2, none⟩) (by exact hlt)).trans hx.2.2
        clear hx hlt
        repeat (first | ((with_reducible refine wpO_skip ?_ ?_); rfl; simp only [Act.put, List.setIfInBounds_toArray, List.set_cons_zero, List.set_cons_succ]) | ((with_reducible refine wpO_step (fun K hK => ?_)); go_simp; (try go_bits); (first | (with_reducible refine hK _ _ ?_) | (simp only [IntWalk.iteOmega]; go_simp; (try go_bits); (with_reducible refine hK _ _ ?_))); clear hK K))
        (with_reducible refine wpO_nil ?_)
        go_wp2
        go_ret
        exact Ret.bool rfl (by unfold addrOk; rw [hs']; first | rfl | (simp; done) | (simp; omega)) (((below_new (Below.refl _ w) _).trans (hb1.mono (by simp))).trans (hB2.mono (by have := hb1.size; simp at this; omega)))
    · have hs' : ((ip.size : Int) == 4) = false := by simpa using hs
      go_enter Tryz.func56, Tryz.ntmps56
      go_wp2_with fail
      refine (families_calls _ _).mono ?_; rintro e1 w1 ⟨rfl, hb1⟩
      rw [show famV 4 = .iface 188 (.agg #[]) from rfl]
      rw [World.size_alloc] at hb1
      have hx := cells3 (heap_box hb1)
      have hm := meth4
      go_wp2_with fail
      refine wp_region_ord [(0,0),(1,0),(2,0),(3,0),(4,1),(5,0),(6,0),(7,2),(8,0),(9,0),(10,0),(11,0),(12,1),(13,0),(14,0),(15,0),(16,0),(17,1),(18,0),(19,0),(20,0)] (by kernel_rfl) (by kernel_rfl) ?_
      simp only [pickO, List.map_cons, List.map_nil, List.getD_cons_zero, List.getD_cons_succ]
      repeat (first | ((with_reducible refine wpO_skip ?_ ?_); rfl; simp only [Act.put, List.setIfInBounds_toArray, List.set_cons_zero, List.set_cons_succ]) | ((with_reducible refine wpO_step (fun K hK => ?_)); go_simp; (try go_bits); (first | (with_reducible refine hK _ _ ?_) | (simp only [IntWalk.iteOmega]; go_simp; (try go_bits); (with_reducible refine hK _ _ ?_))); clear hK K))
      (with_reducible refine wpO_step (fun K hK => ?_)); go_simp; (try go_bits)
      refine (size4_calls _).mono ?_; rintro e2 w2 ⟨rfl, hb2⟩
      refine ⟨hb2, ?_⟩
      (with_reducible refine hK _ _ ?_); clear hK K
      have hlt := World.block_lt_of_cell? w1 _ hx.1
      have hB2 : Below w1.heap.size w1 w2 := (Below.refl _ w1).drew.trans hb2
      have hy2 := (hB2.cell (p := ⟨w.heap.size, 2, none⟩) (by exact hlt)).trans hx.2.2
      clear hx hlt
      repeat (first | ((with_reducible refine wpO_skip ?_ ?_); rfl; simp only [Act.put, List.setIfInBounds_toArray, List.set_cons_zero, List.set_cons_succ]) | ((with_reducible refine wpO_step (fun K hK => ?_)); go_simp; (try go_bits); (first | (with_reducible refine hK _ _ ?_) | (simp only [IntWalk.iteOmega]; go_simp; (try go_bits); (with_reducible refine hK _ _ ?_))); clear hK K))
      (with_reducible refine wpO_nil ?_)
      go_wp2
      go_ret
      exact Ret.bool rfl (by unfold addrOk; rw [hs']; first | rfl | (simp; done) | (simp; omega)) (((below_new (Below.refl _ w) _).trans (hb1.mono (by simp))).trans (hB2.mono (by have := hb1.size; simp at this; omega)))
  · by_cases h6 : f = 6
    · subst h6
      by_cases hs : (ip.size : Int) = 16
      · by_cases hp : 1 ≤ port
        · by_cases hq : port ≤ 65535
          · have hs' : ((ip.size : Int) == 16) = true := by simpa using hs
            go_enter Tryz.func56, Tryz.ntmps56
            go_wp2_with fail
            refine (families_calls _ _).mono ?_; rintro e1 w1 ⟨rfl, hb1⟩
            rw [show famV 6 = .iface 189 (.agg #[]) from rfl]
            rw [World.size_alloc] at hb1
            have hx := cells3 (heap_box hb1)
            have hm := meth6
            go_wp2_with fail
            refine wp_region_ord [(0,0),(1,0),(2,0),(3,0),(4,1),(5,0),(6,0),(7,2),(8,0),(9,0),(10,0),(11,0),(12,1),(13,0),(14,0),(15,0),(16,0),(17,1),(18,0),(19,0),(20,0)] (by kernel_rfl) (by kernel_rfl) ?_
            simp only [pickO, List.map_cons, List.map_nil, List.getD_cons_zero, List.getD_cons_succ]
            repeat (first | ((with_reducible refine wpO_skip ?_ ?_); rfl; simp only [Act.put, List.setIfInBounds_toArray, List.set_cons_zero, List.set_cons_succ]) | ((with_reducible refine wpO_step (fun K hK => ?_)); go_simp; (try go_bits); (first | (with_reducible refine hK _ _ ?_) | (simp only [IntWalk.iteOmega]; go_simp; (try go_bits); (with_reducible refine hK _ _ ?_))); clear hK K))
            (with_reducible refine wpO_step (fun K hK => ?_)); go_simp; (try go_bits)
            refine (size6_calls _).mono ?_; rintro e2 w2 ⟨rfl, hb2⟩
            refine ⟨hb2, ?_⟩
            (with_reducible refine hK _ _ ?_); clear hK K
            have hlt := World.block_lt_of_cell? w1 _ hx.1
            have hB2 : Below w1.heap.size w1 w2 := (Below.refl _ w1).drew.trans hb2
            have hy2 := (hB2.cell (p := ⟨w.heap.size, 2, none⟩) (by exact hlt)).trans hx.2.2
            clear hx hlt
            repeat (first | ((with_reducible refine wpO_skip ?_ ?_); rfl; simp only [Act.put, List.setIfInBounds_toArray, List.set_cons_zero, List.set_cons_succ]) | ((with_reducible refine wpO_step (fun K hK => ?_)); go_simp; (try go_bits); (first | (with_reducible refine hK _ _ ?_) | (simp only [IntWalk.iteOmega]; go_simp; (try go_bits); (with_reducible refine hK _ _ ?_))); clear hK K))
            (with_reducible refine wpO_nil ?_)
            go_wp2
            go_ret
            exact Ret.bool rfl (by unfold addrOk; rw [hs']; first | rfl | (simp; done) | (simp; omega)) (((below_new (Below.refl _ w) _).trans (hb1.mono (by simp))).trans (hB2.mono (by have := hb1.size; simp at this; omega)))
          · have hs' : ((ip.size : Int) == 16) = true := by simpa using hs
            go_enter Tryz.func56, Tryz.ntmps56
            go_wp2_with fail
            refine (families_calls _ _).mono ?_; rintro e1 w1 ⟨rfl, hb1⟩
            rw [show famV 6 = .iface 189 (.agg #[]) from rfl]
            rw [World.size_alloc] at hb1
            have hx := cells3 (heap_box hb1)
            have hm := meth6
            go_wp2_with fail
            refine wp_region_ord [(0,0),(1,0),(2,0),(3,0),(4,1),(5,0),(6,0),(7,2),(8,0),(9,0),(10,0),(11,0),(12,1),(13,0),(14,0),(15,0),(16,0),(17,1),(18,0),(19,0),(20,0)] (by kernel_rfl) (by kernel_rfl) ?_
            simp only [pickO, List.map_cons, List.map_nil, List.getD_cons_zero, List.getD_cons_succ]
            repeat (first | ((with_reducible refine wpO_skip ?_ ?_); rfl; simp only [Act.put, List.setIfInBounds_toArray, List.set_cons_zero, List.set_cons_succ]) | ((with_reducible refine wpO_step (fun K hK => ?_)); go_simp; (try go_bits); (first | (with_reducible refine hK _ _ ?_) | (simp only [IntWalk.iteOmega]; go_simp; (try go_bits); (with_reducible refine hK _ _ ?_))); clear hK K))
            (with_reducible refine wpO_step (fun K hK => ?_)); go_simp; (try go_bits)
            refine (size6_calls _).mono ?_; rintro e2 w2 ⟨rfl, hb2⟩
            refine ⟨hb2, ?_⟩
            (with_reducible refine hK _ _ ?_); clear hK K
            have hlt := World.block_lt_of_cell? w1 _ hx.1
            have hB2 : Below w1.heap.size w1 w2 := (Below.refl _ w1).drew.trans hb2
            have hy2 := (hB2.cell (p := ⟨w.heap.size, 2, none⟩) (by exact hlt)).trans hx.2.2
            clear hx hlt
            repeat (first | ((with_reducible refine wpO_skip ?_ ?_); rfl; simp only [Act.put, List.setIfInBounds_toArray, List.set_cons_zero, List.set_cons_succ]) | ((with_reducible refine wpO_step (fun K hK => ?_)); go_simp; (try go_bits); (first | (with_reducible refine hK _ _ ?_) | (simp only [IntWalk.iteOmega]; go_simp; (try go_bits); (with_reducible refine hK _ _ ?_))); clear hK K))
            (with_reducible refine wpO_nil ?_)
            go_wp2
            go_ret
            exact Ret.bool rfl (by unfold addrOk; rw [hs']; first | rfl | (simp; done) | (simp; omega)) (((below_new (Below.refl _ w) _).trans (hb1.mono (by simp))).trans (hB2.mono (by have := hb1.size; simp at this; omega)))
        · have hs' : ((ip.size : Int) == 16) = true := by simpa using hs
          go_enter Tryz.func56, Tryz.ntmps56
          go_wp2_with fail
          refine (families_calls _ _).mono ?_; rintro e1 w1 ⟨rfl, hb1⟩
          rw [show famV 6 = .iface 189 (.agg #[]) from rfl]
          rw [World.size_alloc] at hb1
          have hx := cells3 (heap_box hb1)
          have hm := meth6
          go_wp2_with fail
          refine wp_region_ord [(0,0),(1,0),(2,0),(3,0),(4,1),(5,0),(6,0),(7,2),(8,0),(9,0),(10,0),(11,0),(12,1),(13,0),(14,0),(15,0),(16,0),(17,1),(18,0),(19,0),(20,0)] (by kernel_rfl) (by kernel_rfl) ?_
          simp only [pickO, List.map_cons, List.map_nil, List.getD_cons_zero, List.getD_cons_succ]
          repeat (first | ((with_reducible refine wpO_skip ?_ ?_); rfl; simp only [Act.put, List.setIfInBounds_toArray, List.set_cons_zero, List.set_cons_succ]) | ((with_reducible refine wpO_step (fun K hK => ?_)); go_simp; (try go_bits); (first | (with_reducible refine hK _ _ ?_) | (simp only [IntWalk.iteOmega]; go_simp; (try go_bits); (with_reducible refine hK _ _ ?_))); clear hK K))
          (with_reducible refine wpO_step (fun K hK => ?_)); go_simp; (try go_bits)
          refine (size6_calls _).mono ?_; rintro e2 w2 ⟨rfl, hb2⟩
          refine ⟨hb2, ?_⟩
          (with_reducible refine hK _ _ ?_); clear hK K
          have hlt := World.block_lt_of_cell? w1 _ hx.1
          have hB2 : Below w1.heap.size w1 w2 := (Below.refl _ w1).drew.trans hb2
          have hy2 := (hB2.cell (p := ⟨w.heap.size, 2, none⟩) (by exact hlt)).trans hx.2.2
          clear hx hlt
          repeat (first | ((with_reducible refine wpO_skip ?_ ?_); rfl; simp only [Act.put, List.setIfInBounds_toArray, List.set_cons_zero, List.set_cons_succ]) | ((with_reducible refine wpO_step (fun K hK => ?_)); go_simp; (try go_bits); (first | (with_reducible refine hK _ _ ?_) | (simp only [IntWalk.iteOmega]; go_simp; (try go_bits); (with_reducible refine hK _ _ ?_))); clear hK K))
          (with_reducible refine wpO_nil ?_)
          go_wp2
          go_ret
          exact Ret.bool rfl (by unfold addrOk; rw [hs']; first | rfl | (simp; done) | (simp; omega)) (((below_new (Below.refl _ w) _).trans (hb1.mono (by simp))).trans (hB2.mono (by have := hb1.size; simp at this; omega)))
      · have hs' : ((ip.size : Int) == 16) = false := by simpa using hs
        go_enter Tryz.func56, Tryz.ntmps56
        go_wp2_with fail
        refine (families_calls _ _).mono ?_; rintro e1 w1 ⟨rfl, hb1⟩
        rw [show famV 6 = .iface 189 (.agg #[]) from rfl]
        rw [World.size_alloc] at hb1
        have hx := cells3 (heap_box hb1)
        have hm := meth6
        go_wp2_with fail
        refine wp_region_ord [(0,0),(1,0),(2,0),(3,0),(4,1),(5,0),(6,0),(7,2),(8,0),(9,0),(10,0),(11,0),(12,1),(13,0),(14,0),(15,0),(16,0),(17,1),(18,0),(19,0),(20,0)] (by kernel_rfl) (by kernel_rfl) ?_
        simp only [pickO, List.map_cons, List.map_nil, List.getD_cons_zero, List.getD_cons_succ]
        repeat (first | ((with_reducible refine wpO_skip ?_ ?_); rfl; simp only [Act.put, List.setIfInBounds_toArray, List.set_cons_zero, List.set_cons_succ]) | ((with_reducible refine wpO_step (fun K hK => ?_)); go_simp; (try go_bits); (first | (with_reducible refine hK _ _ ?_) | (simp only [IntWalk.iteOmega]; go_simp; (try go_bits); (with_reducible refine hK _ _ ?_))); clear hK K))
        (with_reducible refine wpO_step (fun K hK => ?_)); go_simp; (try go_bits)
        refine (size6_calls _).mono ?_; rintro e2 w2 ⟨rfl, hb2⟩
        refine ⟨hb2, ?_⟩
        (with_reducible refine hK _ _ ?_); clear hK K
        have hlt := World.block_lt_of_cell? w1 _ hx.1
        have hB2 : Below w1.heap.size w1 w2 := (Below.refl _ w1).drew.trans hb2
        have hy2 := (hB2.cell (p := ⟨w.heap.size, 2, none⟩) (by exact hlt)).trans hx.2.2
        clear hx hlt
        repeat (first | ((with_reducible refine wpO_skip ?_ ?_); rfl; simp only [Act.put, List.setIfInBounds_toArray, List.set_cons_zero, List.set_cons_succ]) | ((with_reducible refine wpO_step (fun K hK => ?_)); go_simp; (try go_bits); (first | (with_reducible refine hK _ _ ?_) | (simp only [IntWalk.iteOmega]; go_simp; (try go_bits); (with_reducible refine hK _ _ ?_))); clear hK K))
        (with_reducible refine wpO_nil ?_)
        go_wp2
        go_ret
        exact Ret.bool rfl (by unfold addrOk; rw [hs']; first | rfl | (simp; done) | (simp; omega)) (((below_new (Below.refl _ w) _).trans (hb1.mono (by simp))).trans (hB2.mono (by have := hb1.size; simp at this; omega)))
    · have hv : famV f = .nilIface := by unfold famV; rw [if_neg h4, if_neg h6]
      go_enter Tryz.func56, Tryz.ntmps56
      go_wp2_with fail
      refine (families_calls _ _).mono ?_; rintro e1 w1 ⟨rfl, hb1⟩
      rw [hv]
      rw [World.size_alloc] at hb1
      have hx := cells3 (heap_box hb1)
      go_wp2_with fail
      refine wp_region_ord [(0,0),(1,0),(2,0),(3,0),(4,1),(5,0),(6,0),(7,2),(8,0),(9,0),(10,0),(11,0),(12,1),(13,0),(14,0),(15,0),(16,0),(17,1),(18,0),(19,0),(20,0)] (by kernel_rfl) (by kernel_rfl) ?_
      simp only [pickO, List.map_cons, List.map_nil, List.getD_cons_zero, List.getD_cons_succ]
      repeat (first | ((with_reducible refine wpO_skip ?_ ?_); rfl; simp only [Act.put, List.setIfInBounds_toArray, List.set_cons_zero, List.set_cons_succ]) | ((with_reducible refine wpO_step (fun K hK => ?_)); go_simp; (try go_bits); (first | (with_reducible refine hK _ _ ?_) | (simp only [IntWalk.iteOmega]; go_simp; (try go_bits); (with_reducible refine hK _ _ ?_))); clear hK K))
      (with_reducible refine wpO_nil ?_)
      go_wp2
      go_ret
      exact Ret.bool rfl (by simp [addrOk, h4, h6]) ((below_new (Below.refl _ w) _).trans (hb1.mono (by simp))).drew
end Go.Proofs.Tc
