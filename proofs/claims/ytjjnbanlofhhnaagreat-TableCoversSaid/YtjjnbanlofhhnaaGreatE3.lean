import Derived.Test.YtjjnbanlofhhnaaGreatE2
import Derived.LoopN
namespace Go.Proofs.Tc
open Go.RowKit Go.Sort
attribute [local go_sem] stepO_0 stepO_1 stepO_2 stepO_3 stepV_0 stepV_1 stepV_2 stepV_3 stepV_5

theorem cells1 {w : World} {b : Nat} {x0 : Value} {t : TypeId} {z : Nat × Nat} (h : w.heap[b]? = some (.cells #[x0] t z)) : w.cell? ⟨b, 0, none⟩ = some x0 := by simp [World.cell?, h]
theorem below_dd (w : World) (o : Obj) : Below w.heap.size w.drew (w.alloc o).drew := (Below.refl w.heap.size w.drew).alloc (Nat.le_refl _) o
theorem two_new (w : World) (o1 o2 : Obj) : ((w.alloc o1).alloc o2).drew.heap[w.heap.size]? = some o1 ∧ ((w.alloc o1).alloc o2).drew.heap[w.heap.size + 1]? = some o2 :=
  ⟨(Below.heap_alloc (w.alloc o1) o2 w.heap.size (by simp)).trans (heap_alloc_new w o1), by have := heap_alloc_new (w.alloc o1) o2; rw [World.size_alloc] at this; exact this⟩
def ptAt (ys : List Pl) (j : Nat) : Value := .pointer ((ys[j]?).map fun y => ⟨y.a, 0, none⟩)
/-- Where k halves of bucket kb have been made. -/
structure SplitSt (w wr : World) (A : Nat) (kb : Bk) (ps : Nat → ByteArray) (k : Nat) (ys : List Pl) : Prop where
  len : ys.length = k
  kk : ∀ (j : Nat) (y : Pl), ys[j]? = some y → y.k = halfF kb (ps j)
  hA : wr.heap[A]? = some (.cells #[ptAt ys 0, ptAt ys 1] 192 (0, 0))
  bk : ∀ y ∈ ys, BkIn wr y.a y.k y.S
  nw : ∀ y ∈ ys, ∀ g ∈ y.a :: y.S, w.heap.size ≤ g ∧ g ≠ A
  dj : ∀ (i j : Nat) (y z : Pl), ys[i]? = some y → ys[j]? = some z → i < j → ∀ g ∈ y.a :: y.S, g ∉ z.a :: z.S
  ge : w.heap.size ≤ A
  B : Below w.heap.size w wr
theorem SplitSt.next {w wr W : World} {A : Nat} {kb : Bk} {ps : Nat → ByteArray} {k : Nat} {ys : List Pl} (h : SplitSt w wr A kb ps k ys) (hk : k < 2) {Y : Nat} {S : List Nat} (hK : Keeps [A] wr W)
    (hA : W.heap[A]? = some (.cells (#[ptAt ys 0, ptAt ys 1].setIfInBounds k (.pointer (some ⟨Y, 0, none⟩))) 192 (0, 0))) (hB : BkIn W Y (halfF kb (ps k)) S) (hS : ∀ g ∈ Y :: S, wr.heap.size ≤ g) : SplitSt w W A kb ps (k + 1) (ys ++ [⟨Y, halfF kb (ps k), S⟩]) := by
  have hAl : A < wr.heap.size := (Array.getElem?_eq_some_iff.1 h.hA).1
  have hlen := h.len
  refine ⟨by simp [hlen], fun j y hy => ?_, ?_, fun y hy => ?_, fun y hy g hg => ?_, fun i j y z hy hz hij g hg => ?_, h.ge, h.B.trans (hK.below h.B.size fun g hg => by simp at hg; rw [hg]; exact h.ge)⟩
  · by_cases hj : j < ys.length
    · rw [List.getElem?_append_left hj] at hy
      exact h.kk j y hy
    · rw [List.getElem?_append_right (by omega)] at hy
      have hjk : j - ys.length = 0 := by
        have := (List.getElem?_eq_some_iff.1 hy).1
        simp at this
        omega
      rw [hjk] at hy
      simp at hy
      subst hy
      rw [show j = k by omega]
  · rw [hA]
    obtain rfl | rfl : k = 0 ∨ k = 1 := by omega
    · obtain rfl : ys = [] := List.eq_nil_of_length_eq_zero hlen
      simp [ptAt]
    · obtain ⟨y, rfl⟩ : ∃ y, ys = [y] := List.length_eq_one_iff.1 hlen
      simp [ptAt]
  · rcases List.mem_append.1 hy with hy | hy
    · exact (h.bk y hy).keeps hK fun g hg hm => (h.nw y hy g hg).2 (by simpa using hm)
    · rw [List.mem_singleton] at hy
      subst hy
      exact hB
  · rcases List.mem_append.1 hy with hy | hy
    · exact h.nw y hy g hg
    · rw [List.mem_singleton] at hy
      subst hy
      have := hS g hg
      have := h.B.size
      exact ⟨by omega, by omega⟩
  · have hjl := (List.getElem?_eq_some_iff.1 hz).1
    simp at hjl
    rw [List.getElem?_append_left (by omega)] at hy
    by_cases hj : j < ys.length
    · rw [List.getElem?_append_left hj] at hz
      exact h.dj i j y z hy hz hij g hg
    · rw [List.getElem?_append_right (by omega), show j - ys.length = 0 by omega] at hz
      simp at hz
      subst hz
      intro hm
      have := hS g hm
      have := (h.bk y (List.mem_of_getElem? hy)).lt g hg
      omega
theorem idxF_nodup {l : List Pl} (hn : (l.map (·.a)).Nodup) {i : Nat} {x : Pl} (hx : l[i]? = some x) : idxF (fun a => decide (a = x.a)) (l.map (·.a)) = i := by
  refine idxF_hit (e := x.a) (fun j y hj hy => ?_) (by simp [hx]) (by simp)
  rw [List.getElem?_map] at hy
  cases hz : l[j]? with
  | none => rw [hz] at hy; cases hy
  | some z =>
    rw [hz] at hy
    simp only [Option.map_some, Option.some.injEq] at hy
    subst hy
    have := nodup_idx hn hx hz (by omega)
    simpa using this
/-- What split leaves. -/
def SplitRes (w : World) (t : Nat) (own : ByteArray) (now : Int) (lab : Nat → Option Nat) (m : Nat) (v : Bool → Value) (L : Bool → List Pl) (b : Bool) (i : Nat) (x : Pl) (e : Ending) (w' : World) : Prop :=
  (∃ r, e = .returned r) ∧ ∃ lab' v' y z, TbIn w' t own now lab' m (fun c => if c = b then v' else v c) (fun c => if c = b then replL (L b) i y z else L c) ∧ y.k = halfF x.k x.k.pre ∧ z.k = halfF x.k (flipN x.k.pre x.k.bits) ∧
    (∀ g, g < w.heap.size → lab g = none → lab' g = none) ∧ (∀ g ∈ x.a :: x.S, lab' g = none) ∧ KeepL lab w w' ∧ BkIn w' x.a x.k x.S
set_option maxRecDepth 100000 in
set_option maxHeartbeats 1000000 in
theorem split_calls (w : World) (t : Nat) (own : ByteArray) (now : Int) (lab : Nat → Option Nat) (m : Nat) (v : Bool → Value) (L : Bool → List Pl) (h : TbIn w t own now lab m v L) (b : Bool) (i : Nat) (x : Pl) (hx : (L b)[i]? = some x)
    (hp : x.k.pre.size = 20) (hbits : x.k.bits < 160) (hid : ∀ e, e ∈ x.k.ents ∨ e ∈ x.k.spare → e.nd.id.size = 20) (hl1 : x.k.ents.length ≤ 8) (hl2 : x.k.spare.length ≤ 8) (hll : (L b).length ≤ 161) :
    Calls Tryz.prog 102 #[.pointer (some ⟨t, 0, none⟩), .pointer (some ⟨x.a, 0, none⟩), .int .i64 (famN b)] w (SplitRes w t own now lab m v L b i x) := by
  have hxm : x ∈ L b := List.mem_of_getElem? hx
  obtain ⟨ve, vs, hh, hve, hvs, hS, hnd⟩ := h.hk b x hxm
  obtain ⟨c0, c1, c2, c3, c4⟩ := cells5 hh
  obtain ⟨xa, xk, xS⟩ := x
  obtain ⟨pre, bits, ents, spare, ch⟩ := xk
  simp only at hp hbits hid hl1 hl2 hh hve hvs hS hnd c0 c1 c2 c3 c4 hxm
  have HT := Lib.hid h
  have HX := Lib.hid hx
  have HXM := Lib.hid hxm
  have HH := Lib.hid hh
  have HE := Lib.hid hve
  have HS := Lib.hid hvs
  have HID := Lib.hid hid
  have hlt : xa < w.heap.size := (Array.getElem?_eq_some_iff.1 hh).1
  clear h hx hxm hh hve hvs hS hnd hid
  go_enter Tryz.func102, Tryz.ntmps102
  go_wp2_with fail
  refine wp_region_ord [(0,0),(1,0),(2,0),(3,0),(4,1),(5,0),(6,0),(7,0),(8,0),(9,1),(10,3),(11,0),(12,0),(13,0),(14,0),(15,0)] (by kernel_rfl) (by kernel_rfl) ?_
  simp only [pickO, List.map_cons, List.map_nil, List.getD_cons_zero, List.getD_cons_succ]
  repeat (first | ((with_reducible refine wpO_skip ?_ ?_); rfl; simp only [Act.put, List.setIfInBounds_toArray, List.set_cons_zero, List.set_cons_succ]) | ((with_reducible refine wpO_step (fun K hK => ?_)); go_simp; (try go_bits); (first | (with_reducible refine hK _ _ ?_) | (simp only [IntWalk.iteOmega]; go_simp; (try go_bits); (with_reducible refine hK _ _ ?_))); clear hK K))
  (with_reducible refine wpO_step (fun K hK => ?_)); go_simp; (try go_bits)
  refine (nflip_calls _ _ _ hp hbits).mono ?_; rintro e1 w1 ⟨rfl, hb1⟩
  (with_reducible refine hK _ _ ?_); clear hK K
  repeat (first | ((with_reducible refine wpO_skip ?_ ?_); rfl; simp only [Act.put, List.setIfInBounds_toArray, List.set_cons_zero, List.set_cons_succ]) | ((with_reducible refine wpO_step (fun K hK => ?_)); go_simp; (try go_bits); (first | (with_reducible refine hK _ _ ?_) | (simp only [IntWalk.iteOmega]; go_simp; (try go_bits); (with_reducible refine hK _ _ ?_))); clear hK K))
  (with_reducible refine wpO_nil ?_)
  have HB1 : Below w.heap.size w w1 := (Below.refl _ w).drew.trans hb1
  have hh1 := (HB1.block xa hlt).trans HH.out
  obtain ⟨d0, d1, d2, d3, d4⟩ := cells5 hh1
  have hlt1 : xa < w1.heap.size := Nat.lt_of_lt_of_le hlt HB1.size
  have HH1 := Lib.hid hh1
  have HB1h := Lib.hid HB1
  clear hh1 HB1 hb1 c0 c1 c2 c3 c4
  obtain ⟨ps, hps⟩ : ∃ ps : Nat → ByteArray, ps = fun j => if j = 0 then pre else flipN pre bits := ⟨_, rfl⟩
  have hst : SplitSt w (w1.alloc (.cells #[.pointer none, .pointer none] 192)) w1.heap.size ⟨pre, bits, ents, spare, ch⟩ ps 0 [] :=
    ⟨rfl, by simp, heap_alloc_new w1 _, by simp, by simp, by simp, HB1h.out.size, below_new HB1h.out _⟩
  have hpz : ∀ j, (ps j).size = 20 := by
    intro j
    rw [hps]
    show (if j = 0 then pre else flipN pre bits).size = 20
    split
    · exact hp
    · exact flipN_size _ _ hp
  have HPZ := Lib.hid hpz
  have HPS := Lib.hid hps
  clear hpz
  have HST := Lib.hid hst
  clear hps hst
  go_wp2
  go_loopw [36] (fun j wr => ∃ (k : Nat) (ys : List Pl), k ≤ 2 ∧ j = .int .i64 k ∧ Hid (SplitSt w wr w1.heap.size ⟨pre, bits, ents, spare, ch⟩ ps k ys)) (fun j _ => 2 - (intOf j).toNat)
  case atStart => exact ⟨0, [], by omega, rfl, HST.out⟩
  case round =>
    obtain ⟨k, ys, hk, rfl, HR⟩ := hrel
    by_cases hk2 : k < 2
    · have hidx : ∀ W, (Instr.index 193 (.agg #[.string pre, .string (flipN pre bits)]) (.int .i64 k)).run Tryz.prog W = .ok (.string (ps k)) W := by
        intro W
        rw [HPS.out]
        obtain rfl | rfl : k = 0 ∨ k = 1 := by omega
        · show _ = _; kernel_rfl
        · show _ = _; kernel_rfl
      have hhr := (HR.out.B.block xa hlt).trans HH.out
      obtain ⟨d0, d1, d2, d3, d4⟩ := cells5 hhr
      go_wp2_with fail
      refine wp_region_ordT (fun _ => True) [[(0,0)],[(1,0)],[(2,0)],[(3,0)],[(4,0)],[(5,1)],[(6,0)],[(7,0)],[(8,0)],[(9,0)],[(10,0)],[(11,1)],[(12,0)],[(13,2),(14,2)],[(15,3)]] (by kernel_rfl) (by kernel_rfl) ?_
      simp only [pickT, List.map_cons, List.map_nil, List.getD_cons_zero, List.getD_cons_succ]
      repeat (first | ((with_reducible refine wpT_skip ?_ ?_); rfl; simp only [Act.put, List.setIfInBounds_toArray, List.set_cons_zero, List.set_cons_succ]) | ((with_reducible refine wpT_step (fun K hK => ?_)); go_simp; (try go_bits); (first | (with_reducible refine hK _ _ ?_) | (simp only [IntWalk.iteOmega]; go_simp; (try go_bits); (with_reducible refine hK _ _ ?_))); clear hK K))
      refine wpT_two ?_ ?_
      · (with_reducible refine wpT_step (fun K hK => ?_)); go_simp; (try go_bits)
        refine ⟨by first | assumption | (go_grown; done) | exact below_dd _ _ | simpa using below_dd (World.alloc _ _) _, ?_⟩; (with_reducible refine hK _ _ ?_); clear hK K
        repeat (first | ((with_reducible refine wpT_skip ?_ ?_); rfl; simp only [Act.put, List.setIfInBounds_toArray, List.set_cons_zero, List.set_cons_succ]) | ((with_reducible refine wpT_step (fun K hK => ?_)); go_simp; (try go_bits); (first | (with_reducible refine hK _ _ ?_) | (simp only [IntWalk.iteOmega]; go_simp; (try go_bits); (with_reducible refine hK _ _ ?_))); clear hK K))
        (with_reducible refine wpT_step (fun K hK => ?_)); go_simp; (try go_bits)
        refine ⟨by first | assumption | (go_grown; done) | exact below_dd _ _ | simpa using below_dd (World.alloc _ _) _, ?_⟩; (with_reducible refine hK _ _ ?_); clear hK K
        repeat (first | ((with_reducible refine wpT_skip ?_ ?_); rfl; simp only [Act.put, List.setIfInBounds_toArray, List.set_cons_zero, List.set_cons_succ]) | ((with_reducible refine wpT_step (fun K hK => ?_)); go_simp; (try go_bits); (first | (with_reducible refine hK _ _ ?_) | (simp only [IntWalk.iteOmega]; go_simp; (try go_bits); (with_reducible refine hK _ _ ?_))); clear hK K))
        (with_reducible refine wpT_nil ?_)
        have hT2 := two_new wr (.cells #[.string (ps k), .int .i64 ((bits : Int) + 1), .slice none 0 0, .slice none 0 0, .int .i64 ch] 85 (0, 0)) (.cells #[.pointer (some ⟨wr.heap.size, 0, none⟩)] 74 (0, 0))
        obtain ⟨W5, hW5⟩ : ∃ W5, ((wr.alloc (.cells #[.string (ps k), .int .i64 ((bits : Int) + 1), .slice none 0 0, .slice none 0 0, .int .i64 ch] 85 (0, 0))).alloc (.cells #[.pointer (some ⟨wr.heap.size, 0, none⟩)] 74 (0, 0))).drew = W5 := ⟨_, rfl⟩
        have hK5 : Keeps [] wr W5 := by rw [← hW5]; exact ((((Keeps.refl [] wr).alloc _).alloc _)).drew
        rw [hW5] at hT2 ⊢
        clear hW5
        obtain ⟨hY5, hH5⟩ : W5.heap[wr.heap.size]? = some (.cells #[.string (ps k), .int .i64 ((bits : Int) + 1), .slice none 0 0, .slice none 0 0, .int .i64 ch] 85 (0, 0)) ∧ W5.heap[wr.heap.size + 1]? = some (.cells #[.pointer (some ⟨wr.heap.size, 0, none⟩)] 74 (0, 0)) := hT2
        (try clear hT2)
        obtain ⟨H, hZ1⟩ : ∃ Z, wr.heap.size + 1 = Z := ⟨_, rfl⟩
        obtain ⟨Y, hZ0⟩ : ∃ Z, wr.heap.size = Z := ⟨_, rfl⟩
        have hYge : wr.heap.size ≤ Y := by omega
        have hHge : wr.heap.size ≤ H := by omega
        have hYH : Y ≠ H := by omega
        (try rw [hZ1] at hY5); (try rw [hZ1] at hH5); (try rw [hZ1]); (try rw [hZ0] at hY5); (try rw [hZ0] at hH5); (try rw [hZ0])
        clear hZ0 hZ1
        have hx5 : W5.heap[xa]? = some (.cells #[.string pre, .int .i64 bits, ve, vs, .int .i64 ch] 85 (0, 0)) := (hK5.block xa (Nat.lt_of_lt_of_le hlt HR.out.B.size) (by simp)).trans ((HR.out.B.block xa hlt).trans HH.out)
        have hve5 := ((HE.out.ext HR.out.B).keeps hK5 (by simp))
        have hvs5 := ((HS.out.ext HR.out.B).keeps hK5 (by simp))
        have hA5 : W5.heap[w1.heap.size]? = some (.cells #[ptAt ys 0, ptAt ys 1] 192 (0, 0)) := (hK5.block _ (Array.getElem?_eq_some_iff.1 HR.out.hA).1 (by simp)).trans HR.out.hA
        have hwr5 := hK5.size
        have HY5 := Lib.hid hY5
        have HVE5 := Lib.hid hve5
        have HVS5 := Lib.hid hvs5
        have HA5 := Lib.hid hA5
        have HK5 := Lib.hid hK5
        have HV5 := Lib.hid (And.intro hH5 hx5)
        clear hY5 hH5 hx5 hve5 hvs5 hA5 hK5 d0 d1 d2 d3 d4
        obtain ⟨d0, d1, d2, d3, d4⟩ := cells5 HV5.out.2
        go_wp2_with fail
        refine wp_region_ordT (fun W => W.heap[H]? = some (.cells #[.pointer (some ⟨Y, 0, none⟩)] 74 (0, 0)) ∧ W.heap[xa]? = some (.cells #[.string pre, .int .i64 bits, ve, vs, .int .i64 ch] 85 (0, 0))) [[(0,4)],[(1,4)],[(2,0)],[(3,0)],[(4,0)],[(5,0)],[(6,1)],[(8,0)],[(9,0)],[(10,0)],[(11,0)],[(12,4)],[(7,5)],[(13,5)],[(14,0)],[(15,0)],[(16,5)],[(17,0)],[(18,0)],[(19,3)]] (by kernel_rfl) (by kernel_rfl) ?_
        simp only [pickT, List.map_cons, List.map_nil, List.getD_cons_zero, List.getD_cons_succ]
        repeat (first | ((with_reducible refine wpT_skip ?_ ?_); rfl; simp only [Act.put, List.setIfInBounds_toArray, List.set_cons_zero, List.set_cons_succ]) | ((with_reducible refine wpT_step (fun K hK => ?_)); go_simp; (try go_bits); (first | (with_reducible refine hK _ _ ?_) | (simp only [IntWalk.iteOmega]; go_simp; (try go_bits); (with_reducible refine hK _ _ ?_))); clear hK K))
        have hV := HV5.out
        ((with_reducible refine wpT_step (fun K hK => ?_)); (refine stepV_4h (v := ?_) rfl ?_ (fun W hV => ?_) (hK _ _ ?_)); rotate_left; (first | assumption | go_simp | simp [*]); ((try dsimp only at hV); (try have hv5 := cells5 hV.1); (try have hv8 := cells8 hV.2); (try have hv1 := cells1 hV.1); (try have hv1b := cells1 hV); (try have hv3 := cells3 hV); (try have hv5b := cells5 hV.2); go_simp; try rfl); simp only [Act.put, List.setIfInBounds_toArray, List.set_cons_zero, List.set_cons_succ]; clear hK K)
        repeat (first | ((with_reducible refine wpT_skip ?_ ?_); rfl; simp only [Act.put, List.setIfInBounds_toArray, List.set_cons_zero, List.set_cons_succ]) | ((with_reducible refine wpT_step (fun K hK => ?_)); go_simp; (try go_bits); (first | (with_reducible refine hK _ _ ?_) | (simp only [IntWalk.iteOmega]; go_simp; (try go_bits); (with_reducible refine hK _ _ ?_))); clear hK K))
        ((with_reducible refine wpT_step (fun K hK => ?_)); (refine stepV_4h (v := ?_) rfl ?_ (fun W hV => ?_) (hK _ _ ?_)); rotate_left; (first | assumption | go_simp | simp [*]); ((try dsimp only at hV); (try have hv5 := cells5 hV.1); (try have hv8 := cells8 hV.2); (try have hv1 := cells1 hV.1); (try have hv1b := cells1 hV); (try have hv3 := cells3 hV); (try have hv5b := cells5 hV.2); go_simp; try rfl); simp only [Act.put, List.setIfInBounds_toArray, List.set_cons_zero, List.set_cons_succ]; clear hK K)
        repeat (first | ((with_reducible refine wpT_skip ?_ ?_); rfl; simp only [Act.put, List.setIfInBounds_toArray, List.set_cons_zero, List.set_cons_succ]) | ((with_reducible refine wpT_step (fun K hK => ?_)); go_simp; (try go_bits); (first | (with_reducible refine hK _ _ ?_) | (simp only [IntWalk.iteOmega]; go_simp; (try go_bits); (with_reducible refine hK _ _ ?_))); clear hK K))
        ((with_reducible refine wpT_step (fun K hK => ?_)); (refine stepV_4h (v := ?_) rfl ?_ (fun W hV => ?_) (hK _ _ ?_)); rotate_left; (first | assumption | go_simp | simp [*]); ((try dsimp only at hV); (try have hv5 := cells5 hV.1); (try have hv8 := cells8 hV.2); (try have hv1 := cells1 hV.1); (try have hv1b := cells1 hV); (try have hv3 := cells3 hV); (try have hv5b := cells5 hV.2); go_simp; try rfl); simp only [Act.put, List.setIfInBounds_toArray, List.set_cons_zero, List.set_cons_succ]; clear hK K)
        repeat (first | ((with_reducible refine wpT_skip ?_ ?_); rfl; simp only [Act.put, List.setIfInBounds_toArray, List.set_cons_zero, List.set_cons_succ]) | ((with_reducible refine wpT_step (fun K hK => ?_)); go_simp; (try go_bits); (first | (with_reducible refine hK _ _ ?_) | (simp only [IntWalk.iteOmega]; go_simp; (try go_bits); (with_reducible refine hK _ _ ?_))); clear hK K))
        clear hV d0 d1 d2 d3 d4
        have hcH := cells1 HV5.out.1
        obtain ⟨y0, y1, y2, y3, y4⟩ := cells5 HY5.out
        have hltY : Y < W5.heap.size := (Array.getElem?_eq_some_iff.1 HY5.out).1
        have hltH : H < W5.heap.size := (Array.getElem?_eq_some_iff.1 HV5.out.1).1
        have hltX : xa < W5.heap.size := (Array.getElem?_eq_some_iff.1 HV5.out.2).1
        have hltA : w1.heap.size < wr.heap.size := (Array.getElem?_eq_some_iff.1 HR.out.hA).1
        (with_reducible refine wpT_step (fun K hK => ?_)); go_simp; (try go_bits)
        refine (split1_calls W5.drew H Y (ps k) (bits + 1) ve ents hcH y0 (by simpa using y1) (HPZ.out k) (by omega) (fun e he => HID.out e (.inl he)) HVE5.out.drew (by omega)).mono ?_
        rintro e6 w6 ⟨v6, rfl, ho6, hf6, hb6⟩
        obtain ⟨a6, cap6, rfl, _⟩ := ho6.shape
        have hb6' : Below W5.heap.size W5 w6 := (Below.refl _ W5).drew.trans hb6
        have hH6 := (hb6'.block H hltH).trans HV5.out.1
        have hX6 := (hb6'.block xa hltX).trans HV5.out.2
        refine ⟨by intros; exact ⟨hH6, hX6⟩, ?_⟩
        (with_reducible refine hK _ _ ?_); clear hK K
        have hY6 := (hb6'.block Y hltY).trans HY5.out
        obtain ⟨z0, z1, z2, z3, z4⟩ := cells5 hY6
        have hvs6 := HVS5.out.ext hb6'
        have HO6 := Lib.hid ho6
        have HF6 := Lib.hid hf6
        have HB6 := Lib.hid hb6'
        have HY6 := Lib.hid hY6
        have HX6 := Lib.hid (And.intro hH6 hX6)
        clear y0 y1 y2 y3 y4 hcH ho6 hf6 hb6 hY6 hX6 hb6'
        repeat (first | ((with_reducible refine wpT_skip ?_ ?_); rfl; simp only [Act.put, List.setIfInBounds_toArray, List.set_cons_zero, List.set_cons_succ]) | ((with_reducible refine wpT_step (fun K hK => ?_)); go_simp; (try go_bits); (first | (with_reducible refine hK _ _ ?_) | (simp only [IntWalk.iteOmega]; go_simp; (try go_bits); (with_reducible refine hK _ _ ?_))); clear hK K))
        (with_reducible refine wpT_step (fun K hK => ?_)); go_simp; (try go_bits)
        refine (split1_calls w6 H Y (ps k) (bits + 1) vs spare (cells1 hH6) z0 (by simpa using z1) (HPZ.out k) (by omega) (fun e he => HID.out e (.inr he)) hvs6 (by omega)).mono ?_
        rintro e7 w7 ⟨v7, rfl, ho7, hf7, hb7⟩
        obtain ⟨a7, cap7, rfl, _⟩ := ho7.shape
        obtain ⟨n6, hn6⟩ : ∃ n, (ents.filter fun e => holdsB (ps k) (bits + 1) e.nd.id).length = n := ⟨_, rfl⟩
        obtain ⟨n7, hn7⟩ : ∃ n, (spare.filter fun e => holdsB (ps k) (bits + 1) e.nd.id).length = n := ⟨_, rfl⟩
        rw [hn6] at HO6 HF6 ⊢
        rw [hn7] at ho7 hf7 ⊢
        have HN6 := Lib.hid hn6
        have HN7 := Lib.hid hn7
        clear hn6 hn7
        clear hH6 hvs6 z0 z1 z2 z3 z4
        have hH7 := (hb7.block H (Nat.lt_of_lt_of_le hltH HB6.out.size)).trans HX6.out.1
        have hX7 := (hb7.block xa (Nat.lt_of_lt_of_le hltX HB6.out.size)).trans HX6.out.2
        refine ⟨by intros; exact ⟨hH7, hX7⟩, ?_⟩
        (with_reducible refine hK _ _ ?_); clear hK K
        have hY7 := (hb7.block Y (Nat.lt_of_lt_of_le hltY HB6.out.size)).trans HY6.out
        obtain ⟨z0, z1, z2, z3, z4⟩ := cells5 hY7
        have u2 := unfrozen0 hY7 2
        have u3 := unfrozen0 hY7 3
        have HY7 := Lib.hid hY7
        have HO7 := Lib.hid ho7
        have HF7 := Lib.hid hf7
        have HB7 := Lib.hid hb7
        have HX7 := Lib.hid (And.intro hH7 hX7)
        clear hY7 ho7 hf7 hb7 hX7 hH7
        have hh8 : (w7.setCell ⟨Y, 2, none⟩ (.slice a6 n6 cap6)).heap[H]? = some (.cells #[.pointer (some ⟨Y, 0, none⟩)] 74 (0, 0)) := (Below.heap_setCell w7 ⟨Y, 2, none⟩ (.slice a6 n6 cap6) H (fun e => hYH e.symm)).trans HX7.out.1
        have hxY : xa ≠ Y := by have := HR.out.B.size; omega
        have hx8 : (w7.setCell ⟨Y, 2, none⟩ (.slice a6 n6 cap6)).heap[xa]? = some (.cells #[.string pre, .int .i64 bits, ve, vs, .int .i64 ch] 85 (0, 0)) := (Below.heap_setCell w7 ⟨Y, 2, none⟩ (.slice a6 n6 cap6) xa hxY).trans HX7.out.2
        have HX8 := Lib.hid (And.intro hh8 hx8)
        clear hh8 hx8
        repeat (first | ((with_reducible refine wpT_skip ?_ ?_); rfl; simp only [Act.put, List.setIfInBounds_toArray, List.set_cons_zero, List.set_cons_succ]) | ((with_reducible refine wpT_step (fun K hK => ?_)); go_simp; (try go_bits); (first | (with_reducible refine hK _ _ ?_) | (simp only [IntWalk.iteOmega]; go_simp; (try go_bits); (with_reducible refine hK _ _ ?_))); clear hK K))
        (with_reducible refine wpT_step (fun K hK => ?_)); go_simp; (try go_bits)
        refine ⟨by intros; exact HX8.out, ?_⟩
        (with_reducible refine hK _ _ ?_); clear hK K
        repeat (first | ((with_reducible refine wpT_skip ?_ ?_); rfl; simp only [Act.put, List.setIfInBounds_toArray, List.set_cons_zero, List.set_cons_succ]) | ((with_reducible refine wpT_step (fun K hK => ?_)); go_simp; (try go_bits); (first | (with_reducible refine hK _ _ ?_) | (simp only [IntWalk.iteOmega]; go_simp; (try go_bits); (with_reducible refine hK _ _ ?_))); clear hK K))
        (with_reducible refine wpT_nil ?_)
        obtain ⟨W8, hW8⟩ : ∃ W, (w7.setCell ⟨Y, 2, none⟩ (.slice a6 n6 cap6)).setCell ⟨Y, 3, none⟩ (.slice a7 n7 cap7) = W := ⟨_, rfl⟩
        have hY8 : W8.heap[Y]? = some (.cells #[.string (ps k), .int .i64 ((bits : Int) + 1), .slice a6 n6 cap6, .slice a7 n7 cap7, .int .i64 ch] 85 (0, 0)) := by rw [← hW8]; exact set_s _ (set_e _ HY7.out)
        have hH8 : W8.heap[H]? = some (.cells #[.pointer (some ⟨Y, 0, none⟩)] 74 (0, 0)) := by rw [← hW8]; exact (Below.heap_setCell _ ⟨Y, 3, none⟩ _ H hYH.symm).trans HX8.out.1
        have hK8 : Keeps [] wr W8 := by rw [← hW8]; exact (((HK5.out.trans HB6.out.keep).trans HB7.out.keep).setCell _ (.inr hYge)).setCell _ (.inr hYge)
        have hYn6 : Y ∉ fpv (.slice a6 n6 cap6) := fun h => by have : W5.heap.size ≤ Y := HF6.out Y h; omega
        have hYn7 : Y ∉ fpv (.slice a7 n7 cap7) := fun h => by have := HF7.out Y h; have := HB6.out.size; omega
        have h67 : ∀ g ∈ fpv (.slice a6 n6 cap6), g ∉ fpv (.slice a7 n7 cap7) := fun g h6 h7 => by have := HF7.out g h7; have := HO6.out.fp_lt g h6; omega
        have hv68 : OwnE W8 (.slice a6 n6 cap6) (ents.filter fun e => holdsB (ps k) (bits + 1) e.nd.id) := by rw [← hW8]; exact ((HO6.out.ext HB7.out).setO _ hYn6).setO _ hYn6
        have hv78 : OwnE W8 (.slice a7 n7 cap7) (spare.filter fun e => holdsB (ps k) (bits + 1) e.nd.id) := by rw [← hW8]; exact (HO7.out.setO _ hYn7).setO _ hYn7
        have hA8 := (hK8.block _ hltA (by simp)).trans HR.out.hA
        have hAk : W8.cell? ⟨w1.heap.size, k, none⟩ = some (ptAt ys k) := by
          have : k = 0 ∨ k = 1 := by omega
          rcases this with h | h <;> rw [h] <;> simp [World.cell?, hA8]
        have uAk := unfrozen0 hA8 k
        have cH8 := cells1 hH8
        have hYA : w1.heap.size ≠ Y := by omega
        have hYn6' : w1.heap.size ∉ fpv (.slice a6 n6 cap6) := fun h => by have : W5.heap.size ≤ w1.heap.size := HF6.out _ h; omega
        have hYn7' : w1.heap.size ∉ fpv (.slice a7 n7 cap7) := fun h => by have := HF7.out _ h; have := HB6.out.size; omega
        have hfin : SplitSt w (W8.setCell ⟨w1.heap.size, k, none⟩ (.pointer (some ⟨Y, 0, none⟩))) w1.heap.size ⟨pre, bits, ents, spare, ch⟩ ps (k + 1) (ys ++ [⟨Y, halfF ⟨pre, bits, ents, spare, ch⟩ (ps k), fpv (.slice a6 n6 cap6) ++ fpv (.slice a7 n7 cap7)⟩]) := by
          refine HR.out.next hk2 ((hK8.mono (by simp)).setCell _ (.inl (by simp))) (setCell_heap W8 ⟨w1.heap.size, k, none⟩ _ rfl hA8) ⟨_, _, (Below.heap_setCell W8 ⟨w1.heap.size, k, none⟩ _ Y hYA.symm).trans hY8, hv68.setO _ hYn6', hv78.setO _ hYn7', rfl, nodup3 hYn6 hYn7 h67⟩ ?_
          intro g hg
          rcases List.mem_cons.1 hg with rfl | hg
          · exact hYge
          · rcases List.mem_append.1 hg with hg | hg
            · have : W5.heap.size ≤ g := HF6.out g hg
              omega
            · have := HF7.out g hg
              have := HB6.out.size
              omega
        have HFIN := Lib.hid hfin
        rw [hW8]
        clear hW8 hY8 hH8 hK8 hYn6 hYn7 h67 hv68 hv78 hA8 hYn6' hYn7' hfin z0 z1 z2 z3 z4 u2 u3
        go_wp2_with fail
        go_roundw
        case rel => exact ⟨k + 1, _, by omega, by go_num, HFIN.out⟩
        case measure => simp [intOf]; omega
      · (with_reducible refine wpT_step (fun K hK => ?_)); go_simp; (try go_bits)
        refine ⟨by first | assumption | (go_grown; done) | exact below_dd _ _ | simpa using below_dd (World.alloc _ _) _, ?_⟩; (with_reducible refine hK _ _ ?_); clear hK K
        repeat (first | ((with_reducible refine wpT_skip ?_ ?_); rfl; simp only [Act.put, List.setIfInBounds_toArray, List.set_cons_zero, List.set_cons_succ]) | ((with_reducible refine wpT_step (fun K hK => ?_)); go_simp; (try go_bits); (first | (with_reducible refine hK _ _ ?_) | (simp only [IntWalk.iteOmega]; go_simp; (try go_bits); (with_reducible refine hK _ _ ?_))); clear hK K))
        (with_reducible refine wpT_step (fun K hK => ?_)); go_simp; (try go_bits)
        refine ⟨by first | assumption | (go_grown; done) | exact below_dd _ _ | simpa using below_dd (World.alloc _ _) _, ?_⟩; (with_reducible refine hK _ _ ?_); clear hK K
        repeat (first | ((with_reducible refine wpT_skip ?_ ?_); rfl; simp only [Act.put, List.setIfInBounds_toArray, List.set_cons_zero, List.set_cons_succ]) | ((with_reducible refine wpT_step (fun K hK => ?_)); go_simp; (try go_bits); (first | (with_reducible refine hK _ _ ?_) | (simp only [IntWalk.iteOmega]; go_simp; (try go_bits); (with_reducible refine hK _ _ ?_))); clear hK K))
        (with_reducible refine wpT_nil ?_)
        have hT2 := two_new wr (.cells #[.pointer (some ⟨wr.heap.size + 1, 0, none⟩)] 74 (0, 0)) (.cells #[.string (ps k), .int .i64 ((bits : Int) + 1), .slice none 0 0, .slice none 0 0, .int .i64 ch] 85 (0, 0))
        obtain ⟨W5, hW5⟩ : ∃ W5, ((wr.alloc (.cells #[.pointer (some ⟨wr.heap.size + 1, 0, none⟩)] 74 (0, 0))).alloc (.cells #[.string (ps k), .int .i64 ((bits : Int) + 1), .slice none 0 0, .slice none 0 0, .int .i64 ch] 85 (0, 0))).drew = W5 := ⟨_, rfl⟩
        have hK5 : Keeps [] wr W5 := by rw [← hW5]; exact ((((Keeps.refl [] wr).alloc _).alloc _)).drew
        rw [hW5] at hT2 ⊢
        clear hW5
        obtain ⟨hY5, hH5⟩ : W5.heap[wr.heap.size + 1]? = some (.cells #[.string (ps k), .int .i64 ((bits : Int) + 1), .slice none 0 0, .slice none 0 0, .int .i64 ch] 85 (0, 0)) ∧ W5.heap[wr.heap.size]? = some (.cells #[.pointer (some ⟨wr.heap.size + 1, 0, none⟩)] 74 (0, 0)) := ⟨hT2.2, hT2.1⟩
        (try clear hT2)
        obtain ⟨Y, hZ1⟩ : ∃ Z, wr.heap.size + 1 = Z := ⟨_, rfl⟩
        obtain ⟨H, hZ0⟩ : ∃ Z, wr.heap.size = Z := ⟨_, rfl⟩
        have hYge : wr.heap.size ≤ Y := by omega
        have hHge : wr.heap.size ≤ H := by omega
        have hYH : Y ≠ H := by omega
        (try rw [hZ1] at hY5); (try rw [hZ1] at hH5); (try rw [hZ1]); (try rw [hZ0] at hY5); (try rw [hZ0] at hH5); (try rw [hZ0])
        clear hZ0 hZ1
        have hx5 : W5.heap[xa]? = some (.cells #[.string pre, .int .i64 bits, ve, vs, .int .i64 ch] 85 (0, 0)) := (hK5.block xa (Nat.lt_of_lt_of_le hlt HR.out.B.size) (by simp)).trans ((HR.out.B.block xa hlt).trans HH.out)
        have hve5 := ((HE.out.ext HR.out.B).keeps hK5 (by simp))
        have hvs5 := ((HS.out.ext HR.out.B).keeps hK5 (by simp))
        have hA5 : W5.heap[w1.heap.size]? = some (.cells #[ptAt ys 0, ptAt ys 1] 192 (0, 0)) := (hK5.block _ (Array.getElem?_eq_some_iff.1 HR.out.hA).1 (by simp)).trans HR.out.hA
        have hwr5 := hK5.size
        have HY5 := Lib.hid hY5
        have HVE5 := Lib.hid hve5
        have HVS5 := Lib.hid hvs5
        have HA5 := Lib.hid hA5
        have HK5 := Lib.hid hK5
        have HV5 := Lib.hid (And.intro hH5 hx5)
        clear hY5 hH5 hx5 hve5 hvs5 hA5 hK5 d0 d1 d2 d3 d4
        obtain ⟨d0, d1, d2, d3, d4⟩ := cells5 HV5.out.2
        go_wp2_with fail
        refine wp_region_ordT (fun W => W.heap[H]? = some (.cells #[.pointer (some ⟨Y, 0, none⟩)] 74 (0, 0)) ∧ W.heap[xa]? = some (.cells #[.string pre, .int .i64 bits, ve, vs, .int .i64 ch] 85 (0, 0))) [[(0,4)],[(1,4)],[(2,0)],[(3,0)],[(4,0)],[(5,0)],[(6,1)],[(8,0)],[(9,0)],[(10,0)],[(11,0)],[(12,4)],[(7,5)],[(13,5)],[(14,0)],[(15,0)],[(16,5)],[(17,0)],[(18,0)],[(19,3)]] (by kernel_rfl) (by kernel_rfl) ?_
        simp only [pickT, List.map_cons, List.map_nil, List.getD_cons_zero, List.getD_cons_succ]
        repeat (first | ((with_reducible refine wpT_skip ?_ ?_); rfl; simp only [Act.put, List.setIfInBounds_toArray, List.set_cons_zero, List.set_cons_succ]) | ((with_reducible refine wpT_step (fun K hK => ?_)); go_simp; (try go_bits); (first | (with_reducible refine hK _ _ ?_) | (simp only [IntWalk.iteOmega]; go_simp; (try go_bits); (with_reducible refine hK _ _ ?_))); clear hK K))
        have hV := HV5.out
        ((with_reducible refine wpT_step (fun K hK => ?_)); (refine stepV_4h (v := ?_) rfl ?_ (fun W hV => ?_) (hK _ _ ?_)); rotate_left; (first | assumption | go_simp | simp [*]); ((try dsimp only at hV); (try have hv5 := cells5 hV.1); (try have hv8 := cells8 hV.2); (try have hv1 := cells1 hV.1); (try have hv1b := cells1 hV); (try have hv3 := cells3 hV); (try have hv5b := cells5 hV.2); go_simp; try rfl); simp only [Act.put, List.setIfInBounds_toArray, List.set_cons_zero, List.set_cons_succ]; clear hK K)
        repeat (first | ((with_reducible refine wpT_skip ?_ ?_); rfl; simp only [Act.put, List.setIfInBounds_toArray, List.set_cons_zero, List.set_cons_succ]) | ((with_reducible refine wpT_step (fun K hK => ?_)); go_simp; (try go_bits); (first | (with_reducible refine hK _ _ ?_) | (simp only [IntWalk.iteOmega]; go_simp; (try go_bits); (with_reducible refine hK _ _ ?_))); clear hK K))
        ((with_reducible refine wpT_step (fun K hK => ?_)); (refine stepV_4h (v := ?_) rfl ?_ (fun W hV => ?_) (hK _ _ ?_)); rotate_left; (first | assumption | go_simp | simp [*]); ((try dsimp only at hV); (try have hv5 := cells5 hV.1); (try have hv8 := cells8 hV.2); (try have hv1 := cells1 hV.1); (try have hv1b := cells1 hV); (try have hv3 := cells3 hV); (try have hv5b := cells5 hV.2); go_simp; try rfl); simp only [Act.put, List.setIfInBounds_toArray, List.set_cons_zero, List.set_cons_succ]; clear hK K)
        repeat (first | ((with_reducible refine wpT_skip ?_ ?_); rfl; simp only [Act.put, List.setIfInBounds_toArray, List.set_cons_zero, List.set_cons_succ]) | ((with_reducible refine wpT_step (fun K hK => ?_)); go_simp; (try go_bits); (first | (with_reducible refine hK _ _ ?_) | (simp only [IntWalk.iteOmega]; go_simp; (try go_bits); (with_reducible refine hK _ _ ?_))); clear hK K))
        ((with_reducible refine wpT_step (fun K hK => ?_)); (refine stepV_4h (v := ?_) rfl ?_ (fun W hV => ?_) (hK _ _ ?_)); rotate_left; (first | assumption | go_simp | simp [*]); ((try dsimp only at hV); (try have hv5 := cells5 hV.1); (try have hv8 := cells8 hV.2); (try have hv1 := cells1 hV.1); (try have hv1b := cells1 hV); (try have hv3 := cells3 hV); (try have hv5b := cells5 hV.2); go_simp; try rfl); simp only [Act.put, List.setIfInBounds_toArray, List.set_cons_zero, List.set_cons_succ]; clear hK K)
        repeat (first | ((with_reducible refine wpT_skip ?_ ?_); rfl; simp only [Act.put, List.setIfInBounds_toArray, List.set_cons_zero, List.set_cons_succ]) | ((with_reducible refine wpT_step (fun K hK => ?_)); go_simp; (try go_bits); (first | (with_reducible refine hK _ _ ?_) | (simp only [IntWalk.iteOmega]; go_simp; (try go_bits); (with_reducible refine hK _ _ ?_))); clear hK K))
        clear hV d0 d1 d2 d3 d4
        have hcH := cells1 HV5.out.1
        obtain ⟨y0, y1, y2, y3, y4⟩ := cells5 HY5.out
        have hltY : Y < W5.heap.size := (Array.getElem?_eq_some_iff.1 HY5.out).1
        have hltH : H < W5.heap.size := (Array.getElem?_eq_some_iff.1 HV5.out.1).1
        have hltX : xa < W5.heap.size := (Array.getElem?_eq_some_iff.1 HV5.out.2).1
        have hltA : w1.heap.size < wr.heap.size := (Array.getElem?_eq_some_iff.1 HR.out.hA).1
        (with_reducible refine wpT_step (fun K hK => ?_)); go_simp; (try go_bits)
        refine (split1_calls W5.drew H Y (ps k) (bits + 1) ve ents hcH y0 (by simpa using y1) (HPZ.out k) (by omega) (fun e he => HID.out e (.inl he)) HVE5.out.drew (by omega)).mono ?_
        rintro e6 w6 ⟨v6, rfl, ho6, hf6, hb6⟩
        obtain ⟨a6, cap6, rfl, _⟩ := ho6.shape
        have hb6' : Below W5.heap.size W5 w6 := (Below.refl _ W5).drew.trans hb6
        have hH6 := (hb6'.block H hltH).trans HV5.out.1
        have hX6 := (hb6'.block xa hltX).trans HV5.out.2
        refine ⟨by intros; exact ⟨hH6, hX6⟩, ?_⟩
        (with_reducible refine hK _ _ ?_); clear hK K
        have hY6 := (hb6'.block Y hltY).trans HY5.out
        obtain ⟨z0, z1, z2, z3, z4⟩ := cells5 hY6
        have hvs6 := HVS5.out.ext hb6'
        have HO6 := Lib.hid ho6
        have HF6 := Lib.hid hf6
        have HB6 := Lib.hid hb6'
        have HY6 := Lib.hid hY6
        have HX6 := Lib.hid (And.intro hH6 hX6)
        clear y0 y1 y2 y3 y4 hcH ho6 hf6 hb6 hY6 hX6 hb6'
        repeat (first | ((with_reducible refine wpT_skip ?_ ?_); rfl; simp only [Act.put, List.setIfInBounds_toArray, List.set_cons_zero, List.set_cons_succ]) | ((with_reducible refine wpT_step (fun K hK => ?_)); go_simp; (try go_bits); (first | (with_reducible refine hK _ _ ?_) | (simp only [IntWalk.iteOmega]; go_simp; (try go_bits); (with_reducible refine hK _ _ ?_))); clear hK K))
        (with_reducible refine wpT_step (fun K hK => ?_)); go_simp; (try go_bits)
        refine (split1_calls w6 H Y (ps k) (bits + 1) vs spare (cells1 hH6) z0 (by simpa using z1) (HPZ.out k) (by omega) (fun e he => HID.out e (.inr he)) hvs6 (by omega)).mono ?_
        rintro e7 w7 ⟨v7, rfl, ho7, hf7, hb7⟩
        obtain ⟨a7, cap7, rfl, _⟩ := ho7.shape
        obtain ⟨n6, hn6⟩ : ∃ n, (ents.filter fun e => holdsB (ps k) (bits + 1) e.nd.id).length = n := ⟨_, rfl⟩
        obtain ⟨n7, hn7⟩ : ∃ n, (spare.filter fun e => holdsB (ps k) (bits + 1) e.nd.id).length = n := ⟨_, rfl⟩
        rw [hn6] at HO6 HF6 ⊢
        rw [hn7] at ho7 hf7 ⊢
        have HN6 := Lib.hid hn6
        have HN7 := Lib.hid hn7
        clear hn6 hn7
        clear hH6 hvs6 z0 z1 z2 z3 z4
        have hH7 := (hb7.block H (Nat.lt_of_lt_of_le hltH HB6.out.size)).trans HX6.out.1
        have hX7 := (hb7.block xa (Nat.lt_of_lt_of_le hltX HB6.out.size)).trans HX6.out.2
        refine ⟨by intros; exact ⟨hH7, hX7⟩, ?_⟩
        (with_reducible refine hK _ _ ?_); clear hK K
        have hY7 := (hb7.block Y (Nat.lt_of_lt_of_le hltY HB6.out.size)).trans HY6.out
        obtain ⟨z0, z1, z2, z3, z4⟩ := cells5 hY7
        have u2 := unfrozen0 hY7 2
        have u3 := unfrozen0 hY7 3
        have HY7 := Lib.hid hY7
        have HO7 := Lib.hid ho7
        have HF7 := Lib.hid hf7
        have HB7 := Lib.hid hb7
        have HX7 := Lib.hid (And.intro hH7 hX7)
        clear hY7 ho7 hf7 hb7 hX7 hH7
        have hh8 : (w7.setCell ⟨Y, 2, none⟩ (.slice a6 n6 cap6)).heap[H]? = some (.cells #[.pointer (some ⟨Y, 0, none⟩)] 74 (0, 0)) := (Below.heap_setCell w7 ⟨Y, 2, none⟩ (.slice a6 n6 cap6) H (fun e => hYH e.symm)).trans HX7.out.1
        have hxY : xa ≠ Y := by have := HR.out.B.size; omega
        have hx8 : (w7.setCell ⟨Y, 2, none⟩ (.slice a6 n6 cap6)).heap[xa]? = some (.cells #[.string pre, .int .i64 bits, ve, vs, .int .i64 ch] 85 (0, 0)) := (Below.heap_setCell w7 ⟨Y, 2, none⟩ (.slice a6 n6 cap6) xa hxY).trans HX7.out.2
        have HX8 := Lib.hid (And.intro hh8 hx8)
        clear hh8 hx8
        repeat (first | ((with_reducible refine wpT_skip ?_ ?_); rfl; simp only [Act.put, List.setIfInBounds_toArray, List.set_cons_zero, List.set_cons_succ]) | ((with_reducible refine wpT_step (fun K hK => ?_)); go_simp; (try go_bits); (first | (with_reducible refine hK _ _ ?_) | (simp only [IntWalk.iteOmega]; go_simp; (try go_bits); (with_reducible refine hK _ _ ?_))); clear hK K))
        (with_reducible refine wpT_step (fun K hK => ?_)); go_simp; (try go_bits)
        refine ⟨by intros; exact HX8.out, ?_⟩
        (with_reducible refine hK _ _ ?_); clear hK K
        repeat (first | ((with_reducible refine wpT_skip ?_ ?_); rfl; simp only [Act.put, List.setIfInBounds_toArray, List.set_cons_zero, List.set_cons_succ]) | ((with_reducible refine wpT_step (fun K hK => ?_)); go_simp; (try go_bits); (first | (with_reducible refine hK _ _ ?_) | (simp only [IntWalk.iteOmega]; go_simp; (try go_bits); (with_reducible refine hK _ _ ?_))); clear hK K))
        (with_reducible refine wpT_nil ?_)
        obtain ⟨W8, hW8⟩ : ∃ W, (w7.setCell ⟨Y, 2, none⟩ (.slice a6 n6 cap6)).setCell ⟨Y, 3, none⟩ (.slice a7 n7 cap7) = W := ⟨_, rfl⟩
        have hY8 : W8.heap[Y]? = some (.cells #[.string (ps k), .int .i64 ((bits : Int) + 1), .slice a6 n6 cap6, .slice a7 n7 cap7, .int .i64 ch] 85 (0, 0)) := by rw [← hW8]; exact set_s _ (set_e _ HY7.out)
        have hH8 : W8.heap[H]? = some (.cells #[.pointer (some ⟨Y, 0, none⟩)] 74 (0, 0)) := by rw [← hW8]; exact (Below.heap_setCell _ ⟨Y, 3, none⟩ _ H hYH.symm).trans HX8.out.1
        have hK8 : Keeps [] wr W8 := by rw [← hW8]; exact (((HK5.out.trans HB6.out.keep).trans HB7.out.keep).setCell _ (.inr hYge)).setCell _ (.inr hYge)
        have hYn6 : Y ∉ fpv (.slice a6 n6 cap6) := fun h => by have : W5.heap.size ≤ Y := HF6.out Y h; omega
        have hYn7 : Y ∉ fpv (.slice a7 n7 cap7) := fun h => by have := HF7.out Y h; have := HB6.out.size; omega
        have h67 : ∀ g ∈ fpv (.slice a6 n6 cap6), g ∉ fpv (.slice a7 n7 cap7) := fun g h6 h7 => by have := HF7.out g h7; have := HO6.out.fp_lt g h6; omega
        have hv68 : OwnE W8 (.slice a6 n6 cap6) (ents.filter fun e => holdsB (ps k) (bits + 1) e.nd.id) := by rw [← hW8]; exact ((HO6.out.ext HB7.out).setO _ hYn6).setO _ hYn6
        have hv78 : OwnE W8 (.slice a7 n7 cap7) (spare.filter fun e => holdsB (ps k) (bits + 1) e.nd.id) := by rw [← hW8]; exact (HO7.out.setO _ hYn7).setO _ hYn7
        have hA8 := (hK8.block _ hltA (by simp)).trans HR.out.hA
        have hAk : W8.cell? ⟨w1.heap.size, k, none⟩ = some (ptAt ys k) := by
          have : k = 0 ∨ k = 1 := by omega
          rcases this with h | h <;> rw [h] <;> simp [World.cell?, hA8]
        have uAk := unfrozen0 hA8 k
        have cH8 := cells1 hH8
        have hYA : w1.heap.size ≠ Y := by omega
        have hYn6' : w1.heap.size ∉ fpv (.slice a6 n6 cap6) := fun h => by have : W5.heap.size ≤ w1.heap.size := HF6.out _ h; omega
        have hYn7' : w1.heap.size ∉ fpv (.slice a7 n7 cap7) := fun h => by have := HF7.out _ h; have := HB6.out.size; omega
        have hfin : SplitSt w (W8.setCell ⟨w1.heap.size, k, none⟩ (.pointer (some ⟨Y, 0, none⟩))) w1.heap.size ⟨pre, bits, ents, spare, ch⟩ ps (k + 1) (ys ++ [⟨Y, halfF ⟨pre, bits, ents, spare, ch⟩ (ps k), fpv (.slice a6 n6 cap6) ++ fpv (.slice a7 n7 cap7)⟩]) := by
          refine HR.out.next hk2 ((hK8.mono (by simp)).setCell _ (.inl (by simp))) (setCell_heap W8 ⟨w1.heap.size, k, none⟩ _ rfl hA8) ⟨_, _, (Below.heap_setCell W8 ⟨w1.heap.size, k, none⟩ _ Y hYA.symm).trans hY8, hv68.setO _ hYn6', hv78.setO _ hYn7', rfl, nodup3 hYn6 hYn7 h67⟩ ?_
          intro g hg
          rcases List.mem_cons.1 hg with rfl | hg
          · exact hYge
          · rcases List.mem_append.1 hg with hg | hg
            · have : W5.heap.size ≤ g := HF6.out g hg
              omega
            · have := HF7.out g hg
              have := HB6.out.size
              omega
        have HFIN := Lib.hid hfin
        rw [hW8]
        clear hW8 hY8 hH8 hK8 hYn6 hYn7 h67 hv68 hv78 hA8 hYn6' hYn7' hfin z0 z1 z2 z3 z4 u2 u3
        go_wp2_with fail
        go_roundw
        case rel => exact ⟨k + 1, _, by omega, by go_num, HFIN.out⟩
        case measure => simp [intOf]; omega
    · obtain rfl : k = 2 := by omega
      have hT := HT.out.ext HR.out.B
      obtain ⟨e0, e1, e2⟩ := cells3 hT.hh
      have hlook := fam_lookup hT.hm b
      have hcI : ∀ a ∈ xa :: (L b).map (·.a), ∃ ca ta, wr.heap[a]? = some (.cells ca ta (0, 0)) := by
        intro a ha
        have ha' : a ∈ (L b).map (·.a) := by
          rcases List.mem_cons.1 ha with rfl | ha
          · exact List.mem_map.2 ⟨_, HXM.out, rfl⟩
          · exact ha
        obtain ⟨u, hu, rfl⟩ := List.mem_map.1 ha'
        obtain ⟨_, _, hu2, _⟩ := hT.hk b u hu
        exact ⟨_, _, hu2⟩
      have hI := indexP_calls wr (v b) ((L b).map (·.a)) xa (hT.hv b) hcI
      rw [idxF_nodup (hT.nd b) HX.out] at hI
      have HI := Lib.hid hI
      have HTR := Lib.hid hT
      clear hT hcI hI
      go_wp2_with fail
      refine HI.out.mono ?_
      rintro e4 w4 ⟨rfl, hb4⟩
      have hR0 := HR.out
      obtain ⟨y, z, rfl⟩ : ∃ y z, ys = [y, z] := by
        have hl := hR0.len
        match ys, hl with
        | [y, z], _ => exact ⟨y, z, rfl⟩
      have hA4 := (hb4.block _ (Array.getElem?_eq_some_iff.1 hR0.hA).1).trans hR0.hA
      rw [show ptAt [y, z] 0 = .pointer (some ⟨y.a, 0, none⟩) from rfl, show ptAt [y, z] 1 = .pointer (some ⟨z.a, 0, none⟩) from rfl] at hA4
      have hT4 := HTR.out.ext hb4
      have hlook4 := fam_lookup (w := w4.drew) hT4.hm b
      obtain ⟨f0, f1, f2⟩ := cells3 hT4.hh
      obtain ⟨ga, ca, hvb, _, _, hfp, _⟩ := (hT4.hv b).row (by have := (List.getElem?_eq_some_iff.1 HX.out).1; simp; omega)
      have hAlt : w.heap.size ≤ w1.heap.size := hR0.ge
      have hvlt : ∀ g ∈ fpv (v b), g < w.heap.size := fun g hg => HT.out.lt g _ (HT.out.lv b g hg)
      have hnt : t ∉ fpv (v b) := fun hm => by
        have h1 := HT.out.lv b t hm
        rw [HT.out.l0] at h1
        injection h1 with h1
        cases b <;> simp at h1
      have hnm : m ∉ fpv (v b) := fun hm => by
        have h1 := HT.out.lv b m hm
        rw [HT.out.l1] at h1
        injection h1 with h1
        cases b <;> simp at h1
      have hmlt : m < w.heap.size := HT.out.lt m _ HT.out.l1
      have HA4 := Lib.hid hA4
      have HT4 := Lib.hid hT4
      have HVL := Lib.hid hvlt
      have HNT := Lib.hid hnt
      have HNM := Lib.hid hnm
      have HB4 := Lib.hid hb4
      have HVB := Lib.hid hvb
      have HV4 := Lib.hid hT4.hh
      have hil : i < ((L b).map (·.a)).length := by have := (List.getElem?_eq_some_iff.1 HX.out).1; simpa using this
      have HIL := Lib.hid hil
      have hi161 : i < 161 := by simp at hil; omega
      clear hR0 hA4 hT4 hvlt hnt hnm hb4 hvb hlook e0 e1 e2 hil
      go_wp2_with fail
      refine wp_region_ordT (fun W => W.heap[t]? = some (.cells #[.string own, .int .i64 now, .map (some m)] 68 (0, 0))) [[(0,0)],[(1,0)],[(2,0)],[(3,4)],[(4,0)],[(5,0)],[(6,0)],[(7,0)],[(8,1)],[(9,0)],[(11,0)],[(12,0)],[(13,0)],[(14,0)],[(10,5)],[(15,5)],[(16,3)]] (by kernel_rfl) (by kernel_rfl) ?_
      simp only [pickT, List.map_cons, List.map_nil, List.getD_cons_zero, List.getD_cons_succ]
      repeat (first | ((with_reducible refine wpT_skip ?_ ?_); rfl; simp only [Act.put, List.setIfInBounds_toArray, List.set_cons_zero, List.set_cons_succ]) | ((with_reducible refine wpT_step (fun K hK => ?_)); go_simp; (try go_bits); (first | (with_reducible refine hK _ _ ?_) | (simp only [IntWalk.iteOmega]; go_simp; (try go_bits); (with_reducible refine hK _ _ ?_))); clear hK K))
      have hV := HV4.out
      ((with_reducible refine wpT_step (fun K hK => ?_)); (refine stepV_4h (v := ?_) rfl ?_ (fun W hV => ?_) (hK _ _ ?_)); rotate_left; (first | assumption | go_simp | simp [*]); ((try dsimp only at hV); (try have hv5 := cells5 hV.1); (try have hv8 := cells8 hV.2); (try have hv1 := cells1 hV.1); (try have hv1b := cells1 hV); (try have hv3 := cells3 hV); (try have hv5b := cells5 hV.2); go_simp; try rfl); simp only [Act.put, List.setIfInBounds_toArray, List.set_cons_zero, List.set_cons_succ]; clear hK K)
      repeat (first | ((with_reducible refine wpT_skip ?_ ?_); rfl; simp only [Act.put, List.setIfInBounds_toArray, List.set_cons_zero, List.set_cons_succ]) | ((with_reducible refine wpT_step (fun K hK => ?_)); go_simp; (try go_bits); (first | (with_reducible refine hK _ _ ?_) | (simp only [IntWalk.iteOmega]; go_simp; (try go_bits); (with_reducible refine hK _ _ ?_))); clear hK K))
      clear hV
      have hgh : w1.heap.size ∉ fpv (v b) := fun hm => by have := HVL.out _ hm; omega
      have hrc := replace_calls w4.drew (v b) w1.heap.size ((L b).map (·.a)) i y.a z.a HIL.out (HT4.out.hv b).drew (by simp; omega) hgh HA4.out
      have HRC := Lib.hid hrc
      have hw4 : w.heap.size ≤ w4.heap.size := Nat.le_trans HR.out.B.size HB4.out.size
      clear hrc hgh hlook4
      (with_reducible refine wpT_step (fun K hK => ?_)); go_simp; (try go_bits)
      (with_reducible refine HRC.out.mono ?_)
      rintro e5 w5 ⟨v5, rfl, ho5, hf5, hk5⟩
      have hk5' : Keeps (fpv (v b)) w4 w5 := ((Keeps.refl _ w4).drew).trans hk5
      have hm5 : FamAt w5 m v := (hk5'.block m (Nat.lt_of_lt_of_le hmlt hw4) HNM.out).trans HT4.out.hm
      have ht5 := (hk5'.block t (Array.getElem?_eq_some_iff.1 HV4.out).1 HNT.out).trans HV4.out
      refine ⟨by intros; exact ht5, ?_⟩
      (with_reducible refine hK _ _ ?_); clear hK K
      obtain ⟨w6, hr6, hm6, hk6, hs6⟩ := fam_update hm5 b v5
      have HO5 := Lib.hid ho5
      have HF5 := Lib.hid hf5
      have HK5 := Lib.hid hk5'
      have HM6 := Lib.hid hm6
      have HK6 := Lib.hid hk6
      clear ho5 hf5 hk5 hk5' hm5 hm6 hk6 hs6 ht5
      repeat (first | ((with_reducible refine wpT_skip ?_ ?_); rfl; simp only [Act.put, List.setIfInBounds_toArray, List.set_cons_zero, List.set_cons_succ]) | ((with_reducible refine wpT_step (fun K hK => ?_)); go_simp; (try go_bits); (first | (with_reducible refine hK _ _ ?_) | (simp only [IntWalk.iteOmega]; go_simp; (try go_bits); (with_reducible refine hK _ _ ?_))); clear hK K))
      (with_reducible refine wpT_nil ?_)
      go_wp2
      go_end0
      have hKK : Keeps (m :: fpv (v b)) w w6 := ((((HR.out.B.keep (S := m :: fpv (v b))).trans HB4.out.keep).trans (HK5.out.mono (fun g hg _ => List.mem_cons_of_mem _ hg))).trans (HK6.out.mono (fun g hg _ => by simp at hg; simp [hg])))
      have hbk : ∀ u ∈ [y, z], BkIn w6 u.a u.k u.S := fun u hu => by
        have h1 := (HR.out.bk u hu).ext HB4.out
        have h2 := h1.keeps HK5.out (fun g hg hm => by have := (HR.out.nw u hu g hg).1; have := HVL.out g hm; omega)
        exact h2.keeps HK6.out (fun g hg hm => by have := (HR.out.nw u hu g hg).1; simp at hm; omega)
      have hnw : ∀ u ∈ [y, z], ∀ g ∈ u.a :: u.S, w.heap.size ≤ g ∧ g ∉ fpv v5 := fun u hu g hg => by
        refine ⟨(HR.out.nw u hu g hg).1, fun hm => ?_⟩
        have h1 := (HR.out.nw u hu g hg).1
        have h2 := (HR.out.bk u hu).lt g hg
        have h3 := HB4.out.size
        rcases HF5.out g hm with h4 | h4
        · have := HVL.out g h4; omega
        · have : w4.heap.size ≤ g := h4
          omega
      obtain ⟨lab', a1, a2, a3, a4, a5⟩ := HT.out.split HX.out hKK HM6.out (HO5.out.keeps HK6.out (fun g hg hm => by
        simp at hm
        subst hm
        rcases HF5.out g hg with h4 | h4
        · exact HNM.out h4
        · have : w4.heap.size ≤ g := h4
          omega)) (fun g hg => (HF5.out g hg).imp id (fun h => by have : w4.heap.size ≤ g := h; omega)) (hbk y (by simp)) (hbk z (by simp))
        (fun g hg => ⟨(hnw y (by simp) g hg).1, (hnw y (by simp) g hg).2, HR.out.dj 0 1 y z rfl rfl (by omega) g hg⟩) (fun g hg => hnw z (by simp) g hg)
      refine ⟨⟨_, rfl⟩, lab', v5, y, z, a1, ?_, ?_, a2, a3, a4, a5⟩
      · have := HR.out.kk 0 y rfl
        rw [HPS.out] at this
        exact this
      · have := HR.out.kk 1 z rfl
        rw [HPS.out] at this
        exact this
end Go.Proofs.Tc
