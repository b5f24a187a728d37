import Derived.RangeFuncNested
import Derived.RangeFuncBound
import Derived.RangeFuncCalls
import Derived.RangeFuncLeaves
import Derived.Shelf.Abstract
import Derived.Shelf.RegionOpen
import Derived.WalkKit
import Derived.OwnWalkIn
import Derived.TacticsInMore
import Derived.LoopNIn
import Derived.LoopIn
import Derived.RangeFuncFrom
import Derived.Test.YtjjnbanlofhhnaaGreatA2
import Derived.Test.YtjjnbanlofhhnaaGreatA3
import Derived.Test.YtjjnbanlofhhnaaGreatOrdIn
namespace Go.Proofs.Tc
open Go.RowKit Go.Sort Go.Shelf
attribute [local go_sem] Oper.semAt_some stepI_0 stepI_1 stepI_2 stepI_3

def eachF (d : ByteArray) (i : Nat) : Nat × Bool := (i, bitL d.data.toList i)
def encNB (x : Nat × Bool) : Array Value := #[.int .i64 (x.1 : Int), .bool x.2]
def upN {α : Type} (f : Nat → α) (k : Nat) : List α := (List.range k).map f
theorem wide_depth : Fence.wide.depth = none := rfl
theorem wide_fn (f : FuncId) : Fence.wide.fn f = True := rfl
attribute [local go_sem] wide_depth wide_fn Oper.wpX
theorem grown_below {a b : World} (h : Below a.heap.size a b) : a.grownBy b none := ⟨h.os, h.tape, h.output, h.size, fun k hk _ => h.block k hk⟩
theorem cell_new_l (W : World) (v : Value) (t : TypeId) : (W.alloc (.cells #[v] t)).cell? ⟨W.heap.size, 0, none⟩ = some v ∧ (W.alloc (.cells #[v] t)).frozen? ⟨W.heap.size, 0, none⟩ = false := by
  have h : (W.alloc (.cells #[v] t)).heap[W.heap.size]? = some (.cells #[v] t (0, 0)) := heap_alloc_new W _
  unfold World.cell? World.frozen?
  simp only [h]
  constructor <;> simp
theorem cell_alloc_l {W : World} {a : Addr} {v : Value} (o : Obj) (h : W.cell? a = some v) : (W.alloc o).cell? a = some v := cell_kept h (World.grownBy_alloc W o none) (fun r e => by cases e)
theorem frozen_alloc_l {W : World} {a : Addr} {v : Value} (o : Obj) (h : W.cell? a = some v) (hf : W.frozen? a = false) : (W.alloc o).frozen? a = false := (frozen_kept h (World.grownBy_alloc W o none) (fun r e => by cases e)).trans hf
theorem upN_succ {α : Type} (f : Nat → α) (k : Nat) : upN f k ++ [f k] = upN f (k + 1) := by simp [upN, List.range_succ]
theorem upN_length {α : Type} (f : Nat → α) (k : Nat) : (upN f k).length = k := by simp [upN]

def msk : Value := .agg #[.int .u8 128, .int .u8 64, .int .u8 32, .int .u8 16, .int .u8 8, .int .u8 4, .int .u8 2, .int .u8 1]
theorem idx_masks (k : Nat) (W : World) : (Instr.index 216 (.agg #[.int .u8 128, .int .u8 64, .int .u8 32, .int .u8 16, .int .u8 8, .int .u8 4, .int .u8 2, .int .u8 1]) (.int .i64 ((k : Int) % 8))).run Tryz.prog W = .ok (.int .u8 (2 ^ (7 - k % 8) : Nat)) W := by
  have e : ((k : Int) % 8) = ((k % 8 : Nat) : Int) := by norm_cast
  rw [e]
  have h : k % 8 < 8 := Nat.mod_lt _ (by omega)
  generalize k % 8 = r at h
  have : r = 0 ∨ r = 1 ∨ r = 2 ∨ r = 3 ∨ r = 4 ∨ r = 5 ∨ r = 6 ∨ r = 7 := by omega
  rcases this with rfl | rfl | rfl | rfl | rfl | rfl | rfl | rfl <;> (show _ = _; kernel_rfl)
theorem and_fact (s : ByteArray) (k : Nat) (h : k / 8 < s.size) : (bits BinOp.and IntKind.u8 (↑(s[k / 8]'h).toNat) (2 ^ (7 - k % 8)) != 0) = bitL s.data.toList k := by
  have hlt := (s[k / 8]'h).toNat_lt
  have hp : 2 ^ (7 - k % 8) < 256 := Nat.lt_of_le_of_lt (Nat.pow_le_pow_right (by omega) (show 7 - k % 8 ≤ 7 by omega)) (by decide)
  have hg : s.data.toList.getD (k / 8) 0 = s[k / 8]'h := by
    rw [List.getD_eq_getElem?_getD, List.getElem?_eq_getElem (by simpa using h)]; rfl
  rw [show ((2 : Int) ^ (7 - k % 8)) = ((2 ^ (7 - k % 8) : Nat) : Int) by norm_cast, u8_and_nat _ _ hlt hp, bitL, hg]
  generalize (s[k / 8]'h).toNat = x
  have hx : x &&& 2 ^ (7 - k % 8) = if x.testBit (7 - k % 8) then 2 ^ (7 - k % 8) else 0 := by
    apply Nat.eq_of_testBit_eq
    intro i
    rw [Nat.testBit_and, Nat.testBit_two_pow]
    by_cases h : 7 - k % 8 = i
    · subst h; cases hb : x.testBit (7 - k % 8) <;> simp
    · cases hb : x.testBit (7 - k % 8) <;> simp [h]
  rw [hx]
  cases x.testBit (7 - k % 8)
  · simp
  · have := Nat.two_pow_pos (7 - k % 8)
    simp
    exact_mod_cast (Nat.ne_of_gt this)

set_option maxRecDepth 100000 in
theorem each1_stops (n : Nat) (Bs n₀ : Nat) (d : ByteArray) (hd : 20 ≤ d.size) (w : World) (hb : Bs < n₀) (hn : n₀ ≤ w.heap.size) (hBs : w.cell? ⟨Bs, 0, none⟩ = some (.string d)) :
    SeqStopsK Fence.wide n Tryz.prog 161 #[.pointer (some ⟨Bs, 0, none⟩)] encNB (Below n₀) (fun xs => xs = upN (eachF d) 160) (fun pre => ∃ k, k ≤ 160 ∧ pre = upN (eachF d) k) 160 w := by
  intro l J Jx W hW hJ hJx hY h0
  refine callsIn_of_wp Tryz.func161 rfl trivial ?_ rfl
  simp only [Tryz.ntmps161, List.size_toArray, List.length_cons, List.length_nil, Nat.reduceAdd, Nat.reduceSub, Array.replicate_succ, Array.replicate_zero, List.push_toArray, List.append_toArray, List.nil_append, List.cons_append]
  have hBW : W.cell? ⟨Bs, 0, none⟩ = some (.string d) := (hW.cell (p := ⟨Bs, 0, none⟩) (by simp; omega)).trans hBs
  gi_wp2
  gi_loopw [4] (fun i wr => ∃ k : Nat, k ≤ 160 ∧ i = .int .i64 k ∧ J (upN (eachF d) k) wr ∧ Below n₀ W wr) (fun i _ => 160 - (intOf i).toNat)
  case atStart => exact ⟨0, by omega, rfl, h0, Below.refl _ _⟩
  case round =>
    obtain ⟨k, hk, rfl, hJs, hnx⟩ := hrel
    have hc := (hnx.cell (p := ⟨Bs, 0, none⟩) hb).trans hBW
    by_cases hlt : k < 160
    · have hk8 : k / 8 < d.size := by omega
      have hk8i : 0 ≤ (k : Int) / 8 ∧ (k : Int) / 8 < d.size := by omega
      have hidx := idx_masks k
      gi_wp2_with fail
      refine wpIn_region_ord [(0,0),(1,0),(2,1),(3,0),(4,0),(5,0),(7,0),(8,0),(6,2),(9,0),(10,0),(11,0),(12,3),(13,0)] (fun _ => trivial) (by kernel_rfl) (by kernel_rfl) (by kernel_rfl) ?_
      simp only [pickO, List.map_cons, List.map_nil, List.getD_cons_zero, List.getD_cons_succ]
      repeat (first | ((with_reducible refine wpI_skip ?_ ?_); rfl; simp only [Act.put, List.setIfInBounds_toArray, List.set_cons_zero, List.set_cons_succ]) | ((with_reducible refine wpI_step (fun K hK => ?_)); go_simp; (try go_bits); (first | (with_reducible refine hK _ _ ?_) | (simp only [IntWalk.iteOmega]; go_simp; (try go_bits); (with_reducible refine hK _ _ ?_))); clear hK K))
      (with_reducible refine wpI_step (fun K hK => ?_)); go_simp; (try go_bits)
      (refine (callsIn_wide.2 (masks_calls _)).mono ?_); rintro e2 w2 ⟨rfl, hb2⟩
      refine ⟨hb2, ?_⟩
      (with_reducible refine hK _ _ ?_); clear hK K
      have hJ2 : J (upN (eachF d) k) w2 := hJ _ _ _ none hJs (grown_below ((Below.refl _ wr).drew.trans hb2)) (by simp)
      obtain ⟨fn, tmps, assign, body, hy, hR⟩ := hY _ (eachF d k) w2 hJ2 (by rw [upN_length]; exact hlt)
      simp only [encNB, eachF] at hy
      have hand := and_fact d k hk8
      have hB2 : Below n₀ W w2 := hnx.drew.trans (hb2.mono (by have := hnx.size; have := hW.size; simp; omega))
      clear hJs hnx hJ2
      repeat (first | ((with_reducible refine wpI_skip ?_ ?_); rfl; simp only [Act.put, List.setIfInBounds_toArray, List.set_cons_zero, List.set_cons_succ]) | ((with_reducible refine wpI_step (fun K hK => ?_)); go_simp; (try go_bits); (first | (with_reducible refine hK _ _ ?_) | (simp only [IntWalk.iteOmega]; go_simp; (try go_bits); (with_reducible refine hK _ _ ?_))); clear hK K))
      (with_reducible refine wpI_step (fun K hK => ?_)); go_simp; (try go_bits)
      refine hR.mono ?_
      rintro e W3 (⟨rfl, hJ3, hk3⟩ | ⟨rfl, hJx3⟩)
      · (with_reducible refine hK _ _ ?_); clear hK K
        repeat (first | ((with_reducible refine wpI_skip ?_ ?_); rfl; simp only [Act.put, List.setIfInBounds_toArray, List.set_cons_zero, List.set_cons_succ]) | ((with_reducible refine wpI_step (fun K hK => ?_)); go_simp; (try go_bits); (first | (with_reducible refine hK _ _ ?_) | (simp only [IntWalk.iteOmega]; go_simp; (try go_bits); (with_reducible refine hK _ _ ?_))); clear hK K))
        (with_reducible refine wpI_nil ?_)
        gi_wp2
        go_roundw
        case rel => exact ⟨k + 1, by omega, by go_num, by rw [← upN_succ]; exact hJ3, hB2.trans hk3⟩
        case measure => simp [intOf]; omega
      · (with_reducible refine hK _ _ ?_); clear hK K
        repeat (first | ((with_reducible refine wpI_skip ?_ ?_); rfl; simp only [Act.put, List.setIfInBounds_toArray, List.set_cons_zero, List.set_cons_succ]) | ((with_reducible refine wpI_step (fun K hK => ?_)); go_simp; (try go_bits); (first | (with_reducible refine hK _ _ ?_) | (simp only [IntWalk.iteOmega]; go_simp; (try go_bits); (with_reducible refine hK _ _ ?_))); clear hK K))
        (with_reducible refine wpI_nil ?_)
        gi_wp2
        refine bodyPost_ret (results_none rfl _ _ _) rfl ?_
        exact ⟨⟨_, rfl⟩, .inr ⟨_, ⟨k + 1, by omega, (upN_succ _ _)⟩, hJx3⟩⟩
    · obtain rfl : k = 160 := by omega
      gi_wp2
      go_end0
      exact ⟨⟨_, rfl⟩, .inl ⟨_, rfl, hJs⟩⟩

theorem each_calls (w : World) (d : ByteArray) : Calls Tryz.prog 146 #[.string d] w fun e w' => e = .returned (.func (.func 161) #[] #[.pointer (some ⟨w.heap.size, 0, none⟩)]) ∧ w' = w.alloc (.cells #[.string d] 9) := by
  go_enter Tryz.func146, Tryz.ntmps146
  go_wp2
  go_ret
  exact ⟨rfl, rfl⟩
def xorF (a b : ByteArray) : ByteArray := ⟨(List.zipWith (· ^^^ ·) a.data.toList b.data.toList).toArray⟩
theorem distance_calls (w : World) (a b : ByteArray) (ha : a.size ≤ maxLen) (hb : a.size ≤ b.size) (hbm : b.size ≤ maxLen) :
    Calls Tryz.prog 133 #[.string a, .string b] w (Ret w (.string (xorF a b))) := by
  go_enter Tryz.func133, Tryz.ntmps133
  go_wp2_with (go_at_call 154; (with_reducible refine (dist_calls _ _ _ ha hb hbm).mono ?_); rintro e2 w2 ⟨rfl, hb2⟩)
  go_ret
  exact ⟨rfl, hb2⟩

theorem cm_char (a b : ByteArray) : ∀ (f n k : Nat), n ≤ k → k ≤ n + f → (∀ j, n ≤ j → j < k → bitL a.data.toList j = bitL b.data.toList j) → (k = n + f ∨ bitL a.data.toList k ≠ bitL b.data.toList k) → cm a b f n = k
  | 0, n, k, h1, h2, _, _ => by simp [cm]; omega
  | f + 1, n, k, h1, h2, h3, h4 => by
    unfold cm
    by_cases he : bitL a.data.toList n = bitL b.data.toList n
    · rw [if_pos (by simpa using he)]
      by_cases hk : k = n
      · subst hk
        rcases h4 with h4 | h4
        · omega
        · exact absurd he h4
      · exact cm_char a b f (n + 1) k (by omega) (by omega) (fun j hj => h3 j (by omega)) (h4.imp (fun h => by omega) id)
    · rw [if_neg (by simpa using he)]
      by_cases hk : k = n
      · exact hk.symm
      · exact absurd (h3 n (Nat.le_refl _) (by omega)) he
theorem commonF_char {a b : ByteArray} {k : Nat} (hk : k ≤ 160) (h : ∀ j, j < k → bitL a.data.toList j = bitL b.data.toList j) (h4 : k = 160 ∨ bitL a.data.toList k ≠ bitL b.data.toList k) : commonF a b = k :=
  cm_char a b 160 0 k (Nat.zero_le _) (by omega) (fun j _ => h j) (h4.imp (fun h => by omega) id)
theorem bitL_xor (a b : ByteArray) (j : Nat) (ha : j / 8 < a.size) (hb : j / 8 < b.size) : bitL (xorF a b).data.toList j = (bitL a.data.toList j ^^ bitL b.data.toList j) := by
  have h1 : a.data.toList[j / 8]? = some (a[j / 8]) := by rw [List.getElem?_eq_getElem (by simpa using ha)]; rfl
  have h2 : b.data.toList[j / 8]? = some (b[j / 8]) := by rw [List.getElem?_eq_getElem (by simpa using hb)]; rfl
  unfold bitL xorF
  simp only [List.getD_eq_getElem?_getD, List.getElem?_zipWith, h1, h2, Option.getD_some, UInt8.toNat_xor, Nat.testBit_xor]
theorem bitL_xor_false {a b : ByteArray} (ha : a.size = 20) (hb : b.size = 20) {j : Nat} (hj : j < 160) (h : bitL (xorF a b).data.toList j = false) : bitL a.data.toList j = bitL b.data.toList j := by
  rw [bitL_xor a b j (by omega) (by omega)] at h
  revert h
  cases bitL a.data.toList j <;> cases bitL b.data.toList j <;> simp
theorem bitL_xor_true {a b : ByteArray} (ha : a.size = 20) (hb : b.size = 20) {j : Nat} (hj : j < 160) (h : bitL (xorF a b).data.toList j = true) : bitL a.data.toList j ≠ bitL b.data.toList j := by
  rw [bitL_xor a b j (by omega) (by omega)] at h
  revert h
  cases bitL a.data.toList j <;> cases bitL b.data.toList j <;> simp
theorem xorF_size {a b : ByteArray} (ha : a.size = 20) (hb : b.size = 20) : (xorF a b).size = 20 := by
  have h1 : a.data.size = 20 := ha
  have h2 : b.data.size = 20 := hb
  show (xorF a b).data.size = 20
  simp [xorF, h1, h2]

set_option maxRecDepth 100000 in
theorem common_calls (w : World) (a b : ByteArray) (ha : a.size = 20) (hb : b.size = 20) : Calls Tryz.prog 123 #[.string a, .string b] w (Ret w (.int .i64 (commonF a b))) := by
  refine (callsIn_wide (n := 9)).1 ?_
  refine callsIn_of_wp_marks Tryz.func123 rfl trivial ?_ rfl
  simp only [Tryz.ntmps123, List.size_toArray, List.length_cons, List.length_nil, Nat.reduceAdd, Nat.reduceSub, Array.replicate_succ, Array.replicate_zero, List.push_toArray, List.append_toArray, List.nil_append, List.cons_append]
  gi_wp2_with fail
  refine (callsIn_wide.2 (distance_calls _ _ _ (by unfold maxLen; omega) (by omega) (by unfold maxLen; omega))).mono ?_; rintro e2 w2 ⟨rfl, hb2⟩
  have hX := xorF_size ha hb
  have c0 := cell_new_l w (.int .i64 0) 3
  have c1 := (hb2.cell (p := ⟨w.heap.size, 0, none⟩) (by simp)).trans c0.1
  have f1 := (hb2.frozen (p := ⟨w.heap.size, 0, none⟩) (by simp)).trans c0.2
  have hsz : w.heap.size < w2.heap.size := by have := hb2.size; simp at this; omega
  have hB2 : Below w.heap.size w w2 := (below_new (Below.refl _ w) _).trans (hb2.mono (by simp))
  clear c0
  gi_wp2_with (gi_at_call 146; refine (callsIn_wide.2 (each_calls _ _)).mono ?_; rintro e3 w3 ⟨rfl, rfl⟩)
  have c2 := cell_new_l w2 (.string (xorF a b)) 9
  have hB3 := below_new hB2 (.cells #[.string (xorF a b)] 9)
  refine wpIn_rangeFunc_ownF rfl (by omega) (gf := 161) (lb := #[.pointer (some ⟨w2.heap.size, 0, none⟩)]) rfl trivial (enters_of Tryz.func161 (by kernel_rfl) rfl)
    (each1_stops (9 - 1) w2.heap.size (w2.heap.size + 1) (xorF a b) (by omega) _ (by omega) (by simp) c2.1) belowK_t (belowK_b (by simp)) (Below.refl _ _) (fun _ => rfl)
    (fun pre W => ((∀ y ∈ pre, y.2 = false) ∧ W.cell? ⟨w.heap.size, 0, none⟩ = some (.int .i64 0) ∧ W.frozen? ⟨w.heap.size, 0, none⟩ = false) ∧ Below w.heap.size w W)
    (fun c pre W => (c = .ret ∧ ∃ q x, pre = q ++ [x] ∧ (∀ y ∈ q, y.2 = false) ∧ x.2 = true ∧ W.cell? ⟨w.heap.size, 0, none⟩ = some (.int .i64 (x.1 : Int))) ∧ Below w.heap.size w W)
    (OwnFrom.and (Own.from (fun s A B row hs hg hr => ⟨hs.1, cell_kept hs.2.1 hg hr, (frozen_kept hs.2.1 hg hr).trans hs.2.2⟩) _) (ownFrom_below (Nat.le_refl _) (by simp; omega)))
    (fun c => OwnFrom.and (Own.from (fun s A B row hs hg hr => by obtain ⟨h1, q, x, h2, h3, h4, h5⟩ := hs; exact ⟨h1, q, x, h2, h3, h4, cell_kept h5 hg hr⟩) _) (ownFrom_below (Nat.le_refl _) (by simp; omega)))
    ⟨⟨by simp, cell_alloc_l _ c1, frozen_alloc_l _ c1 f1⟩, hB3⟩
    (fun x => { tmps := #[.string a, .string b, undef, undef, .pointer (some ⟨w.heap.size, 0, none⟩), .int .i64 x.1, .bool x.2, .string a, .string b, .string (xorF a b), .func (.func 161) #[] #[.pointer (some ⟨w2.heap.size, 0, none⟩)], .int .i64 x.1, .bool x.2, undef, undef], defers := [] }) ?assign ?body ?done ?stop
  case assign =>
    intro l x W K hK
    simp only [encNB]
    gi_wp2
    exact hK
  case body =>
    rintro l pre ⟨i, bt⟩ W ⟨⟨hp, hcr, hfr⟩, hB⟩ _
    cases bt with
    | true =>
      gi_wp2
      exact ⟨KeepsOthers.setCell _ _ _, ⟨rfl, pre, (i, true), rfl, hp, rfl, World.cell?_setCell_same' _ _ _ (by rw [hcr]; rfl)⟩, hB.setCell (p := ⟨w.heap.size, 0, none⟩) (by simp) _⟩
    | false =>
      gi_wp2
      exact ⟨KeepsOthers.refl _, Below.refl _ _, ⟨fun y hy => (List.mem_append.1 hy).elim (hp y) (fun e => by simp at e; subst e; rfl), hcr, hfr⟩, hB⟩
  case done =>
    rintro D ys W hD rfl ⟨⟨hne, hcr, hfr⟩, hB⟩ hK
    gi_wp2
    have hK' := (KeepsOthers.setCell W ⟨w.heap.size, 0, none⟩ (.int .i64 160)).same D _ hK rfl
    refine ⟨by simp, .inl ⟨_, _, rfl, run_takeDeferred hK', ?_⟩⟩
    have hc5 := cell_kept (World.cell?_setCell_same' W ⟨w.heap.size, 0, none⟩ (.int .i64 160) (by rw [hcr]; rfl)) (grownBy_putObj' _ D (.deferred none)) (fun r e => by cases e; exact ⟨_, hK', rfl⟩)
    have hcm : commonF a b = 160 := commonF_char (Nat.le_refl _) (fun j hj => bitL_xor_false ha hb hj (hne (eachF (xorF a b) j) (List.mem_map.2 ⟨j, List.mem_range.2 hj, rfl⟩))) (.inl rfl)
    refine ⟨.int .i64 160, ?_, by rw [hcm]; exact ⟨rfl, (hB.setCell (p := ⟨w.heap.size, 0, none⟩) (by simp) _).trans (belowK_b (w := w) (Nat.le_refl _) _ D _ _ (by simp at hD; omega) hK' rfl rfl)⟩⟩
    simp [results, Tryz.f123, go_sem, hc5]
  case stop =>
    rintro D c pre W hD ⟨k, hk, hpre⟩ ⟨⟨rfl, q, x, hq, hqf, hx, hcr⟩, hB⟩ hK
    gi_wp2
    refine ⟨by simp, .inl ⟨_, _, rfl, run_takeDeferred hK, ?_⟩⟩
    have hc5 := cell_kept hcr (grownBy_putObj' _ D (.deferred none)) (fun r e => by cases e; exact ⟨_, hK, rfl⟩)
    obtain ⟨j, rfl⟩ : ∃ j, k = j + 1 := ⟨k - 1, by
      have := congrArg List.length (hpre.symm.trans hq); rw [upN_length] at this; simp at this; omega⟩
    rw [hpre, ← upN_succ] at hq
    obtain ⟨hq1, hx1⟩ := List.append_inj' hq rfl
    simp only [List.cons.injEq, and_true] at hx1
    have hcm : commonF a b = j := commonF_char (by omega) (fun i hi => bitL_xor_false ha hb (by omega) (hqf (eachF (xorF a b) i) (by rw [← hq1]; exact List.mem_map.2 ⟨i, List.mem_range.2 hi, rfl⟩)))
      (.inr (bitL_xor_true ha hb (by omega) (by rw [← hx1] at hx; exact hx)))
    have hxj : x.1 = j := by rw [← hx1]; rfl
    refine ⟨.int .i64 j, ?_, by rw [hcm]; exact ⟨rfl, hB.trans (belowK_b (w := w) (Nat.le_refl _) W D _ _ (by simp at hD; omega) hK rfl rfl)⟩⟩
    rw [hxj] at hc5
    simp [results, Tryz.f123, go_sem, hc5]
end Go.Proofs.Tc
