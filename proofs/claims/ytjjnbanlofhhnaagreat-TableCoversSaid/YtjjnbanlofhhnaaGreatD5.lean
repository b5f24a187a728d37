import Derived.Test.YtjjnbanlofhhnaaGreatD4
namespace Go.Proofs.Tc
open Go.RowKit Go.Sort
attribute [local go_sem] stepO_0 stepO_1 stepO_2 stepO_3 stepV_0 stepV_1 stepV_2 stepV_3 stepV_5

def flipL (l : List UInt8) (n : Nat) : List UInt8 := l.set (n / 8) (l.getD (n / 8) 0 ^^^ UInt8.ofNat (2 ^ (7 - n % 8)))
def flipN (s : ByteArray) (n : Nat) : ByteArray := ⟨(flipL s.data.toList n).toArray⟩
theorem xor_fact (x : UInt8) (n : Nat) : bits BinOp.xor IntKind.u8 (x.toNat : Int) (2 ^ (7 - n % 8)) = ((x ^^^ UInt8.ofNat (2 ^ (7 - n % 8))).toNat : Int) := by
  have hp : 2 ^ (7 - n % 8) < 256 := Nat.lt_of_le_of_lt (Nat.pow_le_pow_right (by omega) (show 7 - n % 8 ≤ 7 by omega)) (by decide)
  rw [show ((2 : Int) ^ (7 - n % 8)) = ((2 ^ (7 - n % 8) : Nat) : Int) by norm_cast, u8_xor_nat _ _ x.toNat_lt hp, UInt8.toNat_xor, UInt8.toNat_ofNat_of_lt' hp]
set_option maxRecDepth 100000 in
theorem nflip_calls (w : World) (s : ByteArray) (n : Nat) (hs : s.size = 20) (hn : n < 160) : Calls Tryz.prog 124 #[.string s, .int .i64 n] w (Ret w (.tuple #[.string (flipN s n), .int .i64 0])) := by
  have hf : askedF s n 159 = 0 := by unfold askedF; rw [if_pos hs, if_neg (by omega)]
  have hlen : s.data.toList.length = 20 := by simp; exact hs
  obtain ⟨x, hx⟩ : ∃ x, s.data.toList[n / 8]? = some x := ⟨s.data.toList[n / 8]'(by omega), List.getElem?_eq_getElem (by omega)⟩
  have HX := Lib.hid hx
  have HL := Lib.hid hlen
  have HS := Lib.hid hs
  clear hx hlen
  go_enter Tryz.func124, Tryz.ntmps124
  go_wp2_with fail
  refine (asked_calls _ _ _ _).mono ?_; rintro e2 w2 ⟨rfl, hb2⟩
  rw [hf]
  obtain ⟨cap, w1, hconv, hB1, hsz, hrow⟩ := conv_bytes (P := Tryz.prog) w2 9 155 5 s Tryz.underlying9 Tryz.underlying155 Tryz.underlying5
  have hc := hrow.cell (i := n / 8) (u8s_get' HX.out)
  have hrle := hrow.le
  rw [u8s_length, HL.out] at hrle
  have hfr := hrow.frozen (i := n / 8) (by omega)
  have hidx := idx_masks n
  have hn8 : n / 8 < 20 := by omega
  have hn8i : 0 ≤ (n : Int) / 8 ∧ (n : Int) / 8 < 20 := by omega
  have HR := Lib.hid hrow
  have HB1 := Lib.hid (below_ext hb2 hB1)
  clear hrow hB1 hsz hrle
  go_wp2_with fail
  refine wp_region_ord [(0,0),(1,0),(2,0),(3,0),(4,1),(6,0),(7,0),(5,2),(8,0),(9,0),(10,0),(11,3)] (by kernel_rfl) (by kernel_rfl) ?_
  simp only [pickO, List.map_cons, List.map_nil, List.getD_cons_zero, List.getD_cons_succ]
  repeat (first | ((with_reducible refine wpO_skip ?_ ?_); rfl; simp only [Act.put, List.setIfInBounds_toArray, List.set_cons_zero, List.set_cons_succ]) | ((with_reducible refine wpO_step (fun K hK => ?_)); go_simp; (try go_bits); (first | (with_reducible refine hK _ _ ?_) | (simp only [IntWalk.iteOmega]; go_simp; (try go_bits); (with_reducible refine hK _ _ ?_))); clear hK K))
  (with_reducible refine wpO_step (fun K hK => ?_)); go_simp; (try go_bits)
  refine (masks_calls _).mono ?_; rintro e3 w3 ⟨rfl, hb3⟩
  refine ⟨hb3, ?_⟩
  (with_reducible refine hK _ _ ?_); clear hK K
  have hxf := xor_fact x n
  have hlt1 : w2.heap.size < w1.heap.size := HR.out.lt
  have hB3 : Below w1.heap.size w1 w3 := (Below.refl _ w1).drew.trans hb3
  have hc3 := (hB3.cell (p := ⟨w2.heap.size, n / 8, none⟩) (by exact hlt1)).trans hc
  have hf3 := (hB3.frozen (p := ⟨w2.heap.size, n / 8, none⟩) (by exact hlt1)).trans hfr
  have hr3 := (HR.out.ext hB3).set (i := n / 8) (.int .u8 (x ^^^ UInt8.ofNat (2 ^ (7 - n % 8))).toNat) (by rw [u8s_length, HL.out]; exact hn8)
  rw [u8s_set] at hr3
  have hfl : flipL s.data.toList n = s.data.toList.set (n / 8) (x ^^^ UInt8.ofNat (2 ^ (7 - n % 8))) := by
    unfold flipL
    rw [List.getD_eq_getElem?_getD, HX.out]; rfl
  rw [← hfl] at hr3
  have hback := conv_back (P := Tryz.prog) (cap := cap) 155 9 5 Tryz.underlying155 Tryz.underlying5 Tryz.underlying9 hr3
  rw [show (flipL s.data.toList n).length = 20 by rw [hfl, List.length_set]; exact HL.out] at hback
  rw [show (x ^^^ UInt8.ofNat (2 ^ (7 - n % 8))).toNat = x.toNat ^^^ 2 ^ (7 - n % 8) % 256 by simp] at hback
  have HB3 := Lib.hid hB3
  clear hc hfr hconv hr3 hfl hlt1 hB3 hb3
  repeat (first | ((with_reducible refine wpO_skip ?_ ?_); rfl; simp only [Act.put, List.setIfInBounds_toArray, List.set_cons_zero, List.set_cons_succ]) | ((with_reducible refine wpO_step (fun K hK => ?_)); go_simp; (try go_bits); (first | (with_reducible refine hK _ _ ?_) | (simp only [IntWalk.iteOmega]; go_simp; (try go_bits); (with_reducible refine hK _ _ ?_))); clear hK K))
  (with_reducible refine wpO_nil ?_)
  go_wp2
  go_returns
  refine ⟨rfl, ?_⟩
  exact (HB1.out.trans (HB3.out.mono HB1.out.size)).setCell (p := ⟨w2.heap.size, n / 8, none⟩) hb2.size _
end Go.Proofs.Tc
