import Derived.Test.YtjjnbanlofhhnaaGreatBase
import Derived.Test.YtjjnbanlofhhnaaGreatProg
namespace Go.Proofs.Tc
open Go.RowKit Go.Sort
theorem kind_calls (w : World) (now fam port kd an ak fl : Int) (id ip : ByteArray) :
    Calls Tryz.prog 27 #[.int .i64 now, .agg #[.string id, .int .i64 fam, .string ip, .int .i64 port, .int .i64 kd, .int .i64 an, .int .i64 ak, .int .i64 fl]] w
      (Ret w (.int .i64 (kindF now an ak fl))) := by
  go_enter Tryz.func27, Tryz.ntmps27
  go_wp2
  all_goals (go_ret; refine ⟨?_, (Below.refl _ _).alloc (Nat.le_refl _) _⟩; congr 2; unfold kindF)
  all_goals simp [*] 
  all_goals omega

def laterF (now l : Int) : Int := if 0 < l ∧ wrap64 (now + l) ≤ 1000000000 then wrap64 (now + l) else now
theorem later_calls (w : World) (now k l fam port ff : Int) (id ip id2 : ByteArray) :
    Calls Tryz.prog 11 #[.int .i64 now, .agg #[.int .i64 k, .int .i64 l, .string id, .int .i64 fam, .string ip, .int .i64 port, .string id2, .int .i64 ff]] w
      (Ret w (.int .i64 (laterF now l))) := by
  go_enter Tryz.func11, Tryz.ntmps11
  go_wp2
  all_goals (go_ret; refine Ret.int rfl ?_ ((Below.refl _ _).alloc (Nat.le_refl _) _); unfold laterF)
  · rw [if_pos ⟨by assumption, by assumption⟩]
  · rw [if_neg (by omega)]
  · rw [if_neg (by omega)]

theorem valid_calls (w : World) (s : ByteArray) :
    Calls Tryz.prog 22 #[.string s] w (Ret w (.bool ((s.size : Int) == 20))) := by
  go_enter Tryz.func22, Tryz.ntmps22
  go_wp2
  go_ret
  exact ⟨rfl, Below.refl _ _⟩
theorem rvalid_calls (w : World) (s : ByteArray) :
    Calls Tryz.prog 6 #[.string s] w (Ret w (.bool ((s.size : Int) == 20))) := by
  go_enter Tryz.func6, Tryz.ntmps6
  go_wp2
  go_ret
  exact ⟨rfl, Below.refl _ _⟩

def askedF (s : ByteArray) (n m : Int) : Int := if s.size = 20 then (if n < 0 ∨ m < n then 7 else 0) else 1
theorem asked_calls (w : World) (s : ByteArray) (n m : Int) :
    Calls Tryz.prog 122 #[.string s, .int .i64 n, .int .i64 m] w (Ret w (.int .i64 (askedF s n m))) := by
  go_enter Tryz.func122, Tryz.ntmps122
  go_wp2_with (go_at_call 22; refine (valid_calls _ _).mono ?_; rintro e w' ⟨rfl, hb⟩)
  all_goals (go_ret; refine Ret.int rfl ?_ (by assumption); unfold askedF)
  · rename_i h; simp at h; rw [if_neg (by omega)]
  · rename_i h1 h2 h3; simp at h1; rw [if_pos (by omega), if_pos h3]
  · rename_i h1 h2 h3; simp at h1; rw [if_pos (by omega), if_neg (by omega)]
  · rename_i h1 h2; simp at h1; rw [if_pos (by omega), if_pos (by omega)]
theorem masks_calls (w : World) :
    Calls Tryz.prog 147 #[] w (Ret w (.agg #[.int .u8 128, .int .u8 64, .int .u8 32, .int .u8 16, .int .u8 8, .int .u8 4, .int .u8 2, .int .u8 1])) := by
  go_enter Tryz.func147, Tryz.ntmps147
  go_wp2
  go_returns
  refine ⟨rfl, ?_⟩
  go_grown
theorem samedrop_calls (w : World) (b : Nat) (fam port kd an ak fl fam2 port2 : Int) (id ip id2 ip2 : ByteArray) 
   (h0 : w.cell? ⟨b, 0, none⟩ = some (.string id2)) (h1 : w.cell? ⟨b, 1, none⟩ = some (.int .i64 fam2)) (h2 : w.cell? ⟨b, 2, none⟩ = some (.string ip2)) (h3 : w.cell? ⟨b, 3, none⟩ = some (.int .i64 port2)) :
    Calls Tryz.prog 62 #[.agg #[.string id, .int .i64 fam, .string ip, .int .i64 port, .int .i64 kd, .int .i64 an, .int .i64 ak, .int .i64 fl], .pointer (some ⟨b, 0, none⟩)] w
      (Ret w (.bool (decide ((⟨id, fam, ip, port⟩ : Nd) = ⟨id2, fam2, ip2, port2⟩)))) := by
  have lt := World.block_lt_of_cell? w _ h0
  simp only at lt
  go_enter Tryz.func62, Tryz.ntmps62
  go_wp2
  all_goals (go_ret; refine Ret.bool rfl ?_ ((Below.refl _ _).alloc (Nat.le_refl _) _))
  all_goals first | exact nd_t (by assumption) (by assumption) (by assumption) (by assumption) | exact nd_f1 (by assumption) | exact nd_f2 (by assumption) | exact nd_f3 (by assumption) | exact nd_f4 (by assumption)
theorem bit_fact (s : ByteArray) (i : Nat) (h : i / 8 < s.size) : (bits BinOp.and IntKind.u8 (↑(s[i / 8]'h).toNat / 2 ^ (7 - i % 8)) 1 == 1) = bitL s.data.toList i := by
  have e : ((s[i / 8]'h).toNat : Int) / 2 ^ (7 - i % 8) = (((s[i / 8]'h).toNat / 2 ^ (7 - i % 8) : Nat) : Int) := by norm_cast
  have hlt := (s[i / 8]'h).toNat_lt
  have hd : (s[i / 8]'h).toNat / 2 ^ (7 - i % 8) < 256 := Nat.lt_of_le_of_lt (Nat.div_le_self _ _) hlt
  have hg : s.data.toList.getD (i / 8) 0 = s[i / 8]'h := by
    rw [List.getD_eq_getElem?_getD, List.getElem?_eq_getElem (by simpa using h)]; rfl
  rw [e, show (1 : Int) = ((1 : Nat) : Int) from rfl, u8_and_nat _ 1 hd (by omega), bitL, hg, Nat.testBit_eq_decide_div_mod_eq, Nat.and_one_is_mod]
  generalize (s[i / 8]'h).toNat / 2 ^ (7 - i % 8) % 2 = x
  rw [Bool.eq_iff_iff, beq_iff_eq, decide_eq_true_iff]
  omega
theorem bit_calls (w : World) (s : ByteArray) (i : Nat) (h : i < 8 * s.size) (hs : s.size ≤ maxLen):
    Calls Tryz.prog 106 #[.string s, .int .i64 i] w (Ret w (.bool (bitL s.data.toList i))) := by
  unfold maxLen at hs
  go_enter Tryz.func106, Tryz.ntmps106
  go_wp2
  go_ret
  refine Ret.bool rfl ?_ (Below.refl _ _)
  exact bit_fact s i (by omega)
theorem noted_yes (w : World) (t : Nat) (now fam port kd an ak fl : Int) (id ip : ByteArray) (ht : w.cell? ⟨t, 1, none⟩ = some (.int .i64 now)) :
    Calls Tryz.prog 32 #[.pointer (some ⟨t, 0, none⟩), .agg #[.string id, .int .i64 fam, .string ip, .int .i64 port, .int .i64 kd, .int .i64 an, .int .i64 ak, .int .i64 fl], .bool true] w
      (Ret w (.agg #[.string id, .int .i64 fam, .string ip, .int .i64 port, .int .i64 kd, .int .i64 now, .int .i64 ak, .int .i64 0])) := by
  have lt := World.block_lt_of_cell? w _ ht
  simp only at lt
  go_enter Tryz.func32, Tryz.ntmps32
  go_wp2
  go_returns
  refine ⟨rfl, ?_⟩
  go_grown
theorem noted_no (w : World) (t : Nat) (now fam port kd an ak fl : Int) (id ip : ByteArray) (ht : w.cell? ⟨t, 1, none⟩ = some (.int .i64 now)) :
    Calls Tryz.prog 32 #[.pointer (some ⟨t, 0, none⟩), .agg #[.string id, .int .i64 fam, .string ip, .int .i64 port, .int .i64 kd, .int .i64 an, .int .i64 ak, .int .i64 fl], .bool false] w
      (Ret w (.agg #[.string id, .int .i64 fam, .string ip, .int .i64 port, .int .i64 kd, .int .i64 an, .int .i64 now, .int .i64 fl])) := by
  have lt := World.block_lt_of_cell? w _ ht
  simp only at lt
  go_enter Tryz.func32, Tryz.ntmps32
  go_wp2
  go_returns
  refine ⟨rfl, ?_⟩
  go_grown
theorem small_calls (w : World) (fam port kd an ak fl : Int) (id ip : ByteArray) :
    Calls Tryz.prog 105 #[.agg #[.string id, .int .i64 fam, .string ip, .int .i64 port, .int .i64 kd, .int .i64 an, .int .i64 ak, .int .i64 fl]] w
      (Ret w (.bool (decide (an < 0)))) := by
  go_enter Tryz.func105, Tryz.ntmps105
  go_wp2
  go_ret
  exact ⟨rfl, by go_grown⟩
end Go.Proofs.Tc
