import Derived.Test.YtjjnbanlofhhnaaGreatA1
import Derived.Test.YtjjnbanlofhhnaaGreatMem
namespace Go.Proofs.Tc
open Go.RowKit Go.Sort
attribute [local go_sem] stepO_0 stepO_1 stepO_2 stepO_3
theorem xor_calls (w : World) (x y : UInt8) :
    Calls Tryz.prog 155 #[.int .u8 x.toNat, .int .u8 y.toNat] w (Ret w (.int .u8 (x ^^^ y).toNat)) := by
  go_enter Tryz.func155, Tryz.ntmps155
  go_wp2
  go_ret
  refine Ret.int rfl ?_ (Below.refl _ _)
  rw [u8_xor_nat _ _ x.toNat_lt y.toNat_lt]; simp
set_option maxRecDepth 100000 in
theorem dist_calls (w : World) (a b : ByteArray) (ha : a.size ≤ maxLen) (hb : a.size ≤ b.size) (hbm : b.size ≤ maxLen) :
    Calls Tryz.prog 154 #[.string a, .string b, .func (.func 155) #[] #[]] w (Ret w (.string ⟨(List.zipWith (· ^^^ ·) a.data.toList b.data.toList).toArray⟩)) := by
  unfold maxLen at ha hbm
  obtain ⟨cap, w1, hconv, hB1, hsz, hrow⟩ := conv_bytes (P := Tryz.prog) w 9 155 5 a Tryz.underlying9 Tryz.underlying155 Tryz.underlying5
  go_enter Tryz.func154, Tryz.ntmps154
  go_wp2
  go_loopw [13] (fun i wr => ∃ (k : Nat) (l : List UInt8), k ≤ a.size ∧ i = .int .i64 k ∧ l.length = a.size ∧ (∀ j, j < k → l[j]? = (List.zipWith (· ^^^ ·) a.data.toList b.data.toList)[j]?) ∧ (∀ j, k ≤ j → l[j]? = a.data.toList[j]?) ∧ Row wr w.heap.size 5 (u8s l) cap ∧ Below w.heap.size w wr) (fun i _ => a.size - (intOf i).toNat)
  case atStart => exact ⟨0, a.data.toList, by omega, rfl, by simp, fun j hj => by omega, fun j _ => rfl, hrow, hB1⟩
  case round =>
    obtain ⟨k, l, hk, rfl, hl, h1, h2, hr, hB⟩ := hrel
    clear hconv hrow hB1 hsz
    by_cases hlt : k < a.size
    · have hgk : l[k]? = some (a[k]) := by rw [h2 k (Nat.le_refl _), List.getElem?_eq_getElem (by simpa using hlt)]; rfl
      have hc := hr.cell (i := k) (v := .int .u8 (a[k]).toNat) (by rw [u8s_get (by omega)]; rw [List.getElem?_eq_getElem (by omega)] at hgk; injection hgk with hgk; rw [hgk])
      have hf := hr.frozen (i := k) (by have := hr.le; rw [u8s_length] at this; omega)
      have H1 := Lib.hid h1; have H2 := Lib.hid h2; have HL := Lib.hid hl; have HG := Lib.hid hgk
      clear h1 h2 hl hgk
      have hlb : k < b.size := by omega
      go_wp2_with fail
      refine wp_region_ord [(0,0),(1,0),(2,0),(3,0),(4,0),(5,0),(6,1),(7,0),(8,0),(9,0),(10,3),(11,0),(12,3)] (by kernel_rfl) (by kernel_rfl) ?_
      simp only [pickO, List.map_cons, List.map_nil, List.getD_cons_zero, List.getD_cons_succ]
      repeat (first | ((with_reducible refine wpO_skip ?_ ?_); rfl; simp only [Act.put, List.setIfInBounds_toArray, List.set_cons_zero, List.set_cons_succ]) | ((with_reducible refine wpO_step (fun K hK => ?_)); go_simp; (with_reducible refine hK _ _ ?_); clear hK K))
      (with_reducible refine wpO_step (fun K hK => ?_)); go_simp
      refine (xor_calls _ _ _).mono ?_; rintro e2 w2 ⟨rfl, hb2⟩
      (with_reducible refine hK _ _ ?_); clear hK K
      repeat (first | ((with_reducible refine wpO_skip ?_ ?_); rfl; simp only [Act.put, List.setIfInBounds_toArray, List.set_cons_zero, List.set_cons_succ]) | ((with_reducible refine wpO_step (fun K hK => ?_)); go_simp; (with_reducible refine hK _ _ ?_); clear hK K))
      have hr2 : Row w2 w.heap.size 5 (u8s l) cap := hr.drew.ext hb2
      have hc2 := hr2.cell (i := k) (v := .int .u8 (a[k]).toNat) (by rw [u8s_get (by have := HL.out; omega)]; have hgk := HG.out; rw [List.getElem?_eq_getElem (by have := HL.out; omega)] at hgk; injection hgk with hgk; rw [hgk])
      have hf2 := hr2.frozen (i := k) (by have := hr2.le; rw [u8s_length] at this; have := HL.out; omega)
      have hB2 : Below w.heap.size w w2 := hB.drew.trans (hb2.mono hB.size)
      clear hc hf hr hB hb2
      (with_reducible refine wpO_step (fun K hK => ?_)); go_simp
      (with_reducible refine hK _ _ ?_); clear hK K
      (with_reducible refine wpO_nil ?_)
      go_wp2
      go_roundw
      case rel =>
        refine ⟨k + 1, l.set k (a[k] ^^^ b[k]), by omega, by go_num, by simpa using HL.out, ?_, ?_, ?_, ?_⟩
        · intro j hj
          have h1 := H1.out; have hl := HL.out
          by_cases he : j = k
          · subst he
            rw [List.getElem?_set_self (by omega), List.getElem?_zipWith, List.getElem?_eq_getElem (by simpa using hlt), List.getElem?_eq_getElem (by simpa using hlb)]; rfl
          · rw [List.getElem?_set_ne (by omega)]; exact h1 j (by omega)
        · intro j hj
          rw [List.getElem?_set_ne (by omega)]; exact H2.out j (by omega)
        · have := hr2.set (i := k) (.int .u8 (a[k] ^^^ b[k]).toNat) (by rw [u8s_length]; have := HL.out; omega)
          rw [u8s_set] at this
          exact this
        · exact hB2.setCell (by exact Nat.le_refl _) _
      case measure => simp [intOf]; omega
    · obtain rfl : k = a.size := by omega
      have hback := conv_back (P := Tryz.prog) (w := wr) (cap := cap) 155 9 5 Tryz.underlying155 Tryz.underlying5 Tryz.underlying9 hr
      rw [hl] at hback
      have hlz : l = List.zipWith (· ^^^ ·) a.data.toList b.data.toList := by
        apply List.ext_getElem?
        intro j
        by_cases hj : j < a.size
        · exact h1 j hj
        · rw [List.getElem?_eq_none (by omega), List.getElem?_eq_none (by simp; have : a.data.size = a.size := rfl; omega)]
      have HZ := Lib.hid hlz
      clear h1 h2 hlz hl
      go_wp2
      go_ret
      exact ⟨by rw [HZ.out]; rfl, hB⟩
end Go.Proofs.Tc
