import Derived.Test.YtjjnbanlofhhnaaGreatE1
import Derived.Test.YtjjnbanlofhhnaaGreatE5
namespace Go.Proofs.Tc
open Go.RowKit Go.Sort
attribute [local go_sem] stepO_0 stepO_1 stepO_2 stepO_3 stepV_0 stepV_1 stepV_2 stepV_3 stepV_5

def vnF (n : Nd) : Bool := ((n.id.size : Int) == 20) && addrOk n.fam n.ip n.port
theorem validnode_calls (w : World) (n : Nd) : Calls Tryz.prog 24 #[ndV n] w (Ret w (.bool (vnF n))) := by
  obtain ⟨id, fam, ip, port⟩ := n
  unfold ndV vnF
  cases hs : ((id.size : Int) == 20) with
  | false =>
    have HS := Lib.hid hs
    clear hs
    go_enter Tryz.func24, Tryz.ntmps24
    go_wp2_with fail
    refine (valid_calls _ _).mono ?_; rintro e1 w1 ⟨rfl, hb1⟩; rw [HS.out]
    go_wp2
    go_ret
    exact Ret.bool rfl (by simp) ((below_new (Below.refl _ w) _).trans (hb1.mono (by simp)))
  | true =>
    have HS := Lib.hid hs
    clear hs
    go_enter Tryz.func24, Tryz.ntmps24
    go_wp2_with fail
    refine (valid_calls _ _).mono ?_; rintro e1 w1 ⟨rfl, hb1⟩; rw [HS.out]
    have hx := cells4 ((hb1.block w.heap.size (by simp)).trans (heap_alloc_new w (.cells #[.string id, .int .i64 fam, .string ip, .int .i64 port] 33)))
    obtain ⟨x0, x1, x2, x3⟩ := hx
    go_wp2_with fail
    refine (addrvalid_calls _ _ _ _).mono ?_; rintro e2 w2 ⟨rfl, hb2⟩
    go_wp2
    go_ret
    exact Ret.bool rfl (by simp) (((below_new (Below.refl _ w) _).trans (hb1.mono (by simp))).trans (hb2.mono (by have := hb1.size; simp at this; omega)))
theorem TbIn.setNow {w : World} {t : Nat} {own : ByteArray} {now : Int} {lab : Nat → Option Nat} {m : Nat} {v : Bool → Value} {L : Bool → List Pl} (h : TbIn w t own now lab m v L) (now' : Int) :
    TbIn (w.setCell ⟨t, 1, none⟩ (.int .i64 now')) t own now' lab m v L ∧ KeepL lab w (w.setCell ⟨t, 1, none⟩ (.int .i64 now')) := by
  have hK : Keeps [t] w (w.setCell ⟨t, 1, none⟩ (.int .i64 now')) := (Keeps.refl _ _).setCell _ (.inl (by simp))
  have hne : ∀ g j, lab g = some j → j ≠ 0 → (w.setCell ⟨t, 1, none⟩ (.int .i64 now')).heap[g]? = w.heap[g]? := fun g j hg hj => hK.block g (h.lt g j hg) fun hm => by
    simp at hm
    subst hm
    rw [h.l0] at hg
    injection hg with hg
    exact hj hg.symm
  refine ⟨⟨setCell_heap w ⟨t, 1, none⟩ _ rfl h.hh, (hne m 1 h.l1 (by omega)).trans h.hm, fun b => (h.hv b).of_blocks fun g hg => hne g _ (h.lv b g hg) (by cases b <;> simp), fun b x hx => (h.hk b x hx).of_blocks fun g hg => hne g _ (h.lk b x hx g hg) (by omega),
    fun g i hg => Nat.lt_of_lt_of_le (h.lt g i hg) hK.size, h.l0, h.l1, h.lv, h.lk, h.nd, h.dj⟩, KeepL.of_keeps hK fun g hg _ => by simp at hg; rw [hg, h.l0]; simp⟩
theorem bytes_same (a b : ByteArray) : (a.toList = b.toList) = (a = b) := propext ⟨bytes_eq, fun h => by rw [h]⟩
theorem eq33 (a b : Nd) (W : World) : (binOp .eql 33 (ndV a) (ndV b)).run Tryz.prog W = .ok (.bool (decide (a = b))) W := by
  obtain ⟨i1, i2, i3, i4⟩ := a
  obtain ⟨j1, j2, j3, j4⟩ := b
  unfold ndV
  go_simp
  simp only [bytes_same]
  by_cases h1 : i1 = j1 <;> by_cases h2 : i2 = j2 <;> by_cases h3 : i3 = j3 <;> by_cases h4 : i4 = j4 <;> simp [h1, h2, h3, h4]
theorem ne33 (a b : Nd) (W : World) : (binOp .neq 33 (ndV a) (ndV b)).run Tryz.prog W = .ok (.bool (!decide (a = b))) W := by
  obtain ⟨i1, i2, i3, i4⟩ := a
  obtain ⟨j1, j2, j3, j4⟩ := b
  unfold ndV
  go_simp
  simp only [bytes_same]
  by_cases h1 : i1 = j1 <;> by_cases h2 : i2 = j2 <;> by_cases h3 : i3 = j3 <;> by_cases h4 : i4 = j4 <;> simp [h1, h2, h3, h4]
theorem eq31 (a b : Nd) (W : World) : (binOp .eql 31 (.agg #[.int .i64 a.fam, .string a.ip, .int .i64 a.port]) (.agg #[.int .i64 b.fam, .string b.ip, .int .i64 b.port])).run Tryz.prog W = .ok (.bool (decide (a.fam = b.fam ∧ a.ip = b.ip ∧ a.port = b.port))) W := by
  obtain ⟨i1, i2, i3, i4⟩ := a
  obtain ⟨j1, j2, j3, j4⟩ := b
  go_simp
  simp only [bytes_same]
  by_cases h2 : i2 = j2 <;> by_cases h3 : i3 = j3 <;> by_cases h4 : i4 = j4 <;> simp [h2, h3, h4]
theorem all_calls (w : World) (t : Nat) (f : Int) : Calls Tryz.prog 26 #[.pointer (some ⟨t, 0, none⟩), .int .i64 f] w fun e w' => e = .returned (.func (.func 57) #[] #[.pointer (some ⟨w.heap.size, 0, none⟩), .pointer (some ⟨w.heap.size + 1, 0, none⟩)]) ∧ w' = (w.alloc (.cells #[.pointer (some ⟨t, 0, none⟩)] 26)).alloc (.cells #[.int .i64 f] 3) := by
  go_enter Tryz.func26, Tryz.ntmps26
  go_wp2
  go_ret
  exact ⟨rfl, rfl⟩
end Go.Proofs.Tc
