import Derived.Test.YtjjnbanlofhhnaaGreatC11
import Derived.Test.YtjjnbanlofhhnaaGreatB1
namespace Go.Proofs.Tc
open Go.RowKit Go.Sort
attribute [local go_sem] stepO_0 stepO_1 stepO_2 stepO_3 stepV_0 stepV_1 stepV_2 stepV_3 stepV_5

theorem within_calls (w : World) (a b : ByteArray) (n : Nat) (ha : a.size = 20) (hb : b.size = 20) (hn : n ≤ 160) :
    Calls Tryz.prog 98 #[.string a, .string b, .int .i64 n] w (Ret w (.tuple #[.bool (decide (n ≤ commonF a b)), .int .i64 0])) := by
  have hf : askedF a n 160 = 0 := by unfold askedF; rw [if_pos ha, if_neg (by omega)]
  go_enter Tryz.func98, Tryz.ntmps98
  go_wp2_with (first | (go_at_call 22; refine (valid_calls _ _).mono ?_; rintro e1 w1 ⟨rfl, hb1⟩; rw [hb]) | (go_at_call 122; refine (asked_calls _ _ _ _).mono ?_; rintro e2 w2 ⟨rfl, hb2⟩; rw [hf]) | (go_at_call 123; (with_reducible refine (common_calls _ _ _ ha hb).mono ?_); rintro e3 w3 ⟨rfl, hb3⟩))
  go_returns
  exact ⟨rfl, below_ext (below_ext hb1 hb2) hb3⟩

/-- Bucket k holds the identifier. -/
def holdsB (pre : ByteArray) (bits : Nat) (id : ByteArray) : Bool := decide (bits ≤ commonF id pre)
theorem holds_calls (w : World) (pre id : ByteArray) (n : Nat) (ha : id.size = 20) (hb : pre.size = 20) (hn : n ≤ 160) :
    Calls Tryz.prog 61 #[.agg #[.string pre, .int .i64 n], .string id] w (Ret w (.bool (holdsB pre n id))) := by
  go_enter Tryz.func61, Tryz.ntmps61
  go_wp2_with (go_at_call 98; (with_reducible refine (within_calls _ _ _ _ ha hb hn).mono ?_); rintro e3 w3 ⟨rfl, hb3⟩)
  go_ret
  exact ⟨rfl, (below_new (Below.refl _ w) _).trans (hb3.mono (by simp))⟩

theorem of1_calls (w : World) (b bx : Nat) (k : Bk) (S : List Nat) (id : ByteArray) (ha : id.size = 20) (hp : k.pre.size = 20) (hn : k.bits ≤ 160) (hk : BkIn w b k S) (hx : w.cell? ⟨bx, 0, none⟩ = some (.string id)) :
    Calls Tryz.prog 60 #[.pointer (some ⟨b, 0, none⟩), .pointer (some ⟨bx, 0, none⟩)] w (Ret w (.bool (holdsB k.pre k.bits id))) := by
  obtain ⟨ve, vs, hh, _⟩ := hk
  obtain ⟨c0, c1, c2, c3, c4⟩ := cells5 hh
  have HH := Lib.hid hh
  clear hh
  go_enter Tryz.func60, Tryz.ntmps60
  go_wp2
  refine wp_region_ord [(0,0),(1,0),(2,0),(3,1),(4,1),(5,3),(6,0)] (by kernel_rfl) (by kernel_rfl) ?_
  simp only [pickO, List.map_cons, List.map_nil, List.getD_cons_zero, List.getD_cons_succ]
  repeat (first | ((with_reducible refine wpO_skip ?_ ?_); rfl; simp only [Act.put, List.setIfInBounds_toArray, List.set_cons_zero, List.set_cons_succ]) | ((with_reducible refine wpO_step (fun K hK => ?_)); go_simp; (try go_bits); (first | (with_reducible refine hK _ _ ?_) | (simp only [IntWalk.iteOmega]; go_simp; (try go_bits); (with_reducible refine hK _ _ ?_))); clear hK K))
  (with_reducible refine wpO_step (fun K hK => ?_)); go_simp; (try go_bits)
  refine (holds_calls _ _ _ _ ha hp hn).mono ?_; rintro e2 w2 ⟨rfl, hb2⟩
  (with_reducible refine hK _ _ ?_); clear hK K
  repeat (first | ((with_reducible refine wpO_skip ?_ ?_); rfl; simp only [Act.put, List.setIfInBounds_toArray, List.set_cons_zero, List.set_cons_succ]) | ((with_reducible refine wpO_step (fun K hK => ?_)); go_simp; (try go_bits); (first | (with_reducible refine hK _ _ ?_) | (simp only [IntWalk.iteOmega]; go_simp; (try go_bits); (with_reducible refine hK _ _ ?_))); clear hK K))
  (with_reducible refine wpO_nil ?_)
  go_wp2
  go_ret
  exact ⟨rfl, (Below.refl _ w).drew.trans hb2⟩

def ptrs (L : List Nat) : List Value := L.map fun b => .pointer (some ⟨b, 0, none⟩)
theorem ptrs_length (L : List Nat) : (ptrs L).length = L.length := by simp [ptrs]
theorem ptrs_get {L : List Nat} {i b : Nat} (h : L[i]? = some b) : (ptrs L)[i]? = some (.pointer (some ⟨b, 0, none⟩)) := by simp [ptrs, h]
/-- A slice of pointers to buckets that owns its block. -/
abbrev OwnP (w : World) (v : Value) (L : List Nat) : Prop := Own w 74 1 v L.length (ptrs L)
set_option maxRecDepth 100000 in
/-- slices.IndexFunc over buckets. -/
theorem indexB_calls (w : World) (v : Value) (L : List Nat) (ho : OwnP w v L) (fid : Nat) (caps : Array Value) (p : Nat → Bool)
    (eg : ∀ args w, (callFunc fid args).run Tryz.prog w = .ok (.enter fid args) w)
    (hp : ∀ W, Below w.heap.size w W → ∀ b ∈ L, Calls Tryz.prog fid (#[.pointer (some ⟨b, 0, none⟩)] ++ caps) W (Ret W (.bool (p b)))) :
    Calls Tryz.prog 59 #[v, .func (.func fid) #[] caps] w (Ret w (.int .i64 (idxF p L))) := by
  obtain ⟨a, cap, rfl, hle, hmx⟩ := ho.shape
  unfold maxLen at hmx
  have HO := Lib.hid ho
  have HP := Lib.hid hp
  clear ho hp
  go_enter Tryz.func59, Tryz.ntmps59
  go_wp2
  go_loopw [8] (fun i wr => ∃ k : Nat, k ≤ L.length ∧ i = .int .i64 k ∧ Hid (∀ j x, j < k → L[j]? = some x → p x = false) ∧ Below w.heap.size w wr) (fun i _ => L.length - (intOf i).toNat)
  case atStart => exact ⟨0, by omega, rfl, fun j x hj => by omega, Below.refl _ _⟩
  case round =>
    obtain ⟨k, hk, rfl, hne, hB⟩ := hrel
    by_cases hlt : k < L.length
    · obtain ⟨e, he⟩ : ∃ e, L[k]? = some e := ⟨L[k], List.getElem?_eq_getElem hlt⟩
      obtain ⟨g, cap', hv, _, _, _, _⟩ := HO.out.row (by omega)
      injection hv with ha _ hcap
      subst ha hcap
      have c0 := (HO.out.ext hB).cell rfl (ptrs_get he)
      have hpe := HP.out wr hB e (List.mem_of_getElem? he)
      have HE := Lib.hid he
      clear he
      cases hpv : p e with
      | true =>
        rw [hpv] at hpe
        have HV := Lib.hid hpv
        clear hpv
        go_wp2_with (refine hpe.mono ?_; rintro e2 w2 ⟨rfl, hb2⟩)
        go_ret
        refine Ret.int rfl (idxF_hit hne HE.out HV.out).symm (below_ext hB hb2)
      | false =>
        rw [hpv] at hpe
        have HV := Lib.hid hpv
        clear hpv
        go_wp2_with (refine hpe.mono ?_; rintro e2 w2 ⟨rfl, hb2⟩)
        go_roundw
        case rel =>
          refine ⟨k + 1, by omega, by go_num, fun j x hj hx => ?_, below_ext hB hb2⟩
          by_cases hjk : j = k
          · subst hjk
            have := HE.out.symm.trans hx
            injection this with this
            subst this
            exact HV.out
          · exact hne.out j x (by omega) hx
        case measure => simp [intOf]; omega
    · obtain rfl : k = L.length := by omega
      go_wp2
      go_ret
      exact Ret.int rfl (idxF_none hne.out).symm hB
end Go.Proofs.Tc
