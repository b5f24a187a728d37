import Derived.Test.YtjjnbanlofhhnaaGreatD6
import Derived.LaidEqlPtr
import Derived.Lib.Overlaps
import Derived.Laws.CopyRow
namespace Go.Proofs.Tc
open Go.RowKit Go.Sort
attribute [local go_sem] stepO_0 stepO_1 stepO_2 stepO_3 stepV_0 stepV_1 stepV_2 stepV_3 stepV_5
set_option maxRecDepth 100000 in
/-- slices.Index over buckets. -/
theorem indexP_calls (w : World) (v : Value) (L : List Nat) (x : Nat) (ho : OwnP w v L) (hc : ∀ a ∈ x :: L, ∃ ca ta, w.heap[a]? = some (.cells ca ta (0, 0))) :
    Calls Tryz.prog 127 #[v, .pointer (some ⟨x, 0, none⟩)] w (Ret w (.int .i64 (idxF (fun a => decide (a = x)) L))) := by
  obtain ⟨a, cap, rfl, hle, hmx⟩ := ho.shape
  unfold maxLen at hmx
  have HO := Lib.hid ho
  have HCX := Lib.hid hc
  clear ho hc
  go_enter Tryz.func127, Tryz.ntmps127
  go_wp2
  go_loopw [8] (fun i wr => ∃ k : Nat, k ≤ L.length ∧ i = .int .i64 k ∧ Hid (∀ j y, j < k → L[j]? = some y → decide (y = x) = false) ∧ Below w.heap.size w wr) (fun i _ => L.length - (intOf i).toNat)
  case atStart => exact ⟨0, by omega, rfl, fun j x hj => by omega, Below.refl _ _⟩
  case round =>
    obtain ⟨k, hk, rfl, hne, hB⟩ := hrel
    by_cases hlt : k < L.length
    · obtain ⟨e, he⟩ : ∃ e, L[k]? = some e := ⟨L[k], List.getElem?_eq_getElem hlt⟩
      obtain ⟨g, cap', hv, _, _, _, _⟩ := HO.out.row (by omega)
      injection hv with ha _ hcap
      subst ha hcap
      have c0 := (HO.out.ext hB).cell rfl (ptrs_get he)
      have HE := Lib.hid he
      clear he
      obtain ⟨j85, hj85, hz85⟩ : ∃ j, Tryz.prog.info? 85 = some j ∧ j.size ≠ 0 := by
        have hI : (Tryz.prog.info? 85).map (·.size) = some 5 := by kernel_rfl
        cases hi : Tryz.prog.info? 85 with
        | none => rw [hi] at hI; cases hI
        | some j => rw [hi] at hI; simp at hI; exact ⟨j, rfl, by omega⟩
      by_cases hex : e = x
      · subst hex
        have heq := fun w => run_eql_ptr_same (P := Tryz.prog) w (tp := 74) (te := 85) (j := j85) ⟨e, 0, none⟩ Tryz.underlying74 hj85
        have HI := Lib.hid (idxF_hit (p := fun a => decide (a = e)) hne.out HE.out (by simp))
        clear hj85
        go_wp2
        go_ret
        exact Ret.int rfl HI.out.symm hB
      · obtain ⟨ca, ta, h1⟩ := HCX.out x (by simp)
        obtain ⟨cb, tb, h2⟩ := HCX.out e (List.mem_cons_of_mem _ (List.mem_of_getElem? HE.out))
        have h1' := (hB.block x (Array.getElem?_eq_some_iff.1 h1).1).trans h1
        have h2' := (hB.block e (Array.getElem?_eq_some_iff.1 h2).1).trans h2
        have heq := run_eql_ptr_other (P := Tryz.prog) wr (tp := 74) (te := 85) (j := j85) (a := ⟨x, 0, none⟩) (b := ⟨e, 0, none⟩) Tryz.underlying74 hj85 hz85 (by intro h; injection h with h _ _; exact hex h.symm) h1' h2'
        have HX := Lib.hid hex
        clear hj85 h1 h2 h1' h2' hex
        go_wp2
        go_roundw
        case rel =>
          refine ⟨k + 1, by omega, by go_num, fun j y hj hy => ?_, hB⟩
          by_cases hjk : j = k
          · subst hjk
            have := HE.out.symm.trans hy
            injection this with this
            subst this
            simpa using HX.out
          · exact hne.out j y (by omega) hy
        case measure => simp [intOf]; omega
    · obtain rfl : k = L.length := by omega
      go_wp2
      go_ret
      exact Ret.int rfl (idxF_none hne.out).symm hB
end Go.Proofs.Tc
