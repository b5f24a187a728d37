import Derived.Test.YtjjnbanlofhhnaaGreatD1
namespace Go.Proofs.Tc
open Go.RowKit Go.Sort
attribute [local go_sem] stepO_0 stepO_1 stepO_2 stepO_3 stepV_0 stepV_1 stepV_2 stepV_3 stepV_5

def famN (b : Bool) : Int := if b then 6 else 4
/-- The map of the families: v4 at 4, v6 at 6. -/
def FamAt (w : World) (m : Nat) (v : Bool → Value) : Prop := w.heap[m]? = some (.map #[⟨.int .i64 4, v false, 0⟩, ⟨.int .i64 6, v true, 1⟩] 2)
theorem ck_int (e : Bool) (a : Int) (w : World) : (Instr.checkKey e 10000 3 (.int .i64 a)).run Tryz.prog w = .ok () w := by
  show (Instr.checkKey e (9999 + 1) 3 (.int .i64 a)).run Tryz.prog w = .ok () w
  unfold Instr.checkKey
  simp [run_underlying Tryz.underlying3]
theorem find_fam (b : Bool) (v : Bool → Value) (w : World) : (Instr.findKey 3 (.int .i64 (famN b)) [⟨.int .i64 4, v false, 0⟩, ⟨.int .i64 6, v true, 1⟩]).run Tryz.prog w = .ok (some (if b then 1 else 0, v b)) w := by
  unfold Instr.findKey
  cases b <;> simp [run_underlying Tryz.underlying3, Instr.findNow, Instr.sameNow, famN]
theorem stays (a : Int) (w : World) : (Instr.keyThatStays (.int .i64 a) (.int .i64 a)).run Tryz.prog w = .ok (.int .i64 a) w := by
  unfold Instr.keyThatStays
  have : Instr.sameBits 10000 (.int .i64 a) (.int .i64 a) = true := by
    show Instr.sameBits (9999 + 1) (.int .i64 a) (.int .i64 a) = true
    unfold Instr.sameBits
    simp
  rw [if_pos this]
  rfl
theorem fam_lookup {w : World} {m : Nat} {v : Bool → Value} (h : FamAt w m v) (b : Bool) : (Instr.lookup 65 (.map (some m)) (.int .i64 (famN b)) false).run Tryz.prog w = .ok (v b) w := by
  unfold FamAt at h
  have hg : (getObj m).run Tryz.prog w = .ok (.map #[⟨.int .i64 4, v false, 0⟩, ⟨.int .i64 6, v true, 1⟩] 2) w := by
    simp only [getObj, Sem.run, h]
  unfold Instr.lookup
  simp [run_underlying Tryz.underlying65, hg, ck_int, find_fam]
theorem fam_update {w : World} {m : Nat} {v : Bool → Value} (h : FamAt w m v) (b : Bool) (u : Value) : ∃ w', (Instr.mapUpdate 65 (.map (some m)) (.int .i64 (famN b)) u).run Tryz.prog w = .ok () w' ∧ FamAt w' m (fun c => if c = b then u else v c) ∧ Keeps [m] w w' ∧ w'.heap.size = w.heap.size := by
  unfold FamAt at h
  have hg : (getObj m).run Tryz.prog w = .ok (.map #[⟨.int .i64 4, v false, 0⟩, ⟨.int .i64 6, v true, 1⟩] 2) w := by
    simp only [getObj, Sem.run, h]
  have hm : m < w.heap.size := (Array.getElem?_eq_some_iff.1 h).1
  have hs : ∀ o, (setObj m o).run Tryz.prog w = .ok () { w with heap := w.heap.setIfInBounds m o } := by
    intro o
    simp only [setObj, Sem.run, h]
  refine ⟨{ w with heap := w.heap.setIfInBounds m (.map #[⟨.int .i64 4, if false = b then u else v false, 0⟩, ⟨.int .i64 6, if true = b then u else v true, 1⟩] 2) }, ?_, ?_, ⟨rfl, rfl, rfl, by simp, fun k _ hk => ?_⟩, by simp⟩
  · unfold Instr.mapUpdate
    simp only [run_underlying Tryz.underlying65, Sem.run_bind, Result.andThen_ok, hg, ck_int, find_fam]
    cases b <;> simp [famN, stays, hs]
  · unfold FamAt
    simp [hm]
  · have : m ≠ k := fun e => hk (by simp [e])
    simp [this]
end Go.Proofs.Tc
