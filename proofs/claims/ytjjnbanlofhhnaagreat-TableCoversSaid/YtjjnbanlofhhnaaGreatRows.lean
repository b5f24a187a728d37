/-
  No cell of these rows narrows 'for every input' (looked for: loops, veiled, ifaces, maps, wideKeys, modest, calm, conditions, laid).
  DERIVED. THE GIVEN ROWS OF THIS SEAT. 2 by the template 'for every input the law returns true; each argument reads behind the call as it read before'; 0 by the template 'total and deterministic' (their statements: YtjjnbanlofhhnaaGreatTotals.lean).
  GIVEN WITH THE SEED: the statements are not yours to turn. If you find one false, say at which input.
  Laid BY PROGRAM, IN A SANDBOX (cutbox-rows.mjs): the forced cells as the released guide's own fill.sh prints them over the translation 7cb7f9449b7a2882… (all of the seat's roots in one cut). By AI agents, Wed Nov 11 2026. No macro, syntax, notation, axiom, sorry.
-/
import Derived.Test.YtjjnbanlofhhnaaGreatChecked
import GoSem.Claim
import GoSem.ClaimJoined
import GoSem.ClaimMapViews
import Derived.JoinedTies
import Derived.KernelRfl
namespace Go.Proofs.YtjjnbanlofhhnaaGreat
/- THE CELL 'sum', in the pinned program and in every row, IS THE sha256 OF THE DUMP (.gsa) THAT YtjjnbanlofhhnaaGreatProg.lean LOADS. Nothing in Lean hashes anything: it is a label: what it is worth is what the hold of that sum in a sandbox is worth. -/
noncomputable def Tryz.pinned : Pinned := { name := "ytjjnbanlofhhnaagreat", sum := "7cb7f9449b7a288241e8c86ce01ee41b5250b819830d1319029a6ecea917af5a", checked := Tryz.checked }
namespace Rows
def none {H : Type} : Left H := { results := [], args := [] }

/-- 'coveylaw13.TableCovers': WHATEVER THE INPUT: true; the input reads as it did. -/
def tableCoversSpec : ChangeSpec := { name := "tableCovers", fn := fun _ => fun
  | [d1, d2] => { results := [.lit (.bool true)], args := [d1, d2] }
  | _ => none }
def tableCoversRow : OpenClaim := { program := "ytjjnbanlofhhnaagreat", sum := "7cb7f9449b7a288241e8c86ce01ee41b5250b819830d1319029a6ecea917af5a", func := "covey/coveylaw13.TableCovers", spec := "tableCovers", inPlace := ["internal/abi.NoEscape", "internal/bytealg.MakeNoZero", "slices.overlaps[*covey/table.bucket]", "internal/bytealg.abigen_runtime_cmpstring"], unfollowed := true, recurses := true, apart := false }
def TableCoversSaid : Prop := tableCoversRow.holds Tryz.pinned (OpenSpec.ofChange tableCoversSpec)

/-- ITS FALSE NEIGHBOUR: 'it returns false'. Refute it at one input. -/
def tableCoversWrong : ChangeSpec := { name := "tableCovers", fn := fun _ => fun
  | [d1, d2] => { results := [.lit (.bool false)], args := [d1, d2] }
  | _ => none }
def TableCoversWrongFalsely : Prop := tableCoversRow.holds Tryz.pinned (OpenSpec.ofChange tableCoversWrong)

/-- 'coveylaw13.TableSaved': WHATEVER THE INPUT: true; the input reads as it did. -/
def tableSavedSpec : ChangeSpec := { name := "tableSaved", fn := fun _ => fun
  | [d1, d2, d3, d4, d5] => { results := [.lit (.bool true)], args := [d1, d2, d3, d4, d5] }
  | _ => none }
def tableSavedRow : OpenClaim := { program := "ytjjnbanlofhhnaagreat", sum := "7cb7f9449b7a288241e8c86ce01ee41b5250b819830d1319029a6ecea917af5a", func := "covey/coveylaw13.TableSaved", spec := "tableSaved", inPlace := ["internal/abi.NoEscape", "internal/bytealg.MakeNoZero", "slices.overlaps[*covey/table.bucket]", "internal/bytealg.abigen_runtime_cmpstring"], unfollowed := true, recurses := true, apart := false }
def TableSavedSaid : Prop := tableSavedRow.holds Tryz.pinned (OpenSpec.ofChange tableSavedSpec)

/-- ITS FALSE NEIGHBOUR: 'it returns false'. Refute it at one input. -/
def tableSavedWrong : ChangeSpec := { name := "tableSaved", fn := fun _ => fun
  | [d1, d2, d3, d4, d5] => { results := [.lit (.bool false)], args := [d1, d2, d3, d4, d5] }
  | _ => none }
def TableSavedWrongFalsely : Prop := tableSavedRow.holds Tryz.pinned (OpenSpec.ofChange tableSavedWrong)

/- THE SECOND FORM. 'bulk': how many values and letters a reading holds, each counted each time it is reached (what is shared counts as often as it is met; a slice's spare places count too). A statement '..UptoSaid' is the law's where the arguments, and the package variables that the reading takes, are together of bulk at most 1048576: NARROWER than '..Said'. Prove '..Said' where nothing that the law and all that it calls make is longer than what came in: it says more and counts as full. Else prove '..UptoSaid'. A law counts once. -/
mutual
def uptoBulk {H : Type} : DataW H → Nat
  | .lit (.string bytes) => bytes.length + 1
  | .lit _ => 1
  | .nil => 1
  | .ptr d => uptoBulk d + 1
  | .slice elems spare => uptoBulkAll elems + uptoBulkAll spare + 1
  | .agg parts => uptoBulkAll parts + 1
  | .iface _ d => uptoBulk d + 1
  | .map entries => uptoBulkEntries entries + 1
  | .held _ => 1
def uptoBulkAll {H : Type} : List (DataW H) → Nat
  | [] => 0
  | d :: r => uptoBulk d + uptoBulkAll r
def uptoBulkEntries {H : Type} : List (Lit × DataW H) → Nat
  | [] => 0
  | x :: r => uptoBulkEntry x + uptoBulkEntries r
def uptoBulkEntry {H : Type} : Lit × DataW H → Nat
  | (.string bytes, d) => bytes.length + uptoBulk d + 1
  | (_, d) => uptoBulk d + 1
 end
def uptoSmall : (H : Type) → List (DataW H) → Bool := fun _ ds => decide (uptoBulkAll ds ≤ 1048576)
def OpenSpec.upto (s : _root_.Go.ChangeSpec) : _root_.Go.OpenSpec := { _root_.Go.OpenSpec.ofChange s with cond := some uptoSmall }

/-- 'coveylaw13.TableCovers', WHERE WHAT IT READS IS OF BULK AT MOST 1048576: true; the input reads as it did. -/
def tableCoversUptoRow : OpenClaim := { program := "ytjjnbanlofhhnaagreat", sum := "7cb7f9449b7a288241e8c86ce01ee41b5250b819830d1319029a6ecea917af5a", func := "covey/coveylaw13.TableCovers", spec := "tableCovers", inPlace := ["internal/abi.NoEscape", "internal/bytealg.MakeNoZero", "slices.overlaps[*covey/table.bucket]", "internal/bytealg.abigen_runtime_cmpstring"], unfollowed := true, recurses := true, apart := false, narrowed := true }
def TableCoversUptoSaid : Prop := tableCoversUptoRow.holds Tryz.pinned (OpenSpec.upto tableCoversSpec)

/-- 'coveylaw13.TableSaved', WHERE WHAT IT READS IS OF BULK AT MOST 1048576: true; the input reads as it did. -/
def tableSavedUptoRow : OpenClaim := { program := "ytjjnbanlofhhnaagreat", sum := "7cb7f9449b7a288241e8c86ce01ee41b5250b819830d1319029a6ecea917af5a", func := "covey/coveylaw13.TableSaved", spec := "tableSaved", inPlace := ["internal/abi.NoEscape", "internal/bytealg.MakeNoZero", "slices.overlaps[*covey/table.bucket]", "internal/bytealg.abigen_runtime_cmpstring"], unfollowed := true, recurses := true, apart := false, narrowed := true }
def TableSavedUptoSaid : Prop := tableSavedUptoRow.holds Tryz.pinned (OpenSpec.upto tableSavedSpec)

end Rows
end Go.Proofs.YtjjnbanlofhhnaaGreat
