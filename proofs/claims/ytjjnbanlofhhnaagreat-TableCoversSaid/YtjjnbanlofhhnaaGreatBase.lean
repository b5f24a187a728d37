/-
  Plain definitions for the statements on tables: entries, nodes, kinds, bits of identifiers. No program in sight.
-/
import Derived.WalkKit
import Derived.WalkLawsBesides
import Derived.WalkSpells
import Derived.Handy
import Derived.BigQuiet
import Derived.Deep.QuietTactic
import Derived.Lib.QuietBelow
import Derived.Lib.Strings
import Derived.Lib.Hide
import Derived.Deep.RegionHeld3
import Derived.Test.YtjjnbanlofhhnaaGreatOrd
namespace Go.Proofs.Tc
open Go.RowKit Go.Sort

/-- The usual end of a call: it returns v, and nothing that was there has turned. -/
def Ret (w : World) (v : Value) (e : Ending) (w' : World) : Prop := e = .returned v ∧ Below w.heap.size w w'

structure Nd where
  id : ByteArray
  fam : Int
  ip : ByteArray
  port : Int
  deriving DecidableEq
structure Ent where
  nd : Nd
  kd : Int
  an : Int
  ak : Int
  fl : Int
  deriving DecidableEq
def Nd.vals (n : Nd) : List Value := [.string n.id, .int .i64 n.fam, .string n.ip, .int .i64 n.port]
def Ent.vals (e : Ent) : List Value := [.string e.nd.id, .int .i64 e.nd.fam, .string e.nd.ip, .int .i64 e.nd.port, .int .i64 e.kd, .int .i64 e.an, .int .i64 e.ak, .int .i64 e.fl]

/-- What an entry is at a time. -/
def kindF (now an ak fl : Int) : Int := if 2 ≤ fl then 3 else if 0 ≤ an ∧ (wrap64 (now - an) ≤ 900000 ∨ (0 ≤ ak ∧ wrap64 (now - ak) ≤ 900000)) then 1 else 2
theorem kindF_3 {now an ak fl : Int} : (kindF now an ak fl == 3) = decide (2 ≤ fl) := by
  unfold kindF
  by_cases h : 2 ≤ fl
  · simp [h]
  · simp only [h, if_false]; split <;> simp

/-- Bit number i of a text, the greatest of each byte first. -/
def bitL (l : List UInt8) (i : Nat) : Bool := (l.getD (i / 8) 0).toNat.testBit (7 - i % 8)

theorem Ret.int {w w' : World} {k : IntKind} {a b : Int} {v : Value} (hv : v = .int k a) (h : a = b) (hb : Below w.heap.size w w') : Ret w (.int k b) (.returned v) w' := ⟨by rw [hv, h], hb⟩
theorem Ret.bool {w w' : World} {a b : Bool} {v : Value} (hv : v = .bool a) (h : a = b) (hb : Below w.heap.size w w') : Ret w (.bool b) (.returned v) w' := ⟨by rw [hv, h], hb⟩
theorem Ret.val {w w' : World} {u v : Value} (hv : v = u) (hb : Below w.heap.size w w') : Ret w u (.returned v) w' := ⟨by rw [hv], hb⟩
theorem Ret.mk' {w w' : World} {v : Value} {e : Ending} (h : e = .returned v) (hb : Below w.heap.size w w') : Ret w v e w' := ⟨h, hb⟩
theorem bytes_eq {a b : ByteArray} (h : a.toList = b.toList) : a = b := by
  rw [Lib.toList_data, Lib.toList_data] at h; exact WideShapes.bytes_inj h
section
variable {id id2 ip ip2 : ByteArray} {fam fam2 port port2 : Int}
theorem nd_t (h1 : id.toList = id2.toList) (h2 : fam = fam2) (h3 : ip.toList = ip2.toList) (h4 : port = port2) : true = decide ((⟨id, fam, ip, port⟩ : Nd) = ⟨id2, fam2, ip2, port2⟩) := by
  have := bytes_eq h1; have := bytes_eq h3; subst_vars; simp
theorem nd_f1 (h1 : ¬ id.toList = id2.toList) : false = decide ((⟨id, fam, ip, port⟩ : Nd) = ⟨id2, fam2, ip2, port2⟩) := by
  symm; rw [decide_eq_false_iff_not]; intro h; injection h with a b c d; exact h1 (by rw [a])
theorem nd_f2 (h1 : ¬ fam = fam2) : false = decide ((⟨id, fam, ip, port⟩ : Nd) = ⟨id2, fam2, ip2, port2⟩) := by
  symm; rw [decide_eq_false_iff_not]; intro h; injection h with a b c d; exact h1 b
theorem nd_f3 (h1 : ¬ ip.toList = ip2.toList) : false = decide ((⟨id, fam, ip, port⟩ : Nd) = ⟨id2, fam2, ip2, port2⟩) := by
  symm; rw [decide_eq_false_iff_not]; intro h; injection h with a b c d; exact h1 (by rw [c])
theorem nd_f4 (h1 : ¬ port = port2) : false = decide ((⟨id, fam, ip, port⟩ : Nd) = ⟨id2, fam2, ip2, port2⟩) := by
  symm; rw [decide_eq_false_iff_not]; intro h; injection h with a b c d; exact h1 d
end
end Go.Proofs.Tc
