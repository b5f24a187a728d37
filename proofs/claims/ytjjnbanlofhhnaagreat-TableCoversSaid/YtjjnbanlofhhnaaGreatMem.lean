/-
  Rows of cells in memory: a block that begins with a list of values; text turned to bytes and back.
-/
import Derived.Test.YtjjnbanlofhhnaaGreatBase
import Derived.Laws.IdiomStrings
namespace Go.Proofs.Tc
open Go.RowKit Go.Sort

/-- Block g is a row of n cells of element type e, which may be written, and begins with the values xs. -/
def Row (w : World) (g : Nat) (e : TypeId) (xs : List Value) (n : Nat) : Prop :=
  ∃ cur lo hi, w.heap[g]? = some (.cells cur e (lo, hi)) ∧ (hi ≤ lo ∨ cur.size ≤ lo) ∧ cur.size = n ∧ cur.toList.take xs.length = xs

section
variable {w w' : World} {g : Nat} {e : TypeId} {xs : List Value} {n : Nat}
theorem Row.lt (h : Row w g e xs n) : g < w.heap.size := by
  obtain ⟨_, _, _, h, _⟩ := h
  exact (Array.getElem?_eq_some_iff.1 h).1
theorem Row.le (h : Row w g e xs n) : xs.length ≤ n := by
  obtain ⟨cur, _, _, _, _, hs, ht⟩ := h
  have := congrArg List.length ht
  simp at this
  omega
theorem Row.cell (h : Row w g e xs n) {i : Nat} {v : Value} (hv : xs[i]? = some v) : w.cell? ⟨g, i, none⟩ = some v := by
  obtain ⟨cur, _, _, hh, _, hs, ht⟩ := h
  have hi : i < xs.length := (List.getElem?_eq_some_iff.1 hv).1
  rw [← ht, List.getElem?_take, if_pos (by omega)] at hv
  simp only [World.cell?, hh]
  simpa using hv
theorem Row.frozen (h : Row w g e xs n) {i : Nat} (hi : i < n) : w.frozen? ⟨g, i, none⟩ = false := by
  obtain ⟨cur, lo, hi', hh, hf, hs, ht⟩ := h
  simp only [World.frozen?, hh]
  rcases hf with h | h <;> simp <;> omega
theorem Row.of_block (h : Row w g e xs n) (hb : w'.heap[g]? = w.heap[g]?) : Row w' g e xs n := by
  obtain ⟨cur, lo, hi, hh, r⟩ := h
  exact ⟨cur, lo, hi, hb.trans hh, r⟩
theorem Row.below {B : Nat} (h : Row w g e xs n) (hB : Below B w w') (hg : g < B) : Row w' g e xs n := h.of_block (hB.block g hg)
theorem Row.ext (h : Row w g e xs n) (hB : Below w.heap.size w w') : Row w' g e xs n := h.below hB h.lt
theorem Row.drew (h : Row w g e xs n) : Row w.drew g e xs n := h
theorem Row.alloc (h : Row w g e xs n) (o : Obj) : Row (w.alloc o) g e xs n := h.ext ((Below.refl _ _).alloc (Nat.le_refl _) _)
theorem Row.take (h : Row w g e xs n) (k : Nat) : Row w g e (xs.take k) n := by
  obtain ⟨cur, lo, hi, hh, hf, hs, ht⟩ := h
  refine ⟨cur, lo, hi, hh, hf, hs, ?_⟩
  conv => rhs; rw [← ht]
  rw [List.take_take, List.length_take]
theorem setCell_heap (w : World) (a : Addr) (v : Value) (hs : a.spot = none) {cur : Array Value} {e : TypeId} {fz : Nat × Nat} (h : w.heap[a.block]? = some (.cells cur e fz)) :
    (w.setCell a v).heap[a.block]? = some (.cells (cur.setIfInBounds a.off v) e fz) := by
  simp only [World.setCell, Array.getElem?_modify, h]
  simp [hs]
theorem Row.set (h : Row w g e xs n) {i : Nat} (v : Value) (_hi : i < xs.length) : Row (w.setCell ⟨g, i, none⟩ v) g e (xs.set i v) n := by
  have hle := h.le
  obtain ⟨cur, lo, hi', hh, hf, hs, ht⟩ := h
  refine ⟨_, lo, hi', setCell_heap w ⟨g, i, none⟩ v rfl hh, by simpa using hf, by simpa using hs, ?_⟩
  simp only [Array.toList_setIfInBounds, List.length_set]
  rw [List.take_set, ht]
/-- A cell written that lies in another block. -/
theorem Row.set_ne (h : Row w g e xs n) {a : Addr} (v : Value) (hne : g ≠ a.block) : Row (w.setCell a v) g e xs n := h.of_block (Below.heap_setCell w a v g hne)
end

def u8s (l : List UInt8) : List Value := l.map fun b => .int .u8 b.toNat
theorem u8s_get {l : List UInt8} {i : Nat} (h : i < l.length) : (u8s l)[i]? = some (.int .u8 (l[i].toNat : Int)) := by simp [u8s, h]
theorem u8s_length (l : List UInt8) : (u8s l).length = l.length := by simp [u8s]
theorem u8s_set (l : List UInt8) (i : Nat) (b : UInt8) : (u8s l).set i (.int .u8 b.toNat) = u8s (l.set i b) := by simp [u8s, List.map_set]

/-- '[]byte(s)': a new block that holds the bytes. -/
theorem conv_bytes {P : Program} (w : World) (src dst e : TypeId) (s : ByteArray) (hs : P.underlying src = some .string) (hd : P.underlying dst = some (.slice e)) (he : P.underlying e = some (.int .u8)) :
    ∃ cap w', (convert src dst (.string s)).run P w = .ok (.slice (some ⟨w.heap.size, 0, none⟩) s.size cap) w' ∧ Below w.heap.size w w' ∧ w'.heap.size = w.heap.size + 1 ∧ Row w' w.heap.size e (u8s s.data.toList) cap := by
  have hr := run_bytes_of_string (P := P) w src dst e s hs hd he
  refine ⟨_, _, hr, (((Below.refl _ _).drew).alloc (by exact Nat.le_refl _) _), by simp, ?_⟩
  have hcap := grownCap_ge w s.size 0 e
  have hsz : (bytesRow s (grownCap w s.size 0 e)).size = grownCap w s.size 0 e := by
    simp [bytesRow]
    have : s.data.size = s.size := rfl
    omega
  refine ⟨_, _, _, heap_alloc_new _ _, .inr (Nat.le_refl _), hsz, ?_⟩
  simp [bytesRow, u8s]

theorem conv_back {P : Program} {w : World} {g cap n : Nat} {l : List UInt8} (src dst e : TypeId) (hs : P.underlying src = some (.slice e)) (he : P.underlying e = some (.int .u8)) (hd : P.underlying dst = some .string)
    (h : Row w g e (u8s l) n) : (convert src dst (.slice (some ⟨g, 0, none⟩) l.length cap)).run P w = .ok (.string ⟨l.toArray⟩) w := by
  refine run_convert_bytes_back w src dst e ⟨g, 0, none⟩ cap l hs he hd fun j hj => ?_
  have hadd : (⟨g, 0, none⟩ : Addr).add j = ⟨g, j, none⟩ := by unfold Addr.add; split <;> simp_all
  rw [hadd]
  exact h.cell (u8s_get hj)
end Go.Proofs.Tc
