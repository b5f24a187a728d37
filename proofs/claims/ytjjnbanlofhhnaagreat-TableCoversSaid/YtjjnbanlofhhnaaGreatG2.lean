import Derived.Test.YtjjnbanlofhhnaaGreatF2
import Derived.Test.YtjjnbanlofhhnaaGreatF1
import Derived.Test.YtjjnbanlofhhnaaGreatG1
namespace Go.Proofs.Tc
open Go.RowKit Go.Sort

/-- A table of the call's own in world W; N: how often a node may have failed; now: a time not before the table's. -/
def StT (w : World) (X : Nat → Prop) (W : World) (t : Nat) (own : ByteArray) (N now : Int) : Prop :=
  ∃ now0 lab m v L, TbIn W t own now0 lab m v L ∧ (∀ b, FInv own b N ((L b).map (·.k))) ∧ now0 ≤ now ∧ (∀ g, g < w.heap.size ∨ X g → lab g = none) ∧ Below w.heap.size w W
theorem StT.start {w W : World} {t : Nat} {own : ByteArray} (h : NewIn w.heap.size own t W) (hB : Below w.heap.size w W) : StT w (fun _ => False) W t own 0 0 := by
  obtain ⟨lab, m, v, L, h1, h2, h3, _⟩ := h
  exact ⟨0, lab, m, v, L, h1, h2, by omega, fun g hg => h3 g (by simpa using hg), hB⟩
theorem StT.ext {X : Nat → Prop} {w W W' : World} {t : Nat} {own : ByteArray} {N now : Int} (h : StT w X W t own N now) (hB : Below W.heap.size W W') : StT w X W' t own N now := by
  obtain ⟨now0, lab, m, v, L, h1, h2, h3, h4, h5⟩ := h
  exact ⟨now0, lab, m, v, L, h1.ext hB, h2, h3, h4, h5.trans (hB.mono h5.size)⟩
theorem StT.mono {X : Nat → Prop} {w W : World} {t : Nat} {own : ByteArray} {N N' now now' : Int} (h : StT w X W t own N now) (hN : N ≤ N') (hn : now ≤ now') : StT w X W t own N' now' := by
  obtain ⟨now0, lab, m, v, L, h1, h2, h3, h4, h5⟩ := h
  exact ⟨now0, lab, m, v, L, h1, fun b => (h2 b).mono hN, by omega, h4, h5⟩
theorem StT.bel {X : Nat → Prop} {w W : World} {t : Nat} {own : ByteArray} {N now : Int} (h : StT w X W t own N now) : Below w.heap.size w W := h.choose_spec.choose_spec.choose_spec.choose_spec.choose_spec.2.2.2.2
def StepRes (w : World) (X : Nat → Prop) (W : World) (t : Nat) (own : ByteArray) (N now : Int) (e : Ending) (w' : World) : Prop := (∃ b z, e = .returned (.tuple #[.bool b, .int .i64 z])) ∧ StT w X w' t own N now ∧ ∀ g, X g → g < W.heap.size → w'.heap[g]? = W.heap[g]?
theorem StT.weak {X Y : Nat → Prop} {w W : World} {t : Nat} {own : ByteArray} {N now : Int} (h : StT w X W t own N now) (hY : ∀ g, Y g → X g) : StT w Y W t own N now := by
  obtain ⟨now0, lab, m, v, L, h1, h2, h3, h4, h5⟩ := h
  exact ⟨now0, lab, m, v, L, h1, h2, h3, fun g hg => h4 g (hg.imp id (hY g)), h5⟩
theorem StT.add {X : Nat → Prop} {w W W' : World} {t D : Nat} {own : ByteArray} {N now : Int} (h : StT w X W t own N now) (hB : Below W.heap.size W W') (hD : W.heap.size ≤ D) : StT w (fun g => g = D) W' t own N now := by
  obtain ⟨now0, lab, m, v, L, h1, h2, h3, h4, h5⟩ := h
  refine ⟨now0, lab, m, v, L, h1.ext hB, h2, h3, fun g hg => ?_, h5.trans (hB.mono h5.size)⟩
  rcases hg with hg | rfl
  · exact h4 g (.inl hg)
  · cases hl : lab g with
    | none => rfl
    | some i => have := h1.lt g i hl; omega
theorem StT.tab {X : Nat → Prop} {w W W' : World} {t : Nat} {own : ByteArray} {now N now' : Int} {lab : Nat → Option Nat} {m : Nat} {e : Ending} {r : (Bool × Int) × Int × (Bool → List Bk)} (hl : ∀ g, g < w.heap.size ∨ X g → lab g = none) (hB : Below w.heap.size w W)
    (h : TabRes W t own lab m r e W') (hX : ∀ g, X g → g < W.heap.size) (hF : ∀ b, FInv own b N (r.2.2 b)) (hn : r.2.1 ≤ now') : StepRes w X W t own N now' e W' := by
  obtain ⟨rfl, lab', v', L', h1, h2, h3, h4⟩ := h
  refine ⟨⟨_, _, rfl⟩, ⟨_, lab', m, v', L', h1, fun b => by rw [h2]; exact hF b, hn, fun g hg => ?_, hB.trans (h4.below hB.size fun g hg => hl g (.inl hg))⟩, fun g hg hgl => h4.block g hgl (hl g (.inr hg))⟩
  rcases hg with hg | hg
  · exact h3 g (Nat.lt_of_lt_of_le hg hB.size) (hl g (.inl hg))
  · exact h3 g (hX g hg) (hl g (.inr hg))
theorem StT.seen {X : Nat → Prop} {w W : World} {t : Nat} {own : ByteArray} {N now : Int} (h : StT w X W t own N now) (hown : own.size = 20) (hN : 0 ≤ N) (nw : Int) (n : Nd) (ans : Bool) (now' : Int) (hn : now ≤ now') (hnw : nw ≤ 1000000000 → nw ≤ now') (hX : ∀ g, X g → g < W.heap.size) :
    Calls Tryz.prog 9 #[.pointer (some ⟨t, 0, none⟩), .int .i64 nw, ndV n, .bool ans] W (StepRes w X W t own (N + 1) now') := by
  obtain ⟨now0, lab, m, v, L, h1, h2, h3, h4, h5⟩ := h
  refine (seen_calls W t own now0 lab m v L h1 hown N h2 hN nw n ans).mono fun e W' hr => StT.tab (now := now) h4 h5 hr hX (fun b => ?_) ?_
  · unfold seenT
    split
    · exact (h2 b).mono (by omega)
    · split
      · exact (h2 b).mono (by omega)
      · split
        · exact (h2 b).mono (by omega)
        · rename_i hv _ _
          obtain ⟨hs, f, hf⟩ := vnF_fam (by simpa using hv)
          have hf6 : (n.fam == 6) = f := by rw [hf, famN_6]
          simp only [hf6]
          split
          · rename_i hb
            subst hb
            exact ((h2 b).seen hs hf hN).mono (by omega)
          · exact (h2 b).mono (by omega)
  · unfold seenT
    split
    · show now0 ≤ now'; omega
    · split
      · show now0 ≤ now'; omega
      · split <;> (show nw ≤ now'; omega)
theorem StT.failed {X : Nat → Prop} {w W : World} {t : Nat} {own : ByteArray} {N now : Int} (h : StT w X W t own N now) (hN : 0 ≤ N) (hN2 : N ≤ 1000000) (nw : Int) (n : Nd) (now' : Int) (hn : now ≤ now') (hnw : nw ≤ 1000000000 → nw ≤ now') (hX : ∀ g, X g → g < W.heap.size) :
    Calls Tryz.prog 10 #[.pointer (some ⟨t, 0, none⟩), .int .i64 nw, ndV n] W (StepRes w X W t own (N + 1) now') := by
  obtain ⟨now0, lab, m, v, L, h1, h2, h3, h4, h5⟩ := h
  refine (failed_calls W t own now0 lab m v L h1 N h2 hN2 nw n).mono fun e W' hr => StT.tab (now := now) h4 h5 hr hX (fun b => ?_) ?_
  · unfold failT
    split
    · exact (h2 b).mono (by omega)
    · split
      · exact (h2 b).mono (by omega)
      · rename_i hv _
        obtain ⟨hs, f, hf⟩ := vnF_fam (by simpa using hv)
        have hf6 : (n.fam == 6) = f := by rw [hf, famN_6]
        simp only [hf6]
        split
        · rename_i hb
          subst hb
          exact (h2 b).failed hN
        · exact (h2 b).mono (by omega)
  · unfold failT
    split
    · show now0 ≤ now'; omega
    · split
      · show now0 ≤ now'; omega
      · show nw ≤ now'; omega
/-- What a listing shows. -/
structure Shown (w W : World) (own : ByteArray) (f : Bool) (vo : Value) (l : List Sh) : Prop where
  out : OutIn W w.heap.size vo l
  ch : ∃ d, d ≤ 160 ∧ l.map (fun x => (x.pre, x.bits)) = chainF own d
  ok : ∀ x ∈ l, ShOk f x
theorem Shown.ext {w W W' : World} {own : ByteArray} {f : Bool} {vo : Value} {l : List Sh} (h : Shown w W own f vo l) (hB : Below W.heap.size W W') : Shown w W' own f vo l := ⟨h.out.ext hB, h.ch, h.ok⟩
def ListRes (w : World) (X : Nat → Prop) (W : World) (t : Nat) (own : ByteArray) (N now : Int) (f : Bool) (e : Ending) (W' : World) : Prop :=
  ∃ vo l, e = .returned (.tuple #[vo, .int .i64 0]) ∧ Shown W W' own f vo l ∧ StT w X W' t own N now ∧ ∀ g, X g → g < W.heap.size → W'.heap[g]? = W.heap[g]?
theorem shown_kind {now : Int} {e : Ent} : (shownE now e).kd = 3 ↔ 2 ≤ e.fl := by
  show kindF now e.an e.ak e.fl = 3 ↔ _
  have := @kindF_3 now e.an e.ak e.fl
  by_cases h : 2 ≤ e.fl
  · simp [h] at this; simp [h, this]
  · simp [h] at this; simp [h, this]
theorem shOk_of {f : Bool} {N now : Int} {k : Bk} {x : Sh} (hb : BInv f N k) (hg : k.pre.size = 20 ∧ k.bits ≤ 160) (h : shInfo x = bkInfo now k) : ShOk f x := by
  unfold shInfo bkInfo at h
  injection h with h1 h
  injection h with h2 h
  injection h with h3 h4
  refine ⟨by rw [h1]; exact hg.1, by rw [h2]; exact hg.2, fun e he => ?_, fun e he hk s hs hk2 => ?_, by rw [h3, List.length_map]; exact hb.he, by rw [h4, List.length_map]; exact hb.hs⟩
  · rw [h1, h2]
    rw [h3, h4] at he
    rcases he with he | he
    · obtain ⟨e0, he0, rfl⟩ := List.mem_map.1 he
      obtain ⟨a1, a2, a3, _⟩ := hb.all e0 (.inl he0)
      exact ⟨a1, a2, a3⟩
    · obtain ⟨e0, he0, rfl⟩ := List.mem_map.1 he
      obtain ⟨a1, a2, a3, _⟩ := hb.all e0 (.inr he0)
      exact ⟨a1, a2, a3⟩
  · rw [h3] at he
    rw [h4] at hs
    obtain ⟨e0, he0, rfl⟩ := List.mem_map.1 he
    obtain ⟨s0, hs0, rfl⟩ := List.mem_map.1 hs
    have h5 := shown_kind.1 hk
    have h6 : ¬ 2 ≤ s0.fl := fun h => hk2 (shown_kind.2 h)
    exact hb.bad e0 he0 h5 s0 hs0 (by omega)
theorem StT.list {X : Nat → Prop} {w W : World} {t : Nat} {own : ByteArray} {N now : Int} (h : StT w X W t own N now) (hm : now ≤ 1000000000) (f : Bool) :
    Calls Tryz.prog 12 #[.pointer (some ⟨t, 0, none⟩), .int .i64 now, .int .i64 (famN f)] W (ListRes w X W t own N now f) := by
  obtain ⟨now0, lab, m, v, L, h1, h2, h3, h4, h5⟩ := h
  refine (buckets_calls W t own now0 lab m v L h1 N f (h2 f) now h3 hm).mono ?_
  rintro e W' ⟨vo, l, rfl, ho, hi, ht, hk⟩
  refine ⟨vo, l, rfl, ⟨ho, ?_, fun x hx => ?_⟩, ⟨now, lab, m, v, L, ht, h2, by omega, h4, h5.trans (hk.below h5.size fun g hg => h4 g (.inl hg))⟩, fun g hg hgl => hk.block g hgl (h4 g (.inr hg))⟩
  · obtain ⟨d, hd, hc⟩ := (h2 f).ch
    refine ⟨d, hd, ?_⟩
    rw [← hc]
    have := congrArg (List.map fun y : ByteArray × Nat × List Ent × List Ent => (y.1, y.2.1)) hi
    simpa [shInfo, bkInfo, Function.comp_def] using this
  · have hx' : shInfo x ∈ l.map shInfo := List.mem_map.2 ⟨x, hx, rfl⟩
    rw [hi] at hx'
    obtain ⟨y, hy, he⟩ := List.mem_map.1 hx'
    have hyk : y.k ∈ (L f).map (·.k) := List.mem_map.2 ⟨y, hy, rfl⟩
    have hg := (h2 f).good _ hyk
    exact shOk_of ((h2 f).bk _ hyk) hg he.symm
/-- The time behind an act. -/
theorem later_ok {now l : Int} (h0 : 0 ≤ now) (h1 : now ≤ 1000000000) (h2 : -1000000 ≤ l) (h3 : l ≤ 1000000) : now ≤ laterF now l ∧ laterF now l ≤ 1000000000 ∧ ∀ nw, nw = now + (if l < 0 then 0 else l) → nw ≤ 1000000000 → nw ≤ laterF now l := by
  have hw : wrap64 (now + l) = now + l := by unfold wrap64; omega
  unfold laterF
  rw [hw]
  refine ⟨by split <;> omega, by split <;> omega, fun nw hn hle => ?_⟩
  split at hn <;> split <;> omega
end Go.Proofs.Tc
