/- The parts of awake, the joined walk, and how the list of acts lies in memory. -/
import Derived.Shelf.Small.Bits
import Derived.Ground.Names2Prog
import Derived.Test.YtjjnbanlofhhnaaGreatProg
import Derived.Test.YtjjnbanlofhhnaaGreatG2
import Derived.Test.YtjjnbanlofhhnaaGreatG3
import Derived.ProofKit
import Derived.Deep.Slices
namespace Go.Proofs
open Go.Shelf
def Tryz.lays125_ren : Go.Shelf.Ren := ⟨fun | 125 => 116 | 128 => 142 | 129 => 143 | n => n, fun | 46 => 150 | 3 => 3 | 51 => 180 | 53 => 183 | 4 => 4 | 5 => 5 | 9 => 9 | n => n, fun | n => n⟩
theorem Tryz.lays125 : Go.Proofs.Lays.n125 Tryz.prog Tryz.lays125_ren := {
  mixed := by kernel_rfl
  f125 := Tryz.func116.trans (congrArg some (by kernel_rfl))
  f128 := Tryz.func142.trans (congrArg some (by kernel_rfl))
  f129 := Tryz.func143.trans (congrArg some (by kernel_rfl))
  t3 := Tryz.underlying3
  a3 := Tryz.isAgg3
  z3 := Tryz.sizeOf3
  v3 := Tryz.zeroValue3
  t4 := Tryz.underlying4
  a4 := Tryz.isAgg4
  z4 := Tryz.sizeOf4
  v4 := Tryz.zeroValue4
  t5 := Tryz.underlying5
  a5 := Tryz.isAgg5
  z5 := Tryz.sizeOf5
  v5 := Tryz.zeroValue5
  t9 := Tryz.underlying9
  a9 := Tryz.isAgg9
  z9 := Tryz.sizeOf9
  v9 := Tryz.zeroValue9
  t46 := Tryz.underlying150
  a46 := Tryz.isAgg150
  z46 := Tryz.sizeOf150
  v46 := Tryz.zeroValue150
  t51 := Tryz.underlying180
  a51 := Tryz.isAgg180
  z51 := Tryz.sizeOf180
  v51 := Tryz.zeroValue180
  t53 := Tryz.underlying183
  a53 := Tryz.isAgg183
  z53 := Tryz.sizeOf183
  v53 := Tryz.zeroValue183 }
theorem Tryz.bits_Len (x : Int) (w : World) (h0 : 0 ≤ x) (h1 : x ≤ 18446744073709551615) :
    Calls Tryz.prog 116 #[.int .u64 x] w fun e w' => e = .returned (.int .i64 (Lib.bitLen x.toNat)) ∧ w' = w := Any.bits_Len Tryz.lays125 x w h0 h1
end Go.Proofs

namespace Go.Proofs.Tc
open Go.RowKit Go.Sort
attribute [local go_sem] stepO_0 stepO_1 stepO_2 stepO_3 stepV_0 stepV_1 stepV_2 stepV_3 stepV_5

theorem nds_append (a b : List Nd) : nds (a ++ b) = nds a ++ nds b := by simp [nds]
theorem nds_one : ∀ l, ∀ u ∈ nds l, u.oneCell' = true := by
  intro es u hu
  simp only [nds, List.mem_flatMap] at hu
  obtain ⟨e, _, hu⟩ := hu
  simp only [Nd.vals, List.mem_cons, List.not_mem_nil, or_false] at hu
  rcases hu with rfl | rfl | rfl | rfl <;> rfl
/-- What Grow leaves: an empty slice of its own. -/
def GrowN (w : World) (e : Ending) (w' : World) : Prop := ∃ v, e = .returned v ∧ Own w' 33 4 v 0 [] ∧ (∀ g ∈ fpv v, w.heap.size ≤ g) ∧ Below w.heap.size w w'
set_option maxRecDepth 100000 in
theorem growN_calls (w : World) (n : Nat) (hn : n ≤ 1000) : Calls Tryz.prog 86 #[.slice none 0 0, .int .i64 n] w (GrowN w) := by
  by_cases h0 : n = 0
  · subst h0
    go_enter Tryz.func86, Tryz.ntmps86
    go_wp2
    go_ret
    exact ⟨_, rfl, Own.nil _ _ _, by simp [fpv], Below.refl _ _⟩
  · obtain ⟨c, w1, hr, hown, hB, hsz⟩ := own_nil_make (P := Tryz.prog) (w := w) (u := 3) En Tryz.underlying3 n (by omega) (by unfold maxLen; omega) (by omega)
    have hpos : (0 : Int) < n := by omega
    have HR := Lib.hid hr
    have HO := Lib.hid hown
    have HB := Lib.hid hB
    clear hr hown hB hsz
    go_enter Tryz.func86, Tryz.ntmps86
    go_wp2_with ((at_builtin; refine wpList_append_run rfl rfl rfl rfl HR.out ?_))
    go_ret
    refine ⟨_, rfl, ?_, fun g hg => by simp [fpv] at hg; omega, HB.out⟩
    exact HO.out.cut (i := 0) (by omega)
def ConcatN (w : World) (es : List Nd) (e : Ending) (w' : World) : Prop := ∃ v, e = .returned v ∧ OwnN w' v es ∧ (∀ g ∈ fpv v, w.heap.size ≤ g) ∧ Below w.heap.size w w'
set_option maxRecDepth 100000 in
set_option maxHeartbeats 1000000 in
theorem concatN_calls (w : World) (g : Nat) (v1 v2 : Value) (e1 e2 : List Nd) (tt : TypeId) (hh : w.heap[g]? = some (.cells #[v1, v2] tt (0, 0))) (h1 : OwnN w v1 e1) (h2 : OwnN w v2 e2) (hl1 : e1.length ≤ 8) (hl2 : e2.length ≤ 8) :
    Calls Tryz.prog 52 #[.slice (some ⟨g, 0, none⟩) 2 2] w (ConcatN w (e1 ++ e2)) := by
  obtain ⟨a1, p1, rfl, _, _⟩ := h1.shape
  obtain ⟨a2, p2, rfl, _, _⟩ := h2.shape
  have c0 : w.cell? ⟨g, 0, none⟩ = some (.slice a1 e1.length p1) := by simp [World.cell?, hh]
  have c1 : w.cell? ⟨g, 1, none⟩ = some (.slice a2 e2.length p2) := by simp [World.cell?, hh]
  have H1 := Lib.hid h1
  have H2 := Lib.hid h2
  have HH := Lib.hid hh
  have hlt : g < w.heap.size := (Array.getElem?_eq_some_iff.1 hh).1
  obtain ⟨n1, hn1⟩ : ∃ n, e1.length = n := ⟨_, rfl⟩
  obtain ⟨n2, hn2⟩ : ∃ n, e2.length = n := ⟨_, rfl⟩
  have HN1 := Lib.hid hn1
  have HN2 := Lib.hid hn2
  rw [hn1] at c0 hl1
  rw [hn2] at c1 hl2
  clear h1 h2 hh hn1 hn2
  go_enter Tryz.func52, Tryz.ntmps52
  go_wp2_with fail
  refine wp_loop_rounds 3 ?_
  rw [rounds_succ]; go_wp2_with fail
  rw [rounds_succ]; go_wp2_with fail
  rw [rounds_succ]; go_wp2_with fail
  have hg := growN_calls w (n1 + n2) (by omega)
  rw [Int.natCast_add] at hg
  refine hg.mono ?_
  clear hg
  rintro e3 w3 ⟨v3, rfl, ho3, hf3, hb3⟩
  have hh3 := (hb3.block g hlt).trans HH.out
  have d0 : w3.cell? ⟨g, 0, none⟩ = some (.slice a1 n1 p1) := by simp [World.cell?, hh3, HN1.out]
  have d1 : w3.cell? ⟨g, 1, none⟩ = some (.slice a2 n2 p2) := by simp [World.cell?, hh3, HN2.out]
  have h13 := H1.out.ext hb3
  have h23 := H2.out.ext hb3
  rw [HN1.out] at h13
  rw [HN2.out] at h23
  have HO3 := Lib.hid ho3
  have HF3 := Lib.hid hf3
  have HB3 := Lib.hid hb3
  have HH3 := Lib.hid hh3
  have H13 := Lib.hid h13
  have H23 := Lib.hid h23
  obtain ⟨a3, p3, rfl, _⟩ := ho3.shape
  clear c0 c1 ho3 hf3 hb3 hh3 h13 h23
  go_wp2_with fail
  refine wp_loop_rounds 3 ?_
  rw [rounds_succ]
  go_wp2_with ((at_builtin; refine wpList_append_own2 rfl rfl En rfl HO3.out rfl H13.out (nds_one _) (by unfold maxLen; omega) (by omega) ?_; intro v4 w4 ho4 hk4 hf4 hz4))
  obtain ⟨a4, p4, rfl, _⟩ := ho4.shape
  have hf4' : ∀ y ∈ fpv (.slice a4 (0 + n1) p4), w.heap.size ≤ y := fun y hy => by
    rcases hf4 y hy with h | h
    · exact HF3.out y h
    · have := HB3.out.size; omega
  have hb4 : Below w.heap.size w w4 := HB3.out.trans (hk4.below HB3.out.size HF3.out)
  have hne : g ∉ fpv (.slice a3 0 p3) := fun hm => by have := HF3.out g hm; omega
  have hd4 : w4.cell? ⟨g, 1, none⟩ = some (.slice a2 n2 p2) := (hb4.cell (p := ⟨g, 1, none⟩) (by exact hlt)).trans ((HB3.out.cell (p := ⟨g, 1, none⟩) (by exact hlt)).symm.trans d1)
  have h24 := H23.out.keeps hk4 (fun y hy hm => by
    have h1 := HF3.out y hm
    have h2 := H2.out.fp_lt y (by rw [HN2.out]; exact hy)
    omega)
  rw [Nat.zero_add] at ho4 hf4'
  rw [show (0 + n1 : Nat) = n1 from Nat.zero_add n1]
  have HO4 := Lib.hid ho4
  have HF4 := Lib.hid hf4'
  have HB4 := Lib.hid hb4
  have H24 := Lib.hid h24
  clear ho4 hf4 hf4' hb4 h24 hk4 hz4 d0 d1 hne
  go_wp2_with fail
  rw [rounds_succ]
  go_wp2_with ((at_builtin; refine wpList_append_own2 rfl rfl En rfl HO4.out rfl H24.out (nds_one _) (by unfold maxLen; omega) (by omega) ?_; intro v5 w5 ho5 hk5 hf5 hz5))
  obtain ⟨a5, p5, rfl, _⟩ := ho5.shape
  have HO5 := Lib.hid ho5
  have HF5 := Lib.hid hf5
  have HK5 := Lib.hid hk5
  clear ho5 hf5 hk5 hz5 hd4
  go_wp2_with fail
  rw [rounds_succ]
  go_wp2
  go_ret
  refine ⟨_, rfl, ?_, fun y hy => ?_, HB4.out.trans (HK5.out.below HB4.out.size HF4.out)⟩
  · have := HO5.out
    rw [List.nil_append, ← nds_append] at this
    unfold OwnN
    rw [List.length_append, HN1.out, HN2.out]
    exact this
  · rcases HF5.out y hy with h | h
    · exact HF4.out y h
    · have := HB4.out.size; omega
end Go.Proofs.Tc

namespace Go.Proofs.Tc
open Go.RowKit Go.Sort
attribute [local go_sem] stepO_0 stepO_1 stepO_2 stepO_3 stepV_0 stepV_1 stepV_2 stepV_3 stepV_5

def Done (w : World) (e : Ending) (w' : World) : Prop := (∃ r, e = .returned r) ∧ Below w.heap.size w w'
set_option maxRecDepth 100000 in
theorem ins_calls (w : World) (v f : Value) (n : Nat) (hn : n ≤ 1) : Calls Tryz.prog 134 #[v, .int .i64 0, .int .i64 n, f] w (Done w) := by
  go_enter Tryz.func134, Tryz.ntmps134
  go_wp2_with fail
  refine wp_loop_rounds 1 ?_
  rw [rounds_succ]
  go_wp2
  refine bodyPost_end (results_none rfl _ _ _) rfl ?_
  exact ⟨⟨_, rfl⟩, Below.refl _ _⟩
set_option maxRecDepth 100000 in
theorem pdq_calls (w : World) (v f k : Value) (n : Nat) (hn : n ≤ 1) : Calls Tryz.prog 115 #[v, .int .i64 0, .int .i64 n, k, f] w (Done w) := by
  have hI := fun w => ins_calls w v f n hn
  go_enter Tryz.func115, Tryz.ntmps115
  go_wp2_with fail
  refine wp_loop_rounds 1 ?_
  rw [rounds_succ]
  go_wp2_with fail
  refine (hI _).mono ?_
  rintro e2 w2 ⟨⟨r, rfl⟩, hb2⟩
  go_wp2
  refine bodyPost_ret (results_none rfl _ _ _) rfl ?_
  exact ⟨⟨_, rfl⟩, hb2⟩
set_option maxRecDepth 100000 in
theorem sort_calls (w : World) (a : Option Addr) (cap : Nat) (f : Value) (n : Nat) (hn : n ≤ 1) : Calls Tryz.prog 89 #[.slice a n cap, f] w (Done w) := by
  have hL := fun w => Tryz.bits_Len n w (by omega) (by omega)
  have hP := fun w k => pdq_calls w (.slice a n cap) f k n hn
  go_enter Tryz.func89, Tryz.ntmps89
  go_wp2_with fail
  refine (hL _).mono ?_
  rintro e2 w2 ⟨rfl, rfl⟩
  go_wp2_with fail
  refine (hP _ _).mono ?_
  rintro e3 w3 ⟨⟨r, rfl⟩, hb3⟩
  go_wp2
  refine bodyPost_end (results_none rfl _ _ _) rfl ?_
  exact ⟨⟨_, rfl⟩, hb3⟩
def SortedRes (w : World) (l : List Nd) (e : Ending) (w' : World) : Prop := ∃ v, e = .returned v ∧ OwnN w' v l ∧ Below w.heap.size w w'
set_option maxRecDepth 100000 in
set_option maxHeartbeats 2000000 in
/-- 'sorted' where the family has one bucket of one entry. -/
theorem sorted_calls (w : World) (t : Nat) (own : ByteArray) (now : Int) (lab : Nat → Option Nat) (m : Nat) (v : Bool → Value) (L : Bool → List Pl) (h : TbIn w t own now lab m v L) (x : Pl) (hL : L false = [x]) (e : Ent) (hx : x.k.ents = [e]) (id : ByteArray) (want : Int) :
    Calls Tryz.prog 53 #[.pointer (some ⟨t, 0, none⟩), .string id, .int .i64 4, .int .i64 want] w (SortedRes w (if kindF now e.an e.ak e.fl = want then [e.nd] else [])) := by
  have hB0 := below_new (Below.refl _ w) (.cells #[.string id] 9)
  have h0 := h.ext hB0
  have ht := h0.hh
  obtain ⟨t0, t1, t2⟩ := cells3 ht
  have hfl := fam_lookup h0.hm false
  have hvo := h0.hv false
  have hbk := h0.hk false x (by rw [hL]; simp)
  rw [hL] at hvo
  obtain ⟨gv, cv, hv, _, _, _, hrv⟩ := hvo.row (by simp)
  have hvc : (w.alloc (.cells #[.string id] 9)).cell? ⟨gv, 0, none⟩ = some (.pointer (some ⟨x.a, 0, none⟩)) := hvo.cell hv rfl
  obtain ⟨ve, vs, hxa, hve, hvs, _, _⟩ := hbk
  rw [hx] at hve
  obtain ⟨ge, ce, rfl, _, _, _, hre⟩ := hve.row (by simp)
  have hec : ∀ j u, e.vals[j]? = some u → (w.alloc (.cells #[.string id] 9)).cell? ⟨ge, j, none⟩ = some u := fun j u hu => hve.cell rfl (by
    show (evs [e])[j]? = some u
    simpa [evs] using hu)
  rw [hv] at hfl
  simp only [List.map_cons, List.map_nil, List.length_cons, List.length_nil, Nat.zero_add] at hfl hxa
  have hfl4 : (Instr.lookup 65 (.map (some m)) (.int .i64 4) false).run Tryz.prog (w.alloc (.cells #[.string id] 9)) = .ok (.slice (some ⟨gv, 0, none⟩) 1 (cv + 1)) (w.alloc (.cells #[.string id] 9)) := hfl
  obtain ⟨x0, x1, x2, x3, x4⟩ := cells5 hxa
  have e0 := hec 0 _ rfl
  have e1 := hec 1 _ rfl
  have e2 := hec 2 _ rfl
  have e3 := hec 3 _ rfl
  have e4 := hec 4 _ rfl
  have e5 := hec 5 _ rfl
  have e6 := hec 6 _ rfl
  have e7 := hec 7 _ rfl
  have HB0 := Lib.hid hB0
  have ltt : t < (w.alloc (.cells #[.string id] 9)).heap.size := h0.lt _ _ h0.l0
  have T1 := Lib.hid t1
  clear h0 ht hfl hvo hv hrv hve hvs hre hec hB0 h hL hx
  obtain ⟨l, hl⟩ : ∃ l, (if kindF now e.an e.ak e.fl = want then [e.nd] else []) = l := ⟨_, rfl⟩
  rw [hl]
  have HL := Lib.hid hl
  clear hl
  go_enter Tryz.func53, Tryz.ntmps53
  go_wp2_with fail
  generalize (w.alloc (.cells #[.string id] 9)) = w0 at *
  refine wp_loop_rounds 2 ?_
  rw [rounds_succ]
  go_wp2_with fail
  refine wp_loop_rounds 2 ?_
  rw [rounds_succ]
  have hb6 := heap_alloc_new w0 (.cells #[.string e.nd.id, .int .i64 e.nd.fam, .string e.nd.ip, .int .i64 e.nd.port, .int .i64 e.kd, .int .i64 e.an, .int .i64 e.ak, .int .i64 e.fl] 60)
  obtain ⟨y0, y1, y2, y3, y4, y5, y6, y7⟩ := cells8 hb6
  have HB6 := Lib.hid hb6
  have t1' := (Below.cell (below_new (Below.refl _ w0) (.cells #[.string e.nd.id, .int .i64 e.nd.fam, .string e.nd.ip, .int .i64 e.nd.port, .int .i64 e.kd, .int .i64 e.an, .int .i64 e.ak, .int .i64 e.fl] 60)) (p := ⟨t, 1, none⟩) (by exact ltt)).trans t1
  clear hb6
  go_wp2_with fail
  refine wp_region_ord [(0,0),(1,0),(2,0),(3,1),(4,1),(6,0),(5,3),(7,0)] (by kernel_rfl) (by kernel_rfl) ?_
  simp only [pickO, List.map_cons, List.map_nil, List.getD_cons_zero, List.getD_cons_succ]
  repeat (first | ((with_reducible refine wpO_skip ?_ ?_); rfl; simp only [Act.put, List.setIfInBounds_toArray, List.set_cons_zero, List.set_cons_succ]) | ((with_reducible refine wpO_step (fun K hK => ?_)); go_simp; (try go_bits); (first | (with_reducible refine hK _ _ ?_) | (simp only [IntWalk.iteOmega]; go_simp; (try go_bits); (with_reducible refine hK _ _ ?_))); clear hK K))
  (with_reducible refine wpO_step (fun K hK => ?_)); go_simp; (try go_bits)
  refine (kind_calls _ _ _ _ _ _ _ _ _ _).mono ?_; rintro e2 w2 ⟨rfl, hb2⟩
  (with_reducible refine hK _ _ ?_); clear hK K
  repeat (first | ((with_reducible refine wpO_skip ?_ ?_); rfl; simp only [Act.put, List.setIfInBounds_toArray, List.set_cons_zero, List.set_cons_succ]) | ((with_reducible refine wpO_step (fun K hK => ?_)); go_simp; (try go_bits); (first | (with_reducible refine hK _ _ ?_) | (simp only [IntWalk.iteOmega]; go_simp; (try go_bits); (with_reducible refine hK _ _ ?_))); clear hK K))
  (with_reducible refine wpO_nil ?_)
  by_cases hkw : kindF now e.an e.ak e.fl = want
  · have hkw' : (kindF now e.an e.ak e.fl == want) = true := by simp [hkw]
    have hl := HL.out
    rw [if_pos hkw] at hl
    subst hl
    rw [hkw']
    clear hkw hkw'
    obtain ⟨z0, z1, z2, z3, z4, z5, z6, z7⟩ := cells8 ((hb2.block w0.heap.size (by simp)).trans HB6.out)
    have HSRC : Hid (Own (w2.alloc (.cells #[.string e.nd.id, .int .i64 e.nd.fam, .string e.nd.ip, .int .i64 e.nd.port] 33)) 33 4 (.slice (some ⟨w2.heap.size, 0, none⟩) 1 1) 1 (nds [e.nd])) :=
      .inr ⟨_, 0, _, rfl, by omega, by unfold maxLen; omega, heap_alloc_new _ _, rfl, rfl, rfl⟩
    have HB2 := Lib.hid (below_new (below_ext (below_new HB0.out (.cells #[.string e.nd.id, .int .i64 e.nd.fam, .string e.nd.ip, .int .i64 e.nd.port, .int .i64 e.kd, .int .i64 e.an, .int .i64 e.ak, .int .i64 e.fl] 60)).drew hb2) (.cells #[.string e.nd.id, .int .i64 e.nd.fam, .string e.nd.ip, .int .i64 e.nd.port] 33))
    clear hb2 y0 y1 y2 y3 y4 y5 y6 y7
    go_wp2_with ((at_builtin; refine wpList_append_own2 rfl rfl En rfl (Own.nil _ 33 4) rfl HSRC.out (nds_one _) (by unfold maxLen; omega) (by omega) ?_; intro v3 w3 ho3 hk3 hf3 hz3))
    obtain ⟨a3, p3, rfl, _⟩ := ho3.shape
    have HO3 := Lib.hid ho3
    have hk3' : Keeps [] _ w3 := hk3
    have HB3 := Lib.hid (HB2.out.trans (hk3'.below HB2.out.size (by simp)))
    clear ho3 hk3 hk3' hf3 hz3 z0 z1 z2 z3 z4 z5 z6 z7
    go_wp2_with fail
    rw [rounds_succ]
    go_wp2_with fail
    rw [rounds_succ]
    go_wp2_with fail
    refine (sort_calls _ a3 p3 _ 1 (by omega)).mono ?_
    rintro e5 w5 ⟨⟨r, rfl⟩, hb5⟩
    go_wp2
    go_ret
    exact ⟨_, rfl, HO3.out.ext hb5, below_ext HB3.out hb5⟩
  · have hkw' : (kindF now e.an e.ak e.fl == want) = false := by simp [hkw]
    have hl := HL.out
    rw [if_neg hkw] at hl
    subst hl
    rw [hkw']
    clear hkw hkw'
    go_wp2_with fail
    rw [rounds_succ]
    go_wp2_with fail
    rw [rounds_succ]
    go_wp2_with fail
    refine (sort_calls _ none 0 _ 0 (by omega)).mono ?_
    rintro e5 w5 ⟨⟨r, rfl⟩, hb5⟩
    go_wp2
    go_ret
    exact ⟨_, rfl, Own.nil _ _ _, below_ext (below_ext (below_new HB0.out (.cells #[.string e.nd.id, .int .i64 e.nd.fam, .string e.nd.ip, .int .i64 e.nd.port, .int .i64 e.kd, .int .i64 e.an, .int .i64 e.ak, .int .i64 e.fl] 60)).drew hb2) hb5⟩
end Go.Proofs.Tc

namespace Go.Proofs.Tc
open Go.RowKit Go.Sort
attribute [local go_sem] stepO_0 stepO_1 stepO_2 stepO_3 stepV_0 stepV_1 stepV_2 stepV_3 stepV_5

def NearRes (w : World) (t : Nat) (n : Nd) (e : Ending) (w' : World) : Prop := ∃ a c, e = .returned (.tuple #[.slice a 1 c, .int .i64 0]) ∧ OwnN w' (.slice a 1 c) [n] ∧ Keeps [t] w w'
set_option maxRecDepth 100000 in
set_option maxHeartbeats 2000000 in
theorem near_calls (w : World) (t : Nat) (own : ByteArray) (lab : Nat → Option Nat) (m : Nat) (v : Bool → Value) (L : Bool → List Pl) (h : TbIn w t own 1 lab m v L) (x : Pl) (hL : L false = [x]) (e : Ent) (hx : x.k.ents = [e]) (hkd : kindF 1 e.an e.ak e.fl = 1) (id : ByteArray) (hid : id.size = 20) :
    Calls Tryz.prog 21 #[.pointer (some ⟨t, 0, none⟩), .int .i64 1, .string id, .int .i64 4, .int .i64 8] w (NearRes w t e.nd) := by
  have hid' : ((id.size : Int) == 20) = true := by simp [hid]
  have hT := tell_ok w t (.string own) 1 1 false (.map (some m)) h.hh (by omega) (by omega)
  have ltt : t < w.heap.size := h.lt _ _ h.l0
  go_enter Tryz.func21, Tryz.ntmps21
  go_wp2_with fail
  refine (valid_calls _ _).mono ?_
  rintro e1 w1 ⟨rfl, hb1⟩
  rw [hid']
  have h1 := h.ext hb1
  have HT2 := Lib.hid (h1.setNow 1)
  have HB1 := Lib.hid hb1
  have hT := tell_ok w1 t (.string own) 1 1 false (.map (some m)) h1.hh (by omega) (by omega)
  clear hb1 h1 h
  go_wp2_with fail
  refine hT.mono ?_
  rintro e2 w2 ⟨rfl, hw2⟩
  rw [← hw2] at HT2
  have HK2 : Hid (Keeps [t] w1 w2) := by rw [hw2]; exact (Keeps.refl _ _).setCell _ (.inl (by simp))
  clear hw2 hT
  go_wp2_with fail
  refine (sorted_calls _ t own 1 lab m v L HT2.out.1 x hL e hx id 1).mono ?_
  rintro e3 w3 ⟨v3, rfl, ho3, hb3⟩
  rw [if_pos hkd] at ho3
  have HT3 := Lib.hid (HT2.out.1.ext hb3)
  have HO3 := Lib.hid ho3
  have HB3 := Lib.hid hb3
  obtain ⟨a3, p3, rfl, _⟩ := ho3.shape
  clear ho3 hb3
  go_wp2_with fail
  refine (sorted_calls _ t own 1 lab m v L HT3.out x hL e hx id 2).mono ?_
  rintro e4 w4 ⟨v4, rfl, ho4, hb4⟩
  rw [if_neg (by rw [hkd]; decide)] at ho4
  have HO3' := Lib.hid (HO3.out.ext hb4)
  have HO4 := Lib.hid ho4
  have HB4 := Lib.hid hb4
  obtain ⟨a4, p4, rfl, _⟩ := ho4.shape
  clear ho4 hb4
  have hh5 := heap_alloc_new w4 (.cells #[.slice a3 [e.nd].length p3, .slice a4 ([] : List Nd).length p4] 56)
  have hb5 := below_new (Below.refl _ w4) (.cells #[.slice a3 [e.nd].length p3, .slice a4 ([] : List Nd).length p4] 56)
  have hc := concatN_calls _ _ _ _ [e.nd] [] 56 hh5 (HO3'.out.ext hb5) (HO4.out.ext hb5) (by simp) (by simp)
  have HC := Lib.hid hc
  have HB5 := Lib.hid hb5
  clear hh5 hb5 hc
  go_wp2_with fail
  refine HC.out.mono ?_
  rintro e6 w6 ⟨v6, rfl, ho6, hf6, hb6⟩
  obtain ⟨a6, p6, rfl, hle6, _⟩ := ho6.shape
  have HO6 := Lib.hid ho6
  have HB6 := Lib.hid hb6
  clear ho6 hf6 hb6
  have hle7 : 1 ≤ p6 := hle6
  go_wp2_with fail
  all_goals (first
    | (exfalso; rename_i hh; exact hh ⟨by decide, by rw [show min (8 : Int) 1 = 1 from rfl]; omega⟩)
    | (go_ret2
       refine ⟨a6, p6, rfl, HO6.out, ?_⟩
       exact (((((HB1.out.keep.trans HK2.out).trans HB3.out.keep).trans HB4.out.keep).trans HB5.out.keep).trans HB6.out.keep)))
end Go.Proofs.Tc

namespace Go.Proofs.Tc
open Go.RowKit Go.Sort
attribute [local go_sem] stepO_0 stepO_1 stepO_2 stepO_3 stepV_0 stepV_1 stepV_2 stepV_3 stepV_5

def idA : ByteArray := ⟨#[97, 97, 97, 97, 97, 97, 97, 97, 97, 97, 97, 97, 97, 97, 97, 97, 97, 97, 97, 97]⟩
def idB : ByteArray := ⟨#[98, 98, 98, 98, 98, 98, 98, 98, 98, 98, 98, 98, 98, 98, 98, 98, 98, 98, 98, 98]⟩
def ndB : Nd := ⟨idB, 4, ⟨#[1, 2, 3, 4]⟩, 5⟩
set_option maxRecDepth 100000 in
theorem seenF_B : seenF idA 1 [⟨zeroS, 0, [], [], 0⟩] ndB true = (true, [⟨zeroS, 0, [⟨ndB, 0, 1, -1, 0⟩], [], 1⟩]) := by rfl
theorem seenT_B : seenT idA 0 (fun _ => [⟨zeroS, 0, [], [], 0⟩]) 1 ndB true = ((true, 0), 1, fun c => if c = false then [⟨zeroS, 0, [⟨ndB, 0, 1, -1, 0⟩], [], 1⟩] else [⟨zeroS, 0, [], [], 0⟩]) := by
  have h1 : vnF ndB = true := by decide
  have h2 : ¬ (ndB.id = idA) := by decide
  have h3 : (ndB.fam == 6) = false := rfl
  unfold seenT
  rw [if_neg (by rw [h1]; simp), if_neg (by omega), if_neg h2]
  simp only [h3, seenF_B]
theorem kind_B : kindF 1 1 (-1) 0 = 1 := by unfold kindF; rw [if_neg (by omega), if_pos ⟨by omega, .inl (by unfold wrap64; omega)⟩]
set_option maxRecDepth 100000 in
set_option maxHeartbeats 2000000 in
theorem awake_calls (w : World) : Calls Tryz.prog 7 #[] w (Ret w (.bool true)) := by
  have hN := new_calls w idA
  go_enter Tryz.func7, Tryz.ntmps7
  go_wp2_with fail
  refine hN.mono ?_
  rintro e1 w1 (⟨h, _⟩ | ⟨_, t, rfl, ⟨lab, m, v, L, hT, hF, hl, hk⟩, hB1⟩)
  · exact absurd rfl h
  have hBn := below_new (Below.refl _ w1) (.cells (ndB.vals.toArray) 33)
  have hnb := heap_alloc_new w1 (.cells (ndB.vals.toArray) 33)
  have hT2 := hT.ext hBn
  have hln : lab w1.heap.size = none := by
    cases hx : lab w1.heap.size with
    | none => rfl
    | some i => have := hT.lt _ i hx; omega
  have htn : w1.heap.size ≠ t := fun e => by rw [e, hT.l0] at hln; cases hln
  have htge : w.heap.size ≤ t := Nat.le_of_not_lt fun hh => by have := hl t hh; rw [hT.l0] at this; cases this
  have hS := seen_calls _ t idA 0 lab m v L hT2 rfl 0 hF (by omega) 1 ndB true
  rw [show (fun c => (L c).map (·.k)) = fun _ => [⟨zeroS, 0, [], [], 0⟩] from funext hk, seenT_B] at hS
  have HS := Lib.hid hS
  have HNB := Lib.hid hnb
  have HB1 := Lib.hid (hB1.trans (hBn.mono hB1.size))
  have hlt := hB1.size
  clear hN hT hF hk hBn hnb hT2 hS hB1
  go_wp2_with fail
  refine HS.out.mono ?_
  rintro e3 w3 ⟨rfl, lab', v', L', hT3, hk3, hl3, hK3⟩
  obtain ⟨x, hL, hxk⟩ := List.map_eq_singleton_iff.1 (hk3 false)
  have hnb3 := (hK3.block w1.heap.size (by simp) hln).trans HNB.out
  have hNR := near_calls w3 t idA lab' m v' L' hT3 x hL ⟨ndB, 0, 1, -1, 0⟩ (by rw [hxk]) kind_B idB rfl
  have HNR := Lib.hid hNR
  have HN3 := Lib.hid hnb3
  have hB3 := hK3.below (n := w.heap.size) (by simp; omega) hl
  have HB3 := Lib.hid (HB1.out.trans hB3)
  obtain ⟨q0, q1, q2, q3⟩ := cells4 hnb3
  dsimp only [ndB, idB] at q0 q1 q2 q3
  clear hT3 hk3 hl3 hK3 hL hxk hNR hnb3 hB3
  go_wp2_with fail
  refine HNR.out.mono ?_
  rintro e4 w4 ⟨a4, c4, rfl, ho4, hk4⟩
  have hnb4 := (hk4.block w1.heap.size (Array.getElem?_eq_some_iff.1 HN3.out).1 (by simpa using htn)).trans HN3.out
  obtain ⟨p0, p1, p2, p3⟩ := cells4 hnb4
  obtain ⟨g4, d4, hv4, _, _, _, hrow4⟩ := ho4.row (by simp)
  injection hv4 with ha4 hl4 hc4
  clear hl4
  subst ha4 hc4
  have hc : ∀ j u, ndB.vals[j]? = some u → w4.cell? ⟨g4, j, none⟩ = some u := fun j u hu => ho4.cell rfl (by show (nds [ndB])[j]? = some u; simpa [nds] using hu)
  have z0 := hc 0 _ rfl
  have z1 := hc 1 _ rfl
  have z2 := hc 2 _ rfl
  have z3 := hc 3 _ rfl
  dsimp only [ndB, idB] at p0 p1 p2 p3 z0 z1 z2 z3
  have hB4 := hk4.below (B := w.heap.size) HB3.out.size (by simpa using htge)
  have HB4 := Lib.hid (HB3.out.trans hB4)
  clear q0 q1 q2 q3 hnb4 ho4 hk4 hc hrow4 hB4
  generalize (ByteArray.mk #[98, 98, 98, 98, 98, 98, 98, 98, 98, 98, 98, 98, 98, 98, 98, 98, 98, 98, 98, 98]) = sb at *
  generalize (ByteArray.mk #[1, 2, 3, 4]) = si at *
  go_wp2_with fail
  refine wp_region_ord [(0,0),(1,0),(2,0),(3,0),(4,0),(5,0),(6,0),(7,0),(8,0),(9,0),(10,0),(11,0),(12,0),(13,0),(14,0),(15,0),(16,0),(17,1),(18,1),(19,0),(20,0),(21,0)] (by kernel_rfl) (by kernel_rfl) ?_
  simp only [pickO, List.map_cons, List.map_nil, List.getD_cons_zero, List.getD_cons_succ]
  repeat (first | ((with_reducible refine wpO_skip ?_ ?_); rfl; simp only [Act.put, List.setIfInBounds_toArray, List.set_cons_zero, List.set_cons_succ]) | ((with_reducible refine wpO_step (fun K hK => ?_)); go_simp; (try go_bits); (first | (with_reducible refine hK _ _ ?_) | (simp only [IntWalk.iteOmega]; go_simp; (try go_bits); (with_reducible refine hK _ _ ?_))); clear hK K))
  (with_reducible refine wpO_nil ?_)
  go_wp2
  go_ret
  exact ⟨by simp, HB4.out.drew⟩
end Go.Proofs.Tc

namespace Go.Proofs.Tc
open Go.RowKit Go.ChangeAt Go.Deep Go.WideShapes

theorem covers_all (w : World) (own : ByteArray) (a : Option Addr) (cap : Nat) (A : List Ac) (hA : ActsIn w a cap A) :
    Calls Tryz.prog 3 #[.string own, .slice a A.length cap] w (Ret w (.bool true)) := main_calls awake_calls w own a cap A hA
theorem eight {cs : List Value} (h : cs.length = 8) : ∃ c0 c1 c2 c3 c4 c5 c6 c7, cs = [c0, c1, c2, c3, c4, c5, c6, c7] := by
  match cs, h with
  | [c0, c1, c2, c3, c4, c5, c6, c7], _ => exact ⟨_, _, _, _, _, _, _, _, rfl⟩
theorem ce35 : Tryz.prog.cellsOf 35 = 8 := by kernel_rfl
theorem ce33 : Tryz.prog.cellsOf 33 = 4 := by kernel_rfl
theorem ce31 : Tryz.prog.cellsOf 31 = 3 := by kernel_rfl
theorem ce3 : Tryz.prog.cellsOf 3 = 1 := by kernel_rfl
theorem ce9 : Tryz.prog.cellsOf 9 = 1 := by kernel_rfl
section
variable {H : Type} {enc : TypeId × Value → H} {w : World} {base : Nat} {spare : Nat → Bool} {held : Bool}
theorem some_of_lt {α : Type} {l : List α} {i : Nat} {o : Option α} (h : o = l[i]?) (hi : i < l.length) : ∃ y, o = some y := by
  rw [h]; exact ⟨_, List.getElem?_eq_getElem hi⟩
theorem addr_of {fuel : Nat} {c0 c1 c2 : Value} {y : DataW H × List MemPlace} (h : DataW.trod enc Tryz.prog w base spare held fuel 31 [c0, c1, c2] = some y) : ∃ (f : Int) (ip : ByteArray) (po : Int), c0 = .int .i64 f ∧ c1 = .string ip ∧ c2 = .int .i64 po := by
  obtain ⟨xs, n, _, _, hl, hlen, hf⟩ := DataW.trod_struct Tryz.underlying31 h
  have hlen' : xs.length = 3 := hlen
  have f0 : DataW.trod enc Tryz.prog w base spare held n 3 (List.take (Tryz.prog.cellsOf 3) (List.drop 0 [c0, c1, c2])) = xs[0]? := hf 0 _ rfl
  have f1 : DataW.trod enc Tryz.prog w base spare held n 9 (List.take (Tryz.prog.cellsOf 9) (List.drop 1 [c0, c1, c2])) = xs[1]? := hf 1 _ rfl
  have f2 : DataW.trod enc Tryz.prog w base spare held n 3 (List.take (Tryz.prog.cellsOf 3) (List.drop 2 [c0, c1, c2])) = xs[2]? := hf 2 _ rfl
  simp only [ce3, ce9, List.drop_zero, List.drop_succ_cons, List.take_succ_cons, List.take_zero] at f0 f1 f2
  obtain ⟨y0, g0⟩ := some_of_lt f0 (by omega)
  obtain ⟨y1, g1⟩ := some_of_lt f1 (by omega)
  obtain ⟨y2, g2⟩ := some_of_lt f2 (by omega)
  obtain ⟨a0, e0, _, _⟩ := DataW.trod_int Tryz.underlying3 g0
  obtain ⟨a1, e1, _, _⟩ := DataW.trod_string Tryz.underlying9 g1
  obtain ⟨a2, e2, _, _⟩ := DataW.trod_int Tryz.underlying3 g2
  simp at e0 e1 e2
  exact ⟨_, _, _, e0, e1, e2⟩
theorem node_of {fuel : Nat} {c0 c1 c2 c3 : Value} {y : DataW H × List MemPlace} (h : DataW.trod enc Tryz.prog w base spare held fuel 33 [c0, c1, c2, c3] = some y) : ∃ nd : Nd, c0 = .string nd.id ∧ c1 = .int .i64 nd.fam ∧ c2 = .string nd.ip ∧ c3 = .int .i64 nd.port := by
  obtain ⟨xs, n, _, _, hl, hlen, hf⟩ := DataW.trod_struct Tryz.underlying33 h
  have hlen' : xs.length = 2 := hlen
  have f0 : DataW.trod enc Tryz.prog w base spare held n 9 (List.take (Tryz.prog.cellsOf 9) (List.drop 0 [c0, c1, c2, c3])) = xs[0]? := hf 0 _ rfl
  have f1 : DataW.trod enc Tryz.prog w base spare held n 31 (List.take (Tryz.prog.cellsOf 31) (List.drop 1 [c0, c1, c2, c3])) = xs[1]? := hf 1 _ rfl
  simp only [ce31, ce9, List.drop_zero, List.drop_succ_cons, List.take_succ_cons, List.take_zero] at f0 f1
  obtain ⟨y0, g0⟩ := some_of_lt f0 (by omega)
  obtain ⟨y1, g1⟩ := some_of_lt f1 (by omega)
  obtain ⟨a0, e0, _, _⟩ := DataW.trod_string Tryz.underlying9 g0
  obtain ⟨f, ip, po, h1, h2, h3⟩ := addr_of g1
  simp at e0
  exact ⟨⟨a0, f, ip, po⟩, e0, h1, h2, h3⟩
theorem act_of {fuel : Nat} {cs : List Value} {y : DataW H × List MemPlace} (h : DataW.trod enc Tryz.prog w base spare held fuel 35 cs = some y) : ∃ x : Ac, cs = x.vals := by
  obtain ⟨xs, n, _, _, hl, hlen, hf⟩ := DataW.trod_struct Tryz.underlying35 h
  rw [ce35] at hl
  obtain ⟨c0, c1, c2, c3, c4, c5, c6, c7, rfl⟩ := eight hl
  have hlen' : xs.length = 5 := hlen
  have f0 : DataW.trod enc Tryz.prog w base spare held n 3 (List.take (Tryz.prog.cellsOf 3) (List.drop 0 [c0, c1, c2, c3, c4, c5, c6, c7])) = xs[0]? := hf 0 _ rfl
  have f1 : DataW.trod enc Tryz.prog w base spare held n 3 (List.take (Tryz.prog.cellsOf 3) (List.drop 1 [c0, c1, c2, c3, c4, c5, c6, c7])) = xs[1]? := hf 1 _ rfl
  have f2 : DataW.trod enc Tryz.prog w base spare held n 33 (List.take (Tryz.prog.cellsOf 33) (List.drop 2 [c0, c1, c2, c3, c4, c5, c6, c7])) = xs[2]? := hf 2 _ rfl
  have f3 : DataW.trod enc Tryz.prog w base spare held n 9 (List.take (Tryz.prog.cellsOf 9) (List.drop 6 [c0, c1, c2, c3, c4, c5, c6, c7])) = xs[3]? := hf 3 _ rfl
  have f4 : DataW.trod enc Tryz.prog w base spare held n 3 (List.take (Tryz.prog.cellsOf 3) (List.drop 7 [c0, c1, c2, c3, c4, c5, c6, c7])) = xs[4]? := hf 4 _ rfl
  simp only [ce3, ce9, ce33, List.drop_zero, List.drop_succ_cons, List.take_succ_cons, List.take_zero] at f0 f1 f2 f3 f4
  obtain ⟨y0, g0⟩ := some_of_lt f0 (by omega)
  obtain ⟨y1, g1⟩ := some_of_lt f1 (by omega)
  obtain ⟨y2, g2⟩ := some_of_lt f2 (by omega)
  obtain ⟨y3, g3⟩ := some_of_lt f3 (by omega)
  obtain ⟨y4, g4⟩ := some_of_lt f4 (by omega)
  obtain ⟨a0, e0, _, _⟩ := DataW.trod_int Tryz.underlying3 g0
  obtain ⟨a1, e1, _, _⟩ := DataW.trod_int Tryz.underlying3 g1
  obtain ⟨nd, h1, h2, h3, h4⟩ := node_of g2
  obtain ⟨a3, e3, _, _⟩ := DataW.trod_string Tryz.underlying9 g3
  obtain ⟨a4, e4, _, _⟩ := DataW.trod_int Tryz.underlying3 g4
  simp at e0 e1 e3 e4
  exact ⟨⟨a0, a1, nd, a3, a4⟩, by subst e0 e1 h1 h2 h3 h4 e3 e4; rfl⟩
theorem acts_of {fuel : Nat} {a0 : Option Addr} {len cap : Nat} {x : DataW H × List MemPlace} (h : DataW.trod enc Tryz.prog w 0 (fun _ => true) held fuel 22 [.slice a0 len cap] = some x) : ∃ A : List Ac, A.length = len ∧ ActsIn w a0 cap A := by
  rcases open_slice Tryz.underlying22 h with ⟨hcs, _⟩ | ⟨a, len', cap', m, n, D, Pl, hcs, _, hl, hm, hmm, _, hel⟩
  · simp at hcs
    obtain ⟨rfl, rfl, rfl⟩ := hcs
    exact ⟨[], rfl, ⟨by simp, by unfold maxLen; omega, fun i x hx => by simp at hx⟩⟩
  · simp at hcs
    obtain ⟨rfl, rfl, rfl⟩ := hcs
    simp only [if_true] at hmm
    have key : ∀ i, i < len → ∃ x : Ac, w.cells? 0 (a.add (i * 8)) 8 = some x.vals := by
      intro i hi
      obtain ⟨cs', h1, h2⟩ := hel i (by omega)
      rw [ce35] at h1
      obtain ⟨x, rfl⟩ := act_of h2
      exact ⟨x, h1⟩
    refine ⟨(List.range len).attach.map fun i => (key i.1 (List.mem_range.1 i.2)).choose, by simp, ⟨by simpa using hl, hm, fun i x hx => ?_⟩⟩
    rw [List.getElem?_map] at hx
    have hi : i < len := by
      by_cases hi : i < len
      · exact hi
      · rw [List.getElem?_eq_none (by simp; omega)] at hx; cases hx
    rw [List.getElem?_eq_getElem (by simpa using hi)] at hx
    simp only [Option.map_some, Option.some.injEq, List.getElem_attach, List.getElem_range] at hx
    have hk := (key i hi).choose_spec
    rw [hx] at hk
    have hlt := World.cells?_block hk (by omega)
    obtain ⟨_, _, hc⟩ := World.cells?_some hk
    obtain ⟨b, o, z, hadd⟩ : ∃ b o z, a.add (i * 8) = (⟨b, o, z⟩ : Addr) := ⟨_, _, _, rfl⟩
    rw [hadd] at hlt hc
    refine ⟨a, b, o, z, rfl, hadd, hlt, (by simpa [Addr.add, Ac.vals] using hc 0 (by omega)), fun j u hj hu => ?_⟩
    have hj8 : j < 8 := by have := (List.getElem?_eq_some_iff.1 hu).1; simpa [Ac.vals] using this
    have := hc j hj8
    rw [hu] at this
    simpa [Addr.add, show j ≠ 0 by omega] using this
end
end Go.Proofs.Tc
