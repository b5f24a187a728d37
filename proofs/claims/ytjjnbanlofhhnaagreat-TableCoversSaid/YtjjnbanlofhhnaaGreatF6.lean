import Derived.Test.YtjjnbanlofhhnaaGreatF5
import Derived.Maps.Own
import Derived.Maps.OwnOps
import Derived.Maps.Views
import Derived.WalkArith
namespace Go.Proofs.Tc
open Go.RowKit Go.Sort Go.Maps
attribute [local go_sem] stepO_0 stepO_1 stepO_2 stepO_3 stepV_0 stepV_1 stepV_2 stepV_3 stepV_5

theorem K9 : Keyed Tryz.prog 9 := string_keyed Tryz.underlying9
theorem zero3 (w : World) : (zeroValue 3).run Tryz.prog w = .ok (.int .i64 0) w := by
  have hI : (Tryz.prog.info? 3).map (·.zero) = some (some (.int .i64 0)) := by kernel_rfl
  cases hi : Tryz.prog.info? 3 with
  | none => rw [hi] at hI; cases hI
  | some j => rw [hi] at hI; simp at hI; simp [zeroValue, typeInfo, hi, hI]
/-- What the map holds where the first k buckets are in it. -/
structure HasSt (W : World) (M : Nat) (l : List Sh) (k : Nat) (D : DataW Unit) : Prop where
  own : W.ownsMap Tryz.prog 9 (plainElem Tryz.prog 3) M k D
  im : IsMap D
  at_ : ∀ (j : Nat) (x : Sh), j < k → l[j]? = some x → D.atKey (.string x.pre.data.toList) (.lit (.int .i64 0)) = .lit (.int .i64 ((x.bits : Int) + 1))
theorem HasSt.ext {W W' : World} {M : Nat} {l : List Sh} {k : Nat} {D : DataW Unit} (h : HasSt W M l k D) (hB : Below W.heap.size W W') : HasSt W' M l k D :=
  ⟨h.own.kept (row := none) ⟨hB.os, hB.tape, hB.output, hB.size, fun i hi _ => hB.block i hi⟩ (by simp), h.im, h.at_⟩
theorem small_max {n : Nat} (h : n ≤ 1000) : n ≤ maxLen := by unfold maxLen; omega
theorem small_lt {n : Nat} (h : n < 1000) : n < maxLen := by unfold maxLen; omega
set_option maxRecDepth 100000 in
theorem HasSt.look {W : World} {M : Nat} {l : List Sh} {D : DataW Unit} (h : HasSt W M l l.length D) {x : Sh} (hx : x ∈ l) (hs : x.pre.size = 20) :
    (Instr.lookup 90 (.map (some M)) (.string x.pre) false).run Tryz.prog W = .ok (.int .i64 ((x.bits : Int) + 1)) W := by
  obtain ⟨j, hj, rfl⟩ := List.mem_iff_getElem.1 hx
  obtain ⟨c, hrun, hat, _⟩ := h.own.lookup_int K9 Tryz.underlying90 Tryz.underlying3 (zero3 W) (WideMaps.keyOf_string_mk (P := Tryz.prog) Tryz.underlying9 (s := l[j].pre) (small_max (by omega)))
  have := h.at_ j l[j] hj (List.getElem?_eq_getElem hj)
  rw [this] at hat
  injection hat with hat
  injection hat with _ hat
  rw [hrun, hat]
set_option maxRecDepth 100000 in
theorem HasSt.next {W : World} {M : Nat} {l : List Sh} {k : Nat} {D : DataW Unit} (h : HasSt W M l k D) {x : Sh} (hx : l[k]? = some x) (hs : x.pre.size = 20) (hk : k < 1000) (hb : x.bits ≤ 160)
    (hd : ∀ (j : Nat) (y : Sh), j < k → l[j]? = some y → y.pre ≠ x.pre) : ∃ W' D', (Instr.mapUpdate 90 (.map (some M)) (.string x.pre) (.int .i64 ((x.bits : Int) + 1))).run Tryz.prog W = .ok () W' ∧ HasSt W' M l (k + 1) D' ∧ W.grownBy W' (some M) := by
  obtain ⟨W', h1, h2, h3⟩ := h.own.update K9 Tryz.underlying90 (small_lt hk) (val := .int .i64 ((x.bits : Int) + 1)) (WideMaps.keyOf_string_mk (P := Tryz.prog) Tryz.underlying9 (s := x.pre) (small_max (by omega))) (plainElem_int (H := Unit) Tryz.underlying3 (a := (x.bits : Int) + 1) (WalkArith.wf_i64 (by omega)))
  refine ⟨W', _, h1, ⟨h2, h.im.put _ _, fun j y hj hy => ?_⟩, h3⟩
  by_cases hjk : j = k
  · subst hjk
    rw [hx] at hy
    injection hy with hy
    subst hy
    exact atKey_put_same (k := .string x.pre.data.toList) h.im (show WideAt.IsKeyLit (.string x.pre.data.toList) from trivial) _ _
  · rw [atKey_put_other (fun e => hd j y (by omega) hy (by injection e with e; exact WideShapes.bytes_inj e))]
    exact h.at_ j y (by omega) hy
def deepF (l : List Sh) (k : Nat) : Nat := (l.take k).foldl (fun d x => Nat.max d x.bits) 0
theorem deepF_succ {l : List Sh} {k : Nat} {x : Sh} (hx : l[k]? = some x) : deepF l (k + 1) = Nat.max (deepF l k) x.bits := by
  obtain ⟨hk, rfl⟩ := List.getElem?_eq_some_iff.1 hx
  unfold deepF
  rw [List.take_succ_eq_append_getElem hk, List.foldl_append]
  rfl
theorem foldl_max (l : List Sh) : ∀ a d : Nat, a ≤ d → (∀ x ∈ l, x.bits ≤ d) → l.foldl (fun d x => Nat.max d x.bits) a ≤ d := by
  induction l with
  | nil => exact fun a d h _ => h
  | cons y l ih =>
    intro a d h1 h2
    rw [List.foldl_cons]
    exact ih _ _ (Nat.max_le.2 ⟨h1, h2 y (by simp)⟩) (fun x hx => h2 x (List.mem_cons_of_mem _ hx))
theorem foldl_max_ge (l : List Sh) : ∀ a : Nat, a ≤ l.foldl (fun d x => Nat.max d x.bits) a ∧ ∀ x ∈ l, x.bits ≤ l.foldl (fun d x => Nat.max d x.bits) a := by
  induction l with
  | nil => exact fun a => ⟨Nat.le_refl _, by simp⟩
  | cons y l ih =>
    intro a
    rw [List.foldl_cons]
    obtain ⟨h1, h2⟩ := ih (Nat.max a y.bits)
    refine ⟨Nat.le_trans (Nat.le_max_left _ _) h1, fun x hx => ?_⟩
    rcases List.mem_cons.1 hx with rfl | hx
    · exact Nat.le_trans (Nat.le_max_right _ _) h1
    · exact h2 x hx
theorem deep_chain {l : List Sh} {own : ByteArray} {d : Nat} (h : l.map (fun x => (x.pre, x.bits)) = chainF own d) : deepF l l.length = d ∧ l.length = d + 1 := by
  have hl : l.length = d + 1 := by have := congrArg List.length h; rw [List.length_map, chainF_length] at this; exact this
  refine ⟨?_, hl⟩
  unfold deepF
  rw [List.take_length]
  have hm : ∀ x ∈ l, x.bits ≤ d := fun x hx => by
    have : (x.pre, x.bits) ∈ chainF own d := by rw [← h]; exact List.mem_map.2 ⟨x, hx, rfl⟩
    rcases mem_chain.1 this with h1 | ⟨k, hk, h1⟩
    · injection h1 with _ h1; omega
    · injection h1 with _ h1; omega
  have hmem : (prefixF own d, d) ∈ l.map (fun x => (x.pre, x.bits)) := by rw [h]; exact mem_chain.2 (.inl rfl)
  obtain ⟨x, hx, hxe⟩ := List.mem_map.1 hmem
  injection hxe with _ hb
  exact Nat.le_antisymm (foldl_max l 0 d (Nat.zero_le _) hm) (hb ▸ (foldl_max_ge l 0).2 x hx)
set_option maxRecDepth 100000 in
set_option maxHeartbeats 2000000 in
theorem covers_calls (w : World) (v : Value) (l : List Sh) (own : ByteArray) (hown : own.size = 20) (d : Nat) (hd : d ≤ 160) (hch : l.map (fun x => (x.pre, x.bits)) = chainF own d) (ho : Own w 46 4 v l.length (shs l))
    (hsl : ∀ x ∈ l, (∃ a n c, x.ve = .slice a n c) ∧ (∃ a n c, x.vs = .slice a n c)) :
    Calls Tryz.prog 13 #[.string own, v] w (Ret w (.bool true)) := by
  obtain ⟨hdeep, hlen⟩ := deep_chain hch
  have hpos : 0 < l.length := by omega
  obtain ⟨g, cap, rfl, hle, hcm, hfp, hrow⟩ := ho.row hpos
  have hgood : ∀ x ∈ l, x.pre.size = 20 ∧ x.bits ≤ 160 := fun x hx => by
    have : (x.pre, x.bits) ∈ chainF own d := by rw [← hch]; exact List.mem_map.2 ⟨x, hx, rfl⟩
    obtain ⟨h1, h2⟩ := chain_good hd this
    exact ⟨h1, Nat.le_trans h2 hd⟩
  have hne : ∀ (j k : Nat) (y x : Sh), j < k → l[j]? = some y → l[k]? = some x → y.pre ≠ x.pre := by
    intro j k y x hjk hj hk
    have hp := chain_pair (own := own) hd
    rw [← hch, List.pairwise_iff_getElem] at hp
    obtain ⟨hj1, rfl⟩ := List.getElem?_eq_some_iff.1 hj
    obtain ⟨hk1, rfl⟩ := List.getElem?_eq_some_iff.1 hk
    have := hp j k (by simpa using hj1) (by simpa using hk1) hjk
    simp at this
    exact bitlt_ne this
  have hlg : g < w.heap.size := hrow.lt
  have HO := Lib.hid ho
  have HG := Lib.hid hgood
  have HNE := Lib.hid hne
  have HCH := Lib.hid hch
  have HSL := Lib.hid hsl
  have HDP := Lib.hid hdeep
  obtain ⟨n, hn⟩ : ∃ n, l.length = n := ⟨_, rfl⟩
  rw [hn] at HO HDP hlen hpos ⊢
  have HN := Lib.hid hn
  have HLEN := Lib.hid hlen
  clear ho hgood hne hch hsl hdeep hle hcm hfp hrow hn
  have hmk : ∀ W, (Instr.makeMap 90 none).run Tryz.prog W = .ok (.map (some W.heap.size)) (W.alloc (.map #[] 0)) := fun _ => rfl
  go_enter Tryz.func13, Tryz.ntmps13
  go_wp2_with fail
  have hst0 : HasSt (w.alloc (.map #[] 0)) w.heap.size l 0 (.map []) := ⟨World.ownsMap_made w _ _ _, isMap_empty, fun j x hj => by omega⟩
  have HST0 := Lib.hid hst0
  have HB0 := Lib.hid (below_new (Below.refl _ w) (.map #[] 0))
  clear hst0
  go_loopw [6, 13] (fun dv i wr => ∃ (k : Nat) (D : DataW Unit), k ≤ n ∧ i = .int .i64 k ∧ dv = .int .i64 (deepF l k : Nat) ∧ Hid (HasSt wr w.heap.size l k D) ∧ Hid (Below w.heap.size w wr)) (fun _ i _ => n - (intOf i).toNat)
  case atStart => exact ⟨0, _, by omega, rfl, rfl, HST0.out, HB0.out⟩
  case round =>
    obtain ⟨k, D, hk, rfl, rfl, HST, HBK⟩ := hrel
    by_cases hlt : k < n
    · obtain ⟨x, hx⟩ : ∃ x, l[k]? = some x := ⟨l[k]'(by rw [HN.out]; exact hlt), List.getElem?_eq_getElem (by rw [HN.out]; exact hlt)⟩
      have hxm := List.mem_of_getElem? hx
      obtain ⟨hp20, hb160⟩ := HG.out x hxm
      obtain ⟨⟨a1, m1, p1, hv1⟩, ⟨a2, m2, p2, hv2⟩⟩ := HSL.out x hxm
      have hOr := HO.out.below HBK.out (by simp [fpv]; exact hlg)
      have hcg : ∀ j, j < 4 → ∀ u, x.vals[j]? = some u → wr.cell? ⟨g, k * 4 + j, none⟩ = some u := fun j hj u hu => hOr.cell rfl (by rw [shs_get hx hj]; exact hu)
      have g0 := hcg 0 (by omega) _ rfl
      have g1 := hcg 1 (by omega) _ rfl
      have g2 := hcg 2 (by omega) _ rfl
      have g3 := hcg 3 (by omega) _ rfl
      rw [hv1] at g2
      rw [hv2] at g3
      simp only [Nat.add_zero] at g0
      obtain ⟨wa, hwa⟩ : ∃ wa, wr.alloc (.cells #[.string x.pre, .int .i64 x.bits, .slice a1 m1 p1, .slice a2 m2 p2] 46) = wa := ⟨_, rfl⟩
      have hBa : Below wr.heap.size wr wa := by rw [← hwa]; exact below_new (Below.refl _ _) _
      obtain ⟨W2, D2, hr2, hst2, hg2⟩ := (HST.out.ext hBa).next hx hp20 (by omega) hb160 (fun j y hj hy => HNE.out j k y x hj hy hx)
      have hba : wa.heap[wr.heap.size]? = some (.cells #[.string x.pre, .int .i64 x.bits, .slice a1 m1 p1, .slice a2 m2 p2] 46 (0, 0)) := by rw [← hwa]; exact heap_alloc_new wr _
      have hMr : w.heap.size < wr.heap.size := HST.out.own.lt
      have hb2 := (hg2.block wr.heap.size (Array.getElem?_eq_some_iff.1 hba).1 (fun e => by injection e with e; omega)).trans hba
      obtain ⟨x0, x1, x2, x3⟩ := cells4 hba
      obtain ⟨y0, y1, y2, y3⟩ := cells4 hb2
      have hdl : deepF l k ≤ 160 := foldl_max _ 0 160 (by omega) (fun y hy => (HG.out y (List.mem_of_mem_take hy)).2)
      have hB2 : Below w.heap.size w W2 := (HBK.out.trans (hBa.mono (by omega))).trans ⟨hg2.os, hg2.tape, hg2.output, hg2.size, fun i hi => hg2.block i (by have := hBa.size; omega) (fun e => by injection e with e; omega)⟩
      have HDS := Lib.hid (deepF_succ hx)
      have HST2 := Lib.hid hst2
      have HB2 := Lib.hid hB2
      rw [← hwa] at hr2
      clear hx hxm hp20 hOr hcg hBa hst2 hg2 hba hb2 hB2 hwa hv1 hv2 x0 x1 x2 x3
      go_wp2_with fail
      go_roundw
      case rel => exact ⟨k + 1, D2, by omega, by go_num, by rw [HDS.out]; congr 1; show _ = ((max (deepF l k) x.bits : Nat) : Int); split <;> omega, HST2.out, HB2.out⟩
      case measure => simp [intOf]; omega
    · obtain rfl : k = n := by omega
      have hD : deepF l k = d := HDP.out
      rw [hD]
      have hnd : ((k : Int) != (d : Int) + 1) = false := by have := HLEN.out; simp; omega
      have hstl := HST.out
      rw [← HN.out] at hstl
      have hpm : (prefixF own d, d) ∈ l.map (fun x => (x.pre, x.bits)) := by rw [HCH.out]; exact mem_chain.2 (.inl rfl)
      obtain ⟨xo, hxo, hxe⟩ := List.mem_map.1 hpm
      injection hxe with hxp hxb
      have hpo := fun (W : World) hW => (HasSt.ext (W' := W) hstl hW).look hxo (HG.out xo hxo).1
      rw [hxp, hxb] at hpo
      have HPO := Lib.hid hpo
      have HSTL := Lib.hid hstl
      have hlk : w.heap.size < wr.heap.size := hstl.own.lt
      clear hD hstl hpm hxo hxp hxb hpo
      go_wp2_with fail
      refine (prefix_calls _ _ _ hown hd).mono ?_
      rintro e2 w2 ⟨rfl, hb2⟩
      have hl2 := HPO.out w2 hb2
      have HB2 := Lib.hid hb2
      clear hb2
      go_wp2_with fail
      go_loopw [44] (fun i wr2 => ∃ j : Nat, j ≤ d ∧ i = .int .i64 j ∧ Hid (Below wr.heap.size wr wr2)) (fun i _ => d - (intOf i).toNat)
      case atStart => exact ⟨0, by omega, rfl, HB2.out⟩
      case round =>
        obtain ⟨j, hj, rfl, HBJ⟩ := hrel
        by_cases hjl : j < d
        · have hpm : (sibF own j, j + 1) ∈ l.map (fun x => (x.pre, x.bits)) := by rw [HCH.out]; exact mem_chain.2 (.inr ⟨j, hjl, rfl⟩)
          obtain ⟨xo, hxo, hxe⟩ := List.mem_map.1 hpm
          injection hxe with hxp hxb
          have hpo := fun (W : World) hW => (HasSt.ext (W' := W) HSTL.out hW).look hxo (HG.out xo hxo).1
          rw [hxp, hxb] at hpo
          have hpc := prefix_calls wr own (j + 1) hown (by omega)
          rw [show ((j + 1 : Nat) : Int) = (j : Int) + 1 by omega] at hpc
          have HPO2 := Lib.hid hpo
          have HPC := Lib.hid hpc
          clear hpm hxo hxp hxb hpo hpc
          go_wp2_with fail
          refine HPC.out.mono ?_
          rintro e3 w3 ⟨rfl, hb3⟩
          go_wp2_with fail
          refine (flip_calls w3 (prefixF own (j + 1)) j (prefixF_size _ _) (by omega)).mono ?_
          rintro e4 w4 ⟨rfl, hb4⟩
          have hB4 := below_ext (below_ext HBJ.out hb3) hb4
          have hl4 := HPO2.out w4 hB4
          unfold sibF at hl4
          have h2 : ((((j + 1 : Nat) : Int) + 1) != (j : Int) + 2) = false := by simp; omega
          have HB4 := Lib.hid hB4
          clear hb3 hb4 hB4
          go_wp2_with fail
          go_roundw
          case rel => exact ⟨j + 1, by omega, by go_num, HB4.out⟩
          case measure => simp [intOf]; omega
        · obtain rfl : j = d := by omega
          go_wp2
          go_ret
          exact ⟨rfl, HBK.out.trans (HBJ.out.mono (by omega))⟩
end Go.Proofs.Tc
