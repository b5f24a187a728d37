import Derived.Test.YtjjnbanlofhhnaaGreatE4
namespace Go.Proofs.Tc
open Go.RowKit Go.Sort
attribute [local go_sem] stepO_0 stepO_1 stepO_2 stepO_3 stepV_0 stepV_1 stepV_2 stepV_3 stepV_5

theorem pl_of_map {l : List Pl} {i : Nat} {k : Bk} (h : (l.map (·.k))[i]? = some k) : ∃ x, l[i]? = some x ∧ x.k = k := by
  rw [List.getElem?_map] at h
  cases hx : l[i]? with
  | none => rw [hx] at h; cases h
  | some x => rw [hx] at h; simp at h; exact ⟨x, rfl, h⟩
theorem TbIn.drew {w : World} {t : Nat} {own : ByteArray} {now : Int} {lab : Nat → Option Nat} {m : Nat} {v : Bool → Value} {L : Bool → List Pl} (h : TbIn w t own now lab m v L) : TbIn w.drew t own now lab m v L := h.ext (Below.refl _ w).drew
theorem TbIn.alloc {w : World} {t : Nat} {own : ByteArray} {now : Int} {lab : Nat → Option Nat} {m : Nat} {v : Bool → Value} {L : Bool → List Pl} (h : TbIn w t own now lab m v L) (o : Obj) : TbIn (w.alloc o) t own now lab m v L := h.ext (below_new (Below.refl _ w) o)
/-- A table of which one bucket has turned, by its family's list. -/
theorem TbIn.turn' {w w' : World} {t : Nat} {own : ByteArray} {now : Int} {lab : Nat → Option Nat} {m : Nat} {v : Bool → Value} {L : Bool → List Pl} (h : TbIn w t own now lab m v L) {b : Bool} {i : Nat} {x : Pl} (hx : (L b)[i]? = some x) {k' : Bk} (hT : BkTurn w x.a x.S k' w') :
    ∃ lab' L', TbIn w' t own now lab' m v L' ∧ (∀ c, (L' c).map (·.k) = if c = b then ((L b).map (·.k)).set i k' else (L c).map (·.k)) ∧ (∀ g, g < w.heap.size → lab g = none → lab' g = none) ∧ KeepL lab w w' := by
  obtain ⟨lab', S', h1, h2, h3⟩ := h.turn hx hT
  refine ⟨lab', _, h1, fun c => ?_, fun g hg hl => (h2 g hg).trans hl, h3⟩
  by_cases hc : c = b
  · rw [if_pos hc, if_pos hc, List.map_set]
  · rw [if_neg hc, if_neg hc]
theorem touch_res {w W W5 : World} {t : Nat} {own : ByteArray} {now : Int} {lab : Nat → Option Nat} {m : Nat} {L : Bool → List Pl} {b : Bool} {l1 : List Bk} {id : ByteArray} {lab1 : Nat → Option Nat} {v1 : Bool → Value} {L1 : Bool → List Pl} (hT1 : TbIn W t own now lab1 m v1 L1)
    (hL1 : ∀ c, (L1 c).map (·.k) = if c = b then l1 else (L c).map (·.k)) (hl1 : ∀ g, g < w.heap.size → lab g = none → lab1 g = none) (hK1 : KeepL lab w W) (hb5 : Below W.heap.size W W5) {j : Nat} {y : Pl} (hoj : ofF l1 id = some j) (hy : (L1 b)[j]? = some y) {v : Value} (hv : v = .bool true)
    {r : Bool × List Bk} (hr : r = (true, touchF now l1 id)) : PlaceRes w t own now lab m L b r (.returned v) (W5.setCell ⟨y.a, 4, none⟩ (.int .i64 now)) := by
  subst hr hv
  have hT5 := hT1.ext hb5
  have hturn : BkTurn W5 y.a y.S { y.k with ch := now } (W5.setCell ⟨y.a, 4, none⟩ (.int .i64 now)) := by
    obtain ⟨ve, vs, hh, hve, hvs, hS, hnd⟩ := hT5.hk b y (List.mem_of_getElem? hy)
    rw [hS] at hnd ⊢
    have hn := (List.nodup_cons.1 hnd).1
    exact BkTurn.make (k' := { y.k with ch := now }) (set_c _ hh) (hve.setO _ (fun h => hn (by simp [h]))) (hvs.setO _ (fun h => hn (by simp [h]))) (fun g hg => .inl (by simpa using hg)) hnd ((Keeps.refl _ _).setCell _ (.inl (by simp)))
  obtain ⟨lab5, L5, hT6, hm6, hl6, hK6⟩ := hT5.turn' hy hturn
  have hlb : (L1 b).map (·.k) = l1 := by have := hL1 b; rwa [if_pos rfl] at this
  refine ⟨rfl, lab5, v1, L5, hT6, fun c => ?_, fun g hg hl => ?_, by simp, ?_⟩
  · rw [hm6 c]
    by_cases hc : c = b
    · rw [if_pos hc, if_pos hc, hlb]
      show _ = touchF now l1 id
      unfold touchF
      rw [hoj]
      have : l1[j]? = some y.k := by rw [← hlb]; simp [hy]
      simp only [modify_set _ this]
    · rw [if_neg hc, if_neg hc, hL1 c, if_neg hc]
  · exact hl6 g (by have := hK1.size; have := hb5.size; omega) (hl1 g hg hl)
  · exact hK1.trans' hl1 ((KeepL.of_below hb5).trans' (fun _ _ h => h) hK6)
theorem no_res {w W : World} {t : Nat} {own : ByteArray} {now : Int} {lab : Nat → Option Nat} {m : Nat} {L : Bool → List Pl} {b : Bool} {l1 : List Bk} {lab1 : Nat → Option Nat} {v1 : Bool → Value} {L1 : Bool → List Pl} (hT1 : TbIn W t own now lab1 m v1 L1)
    (hL1 : ∀ c, (L1 c).map (·.k) = if c = b then l1 else (L c).map (·.k)) (hl1 : ∀ g, g < w.heap.size → lab g = none → lab1 g = none) (hK1 : KeepL lab w W) {v : Value} (hv : v = .bool false)
    {r : Bool × List Bk} (hr : r = (false, l1)) : PlaceRes w t own now lab m L b r (.returned v) W := by
  subst hr hv
  exact ⟨rfl, lab1, v1, L1, hT1, hL1, hl1, by simp, hK1⟩
/-- One step of place, by what the four ways answer. -/
def stepR (own : ByteArray) (now : Int) (fuel : Nat) (l : List Bk) (i : Nat) (k : Bk) (e : Ent) : Bool × List Bk := match way1F k e with
    | some k' => (true, touchF now (l.set i k') e.nd.id)
    | none => match way2F k e with
      | some k' => (true, touchF now (l.set i k') e.nd.id)
      | none => match way3F own now fuel l i k e with
        | some (true, l') => (true, touchF now l' e.nd.id)
        | some (false, l') => match way4F k e with
          | some _ => (true, touchF now l' e.nd.id)
          | none => (false, l')
        | none => match way4F k e with
          | some k' => (true, touchF now (l.set i k') e.nd.id)
          | none => (false, l)
set_option maxRecDepth 100000 in
set_option maxHeartbeats 2000000 in
theorem place_step (fuel : Nat) (hp : PlaceOk fuel) : PlaceOk (fuel + 1) := by
  intro w t own now lab m v L h hown b N hF hN d hd hm hfu e he hfam hfl
  obtain ⟨i, k, ho, hk, hh, hmem⟩ := hF.of e.nd.id
  obtain ⟨x, hx, hxk⟩ := pl_of_map hk
  subst hxk
  have hxm : x ∈ L b := List.mem_of_getElem? hx
  have hBI := hF.bk x.k hmem
  have hEOk : EOk b N x.k e := ⟨he, hfam, hh, hfl, hN⟩
  have hgood : ∀ u ∈ L b, GoodBk u.k := fun u hu => hF.good u.k (List.mem_map.2 ⟨u, hu, rfl⟩)
  have hw3 : ∀ W, Below w.heap.size w W → _ := fun W hB => way3_calls fuel hp W t own now lab m v L (h.ext hB) hown b N hF hN d hd hm hfu e he hfam hfl i x hx
  have hpf : placeF own now (fuel + 1) ((L b).map (·.k)) e = stepR own now fuel ((L b).map (·.k)) i x.k e := by
    conv => lhs; unfold placeF
    simp only [ho, hk]
    unfold stepR
    cases h1 : way1F x.k e with
    | some k' => rfl
    | none =>
      cases h2 : way2F x.k e with
      | some k' => rfl
      | none =>
        unfold way3F
        by_cases hc : holdsB x.k.pre x.k.bits own = true ∧ x.k.bits ≠ 160
        · simp only [if_pos hc]
          generalize placeF own now fuel _ e = q
          obtain ⟨bb, l'⟩ := q
          cases bb
          · cases way4F x.k e <;> rfl
          · rfl
        · simp only [if_neg hc]
          cases way4F x.k e <;> rfl
  have hFp : ∀ r, way3F own now fuel ((L b).map (·.k)) i x.k e = some r → FInv own b N r.2 := by
    intro r hr
    unfold way3F at hr
    split at hr
    · rename_i hc
      injection hr with hr
      rw [← hr]
      exact FInv.place he hfam hfl hN fuel (hF.split hk hc.1 hc.2).1
    · cases hr
  obtain ⟨⟨id, fam, ip, port⟩, kd, an, ak, fl⟩ := e
  simp only at he hfam hfl ho hk hh
  subst hfam hfl
  rw [hpf]
  obtain ⟨e', he'⟩ : ∃ e', e' = (⟨⟨id, famN b, ip, port⟩, kd, an, ak, 0⟩ : Ent) := ⟨_, rfl⟩
  have hev : entV e' = .agg #[.string id, .int .i64 (famN b), .string ip, .int .i64 port, .int .i64 kd, .int .i64 an, .int .i64 ak, .int .i64 0] := by rw [he']; rfl
  have hid' : e'.nd.id = id := by rw [he']
  rw [← he'] at hw3 hEOk hFp hpf ⊢
  have HT := Lib.hid h
  have HW3 := Lib.hid hw3
  have HF := Lib.hid hF
  have HX := Lib.hid hx
  have HXM := Lib.hid hxm
  have HK := Lib.hid hk
  have HBI := Lib.hid hBI
  have HEO := Lib.hid hEOk
  have HGD := Lib.hid hgood
  have HO := Lib.hid ho
  have HE := Lib.hid he
  have HFP := Lib.hid hFp
  have HEV := Lib.hid hev
  have HID := Lib.hid hid'
  have l1 : x.a < w.heap.size := h.lt _ _ (h.lk b x hxm x.a (by simp))
  have l2 : t < w.heap.size := h.lt _ _ h.l0
  clear h hw3 hF hx hxm hk hBI hEOk hgood ho hp hm hmem hown hpf he he' hFp hev hid' hfu hd
  rw [HEV.out]
  go_enter Tryz.func31, Tryz.ntmps31
  go_wp2_with fail
  have hbx0 := heap_alloc_new w (.cells #[.string id, .int .i64 (famN b), .string ip, .int .i64 port, .int .i64 kd, .int .i64 an, .int .i64 ak, .int .i64 0] 60)
  refine (of_calls _ t own now lab m v L (HT.out.alloc _) b id HE.out HGD.out i HO.out x HX.out).mono ?_
  rintro e1 w1 ⟨rfl, hb1⟩
  have hB1 : Below w.heap.size w w1 := (below_new (Below.refl _ w) _).trans (hb1.mono (by simp))
  have hbx1 := (hb1.block w.heap.size (by simp)).trans hbx0
  have HB1 := Lib.hid hB1
  have HBX1 := Lib.hid hbx1
  clear hb1 hB1 hbx0 hbx1
  go_wp2_with fail
  refine (ways_calls _).mono ?_
  rintro e2 w2 ⟨rfl, hb2⟩
  have hB2 : Below w.heap.size w w2 := below_ext HB1.out hb2
  have hbx2 := (hb2.block _ (Array.getElem?_eq_some_iff.1 HBX1.out).1).trans HBX1.out
  have HB2 := Lib.hid hB2
  have HBX2 := Lib.hid hbx2
  obtain ⟨f0, f1, f2, f3, f4, f5, f6, f7⟩ := cells8 hbx2
  clear hb2 hB2 hbx2
  rw [show wayV = .agg #[.func (.func 99) #[] #[], .func (.func 100) #[] #[], .func (.func 101) #[] #[], .func (.func 103) #[] #[]] from rfl]
  have ix0 : ∀ W, (Instr.index 117 (.agg #[.func (.func 99) #[] #[], .func (.func 100) #[] #[], .func (.func 101) #[] #[], .func (.func 103) #[] #[]]) (.int .i64 0)).run Tryz.prog W = .ok (.func (.func 99) #[] #[]) W := fun W => by show _ = _; kernel_rfl
  have ix1 : ∀ W, (Instr.index 117 (.agg #[.func (.func 99) #[] #[], .func (.func 100) #[] #[], .func (.func 101) #[] #[], .func (.func 103) #[] #[]]) (.int .i64 1)).run Tryz.prog W = .ok (.func (.func 100) #[] #[]) W := fun W => by show _ = _; kernel_rfl
  have ix2 : ∀ W, (Instr.index 117 (.agg #[.func (.func 99) #[] #[], .func (.func 100) #[] #[], .func (.func 101) #[] #[], .func (.func 103) #[] #[]]) (.int .i64 2)).run Tryz.prog W = .ok (.func (.func 101) #[] #[]) W := fun W => by show _ = _; kernel_rfl
  have ix3 : ∀ W, (Instr.index 117 (.agg #[.func (.func 99) #[] #[], .func (.func 100) #[] #[], .func (.func 101) #[] #[], .func (.func 103) #[] #[]]) (.int .i64 3)).run Tryz.prog W = .ok (.func (.func 103) #[] #[]) W := fun W => by show _ = _; kernel_rfl
  go_wp2_with fail
  refine wp_loop_rounds 5 ?_
  have HT2 := Lib.hid (HT.out.ext HB2.out)
  have hln : lab w.heap.size = none := by
    cases hl : lab w.heap.size with
    | none => rfl
    | some j => have := HT.out.lt _ _ hl; omega
  have HLN := Lib.hid hln
  clear hln
  rw [rounds_succ]
  go_wp2_with fail
  have hc1 := way1_calls w2 t x.a x.k x.S e' (HT2.out.hk b x HXM.out)
  rw [HEV.out] at hc1
  refine hc1.mono ?_
  clear hc1 f0 f1 f2 f3 f4 f5 f6 f7
  cases hw1 : way1F x.k e' with
  | some k1 =>
    rintro e3 w3 ⟨rfl, hT3⟩
    obtain ⟨lab3, L3, hT3, hm3, hl3, hK3⟩ := HT2.out.turn' HX.out hT3
    have hbx3 := (hK3.block _ (Array.getElem?_eq_some_iff.1 HBX2.out).1 HLN.out).trans HBX2.out
    have hl3' : ∀ g, g < w.heap.size → lab g = none → lab3 g = none := fun g hg h => hl3 g (by have := HB2.out.size; omega) h
    have hK3' : KeepL lab w w3 := (KeepL.of_below HB2.out).trans' (fun _ _ h => h) hK3
    obtain ⟨q1, q2, q3⟩ := HBI.out.way1 HEO.out hw1
    have HW1 := Lib.hid hw1
    clear hw1
    have hF3 := HF.out.set HK.out q2 q3 q1
    have HL3 := Lib.hid hl3'
    have HK3 := Lib.hid hK3'
    clear hl3 hl3' hK3 hK3' q1 q2 q3
    obtain ⟨j, kj, hoj, hkj, hhj, hmj⟩ := hF3.of id
    have hLb := hm3 b
    rw [if_pos rfl] at hLb
    rw [← hLb] at hkj hoj
    obtain ⟨y, hy, -⟩ := pl_of_map hkj
    have hof := of_calls w3.drew t own now _ m _ _ hT3.drew b id HE.out (by intro u hu; exact hF3.good u.k (by rw [← hLb]; exact List.mem_map.2 ⟨u, hu, rfl⟩)) j hoj y hy
    rw [hLb] at hoj
    obtain ⟨_, _, hhy, _⟩ := hT3.hk b y (List.mem_of_getElem? hy)
    obtain ⟨f0, f1, f2, f3, f4, f5, f6, f7⟩ := cells8 hbx3
    obtain ⟨t0, t1, t2⟩ := cells3 hT3.hh
    have HHY := Lib.hid hhy
    have HOF := Lib.hid hof
    have HTT := Lib.hid hT3
    have HLL := Lib.hid hm3
    have HOJ := Lib.hid hoj
    have HY := Lib.hid hy
    clear hof hhy hoj hy hkj hLb hmj hhj
    go_wp2_with fail
    refine wp_region_ord [(0,0),(1,0),(2,0),(3,1),(4,0),(5,0),(6,0),(7,1),(9,0),(10,0),(11,0),(12,1),(8,2),(13,0),(14,0),(15,3)] (by kernel_rfl) (by kernel_rfl) ?_
    simp only [pickO, List.map_cons, List.map_nil, List.getD_cons_zero, List.getD_cons_succ]
    repeat (first | ((with_reducible refine wpO_skip ?_ ?_); rfl; simp only [Act.put, List.setIfInBounds_toArray, List.set_cons_zero, List.set_cons_succ]) | ((with_reducible refine wpO_step (fun K hK => ?_)); go_simp; (try go_bits); (first | (with_reducible refine hK _ _ ?_) | (simp only [IntWalk.iteOmega]; go_simp; (try go_bits); (with_reducible refine hK _ _ ?_))); clear hK K))
    (with_reducible refine wpO_step (fun K hK => ?_)); go_simp; (try go_bits)
    refine HOF.out.mono ?_; rintro e9 w9 ⟨rfl, hb9⟩
    refine ⟨hb9, ?_⟩
    (with_reducible refine hK _ _ ?_); clear hK K
    have hh9 := (hb9.block y.a (Array.getElem?_eq_some_iff.1 HHY.out).1).trans HHY.out
    obtain ⟨y0, y1, y2, y3, y4⟩ := cells5 hh9
    have u4 := unfrozen0 hh9 4
    have HB9 := Lib.hid (show Below w3.heap.size w3 w9 from (Below.refl _ w3).drew.trans hb9)
    clear hh9 hb9 t0 t1 t2
    repeat (first | ((with_reducible refine wpO_skip ?_ ?_); rfl; simp only [Act.put, List.setIfInBounds_toArray, List.set_cons_zero, List.set_cons_succ]) | ((with_reducible refine wpO_step (fun K hK => ?_)); go_simp; (try go_bits); (first | (with_reducible refine hK _ _ ?_) | (simp only [IntWalk.iteOmega]; go_simp; (try go_bits); (with_reducible refine hK _ _ ?_))); clear hK K))
    (with_reducible refine wpO_nil ?_)
    go_wp2
    go_ret
    exact touch_res HTT.out HLL.out HL3.out HK3.out HB9.out HOJ.out HY.out rfl (by unfold stepR; simp only [HW1.out, HID.out])
  | none =>
    have HW1 := Lib.hid hw1
    clear hw1
    rintro e3 w3 ⟨rfl, hb3⟩
    have HB3 := Lib.hid (below_ext HB2.out hb3)
    have HBX3 := Lib.hid ((hb3.block _ (Array.getElem?_eq_some_iff.1 HBX2.out).1).trans HBX2.out)
    have HT3 := Lib.hid (HT.out.ext HB3.out)
    clear hb3
    obtain ⟨f0, f1, f2, f3, f4, f5, f6, f7⟩ := cells8 HBX3.out
    go_wp2_with fail
    rw [rounds_succ]
    go_wp2_with fail
    have hc1 := way2_calls w3 t x.a now x.k x.S e' (cells3 HT3.out.hh).2.1 (fun hm => by have h1 := HT.out.lk b x HXM.out t hm; rw [HT.out.l0] at h1; injection h1 with h1; omega) (HT3.out.hk b x HXM.out) (by have := HBI.out.he; omega)
    rw [HEV.out] at hc1
    refine hc1.mono ?_
    clear hc1 f0 f1 f2 f3 f4 f5 f6 f7
    cases hw2 : way2F x.k e' with
    | some k1 =>
      rintro e4 w4 ⟨rfl, hT4⟩
      obtain ⟨lab4, L4, hT4, hm4, hl4, hK4⟩ := HT3.out.turn' HX.out hT4
      have hbx4 := (hK4.block _ (Array.getElem?_eq_some_iff.1 HBX3.out).1 HLN.out).trans HBX3.out
      have hl4' : ∀ g, g < w.heap.size → lab g = none → lab4 g = none := fun g hg h => hl4 g (by have := HB3.out.size; omega) h
      have hK4' : KeepL lab w w4 := (KeepL.of_below HB3.out).trans' (fun _ _ h => h) hK4
      obtain ⟨q1, q2, q3⟩ := HBI.out.way2 HEO.out hw2
      have HW2 := Lib.hid hw2
      clear hw2
      have hF4 := HF.out.set HK.out q2 q3 q1
      have HL4 := Lib.hid hl4'
      have HK4 := Lib.hid hK4'
      clear hl4 hl4' hK4 hK4' q1 q2 q3
      obtain ⟨j, kj, hoj, hkj, hhj, hmj⟩ := hF4.of id
      have hLb := hm4 b
      rw [if_pos rfl] at hLb
      rw [← hLb] at hkj hoj
      obtain ⟨y, hy, -⟩ := pl_of_map hkj
      have hof := of_calls w4.drew t own now _ m _ _ hT4.drew b id HE.out (by intro u hu; exact hF4.good u.k (by rw [← hLb]; exact List.mem_map.2 ⟨u, hu, rfl⟩)) j hoj y hy
      rw [hLb] at hoj
      obtain ⟨_, _, hhy, _⟩ := hT4.hk b y (List.mem_of_getElem? hy)
      obtain ⟨f0, f1, f2, f3, f4, f5, f6, f7⟩ := cells8 hbx4
      obtain ⟨t0, t1, t2⟩ := cells3 hT4.hh
      have HHY := Lib.hid hhy
      have HOF := Lib.hid hof
      have HTT := Lib.hid hT4
      have HLL := Lib.hid hm4
      have HOJ := Lib.hid hoj
      have HY := Lib.hid hy
      clear hof hhy hoj hy hkj hLb hmj hhj
      go_wp2_with fail
      refine wp_region_ord [(0,0),(1,0),(2,0),(3,1),(4,0),(5,0),(6,0),(7,1),(9,0),(10,0),(11,0),(12,1),(8,2),(13,0),(14,0),(15,3)] (by kernel_rfl) (by kernel_rfl) ?_
      simp only [pickO, List.map_cons, List.map_nil, List.getD_cons_zero, List.getD_cons_succ]
      repeat (first | ((with_reducible refine wpO_skip ?_ ?_); rfl; simp only [Act.put, List.setIfInBounds_toArray, List.set_cons_zero, List.set_cons_succ]) | ((with_reducible refine wpO_step (fun K hK => ?_)); go_simp; (try go_bits); (first | (with_reducible refine hK _ _ ?_) | (simp only [IntWalk.iteOmega]; go_simp; (try go_bits); (with_reducible refine hK _ _ ?_))); clear hK K))
      (with_reducible refine wpO_step (fun K hK => ?_)); go_simp; (try go_bits)
      refine HOF.out.mono ?_; rintro e9 w9 ⟨rfl, hb9⟩
      refine ⟨hb9, ?_⟩
      (with_reducible refine hK _ _ ?_); clear hK K
      have hh9 := (hb9.block y.a (Array.getElem?_eq_some_iff.1 HHY.out).1).trans HHY.out
      obtain ⟨y0, y1, y2, y3, y4⟩ := cells5 hh9
      have u4 := unfrozen0 hh9 4
      have HB9 := Lib.hid (show Below w4.heap.size w4 w9 from (Below.refl _ w4).drew.trans hb9)
      clear hh9 hb9 t0 t1 t2
      repeat (first | ((with_reducible refine wpO_skip ?_ ?_); rfl; simp only [Act.put, List.setIfInBounds_toArray, List.set_cons_zero, List.set_cons_succ]) | ((with_reducible refine wpO_step (fun K hK => ?_)); go_simp; (try go_bits); (first | (with_reducible refine hK _ _ ?_) | (simp only [IntWalk.iteOmega]; go_simp; (try go_bits); (with_reducible refine hK _ _ ?_))); clear hK K))
      (with_reducible refine wpO_nil ?_)
      go_wp2
      go_ret
      exact touch_res HTT.out HLL.out HL4.out HK4.out HB9.out HOJ.out HY.out rfl (by unfold stepR; simp only [HW1.out, HW2.out, HID.out])
    | none =>
      rintro e4 w4 ⟨rfl, hb4⟩
      have HW2 := Lib.hid hw2
      clear hw2
      have HB4 := Lib.hid (below_ext HB3.out hb4)
      have HBX4 := Lib.hid ((hb4.block _ (Array.getElem?_eq_some_iff.1 HBX3.out).1).trans HBX3.out)
      have HT4 := Lib.hid (HT.out.ext HB4.out)
      clear hb4
      obtain ⟨f0, f1, f2, f3, f4, f5, f6, f7⟩ := cells8 HBX4.out
      go_wp2_with fail
      rw [rounds_succ]
      go_wp2_with fail
      have hc1 := HW3.out w4 HB4.out
      rw [HEV.out] at hc1
      refine hc1.mono ?_
      clear hc1 f0 f1 f2 f3 f4 f5 f6 f7
      cases hw3 : way3F own now fuel ((L b).map (·.k)) i x.k e' with
      | some r =>
        rintro e5 w5 ⟨rfl, ⟨lab5, v5, L5, hT5, hm5, hl5, hX5, hK5⟩, hB5⟩
        have hF5 := HFP.out r hw3
        have hbx5 := (hK5.block _ (Array.getElem?_eq_some_iff.1 HBX4.out).1 HLN.out).trans HBX4.out
        have HL5 := Lib.hid (show ∀ g, g < w.heap.size → lab g = none → lab5 g = none from fun g hg h => hl5 g (by have := HB4.out.size; omega) h)
        have HK5 := Lib.hid (show KeepL lab w w5 from (KeepL.of_below HB4.out).trans' (fun _ _ h => h) hK5)
        have hln5 := hl5 _ (Array.getElem?_eq_some_iff.1 HBX4.out).1 HLN.out
        obtain ⟨rb, rl⟩ := r
        have HW3r := Lib.hid hw3
        clear hl5 hK5 hw3
        cases rb with
        | true =>
          clear hX5 hB5 hln5
          obtain ⟨j, kj, hoj, hkj, hhj, hmj⟩ := hF5.of id
          have hLb := hm5 b
          rw [if_pos rfl] at hLb
          rw [← hLb] at hkj hoj
          obtain ⟨y, hy, -⟩ := pl_of_map hkj
          have hof := of_calls w5.drew t own now _ m _ _ hT5.drew b id HE.out (by intro u hu; exact hF5.good u.k (by rw [← hLb]; exact List.mem_map.2 ⟨u, hu, rfl⟩)) j hoj y hy
          rw [hLb] at hoj
          obtain ⟨_, _, hhy, _⟩ := hT5.hk b y (List.mem_of_getElem? hy)
          obtain ⟨f0, f1, f2, f3, f4, f5, f6, f7⟩ := cells8 hbx5
          obtain ⟨t0, t1, t2⟩ := cells3 hT5.hh
          have HHY := Lib.hid hhy
          have HOF := Lib.hid hof
          have HTT := Lib.hid hT5
          have HLL := Lib.hid hm5
          have HOJ := Lib.hid hoj
          have HY := Lib.hid hy
          clear hof hhy hoj hy hkj hLb hmj hhj
          go_wp2_with fail
          refine wp_region_ord [(0,0),(1,0),(2,0),(3,1),(4,0),(5,0),(6,0),(7,1),(9,0),(10,0),(11,0),(12,1),(8,2),(13,0),(14,0),(15,3)] (by kernel_rfl) (by kernel_rfl) ?_
          simp only [pickO, List.map_cons, List.map_nil, List.getD_cons_zero, List.getD_cons_succ]
          repeat (first | ((with_reducible refine wpO_skip ?_ ?_); rfl; simp only [Act.put, List.setIfInBounds_toArray, List.set_cons_zero, List.set_cons_succ]) | ((with_reducible refine wpO_step (fun K hK => ?_)); go_simp; (try go_bits); (first | (with_reducible refine hK _ _ ?_) | (simp only [IntWalk.iteOmega]; go_simp; (try go_bits); (with_reducible refine hK _ _ ?_))); clear hK K))
          (with_reducible refine wpO_step (fun K hK => ?_)); go_simp; (try go_bits)
          refine HOF.out.mono ?_; rintro e9 w9 ⟨rfl, hb9⟩
          refine ⟨hb9, ?_⟩
          (with_reducible refine hK _ _ ?_); clear hK K
          have hh9 := (hb9.block y.a (Array.getElem?_eq_some_iff.1 HHY.out).1).trans HHY.out
          obtain ⟨y0, y1, y2, y3, y4⟩ := cells5 hh9
          have u4 := unfrozen0 hh9 4
          have HB9 := Lib.hid (show Below w5.heap.size w5 w9 from (Below.refl _ w5).drew.trans hb9)
          clear hh9 hb9 t0 t1 t2
          repeat (first | ((with_reducible refine wpO_skip ?_ ?_); rfl; simp only [Act.put, List.setIfInBounds_toArray, List.set_cons_zero, List.set_cons_succ]) | ((with_reducible refine wpO_step (fun K hK => ?_)); go_simp; (try go_bits); (first | (with_reducible refine hK _ _ ?_) | (simp only [IntWalk.iteOmega]; go_simp; (try go_bits); (with_reducible refine hK _ _ ?_))); clear hK K))
          (with_reducible refine wpO_nil ?_)
          go_wp2
          go_ret
          exact touch_res HTT.out HLL.out HL5.out HK5.out HB9.out HOJ.out HY.out rfl (by unfold stepR; simp only [HW1.out, HW2.out, HW3r.out, HID.out])
        | false =>
          have HT5 := Lib.hid hT5
          have HM5 := Lib.hid hm5
          have HF5 := Lib.hid hF5
          have HX5 := Lib.hid hX5
          have HB5 := Lib.hid hB5
          have HBX5 := Lib.hid hbx5
          have HLN5 := Lib.hid hln5
          clear hT5 hm5 hF5 hX5 hB5 hbx5 hln5
          obtain ⟨f0, f1, f2, f3, f4, f5, f6, f7⟩ := cells8 HBX5.out
          go_wp2_with fail
          rw [rounds_succ]
          go_wp2_with fail
          have hc1 := way4_calls w5 t x.a now x.k x.S e' (cells3 HT5.out.hh).2.1 HB5.out (by have := HBI.out.hs; omega)
          rw [HEV.out] at hc1
          refine hc1.mono ?_
          clear hc1 f0 f1 f2 f3 f4 f5 f6 f7
          cases hw4 : way4F x.k e' with
          | some k1 =>
            rintro e6 w6 ⟨rfl, ⟨S6, hB6, hK6, hS6⟩⟩
            have hT6 := HT5.out.keeps hK6 HX5.out
            have hbx6 := (hK6.block _ (Array.getElem?_eq_some_iff.1 HBX5.out).1 (fun hm => by have h1 := HB5.out.lt _ hm; have h2 := HT.out.lt _ _ (HT.out.lk b x HXM.out _ hm); omega)).trans HBX5.out
            have hm6 := HM5.out
            have hF6 := HF5.out
            have HK6 := Lib.hid (show KeepL lab w w6 from HK5.out.trans' (fun _ _ h => h) (KeepL.of_keeps hK6 fun g hg hlt => by rw [HT.out.lk b x HXM.out g hg]; simp))
            have HW4 := Lib.hid hw4
            clear hB6 hK6 hS6 hw4
            obtain ⟨j, kj, hoj, hkj, hhj, hmj⟩ := hF6.of id
            have hLb := hm6 b
            rw [if_pos rfl] at hLb
            rw [← hLb] at hkj hoj
            obtain ⟨y, hy, -⟩ := pl_of_map hkj
            have hof := of_calls w6.drew t own now _ m _ _ hT6.drew b id HE.out (by intro u hu; exact hF6.good u.k (by rw [← hLb]; exact List.mem_map.2 ⟨u, hu, rfl⟩)) j hoj y hy
            rw [hLb] at hoj
            obtain ⟨_, _, hhy, _⟩ := hT6.hk b y (List.mem_of_getElem? hy)
            obtain ⟨f0, f1, f2, f3, f4, f5, f6, f7⟩ := cells8 hbx6
            obtain ⟨t0, t1, t2⟩ := cells3 hT6.hh
            have HHY := Lib.hid hhy
            have HOF := Lib.hid hof
            have HTT := Lib.hid hT6
            have HLL := Lib.hid hm6
            have HOJ := Lib.hid hoj
            have HY := Lib.hid hy
            clear hof hhy hoj hy hkj hLb hmj hhj
            go_wp2_with fail
            refine wp_region_ord [(0,0),(1,0),(2,0),(3,1),(4,0),(5,0),(6,0),(7,1),(9,0),(10,0),(11,0),(12,1),(8,2),(13,0),(14,0),(15,3)] (by kernel_rfl) (by kernel_rfl) ?_
            simp only [pickO, List.map_cons, List.map_nil, List.getD_cons_zero, List.getD_cons_succ]
            repeat (first | ((with_reducible refine wpO_skip ?_ ?_); rfl; simp only [Act.put, List.setIfInBounds_toArray, List.set_cons_zero, List.set_cons_succ]) | ((with_reducible refine wpO_step (fun K hK => ?_)); go_simp; (try go_bits); (first | (with_reducible refine hK _ _ ?_) | (simp only [IntWalk.iteOmega]; go_simp; (try go_bits); (with_reducible refine hK _ _ ?_))); clear hK K))
            (with_reducible refine wpO_step (fun K hK => ?_)); go_simp; (try go_bits)
            refine HOF.out.mono ?_; rintro e9 w9 ⟨rfl, hb9⟩
            refine ⟨hb9, ?_⟩
            (with_reducible refine hK _ _ ?_); clear hK K
            have hh9 := (hb9.block y.a (Array.getElem?_eq_some_iff.1 HHY.out).1).trans HHY.out
            obtain ⟨y0, y1, y2, y3, y4⟩ := cells5 hh9
            have u4 := unfrozen0 hh9 4
            have HB9 := Lib.hid (show Below w6.heap.size w6 w9 from (Below.refl _ w6).drew.trans hb9)
            clear hh9 hb9 t0 t1 t2
            repeat (first | ((with_reducible refine wpO_skip ?_ ?_); rfl; simp only [Act.put, List.setIfInBounds_toArray, List.set_cons_zero, List.set_cons_succ]) | ((with_reducible refine wpO_step (fun K hK => ?_)); go_simp; (try go_bits); (first | (with_reducible refine hK _ _ ?_) | (simp only [IntWalk.iteOmega]; go_simp; (try go_bits); (with_reducible refine hK _ _ ?_))); clear hK K))
            (with_reducible refine wpO_nil ?_)
            go_wp2
            go_ret
            exact touch_res HTT.out HLL.out HL5.out HK6.out HB9.out HOJ.out HY.out rfl (by unfold stepR; simp only [HW1.out, HW2.out, HW3r.out, HW4.out, HID.out])
          | none =>
            rintro e6 w6 ⟨rfl, hb6⟩
            have HT6 := Lib.hid (HT5.out.ext hb6)
            have HK6 := Lib.hid (show KeepL lab w w6 from HK5.out.trans' (fun _ _ h => h) (KeepL.of_below hb6))
            have HW4 := Lib.hid hw4
            clear hb6 hw4
            go_wp2_with fail
            rw [rounds_succ]
            go_wp2
            go_ret
            exact no_res HT6.out HM5.out HL5.out HK6.out rfl (by unfold stepR; simp only [HW1.out, HW2.out, HW3r.out, HW4.out])
      | none =>
        have HW3r := Lib.hid hw3
        clear hw3
        rintro e5 w5 ⟨rfl, hb5⟩
        have HB5 := Lib.hid (below_ext HB4.out hb5)
        have HBX5 := Lib.hid ((hb5.block _ (Array.getElem?_eq_some_iff.1 HBX4.out).1).trans HBX4.out)
        have HT5 := Lib.hid (HT.out.ext HB5.out)
        clear hb5
        obtain ⟨f0, f1, f2, f3, f4, f5, f6, f7⟩ := cells8 HBX5.out
        go_wp2_with fail
        rw [rounds_succ]
        go_wp2_with fail
        have hc1 := way4_calls w5 t x.a now x.k x.S e' (cells3 HT5.out.hh).2.1 (HT5.out.hk b x HXM.out) (by have := HBI.out.hs; omega)
        rw [HEV.out] at hc1
        refine hc1.mono ?_
        clear hc1 f0 f1 f2 f3 f4 f5 f6 f7
        cases hw4 : way4F x.k e' with
        | some k1 =>
          rintro e6 w6 ⟨rfl, hT6⟩
          obtain ⟨lab6, L6, hT6, hm6, hl6, hK6⟩ := HT5.out.turn' HX.out hT6
          have hbx6 := (hK6.block _ (Array.getElem?_eq_some_iff.1 HBX5.out).1 HLN.out).trans HBX5.out
          have hl6' : ∀ g, g < w.heap.size → lab g = none → lab6 g = none := fun g hg h => hl6 g (by have := HB5.out.size; omega) h
          have hK6' : KeepL lab w w6 := (KeepL.of_below HB5.out).trans' (fun _ _ h => h) hK6
          obtain ⟨q1, q2, q3⟩ := HBI.out.way4 HEO.out HW2.out hw4
          have HW4 := Lib.hid hw4
          clear hw4
          have hF6 := HF.out.set HK.out q2 q3 q1
          have HL6 := Lib.hid hl6'
          have HK6 := Lib.hid hK6'
          clear hl6 hl6' hK6 hK6' q1 q2 q3
          obtain ⟨j, kj, hoj, hkj, hhj, hmj⟩ := hF6.of id
          have hLb := hm6 b
          rw [if_pos rfl] at hLb
          rw [← hLb] at hkj hoj
          obtain ⟨y, hy, -⟩ := pl_of_map hkj
          have hof := of_calls w6.drew t own now _ m _ _ hT6.drew b id HE.out (by intro u hu; exact hF6.good u.k (by rw [← hLb]; exact List.mem_map.2 ⟨u, hu, rfl⟩)) j hoj y hy
          rw [hLb] at hoj
          obtain ⟨_, _, hhy, _⟩ := hT6.hk b y (List.mem_of_getElem? hy)
          obtain ⟨f0, f1, f2, f3, f4, f5, f6, f7⟩ := cells8 hbx6
          obtain ⟨t0, t1, t2⟩ := cells3 hT6.hh
          have HHY := Lib.hid hhy
          have HOF := Lib.hid hof
          have HTT := Lib.hid hT6
          have HLL := Lib.hid hm6
          have HOJ := Lib.hid hoj
          have HY := Lib.hid hy
          clear hof hhy hoj hy hkj hLb hmj hhj
          go_wp2_with fail
          refine wp_region_ord [(0,0),(1,0),(2,0),(3,1),(4,0),(5,0),(6,0),(7,1),(9,0),(10,0),(11,0),(12,1),(8,2),(13,0),(14,0),(15,3)] (by kernel_rfl) (by kernel_rfl) ?_
          simp only [pickO, List.map_cons, List.map_nil, List.getD_cons_zero, List.getD_cons_succ]
          repeat (first | ((with_reducible refine wpO_skip ?_ ?_); rfl; simp only [Act.put, List.setIfInBounds_toArray, List.set_cons_zero, List.set_cons_succ]) | ((with_reducible refine wpO_step (fun K hK => ?_)); go_simp; (try go_bits); (first | (with_reducible refine hK _ _ ?_) | (simp only [IntWalk.iteOmega]; go_simp; (try go_bits); (with_reducible refine hK _ _ ?_))); clear hK K))
          (with_reducible refine wpO_step (fun K hK => ?_)); go_simp; (try go_bits)
          refine HOF.out.mono ?_; rintro e9 w9 ⟨rfl, hb9⟩
          refine ⟨hb9, ?_⟩
          (with_reducible refine hK _ _ ?_); clear hK K
          have hh9 := (hb9.block y.a (Array.getElem?_eq_some_iff.1 HHY.out).1).trans HHY.out
          obtain ⟨y0, y1, y2, y3, y4⟩ := cells5 hh9
          have u4 := unfrozen0 hh9 4
          have HB9 := Lib.hid (show Below w6.heap.size w6 w9 from (Below.refl _ w6).drew.trans hb9)
          clear hh9 hb9 t0 t1 t2
          repeat (first | ((with_reducible refine wpO_skip ?_ ?_); rfl; simp only [Act.put, List.setIfInBounds_toArray, List.set_cons_zero, List.set_cons_succ]) | ((with_reducible refine wpO_step (fun K hK => ?_)); go_simp; (try go_bits); (first | (with_reducible refine hK _ _ ?_) | (simp only [IntWalk.iteOmega]; go_simp; (try go_bits); (with_reducible refine hK _ _ ?_))); clear hK K))
          (with_reducible refine wpO_nil ?_)
          go_wp2
          go_ret
          exact touch_res HTT.out HLL.out HL6.out HK6.out HB9.out HOJ.out HY.out rfl (by unfold stepR; simp only [HW1.out, HW2.out, HW3r.out, HW4.out, HID.out])
        | none =>
          rintro e6 w6 ⟨rfl, hb6⟩
          have HT6 := Lib.hid (HT5.out.ext hb6)
          have HK6 := Lib.hid (show KeepL lab w w6 from KeepL.of_below (below_ext HB5.out hb6))
          have HW4 := Lib.hid hw4
          clear hb6 hw4
          go_wp2_with fail
          rw [rounds_succ]
          go_wp2
          go_ret
          exact no_res (l1 := (L b).map (·.k)) HT6.out (fun c => by by_cases hc : c = b <;> simp [hc]) (fun g _ h => h) HK6.out rfl (by unfold stepR; simp only [HW1.out, HW2.out, HW3r.out, HW4.out])
theorem place_ok : ∀ fuel, PlaceOk fuel
  | 0 => fun w t own now lab m v L h hown b N hF hN d hd hm hfu => by omega
  | fuel + 1 => place_step fuel (place_ok fuel)
end Go.Proofs.Tc
