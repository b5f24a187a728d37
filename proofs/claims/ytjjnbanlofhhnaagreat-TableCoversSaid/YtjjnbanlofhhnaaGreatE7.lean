import Derived.Test.YtjjnbanlofhhnaaGreatE6
import Derived.Test.YtjjnbanlofhhnaaGreatE5
namespace Go.Proofs.Tc
open Go.RowKit Go.Sort Go.Shelf
attribute [local go_sem] Oper.semAt_some stepI_0 stepI_1 stepI_2 stepI_3
attribute [local go_sem] wide_depth wide_fn Oper.wpX

/-- What a body of a range over a table's entries keeps: what lay below n, and every block of entries. -/
def Kp60 (n : Nat) (A B : World) : Prop := Below n A B ∧ ∀ (g : Nat) (cur : Array Value) (fz : Nat × Nat), A.heap[g]? = some (.cells cur 60 fz) → B.heap[g]? = A.heap[g]?
theorem kp60_t {n : Nat} {A B C : World} (h : Kp60 n A B) (k : Kp60 n B C) : Kp60 n A C :=
  ⟨h.1.trans k.1, fun g cur fz hg => (k.2 g cur fz ((h.2 g cur fz hg).trans hg)).trans (h.2 g cur fz hg)⟩
theorem kp60_b {n : Nat} {w : World} (hn : n ≤ w.heap.size) (W : World) (l : Nat) (o o' : Obj) (hl : w.heap.size ≤ l) (h : W.heap[l]? = some o) (h1 : o.isCells = false) (h2 : o.isWalk = false) : Kp60 n W (W.putObj l o') := by
  refine ⟨belowK_b hn W l o o' hl h h1 h2, fun g cur fz hg => ?_⟩
  have hne : g ≠ l := fun e => by
    subst e
    rw [h] at hg
    injection hg with hg
    subst hg
    simp [Obj.isCells] at h1
  exact World.putObj_heap_other hne
theorem Kp60.of_below {n : Nat} {A B : World} (hn : n ≤ A.heap.size) (h : Below A.heap.size A B) : Kp60 n A B := ⟨h.mono hn, fun g cur fz hg => h.block g (Array.getElem?_eq_some_iff.1 hg).1⟩
theorem Kp60.own {n : Nat} {A B : World} (h : Kp60 n A B) {v : Value} {k : Nat} {xs : List Value} (ho : Own A 60 8 v k xs) : Own B 60 8 v k xs := by
  rcases ho with ho | ⟨g, cap, cur, rfl, h1, h2, h3, r⟩
  · exact .inl ho
  · exact .inr ⟨g, cap, cur, rfl, h1, h2, (h.2 g _ _ h3).trans h3, r⟩
def encPE (x : Nat × Ent) : Array Value := #[.pointer (some ⟨x.1, 0, none⟩), entV x.2]
def ents (x : Pl) : List (Nat × Ent) := (x.k.ents ++ x.k.spare).map fun e => (x.a, e)
def allP (l : List Pl) : List (Nat × Ent) := l.flatMap ents
theorem allP_take {l : List Pl} {k : Nat} {x : Pl} (hx : l[k]? = some x) : allP (l.take (k + 1)) = allP (l.take k) ++ ents x := by
  obtain ⟨hl, rfl⟩ := List.getElem?_eq_some_iff.1 hx
  unfold allP
  rw [List.take_succ_eq_append_getElem hl, List.flatMap_append]
  simp
theorem allP_pre {l : List Pl} {k : Nat} {x : Pl} (hx : l[k]? = some x) (j : Nat) : ∃ r, allP (l.take k) ++ (ents x).take j ++ r = allP l := by
  obtain ⟨hl, rfl⟩ := List.getElem?_eq_some_iff.1 hx
  refine ⟨(ents l[k]).drop j ++ allP (l.drop (k + 1)), ?_⟩
  rw [List.append_assoc, ← List.append_assoc ((ents l[k]).take j), List.take_append_drop, ← List.append_assoc, ← allP_take (List.getElem?_eq_getElem hl)]
  unfold allP
  rw [← List.flatMap_append, List.take_append_drop]
set_option maxRecDepth 100000 in
set_option maxHeartbeats 1000000 in
theorem all1_stops (n : Nat) (B1 B2 n₀ : Nat) (w : World) (t : Nat) (own : ByteArray) (now : Int) (lab : Nat → Option Nat) (m : Nat) (v : Bool → Value) (L : Bool → List Pl) (h : TbIn w t own now lab m v L) (b : Bool) (hlt : ∀ g i, lab g = some i → g < n₀) (hn : n₀ ≤ w.heap.size)
    (hc1 : w.cell? ⟨B1, 0, none⟩ = some (.pointer (some ⟨t, 0, none⟩))) (hc2 : w.cell? ⟨B2, 0, none⟩ = some (.int .i64 (famN b))) (hsz : ∀ x ∈ L b, x.k.ents.length ≤ 8 ∧ x.k.spare.length ≤ 8) (hpos : 0 < (L b).length) (hll : (L b).length ≤ 161) :
    SeqStopsK Fence.wide n Tryz.prog 57 #[.pointer (some ⟨B1, 0, none⟩), .pointer (some ⟨B2, 0, none⟩)] encPE (Kp60 n₀) (fun xs => xs = allP (L b)) (fun pre => ∃ r, pre ++ r = allP (L b)) (allP (L b)).length w := by
  intro l J Jx W hW hJ hJx hY h0
  refine callsIn_of_wp Tryz.func57 rfl trivial ?_ rfl
  simp only [Tryz.ntmps57, List.size_toArray, List.length_cons, List.length_nil, Nat.reduceAdd, Nat.reduceSub, Array.replicate_succ, Array.replicate_zero, List.push_toArray, List.append_toArray, List.nil_append, List.cons_append]
  have hT := h.ext hW
  have hTw : ∀ W', Below n₀ W W' → TbIn W' t own now lab m v L := fun W' hB => hT.of_blocks hB.size fun g hg => by
    cases hl : lab g with
    | none => exact absurd hl hg
    | some i => exact hB.block g (hlt g i hl)
  have c1 : W.cell? ⟨B1, 0, none⟩ = some (.pointer (some ⟨t, 0, none⟩)) := (hW.cell (p := ⟨B1, 0, none⟩) (World.block_lt_of_cell? w _ hc1)).trans hc1
  have c2 : W.cell? ⟨B2, 0, none⟩ = some (.int .i64 (famN b)) := (hW.cell (p := ⟨B2, 0, none⟩) (World.block_lt_of_cell? w _ hc2)).trans hc2
  obtain ⟨d0, d1, d2⟩ := cells3 hT.hh
  have hlook := fam_lookup (w := W.drew) hT.hm b
  obtain ⟨gv, capv, hvb, hle, hcm, hfp, _⟩ := (hT.hv b).row (by rw [List.length_map]; exact hpos)
  rw [List.length_map] at hvb
  rw [hvb] at hlook
  have hnW : n₀ ≤ W.heap.size := Nat.le_trans hn hW.size
  have HT := Lib.hid hT
  have HTW := Lib.hid hTw
  have HVB := Lib.hid hvb
  have HSZ := Lib.hid hsz
  have HJ := Lib.hid hJ
  have HY := Lib.hid hY
  clear h hT hTw hvb hsz hlt hc1 hc2 hJ hJx hY
  gi_wp2
  refine wpIn_region_ord [(0,1),(1,0),(2,0),(3,1),(4,1),(7,0),(5,3),(6,0)] (fun _ => trivial) (by kernel_rfl) (by kernel_rfl) (by kernel_rfl) ?_
  simp only [pickO, List.map_cons, List.map_nil, List.getD_cons_zero, List.getD_cons_succ]
  repeat (first | ((with_reducible refine wpI_skip ?_ ?_); rfl; simp only [Act.put, List.setIfInBounds_toArray, List.set_cons_zero, List.set_cons_succ]) | ((with_reducible refine wpI_step (fun K hK => ?_)); go_simp; (try go_bits); (first | (with_reducible refine hK _ _ ?_) | (simp only [IntWalk.iteOmega]; go_simp; (try go_bits); (with_reducible refine hK _ _ ?_))); clear hK K))
  (with_reducible refine wpI_nil ?_)
  gi_wp2_with fail
  gi_loopw [15] (fun i wr => ∃ k : Nat, k ≤ (L b).length ∧ i = .int .i64 k ∧ J (allP ((L b).take k)) wr ∧ Below n₀ W wr) (fun i _ => (L b).length - (intOf i).toNat)
  case atStart => exact ⟨0, by omega, rfl, by simpa [allP] using HJ.out _ _ _ none h0 (grown_below (Below.refl _ W).drew) (by simp), (Below.refl _ W).drew⟩
  case round =>
    obtain ⟨k, hk, rfl, hJs, hnx⟩ := hrel
    by_cases hlt : k < (L b).length
    · obtain ⟨x, hx⟩ : ∃ x, (L b)[k]? = some x := ⟨(L b)[k], List.getElem?_eq_getElem hlt⟩
      have hTr := HTW.out wr hnx
      have hxm := List.mem_of_getElem? hx
      obtain ⟨ve, vs, hhx, hve, hvs, _, _⟩ := hTr.hk b x hxm
      obtain ⟨ae, pe, rfl, _⟩ := hve.shape
      obtain ⟨av, pv, rfl, _⟩ := hvs.shape
      obtain ⟨q0, q1, q2, q3, q4⟩ := cells5 hhx
      have hvr := hTr.hv b
      rw [HVB.out] at hvr
      have hcell : wr.cell? ⟨gv, k, none⟩ = some (.pointer (some ⟨x.a, 0, none⟩)) := hvr.cell rfl (ptrs_get (by simp [hx]))
      have hs := HSZ.out x hxm
      have HX := Lib.hid hx
      have HVE := Lib.hid hve
      have HVS := Lib.hid hvs
      have HJS := Lib.hid hJs
      have HNX := Lib.hid hnx
      have HTR := Lib.hid hTr
      have hwr : n₀ ≤ wr.heap.size := Nat.le_trans hnW hnx.size
      clear hTr hxm hhx hve hvs hvr hx hJs hnx
      gi_wp2_with fail
      refine wpIn_region_ord [(0,0),(1,0),(2,0),(3,1),(4,0),(5,0),(6,0),(7,1),(11,0),(8,2),(9,3),(10,0)] (fun _ => trivial) (by kernel_rfl) (by kernel_rfl) (by kernel_rfl) ?_
      simp only [pickO, List.map_cons, List.map_nil, List.getD_cons_zero, List.getD_cons_succ]
      repeat (first | ((with_reducible refine wpI_skip ?_ ?_); rfl; simp only [Act.put, List.setIfInBounds_toArray, List.set_cons_zero, List.set_cons_succ]) | ((with_reducible refine wpI_step (fun K hK => ?_)); go_simp; (try go_bits); (first | (with_reducible refine hK _ _ ?_) | (simp only [IntWalk.iteOmega]; go_simp; (try go_bits); (with_reducible refine hK _ _ ?_))); clear hK K))
      (with_reducible refine wpI_step (fun K hK => ?_)); go_simp; (try go_bits)
      refine ⟨by first | exact below_dd _ _ | (go_grown; done), ?_⟩
      (with_reducible refine hK _ _ ?_); clear hK K
      (with_reducible refine wpI_step (fun K hK => ?_)); go_simp; (try go_bits)
      obtain ⟨es, hes⟩ : ∃ es, x.k.ents ++ x.k.spare = es := ⟨_, rfl⟩
      obtain ⟨w3, hw3⟩ : ∃ w3, (wr.alloc (.cells #[.slice ae x.k.ents.length pe, .slice av x.k.spare.length pv] 44)).drew = w3 := ⟨_, rfl⟩
      have hcc := concat_calls w3 wr.heap.size _ _ x.k.ents x.k.spare _ (by rw [← hw3]; exact heap_alloc_new wr _) (by rw [← hw3]; exact (HVE.out.alloc _).drew) (by rw [← hw3]; exact (HVS.out.alloc _).drew) hs.1 hs.2
      rw [hes] at hcc
      have hb3 : Below wr.heap.size wr w3 := by rw [← hw3]; exact (below_new (Below.refl _ wr) _).drew
      rw [hw3]
      clear hw3
      refine (callsIn_wide.2 hcc).mono ?_
      rintro e4 w4 ⟨v4, rfl, ho4, hf4, hb4⟩
      obtain ⟨a4, p4, rfl, hle4, hmx4⟩ := ho4.shape
      (with_reducible refine hK _ _ ?_); clear hK K
      have hN4 : Below wr.heap.size wr w4 := below_ext hb3 hb4
      have hJ4 : J (allP ((L b).take k)) w4 := HJ.out _ _ _ none HJS.out (grown_below hN4) (by simp)
      have hB4 : Below n₀ W w4 := HNX.out.trans (hN4.mono hwr)
      have hents : ents x = es.map fun e => (x.a, e) := by unfold ents; rw [hes]
      have hmx' : es.length ≤ 16 := by rw [← hes]; simp; omega
      have HENTS := Lib.hid hents
      have HO4 := Lib.hid ho4
      have HJ4 := Lib.hid hJ4
      have HB4 := Lib.hid hB4
      have HLT := Lib.hid (show k + 1 ≤ (L b).length from hlt)
      clear hcc hb3 hb4 hes hents ho4 hf4 hN4 hJ4 hB4 hmx4 q0 q1 q2 q3 q4 hcell
      repeat (first | ((with_reducible refine wpI_skip ?_ ?_); rfl; simp only [Act.put, List.setIfInBounds_toArray, List.set_cons_zero, List.set_cons_succ]) | ((with_reducible refine wpI_step (fun K hK => ?_)); go_simp; (try go_bits); (first | (with_reducible refine hK _ _ ?_) | (simp only [IntWalk.iteOmega]; go_simp; (try go_bits); (with_reducible refine hK _ _ ?_))); clear hK K))
      (with_reducible refine wpI_nil ?_)
      gi_wp2_with fail
      gi_loopw [30] (fun j w2 => ∃ jj : Nat, jj ≤ es.length ∧ j = .int .i64 jj ∧ J (allP ((L b).take k) ++ (ents x).take jj) w2 ∧ Below n₀ W w2 ∧ OwnE w2 (.slice a4 es.length p4) es) (fun j _ => es.length - (intOf j).toNat)
      case atStart => exact ⟨0, by omega, rfl, by simpa using HJ4.out, HB4.out, HO4.out⟩
      case round =>
        obtain ⟨jj, hj, rfl, hJ2, hB2, hO2⟩ := hrel
        by_cases hjlt : jj < es.length
        · obtain ⟨e, he⟩ : ∃ e, es[jj]? = some e := ⟨es[jj], List.getElem?_eq_getElem hjlt⟩
          obtain ⟨g4, cap4, hv4, _, _, _, _⟩ := hO2.row (by omega)
          injection hv4 with ha4 _ hcap4
          subst ha4 hcap4
          obtain ⟨c0, c1, c2, c3, c4, c5, c6, c7⟩ := OwnE.at hO2 he
          have lt4 := World.block_lt_of_cell? wr _ c0
          simp only at lt4
          have hpx : (ents x).take jj ++ [(x.a, e)] = (ents x).take (jj + 1) := by
            rw [HENTS.out, List.take_succ_eq_append_getElem (by simpa using hjlt)]
            congr 1
            have := (List.getElem?_eq_some_iff.1 he).2
            simp [this]
          have hlenp : (allP ((L b).take k) ++ (ents x).take jj).length < (allP (L b)).length := by
            obtain ⟨r, hr⟩ := allP_pre HX.out (jj + 1)
            rw [← hpx] at hr
            rw [← hr]
            simp
          have HPX := Lib.hid hpx
          have HLP := Lib.hid hlenp
          have HJ2 := Lib.hid hJ2
          have HB2 := Lib.hid hB2
          have HO2 := Lib.hid hO2
          clear he hpx hlenp hJ2 hB2 hO2
          have hJ5 := HJ.out _ _ _ none HJ2.out (grown_below (below_new (Below.refl _ wr) (.cells #[.string e.nd.id, .int .i64 e.nd.fam, .string e.nd.ip, .int .i64 e.nd.port, .int .i64 e.kd, .int .i64 e.an, .int .i64 e.ak, .int .i64 e.fl] 60))) (by simp)
          obtain ⟨fn, tmps, assign, body, hy, hR⟩ := HY.out _ (x.a, e) _ hJ5 HLP.out
          simp only [encPE, entV] at hy
          have HR := Lib.hid hR
          have hB5 := HB2.out.trans ((below_new (Below.refl _ wr) (.cells #[.string e.nd.id, .int .i64 e.nd.fam, .string e.nd.ip, .int .i64 e.nd.port, .int .i64 e.kd, .int .i64 e.an, .int .i64 e.ak, .int .i64 e.fl] 60)).mono (by have := HB2.out.size; omega))
          have hO5 := HO2.out.alloc (.cells #[.string e.nd.id, .int .i64 e.nd.fam, .string e.nd.ip, .int .i64 e.nd.port, .int .i64 e.kd, .int .i64 e.an, .int .i64 e.ak, .int .i64 e.fl] 60)
          have HB5 := Lib.hid hB5
          have HO5 := Lib.hid hO5
          clear hJ5 hR hB5 hO5
          gi_wp2_with fail
          refine HR.out.mono ?_
          rintro e6 W6 (⟨rfl, hJ6, hk6⟩ | ⟨rfl, hJx6⟩)
          · have HJ6 := Lib.hid hJ6
            have HK6 := Lib.hid hk6
            clear hJ6 hk6
            gi_wp2
            go_roundw
            case rel => exact ⟨jj + 1, by omega, by go_num, by rw [← HPX.out, ← List.append_assoc]; exact HJ6.out, HB5.out.trans HK6.out.1, HK6.out.own HO5.out⟩
            case measure => simp [intOf]; omega
          · have HJ6 := Lib.hid hJx6
            clear hJx6
            gi_wp2
            refine bodyPost_ret (results_none rfl _ _ _) rfl ?_
            exact ⟨⟨_, rfl⟩, .inr ⟨_, by
              obtain ⟨r, hr⟩ := allP_pre HX.out (jj + 1)
              exact ⟨r, by rw [← HPX.out, ← List.append_assoc] at hr; exact hr⟩, HJ6.out⟩⟩
        · obtain rfl : jj = es.length := by omega
          have hfull : allP ((L b).take k) ++ (ents x).take es.length = allP ((L b).take (k + 1)) := by
            rw [allP_take HX.out, List.take_of_length_le (l := ents x) (by rw [HENTS.out]; simp)]
          rw [hfull] at hJ2
          have HJ2 := Lib.hid hJ2
          have HB2 := Lib.hid hB2
          clear hJ2 hB2 hO2 hfull
          gi_wp2
          go_roundw
          case rel => exact ⟨k + 1, HLT.out, by go_num, HJ2.out, HB2.out⟩
          case measure => have := HLT.out; simp [intOf]; omega
    · obtain rfl : k = (L b).length := by omega
      rw [List.take_length] at hJs
      gi_wp2
      go_end0
      exact ⟨⟨_, rfl⟩, .inl ⟨_, rfl, hJs⟩⟩
end Go.Proofs.Tc
