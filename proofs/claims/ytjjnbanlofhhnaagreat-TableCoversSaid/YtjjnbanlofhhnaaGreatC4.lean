import Derived.Test.YtjjnbanlofhhnaaGreatC3
namespace Go.Proofs.Tc
open Go.RowKit Go.Sort
attribute [local go_sem] stepO_0 stepO_1 stepO_2 stepO_3

theorem _root_.Go.RowKit.Below.keep {S : List Nat} {w w' : World} (h : Below w.heap.size w w') : Keeps S w w' := Below.keeps h

theorem heap_box {w w' : World} {cs : Array Value} {t : TypeId} (h : Below (w.heap.size + 1) (w.alloc (.cells cs t)) w') : w'.heap[w.heap.size]? = some (.cells cs t (0, 0)) := (h.block _ (by omega)).trans (heap_alloc_new w _)
theorem cells8 {w : World} {b : Nat} {x0 x1 x2 x3 x4 x5 x6 x7 : Value} {t : TypeId} {z : Nat × Nat} (h : w.heap[b]? = some (.cells #[x0, x1, x2, x3, x4, x5, x6, x7] t z)) :
    w.cell? ⟨b, 0, none⟩ = some x0 ∧ w.cell? ⟨b, 1, none⟩ = some x1 ∧ w.cell? ⟨b, 2, none⟩ = some x2 ∧ w.cell? ⟨b, 3, none⟩ = some x3 ∧ w.cell? ⟨b, 4, none⟩ = some x4 ∧ w.cell? ⟨b, 5, none⟩ = some x5 ∧ w.cell? ⟨b, 6, none⟩ = some x6 ∧ w.cell? ⟨b, 7, none⟩ = some x7 := by
  simp [World.cell?, h]

/-- An entry written at place k of block g. -/
def putEnt (w : World) (g k : Nat) (e : Ent) : World :=
  (((((((w.setCell ⟨g, k * 8, none⟩ (.string e.nd.id)).setCell ⟨g, k * 8 + 1, none⟩ (.int .i64 e.nd.fam)).setCell ⟨g, k * 8 + 2, none⟩ (.string e.nd.ip)).setCell ⟨g, k * 8 + 3, none⟩ (.int .i64 e.nd.port)).setCell
    ⟨g, k * 8 + 4, none⟩ (.int .i64 e.kd)).setCell ⟨g, k * 8 + 5, none⟩ (.int .i64 e.an)).setCell ⟨g, k * 8 + 6, none⟩ (.int .i64 e.ak)).setCell ⟨g, k * 8 + 7, none⟩ (.int .i64 e.fl)
theorem evs_set : ∀ (l : List Ent) (k : Nat) (e : Ent), k < l.length → (((((((((evs l).set (k * 8) (.string e.nd.id)).set (k * 8 + 1) (.int .i64 e.nd.fam)).set (k * 8 + 2) (.string e.nd.ip)).set (k * 8 + 3) (.int .i64 e.nd.port)).set
    (k * 8 + 4) (.int .i64 e.kd)).set (k * 8 + 5) (.int .i64 e.an)).set (k * 8 + 6) (.int .i64 e.ak)).set (k * 8 + 7) (.int .i64 e.fl)) = evs (l.set k e)
  | [], k, e, h => by simp at h
  | x :: l, 0, e, _ => by rw [evs_cons, List.set_cons_zero, evs_cons]; simp [Ent.vals]
  | x :: l, k + 1, e, h => by
    have hs : ∀ (L : List Value) (j : Nat) (v : Value), (x.vals ++ L).set ((k + 1) * 8 + j) v = x.vals ++ L.set (k * 8 + j) v := by
      intro L j v
      have h8 : x.vals.length = 8 := rfl
      rw [List.set_append_right _ _ (by omega)]
      congr 2
      omega
    have h0 := hs
    rw [List.set_cons_succ, evs_cons, evs_cons, ← evs_set l k e (by simpa using h)]
    have hz : ∀ (L : List Value) (v : Value), (x.vals ++ L).set ((k + 1) * 8) v = x.vals ++ L.set (k * 8) v := fun L v => hs L 0 v
    rw [hz, hs, hs, hs, hs, hs, hs, hs]
theorem OwnE.put {w : World} {g n cap : Nat} {l : List Ent} (h : Own w 60 8 (.slice (some ⟨g, 0, none⟩) n cap) n (evs l)) {k : Nat} (e : Ent) (hk : k < n) : Own (putEnt w g k e) 60 8 (.slice (some ⟨g, 0, none⟩) n cap) n (evs (l.set k e)) := by
  have hl : l.length = n := by have := h.length; rw [evs_length] at this; omega
  rw [← evs_set l k e (by omega)]
  exact (((((((h.set _ (by omega)).set _ (by omega)).set _ (by omega)).set _ (by omega)).set _ (by omega)).set _ (by omega)).set _ (by omega)).set _ (by omega)
theorem putEnt_keeps (w : World) (g k : Nat) (e : Ent) : Keeps [g] w (putEnt w g k e) := by
  have h : ∀ (W : World) (i : Nat) (v : Value), Keeps [g] w W → Keeps [g] w (W.setCell ⟨g, i, none⟩ v) := fun W i v hW => hW.setCell v (.inl (List.mem_singleton.2 rfl))
  unfold putEnt
  exact h _ _ _ (h _ _ _ (h _ _ _ (h _ _ _ (h _ _ _ (h _ _ _ (h _ _ _ (h _ _ _ (Keeps.refl _ w))))))))
theorem idxF_split {α : Type} {p : α → Bool} {l : List α} : (idxF p l = -1 ∧ ∀ x ∈ l, p x = false) ∨ ∃ i : Nat, idxF p l = i ∧ ∃ e0, l[i]? = some e0 ∧ p e0 = true ∧ ∀ j x, j < i → l[j]? = some x → p x = false := by
  unfold idxF
  cases h : l.findIdx? p with
  | none =>
    refine .inl ⟨rfl, fun x hx => ?_⟩
    rw [List.findIdx?_eq_none_iff] at h
    exact h x hx
  | some i =>
    rw [List.findIdx?_eq_some_iff_getElem] at h
    obtain ⟨hi, hp, hb⟩ := h
    refine .inr ⟨i, rfl, l[i], List.getElem?_eq_getElem hi, hp, fun j x hj hx => ?_⟩
    have hjl := (List.getElem?_eq_some_iff.1 hx).1
    have h2 := hb j hj
    rw [← (List.getElem?_eq_some_iff.1 hx).2]
    simpa using h2

set_option maxRecDepth 100000 in
/-- slices.DeleteFunc over entries. -/
theorem deleteE_calls (w : World) (v : Value) (es : List Ent) (ho : OwnE w v es) (fid : Nat) (caps : Array Value) (p : Ent → Bool)
    (eg : ∀ args w, (callFunc fid args).run Tryz.prog w = .ok (.enter fid args) w)
    (hp : ∀ W, Keeps (fpv v) w W → ∀ e ∈ es, Calls Tryz.prog fid (#[entV e] ++ caps) W (Ret W (.bool (p e)))) :
    Calls Tryz.prog 63 #[v, .func (.func fid) #[] caps] w fun e w' => ∃ v', e = .returned v' ∧ OwnE w' v' (es.filter fun e => !p e) ∧ (∀ g ∈ fpv v', g ∈ fpv v) ∧ Keeps (fpv v) w w' := by
  obtain ⟨a, cap, rfl, hle, hmx⟩ := ho.shape
  unfold maxLen at hmx
  have HO := Lib.hid ho
  have HP := Lib.hid hp
  clear ho hp
  rcases idxF_split (p := p) (l := es) with ⟨hx, hno⟩ | ⟨i, hi, e0, he0, hp0, hb0⟩
  · have hall : es.filter (fun e => !p e) = es := by
      rw [List.filter_eq_self]; intro x hx; simp [hno x hx]
    have HN := Lib.hid hall
    clear hall hno
    go_enter Tryz.func63, Tryz.ntmps63
    go_wp2_with (go_at_call 66; (with_reducible refine (indexE_calls _ _ es HO.out fid caps p eg (fun W hW => HP.out W hW.keep)).mono ?_); rintro e2 w2 ⟨rfl, hb2⟩)
    go_ret
    exact ⟨_, rfl, by rw [HN.out]; exact HO.out.ext hb2, fun g hg => hg, hb2.keep⟩
  · have hlt : i < es.length := (List.getElem?_eq_some_iff.1 he0).1
    obtain ⟨g, cap', hv, hle', hcm, hfp, _⟩ := HO.out.row (by omega)
    injection hv with ha _ hcap
    subst ha hcap
    rw [hfp] at HP ⊢
    have HI := Lib.hid hi
    go_enter Tryz.func63, Tryz.ntmps63
    go_wp2_with fail
    refine (indexE_calls _ _ es HO.out fid caps p eg (fun W hW => HP.out W hW.keep)).mono ?_; rintro e2 w2 ⟨rfl, hb2⟩
    rw [HI.out]
    have HE0 := Lib.hid he0
    have HP0 := Lib.hid hp0
    have HB0 := Lib.hid hb0
    clear he0 hp0 hb0 hi
    have hidx : ((i : Int) == -1) = false := by simp
    go_wp2
    go_loopw [5, 6] (fun ti tj wr => ∃ (i j : Nat) (l : List Ent), ti = .int .i64 i ∧ tj = .int .i64 j ∧ i < j ∧ j ≤ es.length ∧ l.length = es.length ∧ Own wr 60 8 (.slice (some ⟨g, 0, none⟩) es.length (cap' + 1)) es.length (evs l) ∧
      Hid (l.take i = (es.take j).filter fun e => !p e) ∧ Hid (l.drop j = es.drop j) ∧ Keeps [g] w wr) (fun _ tj _ => es.length - (intOf tj).toNat)
    case atStart =>
      refine ⟨i, i + 1, es, rfl, by simp, by omega, by omega, rfl, HO.out.ext hb2, ?_, rfl, hb2.keep⟩
      show es.take i = _
      have h1 := HE0.out
      obtain ⟨hil, hie⟩ := List.getElem?_eq_some_iff.1 h1
      rw [List.take_succ_eq_append_getElem hil, List.filter_append, hie]
      simp only [List.filter_cons, List.filter_nil, HP0.out, Bool.not_true, Bool.false_eq_true, if_false, List.append_nil]
      symm
      rw [List.filter_eq_self]
      intro x hx
      obtain ⟨j, hj, rfl⟩ := List.mem_iff_getElem.1 hx
      rw [List.length_take] at hj
      rw [List.getElem_take, HB0.out j _ (by omega) (List.getElem?_eq_getElem (by omega))]
      rfl
    case round =>
      obtain ⟨i, j, l, rfl, rfl, hij, hj, hl, hol, hta, hdr, hkw⟩ := hrel
      by_cases hjl : j < es.length
      · obtain ⟨e, he⟩ : ∃ e, es[j]? = some e := ⟨es[j], List.getElem?_eq_getElem hjl⟩
        have hej : l[j]? = some e := by
          have := congrArg (fun t => t[0]?) hdr.out
          simpa [List.getElem?_drop, he] using this
        obtain ⟨c0, c1, c2, c3, c4, c5, c6, c7⟩ := OwnE.at hol hej
        have HW := Lib.hid hol
        have HL := Lib.hid hl
        have HE := Lib.hid hej
        have HE0' := Lib.hid he
        clear hol hl hej he
        have hpe := HP.out (wr.alloc (.cells #[.string e.nd.id, .int .i64 e.nd.fam, .string e.nd.ip, .int .i64 e.nd.port, .int .i64 e.kd, .int .i64 e.an, .int .i64 e.ak, .int .i64 e.fl] 60)) (hkw.alloc _) e (List.mem_of_getElem? HE0'.out)
        cases hpv : p e with
        | true =>
          rw [hpv] at hpe
          have HV := Lib.hid hpv
          clear hpv
          go_wp2_with (refine hpe.mono ?_; rintro e2 w3 ⟨rfl, hb3⟩)
          go_roundw
          case rel =>
            rw [World.size_alloc] at hb3
            refine ⟨i, j + 1, l, rfl, by go_num, by omega, by omega, HL.out, (HW.out.alloc _).ext (by rw [World.size_alloc]; exact hb3), ?_, ?_, (hkw.alloc _).trans (Below.keep (by rw [World.size_alloc]; exact hb3))⟩
            · show l.take i = _
              rw [hta.out]
              obtain ⟨hil, hie⟩ := List.getElem?_eq_some_iff.1 HE0'.out
              rw [List.take_succ_eq_append_getElem hil, List.filter_append, hie]
              simp [HV.out]
            · show l.drop (j + 1) = es.drop (j + 1)
              rw [← List.drop_drop, ← List.drop_drop, hdr.out]
          case measure => simp [intOf]; omega
        | false =>
          rw [hpv] at hpe
          have hil : i < es.length := by omega
          go_wp2_with fail
          refine hpe.mono ?_; rintro e2 w3 ⟨rfl, hb3⟩
          rw [World.size_alloc] at hb3
          obtain ⟨b0, b1, b2, b3, b4, b5, b6, b7⟩ := cells8 (heap_box hb3)
          have how : Own w3 60 8 (.slice (some ⟨g, 0, none⟩) es.length (cap' + 1)) es.length (evs l) := (HW.out.alloc _).ext (by rw [World.size_alloc]; exact hb3)
          have hfr : ∀ j, j < 8 → w3.frozen? ⟨g, i * 8 + j, none⟩ = false := fun j hj => how.frozen (by omega)
          have f0 := hfr 0 (by omega); have f1 := hfr 1 (by omega); have f2 := hfr 2 (by omega); have f3 := hfr 3 (by omega)
          have f4 := hfr 4 (by omega); have f5 := hfr 5 (by omega); have f6 := hfr 6 (by omega); have f7 := hfr 7 (by omega)
          rw [Nat.add_zero] at f0
          obtain ⟨e1, he1⟩ : ∃ e, l[i]? = some e := ⟨l[i]'(by have := HL.out; omega), List.getElem?_eq_getElem (by have := HL.out; omega)⟩
          obtain ⟨d0, d1, d2, d3, d4, d5, d6, d7⟩ := OwnE.at how he1
          have HE1 := Lib.hid he1
          have HW3 := Lib.hid how
          clear he1 hfr how c0 c1 c2 c3 c4 c5 c6 c7
          have HV := Lib.hid hpv
          clear hpv
          go_wp2
          go_roundw
          case rel =>
            refine ⟨i + 1, j + 1, l.set i e, by go_num, by go_num, by omega, by omega, by rw [List.length_set]; exact HL.out, OwnE.put HW3.out e hil, ?_, ?_, ((hkw.alloc _).trans (Below.keep (by rw [World.size_alloc]; exact hb3))).trans (putEnt_keeps w3 g i e)⟩
            · show (l.set i e).take (i + 1) = _
              have hll := HL.out
              obtain ⟨hil2, hie⟩ := List.getElem?_eq_some_iff.1 HE0'.out
              rw [List.take_succ_eq_append_getElem (by rw [List.length_set]; omega), List.take_succ_eq_append_getElem hil2, List.filter_append, hie, List.take_set_of_le (by omega), hta.out]
              simp [HV.out]
            · show (l.set i e).drop (j + 1) = es.drop (j + 1)
              rw [List.drop_set_of_lt (by omega), ← List.drop_drop, ← List.drop_drop, hdr.out]
          case measure => simp [intOf]; omega
      · obtain rfl : j = es.length := by omega
        have hfl : (es.filter fun e => !p e) = l.take i := by rw [hta.out, List.take_length]
        have hfl2 : (es.filter fun e => !p e).length = i := by rw [hfl, List.length_take]; omega
        have hcut := hol.cut (i := i) (by omega)
        rw [evs_take, ← hfl] at hcut
        obtain ⟨w4, hcl, hown4, hk4, _⟩ := own_clear (P := Tryz.prog) Ee Ee1 hcut (es.length - i) (by omega)
        have HF := Lib.hid hfl
        have HF2 := Lib.hid hfl2
        have HO4 := Lib.hid hown4
        clear hfl hfl2 hcut hown4 hol
        go_wp2
        go_ret
        refine ⟨_, rfl, ?_, fun g hg => by simpa [fpv] using hg, hkw.trans hk4⟩
        unfold OwnE
        rw [HF2.out]
        exact HO4.out
end Go.Proofs.Tc
