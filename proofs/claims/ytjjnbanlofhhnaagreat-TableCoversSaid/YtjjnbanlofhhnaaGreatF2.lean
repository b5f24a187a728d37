import Derived.Test.YtjjnbanlofhhnaaGreatF1
namespace Go.Proofs.Tc
open Go.RowKit Go.Sort
attribute [local go_sem] stepO_0 stepO_1 stepO_2 stepO_3 stepV_0 stepV_1 stepV_2 stepV_3 stepV_5

def failT (now0 : Int) (B : Bool → List Bk) (now : Int) (n : Nd) : (Bool × Int) × Int × (Bool → List Bk) :=
  if vnF n = false then ((false, 1), now0, B)
  else if now < now0 ∨ 1000000000 < now then ((false, 7), now0, B)
  else (((failedF now (B (n.fam == 6)) n).1, 0), now, fun c => if c = (n.fam == 6) then (failedF now (B (n.fam == 6)) n).2 else B c)
theorem fail_res {w w5 w' : World} {t : Nat} {own : ByteArray} {now : Int} {lab : Nat → Option Nat} {m : Nat} {v : Bool → Value} {L : Bool → List Pl} {f : Bool} {j : Nat} {y : Pl} {k' : Bk} {r : (Bool × Int) × Int × (Bool → List Bk)} {e : Ending}
    (hT5 : TbIn w5 t own now lab m v L) (hK5 : KeepL lab w w5) (hy : (L f)[j]? = some y) (hT : BkTurn w5 y.a y.S k' w') (hr : r = ((true, 0), now, fun c => if c = f then ((L f).map (·.k)).set j k' else (L c).map (·.k))) (he : e = .returned (.tuple #[.bool true, .int .i64 0])) : TabRes w t own lab m r e w' := by
  subst hr he
  obtain ⟨lab', L', h1, h2, h3, h4⟩ := hT5.turn' hy hT
  exact ⟨rfl, lab', v, L', h1, h2, fun g hg hl => h3 g (by have := hK5.size; omega) hl, hK5.trans' (fun _ _ h => h) h4⟩
theorem evs_set7 : ∀ (l : List Ent) (i : Nat) (e : Ent) (x : Int), l[i]? = some e → (evs l).set (i * 8 + 7) (.int .i64 x) = evs (l.set i { e with fl := x })
  | [], i, e, x, h => by simp at h
  | y :: l, 0, e, x, h => by
    simp at h
    subst h
    rw [evs_cons, List.set_cons_zero, evs_cons]
    simp [Ent.vals]
  | y :: l, i + 1, e, x, h => by
    rw [evs_cons, List.set_cons_succ, evs_cons, ← evs_set7 l i e x (by simpa using h)]
    rw [show (i + 1) * 8 + 7 = y.vals.length + (i * 8 + 7) by simp [Ent.vals]; omega]
    rw [List.set_append_right _ _ (by omega)]
    congr 2
    omega
theorem OwnE.setFl {w : World} {g n cap : Nat} {l : List Ent} (h : Own w 60 8 (.slice (some ⟨g, 0, none⟩) n cap) n (evs l)) {i : Nat} {e : Ent} (he : l[i]? = some e) (x : Int) : Own (w.setCell ⟨g, i * 8 + 7, none⟩ (.int .i64 x)) 60 8 (.slice (some ⟨g, 0, none⟩) n cap) n (evs (l.set i { e with fl := x })) := by
  have hl : l.length = n := by have := h.length; rw [evs_length] at this; omega
  rw [← evs_set7 l i e x he]
  exact h.set _ (by have := (List.getElem?_eq_some_iff.1 he).1; omega)
set_option maxRecDepth 100000 in
set_option maxHeartbeats 2000000 in
theorem failed_main (w : World) (tb : Nat) (own : ByteArray) (now0 : Int) (lab : Nat → Option Nat) (m : Nat) (v : Bool → Value) (L : Bool → List Pl) (h : TbIn w tb own now0 lab m v L) (N : Int) (f : Bool) (hF : FInv own f N ((L f).map (·.k))) (hN : N ≤ 1000000)
    (now : Int) (id ip : ByteArray) (port : Int) (hv : vnF ⟨id, famN f, ip, port⟩ = true) (ht1 : now0 ≤ now) (ht2 : now ≤ 1000000000) (RR : (Bool × Int) × Int × (Bool → List Bk)) (hRR : RR = (((failedF now ((L f).map (·.k)) ⟨id, famN f, ip, port⟩).1, 0), now, fun c => if c = f then (failedF now ((L f).map (·.k)) ⟨id, famN f, ip, port⟩).2 else (L c).map (·.k))) :
    Calls Tryz.prog 10 #[.pointer (some ⟨tb, 0, none⟩), .int .i64 now, .agg #[.string id, .int .i64 (famN f), .string ip, .int .i64 port]] w (TabRes w tb own lab m RR) := by
  have hvn : ∀ W, Calls Tryz.prog 24 #[.agg #[.string id, .int .i64 (famN f), .string ip, .int .i64 port]] W (Ret W (.bool true)) := fun W => by have := validnode_calls W ⟨id, famN f, ip, port⟩; rw [hv] at this; exact this
  have ltt : tb < w.heap.size := h.lt _ _ h.l0
  obtain ⟨j, k, ho, hk, hh, hmem⟩ := hF.of id
  obtain ⟨y, hy, hyk⟩ := pl_of_map hk
  have hgood : ∀ u ∈ L f, GoodBk u.k := fun u hu => hF.good u.k (List.mem_map.2 ⟨u, hu, rfl⟩)
  have hBI := hF.bk k hmem
  have hff : failedF now ((L f).map (·.k)) ⟨id, famN f, ip, port⟩ = match failB now k ⟨id, famN f, ip, port⟩ with
      | some k' => (true, ((L f).map (·.k)).set j k')
      | none => (false, (L f).map (·.k)) := by unfold failedF; simp only [ho, hk]; cases failB now k ⟨id, famN f, ip, port⟩ <;> rfl
  rw [hff] at hRR
  have hid20 := (vnF_fam hv).1
  have HT := Lib.hid h
  have HVN := Lib.hid hvn
  have HY := Lib.hid hy
  have HYK := Lib.hid hyk
  have HGD := Lib.hid hgood
  have HBI := Lib.hid hBI
  have HRR0 := Lib.hid hRR
  have HO := Lib.hid ho
  have HID := Lib.hid hid20
  clear h hF hv hvn ho hk hh hmem hy hyk hgood hBI hff hRR hid20
  go_enter Tryz.func10, Tryz.ntmps10
  go_wp2_with fail
  have hbx := heap_alloc_new w (.cells #[.string id, .int .i64 (famN f), .string ip, .int .i64 port] 33)
  refine (HVN.out _).mono ?_
  rintro e1 w1 ⟨rfl, hb1⟩
  have hbx1 := (hb1.block w.heap.size (by simp)).trans hbx
  have hB1 : Below w.heap.size w w1 := (below_new (Below.refl _ w) _).trans (hb1.mono (by simp))
  have hT1 := HT.out.ext hB1
  obtain ⟨x0, x1, x2, x3⟩ := cells4 hbx1
  have htell := tell_ok w1 tb _ now0 now f _ hT1.hh ht1 ht2
  have HB1 := Lib.hid hB1
  have HBX1 := Lib.hid hbx1
  have HT1 := Lib.hid hT1
  clear hbx hb1 hbx1 hB1 hT1
  go_wp2_with fail
  refine htell.mono ?_
  rintro e2 w2 ⟨rfl, hw2⟩
  obtain ⟨hT2, hK2⟩ := HT1.out.setNow now
  have hbx2 : w2.heap[w.heap.size]? = some (.cells #[.string id, .int .i64 (famN f), .string ip, .int .i64 port] 33 (0, 0)) := by
    rw [hw2]; exact (Below.heap_setCell w1 ⟨tb, 1, none⟩ _ _ (by show w.heap.size ≠ tb; omega)).trans HBX1.out
  rw [← hw2] at hT2 hK2
  clear hw2 htell x0 x1 x2 x3
  obtain ⟨x0, x1, x2, x3⟩ := cells4 hbx2
  have hofc := of_calls w2 tb own now lab m v L hT2 f id HID.out HGD.out j HO.out y HY.out
  have HK2 := Lib.hid (show KeepL lab w w2 from (KeepL.of_below HB1.out).trans' (fun _ _ h => h) hK2)
  have HT2 := Lib.hid hT2
  have HBX2 := Lib.hid hbx2
  have HOFC := Lib.hid hofc
  clear hT2 hK2 hbx2 hofc
  go_wp2_with fail
  refine HOFC.out.mono ?_
  rintro e3 w3 ⟨rfl, hb3⟩
  have hT3 := HT2.out.ext hb3
  obtain ⟨ve, vs, hh3, hve3, hvs3, hS3, hnd⟩ := hT3.hk f y (List.mem_of_getElem? HY.out)
  have hbx3 := (hb3.block _ (Array.getElem?_eq_some_iff.1 HBX2.out).1).trans HBX2.out
  have htb' : tb ∉ y.a :: y.S := fun hm => by have h1 := HT2.out.lk f y (List.mem_of_getElem? HY.out) tb hm; rw [HT2.out.l0] at h1; injection h1 with h1; omega
  have hln : ∀ g ∈ y.a :: y.S, g < w.heap.size := fun g hg => HT.out.lt g _ (HT2.out.lk f y (List.mem_of_getElem? HY.out) g hg)
  rw [HYK.out] at hh3 hve3 hvs3
  rw [hS3] at hnd htb' hln
  have HS3 := Lib.hid hS3
  have HTB' := Lib.hid htb'
  have HND := Lib.hid hnd
  have HLN := Lib.hid hln
  obtain ⟨b, hb⟩ : ∃ b, y.a = b := ⟨_, rfl⟩
  rw [hb] at hh3 HTB' HND HLN ⊢
  have HYA := Lib.hid hb
  clear x0 x1 x2 x3 hb hnd htb' hS3 hln
  obtain ⟨x0, x1, x2, x3⟩ := cells4 hbx3
  obtain ⟨c0, c1, c2, c3, c4⟩ := cells5 hh3
  have hI1 := fun W hW => index_calls W ve k.ents ⟨id, famN f, ip, port⟩ ((hve3.drew).ext hW)
  have hI2 := fun W hW => index_calls W vs k.spare ⟨id, famN f, ip, port⟩ ((hvs3.drew).ext hW)
  have HT3 := Lib.hid hT3
  have HH3 := Lib.hid hh3
  have HE3 := Lib.hid hve3
  have HV3 := Lib.hid hvs3
  have HBX3 := Lib.hid hbx3
  have HI1 := Lib.hid hI1
  have HI2 := Lib.hid hI2
  have HK3 := Lib.hid (show KeepL lab w w3 from HK2.out.trans' (fun _ _ h => h) (KeepL.of_below hb3))
  clear hT3 hh3 hve3 hvs3 hbx3 hI1 hI2 hb3
  go_wp2_with fail
  refine wp_region_ord [(0,0),(1,0),(2,0),(3,1),(4,1),(6,0),(7,0),(8,0),(9,1),(10,1),(5,2),(11,2),(12,0),(13,0)] (by kernel_rfl) (by kernel_rfl) ?_
  simp only [pickO, List.map_cons, List.map_nil, List.getD_cons_zero, List.getD_cons_succ]
  repeat (first | ((with_reducible refine wpO_skip ?_ ?_); rfl; simp only [Act.put, List.setIfInBounds_toArray, List.set_cons_zero, List.set_cons_succ]) | ((with_reducible refine wpO_step (fun K hK => ?_)); go_simp; (try go_bits); (first | (with_reducible refine hK _ _ ?_) | (simp only [IntWalk.iteOmega]; go_simp; (try go_bits); (with_reducible refine hK _ _ ?_))); clear hK K))
  (with_reducible refine wpO_step (fun K hK => ?_)); go_simp; (try go_bits)
  refine (HI1.out _ (Below.refl _ _)).mono ?_
  rintro e4 w4 ⟨rfl, hb4⟩
  refine ⟨hb4, ?_⟩
  (with_reducible refine hK _ _ ?_); clear hK K
  repeat (first | ((with_reducible refine wpO_skip ?_ ?_); rfl; simp only [Act.put, List.setIfInBounds_toArray, List.set_cons_zero, List.set_cons_succ]) | ((with_reducible refine wpO_step (fun K hK => ?_)); go_simp; (try go_bits); (first | (with_reducible refine hK _ _ ?_) | (simp only [IntWalk.iteOmega]; go_simp; (try go_bits); (with_reducible refine hK _ _ ?_))); clear hK K))
  (with_reducible refine wpO_step (fun K hK => ?_)); go_simp; (try go_bits)
  refine (HI2.out _ hb4).mono ?_
  rintro e5 w5 ⟨rfl, hb5⟩
  refine ⟨hb5, ?_⟩
  (with_reducible refine hK _ _ ?_); clear hK K
  have hB5 : Below w3.heap.size w3 w5 := (Below.refl _ w3).drew.trans (hb4.trans (hb5.mono hb4.size))
  have hT5 := HT3.out.ext hB5
  have hh5 := (hB5.block b (Array.getElem?_eq_some_iff.1 HH3.out).1).trans HH3.out
  have hE5 := HE3.out.ext hB5
  have hS5 := HV3.out.ext hB5
  have ht5 := (cells3 hT5.hh).2.1
  have HT5 := Lib.hid hT5
  have HK5 := Lib.hid (show KeepL lab w w5 from HK3.out.trans' (fun _ _ h => h) (KeepL.of_below hB5))
  have HH5 := Lib.hid hh5
  have HE5 := Lib.hid hE5
  have HS5 := Lib.hid hS5
  have hltb : b < w5.heap.size := (Array.getElem?_eq_some_iff.1 hh5).1
  have hltt5 : tb < w5.heap.size := World.block_lt_of_cell? w5 ⟨tb, 1, none⟩ ht5
  have hlo : w.heap.size ≤ w5.heap.size := HK5.out.size
  clear hb4 hb5 hB5 hT5 hh5 hE5 hS5 c0 c1 c2 c3 c4 x0 x1 x2 x3
  obtain ⟨c0, c1, c2, c3, c4⟩ := cells5 HH5.out
  have u4 := unfrozen0 HH5.out 4
  obtain ⟨hbm, hnd2⟩ := List.nodup_cons.1 HND.out
  obtain ⟨_, _, hdis⟩ := List.nodup_append.1 hnd2
  have hbe : b ∉ fpv ve := fun h => hbm (List.mem_append.2 (.inl h))
  have hbs : b ∉ fpv vs := fun h => hbm (List.mem_append.2 (.inr h))
  have hdis' : ∀ g ∈ fpv ve, g ∉ fpv vs := fun g h1 h2 => hdis g h1 g h2 rfl
  have HBE := Lib.hid hbe
  have HBS := Lib.hid hbs
  have HDI := Lib.hid hdis'
  clear hbm hnd2 hdis hbe hbs hdis'
  cases hi : k.ents.findIdx? (fun e => decide (e.nd = ⟨id, famN f, ip, port⟩)) with
  | some i =>
    rw [idxF_some hi]
    have hil := findIdx_lt hi
    obtain ⟨e0, he0⟩ : ∃ e, k.ents[i]? = some e := ⟨k.ents[i], List.getElem?_eq_getElem hil⟩
    obtain ⟨ge, cape, hvg, hlee, hcme, hfpe, _⟩ := HE5.out.row (by omega)
    subst hvg
    have hfl := HBI.out.all e0 (.inl (List.mem_of_getElem? he0))
    obtain ⟨hfl1, hfl2⟩ := hfl.2.2.2
    obtain ⟨a0, a1, a2, a3, a4, a5, a6, a7⟩ := OwnE.at HE5.out he0
    have u7 := Own.frozen HE5.out (i := i * 8 + 7) (by omega)
    have hlge : ge < w5.heap.size := HE5.out.fp_lt ge (by simp [fpv])
    have hbge : b ≠ ge := fun h => HBE.out (by simp [fpv, h])
    have htge : tb ≠ ge := fun h => HTB'.out (by simp [fpv, h])
    have htbb : tb ≠ b := fun h => HTB'.out (by simp [h])
    obtain ⟨es1, hes1⟩ : ∃ es1, k.ents.set i { e0 with fl := e0.fl + 1 } = es1 := ⟨_, rfl⟩
    have hlen1 : k.ents.length = es1.length := by rw [← hes1]; simp
    have hE6 := OwnE.setFl HE5.out he0 (e0.fl + 1)
    rw [hes1] at hE6
    have hS6 : OwnE (w5.setCell ⟨ge, i * 8 + 7, none⟩ (.int .i64 (e0.fl + 1))) vs k.spare := HS5.out.setO _ (HDI.out ge (by simp [fpv]))
    have hh6 := (Below.heap_setCell w5 ⟨ge, i * 8 + 7, none⟩ (.int .i64 (e0.fl + 1)) b hbge).trans HH5.out
    have ht6 : (w5.setCell ⟨ge, i * 8 + 7, none⟩ (.int .i64 (e0.fl + 1))).cell? ⟨tb, 1, none⟩ = some (.int .i64 now) := (World.cell?_of_block (a := ⟨tb, 1, none⟩) (Below.heap_setCell w5 ⟨ge, i * 8 + 7, none⟩ _ tb htge)).trans ht5
    have hK6 : Keeps (b :: (fpv (.slice (some ⟨ge, 0, none⟩) es1.length (cape + 1)) ++ fpv vs)) w5 (w5.setCell ⟨ge, i * 8 + 7, none⟩ (.int .i64 (e0.fl + 1))) := (Keeps.refl _ _).setCell _ (.inl (by simp [fpv]))
    have he1 : es1[i]? = some { e0 with fl := e0.fl + 1 } := by rw [← hes1]; exact List.getElem?_set_self hil
    have hei := heir_calls _ tb b now vs k.spare ht6 (cells5 hh6).2.2.2.1 hS6
    have HI := Lib.hid hi
    have HE0 := Lib.hid he0
    have HE1 := Lib.hid he1
    have HES := Lib.hid hes1
    have HEI := Lib.hid hei
    have HLEN := Lib.hid hlen1
    have HB := Lib.hid hbge
    have HTG' := Lib.hid htge
    have HTB := Lib.hid htbb
    have hilk : i < k.ents.length := hil
    have hlee' : es1.length ≤ cape + 1 := by omega
    rw [hlen1] at hE6 hh6 hil
    have HE6 := Lib.hid hE6
    have HS6 := Lib.hid hS6
    have HH6 := Lib.hid hh6
    have HT6 := Lib.hid ht6
    have HK6 := Lib.hid hK6
    have hm1 : es1.length * 80 ≤ 140737488355328 := by have := HBI.out.he; omega
    clear hi he0 hes1 hE6 hS6 hh6 ht6 hK6 he1 hei hlen1 hfl hbge htge htbb hlee hcme hfpe
    repeat (first | ((with_reducible refine wpO_skip ?_ ?_); rfl; simp only [Act.put, List.setIfInBounds_toArray, List.set_cons_zero, List.set_cons_succ]) | ((with_reducible refine wpO_step (fun K hK => ?_)); go_simp; (try go_bits); (first | (with_reducible refine hK _ _ ?_) | (simp only [IntWalk.iteOmega]; go_simp; (try go_bits); (with_reducible refine hK _ _ ?_))); clear hK K))
    (with_reducible refine wpO_nil ?_)
    go_wp2_with fail
    obtain ⟨w6, hw6⟩ : ∃ w6, w5.setCell ⟨ge, i * 8 + 7, none⟩ (.int .i64 (e0.fl + 1)) = w6 := ⟨_, rfl⟩
    rw [hw6] at HEI HE6 HS6 HH6 HT6 HK6 ⊢
    refine HEI.out.mono ?_
    rintro e7 w7 ⟨rfl, hb7⟩
    have hh7 := (hb7.block b (Array.getElem?_eq_some_iff.1 HH6.out).1).trans HH6.out
    have hE7 := HE6.out.ext hb7
    have hS7 := HS6.out.ext hb7
    have hK7 := HK6.out.trans hb7.keep
    obtain ⟨hq1, hq2⟩ := heirUp_bounds k.spare k.spare.length
    clear c0 c1 c2 c3 c4 u4 u7 a0 a1 a2 a3 a4 a5 a6 a7 ht5
    obtain ⟨c0, c1, c2, c3, c4⟩ := cells5 hh7
    have u4 := unfrozen0 hh7 4
    have hlt7 : b < w7.heap.size := (Array.getElem?_eq_some_iff.1 hh7).1
    obtain ⟨a0, a1, a2, a3, a4, a5, a6, a7⟩ := OwnE.at hE7 HE1.out
    -- what is left where entry number i has turned alone
    have alone : BkTurn w5 b (fpv (.slice (some ⟨ge, 0, none⟩) es1.length (cape + 1)) ++ fpv vs) { k with ents := es1, ch := now } (w7.setCell ⟨b, 4, none⟩ (.int .i64 now)) := by
      refine BkTurn.make (k' := { k with ents := es1, ch := now }) (v1 := .slice (some ⟨ge, 0, none⟩) es1.length (cape + 1)) (v2 := vs) (set_c _ hh7) (hE7.setO _ (by simp [fpv]; exact HB.out)) (hS7.setO _ HBS.out) (fun g hg => .inl (List.mem_append.2 hg)) (nodup3 (by simp [fpv]; exact HB.out) HBS.out (by simpa [fpv] using HDI.out ge (by simp [fpv]))) (hK7.setCell _ (.inl (by simp)))
    have HAL := Lib.hid alone
    have HH7 := Lib.hid hh7
    have HE7' := Lib.hid hE7
    have HS7' := Lib.hid hS7
    have HK7' := Lib.hid hK7
    have HT7' := Lib.hid (hb7.cell (p := ⟨tb, 1, none⟩) (World.block_lt_of_cell? w6 ⟨tb, 1, none⟩ HT6.out) |>.trans HT6.out)
    have HBX7 : Hid (w5.heap.size ≤ w7.heap.size) := by have h1 := hb7.size; have h2 := HK6.out.size; show w5.heap.size ≤ w7.heap.size; omega
    have hSeq : y.S = fpv (.slice (some ⟨ge, 0, none⟩) es1.length (cape + 1)) ++ fpv vs := by rw [HS3.out]; simp [fpv]
    rw [← hSeq, ← HYA.out] at HAL
    have HSEQ := Lib.hid hSeq
    clear alone hh7 hE7 hS7 hK7 hb7 hw6 HE6 HS6 HH6 HT6 HK6 HEI hSeq
    cases hq : heirF k.spare with
    | negSucc x =>
      have HRR : Hid (RR = ((true, 0), now, fun c => if c = f then ((L f).map (·.k)).set j { k with ents := es1, ch := now } else (L c).map (·.k))) := by
        show RR = _
        have hfb : failB now k ⟨id, famN f, ip, port⟩ = some { k with ents := es1, ch := now } := by unfold failB; simp only [HI.out, HE0.out, hq, HES.out]
        rw [HRR0.out, hfb]
      have hx : x = 0 := by unfold heirF at hq; rw [hq] at hq1; omega
      subst hx
      clear hq hq1 hq2
      go_wp2
      go_ret2
      exact fail_res HT5.out HK5.out HY.out (by have := HAL.out; rw [HYA.out] at this ⊢; exact this) HRR.out rfl
    | ofNat x =>
      have hxl : x < k.spare.length := by unfold heirF at hq; rw [hq] at hq2; simpa using hq2
      rw [Int.ofNat_eq_natCast]
      obtain ⟨e, hse⟩ : ∃ e, k.spare[x]? = some e := ⟨k.spare[x], List.getElem?_eq_getElem hxl⟩
      by_cases hbad : 2 ≤ e0.fl + 1
      · have hk3 := kindF_ge (now := now) (an := e0.an) (ak := e0.ak) hbad
        have HRR : Hid (RR = ((true, 0), now, fun c => if c = f then ((L f).map (·.k)).set j { k with ents := delF es1 i ++ [e], spare := delF k.spare x, ch := now } else (L c).map (·.k))) := by
          show RR = _
          have hfb : failB now k ⟨id, famN f, ip, port⟩ = some { k with ents := delF es1 i ++ [e], spare := delF k.spare x, ch := now } := by unfold failB; simp only [HI.out, HE0.out, hq, HES.out, hse, if_pos hbad]
          rw [HRR0.out, hfb]
        have HSE := Lib.hid hse
        have HK3' := Lib.hid hk3
        obtain ⟨gs, caps, hvs', hles, hcms, hfps, _⟩ := HS7'.out.row (by omega)
        subst hvs'
        have hm2 : k.spare.length * 80 ≤ 140737488355328 := by have := HBI.out.hs; omega
        have hbgs : b ≠ gs := fun h => HBS.out (by simp [fpv, h])
        have htgs : tb ≠ gs := fun h => HTB'.out (by simp [fpv, h])
        have hgegs : ge ≠ gs := fun h => HDI.out ge (by simp [fpv]) (by simp [fpv, h])
        have hlgs : gs < w7.heap.size := HS7'.out.fp_lt gs (by simp [fpv])
        have hlge7 : ge < w7.heap.size := HE7'.out.fp_lt ge (by simp [fpv])
        have HBS2 := Lib.hid (⟨hbgs, htgs, hgegs⟩ : b ≠ gs ∧ tb ≠ gs ∧ ge ≠ gs)
        clear hq hq1 hq2 hse hbad hk3 hbgs htgs hgegs hles hcms hfps
        go_wp2_with fail
        refine (kind_calls _ _ _ _ _ _ _ _ _ _).mono ?_
        rintro e8 w8 ⟨rfl, hb8⟩
        rw [HK3'.out]
        have hh8 := (hb8.block b hlt7).trans HH7.out
        have hS8 := HS7'.out.ext hb8
        have hE8 := HE7'.out.ext hb8
        have ht8 := (hb8.cell (p := ⟨tb, 1, none⟩) (World.block_lt_of_cell? w7 ⟨tb, 1, none⟩ HT7'.out)).trans HT7'.out
        have hK8 := HK7'.out.trans hb8.keep
        obtain ⟨c0, c1, c2, c3, c4⟩ := cells5 hh8
        clear a0 a1 a2 a3 a4 a5 a6 a7 u4
        obtain ⟨a0, a1, a2, a3, a4, a5, a6, a7⟩ := OwnE.at hS8 HSE.out
        have hs8 : w7.heap.size ≤ w8.heap.size := hb8.size
        have hlb8 : b < w8.heap.size := (Array.getElem?_eq_some_iff.1 hh8).1
        have HH8 := Lib.hid hh8
        have HS8 := Lib.hid hS8
        have HE8 := Lib.hid hE8
        have HT8 := Lib.hid ht8
        have HK8 := Lib.hid hK8
        clear hh8 hS8 hE8 ht8 hK8 hb8
        go_wp2_with fail
        obtain ⟨w0, hw0⟩ : ∃ w0, w8.alloc (.cells #[.string e.nd.id, .int .i64 e.nd.fam, .string e.nd.ip, .int .i64 e.nd.port, .int .i64 e.kd, .int .i64 e.an, .int .i64 e.ak, .int .i64 e.fl] 60) = w0 := ⟨_, rfl⟩
        have hb0 : Below w8.heap.size w8 w0 := by rw [← hw0]; exact below_new (Below.refl _ _) _
        have hbx0 : w0.heap[w8.heap.size]? = some (.cells #[.string e.nd.id, .int .i64 e.nd.fam, .string e.nd.ip, .int .i64 e.nd.port, .int .i64 e.kd, .int .i64 e.an, .int .i64 e.ak, .int .i64 e.fl] 60 (0, 0)) := by rw [← hw0]; exact heap_alloc_new w8 _
        rw [hw0]
        obtain ⟨bx, hbx⟩ : ∃ bx, w8.heap.size = bx := ⟨_, rfl⟩
        rw [hbx] at hbx0
        have hbxb : bx ≠ b := by omega
        have hbxge : bx ≠ ge := by omega
        have hbxgs : bx ≠ gs := by omega
        have hbxl : bx < w0.heap.size := (Array.getElem?_eq_some_iff.1 hbx0).1
        refine (delete_calls' w0 gs caps k.spare k.spare.length x rfl hxl (HS8.out.ext hb0) hm2).mono ?_
        rintro e9 w9 ⟨rfl, ho9, hk9⟩
        have hh9 := (hk9.block b (Nat.lt_of_lt_of_le (Array.getElem?_eq_some_iff.1 HH8.out).1 hb0.size) (fun h => HBS2.out.1 (by simpa using h))).trans ((hb0.block b (Array.getElem?_eq_some_iff.1 HH8.out).1).trans HH8.out)
        have hbx9 := (hk9.block bx hbxl (fun h => hbxgs (by simpa using h))).trans hbx0
        have hE9 := (HE8.out.ext hb0).keeps hk9 (fun y hy h => HBS2.out.2.2 (by simp [fpv] at hy; simp at h; rw [← hy, h]))
        have ht9 : w9.cell? ⟨tb, 1, none⟩ = some (.int .i64 now) := (hk9.cell (a := ⟨tb, 1, none⟩) (Nat.lt_of_lt_of_le (World.block_lt_of_cell? w8 ⟨tb, 1, none⟩ HT8.out) hb0.size) (fun h => HBS2.out.2.1 (by simpa using h))).trans ((hb0.cell (p := ⟨tb, 1, none⟩) (World.block_lt_of_cell? w8 ⟨tb, 1, none⟩ HT8.out)).trans HT8.out)
        have hK9 : Keeps (b :: (fpv (.slice (some ⟨ge, 0, none⟩) es1.length (cape + 1)) ++ fpv (.slice (some ⟨gs, 0, none⟩) k.spare.length (caps + 1)))) w5 w9 := (HK8.out.trans hb0.keep).trans (hk9.mono (fun y hy _ => by simp at hy; simp [fpv, hy]))
        clear c0 c1 c2 c3 c4 a0 a1 a2 a3 a4 a5 a6 a7 hb0 hbx0 hw0
        rw [hbx]
        obtain ⟨c0, c1, c2, c3, c4⟩ := cells5 hh9
        have u3 := unfrozen0 hh9 3
        have HH9 := Lib.hid hh9
        have HX9 := Lib.hid hbx9
        have HE9 := Lib.hid hE9
        have HO9 := Lib.hid ho9
        have HT9' := Lib.hid ht9
        have HK9 := Lib.hid hK9
        have HNN := Lib.hid (⟨hbxb, hbxge, hbxgs⟩ : bx ≠ b ∧ bx ≠ ge ∧ bx ≠ gs)
        have hbx5 : w5.heap.size ≤ bx := by have := HBX7.out; omega
        have HBX5 := Lib.hid hbx5
        clear hh9 hbx9 hE9 ho9 ht9 hK9 hk9 hbxb hbxge hbxgs hbx hbxl hs8
        go_wp2_with fail
        obtain ⟨wR, hwR⟩ : ∃ wR, w9.setCell ⟨b, 3, none⟩ (.slice (some ⟨gs, 0, none⟩) (k.spare.length - 1) (caps + 1)) = wR := ⟨_, rfl⟩
        have hhR : wR.heap[b]? = some (.cells #[.string k.pre, .int .i64 k.bits, .slice (some ⟨ge, 0, none⟩) es1.length (cape + 1), .slice (some ⟨gs, 0, none⟩) (k.spare.length - 1) (caps + 1), .int .i64 k.ch] 85 (0, 0)) := by rw [← hwR]; exact set_s _ HH9.out
        have hbxR : wR.heap[bx]? = some (.cells #[.string e.nd.id, .int .i64 e.nd.fam, .string e.nd.ip, .int .i64 e.nd.port, .int .i64 e.kd, .int .i64 e.an, .int .i64 e.ak, .int .i64 e.fl] 60 (0, 0)) := by rw [← hwR]; exact (Below.heap_setCell w9 ⟨b, 3, none⟩ _ bx HNN.out.1).trans HX9.out
        have hER : OwnE wR (.slice (some ⟨ge, 0, none⟩) es1.length (cape + 1)) es1 := by rw [← hwR]; exact HE9.out.setO _ (by simp [fpv]; exact HB.out)
        have hSR : Own wR 60 8 (.slice (some ⟨gs, 0, none⟩) (k.spare.length - 1) (caps + 1)) (k.spare.length - 1) (evs (delF k.spare x)) := by rw [← hwR]; exact HO9.out.setO _ (by simp [fpv]; exact HBS2.out.1)
        have htR : wR.cell? ⟨tb, 1, none⟩ = some (.int .i64 now) := by rw [← hwR]; exact (World.cell?_of_block (a := ⟨tb, 1, none⟩) (Below.heap_setCell w9 ⟨b, 3, none⟩ _ tb HTB.out)).trans HT9'.out
        have hKR : Keeps (b :: (fpv (.slice (some ⟨ge, 0, none⟩) es1.length (cape + 1)) ++ fpv (.slice (some ⟨gs, 0, none⟩) k.spare.length (caps + 1)))) w5 wR := by rw [← hwR]; exact HK9.out.setCell _ (.inl (by simp))
        rw [hwR]
        have HBG := HB
        have HXG := Lib.hid HNN.out.2.1
        have HTG := HTG'
        have HGG := Lib.hid (fun y hy h => by simp [fpv] at hy; exact HBS2.out.2.2 (h.symm.trans hy) : ∀ y ∈ fpv (.slice (some ⟨gs, 0, none⟩) (k.spare.length - 1) (caps + 1)), y ≠ ge)
        have HKG := Lib.hid (fun y hy => by simp [fpv, hy] : ∀ y, y = ge → y ∈ b :: (fpv (.slice (some ⟨ge, 0, none⟩) es1.length (cape + 1)) ++ fpv (.slice (some ⟨gs, 0, none⟩) k.spare.length (caps + 1))))
        have fin : ∀ wT : World, wT.heap[b]? = some (.cells #[.string k.pre, .int .i64 k.bits, .slice (some ⟨ge, 0, none⟩) es1.length (cape + 1), .slice (some ⟨gs, 0, none⟩) (k.spare.length - 1) (caps + 1), .int .i64 k.ch] 85 (0, 0)) →
            Own wT 60 8 (.slice (some ⟨ge, 0, none⟩) (es1.length - 1 + 1) (cape + 1)) (es1.length - 1 + 1) (evs (delF es1 i) ++ e.vals) →
            Own wT 60 8 (.slice (some ⟨gs, 0, none⟩) (k.spare.length - 1) (caps + 1)) (k.spare.length - 1) (evs (delF k.spare x)) →
            Keeps (b :: (fpv (.slice (some ⟨ge, 0, none⟩) es1.length (cape + 1)) ++ fpv (.slice (some ⟨gs, 0, none⟩) k.spare.length (caps + 1)))) w5 wT →
            BkTurn w5 y.a y.S { k with ents := delF es1 i ++ [e], spare := delF k.spare x, ch := now } ((wT.setCell ⟨b, 2, none⟩ (.slice (some ⟨ge, 0, none⟩) (es1.length - 1 + 1) (cape + 1))).setCell ⟨b, 4, none⟩ (.int .i64 now)) := by
          intro wT hh ho hs hk
          rw [HYA.out, HSEQ.out]
          have hle1 : (delF es1 i ++ [e]).length = es1.length - 1 + 1 := by rw [List.length_append, delF_length hil]; rfl
          have hle2 : (delF k.spare x).length = k.spare.length - 1 := delF_length hxl
          refine BkTurn.make (k' := { k with ents := delF es1 i ++ [e], spare := delF k.spare x, ch := now }) (v1 := .slice (some ⟨ge, 0, none⟩) (es1.length - 1 + 1) (cape + 1)) (v2 := .slice (some ⟨gs, 0, none⟩) (k.spare.length - 1) (caps + 1)) (set_c _ (set_e _ hh)) ?_ ?_ ?_ ?_ ?_
          · show Own _ 60 8 _ (delF es1 i ++ [e]).length (evs (delF es1 i ++ [e]))
            rw [hle1, evs_append, show evs [e] = e.vals by simp [evs]]
            exact (ho.setO _ (by simp [fpv]; exact HB.out)).setO _ (by simp [fpv]; exact HB.out)
          · show Own _ 60 8 _ (delF k.spare x).length (evs (delF k.spare x))
            rw [hle2]
            exact (hs.setO _ (by simp [fpv]; exact HBS2.out.1)).setO _ (by simp [fpv]; exact HBS2.out.1)
          · intro g hg
            refine .inl ?_
            obtain ⟨n, hn⟩ : ∃ n, k.spare.length = n + 1 := ⟨k.spare.length - 1, by omega⟩
            obtain ⟨n', hn'⟩ : ∃ n, es1.length = n + 1 := ⟨es1.length - 1, by omega⟩
            simpa [fpv] using hg
          · exact nodup3 (by simp [fpv]; exact HB.out) (by simp [fpv]; exact HBS2.out.1) (by simp [fpv]; exact HBS2.out.2.2)
          · exact (hk.setCell _ (.inl (by simp))).setCell _ (.inl (by simp))
        have FIN := Lib.hid fin
        have HV7 := Lib.hid (⟨hhR, hbxR⟩ : wR.drew.heap[b]? = some (.cells #[.string k.pre, .int .i64 k.bits, .slice (some ⟨ge, 0, none⟩) es1.length (cape + 1), .slice (some ⟨gs, 0, none⟩) (k.spare.length - 1) (caps + 1), .int .i64 k.ch] 85 (0, 0)) ∧ wR.drew.heap[bx]? = some (.cells #[.string e.nd.id, .int .i64 e.nd.fam, .string e.nd.ip, .int .i64 e.nd.port, .int .i64 e.kd, .int .i64 e.an, .int .i64 e.ak, .int .i64 e.fl] 60 (0, 0)))
        have HE7 := Lib.hid hER
        have HS7 := Lib.hid hSR
        have HT7 := Lib.hid htR
        have HK7 := Lib.hid hKR
        clear fin hhR hbxR hER hSR htR hKR hwR c0 c1 c2 c3 c4 u3 hbx5 hlgs hlge7
        refine wp_region_ordT (fun W => W.heap[b]? = some (.cells #[.string k.pre, .int .i64 k.bits, .slice (some ⟨ge, 0, none⟩) es1.length (cape + 1), .slice (some ⟨gs, 0, none⟩) (k.spare.length - 1) (caps + 1), .int .i64 k.ch] 85 (0, 0)) ∧ W.heap[bx]? = some (.cells #[.string e.nd.id, .int .i64 e.nd.fam, .string e.nd.ip, .int .i64 e.nd.port, .int .i64 e.kd, .int .i64 e.an, .int .i64 e.ak, .int .i64 e.fl] 60 (0, 0))) [[(0,0)],[(1,0)],[(2,0)],[(3,0)],[(4,4)],[(5,0)],[(6,0)],[(7,0)],[(9,4)],[(8,5),(10,5)],[(11,3)],[(12,0)],[(13,0)],[(14,3)]] (by kernel_rfl) (by kernel_rfl) ?_
        simp only [pickT, List.map_cons, List.map_nil, List.getD_cons_zero, List.getD_cons_succ]
        repeat (first | ((with_reducible refine wpT_skip ?_ ?_); rfl; simp only [Act.put, List.setIfInBounds_toArray, List.set_cons_zero, List.set_cons_succ]) | ((with_reducible refine wpT_step (fun K hK => ?_)); go_simp; (try go_bits); (first | (with_reducible refine hK _ _ ?_) | (simp only [IntWalk.iteOmega]; go_simp; (try go_bits); (with_reducible refine hK _ _ ?_))); clear hK K))
        have hV := HV7.out
        ((with_reducible refine wpT_step (fun K hK => ?_)); (refine stepV_4h (v := ?_) rfl ?_ (fun W hV => ?_) (hK _ _ ?_)); rotate_left; (first | assumption | go_simp | simp [*]); ((try dsimp only at hV); (try have hv5 := cells5 hV.1); (try have hv8 := cells8 hV.2); (try have hv1 := cells1 hV.1); (try have hv1b := cells1 hV); (try have hv3 := cells3 hV); (try have hv5b := cells5 hV.2); go_simp; try rfl); simp only [Act.put, List.setIfInBounds_toArray, List.set_cons_zero, List.set_cons_succ]; clear hK K)
        repeat (first | ((with_reducible refine wpT_skip ?_ ?_); rfl; simp only [Act.put, List.setIfInBounds_toArray, List.set_cons_zero, List.set_cons_succ]) | ((with_reducible refine wpT_step (fun K hK => ?_)); go_simp; (try go_bits); (first | (with_reducible refine hK _ _ ?_) | (simp only [IntWalk.iteOmega]; go_simp; (try go_bits); (with_reducible refine hK _ _ ?_))); clear hK K))
        ((with_reducible refine wpT_step (fun K hK => ?_)); (refine stepV_4h (v := ?_) rfl ?_ (fun W hV => ?_) (hK _ _ ?_)); rotate_left; (first | assumption | go_simp | simp [*]); ((try dsimp only at hV); (try have hv5 := cells5 hV.1); (try have hv8 := cells8 hV.2); (try have hv1 := cells1 hV.1); (try have hv1b := cells1 hV); (try have hv3 := cells3 hV); (try have hv5b := cells5 hV.2); go_simp; try rfl); simp only [Act.put, List.setIfInBounds_toArray, List.set_cons_zero, List.set_cons_succ]; clear hK K)
        repeat (first | ((with_reducible refine wpT_skip ?_ ?_); rfl; simp only [Act.put, List.setIfInBounds_toArray, List.set_cons_zero, List.set_cons_succ]) | ((with_reducible refine wpT_step (fun K hK => ?_)); go_simp; (try go_bits); (first | (with_reducible refine hK _ _ ?_) | (simp only [IntWalk.iteOmega]; go_simp; (try go_bits); (with_reducible refine hK _ _ ?_))); clear hK K))
        clear hV
        refine wpT_two ?_ ?_
        · (with_reducible refine wpT_step (fun K hK => ?_)); go_simp; (try go_bits)
          refine (delete_calls' _ ge cape es1 es1.length i rfl hil HE7.out.drew hm1).mono ?_; rintro e8 wS ⟨rfl, ho8, hk8⟩
          have hb8 := (hk8.block b ((Array.getElem?_eq_some_iff.1 HV7.out.1).1) (fun h => HBG.out (by simpa using h))).trans HV7.out.1
          have hx8 := (hk8.block bx ((Array.getElem?_eq_some_iff.1 HV7.out.2).1) (fun h => HXG.out (by simpa using h))).trans HV7.out.2
          refine ⟨fun _ _ => ⟨hb8, hx8⟩, ?_⟩
          (with_reducible refine hK _ _ ?_); clear hK K
          have htY : wS.cell? ⟨tb, 1, none⟩ = some (.int .i64 now) := (hk8.cell (a := ⟨tb, 1, none⟩) (World.block_lt_of_cell? wR.drew ⟨tb, 1, none⟩ HT7.out) (fun h => HTG.out (by simpa using h))).trans HT7.out
          have hb8l : b < wS.heap.size := (Array.getElem?_eq_some_iff.1 hb8).1
          have htb8 : tb < wS.heap.size := World.block_lt_of_cell? wS ⟨tb, 1, none⟩ htY
          have hhX : (wS.alloc (.cells #[.string e.nd.id, .int .i64 e.nd.fam, .string e.nd.ip, .int .i64 e.nd.port, .int .i64 e.kd, .int .i64 e.an, .int .i64 e.ak, .int .i64 e.fl] 60)).heap[b]? = some (.cells #[.string k.pre, .int .i64 k.bits, .slice (some ⟨ge, 0, none⟩) es1.length (cape + 1), .slice (some ⟨gs, 0, none⟩) (k.spare.length - 1) (caps + 1), .int .i64 k.ch] 85 (0, 0)) := (Below.heap_alloc wS _ b hb8l).trans hb8
          have hxX : (wS.alloc (.cells #[.string e.nd.id, .int .i64 e.nd.fam, .string e.nd.ip, .int .i64 e.nd.port, .int .i64 e.kd, .int .i64 e.an, .int .i64 e.ak, .int .i64 e.fl] 60)).heap[bx]? = some (.cells #[.string e.nd.id, .int .i64 e.nd.fam, .string e.nd.ip, .int .i64 e.nd.port, .int .i64 e.kd, .int .i64 e.an, .int .i64 e.ak, .int .i64 e.fl] 60 (0, 0)) := (Below.heap_alloc wS _ _ (Array.getElem?_eq_some_iff.1 hx8).1).trans hx8
          have htX : (wS.alloc (.cells #[.string e.nd.id, .int .i64 e.nd.fam, .string e.nd.ip, .int .i64 e.nd.port, .int .i64 e.kd, .int .i64 e.an, .int .i64 e.ak, .int .i64 e.fl] 60)).cell? ⟨tb, 1, none⟩ = some (.int .i64 now) := ((below_new (Below.refl _ wS) _).cell (p := ⟨tb, 1, none⟩) (by exact htb8)).trans htY
          have hsX := ((HS7.out.drew.keeps hk8 (fun y hy h => HGG.out y hy (by simpa using h))).alloc (.cells #[.string e.nd.id, .int .i64 e.nd.fam, .string e.nd.ip, .int .i64 e.nd.port, .int .i64 e.kd, .int .i64 e.an, .int .i64 e.ak, .int .i64 e.fl] 60))
          have hKX := ((HK7.out.drew).trans (hk8.mono (fun y hy _ => HKG.out y (by simpa using hy)))).alloc (.cells #[.string e.nd.id, .int .i64 e.nd.fam, .string e.nd.ip, .int .i64 e.nd.port, .int .i64 e.kd, .int .i64 e.an, .int .i64 e.ak, .int .i64 e.fl] 60)
          have HB8 := Lib.hid hb8l
          have HT8 := Lib.hid htb8
          have HHX := Lib.hid hhX
          have HXX := Lib.hid hxX
          clear hb8 hx8 htY hb8l htb8 hhX hxX
          (with_reducible refine wpT_step (fun K hK => ?_)); go_simp; (try go_bits)
          refine ⟨fun _ _ => ⟨HHX.out, HXX.out⟩, ?_⟩
          have hhX := HHX.out
          (with_reducible refine hK _ _ ?_); clear hK K
          repeat (first | ((with_reducible refine wpT_skip ?_ ?_); rfl; simp only [Act.put, List.setIfInBounds_toArray, List.set_cons_zero, List.set_cons_succ]) | ((with_reducible refine wpT_step (fun K hK => ?_)); go_simp; (try go_bits); (first | (with_reducible refine hK _ _ ?_) | (simp only [IntWalk.iteOmega]; go_simp; (try go_bits); (with_reducible refine hK _ _ ?_))); clear hK K))
          refine wpT_room rfl rfl Ee rfl (ho8.alloc _) e.vals rfl rfl (new_cells wS e.vals 60) (by intro u hu; exact evs_one [e] u (by simpa [evs] using hu)) (by omega) ?_
          intro wT ho9 hk9 hs9
          have hh9 : wT.heap[b]? = some (.cells #[.string k.pre, .int .i64 k.bits, .slice (some ⟨ge, 0, none⟩) es1.length (cape + 1), .slice (some ⟨gs, 0, none⟩) (k.spare.length - 1) (caps + 1), .int .i64 k.ch] 85 (0, 0)) := (hk9.block b (by simp; have := HB8.out; omega) (fun h => HBG.out (by simpa using h))).trans hhX
          have ht9 : wT.cell? ⟨tb, 1, none⟩ = some (.int .i64 now) := (hk9.cell (a := ⟨tb, 1, none⟩) (by simp; have := HT8.out; omega) (fun h => HTG.out (by simpa using h))).trans htX
          have hsp9 := hsX.keeps hk9 (fun y hy h => HGG.out y hy (by simpa using h))
          have hK9 := hKX.trans (hk9.mono (fun y hy _ => HKG.out y (by simpa using hy)))
          have HT9 := Lib.hid (FIN.out wT hh9 ho9 hsp9 hK9)
          obtain ⟨c0, c1, c2, c3, c4⟩ := cells5 hh9
          have u2 := unfrozen0 hh9 2
          have u3 := unfrozen0 hh9 3
          have u4 := unfrozen0 hh9 4
          have htb2 : tb ≠ b := HTB.out
          simp only [Act.put, List.setIfInBounds_toArray, List.set_cons_zero, List.set_cons_succ]
          clear hh9 ho9 hsp9 hK9 hhX htX hsX hKX
          repeat (first | ((with_reducible refine wpT_skip ?_ ?_); rfl; simp only [Act.put, List.setIfInBounds_toArray, List.set_cons_zero, List.set_cons_succ]) | ((with_reducible refine wpT_step (fun K hK => ?_)); go_simp; (try go_bits); (first | (with_reducible refine hK _ _ ?_) | (simp only [IntWalk.iteOmega]; go_simp; (try go_bits); (with_reducible refine hK _ _ ?_))); clear hK K))
          (with_reducible refine wpT_nil ?_)
          go_wp2
          go_ret2
          exact fail_res HT5.out HK5.out HY.out HT9.out HRR.out rfl
        · (with_reducible refine wpT_step (fun K hK => ?_)); go_simp; (try go_bits)
          have hA0 : b < wR.drew.heap.size := (Array.getElem?_eq_some_iff.1 HV7.out.1).1
          have hX0 : bx < wR.drew.heap.size := (Array.getElem?_eq_some_iff.1 HV7.out.2).1
          obtain ⟨wA, hwA⟩ : ∃ wA, (wR.alloc (.cells #[.string e.nd.id, .int .i64 e.nd.fam, .string e.nd.ip, .int .i64 e.nd.port, .int .i64 e.kd, .int .i64 e.an, .int .i64 e.ak, .int .i64 e.fl] 60)).drew = wA := ⟨_, rfl⟩
          have hhA : wA.heap[b]? = some (.cells #[.string k.pre, .int .i64 k.bits, .slice (some ⟨ge, 0, none⟩) es1.length (cape + 1), .slice (some ⟨gs, 0, none⟩) (k.spare.length - 1) (caps + 1), .int .i64 k.ch] 85 (0, 0)) := by rw [← hwA]; exact (Below.heap_alloc wR.drew _ b hA0).trans HV7.out.1
          have hxA : wA.heap[bx]? = some (.cells #[.string e.nd.id, .int .i64 e.nd.fam, .string e.nd.ip, .int .i64 e.nd.port, .int .i64 e.kd, .int .i64 e.an, .int .i64 e.ak, .int .i64 e.fl] 60 (0, 0)) := by rw [← hwA]; exact (Below.heap_alloc wR.drew _ _ hX0).trans HV7.out.2
          have htA : wA.cell? ⟨tb, 1, none⟩ = some (.int .i64 now) := by rw [← hwA]; exact ((below_new (Below.refl _ wR.drew) _).cell (p := ⟨tb, 1, none⟩) (World.block_lt_of_cell? wR.drew ⟨tb, 1, none⟩ HT7.out)).trans HT7.out
          have hsA := (HS7.out.alloc (.cells #[.string e.nd.id, .int .i64 e.nd.fam, .string e.nd.ip, .int .i64 e.nd.port, .int .i64 e.kd, .int .i64 e.an, .int .i64 e.ak, .int .i64 e.fl] 60)).drew
          have hEA := (HE7.out.alloc (.cells #[.string e.nd.id, .int .i64 e.nd.fam, .string e.nd.ip, .int .i64 e.nd.port, .int .i64 e.kd, .int .i64 e.an, .int .i64 e.ak, .int .i64 e.fl] 60)).drew
          have hKA := (HK7.out.alloc (.cells #[.string e.nd.id, .int .i64 e.nd.fam, .string e.nd.ip, .int .i64 e.nd.port, .int .i64 e.kd, .int .i64 e.an, .int .i64 e.ak, .int .i64 e.fl] 60)).drew
          have hnA := new_cells wR.drew e.vals 60
          have hszA : wA.heap.size = wR.heap.size + 1 := by rw [← hwA]; simp
          change ∀ (j : Nat) u, e.vals[j]? = some u → (wR.alloc (.cells #[.string e.nd.id, .int .i64 e.nd.fam, .string e.nd.ip, .int .i64 e.nd.port, .int .i64 e.kd, .int .i64 e.an, .int .i64 e.ak, .int .i64 e.fl] 60)).drew.cell? ((⟨wR.heap.size, 0, none⟩ : Addr).add j) = some u at hnA
          rw [hwA] at hsA hEA hKA hnA ⊢
          have HHA := Lib.hid hhA
          have HXA := Lib.hid hxA
          have HTA := Lib.hid htA
          have HSA := Lib.hid hsA
          have HEA := Lib.hid hEA
          have HKA := Lib.hid hKA
          have HNA := Lib.hid hnA
          have HZA := Lib.hid hszA
          clear hA0 hX0 hwA hhA hxA htA hsA hEA hKA hnA hszA
          refine ⟨fun _ _ => ⟨HHA.out, HXA.out⟩, ?_⟩
          (with_reducible refine hK _ _ ?_); clear hK K
          repeat (first | ((with_reducible refine wpT_skip ?_ ?_); rfl; simp only [Act.put, List.setIfInBounds_toArray, List.set_cons_zero, List.set_cons_succ]) | ((with_reducible refine wpT_step (fun K hK => ?_)); go_simp; (try go_bits); (first | (with_reducible refine hK _ _ ?_) | (simp only [IntWalk.iteOmega]; go_simp; (try go_bits); (with_reducible refine hK _ _ ?_))); clear hK K))
          (with_reducible refine wpT_step (fun K hK => ?_)); go_simp; (try go_bits)
          refine (delete_calls' _ ge cape es1 es1.length i rfl hil HEA.out hm1).mono ?_; rintro e8 wS ⟨rfl, ho8, hk8⟩
          have hb8 := (hk8.block b (Array.getElem?_eq_some_iff.1 HHA.out).1 (fun h => HBG.out (by simpa using h))).trans HHA.out
          have hx8 := (hk8.block bx (Array.getElem?_eq_some_iff.1 HXA.out).1 (fun h => HXG.out (by simpa using h))).trans HXA.out
          refine ⟨fun _ _ => ⟨hb8, hx8⟩, ?_⟩
          (with_reducible refine hK _ _ ?_); clear hK K
          have hhX : wS.heap[b]? = some (.cells #[.string k.pre, .int .i64 k.bits, .slice (some ⟨ge, 0, none⟩) es1.length (cape + 1), .slice (some ⟨gs, 0, none⟩) (k.spare.length - 1) (caps + 1), .int .i64 k.ch] 85 (0, 0)) := hb8
          have htX : wS.cell? ⟨tb, 1, none⟩ = some (.int .i64 now) := (hk8.cell (a := ⟨tb, 1, none⟩) (World.block_lt_of_cell? wA ⟨tb, 1, none⟩ HTA.out) (fun h => HTG.out (by simpa using h))).trans HTA.out
          have hsX := HSA.out.keeps hk8 (fun y hy h => HGG.out y hy (by simpa using h))
          have hKX := HKA.out.trans (hk8.mono (fun y hy _ => HKG.out y (by simpa using hy)))
          have hgA : ge < wR.heap.size := HE7.out.fp_lt ge (by simp [fpv])
          have hnc : ∀ (j : Nat) (u : Value), e.vals[j]? = some u → wS.cell? ((⟨wR.heap.size, 0, none⟩ : Addr).add j) = some u := fun j u hu =>
            (hk8.cell (a := (⟨wR.heap.size, 0, none⟩ : Addr).add j) (by rw [show ((⟨wR.heap.size, 0, none⟩ : Addr).add j).block = wR.heap.size by unfold Addr.add; split <;> rfl, HZA.out]; omega) (by rw [show ((⟨wR.heap.size, 0, none⟩ : Addr).add j).block = wR.heap.size by unfold Addr.add; split <;> rfl]; simp; omega)).trans (HNA.out j u hu)
          have HB8 := Lib.hid ((Array.getElem?_eq_some_iff.1 hhX).1 : b < wS.heap.size)
          have HT8 := Lib.hid (World.block_lt_of_cell? wS ⟨tb, 1, none⟩ htX)
          have HNC := Lib.hid hnc
          clear hb8 hx8 hnc hgA
          repeat (first | ((with_reducible refine wpT_skip ?_ ?_); rfl; simp only [Act.put, List.setIfInBounds_toArray, List.set_cons_zero, List.set_cons_succ]) | ((with_reducible refine wpT_step (fun K hK => ?_)); go_simp; (try go_bits); (first | (with_reducible refine hK _ _ ?_) | (simp only [IntWalk.iteOmega]; go_simp; (try go_bits); (with_reducible refine hK _ _ ?_))); clear hK K))
          have hnc := HNC.out
          refine wpT_room rfl rfl Ee rfl ho8 e.vals rfl rfl (fun j u hu => hnc j u hu) (by intro u hu; exact evs_one [e] u (by simpa [evs] using hu)) (by omega) ?_
          intro wT ho9 hk9 hs9
          have hh9 : wT.heap[b]? = some (.cells #[.string k.pre, .int .i64 k.bits, .slice (some ⟨ge, 0, none⟩) es1.length (cape + 1), .slice (some ⟨gs, 0, none⟩) (k.spare.length - 1) (caps + 1), .int .i64 k.ch] 85 (0, 0)) := (hk9.block b HB8.out (fun h => HBG.out (by simpa using h))).trans hhX
          have ht9 : wT.cell? ⟨tb, 1, none⟩ = some (.int .i64 now) := (hk9.cell (a := ⟨tb, 1, none⟩) HT8.out (fun h => HTG.out (by simpa using h))).trans htX
          have hsp9 := hsX.keeps hk9 (fun y hy h => HGG.out y hy (by simpa using h))
          have hK9 := hKX.trans (hk9.mono (fun y hy _ => HKG.out y (by simpa using hy)))
          have HT9 := Lib.hid (FIN.out wT hh9 ho9 hsp9 hK9)
          obtain ⟨c0, c1, c2, c3, c4⟩ := cells5 hh9
          have u2 := unfrozen0 hh9 2
          have u3 := unfrozen0 hh9 3
          have u4 := unfrozen0 hh9 4
          have htb2 : tb ≠ b := HTB.out
          simp only [Act.put, List.setIfInBounds_toArray, List.set_cons_zero, List.set_cons_succ]
          clear hh9 ho9 hsp9 hK9 hhX htX hsX hKX
          repeat (first | ((with_reducible refine wpT_skip ?_ ?_); rfl; simp only [Act.put, List.setIfInBounds_toArray, List.set_cons_zero, List.set_cons_succ]) | ((with_reducible refine wpT_step (fun K hK => ?_)); go_simp; (try go_bits); (first | (with_reducible refine hK _ _ ?_) | (simp only [IntWalk.iteOmega]; go_simp; (try go_bits); (with_reducible refine hK _ _ ?_))); clear hK K))
          (with_reducible refine wpT_nil ?_)
          go_wp2
          go_ret2
          exact fail_res HT5.out HK5.out HY.out HT9.out HRR.out rfl
      · have HRR : Hid (RR = ((true, 0), now, fun c => if c = f then ((L f).map (·.k)).set j { k with ents := es1, ch := now } else (L c).map (·.k))) := by
          show RR = _
          have hfb : failB now k ⟨id, famN f, ip, port⟩ = some { k with ents := es1, ch := now } := by unfold failB; simp only [HI.out, HE0.out, hq, HES.out, hse, if_neg hbad]
          rw [HRR0.out, hfb]
        have hk3 := kindF_lt (now := now) (an := e0.an) (ak := e0.ak) hbad
        clear hq hq1 hq2 hse hbad
        go_wp2_with fail
        refine (kind_calls _ _ _ _ _ _ _ _ _ _).mono ?_
        rintro e8 w8 ⟨rfl, hb8⟩
        have hh8 := (hb8.block b hlt7).trans HH7.out
        obtain ⟨c0, c1, c2, c3, c4⟩ := cells5 hh8
        have u4 := unfrozen0 hh8 4
        have hfin : BkTurn w5 y.a y.S { k with ents := es1, ch := now } (w8.setCell ⟨b, 4, none⟩ (.int .i64 now)) := by
          rw [HYA.out, HSEQ.out]
          exact BkTurn.make (k' := { k with ents := es1, ch := now }) (v1 := .slice (some ⟨ge, 0, none⟩) es1.length (cape + 1)) (v2 := vs) (set_c _ hh8) ((HE7'.out.ext hb8).setO _ (by simp [fpv]; exact HB.out)) ((HS7'.out.ext hb8).setO _ HBS.out) (fun g hg => .inl (List.mem_append.2 hg)) (nodup3 (by simp [fpv]; exact HB.out) HBS.out (by simpa [fpv] using HDI.out ge (by simp [fpv]))) ((HK7'.out.trans hb8.keep).setCell _ (.inl (by simp)))
        have HFIN := Lib.hid hfin
        clear hfin hh8 hb8
        go_wp2
        go_ret2
        exact fail_res HT5.out HK5.out HY.out HFIN.out HRR.out rfl
  | none =>
    rw [idxF_no hi]
    cases hs : k.spare.findIdx? (fun e => decide (e.nd = ⟨id, famN f, ip, port⟩)) with
    | none =>
      rw [idxF_no hs]
      have HRR : Hid (RR = ((false, 0), now, fun c => (L c).map (·.k))) := by
        show RR = _
        have hfb : failB now k ⟨id, famN f, ip, port⟩ = none := by unfold failB; simp only [hi, hs]
        rw [HRR0.out, hfb]
        simp only
        congr 2
        funext c
        by_cases hc : c = f <;> simp [hc]
      clear hi hs
      repeat (first | ((with_reducible refine wpO_skip ?_ ?_); rfl; simp only [Act.put, List.setIfInBounds_toArray, List.set_cons_zero, List.set_cons_succ]) | ((with_reducible refine wpO_step (fun K hK => ?_)); go_simp; (try go_bits); (first | (with_reducible refine hK _ _ ?_) | (simp only [IntWalk.iteOmega]; go_simp; (try go_bits); (with_reducible refine hK _ _ ?_))); clear hK K))
      (with_reducible refine wpO_nil ?_)
      go_wp2
      go_ret2
      exact tabRes_same HT5.out HK5.out (by rw [HRR.out]) (by rw [HRR.out]; rfl)
    | some i =>
      rw [idxF_some hs]
      have hil := findIdx_lt hs
      obtain ⟨e0, he0⟩ : ∃ e, k.spare[i]? = some e := ⟨k.spare[i], List.getElem?_eq_getElem hil⟩
      obtain ⟨gs, caps, hvg, hlee, hcme, hfpe, _⟩ := HS5.out.row (by omega)
      subst hvg
      have hfl := HBI.out.all e0 (.inr (List.mem_of_getElem? he0))
      obtain ⟨hfl1, hfl2⟩ := hfl.2.2.2
      obtain ⟨a0, a1, a2, a3, a4, a5, a6, a7⟩ := OwnE.at HS5.out he0
      have u7 := Own.frozen HS5.out (i := i * 8 + 7) (by omega)
      have hlgs : gs < w5.heap.size := HS5.out.fp_lt gs (by simp [fpv])
      have hbgs : b ≠ gs := fun h => HBS.out (by simp [fpv, h])
      have hgsve : gs ∉ fpv ve := fun h => HDI.out gs h (by simp [fpv])
      obtain ⟨es1, hes1⟩ : ∃ es1, k.spare.set i { e0 with fl := e0.fl + 1 } = es1 := ⟨_, rfl⟩
      have hlen1 : k.spare.length = es1.length := by rw [← hes1]; simp
      have hS6 := OwnE.setFl HS5.out he0 (e0.fl + 1)
      rw [hes1] at hS6
      have hE6 : OwnE (w5.setCell ⟨gs, i * 8 + 7, none⟩ (.int .i64 (e0.fl + 1))) ve k.ents := HE5.out.setO _ hgsve
      have hh6 := (Below.heap_setCell w5 ⟨gs, i * 8 + 7, none⟩ (.int .i64 (e0.fl + 1)) b hbgs).trans HH5.out
      have hK6 : Keeps (b :: (fpv ve ++ fpv (.slice (some ⟨gs, 0, none⟩) es1.length (caps + 1)))) w5 (w5.setCell ⟨gs, i * 8 + 7, none⟩ (.int .i64 (e0.fl + 1))) := (Keeps.refl _ _).setCell _ (.inl (by simp [fpv]))
      have he1 : es1[i]? = some { e0 with fl := e0.fl + 1 } := by rw [← hes1]; exact List.getElem?_set_self hil
      have HI := Lib.hid hi
      have HSI := Lib.hid hs
      have HE0 := Lib.hid he0
      have HE1 := Lib.hid he1
      have HES := Lib.hid hes1
      have HB := Lib.hid hbgs
      have HGV := Lib.hid hgsve
      have hilk : i < k.spare.length := hil
      rw [hlen1] at hS6 hh6 hil
      have HE6 := Lib.hid hE6
      have HS6 := Lib.hid hS6
      have HH6 := Lib.hid hh6
      have HK6 := Lib.hid hK6
      have hm1 : es1.length * 80 ≤ 140737488355328 := by have := HBI.out.hs; omega
      have hSeq : y.S = fpv ve ++ fpv (.slice (some ⟨gs, 0, none⟩) es1.length (caps + 1)) := by rw [HS3.out]; simp [fpv]
      have HSEQ := Lib.hid hSeq
      clear hi hs he0 hes1 hE6 hS6 hh6 hK6 he1 hlen1 hfl hbgs hgsve hlee hcme hfpe hSeq
      obtain ⟨w6, hw6⟩ : ∃ w6, w5.setCell ⟨gs, i * 8 + 7, none⟩ (.int .i64 (e0.fl + 1)) = w6 := ⟨_, rfl⟩
      rw [hw6] at HE6 HS6 HH6 HK6
      have HW6 := Lib.hid hw6
      obtain ⟨z0, z1, z2, z3, z4, z5, z6, z7⟩ := OwnE.at HS6.out HE1.out
      obtain ⟨d0, d1, d2, d3, d4⟩ := cells5 HH6.out
      rw [← hw6] at z0 z1 z2 z3 z4 z5 z6 z7 d0 d1 d2 d3 d4
      clear hw6
      repeat (first | ((with_reducible refine wpO_skip ?_ ?_); rfl; simp only [Act.put, List.setIfInBounds_toArray, List.set_cons_zero, List.set_cons_succ]) | ((with_reducible refine wpO_step (fun K hK => ?_)); go_simp; (try go_bits); (first | (with_reducible refine hK _ _ ?_) | (simp only [IntWalk.iteOmega]; go_simp; (try go_bits); (with_reducible refine hK _ _ ?_))); clear hK K))
      (with_reducible refine wpO_nil ?_)
      go_wp2_with fail
      rw [HW6.out]
      refine (kind_calls _ _ _ _ _ _ _ _ _ _).mono ?_
      rintro e8 w8 ⟨rfl, hb8⟩
      clear z0 z1 z2 z3 z4 z5 z6 z7 d0 d1 d2 d3 d4 c0 c1 c2 c3 c4 a0 a1 a2 a3 a4 a5 a6 a7 u4 u7 ht5
      have hh8 := (hb8.block b (Array.getElem?_eq_some_iff.1 HH6.out).1).trans HH6.out
      have hS8 := HS6.out.ext hb8
      have hE8 := HE6.out.ext hb8
      have hK8 := HK6.out.trans hb8.keep
      obtain ⟨c0, c1, c2, c3, c4⟩ := cells5 hh8
      have u3 := unfrozen0 hh8 3
      have u4 := unfrozen0 hh8 4
      by_cases hbad : 2 ≤ e0.fl + 1
      · have hk3 := kindF_ge (now := now) (an := e0.an) (ak := e0.ak) hbad
        rw [hk3]
        have HRR : Hid (RR = ((true, 0), now, fun c => if c = f then ((L f).map (·.k)).set j { k with spare := delF es1 i, ch := now } else (L c).map (·.k))) := by
          show RR = _
          have hfb : failB now k ⟨id, famN f, ip, port⟩ = some { k with spare := delF es1 i, ch := now } := by unfold failB; simp only [HI.out, HSI.out, HE0.out, HES.out, if_pos hbad]
          rw [HRR0.out, hfb]
        have HH8 := Lib.hid hh8
        have HS8 := Lib.hid hS8
        have HE8 := Lib.hid hE8
        have HK8 := Lib.hid hK8
        clear hk3 hbad hh8 hS8 hE8 hK8 hb8
        go_wp2_with fail
        refine (delete_calls' w8 gs caps es1 es1.length i rfl hil HS8.out hm1).mono ?_
        rintro e9 w9 ⟨rfl, ho9, hk9⟩
        have hh9 := (hk9.block b (Array.getElem?_eq_some_iff.1 HH8.out).1 (fun h => HB.out (by simpa using h))).trans HH8.out
        have hE9 := HE8.out.keeps hk9 (fun y hy h => HGV.out (by simp at h; rw [← h]; exact hy))
        clear c0 c1 c2 c3 c4 u3 u4
        obtain ⟨c0, c1, c2, c3, c4⟩ := cells5 hh9
        have u3 := unfrozen0 hh9 3
        have u4 := unfrozen0 hh9 4
        have hfin : BkTurn w5 y.a y.S { k with spare := delF es1 i, ch := now } ((w9.setCell ⟨b, 3, none⟩ (.slice (some ⟨gs, 0, none⟩) (es1.length - 1) (caps + 1))).setCell ⟨b, 4, none⟩ (.int .i64 now)) := by
          rw [HYA.out, HSEQ.out]
          have hle2 : (delF es1 i).length = es1.length - 1 := delF_length hil
          refine BkTurn.make (k' := { k with spare := delF es1 i, ch := now }) (v1 := ve) (v2 := .slice (some ⟨gs, 0, none⟩) (es1.length - 1) (caps + 1)) (set_c _ (set_s _ hh9)) ((hE9.setO _ HBE.out).setO _ HBE.out) ?_ (fun g hg => .inl (List.mem_append.2 (by simpa [fpv] using hg))) (nodup3 HBE.out (by simp [fpv]; exact HB.out) (fun g h1 h2 => HDI.out g h1 (by simpa [fpv] using h2))) ((((HK8.out.trans (hk9.mono (fun y hy _ => by simp at hy; simp [fpv, hy]))).setCell _ (.inl (by simp))).setCell _ (.inl (by simp))))
          show Own _ 60 8 _ (delF es1 i).length (evs (delF es1 i))
          rw [hle2]
          exact (ho9.setO _ (by simp [fpv]; exact HB.out)).setO _ (by simp [fpv]; exact HB.out)
        have HFIN := Lib.hid hfin
        clear hfin hh9 hE9 ho9 hk9
        go_wp2
        go_ret2
        exact fail_res HT5.out HK5.out HY.out HFIN.out HRR.out rfl
      · have hk3 := kindF_lt (now := now) (an := e0.an) (ak := e0.ak) hbad
        have HRR : Hid (RR = ((true, 0), now, fun c => if c = f then ((L f).map (·.k)).set j { k with spare := es1, ch := now } else (L c).map (·.k))) := by
          show RR = _
          have hfb : failB now k ⟨id, famN f, ip, port⟩ = some { k with spare := es1, ch := now } := by unfold failB; simp only [HI.out, HSI.out, HE0.out, HES.out, if_neg hbad]
          rw [HRR0.out, hfb]
        have hfin : BkTurn w5 y.a y.S { k with spare := es1, ch := now } (w8.setCell ⟨b, 4, none⟩ (.int .i64 now)) := by
          rw [HYA.out, HSEQ.out]
          exact BkTurn.make (k' := { k with spare := es1, ch := now }) (v1 := ve) (v2 := .slice (some ⟨gs, 0, none⟩) es1.length (caps + 1)) (set_c _ hh8) (hE8.setO _ HBE.out) (hS8.setO _ (by simp [fpv]; exact HB.out)) (fun g hg => .inl (List.mem_append.2 hg)) (nodup3 HBE.out (by simp [fpv]; exact HB.out) (fun g h1 h2 => HDI.out g h1 (by simpa [fpv] using h2))) (hK8.setCell _ (.inl (by simp)))
        have HFIN := Lib.hid hfin
        clear hfin hbad hh8 hS8 hE8 hK8 hb8
        go_wp2
        go_ret2
        exact fail_res HT5.out HK5.out HY.out HFIN.out HRR.out rfl
set_option maxRecDepth 100000 in
theorem failed_calls (w : World) (tb : Nat) (own : ByteArray) (now0 : Int) (lab : Nat → Option Nat) (m : Nat) (v : Bool → Value) (L : Bool → List Pl) (h : TbIn w tb own now0 lab m v L) (N : Int) (hF : ∀ f, FInv own f N ((L f).map (·.k))) (hN : N ≤ 1000000)
    (now : Int) (n : Nd) : Calls Tryz.prog 10 #[.pointer (some ⟨tb, 0, none⟩), .int .i64 now, ndV n] w (TabRes w tb own lab m (failT now0 (fun c => (L c).map (·.k)) now n)) := by
  have ltt : tb < w.heap.size := h.lt _ _ h.l0
  cases hv : vnF n with
  | false =>
    have hr : failT now0 (fun c => (L c).map (·.k)) now n = ((false, 1), now0, fun c => (L c).map (·.k)) := by unfold failT; rw [if_pos hv]
    have hvn : ∀ W, Calls Tryz.prog 24 #[ndV n] W (Ret W (.bool false)) := fun W => by have := validnode_calls W n; rw [hv] at this; exact this
    rw [hr]
    obtain ⟨id, fam, ip, port⟩ := n
    unfold ndV at hvn ⊢
    have HT := Lib.hid h
    have HVN := Lib.hid hvn
    clear h hF hv hr hvn
    go_enter Tryz.func10, Tryz.ntmps10
    go_wp2_with fail
    refine (HVN.out _).mono ?_
    rintro e1 w1 ⟨rfl, hb1⟩
    have hB1 : Below w.heap.size w w1 := (below_new (Below.refl _ w) _).trans (hb1.mono (by simp))
    clear hb1
    go_wp2
    go_ret2
    exact tabRes_same (HT.out.below hB1).1 (HT.out.below hB1).2 rfl rfl
  | true =>
    obtain ⟨hid20, b, hfam⟩ := vnF_fam hv
    by_cases ht : now < now0 ∨ 1000000000 < now
    · have hr : failT now0 (fun c => (L c).map (·.k)) now n = ((false, 7), now0, fun c => (L c).map (·.k)) := by unfold failT; rw [if_neg (by rw [hv]; simp), if_pos ht]
      have hvn : ∀ W, Calls Tryz.prog 24 #[ndV n] W (Ret W (.bool true)) := fun W => by have := validnode_calls W n; rw [hv] at this; exact this
      rw [hr]
      obtain ⟨id, fam, ip, port⟩ := n
      simp only at hfam hid20
      subst hfam
      unfold ndV at hvn ⊢
      have HT := Lib.hid h
      have HVN := Lib.hid hvn
      have HTT := Lib.hid ht
      clear h hF hv hr hvn ht
      go_enter Tryz.func10, Tryz.ntmps10
      go_wp2_with fail
      have hbx := heap_alloc_new w (.cells #[.string id, .int .i64 (famN b), .string ip, .int .i64 port] 33)
      refine (HVN.out _).mono ?_
      rintro e1 w1 ⟨rfl, hb1⟩
      have hbx1 := (hb1.block w.heap.size (by simp)).trans hbx
      have hB1 : Below w.heap.size w w1 := (below_new (Below.refl _ w) _).trans (hb1.mono (by simp))
      have hT1 := HT.out.ext hB1
      obtain ⟨x0, x1, x2, x3⟩ := cells4 hbx1
      have htell := tell_no w1 tb _ now0 now (famN b) _ hT1.hh (HTT.out.imp (fun h => h) .inl)
      have HB1 := Lib.hid hB1
      clear hbx hb1 hbx1 hB1 hT1
      go_wp2_with fail
      refine htell.mono ?_
      rintro e2 w2 ⟨rfl, rfl⟩
      clear htell
      go_wp2
      go_ret2
      exact tabRes_same (HT.out.below HB1.out).1 (HT.out.below HB1.out).2 rfl rfl
    · obtain ⟨id, fam, ip, port⟩ := n
      simp only at hfam hid20
      subst hfam
      refine failed_main w tb own now0 lab m v L h N b (hF b) hN now id ip port hv (by omega) (by omega) _ ?_
      unfold failT
      rw [if_neg (by rw [hv]; simp), if_neg ht]
      simp only [famN_6]
end Go.Proofs.Tc
