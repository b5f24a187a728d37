import Derived.Test.YtjjnbanlofhhnaaGreatE9
namespace Go.Proofs.Tc
open Go.RowKit Go.Sort Go.Shelf
attribute [local go_sem] stepO_0 stepO_1 stepO_2 stepO_3 stepV_0 stepV_1 stepV_2 stepV_3 stepV_5

theorem KeepL.drew {lab : Nat → Option Nat} {w W : World} (h : KeepL lab w W) : KeepL lab w W.drew := ⟨h.os, h.tape, h.output, h.size, h.block⟩
theorem tabRes_same {w w' : World} {t : Nat} {own : ByteArray} {now : Int} {lab : Nat → Option Nat} {m : Nat} {v : Bool → Value} {L : Bool → List Pl} (h : TbIn w' t own now lab m v L) (hK : KeepL lab w w') {r : (Bool × Int) × Int × (Bool → List Bk)} (hr : r = ((r.1.1, r.1.2), now, fun c => (L c).map (·.k))) {e : Ending} (he : e = .returned (.tuple #[.bool r.1.1, .int .i64 r.1.2])) : TabRes w t own lab m r e w' := by
  refine ⟨he, lab, v, L, ?_, fun c => ?_, fun _ _ h => h, hK⟩
  · rw [hr]; exact h
  · rw [hr]
theorem TbIn.below {w w' : World} {t : Nat} {own : ByteArray} {now : Int} {lab : Nat → Option Nat} {m : Nat} {v : Bool → Value} {L : Bool → List Pl} (h : TbIn w t own now lab m v L) (hb : Below w.heap.size w w') : TbIn w' t own now lab m v L ∧ KeepL lab w w' := ⟨h.ext hb, KeepL.of_below hb⟩
theorem Bx.cells {W : World} {s : Nat} {now : Int} {n : Nd} {r : Bool} (h : Bx W s now n r) (r' : Bool) (k : Int) :
    ((W.setCell ⟨s + 1 + 1, 0, none⟩ (.bool r')).setCell ⟨s + 1 + 1 + 1, 0, none⟩ (.int .i64 k)).cell? ⟨s + 1 + 1, 0, none⟩ = some (.bool r') ∧ ((W.setCell ⟨s + 1 + 1, 0, none⟩ (.bool r')).setCell ⟨s + 1 + 1 + 1, 0, none⟩ (.int .i64 k)).cell? ⟨s + 1 + 1 + 1, 0, none⟩ = some (.int .i64 k) := by
  have o : ∀ (X : World) (b k : Nat) (u : Value), k ≠ b → (X.setCell ⟨b, 0, none⟩ u).heap[k]? = X.heap[k]? := fun X b k u hk => Below.heap_setCell X ⟨b, 0, none⟩ u k hk
  have h2 : ((W.setCell ⟨s + 1 + 1, 0, none⟩ (.bool r')).setCell ⟨s + 1 + 1 + 1, 0, none⟩ (.int .i64 k)).heap[s + 1 + 1]? = some (.cells (#[Value.bool r].setIfInBounds 0 (.bool r')) 4 (0, 0)) := (o _ (s + 1 + 1 + 1) (s + 1 + 1) _ (by omega)).trans (setCell_heap W ⟨s + 1 + 1, 0, none⟩ _ rfl h.b2)
  have h3 : ((W.setCell ⟨s + 1 + 1, 0, none⟩ (.bool r')).setCell ⟨s + 1 + 1 + 1, 0, none⟩ (.int .i64 k)).heap[s + 1 + 1 + 1]? = some (.cells (#[Value.int .i64 0].setIfInBounds 0 (.int .i64 k)) 27 (0, 0)) := setCell_heap _ ⟨s + 1 + 1 + 1, 0, none⟩ _ rfl ((o _ (s + 1 + 1) (s + 1 + 1 + 1) _ (by omega)).trans h.b3)
  exact ⟨cells1 h2, cells1 h3⟩
set_option maxRecDepth 100000 in
set_option maxHeartbeats 1000000 in
theorem seen_calls (w : World) (t : Nat) (own : ByteArray) (now0 : Int) (lab : Nat → Option Nat) (m : Nat) (v : Bool → Value) (L : Bool → List Pl) (h : TbIn w t own now0 lab m v L) (hown : own.size = 20) (N : Int) (hF : ∀ b, FInv own b N ((L b).map (·.k))) (hN : 0 ≤ N)
    (now : Int) (n : Nd) (ans : Bool) :
    Calls Tryz.prog 9 #[.pointer (some ⟨t, 0, none⟩), .int .i64 now, ndV n, .bool ans] w (TabRes w t own lab m (seenT own now0 (fun c => (L c).map (·.k)) now n ans)) := by
  have ltt : t < w.heap.size := h.lt _ _ h.l0
  cases hv : vnF n with
  | false =>
    have hr : seenT own now0 (fun c => (L c).map (·.k)) now n ans = ((false, 1), now0, fun c => (L c).map (·.k)) := by unfold seenT; rw [if_pos hv]
    have hvn : ∀ W, Calls Tryz.prog 24 #[ndV n] W (Ret W (.bool false)) := fun W => by have := validnode_calls W n; rw [hv] at this; exact this
    rw [hr]
    obtain ⟨id, fam, ip, port⟩ := n
    unfold ndV at hvn ⊢
    have HT := Lib.hid h
    have HVN := Lib.hid hvn
    clear h hF hv hr hvn
    go_enter Tryz.func9, Tryz.ntmps9
    go_wp2_with fail
    have hbx := bx_new w now ⟨id, fam, ip, port⟩ false
    refine (HVN.out _).mono ?_
    rintro e1 w1 ⟨rfl, hb1⟩
    have hbx1 := hbx.ext hb1
    have hB1 : Below w.heap.size w w1 := below_ext (by go_grown) hb1
    have y2 := cells1 hbx1.b2
    have y3 := cells1 hbx1.b3
    have u2 := unfrozen0 hbx1.b2 0
    have u3 := unfrozen0 hbx1.b3 0
    have HB1 := Lib.hid hB1
    have HBX := Lib.hid hbx1
    clear hbx hb1 hbx1 hB1
    go_wp2
    refine bodyPost_ret (v := .tuple #[.bool false, .int .i64 1]) ?_ rfl ?_
    · obtain ⟨z2, z3⟩ := HBX.out.cells false 1
      simp [results, Tryz.f9, go_sem, z2, z3]
    · have hB : Below w.heap.size w ((w1.setCell ⟨w.heap.size + 1 + 1, 0, none⟩ (.bool false)).setCell ⟨w.heap.size + 1 + 1 + 1, 0, none⟩ (.int .i64 1)) := below_res HB1.out _ _
      exact tabRes_same (HT.out.below hB).1 (HT.out.below hB).2 rfl rfl
  | true =>
    obtain ⟨hid20, b, hfam⟩ := vnF_fam hv
    have hvn : ∀ W, Calls Tryz.prog 24 #[ndV n] W (Ret W (.bool true)) := fun W => by have := validnode_calls W n; rw [hv] at this; exact this
    obtain ⟨id, fam, ip, port⟩ := n
    simp only at hfam hid20
    subst hfam
    by_cases ht : now < now0 ∨ 1000000000 < now
    · have hr : seenT own now0 (fun c => (L c).map (·.k)) now ⟨id, famN b, ip, port⟩ ans = ((false, 7), now0, fun c => (L c).map (·.k)) := by unfold seenT; rw [if_neg (by rw [hv]; simp), if_pos ht]
      rw [hr]
      unfold ndV at hvn ⊢
      have HT := Lib.hid h
      have HVN := Lib.hid hvn
      have HTT := Lib.hid ht
      clear h hF hv hr hvn ht
      go_enter Tryz.func9, Tryz.ntmps9
      go_wp2_with fail
      have hbx := bx_new w now ⟨id, famN b, ip, port⟩ false
      refine (HVN.out _).mono ?_
      rintro e1 w1 ⟨rfl, hb1⟩
      have hbx1 := hbx.ext hb1
      have hB1 : Below w.heap.size w w1 := below_ext (by go_grown) hb1
      have hT1 := HT.out.ext hB1
      obtain ⟨x0, x1, x2, x3⟩ := cells4 hbx1.b1
      have y0 := cells1 hbx1.b0
      have y2 := cells1 hbx1.b2
      have y3 := cells1 hbx1.b3
      have u2 := unfrozen0 hbx1.b2 0
      have u3 := unfrozen0 hbx1.b3 0
      have hl1 := hbx1.lt
      have htell := tell_no w1 t _ now0 now (famN b) _ hT1.hh (HTT.out.imp (fun h => h) .inl)
      have HB1 := Lib.hid hB1
      have HBX := Lib.hid hbx1
      clear hbx hb1 hbx1 hB1 hT1
      go_wp2_with fail
      refine htell.mono ?_
      rintro e2 w2 ⟨rfl, rfl⟩
      clear htell
      go_wp2
      refine bodyPost_ret (v := .tuple #[.bool false, .int .i64 7]) ?_ rfl ?_
      · obtain ⟨z2, z3⟩ := HBX.out.cells false 7
        simp [results, Tryz.f9, go_sem, z2, z3]
      · have hB := below_res HB1.out (.bool false) (.int .i64 7)
        exact tabRes_same (HT.out.below hB).1 (HT.out.below hB).2 rfl rfl
    · by_cases hio : id = own
      · have hr : seenT own now0 (fun c => (L c).map (·.k)) now ⟨id, famN b, ip, port⟩ ans = ((false, 0), now, fun c => (L c).map (·.k)) := by unfold seenT; rw [if_neg (by rw [hv]; simp), if_neg ht, if_pos hio]
        rw [hr]
        unfold ndV at hvn ⊢
        subst hio
        have HT := Lib.hid h
        have HVN := Lib.hid hvn
        have ht1 : now0 ≤ now := by omega
        have ht2 : now ≤ 1000000000 := by omega
        clear h hF hv hr hvn ht
        go_enter Tryz.func9, Tryz.ntmps9
        go_wp2_with fail
        have hbx := bx_new w now ⟨id, famN b, ip, port⟩ false
        refine (HVN.out _).mono ?_
        rintro e1 w1 ⟨rfl, hb1⟩
        have hbx1 := hbx.ext hb1
        have hB1 : Below w.heap.size w w1 := below_ext (by go_grown) hb1
        have hT1 := HT.out.ext hB1
        obtain ⟨x0, x1, x2, x3⟩ := cells4 hbx1.b1
        have y0 := cells1 hbx1.b0
        have hl1 := hbx1.lt
        have htell := tell_ok w1 t _ now0 now b _ hT1.hh ht1 ht2
        have HB1 := Lib.hid hB1
        have HBX := Lib.hid hbx1
        have HT1 := Lib.hid hT1
        clear hbx hb1 hbx1 hB1 hT1
        go_wp2_with fail
        refine htell.mono ?_
        rintro e2 w2 ⟨rfl, hw2⟩
        obtain ⟨hT2, hK2⟩ := HT1.out.setNow now
        have hbx2 : Bx w2 w.heap.size now ⟨id, famN b, ip, port⟩ false := HBX.out.of_blocks fun g h1 _ => by rw [hw2]; exact Below.heap_setCell w1 ⟨t, 1, none⟩ _ g (by show g ≠ t; omega)
        rw [← hw2] at hT2 hK2
        clear hw2 htell x0 x1 x2 x3 y0 hl1
        obtain ⟨x0, x1, x2, x3⟩ := cells4 hbx2.b1
        have y2 := cells1 hbx2.b2
        have y3 := cells1 hbx2.b3
        have u2 := unfrozen0 hbx2.b2 0
        have u3 := unfrozen0 hbx2.b3 0
        have hl1 := hbx2.lt
        obtain ⟨d0, d1, d2⟩ := cells3 hT2.hh
        have HT2 := Lib.hid hT2
        have HK2 := Lib.hid (show KeepL lab w w2 from (KeepL.of_below HB1.out).trans' (fun _ _ h => h) hK2)
        have HBX2 := Lib.hid hbx2
        clear hT2 hK2 hbx2
        go_wp2_with fail
        refine wp_region_ord [(0,0),(1,1),(2,0),(3,0),(4,0),(5,1),(6,0)] (by kernel_rfl) (by kernel_rfl) ?_
        simp only [pickO, List.map_cons, List.map_nil, List.getD_cons_zero, List.getD_cons_succ]
        repeat (first | ((with_reducible refine wpO_skip ?_ ?_); rfl; simp only [Act.put, List.setIfInBounds_toArray, List.set_cons_zero, List.set_cons_succ]) | ((with_reducible refine wpO_step (fun K hK => ?_)); go_simp; (try go_bits); (first | (with_reducible refine hK _ _ ?_) | (simp only [IntWalk.iteOmega]; go_simp; (try go_bits); (with_reducible refine hK _ _ ?_))); clear hK K))
        (with_reducible refine wpO_nil ?_)
        go_wp2
        refine bodyPost_ret (v := .tuple #[.bool false, .int .i64 0]) ?_ rfl ?_
        · obtain ⟨z2, z3⟩ := HBX2.out.cells false 0
          simp [results, Tryz.f9, go_sem, z2, z3]
        · have hl : ∀ g, w.heap.size ≤ g → lab g = none := fun g hg => by
            cases hl : lab g with
            | none => rfl
            | some j => have := HT.out.lt _ _ hl; omega
          refine tabRes_same (v := v) (L := L) ?_ ?_ rfl rfl
          · exact ((HT2.out.set_none (a := ⟨w.heap.size + 1 + 1, 0, none⟩) (.bool false) (hl _ (by show w.heap.size ≤ w.heap.size + 1 + 1; omega))).set_none (a := ⟨w.heap.size + 1 + 1 + 1, 0, none⟩) (.int .i64 0) (hl _ (by show w.heap.size ≤ w.heap.size + 1 + 1 + 1; omega))).drew
          · exact ( (HK2.out.set_ge (a := ⟨w.heap.size + 1 + 1, 0, none⟩) _ (by show w.heap.size ≤ w.heap.size + 1 + 1; omega)).set_ge (a := ⟨w.heap.size + 1 + 1 + 1, 0, none⟩) _ (by show w.heap.size ≤ w.heap.size + 1 + 1 + 1; omega)).drew
      · have hr : seenT own now0 (fun c => (L c).map (·.k)) now ⟨id, famN b, ip, port⟩ ans = (((seenF own now ((L b).map (·.k)) ⟨id, famN b, ip, port⟩ ans).1, 0), now, fun c => if c = b then (seenF own now ((L b).map (·.k)) ⟨id, famN b, ip, port⟩ ans).2 else (L c).map (·.k)) := by
          unfold seenT
          rw [if_neg (by rw [hv]; simp), if_neg ht, if_neg hio]
          simp only [famN_6]
        rw [hr]
        exact seen_main w t own now0 lab m v L h hown N hF hN now id ip port b ans hv (by omega) (by omega) hio
end Go.Proofs.Tc
