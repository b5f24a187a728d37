import Derived.Test.YtjjnbanlofhhnaaGreatE8
namespace Go.Proofs.Tc
open Go.RowKit Go.Sort
attribute [local go_sem] stepO_0 stepO_1 stepO_2 stepO_3 stepV_0 stepV_1 stepV_2 stepV_3 stepV_5

def shownE (now : Int) (e : Ent) : Ent := { e with kd := kindF now e.an e.ak e.fl }
def mixF (now : Int) (es : List Ent) (k : Nat) : List Ent := (es.take k).map (shownE now) ++ es.drop k
theorem mixF_length (now : Int) (es : List Ent) (k : Nat) : (mixF now es k).length = es.length := by unfold mixF; simp; omega
theorem mixF_get {now : Int} {es : List Ent} {k : Nat} {e : Ent} (h : es[k]? = some e) : (mixF now es k)[k]? = some e := by
  have hk := (List.getElem?_eq_some_iff.1 h).1
  unfold mixF
  rw [List.getElem?_append_right (by simp; omega), List.getElem?_drop, List.length_map, List.length_take, Nat.min_eq_left (by omega), show k + (k - k) = k by omega]
  exact h
theorem mixF_set {now : Int} {es : List Ent} {k : Nat} {e : Ent} (h : es[k]? = some e) : (mixF now es k).set k (shownE now e) = mixF now es (k + 1) := by
  obtain ⟨hk, rfl⟩ := List.getElem?_eq_some_iff.1 h
  have hl : ((es.take k).map (shownE now)).length = k := by simp; omega
  unfold mixF
  rw [List.set_append_right _ _ (by omega), hl, Nat.sub_self, List.drop_eq_getElem_cons hk, List.set_cons_zero, List.take_succ_eq_append_getElem hk, List.map_append, List.append_assoc]
  rfl
theorem evs_set4 : ∀ (l : List Ent) (i : Nat) (e : Ent) (x : Int), l[i]? = some e → (evs l).set (i * 8 + 4) (.int .i64 x) = evs (l.set i { e with kd := x })
  | [], i, e, x, h => by simp at h
  | y :: l, 0, e, x, h => by
    simp at h
    subst h
    rw [evs_cons, List.set_cons_zero, evs_cons]
    simp [Ent.vals]
  | y :: l, i + 1, e, x, h => by
    rw [evs_cons, List.set_cons_succ, evs_cons, ← evs_set4 l i e x (by simpa using h)]
    rw [show (i + 1) * 8 + 4 = y.vals.length + (i * 8 + 4) by simp [Ent.vals]; omega]
    rw [List.set_append_right _ _ (by omega)]
    congr 2
    omega
def ShownRes (w : World) (es : List Ent) (e : Ending) (w' : World) : Prop := ∃ v, e = .returned v ∧ OwnE w' v es ∧ (∀ g ∈ fpv v, w.heap.size ≤ g) ∧ Below w.heap.size w w'
set_option maxRecDepth 100000 in
set_option maxHeartbeats 1000000 in
theorem shown_calls (w : World) (tb : Nat) (now : Int) (v : Value) (es : List Ent) (ht : w.cell? ⟨tb, 1, none⟩ = some (.int .i64 now)) (ho : OwnE w v es) (hm : es.length ≤ 8) : Calls Tryz.prog 36 #[.pointer (some ⟨tb, 0, none⟩), v] w (ShownRes w (es.map (shownE now))) := by
  have ltt := World.block_lt_of_cell? w _ ht
  simp only at ltt
  have HO := Lib.hid ho
  have HT := Lib.hid ht
  clear ho ht
  go_enter Tryz.func36, Tryz.ntmps36
  go_wp2_with fail
  refine (clone_calls w v es HO.out (by omega)).mono ?_
  rintro r w1 ⟨v1, rfl, ho1, hf1, hb1⟩
  obtain ⟨a1, p1, rfl, hle1, hmx1⟩ := ho1.shape
  obtain ⟨n, hn⟩ : ∃ n, es.length = n := ⟨_, rfl⟩
  have ho1' : Own w1 60 8 (.slice a1 n p1) n (evs (mixF now es 0)) := by
    have : mixF now es 0 = es := by unfold mixF; simp
    rw [this, ← hn]; exact ho1
  have HO1 := Lib.hid ho1'
  have HF1 := Lib.hid hf1
  have HB1 := Lib.hid hb1
  rw [hn] at hm ⊢
  have HN := Lib.hid hn
  clear ho1 ho1' hf1 hb1 hn hle1 hmx1
  go_wp2_with fail
  go_loopw [10] (fun i wr => ∃ k : Nat, k ≤ n ∧ i = .int .i64 k ∧ Hid (Own wr 60 8 (.slice a1 n p1) n (evs (mixF now es k))) ∧ Hid (Below w.heap.size w wr)) (fun i _ => n - (intOf i).toNat)
  case atStart => exact ⟨0, by omega, rfl, HO1.out, HB1.out⟩
  case round =>
    obtain ⟨k, hk, rfl, HOK, HBK⟩ := hrel
    by_cases hlt : k < n
    · obtain ⟨e, he⟩ : ∃ e, es[k]? = some e := ⟨es[k]'(by rw [HN.out]; exact hlt), List.getElem?_eq_getElem (by rw [HN.out]; exact hlt)⟩
      obtain ⟨g, cap', hv, _, _, _, _⟩ := HOK.out.row (by omega)
      injection hv with ha _ hcap
      subst ha hcap
      obtain ⟨c0, c1, c2, c3, c4, c5, c6, c7⟩ := OwnE.at HOK.out (mixF_get he)
      have ht := (HBK.out.cell (p := ⟨tb, 1, none⟩) (by exact ltt)).trans HT.out
      have lt3 := World.block_lt_of_cell? wr _ c0
      simp only at lt3
      have hfg : w.heap.size ≤ g := HF1.out g (by simp [fpv, HN.out])
      have HE := Lib.hid he
      clear he
      go_wp2_with fail
      refine wp_region_ord [(0,0),(1,0),(2,0),(3,0),(4,0),(5,1),(6,0),(7,0),(8,0),(9,1),(10,3),(11,0),(12,0),(13,3)] (by kernel_rfl) (by kernel_rfl) ?_
      simp only [pickO, List.map_cons, List.map_nil, List.getD_cons_zero, List.getD_cons_succ]
      repeat (first | ((with_reducible refine wpO_skip ?_ ?_); rfl; simp only [Act.put, List.setIfInBounds_toArray, List.set_cons_zero, List.set_cons_succ]) | ((with_reducible refine wpO_step (fun K hK => ?_)); go_simp; (try go_bits); (first | (with_reducible refine hK _ _ ?_) | (simp only [IntWalk.iteOmega]; go_simp; (try go_bits); (with_reducible refine hK _ _ ?_))); clear hK K))
      (with_reducible refine wpO_step (fun K hK => ?_)); go_simp; (try go_bits)
      refine (kind_calls _ _ _ _ _ _ _ _ _ _).mono ?_; rintro e2 w2 ⟨rfl, hb2⟩
      have hB2 : Below wr.heap.size wr w2 := (Below.refl _ wr).drew.trans hb2
      have hO2 := HOK.out.ext hB2
      have hfr := Own.frozen hO2 (i := k * 8 + 4) (by omega)
      have hcc := (OwnE.at hO2 (mixF_get HE.out)).c4
      have hset := hO2.set (i := k * 8 + 4) (.int .i64 (kindF now e.an e.ak e.fl)) (by omega)
      rw [evs_set4 _ _ e _ (mixF_get HE.out)] at hset
      have hms := mixF_set (now := now) HE.out
      unfold shownE at hms
      rw [hms] at hset
      have HSET := Lib.hid hset
      have HB2 := Lib.hid hB2
      clear hO2 hset hms hB2 hb2
      (with_reducible refine hK _ _ ?_); clear hK K
      repeat (first | ((with_reducible refine wpO_skip ?_ ?_); rfl; simp only [Act.put, List.setIfInBounds_toArray, List.set_cons_zero, List.set_cons_succ]) | ((with_reducible refine wpO_step (fun K hK => ?_)); go_simp; (try go_bits); (first | (with_reducible refine hK _ _ ?_) | (simp only [IntWalk.iteOmega]; go_simp; (try go_bits); (with_reducible refine hK _ _ ?_))); clear hK K))
      (with_reducible refine wpO_nil ?_)
      go_wp2
      go_roundw
      case rel => exact ⟨k + 1, by omega, by go_num, HSET.out, (below_ext HBK.out HB2.out).setCell (p := ⟨g, k * 8 + 4, none⟩) hfg _⟩
      case measure => simp [intOf]; omega
    · obtain rfl : k = n := by omega
      go_wp2
      go_ret
      refine ⟨_, rfl, ?_, fun g hg => HF1.out g (by rw [HN.out]; exact hg), HBK.out⟩
      have := HOK.out
      rw [show mixF now es k = es.map (shownE now) by unfold mixF; rw [← HN.out]; simp] at this
      unfold OwnE
      rw [List.length_map, HN.out]
      exact this
end Go.Proofs.Tc
