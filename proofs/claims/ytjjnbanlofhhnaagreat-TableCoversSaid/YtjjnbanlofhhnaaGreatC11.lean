import Derived.Test.YtjjnbanlofhhnaaGreatC10
namespace Go.Proofs.Tc
open Go.RowKit Go.Sort
attribute [local go_sem] stepO_0 stepO_1 stepO_2 stepO_3 stepV_0 stepV_1 stepV_2 stepV_3 stepV_5

theorem isbad_calls (w : World) (tb bx : Nat) (now : Int) (e : Ent) (ht : w.cell? ⟨tb, 1, none⟩ = some (.int .i64 now)) (hx : w.cell? ⟨bx, 0, none⟩ = some (.pointer (some ⟨tb, 0, none⟩))) :
    Calls Tryz.prog 104 #[entV e, .pointer (some ⟨bx, 0, none⟩)] w (Ret w (.bool (decide (2 ≤ e.fl)))) := by
  have lt := World.block_lt_of_cell? w _ ht
  have lt2 := World.block_lt_of_cell? w _ hx
  simp only at lt lt2
  have hk3 := kindF_3 (now := now) (an := e.an) (ak := e.ak) (fl := e.fl)
  unfold entV
  go_enter Tryz.func104, Tryz.ntmps104
  go_wp2
  refine wp_region_ord [(0,1),(1,0),(2,0),(3,1),(4,1),(5,3),(6,0),(7,0)] (by kernel_rfl) (by kernel_rfl) ?_
  simp only [pickO, List.map_cons, List.map_nil, List.getD_cons_zero, List.getD_cons_succ]
  repeat (first | ((with_reducible refine wpO_skip ?_ ?_); rfl; simp only [Act.put, List.setIfInBounds_toArray, List.set_cons_zero, List.set_cons_succ]) | ((with_reducible refine wpO_step (fun K hK => ?_)); go_simp; (try go_bits); (first | (with_reducible refine hK _ _ ?_) | (simp only [IntWalk.iteOmega]; go_simp; (try go_bits); (with_reducible refine hK _ _ ?_))); clear hK K))
  (with_reducible refine wpO_step (fun K hK => ?_)); go_simp; (try go_bits)
  refine (kind_calls _ _ _ _ _ _ _ _ _ _).mono ?_; rintro e2 w2 ⟨rfl, hb2⟩
  (with_reducible refine hK _ _ ?_); clear hK K
  repeat (first | ((with_reducible refine wpO_skip ?_ ?_); rfl; simp only [Act.put, List.setIfInBounds_toArray, List.set_cons_zero, List.set_cons_succ]) | ((with_reducible refine wpO_step (fun K hK => ?_)); go_simp; (try go_bits); (first | (with_reducible refine hK _ _ ?_) | (simp only [IntWalk.iteOmega]; go_simp; (try go_bits); (with_reducible refine hK _ _ ?_))); clear hK K))
  (with_reducible refine wpO_nil ?_)
  go_wp2
  go_ret
  exact Ret.bool rfl (by first | rfl | simp) ((below_new (Below.refl _ w) _).drew.trans (hb2.mono (by simp)))
theorem small_calls' (w : World) (e : Ent) : Calls Tryz.prog 105 #[entV e] w (Ret w (.bool (decide (e.an < 0)))) := small_calls w _ _ _ _ _ _ _ _

def way4I (k : Bk) (e : Ent) : Int :=
  let i := if k.spare.length = 8 then idxF (fun x => decide (2 ≤ x.fl)) k.spare else k.spare.length
  if i < 0 ∧ 0 ≤ e.an then idxF (fun x => decide (x.an < 0)) k.spare else i
def way4F (k : Bk) (e : Ent) : Option Bk :=
  match way4I k e with
  | .negSucc _ => none
  | .ofNat i => some { k with spare := (if i < k.spare.length then delF k.spare i else k.spare) ++ [e] }
set_option maxRecDepth 100000 in
set_option maxHeartbeats 1000000 in
theorem way4_calls (w : World) (tb b : Nat) (now : Int) (k : Bk) (S : List Nat) (e : Ent) (ht : w.cell? ⟨tb, 1, none⟩ = some (.int .i64 now)) (hk : BkIn w b k S) (hm1 : k.spare.length ≤ 8) :
    Calls Tryz.prog 103 #[.pointer (some ⟨tb, 0, none⟩), .pointer (some ⟨b, 0, none⟩), entV e] w (WayRes w b S (way4F k e)) := by
  obtain ⟨ve, vs, hh, hve, hvs, rfl, hnd⟩ := hk
  have lt : b < w.heap.size := (Array.getElem?_eq_some_iff.1 hh).1
  have ltt := World.block_lt_of_cell? w _ ht
  simp only at ltt
  have hb : b ∉ fpv ve ++ fpv vs := (List.nodup_cons.1 hnd).1
  obtain ⟨hnd1, hnd2, hdis⟩ := List.nodup_append.1 (List.nodup_cons.1 hnd).2
  have hbe : b ∉ fpv ve := fun h => hb (List.mem_append.2 (.inl h))
  have hbs : b ∉ fpv vs := fun h => hb (List.mem_append.2 (.inr h))
  have hdis' : ∀ g ∈ fpv ve, g ∉ fpv vs := fun g h1 h2 => hdis g h1 g h2 rfl
  obtain ⟨wz, hwz⟩ : ∃ wz, (w.alloc (.cells #[.pointer (some ⟨tb, 0, none⟩)] 26)).alloc (.cells #[.string e.nd.id, .int .i64 e.nd.fam, .string e.nd.ip, .int .i64 e.nd.port, .int .i64 e.kd, .int .i64 e.an, .int .i64 e.ak, .int .i64 e.fl] 60) = wz := ⟨_, rfl⟩
  have hB : Below w.heap.size w wz := by rw [← hwz]; exact below_new (below_new (Below.refl _ w) _) _
  have hsz : wz.heap.size = w.heap.size + 2 := by rw [← hwz]; simp
  have hh1 := (hB.block b lt).trans hh
  have ht1 := (hB.cell (p := ⟨tb, 1, none⟩) (by exact ltt)).trans ht
  have hx1 : wz.heap[w.heap.size + 1]? = some (.cells #[.string e.nd.id, .int .i64 e.nd.fam, .string e.nd.ip, .int .i64 e.nd.port, .int .i64 e.kd, .int .i64 e.an, .int .i64 e.ak, .int .i64 e.fl] 60 (0, 0)) := by rw [← hwz]; have := heap_alloc_new (w.alloc (.cells #[.pointer (some ⟨tb, 0, none⟩)] 26)) (.cells #[.string e.nd.id, .int .i64 e.nd.fam, .string e.nd.ip, .int .i64 e.nd.port, .int .i64 e.kd, .int .i64 e.an, .int .i64 e.ak, .int .i64 e.fl] 60); rw [World.size_alloc] at this; exact this
  have hp1 : wz.heap[w.heap.size]? = some (.cells #[.pointer (some ⟨tb, 0, none⟩)] 26 (0, 0)) := by rw [← hwz]; exact (Below.heap_alloc _ _ w.heap.size (by simp)).trans (heap_alloc_new w _)
  have hE1 := hve.ext hB
  have hS1 := hvs.ext hB
  have hK1 : Keeps (b :: (fpv ve ++ fpv vs)) w wz := hB.keep
  obtain ⟨c0, c1, c2, c3, c4⟩ := cells5 hh1
  have LE := Lib.hid (hve.fp_lt)
  have LS := Lib.hid (hvs.fp_lt)
  have HD := Lib.hid hdis'
  obtain ⟨a, cap, rfl, hlc, _⟩ := hvs.shape
  have H1 := Lib.hid hh1
  have X1 := Lib.hid hx1
  have HP1 := Lib.hid hp1
  have HS1 := Lib.hid hS1
  have HE1 := Lib.hid hE1
  have HK1 := Lib.hid hK1
  have HB := Lib.hid hB
  have HT1 := Lib.hid ht1
  clear hdis hdis' hnd hb hve hvs hh hh1 hx1 hp1 hS1 hE1 hK1 hB ht ht1
  unfold entV
  go_enter Tryz.func103, Tryz.ntmps103
  by_cases h8 : k.spare.length = 8
  · have HI : Hid (way4I k e = if idxF (fun x => decide (2 ≤ x.fl)) k.spare < 0 ∧ 0 ≤ e.an then idxF (fun x => decide (x.an < 0)) k.spare else idxF (fun x => decide (2 ≤ x.fl)) k.spare) := by
      show way4I k e = _
      unfold way4I
      simp only [h8, if_true]
    have h8i : ((k.spare.length : Int) == 8) = true := by simp [h8]
    have H8 := Lib.hid h8
    clear h8
    go_wp2_with fail
    refine (indexE_calls wz _ k.spare HS1.out 104 #[.pointer (some ⟨w.heap.size, 0, none⟩)] (fun x => decide (2 ≤ x.fl)) (enters_of Tryz.func104 (by kernel_rfl) rfl) (fun W hW x _ => ?_)).mono ?_
    · exact isbad_calls W tb w.heap.size now x ((hW.cell (p := ⟨tb, 1, none⟩) (World.block_lt_of_cell? wz ⟨tb, 1, none⟩ HT1.out)).trans HT1.out) (by
        have := (hW.block w.heap.size (by omega)).trans HP1.out
        simp [World.cell?, this])
    rintro r1 wy ⟨rfl, hb1⟩
    have hhy := (hb1.block b (by omega)).trans H1.out
    have hxy := (hb1.block (w.heap.size + 1) (by omega)).trans X1.out
    have hSy := HS1.out.ext hb1
    have hEy := HE1.out.ext hb1
    have hKy := HK1.out.trans hb1.keep
    have hBy := below_ext HB.out hb1
    clear c0 c1 c2 c3 c4 H1 X1 HS1 HE1 HK1 hwz HB HT1 HP1 hb1
    rcases idxF_split (p := fun (x : Ent) => decide (2 ≤ x.fl)) (l := k.spare) with ⟨hi1, _⟩ | ⟨j, hi1, x0, hx0, _, _⟩
    · rw [hi1]
      rw [hi1] at HI
      by_cases han : 0 ≤ e.an
      · have HI2 : Hid (way4I k e = idxF (fun x => decide (x.an < 0)) k.spare) := by have := HI.out; rw [if_pos ⟨by omega, han⟩] at this; exact this
        clear HI hi1
        obtain ⟨c0, c1, c2, c3, c4⟩ := cells5 hhy
        obtain ⟨b0, b1, b2, b3, b4, b5, b6, b7⟩ := cells8 hxy
        have HSY := Lib.hid hSy
        have HHY := Lib.hid hhy
        have HXY := Lib.hid hxy
        have HKY := Lib.hid hKy
        have HEY := Lib.hid hEy
        have HBY := Lib.hid hBy
        clear hSy hhy hxy hKy hEy hBy
        go_wp2_with fail
        refine (indexE_calls wy _ k.spare HSY.out 105 #[] (fun x => decide (x.an < 0)) (enters_of Tryz.func105 (by kernel_rfl) rfl) (fun W hW x _ => ?_)).mono ?_
        · exact small_calls' W x
        rintro r2 wx ⟨rfl, hb2⟩
        have hsy : wz.heap.size ≤ wy.heap.size := Nat.le_trans (by rw [hsz]; have := HBY.out.size; have := (Array.getElem?_eq_some_iff.1 HXY.out).1; omega) (Nat.le_refl wy.heap.size)
        have hhx := (hb2.block b (Array.getElem?_eq_some_iff.1 HHY.out).1).trans HHY.out
        have hxx := (hb2.block (w.heap.size + 1) (Array.getElem?_eq_some_iff.1 HXY.out).1).trans HXY.out
        have hSx := HSY.out.ext hb2
        have hEx := HEY.out.ext hb2
        have hKx := HKY.out.trans hb2.keep
        have hBx := below_ext HBY.out hb2
        clear c0 c1 c2 c3 c4 b0 b1 b2 b3 b4 b5 b6 b7 HSY HHY HXY HKY HEY HBY hb2 hsy
        rcases idxF_split (p := fun (x : Ent) => decide (x.an < 0)) (l := k.spare) with ⟨hi2, _⟩ | ⟨j, hi2, x0, hx0, _, _⟩
        · rw [hi2]
          have HF : Hid (way4F k e = none) := by show way4F k e = none; unfold way4F; rw [HI2.out, hi2]; rfl
          obtain ⟨c0, c1, c2, c3, c4⟩ := cells5 hhx
          clear hi2 hhx hxx hSx hEx hKx
          go_wp2
          go_ret
          exact WayRes.no HF.out rfl (by first | rfl | simp) hBx
        · rw [hi2]
          have hjl : j < k.spare.length := (List.getElem?_eq_some_iff.1 hx0).1
          have HF : Hid (way4F k e = some { k with spare := delF k.spare j ++ [e] }) := by show way4F k e = _; unfold way4F; rw [HI2.out, hi2]; simp only [if_pos hjl]
          obtain ⟨wy2, hwy2⟩ : ∃ wy2, wx = wy2 := ⟨_, rfl⟩
          rw [hwy2] at hhx hxx hSx hEx hKx ⊢
          have hhy := hhx
          have hxy := hxx
          have hSy := hSx
          have hEy := hEx
          have hKy := hKx
          clear hhx hxx hSx hEx hKx hBx hi2 hx0 hwy2
          obtain ⟨g, cap', hv, hle', hcm, hfp, _⟩ := hSy.row (by omega)
          injection hv with ha _ hcap
          subst ha hcap
          have hgb : b ≠ g := fun h => hbs (by rw [hfp, h]; simp)
          have hgx : g ≠ w.heap.size + 1 := by have := LS.out g (by rw [hfp]; simp); omega
          have hgt2 : g ≠ w.heap.size := by have := LS.out g (by rw [hfp]; simp); omega
          obtain ⟨c0, c1, c2, c3, c4⟩ := cells5 hhy
          obtain ⟨b0, b1, b2, b3, b4, b5, b6, b7⟩ := cells8 hxy
          have HSY := Lib.hid hSy
          have HHY := Lib.hid hhy
          have HXY := Lib.hid hxy
          have HKY := Lib.hid hKy
          have HEY := Lib.hid hEy
          clear hSy hhy hxy hKy hEy
          go_wp2_with fail
          refine (delete_calls' _ g cap' k.spare k.spare.length j rfl hjl HSY.out (by omega)).mono ?_
          rintro e8 w8 ⟨rfl, ho8, hk8⟩
          have hh8 := (hk8.block b (Array.getElem?_eq_some_iff.1 HHY.out).1 (fun h => hgb (by simpa using h))).trans HHY.out
          have hx8 := (hk8.block (w.heap.size + 1) (Array.getElem?_eq_some_iff.1 HXY.out).1 (fun h => hgx (by simp at h; omega))).trans HXY.out
          have hE8 := HEY.out.keeps hk8 (fun y hy h => HD.out y hy (by rw [hfp]; simpa using h))
          have hK8 := HKY.out.trans (hk8.mono (fun y hy _ => by rw [hfp]; simp at hy; simp [hy]))
          clear c0 c1 c2 c3 c4 b0 b1 b2 b3 b4 b5 b6 b7
          obtain ⟨c0, c1, c2, c3, c4⟩ := cells5 hh8
          have u3 := unfrozen0 hh8 3
          have HH8 := Lib.hid hh8
          have HX8 := Lib.hid hx8
          have HE8 := Lib.hid hE8
          have HK8 := Lib.hid hK8
          have HO8 := Lib.hid ho8
          clear hh8 hx8 hE8 hK8 ho8
          go_wp2_with fail
          obtain ⟨wz, hwz⟩ : ∃ wz, w8.setCell ⟨b, 3, none⟩ (.slice (some ⟨g, 0, none⟩) (k.spare.length - 1) (cap' + 1)) = wz := ⟨_, rfl⟩
          have H1 := Lib.hid (by rw [← hwz]; exact set_s _ HH8.out : wz.heap[b]? = some (.cells #[.string k.pre, .int .i64 k.bits, ve, .slice (some ⟨g, 0, none⟩) (k.spare.length - 1) (cap' + 1), .int .i64 k.ch] 85 (0, 0)))
          have X1 := Lib.hid (by rw [← hwz]; exact (Below.heap_setCell w8 ⟨b, 3, none⟩ _ (w.heap.size + 1) (by show w.heap.size + 1 ≠ b; omega)).trans HX8.out : wz.heap[w.heap.size + 1]? = some (.cells #[.string e.nd.id, .int .i64 e.nd.fam, .string e.nd.ip, .int .i64 e.nd.port, .int .i64 e.kd, .int .i64 e.an, .int .i64 e.ak, .int .i64 e.fl] 60 (0, 0)))
          have HS1 := Lib.hid (by rw [← hwz]; exact HO8.out.setO _ (by simp [fpv]; exact hgb) : Own wz 60 8 (.slice (some ⟨g, 0, none⟩) (k.spare.length - 1) (cap' + 1)) (k.spare.length - 1) (evs (delF k.spare j)))
          have HE1 := Lib.hid (by rw [← hwz]; exact HE8.out.setO _ hbe : OwnE wz ve k.ents)
          have HK1 := Lib.hid (by rw [← hwz]; exact HK8.out.setCell _ (.inl (by simp)) : Keeps (b :: (fpv ve ++ fpv (.slice (some ⟨g, 0, none⟩) k.spare.length (cap' + 1)))) w wz)
          have HLN := Lib.hid (delF_length hjl)
          have HSUB := Lib.hid (fun y hy => by simpa [fpv] using hy : ∀ y ∈ fpv (.slice (some ⟨g, 0, none⟩) (k.spare.length - 1) (cap' + 1)), y ∈ fpv (.slice (some ⟨g, 0, none⟩) k.spare.length (cap' + 1)))
          rw [hwz]
          clear c0 c1 c2 c3 c4 u3 hwz
          obtain ⟨c0, c1, c2, c3, c4⟩ := cells5 H1.out
          obtain ⟨a0, a1, a2, a3, a4, a5, a6, a7⟩ := cells8 X1.out
          have ltz : b < wz.heap.size := (Array.getElem?_eq_some_iff.1 H1.out).1
          refine wp_region_ord [(0,0),(1,0),(2,0),(3,0),(4,1),(5,1),(6,2),(7,3),(8,0),(9,0),(10,3)] (by kernel_rfl) (by kernel_rfl) ?_
          simp only [pickO, List.map_cons, List.map_nil, List.getD_cons_zero, List.getD_cons_succ]
          repeat (first | ((with_reducible refine wpO_skip ?_ ?_); rfl; simp only [Act.put, List.setIfInBounds_toArray, List.set_cons_zero, List.set_cons_succ]) | ((with_reducible refine wpO_step (fun K hK => ?_)); go_simp; (try go_bits); (first | (with_reducible refine hK _ _ ?_) | (simp only [IntWalk.iteOmega]; go_simp; (try go_bits); (with_reducible refine hK _ _ ?_))); clear hK K))
          (with_reducible refine wpO_step (fun K hK => ?_)); go_simp; (try go_bits)
          refine ⟨(Below.refl wz.heap.size wz.drew).alloc (by simp) _, ?_⟩
          (with_reducible refine hK _ _ ?_); clear hK K
          refine wpO_append' rfl rfl Ee rfl ((HS1.out.alloc _).drew) e.vals rfl rfl (by exact new_cells wz e.vals 60) (by intro u hu; exact evs_one [e] u (by simpa [evs] using hu)) (by unfold maxLen; omega) (by omega) ?_
          intro v' w3 ho' hk' hf' hs'
          change Keeps (fpv (.slice (some ⟨g, 0, none⟩) (k.spare.length - 1) (cap' + 1))) (wz.alloc (.cells #[.string e.nd.id, .int .i64 e.nd.fam, .string e.nd.ip, .int .i64 e.nd.port, .int .i64 e.kd, .int .i64 e.an, .int .i64 e.ak, .int .i64 e.fl] 60)).drew w3 at hk'
          change ∀ y ∈ fpv v', y ∈ fpv (.slice (some ⟨g, 0, none⟩) (k.spare.length - 1) (cap' + 1)) ∨ y = (wz.alloc (.cells #[.string e.nd.id, .int .i64 e.nd.fam, .string e.nd.ip, .int .i64 e.nd.port, .int .i64 e.kd, .int .i64 e.an, .int .i64 e.ak, .int .i64 e.fl] 60)).drew.heap.size at hf'
          have hsz : (wz.alloc (.cells #[.string e.nd.id, .int .i64 e.nd.fam, .string e.nd.ip, .int .i64 e.nd.port, .int .i64 e.kd, .int .i64 e.an, .int .i64 e.ak, .int .i64 e.fl] 60)).drew.heap.size = wz.heap.size + 1 := by simp
          rw [hsz] at hf'
          have hh3 := (hk'.block b (by rw [hsz]; omega) (fun h => hbs (HSUB.out _ h))).trans ((Below.heap_alloc wz (.cells #[.string e.nd.id, .int .i64 e.nd.fam, .string e.nd.ip, .int .i64 e.nd.port, .int .i64 e.kd, .int .i64 e.an, .int .i64 e.ak, .int .i64 e.fl] 60) b ltz).trans H1.out)
          have hKz : Keeps (b :: (fpv ve ++ fpv (.slice (some ⟨g, 0, none⟩) k.spare.length (cap' + 1)))) w w3 := ((HK1.out.alloc _).drew).trans (hk'.mono (fun y hy _ => by simp [HSUB.out y hy]))
          have he3 := (HE1.out.alloc (.cells #[.string e.nd.id, .int .i64 e.nd.fam, .string e.nd.ip, .int .i64 e.nd.port, .int .i64 e.kd, .int .i64 e.an, .int .i64 e.ak, .int .i64 e.fl] 60)).drew.keeps hk' (fun g hg hg' => HD.out g hg (HSUB.out g hg'))
          have hszw : w.heap.size ≤ wz.heap.size := HK1.out.size
          have hbv : b ∉ fpv v' := fun h => by
            rcases hf' b h with h | h
            · exact hbs (HSUB.out b h)
            · omega
          have hdv : ∀ g ∈ fpv ve, g ∉ fpv v' := fun g h1 h2 => by
            rcases hf' g h2 with h | h
            · exact HD.out g h1 (HSUB.out g h)
            · have := LE.out g h1; omega
          have hfin : BkTurn w b (fpv ve ++ fpv (.slice (some ⟨g, 0, none⟩) k.spare.length (cap' + 1))) { k with spare := delF k.spare j ++ [e] } (w3.setCell ⟨b, 3, none⟩ v') := by
            refine BkTurn.make (k' := { k with spare := delF k.spare j ++ [e] }) (v1 := ve) (v2 := v') (set_s _ hh3) (he3.setO _ hbe) ?_ ?_ (nodup3 hbe hbv hdv) ?_
            · show Own _ 60 8 v' (delF k.spare j ++ [e]).length (evs (delF k.spare j ++ [e]))
              rw [evs_append, List.length_append, show evs [e] = e.vals by simp [evs], HLN.out]
              exact ho'.setO _ hbv
            · intro g hg
              rcases hg with hg | hg
              · exact .inl (List.mem_append.2 (.inl hg))
              · rcases hf' g hg with h | h
                · exact .inl (List.mem_append.2 (.inr (HSUB.out g h)))
                · exact .inr (by omega)
            · exact hKz.setCell _ (.inl (by simp))
          obtain ⟨a', cap', rfl, _⟩ := ho'.shape
          have HFIN := Lib.hid hfin
          clear c0 c1 c2 c3 c4 a0 a1 a2 a3 a4 a5 a6 a7 hfin hbv hdv he3 hKz hk' hf' ho'
          obtain ⟨c0, c1, c2, c3, c4⟩ := cells5 hh3
          have u3 := unfrozen0 hh3 3
          clear hh3
          simp only [Act.put, List.setIfInBounds_toArray, List.set_cons_zero, List.set_cons_succ]
          repeat (first | ((with_reducible refine wpO_skip ?_ ?_); rfl; simp only [Act.put, List.setIfInBounds_toArray, List.set_cons_zero, List.set_cons_succ]) | ((with_reducible refine wpO_step (fun K hK => ?_)); go_simp; (try go_bits); (first | (with_reducible refine hK _ _ ?_) | (simp only [IntWalk.iteOmega]; go_simp; (try go_bits); (with_reducible refine hK _ _ ?_))); clear hK K))
          (with_reducible refine wpO_nil ?_)
          go_wp2
          go_ret
          exact WayRes.yes HF.out rfl (by first | rfl | simp) HFIN.out

      · have HF : Hid (way4F k e = none) := by show way4F k e = none; unfold way4F; rw [HI.out, if_neg (fun h => han h.2)]; rfl
        obtain ⟨c0, c1, c2, c3, c4⟩ := cells5 hhy
        obtain ⟨b0, b1, b2, b3, b4, b5, b6, b7⟩ := cells8 hxy
        clear hhy hxy hSy hEy hKy hi1 HI
        go_wp2
        go_ret
        exact WayRes.no HF.out rfl (by first | rfl | simp) hBy
    · rw [hi1]
      have hjl : j < k.spare.length := (List.getElem?_eq_some_iff.1 hx0).1
      have HF : Hid (way4F k e = some { k with spare := delF k.spare j ++ [e] }) := by
        show way4F k e = _; unfold way4F; rw [HI.out, hi1, if_neg (by omega)]; simp only [if_pos hjl]
      clear hi1 hx0 HI hBy
      obtain ⟨g, cap', hv, hle', hcm, hfp, _⟩ := hSy.row (by omega)
      injection hv with ha _ hcap
      subst ha hcap
      have hgb : b ≠ g := fun h => hbs (by rw [hfp, h]; simp)
      have hgx : g ≠ w.heap.size + 1 := by have := LS.out g (by rw [hfp]; simp); omega
      have hgt2 : g ≠ w.heap.size := by have := LS.out g (by rw [hfp]; simp); omega
      obtain ⟨c0, c1, c2, c3, c4⟩ := cells5 hhy
      obtain ⟨b0, b1, b2, b3, b4, b5, b6, b7⟩ := cells8 hxy
      have HSY := Lib.hid hSy
      have HHY := Lib.hid hhy
      have HXY := Lib.hid hxy
      have HKY := Lib.hid hKy
      have HEY := Lib.hid hEy
      clear hSy hhy hxy hKy hEy
      go_wp2_with fail
      refine (delete_calls' _ g cap' k.spare k.spare.length j rfl hjl HSY.out (by omega)).mono ?_
      rintro e8 w8 ⟨rfl, ho8, hk8⟩
      have hh8 := (hk8.block b (Array.getElem?_eq_some_iff.1 HHY.out).1 (fun h => hgb (by simpa using h))).trans HHY.out
      have hx8 := (hk8.block (w.heap.size + 1) (Array.getElem?_eq_some_iff.1 HXY.out).1 (fun h => hgx (by simp at h; omega))).trans HXY.out
      have hE8 := HEY.out.keeps hk8 (fun y hy h => HD.out y hy (by rw [hfp]; simpa using h))
      have hK8 := HKY.out.trans (hk8.mono (fun y hy _ => by rw [hfp]; simp at hy; simp [hy]))
      clear c0 c1 c2 c3 c4 b0 b1 b2 b3 b4 b5 b6 b7
      obtain ⟨c0, c1, c2, c3, c4⟩ := cells5 hh8
      have u3 := unfrozen0 hh8 3
      have HH8 := Lib.hid hh8
      have HX8 := Lib.hid hx8
      have HE8 := Lib.hid hE8
      have HK8 := Lib.hid hK8
      have HO8 := Lib.hid ho8
      clear hh8 hx8 hE8 hK8 ho8
      go_wp2_with fail
      obtain ⟨wz, hwz⟩ : ∃ wz, w8.setCell ⟨b, 3, none⟩ (.slice (some ⟨g, 0, none⟩) (k.spare.length - 1) (cap' + 1)) = wz := ⟨_, rfl⟩
      have H1 := Lib.hid (by rw [← hwz]; exact set_s _ HH8.out : wz.heap[b]? = some (.cells #[.string k.pre, .int .i64 k.bits, ve, .slice (some ⟨g, 0, none⟩) (k.spare.length - 1) (cap' + 1), .int .i64 k.ch] 85 (0, 0)))
      have X1 := Lib.hid (by rw [← hwz]; exact (Below.heap_setCell w8 ⟨b, 3, none⟩ _ (w.heap.size + 1) (by show w.heap.size + 1 ≠ b; omega)).trans HX8.out : wz.heap[w.heap.size + 1]? = some (.cells #[.string e.nd.id, .int .i64 e.nd.fam, .string e.nd.ip, .int .i64 e.nd.port, .int .i64 e.kd, .int .i64 e.an, .int .i64 e.ak, .int .i64 e.fl] 60 (0, 0)))
      have HS1 := Lib.hid (by rw [← hwz]; exact HO8.out.setO _ (by simp [fpv]; exact hgb) : Own wz 60 8 (.slice (some ⟨g, 0, none⟩) (k.spare.length - 1) (cap' + 1)) (k.spare.length - 1) (evs (delF k.spare j)))
      have HE1 := Lib.hid (by rw [← hwz]; exact HE8.out.setO _ hbe : OwnE wz ve k.ents)
      have HK1 := Lib.hid (by rw [← hwz]; exact HK8.out.setCell _ (.inl (by simp)) : Keeps (b :: (fpv ve ++ fpv (.slice (some ⟨g, 0, none⟩) k.spare.length (cap' + 1)))) w wz)
      have HLN := Lib.hid (delF_length hjl)
      have HSUB := Lib.hid (fun y hy => by simpa [fpv] using hy : ∀ y ∈ fpv (.slice (some ⟨g, 0, none⟩) (k.spare.length - 1) (cap' + 1)), y ∈ fpv (.slice (some ⟨g, 0, none⟩) k.spare.length (cap' + 1)))
      rw [hwz]
      clear c0 c1 c2 c3 c4 u3 hwz
      obtain ⟨c0, c1, c2, c3, c4⟩ := cells5 H1.out
      obtain ⟨a0, a1, a2, a3, a4, a5, a6, a7⟩ := cells8 X1.out
      have ltz : b < wz.heap.size := (Array.getElem?_eq_some_iff.1 H1.out).1
      refine wp_region_ord [(0,0),(1,0),(2,0),(3,0),(4,1),(5,1),(6,2),(7,3),(8,0),(9,0),(10,3)] (by kernel_rfl) (by kernel_rfl) ?_
      simp only [pickO, List.map_cons, List.map_nil, List.getD_cons_zero, List.getD_cons_succ]
      repeat (first | ((with_reducible refine wpO_skip ?_ ?_); rfl; simp only [Act.put, List.setIfInBounds_toArray, List.set_cons_zero, List.set_cons_succ]) | ((with_reducible refine wpO_step (fun K hK => ?_)); go_simp; (try go_bits); (first | (with_reducible refine hK _ _ ?_) | (simp only [IntWalk.iteOmega]; go_simp; (try go_bits); (with_reducible refine hK _ _ ?_))); clear hK K))
      (with_reducible refine wpO_step (fun K hK => ?_)); go_simp; (try go_bits)
      refine ⟨(Below.refl wz.heap.size wz.drew).alloc (by simp) _, ?_⟩
      (with_reducible refine hK _ _ ?_); clear hK K
      refine wpO_append' rfl rfl Ee rfl ((HS1.out.alloc _).drew) e.vals rfl rfl (by exact new_cells wz e.vals 60) (by intro u hu; exact evs_one [e] u (by simpa [evs] using hu)) (by unfold maxLen; omega) (by omega) ?_
      intro v' w3 ho' hk' hf' hs'
      change Keeps (fpv (.slice (some ⟨g, 0, none⟩) (k.spare.length - 1) (cap' + 1))) (wz.alloc (.cells #[.string e.nd.id, .int .i64 e.nd.fam, .string e.nd.ip, .int .i64 e.nd.port, .int .i64 e.kd, .int .i64 e.an, .int .i64 e.ak, .int .i64 e.fl] 60)).drew w3 at hk'
      change ∀ y ∈ fpv v', y ∈ fpv (.slice (some ⟨g, 0, none⟩) (k.spare.length - 1) (cap' + 1)) ∨ y = (wz.alloc (.cells #[.string e.nd.id, .int .i64 e.nd.fam, .string e.nd.ip, .int .i64 e.nd.port, .int .i64 e.kd, .int .i64 e.an, .int .i64 e.ak, .int .i64 e.fl] 60)).drew.heap.size at hf'
      have hsz : (wz.alloc (.cells #[.string e.nd.id, .int .i64 e.nd.fam, .string e.nd.ip, .int .i64 e.nd.port, .int .i64 e.kd, .int .i64 e.an, .int .i64 e.ak, .int .i64 e.fl] 60)).drew.heap.size = wz.heap.size + 1 := by simp
      rw [hsz] at hf'
      have hh3 := (hk'.block b (by rw [hsz]; omega) (fun h => hbs (HSUB.out _ h))).trans ((Below.heap_alloc wz (.cells #[.string e.nd.id, .int .i64 e.nd.fam, .string e.nd.ip, .int .i64 e.nd.port, .int .i64 e.kd, .int .i64 e.an, .int .i64 e.ak, .int .i64 e.fl] 60) b ltz).trans H1.out)
      have hKz : Keeps (b :: (fpv ve ++ fpv (.slice (some ⟨g, 0, none⟩) k.spare.length (cap' + 1)))) w w3 := ((HK1.out.alloc _).drew).trans (hk'.mono (fun y hy _ => by simp [HSUB.out y hy]))
      have he3 := (HE1.out.alloc (.cells #[.string e.nd.id, .int .i64 e.nd.fam, .string e.nd.ip, .int .i64 e.nd.port, .int .i64 e.kd, .int .i64 e.an, .int .i64 e.ak, .int .i64 e.fl] 60)).drew.keeps hk' (fun g hg hg' => HD.out g hg (HSUB.out g hg'))
      have hszw : w.heap.size ≤ wz.heap.size := HK1.out.size
      have hbv : b ∉ fpv v' := fun h => by
        rcases hf' b h with h | h
        · exact hbs (HSUB.out b h)
        · omega
      have hdv : ∀ g ∈ fpv ve, g ∉ fpv v' := fun g h1 h2 => by
        rcases hf' g h2 with h | h
        · exact HD.out g h1 (HSUB.out g h)
        · have := LE.out g h1; omega
      have hfin : BkTurn w b (fpv ve ++ fpv (.slice (some ⟨g, 0, none⟩) k.spare.length (cap' + 1))) { k with spare := delF k.spare j ++ [e] } (w3.setCell ⟨b, 3, none⟩ v') := by
        refine BkTurn.make (k' := { k with spare := delF k.spare j ++ [e] }) (v1 := ve) (v2 := v') (set_s _ hh3) (he3.setO _ hbe) ?_ ?_ (nodup3 hbe hbv hdv) ?_
        · show Own _ 60 8 v' (delF k.spare j ++ [e]).length (evs (delF k.spare j ++ [e]))
          rw [evs_append, List.length_append, show evs [e] = e.vals by simp [evs], HLN.out]
          exact ho'.setO _ hbv
        · intro g hg
          rcases hg with hg | hg
          · exact .inl (List.mem_append.2 (.inl hg))
          · rcases hf' g hg with h | h
            · exact .inl (List.mem_append.2 (.inr (HSUB.out g h)))
            · exact .inr (by omega)
        · exact hKz.setCell _ (.inl (by simp))
      obtain ⟨a', cap', rfl, _⟩ := ho'.shape
      have HFIN := Lib.hid hfin
      clear c0 c1 c2 c3 c4 a0 a1 a2 a3 a4 a5 a6 a7 hfin hbv hdv he3 hKz hk' hf' ho'
      obtain ⟨c0, c1, c2, c3, c4⟩ := cells5 hh3
      have u3 := unfrozen0 hh3 3
      clear hh3
      simp only [Act.put, List.setIfInBounds_toArray, List.set_cons_zero, List.set_cons_succ]
      repeat (first | ((with_reducible refine wpO_skip ?_ ?_); rfl; simp only [Act.put, List.setIfInBounds_toArray, List.set_cons_zero, List.set_cons_succ]) | ((with_reducible refine wpO_step (fun K hK => ?_)); go_simp; (try go_bits); (first | (with_reducible refine hK _ _ ?_) | (simp only [IntWalk.iteOmega]; go_simp; (try go_bits); (with_reducible refine hK _ _ ?_))); clear hK K))
      (with_reducible refine wpO_nil ?_)
      go_wp2
      go_ret
      exact WayRes.yes HF.out rfl (by first | rfl | simp) HFIN.out

  · have HF : Hid (way4F k e = some { k with spare := k.spare ++ [e] }) := by
      show way4F k e = _
      unfold way4F way4I
      simp only [h8, if_false]
      rw [if_neg (by omega)]
      simp
    have h8i : ((k.spare.length : Int) == 8) = false := by simp; omega
    have HSUB := Lib.hid (fun y hy => hy : ∀ y ∈ fpv (.slice a k.spare.length cap), y ∈ fpv (.slice a k.spare.length cap))
    clear h8
    go_wp2_with fail
    clear hwz c0 c1 c2 c3 c4 HP1 HT1 HB hsz
    have HLN : Hid (k.spare.length = k.spare.length) := rfl
    obtain ⟨c0, c1, c2, c3, c4⟩ := cells5 H1.out
    obtain ⟨a0, a1, a2, a3, a4, a5, a6, a7⟩ := cells8 X1.out
    have ltz : b < wz.heap.size := (Array.getElem?_eq_some_iff.1 H1.out).1
    refine wp_region_ord [(0,0),(1,0),(2,0),(3,0),(4,1),(5,1),(6,2),(7,3),(8,0),(9,0),(10,3)] (by kernel_rfl) (by kernel_rfl) ?_
    simp only [pickO, List.map_cons, List.map_nil, List.getD_cons_zero, List.getD_cons_succ]
    repeat (first | ((with_reducible refine wpO_skip ?_ ?_); rfl; simp only [Act.put, List.setIfInBounds_toArray, List.set_cons_zero, List.set_cons_succ]) | ((with_reducible refine wpO_step (fun K hK => ?_)); go_simp; (try go_bits); (first | (with_reducible refine hK _ _ ?_) | (simp only [IntWalk.iteOmega]; go_simp; (try go_bits); (with_reducible refine hK _ _ ?_))); clear hK K))
    (with_reducible refine wpO_step (fun K hK => ?_)); go_simp; (try go_bits)
    refine ⟨(Below.refl wz.heap.size wz.drew).alloc (by simp) _, ?_⟩
    (with_reducible refine hK _ _ ?_); clear hK K
    refine wpO_append' rfl rfl Ee rfl ((HS1.out.alloc _).drew) e.vals rfl rfl (by exact new_cells wz e.vals 60) (by intro u hu; exact evs_one [e] u (by simpa [evs] using hu)) (by unfold maxLen; omega) (by omega) ?_
    intro v' w3 ho' hk' hf' hs'
    change Keeps (fpv (.slice a k.spare.length cap)) (wz.alloc (.cells #[.string e.nd.id, .int .i64 e.nd.fam, .string e.nd.ip, .int .i64 e.nd.port, .int .i64 e.kd, .int .i64 e.an, .int .i64 e.ak, .int .i64 e.fl] 60)).drew w3 at hk'
    change ∀ y ∈ fpv v', y ∈ fpv (.slice a k.spare.length cap) ∨ y = (wz.alloc (.cells #[.string e.nd.id, .int .i64 e.nd.fam, .string e.nd.ip, .int .i64 e.nd.port, .int .i64 e.kd, .int .i64 e.an, .int .i64 e.ak, .int .i64 e.fl] 60)).drew.heap.size at hf'
    have hsz : (wz.alloc (.cells #[.string e.nd.id, .int .i64 e.nd.fam, .string e.nd.ip, .int .i64 e.nd.port, .int .i64 e.kd, .int .i64 e.an, .int .i64 e.ak, .int .i64 e.fl] 60)).drew.heap.size = wz.heap.size + 1 := by simp
    rw [hsz] at hf'
    have hh3 := (hk'.block b (by rw [hsz]; omega) (fun h => hbs (HSUB.out _ h))).trans ((Below.heap_alloc wz (.cells #[.string e.nd.id, .int .i64 e.nd.fam, .string e.nd.ip, .int .i64 e.nd.port, .int .i64 e.kd, .int .i64 e.an, .int .i64 e.ak, .int .i64 e.fl] 60) b ltz).trans H1.out)
    have hKz : Keeps (b :: (fpv ve ++ fpv (.slice a k.spare.length cap))) w w3 := ((HK1.out.alloc _).drew).trans (hk'.mono (fun y hy _ => by simp [HSUB.out y hy]))
    have he3 := (HE1.out.alloc (.cells #[.string e.nd.id, .int .i64 e.nd.fam, .string e.nd.ip, .int .i64 e.nd.port, .int .i64 e.kd, .int .i64 e.an, .int .i64 e.ak, .int .i64 e.fl] 60)).drew.keeps hk' (fun g hg hg' => HD.out g hg (HSUB.out g hg'))
    have hszw : w.heap.size ≤ wz.heap.size := HK1.out.size
    have hbv : b ∉ fpv v' := fun h => by
      rcases hf' b h with h | h
      · exact hbs (HSUB.out b h)
      · omega
    have hdv : ∀ g ∈ fpv ve, g ∉ fpv v' := fun g h1 h2 => by
      rcases hf' g h2 with h | h
      · exact HD.out g h1 (HSUB.out g h)
      · have := LE.out g h1; omega
    have hfin : BkTurn w b (fpv ve ++ fpv (.slice a k.spare.length cap)) { k with spare := k.spare ++ [e] } (w3.setCell ⟨b, 3, none⟩ v') := by
      refine BkTurn.make (k' := { k with spare := k.spare ++ [e] }) (v1 := ve) (v2 := v') (set_s _ hh3) (he3.setO _ hbe) ?_ ?_ (nodup3 hbe hbv hdv) ?_
      · show Own _ 60 8 v' (k.spare ++ [e]).length (evs (k.spare ++ [e]))
        rw [evs_append, List.length_append, show evs [e] = e.vals by simp [evs], HLN.out]
        exact ho'.setO _ hbv
      · intro g hg
        rcases hg with hg | hg
        · exact .inl (List.mem_append.2 (.inl hg))
        · rcases hf' g hg with h | h
          · exact .inl (List.mem_append.2 (.inr (HSUB.out g h)))
          · exact .inr (by omega)
      · exact hKz.setCell _ (.inl (by simp))
    obtain ⟨a', cap', rfl, _⟩ := ho'.shape
    have HFIN := Lib.hid hfin
    clear c0 c1 c2 c3 c4 a0 a1 a2 a3 a4 a5 a6 a7 hfin hbv hdv he3 hKz hk' hf' ho'
    obtain ⟨c0, c1, c2, c3, c4⟩ := cells5 hh3
    have u3 := unfrozen0 hh3 3
    clear hh3
    simp only [Act.put, List.setIfInBounds_toArray, List.set_cons_zero, List.set_cons_succ]
    repeat (first | ((with_reducible refine wpO_skip ?_ ?_); rfl; simp only [Act.put, List.setIfInBounds_toArray, List.set_cons_zero, List.set_cons_succ]) | ((with_reducible refine wpO_step (fun K hK => ?_)); go_simp; (try go_bits); (first | (with_reducible refine hK _ _ ?_) | (simp only [IntWalk.iteOmega]; go_simp; (try go_bits); (with_reducible refine hK _ _ ?_))); clear hK K))
    (with_reducible refine wpO_nil ?_)
    go_wp2
    go_ret
    exact WayRes.yes HF.out rfl (by first | rfl | simp) HFIN.out
end Go.Proofs.Tc
