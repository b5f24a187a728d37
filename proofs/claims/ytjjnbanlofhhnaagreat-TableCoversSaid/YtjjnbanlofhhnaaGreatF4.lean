import Derived.Test.YtjjnbanlofhhnaaGreatF3
namespace Go.Proofs.Tc
open Go.RowKit Go.Sort
attribute [local go_sem] stepO_0 stepO_1 stepO_2 stepO_3 stepV_0 stepV_1 stepV_2 stepV_3 stepV_5

/-- A bucket as it is told. -/
structure Sh where
  pre : ByteArray
  bits : Nat
  ve : Value
  vs : Value
  ents : List Ent
  spare : List Ent
def Sh.vals (x : Sh) : List Value := [.string x.pre, .int .i64 x.bits, x.ve, x.vs]
def shs (l : List Sh) : List Value := l.flatMap Sh.vals
theorem shs_length (l : List Sh) : (shs l).length = l.length * 4 := by
  induction l with
  | nil => rfl
  | cons n l ih => show (n.vals ++ shs l).length = _; rw [List.length_append, ih]; simp [Sh.vals]; omega
theorem shs_snoc (l : List Sh) (x : Sh) : shs (l ++ [x]) = shs l ++ x.vals := by simp [shs]
theorem shs_get {l : List Sh} {k : Nat} {x : Sh} (h : l[k]? = some x) {j : Nat} (hj : j < 4) : (shs l)[k * 4 + j]? = x.vals[j]? := by
  induction l generalizing k with
  | nil => simp at h
  | cons y l ih =>
    show (y.vals ++ shs l)[k * 4 + j]? = _
    cases k with
    | zero =>
      simp at h
      subst h
      rw [Nat.zero_mul, Nat.zero_add, List.getElem?_append_left (by simp [Sh.vals]; omega)]
    | succ k =>
      rw [List.getElem?_append_right (by simp [Sh.vals]; omega), show (k + 1) * 4 + j - y.vals.length = k * 4 + j by simp [Sh.vals]; omega]
      exact ih (by simpa using h)
theorem Es : ElemT Tryz.prog 41 46 4 72 (.agg #[.string ⟨#[]⟩, .int .i64 0, .slice none 0 0, .slice none 0 0]) := ⟨Tryz.underlying41, by kernel_rfl, rfl⟩
/-- A list of buckets as told, in memory from n₀ on. -/
structure OutIn (w : World) (n₀ : Nat) (v : Value) (l : List Sh) : Prop where
  own : Own w 46 4 v l.length (shs l)
  el : ∀ x ∈ l, OwnE w x.ve x.ents ∧ OwnE w x.vs x.spare
  f1 : ∀ g ∈ fpv v, n₀ ≤ g
  f2 : ∀ x ∈ l, ∀ g, g ∈ fpv x.ve ∨ g ∈ fpv x.vs → n₀ ≤ g
theorem OutIn.ext {w w' : World} {n₀ : Nat} {v : Value} {l : List Sh} (h : OutIn w n₀ v l) (hB : Below w.heap.size w w') : OutIn w' n₀ v l := ⟨h.own.ext hB, fun x hx => ⟨(h.el x hx).1.ext hB, (h.el x hx).2.ext hB⟩, h.f1, h.f2⟩
theorem own_apart {w : World} {v u : Value} {n m : Nat} {xs ys : List Value} (h : Own w 46 4 v n xs) (k : Own w 60 8 u m ys) : ∀ g ∈ fpv u, g ∉ fpv v := by
  intro g hu hv
  rcases h with ⟨a, rfl, _⟩ | ⟨g1, cap, cur, rfl, _, _, h3, _⟩
  · cases a <;> simp [fpv] at hv
  · rcases k with ⟨a, rfl, _⟩ | ⟨g2, cap2, cur2, rfl, _, _, k3, _⟩
    · cases a <;> simp [fpv] at hu
    · simp [fpv] at hu hv
      subst hv hu
      rw [h3] at k3
      injection k3 with k3
      injection k3 with _ k3 _
      cases k3
def shInfo (x : Sh) : ByteArray × Nat × List Ent × List Ent := (x.pre, x.bits, x.ents, x.spare)
def bkInfo (now : Int) (k : Bk) : ByteArray × Nat × List Ent × List Ent := (k.pre, k.bits, k.ents.map (shownE now), k.spare.map (shownE now))
theorem sh_one (x : Sh) (h1 : ∃ a n c, x.ve = .slice a n c) (h2 : ∃ a n c, x.vs = .slice a n c) : ∀ u ∈ x.vals, u.oneCell' = true := by
  intro u hu
  obtain ⟨a, n, c, h1⟩ := h1
  obtain ⟨a', n', c', h2⟩ := h2
  simp [Sh.vals, h1, h2] at hu
  rcases hu with rfl | rfl | rfl | rfl <;> rfl
/-- What Buckets leaves. -/
def BucketsRes (w : World) (t : Nat) (own : ByteArray) (now : Int) (lab : Nat → Option Nat) (m : Nat) (v : Bool → Value) (L : Bool → List Pl) (f : Bool) (e : Ending) (w' : World) : Prop :=
  ∃ vo l, e = .returned (.tuple #[vo, .int .i64 0]) ∧ OutIn w' w.heap.size vo l ∧ l.map shInfo = (L f).map (fun x => bkInfo now x.k) ∧ TbIn w' t own now lab m v L ∧ KeepL lab w w'
set_option maxRecDepth 100000 in
set_option maxHeartbeats 2000000 in
theorem buckets_calls (w : World) (t : Nat) (own : ByteArray) (now0 : Int) (lab : Nat → Option Nat) (m : Nat) (v : Bool → Value) (L : Bool → List Pl) (h : TbIn w t own now0 lab m v L) (N : Int) (f : Bool) (hF : FInv own f N ((L f).map (·.k)))
    (now : Int) (ht1 : now0 ≤ now) (ht2 : now ≤ 1000000000) : Calls Tryz.prog 12 #[.pointer (some ⟨t, 0, none⟩), .int .i64 now, .int .i64 (famN f)] w (BucketsRes w t own now lab m v L f) := by
  have hlen : (L f).length ≤ 161 := by have := hF.len; simpa using this
  have hpos : 0 < (L f).length := by
    obtain ⟨i, k, _, hk, _⟩ := hF.of own
    have := (List.getElem?_eq_some_iff.1 hk).1
    simp at this
    omega
  have hbi : ∀ x ∈ L f, BInv f N x.k := fun x hx => hF.bk x.k (List.mem_map.2 ⟨x, hx, rfl⟩)
  have htell := tell_ok w t _ now0 now f _ h.hh ht1 ht2
  obtain ⟨hT2, hK2⟩ := h.setNow now
  have HTE := Lib.hid htell
  have HT2 := Lib.hid hT2
  have HK2 := Lib.hid hK2
  have HBI := Lib.hid hbi
  have HLN : Hid (∀ g i, lab g = some i → g < w.heap.size) := h.lt
  clear h hF htell hT2 hK2 hbi
  go_enter Tryz.func12, Tryz.ntmps12
  go_wp2_with fail
  refine HTE.out.mono ?_
  rintro e2 w2 ⟨rfl, hw2⟩
  have hT := HT2.out
  have hK := HK2.out
  rw [← hw2] at hT hK
  obtain ⟨d0, d1, d2⟩ := cells3 hT.hh
  have hlook := fam_lookup hT.hm f
  obtain ⟨gv, capv, hvb, hle, hcm, hfp, _⟩ := (hT.hv f).row (by rw [List.length_map]; exact hpos)
  rw [List.length_map] at hvb
  rw [hvb] at hlook
  have HT := Lib.hid hT
  have HK := Lib.hid hK
  have HVB := Lib.hid hvb
  have hz2 : w.heap.size ≤ w2.heap.size := hK.size
  clear hT hK hw2 hvb hle hcm hfp
  go_wp2_with fail
  go_loopw [9, 26] (fun vo i wr => ∃ (k : Nat) (l : List Sh), k ≤ (L f).length ∧ i = .int .i64 k ∧ Hid (l.length = k) ∧ Hid (OutIn wr w.heap.size vo l) ∧ Hid (l.map shInfo = ((L f).take k).map (fun x => bkInfo now x.k)) ∧ Hid (Below w.heap.size w2 wr)) (fun _ i _ => (L f).length - (intOf i).toNat)
  case atStart => exact ⟨0, [], by omega, rfl, rfl, ⟨Own.nil _ _ _, by simp, by simp [fpv], by simp⟩, rfl, Below.refl _ _⟩
  case round =>
    obtain ⟨k, l, hk, rfl, HL, HOK, HMK, HBK⟩ := hrel
    have hT : TbIn wr t own now lab m v L := HT.out.of_blocks HBK.out.size fun g hg => by
      cases hlb : lab g with
      | none => exact absurd hlb hg
      | some i => exact HBK.out.block g (HLN.out g i hlb)
    by_cases hlt : k < (L f).length
    · obtain ⟨x, hx⟩ : ∃ x, (L f)[k]? = some x := ⟨(L f)[k], List.getElem?_eq_getElem hlt⟩
      have hxm := List.mem_of_getElem? hx
      obtain ⟨ve, vs, hhx, hve, hvs, _, _⟩ := hT.hk f x hxm
      obtain ⟨q0, q1, q2, q3, q4⟩ := cells5 hhx
      have hvr := hT.hv f
      rw [HVB.out] at hvr
      have hcell : wr.cell? ⟨gv, k, none⟩ = some (.pointer (some ⟨x.a, 0, none⟩)) := hvr.cell rfl (ptrs_get (by simp [hx]))
      have hb := HBI.out x hxm
      have hs1 := fun W hW => shown_calls W t now ve x.k.ents (((Below.cell hW (p := ⟨t, 1, none⟩) (World.block_lt_of_cell? wr ⟨t, 1, none⟩ (cells3 hT.hh).2.1))).trans (cells3 hT.hh).2.1) (hve.ext hW) hb.he
      have hs2 := fun W hW => shown_calls W t now vs x.k.spare (((Below.cell hW (p := ⟨t, 1, none⟩) (World.block_lt_of_cell? wr ⟨t, 1, none⟩ (cells3 hT.hh).2.1))).trans (cells3 hT.hh).2.1) (hvs.ext hW) hb.hs
      have HS1 := Lib.hid hs1
      have HS2 := Lib.hid hs2
      have HX := Lib.hid hx
      obtain ⟨ao, po, hvo, _⟩ := HOK.out.own.shape
      rw [HL.out] at hvo
      subst hvo
      clear hT hxm hhx hve hvs hvr hb hs1 hs2 hx
      go_wp2_with fail
      refine wp_region_ord [(0,0),(1,0),(2,0),(3,0),(4,0),(5,1),(6,0),(7,0),(8,0),(9,0),(10,1),(11,0),(12,0),(13,0),(14,0),(15,1),(17,0),(18,0),(19,0),(20,0),(21,1),(16,2),(22,2),(23,0),(24,2),(25,3),(26,0)] (by kernel_rfl) (by kernel_rfl) ?_
      simp only [pickO, List.map_cons, List.map_nil, List.getD_cons_zero, List.getD_cons_succ]
      repeat (first | ((with_reducible refine wpO_skip ?_ ?_); rfl; simp only [Act.put, List.setIfInBounds_toArray, List.set_cons_zero, List.set_cons_succ]) | ((with_reducible refine wpO_step (fun K hK => ?_)); go_simp; (try go_bits); (first | (with_reducible refine hK _ _ ?_) | (simp only [IntWalk.iteOmega]; go_simp; (try go_bits); (with_reducible refine hK _ _ ?_))); clear hK K))
      (with_reducible refine wpO_step (fun K hK => ?_)); go_simp; (try go_bits)
      refine (HS1.out wr.drew (Below.refl _ _).drew).mono ?_
      rintro e3 w3 ⟨v3, rfl, ho3, hf3, hb3⟩
      refine ⟨hb3, ?_⟩
      (with_reducible refine hK _ _ ?_); clear hK K
      repeat (first | ((with_reducible refine wpO_skip ?_ ?_); rfl; simp only [Act.put, List.setIfInBounds_toArray, List.set_cons_zero, List.set_cons_succ]) | ((with_reducible refine wpO_step (fun K hK => ?_)); go_simp; (try go_bits); (first | (with_reducible refine hK _ _ ?_) | (simp only [IntWalk.iteOmega]; go_simp; (try go_bits); (with_reducible refine hK _ _ ?_))); clear hK K))
      (with_reducible refine wpO_step (fun K hK => ?_)); go_simp; (try go_bits)
      have hB3 : Below wr.heap.size wr w3 := (Below.refl _ wr).drew.trans hb3
      refine (HS2.out w3 hB3).mono ?_
      rintro e4 w4 ⟨v4, rfl, ho4, hf4, hb4⟩
      refine ⟨hb4, ?_⟩
      (with_reducible refine hK _ _ ?_); clear hK K
      obtain ⟨a3, p3, rfl, _⟩ := ho3.shape
      obtain ⟨a4, p4, rfl, _⟩ := ho4.shape
      repeat (first | ((with_reducible refine wpO_skip ?_ ?_); rfl; simp only [Act.put, List.setIfInBounds_toArray, List.set_cons_zero, List.set_cons_succ]) | ((with_reducible refine wpO_step (fun K hK => ?_)); go_simp; (try go_bits); (first | (with_reducible refine hK _ _ ?_) | (simp only [IntWalk.iteOmega]; go_simp; (try go_bits); (with_reducible refine hK _ _ ?_))); clear hK K))
      have hB4 : Below wr.heap.size wr w4 := below_ext hB3 hb4
      obtain ⟨sh, hsh⟩ : ∃ sh : Sh, sh = ⟨x.k.pre, x.k.bits, .slice a3 x.k.ents.length p3, .slice a4 x.k.spare.length p4, x.k.ents.map (shownE now), x.k.spare.map (shownE now)⟩ := ⟨_, rfl⟩
      have hvals : sh.vals = [.string x.k.pre, .int .i64 x.k.bits, .slice a3 x.k.ents.length p3, .slice a4 x.k.spare.length p4] := by rw [hsh]; rfl
      have hone : ∀ u ∈ sh.vals, u.oneCell' = true := sh_one sh (by rw [hsh]; exact ⟨_, _, _, rfl⟩) (by rw [hsh]; exact ⟨_, _, _, rfl⟩)
      obtain ⟨w0, hw0⟩ : ∃ w0, w4.alloc (.cells sh.vals.toArray 46) = w0 := ⟨_, rfl⟩
      have hnews : ∀ (j : Nat) (u : Value), sh.vals[j]? = some u → w0.cell? ((⟨w4.heap.size, 0, none⟩ : Addr).add j) = some u := by rw [← hw0]; exact new_cells w4 sh.vals 46
      have hB0 : Below w4.heap.size w4 w0 := by rw [← hw0]; exact below_new (Below.refl _ _) _
      have hO0 : Own w0 46 4 (.slice ao k po) k (shs l) := by
        have := (HOK.out.own.ext hB4).ext hB0
        rw [HL.out] at this
        exact this
      have hoe : OwnE w0 sh.ve sh.ents ∧ OwnE w0 sh.vs sh.spare := by
        rw [hsh]
        have h1 := (ho3.ext hb4).ext hB0
        have h2 := ho4.ext hB0
        simp only [List.length_map] at h1 h2
        refine ⟨?_, ?_⟩
        · show Own _ 60 8 _ (x.k.ents.map (shownE now)).length _
          rw [List.length_map]; exact h1
        · show Own _ 60 8 _ (x.k.spare.map (shownE now)).length _
          rw [List.length_map]; exact h2
      have hff : ∀ g, g ∈ fpv sh.ve ∨ g ∈ fpv sh.vs → w.heap.size ≤ g := by
        rw [hsh]
        have h1 := HBK.out.size
        have h3 := hB3.size
        intro g hg
        rcases hg with hg | hg
        · have : wr.heap.size ≤ g := hf3 g (by rw [List.length_map]; exact hg)
          omega
        · have := hf4 g (by rw [List.length_map]; exact hg)
          omega
      have hinfo : shInfo sh = bkInfo now x.k := by rw [hsh]; rfl
      have HVALS := Lib.hid hvals
      have HONE := Lib.hid hone
      have HW0 := Lib.hid hw0
      have HNEWS := Lib.hid hnews
      have HB0 := Lib.hid (below_ext hB4 hB0)
      have HO0 := Lib.hid hO0
      have HOE := Lib.hid hoe
      have HFF := Lib.hid hff
      have HINF := Lib.hid hinfo
      clear hsh hvals hone hw0 hnews hB0 hO0 hoe hff hinfo ho3 ho4 hf3 hf4 hB3 hb4 hB4
      (with_reducible refine wpO_step (fun K hK => ?_)); go_simp; (try go_bits)
      refine ⟨by first | exact below_new (Below.refl _ _) _ | (go_grown; done), ?_⟩
      (with_reducible refine hK _ _ ?_); clear hK K
      have hw : w4.alloc (.cells #[.string x.k.pre, .int .i64 x.k.bits, .slice a3 x.k.ents.length p3, .slice a4 x.k.spare.length p4] 46) = w0 := by rw [← HW0.out, HVALS.out]
      rw [hw]
      clear hw
      repeat (first | ((with_reducible refine wpO_skip ?_ ?_); rfl; simp only [Act.put, List.setIfInBounds_toArray, List.set_cons_zero, List.set_cons_succ]) | ((with_reducible refine wpO_step (fun K hK => ?_)); go_simp; (try go_bits); (first | (with_reducible refine hK _ _ ?_) | (simp only [IntWalk.iteOmega]; go_simp; (try go_bits); (with_reducible refine hK _ _ ?_))); clear hK K))
      refine wpO_append' rfl rfl Es rfl HO0.out sh.vals rfl (by rw [HVALS.out]; rfl) HNEWS.out HONE.out (by unfold maxLen; omega) (by omega) ?_
      intro v5 w5 ho5 hk5 hf5 hz5
      have hge : ∀ g ∈ fpv (.slice ao k po), w.heap.size ≤ g := HOK.out.f1
      have hap : ∀ y ∈ l, ∀ g, g ∈ fpv y.ve ∨ g ∈ fpv y.vs → g ∉ fpv (.slice ao k po) := fun y hy g hg => by
        rcases hg with hg | hg
        · exact own_apart HOK.out.own (HOK.out.el y hy).1 g hg
        · exact own_apart HOK.out.own (HOK.out.el y hy).2 g hg
      have hw0s : w.heap.size ≤ w0.heap.size := by have := HBK.out.size; have := HB0.out.size; omega
      have hout : OutIn w5 w.heap.size v5 (l ++ [sh]) := by
        refine ⟨?_, fun y hy => ?_, fun g hg => ?_, fun y hy g hg => ?_⟩
        · rw [List.length_append, HL.out, shs_snoc]; exact ho5
        · rcases List.mem_append.1 hy with hy | hy
          · have h1 := (HOK.out.el y hy).1.ext HB0.out
            have h2 := (HOK.out.el y hy).2.ext HB0.out
            exact ⟨h1.keeps hk5 (fun g hg => hap y hy g (.inl hg)), h2.keeps hk5 (fun g hg => hap y hy g (.inr hg))⟩
          · rw [List.mem_singleton] at hy
            subst hy
            exact ⟨HOE.out.1.keeps hk5 (fun g hg => own_apart HO0.out HOE.out.1 g hg), HOE.out.2.keeps hk5 (fun g hg => own_apart HO0.out HOE.out.2 g hg)⟩
        · rcases hf5 g hg with h | h
          · exact hge g h
          · omega
        · rcases List.mem_append.1 hy with hy | hy
          · exact HOK.out.f2 y hy g hg
          · rw [List.mem_singleton] at hy
            subst hy
            exact HFF.out g hg
      have hmap : (l ++ [sh]).map shInfo = ((L f).take (k + 1)).map (fun x => bkInfo now x.k) := by
        obtain ⟨hlt', rfl⟩ := List.getElem?_eq_some_iff.1 HX.out
        rw [List.map_append, HMK.out, List.take_succ_eq_append_getElem hlt', List.map_append, List.map_singleton, List.map_singleton, HINF.out]
      have hB5 : Below w.heap.size w2 w5 := (HBK.out.trans (HB0.out.mono (by have := HBK.out.size; omega))).trans (hk5.below hw0s hge)
      have HOUT := Lib.hid hout
      have HMAP := Lib.hid hmap
      have HB5 := Lib.hid hB5
      have HL5 := Lib.hid (show (l ++ [sh]).length = k + 1 by rw [List.length_append, HL.out]; rfl)
      clear hge hap hw0s hout hmap hB5 ho5 hk5 hf5 hz5
      repeat (first | ((with_reducible refine wpO_skip ?_ ?_); rfl; simp only [Act.put, List.setIfInBounds_toArray, List.set_cons_zero, List.set_cons_succ]) | ((with_reducible refine wpO_step (fun K hK => ?_)); go_simp; (try go_bits); (first | (with_reducible refine hK _ _ ?_) | (simp only [IntWalk.iteOmega]; go_simp; (try go_bits); (with_reducible refine hK _ _ ?_))); clear hK K))
      (with_reducible refine wpO_nil ?_)
      go_wp2
      go_roundw
      case rel => exact ⟨k + 1, l ++ [sh], by omega, by go_num, HL5.out, HOUT.out, HMAP.out, HB5.out⟩
      case measure => simp [intOf]; omega
    · obtain rfl : k = (L f).length := by omega
      have hMK := HMK.out
      rw [List.take_length] at hMK
      have HT9 := Lib.hid hT
      have HM9 := Lib.hid hMK
      clear hT hMK
      go_wp2
      go_ret2
      exact ⟨_, l, rfl, HOK.out, HM9.out, HT9.out, ⟨HBK.out.os.trans HK.out.os, HBK.out.tape.trans HK.out.tape, HBK.out.output.trans HK.out.output, Nat.le_trans HK.out.size HBK.out.size, fun g hg hl => (HBK.out.block g hg).trans (HK.out.block g hg hl)⟩⟩
end Go.Proofs.Tc
