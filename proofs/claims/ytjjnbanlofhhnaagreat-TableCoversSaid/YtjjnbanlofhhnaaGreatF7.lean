import Derived.Test.YtjjnbanlofhhnaaGreatF6
import Derived.Test.YtjjnbanlofhhnaaGreatRep
namespace Go.Proofs.Tc
open Go.RowKit Go.Sort
attribute [local go_sem] stepO_0 stepO_1 stepO_2 stepO_3 stepV_0 stepV_1 stepV_2 stepV_3 stepV_5

def zeroS : ByteArray := ⟨(List.replicate 20 0).toArray⟩
set_option maxRecDepth 100000 in
theorem zero_bits : ∀ i, i < 160 → bitL zeroS.data.toList i = false := by decide
theorem zero_pre (own : ByteArray) : prefixF own 0 = zeroS := by
  refine id_ext (prefixF_size _ _) rfl fun i hi => ?_
  rw [prefixF_bit _ _ _ (by omega) hi, zero_bits i hi]
  simp
theorem rep_calls (w : World) : Calls Tryz.prog 55 #[.string ⟨#[0]⟩, .int .i64 20] w (Ret w (.string zeroS)) :=
  (Tryz.strings_Repeat ⟨#[0]⟩ 20 w (by omega) (by decide)).mono (by rintro e w' ⟨rfl, h⟩; exact ⟨by rfl, h⟩)
def FirstRes (w : World) (now : Int) (e : Ending) (w' : World) : Prop := ∃ g Y, e = .returned (.slice (some ⟨g, 0, none⟩) 1 1) ∧ w'.heap[Y]? = some (.cells #[.string zeroS, .int .i64 0, .slice none 0 0, .slice none 0 0, .int .i64 now] 85 (0, 0)) ∧
  w'.heap[g]? = some (.cells #[.pointer (some ⟨Y, 0, none⟩)] 74 (0, 0)) ∧ w.heap.size ≤ Y ∧ w.heap.size ≤ g ∧ Y ≠ g ∧ Below w.heap.size w w'
set_option maxRecDepth 100000 in
theorem first_calls (w : World) (bx : Nat) (now : Int) (hx : w.cell? ⟨bx, 0, none⟩ = some (.int .i64 now)) : Calls Tryz.prog 54 #[.pointer (some ⟨bx, 0, none⟩)] w (FirstRes w now) := by
  have hR := fun w => rep_calls w
  go_enter Tryz.func54, Tryz.ntmps54
  go_wp2
  refine wp_region_ord [(2,1),(0,2),(1,0),(3,0),(4,2),(5,2),(6,0)] (by kernel_rfl) (by kernel_rfl) ?_
  simp only [pickO, List.map_cons, List.map_nil, List.getD_cons_zero, List.getD_cons_succ]
  repeat (first | ((with_reducible refine wpO_skip ?_ ?_); rfl; simp only [Act.put, List.setIfInBounds_toArray, List.set_cons_zero, List.set_cons_succ]) | ((with_reducible refine wpO_step (fun K hK => ?_)); go_simp; (try go_bits); (first | (with_reducible refine hK _ _ ?_) | (simp only [IntWalk.iteOmega]; go_simp; (try go_bits); (with_reducible refine hK _ _ ?_))); clear hK K))
  (with_reducible refine wpO_step (fun K hK => ?_)); go_simp; (try go_bits)
  refine (hR _).mono ?_
  rintro e' w1 ⟨rfl, hB1⟩
  refine ⟨by first | assumption | (go_grown; done) | exact below_dd _ _ | simpa using below_dd (World.alloc _ _) _, ?_⟩; (with_reducible refine hK _ _ ?_); clear hK K
  repeat (first | ((with_reducible refine wpO_skip ?_ ?_); rfl; simp only [Act.put, List.setIfInBounds_toArray, List.set_cons_zero, List.set_cons_succ]) | ((with_reducible refine wpO_step (fun K hK => ?_)); go_simp; (try go_bits); (first | (with_reducible refine hK _ _ ?_) | (simp only [IntWalk.iteOmega]; go_simp; (try go_bits); (with_reducible refine hK _ _ ?_))); clear hK K))
  (with_reducible refine wpO_step (fun K hK => ?_)); go_simp; (try go_bits)
  refine ⟨by first | assumption | (go_grown; done) | exact below_dd _ _ | simpa using below_dd (World.alloc _ _) _, ?_⟩; (with_reducible refine hK _ _ ?_); clear hK K
  repeat (first | ((with_reducible refine wpO_skip ?_ ?_); rfl; simp only [Act.put, List.setIfInBounds_toArray, List.set_cons_zero, List.set_cons_succ]) | ((with_reducible refine wpO_step (fun K hK => ?_)); go_simp; (try go_bits); (first | (with_reducible refine hK _ _ ?_) | (simp only [IntWalk.iteOmega]; go_simp; (try go_bits); (with_reducible refine hK _ _ ?_))); clear hK K))
  (with_reducible refine wpO_step (fun K hK => ?_)); go_simp; (try go_bits)
  refine ⟨by first | assumption | (go_grown; done) | exact below_dd _ _ | simpa using below_dd (World.alloc _ _) _, ?_⟩; (with_reducible refine hK _ _ ?_); clear hK K
  repeat (first | ((with_reducible refine wpO_skip ?_ ?_); rfl; simp only [Act.put, List.setIfInBounds_toArray, List.set_cons_zero, List.set_cons_succ]) | ((with_reducible refine wpO_step (fun K hK => ?_)); go_simp; (try go_bits); (first | (with_reducible refine hK _ _ ?_) | (simp only [IntWalk.iteOmega]; go_simp; (try go_bits); (with_reducible refine hK _ _ ?_))); clear hK K))
  (with_reducible refine wpO_nil ?_)
  go_wp2
  go_ret
  have hBd : Below w.heap.size w w1 := (Below.refl w.heap.size w).drew.trans hB1
  exact ⟨_, _, rfl, (Below.heap_alloc _ _ _ (by simp)).trans (heap_alloc_new w1 _), by have := heap_alloc_new (w1.alloc (.cells #[.string zeroS, .int .i64 0, .slice none 0 0, .slice none 0 0, .int .i64 now] 85 (0, 0))) (.cells #[.pointer (some ⟨w1.heap.size, 0, none⟩)] 74 (0, 0)); rw [World.size_alloc] at this; exact this,
    hBd.size, Nat.le_trans hBd.size (by omega), by omega, (hBd.alloc hBd.size _).alloc (Nat.le_trans hBd.size (by simp)) _⟩

theorem find_none (w : World) : (Instr.findKey 3 (.int .i64 4) []).run Tryz.prog w = .ok none w := by
  unfold Instr.findKey
  simp [run_underlying Tryz.underlying3, Instr.findNow, Instr.sameNow]
theorem find_six (a : Value) (w : World) : (Instr.findKey 3 (.int .i64 6) [⟨.int .i64 4, a, 0⟩]).run Tryz.prog w = .ok none w := by
  unfold Instr.findKey
  simp [run_underlying Tryz.underlying3, Instr.findNow, Instr.sameNow]
theorem ins1 {W : World} {m : Nat} (h : W.heap[m]? = some (.map #[] 0)) (a : Value) : ∃ W', (Instr.mapUpdate 65 (.map (some m)) (.int .i64 4) a).run Tryz.prog W = .ok () W' ∧ W'.heap[m]? = some (.map #[⟨.int .i64 4, a, 0⟩] 1) ∧ Keeps [m] W W' ∧ W'.heap.size = W.heap.size := by
  have hg : (getObj m).run Tryz.prog W = .ok (.map #[] 0) W := by simp only [getObj, Sem.run, h]
  have hm : m < W.heap.size := (Array.getElem?_eq_some_iff.1 h).1
  have hs : ∀ o, (setObj m o).run Tryz.prog W = .ok () { W with heap := W.heap.setIfInBounds m o } := by
    intro o
    simp only [setObj, Sem.run, h]
  refine ⟨{ W with heap := W.heap.setIfInBounds m (.map #[⟨.int .i64 4, a, 0⟩] 1) }, ?_, by simp [hm], ⟨rfl, rfl, rfl, by simp, fun k _ hk => ?_⟩, by simp⟩
  · unfold Instr.mapUpdate
    simp only [run_underlying Tryz.underlying65, Sem.run_bind, Result.andThen_ok, hg, ck_int, find_none]
    simp [hs]
  · have : m ≠ k := fun e => hk (by simp [e])
    simp [this]
theorem ins2 {W : World} {m : Nat} {a : Value} (h : W.heap[m]? = some (.map #[⟨.int .i64 4, a, 0⟩] 1)) (c : Value) : ∃ W', (Instr.mapUpdate 65 (.map (some m)) (.int .i64 6) c).run Tryz.prog W = .ok () W' ∧ FamAt W' m (fun b => if b then c else a) ∧ Keeps [m] W W' ∧ W'.heap.size = W.heap.size := by
  have hg : (getObj m).run Tryz.prog W = .ok (.map #[⟨.int .i64 4, a, 0⟩] 1) W := by simp only [getObj, Sem.run, h]
  have hm : m < W.heap.size := (Array.getElem?_eq_some_iff.1 h).1
  have hs : ∀ o, (setObj m o).run Tryz.prog W = .ok () { W with heap := W.heap.setIfInBounds m o } := by
    intro o
    simp only [setObj, Sem.run, h]
  refine ⟨{ W with heap := W.heap.setIfInBounds m (.map #[⟨.int .i64 4, a, 0⟩, ⟨.int .i64 6, c, 1⟩] 2) }, ?_, by unfold FamAt; simp [hm], ⟨rfl, rfl, rfl, by simp, fun k _ hk => ?_⟩, by simp⟩
  · unfold Instr.mapUpdate
    simp only [run_underlying Tryz.underlying65, Sem.run_bind, Result.andThen_ok, hg, ck_int, find_six]
    simp [hs]
  · have : m ≠ k := fun e => hk (by simp [e])
    simp [this]
def EmptyRes (w : World) (now : Int) (e : Ending) (w' : World) : Prop := ∃ m, ∃ g Y : Bool → Nat, e = .returned (.map (some m)) ∧ FamAt w' m (fun b => .slice (some ⟨g b, 0, none⟩) 1 1) ∧
  (∀ b, w'.heap[Y b]? = some (.cells #[.string zeroS, .int .i64 0, .slice none 0 0, .slice none 0 0, .int .i64 now] 85 (0, 0)) ∧ w'.heap[g b]? = some (.cells #[.pointer (some ⟨Y b, 0, none⟩)] 74 (0, 0)) ∧ m < Y b ∧ m < g b ∧ Y b ≠ g b) ∧
  (∀ i ∈ [Y false, g false], ∀ j ∈ [Y true, g true], i ≠ j) ∧ w.heap.size ≤ m ∧ Below w.heap.size w w'
set_option maxRecDepth 100000 in
theorem empty_calls (w : World) (now : Int) : Calls Tryz.prog 23 #[.int .i64 now] w (EmptyRes w now) := by
  have hF := fun w bx => first_calls w bx now
  have hmk : ∀ w : World, (Instr.makeMap 65 none).run Tryz.prog w = .ok (.map (some w.heap.size)) (w.alloc (.map #[] 0)) := fun _ => rfl
  have hB0 : Below w.heap.size w ((w.alloc (.cells #[.int .i64 now] 3)).alloc (.map #[] 0)) := ((Below.refl _ w).alloc (Nat.le_refl _) _).alloc (by simp) _
  have hx0 : ((w.alloc (.cells #[.int .i64 now] 3)).alloc (.map #[] 0)).heap[w.heap.size]? = some (.cells #[.int .i64 now] 3 (0, 0)) := (Below.heap_alloc _ _ _ (by simp)).trans (heap_alloc_new w _)
  have hm0 : ((w.alloc (.cells #[.int .i64 now] 3)).alloc (.map #[] 0)).heap[w.heap.size + 1]? = some (.map #[] 0) := by have := heap_alloc_new (w.alloc (.cells #[.int .i64 now] 3)) (.map #[] 0); rw [World.size_alloc] at this; exact this
  have hs0 : ((w.alloc (.cells #[.int .i64 now] 3)).alloc (.map #[] 0)).heap.size = w.heap.size + 2 := by simp
  have HB0 := Lib.hid hB0
  have HX0 := Lib.hid hx0
  have HM0 := Lib.hid hm0
  have HS0 := Lib.hid hs0
  clear hB0 hx0 hm0 hs0
  go_enter Tryz.func23, Tryz.ntmps23
  go_wp2_with (refine (hF _ w.heap.size (cells1 HX0.out)).mono ?_)
  generalize ((w.alloc (.cells #[.int .i64 now] 3)).alloc (.map #[] 0)) = w0 at *
  rintro e1 w1 ⟨g4, Y4, rfl, hY4, hg4, gY, gg, gne, hB1⟩
  have hx1 := (hB1.block _ (by rw [HS0.out]; omega)).trans HX0.out
  obtain ⟨W1, hr1, hm1, hk1, hs1⟩ := ins1 ((hB1.block _ (by rw [HS0.out]; omega)).trans HM0.out) (.slice (some ⟨g4, 0, none⟩) 1 1)
  have hx2 := (hk1.block w.heap.size (Array.getElem?_eq_some_iff.1 hx1).1 (by simp)).trans hx1
  have hsz := HS0.out
  have hY4' := (hk1.block Y4 (Array.getElem?_eq_some_iff.1 hY4).1 (by simp; omega)).trans hY4
  have hg4' := (hk1.block g4 (Array.getElem?_eq_some_iff.1 hg4).1 (by simp; omega)).trans hg4
  have HX2 := Lib.hid hx2
  have HM1 := Lib.hid hm1
  have HY4 := Lib.hid hY4'
  have HG4 := Lib.hid hg4'
  have HB1 := Lib.hid (HB0.out.trans ((hB1.mono (by omega)).trans (hk1.below (by have := hB1.size; omega) (by simp))))
  clear hx1 hx2 hY4 hg4 hm1 hY4' hg4' hB1 hk1 hs1
  go_wp2_with (refine (hF _ w.heap.size (cells1 HX2.out)).mono ?_)
  rintro e2 w2 ⟨g6, Y6, rfl, hY6, hg6, gY6, gg6, gne6, hB2⟩
  have ly4 := (Array.getElem?_eq_some_iff.1 HY4.out).1
  have lg4 := (Array.getElem?_eq_some_iff.1 HG4.out).1
  obtain ⟨W2, hr2, hm2, hk2, hs2⟩ := ins2 ((hB2.block _ (Array.getElem?_eq_some_iff.1 HM1.out).1).trans HM1.out) (.slice (some ⟨g6, 0, none⟩) 1 1)
  have lW : w.heap.size + 1 < W1.heap.size := (Array.getElem?_eq_some_iff.1 HM1.out).1
  have hfin : EmptyRes w now (.returned (.map (some (w.heap.size + 1)))) W2 := by
    refine ⟨_, fun b => if b then g6 else g4, fun b => if b then Y6 else Y4, rfl, famAt_ext (w := W2) (w' := W2) hm2 (funext fun b => by cases b <;> rfl), ?_, ?_, by omega, ?_⟩
    · intro b
      cases b
      · exact ⟨(hk2.block Y4 (Nat.lt_of_lt_of_le ly4 hB2.size) (by simp; omega)).trans ((hB2.block _ ly4).trans HY4.out), (hk2.block g4 (Nat.lt_of_lt_of_le lg4 hB2.size) (by simp; omega)).trans ((hB2.block _ lg4).trans HG4.out), by simp; omega, by simp; omega, by simpa using gne⟩
      · exact ⟨(hk2.block Y6 (Array.getElem?_eq_some_iff.1 hY6).1 (by simp; omega)).trans hY6, (hk2.block g6 (Array.getElem?_eq_some_iff.1 hg6).1 (by simp; omega)).trans hg6, by simp; omega, by simp; omega, by simpa using gne6⟩
    · intro i hi j hj
      simp at hi hj
      rcases hi with rfl | rfl <;> rcases hj with rfl | rfl <;> omega
    · exact HB1.out.trans ((hB2.mono (by omega)).trans (hk2.below (by have := hB2.size; omega) (by simp)))
  have HFIN := Lib.hid hfin
  clear hm2 hk2 hs2 hfin
  go_wp2_with fail
  go_ret
  exact HFIN.out

def newL (Y : Bool → Nat) (now : Int) (b : Bool) : List Pl := [⟨Y b, ⟨zeroS, 0, [], [], now⟩, []⟩]
theorem finv_new (own : ByteArray) (Y : Bool → Nat) (now : Int) (f : Bool) : FInv own f 0 ((newL Y now f).map (·.k)) :=
  ⟨⟨0, by omega, by show [(zeroS, 0)] = [] ++ [(prefixF own 0, 0)] ++ []; rw [zero_pre]; rfl⟩, fun k hk => by
    simp [newL] at hk
    subst hk
    exact ⟨by simp, by simp, fun e he => by simp at he, fun e he => by simp at he⟩⟩
def NewIn (n : Nat) (own : ByteArray) (t : Nat) (w' : World) : Prop := ∃ lab m v L, TbIn w' t own 0 lab m v L ∧ (∀ f, FInv own f 0 ((L f).map (·.k))) ∧ (∀ g, g < n → lab g = none) ∧ ∀ f, (L f).map (·.k) = [⟨zeroS, 0, [], [], 0⟩]
theorem tb_new {w W : World} {own : ByteArray} {t m : Nat} {g Y : Bool → Nat} (ht : W.heap[t]? = some (.cells #[.string own, .int .i64 0, .map (some m)] 68 (0, 0))) (hm : FamAt W m (fun b => .slice (some ⟨g b, 0, none⟩) 1 1))
    (hb : ∀ b, W.heap[Y b]? = some (.cells #[.string zeroS, .int .i64 0, .slice none 0 0, .slice none 0 0, .int .i64 0] 85 (0, 0)) ∧ W.heap[g b]? = some (.cells #[.pointer (some ⟨Y b, 0, none⟩)] 74 (0, 0)) ∧ m < Y b ∧ m < g b ∧ Y b ≠ g b)
    (hd : ∀ i ∈ [Y false, g false], ∀ j ∈ [Y true, g true], i ≠ j) (hn : w.heap.size ≤ m) (htt : ∀ b, Y b < t ∧ g b < t) : NewIn w.heap.size own t W := by
  have d1 := hd (Y false) (by simp) (Y true) (by simp)
  have d2 := hd (Y false) (by simp) (g true) (by simp)
  have d3 := hd (g false) (by simp) (Y true) (by simp)
  have d4 := hd (g false) (by simp) (g true) (by simp)
  obtain ⟨bf1, bf2, bf3, bf4, bf5⟩ := hb false
  obtain ⟨bt1, bt2, bt3, bt4, bt5⟩ := hb true
  obtain ⟨tf1, tf2⟩ := htt false
  obtain ⟨tt1, tt2⟩ := htt true
  have lt : t < W.heap.size := (Array.getElem?_eq_some_iff.1 ht).1
  let lab : Nat → Option Nat := fun x => if x = t then some 0 else if x = m then some 1 else if x = g false then some 2 else if x = g true then some 3 else if x = Y false then some (Y false + 4) else if x = Y true then some (Y true + 4) else none
  have hl : ∀ x, lab x = if x = t then some 0 else if x = m then some 1 else if x = g false then some 2 else if x = g true then some 3 else if x = Y false then some (Y false + 4) else if x = Y true then some (Y true + 4) else none := fun _ => rfl
  refine ⟨lab, m, _, newL Y 0, ⟨ht, hm, ?_, ?_, ?_, ?_, ?_, ?_, ?_, ?_, ?_⟩, finv_new own Y 0, ?_, fun f => rfl⟩
  · intro b
    exact .inr ⟨g b, 0, #[.pointer (some ⟨Y b, 0, none⟩)], rfl, by simp [newL], by unfold maxLen; omega, (hb b).2.1, rfl, rfl, rfl⟩
  · intro b x hx
    simp [newL] at hx
    subst hx
    exact ⟨_, _, (hb b).1, Own.nil _ _ _, Own.nil _ _ _, rfl, by simp⟩
  · intro x i hx
    rw [hl] at hx
    repeat' split at hx
    all_goals first | (cases hx; done) | omega
  · rw [hl]; simp
  · rw [hl, if_neg (by omega)]; simp
  · intro b x hx
    simp [fpv] at hx
    subst hx
    rw [hl]
    cases b
    · rw [if_neg (by omega), if_neg (by omega), if_pos rfl]; rfl
    · rw [if_neg (by omega), if_neg (by omega), if_neg (by omega), if_pos rfl]; rfl
  · intro b x hx u hu
    simp [newL] at hx
    subst hx
    simp at hu
    subst hu
    rw [hl]
    cases b
    · rw [if_neg (by omega), if_neg (by omega), if_neg (by omega), if_neg (by omega), if_pos rfl]
    · rw [if_neg (by omega), if_neg (by omega), if_neg (by omega), if_neg (by omega), if_neg (by omega), if_pos rfl]
  · intro b
    simp [newL]
  · intro x hx y hy
    simp [newL] at hx hy
    subst hx hy
    exact d1
  · intro x hx
    rw [hl]
    repeat rw [if_neg (by omega)]
def NewRes (w : World) (own : ByteArray) (e : Ending) (w' : World) : Prop := (own.size ≠ 20 ∧ e = .returned (.tuple #[.pointer none, .int .i64 1]) ∧ Below w.heap.size w w') ∨
  (own.size = 20 ∧ ∃ t, e = .returned (.tuple #[.pointer (some ⟨t, 0, none⟩), .int .i64 0]) ∧ NewIn w.heap.size own t w' ∧ Below w.heap.size w w')
set_option maxRecDepth 100000 in
theorem new_calls (w : World) (own : ByteArray) : Calls Tryz.prog 8 #[.string own] w (NewRes w own) := by
  have hV := fun w => valid_calls w own
  have hE := fun w => empty_calls w 0
  go_enter Tryz.func8, Tryz.ntmps8
  by_cases hs : own.size = 20
  · have hs' : ((own.size : Int) == 20) = true := by simp [hs]
    go_wp2_with (first | (refine (hV _).mono ?_; rintro e1 w1 ⟨rfl, hB1⟩; rw [hs']) | (refine (hE _).mono ?_))
    rintro e2 w2 ⟨m, g, Y, rfl, hm, hb, hd, hmn, hB2⟩
    have ht0 := heap_alloc_new w2 (.cells #[.string own, .int .i64 0, .map (some m)] 68)
    have hB3 := below_new (Below.refl _ w2) (.cells #[.string own, .int .i64 0, .map (some m)] 68)
    have hB : Below w.heap.size w (w2.alloc (.cells #[.string own, .int .i64 0, .map (some m)] 68)) := (hB1.trans (hB2.mono hB1.size)).trans (hB3.mono (by have := hB1.size; have := hB2.size; omega))
    have lt : ∀ {x o}, w2.heap[x]? = some o → x < w2.heap.size := fun h => (Array.getElem?_eq_some_iff.1 h).1
    have hnew : NewIn w.heap.size own w2.heap.size (w2.alloc (.cells #[.string own, .int .i64 0, .map (some m)] 68)) := by
      refine tb_new ht0 ?_ (fun b => ?_) hd (by have := hB1.size; omega) (fun b => ⟨lt (hb b).1, lt (hb b).2.1⟩)
      · exact (hB3.block m (lt hm)).trans hm
      · obtain ⟨h1, h2, h3⟩ := hb b
        exact ⟨(hB3.block _ (lt h1)).trans h1, (hB3.block _ (lt h2)).trans h2, h3⟩
    have HNEW := Lib.hid hnew
    have HB := Lib.hid hB
    clear ht0 hB3 hB hnew hm hb hd
    go_wp2_with fail
    go_ret2
    exact .inr ⟨hs, _, rfl, HNEW.out, HB.out⟩
  · have hs' : ((own.size : Int) == 20) = false := by simp; omega
    go_wp2_with (first | (refine (hV _).mono ?_; rintro e1 w1 ⟨rfl, hB1⟩; rw [hs']))
    go_ret2
    exact .inl ⟨hs, rfl, hB1⟩
end Go.Proofs.Tc
