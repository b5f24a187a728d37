import Derived.Test.YtjjnbanlofhhnaaGreatD5
namespace Go.Proofs.Tc
open Go.RowKit Go.Sort
attribute [local go_sem] stepO_0 stepO_1 stepO_2 stepO_3 stepV_0 stepV_1 stepV_2 stepV_3 stepV_5

theorem split11_calls (w : World) (bx h : Nat) (pre : ByteArray) (n : Nat) (e : Ent) (hx : w.cell? ⟨bx, 0, none⟩ = some (.pointer (some ⟨h, 0, none⟩))) (h0 : w.cell? ⟨h, 0, none⟩ = some (.string pre)) (h1 : w.cell? ⟨h, 1, none⟩ = some (.int .i64 n))
    (hp : pre.size = 20) (hn : n ≤ 160) (he : e.nd.id.size = 20) : Calls Tryz.prog 126 #[entV e, .pointer (some ⟨bx, 0, none⟩)] w (Ret w (.bool (!holdsB pre n e.nd.id))) := by
  have lt1 := World.block_lt_of_cell? w _ hx
  have lt2 := World.block_lt_of_cell? w _ h0
  simp only at lt1 lt2
  unfold entV
  go_enter Tryz.func126, Tryz.ntmps126
  go_wp2
  refine wp_region_ord [(0,1),(1,0),(2,0),(3,1),(4,0),(5,0),(6,1),(7,3),(8,0),(9,0)] (by kernel_rfl) (by kernel_rfl) ?_
  simp only [pickO, List.map_cons, List.map_nil, List.getD_cons_zero, List.getD_cons_succ]
  repeat (first | ((with_reducible refine wpO_skip ?_ ?_); rfl; simp only [Act.put, List.setIfInBounds_toArray, List.set_cons_zero, List.set_cons_succ]) | ((with_reducible refine wpO_step (fun K hK => ?_)); go_simp; (try go_bits); (first | (with_reducible refine hK _ _ ?_) | (simp only [IntWalk.iteOmega]; go_simp; (try go_bits); (with_reducible refine hK _ _ ?_))); clear hK K))
  (with_reducible refine wpO_step (fun K hK => ?_)); go_simp; (try go_bits)
  refine (holds_calls _ _ _ _ he hp hn).mono ?_; rintro e2 w2 ⟨rfl, hb2⟩
  (with_reducible refine hK _ _ ?_); clear hK K
  repeat (first | ((with_reducible refine wpO_skip ?_ ?_); rfl; simp only [Act.put, List.setIfInBounds_toArray, List.set_cons_zero, List.set_cons_succ]) | ((with_reducible refine wpO_step (fun K hK => ?_)); go_simp; (try go_bits); (first | (with_reducible refine hK _ _ ?_) | (simp only [IntWalk.iteOmega]; go_simp; (try go_bits); (with_reducible refine hK _ _ ?_))); clear hK K))
  (with_reducible refine wpO_nil ?_)
  go_wp2
  go_ret
  exact Ret.bool rfl rfl ((below_new (Below.refl _ w) _).drew.trans (hb2.mono (by simp)))

theorem split1_calls (w : World) (bx h : Nat) (pre : ByteArray) (n : Nat) (v : Value) (es : List Ent) (hx : w.cell? ⟨bx, 0, none⟩ = some (.pointer (some ⟨h, 0, none⟩))) (h0 : w.cell? ⟨h, 0, none⟩ = some (.string pre)) (h1 : w.cell? ⟨h, 1, none⟩ = some (.int .i64 n))
    (hp : pre.size = 20) (hn : n ≤ 160) (he : ∀ e ∈ es, e.nd.id.size = 20) (ho : OwnE w v es) (hm : es.length * 80 ≤ 140737488355328) :
    Calls Tryz.prog 125 #[v, .pointer (some ⟨bx, 0, none⟩)] w fun e w' => ∃ v', e = .returned v' ∧ OwnE w' v' (es.filter fun e => holdsB pre n e.nd.id) ∧ (∀ g ∈ fpv v', w.heap.size ≤ g) ∧ Below w.heap.size w w' := by
  have lt1 := World.block_lt_of_cell? w _ hx
  have lt2 := World.block_lt_of_cell? w _ h0
  simp only at lt1 lt2
  have HO := Lib.hid ho
  have HE := Lib.hid he
  have HX := Lib.hid hx
  have H0 := Lib.hid h0
  have H1 := Lib.hid h1
  clear ho he hx h0 h1
  go_enter Tryz.func125, Tryz.ntmps125
  go_wp2_with fail
  refine (clone_calls w v es HO.out hm).mono ?_
  rintro r w1 ⟨v1, rfl, ho1, hf1, hb1⟩
  have hcl : ∀ W, Keeps (fpv v1) w1 W → ∀ e ∈ es, Calls Tryz.prog 126 (#[entV e] ++ #[.pointer (some ⟨bx, 0, none⟩)]) W (Ret W (.bool (!holdsB pre n e.nd.id))) := by
    intro W hW e hee
    have hc : ∀ a : Addr, a.block < w.heap.size → W.cell? a = w.cell? a := fun a ha =>
      (hW.cell (Nat.lt_of_lt_of_le ha hb1.size) (fun hm => by have := hf1 _ hm; omega)).trans (hb1.cell ha)
    exact split11_calls W bx h pre n e ((hc _ lt1).trans HX.out) ((hc _ lt2).trans H0.out) ((hc _ lt2).trans H1.out) hp hn (HE.out e hee)
  have HC := Lib.hid hcl
  have HO1 := Lib.hid ho1
  have HF1 := Lib.hid hf1
  clear hcl ho1 hf1
  go_wp2_with fail
  refine (deleteE_calls w1 v1 es HO1.out 126 #[.pointer (some ⟨bx, 0, none⟩)] (fun e => !holdsB pre n e.nd.id) (enters_of Tryz.func126 (by kernel_rfl) rfl) HC.out).mono ?_
  rintro r w2 ⟨v2, rfl, ho2, hf2, hk2⟩
  have HO2 := Lib.hid ho2
  have HF2 := Lib.hid hf2
  clear ho2 hf2
  go_wp2
  go_ret
  refine ⟨_, rfl, ?_, fun g hg => HF1.out g (HF2.out g hg), hb1.trans (hk2.below hb1.size HF1.out)⟩
  have := HO2.out
  simpa using this
end Go.Proofs.Tc
