import Derived.Test.YtjjnbanlofhhnaaGreatC4
namespace Go.Proofs.Tc
open Go.RowKit Go.Sort
attribute [local go_sem] stepO_0 stepO_1 stepO_2 stepO_3 stepV_0 stepV_1 stepV_2 stepV_3 stepV_5
theorem stepV_4h {P : Program} {ops : Array Oper} {V : World → Prop} {o : Oper} {a : Act} {w : World} {N : Act → World → Prop} {v : Value} (hg : o.guard = none) (h0 : V w) (h1 : ∀ W, V W → (execOp a.eval o).run P W = .ok (.value v) W) (h : N (a.put o.dst v) w) : stepV P ops V o 4 a w N := by
  rw [stepV_4, if_pos (by simp [Region.wanted, hg])]
  exact ⟨h0, v, h1, h⟩

structure Bk where
  pre : ByteArray
  bits : Nat
  ents : List Ent
  spare : List Ent
  ch : Int
/-- Bucket k lies in block b; its entries and its spare ones own the blocks S. -/
def BkIn (w : World) (b : Nat) (k : Bk) (S : List Nat) : Prop :=
  ∃ ve vs, w.heap[b]? = some (.cells #[.string k.pre, .int .i64 k.bits, ve, vs, .int .i64 k.ch] 85 (0, 0)) ∧ OwnE w ve k.ents ∧ OwnE w vs k.spare ∧ S = fpv ve ++ fpv vs ∧ (b :: S).Nodup

theorem BkIn.lt {w : World} {b : Nat} {k : Bk} {S : List Nat} (h : BkIn w b k S) : ∀ g ∈ b :: S, g < w.heap.size := by
  obtain ⟨ve, vs, h1, h2, h3, rfl, _⟩ := h
  intro g hg
  rcases List.mem_cons.1 hg with rfl | hg
  · exact (Array.getElem?_eq_some_iff.1 h1).1
  · rcases List.mem_append.1 hg with hg | hg
    · exact h2.fp_lt g hg
    · exact h3.fp_lt g hg
theorem BkIn.of_blocks {w w' : World} {b : Nat} {k : Bk} {S : List Nat} (h : BkIn w b k S) (hb : ∀ g ∈ b :: S, w'.heap[g]? = w.heap[g]?) : BkIn w' b k S := by
  obtain ⟨ve, vs, h1, h2, h3, rfl, h5⟩ := h
  exact ⟨ve, vs, (hb b (by simp)).trans h1, h2.of_blocks fun g hg => hb g (by simp [hg]), h3.of_blocks fun g hg => hb g (by simp [hg]), rfl, h5⟩
theorem BkIn.keeps {w w' : World} {b : Nat} {k : Bk} {S T : List Nat} (h : BkIn w b k S) (hk : Keeps T w w') (hd : ∀ g ∈ b :: S, g ∉ T) : BkIn w' b k S :=
  h.of_blocks fun g hg => hk.block g (h.lt g hg) (hd g hg)
theorem BkIn.ext {w w' : World} {b : Nat} {k : Bk} {S : List Nat} (h : BkIn w b k S) (hB : Below w.heap.size w w') : BkIn w' b k S := h.of_blocks fun g hg => hB.block g (h.lt g hg)

theorem cells5 {w : World} {b : Nat} {x0 x1 x2 x3 x4 : Value} {t : TypeId} (h : w.heap[b]? = some (.cells #[x0, x1, x2, x3, x4] t (0, 0))) :
    w.cell? ⟨b, 0, none⟩ = some x0 ∧ w.cell? ⟨b, 1, none⟩ = some x1 ∧ w.cell? ⟨b, 2, none⟩ = some x2 ∧ w.cell? ⟨b, 3, none⟩ = some x3 ∧ w.cell? ⟨b, 4, none⟩ = some x4 := by
  simp [World.cell?, h]
theorem cells4 {w : World} {b : Nat} {x0 x1 x2 x3 : Value} {t : TypeId} {z : Nat × Nat} (h : w.heap[b]? = some (.cells #[x0, x1, x2, x3] t z)) :
    w.cell? ⟨b, 0, none⟩ = some x0 ∧ w.cell? ⟨b, 1, none⟩ = some x1 ∧ w.cell? ⟨b, 2, none⟩ = some x2 ∧ w.cell? ⟨b, 3, none⟩ = some x3 := by
  simp [World.cell?, h]
theorem unfrozen0 {w : World} {b : Nat} {cs : Array Value} {t : TypeId} (h : w.heap[b]? = some (.cells cs t (0, 0))) (i : Nat) : w.frozen? ⟨b, i, none⟩ = false := by simp [World.frozen?, h]

/-- What a call that turns bucket b into k' leaves. -/
def BkTurn (w : World) (b : Nat) (S : List Nat) (k' : Bk) (w' : World) : Prop :=
  ∃ S', BkIn w' b k' S' ∧ Keeps (b :: S) w w' ∧ ∀ g ∈ S', g ∈ S ∨ w.heap.size ≤ g

theorem fpv_nodup (v : Value) : (fpv v).Nodup := by
  unfold fpv
  split <;> simp
theorem nodup3 {b : Nat} {v1 v2 : Value} (h1 : b ∉ fpv v1) (h2 : b ∉ fpv v2) (hd : ∀ g ∈ fpv v1, g ∉ fpv v2) : (b :: (fpv v1 ++ fpv v2)).Nodup := by
  refine List.nodup_cons.2 ⟨fun h => (List.mem_append.1 h).elim h1 h2, List.nodup_append.2 ⟨fpv_nodup _, fpv_nodup _, fun a ha b hb he => hd a ha (he ▸ hb)⟩⟩
theorem BkTurn.make {w w4 : World} {b : Nat} {S : List Nat} {k' : Bk} {v1 v2 : Value} (hh : w4.heap[b]? = some (.cells #[.string k'.pre, .int .i64 k'.bits, v1, v2, .int .i64 k'.ch] 85 (0, 0))) (h1 : OwnE w4 v1 k'.ents) (h2 : OwnE w4 v2 k'.spare)
    (hf : ∀ g, g ∈ fpv v1 ∨ g ∈ fpv v2 → g ∈ S ∨ w.heap.size ≤ g) (hnd : (b :: (fpv v1 ++ fpv v2)).Nodup) (hk : Keeps (b :: S) w w4) : BkTurn w b S k' w4 :=
  ⟨_, ⟨v1, v2, hh, h1, h2, rfl, hnd⟩, hk, fun g hg => hf g (List.mem_append.1 hg)⟩
theorem set_e {w : World} {b : Nat} {x0 x1 x2 x3 x4 : Value} {t : TypeId} (v : Value) (h : w.heap[b]? = some (.cells #[x0, x1, x2, x3, x4] t (0, 0))) : (w.setCell ⟨b, 2, none⟩ v).heap[b]? = some (.cells #[x0, x1, v, x3, x4] t (0, 0)) := setCell_heap w ⟨b, 2, none⟩ v rfl h
theorem set_s {w : World} {b : Nat} {x0 x1 x2 x3 x4 : Value} {t : TypeId} (v : Value) (h : w.heap[b]? = some (.cells #[x0, x1, x2, x3, x4] t (0, 0))) : (w.setCell ⟨b, 3, none⟩ v).heap[b]? = some (.cells #[x0, x1, x2, v, x4] t (0, 0)) := setCell_heap w ⟨b, 3, none⟩ v rfl h
theorem set_c {w : World} {b : Nat} {x0 x1 x2 x3 x4 : Value} {t : TypeId} (v : Value) (h : w.heap[b]? = some (.cells #[x0, x1, x2, x3, x4] t (0, 0))) : (w.setCell ⟨b, 4, none⟩ v).heap[b]? = some (.cells #[x0, x1, x2, x3, v] t (0, 0)) := setCell_heap w ⟨b, 4, none⟩ v rfl h
theorem Own.setO {w : World} {e : TypeId} {size n : Nat} {v : Value} {xs : List Value} (h : Own w e size v n xs) {b i : Nat} (u : Value) (hb : b ∉ fpv v) : Own (w.setCell ⟨b, i, none⟩ u) e size v n xs := h.setCell_ne u fun g hg he => hb (by have : g = b := he; rw [← this]; exact hg)

def dropB (k : Bk) (n : Nd) : Bk := { k with ents := k.ents.filter fun e => !decide (e.nd = n), spare := k.spare.filter fun e => !decide (e.nd = n) }

set_option maxRecDepth 100000 in
theorem drop_calls (w : World) (b : Nat) (k : Bk) (S : List Nat) (n : Nd) (hk : BkIn w b k S) :
    Calls Tryz.prog 29 #[.pointer (some ⟨b, 0, none⟩), ndV n] w fun e w' => (∃ v, e = .returned v) ∧ BkTurn w b S (dropB k n) w' := by
  obtain ⟨ve, vs, hh, hve, hvs, rfl, hnd⟩ := hk
  have lt : b < w.heap.size := (Array.getElem?_eq_some_iff.1 hh).1
  have hb : b ∉ fpv ve ++ fpv vs := (List.nodup_cons.1 hnd).1
  obtain ⟨hnd1, hnd2, hdis⟩ := List.nodup_append.1 (List.nodup_cons.1 hnd).2
  have hbe : b ∉ fpv ve := fun h => hb (List.mem_append.2 (.inl h))
  have hbs : b ∉ fpv vs := fun h => hb (List.mem_append.2 (.inr h))
  obtain ⟨c0, c1, c2, c3, c4⟩ := cells5 hh
  have HH := Lib.hid hh
  have HE := Lib.hid hve
  have HS := Lib.hid hvs
  have HD := Lib.hid hdis
  clear hve hvs hh hnd hb hdis
  unfold ndV
  go_enter Tryz.func29, Tryz.ntmps29
  go_wp2
  refine wp_region_ordT (fun W => W.cell? ⟨b, 3, none⟩ = some vs) [[(0,0)],[(1,0)],[(2,0)],[(3,0)],[(4,0)],[(5,1)],[(6,0)],[(8,0)],[(9,0)],[(10,0)],[(11,4)],[(12,0)],[(7,5)],[(13,3)],[(14,0)],[(15,0)],[(16,3)],[(17,0)],[(18,0)],[(19,3)]] (by kernel_rfl) (by kernel_rfl) ?_
  simp only [pickT, List.map_cons, List.map_nil, List.getD_cons_zero, List.getD_cons_succ]
  repeat (first | ((with_reducible refine wpT_skip ?_ ?_); rfl; simp only [Act.put, List.setIfInBounds_toArray, List.set_cons_zero, List.set_cons_succ]) | ((with_reducible refine wpT_step (fun K hK => ?_)); go_simp; (try go_bits); (first | (with_reducible refine hK _ _ ?_) | (simp only [IntWalk.iteOmega]; go_simp; (try go_bits); (with_reducible refine hK _ _ ?_))); clear hK K))
  ((with_reducible refine wpT_step (fun K hK => ?_)); (refine stepV_4h (v := ?_) rfl ?_ (fun W hV => ?_) (hK _ _ ?_)); rotate_left; (first | assumption | go_simp | simp [*]); ((try dsimp only at hV); go_simp; try rfl); simp only [Act.put, List.setIfInBounds_toArray, List.set_cons_zero, List.set_cons_succ]; clear hK K)
  repeat (first | ((with_reducible refine wpT_skip ?_ ?_); rfl; simp only [Act.put, List.setIfInBounds_toArray, List.set_cons_zero, List.set_cons_succ]) | ((with_reducible refine wpT_step (fun K hK => ?_)); go_simp; (try go_bits); (first | (with_reducible refine hK _ _ ?_) | (simp only [IntWalk.iteOmega]; go_simp; (try go_bits); (with_reducible refine hK _ _ ?_))); clear hK K))
  have lte : ∀ g ∈ fpv ve, g < w.heap.size := HE.out.fp_lt
  have lts : ∀ g ∈ fpv vs, g < w.heap.size := HS.out.fp_lt
  obtain ⟨W0, hW0⟩ : ∃ W0, (w.alloc (.cells #[.string n.id, .int .i64 n.fam, .string n.ip, .int .i64 n.port] 33)).drew = W0 := ⟨_, rfl⟩
  have hB0 : Below w.heap.size w W0 := by rw [← hW0]; exact (below_new (Below.refl _ w) _).drew
  have hs0 : W0.heap.size = w.heap.size + 1 := by rw [← hW0]; simp
  have hbx : W0.heap[w.heap.size]? = some (.cells #[.string n.id, .int .i64 n.fam, .string n.ip, .int .i64 n.port] 33 (0, 0)) := by rw [← hW0]; exact heap_alloc_new w _
  rw [hW0]
  have hpG : ∀ T : List Nat, (∀ g ∈ T, g < w.heap.size) → ∀ W, Keeps T W0 W → ∀ e : Ent, Calls Tryz.prog 62 (#[entV e] ++ #[.pointer (some ⟨w.heap.size, 0, none⟩)]) W (Ret W (.bool (decide (e.nd = n)))) := by
    intro T hT W hW e
    have hh := (hW.block w.heap.size (by omega) (fun h => by have := hT _ h; omega)).trans hbx
    obtain ⟨d0, d1, d2, d3⟩ := cells4 hh
    exact samedrop_calls' W w.heap.size n e d0 d1 d2 d3
  have HB0 := Lib.hid hB0
  have HG := Lib.hid hpG
  have LE := Lib.hid lte
  have LS := Lib.hid lts
  have HX := Lib.hid hbx
  clear hpG lte lts hbx hW0
  (with_reducible refine wpT_step (fun K hK => ?_)); go_simp; (try go_bits)
  refine (deleteE_calls _ ve k.ents (HE.out.ext HB0.out) 62 #[.pointer (some ⟨w.heap.size, 0, none⟩)] (fun e => decide (e.nd = n)) (enters_of Tryz.func62 (by kernel_rfl) rfl) (fun W hW e _ => HG.out _ LE.out W hW e)).mono ?_
  rintro e2 w2 ⟨v1, rfl, ho1, hf1, hk1⟩
  have hv2 : w2.cell? ⟨b, 3, none⟩ = some vs := (hk1.cell (a := ⟨b, 3, none⟩) (by simp; omega) hbe).trans ((HB0.out.cell (p := ⟨b, 3, none⟩) (by exact lt)).trans c3)
  refine ⟨fun _ => hv2, ?_⟩
  (with_reducible refine hK _ _ ?_); clear hK K
  repeat (first | ((with_reducible refine wpT_skip ?_ ?_); rfl; simp only [Act.put, List.setIfInBounds_toArray, List.set_cons_zero, List.set_cons_succ]) | ((with_reducible refine wpT_step (fun K hK => ?_)); go_simp; (try go_bits); (first | (with_reducible refine hK _ _ ?_) | (simp only [IntWalk.iteOmega]; go_simp; (try go_bits); (with_reducible refine hK _ _ ?_))); clear hK K))
  have hos : OwnE w2 vs k.spare := (HS.out.ext HB0.out).keeps hk1 (fun g hg hg' => HD.out g hg' g hg rfl)
  (with_reducible refine wpT_step (fun K hK => ?_)); go_simp; (try go_bits)
  have hp2 : ∀ W, Keeps (fpv vs) w2 W → ∀ e ∈ k.spare, Calls Tryz.prog 62 (#[entV e] ++ #[.pointer (some ⟨w.heap.size, 0, none⟩)]) W (Ret W (.bool (decide (e.nd = n)))) := by
    intro W hW e _
    refine HG.out (fpv ve ++ fpv vs) (fun g hg => (List.mem_append.1 hg).elim (LE.out g) (LS.out g)) W ?_ e
    exact (hk1.mono (fun k hk _ => List.mem_append.2 (.inl hk))).trans (hW.mono (fun k hk _ => List.mem_append.2 (.inr hk)))
  refine (deleteE_calls _ vs k.spare hos 62 #[.pointer (some ⟨w.heap.size, 0, none⟩)] (fun e => decide (e.nd = n)) (enters_of Tryz.func62 (by kernel_rfl) rfl) hp2).mono ?_
  rintro e3 w3 ⟨v2, rfl, ho2, hf2, hk2⟩
  clear hp2
  (with_reducible refine hK _ _ ?_); clear hK K
  have hh3 : w3.heap[b]? = some (.cells #[.string k.pre, .int .i64 k.bits, ve, vs, .int .i64 k.ch] 85 (0, 0)) :=
    (hk2.block b (by have := hk1.size; omega) hbs).trans ((hk1.block b (by omega) hbe).trans ((HB0.out.block b lt).trans HH.out))
  obtain ⟨d0, d1, d2, d3, d4⟩ := cells5 hh3
  have u2 := unfrozen0 hh3 2
  have u3 := unfrozen0 hh3 3
  have hK3 : Keeps (fpv ve ++ fpv vs) w w3 := ((HB0.out.keep).trans (hk1.mono (fun k hk _ => List.mem_append.2 (.inl hk)))).trans (hk2.mono (fun k hk _ => List.mem_append.2 (.inr hk)))
  have HH3 := Lib.hid hh3
  have H1 := Lib.hid (ho1.keeps hk2 (fun g hg hg' => HD.out g (hf1 g hg) g hg' rfl))
  have H2 := Lib.hid ho2
  have HF1 := Lib.hid hf1
  have HF2 := Lib.hid hf2
  have HK3 := Lib.hid hK3
  obtain ⟨a1, cap1, rfl, _⟩ := ho1.shape
  obtain ⟨a2, cap2, rfl, _⟩ := ho2.shape
  clear hh3 ho1 ho2 hf1 hf2 hK3 c0 c1 c2 c3 c4 hv2
  repeat (first | ((with_reducible refine wpT_skip ?_ ?_); rfl; simp only [Act.put, List.setIfInBounds_toArray, List.set_cons_zero, List.set_cons_succ]) | ((with_reducible refine wpT_step (fun K hK => ?_)); go_simp; (try go_bits); (first | (with_reducible refine hK _ _ ?_) | (simp only [IntWalk.iteOmega]; go_simp; (try go_bits); (with_reducible refine hK _ _ ?_))); clear hK K))
  (with_reducible refine wpT_nil ?_)
  go_wp2
  go_end0
  refine ⟨⟨_, rfl⟩, BkTurn.make (set_s _ (set_e _ HH3.out)) ((H1.out.setO _ (fun h => hbe (HF1.out _ h))).setO _ (fun h => hbe (HF1.out _ h))) ((H2.out.setO _ (fun h => hbs (HF2.out _ h))).setO _ (fun h => hbs (HF2.out _ h)))
    (fun g hg => .inl (List.mem_append.2 (hg.imp (HF1.out g) (HF2.out g)))) (nodup3 (fun h => hbe (HF1.out _ h)) (fun h => hbs (HF2.out _ h)) (fun g h1 h2 => HD.out g (HF1.out g h1) g (HF2.out g h2) rfl)) ?_⟩
  exact ((HK3.out.mono (fun k hk _ => List.mem_cons_of_mem _ hk)).setCell _ (.inl (by simp))).setCell _ (.inl (by simp))
end Go.Proofs.Tc
