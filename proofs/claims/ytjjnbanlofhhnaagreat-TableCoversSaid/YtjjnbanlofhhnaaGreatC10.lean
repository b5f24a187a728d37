import Derived.Test.YtjjnbanlofhhnaaGreatC9
namespace Go.Proofs.Tc
open Go.RowKit Go.Sort
attribute [local go_sem] stepO_0 stepO_1 stepO_2 stepO_3 stepV_0 stepV_1 stepV_2 stepV_3 stepV_5

def way2F (k : Bk) (e : Ent) : Option Bk := match worstF k.ents with | .ofNat x => some (replB k x e) | .negSucc _ => none
theorem worstF_lt (es : List Ent) : -1 ≤ worstF es ∧ worstF es < es.length := worstUp_bounds es es.length
set_option maxRecDepth 100000 in
set_option maxHeartbeats 1000000 in
theorem way2_calls (w : World) (tb b : Nat) (now : Int) (k : Bk) (S : List Nat) (e : Ent) (ht : w.cell? ⟨tb, 1, none⟩ = some (.int .i64 now)) (htb : tb ∉ b :: S) (hk : BkIn w b k S) (hm1 : k.ents.length * 80 ≤ 140737488355328) :
    Calls Tryz.prog 100 #[.pointer (some ⟨tb, 0, none⟩), .pointer (some ⟨b, 0, none⟩), entV e] w (WayRes w b S (way2F k e)) := by
  obtain ⟨ve, vs, hh, hve, hvs, rfl, hnd⟩ := hk
  have lt : b < w.heap.size := (Array.getElem?_eq_some_iff.1 hh).1
  have ltt := World.block_lt_of_cell? w _ ht
  simp only at ltt
  have hb : b ∉ fpv ve ++ fpv vs := (List.nodup_cons.1 hnd).1
  obtain ⟨hnd1, hnd2, hdis⟩ := List.nodup_append.1 (List.nodup_cons.1 hnd).2
  have hbe : b ∉ fpv ve := fun h => hb (List.mem_append.2 (.inl h))
  have hbs : b ∉ fpv vs := fun h => hb (List.mem_append.2 (.inr h))
  have hdis' : ∀ g ∈ fpv ve, g ∉ fpv vs := fun g h1 h2 => hdis g h1 g h2 rfl
  have hh1 : (w.alloc (.cells #[.string e.nd.id, .int .i64 e.nd.fam, .string e.nd.ip, .int .i64 e.nd.port, .int .i64 e.kd, .int .i64 e.an, .int .i64 e.ak, .int .i64 e.fl] 60)).heap[b]? = _ := (Below.heap_alloc w _ b lt).trans hh
  have ht1 : (w.alloc (.cells #[.string e.nd.id, .int .i64 e.nd.fam, .string e.nd.ip, .int .i64 e.nd.port, .int .i64 e.kd, .int .i64 e.an, .int .i64 e.ak, .int .i64 e.fl] 60)).cell? ⟨tb, 1, none⟩ = _ := ((below_new (Below.refl _ w) _).cell (p := ⟨tb, 1, none⟩) (by exact ltt)).trans ht
  have hx1 : (w.alloc (.cells #[.string e.nd.id, .int .i64 e.nd.fam, .string e.nd.ip, .int .i64 e.nd.port, .int .i64 e.kd, .int .i64 e.an, .int .i64 e.ak, .int .i64 e.fl] 60)).heap[w.heap.size]? = _ := heap_alloc_new w _
  have hE1 := hve.alloc (.cells #[.string e.nd.id, .int .i64 e.nd.fam, .string e.nd.ip, .int .i64 e.nd.port, .int .i64 e.kd, .int .i64 e.an, .int .i64 e.ak, .int .i64 e.fl] 60)
  have hS1 := hvs.alloc (.cells #[.string e.nd.id, .int .i64 e.nd.fam, .string e.nd.ip, .int .i64 e.nd.port, .int .i64 e.kd, .int .i64 e.an, .int .i64 e.ak, .int .i64 e.fl] 60)
  have hK1 := (Keeps.refl (b :: (fpv ve ++ fpv vs)) w).alloc (.cells #[.string e.nd.id, .int .i64 e.nd.fam, .string e.nd.ip, .int .i64 e.nd.port, .int .i64 e.kd, .int .i64 e.an, .int .i64 e.ak, .int .i64 e.fl] 60)
  have hs1 : (w.alloc (.cells #[.string e.nd.id, .int .i64 e.nd.fam, .string e.nd.ip, .int .i64 e.nd.port, .int .i64 e.kd, .int .i64 e.an, .int .i64 e.ak, .int .i64 e.fl] 60)).heap.size = w.heap.size + 1 := by simp
  obtain ⟨c0, c1, c2, c3, c4⟩ := cells5 hh1
  have lte : ∀ g ∈ fpv ve, g < w.heap.size := hve.fp_lt
  have lts : ∀ g ∈ fpv vs, g < w.heap.size := hvs.fp_lt
  have HE := Lib.hid hve
  have HS := Lib.hid hvs
  have LE := Lib.hid lte
  have LS := Lib.hid lts
  have HD := Lib.hid hdis'
  clear hdis hdis' hnd hb hve hvs lte lts c0 c1 c3 c4 hh
  unfold entV
  go_enter Tryz.func100, Tryz.ntmps100
  go_wp2_with fail
  have HB1 := below_new (Below.refl _ w) (.cells #[.string e.nd.id, .int .i64 e.nd.fam, .string e.nd.ip, .int .i64 e.nd.port, .int .i64 e.kd, .int .i64 e.an, .int .i64 e.ak, .int .i64 e.fl] 60)
  obtain ⟨w1, hw1⟩ : ∃ w1, w.alloc (.cells #[.string e.nd.id, .int .i64 e.nd.fam, .string e.nd.ip, .int .i64 e.nd.port, .int .i64 e.kd, .int .i64 e.an, .int .i64 e.ak, .int .i64 e.fl] 60) = w1 := ⟨_, rfl⟩
  rw [hw1] at hh1 ht1 hx1 hE1 hS1 hK1 hs1 c2 HB1 ⊢
  refine (worst_calls w1 tb b now ve k.ents ht1 c2 hE1).mono ?_; rintro e5 w7 ⟨rfl, hb7⟩
  have hh7 := (hb7.block b (by omega)).trans hh1
  have ht7 := (hb7.cell (p := ⟨tb, 1, none⟩) (by simp; omega)).trans ht1
  have hx7 := (hb7.block w.heap.size (by omega)).trans hx1
  have hE7 := hE1.ext hb7
  have hS7 := hS1.ext hb7
  have hK7 := hK1.trans hb7.keep
  have hB7 := below_ext HB1 hb7
  have hs7 : w.heap.size < w7.heap.size := (Array.getElem?_eq_some_iff.1 hx7).1
  obtain ⟨hq1, hq2⟩ := worstF_lt k.ents
  clear hw1 hh1 ht1 hx1 hE1 hS1 hK1 hs1 c2 HB1 hb7 ht
  cases hq : worstF k.ents with
  | negSucc x =>
    have HF : Hid (way2F k e = none) := by show way2F k e = none; unfold way2F; rw [hq]
    have hx : x = 0 := by omega
    subst hx
    clear hq hq1 hq2 hE7 hS7 hK7 hh7 ht7 hx7
    go_wp2
    go_ret
    exact WayRes.no HF.out rfl (by first | rfl | simp) hB7
  | ofNat x =>
    have HF : Hid (way2F k e = some (replB k x e)) := by show way2F k e = _; unfold way2F; rw [hq]
    have hxl : x < k.ents.length := by rw [hq] at hq2; simpa using hq2
    rw [Int.ofNat_eq_natCast]
    obtain ⟨ge, cape, rfl, hlee, hcme, hfpe, _⟩ := hE7.row (by omega)
    have HBG := Lib.hid (fun h => hbe (by rw [hfpe, h]; simp) : b ≠ ge)
    have HXG := Lib.hid (by have := LE.out ge (by rw [hfpe]; simp); omega : w.heap.size ≠ ge)
    have HGG := Lib.hid (fun y hy h => HD.out ge (by rw [hfpe]; simp) (h ▸ hy) : ∀ y ∈ fpv vs, y ≠ ge)
    have HTG := Lib.hid (fun h => htb (by rw [h, hfpe]; simp) : tb ≠ ge)
    have HTB := Lib.hid (fun h => htb (by rw [h]; simp) : tb ≠ b)
    have HKG := Lib.hid (fun y hy => by rw [hfpe]; simp [hy] : ∀ y, y = ge → y ∈ b :: (fpv (.slice (some ⟨ge, 0, none⟩) k.ents.length (cape + 1)) ++ fpv vs))
    have fin : ∀ w9 : World, w9.heap[b]? = some (.cells #[.string k.pre, .int .i64 k.bits, .slice (some ⟨ge, 0, none⟩) k.ents.length (cape + 1), vs, .int .i64 k.ch] 85 (0, 0)) →
        Own w9 60 8 (.slice (some ⟨ge, 0, none⟩) (k.ents.length - 1 + 1) (cape + 1)) (k.ents.length - 1 + 1) (evs (delF k.ents x) ++ e.vals) → OwnE w9 vs k.spare →
        Keeps (b :: (fpv (.slice (some ⟨ge, 0, none⟩) k.ents.length (cape + 1)) ++ fpv vs)) w w9 →
        BkTurn w b (fpv (.slice (some ⟨ge, 0, none⟩) k.ents.length (cape + 1)) ++ fpv vs) (replB k x e) (w9.setCell ⟨b, 2, none⟩ (.slice (some ⟨ge, 0, none⟩) (k.ents.length - 1 + 1) (cape + 1))) := by
      intro w9 hh ho hs hk
      have hle1 : (delF k.ents x ++ [e]).length = k.ents.length - 1 + 1 := by rw [List.length_append, delF_length hxl]; rfl
      refine BkTurn.make (k' := replB k x e) (v1 := .slice (some ⟨ge, 0, none⟩) (k.ents.length - 1 + 1) (cape + 1)) (v2 := vs) (set_e _ hh) ?_ (hs.setO _ hbs) ?_ ?_ ?_
      · show Own _ 60 8 _ (delF k.ents x ++ [e]).length (evs (delF k.ents x ++ [e]))
        rw [hle1, evs_append, show evs [e] = e.vals by simp [evs]]
        exact ho.setO _ (by simp [fpv]; exact HBG.out)
      · intro y hy
        refine .inl ?_
        simpa [fpv] using hy
      · exact nodup3 (by simp [fpv]; exact HBG.out) hbs (fun g h1 h2 => HGG.out g h2 (by simpa [fpv] using h1))
      · exact hk.setCell _ (.inl (by simp))
    have FIN := Lib.hid fin
    have HV7 := Lib.hid (⟨hh7, hx7⟩ : w7.drew.heap[b]? = some (.cells #[.string k.pre, .int .i64 k.bits, .slice (some ⟨ge, 0, none⟩) k.ents.length (cape + 1), vs, .int .i64 k.ch] 85 (0, 0)) ∧ w7.drew.heap[w.heap.size]? = some (.cells #[.string e.nd.id, .int .i64 e.nd.fam, .string e.nd.ip, .int .i64 e.nd.port, .int .i64 e.kd, .int .i64 e.an, .int .i64 e.ak, .int .i64 e.fl] 60 (0, 0)))
    have HE7 := Lib.hid hE7
    have HS7 := Lib.hid hS7
    have HT7 := Lib.hid ht7
    have HK7 := Lib.hid hK7
    clear fin hh7 hx7 hE7 hS7 ht7 hK7 hq hq1 hq2 hs7
    go_wp2_with fail
    refine wp_region_ordT (fun W => W.heap[b]? = some (.cells #[.string k.pre, .int .i64 k.bits, .slice (some ⟨ge, 0, none⟩) k.ents.length (cape + 1), vs, .int .i64 k.ch] 85 (0, 0)) ∧ W.heap[w.heap.size]? = some (.cells #[.string e.nd.id, .int .i64 e.nd.fam, .string e.nd.ip, .int .i64 e.nd.port, .int .i64 e.kd, .int .i64 e.an, .int .i64 e.ak, .int .i64 e.fl] 60 (0, 0))) [[(0,0)],[(1,0)],[(2,0)],[(3,0)],[(4,4)],[(5,0)],[(6,0)],[(7,0)],[(9,4)],[(8,5),(10,5)],[(11,3)],[(12,0)],[(13,0)],[(14,3)]] (by kernel_rfl) (by kernel_rfl) ?_
    simp only [pickT, List.map_cons, List.map_nil, List.getD_cons_zero, List.getD_cons_succ]
    repeat (first | ((with_reducible refine wpT_skip ?_ ?_); rfl; simp only [Act.put, List.setIfInBounds_toArray, List.set_cons_zero, List.set_cons_succ]) | ((with_reducible refine wpT_step (fun K hK => ?_)); go_simp; (try go_bits); (first | (with_reducible refine hK _ _ ?_) | (simp only [IntWalk.iteOmega]; go_simp; (try go_bits); (with_reducible refine hK _ _ ?_))); clear hK K))
    have hV := HV7.out
    ((with_reducible refine wpT_step (fun K hK => ?_)); (refine stepV_4h (v := ?_) rfl ?_ (fun W hV => ?_) (hK _ _ ?_)); rotate_left; (first | assumption | go_simp | simp [*]); ((try dsimp only at hV); (try have hv5 := cells5 hV.1); (try have hv8 := cells8 hV.2); go_simp; try rfl); simp only [Act.put, List.setIfInBounds_toArray, List.set_cons_zero, List.set_cons_succ]; clear hK K)
    repeat (first | ((with_reducible refine wpT_skip ?_ ?_); rfl; simp only [Act.put, List.setIfInBounds_toArray, List.set_cons_zero, List.set_cons_succ]) | ((with_reducible refine wpT_step (fun K hK => ?_)); go_simp; (try go_bits); (first | (with_reducible refine hK _ _ ?_) | (simp only [IntWalk.iteOmega]; go_simp; (try go_bits); (with_reducible refine hK _ _ ?_))); clear hK K))
    ((with_reducible refine wpT_step (fun K hK => ?_)); (refine stepV_4h (v := ?_) rfl ?_ (fun W hV => ?_) (hK _ _ ?_)); rotate_left; (first | assumption | go_simp | simp [*]); ((try dsimp only at hV); (try have hv5 := cells5 hV.1); (try have hv8 := cells8 hV.2); go_simp; try rfl); simp only [Act.put, List.setIfInBounds_toArray, List.set_cons_zero, List.set_cons_succ]; clear hK K)
    repeat (first | ((with_reducible refine wpT_skip ?_ ?_); rfl; simp only [Act.put, List.setIfInBounds_toArray, List.set_cons_zero, List.set_cons_succ]) | ((with_reducible refine wpT_step (fun K hK => ?_)); go_simp; (try go_bits); (first | (with_reducible refine hK _ _ ?_) | (simp only [IntWalk.iteOmega]; go_simp; (try go_bits); (with_reducible refine hK _ _ ?_))); clear hK K))
    clear hV
    refine wpT_two ?_ ?_
    · (with_reducible refine wpT_step (fun K hK => ?_)); go_simp; (try go_bits)
      refine (delete_calls' _ ge cape k.ents k.ents.length x rfl hxl HE7.out.drew hm1).mono ?_; rintro e8 w8 ⟨rfl, ho8, hk8⟩
      have hb8 := (hk8.block b ((Array.getElem?_eq_some_iff.1 HV7.out.1).1) (fun h => HBG.out (by simpa using h))).trans HV7.out.1
      have hx8 := (hk8.block w.heap.size ((Array.getElem?_eq_some_iff.1 HV7.out.2).1) (fun h => HXG.out (by simpa using h))).trans HV7.out.2
      refine ⟨fun _ _ => ⟨hb8, hx8⟩, ?_⟩
      (with_reducible refine hK _ _ ?_); clear hK K
      have htY : w8.cell? ⟨tb, 1, none⟩ = some (.int .i64 now) := (hk8.cell (a := ⟨tb, 1, none⟩) (World.block_lt_of_cell? w7.drew ⟨tb, 1, none⟩ HT7.out) (fun h => HTG.out (by simpa using h))).trans HT7.out
      have hb8l : b < w8.heap.size := (Array.getElem?_eq_some_iff.1 hb8).1
      have htb8 : tb < w8.heap.size := World.block_lt_of_cell? w8 ⟨tb, 1, none⟩ htY
      have hhX : (w8.alloc (.cells #[.string e.nd.id, .int .i64 e.nd.fam, .string e.nd.ip, .int .i64 e.nd.port, .int .i64 e.kd, .int .i64 e.an, .int .i64 e.ak, .int .i64 e.fl] 60)).heap[b]? = some (.cells #[.string k.pre, .int .i64 k.bits, .slice (some ⟨ge, 0, none⟩) k.ents.length (cape + 1), vs, .int .i64 k.ch] 85 (0, 0)) := (Below.heap_alloc w8 _ b hb8l).trans hb8
      have hxX : (w8.alloc (.cells #[.string e.nd.id, .int .i64 e.nd.fam, .string e.nd.ip, .int .i64 e.nd.port, .int .i64 e.kd, .int .i64 e.an, .int .i64 e.ak, .int .i64 e.fl] 60)).heap[w.heap.size]? = some (.cells #[.string e.nd.id, .int .i64 e.nd.fam, .string e.nd.ip, .int .i64 e.nd.port, .int .i64 e.kd, .int .i64 e.an, .int .i64 e.ak, .int .i64 e.fl] 60 (0, 0)) := (Below.heap_alloc w8 _ _ (Array.getElem?_eq_some_iff.1 hx8).1).trans hx8
      have htX : (w8.alloc (.cells #[.string e.nd.id, .int .i64 e.nd.fam, .string e.nd.ip, .int .i64 e.nd.port, .int .i64 e.kd, .int .i64 e.an, .int .i64 e.ak, .int .i64 e.fl] 60)).cell? ⟨tb, 1, none⟩ = some (.int .i64 now) := ((below_new (Below.refl _ w8) _).cell (p := ⟨tb, 1, none⟩) (by exact htb8)).trans htY
      have hsX := ((HS7.out.drew.keeps hk8 (fun y hy h => HGG.out y hy (by simpa using h))).alloc (.cells #[.string e.nd.id, .int .i64 e.nd.fam, .string e.nd.ip, .int .i64 e.nd.port, .int .i64 e.kd, .int .i64 e.an, .int .i64 e.ak, .int .i64 e.fl] 60))
      have hKX := ((HK7.out.drew).trans (hk8.mono (fun y hy _ => HKG.out y (by simpa using hy)))).alloc (.cells #[.string e.nd.id, .int .i64 e.nd.fam, .string e.nd.ip, .int .i64 e.nd.port, .int .i64 e.kd, .int .i64 e.an, .int .i64 e.ak, .int .i64 e.fl] 60)
      have HB8 := Lib.hid hb8l
      have HT8 := Lib.hid htb8
      have HHX := Lib.hid hhX
      have HXX := Lib.hid hxX
      clear hb8 hx8 htY hb8l htb8 hhX hxX
      (with_reducible refine wpT_step (fun K hK => ?_)); go_simp; (try go_bits)
      refine ⟨fun _ _ => ⟨HHX.out, HXX.out⟩, ?_⟩
      have hhX := HHX.out
      (with_reducible refine hK _ _ ?_); clear hK K
      repeat (first | ((with_reducible refine wpT_skip ?_ ?_); rfl; simp only [Act.put, List.setIfInBounds_toArray, List.set_cons_zero, List.set_cons_succ]) | ((with_reducible refine wpT_step (fun K hK => ?_)); go_simp; (try go_bits); (first | (with_reducible refine hK _ _ ?_) | (simp only [IntWalk.iteOmega]; go_simp; (try go_bits); (with_reducible refine hK _ _ ?_))); clear hK K))
      refine wpT_room rfl rfl Ee rfl (ho8.alloc _) e.vals rfl rfl (new_cells w8 e.vals 60) (by intro u hu; exact evs_one [e] u (by simpa [evs] using hu)) (by omega) ?_
      intro w9 ho9 hk9 hs9
      have hh9 : w9.heap[b]? = some (.cells #[.string k.pre, .int .i64 k.bits, .slice (some ⟨ge, 0, none⟩) k.ents.length (cape + 1), vs, .int .i64 k.ch] 85 (0, 0)) := (hk9.block b (by simp; have := HB8.out; omega) (fun h => HBG.out (by simpa using h))).trans hhX
      have ht9 : w9.cell? ⟨tb, 1, none⟩ = some (.int .i64 now) := (hk9.cell (a := ⟨tb, 1, none⟩) (by simp; have := HT8.out; omega) (fun h => HTG.out (by simpa using h))).trans htX
      have hsp9 := hsX.keeps hk9 (fun y hy h => HGG.out y hy (by simpa using h))
      have hK9 := hKX.trans (hk9.mono (fun y hy _ => HKG.out y (by simpa using hy)))
      have HT9 := Lib.hid (FIN.out w9 hh9 ho9 hsp9 hK9)
      obtain ⟨c0, c1, c2, c3, c4⟩ := cells5 hh9
      have u2 := unfrozen0 hh9 2
      have u3 := unfrozen0 hh9 3
      have u4 := unfrozen0 hh9 4
      have htb2 : tb ≠ b := HTB.out
      simp only [Act.put, List.setIfInBounds_toArray, List.set_cons_zero, List.set_cons_succ]
      clear hh9 ho9 hsp9 hK9 hhX htX hsX hKX
      repeat (first | ((with_reducible refine wpT_skip ?_ ?_); rfl; simp only [Act.put, List.setIfInBounds_toArray, List.set_cons_zero, List.set_cons_succ]) | ((with_reducible refine wpT_step (fun K hK => ?_)); go_simp; (try go_bits); (first | (with_reducible refine hK _ _ ?_) | (simp only [IntWalk.iteOmega]; go_simp; (try go_bits); (with_reducible refine hK _ _ ?_))); clear hK K))
      (with_reducible refine wpT_nil ?_)
      go_wp2
      go_ret
      exact WayRes.yes HF.out rfl (by first | rfl | simp) HT9.out
    · (with_reducible refine wpT_step (fun K hK => ?_)); go_simp; (try go_bits)
      have hA0 : b < w7.drew.heap.size := (Array.getElem?_eq_some_iff.1 HV7.out.1).1
      have hX0 : w.heap.size < w7.drew.heap.size := (Array.getElem?_eq_some_iff.1 HV7.out.2).1
      obtain ⟨wA, hwA⟩ : ∃ wA, (w7.alloc (.cells #[.string e.nd.id, .int .i64 e.nd.fam, .string e.nd.ip, .int .i64 e.nd.port, .int .i64 e.kd, .int .i64 e.an, .int .i64 e.ak, .int .i64 e.fl] 60)).drew = wA := ⟨_, rfl⟩
      have hhA : wA.heap[b]? = some (.cells #[.string k.pre, .int .i64 k.bits, .slice (some ⟨ge, 0, none⟩) k.ents.length (cape + 1), vs, .int .i64 k.ch] 85 (0, 0)) := by rw [← hwA]; exact (Below.heap_alloc w7.drew _ b hA0).trans HV7.out.1
      have hxA : wA.heap[w.heap.size]? = some (.cells #[.string e.nd.id, .int .i64 e.nd.fam, .string e.nd.ip, .int .i64 e.nd.port, .int .i64 e.kd, .int .i64 e.an, .int .i64 e.ak, .int .i64 e.fl] 60 (0, 0)) := by rw [← hwA]; exact (Below.heap_alloc w7.drew _ _ hX0).trans HV7.out.2
      have htA : wA.cell? ⟨tb, 1, none⟩ = some (.int .i64 now) := by rw [← hwA]; exact ((below_new (Below.refl _ w7.drew) _).cell (p := ⟨tb, 1, none⟩) (World.block_lt_of_cell? w7.drew ⟨tb, 1, none⟩ HT7.out)).trans HT7.out
      have hsA := (HS7.out.alloc (.cells #[.string e.nd.id, .int .i64 e.nd.fam, .string e.nd.ip, .int .i64 e.nd.port, .int .i64 e.kd, .int .i64 e.an, .int .i64 e.ak, .int .i64 e.fl] 60)).drew
      have hEA := (HE7.out.alloc (.cells #[.string e.nd.id, .int .i64 e.nd.fam, .string e.nd.ip, .int .i64 e.nd.port, .int .i64 e.kd, .int .i64 e.an, .int .i64 e.ak, .int .i64 e.fl] 60)).drew
      have hKA := (HK7.out.alloc (.cells #[.string e.nd.id, .int .i64 e.nd.fam, .string e.nd.ip, .int .i64 e.nd.port, .int .i64 e.kd, .int .i64 e.an, .int .i64 e.ak, .int .i64 e.fl] 60)).drew
      have hnA := new_cells w7.drew e.vals 60
      have hszA : wA.heap.size = w7.heap.size + 1 := by rw [← hwA]; simp
      change ∀ (j : Nat) u, e.vals[j]? = some u → (w7.alloc (.cells #[.string e.nd.id, .int .i64 e.nd.fam, .string e.nd.ip, .int .i64 e.nd.port, .int .i64 e.kd, .int .i64 e.an, .int .i64 e.ak, .int .i64 e.fl] 60)).drew.cell? ((⟨w7.heap.size, 0, none⟩ : Addr).add j) = some u at hnA
      rw [hwA] at hsA hEA hKA hnA ⊢
      have HHA := Lib.hid hhA
      have HXA := Lib.hid hxA
      have HTA := Lib.hid htA
      have HSA := Lib.hid hsA
      have HEA := Lib.hid hEA
      have HKA := Lib.hid hKA
      have HNA := Lib.hid hnA
      have HZA := Lib.hid hszA
      clear hA0 hX0 hwA hhA hxA htA hsA hEA hKA hnA hszA
      refine ⟨fun _ _ => ⟨HHA.out, HXA.out⟩, ?_⟩
      (with_reducible refine hK _ _ ?_); clear hK K
      repeat (first | ((with_reducible refine wpT_skip ?_ ?_); rfl; simp only [Act.put, List.setIfInBounds_toArray, List.set_cons_zero, List.set_cons_succ]) | ((with_reducible refine wpT_step (fun K hK => ?_)); go_simp; (try go_bits); (first | (with_reducible refine hK _ _ ?_) | (simp only [IntWalk.iteOmega]; go_simp; (try go_bits); (with_reducible refine hK _ _ ?_))); clear hK K))
      (with_reducible refine wpT_step (fun K hK => ?_)); go_simp; (try go_bits)
      refine (delete_calls' _ ge cape k.ents k.ents.length x rfl hxl HEA.out hm1).mono ?_; rintro e8 w8 ⟨rfl, ho8, hk8⟩
      have hb8 := (hk8.block b (Array.getElem?_eq_some_iff.1 HHA.out).1 (fun h => HBG.out (by simpa using h))).trans HHA.out
      have hx8 := (hk8.block w.heap.size (Array.getElem?_eq_some_iff.1 HXA.out).1 (fun h => HXG.out (by simpa using h))).trans HXA.out
      refine ⟨fun _ _ => ⟨hb8, hx8⟩, ?_⟩
      (with_reducible refine hK _ _ ?_); clear hK K
      have hhX : w8.heap[b]? = some (.cells #[.string k.pre, .int .i64 k.bits, .slice (some ⟨ge, 0, none⟩) k.ents.length (cape + 1), vs, .int .i64 k.ch] 85 (0, 0)) := hb8
      have htX : w8.cell? ⟨tb, 1, none⟩ = some (.int .i64 now) := (hk8.cell (a := ⟨tb, 1, none⟩) (World.block_lt_of_cell? wA ⟨tb, 1, none⟩ HTA.out) (fun h => HTG.out (by simpa using h))).trans HTA.out
      have hsX := HSA.out.keeps hk8 (fun y hy h => HGG.out y hy (by simpa using h))
      have hKX := HKA.out.trans (hk8.mono (fun y hy _ => HKG.out y (by simpa using hy)))
      have hgA : ge < w7.heap.size := HE7.out.fp_lt ge (by simp [fpv])
      have hnc : ∀ (j : Nat) (u : Value), e.vals[j]? = some u → w8.cell? ((⟨w7.heap.size, 0, none⟩ : Addr).add j) = some u := fun j u hu =>
        (hk8.cell (a := (⟨w7.heap.size, 0, none⟩ : Addr).add j) (by rw [show ((⟨w7.heap.size, 0, none⟩ : Addr).add j).block = w7.heap.size by unfold Addr.add; split <;> rfl, HZA.out]; omega) (by rw [show ((⟨w7.heap.size, 0, none⟩ : Addr).add j).block = w7.heap.size by unfold Addr.add; split <;> rfl]; simp; omega)).trans (HNA.out j u hu)
      have HB8 := Lib.hid ((Array.getElem?_eq_some_iff.1 hhX).1 : b < w8.heap.size)
      have HT8 := Lib.hid (World.block_lt_of_cell? w8 ⟨tb, 1, none⟩ htX)
      have HNC := Lib.hid hnc
      clear hb8 hx8 hnc hgA
      repeat (first | ((with_reducible refine wpT_skip ?_ ?_); rfl; simp only [Act.put, List.setIfInBounds_toArray, List.set_cons_zero, List.set_cons_succ]) | ((with_reducible refine wpT_step (fun K hK => ?_)); go_simp; (try go_bits); (first | (with_reducible refine hK _ _ ?_) | (simp only [IntWalk.iteOmega]; go_simp; (try go_bits); (with_reducible refine hK _ _ ?_))); clear hK K))
      have hnc := HNC.out
      refine wpT_room rfl rfl Ee rfl ho8 e.vals rfl rfl (fun j u hu => hnc j u hu) (by intro u hu; exact evs_one [e] u (by simpa [evs] using hu)) (by omega) ?_
      intro w9 ho9 hk9 hs9
      have hh9 : w9.heap[b]? = some (.cells #[.string k.pre, .int .i64 k.bits, .slice (some ⟨ge, 0, none⟩) k.ents.length (cape + 1), vs, .int .i64 k.ch] 85 (0, 0)) := (hk9.block b HB8.out (fun h => HBG.out (by simpa using h))).trans hhX
      have ht9 : w9.cell? ⟨tb, 1, none⟩ = some (.int .i64 now) := (hk9.cell (a := ⟨tb, 1, none⟩) HT8.out (fun h => HTG.out (by simpa using h))).trans htX
      have hsp9 := hsX.keeps hk9 (fun y hy h => HGG.out y hy (by simpa using h))
      have hK9 := hKX.trans (hk9.mono (fun y hy _ => HKG.out y (by simpa using hy)))
      have HT9 := Lib.hid (FIN.out w9 hh9 ho9 hsp9 hK9)
      obtain ⟨c0, c1, c2, c3, c4⟩ := cells5 hh9
      have u2 := unfrozen0 hh9 2
      have u3 := unfrozen0 hh9 3
      have u4 := unfrozen0 hh9 4
      have htb2 : tb ≠ b := HTB.out
      simp only [Act.put, List.setIfInBounds_toArray, List.set_cons_zero, List.set_cons_succ]
      clear hh9 ho9 hsp9 hK9 hhX htX hsX hKX
      repeat (first | ((with_reducible refine wpT_skip ?_ ?_); rfl; simp only [Act.put, List.setIfInBounds_toArray, List.set_cons_zero, List.set_cons_succ]) | ((with_reducible refine wpT_step (fun K hK => ?_)); go_simp; (try go_bits); (first | (with_reducible refine hK _ _ ?_) | (simp only [IntWalk.iteOmega]; go_simp; (try go_bits); (with_reducible refine hK _ _ ?_))); clear hK K))
      (with_reducible refine wpT_nil ?_)
      go_wp2
      go_ret
      exact WayRes.yes HF.out rfl (by first | rfl | simp) HT9.out
end Go.Proofs.Tc
