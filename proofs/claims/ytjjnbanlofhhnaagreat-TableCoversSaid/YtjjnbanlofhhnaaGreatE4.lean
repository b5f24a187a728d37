import Derived.Test.YtjjnbanlofhhnaaGreatE3
import Derived.Laws.EntriesVeiled
namespace Go.Proofs.Tc
open Go.RowKit Go.Sort
attribute [local go_sem] stepO_0 stepO_1 stepO_2 stepO_3 stepV_0 stepV_1 stepV_2 stepV_3 stepV_5

def wayV : Value := .agg #[.func (.func 99) #[] #[], .func (.func 100) #[] #[], .func (.func 101) #[] #[], .func (.func 103) #[] #[]]
theorem ways_calls (w : World) : Calls Tryz.prog 65 #[] w (Ret w wayV) := by
  go_enter Tryz.func65, Tryz.ntmps65
  go_wp2
  exact bodyPost_ret (v := wayV) (by simp [results, Tryz.f65, go_sem, wayV]) rfl ⟨rfl, by go_grown⟩

/-- What is left of a table of which one family has become l. -/
def TbTo (w : World) (t : Nat) (own : ByteArray) (now : Int) (lab : Nat → Option Nat) (m : Nat) (L : Bool → List Pl) (b : Bool) (l : List Bk) (X : List Nat) (w' : World) : Prop :=
  ∃ lab' v' L', TbIn w' t own now lab' m v' L' ∧ (∀ c, (L' c).map (·.k) = if c = b then l else (L c).map (·.k)) ∧ (∀ g, g < w.heap.size → lab g = none → lab' g = none) ∧ (∀ g ∈ X, lab' g = none) ∧ KeepL lab w w'
def PlaceRes (w : World) (t : Nat) (own : ByteArray) (now : Int) (lab : Nat → Option Nat) (m : Nat) (L : Bool → List Pl) (b : Bool) (r : Bool × List Bk) (e : Ending) (w' : World) : Prop :=
  e = .returned (.bool r.1) ∧ TbTo w t own now lab m L b r.2 [] w'
def PlaceOk (fuel : Nat) : Prop := ∀ (w : World) (t : Nat) (own : ByteArray) (now : Int) (lab : Nat → Option Nat) (m : Nat) (v : Bool → Value) (L : Bool → List Pl), TbIn w t own now lab m v L → own.size = 20 →
  ∀ (b : Bool) (N : Int), FInv own b N ((L b).map (·.k)) → 0 ≤ N → ∀ d : Nat, d ≤ 160 → (((L b).map (·.k)).map fun k => (k.pre, k.bits)) = chainF own d → 161 ≤ fuel + d →
  ∀ e : Ent, e.nd.id.size = 20 → e.nd.fam = famN b → e.fl = 0 →
    Calls Tryz.prog 31 #[.pointer (some ⟨t, 0, none⟩), entV e] w (PlaceRes w t own now lab m L b (placeF own now fuel ((L b).map (·.k)) e))
def Way3Res (w : World) (t : Nat) (own : ByteArray) (now : Int) (lab : Nat → Option Nat) (m : Nat) (L : Bool → List Pl) (b : Bool) (x : Pl) (o : Option (Bool × List Bk)) (e : Ending) (w' : World) : Prop :=
  match o with
  | none => e = .returned (.bool false) ∧ Below w.heap.size w w'
  | some r => e = .returned (.bool r.1) ∧ TbTo w t own now lab m L b r.2 (x.a :: x.S) w' ∧ BkIn w' x.a x.k x.S
def way3F (own : ByteArray) (now : Int) (fuel : Nat) (l : List Bk) (i : Nat) (k : Bk) (e : Ent) : Option (Bool × List Bk) :=
  if holdsB k.pre k.bits own = true ∧ k.bits ≠ 160 then some (placeF own now fuel (splitL l i k) e) else none
theorem Way3Res.no {w w' : World} {t : Nat} {own : ByteArray} {now : Int} {lab : Nat → Option Nat} {m : Nat} {L : Bool → List Pl} {b : Bool} {x : Pl} {o : Option (Bool × List Bk)} {v : Value} (ho : o = none) (hv : v = .bool false) (hB : Below w.heap.size w w') :
    Way3Res w t own now lab m L b x o (.returned v) w' := by rw [ho, hv]; exact ⟨rfl, hB⟩
theorem Way3Res.yes {w w' : World} {t : Nat} {own : ByteArray} {now : Int} {lab : Nat → Option Nat} {m : Nat} {L : Bool → List Pl} {b : Bool} {x : Pl} {o : Option (Bool × List Bk)} {r : Bool × List Bk} {v : Value} (ho : o = some r) (hv : v = .bool r.1)
    (h1 : TbTo w t own now lab m L b r.2 (x.a :: x.S) w') (h2 : BkIn w' x.a x.k x.S) : Way3Res w t own now lab m L b x o (.returned v) w' := by rw [ho, hv]; exact ⟨rfl, h1, h2⟩
theorem chain_split' {own : ByteArray} {d : Nat} (hd : d ≤ 160) {l : List Bk} (hm : l.map (fun k => (k.pre, k.bits)) = chainF own d) {i : Nat} {k : Bk} (hk : l[i]? = some k) (hh : holdsB k.pre k.bits own = true) (h160 : k.bits ≠ 160) :
    (splitL l i k).map (fun k => (k.pre, k.bits)) = chainF own (d + 1) ∧ k.bits = d ∧ d < 160 := by
  have hx : (chainF own d)[i]? = some (k.pre, k.bits) := by rw [← hm]; simp [hk]
  obtain ⟨h1, h2⟩ := chain_own hd hx hh
  injection h1 with hp hb
  refine ⟨?_, hb, by omega⟩
  rw [← chain_split (by omega)]
  unfold splitL replL
  rw [List.map_append, List.map_append, List.map_take, List.map_drop, hm, ← h2]
  simp [halfF, hp, hb]
theorem BkIn.keepL {w w' : World} {b : Nat} {k : Bk} {S : List Nat} {lab : Nat → Option Nat} (h : BkIn w b k S) (hk : KeepL lab w w') (hl : ∀ g ∈ b :: S, lab g = none) : BkIn w' b k S :=
  h.of_blocks fun g hg => hk.block g (h.lt g hg) (hl g hg)
set_option maxRecDepth 100000 in
set_option maxHeartbeats 1000000 in
theorem way3_calls (fuel : Nat) (hp : PlaceOk fuel) (w : World) (t : Nat) (own : ByteArray) (now : Int) (lab : Nat → Option Nat) (m : Nat) (v : Bool → Value) (L : Bool → List Pl) (h : TbIn w t own now lab m v L) (hown : own.size = 20) (b : Bool) (N : Int) (hF : FInv own b N ((L b).map (·.k))) (hN : 0 ≤ N)
    (d : Nat) (hd : d ≤ 160) (hm : (((L b).map (·.k)).map fun k => (k.pre, k.bits)) = chainF own d) (hfu : 161 ≤ fuel + 1 + d) (e : Ent) (he : e.nd.id.size = 20) (hfam : e.nd.fam = famN b) (hfl : e.fl = 0) (i : Nat) (x : Pl) (hx : (L b)[i]? = some x) :
    Calls Tryz.prog 101 #[.pointer (some ⟨t, 0, none⟩), .pointer (some ⟨x.a, 0, none⟩), entV e] w (Way3Res w t own now lab m L b x (way3F own now fuel ((L b).map (·.k)) i x.k e)) := by
  have hxm : x ∈ L b := List.mem_of_getElem? hx
  have hxk : x.k ∈ (L b).map (·.k) := List.mem_map.2 ⟨x, hxm, rfl⟩
  have hxi : ((L b).map (·.k))[i]? = some x.k := by simp [hx]
  obtain ⟨hg1, hg2⟩ := hF.good x.k hxk
  have hBI := hF.bk x.k hxk
  have hsp := fun hh h160 => chain_split' (own := own) hd hm hxi hh h160
  have hFs := fun hh h160 => (hF.split hxi hh h160).1
  have hlen : (L b).length ≤ 161 := by have := hF.len; simpa using this
  have hsz : ∀ e, e ∈ x.k.ents ∨ e ∈ x.k.spare → e.nd.id.size = 20 := fun e he => (hBI.all e he).1
  have hW : ∀ W, Below w.heap.size w W → _ := fun W hB hb => split_calls W t own now lab m v L (h.ext hB) b i x hx hg1 hb hsz hBI.he hBI.hs hlen
  obtain ⟨ve, vs, hh, _⟩ := h.hk b x hxm
  obtain ⟨c0, c1, c2, c3, c4⟩ := cells5 hh
  obtain ⟨d0, d1, d2⟩ := cells3 h.hh
  have l1 : x.a < w.heap.size := (Array.getElem?_eq_some_iff.1 hh).1
  have l2 : t < w.heap.size := (Array.getElem?_eq_some_iff.1 h.hh).1
  obtain ⟨⟨id, fam, ip, port⟩, kd, an, ak, fl⟩ := e
  simp only at he hfam hfl
  subst hfam hfl
  have HT := Lib.hid h
  have HW := Lib.hid hW
  have HS := Lib.hid hsp
  have HF := Lib.hid hFs
  have HP := Lib.hid hp
  have HX := Lib.hid hx
  have HXM := Lib.hid hxm
  have HBI := Lib.hid hBI
  have HOW := Lib.hid hown
  have HE := Lib.hid he
  clear h hW hsp hFs hp hx hxm hxk hxi hF hm hBI hh hsz hown he
  show Calls Tryz.prog 101 #[.pointer (some ⟨t, 0, none⟩), .pointer (some ⟨x.a, 0, none⟩), .agg #[.string id, .int .i64 (famN b), .string ip, .int .i64 port, .int .i64 kd, .int .i64 an, .int .i64 ak, .int .i64 0]] w _
  cases hho : holdsB x.k.pre x.k.bits own with
  | false =>
    have hnone : way3F own now fuel ((L b).map (·.k)) i x.k ⟨⟨id, famN b, ip, port⟩, kd, an, ak, 0⟩ = none := by unfold way3F; rw [if_neg (by rw [hho]; simp)]
    have HNO := Lib.hid hnone
    have HHO := Lib.hid hho
    clear hnone hho
    go_enter Tryz.func101, Tryz.ntmps101
    go_wp2_with fail
    refine wp_region_ord [(0,0),(1,0),(2,0),(3,1),(4,0),(5,0),(6,0),(7,1),(8,3),(9,0),(10,0),(11,0),(12,0),(13,0),(14,0),(15,1),(16,0),(17,0)] (by kernel_rfl) (by kernel_rfl) ?_
    simp only [pickO, List.map_cons, List.map_nil, List.getD_cons_zero, List.getD_cons_succ]
    repeat (first | ((with_reducible refine wpO_skip ?_ ?_); rfl; simp only [Act.put, List.setIfInBounds_toArray, List.set_cons_zero, List.set_cons_succ]) | ((with_reducible refine wpO_step (fun K hK => ?_)); go_simp; (try go_bits); (first | (with_reducible refine hK _ _ ?_) | (simp only [IntWalk.iteOmega]; go_simp; (try go_bits); (with_reducible refine hK _ _ ?_))); clear hK K))
    (with_reducible refine wpO_step (fun K hK => ?_)); go_simp; (try go_bits)
    refine (holds_calls _ _ _ _ HOW.out hg1 hg2).mono ?_; rintro e2 w2 ⟨rfl, hb2⟩; rw [HHO.out]
    (with_reducible refine hK _ _ ?_); clear hK K
    repeat (first | ((with_reducible refine wpO_skip ?_ ?_); rfl; simp only [Act.put, List.setIfInBounds_toArray, List.set_cons_zero, List.set_cons_succ]) | ((with_reducible refine wpO_step (fun K hK => ?_)); go_simp; (try go_bits); (first | (with_reducible refine hK _ _ ?_) | (simp only [IntWalk.iteOmega]; go_simp; (try go_bits); (with_reducible refine hK _ _ ?_))); clear hK K))
    (with_reducible refine wpO_nil ?_)
    go_wp2
    go_ret
    exact Way3Res.no HNO.out rfl ((below_new (Below.refl _ w) _).drew.trans (hb2.mono (by simp)))
  | true =>
    by_cases h160 : x.k.bits = 160
    · have hnone : way3F own now fuel ((L b).map (·.k)) i x.k ⟨⟨id, famN b, ip, port⟩, kd, an, ak, 0⟩ = none := by unfold way3F; rw [if_neg (fun h => h.2 h160)]
      have HNO := Lib.hid hnone
      have HHO := Lib.hid hho
      have hb160 : ((x.k.bits : Int) == 160) = true := by rw [h160]; rfl
      have H160 := Lib.hid h160
      clear hnone hho h160
      go_enter Tryz.func101, Tryz.ntmps101
      go_wp2_with fail
      refine wp_region_ord [(0,0),(1,0),(2,0),(3,1),(4,0),(5,0),(6,0),(7,1),(8,3),(9,0),(10,0),(11,0),(12,0),(13,0),(14,0),(15,1),(16,0),(17,0)] (by kernel_rfl) (by kernel_rfl) ?_
      simp only [pickO, List.map_cons, List.map_nil, List.getD_cons_zero, List.getD_cons_succ]
      repeat (first | ((with_reducible refine wpO_skip ?_ ?_); rfl; simp only [Act.put, List.setIfInBounds_toArray, List.set_cons_zero, List.set_cons_succ]) | ((with_reducible refine wpO_step (fun K hK => ?_)); go_simp; (try go_bits); (first | (with_reducible refine hK _ _ ?_) | (simp only [IntWalk.iteOmega]; go_simp; (try go_bits); (with_reducible refine hK _ _ ?_))); clear hK K))
      (with_reducible refine wpO_step (fun K hK => ?_)); go_simp; (try go_bits)
      refine (holds_calls _ _ _ _ HOW.out hg1 hg2).mono ?_; rintro e2 w2 ⟨rfl, hb2⟩; rw [HHO.out]
      (with_reducible refine hK _ _ ?_); clear hK K
      have hc1 := (hb2.cell (p := ⟨x.a, 1, none⟩) (by simp; omega)).trans ((((below_new (Below.refl _ w) _).cell (p := ⟨x.a, 1, none⟩) l1)).trans c1)
      repeat (first | ((with_reducible refine wpO_skip ?_ ?_); rfl; simp only [Act.put, List.setIfInBounds_toArray, List.set_cons_zero, List.set_cons_succ]) | ((with_reducible refine wpO_step (fun K hK => ?_)); go_simp; (try go_bits); (first | (with_reducible refine hK _ _ ?_) | (simp only [IntWalk.iteOmega]; go_simp; (try go_bits); (with_reducible refine hK _ _ ?_))); clear hK K))
      (with_reducible refine wpO_nil ?_)
      go_wp2
      go_ret
      exact Way3Res.no HNO.out rfl ((below_new (Below.refl _ w) _).drew.trans (hb2.mono (by simp)))
    · have hb160 : ((x.k.bits : Int) == 160) = false := by simpa using (show ¬ ((x.k.bits : Int) = 160) by omega)
      obtain ⟨hs1, hs2, hs3⟩ := HS.out hho h160
      have hFs := HF.out hho h160
      have hsome : way3F own now fuel ((L b).map (·.k)) i x.k ⟨⟨id, famN b, ip, port⟩, kd, an, ak, 0⟩ = some (placeF own now fuel (splitL ((L b).map (·.k)) i x.k) ⟨⟨id, famN b, ip, port⟩, kd, an, ak, 0⟩) := by unfold way3F; rw [if_pos ⟨hho, h160⟩]
      have HSO := Lib.hid hsome
      have HHO := Lib.hid hho
      have HS1 := Lib.hid hs1
      have HFS := Lib.hid hFs
      have hb159 : x.k.bits < 160 := by omega
      clear hsome hho h160 hs1 hs2 hFs
      go_enter Tryz.func101, Tryz.ntmps101
      go_wp2_with fail
      refine wp_region_ord [(0,0),(1,0),(2,0),(3,1),(4,0),(5,0),(6,0),(7,1),(8,3),(9,0),(10,0),(11,0),(12,0),(13,0),(14,0),(15,1),(16,0),(17,0)] (by kernel_rfl) (by kernel_rfl) ?_
      simp only [pickO, List.map_cons, List.map_nil, List.getD_cons_zero, List.getD_cons_succ]
      repeat (first | ((with_reducible refine wpO_skip ?_ ?_); rfl; simp only [Act.put, List.setIfInBounds_toArray, List.set_cons_zero, List.set_cons_succ]) | ((with_reducible refine wpO_step (fun K hK => ?_)); go_simp; (try go_bits); (first | (with_reducible refine hK _ _ ?_) | (simp only [IntWalk.iteOmega]; go_simp; (try go_bits); (with_reducible refine hK _ _ ?_))); clear hK K))
      (with_reducible refine wpO_step (fun K hK => ?_)); go_simp; (try go_bits)
      refine (holds_calls _ _ _ _ HOW.out hg1 hg2).mono ?_; rintro e2 w2 ⟨rfl, hb2⟩; rw [HHO.out]
      (with_reducible refine hK _ _ ?_); clear hK K
      have hc1 := (hb2.cell (p := ⟨x.a, 1, none⟩) (by simp; omega)).trans ((((below_new (Below.refl _ w) _).cell (p := ⟨x.a, 1, none⟩) l1)).trans c1)
      repeat (first | ((with_reducible refine wpO_skip ?_ ?_); rfl; simp only [Act.put, List.setIfInBounds_toArray, List.set_cons_zero, List.set_cons_succ]) | ((with_reducible refine wpO_step (fun K hK => ?_)); go_simp; (try go_bits); (first | (with_reducible refine hK _ _ ?_) | (simp only [IntWalk.iteOmega]; go_simp; (try go_bits); (with_reducible refine hK _ _ ?_))); clear hK K))
      (with_reducible refine wpO_nil ?_)
      have hB2 : Below w.heap.size w w2 := (below_new (Below.refl _ w) _).drew.trans (hb2.mono (by simp))
      have hbx2 : w2.heap[w.heap.size]? = some (.cells #[.string id, .int .i64 (famN b), .string ip, .int .i64 port, .int .i64 kd, .int .i64 an, .int .i64 ak, .int .i64 0] 60 (0, 0)) := (hb2.block w.heap.size (by simp)).trans (heap_alloc_new w _)
      obtain ⟨f0, f1, f2, f3, f4, f5, f6, f7⟩ := cells8 hbx2
      have HBX2 := Lib.hid hbx2
      have HB2 := Lib.hid hB2
      clear hbx2 hb2 hB2 hc1
      go_wp2_with fail
      refine (HW.out w2 HB2.out hb159).mono ?_
      rintro e3 w3 ⟨⟨r3, rfl⟩, lab3, v3, y, z, hT3, hy3, hz3, hl3, hX3, hK3, hB3⟩
      have hln : lab w.heap.size = none := by
        cases hl : lab w.heap.size with
        | none => rfl
        | some j => have := HT.out.lt _ _ hl; omega
      have hlt2 : w.heap.size < w2.heap.size := (Array.getElem?_eq_some_iff.1 HBX2.out).1
      have hbx3 := (hK3.block _ hlt2 hln).trans HBX2.out
      obtain ⟨f0, f1, f2, f3, f4, f5, f6, f7⟩ := cells8 hbx3
      have hL3 : ((fun c => if c = b then replL (L b) i y z else L c) b).map (·.k) = splitL ((L b).map (·.k)) i x.k := by
        simp only [if_pos, map_replL, hy3, hz3]
        rfl
      have hpl := HP.out w3 t own now lab3 m _ _ hT3 HOW.out b N (by rw [hL3]; exact HFS.out) hN (d + 1) (by omega) (by rw [hL3]; exact HS1.out) (by omega) ⟨⟨id, famN b, ip, port⟩, kd, an, ak, 0⟩ HE.out rfl rfl
      rw [hL3] at hpl
      have HPL := Lib.hid hpl
      have HL3 := Lib.hid hl3
      have HX3 := Lib.hid hX3
      have HK3 := Lib.hid hK3
      have HB3 := Lib.hid hB3
      clear hln hbx3 hL3 hpl hl3 hX3 hK3 hB3 hT3 hy3 hz3
      go_wp2_with fail
      refine HPL.out.mono ?_
      rintro e4 w4 ⟨rfl, lab4, v4, L4, hT4, hm4, hl4, -, hK4⟩
      have HT4 := Lib.hid hT4
      have HM4 := Lib.hid hm4
      have HL4 := Lib.hid hl4
      have HK4 := Lib.hid hK4
      clear hT4 hm4 hl4 hK4
      go_wp2
      go_ret
      refine Way3Res.yes HSO.out rfl ⟨lab4, v4, L4, HT4.out, fun c => ?_, fun g hg hl => ?_, fun g hg => ?_, ?_⟩ (HB3.out.keepL HK4.out HX3.out)
      · have := HM4.out c
        by_cases hc : c = b
        · rw [if_pos hc] at this ⊢; exact this
        · rw [if_neg hc] at this ⊢; rw [this, if_neg hc]
      · exact HL4.out g (by have := HB2.out.size; have := HK3.out.size; omega) (HL3.out g (by have := HB2.out.size; omega) hl)
      · exact HL4.out g (by have := HB3.out.lt g hg; omega) (HX3.out g hg)
      · exact (KeepL.of_below HB2.out).trans' (fun _ _ h => h) (HK3.out.trans' HL3.out HK4.out)
end Go.Proofs.Tc
