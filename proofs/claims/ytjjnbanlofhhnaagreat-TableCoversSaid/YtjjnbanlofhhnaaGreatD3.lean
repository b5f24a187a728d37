import Derived.Test.YtjjnbanlofhhnaaGreatD2
namespace Go.Proofs.Tc
open Go.RowKit Go.Sort
attribute [local go_sem] stepO_0 stepO_1 stepO_2 stepO_3 stepV_0 stepV_1 stepV_2 stepV_3 stepV_5

/-- A bucket's place: its address, what it holds, the blocks of its lists. -/
structure Pl where
  a : Nat
  k : Bk
  S : List Nat
/-- A table in memory: lab says of each of its blocks what it is part of. -/
structure TbIn (w : World) (t : Nat) (own : ByteArray) (now : Int) (lab : Nat → Option Nat) (m : Nat) (v : Bool → Value) (L : Bool → List Pl) : Prop where
  hh : w.heap[t]? = some (.cells #[.string own, .int .i64 now, .map (some m)] 68 (0, 0))
  hm : FamAt w m v
  hv : ∀ b, OwnP w (v b) ((L b).map (·.a))
  hk : ∀ b, ∀ x ∈ L b, BkIn w x.a x.k x.S
  lt : ∀ g i, lab g = some i → g < w.heap.size
  l0 : lab t = some 0
  l1 : lab m = some 1
  lv : ∀ b, ∀ g ∈ fpv (v b), lab g = some (if b then 3 else 2)
  lk : ∀ b, ∀ x ∈ L b, ∀ g ∈ x.a :: x.S, lab g = some (x.a + 4)
  nd : ∀ b, ((L b).map (·.a)).Nodup
  dj : ∀ x ∈ L false, ∀ y ∈ L true, x.a ≠ y.a

/-- Only blocks of the table have turned. -/
structure KeepL (lab : Nat → Option Nat) (w w' : World) : Prop where
  os : w'.os = w.os
  tape : w'.tape = w.tape
  output : w'.output = w.output
  size : w.heap.size ≤ w'.heap.size
  block : ∀ g, g < w.heap.size → lab g = none → w'.heap[g]? = w.heap[g]?
theorem KeepL.refl (lab : Nat → Option Nat) (w : World) : KeepL lab w w := ⟨rfl, rfl, rfl, Nat.le_refl _, fun _ _ _ => rfl⟩
theorem KeepL.trans {lab lab' : Nat → Option Nat} {w w1 w2 : World} (h : KeepL lab w w1) (he : ∀ g, g < w.heap.size → lab' g = lab g) (h' : KeepL lab' w1 w2) : KeepL lab w w2 :=
  ⟨h'.os.trans h.os, h'.tape.trans h.tape, h'.output.trans h.output, Nat.le_trans h.size h'.size, fun g hg hl => (h'.block g (Nat.lt_of_lt_of_le hg h.size) ((he g hg).trans hl)).trans (h.block g hg hl)⟩
theorem KeepL.of_below {lab : Nat → Option Nat} {w w' : World} (h : Below w.heap.size w w') : KeepL lab w w' := ⟨h.os, h.tape, h.output, h.size, fun g hg _ => h.block g hg⟩
theorem KeepL.of_keeps {lab : Nat → Option Nat} {S : List Nat} {w w' : World} (h : Keeps S w w') (hS : ∀ g ∈ S, g < w.heap.size → lab g ≠ none) : KeepL lab w w' :=
  ⟨h.os, h.tape, h.output, h.size, fun g hg hl => h.block g hg fun hs => hS g hs hg hl⟩
theorem KeepL.below {lab : Nat → Option Nat} {w w' : World} {n : Nat} (h : KeepL lab w w') (hn : n ≤ w.heap.size) (hl : ∀ g, g < n → lab g = none) : Below n w w' :=
  ⟨h.os, h.tape, h.output, h.size, fun g hg => h.block g (Nat.lt_of_lt_of_le hg hn) (hl g hg)⟩

section
variable {w w' : World} {t : Nat} {own : ByteArray} {now : Int} {lab : Nat → Option Nat} {m : Nat} {v : Bool → Value} {L : Bool → List Pl}
theorem TbIn.of_blocks (h : TbIn w t own now lab m v L) (hs : w.heap.size ≤ w'.heap.size) (hb : ∀ g, lab g ≠ none → w'.heap[g]? = w.heap[g]?) : TbIn w' t own now lab m v L :=
  ⟨(hb t (by rw [h.l0]; simp)).trans h.hh, (hb m (by rw [h.l1]; simp)).trans h.hm, fun b => (h.hv b).of_blocks fun g hg => hb g (by rw [h.lv b g hg]; simp),
   fun b x hx => (h.hk b x hx).of_blocks fun g hg => hb g (by rw [h.lk b x hx g hg]; simp), fun g i hg => Nat.lt_of_lt_of_le (h.lt g i hg) hs, h.l0, h.l1, h.lv, h.lk, h.nd, h.dj⟩
theorem TbIn.ext (h : TbIn w t own now lab m v L) (hB : Below w.heap.size w w') : TbIn w' t own now lab m v L :=
  h.of_blocks hB.size fun g hg => by
    cases hl : lab g with
    | none => exact absurd hl hg
    | some i => exact hB.block g (h.lt g i hl)
theorem TbIn.keeps {S : List Nat} (h : TbIn w t own now lab m v L) (hk : Keeps S w w') (hS : ∀ g ∈ S, lab g = none) : TbIn w' t own now lab m v L :=
  h.of_blocks hk.size fun g hg => by
    cases hl : lab g with
    | none => exact absurd hl hg
    | some i => exact hk.block g (h.lt g i hl) fun hs => by rw [hS g hs] at hl; cases hl
end
theorem cells3 {w : World} {b : Nat} {x0 x1 x2 : Value} {t : TypeId} {z : Nat × Nat} (h : w.heap[b]? = some (.cells #[x0, x1, x2] t z)) :
    w.cell? ⟨b, 0, none⟩ = some x0 ∧ w.cell? ⟨b, 1, none⟩ = some x1 ∧ w.cell? ⟨b, 2, none⟩ = some x2 := by
  simp [World.cell?, h]

/-- Buckets that are in order. -/
def GoodBk (k : Bk) : Prop := k.pre.size = 20 ∧ k.bits ≤ 160
/-- The place of the bucket of an identifier. -/
def ofF (l : List Bk) (id : ByteArray) : Option Nat := l.findIdx? fun k => holdsB k.pre k.bits id

theorem find_a : ∀ {l : List Pl} {x : Pl}, (l.map (·.a)).Nodup → x ∈ l → l.find? (fun y => y.a == x.a) = some x
  | y :: l, x, hn, hx => by
    rw [List.map_cons, List.nodup_cons] at hn
    rcases List.mem_cons.1 hx with rfl | hx
    · simp
    · have hne : y.a ≠ x.a := fun he => hn.1 (he ▸ List.mem_map.2 ⟨x, hx, rfl⟩)
      have hb : (y.a == x.a) = false := by simpa using hne
      rw [List.find?_cons, hb]
      exact find_a hn.2 hx
set_option maxRecDepth 100000 in
theorem of_calls (w : World) (t : Nat) (own : ByteArray) (now : Int) (lab : Nat → Option Nat) (m : Nat) (v : Bool → Value) (L : Bool → List Pl) (h : TbIn w t own now lab m v L) (b : Bool) (id : ByteArray) (hid : id.size = 20)
    (hg : ∀ x ∈ L b, GoodBk x.k) (i : Nat) (hi : ofF ((L b).map (·.k)) id = some i) (x : Pl) (hx : (L b)[i]? = some x) :
    Calls Tryz.prog 28 #[.pointer (some ⟨t, 0, none⟩), .string id, .int .i64 (famN b)] w (Ret w (.pointer (some ⟨x.a, 0, none⟩))) := by
  obtain ⟨c0, c1, c2⟩ := cells3 h.hh
  obtain ⟨w1, hw1⟩ : ∃ w1, w.alloc (.cells #[.string id] 9) = w1 := ⟨_, rfl⟩
  have hB : Below w.heap.size w w1 := by rw [← hw1]; exact below_new (Below.refl _ w) _
  have h1 := h.ext hB
  have hbx : w1.heap[w.heap.size]? = some (.cells #[.string id] 9 (0, 0)) := by rw [← hw1]; exact heap_alloc_new w _
  have hlook := fam_lookup h1.hm b
  have hil : i < (L b).length := (List.getElem?_eq_some_iff.1 hx).1
  have hv := h1.hv b
  obtain ⟨g, cap, hvb, hle, hcm, hfp, _⟩ := hv.row (by rw [List.length_map]; omega)
  rw [List.length_map] at hvb hle
  obtain ⟨p, hp⟩ : ∃ p : Nat → Bool, ∀ x ∈ L b, p x.a = holdsB x.k.pre x.k.bits id := by
    refine ⟨fun a => match (L b).find? (fun x => x.a == a) with | some x => holdsB x.k.pre x.k.bits id | none => false, fun x hx => ?_⟩
    simp only [find_a (h.nd b) hx]
  have hpt : ((L b).map (·.a))[i]? = some x.a := by simp [hx]
  have hxm : x ∈ L b := List.mem_of_getElem? hx
  obtain ⟨hil2, hph, hbef⟩ := List.findIdx?_eq_some_iff_getElem.1 hi
  have hidx : idxF p ((L b).map (·.a)) = i := by
    refine idxF_hit (e := x.a) (fun j y hj hy => ?_) hpt ?_
    · rw [List.getElem?_map] at hy
      cases hj2 : (L b)[j]? with
      | none => rw [hj2] at hy; cases hy
      | some z =>
        rw [hj2] at hy
        simp only [Option.map_some, Option.some.injEq] at hy
        subst hy
        rw [hp z (List.mem_of_getElem? hj2)]
        have := hbef j hj
        rw [List.getElem_map] at this
        have hz := (List.getElem?_eq_some_iff.1 hj2).2
        rw [hz] at this
        simpa using this
    · rw [hp x hxm]
      rw [List.getElem_map, (List.getElem?_eq_some_iff.1 hx).2] at hph
      exact hph
  have hcell : w1.cell? ⟨g, i, none⟩ = some (.pointer (some ⟨x.a, 0, none⟩)) := hv.cell hvb (ptrs_get hpt)
  have hcl : ∀ W, Below w1.heap.size w1 W → ∀ a ∈ (L b).map (·.a), Calls Tryz.prog 60 (#[.pointer (some ⟨a, 0, none⟩)] ++ #[.pointer (some ⟨w.heap.size, 0, none⟩)]) W (Ret W (.bool (p a))) := by
    intro W hW a ha
    obtain ⟨y, hy, rfl⟩ := List.mem_map.1 ha
    rw [hp y hy]
    have hbW := (hW.block w.heap.size (Array.getElem?_eq_some_iff.1 hbx).1).trans hbx
    exact of1_calls W y.a w.heap.size y.k y.S id hid (hg y hy).1 (hg y hy).2 ((h1.hk b y hy).ext hW) (by simp [World.cell?, hbW])
  have HV := Lib.hid hv
  have HC := Lib.hid hcl
  have HI := Lib.hid hidx
  have HCe := Lib.hid hcell
  have HB := Lib.hid hB
  have HVB := Lib.hid hvb
  have HLL := Lib.hid (by simp : ((L b).map (·.a)).length = (L b).length)
  rw [hvb] at hlook
  obtain ⟨d0, d1, d2⟩ := cells3 h1.hh
  clear hv hcl hidx hcell hB h h1 hi hx hg hp hpt hxm hph hbef hvb hbx
  go_enter Tryz.func28, Tryz.ntmps28
  go_wp2_with fail
  refine (indexB_calls w1 _ ((L b).map (·.a)) (by unfold OwnP; have := HV.out; rw [HVB.out] at this; exact this) 60 #[.pointer (some ⟨w.heap.size, 0, none⟩)] p (enters_of Tryz.func60 (by kernel_rfl) rfl) HC.out).mono ?_
  rintro e2 w2 ⟨rfl, hb2⟩
  rw [HI.out]
  have hc2 := (hb2.cell (p := ⟨g, i, none⟩) (World.block_lt_of_cell? w1 ⟨g, i, none⟩ HCe.out)).trans HCe.out
  go_wp2
  go_ret
  exact ⟨rfl, below_ext HB.out hb2⟩
end Go.Proofs.Tc
