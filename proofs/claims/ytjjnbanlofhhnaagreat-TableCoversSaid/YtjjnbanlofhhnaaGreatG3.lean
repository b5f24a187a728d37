import Derived.Test.YtjjnbanlofhhnaaGreatG2
namespace Go.Proofs.Tc
open Go.RowKit Go.Sort
attribute [local go_sem] stepO_0 stepO_1 stepO_2 stepO_3 stepV_0 stepV_1 stepV_2 stepV_3 stepV_5

set_option maxRecDepth 100000 in
set_option maxHeartbeats 4000000 in
theorem main_calls (haw : ∀ w, Calls Tryz.prog 7 #[] w (Ret w (.bool true))) (w : World) (own : ByteArray) (a : Option Addr) (cap : Nat) (A : List Ac) (hA : ActsIn w a cap A) :
    Calls Tryz.prog 3 #[.string own, .slice a A.length cap] w (Ret w (.bool true)) := by
  have hle := hA.hn
  have hmx := hA.hm
  unfold maxLen at hmx
  have hL := light_calls w own a cap A hA
  obtain ⟨n, hn⟩ : ∃ n, A.length = n := ⟨_, rfl⟩
  unfold LightRes at hL
  have HA := Lib.hid hA
  have HN := Lib.hid hn
  rw [hn] at hle hL ⊢
  have HL := Lib.hid hL
  clear hn hA hL
  go_enter Tryz.func3, Tryz.ntmps3
  go_wp2_with fail
  refine HL.out.mono ?_
  rintro e1 w1 ⟨r, rfl, hB1, hr⟩
  cases r with
  | false =>
    go_wp2_with fail
    refine (haw _).mono ?_
    rintro e9 w9 ⟨rfl, hb9⟩
    go_wp2
    go_ret
    exact ⟨rfl, hB1.trans (hb9.mono hB1.size)⟩
  | true =>
    obtain ⟨h150, hlate⟩ := hr rfl
    go_wp2_with fail
    refine (rvalid_calls _ _).mono ?_
    rintro e2 w2 ⟨rfl, hB2⟩
    have hBw2 := hB1.trans (hB2.mono hB1.size)
    by_cases hs : own.size = 20
    · have hs' : ((own.size : Int) == 20) = true := by simp [hs]
      rw [hs']
      have HLT := Lib.hid hlate
      have HA2 := Lib.hid (HA.out.below hBw2 rfl)
      have HB2 := Lib.hid hBw2
      have HS := Lib.hid hs
      clear hr hlate hB1 hB2 hBw2 hs hs'
      go_wp2_with fail
      refine (new_calls _ _).mono ?_
      rintro e3 w3 (⟨h, _⟩ | ⟨_, t, rfl, hNew, hB3⟩)
      · exact absurd HS.out h
      have HST := Lib.hid (StT.start hNew hB3)
      clear hNew hB3
      go_wp2_with fail
      go_loopw [7, 36] (fun nv i wr => ∃ (k : Nat) (now : Int), k ≤ n ∧ i = .int .i64 k ∧ nv = .int .i64 now ∧ 0 ≤ now ∧ now ≤ 1000000000 ∧ Hid (StT w2 (fun _ => False) wr t own k now)) (fun _ i _ => n - (intOf i).toNat)
      case atStart => exact ⟨0, 0, by omega, rfl, rfl, by omega, by omega, HST.out⟩
      case round =>
        obtain ⟨k, now, hk, rfl, rfl, hn0, hn1, HSK⟩ := hrel
        by_cases hlt : k < n
        · obtain ⟨x, hx⟩ : ∃ x, A[k]? = some x := ⟨A[k]'(by rw [HN.out]; exact hlt), List.getElem?_eq_getElem (by rw [HN.out]; exact hlt)⟩
          obtain ⟨ad, b, o, z, rfl, hadd, hb, hc0, hc⟩ := HA2.out.hc k x hx
          have hbel := HSK.out.bel
          have g : ∀ j u, 1 ≤ j → x.vals[j]? = some u → wr.cell? ⟨b, o + j, none⟩ = some u := fun j u hj hu => (hbel.cell hb).trans (hc j u hj hu)
          have g0 := (hbel.cell hb).trans hc0
          have g1 := g 1 _ (by omega) rfl
          have g2 := g 2 _ (by omega) rfl
          have g3 := g 3 _ (by omega) rfl
          have g4 := g 4 _ (by omega) rfl
          have g5 := g 5 _ (by omega) rfl
          have g6 := g 6 _ (by omega) rfl
          have g7 := g 7 _ (by omega) rfl
          obtain ⟨hla1, hla2⟩ := HLT.out k x hx
          have HLO := Lib.hid (later_ok hn0 hn1 hla1 hla2)
          have hSa := HSK.out.add (below_new (Below.refl _ wr) (.cells #[.int .i64 x.kd, .int .i64 x.la, .string x.nd.id, .int .i64 x.nd.fam, .string x.nd.ip, .int .i64 x.nd.port, .string x.id, .int .i64 x.ff] 35)) (Nat.le_refl _)
          have hac := heap_alloc_new wr (.cells #[.int .i64 x.kd, .int .i64 x.la, .string x.nd.id, .int .i64 x.nd.fam, .string x.nd.ip, .int .i64 x.nd.port, .string x.id, .int .i64 x.ff] 35)
          have HSA := Lib.hid hSa
          have HAC := Lib.hid hac
          clear g hc hc0 hx hbel hSa hac
          go_wp2_with fail
          all_goals (first
            | refine (HSA.out.seen HS.out (by omega) (now + max x.la 0) x.nd _ (laterF now x.la) HLO.out.1 (fun h => HLO.out.2.2 _ (by omega) h) (fun g hg => by simp [hg])).mono ?_
            | refine (HSA.out.failed (by omega) (by omega) (now + max x.la 0) x.nd (laterF now x.la) HLO.out.1 (fun h => HLO.out.2.2 _ (by omega) h) (fun g hg => by simp [hg])).mono ?_)
          all_goals rintro e4 w4 ⟨⟨b4, z4, rfl⟩, hst4, hpr4⟩
          all_goals obtain ⟨q0, q1, q2, q3, q4, q5, q6, q7⟩ := cells8 ((hpr4 _ rfl (by simp)).trans HAC.out)
          all_goals have HST4 := Lib.hid hst4
          all_goals clear hst4 hpr4
          all_goals go_wp2_with fail
          all_goals refine (later_calls _ now x.kd x.la x.nd.fam x.nd.port x.ff x.nd.id x.nd.ip x.id).mono ?_
          all_goals rintro e5 w5 ⟨rfl, hb5⟩
          all_goals have HB5 := Lib.hid hb5
          all_goals clear hb5
          all_goals go_wp2
          all_goals go_roundw
          case rel | rel | rel | rel | rel | rel | rel | rel => exact ⟨k + 1, laterF now x.la, by omega, by go_num, rfl, by have := HLO.out; omega, by have := HLO.out; omega, ((HST4.out.ext HB5.out).weak (fun _ h => h.elim)).mono (by omega) (by omega)⟩
          all_goals (simp [intOf]; omega)
        · obtain rfl : k = n := by omega
          have hSD := HSK.out.add (below_new (Below.refl _ wr) (.cells #[.int .i64 4, .int .i64 6] 3)) (Nat.le_refl _)
          have hDc := heap_alloc_new wr (.cells #[.int .i64 4, .int .i64 6] 3)
          have hwr := HSK.out.bel.size
          have hDl : wr.heap.size < (wr.alloc (.cells #[.int .i64 4, .int .i64 6] 3)).heap.size := by simp
          obtain ⟨D, hD⟩ : ∃ D, wr.heap.size = D := ⟨_, rfl⟩
          rw [hD] at hSD hDc hwr hDl
          have HSD := Lib.hid hSD
          have HDC := Lib.hid hDc
          have HD := Lib.hid hD
          clear hSD hDc hD
          go_wp2_with fail
          rw [HD.out]
          generalize (wr.alloc (.cells #[.int .i64 4, .int .i64 6] 3)) = wd at *
          go_loopw [84] (fun i wr2 => ∃ (j : Nat), j ≤ 2 ∧ i = .int .i64 j ∧ Hid (StT w2 (fun g => g = D) wr2 t own k now) ∧ Hid (wr2.heap[D]? = some (.cells #[.int .i64 4, .int .i64 6] 3 (0, 0)))) (fun i _ => 2 - (intOf i).toNat)
          case atStart => exact ⟨0, by omega, rfl, HSD.out, HDC.out⟩
          case round =>
            obtain ⟨j, hj, rfl, HSJ, HDJ⟩ := hrel
            have hdj := HDJ.out
            have d0 : wr.cell? ⟨D, 0, none⟩ = some (.int .i64 4) := by simp [World.cell?, hdj]
            have d1 : wr.cell? ⟨D, 1, none⟩ = some (.int .i64 6) := by simp [World.cell?, hdj]
            clear hdj
            by_cases hj0 : j = 0
            · subst hj0
              go_wp2_with fail
              refine (HSJ.out.list hn1 false).mono ?_
              rintro e5 w5 ⟨vo, l, rfl, hsh, hst5, hpr5⟩
              have hD5 := (hpr5 D rfl (Array.getElem?_eq_some_iff.1 HDJ.out).1).trans HDJ.out
              obtain ⟨d, hd, hch⟩ := hsh.ch
              have hlen := (deep_chain hch).2
              obtain ⟨g, cap', rfl, hle', hcm', hfp, hrow⟩ := hsh.out.own.row (by omega)
              have hlg : g < w5.heap.size := hrow.lt
              have ho := hsh.out.own
              obtain ⟨nl, hnl⟩ : ∃ nl, l.length = nl := ⟨_, rfl⟩
              rw [hnl] at ho hlen ⊢
              have HSH := Lib.hid hsh
              have HO := Lib.hid ho
              have HNL := Lib.hid hnl
              have HST5 := Lib.hid hst5
              have HD5 := Lib.hid hD5
              have HCH := Lib.hid hch
              have HLEN := Lib.hid hlen
              have hpos : 0 < nl := by omega
              have h161 : nl ≤ 161 := by omega
              have hz : ((nl : Int) == 0) = false := by simp; omega
              have hcell : Hid (∀ (W : World) (i : Nat) (x : Sh), Below w5.heap.size w5 W → l[i]? = some x → ∀ j, j < 4 → ∀ u, x.vals[j]? = some u → W.cell? ⟨g, i * 4 + j, none⟩ = some u) :=
                fun W i x hB hx j hj u hu => (HO.out.below hB (by simp [fpv]; exact hlg)).cell rfl (by rw [shs_get hx hj]; exact hu)
              clear hsh ho hnl hst5 hpr5 hD5 hch hlen hle' hcm' hfp hrow
              go_wp2_with fail
              go_loopw [106] (fun i wr3 => ∃ (k3 : Nat), k3 ≤ nl ∧ i = .int .i64 k3 ∧ Hid (Below w5.heap.size w5 wr3)) (fun i _ => nl - (intOf i).toNat)
              case atStart => exact ⟨0, by omega, rfl, Below.refl _ _⟩
              case round =>
                obtain ⟨k3, hk3, rfl, HB3⟩ := hrel
                by_cases hlt3 : k3 < nl
                · cases k3 with
                  | zero =>
                    go_wp2_with fail
                    refine wp_region_ord [(0,0),(1,0),(2,0),(3,0),(4,0),(5,0),(6,0),(7,0),(8,1),(9,0),(10,0),(11,0),(12,0),(13,1),(14,0),(15,0)] (by kernel_rfl) (by kernel_rfl) ?_
                    simp only [pickO, List.map_cons, List.map_nil, List.getD_cons_zero, List.getD_cons_succ]
                    repeat (first | ((with_reducible refine wpO_skip ?_ ?_); rfl; simp only [Act.put, List.setIfInBounds_toArray, List.set_cons_zero, List.set_cons_succ]) | ((with_reducible refine wpO_step (fun K hK => ?_)); go_simp; (try go_bits); (first | (with_reducible refine hK _ _ ?_) | (simp only [IntWalk.iteOmega]; go_simp; (try go_bits); (with_reducible refine hK _ _ ?_))); clear hK K))
                    (with_reducible refine wpO_nil ?_)
                    go_wp2
                    go_roundw
                    case rel => first | exact ⟨1, by omega, rfl, HB3.out.drew⟩ | ((repeat apply Exists.intro); refine ⟨?_, rfl⟩; exact ⟨1, by omega, rfl, HB3.out.drew⟩)
                    case measure => simp [intOf]; omega
                  | succ i =>
                    obtain ⟨x, hx⟩ : ∃ x, l[i]? = some x := ⟨l[i]'(by rw [HNL.out]; omega), List.getElem?_eq_getElem (by rw [HNL.out]; omega)⟩
                    obtain ⟨y, hy⟩ : ∃ y, l[i + 1]? = some y := ⟨l[i + 1]'(by rw [HNL.out]; exact hlt3), List.getElem?_eq_getElem (by rw [HNL.out]; exact hlt3)⟩
                    have c1 := hcell.out wr i x HB3.out hx 0 (by omega) _ rfl
                    have c2 := hcell.out wr (i + 1) y HB3.out hy 0 (by omega) _ rfl
                    simp only [Nat.add_zero] at c1 c2
                    have hlx : Op.bytesLess x.pre.toList y.pre.toList = true := by
                      have hp := chain_pair (own := own) hd
                      rw [← HCH.out, List.pairwise_iff_getElem] at hp
                      obtain ⟨hi1, rfl⟩ := List.getElem?_eq_some_iff.1 hx
                      obtain ⟨hi2, rfl⟩ := List.getElem?_eq_some_iff.1 hy
                      have := hp i (i + 1) (by simpa using hi1) (by simpa using hi2) (by omega)
                      simp at this
                      exact less_of_bitlt (HSH.out.ok _ (List.getElem_mem hi1)).pz (HSH.out.ok _ (List.getElem_mem hi2)).pz this
                    clear hx hy
                    go_wp2_with fail
                    refine wp_region_ord [(0,0),(1,0),(2,0),(3,0),(4,0),(5,0),(6,0),(7,0),(8,1),(9,0),(10,0),(11,0),(12,0),(13,1),(14,0),(15,0)] (by kernel_rfl) (by kernel_rfl) ?_
                    simp only [pickO, List.map_cons, List.map_nil, List.getD_cons_zero, List.getD_cons_succ]
                    repeat (first | ((with_reducible refine wpO_skip ?_ ?_); rfl; simp only [Act.put, List.setIfInBounds_toArray, List.set_cons_zero, List.set_cons_succ]) | ((with_reducible refine wpO_step (fun K hK => ?_)); go_simp; (try go_bits); (first | (with_reducible refine hK _ _ ?_) | (simp only [IntWalk.iteOmega]; go_simp; (try go_bits); (with_reducible refine hK _ _ ?_))); clear hK K))
                    (with_reducible refine wpO_nil ?_)
                    go_wp2
                    go_roundw
                    case rel => first | exact ⟨i + 2, by omega, by go_num, HB3.out.drew⟩ | ((repeat apply Exists.intro); refine ⟨?_, rfl⟩; exact ⟨i + 2, by omega, by go_num, HB3.out.drew⟩)
                    case measure => simp [intOf]; omega
                · obtain rfl : k3 = nl := by omega
                  go_wp2_with fail
                  refine (covers_calls _ _ l own HS.out d hd HCH.out (by rw [HNL.out]; exact HO.out.below HB3.out (by simp [fpv]; exact hlg)) (fun x hx => by
                    obtain ⟨h1, h2⟩ := HSH.out.out.el x hx
                    obtain ⟨a1, c1, e1, _⟩ := h1.shape
                    obtain ⟨a2, c2, e2, _⟩ := h2.shape
                    exact ⟨⟨_, _, _, e1⟩, ⟨_, _, _, e2⟩⟩)).mono ?_
                  rintro e6 w6 ⟨rfl, hb6⟩
                  have HB6 := Lib.hid (below_ext HB3.out hb6)
                  clear hb6
                  go_wp2_with fail
                  go_loopw [132] (fun i wr4 => ∃ (k4 : Nat), k4 ≤ k3 ∧ i = .int .i64 k4 ∧ Hid (Below w5.heap.size w5 wr4)) (fun i _ => k3 - (intOf i).toNat)
                  case atStart => exact ⟨0, by omega, rfl, HB6.out⟩
                  case round =>
                    obtain ⟨k4, hk4, rfl, HB4⟩ := hrel
                    by_cases hlt4 : k4 < k3
                    · obtain ⟨x, hx⟩ : ∃ x, l[k4]? = some x := ⟨l[k4]'(by rw [HNL.out]; omega), List.getElem?_eq_getElem (by rw [HNL.out]; omega)⟩
                      have hxm := List.mem_of_getElem? hx
                      obtain ⟨hx1, hx2⟩ := HSH.out.out.el x hxm
                      obtain ⟨a1, p1, hv1, _, _⟩ := hx1.shape
                      obtain ⟨a2, p2, hv2, _, _⟩ := hx2.shape
                      have hok := HSH.out.ok x hxm
                      obtain ⟨n1, hn1'⟩ : ∃ n, x.ents.length = n := ⟨_, rfl⟩
                      obtain ⟨n2, hn2'⟩ : ∃ n, x.spare.length = n := ⟨_, rfl⟩
                      have hl1 := hok.l1
                      have hl2 := hok.l2
                      have c0 := hcell.out wr k4 x HB4.out hx 0 (by omega) _ rfl
                      have c1 := hcell.out wr k4 x HB4.out hx 1 (by omega) _ rfl
                      have c2 := hcell.out wr k4 x HB4.out hx 2 (by omega) x.ve rfl
                      have c3 := hcell.out wr k4 x HB4.out hx 3 (by omega) x.vs rfl
                      have hBa := below_new HB4.out (.cells #[.string x.pre, .int .i64 x.bits, x.ve, x.vs] 46)
                      have hsc := sound_calls (wr.alloc (.cells #[.string x.pre, .int .i64 x.bits, x.ve, x.vs] 46)) x false (hx1.ext hBa) (hx2.ext hBa) hok
                      have hba := heap_alloc_new wr (.cells #[.string x.pre, .int .i64 x.bits, x.ve, x.vs] 46)
                      rw [hv1, hv2] at hsc hba hBa
                      rw [hv1] at c2
                      rw [hv2] at c3
                      rw [hn1'] at hl1 c2 hsc hba hBa
                      rw [hn2'] at hl2 c3 hsc hba hBa
                      simp only [Nat.add_zero] at c0
                      obtain ⟨b0, b1, b2, b3⟩ := cells4 hba
                      have HBA := Lib.hid hBa
                      have HSC := Lib.hid hsc
                      clear hx hxm hx1 hx2 hv1 hv2 hok hn1' hn2' hBa hsc hba
                      go_wp2_with fail
                      refine HSC.out.mono ?_
                      rintro e7 w7 ⟨rfl, hb7⟩
                      have HB7 := Lib.hid (below_ext HBA.out hb7)
                      clear hb7 b0 b1 b2 b3 c0 c1 c2 c3
                      go_wp2
                      go_roundw
                      case rel => exact ⟨k4 + 1, by omega, by go_num, HB7.out⟩
                      case measure => simp [intOf]; omega
                    · obtain rfl : k4 = k3 := by omega
                      go_wp2_with fail
                      go_roundw
                      case rel => exact ⟨1, by omega, by go_num, HST5.out.ext HB4.out, (HB4.out.block D (Array.getElem?_eq_some_iff.1 HD5.out).1).trans HD5.out⟩
                      case measure => simp [intOf]
            by_cases hj1 : j = 1
            · subst hj1
              go_wp2_with fail
              refine (HSJ.out.list hn1 true).mono ?_
              rintro e5 w5 ⟨vo, l, rfl, hsh, hst5, hpr5⟩
              have hD5 := (hpr5 D rfl (Array.getElem?_eq_some_iff.1 HDJ.out).1).trans HDJ.out
              obtain ⟨d, hd, hch⟩ := hsh.ch
              have hlen := (deep_chain hch).2
              obtain ⟨g, cap', rfl, hle', hcm', hfp, hrow⟩ := hsh.out.own.row (by omega)
              have hlg : g < w5.heap.size := hrow.lt
              have ho := hsh.out.own
              obtain ⟨nl, hnl⟩ : ∃ nl, l.length = nl := ⟨_, rfl⟩
              rw [hnl] at ho hlen ⊢
              have HSH := Lib.hid hsh
              have HO := Lib.hid ho
              have HNL := Lib.hid hnl
              have HST5 := Lib.hid hst5
              have HD5 := Lib.hid hD5
              have HCH := Lib.hid hch
              have HLEN := Lib.hid hlen
              have hpos : 0 < nl := by omega
              have h161 : nl ≤ 161 := by omega
              have hz : ((nl : Int) == 0) = false := by simp; omega
              have hcell : Hid (∀ (W : World) (i : Nat) (x : Sh), Below w5.heap.size w5 W → l[i]? = some x → ∀ j, j < 4 → ∀ u, x.vals[j]? = some u → W.cell? ⟨g, i * 4 + j, none⟩ = some u) :=
                fun W i x hB hx j hj u hu => (HO.out.below hB (by simp [fpv]; exact hlg)).cell rfl (by rw [shs_get hx hj]; exact hu)
              clear hsh ho hnl hst5 hpr5 hD5 hch hlen hle' hcm' hfp hrow
              go_wp2_with fail
              have HB3 := Lib.hid (Below.refl w5.heap.size w5)
              refine (covers_calls _ _ l own HS.out d hd HCH.out (by rw [HNL.out]; exact HO.out.below HB3.out (by simp [fpv]; exact hlg)) (fun x hx => by
                obtain ⟨h1, h2⟩ := HSH.out.out.el x hx
                obtain ⟨a1, c1, e1, _⟩ := h1.shape
                obtain ⟨a2, c2, e2, _⟩ := h2.shape
                exact ⟨⟨_, _, _, e1⟩, ⟨_, _, _, e2⟩⟩)).mono ?_
              rintro e6 w6 ⟨rfl, hb6⟩
              have HB6 := Lib.hid (below_ext HB3.out hb6)
              clear hb6
              go_wp2_with fail
              go_loopw [132] (fun i wr4 => ∃ (k4 : Nat), k4 ≤ nl ∧ i = .int .i64 k4 ∧ Hid (Below w5.heap.size w5 wr4)) (fun i _ => nl - (intOf i).toNat)
              case atStart => exact ⟨0, by omega, rfl, HB6.out⟩
              case round =>
                obtain ⟨k4, hk4, rfl, HB4⟩ := hrel
                by_cases hlt4 : k4 < nl
                · obtain ⟨x, hx⟩ : ∃ x, l[k4]? = some x := ⟨l[k4]'(by rw [HNL.out]; omega), List.getElem?_eq_getElem (by rw [HNL.out]; omega)⟩
                  have hxm := List.mem_of_getElem? hx
                  obtain ⟨hx1, hx2⟩ := HSH.out.out.el x hxm
                  obtain ⟨a1, p1, hv1, _, _⟩ := hx1.shape
                  obtain ⟨a2, p2, hv2, _, _⟩ := hx2.shape
                  have hok := HSH.out.ok x hxm
                  obtain ⟨n1, hn1'⟩ : ∃ n, x.ents.length = n := ⟨_, rfl⟩
                  obtain ⟨n2, hn2'⟩ : ∃ n, x.spare.length = n := ⟨_, rfl⟩
                  have hl1 := hok.l1
                  have hl2 := hok.l2
                  have c0 := hcell.out wr k4 x HB4.out hx 0 (by omega) _ rfl
                  have c1 := hcell.out wr k4 x HB4.out hx 1 (by omega) _ rfl
                  have c2 := hcell.out wr k4 x HB4.out hx 2 (by omega) x.ve rfl
                  have c3 := hcell.out wr k4 x HB4.out hx 3 (by omega) x.vs rfl
                  have hBa := below_new HB4.out (.cells #[.string x.pre, .int .i64 x.bits, x.ve, x.vs] 46)
                  have hsc := sound_calls (wr.alloc (.cells #[.string x.pre, .int .i64 x.bits, x.ve, x.vs] 46)) x true (hx1.ext hBa) (hx2.ext hBa) hok
                  have hba := heap_alloc_new wr (.cells #[.string x.pre, .int .i64 x.bits, x.ve, x.vs] 46)
                  rw [hv1, hv2] at hsc hba hBa
                  rw [hv1] at c2
                  rw [hv2] at c3
                  rw [hn1'] at hl1 c2 hsc hba hBa
                  rw [hn2'] at hl2 c3 hsc hba hBa
                  simp only [Nat.add_zero] at c0
                  obtain ⟨b0, b1, b2, b3⟩ := cells4 hba
                  have HBA := Lib.hid hBa
                  have HSC := Lib.hid hsc
                  clear hx hxm hx1 hx2 hv1 hv2 hok hn1' hn2' hBa hsc hba
                  go_wp2_with fail
                  refine HSC.out.mono ?_
                  rintro e7 w7 ⟨rfl, hb7⟩
                  have HB7 := Lib.hid (below_ext HBA.out hb7)
                  clear hb7 b0 b1 b2 b3 c0 c1 c2 c3
                  go_wp2
                  go_roundw
                  case rel => exact ⟨k4 + 1, by omega, by go_num, HB7.out⟩
                  case measure => simp [intOf]; omega
                · obtain rfl : k4 = nl := by omega
                  go_wp2_with fail
                  go_roundw
                  case rel => exact ⟨2, by omega, by go_num, HST5.out.ext HB4.out, (HB4.out.block D (Array.getElem?_eq_some_iff.1 HD5.out).1).trans HD5.out⟩
                  case measure => simp [intOf]
            · obtain rfl : j = 2 := by omega
              go_wp2_with fail
              refine (haw _).mono ?_
              rintro e9 w9 ⟨rfl, hb9⟩
              go_wp2
              go_ret
              exact ⟨rfl, HB2.out.trans ((HSJ.out.bel.mono HB2.out.size).trans (hb9.mono (Nat.le_trans HB2.out.size HSJ.out.bel.size)))⟩
    · have hs' : ((own.size : Int) == 20) = false := by simp; omega
      rw [hs']
      go_wp2_with fail
      refine (haw _).mono ?_
      rintro e9 w9 ⟨rfl, hb9⟩
      go_wp2
      go_ret
      exact ⟨rfl, hBw2.trans (hb9.mono hBw2.size)⟩
end Go.Proofs.Tc
