import Derived.Test.YtjjnbanlofhhnaaGreatF4
namespace Go.Proofs.Tc
open Go.RowKit Go.Sort
attribute [local go_sem] stepO_0 stepO_1 stepO_2 stepO_3 stepV_0 stepV_1 stepV_2 stepV_3 stepV_5

/-- What is asked of a bucket as it is told. -/
structure ShOk (f : Bool) (x : Sh) : Prop where
  pz : x.pre.size = 20
  bz : x.bits ≤ 160
  all : ∀ e, e ∈ x.ents ∨ e ∈ x.spare → e.nd.id.size = 20 ∧ e.nd.fam = famN f ∧ holdsB x.pre x.bits e.nd.id = true
  bad : ∀ e ∈ x.ents, e.kd = 3 → ∀ s ∈ x.spare, s.kd ≠ 3 → s.an < 0
  l1 : x.ents.length ≤ 8
  l2 : x.spare.length ≤ 8
set_option maxRecDepth 100000 in
set_option maxHeartbeats 2000000 in
theorem sound_calls (w : World) (x : Sh) (f : Bool) (h1 : OwnE w x.ve x.ents) (h2 : OwnE w x.vs x.spare) (hok : ShOk f x) :
    Calls Tryz.prog 14 #[.agg #[.string x.pre, .int .i64 x.bits, x.ve, x.vs], .int .i64 (famN f)] w (Ret w (.bool true)) := by
  obtain ⟨a1, p1, hv1, _, _⟩ := h1.shape
  obtain ⟨a2, p2, hv2, _, _⟩ := h2.shape
  rw [hv1] at h1 ⊢
  rw [hv2] at h2 ⊢
  obtain ⟨n1, hn1⟩ : ∃ n, x.ents.length = n := ⟨_, rfl⟩
  obtain ⟨n2, hn2⟩ : ∃ n, x.spare.length = n := ⟨_, rfl⟩
  have hl1 := hok.l1
  have hl2 := hok.l2
  rw [hn1] at h1 hl1 ⊢
  rw [hn2] at h2 hl2 ⊢
  unfold OwnE at h1 h2
  rw [hn1] at h1
  rw [hn2] at h2
  have HN1 := Lib.hid hn1
  have HN2 := Lib.hid hn2
  have hxb := heap_alloc_new w (.cells #[.string x.pre, .int .i64 x.bits, .slice a1 n1 p1, .slice a2 n2 p2] 46)
  have HXB := Lib.hid hxb
  have hB1 := below_new (Below.refl _ w) (.cells #[.string x.pre, .int .i64 x.bits, .slice a1 n1 p1, .slice a2 n2 p2] 46)
  have hO1 : Own (w.alloc (.cells #[.string x.pre, .int .i64 x.bits, .slice a1 n1 p1, .slice a2 n2 p2] 46)) 60 8 (.slice a1 n1 p1) n1 (evs x.ents) := Own.ext h1 hB1
  have hO2 : Own (w.alloc (.cells #[.string x.pre, .int .i64 x.bits, .slice a1 n1 p1, .slice a2 n2 p2] 46)) 60 8 (.slice a2 n2 p2) n2 (evs x.spare) := Own.ext h2 hB1
  obtain ⟨w0, hw0⟩ : ∃ w0, w.alloc (.cells #[.string x.pre, .int .i64 x.bits, .slice a1 n1 p1, .slice a2 n2 p2] 46) = w0 := ⟨_, rfl⟩
  rw [hw0] at HXB hB1 hO1 hO2
  have HW0 := Lib.hid hw0
  have HB1 := Lib.hid hB1
  have HO1 := Lib.hid hO1
  have HO2 := Lib.hid hO2
  have HOK := Lib.hid hok
  clear h1 h2 hv1 hv2 hn1 hn2 hok hxb hB1 hO1 hO2 hw0
  go_enter Tryz.func14, Tryz.ntmps14
  go_wp2_with fail
  rw [HW0.out]
  go_loopw [5, 14] (fun bv i wr => ∃ (k : Nat) (b1 : Bool), k ≤ n1 ∧ i = .int .i64 k ∧ bv = .bool b1 ∧ Hid (b1 = true → ∃ e ∈ x.ents, e.kd = 3) ∧ Hid (Below w0.heap.size w0 wr)) (fun _ i _ => n1 - (intOf i).toNat)
  case atStart => exact ⟨0, false, by omega, rfl, rfl, (fun h => by cases h), Below.refl _ _⟩
  case round =>
    obtain ⟨k, b1, hk, rfl, rfl, HBD, HBK⟩ := hrel
    by_cases hlt : k < n1
    · obtain ⟨e, he⟩ : ∃ e, x.ents[k]? = some e := ⟨x.ents[k]'(by rw [HN1.out]; exact hlt), List.getElem?_eq_getElem (by rw [HN1.out]; exact hlt)⟩
      have hO := HO1.out.ext HBK.out
      obtain ⟨g, cap', hv, _, _, _, _⟩ := hO.row (by omega)
      injection hv with ha _ hcap
      subst ha hcap
      obtain ⟨c0, c1, c2, c3, c4, c5, c6, c7⟩ := OwnE.at hO he
      have lt3 := World.block_lt_of_cell? wr _ c0
      simp only at lt3
      have hem := List.mem_of_getElem? he
      obtain ⟨hid, hfam, hhold⟩ := HOK.out.all e (.inl hem)
      have hin : decide ((x.bits : Int) ≤ (commonF e.nd.id x.pre : Int)) = true := by unfold holdsB at hhold; rw [decide_eq_true_iff] at hhold ⊢; omega
      have hfb : (e.nd.fam != famN f) = false := by rw [hfam]; simp
      obtain ⟨x0, x1, x2, x3⟩ := cells4 ((HBK.out.block _ (Array.getElem?_eq_some_iff.1 HXB.out).1).trans HXB.out)
      have hlx := Nat.lt_of_lt_of_le (Array.getElem?_eq_some_iff.1 HXB.out).1 HBK.out.size
      have hwn := fun W => rwithin_calls W e.nd.id x.pre x.bits hid HOK.out.pz
      rw [hin] at hwn
      have HWN := Lib.hid hwn
      have HEM := Lib.hid hem
      clear hO he hem hid hhold hin hwn hfam
      cases b1 with
      | true =>
        go_wp2_with fail
        refine (HWN.out _).mono ?_
        rintro e2 w2 ⟨rfl, hb2⟩
        obtain ⟨z0, z1, z2, z3, z4, z5, z6, z7⟩ := cells8 ((hb2.block wr.heap.size (by simp)).trans (heap_alloc_new wr (.cells #[.string e.nd.id, .int .i64 e.nd.fam, .string e.nd.ip, .int .i64 e.nd.port, .int .i64 e.kd, .int .i64 e.an, .int .i64 e.ak, .int .i64 e.fl] 60)))
        have HB2 := Lib.hid (HBK.out.trans ((below_new (Below.refl _ wr) _).trans (hb2.mono (by simp)) |>.mono HBK.out.size))
        clear hb2
        go_wp2
        go_roundw
        case rel => exact ⟨k + 1, true, by omega, by go_num, rfl, (fun _ => HBD.out trivial), HB2.out⟩
        case measure => simp [intOf]; omega
      | false =>
        go_wp2_with fail
        refine (HWN.out _).mono ?_
        rintro e2 w2 ⟨rfl, hb2⟩
        obtain ⟨z0, z1, z2, z3, z4, z5, z6, z7⟩ := cells8 ((hb2.block wr.heap.size (by simp)).trans (heap_alloc_new wr (.cells #[.string e.nd.id, .int .i64 e.nd.fam, .string e.nd.ip, .int .i64 e.nd.port, .int .i64 e.kd, .int .i64 e.an, .int .i64 e.ak, .int .i64 e.fl] 60)))
        have HB2 := Lib.hid (HBK.out.trans ((below_new (Below.refl _ wr) _).trans (hb2.mono (by simp)) |>.mono HBK.out.size))
        clear hb2
        go_wp2
        go_roundw
        case rel => exact ⟨k + 1, (e.kd == 3), by omega, by go_num, rfl, (fun h => ⟨e, HEM.out, by simpa using h⟩), HB2.out⟩
        case measure => simp [intOf]; omega
    · obtain rfl : k = n1 := by omega
      obtain ⟨x0, x1, x2, x3⟩ := cells4 ((HBK.out.block _ (Array.getElem?_eq_some_iff.1 HXB.out).1).trans HXB.out)
      have HBK1 := Lib.hid HBK.out
      obtain ⟨w1, hw1⟩ : ∃ w1, w1 = wr := ⟨_, rfl⟩
      rw [← hw1] at x0 x1 x2 x3 HBK1 ⊢
      clear HBK hw1
      go_wp2_with fail
      clear x0 x1 x2 x3
      go_loopw [6, 45] (fun bv i wr => ∃ (k : Nat) (b2 : Bool), k ≤ n2 ∧ i = .int .i64 k ∧ bv = .bool b2 ∧ Hid (b2 = true → ∃ s ∈ x.spare, s.kd ≠ 3 ∧ 0 ≤ s.an) ∧ Hid (Below w0.heap.size w0 wr)) (fun _ i _ => n2 - (intOf i).toNat)
      case atStart => exact ⟨0, false, by omega, rfl, rfl, (fun h => by cases h), HBK1.out⟩
      case round =>
        obtain ⟨k, b2, hk, rfl, rfl, HBE, HBK⟩ := hrel
        by_cases hlt : k < n2
        · obtain ⟨e, he⟩ : ∃ e, x.spare[k]? = some e := ⟨x.spare[k]'(by rw [HN2.out]; exact hlt), List.getElem?_eq_getElem (by rw [HN2.out]; exact hlt)⟩
          have hO := HO2.out.ext HBK.out
          obtain ⟨g, cap', hv, _, _, _, _⟩ := hO.row (by omega)
          injection hv with ha _ hcap
          subst ha hcap
          obtain ⟨c0, c1, c2, c3, c4, c5, c6, c7⟩ := OwnE.at hO he
          have lt3 := World.block_lt_of_cell? wr _ c0
          simp only at lt3
          have hem := List.mem_of_getElem? he
          obtain ⟨hid, hfam, hhold⟩ := HOK.out.all e (.inr hem)
          have hin : decide ((x.bits : Int) ≤ (commonF e.nd.id x.pre : Int)) = true := by unfold holdsB at hhold; rw [decide_eq_true_iff] at hhold ⊢; omega
          have hfb : (e.nd.fam != famN f) = false := by rw [hfam]; simp
          obtain ⟨x0, x1, x2, x3⟩ := cells4 ((HBK.out.block _ (Array.getElem?_eq_some_iff.1 HXB.out).1).trans HXB.out)
          have hlx := Nat.lt_of_lt_of_le (Array.getElem?_eq_some_iff.1 HXB.out).1 HBK.out.size
          have hwn := fun W => rwithin_calls W e.nd.id x.pre x.bits hid HOK.out.pz
          rw [hin] at hwn
          have HWN := Lib.hid hwn
          have HEM := Lib.hid hem
          clear hO he hem hid hhold hin hwn hfam
          cases b2 with
          | true =>
            go_wp2_with fail
            refine (HWN.out _).mono ?_
            rintro e2 w2 ⟨rfl, hb2⟩
            obtain ⟨z0, z1, z2, z3, z4, z5, z6, z7⟩ := cells8 ((hb2.block wr.heap.size (by simp)).trans (heap_alloc_new wr (.cells #[.string e.nd.id, .int .i64 e.nd.fam, .string e.nd.ip, .int .i64 e.nd.port, .int .i64 e.kd, .int .i64 e.an, .int .i64 e.ak, .int .i64 e.fl] 60)))
            have HB2 := Lib.hid (HBK.out.trans ((below_new (Below.refl _ wr) _).trans (hb2.mono (by simp)) |>.mono HBK.out.size))
            clear hb2
            go_wp2
            go_roundw
            case rel => exact ⟨k + 1, true, by omega, by go_num, rfl, (fun _ => HBE.out trivial), HB2.out⟩
            case measure => simp [intOf]; omega
          | false =>
            by_cases hk3 : e.kd = 3
            · have hk3' : (e.kd != 3) = false := by simp [hk3]
              have HK3 := Lib.hid hk3
              clear hk3
              go_wp2_with fail
              refine (HWN.out _).mono ?_
              rintro e2 w2 ⟨rfl, hb2⟩
              obtain ⟨z0, z1, z2, z3, z4, z5, z6, z7⟩ := cells8 ((hb2.block wr.heap.size (by simp)).trans (heap_alloc_new wr (.cells #[.string e.nd.id, .int .i64 e.nd.fam, .string e.nd.ip, .int .i64 e.nd.port, .int .i64 e.kd, .int .i64 e.an, .int .i64 e.ak, .int .i64 e.fl] 60)))
              have HB2 := Lib.hid (HBK.out.trans ((below_new (Below.refl _ wr) _).trans (hb2.mono (by simp)) |>.mono HBK.out.size))
              clear hb2
              go_wp2
              go_roundw
              case rel => exact ⟨k + 1, false, by omega, by go_num, rfl, (fun h => by cases h), HB2.out⟩
              case measure => simp [intOf]; omega
            · have hk3' : (e.kd != 3) = true := by simpa using hk3
              have HK3 := Lib.hid hk3
              clear hk3
              go_wp2_with fail
              refine (HWN.out _).mono ?_
              rintro e2 w2 ⟨rfl, hb2⟩
              obtain ⟨z0, z1, z2, z3, z4, z5, z6, z7⟩ := cells8 ((hb2.block wr.heap.size (by simp)).trans (heap_alloc_new wr (.cells #[.string e.nd.id, .int .i64 e.nd.fam, .string e.nd.ip, .int .i64 e.nd.port, .int .i64 e.kd, .int .i64 e.an, .int .i64 e.ak, .int .i64 e.fl] 60)))
              have HB2 := Lib.hid (HBK.out.trans ((below_new (Below.refl _ wr) _).trans (hb2.mono (by simp)) |>.mono HBK.out.size))
              clear hb2
              go_wp2
              go_roundw
              case rel => exact ⟨k + 1, decide (0 ≤ e.an), by omega, by go_num, rfl, (fun h => ⟨e, HEM.out, HK3.out, by simpa using h⟩), HB2.out⟩
              case measure => simp [intOf]; omega
        · obtain rfl : k = n2 := by omega
          have hno : b1 = true → b2 = true → False := fun h1 h2 => by
            obtain ⟨e, he, hk⟩ := HBD.out h1
            obtain ⟨s, hs, hk2, han⟩ := HBE.out h2
            have := HOK.out.bad e he hk s hs hk2
            omega
          have HNO := Lib.hid hno
          clear hno
          cases b1 with
          | false =>
            go_wp2
            go_ret
            exact ⟨rfl, HB1.out.trans (HBK.out.mono (by have := HB1.out.size; omega))⟩
          | true =>
            cases b2 with
            | true => exact (HNO.out rfl rfl).elim
            | false =>
              go_wp2
              go_ret
              exact ⟨rfl, HB1.out.trans (HBK.out.mono (by have := HB1.out.size; omega))⟩
end Go.Proofs.Tc
