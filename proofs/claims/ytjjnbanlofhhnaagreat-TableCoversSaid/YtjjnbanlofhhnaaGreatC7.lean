import Derived.Test.YtjjnbanlofhhnaaGreatC6
namespace Go.Proofs.Tc
open Go.RowKit Go.Sort
attribute [local go_sem] stepO_0 stepO_1 stepO_2 stepO_3 stepV_0 stepV_1 stepV_2 stepV_3 stepV_5
set_option maxRecDepth 100000 in
set_option maxHeartbeats 400000 in
theorem heir_calls (w : World) (tb bb : Nat) (now : Int) (v : Value) (es : List Ent)
  (ht : w.cell? ⟨tb, 1, none⟩ = some (.int .i64 now)) (hb : w.cell? ⟨bb, 3, none⟩ = some v) (ho : OwnE w v es) :
    Calls Tryz.prog 34 #[.pointer (some ⟨tb, 0, none⟩), .pointer (some ⟨bb, 0, none⟩)] w (Ret w (.int .i64 (heirF es))) := by
  have lt1 := World.block_lt_of_cell? w _ ht
  have lt2 := World.block_lt_of_cell? w _ hb
  simp only at lt1 lt2
  obtain ⟨a, cap, rfl, hle, hmx⟩ := ho.shape
  unfold maxLen at hmx
  have HO := Lib.hid ho
  clear ho
  go_enter Tryz.func34, Tryz.ntmps34
  go_wp2
  go_loopw [5, 13] (fun t i wr => ∃ k : Nat, k ≤ es.length ∧ i = .int .i64 k ∧ t = .int .i64 (heirUp es k) ∧ Below w.heap.size w wr) (fun _ i _ => es.length - (intOf i).toNat)
  case atStart => exact ⟨0, by omega, rfl, rfl, Below.refl _ _⟩
  case round =>
    obtain ⟨k, hk, rfl, rfl, hB⟩ := hrel
    by_cases hlt : k < es.length
    · obtain ⟨e, he⟩ : ∃ e, es[k]? = some e := ⟨es[k], List.getElem?_eq_getElem (by omega)⟩
      obtain ⟨g, cap', hv, _, _, _, _⟩ := HO.out.row (by omega)
      injection hv with ha _ hcap
      subst ha hcap
      have hW := HO.out.ext hB
      have hea := OwnE.at hW he
      obtain ⟨c0, c1, c2, c3, c4, c5, c6, c7⟩ := hea
      rw [← hB.cell (by exact lt1)] at ht
      rw [← hB.cell (by exact lt2)] at hb
      have lt3 := World.block_lt_of_cell? wr _ c0
      have lt1 : tb < wr.heap.size := Nat.lt_of_lt_of_le lt1 hB.size
      have lt2 : bb < wr.heap.size := Nat.lt_of_lt_of_le lt2 hB.size
      simp only at lt3
      have HS : Hid (heirUp es (k + 1) = if e.fl < 2 ∧ (heirUp es k < 0 ∨ 0 ≤ e.an ∨ anAt es (heirUp es k) < 0) then (k : Int) else heirUp es k) := by
        show heirUp es (k + 1) = _
        rw [heirUp, he]
      obtain ⟨hq1, hq2⟩ := heirUp_bounds es k
      have HFA : ∀ m : Nat, heirUp es k = m → ∃ x, es[m]? = some x ∧ anAt es (heirUp es k) = x.an := by
        intro m hm
        refine ⟨es[m]'(by omega), List.getElem?_eq_getElem (by omega), ?_⟩
        unfold anAt
        rw [hm, Int.toNat_natCast, List.getElem?_eq_getElem (by omega)]
      have HE := Lib.hid he
      have HW := Lib.hid hW
      generalize hqq : heirUp es k = q at *
      clear hW he
      by_cases hf : e.fl < 2
      · have hf' : (kindF now e.an e.ak e.fl != 3) = true := by have := kindF_lt (now := now) (an := e.an) (ak := e.ak) (show ¬ 2 ≤ e.fl by omega); simp [bne, this]
        by_cases hq : q < 0
        · have HN : Hid (heirUp es (k + 1) = (k : Int)) := by have := HS.out; rw [if_pos ⟨hf, .inl hq⟩] at this; exact this
          clear HFA HS
          go_wp2_with fail
          refine wp_region_ord [(0,0),(1,0),(2,0),(3,1),(4,1),(5,3),(6,0),(7,0),(8,0),(9,0),(10,0),(11,0),(12,1),(13,0),(14,0),(15,0),(16,0),(17,0),(18,0),(19,1),(20,0),(21,0),(22,0),(23,1),(24,0),(25,0),(26,0)] (by kernel_rfl) (by kernel_rfl) ?_
          simp only [pickO, List.map_cons, List.map_nil, List.getD_cons_zero, List.getD_cons_succ]
          repeat (first | ((with_reducible refine wpO_skip ?_ ?_); rfl; simp only [Act.put, List.setIfInBounds_toArray, List.set_cons_zero, List.set_cons_succ]) | ((with_reducible refine wpO_step (fun K hK => ?_)); go_simp; (try go_bits); (first | (with_reducible refine hK _ _ ?_) | (simp only [IntWalk.iteOmega]; go_simp; (try go_bits); (with_reducible refine hK _ _ ?_))); clear hK K))
          (with_reducible refine wpO_step (fun K hK => ?_)); go_simp; (try go_bits)
          refine (kind_calls _ _ _ _ _ _ _ _ _ _).mono ?_; rintro e2 w2 ⟨rfl, hb2⟩
          (with_reducible refine hK _ _ ?_); clear hK K
          repeat (first | ((with_reducible refine wpO_skip ?_ ?_); rfl; simp only [Act.put, List.setIfInBounds_toArray, List.set_cons_zero, List.set_cons_succ]) | ((with_reducible refine wpO_step (fun K hK => ?_)); go_simp; (try go_bits); (first | (with_reducible refine hK _ _ ?_) | (simp only [IntWalk.iteOmega]; go_simp; (try go_bits); (with_reducible refine hK _ _ ?_))); clear hK K))
          (with_reducible refine wpO_nil ?_)
          go_wp2
          go_roundw
          case rel => exact ⟨k + 1, by omega, by go_num, by rw [HN.out], below_ext (below_new hB _).drew hb2⟩
          case measure => simp [intOf]; omega
        · obtain ⟨m, rfl⟩ : ∃ m : Nat, q = m := ⟨q.toNat, by omega⟩
          obtain ⟨x, hx, hfx⟩ := HFA m rfl
          obtain ⟨d0, d1, d2, d3, d4, d5, d6, d7⟩ := OwnE.at HW.out hx
          have HX := Lib.hid hx
          have hml : m < es.length := by omega
          clear hx HFA
          go_wp2_with fail
          refine wp_region_ord [(0,0),(1,0),(2,0),(3,1),(4,1),(5,3),(6,0),(7,0),(8,0),(9,0),(10,0),(11,0),(12,1),(13,0),(14,0),(15,0),(16,0),(17,0),(18,0),(19,1),(20,0),(21,0),(22,0),(23,1),(24,0),(25,0),(26,0)] (by kernel_rfl) (by kernel_rfl) ?_
          simp only [pickO, List.map_cons, List.map_nil, List.getD_cons_zero, List.getD_cons_succ]
          repeat (first | ((with_reducible refine wpO_skip ?_ ?_); rfl; simp only [Act.put, List.setIfInBounds_toArray, List.set_cons_zero, List.set_cons_succ]) | ((with_reducible refine wpO_step (fun K hK => ?_)); go_simp; (try go_bits); (first | (with_reducible refine hK _ _ ?_) | (simp only [IntWalk.iteOmega]; go_simp; (try go_bits); (with_reducible refine hK _ _ ?_))); clear hK K))
          (with_reducible refine wpO_step (fun K hK => ?_)); go_simp; (try go_bits)
          refine (kind_calls _ _ _ _ _ _ _ _ _ _).mono ?_; rintro e2 w2 ⟨rfl, hb2⟩
          (with_reducible refine hK _ _ ?_); clear hK K
          rw [show (wr.alloc (.cells #[.string e.nd.id, .int .i64 e.nd.fam, .string e.nd.ip, .int .i64 e.nd.port, .int .i64 e.kd, .int .i64 e.an, .int .i64 e.ak, .int .i64 e.fl] 60)).drew.heap.size = wr.heap.size + 1 by simp] at hb2
          have hb3 := hb2.cell (p := ⟨wr.heap.size, 5, none⟩) (by simp)
          rw [show (wr.alloc (.cells #[.string e.nd.id, .int .i64 e.nd.fam, .string e.nd.ip, .int .i64 e.nd.port, .int .i64 e.kd, .int .i64 e.an, .int .i64 e.ak, .int .i64 e.fl] 60)).drew.cell? ⟨wr.heap.size, 5, none⟩ = some (.int .i64 e.an) by
            have := heap_alloc_new wr (.cells #[.string e.nd.id, .int .i64 e.nd.fam, .string e.nd.ip, .int .i64 e.nd.port, .int .i64 e.kd, .int .i64 e.an, .int .i64 e.ak, .int .i64 e.fl] 60)
            simp only [World.cell?, World.drew]; rw [this]; rfl] at hb3
          have hB2 : Below wr.heap.size wr w2 := (below_new (Below.refl _ wr) _).drew.trans (hb2.mono (by simp))
          have hbb2 := (hB2.cell (p := ⟨bb, 3, none⟩) (by exact lt2)).trans hb
          have d5' := (hB2.cell (p := ⟨g, m * 8 + 5, none⟩) (by exact lt3)).trans d5
          clear hb d7 d0 d1 d2 d3 d4 d5 d6
          by_cases han : 0 ≤ e.an
          · have HN : Hid (heirUp es (k + 1) = (k : Int)) := by have := HS.out; rw [if_pos ⟨hf, .inr (.inl han)⟩] at this; exact this
            clear HS hfx
            repeat (first | ((with_reducible refine wpO_skip ?_ ?_); rfl; simp only [Act.put, List.setIfInBounds_toArray, List.set_cons_zero, List.set_cons_succ]) | ((with_reducible refine wpO_step (fun K hK => ?_)); go_simp; (try go_bits); (first | (with_reducible refine hK _ _ ?_) | (simp only [IntWalk.iteOmega]; go_simp; (try go_bits); (with_reducible refine hK _ _ ?_))); clear hK K))
            (with_reducible refine wpO_nil ?_)
            go_wp2
            go_roundw
            case rel => exact ⟨k + 1, by omega, by go_num, by rw [HN.out], below_ext hB hB2⟩
            case measure => simp [intOf]; omega
          · by_cases hgt : x.an < 0
            · have HN : Hid (heirUp es (k + 1) = (k : Int)) := by have := HS.out; rw [if_pos ⟨hf, .inr (.inr (by rw [hfx]; exact hgt))⟩] at this; exact this
              clear HS hfx
              repeat (first | ((with_reducible refine wpO_skip ?_ ?_); rfl; simp only [Act.put, List.setIfInBounds_toArray, List.set_cons_zero, List.set_cons_succ]) | ((with_reducible refine wpO_step (fun K hK => ?_)); go_simp; (try go_bits); (first | (with_reducible refine hK _ _ ?_) | (simp only [IntWalk.iteOmega]; go_simp; (try go_bits); (with_reducible refine hK _ _ ?_))); clear hK K))
              (with_reducible refine wpO_nil ?_)
              go_wp2
              go_roundw
              case rel => exact ⟨k + 1, by omega, by go_num, by rw [HN.out], below_ext hB hB2⟩
              case measure => simp [intOf]; omega
            · have HN : Hid (heirUp es (k + 1) = (m : Int)) := by have := HS.out; rw [if_neg (by rintro ⟨_, h | h | h⟩ <;> first | omega | (rw [hfx] at h; exact hgt h))] at this; exact this
              clear HS hfx
              repeat (first | ((with_reducible refine wpO_skip ?_ ?_); rfl; simp only [Act.put, List.setIfInBounds_toArray, List.set_cons_zero, List.set_cons_succ]) | ((with_reducible refine wpO_step (fun K hK => ?_)); go_simp; (try go_bits); (first | (with_reducible refine hK _ _ ?_) | (simp only [IntWalk.iteOmega]; go_simp; (try go_bits); (with_reducible refine hK _ _ ?_))); clear hK K))
              (with_reducible refine wpO_nil ?_)
              go_wp2
              go_roundw
              case rel => exact ⟨k + 1, by omega, by go_num, by rw [HN.out], below_ext hB hB2⟩
              case measure => simp [intOf]; omega
      · have hf' : (kindF now e.an e.ak e.fl != 3) = false := by rw [kindF_ge (by omega)]; rfl
        have HN : Hid (heirUp es (k + 1) = q) := by have := HS.out; rw [if_neg (fun h => hf h.1)] at this; exact this
        clear HFA HS
        go_wp2_with fail
        refine wp_region_ord [(0,0),(1,0),(2,0),(3,1),(4,1),(5,3),(6,0),(7,0),(8,0),(9,0),(10,0),(11,0),(12,1),(13,0),(14,0),(15,0),(16,0),(17,0),(18,0),(19,1),(20,0),(21,0),(22,0),(23,1),(24,0),(25,0),(26,0)] (by kernel_rfl) (by kernel_rfl) ?_
        simp only [pickO, List.map_cons, List.map_nil, List.getD_cons_zero, List.getD_cons_succ]
        repeat (first | ((with_reducible refine wpO_skip ?_ ?_); rfl; simp only [Act.put, List.setIfInBounds_toArray, List.set_cons_zero, List.set_cons_succ]) | ((with_reducible refine wpO_step (fun K hK => ?_)); go_simp; (try go_bits); (first | (with_reducible refine hK _ _ ?_) | (simp only [IntWalk.iteOmega]; go_simp; (try go_bits); (with_reducible refine hK _ _ ?_))); clear hK K))
        (with_reducible refine wpO_step (fun K hK => ?_)); go_simp; (try go_bits)
        refine (kind_calls _ _ _ _ _ _ _ _ _ _).mono ?_; rintro e2 w2 ⟨rfl, hb2⟩
        (with_reducible refine hK _ _ ?_); clear hK K
        repeat (first | ((with_reducible refine wpO_skip ?_ ?_); rfl; simp only [Act.put, List.setIfInBounds_toArray, List.set_cons_zero, List.set_cons_succ]) | ((with_reducible refine wpO_step (fun K hK => ?_)); go_simp; (try go_bits); (first | (with_reducible refine hK _ _ ?_) | (simp only [IntWalk.iteOmega]; go_simp; (try go_bits); (with_reducible refine hK _ _ ?_))); clear hK K))
        (with_reducible refine wpO_nil ?_)
        go_wp2
        go_roundw
        case rel => exact ⟨k + 1, by omega, by go_num, by rw [HN.out], below_ext (below_new hB _).drew hb2⟩
        case measure => simp [intOf]; omega
    · obtain rfl : k = es.length := by omega
      go_wp2
      go_ret
      exact Ret.int rfl rfl hB
end Go.Proofs.Tc
