import Derived.Test.YtjjnbanlofhhnaaGreatD7
namespace Go.Proofs.Tc
open Go.RowKit Go.Sort
attribute [local go_sem] stepO_0 stepO_1 stepO_2 stepO_3 stepV_0 stepV_1 stepV_2 stepV_3 stepV_5
theorem Ep : ElemT Tryz.prog 88 74 1 8 (.pointer none) := ⟨Tryz.underlying88, by kernel_rfl, rfl⟩
/-- copy within or into a slice that owns its block. -/
theorem own_copy {P : Program} {w : World} {t e : TypeId} {bytes : Nat} {z : Value} (T : ElemT P t e 1 bytes z) {g n cap : Nat} {xs : List Value} (hown : Own w e 1 (.slice (some ⟨g, 0, none⟩) n (cap + 1)) n xs)
    (o dLen : Nat) (a : Addr) (sLen : Nat) (cs : List Value) (hn : cs.length = Nat.min sLen dLen) (hsrc : ∀ j u, cs[j]? = some u → w.cell? (a.add j) = some u) (h1 : ∀ u ∈ cs, u.oneCell' = true) (hfit : o + cs.length ≤ n) :
    ∃ w', (∀ ty c d, (Builtin.copy_ #[t, t] ty #[.slice (some ⟨g, o, none⟩) dLen c, .slice (some a) sLen d]).run P w = .ok (goInt cs.length) w') ∧
      Own w' e 1 (.slice (some ⟨g, 0, none⟩) n (cap + 1)) n (xs.take o ++ cs ++ xs.drop (o + cs.length)) ∧ Keeps [g] w w' ∧ w'.heap.size = w.heap.size := by
  obtain ⟨i, hi, hz, hs, hb⟩ := info_parts T.i
  have hxn := hown.length
  rcases hown with ⟨b, hv, _⟩ | ⟨g', cap', cur, hv, hnc, hcm, hg, hcs, hxl, htake⟩
  · injection hv with _ _ hc; omega
  · injection hv with ha _ hc
    injection ha with ha
    injection ha with hb' _ _
    injection hc with hc
    subst hb' hc
    have hr := fun ty c d => run_copy_row (P := P) w t t ty e g o dLen c a sLen d cur e cs T.u (by rw [hi]; simp [hs]) hg hn hsrc (by omega) h1
    obtain ⟨cur', hcur'⟩ : ∃ cur', (cur.toList.take o ++ cs ++ cur.toList.drop (o + cs.length)).toArray = cur' := ⟨_, rfl⟩
    simp only [hcur'] at hr
    refine ⟨w.setRow g cur', hr, .inr ⟨g, cap, cur', rfl, hnc, hcm, setRow_heap w g cur _ e _ hg, ?_, ?_, ?_⟩, ⟨rfl, rfl, rfl, by simp, fun k _ hk => setRow_other w g k _ (fun he => hk (by simp [he]))⟩, by simp⟩
    · subst hcur'
      simp only [List.size_toArray, List.length_append, List.length_take, List.length_drop, Array.length_toList]
      omega
    · simp only [List.length_append, List.length_take, List.length_drop]
      omega
    · subst hcur'
      show List.take _ (_ ++ _ ++ _) = _
      rw [← htake]
      simp only [Nat.mul_one] at *
      apply List.ext_getElem?
      intro j
      have hcl : cur.toList.length = cap + 1 := by simpa using hcs
      generalize cur.toList = l at *
      by_cases h0 : j < n
      · rw [List.getElem?_take, if_pos h0]
        by_cases h1 : j < o
        · rw [List.append_assoc, List.getElem?_append_left (by simp; omega), List.append_assoc, List.getElem?_append_left (by simp; omega), List.take_take, Nat.min_eq_left (by omega)]
        · by_cases h2 : j < o + cs.length
          · rw [List.append_assoc, List.getElem?_append_right (by simp; omega), List.getElem?_append_left (by simp; omega), List.append_assoc, List.getElem?_append_right (by simp; omega), List.getElem?_append_left (by simp; omega)]
            congr 1
            simp
            omega
          · rw [List.getElem?_append_right (by simp; omega), List.getElem?_append_right (by simp; omega), List.getElem?_drop, List.getElem?_drop, List.getElem?_take, if_pos (by simp; omega)]
            congr 1
            simp
            omega
      · rw [List.getElem?_take, if_neg h0, List.getElem?_eq_none]
        simp
        omega

/-- append(s, make(S, k)...) where there is no room: a new block, k zero values behind. -/
theorem own_grow_make {P : Program} {w : World} {t u e : TypeId} {size bytes : Nat} {z : Value} (T : ElemT P t e size bytes z) (hu : P.underlying u = some (.int .i64)) {g n cap : Nat} {xs : List Value} (hown : Own w e size (.slice (some ⟨g, 0, none⟩) n (cap + 1)) n xs)
    (k : Nat) (hg : cap + 1 < n + k) (h63 : n + k ≤ maxLen) (hbytes : (n + k) * bytes ≤ 140737488355328) :
    ∃ c, (∀ ty, (Builtin.append_ #[t, u] ty #[.slice (some ⟨g, 0, none⟩) n (cap + 1), .int .i64 k]).run P w =
        .ok (.slice (some ⟨w.heap.size, 0, none⟩) (n + k) (c + 1)) (w.drew.alloc (.cells (xs.toArray ++ Builtin.zeroCells z.cells k ++ Builtin.zeroCells z.cells (c + 1 - (n + k))) e))) ∧
      Own (w.drew.alloc (.cells (xs.toArray ++ Builtin.zeroCells z.cells k ++ Builtin.zeroCells z.cells (c + 1 - (n + k))) e)) e size (.slice (some ⟨w.heap.size, 0, none⟩) (n + k) (c + 1)) (n + k) (xs ++ (Builtin.zeroCells z.cells k).toList) := by
  have hmx := h63
  unfold maxLen at hmx
  obtain ⟨i, hi, hz, hs, hb⟩ := info_parts T.i
  have hlo : xs.length = n * i.size := by rw [hs]; exact hown.length
  have holds : ∀ j v, xs[j]? = some v → w.drew.cell? ((⟨g, 0, none⟩ : Addr).add j) = some v := fun j v hv => hown.drew.cells j v hv
  have hge := grownCap_ge w (n + k) (cap + 1) e
  have hcm := grownCap_le_maxLen w (n + k) (cap + 1) e h63
  obtain ⟨c, hc⟩ : ∃ c, grownCap w (n + k) (cap + 1) e = c + 1 := ⟨grownCap w (n + k) (cap + 1) e - 1, by omega⟩
  have hzl : (Builtin.zeroCells z.cells k).toList.length = k * size := by rw [Array.length_toList, size_zeroCells, T.zs]
  refine ⟨c, fun ty => ?_, ?_⟩
  · have hn : ¬ (n + k ≤ cap + 1) := by omega
    have hfit := growslice_fits (bytes := i.bytes) hg (by rw [hb]; exact hbytes)
    have hk0 : ¬ ((k : Int) < 0) := by omega
    have hw : IntKind.i64.wrap (k : Int) = k := IntWalk.i64_in _ (by omega)
    have h63' : ¬ (9223372036854775807 < ((n : Int) + (k : Int))) := by omega
    have h48' : ¬ (281474976710656 < Builtin.nextslicecap (n + k) (cap + 1) * i.bytes) := by omega
    have hkb : ¬ (281474976710656 < (k : Int) * (i.bytes : Int)) := by
      have h1 : k * i.bytes ≤ (n + k) * i.bytes := Nat.mul_le_mul_right _ (by omega)
      rw [hb] at h1 ⊢
      have h2 : ((k * bytes : Nat) : Int) ≤ 140737488355328 := by omega
      rw [Int.natCast_mul] at h2
      omega
    have hfo := run_firstCells_some (P := P) w.drew i.size n ⟨g, 0, none⟩ n (cap + 1) xs hlo holds
    have hai : ∀ w, (asInt (.int .i64 k)).run P w = .ok (k : Int) w := fun _ => rfl
    rw [← hc]
    simp [hai, Builtin.append_, run_underlying T.u, run_underlying hu, sizeOf, typeInfo, zeroValue, hi, hz, hn, hw, hk0, h63', h48', hkb, Question.forced, hfo, newRow, grownCap]
    intro h0
    have he : Builtin.zeroCells z.cells k = #[] := Array.eq_empty_of_size_eq_zero (by rw [size_zeroCells, T.zs, ← hs]; exact h0)
    rw [he, Array.empty_append]
  · rw [hc] at hge hcm
    refine .inr ⟨w.heap.size, c, _, rfl, hge, hcm, heap_alloc_new w.drew _, ?_, ?_, ?_⟩
    · simp only [Array.size_append, List.size_toArray, size_zeroCells, T.zs, hown.length, ← Nat.add_mul]
      congr 1
      omega
    · rw [List.length_append, hown.length, hzl, Nat.add_mul]
    · have hl : (xs ++ (Builtin.zeroCells z.cells k).toList).length = (n + k) * size := by rw [List.length_append, hown.length, hzl, Nat.add_mul]
      simp only [Array.toList_append]
      rw [← hl]
      exact List.take_left
end Go.Proofs.Tc
