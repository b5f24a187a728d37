import Derived.Test.YtjjnbanlofhhnaaGreatD10
import Derived.LoopN
namespace Go.Proofs.Tc
open Go.RowKit Go.Sort
attribute [local go_sem] stepO_0 stepO_1 stepO_2 stepO_3 stepV_0 stepV_1 stepV_2 stepV_3 stepV_5

theorem own_append_nil {P : Program} {w : World} {t e : TypeId} {size bytes : Nat} {z : Value} (T : ElemT P t e size bytes z) {v : Value} {n : Nat} {xs : List Value} (hown : Own w e size v n xs) (c : Nat) (ty : TypeId) : (Builtin.append_ #[t, t] ty #[v, .slice none 0 c]).run P w = .ok v w := by
  obtain ⟨i, hi, hz, hs, hb⟩ := info_parts T.i
  rcases hown with ⟨a, rfl, rfl, rfl⟩ | ⟨g, cap, cur, rfl, h1, h2, h3, h4, h5, h6⟩
  · cases a <;> simp [Builtin.append_, run_underlying T.u, sizeOf, typeInfo, hi, Builtin.lenOf, Builtin.firstCells, storeCells]
  · simp [Builtin.append_, run_underlying T.u, sizeOf, typeInfo, hi, Builtin.lenOf, Builtin.firstCells, h1, storeCells]
/-- append of one slice that owns its block to another. -/
theorem own_append_own {P : Program} {w : World} {t e : TypeId} {size bytes : Nat} {z : Value} (T : ElemT P t e size bytes z) {v : Value} {n : Nat} {xs : List Value} (hown : Own w e size v n xs) {u : Value} {m : Nat} {ys : List Value} (hsrc : Own w e size u m ys)
    (h1 : ∀ y ∈ ys, y.oneCell' = true) (h63 : n + m ≤ maxLen) (hbytes : (n + m) * bytes ≤ 140737488355328) (ty : TypeId) :
    ∃ v' w', (Builtin.append_ #[t, t] ty #[v, u]).run P w = .ok v' w' ∧ Own w' e size v' (n + m) (xs ++ ys) ∧ Keeps (fpv v) w w' ∧ (∀ g ∈ fpv v', g ∈ fpv v ∨ g = w.heap.size) ∧ w'.heap.size ≤ w.heap.size + 1 := by
  obtain ⟨a, cap, hu, hle, _⟩ := hsrc.shape
  subst hu
  cases a with
  | some ad => exact own_append' ty T hown ad m cap ys hsrc.length hsrc.cells h1 h63 hbytes
  | none =>
    rcases hsrc with ⟨a', hv, rfl, rfl⟩ | ⟨g, cap', cur, hv, _⟩
    · refine ⟨v, w, own_append_nil T hown _ ty, by simpa using hown, Keeps.refl _ _, fun g hg => .inl hg, by omega⟩
    · injection hv with hv _ _; cases hv
theorem wpList_append_own2 {P : Program} {w : World} {t e : TypeId} {size bytes : Nat} {z : Value} {o : Oper} {a : Act} {ops : Array Oper} {rest : List Oper} {Q : Exit → Act → World → Prop} (hgd : o.guard = none) {s x : Operand}
    (ho : o.op = .call { callee := .builtin .append, args := #[s, x], argTypes := #[t, t] }) (T : ElemT P t e size bytes z)
    {v : Value} {n : Nat} {xs : List Value} (hs : a.eval s = v) (hown : Own w e size v n xs) {u : Value} {m : Nat} {ys : List Value} (hx : a.eval x = u) (hsrc : Own w e size u m ys)
    (h1 : ∀ y ∈ ys, y.oneCell' = true) (h63 : n + m ≤ maxLen) (hbytes : (n + m) * bytes ≤ 140737488355328)
    (h : ∀ v' w', Own w' e size v' (n + m) (xs ++ ys) → Keeps (fpv v) w w' → (∀ g ∈ fpv v', g ∈ fpv v ∨ g = w.heap.size) → w'.heap.size ≤ w.heap.size + 1 → wpList P ops Q rest (a.put o.dst v') w') : wpList P ops Q (o :: rest) a w :=
  wpList_plain hgd fun K hK => by
    obtain ⟨v', w', hr, h2, h3, h4, h5⟩ := own_append_own T hown hsrc h1 h63 hbytes o.type
    unfold Oper.wp execOp
    simp only [ho, resolve, invoke, builtin, Sem.run_bind, Sem.run_pure, Result.andThen_ok, List.map_toArray, List.map_cons, List.map_nil, hs, hx, hr]
    exact hK _ _ (h v' w' h2 h3 h4 h5)
/-- append(nil, make(S, k)...). -/
theorem own_nil_make {P : Program} {w : World} {t u e : TypeId} {size bytes : Nat} {z : Value} (T : ElemT P t e size bytes z) (hu : P.underlying u = some (.int .i64))
    (k : Nat) (hg : 0 < k) (h63 : k ≤ maxLen) (hbytes : k * bytes ≤ 140737488355328) :
    ∃ c w', (∀ ty, (Builtin.append_ #[t, u] ty #[.slice none 0 0, .int .i64 k]).run P w = .ok (.slice (some ⟨w.heap.size, 0, none⟩) k (c + 1)) w') ∧
      Own w' e size (.slice (some ⟨w.heap.size, 0, none⟩) k (c + 1)) k (Builtin.zeroCells z.cells k).toList ∧ Below w.heap.size w w' ∧ w'.heap.size = w.heap.size + 1 := by
  have hmx := h63
  unfold maxLen at hmx
  obtain ⟨i, hi, hz, hs, hb⟩ := info_parts T.i
  have hge := grownCap_ge w k 0 e
  have hcm := grownCap_le_maxLen w k 0 e h63
  obtain ⟨c, hc⟩ : ∃ c, grownCap w k 0 e = c + 1 := ⟨grownCap w k 0 e - 1, by omega⟩
  have hzl : (Builtin.zeroCells z.cells k).toList.length = k * size := by rw [Array.length_toList, size_zeroCells, T.zs]
  refine ⟨c, w.drew.alloc (.cells (Builtin.zeroCells z.cells k ++ Builtin.zeroCells z.cells (c + 1 - k)) e), fun ty => ?_, ?_, (Below.refl _ w).drew.alloc (Nat.le_refl _) _, by simp⟩
  · have hn : ¬ (k ≤ 0) := by omega
    have hk00 : ¬ (k = 0) := by omega
    have hfit := growslice_fits (bytes := i.bytes) hg (by rw [hb]; exact hbytes)
    have hk0 : ¬ ((k : Int) < 0) := by omega
    have hw : IntKind.i64.wrap (k : Int) = k := IntWalk.i64_in _ (by omega)
    have h63' : ¬ (9223372036854775807 < (k : Int)) := by omega
    have h48' : ¬ (281474976710656 < Builtin.nextslicecap k 0 * i.bytes) := by omega
    have hkb : ¬ (281474976710656 < (k : Int) * (i.bytes : Int)) := by
      rw [hb]
      have h2 : ((k * bytes : Nat) : Int) ≤ 140737488355328 := by omega
      rw [Int.natCast_mul] at h2
      omega
    have hai : ∀ w, (asInt (.int .i64 k)).run P w = .ok (k : Int) w := fun _ => rfl
    rw [← hc]
    simp [hai, Builtin.append_, run_underlying T.u, run_underlying hu, sizeOf, typeInfo, zeroValue, hi, hz, hn, hk00, hw, hk0, h63', h48', hkb, Question.forced, newRow, grownCap, Builtin.firstCells]
    intro h0
    have he : Builtin.zeroCells z.cells k = #[] := Array.eq_empty_of_size_eq_zero (by rw [size_zeroCells, T.zs, ← hs]; simp [h0])
    rw [he, Array.empty_append]
  · rw [hc] at hge hcm
    refine .inr ⟨w.heap.size, c, _, rfl, hge, hcm, heap_alloc_new w.drew _, ?_, hzl, ?_⟩
    · simp only [Array.size_append, size_zeroCells, T.zs, ← Nat.add_mul]
      congr 1
      omega
    · simp only [Array.toList_append]
      rw [← hzl]
      exact List.take_left

/-- What Grow leaves: an empty slice of its own. -/
def GrowRes (w : World) (e : Ending) (w' : World) : Prop := ∃ v, e = .returned v ∧ Own w' 60 8 v 0 [] ∧ (∀ g ∈ fpv v, w.heap.size ≤ g) ∧ Below w.heap.size w w'
set_option maxRecDepth 100000 in
theorem grow_calls (w : World) (n : Nat) (hn : n ≤ 1000) : Calls Tryz.prog 97 #[.slice none 0 0, .int .i64 n] w (GrowRes w) := by
  by_cases h0 : n = 0
  · subst h0
    go_enter Tryz.func97, Tryz.ntmps97
    go_wp2
    go_ret
    exact ⟨_, rfl, Own.nil _ _ _, by simp [fpv], Below.refl _ _⟩
  · obtain ⟨c, w1, hr, hown, hB, hsz⟩ := own_nil_make (P := Tryz.prog) (w := w) (u := 3) Ee Tryz.underlying3 n (by omega) (by unfold maxLen; omega) (by omega)
    have hpos : (0 : Int) < n := by omega
    have HR := Lib.hid hr
    have HO := Lib.hid hown
    have HB := Lib.hid hB
    clear hr hown hB hsz
    go_enter Tryz.func97, Tryz.ntmps97
    go_wp2_with ((at_builtin; refine wpList_append_run rfl rfl rfl rfl HR.out ?_))
    go_ret
    refine ⟨_, rfl, ?_, fun g hg => by simp [fpv] at hg; omega, HB.out⟩
    exact HO.out.cut (i := 0) (by omega)
def ConcatRes (w : World) (es : List Ent) (e : Ending) (w' : World) : Prop := ∃ v, e = .returned v ∧ OwnE w' v es ∧ (∀ g ∈ fpv v, w.heap.size ≤ g) ∧ Below w.heap.size w w'
set_option maxRecDepth 100000 in
set_option maxHeartbeats 1000000 in
theorem concat_calls (w : World) (g : Nat) (v1 v2 : Value) (e1 e2 : List Ent) (tt : TypeId) (hh : w.heap[g]? = some (.cells #[v1, v2] tt (0, 0))) (h1 : OwnE w v1 e1) (h2 : OwnE w v2 e2) (hl1 : e1.length ≤ 8) (hl2 : e2.length ≤ 8) :
    Calls Tryz.prog 58 #[.slice (some ⟨g, 0, none⟩) 2 2] w (ConcatRes w (e1 ++ e2)) := by
  obtain ⟨a1, p1, rfl, _, _⟩ := h1.shape
  obtain ⟨a2, p2, rfl, _, _⟩ := h2.shape
  have c0 : w.cell? ⟨g, 0, none⟩ = some (.slice a1 e1.length p1) := by simp [World.cell?, hh]
  have c1 : w.cell? ⟨g, 1, none⟩ = some (.slice a2 e2.length p2) := by simp [World.cell?, hh]
  have H1 := Lib.hid h1
  have H2 := Lib.hid h2
  have HH := Lib.hid hh
  have hlt : g < w.heap.size := (Array.getElem?_eq_some_iff.1 hh).1
  obtain ⟨n1, hn1⟩ : ∃ n, e1.length = n := ⟨_, rfl⟩
  obtain ⟨n2, hn2⟩ : ∃ n, e2.length = n := ⟨_, rfl⟩
  have HN1 := Lib.hid hn1
  have HN2 := Lib.hid hn2
  rw [hn1] at c0 hl1
  rw [hn2] at c1 hl2
  clear h1 h2 hh hn1 hn2
  go_enter Tryz.func58, Tryz.ntmps58
  go_wp2_with fail
  refine wp_loop_rounds 3 ?_
  rw [rounds_succ]; go_wp2_with fail
  rw [rounds_succ]; go_wp2_with fail
  rw [rounds_succ]; go_wp2_with fail
  have hg := grow_calls w (n1 + n2) (by omega)
  rw [Int.natCast_add] at hg
  refine hg.mono ?_
  clear hg
  rintro e3 w3 ⟨v3, rfl, ho3, hf3, hb3⟩
  have hh3 := (hb3.block g hlt).trans HH.out
  have d0 : w3.cell? ⟨g, 0, none⟩ = some (.slice a1 n1 p1) := by simp [World.cell?, hh3, HN1.out]
  have d1 : w3.cell? ⟨g, 1, none⟩ = some (.slice a2 n2 p2) := by simp [World.cell?, hh3, HN2.out]
  have h13 := H1.out.ext hb3
  have h23 := H2.out.ext hb3
  rw [HN1.out] at h13
  rw [HN2.out] at h23
  have HO3 := Lib.hid ho3
  have HF3 := Lib.hid hf3
  have HB3 := Lib.hid hb3
  have HH3 := Lib.hid hh3
  have H13 := Lib.hid h13
  have H23 := Lib.hid h23
  obtain ⟨a3, p3, rfl, _⟩ := ho3.shape
  clear c0 c1 ho3 hf3 hb3 hh3 h13 h23
  go_wp2_with fail
  refine wp_loop_rounds 3 ?_
  rw [rounds_succ]
  go_wp2_with ((at_builtin; refine wpList_append_own2 rfl rfl Ee rfl HO3.out rfl H13.out (evs_one _) (by unfold maxLen; omega) (by omega) ?_; intro v4 w4 ho4 hk4 hf4 hz4))
  obtain ⟨a4, p4, rfl, _⟩ := ho4.shape
  have hf4' : ∀ y ∈ fpv (.slice a4 (0 + n1) p4), w.heap.size ≤ y := fun y hy => by
    rcases hf4 y hy with h | h
    · exact HF3.out y h
    · have := HB3.out.size; omega
  have hb4 : Below w.heap.size w w4 := HB3.out.trans (hk4.below HB3.out.size HF3.out)
  have hne : g ∉ fpv (.slice a3 0 p3) := fun hm => by have := HF3.out g hm; omega
  have hd4 : w4.cell? ⟨g, 1, none⟩ = some (.slice a2 n2 p2) := (hb4.cell (p := ⟨g, 1, none⟩) (by exact hlt)).trans ((HB3.out.cell (p := ⟨g, 1, none⟩) (by exact hlt)).symm.trans d1)
  have h24 := H23.out.keeps hk4 (fun y hy hm => by
    have h1 := HF3.out y hm
    have h2 := H2.out.fp_lt y (by rw [HN2.out]; exact hy)
    omega)
  rw [Nat.zero_add] at ho4 hf4'
  rw [show (0 + n1 : Nat) = n1 from Nat.zero_add n1]
  have HO4 := Lib.hid ho4
  have HF4 := Lib.hid hf4'
  have HB4 := Lib.hid hb4
  have H24 := Lib.hid h24
  clear ho4 hf4 hf4' hb4 h24 hk4 hz4 d0 d1 hne
  go_wp2_with fail
  rw [rounds_succ]
  go_wp2_with ((at_builtin; refine wpList_append_own2 rfl rfl Ee rfl HO4.out rfl H24.out (evs_one _) (by unfold maxLen; omega) (by omega) ?_; intro v5 w5 ho5 hk5 hf5 hz5))
  obtain ⟨a5, p5, rfl, _⟩ := ho5.shape
  have HO5 := Lib.hid ho5
  have HF5 := Lib.hid hf5
  have HK5 := Lib.hid hk5
  clear ho5 hf5 hk5 hz5 hd4
  go_wp2_with fail
  rw [rounds_succ]
  go_wp2
  go_ret
  refine ⟨_, rfl, ?_, fun y hy => ?_, HB4.out.trans (HK5.out.below HB4.out.size HF4.out)⟩
  · have := HO5.out
    rw [List.nil_append, ← evs_append] at this
    unfold OwnE
    rw [List.length_append, HN1.out, HN2.out]
    exact this
  · rcases HF5.out y hy with h | h
    · exact HF4.out y h
    · have := HB4.out.size; omega
end Go.Proofs.Tc
