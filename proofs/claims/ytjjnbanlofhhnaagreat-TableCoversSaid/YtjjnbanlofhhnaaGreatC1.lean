import Derived.Test.YtjjnbanlofhhnaaGreatA1
import Derived.Test.YtjjnbanlofhhnaaGreatOwn
import Derived.Test.YtjjnbanlofhhnaaGreatOrd2
import Derived.Lib.SliceRun
namespace Go.Proofs.Tc
open Go.RowKit Go.Sort
attribute [local go_sem] stepO_0 stepO_1 stepO_2 stepO_3

/-- The cells of a list of entries. -/
def evs (es : List Ent) : List Value := es.flatMap Ent.vals
theorem evs_nil : evs [] = [] := rfl
theorem evs_cons (e : Ent) (es : List Ent) : evs (e :: es) = e.vals ++ evs es := by simp [evs]
theorem evs_append (a b : List Ent) : evs (a ++ b) = evs a ++ evs b := by simp [evs]
theorem evs_length (es : List Ent) : (evs es).length = es.length * 8 := by
  induction es with
  | nil => rfl
  | cons e es ih => rw [evs_cons, List.length_append, ih]; simp [Ent.vals]; omega
theorem evs_get {es : List Ent} {k : Nat} {e : Ent} (h : es[k]? = some e) {j : Nat} (hj : j < 8) : (evs es)[k * 8 + j]? = e.vals[j]? := by
  induction es generalizing k with
  | nil => simp at h
  | cons x es ih =>
    rw [evs_cons]
    cases k with
    | zero =>
      simp at h
      subst h
      rw [List.getElem?_append_left (by simp [Ent.vals]; omega)]
      congr 1
      omega
    | succ k =>
      rw [List.getElem?_append_right (by simp [Ent.vals]; omega)]
      simp at h
      rw [← ih h]
      congr 1
      simp [Ent.vals]; omega
theorem evs_one : ∀ es, ∀ u ∈ evs es, u.oneCell' = true := by
  intro es u hu
  simp only [evs, List.mem_flatMap] at hu
  obtain ⟨e, _, hu⟩ := hu
  simp only [Ent.vals, List.mem_cons, List.not_mem_nil, or_false] at hu
  rcases hu with rfl | rfl | rfl | rfl | rfl | rfl | rfl | rfl <;> rfl
theorem evs_take (es : List Ent) (i : Nat) : (evs es).take (i * 8) = evs (es.take i) := by
  induction es generalizing i with
  | nil => simp [evs]
  | cons e es ih =>
    cases i with
    | zero => simp [evs]
    | succ i =>
      rw [evs_cons, List.take_succ_cons, evs_cons, ← ih, List.take_append]
      have : e.vals.length = 8 := rfl
      rw [this, List.take_of_length_le (by omega)]
      congr 2
      omega
theorem evs_drop (es : List Ent) (i : Nat) : (evs es).drop (i * 8) = evs (es.drop i) := by
  induction es generalizing i with
  | nil => simp [evs]
  | cons e es ih =>
    cases i with
    | zero => simp [evs]
    | succ i =>
      rw [evs_cons, List.drop_succ_cons, ← ih, List.drop_append]
      have : e.vals.length = 8 := rfl
      rw [this, List.drop_of_length_le (by omega), List.nil_append]
      congr 1
      omega

theorem Ee : ElemT Tryz.prog 44 60 8 80 (.agg #[.string ⟨#[]⟩, .int .i64 0, .string ⟨#[]⟩, .int .i64 0, .int .i64 0, .int .i64 0, .int .i64 0, .int .i64 0]) := ⟨Tryz.underlying44, by kernel_rfl, rfl⟩

/-- A slice of entries that owns its block. -/
abbrev OwnE (w : World) (v : Value) (es : List Ent) : Prop := Own w 60 8 v es.length (evs es)

theorem own_clear {P : Program} {w : World} {t e : TypeId} {size bytes : Nat} {z : Value} (T : ElemT P t e size bytes z) (hz1 : ∀ u ∈ z.cells.toList, u.oneCell' = true) {g n cap : Nat} {xs : List Value}
    (h : Own w e size (.slice (some ⟨g, 0, none⟩) n (cap + 1)) n xs) (m : Nat) (hm : n + m ≤ cap + 1) :
    ∃ w', (∀ ty c, (Builtin.clear_ #[t] ty #[.slice (some ⟨g, n * size, none⟩) m c]).run P w = .ok (.tuple #[]) w') ∧ Own w' e size (.slice (some ⟨g, 0, none⟩) n (cap + 1)) n xs ∧ Keeps [g] w w' ∧ w'.heap.size = w.heap.size := by
  rcases Nat.eq_zero_or_pos m with rfl | hpos
  · refine ⟨w, fun ty c => ?_, h, Keeps.refl _ _, rfl⟩
    simp [Builtin.clear_, run_underlying T.u]
  · rcases h with ⟨a, hv, _⟩ | ⟨g', cap', cur, hv, h1, h2, h3, h4, h5, h6⟩
    · injection hv with _ _ hc; omega
    · injection hv with ha _ hc
      injection ha with ha
      injection ha with hb _ _
      injection hc with hc
      subst hb hc
      obtain ⟨i, hi, hz, hs, _⟩ := info_parts T.i
      have hzz : (zeroValue e).run P w = .ok z w := by
        simp [zeroValue, typeInfo, hi, hz]
      have hlen : (Builtin.zeroCells z.cells m).toList.length = m * size := by rw [Array.length_toList, size_zeroCells, T.zs]
      have hle : n * size + m * size ≤ (cap + 1) * size := by rw [← Nat.add_mul]; exact Nat.mul_le_mul_right _ hm
      have hst := run_storeCells_at P g (n * size) e (Builtin.zeroCells z.cells m).toList 0 cur w h3 (by rw [hlen, h4]; omega) (by
        intro u hu
        simp only [Builtin.zeroCells, Array.toList_map, List.mem_map, Array.toList_range, List.mem_range] at hu
        obtain ⟨k, hk, rfl⟩ := hu
        have hsz : 0 < z.cells.size := Nat.pos_of_ne_zero fun h0 => by rw [h0] at hk; omega
        have hlt : k % z.cells.size < z.cells.size := Nat.mod_lt _ hsz
        rw [getElem!_pos z.cells _ hlt]
        exact hz1 _ (Array.getElem_mem_toList hlt))
      simp only [Nat.add_zero] at hst
      obtain ⟨cur', hcur'⟩ : ∃ cur', (cur.toList.take (n * size) ++ (Builtin.zeroCells z.cells m).toList ++ cur.toList.drop (n * size + (Builtin.zeroCells z.cells m).toList.length)).toArray = cur' := ⟨_, rfl⟩
      rw [hcur'] at hst
      refine ⟨w.setRow g cur', fun ty c => ?_, .inr ⟨g, cap, cur', rfl, h1, h2, setRow_heap w g cur cur' e _ h3, ?_, h5, ?_⟩, ⟨rfl, rfl, rfl, by simp, fun k _ hk => setRow_other w g k _ (fun he => hk (by simp [he]))⟩, by simp⟩
      · clear hcur'
        obtain ⟨m, rfl⟩ : ∃ m', m = m' + 1 := ⟨m - 1, by omega⟩
        simp [Builtin.clear_, run_underlying T.u, hzz, hst]
      · subst hcur'
        simp only [List.size_toArray, List.length_append, List.length_take, List.length_drop, Array.length_toList, hlen]
        omega
      · subst hcur'
        show List.take _ (_ ++ _ ++ _) = _
        rw [List.append_assoc, List.take_append_of_le_length (by simp; omega), List.take_take, Nat.min_self]
        exact h6

def delF {α : Type} (l : List α) (i : Nat) : List α := l.take i ++ l.drop (i + 1)
theorem Own.le {w : World} {e : TypeId} {size n cap : Nat} {a : Option Addr} {xs : List Value} (h : Own w e size (.slice a n cap) n xs) : n ≤ cap ∧ n ≤ maxLen := by
  obtain ⟨a', cap', hv, h1, h2⟩ := h.shape
  injection hv with _ _ hc
  subst hc
  exact ⟨h1, h2⟩
theorem Own.cut {w : World} {e : TypeId} {size g n cap : Nat} {xs : List Value} (h : Own w e size (.slice (some ⟨g, 0, none⟩) n (cap + 1)) n xs) {i : Nat} (hi : i ≤ n) :
    Own w e size (.slice (some ⟨g, 0, none⟩) i (cap + 1)) i (xs.take (i * size)) := by
  rcases h with ⟨a, hv, _⟩ | ⟨g', cap', cur, hv, h1, h2, h3, h4, h5, h6⟩
  · injection hv with _ _ hc; omega
  · injection hv with ha _ hc
    injection ha with ha
    injection ha with hb _ _
    injection hc with hc
    subst hb hc
    have hmul : i * size ≤ n * size := Nat.mul_le_mul_right _ hi
    refine .inr ⟨g, cap, cur, rfl, by omega, h2, h3, h4, by rw [List.length_take, h5]; omega, ?_⟩
    rw [← h6, List.take_take, Nat.min_eq_left hmul]
theorem Own.cell' {w : World} {e : TypeId} {size g n cap : Nat} {xs : List Value} (h : Own w e size (.slice (some ⟨g, 0, none⟩) n cap) n xs) {i j : Nat} {u : Value} (hu : (xs.drop i)[j]? = some u) : w.cell? ((⟨g, i, none⟩ : Addr).add j) = some u := by
  rw [show (⟨g, i, none⟩ : Addr).add j = ⟨g, i + j, none⟩ by unfold Addr.add; split <;> simp_all]
  rw [List.getElem?_drop] at hu
  exact h.cell rfl hu
theorem Ee1 : ∀ u ∈ (Value.cells (.agg #[.string ⟨#[]⟩, .int .i64 0, .string ⟨#[]⟩, .int .i64 0, .int .i64 0, .int .i64 0, .int .i64 0, .int .i64 0])).toList, u.oneCell' = true := by
  intro u hu
  simp [Value.cells] at hu
  rcases hu with rfl | rfl | rfl | rfl <;> rfl
/-- append where there is room: in place. -/
theorem own_room {P : Program} {w : World} {t e : TypeId} {size bytes : Nat} {z : Value} (ty : TypeId) (T : ElemT P t e size bytes z) {g n cap : Nat} {xs : List Value} (hown : Own w e size (.slice (some ⟨g, 0, none⟩) n (cap + 1)) n xs)
    (a : Addr) (m c : Nat) (news : List Value) (hl : news.length = m * size) (hnews : ∀ j u, news[j]? = some u → w.cell? (a.add j) = some u) (h1 : ∀ u ∈ news, u.oneCell' = true) (hroom : n + m ≤ cap + 1) :
    ∃ w', (Builtin.append_ #[t, t] ty #[.slice (some ⟨g, 0, none⟩) n (cap + 1), .slice (some a) m c]).run P w = .ok (.slice (some ⟨g, 0, none⟩) (n + m) (cap + 1)) w' ∧
      Own w' e size (.slice (some ⟨g, 0, none⟩) (n + m) (cap + 1)) (n + m) (xs ++ news) ∧ Keeps [g] w w' ∧ w'.heap.size = w.heap.size := by
  obtain ⟨i, hi, hz, hs, hb⟩ := info_parts T.i
  have hlen : (xs ++ news).length = (n + m) * size := by rw [List.length_append, hown.length, hl, Nat.add_mul]
  rcases hown with ⟨b, hv, _⟩ | ⟨g', cap', cur, hv, hnc, hcm, hg, hcs, hxl, htake⟩
  · injection hv with _ _ hc; omega
  · injection hv with ha _ hc
    injection ha with ha
    injection ha with hb _ _
    injection hc with hc
    subst hb hc
    have hfit : n * i.size + news.length ≤ cur.size := by rw [hl, hcs, hs, ← Nat.add_mul]; exact Nat.mul_le_mul_right _ hroom
    have hr := run_append_room (P := P) w t ty e i T.u hi g n (cap + 1) cur hg a m c news (by rw [hs]; exact hl) hnews h1 hroom hfit
    obtain ⟨cur', hcur'⟩ : ∃ cur', (cur.toList.take (n * i.size) ++ news ++ cur.toList.drop (n * i.size + news.length)).toArray = cur' := ⟨_, rfl⟩
    rw [hcur'] at hr
    refine ⟨w.setRow g cur', hr, .inr ⟨g, cap, cur', rfl, hroom, hcm, setRow_heap w g cur _ e _ hg, ?_, hlen, ?_⟩, ⟨rfl, rfl, rfl, by simp, fun k _ hk => setRow_other w g k _ (fun he => hk (by simp [he]))⟩, by simp⟩
    · subst hcur'
      simp only [List.size_toArray, List.length_append, List.length_take, List.length_drop, Array.length_toList]
      omega
    · subst hcur'
      show List.take _ (_ ++ _ ++ _) = _
      rw [hs, htake, ← hlen]
      exact List.take_left
theorem wpO_room {P : Program} {w : World} {t e : TypeId} {size bytes : Nat} {z : Value} {o : Oper} {a : Act} {ops : Array Oper} {rest : List (Oper × Nat)} {Q : Exit → Act → World → Prop} (hgd : o.guard = none) {s x : Operand}
    (ho : o.op = .call { callee := .builtin .append, args := #[s, x], argTypes := #[t, t] }) (T : ElemT P t e size bytes z)
    {g n cap : Nat} {xs : List Value} (hs : a.eval s = .slice (some ⟨g, 0, none⟩) n (cap + 1)) (hown : Own w e size (.slice (some ⟨g, 0, none⟩) n (cap + 1)) n xs)
    {ad : Addr} {m c : Nat} (news : List Value) (hx : a.eval x = .slice (some ad) m c) (hl : news.length = m * size) (hnews : ∀ j u, news[j]? = some u → w.cell? (ad.add j) = some u) (h1 : ∀ u ∈ news, u.oneCell' = true)
    (hroom : n + m ≤ cap + 1)
    (h : ∀ w', Own w' e size (.slice (some ⟨g, 0, none⟩) (n + m) (cap + 1)) (n + m) (xs ++ news) → Keeps [g] w w' → w'.heap.size = w.heap.size → wpO P ops Q rest (a.put o.dst (.slice (some ⟨g, 0, none⟩) (n + m) (cap + 1))) w') : wpO P ops Q ((o, 3) :: rest) a w := by
  show stepO P ops o 3 a w _
  rw [stepO_3, if_pos (by simp [Region.wanted, hgd])]
  obtain ⟨w', hr, h2, h3, h4⟩ := own_room o.type T hown ad m c news hl hnews h1 hroom
  unfold Oper.wp execOp
  simp only [ho, resolve, invoke, builtin, Sem.run_bind, Sem.run_pure, Result.andThen_ok, List.map_toArray, List.map_cons, List.map_nil, hs, hx, hr]
  exact h w' h2 h3 h4
set_option maxRecDepth 100000 in
theorem delete_calls (w : World) (g cap : Nat) (es : List Ent) (i : Nat) (hi : i < es.length) (ho : OwnE w (.slice (some ⟨g, 0, none⟩) es.length (cap + 1)) es) (hm : es.length * 80 ≤ 140737488355328) :
    Calls Tryz.prog 35 #[.slice (some ⟨g, 0, none⟩) es.length (cap + 1), .int .i64 i, .int .i64 (i + 1 : Nat)] w fun e w' =>
      e = .returned (.slice (some ⟨g, 0, none⟩) (es.length - 1) (cap + 1)) ∧ OwnE w' (.slice (some ⟨g, 0, none⟩) (es.length - 1) (cap + 1)) (delF es i) ∧ Keeps [g] w w' := by
  obtain ⟨hle, hmx⟩ := ho.le
  have hmx' := hmx
  unfold maxLen at hmx'
  have hdl : (delF es i).length = es.length - 1 := by simp [delF]; omega
  have hcut : Own w 60 8 (.slice (some ⟨g, 0, none⟩) i (cap + 1)) i (evs (es.take i)) := by rw [← evs_take]; exact ho.cut (by omega)
  have hnl : (evs (es.drop (i + 1))).length = (es.length - (i + 1)) * 8 := by rw [evs_length, List.length_drop]
  have hapd : i + (es.length - (i + 1)) = es.length - 1 := by omega
  have HE := Lib.hid ho
  have HC := Lib.hid hcut
  have HL := Lib.hid hdl
  have HN := Lib.hid hnl
  have HA := Lib.hid hapd
  clear hcut hdl hnl ho hapd
  have fin : ∀ w3 : World, Own w3 60 8 (.slice (some ⟨g, 0, none⟩) (es.length - 1) (cap + 1)) (es.length - 1) (evs (es.take i) ++ evs (es.drop (i + 1))) → Keeps [g] w w3 →
     ∃ w4, (∀ ty c, (Builtin.clear_ #[44] ty #[.slice (some ⟨g, (es.length - 1) * 8, none⟩) 1 c]).run Tryz.prog w3 = .ok (.tuple #[]) w4) ∧ (OwnE w4 (.slice (some ⟨g, 0, none⟩) (es.length - 1) (cap + 1)) (delF es i) ∧ Keeps [g] w w4) := by
    intro w3 h3 hk3
    obtain ⟨w4, h4, h5, h6, _⟩ := own_clear (P := Tryz.prog) Ee Ee1 h3 1 (by omega)
    refine ⟨w4, h4, ?_, hk3.trans h6⟩
    rw [← evs_append] at h5
    unfold OwnE
    rw [HL.out]
    exact h5
  have HF := Lib.hid fin
  clear fin
  by_cases hci : cap = i
  · have h0 : es.length - (i + 1) = 0 := by omega
    have hd0 : es.drop (i + 1) = [] := List.drop_of_length_le (by omega)
    have HD := Lib.hid hd0
    clear hd0
    go_enter Tryz.func35, Tryz.ntmps35
    go_wp2
    refine wp_region_ord [(0,0),(1,0),(2,0),(3,0),(4,0),(5,0),(6,3),(7,0)] (by kernel_rfl) (by kernel_rfl) ?_
    simp only [pickO, List.map_cons, List.map_nil, List.getD_cons_zero, List.getD_cons_succ]
    repeat (first | ((with_reducible refine wpO_skip ?_ ?_); rfl; simp only [Act.put, List.setIfInBounds_toArray, List.set_cons_zero, List.set_cons_succ]) | ((with_reducible refine wpO_step (fun K hK => ?_)); go_simp; (try go_bits); (first | (with_reducible refine hK _ _ ?_) | (simp only [IntWalk.iteOmega]; go_simp; (try go_bits); (with_reducible refine hK _ _ ?_))); clear hK K))
    subst hci
    obtain ⟨w4, hcl, hfin⟩ := HF.out w.drew (by rw [show es.length - 1 = cap by omega, HD.out, evs_nil, List.append_nil]; exact HC.out.drew) ((Keeps.refl _ w).drew)
    have HZ := Lib.hid hfin
    rw [show es.length - 1 = cap by omega] at hcl hfin
    have hsz : es.length - cap = 1 := by omega
    clear hfin
    (with_reducible refine wpO_nil ?_)
    go_wp2
    go_ret
    exact ⟨by rw [show es.length - 1 = cap by omega]; rfl, HZ.out⟩
  · go_enter Tryz.func35, Tryz.ntmps35
    go_wp2
    refine wp_region_ord [(0,0),(1,0),(2,0),(3,0),(4,0),(5,0),(6,3),(7,0)] (by kernel_rfl) (by kernel_rfl) ?_
    simp only [pickO, List.map_cons, List.map_nil, List.getD_cons_zero, List.getD_cons_succ]
    repeat (first | ((with_reducible refine wpO_skip ?_ ?_); rfl; simp only [Act.put, List.setIfInBounds_toArray, List.set_cons_zero, List.set_cons_succ]) | ((with_reducible refine wpO_step (fun K hK => ?_)); go_simp; (try go_bits); (first | (with_reducible refine hK _ _ ?_) | (simp only [IntWalk.iteOmega]; go_simp; (try go_bits); (with_reducible refine hK _ _ ?_))); clear hK K))
    refine wpO_room rfl rfl Ee rfl (HC.out.drew) (evs (es.drop (i + 1))) rfl HN.out (fun j u hu => HE.out.drew.cell' (by rw [evs_drop]; exact hu)) (evs_one _) (by rw [HA.out]; omega) ?_
    rw [HA.out]
    intro w3 ho3 hk3 hs3
    obtain ⟨w4, hcl, hfin⟩ := HF.out w3 ho3 ((Keeps.refl _ w).drew.trans hk3)
    have HZ := Lib.hid hfin
    have hsz : es.length - (es.length - 1) = 1 := by omega
    simp only [Act.put, List.setIfInBounds_toArray, List.set_cons_zero, List.set_cons_succ]
    clear hfin
    repeat (first | ((with_reducible refine wpO_skip ?_ ?_); rfl; simp only [Act.put, List.setIfInBounds_toArray, List.set_cons_zero, List.set_cons_succ]) | ((with_reducible refine wpO_step (fun K hK => ?_)); go_simp; (try go_bits); (first | (with_reducible refine hK _ _ ?_) | (simp only [IntWalk.iteOmega]; go_simp; (try go_bits); (with_reducible refine hK _ _ ?_))); clear hK K))
    (with_reducible refine wpO_nil ?_)
    go_wp2
    go_ret
    exact ⟨rfl, HZ.out⟩
end Go.Proofs.Tc
