/-
  Slices that own their block, from its head on; append; what a call may turn, by a list of blocks.
-/
import Derived.Test.YtjjnbanlofhhnaaGreatMem
namespace Go.Proofs.Tc
open Go.RowKit Go.Sort

/-- Of what was there only the blocks of S may have turned. -/
structure Keeps (S : List Nat) (w w' : World) : Prop where
  os : w'.os = w.os
  tape : w'.tape = w.tape
  output : w'.output = w.output
  size : w.heap.size ≤ w'.heap.size
  block : ∀ k, k < w.heap.size → k ∉ S → w'.heap[k]? = w.heap[k]?

section
variable {S T : List Nat} {w w1 w' : World}
theorem Keeps.refl (S : List Nat) (w : World) : Keeps S w w := ⟨rfl, rfl, rfl, Nat.le_refl _, fun _ _ _ => rfl⟩
theorem Keeps.mono (h : Keeps S w w') (hs : ∀ k, k ∈ S → k < w.heap.size → k ∈ T) : Keeps T w w' :=
  ⟨h.os, h.tape, h.output, h.size, fun k hk hn => h.block k hk fun hk' => hn (hs k hk' hk)⟩
theorem Keeps.trans (h : Keeps S w w1) (h' : Keeps S w1 w') : Keeps S w w' :=
  ⟨h'.os.trans h.os, h'.tape.trans h.tape, h'.output.trans h.output, Nat.le_trans h.size h'.size, fun k hk hn => (h'.block k (Nat.lt_of_lt_of_le hk h.size) hn).trans (h.block k hk hn)⟩
theorem Below.keeps (h : Below w.heap.size w w') : Keeps S w w' := ⟨h.os, h.tape, h.output, h.size, fun k hk _ => h.block k hk⟩
theorem Keeps.below {B : Nat} (h : Keeps S w w') (hB : B ≤ w.heap.size) (hs : ∀ k, k ∈ S → B ≤ k) : Below B w w' :=
  ⟨h.os, h.tape, h.output, h.size, fun k hk => h.block k (Nat.lt_of_lt_of_le hk hB) fun hk' => by have := hs k hk'; omega⟩
theorem Keeps.drew (h : Keeps S w w') : Keeps S w w'.drew := ⟨h.os, h.tape, h.output, h.size, h.block⟩
theorem Keeps.alloc (h : Keeps S w w') (o : Obj) : Keeps S w (w'.alloc o) :=
  h.trans (Below.keeps ((Below.refl _ _).alloc (Nat.le_refl _) o))
theorem Keeps.setCell (h : Keeps S w w') {a : Addr} (v : Value) (ha : a.block ∈ S ∨ w.heap.size ≤ a.block) : Keeps S w (w'.setCell a v) :=
  ⟨h.os, h.tape, h.output, by have := h.size; simpa [World.setCell] using this, fun k hk hn => by
    have hne : k ≠ a.block := fun he => by
      rcases ha with ha | ha
      · exact hn (he ▸ ha)
      · omega
    exact (Below.heap_setCell w' a v k hne).trans (h.block k hk hn)⟩
theorem Keeps.cell (h : Keeps S w w') {a : Addr} (hlt : a.block < w.heap.size) (hn : a.block ∉ S) : w'.cell? a = w.cell? a := World.cell?_of_block (h.block _ hlt hn)
theorem Row.keeps {g : Nat} {e : TypeId} {xs : List Value} {n : Nat} (h : Row w g e xs n) (hk : Keeps S w w') (hn : g ∉ S) : Row w' g e xs n := h.of_block (hk.block g h.lt hn)
end

/-- The block that a slice value stands on, if it has room at all. -/
def fpv : Value → List Nat
  | .slice (some a) _ (_ + 1) => [a.block]
  | _ => []

def Own (w : World) (e : TypeId) (size : Nat) (v : Value) (n : Nat) (xs : List Value) : Prop :=
  (∃ a, v = .slice a 0 0 ∧ n = 0 ∧ xs = []) ∨
  (∃ g cap cur, v = .slice (some ⟨g, 0, none⟩) n (cap + 1) ∧ n ≤ cap + 1 ∧ cap + 1 ≤ maxLen ∧ w.heap[g]? = some (.cells cur e (0, 0)) ∧ cur.size = (cap + 1) * size ∧ xs.length = n * size ∧ cur.toList.take (n * size) = xs)

section
variable {w w' : World} {e : TypeId} {size : Nat} {v : Value} {n : Nat} {xs : List Value}
theorem Own.nil (w : World) (e : TypeId) (size : Nat) : Own w e size (.slice none 0 0) 0 [] := .inl ⟨none, rfl, rfl, rfl⟩
theorem Own.length (h : Own w e size v n xs) : xs.length = n * size := by
  rcases h with ⟨a, _, rfl, rfl⟩ | ⟨g, cap, cur, _, _, _, _, _, h, _⟩
  · simp
  · exact h
theorem Own.shape (h : Own w e size v n xs) : ∃ a cap, v = .slice a n cap ∧ n ≤ cap ∧ n ≤ maxLen := by
  rcases h with ⟨a, rfl, rfl, rfl⟩ | ⟨g, cap, cur, rfl, h1, h2, _⟩
  · exact ⟨a, 0, rfl, Nat.le_refl _, Nat.zero_le _⟩
  · exact ⟨_, _, rfl, h1, Nat.le_trans h1 h2⟩
theorem Own.row (h : Own w e size v n xs) (hn : 0 < n) : ∃ g cap, v = .slice (some ⟨g, 0, none⟩) n (cap + 1) ∧ n ≤ cap + 1 ∧ cap + 1 ≤ maxLen ∧ fpv v = [g] ∧ Row w g e xs ((cap + 1) * size) := by
  rcases h with ⟨a, rfl, rfl, rfl⟩ | ⟨g, cap, cur, rfl, h1, h2, h3, h4, h5, h6⟩
  · omega
  · exact ⟨g, cap, rfl, h1, h2, rfl, cur, 0, 0, h3, .inl (Nat.le_refl _), h4, by rw [h5]; exact h6⟩
theorem Own.fp_lt (h : Own w e size v n xs) : ∀ g ∈ fpv v, g < w.heap.size := by
  rcases h with ⟨a, rfl, rfl, rfl⟩ | ⟨g, cap, cur, rfl, h1, h2, h3, _⟩
  · intro g hg; cases a <;> simp [fpv] at hg
  · intro g' hg
    simp [fpv] at hg
    subst hg
    exact (Array.getElem?_eq_some_iff.1 h3).1
theorem Own.of_blocks (h : Own w e size v n xs) (hb : ∀ g ∈ fpv v, w'.heap[g]? = w.heap[g]?) : Own w' e size v n xs := by
  rcases h with h | ⟨g, cap, cur, rfl, h1, h2, h3, r⟩
  · exact .inl h
  · exact .inr ⟨g, cap, cur, rfl, h1, h2, (hb g (by simp [fpv])).trans h3, r⟩
theorem Own.keeps {S : List Nat} (h : Own w e size v n xs) (hk : Keeps S w w') (hn : ∀ g ∈ fpv v, g ∉ S) : Own w' e size v n xs :=
  h.of_blocks fun g hg => hk.block g (h.fp_lt g hg) (hn g hg)
theorem Own.ext (h : Own w e size v n xs) (hB : Below w.heap.size w w') : Own w' e size v n xs := h.of_blocks fun g hg => hB.block g (h.fp_lt g hg)
theorem Own.below {B : Nat} (h : Own w e size v n xs) (hB : Below B w w') (hf : ∀ g ∈ fpv v, g < B) : Own w' e size v n xs := h.of_blocks fun g hg => hB.block g (hf g hg)
theorem Own.alloc (h : Own w e size v n xs) (o : Obj) : Own (w.alloc o) e size v n xs := h.ext ((Below.refl _ _).alloc (Nat.le_refl _) _)
theorem Own.drew (h : Own w e size v n xs) : Own w.drew e size v n xs := h.of_blocks fun _ _ => rfl
theorem Own.cell (h : Own w e size v n xs) {g l cap : Nat} (hv : v = .slice (some ⟨g, 0, none⟩) l cap) {i : Nat} {u : Value} (hu : xs[i]? = some u) : w.cell? ⟨g, i, none⟩ = some u := by
  have hpos : 0 < n := by
    rcases Nat.eq_zero_or_pos n with h0 | h0
    · have := h.length; rw [h0] at this; simp at this; subst this; simp at hu
    · exact h0
  obtain ⟨g', cap', hv', _, _, _, hr⟩ := h.row hpos
  rw [hv] at hv'
  injection hv' with ha _ _
  injection ha with ha
  injection ha with hb _ _
  subst hb
  exact hr.cell hu
theorem Own.of_ownsRow {B : Nat} (h : w.ownsRow B e size v n xs) : Own w e size v n xs := by
  obtain ⟨h0, ⟨rfl, rfl⟩ | ⟨g, cap, cur, rfl, hb, hg, h1, h2, h3, h4⟩⟩ := h
  · exact .inl ⟨none, rfl, rfl, List.eq_nil_of_length_eq_zero (by simpa using h0)⟩
  · cases cap with
    | zero =>
      obtain rfl : n = 0 := by omega
      exact .inl ⟨_, rfl, rfl, List.eq_nil_of_length_eq_zero (by simpa using h0)⟩
    | succ cap => exact .inr ⟨g, cap, cur, rfl, h1, h2, hg, h3, h0, h4⟩
end

theorem grownBy_keeps {w w' : World} {row : Option Nat} {S : List Nat} (h : w.grownBy w' row) (hs : ∀ k, row = some k → k ∈ S) : Keeps S w w' :=
  ⟨h.os, h.tape, h.output, h.size, fun k hk hn => h.block k hk fun he => hn (hs k he.symm)⟩

/-- **append to a slice that owns its block.** -/
theorem own_append {P : Program} {w : World} (t ty e : TypeId) (i : TypeInfo) (z : Value) (size bytes : Nat) (ht : P.underlying t = some (.slice e)) (hi : P.info? e = some i) (hz : i.zero = some z)
    (hsize : i.size = size) (hby : i.bytes = bytes) (hzs : z.cells.size = size)
    {v : Value} {n : Nat} {xs : List Value} (hown : Own w e size v n xs)
    (a : Addr) (m c : Nat) (news : List Value) (hl : news.length = m * size) (hnews : ∀ j u, news[j]? = some u → w.cell? (a.add j) = some u) (h1 : ∀ u ∈ news, u.oneCell' = true)
    (h63 : n + m ≤ maxLen) (hbytes : (n + m) * bytes ≤ 140737488355328) :
    ∃ v' w', (Builtin.append_ #[t, t] ty #[v, .slice (some a) m c]).run P w = .ok v' w' ∧ Own w' e size v' (n + m) (xs ++ news) ∧ Keeps (fpv v) w w' ∧
      (∀ g ∈ fpv v', g ∈ fpv v ∨ g = w.heap.size) ∧ w'.heap.size ≤ w.heap.size + 1 := by
  have hsmall : n + m ≤ 9223372036854775807 := by simp only [maxLen] at h63; omega
  have hlen : (xs ++ news).length = (n + m) * size := by rw [List.length_append, hown.length, hl, Nat.add_mul]
  have grown : ∀ old, old < n + m →
      Own (w.drew.alloc (.cells (xs.toArray ++ news.toArray ++ Builtin.zeroCells z.cells (grownCap w (n + m) old e - (n + m))) e)) e size (.slice (some ⟨w.heap.size, 0, none⟩) (n + m) (grownCap w (n + m) old e)) (n + m) (xs ++ news) := by
    intro old ho
    have hge := grownCap_ge w (n + m) old e
    have hcm : grownCap w (n + m) old e ≤ maxLen := grownCap_le_maxLen w (n + m) old e h63
    obtain ⟨cap, hcap⟩ : ∃ cap, grownCap w (n + m) old e = cap + 1 := ⟨grownCap w (n + m) old e - 1, by omega⟩
    rw [hcap] at hge hcm ⊢
    refine .inr ⟨w.heap.size, cap, _, rfl, hge, hcm, heap_alloc_new w.drew _, ?_, hlen, ?_⟩
    · simp only [Array.size_append, List.size_toArray, size_zeroCells, hzs, hown.length, hl, ← Nat.add_mul]
      congr 1
      omega
    · simp only [Array.toList_append, List.append_assoc]
      rw [← List.append_assoc, ← hlen]
      exact List.take_left
  have kg : ∀ (o : Obj), Keeps (fpv v) w (w.drew.alloc o) := fun o => ((Keeps.refl _ w).drew).alloc o
  have fpn : ∀ old, ∀ g ∈ fpv (.slice (some ⟨w.heap.size, 0, none⟩) (n + m) (grownCap w (n + m) old e)), g ∈ fpv v ∨ g = w.heap.size := by
    intro old g hg
    cases hc : grownCap w (n + m) old e <;> rw [hc] at hg <;> simp [fpv] at hg
    exact .inr hg
  rcases hown with ⟨b, rfl, rfl, rfl⟩ | ⟨g, cap, cur, rfl, hnc, hcm, hg, hcs, hxl, htake⟩
  · by_cases hm : m = 0
    · subst hm
      have hn : news = [] := List.eq_nil_of_length_eq_zero (by simpa using hl)
      subst hn
      refine ⟨.slice b 0 0, w, ?_, .inl ⟨b, rfl, rfl, rfl⟩, Keeps.refl _ _, fun g hg => .inl hg, by omega⟩
      cases b <;> simp [Builtin.append_, run_underlying ht, sizeOf, typeInfo, hi, Builtin.lenOf, Builtin.firstCells, loadCells, loadCellsFrom, storeCells]
    · have hgr := grown 0 (by omega)
      cases b with
      | none =>
        have hr := run_append_nil (P := P) w t ty e i z ht hi hz a m c news (by rw [hsize]; exact hl) hnews (by omega) (by omega) (by rw [hby]; have hb := hbytes; simp only [Nat.zero_add] at hb; omega)
        have hf := fpn 0
        simp only [Nat.zero_add, List.nil_append, Array.empty_append] at hgr hf ⊢
        exact ⟨_, _, hr, hgr, kg _, hf, by simp⟩
      | some b =>
        have hr := run_append_grow (P := P) w t ty e i z ht hi hz b 0 0 [] (by simp) (by simp) a m c news (by rw [hsize]; exact hl) hnews (by omega) (by omega) (by rw [hby]; exact growslice_fits (by omega) hbytes)
        exact ⟨_, _, hr, hgr, kg _, fpn 0, by simp⟩
  · have hown' : w.ownsRow 0 e size (.slice (some ⟨g, 0, none⟩) n (cap + 1)) n xs := ⟨hxl, .inr ⟨g, cap + 1, cur, rfl, Nat.zero_le _, hg, hnc, hcm, hcs, htake⟩⟩
    by_cases hroom : n + m ≤ cap + 1
    · have hfit : n * i.size + news.length ≤ cur.size := by rw [hl, hcs, hsize, ← Nat.add_mul]; exact Nat.mul_le_mul_right _ hroom
      have hr := run_append_room (P := P) w t ty e i ht hi g n (cap + 1) cur hg a m c news (by rw [hsize]; exact hl) hnews h1 hroom hfit
      refine ⟨_, _, hr, .inr ⟨g, cap, _, rfl, hroom, hcm, setRow_heap w g cur _ e _ hg, ?_, hlen, ?_⟩, ⟨rfl, rfl, rfl, by simp, fun k _ hk => setRow_other w g k _ (fun he => hk (by simp [fpv, he]))⟩, fun g' hg' => .inl (by simpa [fpv] using hg'), by simp⟩
      · simp only [List.size_toArray, List.length_append, List.length_take, List.length_drop, Array.length_toList]
        omega
      · rw [hsize, htake, ← hlen]
        exact List.take_left
    · have holds : ∀ j u, xs[j]? = some u → w.cell? ((⟨g, 0, none⟩ : Addr).add j) = some u := hown'.cells (g := g) rfl
      have hr := run_append_grow (P := P) w t ty e i z ht hi hz ⟨g, 0, none⟩ n (cap + 1) xs (by rw [hsize]; exact hxl) holds a m c news (by rw [hsize]; exact hl) hnews (by omega) (by omega) (by rw [hby]; exact growslice_fits (by omega) hbytes)
      exact ⟨_, _, hr, grown _ (by omega), kg _, fpn _, by simp⟩

/-- What the program's tables say of a slice type and its element. -/
structure ElemT (P : Program) (t e : TypeId) (size bytes : Nat) (z : Value) : Prop where
  u : P.underlying t = some (.slice e)
  i : (P.info? e).map (fun i => (i.zero, i.size, i.bytes)) = some (some z, size, bytes)
  zs : z.cells.size = size

section
variable {P : Program} {w : World} {t e : TypeId} {size bytes : Nat} {z : Value} {o : Oper} {a : Act}
theorem own_append' (ty : TypeId) (T : ElemT P t e size bytes z) {v : Value} {n : Nat} {xs : List Value} (hown : Own w e size v n xs)
    (ad : Addr) (m c : Nat) (news : List Value) (hl : news.length = m * size) (hnews : ∀ j u, news[j]? = some u → w.cell? (ad.add j) = some u) (h1 : ∀ u ∈ news, u.oneCell' = true)
    (h63 : n + m ≤ maxLen) (hbytes : (n + m) * bytes ≤ 140737488355328) :
    ∃ v' w', (Builtin.append_ #[t, t] ty #[v, .slice (some ad) m c]).run P w = .ok v' w' ∧ Own w' e size v' (n + m) (xs ++ news) ∧ Keeps (fpv v) w w' ∧
      (∀ g ∈ fpv v', g ∈ fpv v ∨ g = w.heap.size) ∧ w'.heap.size ≤ w.heap.size + 1 := by
  obtain ⟨i, hi, hz, hs, hb⟩ := info_parts T.i
  exact own_append t ty e i z size bytes T.u hi hz hs hb T.zs hown ad m c news hl hnews h1 h63 hbytes

theorem wp_append' {K : Act → World → Prop} {Q : Exit → Act → World → Prop} {s x : Operand}
    (ho : o.op = .call { callee := .builtin .append, args := #[s, x], argTypes := #[t, t] }) (T : ElemT P t e size bytes z)
    {v : Value} {n : Nat} {xs : List Value} (hs : a.eval s = v) (hown : Own w e size v n xs)
    {ad : Addr} {m c : Nat} (news : List Value) (hx : a.eval x = .slice (some ad) m c) (hl : news.length = m * size) (hnews : ∀ j u, news[j]? = some u → w.cell? (ad.add j) = some u) (h1 : ∀ u ∈ news, u.oneCell' = true)
    (h63 : n + m ≤ maxLen) (hbytes : (n + m) * bytes ≤ 140737488355328)
    (h : ∀ v' w', Own w' e size v' (n + m) (xs ++ news) → Keeps (fpv v) w w' → (∀ g ∈ fpv v', g ∈ fpv v ∨ g = w.heap.size) → w'.heap.size ≤ w.heap.size + 1 → K (a.put o.dst v') w') : o.wp P a w K Q := by
  obtain ⟨v', w', hr, h2, h3, h4, h5⟩ := own_append' o.type T hown ad m c news hl hnews h1 h63 hbytes
  unfold Oper.wp execOp
  simp only [ho, resolve, invoke, builtin, Sem.run_bind, Sem.run_pure, Result.andThen_ok, List.map_toArray, List.map_cons, List.map_nil, hs, hx, hr]
  exact h v' w' h2 h3 h4 h5

theorem wpList_append' {ops : Array Oper} {rest : List Oper} {Q : Exit → Act → World → Prop} (hgd : o.guard = none) {s x : Operand}
    (ho : o.op = .call { callee := .builtin .append, args := #[s, x], argTypes := #[t, t] }) (T : ElemT P t e size bytes z)
    {v : Value} {n : Nat} {xs : List Value} (hs : a.eval s = v) (hown : Own w e size v n xs)
    {ad : Addr} {m c : Nat} (news : List Value) (hx : a.eval x = .slice (some ad) m c) (hl : news.length = m * size) (hnews : ∀ j u, news[j]? = some u → w.cell? (ad.add j) = some u) (h1 : ∀ u ∈ news, u.oneCell' = true)
    (h63 : n + m ≤ maxLen) (hbytes : (n + m) * bytes ≤ 140737488355328)
    (h : ∀ v' w', Own w' e size v' (n + m) (xs ++ news) → Keeps (fpv v) w w' → (∀ g ∈ fpv v', g ∈ fpv v ∨ g = w.heap.size) → w'.heap.size ≤ w.heap.size + 1 → wpList P ops Q rest (a.put o.dst v') w') : wpList P ops Q (o :: rest) a w :=
  wpList_plain hgd fun _ hK => wp_append' ho T hs hown news hx hl hnews h1 h63 hbytes fun v' w' h2 h3 h4 h5 => hK _ _ (h v' w' h2 h3 h4 h5)

theorem wpO_append' {ops : Array Oper} {rest : List (Oper × Nat)} {Q : Exit → Act → World → Prop} (hgd : o.guard = none) {s x : Operand}
    (ho : o.op = .call { callee := .builtin .append, args := #[s, x], argTypes := #[t, t] }) (T : ElemT P t e size bytes z)
    {v : Value} {n : Nat} {xs : List Value} (hs : a.eval s = v) (hown : Own w e size v n xs)
    {ad : Addr} {m c : Nat} (news : List Value) (hx : a.eval x = .slice (some ad) m c) (hl : news.length = m * size) (hnews : ∀ j u, news[j]? = some u → w.cell? (ad.add j) = some u) (h1 : ∀ u ∈ news, u.oneCell' = true)
    (h63 : n + m ≤ maxLen) (hbytes : (n + m) * bytes ≤ 140737488355328)
    (h : ∀ v' w', Own w' e size v' (n + m) (xs ++ news) → Keeps (fpv v) w w' → (∀ g ∈ fpv v', g ∈ fpv v ∨ g = w.heap.size) → w'.heap.size ≤ w.heap.size + 1 → wpO P ops Q rest (a.put o.dst v') w') : wpO P ops Q ((o, 3) :: rest) a w := by
  show stepO P ops o 3 a w _
  rw [stepO_3, if_pos (by simp [Region.wanted, hgd])]
  exact wp_append' ho T hs hown news hx hl hnews h1 h63 hbytes h
end

theorem fp_ge {B : Nat} {S : List Nat} {v : Value} {W : World} (hS : ∀ g ∈ S, B ≤ g) (hf : ∀ g ∈ fpv v, g ∈ S ∨ g = W.heap.size) (hsz : B ≤ W.heap.size) : ∀ g ∈ fpv v, B ≤ g := by
  intro g hg
  rcases hf g hg with h | h
  · exact hS g h
  · omega
theorem below_keeps {w W w3 : World} {S : List Nat} (hB : Below w.heap.size w W) (hk : Keeps S W w3) (hS : ∀ g ∈ S, w.heap.size ≤ g) : Below w.heap.size w w3 := hB.trans (hk.below hB.size hS)
theorem below_new {w W : World} (hB : Below w.heap.size w W) (o : Obj) : Below w.heap.size w (W.alloc o) := hB.alloc hB.size o
theorem below_ext {w W W' : World} (hB : Below w.heap.size w W) (h : Below W.heap.size W W') : Below w.heap.size w W' := hB.trans (h.mono hB.size)

section
variable {w w' : World} {e : TypeId} {size : Nat} {g n cap : Nat} {xs : List Value}
theorem Own.frozen (h : Own w e size (.slice (some ⟨g, 0, none⟩) n cap) n xs) {i : Nat} (hi : i < n * size) : w.frozen? ⟨g, i, none⟩ = false := by
  have hpos : 0 < n := Nat.pos_of_ne_zero fun h0 => by rw [h0] at hi; simp at hi
  obtain ⟨g', cap', hv', hle, _, _, hr⟩ := h.row hpos
  injection hv' with ha _ hc
  injection ha with ha
  injection ha with hb _ _
  subst hb
  exact hr.frozen (Nat.lt_of_lt_of_le hi (Nat.mul_le_mul_right _ hle))
theorem Own.set (h : Own w e size (.slice (some ⟨g, 0, none⟩) n cap) n xs) {i : Nat} (u : Value) (hi : i < n * size) : Own (w.setCell ⟨g, i, none⟩ u) e size (.slice (some ⟨g, 0, none⟩) n cap) n (xs.set i u) := by
  have hpos : 0 < n := Nat.pos_of_ne_zero fun h0 => by rw [h0] at hi; simp at hi
  rcases h with ⟨a, hv, rfl, rfl⟩ | ⟨g', cap', cur, hv, h1, h2, h3, h4, h5, h6⟩
  · omega
  · have hv0 := hv
    injection hv with ha _ hc
    injection ha with ha
    injection ha with hb _ _
    subst hb hc
    refine .inr ⟨g, cap', _, rfl, h1, h2, setCell_heap w ⟨g, i, none⟩ u rfl h3, by simpa using h4, by simpa using h5, ?_⟩
    simp only [Array.toList_setIfInBounds]
    rw [List.take_set, h6]
theorem Own.setCell_ne {v : Value} (h : Own w e size v n xs) {a : Addr} (u : Value) (hne : ∀ g ∈ fpv v, g ≠ a.block) : Own (w.setCell a u) e size v n xs :=
  h.of_blocks fun g hg => Below.heap_setCell w a u g (hne g hg)
end
end Go.Proofs.Tc
