import Derived.Test.YtjjnbanlofhhnaaGreatE7
import Derived.Test.YtjjnbanlofhhnaaGreatE8
namespace Go.Proofs.Tc
open Go.RowKit Go.Sort Go.Shelf
attribute [local go_sem] stepO_0 stepO_1 stepO_2 stepO_3 stepV_0 stepV_1 stepV_2 stepV_3 stepV_5
attribute [local go_sem] Oper.semAt_some stepI_0 stepI_1 stepI_2 stepI_3
attribute [local go_sem] wide_depth wide_fn Oper.wpX

/-- Seen: what it answers, the time, the families. -/
def seenT (own : ByteArray) (now0 : Int) (B : Bool → List Bk) (now : Int) (n : Nd) (ans : Bool) : (Bool × Int) × Int × (Bool → List Bk) :=
  if vnF n = false then ((false, 1), now0, B)
  else if now < now0 ∨ 1000000000 < now then ((false, 7), now0, B)
  else if n.id = own then ((false, 0), now, B)
  else (((seenF own now (B (n.fam == 6)) n ans).1, 0), now, fun c => if c = (n.fam == 6) then (seenF own now (B (n.fam == 6)) n ans).2 else B c)
def TabRes (w : World) (t : Nat) (own : ByteArray) (lab : Nat → Option Nat) (m : Nat) (r : (Bool × Int) × Int × (Bool → List Bk)) (e : Ending) (w' : World) : Prop :=
  e = .returned (.tuple #[.bool r.1.1, .int .i64 r.1.2]) ∧ ∃ lab' v' L', TbIn w' t own r.2.1 lab' m v' L' ∧ (∀ c, (L' c).map (·.k) = r.2.2 c) ∧ (∀ g, g < w.heap.size → lab g = none → lab' g = none) ∧ KeepL lab w w'
theorem vnF_fam {n : Nd} (h : vnF n = true) : n.id.size = 20 ∧ ∃ b, n.fam = famN b := by
  unfold vnF addrOk at h
  simp only [Bool.and_eq_true, Bool.or_eq_true, beq_iff_eq, decide_eq_true_eq] at h
  obtain ⟨h1, h2, h3⟩ := h
  refine ⟨by omega, ?_⟩
  rcases h2 with h2 | h2
  · exact ⟨false, h2.1⟩
  · exact ⟨true, h2.1⟩
theorem famN_6 (b : Bool) : (famN b == 6) = b := by cases b <;> rfl
theorem KeepL.bound {lab : Nat → Option Nat} {w w' : World} (h : KeepL lab w w') {n : Nat} (_hn : n ≤ w.heap.size) : Below 0 w w' := ⟨h.os, h.tape, h.output, h.size, fun g hg => by omega⟩
/-- The boxes of Seen's variables: the time, the node, the two results. -/
structure Bx (W : World) (s : Nat) (now : Int) (n : Nd) (r : Bool) : Prop where
  b0 : W.heap[s]? = some (.cells #[.int .i64 now] 3 (0, 0))
  b1 : W.heap[s + 1]? = some (.cells #[.string n.id, .int .i64 n.fam, .string n.ip, .int .i64 n.port] 33 (0, 0))
  b2 : W.heap[s + 1 + 1]? = some (.cells #[.bool r] 4 (0, 0))
  b3 : W.heap[s + 1 + 1 + 1]? = some (.cells #[.int .i64 0] 27 (0, 0))
theorem Bx.of_blocks {W W' : World} {s : Nat} {now : Int} {n : Nd} {r : Bool} (h : Bx W s now n r) (hb : ∀ g, s ≤ g → g < s + 4 → W'.heap[g]? = W.heap[g]?) : Bx W' s now n r :=
  ⟨(hb _ (by omega) (by omega)).trans h.b0, (hb _ (by omega) (by omega)).trans h.b1, (hb _ (by omega) (by omega)).trans h.b2, (hb _ (by omega) (by omega)).trans h.b3⟩
theorem Bx.lt {W : World} {s : Nat} {now : Int} {n : Nd} {r : Bool} (h : Bx W s now n r) : s + 3 < W.heap.size := (Array.getElem?_eq_some_iff.1 h.b3).1
theorem Bx.ext {W W' : World} {s : Nat} {now : Int} {n : Nd} {r : Bool} (h : Bx W s now n r) (hB : Below W.heap.size W W') : Bx W' s now n r := h.of_blocks fun g _ h2 => hB.block g (by have := h.lt; omega)
theorem bx_new (w : World) (now : Int) (n : Nd) (r : Bool) : Bx ((((w.alloc (.cells #[.int .i64 now] 3)).alloc (.cells #[.string n.id, .int .i64 n.fam, .string n.ip, .int .i64 n.port] 33)).alloc (.cells #[.bool r] 4)).alloc (.cells #[.int .i64 0] 27)) w.heap.size now n r := by
  have h0 := heap_alloc_new w (.cells #[.int .i64 now] 3)
  obtain ⟨w1, e1⟩ : ∃ w1, w.alloc (.cells #[.int .i64 now] 3) = w1 := ⟨_, rfl⟩
  have s1 : w1.heap.size = w.heap.size + 1 := by rw [← e1]; simp
  rw [e1] at h0 ⊢
  have h1 := heap_alloc_new w1 (.cells #[.string n.id, .int .i64 n.fam, .string n.ip, .int .i64 n.port] 33)
  have k1 := (Below.heap_alloc w1 (.cells #[.string n.id, .int .i64 n.fam, .string n.ip, .int .i64 n.port] 33) w.heap.size (by omega)).trans h0
  obtain ⟨w2, e2⟩ : ∃ w2, w1.alloc (.cells #[.string n.id, .int .i64 n.fam, .string n.ip, .int .i64 n.port] 33) = w2 := ⟨_, rfl⟩
  have s2 : w2.heap.size = w.heap.size + 2 := by rw [← e2]; simp; omega
  rw [e2] at h1 k1 ⊢
  have h2 := heap_alloc_new w2 (.cells #[.bool r] 4)
  have k2 := (Below.heap_alloc w2 (.cells #[.bool r] 4) w.heap.size (by omega)).trans k1
  have l2 := (Below.heap_alloc w2 (.cells #[.bool r] 4) w1.heap.size (by omega)).trans h1
  obtain ⟨w3, e3⟩ : ∃ w3, w2.alloc (.cells #[.bool r] 4) = w3 := ⟨_, rfl⟩
  have s3 : w3.heap.size = w.heap.size + 3 := by rw [← e3]; simp; omega
  rw [e3] at h2 k2 l2 ⊢
  refine ⟨(Below.heap_alloc w3 _ _ (by omega)).trans k2, ?_, ?_, ?_⟩
  · rw [← s1]; exact (Below.heap_alloc w3 _ _ (by omega)).trans l2
  · rw [show w.heap.size + 1 + 1 = w2.heap.size by omega]; exact (Below.heap_alloc w3 _ _ (by omega)).trans h2
  · rw [show w.heap.size + 1 + 1 + 1 = w3.heap.size by omega]; exact heap_alloc_new w3 _
theorem grow_cells {W W' : World} {row : Option Nat} {B : Nat} (hg : W.grownBy W' row) (hr : ∀ r, row = some r → B ≤ r ∧ ∃ o : Obj, W.heap[r]? = some o ∧ o.isCells = false) {k : Nat} {c : Array Value} {ty : TypeId} {z : Nat × Nat} (h : W.heap[k]? = some (.cells c ty z)) : W'.heap[k]? = some (.cells c ty z) := by
  refine (hg.block k (Array.getElem?_eq_some_iff.1 h).1 fun e => ?_).trans h
  obtain ⟨_, o, ho, hc⟩ := hr k e.symm
  rw [h] at ho
  injection ho with ho
  subst ho
  simp [Obj.isCells] at hc
def nds (l : List Nd) : List Value := l.flatMap Nd.vals
theorem nds_snoc (l : List Nd) (n : Nd) : nds (l ++ [n]) = nds l ++ n.vals := by simp [nds]
theorem En : ElemT Tryz.prog 56 33 4 48 (.agg #[.string ⟨#[]⟩, .int .i64 0, .string ⟨#[]⟩, .int .i64 0]) := ⟨Tryz.underlying56, by kernel_rfl, rfl⟩
theorem nds_length (l : List Nd) : (nds l).length = l.length * 4 := by
  induction l with
  | nil => rfl
  | cons n l ih => show (n.vals ++ nds l).length = _; rw [List.length_append, ih]; simp [Nd.vals]; omega
abbrev OwnN (W : World) (v : Value) (l : List Nd) : Prop := Own W 33 4 v l.length (nds l)
def othersF (n : Nd) (pre : List (Nat × Ent)) : List Nd := (pre.filter fun x => clash n x.2).map (·.2.nd)
/-- What stands while Seen looks for others. -/
structure SI (w2 : World) (s O : Nat) (now : Int) (n : Nd) (pre : List (Nat × Ent)) (W : World) : Prop where
  B : Below s w2 W
  bx : Bx W s now n false
  ok : ∀ x ∈ pre, (clash n x.2 && kindE now x.2 == 1) = false
  ot : ∃ v, W.heap[O]? = some (.cells #[v] 56 (0, 0)) ∧ OwnN W v (othersF n pre) ∧ (∀ g ∈ fpv v, O < g)
structure SX (w2 : World) (s : Nat) (now : Int) (n : Nd) (pre : List (Nat × Ent)) (W : World) : Prop where
  B : Below s w2 W
  bx : Bx W s now n false
  bad : ∃ x ∈ pre, (clash n x.2 && kindE now x.2 == 1) = true
theorem bx_grow {W W' : World} {row : Option Nat} {B : Nat} (hg : W.grownBy W' row) (hr : ∀ r, row = some r → B ≤ r ∧ ∃ o : Obj, W.heap[r]? = some o ∧ o.isCells = false) {s : Nat} {now : Int} {n : Nd} {r : Bool} (h : Bx W s now n r) : Bx W' s now n r :=
  ⟨grow_cells hg hr h.b0, grow_cells hg hr h.b1, grow_cells hg hr h.b2, grow_cells hg hr h.b3⟩
theorem SI.own {w2 : World} {s O : Nat} {now : Int} {n : Nd} {B : Nat} (hs : s ≤ w2.heap.size) (hB : s ≤ B) : OwnFrom B (SI w2 s O now n) := by
  intro pre W W' row h hg hr
  obtain ⟨v, h1, h2, h3⟩ := h.ot
  refine ⟨h.B.grown hg (Nat.le_trans hs h.B.size) (fun k e => Nat.le_trans hB (hr k e).1), bx_grow hg hr h.bx, h.ok, v, grow_cells hg hr h1, ?_, h3⟩
  rcases h2 with h2 | ⟨g, cap, cur, rfl, a1, a2, a3, a4⟩
  · exact .inl h2
  · exact .inr ⟨g, cap, cur, rfl, a1, a2, grow_cells hg hr a3, a4⟩
theorem SX.own {w2 : World} {s : Nat} {now : Int} {n : Nd} {B : Nat} (hs : s ≤ w2.heap.size) (hB : s ≤ B) : OwnFrom B (SX w2 s now n) := fun pre W W' row h hg hr =>
  ⟨h.B.grown hg (Nat.le_trans hs h.B.size) (fun k e => Nat.le_trans hB (hr k e).1), bx_grow hg hr h.bx, h.bad⟩
theorem SI.skip {w2 : World} {s O : Nat} {now : Int} {n : Nd} {pre : List (Nat × Ent)} {W : World} {x : Nat × Ent} (h : SI w2 s O now n pre W) (hx : clash n x.2 = false) : SI w2 s O now n (pre ++ [x]) W := by
  refine ⟨h.B, h.bx, fun y hy => ?_, ?_⟩
  · rcases List.mem_append.1 hy with hy | hy
    · exact h.ok y hy
    · rw [List.mem_singleton] at hy; subst hy; rw [hx]; rfl
  · have : othersF n (pre ++ [x]) = othersF n pre := by unfold othersF; rw [List.filter_append]; simp [hx]
    rw [this]
    exact h.ot
theorem KeepsFrom.of_below {B : Nat} {A C : World} (h : Below A.heap.size A C) : KeepsFrom B A C := ⟨h.size, fun k o _ hk _ => (h.block k (Array.getElem?_eq_some_iff.1 hk).1).trans hk⟩
theorem wpListIn_append' {F : Fence} {nn : Nat} {P : Program} {w : World} {t e : TypeId} {size bytes : Nat} {z : Value} {o : Oper} {a : Act} {ops : Array Oper} {rest : List Oper} {Q : Exit → Act → World → Prop} (hgd : o.guard = none) {s x : Operand}
    (ho : o.op = .call { callee := .builtin .append, args := #[s, x], argTypes := #[t, t] }) (T : ElemT P t e size bytes z)
    {v : Value} {n : Nat} {xs : List Value} (hs : a.eval s = v) (hown : Own w e size v n xs)
    {ad : Addr} {m c : Nat} (news : List Value) (hx : a.eval x = .slice (some ad) m c) (hl : news.length = m * size) (hnews : ∀ j u, news[j]? = some u → w.cell? (ad.add j) = some u) (h1 : ∀ u ∈ news, u.oneCell' = true)
    (h63 : n + m ≤ maxLen) (hbytes : (n + m) * bytes ≤ 140737488355328)
    (h : ∀ v' w', Own w' e size v' (n + m) (xs ++ news) → Keeps (fpv v) w w' → (∀ g ∈ fpv v', g ∈ fpv v ∨ g = w.heap.size) → w'.heap.size ≤ w.heap.size + 1 → wpListIn F nn P ops Q rest (a.put o.dst v') w') : wpListIn F nn P ops Q (o :: rest) a w := by
  refine wpListIn_plain hgd fun K hK' => ?_
  obtain ⟨v', w', hrun, r1, r2, r3, r4⟩ := own_append' o.type T hown ad m c news hl hnews h1 h63 hbytes
  unfold Oper.wpIn
  refine ⟨?_, ?_⟩
  · simp [Oper.about, ho, resolve, Target.leads, Sem.run_pure]
  · rw [Oper.semAt_plain F _ _ (by rw [ho]; intro c hc'; cases hc')]
    simp [execOp, ho, resolve, invoke, builtin, hs, hx, hrun, Result.andThen]
    exact hK' _ _ (h v' w' r1 r2 r3 r4)
theorem Bx.res {W : World} {s : Nat} {now : Int} {n : Nd} {r : Bool} (h : Bx W s now n r) (r' : Bool) : Bx ((W.setCell ⟨s + 1 + 1, 0, none⟩ (.bool r')).setCell ⟨s + 1 + 1 + 1, 0, none⟩ (.int .i64 0)) s now n r' := by
  have o : ∀ (X : World) (b k : Nat) (u : Value), k ≠ b → (X.setCell ⟨b, 0, none⟩ u).heap[k]? = X.heap[k]? := fun X b k u hk => Below.heap_setCell X ⟨b, 0, none⟩ u k hk
  refine ⟨?_, ?_, ?_, ?_⟩
  · exact (o _ (s + 1 + 1 + 1) s _ (by omega)).trans ((o _ (s + 1 + 1) s _ (by omega)).trans h.b0)
  · exact (o _ (s + 1 + 1 + 1) (s + 1) _ (by omega)).trans ((o _ (s + 1 + 1) (s + 1) _ (by omega)).trans h.b1)
  · exact (o _ (s + 1 + 1 + 1) (s + 1 + 1) _ (by omega)).trans (setCell_heap W ⟨s + 1 + 1, 0, none⟩ _ rfl h.b2)
  · exact setCell_heap _ ⟨s + 1 + 1 + 1, 0, none⟩ _ rfl ((o _ (s + 1 + 1) (s + 1 + 1 + 1) _ (by omega)).trans h.b3)
theorem below_res {w2 W : World} {s : Nat} (h : Below s w2 W) (u u' : Value) : Below s w2 ((W.setCell ⟨s + 1 + 1, 0, none⟩ u).setCell ⟨s + 1 + 1 + 1, 0, none⟩ u') := (h.setCell (p := ⟨s + 1 + 1, 0, none⟩) (by show s ≤ s + 1 + 1; omega) u).setCell (p := ⟨s + 1 + 1 + 1, 0, none⟩) (by show s ≤ s + 1 + 1 + 1; omega) u'
theorem nd_one (n : Nd) : ∀ u ∈ n.vals, u.oneCell' = true := by
  intro u hu
  simp [Nd.vals] at hu
  rcases hu with rfl | rfl | rfl | rfl <;> rfl
theorem Kp60.keeps33 {n₀ : Nat} {A B : World} {v : Value} {n : Nat} {xs : List Value} (ho : Own A 33 4 v n xs) (hk : Keeps (fpv v) A B) (hn : n₀ ≤ A.heap.size) (hge : ∀ g ∈ fpv v, n₀ ≤ g) : Kp60 n₀ A B := by
  refine ⟨hk.below hn hge, fun g cur fz hg => hk.block g (Array.getElem?_eq_some_iff.1 hg).1 fun hm => ?_⟩
  rcases ho with ⟨a, rfl, _⟩ | ⟨g', cap, cur', rfl, _, _, h3, _⟩
  · cases a <;> simp [fpv] at hm
  · simp [fpv] at hm
    subst hm
    rw [h3] at hg
    injection hg with hg
    injection hg with _ hg _
    cases hg
theorem Kp60.setO {n₀ : Nat} {A : World} {O : Nat} {c : Array Value} {z : Nat × Nat} (hO : A.heap[O]? = some (.cells c 56 z)) (hn : n₀ ≤ O) (u : Value) : Kp60 n₀ A (A.setCell ⟨O, 0, none⟩ u) := by
  refine ⟨(Below.refl _ _).setCell (p := ⟨O, 0, none⟩) hn u, fun g cur fz hg => Below.heap_setCell A ⟨O, 0, none⟩ u g fun e => ?_⟩
  have e' : g = O := e
  subst e'
  rw [hO] at hg
  injection hg with hg
  injection hg with _ hg _
  cases hg
theorem keepsFrom_own {B : Nat} {A C : World} {v : Value} {e : TypeId} {size n : Nat} {xs : List Value} (ho : Own A e size v n xs) (hk : Keeps (fpv v) A C) : KeepsFrom B A C := by
  refine ⟨hk.size, fun k o _ hko hoc => (hk.block k (Array.getElem?_eq_some_iff.1 hko).1 fun hm => ?_).trans hko⟩
  rcases ho with ⟨a, rfl, _⟩ | ⟨g', cap, cur', rfl, _, _, h3, _⟩
  · cases a <;> simp [fpv] at hm
  · simp [fpv] at hm
    subst hm
    rw [h3] at hko
    injection hko with hko
    subst hko
    simp [Obj.isCells] at hoc
theorem TbIn.set_none {w : World} {t : Nat} {own : ByteArray} {now : Int} {lab : Nat → Option Nat} {m : Nat} {v : Bool → Value} {L : Bool → List Pl} (h : TbIn w t own now lab m v L) {a : Addr} (u : Value) (ha : lab a.block = none) : TbIn (w.setCell a u) t own now lab m v L :=
  h.of_blocks (by simp) fun g hg => Below.heap_setCell w a u g fun e => hg (by rw [e]; exact ha)
theorem TbIn.put_none {w : World} {t : Nat} {own : ByteArray} {now : Int} {lab : Nat → Option Nat} {m : Nat} {v : Bool → Value} {L : Bool → List Pl} (h : TbIn w t own now lab m v L) {D : Nat} (o : Obj) (ha : lab D = none) : TbIn (w.putObj D o) t own now lab m v L :=
  h.of_blocks (grownBy_putObj' w D o).size fun g hg => World.putObj_heap_other fun e => hg (by rw [e]; exact ha)
theorem KeepL.set_ge {lab : Nat → Option Nat} {w W : World} (h : KeepL lab w W) {a : Addr} (u : Value) (ha : w.heap.size ≤ a.block) : KeepL lab w (W.setCell a u) :=
  ⟨h.os, h.tape, h.output, by simpa using h.size, fun g hg hl => (Below.heap_setCell W a u g (by omega)).trans (h.block g hg hl)⟩
theorem KeepL.put_ge {lab : Nat → Option Nat} {w W : World} (h : KeepL lab w W) {D : Nat} (o : Obj) (ha : w.heap.size ≤ D) : KeepL lab w (W.putObj D o) := by
  have hg := grownBy_putObj' W D o
  exact ⟨hg.os.trans h.os, hg.tape.trans h.tape, hg.output.trans h.output, Nat.le_trans h.size hg.size, fun g hg' hl => (World.putObj_heap_other (by omega)).trans (h.block g hg' hl)⟩
theorem allE_P (l : List Pl) : allE (l.map (·.k)) = (allP l).map (·.2) := by
  induction l with
  | nil => rfl
  | cons x l ih =>
    show (x.k.ents ++ x.k.spare) ++ allE (l.map (·.k)) = (ents x ++ allP l).map (·.2)
    rw [ih, List.map_append]
    congr 1
    simp [ents]
    rw [show (Prod.snd ∘ fun e => (x.a, e)) = (id : Ent → Ent) from rfl]
    simp
theorem nds_get {l : List Nd} {k : Nat} {x : Nd} (h : l[k]? = some x) {j : Nat} (hj : j < 4) : (nds l)[k * 4 + j]? = x.vals[j]? := by
  induction l generalizing k with
  | nil => simp at h
  | cons y l ih =>
    show (y.vals ++ nds l)[k * 4 + j]? = _
    cases k with
    | zero =>
      simp at h
      subst h
      rw [Nat.zero_mul, Nat.zero_add, List.getElem?_append_left (by simp [Nd.vals]; omega)]
    | succ k =>
      rw [List.getElem?_append_right (by simp [Nd.vals]; omega), show (k + 1) * 4 + j - y.vals.length = k * 4 + j by simp [Nd.vals]; omega]
      exact ih (by simpa using h)
theorem dropsF_snoc (l : List Bk) (xs : List Nd) (x : Nd) : dropsF l (xs ++ [x]) = match ofF (dropsF l xs) x.id with
  | some i => (dropsF l xs).modify i (dropB · x)
  | none => dropsF l xs := by unfold dropsF; rw [List.foldl_append]; rfl
set_option maxRecDepth 100000 in
set_option maxHeartbeats 2000000 in
theorem seen_main (w : World) (t : Nat) (own : ByteArray) (now0 : Int) (lab : Nat → Option Nat) (m : Nat) (v : Bool → Value) (L : Bool → List Pl) (h : TbIn w t own now0 lab m v L) (hown : own.size = 20) (N : Int) (hF : ∀ b, FInv own b N ((L b).map (·.k))) (hN : 0 ≤ N)
    (now : Int) (id ip : ByteArray) (port : Int) (b : Bool) (ans : Bool) (hv : vnF ⟨id, famN b, ip, port⟩ = true) (ht1 : now0 ≤ now) (ht2 : now ≤ 1000000000) (hid : id ≠ own) :
    Calls Tryz.prog 9 #[.pointer (some ⟨t, 0, none⟩), .int .i64 now, .agg #[.string id, .int .i64 (famN b), .string ip, .int .i64 port], .bool ans] w
      (TabRes w t own lab m (((seenF own now ((L b).map (·.k)) ⟨id, famN b, ip, port⟩ ans).1, 0), now, fun c => if c = b then (seenF own now ((L b).map (·.k)) ⟨id, famN b, ip, port⟩ ans).2 else (L c).map (·.k))) := by
  have hidl : (id.toList = own.toList) = False := by rw [bytes_same]; exact eq_false hid
  have hidb : (id.toList == own.toList) = false := by rw [beq_eq_false_iff_ne]; exact fun h => hid (bytes_eq h)
  have hidn : ¬ id.toList = own.toList := fun h => hid (bytes_eq h)
  clear hidl
  have HT := Lib.hid h
  have HF := Lib.hid hF
  have HV := Lib.hid hv
  have HOW := Lib.hid hown
  have HID := Lib.hid hid
  have hvn : ∀ W, Calls Tryz.prog 24 #[.agg #[.string id, .int .i64 (famN b), .string ip, .int .i64 port]] W (Ret W (.bool true)) := fun W => by have := validnode_calls W ⟨id, famN b, ip, port⟩; rw [hv] at this; exact this
  have HVN := Lib.hid hvn
  have ltt : t < w.heap.size := h.lt _ _ h.l0
  clear h hF hv hown hid hvn
  refine (callsIn_wide (n := 9)).1 ?_
  refine callsIn_of_wp_marks Tryz.func9 rfl trivial ?_ rfl
  simp only [Tryz.ntmps9, List.size_toArray, List.length_cons, List.length_nil, Nat.reduceAdd, Nat.reduceSub, Array.replicate_succ, Array.replicate_zero, List.push_toArray, List.append_toArray, List.nil_append, List.cons_append]
  gi_wp2_with fail
  have hbx0 := bx_new w now ⟨id, famN b, ip, port⟩ false
  have hB0 : Below w.heap.size w ((((w.alloc (.cells #[.int .i64 now] 3)).alloc (.cells #[.string id, .int .i64 (famN b), .string ip, .int .i64 port] 33)).alloc (.cells #[.bool false] 4)).alloc (.cells #[.int .i64 0] 27)) := by go_grown
  refine (callsIn_wide.2 (HVN.out _)).mono ?_
  rintro e1 w1 ⟨rfl, hb1⟩
  have hbx1 := hbx0.ext hb1
  have hB1 := below_ext hB0 hb1
  have hT1 := HT.out.ext hB1
  obtain ⟨x0, x1, x2, x3⟩ := cells4 hbx1.b1
  have y0 := cells1 hbx1.b0
  have htell := tell_ok w1 t _ now0 now b _ hT1.hh ht1 ht2
  have HB1 := Lib.hid hB1
  have HBX1 := Lib.hid hbx1
  have HT1 := Lib.hid hT1
  clear hbx0 hB0 hb1 hbx1 hB1 hT1
  gi_wp2_with fail
  refine (callsIn_wide.2 htell).mono ?_
  rintro e2 w2 ⟨rfl, hw2⟩
  obtain ⟨hT2, hK2⟩ := HT1.out.setNow now
  have hbx2 : Bx w2 w.heap.size now ⟨id, famN b, ip, port⟩ false := HBX1.out.of_blocks fun g h1 _ => by rw [hw2]; exact Below.heap_setCell w1 ⟨t, 1, none⟩ _ g (by show g ≠ t; omega)
  rw [← hw2] at hT2 hK2
  have hs2 := hK2.size
  clear hw2 htell x0 x1 x2 x3 y0
  obtain ⟨x0, x1, x2, x3⟩ := cells4 hbx2.b1
  have y0 := cells1 hbx2.b0
  have y2 := cells1 hbx2.b2
  have y3 := cells1 hbx2.b3
  obtain ⟨d0, d1, d2⟩ := cells3 hT2.hh
  have hl2 := hbx2.lt
  have HT2 := Lib.hid hT2
  have HK2 := Lib.hid (show KeepL lab w w2 from (KeepL.of_below HB1.out).trans' (fun _ _ h => h) hK2)
  have HBX2 := Lib.hid hbx2
  clear hT2 hK2 hbx2
  gi_wp2_with fail
  refine wpIn_region_ord [(0,0),(1,1),(2,0),(3,0),(4,0),(5,1),(6,0)] (fun _ => trivial) (by kernel_rfl) (by kernel_rfl) (by kernel_rfl) ?_
  simp only [pickO, List.map_cons, List.map_nil, List.getD_cons_zero, List.getD_cons_succ]
  repeat (first | ((with_reducible refine wpI_skip ?_ ?_); rfl; simp only [Act.put, List.setIfInBounds_toArray, List.set_cons_zero, List.set_cons_succ]) | ((with_reducible refine wpI_step (fun K hK => ?_)); go_simp; (try go_bits); (first | (with_reducible refine hK _ _ ?_) | (simp only [IntWalk.iteOmega]; go_simp; (try go_bits); (with_reducible refine hK _ _ ?_))); clear hK K))
  (with_reducible refine wpI_nil ?_)
  have x1o := cell_alloc_l (.cells #[.slice none 0 0] 56) x1
  gi_wp2_with fail
  refine (callsIn_wide.2 (all_calls _ _ _)).mono ?_
  rintro e3 w3 ⟨rfl, hw3⟩
  have hB3 : Below w2.heap.size w2 w3 := by
    rw [hw3]
    exact ((below_new (Below.refl _ w2) _).drew.alloc (by simp) _).alloc (by simp; omega) _
  have hO3 : w3.heap[w2.heap.size]? = some (.cells #[.slice none 0 0] 56 (0, 0)) := by
    rw [hw3]
    refine (Below.heap_alloc _ _ _ (by simp; omega)).trans ((Below.heap_alloc _ _ _ (by simp)).trans ?_)
    exact heap_alloc_new w2 _
  have hc31 : w3.cell? ⟨w2.heap.size + 1, 0, none⟩ = some (.pointer (some ⟨t, 0, none⟩)) := by
    rw [hw3]
    refine cell_alloc_l _ ?_
    have := (cell_new_l (w2.alloc (.cells #[.slice none 0 0] 56)).drew (.pointer (some ⟨t, 0, none⟩)) 26).1
    simpa using this
  have hc32 : w3.cell? ⟨w2.heap.size + 1 + 1, 0, none⟩ = some (.int .i64 (famN b)) := by
    rw [hw3]
    have := (cell_new_l ((w2.alloc (.cells #[.slice none 0 0] 56)).drew.alloc (.cells #[.pointer (some ⟨t, 0, none⟩)] 26)) (.int .i64 (famN b)) 3).1
    simpa using this
  have hz3 : w3.heap.size = w2.heap.size + 3 := by rw [hw3]; simp
  have hsz1 : (w2.alloc (.cells #[.slice none 0 0] 56)).drew.heap.size = w2.heap.size + 1 := by simp
  rw [hsz1]
  clear hsz1 hw3 d0 d1 d2
  have HB3 := Lib.hid hB3
  have HO3 := Lib.hid hO3
  have HC31 := Lib.hid hc31
  have HC32 := Lib.hid hc32
  have HZ3 := Lib.hid hz3
  clear hB3 hO3 hc31 hc32 hz3 x0 x1 x2 x3 y0 y2 y3 x1o
  gi_wp2_with fail
  have hT3 := HT2.out.ext HB3.out
  have hFb := HF.out b
  have hlen : (L b).length ≤ 161 := by have := hFb.len; simpa using this
  have hpos : 0 < (L b).length := by
    obtain ⟨i, k, _, hk, _⟩ := hFb.of id
    have := (List.getElem?_eq_some_iff.1 hk).1
    simp at this
    omega
  have hszs : ∀ x ∈ L b, x.k.ents.length ≤ 8 ∧ x.k.spare.length ≤ 8 := fun x hx => ⟨(hFb.bk x.k (List.mem_map.2 ⟨x, hx, rfl⟩)).he, (hFb.bk x.k (List.mem_map.2 ⟨x, hx, rfl⟩)).hs⟩
  have hs3 := HB3.out.size
  have hz3 := HZ3.out
  have hst := all1_stops (9 - 1) (w2.heap.size + 1) (w2.heap.size + 1 + 1) w.heap.size w3 t own now lab m v L hT3 b HT.out.lt (by omega) HC31.out HC32.out hszs hpos hlen
  have hI0 : SI w2 w.heap.size w2.heap.size now ⟨id, famN b, ip, port⟩ [] w3 := ⟨HB3.out.mono (by omega), HBX2.out.ext HB3.out, by simp, _, HO3.out, Own.nil _ _ _, by simp [fpv]⟩
  have HST := Lib.hid hst
  have HSZS := Lib.hid hszs
  have HLL := Lib.hid hlen
  have HI0 := Lib.hid hI0
  clear hT3 hFb hlen hpos hszs hst hI0
  refine wpIn_rangeFunc_ownH rfl (by omega) (gf := 57) (lb := #[.pointer (some ⟨w2.heap.size + 1, 0, none⟩), .pointer (some ⟨w2.heap.size + 1 + 1, 0, none⟩)]) rfl trivial (enters_of Tryz.func57 (by kernel_rfl) rfl)
    HST.out kp60_t (kp60_b (by omega)) (Below.refl _ _) (fun _ => rfl)
    (SI w2 w.heap.size w2.heap.size now ⟨id, famN b, ip, port⟩)
    (fun c pre W => c = .ret ∧ SX w2 w.heap.size now ⟨id, famN b, ip, port⟩ pre W)
    (SI.own (by omega) (by omega))
    (fun c => fun pre W W' row h hg hr => ⟨h.1, SX.own (by omega) (Nat.le_refl _) pre W W' row h.2 hg (fun r e => ⟨by have := (hr r e).1; omega, (hr r e).2⟩)⟩)
    HI0.out
    (fun x a' W => ∃ bx, a' = { tmps := #[Value.pointer (some ⟨t, 0, none⟩), Value.int IntKind.i64 now, Value.agg #[Value.string id, Value.int IntKind.i64 (famN b), Value.string ip, Value.int IntKind.i64 port], Value.bool ans, undef, Value.pointer (some ⟨w.heap.size, 0, none⟩), Value.pointer (some ⟨w.heap.size + 1, 0, none⟩), undef, Value.pointer (some ⟨w.heap.size + 1 + 1, 0, none⟩), Value.pointer (some ⟨w.heap.size + 1 + 1 + 1, 0, none⟩), Value.int IntKind.i64 0, Value.pointer (some ⟨w2.heap.size, 0, none⟩), undef, .pointer (some ⟨bx, 0, none⟩), undef, undef, Value.pointer (some ⟨t, 0, none⟩), Value.bool false, Value.bool false, Value.agg #[Value.string id, Value.int IntKind.i64 (famN b), Value.string ip, Value.int IntKind.i64 port], Value.bool true, Value.bool false, Value.bool false, Value.pointer (some ⟨t, 0, none⟩), Value.int IntKind.i64 now, Value.pointer (some ⟨w.heap.size + 1, 1, none⟩), Value.pointer (some ⟨w.heap.size + 1, 1, none⟩), Value.int IntKind.i64 (famN b), Value.int IntKind.i64 0, Value.int IntKind.i64 0, Value.bool false, undef, Value.pointer (some ⟨w.heap.size + 1, 0, none⟩), Value.string id, Value.pointer (some ⟨t, 0, none⟩), Value.pointer (some ⟨t, 0, none⟩), Value.pointer (some ⟨t, 0, none⟩), Value.string own, Value.bool false, Value.pointer (some ⟨t, 0, none⟩), Value.pointer (some ⟨w.heap.size + 1, 1, none⟩), Value.pointer (some ⟨w.heap.size + 1, 1, none⟩), Value.int IntKind.i64 (famN b), Value.func (Fn.func 57) #[] #[Value.pointer (some ⟨w2.heap.size + 1, 0, none⟩), Value.pointer (some ⟨w2.heap.size + 1 + 1, 0, none⟩)], .pointer (some ⟨x.1, 0, none⟩), entV x.2, undef, undef, undef, undef, undef, undef, undef, undef, undef, undef, undef, undef, undef, undef, undef, undef, undef, undef, undef, undef, undef, undef, undef, undef, undef, undef, undef, undef, undef, undef, undef, undef, undef, undef, undef, undef, undef, undef, undef, undef, undef, undef, undef, undef, undef, undef, undef, undef, undef, undef, undef, undef, undef, undef, undef, undef, undef, undef, undef, undef, undef, undef, undef], defers := [] } ∧ W.heap[bx]? = some (.cells #[.string x.2.nd.id, .int .i64 x.2.nd.fam, .string x.2.nd.ip, .int .i64 x.2.nd.port, .int .i64 x.2.kd, .int .i64 x.2.an, .int .i64 x.2.ak, .int .i64 x.2.fl] 60 (0, 0)))
    (fun x a' => fun _ W W' row h hg hr => by obtain ⟨bx, h1, h2⟩ := h; exact ⟨bx, h1, grow_cells hg hr h2⟩)
    ?assign ?body ?done ?stop
  case assign =>
    intro l pre x W K hI hK
    have hsz := hI.B.size
    have hn := below_new (Below.refl _ W) (.cells #[.string x.2.nd.id, .int .i64 x.2.nd.fam, .string x.2.nd.ip, .int .i64 x.2.nd.port, .int .i64 x.2.kd, .int .i64 x.2.an, .int .i64 x.2.ak, .int .i64 x.2.fl] 60)
    have hKK := fun a' => hK a' _ (KeepsFrom.of_below hn) (Kp60.of_below (by omega) hn) (SI.own (B := w.heap.size) (by omega) (Nat.le_refl _) pre W _ none hI (World.grownBy_alloc W _ none) (fun r e => by cases e))
    have HKK := Lib.hid hKK
    clear hK hI hKK hn
    simp only [encPE, entV]
    gi_wp2
    exact HKK.out _ ⟨W.heap.size, rfl, heap_alloc_new W _⟩
  case body =>
    rintro l pre ⟨xa, ⟨⟨i', f', p', q'⟩, kd, an, ak, fl⟩⟩ a' W hl hr hI ⟨bx, rfl, hbx⟩ hlenN
    simp only at hbx
    obtain ⟨z0, z1, z2, z3, z4, z5, z6, z7⟩ := cells8 hbx
    obtain ⟨x0, x1, x2, x3⟩ := cells4 hI.bx.b1
    have y0 := cells1 hI.bx.b0
    have y2 := cells1 hI.bx.b2
    have y3 := cells1 hI.bx.b3
    have u2 := unfrozen0 hI.bx.b2 0
    have u3 := unfrozen0 hI.bx.b3 0
    have hl1 := hI.bx.lt
    have hlb : bx < W.heap.size := (Array.getElem?_eq_some_iff.1 hbx).1
    have hne := fun W => ne33 ⟨i', f', p', q'⟩ ⟨id, famN b, ip, port⟩ W
    have h31 := fun W => eq31 ⟨i', f', p', q'⟩ ⟨id, famN b, ip, port⟩ W
    simp only [ndV] at hne
    simp only at h31
    have HI := Lib.hid hI
    have HBB := Lib.hid hbx
    have HLEN := Lib.hid (show pre.length ≤ 2900 from by
      have h1 : (allP (L b)).length ≤ 16 * (L b).length := by
        have : ∀ l : List Pl, (∀ x ∈ l, x.k.ents.length ≤ 8 ∧ x.k.spare.length ≤ 8) → (allP l).length ≤ 16 * l.length := by
          intro l
          induction l with
          | nil => intro _; simp [allP]
          | cons y l ih =>
            intro hy
            have h1 := ih (fun x hx => hy x (List.mem_cons_of_mem _ hx))
            have h2 := hy y (by simp)
            show (ents y ++ allP l).length ≤ _
            rw [List.length_append]
            have : (ents y).length = y.k.ents.length + y.k.spare.length := by simp [ents]
            simp
            omega
        exact this _ HSZS.out
      have := HLL.out
      omega)
    clear hI hbx hr hlenN
    cases q1 : decide ((⟨i', f', p', q'⟩ : Nd) = ⟨id, famN b, ip, port⟩) with
    | true =>
      rw [q1] at hne
      have hcl : clash ⟨id, famN b, ip, port⟩ ⟨⟨i', f', p', q'⟩, kd, an, ak, fl⟩ = false := by unfold clash; simp only [q1]; rfl
      have HCL := Lib.hid hcl
      clear hcl q1
      gi_wp2
      exact ⟨KeepsFrom.refl _ _, ⟨Below.refl _ _, fun _ _ _ _ => rfl⟩, HI.out.skip HCL.out⟩
    | false =>
      rw [q1] at hne
      by_cases hi : i' = id
      · obtain rfl : id = i' := hi.symm
        clear hi
        have hcl : clash ⟨id, famN b, ip, port⟩ ⟨⟨id, f', p', q'⟩, kd, an, ak, fl⟩ = true := by unfold clash; simp only [q1]; simp
        cases hk1 : (kindF now an ak fl == 1) with
        | true =>
          gi_wp2_with fail
          refine (callsIn_wide.2 (kind_calls _ _ _ _ _ _ _ _ _ _)).mono ?_
          rintro e2 W2 ⟨rfl, hb2⟩
          have hbx2 := HI.out.bx.ext hb2
          have y2 := cells1 hbx2.b2
          have y3 := cells1 hbx2.b3
          have u2 := unfrozen0 hbx2.b2 0
          have u3 := unfrozen0 hbx2.b3 0
          have hl2 := hbx2.lt
          have HBX := Lib.hid hbx2
          have HB2 := Lib.hid hb2
          have HCL := Lib.hid hcl
          have HK1 := Lib.hid hk1
          clear hbx2 hb2 hcl q1
          gi_wp2
          refine ⟨((KeepsFrom.of_below HB2.out).trans ((KeepsOthers.setCell _ _ _).from _)).trans ((KeepsOthers.setCell _ _ _).from _), rfl, below_res (HI.out.B.trans (HB2.out.mono (by have := HI.out.B.size; omega))) _ _, HBX.out.res false, ?_⟩
          refine ⟨_, List.mem_append_right _ (List.mem_singleton.2 rfl), ?_⟩
          rw [HCL.out]
          show (kindF now an ak fl == 1) = true
          exact HK1.out
        | false =>
          gi_wp2_with fail
          refine (callsIn_wide.2 (kind_calls _ _ _ _ _ _ _ _ _ _)).mono ?_
          rintro e2 W2 ⟨rfl, hb2⟩
          have hbx2 := HI.out.bx.ext hb2
          have hz2 := (hb2.block bx (Array.getElem?_eq_some_iff.1 HBB.out).1).trans HBB.out
          obtain ⟨z0, z1, z2, z3, z4, z5, z6, z7⟩ := cells8 hz2
          obtain ⟨vo, ho1, ho2, ho3⟩ := HI.out.ot
          obtain ⟨ao, po, rfl, _⟩ := ho2.shape
          have ho1' := (hb2.block _ (Array.getElem?_eq_some_iff.1 ho1).1).trans ho1
          have yo := cells1 ho1'
          have uo := unfrozen0 ho1' 0
          have ho2' := ho2.ext hb2
          have hlo : w2.heap.size < W2.heap.size := (Array.getElem?_eq_some_iff.1 ho1').1
          have hlen16 : (othersF ⟨id, famN b, ip, port⟩ pre).length ≤ 3000 := by
            unfold othersF
            rw [List.length_map]
            have := List.length_filter_le (fun x : Nat × Ent => clash ⟨id, famN b, ip, port⟩ x.2) pre
            have := HLEN.out
            omega
          have HBX := Lib.hid hbx2
          have HB2 := Lib.hid hb2
          have HCL := Lib.hid hcl
          have HK1 := Lib.hid hk1
          have HO1 := Lib.hid ho1'
          have HO2 := Lib.hid ho2'
          have HO3 := Lib.hid ho3
          obtain ⟨no, hno⟩ : ∃ no, (othersF ⟨id, famN b, ip, port⟩ pre).length = no := ⟨_, rfl⟩
          have HNO := Lib.hid hno
          rw [hno] at yo hlen16
          clear hbx2 hb2 hcl q1 ho1 ho1' ho2 ho2' ho3 hz2 hno
          have hnews := new_cells W2 (Nd.vals ⟨id, f', p', q'⟩) 33
          have HNW := Lib.hid hnews
          have hoa := HO2.out.alloc (.cells (Nd.vals ⟨id, f', p', q'⟩).toArray 33)
          rw [HNO.out] at hoa
          have HOA := Lib.hid hoa
          clear hnews hoa
          gi_wp2_with (
            gi_at_builtin
            refine wpListIn_append' rfl rfl En rfl HOA.out (Nd.vals ⟨id, f', p', q'⟩) rfl rfl HNW.out (nd_one _) (by unfold maxLen; omega) (by omega) ?_
            intro v5 w5 ho5 hk5 hf5 hz5
            have hO3 := (Below.heap_alloc W2 (.cells (Nd.vals ⟨id, f', p', q'⟩).toArray 33) _ hlo).trans HO1.out
            rw [HNO.out] at hO3
            have ho3' := HO3.out
            rw [HNO.out] at ho3'
            have hO5 := (hk5.block w2.heap.size (by simp; omega) (fun hm => by have := ho3' _ hm; omega)).trans hO3
            obtain ⟨a5, p5, rfl, _⟩ := ho5.shape
            have yo5 := cells1 hO5
            have uo5 := unfrozen0 hO5 0
            have hlo5 : w2.heap.size < w5.heap.size := (Array.getElem?_eq_some_iff.1 hO5).1
            have HO5 := Lib.hid ho5
            have HK5 := Lib.hid hk5
            have HF5 := Lib.hid hf5
            have HH5 := Lib.hid hO5
            have HO3' := Lib.hid ho3'
            clear ho5 hk5 hf5 hz5 hO3 hO5 ho3' yo uo)
          have hs2 := HI.out.B.size
          have hkA : Keeps (fpv (.slice ao no po)) W w5 := (HB2.out.keep.trans ((Keeps.refl _ W2).alloc _)).trans HK5.out
          have hgeo : ∀ g ∈ fpv (.slice ao no po), w.heap.size + 3 < g := fun g hg => by have := HO3'.out g hg; have := HBX2.out.lt; omega
          have hob : OwnN W (.slice ao no po) (othersF ⟨id, famN b, ip, port⟩ pre) := by
            obtain ⟨vo, h1, h2, _⟩ := HI.out.ot
            have h3 := (HB2.out.block _ (Array.getElem?_eq_some_iff.1 h1).1).trans h1
            rw [HO1.out] at h3
            injection h3 with h3
            injection h3 with h3 _ _
            simp at h3
            rw [← h3, HNO.out] at h2
            exact h2
          have hOW : W.heap[w2.heap.size]? = some (.cells #[.slice ao no po] 56 (0, 0)) := by
            obtain ⟨vo, h1, _, _⟩ := HI.out.ot
            have h3 := (HB2.out.block _ (Array.getElem?_eq_some_iff.1 h1).1).trans h1
            rw [HO1.out] at h3
            rw [h1, ← h3, HNO.out]
          have hkp : Kp60 w.heap.size W w5 := Kp60.keeps33 hob hkA (by omega) (fun g hg => by have := hgeo g hg; omega)
          refine ⟨(keepsFrom_own hob hkA).trans ((KeepsOthers.setCell _ _ _).from _), kp60_t hkp (Kp60.setO HH5.out (by have := HBX2.out.lt; omega) _), ?_⟩
          refine ⟨(HI.out.B.trans hkp.1).setCell (p := ⟨w2.heap.size, 0, none⟩) (by have := HBX2.out.lt; show w.heap.size ≤ w2.heap.size; omega) _, ?_, ?_, ?_⟩
          · refine HI.out.bx.of_blocks fun g h1 h2 => ?_
            have := HBX2.out.lt
            refine (Below.heap_setCell w5 ⟨w2.heap.size, 0, none⟩ _ g (by show g ≠ w2.heap.size; omega)).trans (hkA.block g (by have := HI.out.bx.lt; omega) fun hm => ?_)
            have := hgeo g hm
            omega
          · intro y hy
            rcases List.mem_append.1 hy with hy | hy
            · exact HI.out.ok y hy
            · rw [List.mem_singleton] at hy
              subst hy
              show (clash _ _ && (kindF now an ak fl == 1)) = false
              rw [HK1.out, Bool.and_false]
          · have hoth : othersF ⟨id, famN b, ip, port⟩ (pre ++ [(xa, ⟨⟨id, f', p', q'⟩, kd, an, ak, fl⟩)]) = othersF ⟨id, famN b, ip, port⟩ pre ++ [⟨id, f', p', q'⟩] := by
              unfold othersF
              rw [List.filter_append, List.map_append]
              simp [HCL.out]
            refine ⟨_, setCell_heap w5 ⟨w2.heap.size, 0, none⟩ _ rfl HH5.out, ?_, fun g hg => ?_⟩
            · rw [hoth]
              unfold OwnN
              rw [List.length_append, nds_snoc, HNO.out]
              exact HO5.out.setO _ (fun hm => by
                rcases HF5.out _ hm with h | h
                · have := HO3'.out _ h; omega
                · simp at h; omega)
            · rcases HF5.out g hg with h | h
              · exact HO3'.out g h
              · simp at h; omega
      · have hib : (i'.toList == id.toList) = false := by rw [beq_eq_false_iff_ne]; exact fun h => hi (bytes_eq h)
        have hip : ¬ i'.toList = id.toList := fun h => hi (bytes_eq h)
        cases q3 : decide (f' = famN b ∧ p' = ip ∧ q' = port) with
        | true =>
          rw [q3] at h31
          have HI' := Lib.hid hi
          have Q3 := Lib.hid q3
          clear hi q3
          have hcl : clash ⟨id, famN b, ip, port⟩ ⟨⟨i', f', p', q'⟩, kd, an, ak, fl⟩ = true := by unfold clash; simp only [q1]; (rw [Q3.out]; simp)
          cases hk1 : (kindF now an ak fl == 1) with
          | true =>
            gi_wp2_with fail
            refine (callsIn_wide.2 (kind_calls _ _ _ _ _ _ _ _ _ _)).mono ?_
            rintro e2 W2 ⟨rfl, hb2⟩
            have hbx2 := HI.out.bx.ext hb2
            have y2 := cells1 hbx2.b2
            have y3 := cells1 hbx2.b3
            have u2 := unfrozen0 hbx2.b2 0
            have u3 := unfrozen0 hbx2.b3 0
            have hl2 := hbx2.lt
            have HBX := Lib.hid hbx2
            have HB2 := Lib.hid hb2
            have HCL := Lib.hid hcl
            have HK1 := Lib.hid hk1
            clear hbx2 hb2 hcl q1
            gi_wp2
            refine ⟨((KeepsFrom.of_below HB2.out).trans ((KeepsOthers.setCell _ _ _).from _)).trans ((KeepsOthers.setCell _ _ _).from _), rfl, below_res (HI.out.B.trans (HB2.out.mono (by have := HI.out.B.size; omega))) _ _, HBX.out.res false, ?_⟩
            refine ⟨_, List.mem_append_right _ (List.mem_singleton.2 rfl), ?_⟩
            rw [HCL.out]
            show (kindF now an ak fl == 1) = true
            exact HK1.out
          | false =>
            gi_wp2_with fail
            refine (callsIn_wide.2 (kind_calls _ _ _ _ _ _ _ _ _ _)).mono ?_
            rintro e2 W2 ⟨rfl, hb2⟩
            have hbx2 := HI.out.bx.ext hb2
            have hz2 := (hb2.block bx (Array.getElem?_eq_some_iff.1 HBB.out).1).trans HBB.out
            obtain ⟨z0, z1, z2, z3, z4, z5, z6, z7⟩ := cells8 hz2
            obtain ⟨vo, ho1, ho2, ho3⟩ := HI.out.ot
            obtain ⟨ao, po, rfl, _⟩ := ho2.shape
            have ho1' := (hb2.block _ (Array.getElem?_eq_some_iff.1 ho1).1).trans ho1
            have yo := cells1 ho1'
            have uo := unfrozen0 ho1' 0
            have ho2' := ho2.ext hb2
            have hlo : w2.heap.size < W2.heap.size := (Array.getElem?_eq_some_iff.1 ho1').1
            have hlen16 : (othersF ⟨id, famN b, ip, port⟩ pre).length ≤ 3000 := by
              unfold othersF
              rw [List.length_map]
              have := List.length_filter_le (fun x : Nat × Ent => clash ⟨id, famN b, ip, port⟩ x.2) pre
              have := HLEN.out
              omega
            have HBX := Lib.hid hbx2
            have HB2 := Lib.hid hb2
            have HCL := Lib.hid hcl
            have HK1 := Lib.hid hk1
            have HO1 := Lib.hid ho1'
            have HO2 := Lib.hid ho2'
            have HO3 := Lib.hid ho3
            obtain ⟨no, hno⟩ : ∃ no, (othersF ⟨id, famN b, ip, port⟩ pre).length = no := ⟨_, rfl⟩
            have HNO := Lib.hid hno
            rw [hno] at yo hlen16
            clear hbx2 hb2 hcl q1 ho1 ho1' ho2 ho2' ho3 hz2 hno
            have hnews := new_cells W2 (Nd.vals ⟨i', f', p', q'⟩) 33
            have HNW := Lib.hid hnews
            have hoa := HO2.out.alloc (.cells (Nd.vals ⟨i', f', p', q'⟩).toArray 33)
            rw [HNO.out] at hoa
            have HOA := Lib.hid hoa
            clear hnews hoa
            gi_wp2_with (
              gi_at_builtin
              refine wpListIn_append' rfl rfl En rfl HOA.out (Nd.vals ⟨i', f', p', q'⟩) rfl rfl HNW.out (nd_one _) (by unfold maxLen; omega) (by omega) ?_
              intro v5 w5 ho5 hk5 hf5 hz5
              have hO3 := (Below.heap_alloc W2 (.cells (Nd.vals ⟨i', f', p', q'⟩).toArray 33) _ hlo).trans HO1.out
              rw [HNO.out] at hO3
              have ho3' := HO3.out
              rw [HNO.out] at ho3'
              have hO5 := (hk5.block w2.heap.size (by simp; omega) (fun hm => by have := ho3' _ hm; omega)).trans hO3
              obtain ⟨a5, p5, rfl, _⟩ := ho5.shape
              have yo5 := cells1 hO5
              have uo5 := unfrozen0 hO5 0
              have hlo5 : w2.heap.size < w5.heap.size := (Array.getElem?_eq_some_iff.1 hO5).1
              have HO5 := Lib.hid ho5
              have HK5 := Lib.hid hk5
              have HF5 := Lib.hid hf5
              have HH5 := Lib.hid hO5
              have HO3' := Lib.hid ho3'
              clear ho5 hk5 hf5 hz5 hO3 hO5 ho3' yo uo)
            have hs2 := HI.out.B.size
            have hkA : Keeps (fpv (.slice ao no po)) W w5 := (HB2.out.keep.trans ((Keeps.refl _ W2).alloc _)).trans HK5.out
            have hgeo : ∀ g ∈ fpv (.slice ao no po), w.heap.size + 3 < g := fun g hg => by have := HO3'.out g hg; have := HBX2.out.lt; omega
            have hob : OwnN W (.slice ao no po) (othersF ⟨id, famN b, ip, port⟩ pre) := by
              obtain ⟨vo, h1, h2, _⟩ := HI.out.ot
              have h3 := (HB2.out.block _ (Array.getElem?_eq_some_iff.1 h1).1).trans h1
              rw [HO1.out] at h3
              injection h3 with h3
              injection h3 with h3 _ _
              simp at h3
              rw [← h3, HNO.out] at h2
              exact h2
            have hOW : W.heap[w2.heap.size]? = some (.cells #[.slice ao no po] 56 (0, 0)) := by
              obtain ⟨vo, h1, _, _⟩ := HI.out.ot
              have h3 := (HB2.out.block _ (Array.getElem?_eq_some_iff.1 h1).1).trans h1
              rw [HO1.out] at h3
              rw [h1, ← h3, HNO.out]
            have hkp : Kp60 w.heap.size W w5 := Kp60.keeps33 hob hkA (by omega) (fun g hg => by have := hgeo g hg; omega)
            refine ⟨(keepsFrom_own hob hkA).trans ((KeepsOthers.setCell _ _ _).from _), kp60_t hkp (Kp60.setO HH5.out (by have := HBX2.out.lt; omega) _), ?_⟩
            refine ⟨(HI.out.B.trans hkp.1).setCell (p := ⟨w2.heap.size, 0, none⟩) (by have := HBX2.out.lt; show w.heap.size ≤ w2.heap.size; omega) _, ?_, ?_, ?_⟩
            · refine HI.out.bx.of_blocks fun g h1 h2 => ?_
              have := HBX2.out.lt
              refine (Below.heap_setCell w5 ⟨w2.heap.size, 0, none⟩ _ g (by show g ≠ w2.heap.size; omega)).trans (hkA.block g (by have := HI.out.bx.lt; omega) fun hm => ?_)
              have := hgeo g hm
              omega
            · intro y hy
              rcases List.mem_append.1 hy with hy | hy
              · exact HI.out.ok y hy
              · rw [List.mem_singleton] at hy
                subst hy
                show (clash _ _ && (kindF now an ak fl == 1)) = false
                rw [HK1.out, Bool.and_false]
            · have hoth : othersF ⟨id, famN b, ip, port⟩ (pre ++ [(xa, ⟨⟨i', f', p', q'⟩, kd, an, ak, fl⟩)]) = othersF ⟨id, famN b, ip, port⟩ pre ++ [⟨i', f', p', q'⟩] := by
                unfold othersF
                rw [List.filter_append, List.map_append]
                simp [HCL.out]
              refine ⟨_, setCell_heap w5 ⟨w2.heap.size, 0, none⟩ _ rfl HH5.out, ?_, fun g hg => ?_⟩
              · rw [hoth]
                unfold OwnN
                rw [List.length_append, nds_snoc, HNO.out]
                exact HO5.out.setO _ (fun hm => by
                  rcases HF5.out _ hm with h | h
                  · have := HO3'.out _ h; omega
                  · simp at h; omega)
              · rcases HF5.out g hg with h | h
                · exact HO3'.out g h
                · simp at h; omega
        | false =>
          rw [q3] at h31
          have hcl : clash ⟨id, famN b, ip, port⟩ ⟨⟨i', f', p', q'⟩, kd, an, ak, fl⟩ = false := by unfold clash; simp only [q1, q3]; simp [hi]
          have HCL := Lib.hid hcl
          clear hcl q1 q3 hi
          gi_wp2
          exact ⟨KeepsFrom.refl _ _, ⟨Below.refl _ _, fun _ _ _ _ => rfl⟩, HI.out.skip HCL.out⟩
  case done =>
    rintro D xs W hD rfl hI hK
    have hDge : w.heap.size ≤ D := by omega
    have hlD : lab D = none := by
      cases hl : lab D with
      | none => rfl
      | some j => have := HT.out.lt _ _ hl; omega
    have hTW : TbIn W t own now lab m v L := HT2.out.of_blocks hI.B.size fun g hg => by
      cases hl : lab g with
      | none => exact absurd hl hg
      | some j => exact hI.B.block g (HT.out.lt _ _ hl)
    obtain ⟨vo, ho1, ho2, ho3⟩ := hI.ot
    obtain ⟨ao, po, rfl, _⟩ := ho2.shape
    have hKW : KeepL lab w W := ⟨hI.B.os.trans HK2.out.os, hI.B.tape.trans HK2.out.tape, hI.B.output.trans HK2.out.output, Nat.le_trans HK2.out.size hI.B.size, fun g hg hl => (hI.B.block g hg).trans (HK2.out.block g hg hl)⟩
    have hsf : seenF own now ((L b).map (·.k)) ⟨id, famN b, ip, port⟩ ans = (match ofF (dropsF ((L b).map (·.k)) (othersF ⟨id, famN b, ip, port⟩ (allP (L b)))) id with
      | none => (false, dropsF ((L b).map (·.k)) (othersF ⟨id, famN b, ip, port⟩ (allP (L b))))
      | some i => match (dropsF ((L b).map (·.k)) (othersF ⟨id, famN b, ip, port⟩ (allP (L b))))[i]? with
        | none => (false, dropsF ((L b).map (·.k)) (othersF ⟨id, famN b, ip, port⟩ (allP (L b))))
        | some k => match knownF now k ⟨id, famN b, ip, port⟩ ans with
          | some k' => (true, (dropsF ((L b).map (·.k)) (othersF ⟨id, famN b, ip, port⟩ (allP (L b)))).set i k')
          | none => placeF own now 161 (dropsF ((L b).map (·.k)) (othersF ⟨id, famN b, ip, port⟩ (allP (L b)))) (notedF now ⟨⟨id, famN b, ip, port⟩, 0, -1, -1, 0⟩ ans)) := by
      unfold seenF
      rw [if_neg]
      · have : ((allE ((L b).map (·.k))).filter (clash ⟨id, famN b, ip, port⟩)).map (·.nd) = othersF ⟨id, famN b, ip, port⟩ (allP (L b)) := by
          rw [allE_P, List.filter_map, List.map_map]
          rfl
        rw [this]
        rfl
      · rw [allE_P, List.any_map]
        intro h
        obtain ⟨x, hx, hb⟩ := List.any_eq_true.1 h
        have := hI.ok x hx
        simp only [Function.comp] at hb
        rw [this] at hb
        cases hb
    obtain ⟨os, hos⟩ : ∃ os, othersF ⟨id, famN b, ip, port⟩ (allP (L b)) = os := ⟨_, rfl⟩
    have hosF : ∀ x ∈ os, x.id.size = 20 ∧ x.fam = famN b := by
      intro x hx
      rw [← hos] at hx
      unfold othersF at hx
      obtain ⟨y, hy, rfl⟩ := List.mem_map.1 hx
      have hy := (List.mem_filter.1 hy).1
      obtain ⟨z, hz, hyz⟩ := List.mem_flatMap.1 hy
      obtain ⟨e, he, rfl⟩ := List.mem_map.1 hyz
      have := ((HF.out b).bk z.k (List.mem_map.2 ⟨z, hz, rfl⟩)).all e (List.mem_append.1 he)
      exact ⟨this.1, this.2.1⟩
    rw [hos] at ho1 ho2 ho3 hsf
    have hosl : os.length ≤ 3000 := by
      rw [← hos]
      unfold othersF
      rw [List.length_map]
      have h1 := List.length_filter_le (fun x : Nat × Ent => clash ⟨id, famN b, ip, port⟩ x.2) (allP (L b))
      have : ∀ l : List Pl, (∀ x ∈ l, x.k.ents.length ≤ 8 ∧ x.k.spare.length ≤ 8) → (allP l).length ≤ 16 * l.length := by
        intro l
        induction l with
        | nil => intro _; simp [allP]
        | cons y l ih =>
          intro hy
          have h1 := ih (fun x hx => hy x (List.mem_cons_of_mem _ hx))
          have h2 := hy y (by simp)
          show (ents y ++ allP l).length ≤ _
          rw [List.length_append]
          have : (ents y).length = y.k.ents.length + y.k.spare.length := by simp [ents]
          simp
          omega
      have h2 := this _ HSZS.out
      have := HLL.out
      omega
    have yo := cells1 ho1
    have hWs := hI.bx.lt
    have hWO : w2.heap.size < W.heap.size := (Array.getElem?_eq_some_iff.1 ho1).1
    have hWD : D < W.heap.size := (Array.getElem?_eq_some_iff.1 hK).1
    have HTW := Lib.hid hTW
    have HKW := Lib.hid hKW
    have HSF := Lib.hid hsf
    have HOF := Lib.hid hosF
    have HO1 := Lib.hid ho1
    have HO2 := Lib.hid ho2
    have HO3 := Lib.hid ho3
    have HD := Lib.hid hK
    have HBW := Lib.hid hI.bx
    have HLD := Lib.hid hlD
    have hlW : ∀ g, w.heap.size ≤ g → lab g = none := fun g hg => by
      cases hl : lab g with
      | none => rfl
      | some j => have := HT.out.lt _ _ hl; omega
    have HLW := Lib.hid hlW
    clear hI hTW hKW hsf hosF ho1 ho2 ho3 hK hlD hlW hos
    gi_wp2_with fail
    gi_loopw [77] (fun jv wr => ∃ (j : Nat) (labj : Nat → Option Nat) (Lj : Bool → List Pl), j ≤ os.length ∧ jv = .int .i64 j ∧ Hid (TbIn wr t own now labj m v Lj) ∧ Hid (∀ c, (Lj c).map (·.k) = if c = b then dropsF ((L b).map (·.k)) (os.take j) else (L c).map (·.k)) ∧ Hid (∀ g, g < W.heap.size → lab g = none → labj g = none) ∧ Hid (KeepL lab W wr)) (fun jv _ => os.length - (intOf jv).toNat)
    case atStart => exact ⟨0, lab, L, by omega, rfl, HTW.out, fun c => by by_cases hc : c = b <;> simp [hc, dropsF], fun _ _ h => h, KeepL.refl _ _⟩
    case round =>
      obtain ⟨j, labj, Lj, hj, rfl, HTJ, HMJ, HLJ, HKJ⟩ := hrel
      by_cases hjl : j < os.length
      · obtain ⟨x, hx⟩ : ∃ x, os[j]? = some x := ⟨os[j], List.getElem?_eq_getElem hjl⟩
        obtain ⟨hx20, hxf⟩ := HOF.out x (List.mem_of_getElem? hx)
        have hOj : OwnN wr (.slice ao os.length po) os := HO2.out.of_blocks fun g hg => HKJ.out.block g (HO2.out.fp_lt g hg) (HLW.out g (by have := HO3.out g hg; omega))
        obtain ⟨go, cap, hv, _, _, _, _⟩ := hOj.row (by omega)
        injection hv with ha _ hcap
        subst ha hcap
        have hcg : ∀ jj, jj < 4 → ∀ u, x.vals[jj]? = some u → wr.cell? ⟨go, j * 4 + jj, none⟩ = some u := fun jj hjj u hu => hOj.cell rfl (by rw [nds_get hx hjj]; exact hu)
        have g0 := hcg 0 (by omega) _ rfl
        have g1 := hcg 1 (by omega) _ rfl
        have g2 := hcg 2 (by omega) _ rfl
        have g3 := hcg 3 (by omega) _ rfl
        simp only [Nat.add_zero] at g0
        have hlj := HMJ.out b
        rw [if_pos rfl] at hlj
        have hFj : FInv own b N ((Lj b).map (·.k)) := by rw [hlj]; exact (HF.out b).drops _
        obtain ⟨i, k, ho, hk, hh, hmem⟩ := hFj.of x.id
        obtain ⟨y, hy, hyk⟩ := pl_of_map hk
        subst hyk
        have hgood : ∀ u ∈ Lj b, GoodBk u.k := fun u hu => hFj.good u.k (List.mem_map.2 ⟨u, hu, rfl⟩)
        have hnext : dropsF ((L b).map (·.k)) (os.take (j + 1)) = ((Lj b).map (·.k)).set i (dropB y.k x) := by
          obtain ⟨hjl', rfl⟩ := List.getElem?_eq_some_iff.1 hx
          rw [List.take_succ_eq_append_getElem hjl', dropsF_snoc, ← hlj, ho, ← modify_set (fun k => dropB k os[j]) hk]
        obtain ⟨xi, xf, xp, xq⟩ := x
        simp only at hxf hx20 ho
        subst hxf
        obtain ⟨wa, hwa⟩ : ∃ wa, wr.alloc (.cells #[.string xi, .int .i64 (famN b), .string xp, .int .i64 xq] 33) = wa := ⟨_, rfl⟩
        have hBa : Below wr.heap.size wr wa := by rw [← hwa]; exact below_new (Below.refl _ _) _
        have hTa := HTJ.out.ext hBa
        have hofc := of_calls wa.drew t own now labj m v Lj hTa.drew b xi hx20 hgood i ho y hy
        have hba : wa.heap[wr.heap.size]? = some (.cells #[.string xi, .int .i64 (famN b), .string xp, .int .i64 xq] 33 (0, 0)) := by rw [← hwa]; exact heap_alloc_new wr _
        obtain ⟨e0, e1, e2, e3⟩ := cells4 hba
        have hbk := hTa.hk b y (List.mem_of_getElem? hy)
        have HOFC := Lib.hid hofc
        have HBK := Lib.hid hbk
        have HTA := Lib.hid hTa
        have HBA := Lib.hid hBa
        have HY := Lib.hid hy
        have HNX := Lib.hid hnext
        have HWA := Lib.hid hwa
        clear hx hOj hcg hlj hFj ho hk hh hmem hgood hnext hofc hbk hTa hBa hy hx20 hba hwa
        gi_wp2_with fail
        rw [HWA.out]
        refine wpIn_region_ord [(0,0),(1,0),(2,1),(3,0),(4,0),(5,1),(7,1),(6,2),(8,3)] (fun _ => trivial) (by kernel_rfl) (by kernel_rfl) (by kernel_rfl) ?_
        simp only [pickO, List.map_cons, List.map_nil, List.getD_cons_zero, List.getD_cons_succ]
        repeat (first | ((with_reducible refine wpI_skip ?_ ?_); rfl; simp only [Act.put, List.setIfInBounds_toArray, List.set_cons_zero, List.set_cons_succ]) | ((with_reducible refine wpI_step (fun K hK => ?_)); go_simp; (try go_bits); (first | (with_reducible refine hK _ _ ?_) | (simp only [IntWalk.iteOmega]; go_simp; (try go_bits); (with_reducible refine hK _ _ ?_))); clear hK K))
        (with_reducible refine wpI_step (fun K hK => ?_)); go_simp; (try go_bits)
        refine (callsIn_wide.2 HOFC.out).mono ?_
        rintro e5 w5 ⟨rfl, hb5⟩
        refine ⟨hb5, ?_⟩
        (with_reducible refine hK _ _ ?_); clear hK K
        have hB5 : Below wa.heap.size wa w5 := (Below.refl _ wa).drew.trans hb5
        repeat (first | ((with_reducible refine wpI_skip ?_ ?_); rfl; simp only [Act.put, List.setIfInBounds_toArray, List.set_cons_zero, List.set_cons_succ]) | ((with_reducible refine wpI_step (fun K hK => ?_)); go_simp; (try go_bits); (first | (with_reducible refine hK _ _ ?_) | (simp only [IntWalk.iteOmega]; go_simp; (try go_bits); (with_reducible refine hK _ _ ?_))); clear hK K))
        (with_reducible refine wpI_step (fun K hK => ?_)); go_simp; (try go_bits)
        refine (callsIn_wide.2 (drop_calls w5 y.a y.k y.S ⟨xi, famN b, xp, xq⟩ (HBK.out.ext hB5))).mono ?_
        rintro e6 w6 ⟨⟨v6, rfl⟩, hT6⟩
        obtain ⟨lab6, L6, hT6, hm6, hl6, hK6⟩ := (HTA.out.ext hB5).turn' HY.out hT6
        have HT6 := Lib.hid hT6
        have HM6 := Lib.hid hm6
        have HL6 := Lib.hid hl6
        have HK6 := Lib.hid hK6
        have HB5 := Lib.hid hB5
        clear hT6 hm6 hl6 hK6 hB5
        (with_reducible refine hK _ _ ?_); clear hK K
        repeat (first | ((with_reducible refine wpI_skip ?_ ?_); rfl; simp only [Act.put, List.setIfInBounds_toArray, List.set_cons_zero, List.set_cons_succ]) | ((with_reducible refine wpI_step (fun K hK => ?_)); go_simp; (try go_bits); (first | (with_reducible refine hK _ _ ?_) | (simp only [IntWalk.iteOmega]; go_simp; (try go_bits); (with_reducible refine hK _ _ ?_))); clear hK K))
        (with_reducible refine wpI_nil ?_)
        gi_wp2
        go_roundw
        case rel =>
          refine ⟨j + 1, lab6, L6, by omega, by go_num, HT6.out, fun c => ?_, fun g hg hl => ?_, ?_⟩
          · rw [HM6.out c]
            by_cases hc : c = b
            · rw [if_pos hc, if_pos hc, HNX.out]
            · rw [if_neg hc, if_neg hc, HMJ.out c, if_neg hc]
          · exact HL6.out g (by have := HKJ.out.size; have := HBA.out.size; have := HB5.out.size; omega) (HLJ.out g hg hl)
          · exact HKJ.out.trans' HLJ.out ((KeepL.of_below (HBA.out.trans (HB5.out.mono HBA.out.size))).trans' (fun _ _ h => h) HK6.out)
        case measure => simp [intOf]; omega
      · obtain rfl : j = os.length := by omega
        have hlj := HMJ.out b
        rw [if_pos rfl, List.take_length] at hlj
        have hFj : FInv own b N ((Lj b).map (·.k)) := by rw [hlj]; exact (HF.out b).drops _
        obtain ⟨i, k, ho, hk, hh, hmem⟩ := hFj.of id
        obtain ⟨y, hy, hyk⟩ := pl_of_map hk
        subst hyk
        have hgood : ∀ u ∈ Lj b, GoodBk u.k := fun u hu => hFj.good u.k (List.mem_map.2 ⟨u, hu, rfl⟩)
        have hBIy := hFj.bk y.k hmem
        have hbxj : Bx wr w.heap.size now ⟨id, famN b, ip, port⟩ false := HBW.out.of_blocks fun g h1 h2 => HKJ.out.block g (by omega) (HLW.out g h1)
        obtain ⟨x0, x1, x2, x3⟩ := cells4 hbxj.b1
        have hofc := of_calls wr.drew t own now labj m v Lj HTJ.out.drew b id (vnF_fam HV.out).1 hgood i ho y hy
        have hsf2 : seenF own now ((L b).map (·.k)) ⟨id, famN b, ip, port⟩ ans = match knownF now y.k ⟨id, famN b, ip, port⟩ ans with
          | some k' => (true, ((Lj b).map (·.k)).set i k')
          | none => placeF own now 161 ((Lj b).map (·.k)) (notedF now ⟨⟨id, famN b, ip, port⟩, 0, -1, -1, 0⟩ ans) := by
          rw [HSF.out, ← hlj]
          simp only [ho, hk]
        have hbk := HTJ.out.hk b y (List.mem_of_getElem? hy)
        have htb : t ∉ y.a :: y.S := fun hm => by have h1 := HTJ.out.lk b y (List.mem_of_getElem? hy) t hm; rw [HTJ.out.l0] at h1; injection h1 with h1; omega
        have HOFC := Lib.hid hofc
        have HSF2 := Lib.hid hsf2
        have HBK := Lib.hid hbk
        have HTB := Lib.hid htb
        have HFJ := Lib.hid hFj
        have HBI := Lib.hid hBIy
        have HBXJ := Lib.hid hbxj
        have HY := Lib.hid hy
        clear hlj hFj ho hk hh hmem hgood hBIy hbxj hofc hsf2 hbk htb hy
        gi_wp2_with fail
        refine wpIn_region_ord [(0,0),(1,0),(2,0),(3,1),(4,0),(5,0),(6,1),(8,1),(9,0),(7,2),(10,3)] (fun _ => trivial) (by kernel_rfl) (by kernel_rfl) (by kernel_rfl) ?_
        simp only [pickO, List.map_cons, List.map_nil, List.getD_cons_zero, List.getD_cons_succ]
        repeat (first | ((with_reducible refine wpI_skip ?_ ?_); rfl; simp only [Act.put, List.setIfInBounds_toArray, List.set_cons_zero, List.set_cons_succ]) | ((with_reducible refine wpI_step (fun K hK => ?_)); go_simp; (try go_bits); (first | (with_reducible refine hK _ _ ?_) | (simp only [IntWalk.iteOmega]; go_simp; (try go_bits); (with_reducible refine hK _ _ ?_))); clear hK K))
        (with_reducible refine wpI_step (fun K hK => ?_)); go_simp; (try go_bits)
        refine (callsIn_wide.2 HOFC.out).mono ?_
        rintro e5 w5 ⟨rfl, hb5⟩
        refine ⟨hb5, ?_⟩
        (with_reducible refine hK _ _ ?_); clear hK K
        have hB5 : Below wr.heap.size wr w5 := (Below.refl _ wr).drew.trans hb5
        have hT5 := HTJ.out.ext hB5
        repeat (first | ((with_reducible refine wpI_skip ?_ ?_); rfl; simp only [Act.put, List.setIfInBounds_toArray, List.set_cons_zero, List.set_cons_succ]) | ((with_reducible refine wpI_step (fun K hK => ?_)); go_simp; (try go_bits); (first | (with_reducible refine hK _ _ ?_) | (simp only [IntWalk.iteOmega]; go_simp; (try go_bits); (with_reducible refine hK _ _ ?_))); clear hK K))
        (with_reducible refine wpI_step (fun K hK => ?_)); go_simp; (try go_bits)
        refine (callsIn_wide.2 (known_calls w5 t y.a now y.k y.S ⟨id, famN b, ip, port⟩ ans (cells3 hT5.hh).2.1 HTB.out (HBK.out.ext hB5) (by have := HBI.out.he; omega) (by have := HBI.out.hs; omega))).mono ?_
        have HT5 := Lib.hid hT5
        have HB5 := Lib.hid hB5
        clear hT5 hB5 hb5
        cases hkn : knownF now y.k ⟨id, famN b, ip, port⟩ ans with
        | some k1 =>
          rintro e6 w6 (⟨h6, _⟩ | ⟨k2, h6, rfl, hT6⟩)
          · cases h6
          · injection h6 with h6
            subst h6
            obtain ⟨lab6, L6, hT6, hm6, hl6, hK6⟩ := HT5.out.turn' HY.out hT6
            have hsf3 : seenF own now ((L b).map (·.k)) ⟨id, famN b, ip, port⟩ ans = (true, ((Lj b).map (·.k)).set i k1) := by rw [HSF2.out, hkn]
            have HT6 := Lib.hid hT6
            have HM6 := Lib.hid hm6
            have HL6 := Lib.hid (show ∀ g, g < W.heap.size → lab g = none → lab6 g = none from fun g hg hl => hl6 g (by have := HKJ.out.size; have := HB5.out.size; omega) (HLJ.out g hg hl))
            have HK6 := Lib.hid (show KeepL lab W w6 from HKJ.out.trans' HLJ.out ((KeepL.of_below HB5.out).trans' (fun _ _ h => h) hK6))
            have HSF3 := Lib.hid hsf3
            clear hT6 hm6 hl6 hK6 hkn hsf3
            have hbxe : Bx w6 w.heap.size now ⟨id, famN b, ip, port⟩ false := HBW.out.of_blocks fun g h1 h2 => HK6.out.block g (by omega) (HLW.out g h1)
            have hDe := (HK6.out.block D hWD (HLW.out D hDge)).trans HD.out
            have yy2 := cells1 hbxe.b2
            have yy3 := cells1 hbxe.b3
            have uu2 := unfrozen0 hbxe.b2 0
            have uu3 := unfrozen0 hbxe.b3 0
            have HBXE := Lib.hid hbxe
            have HDE := Lib.hid hDe
            clear hbxe hDe
            (with_reducible refine hK _ _ ?_); clear hK K
            repeat (first | ((with_reducible refine wpI_skip ?_ ?_); rfl; simp only [Act.put, List.setIfInBounds_toArray, List.set_cons_zero, List.set_cons_succ]) | ((with_reducible refine wpI_step (fun K hK => ?_)); go_simp; (try go_bits); (first | (with_reducible refine hK _ _ ?_) | (simp only [IntWalk.iteOmega]; go_simp; (try go_bits); (with_reducible refine hK _ _ ?_))); clear hK K))
            (with_reducible refine wpI_nil ?_)
            gi_wp2
            refine ⟨by simp, .inl ⟨_, _, rfl, run_takeDeferred (b := D) (((Below.heap_setCell _ ⟨w.heap.size + 1 + 1 + 1, 0, none⟩ _ D (by show D ≠ w.heap.size + 1 + 1 + 1; have := HBW.out.lt; omega)).trans (Below.heap_setCell _ ⟨w.heap.size + 1 + 1, 0, none⟩ _ D (by show D ≠ w.heap.size + 1 + 1; omega))).trans HDE.out), ?_⟩⟩
            have hbf := HBXE.out.res true
            have hDf : ((w6.setCell ⟨w.heap.size + 1 + 1, 0, none⟩ (.bool true)).setCell ⟨w.heap.size + 1 + 1 + 1, 0, none⟩ (.int .i64 0)).heap[D]? = some (.deferred (some [])) := ((Below.heap_setCell _ ⟨w.heap.size + 1 + 1 + 1, 0, none⟩ _ D (by show D ≠ w.heap.size + 1 + 1 + 1; omega)).trans (Below.heap_setCell _ ⟨w.heap.size + 1 + 1, 0, none⟩ _ D (by show D ≠ w.heap.size + 1 + 1; omega))).trans HDE.out
            have hc2 := cell_kept (cells1 hbf.b2) (grownBy_putObj' _ D (.deferred none)) (fun r e => by cases e; exact ⟨_, hDf, rfl⟩)
            have hc3 := cell_kept (cells1 hbf.b3) (grownBy_putObj' _ D (.deferred none)) (fun r e => by cases e; exact ⟨_, hDf, rfl⟩)
            refine ⟨.tuple #[.bool true, .int .i64 0], ?_, ?_⟩
            · simp [results, Tryz.f9, go_sem, hc2, hc3]
            · have hn1 := HL6.out (w.heap.size + 1 + 1) (by omega) (HLW.out _ (by omega))
              have hn2 := HL6.out (w.heap.size + 1 + 1 + 1) (by omega) (HLW.out _ (by omega))
              have hn3 := HL6.out D hWD (HLW.out D hDge)
              have hKf : KeepL lab w w6 := HKW.out.trans' (fun _ _ h => h) HK6.out
              rw [HSF3.out]
              exact ⟨rfl, _, _, _, ((HT6.out.set_none (a := ⟨w.heap.size + 1 + 1, 0, none⟩) _ hn1).set_none (a := ⟨w.heap.size + 1 + 1 + 1, 0, none⟩) _ hn2).put_none _ hn3, (fun c => by rw [HM6.out c]; by_cases hc : c = b <;> simp [hc, HMJ.out c]), fun g hg hl => HL6.out g (by have := HKW.out.size; omega) hl, ((hKf.set_ge (a := ⟨w.heap.size + 1 + 1, 0, none⟩) _ (by show w.heap.size ≤ w.heap.size + 1 + 1; omega)).set_ge (a := ⟨w.heap.size + 1 + 1 + 1, 0, none⟩) _ (by show w.heap.size ≤ w.heap.size + 1 + 1 + 1; omega)).put_ge _ hDge⟩
        | none =>
          rintro e6 w6 (⟨h6, rfl, hb6⟩ | ⟨k2, h6, _⟩)
          · have hB6 : Below wr.heap.size wr w6 := below_ext HB5.out hb6
            have hT6 := HTJ.out.ext hB6
            obtain ⟨x0, x1, x2, x3⟩ := cells4 (HBXJ.out.ext hB6).b1
            obtain ⟨e', he'⟩ : ∃ e', notedF now ⟨⟨id, famN b, ip, port⟩, 0, -1, -1, 0⟩ ans = e' := ⟨_, rfl⟩
            have hnd : e'.nd = ⟨id, famN b, ip, port⟩ := by rw [← he', notedF_nd]
            have hfl : e'.fl = 0 := by rw [← he']; rcases notedF_fl now ⟨⟨id, famN b, ip, port⟩, 0, -1, -1, 0⟩ ans with h | h <;> rw [h]
            have hno := noted_calls w6 t now ⟨⟨id, famN b, ip, port⟩, 0, -1, -1, 0⟩ ans (cells3 hT6.hh).2.1
            rw [he'] at hno
            have hsf3 : seenF own now ((L b).map (·.k)) ⟨id, famN b, ip, port⟩ ans = placeF own now 161 ((Lj b).map (·.k)) e' := by rw [HSF2.out, hkn, ← he']
            have HNO : Hid (Calls Tryz.prog 32 #[.pointer (some ⟨t, 0, none⟩), .agg #[.string id, .int .i64 (famN b), .string ip, .int .i64 port, .int .i64 0, .int .i64 (-1), .int .i64 (-1), .int .i64 0], .bool ans] w6 (Ret w6 (entV e'))) := hno
            have HB6 := Lib.hid hB6
            have HT6 := Lib.hid hT6
            have HND := Lib.hid hnd
            have HFL := Lib.hid hfl
            have HSF3 := Lib.hid hsf3
            clear hB6 hT6 he' hnd hfl hno hsf3 hkn hb6 h6
            (with_reducible refine hK _ _ ?_); clear hK K
            repeat (first | ((with_reducible refine wpI_skip ?_ ?_); rfl; simp only [Act.put, List.setIfInBounds_toArray, List.set_cons_zero, List.set_cons_succ]) | ((with_reducible refine wpI_step (fun K hK => ?_)); go_simp; (try go_bits); (first | (with_reducible refine hK _ _ ?_) | (simp only [IntWalk.iteOmega]; go_simp; (try go_bits); (with_reducible refine hK _ _ ?_))); clear hK K))
            (with_reducible refine wpI_nil ?_)
            gi_wp2_with fail
            refine (callsIn_wide.2 HNO.out).mono ?_
            rintro e7 w7 ⟨rfl, hb7⟩
            have hT7 := HT6.out.ext hb7
            obtain ⟨d, hd, hch⟩ := HFJ.out.ch
            have hpl := place_ok 161 w7 t own now labj m v Lj hT7 HOW.out b N HFJ.out hN d hd hch (by omega) e' (by rw [HND.out]; exact (vnF_fam HV.out).1) (by rw [HND.out]) HFL.out
            have HPL := Lib.hid hpl
            have HB7 := Lib.hid (below_ext HB6.out hb7)
            clear hT7 hch hpl hb7 hd
            gi_wp2_with fail
            refine (callsIn_wide.2 HPL.out).mono ?_
            rintro e8 w8 ⟨rfl, lab8, v8, L8, hT8, hm8, hl8, -, hK8⟩
            obtain ⟨r8, hr8⟩ : ∃ r, placeF own now 161 ((Lj b).map (·.k)) e' = r := ⟨_, rfl⟩
            rw [hr8] at hm8
            have hsf4 := HSF3.out
            rw [hr8] at hsf4
            rw [hr8]
            obtain ⟨rb, rl⟩ := r8
            have HT8 := Lib.hid hT8
            have HM8 := Lib.hid hm8
            have HSF4 := Lib.hid hsf4
            have HL8 := Lib.hid (show ∀ g, g < W.heap.size → lab g = none → lab8 g = none from fun g hg hl => hl8 g (by have := HKJ.out.size; have := HB7.out.size; omega) (HLJ.out g hg hl))
            have HK8 := Lib.hid (show KeepL lab W w8 from HKJ.out.trans' HLJ.out ((KeepL.of_below HB7.out).trans' (fun _ _ h => h) hK8))
            clear hT8 hm8 hl8 hK8 hsf4 hr8
            have hbxe : Bx w8 w.heap.size now ⟨id, famN b, ip, port⟩ false := HBW.out.of_blocks fun g h1 h2 => HK8.out.block g (by omega) (HLW.out g h1)
            have hDe := (HK8.out.block D hWD (HLW.out D hDge)).trans HD.out
            have yy2 := cells1 hbxe.b2
            have yy3 := cells1 hbxe.b3
            have uu2 := unfrozen0 hbxe.b2 0
            have uu3 := unfrozen0 hbxe.b3 0
            have HBXE := Lib.hid hbxe
            have HDE := Lib.hid hDe
            clear hbxe hDe
            gi_wp2
            refine ⟨by simp, .inl ⟨_, _, rfl, run_takeDeferred (b := D) (((Below.heap_setCell _ ⟨w.heap.size + 1 + 1 + 1, 0, none⟩ _ D (by show D ≠ w.heap.size + 1 + 1 + 1; have := HBW.out.lt; omega)).trans (Below.heap_setCell _ ⟨w.heap.size + 1 + 1, 0, none⟩ _ D (by show D ≠ w.heap.size + 1 + 1; omega))).trans HDE.out), ?_⟩⟩
            have hbf := HBXE.out.res rb
            have hDf : ((w8.setCell ⟨w.heap.size + 1 + 1, 0, none⟩ (.bool rb)).setCell ⟨w.heap.size + 1 + 1 + 1, 0, none⟩ (.int .i64 0)).heap[D]? = some (.deferred (some [])) := ((Below.heap_setCell _ ⟨w.heap.size + 1 + 1 + 1, 0, none⟩ _ D (by show D ≠ w.heap.size + 1 + 1 + 1; omega)).trans (Below.heap_setCell _ ⟨w.heap.size + 1 + 1, 0, none⟩ _ D (by show D ≠ w.heap.size + 1 + 1; omega))).trans HDE.out
            have hc2 := cell_kept (cells1 hbf.b2) (grownBy_putObj' _ D (.deferred none)) (fun r e => by cases e; exact ⟨_, hDf, rfl⟩)
            have hc3 := cell_kept (cells1 hbf.b3) (grownBy_putObj' _ D (.deferred none)) (fun r e => by cases e; exact ⟨_, hDf, rfl⟩)
            refine ⟨.tuple #[.bool rb, .int .i64 0], ?_, ?_⟩
            · simp [results, Tryz.f9, go_sem, hc2, hc3]
            · have hn1 := HL8.out (w.heap.size + 1 + 1) (by omega) (HLW.out _ (by omega))
              have hn2 := HL8.out (w.heap.size + 1 + 1 + 1) (by omega) (HLW.out _ (by omega))
              have hn3 := HL8.out D hWD (HLW.out D hDge)
              have hKf : KeepL lab w w8 := HKW.out.trans' (fun _ _ h => h) HK8.out
              rw [HSF4.out]
              exact ⟨rfl, _, _, _, ((HT8.out.set_none (a := ⟨w.heap.size + 1 + 1, 0, none⟩) _ hn1).set_none (a := ⟨w.heap.size + 1 + 1 + 1, 0, none⟩) _ hn2).put_none _ hn3, (fun c => by rw [HM8.out c]; by_cases hc : c = b <;> simp [hc, HMJ.out c]), fun g hg hl => HL8.out g (by have := HKW.out.size; omega) hl, ((hKf.set_ge (a := ⟨w.heap.size + 1 + 1, 0, none⟩) _ (by show w.heap.size ≤ w.heap.size + 1 + 1; omega)).set_ge (a := ⟨w.heap.size + 1 + 1 + 1, 0, none⟩) _ (by show w.heap.size ≤ w.heap.size + 1 + 1 + 1; omega)).put_ge _ hDge⟩
          · cases h6
  case stop =>
    rintro D c pre W hD ⟨r, hr⟩ ⟨rfl, hX⟩ hK
    have hDge : w.heap.size ≤ D := by omega
    have hlD : lab D = none := by
      cases hl : lab D with
      | none => rfl
      | some j => have := HT.out.lt _ _ hl; omega
    have hTW : TbIn W t own now lab m v L := HT2.out.of_blocks hX.B.size fun g hg => by
      cases hl : lab g with
      | none => exact absurd hl hg
      | some j => exact hX.B.block g (HT.out.lt _ _ hl)
    have hKW : KeepL lab w W := ⟨hX.B.os.trans HK2.out.os, hX.B.tape.trans HK2.out.tape, hX.B.output.trans HK2.out.output, Nat.le_trans HK2.out.size hX.B.size, fun g hg hl => (hX.B.block g hg).trans (HK2.out.block g hg hl)⟩
    have hsf : seenF own now ((L b).map (·.k)) ⟨id, famN b, ip, port⟩ ans = (false, (L b).map (·.k)) := by
      unfold seenF
      rw [if_pos]
      rw [allE_P, ← hr, List.any_map, List.any_append]
      obtain ⟨x, hx, hb⟩ := hX.bad
      have : pre.any ((fun e => clash ⟨id, famN b, ip, port⟩ e && kindE now e == 1) ∘ (·.2)) = true := List.any_eq_true.2 ⟨x, hx, hb⟩
      rw [this, Bool.true_or]
    have y2 := cells1 hX.bx.b2
    have y3 := cells1 hX.bx.b3
    gi_wp2
    refine ⟨by simp, .inl ⟨_, _, rfl, run_takeDeferred hK, ?_⟩⟩
    have hc2 := cell_kept y2 (grownBy_putObj' _ D (.deferred none)) (fun r e => by cases e; exact ⟨_, hK, rfl⟩)
    have hc3 := cell_kept y3 (grownBy_putObj' _ D (.deferred none)) (fun r e => by cases e; exact ⟨_, hK, rfl⟩)
    refine ⟨.tuple #[.bool false, .int .i64 0], ?_, ?_⟩
    · simp [results, Tryz.f9, go_sem, hc2, hc3]
    · (try rw [hsf])
      exact ⟨rfl, lab, v, L, hTW.put_none _ hlD, fun c => by by_cases hc : c = b <;> simp [hc], fun _ _ h => h, hKW.put_ge _ hDge⟩
end Go.Proofs.Tc
