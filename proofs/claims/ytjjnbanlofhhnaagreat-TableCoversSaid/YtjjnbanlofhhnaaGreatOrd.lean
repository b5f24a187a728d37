/-
  A region that draws its order, walked once, in an order of our own: operations that look at no world (kind 0), loads (1), operations that only
  lay new memory (2), others (3): where whatever is not ordered by the region's own edges commutes.
-/
import Derived.Still
import Derived.Below
import Derived.WalkKit
namespace Go.Proofs.Tc
open Go.RowKit

/-! ### A load does the same in a greater world -/
theorem seen_of_block {p : Program} {w w' : World} {at_ : Addr} (h : w'.heap[at_.block]? = w.heap[at_.block]?) (u : TypeId) (k : Addr) (b : Bool) :
    w'.seen p at_ u k b = w.seen p at_ u k b := by
  unfold World.seen
  rw [h]

theorem seen_none {p : Program} {w : World} {at_ : Addr} (h : w.heap[at_.block]? = none) (u : TypeId) (k : Addr) (b : Bool) (r) :
    w.seen p at_ u k b ≠ .ok r := by
  unfold World.seen
  rw [h]
  simp only [bind, Except.bind]
  intro hh
  repeat' split at hh
  all_goals (cases hh; done)

theorem viewLoad_ext {p : Program} {w W : World} {at_ : Addr} {u : TypeId} {k : Addr} {b : Bool} {r} (h : w.viewLoad p at_ u k b = .ok r) (hB : Below w.heap.size w W) : W.viewLoad p at_ u k b = .ok r := by
  by_cases hlt : at_.block < w.heap.size
  · have := seen_of_block (p := p) (hB.block _ hlt) u k b
    unfold World.viewLoad at *
    rw [this]; exact h
  · exfalso
    have hn : w.heap[at_.block]? = none := Array.getElem?_eq_none (by omega)
    have := seen_none (p := p) hn u k b
    unfold World.viewLoad at h
    cases hs : w.seen p at_ u k b with
    | ok r => exact this r hs
    | error e => rw [hs] at h; simp [bind, Except.bind] at h

def Calm {α : Type} : Sem α → Prop
  | .pure _ => True
  | .load _ _ k => ∀ v, Calm (k v)
  | .program k => ∀ p, Calm (k p)
  | .halt _ => True
  | _ => False

theorem Calm.bind {α β : Type} {s : Sem α} {f : α → Sem β} (h : Calm s) (hf : ∀ a, Calm (f a)) : Calm (s >>= f) := by
  show Calm (s.bind f)
  induction s with
  | pure a => exact hf a
  | load m a k ih => exact fun v => ih v (h v)
  | program k ih => exact fun p => ih p (h p)
  | halt x => trivial
  | store => exact h.elim
  | new => exact h.elim
  | shape => exact h.elim
  | freeze => exact h.elim
  | frozen => exact h.elim
  | getObj => exact h.elim
  | setObj => exact h.elim
  | choose => exact h.elim
  | sys => exact h.elim
  | mark => exact h.elim

theorem Calm.run {α : Type} {P : Program} {s : Sem α} (h : Calm s) {w w' : World} {v : α} (hr : s.run P w = .ok v w') :
    w' = w ∧ ∀ W, Below w.heap.size w W → s.run P W = .ok v W := by
  induction s with
  | pure a => simp only [Sem.run, Result.ok.injEq] at hr; obtain ⟨rfl, rfl⟩ := hr; exact ⟨rfl, fun _ _ => rfl⟩
  | load m a k ih =>
    simp only [Sem.run] at hr
    cases hc : w.cell? a with
    | some u =>
      rw [hc] at hr
      obtain ⟨e, hW⟩ := ih u (h u) hr
      refine ⟨e, fun W hB => ?_⟩
      have hlt := World.block_lt_of_cell? w _ hc
      simp only [Sem.run]
      rw [hB.cell hlt, hc]
      exact hW W hB
    | none =>
      rw [hc] at hr
      simp only at hr
      cases hf : w.farLoad P a (m == .atomic) with
      | error e => rw [hf] at hr; cases hr
      | ok r =>
        obtain ⟨u, l⟩ := r
        rw [hf] at hr
        obtain ⟨e, hW⟩ := ih u (h u) hr
        refine ⟨e, fun W hB => ?_⟩
        simp only [Sem.run]
        unfold World.farLoad at hf
        split at hf
        · rename_i at_ u' hv
          have hlt : a.block < w.heap.size := (Array.getElem?_eq_some_iff.1 hv).1
          split at hf
          · rename_i r' hl
            have hl' := viewLoad_ext hl hB
            have hv' := (hB.block _ hlt).trans hv
            rw [hB.cell hlt, hc]
            have : W.farLoad P a (m == .atomic) = .ok (u, l) := by
              unfold World.farLoad
              rw [hv']
              simp only
              rw [hl']
              exact hf
            rw [this]
            exact hW W hB
          · cases hf
        · cases hf
  | program k ih => exact ih P (h P) hr
  | halt x => simp [Sem.run] at hr
  | store => exact h.elim
  | new => exact h.elim
  | shape => exact h.elim
  | freeze => exact h.elim
  | frozen => exact h.elim
  | getObj => exact h.elim
  | setObj => exact h.elim
  | choose => exact h.elim
  | sys => exact h.elim
  | mark => exact h.elim

theorem calm_pure {α : Type} (a : α) : Calm (pure a : Sem α) := trivial
theorem calm_info (t : TypeId) : Calm (typeInfo t) := by
  refine Calm.bind (s := program) (fun _ => trivial) fun p => ?_
  split <;> trivial
theorem calm_underlying (t : TypeId) : Calm (underlying t) := by
  refine Calm.bind (s := program) (fun _ => trivial) fun p => ?_
  split <;> trivial
theorem calm_cells (a : Addr) : ∀ (n i : Nat) (acc : Array Value), Calm (loadCellsFrom a i n acc)
  | 0, _, _ => trivial
  | n + 1, i, acc => Calm.bind (fun _ => trivial) fun v => calm_cells a n (i + 1) (acc.push v)
theorem calm_loadAt (t : TypeId) (x : Value) : Calm (Instr.loadAt t x) := by
  unfold Instr.loadAt
  refine Calm.bind ?_ fun a => ?_
  · unfold Instr.sureAddr; split <;> trivial
  · unfold loadVar
    refine Calm.bind ?_ fun b => ?_
    · unfold isAgg
      refine Calm.bind (calm_underlying t) fun d => ?_
      split <;> trivial
    · split
      · refine Calm.bind ?_ fun n => Calm.bind (calm_cells a n 0 #[]) fun _ => trivial
        unfold sizeOf
        exact Calm.bind (calm_info t) fun _ => trivial
      · exact fun _ => trivial
def isLoad : Op → Bool
  | .load _ _ => true
  | _ => false
theorem calm_load {ρ : Operand → Value} {o : Oper} (h : isLoad o.op = true) : Calm (execOp ρ o) := by
  unfold isLoad at h
  split at h
  · rename_i t x e
    unfold execOp
    rw [e]
    exact Calm.bind (calm_loadAt _ _) fun _ => trivial
  · cases h

/-! ### The walk in an order of our own -/
section
variable {P : Program} {ops : Array Oper} {Q : Exit → Act → World → Prop}

def NoExit (_ : Exit) (_ : Act) (_ : World) : Prop := False

def stepO (P : Program) (ops : Array Oper) (o : Oper) (k : Nat) (a : Act) (w : World) (N : Act → World → Prop) : Prop :=
  if Region.wanted o (yielded ops a.tmps) then
    match k with
    | 0 => ∃ v, (∀ W, (execOp a.eval o).run P W = .ok (.value v) W) ∧ N (a.put o.dst v) w
    | 1 => ∃ v, (execOp a.eval o).run P w = .ok (.value v) w ∧ N (a.put o.dst v) w
    | 2 => o.wp P a w (fun a' w' => Below w.heap.size w w' ∧ N a' w') NoExit
    | _ => o.wp P a w N NoExit
  else N (a.put o.dst undef) w

section
variable (P : Program) (ops : Array Oper) (o : Oper) (a : Act) (w : World) (N : Act → World → Prop)
theorem stepO_0 : stepO P ops o 0 a w N = if Region.wanted o (yielded ops a.tmps) then ∃ v, (∀ W, (execOp a.eval o).run P W = .ok (.value v) W) ∧ N (a.put o.dst v) w else N (a.put o.dst undef) w := rfl
theorem stepO_1 : stepO P ops o 1 a w N = if Region.wanted o (yielded ops a.tmps) then ∃ v, (execOp a.eval o).run P w = .ok (.value v) w ∧ N (a.put o.dst v) w else N (a.put o.dst undef) w := rfl
theorem stepO_2 : stepO P ops o 2 a w N = if Region.wanted o (yielded ops a.tmps) then o.wp P a w (fun a' w' => Below w.heap.size w w' ∧ N a' w') NoExit else N (a.put o.dst undef) w := rfl
theorem stepO_3 : stepO P ops o 3 a w N = if Region.wanted o (yielded ops a.tmps) then o.wp P a w N NoExit else N (a.put o.dst undef) w := rfl
end

def wpO (P : Program) (ops : Array Oper) (Q : Exit → Act → World → Prop) : List (Oper × Nat) → Act → World → Prop
  | [], a, w => Q .normal a w
  | (o, k) :: r, a, w => stepO P ops o k a w (wpO P ops Q r)

theorem wpO_nil {a : Act} {w : World} (h : Q .normal a w) : wpO P ops Q [] a w := h
theorem wpO_step {o : Oper} {k : Nat} {r : List (Oper × Nat)} {a : Act} {w : World}
    (h : ∀ K : Act → World → Prop, (∀ a w, wpO P ops Q r a w → K a w) → stepO P ops o k a w K) : wpO P ops Q ((o, k) :: r) a w := h _ (fun _ _ h => h)

theorem wpO_skip {o : Oper} {k : Nat} {r : List (Oper × Nat)} {a : Act} {w : World}
    (hw : Region.wanted o (yielded ops a.tmps) = false) (h : wpO P ops Q r (a.put o.dst undef) w) : wpO P ops Q ((o, k) :: r) a w := by
  show stepO P ops o k a w (wpO P ops Q r)
  unfold stepO
  rw [if_neg (by rw [hw]; simp)]
  exact h

theorem upon_mono {o : Oper} {a : Act} {N N' : Act → World → Prop} {Q Q' : Exit → Act → World → Prop} (hN : ∀ a' w', (∃ v, a'.tmps = (a.put o.dst v).tmps) → N a' w' → N' a' w')
    (hQ : ∀ e a w, Q e a w → Q' e a w) (r : Result Next) (h : o.upon P a N Q r) : o.upon P a N' Q' r := by
  cases r with
  | ok n w' =>
    cases n <;> simp only [Oper.upon] at h ⊢
    case value v => exact hN _ _ ⟨v, rfl⟩ h
    case skip => exact hN _ _ ⟨undef, rfl⟩ h
    case defer d => exact hN _ _ ⟨undef, by cases ho : o.dst <;> rfl⟩ h
    case enter f args =>
      refine h.mono fun e w'' hh => ?_
      cases e with
      | returned v => exact hN _ _ ⟨v, rfl⟩ hh
      | panicked c => exact hQ _ _ _ hh
      | outgrown => obtain ⟨a0, w0, q⟩ := hh; exact ⟨a0, w0, hQ _ _ _ q⟩
    case row row args =>
      intro caller cs
      obtain ⟨v, w'', hR, hs⟩ := h caller cs
      exact ⟨v, w'', hN _ _ ⟨v, rfl⟩ hR, hs⟩
  | halt x w' =>
    cases x <;> simp only [Oper.upon] at h ⊢
    case panic v => exact hQ _ _ _ h

theorem wp_mono' {o : Oper} {a : Act} {w : World} {N N' : Act → World → Prop} {Q Q' : Exit → Act → World → Prop} (hN : ∀ a' w', (∃ v, a'.tmps = (a.put o.dst v).tmps) → N a' w' → N' a' w')
    (hQ : ∀ e a w, Q e a w → Q' e a w) (h : o.wp P a w N Q) : o.wp P a w N' Q' := upon_mono hN hQ _ h

theorem stepO_mono {o : Oper} {k : Nat} {a : Act} {w : World} {N N' : Act → World → Prop} (hN : ∀ a w, N a w → N' a w) (h : stepO P ops o k a w N) : stepO P ops o k a w N' := by
  unfold stepO at *
  split
  · rename_i hw
    rw [if_pos hw] at h
    match k, h with
    | 0, ⟨v, h1, h2⟩ => exact ⟨v, h1, hN _ _ h2⟩
    | 1, ⟨v, h1, h2⟩ => exact ⟨v, h1, hN _ _ h2⟩
    | 2, h => exact wp_mono' (fun _ _ _ hh => ⟨hh.1, hN _ _ hh.2⟩) (fun _ _ _ h => h) h
    | k + 3, h => exact wp_mono' (fun _ _ _ hh => hN _ _ hh) (fun _ _ _ h => h) h
  · rename_i hw
    rw [if_neg hw] at h
    exact hN _ _ h

/-- What a quiet step shows. -/
def Yd (P : Program) (ops : Array Oper) (o : Oper) (k : Nat) (a : Act) (w : World) (u : Value) : Prop :=
  (Region.wanted o (yielded ops a.tmps) = true ∧ ((k = 0 ∧ ∀ W, (execOp a.eval o).run P W = .ok (.value u) W) ∨ (k = 1 ∧ (execOp a.eval o).run P w = .ok (.value u) w))) ∨
  (Region.wanted o (yielded ops a.tmps) = false ∧ u = undef)

theorem stepO_quiet {o : Oper} {k : Nat} (hk : k ≤ 1) {a : Act} {w : World} {N : Act → World → Prop} : stepO P ops o k a w N ↔ ∃ u, Yd P ops o k a w u ∧ N (a.put o.dst u) w := by
  unfold stepO Yd
  by_cases hw : Region.wanted o (yielded ops a.tmps) = true
  · rw [if_pos hw]
    match k, hk with
    | 0, _ =>
      constructor
      · rintro ⟨v, h1, h2⟩; exact ⟨v, .inl ⟨hw, .inl ⟨rfl, h1⟩⟩, h2⟩
      · rintro ⟨v, (⟨_, ⟨_, h1⟩ | ⟨h0, _⟩⟩ | ⟨h0, _⟩), h2⟩
        · exact ⟨v, h1, h2⟩
        · cases h0
        · rw [hw] at h0; cases h0
    | 1, _ =>
      constructor
      · rintro ⟨v, h1, h2⟩; exact ⟨v, .inl ⟨hw, .inr ⟨rfl, h1⟩⟩, h2⟩
      · rintro ⟨v, (⟨_, ⟨h0, _⟩ | ⟨_, h1⟩⟩ | ⟨h0, _⟩), h2⟩
        · cases h0
        · exact ⟨v, h1, h2⟩
        · rw [hw] at h0; cases h0
  · rw [if_neg hw]
    have hw' : Region.wanted o (yielded ops a.tmps) = false := by simpa using hw
    constructor
    · intro h; exact ⟨undef, .inr ⟨hw', rfl⟩, h⟩
    · rintro ⟨v, (⟨h0, _⟩ | ⟨_, rfl⟩), h2⟩
      · exact absurd h0 hw
      · exact h2

theorem eval_of_tmps {a b : Act} (h : a.tmps = b.tmps) : a.eval = b.eval := by
  funext x; cases x <;> simp [Act.eval, h]

/-- A quiet operation yields the same behind one that is apart from it. -/
theorem Yd.behind {oi oj : Oper} {kj : Nat} {a a' : Act} {w w' : World} {u v : Value} (hap : oi.apart ops oj = true) (hs : ∀ cs b, oj.op ≠ .select cs b)
    (ha : a'.tmps = (a.put oi.dst v).tmps) (hw : kj = 1 → (w' = w ∨ (isLoad oj.op = true ∧ Below w.heap.size w w'))) (h : Yd P ops oj kj a w u) : Yd P ops oj kj a' w' u := by
  obtain ⟨h1, _, _⟩ := Oper.apart_spec hap
  have e1 : execOp a'.eval oj = execOp a.eval oj := by rw [eval_of_tmps ha]; exact execOp_put oj hs a oi.dst v h1
  have e2 : Region.wanted oj (yielded ops a'.tmps) = Region.wanted oj (yielded ops a.tmps) := by rw [ha]; exact wanted_put oj a oi.dst v h1
  unfold Yd at *
  rw [e1, e2]
  rcases h with ⟨hwn, ⟨rfl, hr⟩ | ⟨rfl, hr⟩⟩ | h
  · exact .inl ⟨hwn, .inl ⟨rfl, hr⟩⟩
  · refine .inl ⟨hwn, .inr ⟨rfl, ?_⟩⟩
    rcases hw rfl with rfl | ⟨hl, hB⟩
    · exact hr
    · exact ((calm_load hl).run hr).2 w' hB
  · exact .inr h

theorem put_like {a a' : Act} {x y : Option Tmp} {u v : Value} (hne : ∀ d, x = some d → y ≠ some d) (h : a'.tmps = (a.put x v).tmps) : (a'.put y u).tmps = ((a.put y u).put x v).tmps := by
  have := Act.put_comm a (x := x) (y := y) v u hne
  cases y with
  | none => simpa [Act.put] using h
  | some d =>
    have e := congrArg Act.tmps this
    rw [← e]
    simp only [Act.put, h]

theorem upon_put {oi : Oper} {a : Act} {y : Option Tmp} {u : Value} {N : Act → World → Prop} (hne : ∀ d, y = some d → oi.dst ≠ some d) (r : Result Next) (h : oi.upon P (a.put y u) N NoExit r) :
    oi.upon P a (fun a' w' => N (a'.put y u) w') NoExit r := by
  have hc : ∀ v, (a.put y u).put oi.dst v = (a.put oi.dst v).put y u := fun v => Act.put_comm a u v hne
  cases r with
  | ok n w' =>
    cases n <;> simp only [Oper.upon] at h ⊢
    case value v => rw [← hc]; exact h
    case skip => rw [← hc]; exact h
    case defer d =>
      have : ({ a.put y u with defers := d :: (a.put y u).defers } : Act).put oi.dst undef = (({ a with defers := d :: a.defers } : Act).put oi.dst undef).put y u := by
        have := Act.put_comm ({ a with defers := d :: a.defers } : Act) (x := y) (y := oi.dst) u undef hne
        rw [← this]
        cases y <;> rfl
      rw [← this]; exact h
    case enter f args =>
      refine h.mono fun e w'' hh => ?_
      cases e with
      | returned v => show N _ _; rw [← hc]; exact hh
      | panicked c => exact hh
      | outgrown => exact hh
    case row row args =>
      intro caller cs
      obtain ⟨v, w'', hR, hs⟩ := h caller cs
      exact ⟨v, w'', by show N _ _; rw [← hc]; exact hR, hs⟩
  | halt x w' =>
    cases x <;> simp only [Oper.upon] at h ⊢
    case panic v => exact h

/-- A quiet operation and what commutes with it change places. -/
theorem stepO_swap {oi oj : Oper} {ki kj : Nat} (hap : oi.apart ops oj = true) (hsi : ∀ cs b, oi.op ≠ .select cs b) (hsj : ∀ cs b, oj.op ≠ .select cs b)
    (hk : kj = 0 ∨ (kj = 1 ∧ isLoad oj.op = true ∧ ki ≤ 2)) {a : Act} {w : World} {N : Act → World → Prop}
    (h : stepO P ops oj kj a w (fun a1 w1 => stepO P ops oi ki a1 w1 N)) : stepO P ops oi ki a w (fun a1 w1 => stepO P ops oj kj a1 w1 N) := by
  have hkj : kj ≤ 1 := by omega
  obtain ⟨u, hy, h2⟩ := (stepO_quiet hkj).1 h
  obtain ⟨s1, s2, s3⟩ := Oper.apart_spec hap
  have e1 : execOp (a.put oj.dst u).eval oi = execOp a.eval oi := execOp_put oi hsi a oj.dst u s3
  have e2 : Region.wanted oi (yielded ops (a.put oj.dst u).tmps) = Region.wanted oi (yielded ops a.tmps) := wanted_put oi a oj.dst u s3
  have hne : ∀ d, oj.dst = some d → oi.dst ≠ some d := fun d hd he => s2 d he hd
  have hc : ∀ v, (a.put oj.dst u).put oi.dst v = (a.put oi.dst v).put oj.dst u := fun v => Act.put_comm a u v hne
  have key : ∀ v, N ((a.put oj.dst u).put oi.dst v) w → stepO P ops oj kj (a.put oi.dst v) w N := fun v hn =>
    (stepO_quiet hkj).2 ⟨u, hy.behind hap hsj rfl (fun _ => .inl rfl), by rw [← hc]; exact hn⟩
  unfold stepO at h2
  unfold stepO
  rw [e1, e2] at h2
  split
  · rename_i hw
    rw [if_pos hw] at h2
    match ki, hk, h2 with
    | 0, _, ⟨v, h3, h4⟩ => exact ⟨v, h3, key v h4⟩
    | 1, _, ⟨v, h3, h4⟩ => exact ⟨v, h3, key v h4⟩
    | 2, hk, h2 =>
      have h3 : oi.wp P a w (fun a' w' => Below w.heap.size w w' ∧ N (a'.put oj.dst u) w') NoExit := by
        have := upon_put (P := P) (N := fun a' w' => Below w.heap.size w w' ∧ N a' w') (a := a) (u := u) hne ((execOp a.eval oi).run P w) (by unfold Oper.wp at h2; rw [e1] at h2; exact h2)
        exact this
      refine wp_mono' (fun a' w' ha hh => ⟨hh.1, ?_⟩) (fun _ _ _ h => h) h3
      obtain ⟨v, ha⟩ := ha
      exact (stepO_quiet hkj).2 ⟨u, hy.behind hap hsj ha (fun he => .inr ⟨by rcases hk with h0 | h0; · omega
                                                                             · exact h0.2.1, hh.1⟩), hh.2⟩
    | k + 3, hk, h2 =>
      have h3 : oi.wp P a w (fun a' w' => N (a'.put oj.dst u) w') NoExit :=
        upon_put (P := P) (N := N) (a := a) (u := u) hne ((execOp a.eval oi).run P w) (by unfold Oper.wp at h2; rw [e1] at h2; exact h2)
      refine wp_mono' (fun a' w' ha hh => ?_) (fun _ _ _ h => h) h3
      obtain ⟨v, ha⟩ := ha
      exact (stepO_quiet hkj).2 ⟨u, hy.behind hap hsj ha (fun he => by omega), hh⟩
  · rename_i hw
    rw [if_neg hw] at h2
    exact key undef h2

theorem wpO_front {oi : Oper} {ki : Nat} (hsi : ∀ cs b, oi.op ≠ .select cs b) : ∀ (pre : List (Oper × Nat)) {post : List (Oper × Nat)} {a : Act} {w : World},
    (∀ x ∈ pre, oi.apart ops x.1 = true ∧ (∀ cs b, x.1.op ≠ .select cs b) ∧ (x.2 = 0 ∨ (x.2 = 1 ∧ isLoad x.1.op = true ∧ ki ≤ 2))) →
    wpO P ops Q (pre ++ (oi, ki) :: post) a w → stepO P ops oi ki a w (wpO P ops Q (pre ++ post))
  | [], _, _, _, _, h => h
  | (oj, kj) :: pre, post, a, w, hp, h => by
    obtain ⟨p1, p2, p3⟩ := hp (oj, kj) (by simp)
    have h' : stepO P ops oj kj a w (fun a1 w1 => stepO P ops oi ki a1 w1 (wpO P ops Q (pre ++ post))) :=
      stepO_mono (fun a1 w1 h1 => wpO_front hsi pre (fun x hx => hp x (by simp [hx])) h1) h
    exact stepO_swap p1 hsi p2 p3 h'

inductive Reach (ops : Array Oper) : Nat → Nat → Prop
  | edge {j : Nat} {oj : Oper} {e : Edge} : ops[j]? = some oj → e ∈ oj.after → Region.binds .any e = true → Reach ops e.on j
  | step {i j : Nat} {oj : Oper} {e : Edge} : Reach ops i e.on → ops[j]? = some oj → e ∈ oj.after → Region.binds .any e = true → Reach ops i j

def Closed (ops : Array Oper) (listed : Array Bool) : Prop :=
  ∀ j oj, ops[j]? = some oj → listed.getD j false = true → ∀ e ∈ oj.after, Region.binds .any e = true → listed.getD e.on false = true

theorem closed_reach {listed : Array Bool} (hc : Closed ops listed) {i j : Nat} (h : Reach ops i j) :
    (∀ oj, ops[j]? = some oj → ∀ e ∈ oj.after, Region.binds .any e = true → listed.getD e.on false = true) → listed.getD i false = true := by
  induction h with
  | edge hj he hb => exact fun hp => hp _ hj _ he hb
  | step h1 hj he hb ih => exact fun hp => ih fun oj ho e' he' hb' => hc _ _ ho (hp _ hj _ he hb) e' he' hb'

/-- of each operation, in the text's order, those that come before it by the edges -/
def ancFrom : List Oper → List (List Nat) → List (List Nat)
  | [], acc => acc
  | o :: r, acc => ancFrom r (acc ++ [o.after.toList.flatMap fun e => if Region.binds .any e then e.on :: acc.getD e.on [] else []])

def AncOk (ops : Array Oper) (acc : List (List Nat)) : Prop := ∀ j i, i ∈ acc.getD j [] → Reach ops i j

theorem ancFrom_ok : ∀ (l : List Oper) (acc : List (List Nat)), (∀ j, l[j]? = ops[acc.length + j]?) → AncOk ops acc → AncOk ops (ancFrom l acc)
  | [], _, _, h => h
  | o :: r, acc, hl, h => by
    have h0 : ops[acc.length]? = some o := by simpa using (hl 0).symm
    refine ancFrom_ok r _ (fun j => ?_) ?_
    · have := hl (j + 1)
      simp only [List.length_append, List.length_cons, List.length_nil]
      rw [show acc.length + (0 + 1) + j = acc.length + (j + 1) by omega, ← this]
      rfl
    · intro j i hi
      rcases Nat.lt_trichotomy j acc.length with hlt | heq | hgt
      · refine h j i ?_
        simpa [List.getD_eq_getElem?_getD, List.getElem?_append_left hlt] using hi
      · subst heq
        simp only [List.getD_eq_getElem?_getD, List.getElem?_concat_length, Option.getD_some, List.mem_flatMap, Array.mem_toList_iff] at hi
        obtain ⟨e, he, hi⟩ := hi
        split at hi
        · rename_i hb
          rcases List.mem_cons.1 hi with rfl | hi
          · exact .edge h0 he hb
          · exact .step (h _ _ (by simpa [List.getD_eq_getElem?_getD] using hi)) h0 he hb
        · cases hi
      · have hnone : (acc ++ [o.after.toList.flatMap fun e => if Region.binds .any e then e.on :: acc.getD e.on [] else []])[j]? = none := by
          rw [List.getElem?_eq_none]; simp; omega
        rw [List.getD_eq_getElem?_getD, hnone] at hi
        cases hi

def okPair (ops : Array Oper) (anc : List (List Nat)) (x y : Nat × Nat) : Bool :=
  match ops[x.1]?, ops[y.1]? with
  | some ox, some oy =>
    (ox.after.all fun e => !(Region.binds .any e && e.on == y.1)) && x.1 != y.1 &&
    ((anc.getD y.1 []).contains x.1 || (oy.apart ops ox && (x.2 == 0 || (x.2 == 1 && isLoad ox.op && decide (y.2 ≤ 2)))))
  | _, _ => false

def pairsB (ops : Array Oper) (anc : List (List Nat)) : List (Nat × Nat) → Bool
  | [] => true
  | x :: r => (r.all fun y => okPair ops anc x y) && pairsB ops anc r

def edgesB (n : Nat) : List Oper → Nat → Bool
  | [], _ => true
  | o :: r, i => (o.after.all fun e => !(Region.binds .any e) || (decide (e.on < n) && e.on != i)) && edgesB n r (i + 1)
theorem edgesB_spec {n : Nat} : ∀ (l : List Oper) (i : Nat), edgesB n l i = true → ∀ j o, l[j]? = some o → ∀ e ∈ o.after, Region.binds .any e = true → e.on < n ∧ e.on ≠ i + j
  | [], _, _, j, o, h, _, _, _ => by simp at h
  | x :: r, i, h, j, o, hj, e, he, hb => by
    simp only [edgesB, Bool.and_eq_true, Array.all_eq_true_iff_forall_mem] at h
    cases j with
    | zero =>
      simp at hj
      subst hj
      have := h.1 e he
      simp [hb] at this
      exact ⟨this.1, by simpa using this.2⟩
    | succ j =>
      have := edgesB_spec r (i + 1) h.2 j o (by simpa using hj) e he hb
      exact ⟨this.1, by have := this.2; omega⟩

def ordB (l : List Oper) (ord : List (Nat × Nat)) : Bool :=
  edgesB l.length l 0 && Region.noSelect l.toArray && decide (ord.length = l.length) && (ord.all fun x => decide (x.1 < l.length)) && pairsB l.toArray (ancFrom l []) ord && ((List.range l.length).all fun i => ord.any fun x => x.1 == i)

def pickO (l : List Oper) (ord : List (Nat × Nat)) : List (Oper × Nat) := ord.map fun x => (l.getD x.1 default, x.2)

theorem pairsB_spec {anc : List (List Nat)} : ∀ {ord : List (Nat × Nat)}, pairsB ops anc ord = true → ord.Pairwise fun x y => okPair ops anc x y = true
  | [], _ => .nil
  | x :: r, h => by
    simp only [pairsB, Bool.and_eq_true, List.all_eq_true] at h
    exact .cons h.1 (pairsB_spec h.2)

theorem okPair_spec {anc : List (List Nat)} (ha : AncOk ops anc) {x y : Nat × Nat} (h : okPair ops anc x y = true) :
    ∃ ox oy, ops[x.1]? = some ox ∧ ops[y.1]? = some oy ∧ (∀ e ∈ ox.after, Region.binds .any e = true → e.on ≠ y.1) ∧ x.1 ≠ y.1 ∧
      (Reach ops x.1 y.1 ∨ (oy.apart ops ox = true ∧ (x.2 = 0 ∨ (x.2 = 1 ∧ isLoad ox.op = true ∧ y.2 ≤ 2)))) := by
  unfold okPair at h
  split at h
  · rename_i ox oy h1 h2
    simp only [Bool.and_eq_true, Array.all_eq_true_iff_forall_mem, Bool.not_eq_true', Bool.or_eq_true, bne_iff_ne, ne_eq, beq_iff_eq, decide_eq_true_eq] at h
    obtain ⟨⟨h3, h4⟩, h5⟩ := h
    refine ⟨ox, oy, h1, h2, fun e he hb hy => ?_, h4, ?_⟩
    · have := h3 e he
      simp [hb, hy] at this
    · rcases h5 with h5 | ⟨h5, h6⟩
      · exact .inl (ha _ _ (by simpa using h5))
      · exact .inr ⟨h5, h6.imp id fun h => ⟨h.1.1, h.1.2, h.2⟩⟩
  · cases h

theorem wpAny_of_ord (l : List Oper) (hl : ops = l.toArray) (hsel : Region.noSelect ops = true) {anc : List (List Nat)} (ha : AncOk ops anc)
    (hE : ∀ j o, ops[j]? = some o → ∀ e ∈ o.after, Region.binds .any e = true → e.on < ops.size ∧ e.on ≠ j) :
    ∀ (n : Nat) (R : List (Nat × Nat)), R.length = n → ∀ (listed : Array Bool) (a : Act) (w : World), listed.size = ops.size → Closed ops listed → (R.Pairwise fun x y => okPair ops anc x y = true) →
      (∀ x ∈ R, x.1 < ops.size) → (∀ i, i < ops.size → (listed.getD i true = false ↔ ∃ k, (i, k) ∈ R)) →
      wpO P ops Q (pickO l R) a w → wpAny P .any ops Q n listed a w := by
  intro n
  induction n with
  | zero =>
    intro R hn listed a w hsz hc hp hlt hR h
    obtain rfl : R = [] := List.length_eq_zero_iff.1 hn
    refine ⟨?_, h⟩
    rw [List.eq_nil_iff_forall_not_mem]
    intro i hi
    obtain ⟨hu, o, ho, _⟩ := mem_ready.1 hi
    have hi' : i < ops.size := (Array.getElem?_eq_some_iff.1 ho).1
    obtain ⟨k, hk⟩ := (hR i hi').1 hu
    cases hk
  | succ n ih =>
    intro R hn listed a w hsz hc hp hlt hR h
    have getb : ∀ i, i < ops.size → ¬ (listed.getD i true = false) → listed.getD i false = true := fun i hi hh => by
      have hi2 : i < listed.size := by omega
      simp only [Array.getD_eq_getD_getElem?, Array.getElem?_eq_getElem hi2, Option.getD_some] at hh ⊢
      simpa using hh
    refine ⟨fun h0 => ?_, fun i hi => ?_⟩
    · exfalso
      match R, hn, hp, hlt, hR with
      | (i, k) :: r, _, hp, hlt, hR =>
        have hil := hlt (i, k) (by simp)
        have hopi : ops[i]? = some (ops[i]'hil) := Array.getElem?_eq_getElem hil
        have : i ∈ Region.ready .any ops listed := by
          refine mem_ready.2 ⟨(hR i hil).2 ⟨k, by simp⟩, _, hopi, fun e he hb => ?_⟩
          obtain ⟨hes, hself⟩ := hE i _ hopi e he hb
          refine getb _ hes fun hun => ?_
          obtain ⟨k', hk'⟩ := (hR _ hes).1 hun
          rcases List.mem_cons.1 hk' with hk' | hk'
          · injection hk' with h1 h2
            exact hself h1
          · obtain ⟨ox, oy, e1, e2, e3, _⟩ := okPair_spec ha ((List.pairwise_cons.1 hp).1 _ hk')
            have : ox = ops[i]'hil := Option.some.inj (e1.symm.trans hopi)
            subst this
            exact e3 e he hb rfl
        rw [h0] at this
        cases this
    · obtain ⟨hu, oi, hoi, hall⟩ := mem_ready.1 hi
      have hil : i < ops.size := (Array.getElem?_eq_some_iff.1 hoi).1
      obtain ⟨k, hk⟩ := (hR i hil).1 hu
      obtain ⟨pre, post, rfl⟩ := List.append_of_mem hk
      have hopi : l.getD i default = oi := by
        subst hl
        simp only [List.getElem?_toArray] at hoi
        rw [List.getD_eq_getElem?_getD, hoi]; rfl
      have sel : ∀ (j : Nat) (o : Oper) cs b, ops[j]? = some o → o.op ≠ .select cs b := Region.noSelect_spec hsel
      have hp2 := List.pairwise_append.1 hp
      have hfront : stepO P ops oi k a w (wpO P ops Q (pickO l (pre ++ post))) := by
        have h' : wpO P ops Q (pickO l pre ++ (oi, k) :: pickO l post) a w := by
          rw [← hopi]; simpa [pickO] using h
        have := wpO_front (P := P) (ops := ops) (Q := Q) (oi := oi) (ki := k) (fun cs b => sel i oi cs b hoi) (pickO l pre) (post := pickO l post) (a := a) (w := w) ?_ h'
        · simpa [pickO] using this
        · intro x hx
          obtain ⟨y, hy, rfl⟩ := List.mem_map.1 hx
          obtain ⟨ox, oy, e1, e2, e3, e4, e5⟩ := okPair_spec ha (hp2.2.2 y hy (i, k) (by simp))
          have hoy : oy = oi := Option.some.inj (e2.symm.trans hoi)
          subst hoy
          have hgx : l.getD y.1 default = ox := by
            subst hl
            simp only [List.getElem?_toArray] at e1
            rw [List.getD_eq_getElem?_getD, e1]; rfl
          rcases e5 with e5 | ⟨e5, e6⟩
          · exfalso
            have hyl := hlt y (by simp [hy])
            have hlisted := closed_reach hc e5 (fun oj ho e he hb => by
              have : oj = oy := Option.some.inj (ho.symm.trans hoi)
              subst this
              exact hall e he hb)
            have hun := (hR y.1 hyl).2 ⟨y.2, by simp [hy]⟩
            have hy2 : y.1 < listed.size := by omega
            simp [Array.getElem?_eq_getElem hy2] at hlisted hun
            rw [hun] at hlisted
            cases hlisted
          · simp only [hgx]
            exact ⟨e5, fun cs b => sel y.1 ox cs b e1, e6⟩
      have hnd : ∀ x ∈ pre ++ post, x.1 ≠ i := by
        intro x hx he
        rcases List.mem_append.1 hx with hx | hx
        · obtain ⟨_, _, _, _, _, e4, _⟩ := okPair_spec ha (hp2.2.2 x hx (i, k) (by simp)); exact e4 he
        · obtain ⟨_, _, _, _, _, e4, _⟩ := okPair_spec ha ((List.pairwise_cons.1 hp2.2.1).1 x hx); exact e4 he.symm
      have next : ∀ a' w', wpO P ops Q (pickO l (pre ++ post)) a' w' → wpAny P .any ops Q n (listed.setIfInBounds i true) a' w' := fun a' w' h' =>
        ih (pre ++ post) (by simp at hn ⊢; omega) _ a' w' (by simpa using hsz)
          (fun j oj hj hlj e he hb => by
            by_cases hij : i = j
            · subst hij
              have : oj = oi := Option.some.inj (hj.symm.trans hoi)
              subst this
              exact getD_set_true (hall e he hb)
            · rw [getD_set_ne false hij] at hlj
              exact getD_set_true (hc j oj hj hlj e he hb))
          (List.pairwise_append.2 ⟨hp2.1, (List.pairwise_cons.1 hp2.2.1).2, fun x hx y hy => hp2.2.2 x hx y (by simp [hy])⟩)
          (fun x hx => hlt x (by rcases List.mem_append.1 hx with h | h <;> simp [h]))
          (fun j hj => by
            by_cases hij : i = j
            · subst hij
              have hi2 : i < listed.size := by omega
              constructor
              · intro hh; simp [hi2] at hh
              · rintro ⟨k', hk'⟩; exact absurd rfl (hnd _ hk')
            · rw [getD_set_ne true hij, hR j hj]
              constructor
              · rintro ⟨k', hk'⟩
                refine ⟨k', ?_⟩
                rcases List.mem_append.1 hk' with h | h
                · simp [h]
                · rcases List.mem_cons.1 h with h | h
                  · injection h with h1 _; exact absurd h1.symm hij
                  · simp [h]
              · rintro ⟨k', hk'⟩
                refine ⟨k', ?_⟩
                rcases List.mem_append.1 hk' with h | h <;> simp [h])
          h'
      unfold wpOp
      simp only [hoi]
      unfold stepO at hfront
      split
      · rename_i hw
        rw [if_pos hw] at hfront
        refine .inl ?_
        match k, hfront with
        | 0, ⟨v, h1, h2⟩ => unfold Oper.wp; rw [h1 w]; exact next _ _ h2
        | 1, ⟨v, h1, h2⟩ => unfold Oper.wp; rw [h1]; exact next _ _ h2
        | 2, h => exact wp_mono' (fun _ _ _ hh => next _ _ hh.2) (fun _ _ _ h => h.elim) h
        | k + 3, h => exact wp_mono' (fun _ _ _ hh => next _ _ hh) (fun _ _ _ h => h.elim) h
      · rename_i hw
        rw [if_neg hw] at hfront
        exact next _ _ hfront

/-- **A region that draws its order, walked once, in the order 'ord'** (the operations' numbers, each with its kind). -/
theorem wp_region_ord {id : Nat} {a : Act} {w : World} {l : List Oper} (ord : List (Nat × Nat)) (hm : P.follows .mixedOrders = true) (hB : ordB l ord = true)
    (h : wpO P l.toArray Q (pickO l ord) a w.drew) : (Code.region id l.toArray true).wp P Q a w := by
  simp only [ordB, Bool.and_eq_true, decide_eq_true_eq, List.all_eq_true] at hB
  obtain ⟨⟨⟨⟨⟨hE, hsel⟩, hlen⟩, hlt⟩, hpairs⟩, hcov⟩ := hB
  have ha : AncOk l.toArray (ancFrom l []) := ancFrom_ok l [] (by simp) (fun j i hi => by simp at hi)
  have hp := pairsB_spec hpairs
  refine wp_region_any hm ?_
  have hsz : l.toArray.size = ord.length := by simpa using hlen.symm
  rw [hsz]
  refine wpAny_of_ord l rfl hsel ha (fun j o hj e he hb => by
      have := edgesB_spec l 0 hE j o (by simpa using hj) e he hb
      simpa using this) ord.length ord rfl _ a _ (by simpa using hlen) (fun j oj _ hl => by exfalso; revert hl; rcases Nat.lt_or_ge j ord.length with h | h <;> simp [h]) hp (by simpa using hlt) (fun i hi => ?_) h
  have hi' : i < ord.length := by omega
  constructor
  · intro _
    have := hcov i (List.mem_range.2 (by omega))
    obtain ⟨x, hx, hxi⟩ := List.any_eq_true.1 this
    obtain rfl : x.1 = i := by simpa using hxi
    exact ⟨x.2, hx⟩
  · intro _; simp [hi']
end
end Go.Proofs.Tc
