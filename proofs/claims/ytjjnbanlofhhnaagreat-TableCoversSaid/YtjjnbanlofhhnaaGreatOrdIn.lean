/-
  The same inside a fence that lets all functions by and asks no depth: for a round of a range over a function.
-/
import Derived.Test.YtjjnbanlofhhnaaGreatOrd
import Derived.OrdersIn
import Derived.RangeFuncCalls
import Derived.Deep.Quiet
namespace Go.Proofs.Tc
open Go.RowKit

section
variable {F : Fence} {n : Nat} {P : Program} {ops : Array Oper} {Q : Exit → Act → World → Prop}
def _root_.Go.Oper.wpX (F : Fence) (n : Nat) (P : Program) (o : Oper) (a : Act) (w : World) (N : Act → World → Prop) (Q : Exit → Act → World → Prop) : Prop :=
  o.uponIn F n P a N Q ((execOp a.eval o).run P w)
def stepI (F : Fence) (n : Nat) (P : Program) (ops : Array Oper) (o : Oper) (k : Nat) (a : Act) (w : World) (N : Act → World → Prop) : Prop :=
  if Region.wanted o (yielded ops a.tmps) then
    match k with
    | 0 => ∃ v, (∀ W, (execOp a.eval o).run P W = .ok (.value v) W) ∧ N (a.put o.dst v) w
    | 1 => ∃ v, (execOp a.eval o).run P w = .ok (.value v) w ∧ N (a.put o.dst v) w
    | 2 => o.wpX F n P a w (fun a' w' => Below w.heap.size w w' ∧ N a' w') NoExit
    | _ => o.wpX F n P a w N NoExit
  else N (a.put o.dst undef) w

section
variable (F : Fence) (n : Nat) (P : Program) (ops : Array Oper) (o : Oper) (a : Act) (w : World) (N : Act → World → Prop)
theorem stepI_0 : stepI F n P ops o 0 a w N = if Region.wanted o (yielded ops a.tmps) then ∃ v, (∀ W, (execOp a.eval o).run P W = .ok (.value v) W) ∧ N (a.put o.dst v) w else N (a.put o.dst undef) w := rfl
theorem stepI_1 : stepI F n P ops o 1 a w N = if Region.wanted o (yielded ops a.tmps) then ∃ v, (execOp a.eval o).run P w = .ok (.value v) w ∧ N (a.put o.dst v) w else N (a.put o.dst undef) w := rfl
theorem stepI_2 : stepI F n P ops o 2 a w N = if Region.wanted o (yielded ops a.tmps) then o.wpX F n P a w (fun a' w' => Below w.heap.size w w' ∧ N a' w') NoExit else N (a.put o.dst undef) w := rfl
theorem stepI_3 : stepI F n P ops o 3 a w N = if Region.wanted o (yielded ops a.tmps) then o.wpX F n P a w N NoExit else N (a.put o.dst undef) w := rfl
end

def wpI (F : Fence) (n : Nat) (P : Program) (ops : Array Oper) (Q : Exit → Act → World → Prop) : List (Oper × Nat) → Act → World → Prop
  | [], a, w => Q .normal a w
  | (o, k) :: r, a, w => stepI F n P ops o k a w (wpI F n P ops Q r)

theorem wpI_nil {a : Act} {w : World} (h : Q .normal a w) : wpI F n P ops Q [] a w := h
theorem wpI_step {o : Oper} {k : Nat} {r : List (Oper × Nat)} {a : Act} {w : World}
    (h : ∀ K : Act → World → Prop, (∀ a w, wpI F n P ops Q r a w → K a w) → stepI F n P ops o k a w K) : wpI F n P ops Q ((o, k) :: r) a w := h _ (fun _ _ h => h)

theorem wpI_skip {o : Oper} {k : Nat} {r : List (Oper × Nat)} {a : Act} {w : World}
    (hw : Region.wanted o (yielded ops a.tmps) = false) (h : wpI F n P ops Q r (a.put o.dst undef) w) : wpI F n P ops Q ((o, k) :: r) a w := by
  show stepI F n P ops o k a w (wpI F n P ops Q r)
  unfold stepI
  rw [if_neg (by rw [hw]; simp)]
  exact h

theorem uponI_mono {o : Oper} {a : Act} {N N' : Act → World → Prop} {Q Q' : Exit → Act → World → Prop} (hN : ∀ a' w', (∃ v, a'.tmps = (a.put o.dst v).tmps) → N a' w' → N' a' w')
    (hQ : ∀ e a w, Q e a w → Q' e a w) (r : Result Next) (h : o.uponIn F n P a N Q r) : o.uponIn F n P a N' Q' r := by
  cases r with
  | ok n w' =>
    cases n <;> simp only [Oper.uponIn] at h ⊢
    case value v => exact hN _ _ ⟨v, rfl⟩ h
    case skip => exact hN _ _ ⟨undef, rfl⟩ h
    case defer d => exact hN _ _ ⟨undef, by cases ho : o.dst <;> rfl⟩ h
    case enter f args =>
      refine ⟨h.1, h.2.mono fun e w'' hh => ?_⟩
      cases e with
      | returned v => exact hN _ _ ⟨v, rfl⟩ hh
      | panicked c => exact hQ _ _ _ hh
      | outgrown => obtain ⟨a0, w0, q⟩ := hh; exact ⟨a0, w0, hQ _ _ _ q⟩
    case row row args => exact ⟨h.1, h.2.mono fun v w'' hh => hN _ _ ⟨v, rfl⟩ hh⟩
    case round l f tmps assign body =>
      refine ⟨h.1, h.2.mono fun e w'' hh => ?_⟩
      cases e with
      | returned v => exact hN _ _ ⟨v, rfl⟩ hh
      | panicked c => exact hQ _ _ _ hh
      | outgrown => obtain ⟨a0, w0, q⟩ := hh; exact ⟨a0, w0, hQ _ _ _ q⟩
  | halt x w' =>
    cases x <;> simp only [Oper.uponIn] at h ⊢
    case panic v => exact hQ _ _ _ h

theorem wpX_mono' {o : Oper} {a : Act} {w : World} {N N' : Act → World → Prop} {Q Q' : Exit → Act → World → Prop} (hN : ∀ a' w', (∃ v, a'.tmps = (a.put o.dst v).tmps) → N a' w' → N' a' w')
    (hQ : ∀ e a w, Q e a w → Q' e a w) (h : o.wpX F n P a w N Q) : o.wpX F n P a w N' Q' := uponI_mono hN hQ _ h

theorem stepI_mono {o : Oper} {k : Nat} {a : Act} {w : World} {N N' : Act → World → Prop} (hN : ∀ a w, N a w → N' a w) (h : stepI F n P ops o k a w N) : stepI F n P ops o k a w N' := by
  unfold stepI at *
  split
  · rename_i hw
    rw [if_pos hw] at h
    match k, h with
    | 0, ⟨v, h1, h2⟩ => exact ⟨v, h1, hN _ _ h2⟩
    | 1, ⟨v, h1, h2⟩ => exact ⟨v, h1, hN _ _ h2⟩
    | 2, h => exact wpX_mono' (fun _ _ _ hh => ⟨hh.1, hN _ _ hh.2⟩) (fun _ _ _ h => h) h
    | k + 3, h => exact wpX_mono' (fun _ _ _ hh => hN _ _ hh) (fun _ _ _ h => h) h
  · rename_i hw
    rw [if_neg hw] at h
    exact hN _ _ h


theorem stepI_quiet {o : Oper} {k : Nat} (hk : k ≤ 1) {a : Act} {w : World} {N : Act → World → Prop} : stepI F n P ops o k a w N ↔ ∃ u, Yd P ops o k a w u ∧ N (a.put o.dst u) w := by
  unfold stepI Yd
  by_cases hw : Region.wanted o (yielded ops a.tmps) = true
  · rw [if_pos hw]
    match k, hk with
    | 0, _ =>
      constructor
      · rintro ⟨v, h1, h2⟩; exact ⟨v, .inl ⟨hw, .inl ⟨rfl, h1⟩⟩, h2⟩
      · rintro ⟨v, (⟨_, ⟨_, h1⟩ | ⟨h0, _⟩⟩ | ⟨h0, _⟩), h2⟩
        · exact ⟨v, h1, h2⟩
        · cases h0
        · rw [hw] at h0; cases h0
    | 1, _ =>
      constructor
      · rintro ⟨v, h1, h2⟩; exact ⟨v, .inl ⟨hw, .inr ⟨rfl, h1⟩⟩, h2⟩
      · rintro ⟨v, (⟨_, ⟨h0, _⟩ | ⟨_, h1⟩⟩ | ⟨h0, _⟩), h2⟩
        · cases h0
        · exact ⟨v, h1, h2⟩
        · rw [hw] at h0; cases h0
  · rw [if_neg hw]
    have hw' : Region.wanted o (yielded ops a.tmps) = false := by simpa using hw
    constructor
    · intro h; exact ⟨undef, .inr ⟨hw', rfl⟩, h⟩
    · rintro ⟨v, (⟨h0, _⟩ | ⟨_, rfl⟩), h2⟩
      · exact absurd h0 hw
      · exact h2

theorem uponI_put {oi : Oper} {a : Act} {y : Option Tmp} {u : Value} {N : Act → World → Prop} (hne : ∀ d, y = some d → oi.dst ≠ some d) (r : Result Next) (h : oi.uponIn F n P (a.put y u) N NoExit r) :
    oi.uponIn F n P a (fun a' w' => N (a'.put y u) w') NoExit r := by
  have hc : ∀ v, (a.put y u).put oi.dst v = (a.put oi.dst v).put y u := fun v => Act.put_comm a u v hne
  cases r with
  | ok n w' =>
    cases n <;> simp only [Oper.uponIn] at h ⊢
    case value v => rw [← hc]; exact h
    case skip => rw [← hc]; exact h
    case defer d =>
      have : ({ a.put y u with defers := d :: (a.put y u).defers } : Act).put oi.dst undef = (({ a with defers := d :: a.defers } : Act).put oi.dst undef).put y u := by
        have := Act.put_comm ({ a with defers := d :: a.defers } : Act) (x := y) (y := oi.dst) u undef hne
        rw [← this]
        cases y <;> rfl
      rw [← this]; exact h
    case enter f args =>
      refine ⟨h.1, h.2.mono fun e w'' hh => ?_⟩
      cases e with
      | returned v => show N _ _; rw [← hc]; exact hh
      | panicked c => exact hh
      | outgrown => exact hh
    case row row args => exact ⟨h.1, h.2.mono fun v w'' hh => by show N _ _; rw [← hc]; exact hh⟩
    case round l f tmps assign body =>
      refine ⟨h.1, h.2.mono fun e w'' hh => ?_⟩
      cases e with
      | returned v => show N _ _; rw [← hc]; exact hh
      | panicked c => exact hh
      | outgrown => exact hh
  | halt x w' =>
    cases x <;> simp only [Oper.uponIn] at h ⊢
    case panic v => exact h

/-- A quiet operation and what commutes with it change places. -/
theorem stepI_swap {oi oj : Oper} {ki kj : Nat} (hap : oi.apart ops oj = true) (hsi : ∀ cs b, oi.op ≠ .select cs b) (hsj : ∀ cs b, oj.op ≠ .select cs b)
    (hk : kj = 0 ∨ (kj = 1 ∧ isLoad oj.op = true ∧ ki ≤ 2)) {a : Act} {w : World} {N : Act → World → Prop}
    (h : stepI F n P ops oj kj a w (fun a1 w1 => stepI F n P ops oi ki a1 w1 N)) : stepI F n P ops oi ki a w (fun a1 w1 => stepI F n P ops oj kj a1 w1 N) := by
  have hkj : kj ≤ 1 := by omega
  obtain ⟨u, hy, h2⟩ := (stepI_quiet hkj).1 h
  obtain ⟨s1, s2, s3⟩ := Oper.apart_spec hap
  have e1 : execOp (a.put oj.dst u).eval oi = execOp a.eval oi := execOp_put oi hsi a oj.dst u s3
  have e2 : Region.wanted oi (yielded ops (a.put oj.dst u).tmps) = Region.wanted oi (yielded ops a.tmps) := wanted_put oi a oj.dst u s3
  have hne : ∀ d, oj.dst = some d → oi.dst ≠ some d := fun d hd he => s2 d he hd
  have hc : ∀ v, (a.put oj.dst u).put oi.dst v = (a.put oi.dst v).put oj.dst u := fun v => Act.put_comm a u v hne
  have key : ∀ v, N ((a.put oj.dst u).put oi.dst v) w → stepI F n P ops oj kj (a.put oi.dst v) w N := fun v hn =>
    (stepI_quiet hkj).2 ⟨u, hy.behind hap hsj rfl (fun _ => .inl rfl), by rw [← hc]; exact hn⟩
  unfold stepI at h2
  unfold stepI
  rw [e1, e2] at h2
  split
  · rename_i hw
    rw [if_pos hw] at h2
    match ki, hk, h2 with
    | 0, _, ⟨v, h3, h4⟩ => exact ⟨v, h3, key v h4⟩
    | 1, _, ⟨v, h3, h4⟩ => exact ⟨v, h3, key v h4⟩
    | 2, hk, h2 =>
      have h3 : oi.wpX F n P a w (fun a' w' => Below w.heap.size w w' ∧ N (a'.put oj.dst u) w') NoExit := by
        have := uponI_put (P := P) (N := fun a' w' => Below w.heap.size w w' ∧ N a' w') (a := a) (u := u) hne ((execOp a.eval oi).run P w) (by unfold Oper.wpX at h2; rw [e1] at h2; exact h2)
        exact this
      refine wpX_mono' (fun a' w' ha hh => ⟨hh.1, ?_⟩) (fun _ _ _ h => h) h3
      obtain ⟨v, ha⟩ := ha
      exact (stepI_quiet hkj).2 ⟨u, hy.behind hap hsj ha (fun he => .inr ⟨by rcases hk with h0 | h0; · omega
                                                                             · exact h0.2.1, hh.1⟩), hh.2⟩
    | k + 3, hk, h2 =>
      have h3 : oi.wpX F n P a w (fun a' w' => N (a'.put oj.dst u) w') NoExit :=
        uponI_put (P := P) (N := N) (a := a) (u := u) hne ((execOp a.eval oi).run P w) (by unfold Oper.wpX at h2; rw [e1] at h2; exact h2)
      refine wpX_mono' (fun a' w' ha hh => ?_) (fun _ _ _ h => h) h3
      obtain ⟨v, ha⟩ := ha
      exact (stepI_quiet hkj).2 ⟨u, hy.behind hap hsj ha (fun he => by omega), hh⟩
  · rename_i hw
    rw [if_neg hw] at h2
    exact key undef h2

theorem wpI_front {oi : Oper} {ki : Nat} (hsi : ∀ cs b, oi.op ≠ .select cs b) : ∀ (pre : List (Oper × Nat)) {post : List (Oper × Nat)} {a : Act} {w : World},
    (∀ x ∈ pre, oi.apart ops x.1 = true ∧ (∀ cs b, x.1.op ≠ .select cs b) ∧ (x.2 = 0 ∨ (x.2 = 1 ∧ isLoad x.1.op = true ∧ ki ≤ 2))) →
    wpI F n P ops Q (pre ++ (oi, ki) :: post) a w → stepI F n P ops oi ki a w (wpI F n P ops Q (pre ++ post))
  | [], _, _, _, _, h => h
  | (oj, kj) :: pre, post, a, w, hp, h => by
    obtain ⟨p1, p2, p3⟩ := hp (oj, kj) (by simp)
    have h' : stepI F n P ops oj kj a w (fun a1 w1 => stepI F n P ops oi ki a1 w1 (wpI F n P ops Q (pre ++ post))) :=
      stepI_mono (fun a1 w1 h1 => wpI_front hsi pre (fun x hx => hp x (by simp [hx])) h1) h
    exact stepI_swap p1 hsi p2 p3 h'

theorem wpAnyIn_of_ord (hF : ∀ f, F.fn f) (nd : ∀ (i : Nat) (o : Oper), ops[i]? = some o → ∀ c, o.op ≠ .defer c) (l : List Oper) (hl : ops = l.toArray) (hsel : Region.noSelect ops = true) {anc : List (List Nat)} (ha : AncOk ops anc)
    (hE : ∀ j o, ops[j]? = some o → ∀ e ∈ o.after, Region.binds .any e = true → e.on < ops.size ∧ e.on ≠ j) :
    ∀ (m : Nat) (R : List (Nat × Nat)), R.length = m → ∀ (listed : Array Bool) (a : Act) (w : World), listed.size = ops.size → Closed ops listed → (R.Pairwise fun x y => okPair ops anc x y = true) →
      (∀ x ∈ R, x.1 < ops.size) → (∀ i, i < ops.size → (listed.getD i true = false ↔ ∃ k, (i, k) ∈ R)) →
      wpI F n P ops Q (pickO l R) a w → wpAnyIn F n P .any ops Q m listed a w := by
  intro m
  induction m with
  | zero =>
    intro R hn listed a w hsz hc hp hlt hR h
    obtain rfl : R = [] := List.length_eq_zero_iff.1 hn
    refine ⟨?_, h⟩
    rw [List.eq_nil_iff_forall_not_mem]
    intro i hi
    obtain ⟨hu, o, ho, _⟩ := mem_ready.1 hi
    have hi' : i < ops.size := (Array.getElem?_eq_some_iff.1 ho).1
    obtain ⟨k, hk⟩ := (hR i hi').1 hu
    cases hk
  | succ m ih =>
    intro R hn listed a w hsz hc hp hlt hR h
    have getb : ∀ i, i < ops.size → ¬ (listed.getD i true = false) → listed.getD i false = true := fun i hi hh => by
      have hi2 : i < listed.size := by omega
      simp only [Array.getD_eq_getD_getElem?, Array.getElem?_eq_getElem hi2, Option.getD_some] at hh ⊢
      simpa using hh
    refine ⟨fun h0 => ?_, fun i hi => ?_⟩
    · exfalso
      match R, hn, hp, hlt, hR with
      | (i, k) :: r, _, hp, hlt, hR =>
        have hil := hlt (i, k) (by simp)
        have hopi : ops[i]? = some (ops[i]'hil) := Array.getElem?_eq_getElem hil
        have : i ∈ Region.ready .any ops listed := by
          refine mem_ready.2 ⟨(hR i hil).2 ⟨k, by simp⟩, _, hopi, fun e he hb => ?_⟩
          obtain ⟨hes, hself⟩ := hE i _ hopi e he hb
          refine getb _ hes fun hun => ?_
          obtain ⟨k', hk'⟩ := (hR _ hes).1 hun
          rcases List.mem_cons.1 hk' with hk' | hk'
          · injection hk' with h1 h2
            exact hself h1
          · obtain ⟨ox, oy, e1, e2, e3, _⟩ := okPair_spec ha ((List.pairwise_cons.1 hp).1 _ hk')
            have : ox = ops[i]'hil := Option.some.inj (e1.symm.trans hopi)
            subst this
            exact e3 e he hb rfl
        rw [h0] at this
        cases this
    · obtain ⟨hu, oi, hoi, hall⟩ := mem_ready.1 hi
      have hil : i < ops.size := (Array.getElem?_eq_some_iff.1 hoi).1
      obtain ⟨k, hk⟩ := (hR i hil).1 hu
      obtain ⟨pre, post, rfl⟩ := List.append_of_mem hk
      have hopi : l.getD i default = oi := by
        subst hl
        simp only [List.getElem?_toArray] at hoi
        rw [List.getD_eq_getElem?_getD, hoi]; rfl
      have sel : ∀ (j : Nat) (o : Oper) cs b, ops[j]? = some o → o.op ≠ .select cs b := Region.noSelect_spec hsel
      have hp2 := List.pairwise_append.1 hp
      have hfront : stepI F n P ops oi k a w (wpI F n P ops Q (pickO l (pre ++ post))) := by
        have h' : wpI F n P ops Q (pickO l pre ++ (oi, k) :: pickO l post) a w := by
          rw [← hopi]; simpa [pickO] using h
        have := wpI_front (P := P) (ops := ops) (Q := Q) (oi := oi) (ki := k) (fun cs b => sel i oi cs b hoi) (pickO l pre) (post := pickO l post) (a := a) (w := w) ?_ h'
        · simpa [pickO] using this
        · intro x hx
          obtain ⟨y, hy, rfl⟩ := List.mem_map.1 hx
          obtain ⟨ox, oy, e1, e2, e3, e4, e5⟩ := okPair_spec ha (hp2.2.2 y hy (i, k) (by simp))
          have hoy : oy = oi := Option.some.inj (e2.symm.trans hoi)
          subst hoy
          have hgx : l.getD y.1 default = ox := by
            subst hl
            simp only [List.getElem?_toArray] at e1
            rw [List.getD_eq_getElem?_getD, e1]; rfl
          rcases e5 with e5 | ⟨e5, e6⟩
          · exfalso
            have hyl := hlt y (by simp [hy])
            have hlisted := closed_reach hc e5 (fun oj ho e he hb => by
              have : oj = oy := Option.some.inj (ho.symm.trans hoi)
              subst this
              exact hall e he hb)
            have hun := (hR y.1 hyl).2 ⟨y.2, by simp [hy]⟩
            have hy2 : y.1 < listed.size := by omega
            simp [Array.getElem?_eq_getElem hy2] at hlisted hun
            rw [hun] at hlisted
            cases hlisted
          · simp only [hgx]
            exact ⟨e5, fun cs b => sel y.1 ox cs b e1, e6⟩
      have hnd : ∀ x ∈ pre ++ post, x.1 ≠ i := by
        intro x hx he
        rcases List.mem_append.1 hx with hx | hx
        · obtain ⟨_, _, _, _, _, e4, _⟩ := okPair_spec ha (hp2.2.2 x hx (i, k) (by simp)); exact e4 he
        · obtain ⟨_, _, _, _, _, e4, _⟩ := okPair_spec ha ((List.pairwise_cons.1 hp2.2.1).1 x hx); exact e4 he.symm
      have next : ∀ a' w', wpI F n P ops Q (pickO l (pre ++ post)) a' w' → wpAnyIn F n P .any ops Q m (listed.setIfInBounds i true) a' w' := fun a' w' h' =>
        ih (pre ++ post) (by simp at hn ⊢; omega) _ a' w' (by simpa using hsz)
          (fun j oj hj hlj e he hb => by
            by_cases hij : i = j
            · subst hij
              have : oj = oi := Option.some.inj (hj.symm.trans hoi)
              subst this
              exact getD_set_true (hall e he hb)
            · rw [getD_set_ne false hij] at hlj
              exact getD_set_true (hc j oj hj hlj e he hb))
          (List.pairwise_append.2 ⟨hp2.1, (List.pairwise_cons.1 hp2.2.1).2, fun x hx y hy => hp2.2.2 x hx y (by simp [hy])⟩)
          (fun x hx => hlt x (by rcases List.mem_append.1 hx with h | h <;> simp [h]))
          (fun j hj => by
            by_cases hij : i = j
            · subst hij
              have hi2 : i < listed.size := by omega
              constructor
              · intro hh; simp [hi2] at hh
              · rintro ⟨k', hk'⟩; exact absurd rfl (hnd _ hk')
            · rw [getD_set_ne true hij, hR j hj]
              constructor
              · rintro ⟨k', hk'⟩
                refine ⟨k', ?_⟩
                rcases List.mem_append.1 hk' with h | h
                · simp [h]
                · rcases List.mem_cons.1 h with h | h
                  · injection h with h1 _; exact absurd h1.symm hij
                  · simp [h]
              · rintro ⟨k', hk'⟩
                refine ⟨k', ?_⟩
                rcases List.mem_append.1 hk' with h | h <;> simp [h])
          h'
      unfold wpOpIn
      simp only [hoi]
      unfold stepI at hfront
      have ndi := nd i oi hoi
      split
      · rename_i hw
        rw [if_pos hw] at hfront
        refine ⟨fun f _ => hF f, ?_⟩
        rw [Oper.semAt_eq _ _ _ ndi]
        match k, hfront with
        | 0, ⟨v, h1, h2⟩ => rw [h1 w]; exact next _ _ h2
        | 1, ⟨v, h1, h2⟩ => rw [h1]; exact next _ _ h2
        | 2, h => exact wpX_mono' (fun _ _ _ hh => next _ _ hh.2) (fun _ _ _ h => h.elim) h
        | k + 3, h => exact wpX_mono' (fun _ _ _ hh => next _ _ hh) (fun _ _ _ h => h.elim) h
      · rename_i hw
        rw [if_neg hw] at hfront
        exact ⟨fun f _ => hF f, next _ _ hfront⟩

def noDefer (l : List Oper) : Bool := l.all fun o => match o.op with | .defer _ => false | _ => true
theorem noDefer_spec {l : List Oper} (h : noDefer l = true) (i : Nat) (o : Oper) (ho : l.toArray[i]? = some o) : ∀ c, o.op ≠ .defer c := by
  intro c hc
  unfold noDefer at h
  rw [List.all_eq_true] at h
  have hm : o ∈ l := by
    rw [List.getElem?_toArray] at ho
    exact List.mem_of_getElem? ho
  have := h o hm
  rw [hc] at this
  cases this

/-- **A region that draws its order, walked once, in the order 'ord'** (the operations' numbers, each with its kind). -/
theorem wpIn_region_ord {id : Nat} {a : Act} {w : World} {l : List Oper} (ord : List (Nat × Nat)) (hF : ∀ f, F.fn f) (hm : P.follows .mixedOrders = true) (hB : ordB l ord = true) (hnd : noDefer l = true)
    (h : wpI F n P l.toArray Q (pickO l ord) a w.drew) : (Code.region id l.toArray true).wpIn F n P Q a w := by
  simp only [ordB, Bool.and_eq_true, decide_eq_true_eq, List.all_eq_true] at hB
  obtain ⟨⟨⟨⟨⟨hE, hsel⟩, hlen⟩, hlt⟩, hpairs⟩, hcov⟩ := hB
  have ha : AncOk l.toArray (ancFrom l []) := ancFrom_ok l [] (by simp) (fun j i hi => by simp at hi)
  have hp := pairsB_spec hpairs
  refine wpIn_region_any hm ?_
  have hsz : l.toArray.size = ord.length := by simpa using hlen.symm
  rw [hsz]
  refine wpAnyIn_of_ord hF (noDefer_spec hnd) l rfl hsel ha (fun j o hj e he hb => by
      have := edgesB_spec l 0 hE j o (by simpa using hj) e he hb
      simpa using this) ord.length ord rfl _ a _ (by simpa using hlen) (fun j oj _ hl => by exfalso; revert hl; rcases Nat.lt_or_ge j ord.length with h | h <;> simp [h]) hp (by simpa using hlt) (fun i hi => ?_) h
  have hi' : i < ord.length := by omega
  constructor
  · intro _
    have := hcov i (List.mem_range.2 (by omega))
    obtain ⟨x, hx, hxi⟩ := List.any_eq_true.1 this
    obtain rfl : x.1 = i := by simpa using hxi
    exact ⟨x.2, hx⟩
  · intro _; simp [hi']
end
end Go.Proofs.Tc
