/-
  A region that draws its order, with an invariant of the region's own (loads that may move past whatever keeps it), and with pairs of
  operations that are walked in both orders.
-/
import Derived.Test.YtjjnbanlofhhnaaGreatOrd
namespace Go.Proofs.Tc
open Go.RowKit
section
variable {P : Program} {ops : Array Oper} {Q : Exit → Act → World → Prop} {V : World → Prop}

def stepV (P : Program) (ops : Array Oper) (V : World → Prop) (o : Oper) (k : Nat) (a : Act) (w : World) (N : Act → World → Prop) : Prop :=
  if Region.wanted o (yielded ops a.tmps) then
    match k with
    | 0 => ∃ v, (∀ W, (execOp a.eval o).run P W = .ok (.value v) W) ∧ N (a.put o.dst v) w
    | 1 => ∃ v, (execOp a.eval o).run P w = .ok (.value v) w ∧ N (a.put o.dst v) w
    | 2 => o.wp P a w (fun a' w' => Below w.heap.size w w' ∧ N a' w') NoExit
    | 4 => V w ∧ ∃ v, (∀ W, V W → (execOp a.eval o).run P W = .ok (.value v) W) ∧ N (a.put o.dst v) w
    | 5 => o.wp P a w (fun a' w' => (V w → V w') ∧ N a' w') NoExit
    | _ => o.wp P a w N NoExit
  else N (a.put o.dst undef) w
section
variable (P : Program) (ops : Array Oper) (V : World → Prop) (o : Oper) (a : Act) (w : World) (N : Act → World → Prop)
theorem stepV_0 : stepV P ops V o 0 a w N = if Region.wanted o (yielded ops a.tmps) then ∃ v, (∀ W, (execOp a.eval o).run P W = .ok (.value v) W) ∧ N (a.put o.dst v) w else N (a.put o.dst undef) w := rfl
theorem stepV_1 : stepV P ops V o 1 a w N = if Region.wanted o (yielded ops a.tmps) then ∃ v, (execOp a.eval o).run P w = .ok (.value v) w ∧ N (a.put o.dst v) w else N (a.put o.dst undef) w := rfl
theorem stepV_2 : stepV P ops V o 2 a w N = if Region.wanted o (yielded ops a.tmps) then o.wp P a w (fun a' w' => Below w.heap.size w w' ∧ N a' w') NoExit else N (a.put o.dst undef) w := rfl
theorem stepV_3 : stepV P ops V o 3 a w N = if Region.wanted o (yielded ops a.tmps) then o.wp P a w N NoExit else N (a.put o.dst undef) w := rfl
theorem stepV_4 : stepV P ops V o 4 a w N = if Region.wanted o (yielded ops a.tmps) then V w ∧ ∃ v, (∀ W, V W → (execOp a.eval o).run P W = .ok (.value v) W) ∧ N (a.put o.dst v) w else N (a.put o.dst undef) w := rfl
theorem stepV_5 : stepV P ops V o 5 a w N = if Region.wanted o (yielded ops a.tmps) then o.wp P a w (fun a' w' => (V w → V w') ∧ N a' w') NoExit else N (a.put o.dst undef) w := rfl
end

def wpT (P : Program) (ops : Array Oper) (V : World → Prop) (Q : Exit → Act → World → Prop) : List (List (Oper × Nat)) → Act → World → Prop
  | [], a, w => Q .normal a w
  | I :: r, a, w =>
    match I with
    | [(o, k)] => stepV P ops V o k a w (wpT P ops V Q r)
    | [(o, k), (o', k')] => stepV P ops V o k a w (fun a1 w1 => stepV P ops V o' k' a1 w1 (wpT P ops V Q r)) ∧ stepV P ops V o' k' a w (fun a1 w1 => stepV P ops V o k a1 w1 (wpT P ops V Q r))
    | _ => False

theorem wpT_nil {a : Act} {w : World} (h : Q .normal a w) : wpT P ops V Q [] a w := h
theorem wpT_step {o : Oper} {k : Nat} {r : List (List (Oper × Nat))} {a : Act} {w : World}
    (h : ∀ K : Act → World → Prop, (∀ a w, wpT P ops V Q r a w → K a w) → stepV P ops V o k a w K) : wpT P ops V Q ([(o, k)] :: r) a w := h _ (fun _ _ h => h)
theorem stepV_mono {o : Oper} {k : Nat} {a : Act} {w : World} {N N' : Act → World → Prop} (hN : ∀ a w, N a w → N' a w) (h : stepV P ops V o k a w N) : stepV P ops V o k a w N' := by
  unfold stepV at *
  split
  · rename_i hw
    rw [if_pos hw] at h
    match k, h with
    | 0, ⟨v, h1, h2⟩ => exact ⟨v, h1, hN _ _ h2⟩
    | 1, ⟨v, h1, h2⟩ => exact ⟨v, h1, hN _ _ h2⟩
    | 2, h => exact wp_mono' (fun _ _ _ hh => ⟨hh.1, hN _ _ hh.2⟩) (fun _ _ _ h => h) h
    | 3, h => exact wp_mono' (fun _ _ _ hh => hN _ _ hh) (fun _ _ _ h => h) h
    | 4, ⟨h0, v, h1, h2⟩ => exact ⟨h0, v, h1, hN _ _ h2⟩
    | 5, h => exact wp_mono' (fun _ _ _ hh => ⟨hh.1, hN _ _ hh.2⟩) (fun _ _ _ h => h) h
    | k + 6, h => exact wp_mono' (fun _ _ _ hh => hN _ _ hh) (fun _ _ _ h => h) h
  · rename_i hw
    rw [if_neg hw] at h
    exact hN _ _ h
/-- The pair, each order walked. -/
theorem wpT_two {o o' : Oper} {k k' : Nat} {r : List (List (Oper × Nat))} {a : Act} {w : World}
    (h1 : wpT P ops V Q ([(o, k)] :: [(o', k')] :: r) a w) (h2 : wpT P ops V Q ([(o', k')] :: [(o, k)] :: r) a w) : wpT P ops V Q ([(o, k), (o', k')] :: r) a w := ⟨h1, h2⟩
theorem wpT_skip {o : Oper} {k : Nat} {r : List (List (Oper × Nat))} {a : Act} {w : World}
    (hw : Region.wanted o (yielded ops a.tmps) = false) (h : wpT P ops V Q r (a.put o.dst undef) w) : wpT P ops V Q ([(o, k)] :: r) a w := by
  show stepV P ops V o k a w (wpT P ops V Q r)
  unfold stepV
  rw [if_neg (by rw [hw]; simp)]
  exact h

/-- What a quiet step shows. -/
def Yv (P : Program) (ops : Array Oper) (V : World → Prop) (o : Oper) (k : Nat) (a : Act) (w : World) (u : Value) : Prop :=
  (Region.wanted o (yielded ops a.tmps) = true ∧ ((k = 0 ∧ ∀ W, (execOp a.eval o).run P W = .ok (.value u) W) ∨ (k = 1 ∧ (execOp a.eval o).run P w = .ok (.value u) w) ∨ (k = 4 ∧ V w ∧ ∀ W, V W → (execOp a.eval o).run P W = .ok (.value u) W))) ∨
  (Region.wanted o (yielded ops a.tmps) = false ∧ u = undef)

theorem stepV_quiet {o : Oper} {k : Nat} (hk : k = 0 ∨ k = 1 ∨ k = 4) {a : Act} {w : World} {N : Act → World → Prop} : stepV P ops V o k a w N ↔ ∃ u, Yv P ops V o k a w u ∧ N (a.put o.dst u) w := by
  unfold stepV Yv
  by_cases hw : Region.wanted o (yielded ops a.tmps) = true
  · rw [if_pos hw]
    rcases hk with rfl | rfl | rfl
    · constructor
      · rintro ⟨v, h1, h2⟩; exact ⟨v, .inl ⟨hw, .inl ⟨rfl, h1⟩⟩, h2⟩
      · rintro ⟨v, (⟨_, ⟨_, h1⟩ | ⟨h0, _⟩ | ⟨h0, _⟩⟩ | ⟨h0, _⟩), h2⟩
        · exact ⟨v, h1, h2⟩
        · cases h0
        · cases h0
        · rw [hw] at h0; cases h0
    · constructor
      · rintro ⟨v, h1, h2⟩; exact ⟨v, .inl ⟨hw, .inr (.inl ⟨rfl, h1⟩)⟩, h2⟩
      · rintro ⟨v, (⟨_, ⟨h0, _⟩ | ⟨_, h1⟩ | ⟨h0, _⟩⟩ | ⟨h0, _⟩), h2⟩
        · cases h0
        · exact ⟨v, h1, h2⟩
        · cases h0
        · rw [hw] at h0; cases h0
    · constructor
      · rintro ⟨h0, v, h1, h2⟩; exact ⟨v, .inl ⟨hw, .inr (.inr ⟨rfl, h0, h1⟩)⟩, h2⟩
      · rintro ⟨v, (⟨_, ⟨h0, _⟩ | ⟨h0, _⟩ | ⟨_, h0, h1⟩⟩ | ⟨h0, _⟩), h2⟩
        · cases h0
        · cases h0
        · exact ⟨h0, v, h1, h2⟩
        · rw [hw] at h0; cases h0
  · rw [if_neg hw]
    have hw' : Region.wanted o (yielded ops a.tmps) = false := by simpa using hw
    constructor
    · intro h; exact ⟨undef, .inr ⟨hw', rfl⟩, h⟩
    · rintro ⟨v, (⟨h0, _⟩ | ⟨_, rfl⟩), h2⟩
      · exact absurd h0 hw
      · exact h2

theorem Yv.behind {oi oj : Oper} {kj : Nat} {a a' : Act} {w w' : World} {u v : Value} (hap : oi.apart ops oj = true) (hs : ∀ cs b, oj.op ≠ .select cs b)
    (ha : a'.tmps = (a.put oi.dst v).tmps) (hw : kj = 1 → (w' = w ∨ (isLoad oj.op = true ∧ Below w.heap.size w w'))) (hV : kj = 4 → V w → V w') (h : Yv P ops V oj kj a w u) : Yv P ops V oj kj a' w' u := by
  obtain ⟨h1, _, _⟩ := Oper.apart_spec hap
  have e1 : execOp a'.eval oj = execOp a.eval oj := by rw [eval_of_tmps ha]; exact execOp_put oj hs a oi.dst v h1
  have e2 : Region.wanted oj (yielded ops a'.tmps) = Region.wanted oj (yielded ops a.tmps) := by rw [ha]; exact wanted_put oj a oi.dst v h1
  unfold Yv at *
  rw [e1, e2]
  rcases h with ⟨hwn, ⟨rfl, hr⟩ | ⟨rfl, hr⟩ | ⟨rfl, h0, hr⟩⟩ | h
  · exact .inl ⟨hwn, .inl ⟨rfl, hr⟩⟩
  · refine .inl ⟨hwn, .inr (.inl ⟨rfl, ?_⟩)⟩
    rcases hw rfl with rfl | ⟨hl, hB⟩
    · exact hr
    · exact ((calm_load hl).run hr).2 w' hB
  · exact .inl ⟨hwn, .inr (.inr ⟨rfl, hV rfl h0, hr⟩)⟩
  · exact .inr h

/-- x, quiet, may stand ahead of y, though no edge binds them. -/
def movesB (ox : Oper) (kx ky : Nat) : Bool := kx == 0 || (kx == 1 && isLoad ox.op && (decide (ky ≤ 2) || ky == 4)) || (kx == 4 && (decide (ky ≤ 1) || ky == 4 || ky == 5))

theorem stepV_swap {oi oj : Oper} {ki kj : Nat} (hap : oi.apart ops oj = true) (hsi : ∀ cs b, oi.op ≠ .select cs b) (hsj : ∀ cs b, oj.op ≠ .select cs b)
    (hk : movesB oj kj ki = true) {a : Act} {w : World} {N : Act → World → Prop}
    (h : stepV P ops V oj kj a w (fun a1 w1 => stepV P ops V oi ki a1 w1 N)) : stepV P ops V oi ki a w (fun a1 w1 => stepV P ops V oj kj a1 w1 N) := by
  have hkk : kj = 0 ∨ (kj = 1 ∧ isLoad oj.op = true ∧ (ki ≤ 2 ∨ ki = 4)) ∨ (kj = 4 ∧ (ki ≤ 1 ∨ ki = 4 ∨ ki = 5)) := by
    simpa [movesB, and_assoc, or_assoc] using hk
  have hkj : kj = 0 ∨ kj = 1 ∨ kj = 4 := by omega
  obtain ⟨u, hy, h2⟩ := (stepV_quiet hkj).1 h
  obtain ⟨s1, s2, s3⟩ := Oper.apart_spec hap
  have e1 : execOp (a.put oj.dst u).eval oi = execOp a.eval oi := execOp_put oi hsi a oj.dst u s3
  have e2 : Region.wanted oi (yielded ops (a.put oj.dst u).tmps) = Region.wanted oi (yielded ops a.tmps) := wanted_put oi a oj.dst u s3
  have hne : ∀ d, oj.dst = some d → oi.dst ≠ some d := fun d hd he => s2 d he hd
  have hc : ∀ v, (a.put oj.dst u).put oi.dst v = (a.put oi.dst v).put oj.dst u := fun v => Act.put_comm a u v hne
  have key : ∀ v, N ((a.put oj.dst u).put oi.dst v) w → stepV P ops V oj kj (a.put oi.dst v) w N := fun v hn =>
    (stepV_quiet hkj).2 ⟨u, hy.behind hap hsj rfl (fun _ => .inl rfl) (fun _ h => h), by rw [← hc]; exact hn⟩
  unfold stepV at h2
  unfold stepV
  rw [e1, e2] at h2
  split
  · rename_i hw
    rw [if_pos hw] at h2
    match ki, hkk, h2 with
    | 0, _, ⟨v, h3, h4⟩ => exact ⟨v, h3, key v h4⟩
    | 1, _, ⟨v, h3, h4⟩ => exact ⟨v, h3, key v h4⟩
    | 4, _, ⟨h0, v, h3, h4⟩ => exact ⟨h0, v, h3, key v h4⟩
    | 2, hk, h2 =>
      have h3 : oi.wp P a w (fun a' w' => Below w.heap.size w w' ∧ N (a'.put oj.dst u) w') NoExit :=
        upon_put (P := P) (N := fun a' w' => Below w.heap.size w w' ∧ N a' w') (a := a) (u := u) hne ((execOp a.eval oi).run P w) (by unfold Oper.wp at h2; rw [e1] at h2; exact h2)
      refine wp_mono' (fun a' w' ha hh => ⟨hh.1, ?_⟩) (fun _ _ _ h => h) h3
      obtain ⟨v, ha⟩ := ha
      exact (stepV_quiet hkj).2 ⟨u, hy.behind hap hsj ha (fun he => .inr ⟨by rcases hk with h0 | h0 | h0
                                                                             · omega
                                                                             · exact h0.2.1
                                                                             · omega, hh.1⟩) (fun he => by omega), hh.2⟩
    | 5, hk, h2 =>
      have h3 : oi.wp P a w (fun a' w' => (V w → V w') ∧ N (a'.put oj.dst u) w') NoExit :=
        upon_put (P := P) (N := fun a' w' => (V w → V w') ∧ N a' w') (a := a) (u := u) hne ((execOp a.eval oi).run P w) (by unfold Oper.wp at h2; rw [e1] at h2; exact h2)
      refine wp_mono' (fun a' w' ha hh => ⟨hh.1, ?_⟩) (fun _ _ _ h => h) h3
      obtain ⟨v, ha⟩ := ha
      exact (stepV_quiet hkj).2 ⟨u, hy.behind hap hsj ha (fun he => by omega) (fun _ => hh.1), hh.2⟩
    | 3, hk, h2 =>
      have h3 : oi.wp P a w (fun a' w' => N (a'.put oj.dst u) w') NoExit :=
        upon_put (P := P) (N := N) (a := a) (u := u) hne ((execOp a.eval oi).run P w) (by unfold Oper.wp at h2; rw [e1] at h2; exact h2)
      refine wp_mono' (fun a' w' ha hh => ?_) (fun _ _ _ h => h) h3
      obtain ⟨v, ha⟩ := ha
      exact (stepV_quiet hkj).2 ⟨u, hy.behind hap hsj ha (fun he => by omega) (fun he => by omega), hh⟩
    | k + 6, hk, h2 =>
      have h3 : oi.wp P a w (fun a' w' => N (a'.put oj.dst u) w') NoExit :=
        upon_put (P := P) (N := N) (a := a) (u := u) hne ((execOp a.eval oi).run P w) (by unfold Oper.wp at h2; rw [e1] at h2; exact h2)
      refine wp_mono' (fun a' w' ha hh => ?_) (fun _ _ _ h => h) h3
      obtain ⟨v, ha⟩ := ha
      exact (stepV_quiet hkj).2 ⟨u, hy.behind hap hsj ha (fun he => by omega) (fun he => by omega), hh⟩
  · rename_i hw
    rw [if_neg hw] at h2
    exact key undef h2

theorem wpT_front {oi : Oper} {ki : Nat} (hsi : ∀ cs b, oi.op ≠ .select cs b) : ∀ (pre : List (List (Oper × Nat))) {post : List (List (Oper × Nat))} {a : Act} {w : World},
    (∀ I ∈ pre, ∃ x, I = [x] ∧ oi.apart ops x.1 = true ∧ (∀ cs b, x.1.op ≠ .select cs b) ∧ movesB x.1 x.2 ki = true) →
    wpT P ops V Q (pre ++ [(oi, ki)] :: post) a w → stepV P ops V oi ki a w (wpT P ops V Q (pre ++ post))
  | [], _, _, _, _, h => h
  | I :: pre, post, a, w, hp, h => by
    obtain ⟨⟨oj, kj⟩, rfl, p1, p2, p3⟩ := hp I (by simp)
    have h' : stepV P ops V oj kj a w (fun a1 w1 => stepV P ops V oi ki a1 w1 (wpT P ops V Q (pre ++ post))) :=
      stepV_mono (fun a1 w1 h1 => wpT_front hsi pre (fun x hx => hp x (by simp [hx])) h1) h
    exact stepV_swap p1 hsi p2 p3 h'

def noEdge (ox : Oper) (y : Nat) : Bool := ox.after.all fun e => !(Region.binds .any e && e.on == y)
def okPairV (ops : Array Oper) (anc : List (List Nat)) (x y : Nat × Nat) : Bool :=
  match ops[x.1]?, ops[y.1]? with
  | some ox, some oy => noEdge ox y.1 && x.1 != y.1 && ((anc.getD y.1 []).contains x.1 || (oy.apart ops ox && movesB ox x.2 y.2))
  | _, _ => false
/-- The operations of a pair: neither waits for the other; neither may be moved. -/
def okTwo (ops : Array Oper) (x y : Nat × Nat) : Bool :=
  match ops[x.1]?, ops[y.1]? with
  | some ox, some oy => noEdge ox y.1 && noEdge oy x.1 && x.1 != y.1 && (x.2 == 2 || x.2 == 3 || x.2 == 5) && (y.2 == 2 || y.2 == 3 || y.2 == 5)
  | _, _ => false
def okItem (ops : Array Oper) : List (Nat × Nat) → Bool
  | [_] => true
  | [x, y] => okTwo ops x y
  | _ => false
def pairsV (ops : Array Oper) (anc : List (List Nat)) : List (List (Nat × Nat)) → Bool
  | [] => true
  | I :: r => okItem ops I && (I.all fun x => r.all fun J => J.all fun y => okPairV ops anc x y) && pairsV ops anc r
def pickT (l : List Oper) (R : List (List (Nat × Nat))) : List (List (Oper × Nat)) := R.map fun I => I.map fun x => (l.getD x.1 default, x.2)
def ordT (l : List Oper) (R : List (List (Nat × Nat))) : Bool :=
  edgesB l.length l 0 && Region.noSelect l.toArray && decide (R.flatten.length = l.length) && (R.flatten.all fun x => decide (x.1 < l.length)) && pairsV l.toArray (ancFrom l []) R && ((List.range l.length).all fun i => R.flatten.any fun x => x.1 == i)

theorem pairsV_spec {anc : List (List Nat)} : ∀ {R : List (List (Nat × Nat))}, pairsV ops anc R = true → (R.Pairwise fun I J => ∀ x ∈ I, ∀ y ∈ J, okPairV ops anc x y = true) ∧ ∀ I ∈ R, okItem ops I = true
  | [], _ => ⟨.nil, by simp⟩
  | I :: r, h => by
    simp only [pairsV, Bool.and_eq_true, List.all_eq_true] at h
    obtain ⟨h1, h2⟩ := pairsV_spec h.2
    refine ⟨.cons (fun J hJ x hx y hy => h.1.2 x hx J hJ y hy) h1, ?_⟩
    intro J hJ
    rcases List.mem_cons.1 hJ with rfl | hJ
    · exact h.1.1
    · exact h2 J hJ
theorem noEdge_spec {ox : Oper} {y : Nat} (h : noEdge ox y = true) : ∀ e ∈ ox.after, Region.binds .any e = true → e.on ≠ y := by
  intro e he hb hy
  simp only [noEdge, Array.all_eq_true_iff_forall_mem] at h
  have := h e he
  simp [hb, hy] at this
theorem okPairV_spec {anc : List (List Nat)} (ha : AncOk ops anc) {x y : Nat × Nat} (h : okPairV ops anc x y = true) :
    ∃ ox oy, ops[x.1]? = some ox ∧ ops[y.1]? = some oy ∧ (∀ e ∈ ox.after, Region.binds .any e = true → e.on ≠ y.1) ∧ x.1 ≠ y.1 ∧
      (Reach ops x.1 y.1 ∨ (oy.apart ops ox = true ∧ movesB ox x.2 y.2 = true)) := by
  unfold okPairV at h
  split at h
  · rename_i ox oy h1 h2
    simp only [Bool.and_eq_true, Bool.or_eq_true, bne_iff_ne, ne_eq] at h
    obtain ⟨⟨h3, h4⟩, h5⟩ := h
    exact ⟨ox, oy, h1, h2, noEdge_spec h3, h4, h5.imp (fun h5 => ha _ _ (by simpa using h5)) id⟩
  · cases h
theorem okTwo_spec {x y : Nat × Nat} (h : okTwo ops x y = true) :
    ∃ ox oy, ops[x.1]? = some ox ∧ ops[y.1]? = some oy ∧ (∀ e ∈ ox.after, Region.binds .any e = true → e.on ≠ y.1) ∧ (∀ e ∈ oy.after, Region.binds .any e = true → e.on ≠ x.1) ∧ x.1 ≠ y.1 ∧
      (x.2 = 2 ∨ x.2 = 3 ∨ x.2 = 5) ∧ (y.2 = 2 ∨ y.2 = 3 ∨ y.2 = 5) := by
  unfold okTwo at h
  split at h
  · rename_i ox oy h1 h2
    simp only [Bool.and_eq_true, Bool.or_eq_true, bne_iff_ne, ne_eq, beq_iff_eq] at h
    obtain ⟨⟨⟨⟨h3, h4⟩, h5⟩, h6⟩, h7⟩ := h
    exact ⟨ox, oy, h1, h2, noEdge_spec h3, noEdge_spec h4, h5, by omega, by omega⟩
  · cases h

theorem wpT_pre {S S' : List (List (Oper × Nat))} (hS : ∀ a w, wpT P ops V Q S a w → wpT P ops V Q S' a w) : ∀ (pre : List (List (Oper × Nat))) {a : Act} {w : World}, wpT P ops V Q (pre ++ S) a w → wpT P ops V Q (pre ++ S') a w
  | [], a, w, h => hS a w h
  | [] :: pre, a, w, h => h.elim
  | [(o, k)] :: pre, a, w, h => stepV_mono (fun a1 w1 h1 => wpT_pre hS pre h1) h
  | [(o, k), (o', k')] :: pre, a, w, h => ⟨stepV_mono (fun a1 w1 h1 => stepV_mono (fun a2 w2 h2 => wpT_pre hS pre h2) h1) h.1, stepV_mono (fun a1 w1 h1 => stepV_mono (fun a2 w2 h2 => wpT_pre hS pre h2) h1) h.2⟩
  | (_ :: _ :: _ :: _) :: pre, a, w, h => h.elim

theorem wpAny_of_ordT (l : List Oper) (hl : ops = l.toArray) (hsel : Region.noSelect ops = true) {anc : List (List Nat)} (ha : AncOk ops anc)
    (hE : ∀ j o, ops[j]? = some o → ∀ e ∈ o.after, Region.binds .any e = true → e.on < ops.size ∧ e.on ≠ j) :
    ∀ (n : Nat) (R : List (List (Nat × Nat))), R.flatten.length = n → ∀ (listed : Array Bool) (a : Act) (w : World), listed.size = ops.size → Closed ops listed →
      (R.Pairwise fun I J => ∀ x ∈ I, ∀ y ∈ J, okPairV ops anc x y = true) → (∀ I ∈ R, okItem ops I = true) →
      (∀ x ∈ R.flatten, x.1 < ops.size) → (∀ i, i < ops.size → (listed.getD i true = false ↔ ∃ k, (i, k) ∈ R.flatten)) →
      wpT P ops V Q (pickT l R) a w → wpAny P .any ops Q n listed a w := by
  intro n
  induction n with
  | zero =>
    intro R hn listed a w hsz hc hp hit hlt hR h
    have hf : R.flatten = [] := List.length_eq_zero_iff.1 hn
    obtain rfl : R = [] := by
      cases R with
      | nil => rfl
      | cons I r =>
        have := hit I (by simp)
        cases I with
        | nil => simp [okItem] at this
        | cons x r' => simp at hf
    refine ⟨?_, h⟩
    rw [List.eq_nil_iff_forall_not_mem]
    intro i hi
    obtain ⟨hu, o, ho, _⟩ := mem_ready.1 hi
    have hi' : i < ops.size := (Array.getElem?_eq_some_iff.1 ho).1
    obtain ⟨k, hk⟩ := (hR i hi').1 hu
    cases hk
  | succ n ih =>
    intro R hn listed a w hsz hc hp hit hlt hR h
    have getb : ∀ i, i < ops.size → ¬ (listed.getD i true = false) → listed.getD i false = true := fun i hi hh => by
      have hi2 : i < listed.size := by omega
      simp only [Array.getD_eq_getD_getElem?, Array.getElem?_eq_getElem hi2, Option.getD_some] at hh ⊢
      simpa using hh
    refine ⟨fun h0 => ?_, fun i hi => ?_⟩
    · exfalso
      match R, hn, hp, hit, hlt, hR with
      | [] :: r, _, _, hit, _, _ => have := hit [] (by simp); simp [okItem] at this
      | ((i, k) :: I) :: r, _, hp, hit, hlt, hR =>
        have hil := hlt (i, k) (by simp)
        have hopi : ops[i]? = some (ops[i]'hil) := Array.getElem?_eq_getElem hil
        have : i ∈ Region.ready .any ops listed := by
          refine mem_ready.2 ⟨(hR i hil).2 ⟨k, by simp⟩, _, hopi, fun e he hb => ?_⟩
          obtain ⟨hes, hself⟩ := hE i _ hopi e he hb
          refine getb _ hes fun hun => ?_
          obtain ⟨k', hk'⟩ := (hR _ hes).1 hun
          simp only [List.flatten_cons, List.mem_append] at hk'
          rcases hk' with hk' | hk'
          · rcases List.mem_cons.1 hk' with hk' | hk'
            · injection hk' with h1 h2
              exact hself h1
            · have h1 := hit _ (List.mem_cons_self)
              match I, hk', h1 with
              | [y], hk', h1 =>
                obtain rfl : (e.on, k') = y := by simpa using hk'
                obtain ⟨ox, oy, e1, e2, e3, _⟩ := okTwo_spec h1
                have : ox = ops[i]'hil := Option.some.inj (e1.symm.trans hopi)
                subst this
                exact e3 e he hb rfl
              | _ :: _ :: _, _, h1 => simp [okItem] at h1
          · obtain ⟨J, hJ, hkJ⟩ := List.mem_flatten.1 hk'
            obtain ⟨ox, oy, e1, e2, e3, _⟩ := okPairV_spec ha ((List.pairwise_cons.1 hp).1 J hJ (i, k) (by simp) _ hkJ)
            have : ox = ops[i]'hil := Option.some.inj (e1.symm.trans hopi)
            subst this
            exact e3 e he hb rfl
        rw [h0] at this
        cases this
    · obtain ⟨hu, oi, hoi, hall⟩ := mem_ready.1 hi
      have hil : i < ops.size := (Array.getElem?_eq_some_iff.1 hoi).1
      obtain ⟨k, hk⟩ := (hR i hil).1 hu
      obtain ⟨I, hIR, hiI⟩ := List.mem_flatten.1 hk
      obtain ⟨pre, post, rfl⟩ := List.append_of_mem hIR
      have hopi : l.getD i default = oi := by
        subst hl
        simp only [List.getElem?_toArray] at hoi
        rw [List.getD_eq_getElem?_getD, hoi]; rfl
      have sel : ∀ (j : Nat) (o : Oper) cs b, ops[j]? = some o → o.op ≠ .select cs b := Region.noSelect_spec hsel
      have hp2 := List.pairwise_append.1 hp
      have hp3 := List.pairwise_cons.1 hp2.2.1
      obtain ⟨p, hI⟩ : ∃ p : List (Nat × Nat), (I = [(i, k)] ∧ p = []) ∨ (∃ y, (I = [(i, k), y] ∨ I = [y, (i, k)]) ∧ p = [y] ∧ y.1 ≠ i) := by
        have h1 := hit I (by simp)
        match I, hiI, h1 with
        | [x], hiI, _ => exact ⟨[], .inl ⟨by have := List.mem_singleton.1 hiI; rw [this], rfl⟩⟩
        | [x, y], hiI, h1 =>
          obtain ⟨_, _, _, _, _, _, hne, _⟩ := okTwo_spec h1
          rcases List.mem_cons.1 hiI with rfl | hiI
          · exact ⟨[y], .inr ⟨y, .inl rfl, rfl, fun h => hne h.symm⟩⟩
          · obtain rfl : (i, k) = y := by simpa using hiI
            exact ⟨[x], .inr ⟨x, .inr rfl, rfl, hne⟩⟩
        | _ :: _ :: _ :: _, _, h1 => simp [okItem] at h1
      have hpI : ∀ y ∈ p, y ∈ I ∧ y.1 ≠ i := by
        rcases hI with ⟨_, rfl⟩ | ⟨y, hI, rfl, hne⟩
        · simp
        · intro z hz
          obtain rfl : z = y := by simpa using hz
          refine ⟨?_, hne⟩
          rcases hI with rfl | rfl <;> simp
      have hIp : ∀ y, y ∈ I ↔ y = (i, k) ∨ y ∈ p := by
        rcases hI with ⟨rfl, rfl⟩ | ⟨y, rfl | rfl, rfl, hne⟩
        · simp
        · simp
        · intro z; simp [or_comm]
      have hIl : I.length = p.length + 1 := by
        rcases hI with ⟨rfl, rfl⟩ | ⟨y, rfl | rfl, rfl, hne⟩ <;> simp
      have hfl : (p.map fun y => [y]).flatten = p := by
        rcases hI with ⟨_, rfl⟩ | ⟨y, _, rfl, hne⟩ <;> simp
      have hpl : p.length ≤ 1 := by
        rcases hI with ⟨_, rfl⟩ | ⟨y, _, rfl, hne⟩ <;> simp
      have hfront : stepV P ops V oi k a w (wpT P ops V Q (pickT l (pre ++ ((p.map fun y => [y]) ++ post)))) := by
        have h' : wpT P ops V Q (pickT l pre ++ [(oi, k)] :: pickT l ((p.map fun y => [y]) ++ post)) a w := by
          have h0 : wpT P ops V Q (pickT l pre ++ pickT l (I :: post)) a w := by simpa [pickT] using h
          refine wpT_pre ?_ _ h0
          rw [← hopi]
          rcases hI with ⟨rfl, rfl⟩ | ⟨y, rfl | rfl, rfl, hne⟩
          · exact fun a w h => h
          · exact fun a w h => h.1
          · exact fun a w h => h.2
        have := wpT_front (P := P) (ops := ops) (V := V) (Q := Q) (oi := oi) (ki := k) (fun cs b => sel i oi cs b hoi) (pickT l pre) (post := pickT l ((p.map fun y => [y]) ++ post)) (a := a) (w := w) ?_ h'
        · simpa [pickT] using this
        · intro J' hJ'
          obtain ⟨J, hJ, rfl⟩ := List.mem_map.1 hJ'
          have hmv : ∀ y ∈ J, ∃ oy, ops[y.1]? = some oy ∧ oi.apart ops oy = true ∧ movesB oy y.2 k = true := by
            intro y hy
            obtain ⟨ox, oy, e1, e2, e3, e4, e5⟩ := okPairV_spec ha (hp2.2.2 J hJ I (by simp) y hy (i, k) hiI)
            have hoy : oy = oi := Option.some.inj (e2.symm.trans hoi)
            subst hoy
            rcases e5 with e5 | e5
            · exfalso
              have hyl := hlt y (by simp only [List.flatten_append, List.mem_append]; exact .inl (List.mem_flatten.2 ⟨J, hJ, hy⟩))
              have hlisted := closed_reach hc e5 (fun oj ho e he hb => by
                have : oj = oy := Option.some.inj (ho.symm.trans hoi)
                subst this
                exact hall e he hb)
              have hun := (hR y.1 hyl).2 ⟨y.2, by simp only [List.flatten_append, List.mem_append]; exact .inl (List.mem_flatten.2 ⟨J, hJ, hy⟩)⟩
              have hy2 : y.1 < listed.size := by omega
              simp [Array.getElem?_eq_getElem hy2] at hlisted hun
              rw [hun] at hlisted
              cases hlisted
            · exact ⟨ox, e1, e5⟩
          have hgx : ∀ (y : Nat × Nat) (oy : Oper), ops[y.1]? = some oy → l.getD y.1 default = oy := by
            intro y oy e1
            subst hl
            simp only [List.getElem?_toArray] at e1
            rw [List.getD_eq_getElem?_getD, e1]; rfl
          have h1 := hit J (by simp [hJ])
          match J, hmv, h1 with
          | [y], hmv, _ =>
            obtain ⟨oy, e1, e2, e3⟩ := hmv y (by simp)
            refine ⟨(oy, y.2), by simp only [List.map_cons, List.map_nil, hgx y oy e1], e2, fun cs b => sel y.1 oy cs b e1, e3⟩
          | [y, z], hmv, h1 =>
            exfalso
            obtain ⟨oy, e1, e2, e3⟩ := hmv y (by simp)
            obtain ⟨_, _, _, _, _, _, _, h6, _⟩ := okTwo_spec h1
            rcases h6 with h6 | h6 | h6 <;> simp [movesB, h6] at e3
          | [], _, h1 => simp [okItem] at h1
          | _ :: _ :: _ :: _, _, h1 => simp [okItem] at h1
      have hnd : ∀ x ∈ (pre ++ ((p.map fun y => [y]) ++ post)).flatten, x.1 ≠ i := by
        intro x hx he
        simp only [List.flatten_append, hfl, List.mem_append] at hx
        rcases hx with hx | hx | hx
        · obtain ⟨J, hJ, hxJ⟩ := List.mem_flatten.1 hx
          obtain ⟨_, _, _, _, _, e4, _⟩ := okPairV_spec ha (hp2.2.2 J hJ I (by simp) x hxJ (i, k) hiI); exact e4 he
        · exact (hpI x hx).2 he
        · obtain ⟨J, hJ, hxJ⟩ := List.mem_flatten.1 hx
          obtain ⟨_, _, _, _, _, e4, _⟩ := okPairV_spec ha (hp3.1 J hJ (i, k) hiI x hxJ); exact e4 he.symm
      have hmem : ∀ x, x ∈ (pre ++ I :: post).flatten ↔ x = (i, k) ∨ x ∈ (pre ++ ((p.map fun y => [y]) ++ post)).flatten := by
        intro x
        simp only [List.flatten_append, List.flatten_cons, hfl, List.mem_append, hIp x]
        constructor
        · rintro (h | (h | h) | h)
          · exact .inr (.inl h)
          · exact .inl h
          · exact .inr (.inr (.inl h))
          · exact .inr (.inr (.inr h))
        · rintro (h | h | h | h)
          · exact .inr (.inl (.inl h))
          · exact .inl h
          · exact .inr (.inl (.inr h))
          · exact .inr (.inr h)
      have next : ∀ a' w', wpT P ops V Q (pickT l (pre ++ ((p.map fun y => [y]) ++ post))) a' w' → wpAny P .any ops Q n (listed.setIfInBounds i true) a' w' := fun a' w' h' =>
        ih (pre ++ ((p.map fun y => [y]) ++ post)) (by simp only [List.flatten_append, List.flatten_cons, List.length_append, hfl] at hn ⊢; omega) _ a' w' (by simpa using hsz)
          (fun j oj hj hlj e he hb => by
            by_cases hij : i = j
            · subst hij
              have : oj = oi := Option.some.inj (hj.symm.trans hoi)
              subst this
              exact getD_set_true (hall e he hb)
            · rw [getD_set_ne false hij] at hlj
              exact getD_set_true (hc j oj hj hlj e he hb))
          (by
            refine List.pairwise_append.2 ⟨hp2.1, List.pairwise_append.2 ⟨?_, hp3.2, ?_⟩, ?_⟩
            · match p, hpl with
              | [], _ => exact .nil
              | [y], _ => exact .cons (by simp) .nil
            · intro J hJ K hK x hx y hy
              obtain ⟨z, hz, rfl⟩ := List.mem_map.1 hJ
              obtain rfl : x = z := by simpa using hx
              exact hp3.1 K hK x (hpI x hz).1 y hy
            · intro J hJ K hK x hx y hy
              rcases List.mem_append.1 hK with hK | hK
              · obtain ⟨z, hz, rfl⟩ := List.mem_map.1 hK
                obtain rfl : y = z := by simpa using hy
                exact hp2.2.2 J hJ I (by simp) x hx y (hpI y hz).1
              · exact hp2.2.2 J hJ K (by simp [hK]) x hx y hy)
          (by
            intro J hJ
            rcases List.mem_append.1 hJ with hJ | hJ
            · exact hit J (by simp [hJ])
            · rcases List.mem_append.1 hJ with hJ | hJ
              · obtain ⟨z, hz, rfl⟩ := List.mem_map.1 hJ; rfl
              · exact hit J (by simp [hJ]))
          (fun x hx => hlt x ((hmem x).2 (.inr hx)))
          (fun j hj => by
            by_cases hij : i = j
            · subst hij
              have hi2 : i < listed.size := by omega
              constructor
              · intro hh; simp [hi2] at hh
              · rintro ⟨k', hk'⟩; exact absurd rfl (hnd _ hk')
            · rw [getD_set_ne true hij, hR j hj]
              constructor
              · rintro ⟨k', hk'⟩
                rcases (hmem _).1 hk' with h | h
                · injection h with h1 _; exact absurd h1.symm hij
                · exact ⟨k', h⟩
              · rintro ⟨k', hk'⟩
                exact ⟨k', (hmem _).2 (.inr hk')⟩)
          h'
      unfold wpOp
      simp only [hoi]
      unfold stepV at hfront
      split
      · rename_i hw
        rw [if_pos hw] at hfront
        refine .inl ?_
        match k, hfront with
        | 0, ⟨v, h1, h2⟩ => unfold Oper.wp; rw [h1 w]; exact next _ _ h2
        | 1, ⟨v, h1, h2⟩ => unfold Oper.wp; rw [h1]; exact next _ _ h2
        | 4, ⟨h0, v, h1, h2⟩ => unfold Oper.wp; rw [h1 w h0]; exact next _ _ h2
        | 2, h => exact wp_mono' (fun _ _ _ hh => next _ _ hh.2) (fun _ _ _ h => h.elim) h
        | 3, h => exact wp_mono' (fun _ _ _ hh => next _ _ hh) (fun _ _ _ h => h.elim) h
        | 5, h => exact wp_mono' (fun _ _ _ hh => next _ _ hh.2) (fun _ _ _ h => h.elim) h
        | k + 6, h => exact wp_mono' (fun _ _ _ hh => next _ _ hh) (fun _ _ _ h => h.elim) h
      · rename_i hw
        rw [if_neg hw] at hfront
        exact next _ _ hfront

/-- **A region that draws its order, walked by an order of our own, V the region's own invariant.** -/
theorem wp_region_ordT {id : Nat} {a : Act} {w : World} {l : List Oper} (V : World → Prop) (R : List (List (Nat × Nat))) (hm : P.follows .mixedOrders = true) (hB : ordT l R = true)
    (h : wpT P l.toArray V Q (pickT l R) a w.drew) : (Code.region id l.toArray true).wp P Q a w := by
  simp only [ordT, Bool.and_eq_true, decide_eq_true_eq, List.all_eq_true] at hB
  obtain ⟨⟨⟨⟨⟨hE, hsel⟩, hlen⟩, hlt⟩, hpairs⟩, hcov⟩ := hB
  have ha : AncOk l.toArray (ancFrom l []) := ancFrom_ok l [] (by simp) (fun j i hi => by simp at hi)
  obtain ⟨hp, hit⟩ := pairsV_spec hpairs
  refine wp_region_any hm ?_
  have hsz : l.toArray.size = R.flatten.length := by simpa using hlen.symm
  rw [hsz]
  refine wpAny_of_ordT l rfl hsel ha (fun j o hj e he hb => by
      have := edgesB_spec l 0 hE j o (by simpa using hj) e he hb
      simpa using this) R.flatten.length R rfl _ a _ (by simpa using hlen) (fun j oj _ hl => by
      exfalso; revert hl
      simp only [Array.getD_eq_getD_getElem?, Array.getElem?_replicate]
      split <;> simp) hp hit (by simpa using hlt) (fun i hi => ?_) h
  have hi' : i < R.flatten.length := by omega
  constructor
  · intro _
    have := hcov i (List.mem_range.2 (by omega))
    obtain ⟨x, hx, hxi⟩ := List.any_eq_true.1 this
    obtain rfl : x.1 = i := by simpa using hxi
    exact ⟨x.2, hx⟩
  · intro _; simp only [Array.getD_eq_getD_getElem?]; rw [Array.getElem?_replicate, if_pos hi']; rfl
end
end Go.Proofs.Tc
