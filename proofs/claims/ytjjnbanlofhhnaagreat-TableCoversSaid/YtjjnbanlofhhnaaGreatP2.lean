/-
  What a table makes of what it is told, and what stays true of it: buckets of splitting the own one, entries in their buckets, none bad beside a spare one that would do. No program in sight.
-/
import Derived.Test.YtjjnbanlofhhnaaGreatD10
import Derived.Test.YtjjnbanlofhhnaaGreatP1
namespace Go.Proofs.Tc
open Go.RowKit Go.Sort

def kindE (now : Int) (e : Ent) : Int := kindF now e.an e.ak e.fl
def halfF (k : Bk) (p : ByteArray) : Bk := ⟨p, k.bits + 1, k.ents.filter fun e => holdsB p (k.bits + 1) e.nd.id, k.spare.filter fun e => holdsB p (k.bits + 1) e.nd.id, k.ch⟩
def splitL (l : List Bk) (i : Nat) (k : Bk) : List Bk := replL l i (halfF k k.pre) (halfF k (flipN k.pre k.bits))
def touchF (now : Int) (l : List Bk) (id : ByteArray) : List Bk := match ofF l id with
  | some j => l.modify j fun k => { k with ch := now }
  | none => l
/-- Where a new node goes. -/
def placeF (own : ByteArray) (now : Int) : Nat → List Bk → Ent → Bool × List Bk
  | 0, l, _ => (false, l)
  | f + 1, l, e =>
    match ofF l e.nd.id with
    | none => (false, l)
    | some i => match l[i]? with
      | none => (false, l)
      | some k => match way1F k e with
        | some k' => (true, touchF now (l.set i k') e.nd.id)
        | none => match way2F k e with
          | some k' => (true, touchF now (l.set i k') e.nd.id)
          | none =>
            if holdsB k.pre k.bits own = true ∧ k.bits ≠ 160 then
              match placeF own now f (splitL l i k) e with
              | (true, l') => (true, touchF now l' e.nd.id)
              | (false, l') => match way4F k e with
                | some _ => (true, touchF now l' e.nd.id)
                | none => (false, l')
            else match way4F k e with
              | some k' => (true, touchF now (l.set i k') e.nd.id)
              | none => (false, l)
def allE (l : List Bk) : List Ent := l.flatMap fun k => k.ents ++ k.spare
def clash (n : Nd) (e : Ent) : Bool := !decide (e.nd = n) && (decide (e.nd.id = n.id) || decide (e.nd.fam = n.fam ∧ e.nd.ip = n.ip ∧ e.nd.port = n.port))
def dropsF (l : List Bk) (xs : List Nd) : List Bk := xs.foldl (fun l x => match ofF l x.id with
  | some i => l.modify i (dropB · x)
  | none => l) l
/-- Seen, where the time is taken and the node is a valid other one. -/
def seenF (own : ByteArray) (now : Int) (l : List Bk) (n : Nd) (ans : Bool) : Bool × List Bk :=
  if (allE l).any (fun e => clash n e && kindE now e == 1) then (false, l)
  else
    let l1 := dropsF l (((allE l).filter (clash n)).map (·.nd))
    match ofF l1 n.id with
    | none => (false, l1)
    | some i => match l1[i]? with
      | none => (false, l1)
      | some k => match knownF now k n ans with
        | some k' => (true, l1.set i k')
        | none => placeF own now 161 l1 (notedF now ⟨n, 0, -1, -1, 0⟩ ans)
/-- A bucket whose node n has failed. -/
def failB (now : Int) (k : Bk) (n : Nd) : Option Bk :=
  match k.ents.findIdx? (fun e => decide (e.nd = n)) with
  | some i => match k.ents[i]? with
    | none => none
    | some e =>
      let es := k.ents.set i { e with fl := e.fl + 1 }
      match heirF k.spare with
      | .ofNat h => match k.spare[h]? with
        | some s => if 2 ≤ e.fl + 1 then some { k with ents := delF es i ++ [s], spare := delF k.spare h, ch := now } else some { k with ents := es, ch := now }
        | none => none
      | .negSucc _ => some { k with ents := es, ch := now }
  | none => match k.spare.findIdx? (fun e => decide (e.nd = n)) with
    | some s => match k.spare[s]? with
      | none => none
      | some e => if 2 ≤ e.fl + 1 then some { k with spare := delF (k.spare.set s { e with fl := e.fl + 1 }) s, ch := now } else some { k with spare := k.spare.set s { e with fl := e.fl + 1 }, ch := now }
    | none => none
def failedF (now : Int) (l : List Bk) (n : Nd) : Bool × List Bk :=
  match ofF l n.id with
  | none => (false, l)
  | some i => match l[i]? with
    | none => (false, l)
    | some k => match failB now k n with
      | some k' => (true, l.set i k')
      | none => (false, l)

/-- What is true of each bucket. -/
structure BInv (f : Bool) (N : Int) (k : Bk) : Prop where
  he : k.ents.length ≤ 8
  hs : k.spare.length ≤ 8
  all : ∀ e, e ∈ k.ents ∨ e ∈ k.spare → e.nd.id.size = 20 ∧ e.nd.fam = famN f ∧ holdsB k.pre k.bits e.nd.id = true ∧ 0 ≤ e.fl ∧ e.fl ≤ N
  bad : ∀ e ∈ k.ents, 2 ≤ e.fl → ∀ s ∈ k.spare, s.fl < 2 → s.an < 0
structure FInv (own : ByteArray) (f : Bool) (N : Int) (l : List Bk) : Prop where
  ch : ∃ d, d ≤ 160 ∧ l.map (fun k => (k.pre, k.bits)) = chainF own d
  bk : ∀ k ∈ l, BInv f N k

theorem BInv.mono {f : Bool} {N N' : Int} {k : Bk} (h : BInv f N k) (hN : N ≤ N') : BInv f N' k :=
  ⟨h.he, h.hs, fun e he => by obtain ⟨a, b, c, d, e⟩ := h.all e he; exact ⟨a, b, c, d, by omega⟩, h.bad⟩
theorem FInv.mono {own : ByteArray} {f : Bool} {N N' : Int} {l : List Bk} (h : FInv own f N l) (hN : N ≤ N') : FInv own f N' l := ⟨h.ch, fun k hk => (h.bk k hk).mono hN⟩
theorem FInv.len {own : ByteArray} {f : Bool} {N : Int} {l : List Bk} (h : FInv own f N l) : l.length ≤ 161 := by
  obtain ⟨d, hd, hm⟩ := h.ch
  have := congrArg List.length hm
  rw [List.length_map, chainF_length] at this
  omega
theorem FInv.good {own : ByteArray} {f : Bool} {N : Int} {l : List Bk} (h : FInv own f N l) : ∀ k ∈ l, GoodBk k := by
  obtain ⟨d, hd, hm⟩ := h.ch
  intro k hk
  have : (k.pre, k.bits) ∈ chainF own d := by rw [← hm]; exact List.mem_map.2 ⟨k, hk, rfl⟩
  obtain ⟨h1, h2⟩ := chain_good hd this
  exact ⟨h1, Nat.le_trans h2 hd⟩
theorem FInv.of {own : ByteArray} {f : Bool} {N : Int} {l : List Bk} (h : FInv own f N l) (id : ByteArray) : ∃ i k, ofF l id = some i ∧ l[i]? = some k ∧ holdsB k.pre k.bits id = true ∧ k ∈ l := by
  obtain ⟨d, hd, hm⟩ := h.ch
  obtain ⟨x, hx, hh⟩ := chain_holds own hd id
  rw [← hm] at hx
  obtain ⟨k, hk, rfl⟩ := List.mem_map.1 hx
  cases ho : ofF l id with
  | none =>
    unfold ofF at ho
    rw [List.findIdx?_eq_none_iff] at ho
    have := ho k hk
    rw [this] at hh
    cases hh
  | some i =>
    obtain ⟨hi, hp, _⟩ := List.findIdx?_eq_some_iff_getElem.1 ho
    exact ⟨i, l[i], rfl, List.getElem?_eq_getElem hi, hp, List.getElem_mem _⟩
theorem map_set_same {l : List Bk} {i : Nat} {k k' : Bk} (hk : l[i]? = some k) (hp : k'.pre = k.pre) (hb : k'.bits = k.bits) : (l.set i k').map (fun k => (k.pre, k.bits)) = l.map (fun k => (k.pre, k.bits)) := by
  rw [List.map_set]
  apply List.ext_getElem?
  intro j
  rw [List.getElem?_set]
  by_cases hj : i = j
  · subst hj
    obtain ⟨hl, rfl⟩ := List.getElem?_eq_some_iff.1 hk
    simp [hl, hp, hb]
  · simp [hj]
theorem FInv.set {own : ByteArray} {f : Bool} {N : Int} {l : List Bk} (h : FInv own f N l) {i : Nat} {k k' : Bk} (hk : l[i]? = some k) (hp : k'.pre = k.pre) (hb : k'.bits = k.bits) (hB : BInv f N k') : FInv own f N (l.set i k') := by
  refine ⟨by rw [map_set_same hk hp hb]; exact h.ch, fun x hx => ?_⟩
  rcases mem_set hk hx with rfl | ⟨hx, _⟩
  · exact hB
  · exact h.bk x hx
theorem FInv.modify {own : ByteArray} {f : Bool} {N : Int} {l : List Bk} (h : FInv own f N l) (i : Nat) (g : Bk → Bk) (hp : ∀ k, (g k).pre = k.pre) (hb : ∀ k, (g k).bits = k.bits) (hB : ∀ k, BInv f N k → BInv f N (g k)) : FInv own f N (l.modify i g) := by
  cases hk : l[i]? with
  | none => rw [List.modify_eq_self (by simpa using hk)]; exact h
  | some k =>
    rw [modify_set g hk]
    exact h.set hk (hp k) (hb k) (hB k (h.bk k (List.mem_of_getElem? hk)))
theorem BInv.touch {f : Bool} {N now : Int} {k : Bk} (h : BInv f N k) : BInv f N { k with ch := now } := ⟨h.he, h.hs, h.all, h.bad⟩
theorem FInv.touch {own : ByteArray} {f : Bool} {N now : Int} {l : List Bk} (h : FInv own f N l) (id : ByteArray) : FInv own f N (touchF now l id) := by
  unfold touchF
  split
  · exact h.modify _ _ (fun _ => rfl) (fun _ => rfl) (fun _ => BInv.touch)
  · exact h
theorem BInv.drop {f : Bool} {N : Int} {k : Bk} (h : BInv f N k) (n : Nd) : BInv f N (dropB k n) := by
  refine ⟨Nat.le_trans (List.length_filter_le _ _) h.he, Nat.le_trans (List.length_filter_le _ _) h.hs, fun e he => h.all e ?_, fun e he hb s hs => h.bad e (List.mem_filter.1 he).1 hb s (List.mem_filter.1 hs).1⟩
  exact he.imp (fun h => (List.mem_filter.1 h).1) (fun h => (List.mem_filter.1 h).1)
theorem FInv.drops {own : ByteArray} {f : Bool} {N : Int} (xs : List Nd) : ∀ {l : List Bk}, FInv own f N l → FInv own f N (dropsF l xs) := by
  unfold dropsF
  induction xs with
  | nil => exact fun h => h
  | cons x xs ih =>
    intro l h
    rw [List.foldl_cons]
    apply ih
    split
    · exact h.modify _ _ (fun _ => rfl) (fun _ => rfl) (fun _ h => h.drop x)
    · exact h

theorem mem_delF {α : Type} {l : List α} {i : Nat} {x : α} (h : x ∈ delF l i) : x ∈ l := by
  rcases List.mem_append.1 h with h | h
  · exact List.mem_of_mem_take h
  · exact List.mem_of_mem_drop h
theorem worst_none {es : List Ent} : ∀ {k}, worstUp es k < 0 → ∀ j e, j < k → es[j]? = some e → e.fl < 2
  | 0, _, j, e, hj, _ => by omega
  | k + 1, h, j, e, hj, he => by
    unfold worstUp at h
    cases hk : es[k]? with
    | none =>
      simp only [hk] at h
      by_cases hjk : j = k
      · subst hjk; rw [hk] at he; cases he
      · exact worst_none h j e (by omega) he
    | some x =>
      simp only [hk] at h
      by_cases hc : 2 ≤ x.fl ∧ (worstUp es k < 0 ∨ flAt es (worstUp es k) < x.fl)
      · rw [if_pos hc] at h; omega
      · rw [if_neg hc] at h
        by_cases hjk : j = k
        · subst hjk
          rw [hk] at he
          injection he with he
          subst he
          apply Int.not_le.1
          intro h2
          exact hc ⟨h2, .inl h⟩
        · exact worst_none h j e (by omega) he
theorem worstF_none {es : List Ent} (h : worstF es < 0) : ∀ e ∈ es, e.fl < 2 := by
  intro e he
  obtain ⟨j, hj, rfl⟩ := List.mem_iff_getElem.1 he
  exact worst_none h j _ hj (List.getElem?_eq_getElem hj)
theorem heir_none {es : List Ent} : ∀ {k}, heirUp es k < 0 → ∀ j e, j < k → es[j]? = some e → 2 ≤ e.fl
  | 0, _, j, e, hj, _ => by omega
  | k + 1, h, j, e, hj, he => by
    unfold heirUp at h
    cases hk : es[k]? with
    | none =>
      simp only [hk] at h
      by_cases hjk : j = k
      · subst hjk; rw [hk] at he; cases he
      · exact heir_none h j e (by omega) he
    | some x =>
      simp only [hk] at h
      by_cases hc : x.fl < 2 ∧ (heirUp es k < 0 ∨ 0 ≤ x.an ∨ anAt es (heirUp es k) < 0)
      · rw [if_pos hc] at h; omega
      · rw [if_neg hc] at h
        by_cases hjk : j = k
        · subst hjk
          rw [hk] at he
          injection he with he
          subst he
          apply Int.not_lt.1
          intro h2
          exact hc ⟨h2, .inl h⟩
        · exact heir_none h j e (by omega) he
theorem heirF_none {es : List Ent} (h : heirF es < 0) : ∀ e ∈ es, 2 ≤ e.fl := by
  intro e he
  obtain ⟨j, hj, rfl⟩ := List.mem_iff_getElem.1 he
  exact heir_none h j _ hj (List.getElem?_eq_getElem hj)
theorem heir_some {es : List Ent} : ∀ {k i}, heirUp es k = (i : Nat) → ∃ e, es[i]? = some e ∧ e.fl < 2
  | 0, i, h => by simp only [heirUp] at h; omega
  | k + 1, i, h => by
    unfold heirUp at h
    cases hk : es[k]? with
    | none => simp only [hk] at h; exact heir_some h
    | some x =>
      simp only [hk] at h
      split at h
      · rename_i hc
        obtain rfl : k = i := by omega
        exact ⟨x, hk, hc.1⟩
      · exact heir_some h
theorem notedF_nd (now : Int) (e : Ent) (ans : Bool) : (notedF now e ans).nd = e.nd := by unfold notedF; split <;> rfl
theorem notedF_fl (now : Int) (e : Ent) (ans : Bool) : (notedF now e ans).fl = 0 ∨ (notedF now e ans).fl = e.fl := by unfold notedF; split <;> simp
theorem notedF_no (now : Int) (e : Ent) : (notedF now e false).fl = e.fl ∧ (notedF now e false).an = e.an := by unfold notedF; simp
theorem notedF_yes (now : Int) (e : Ent) : (notedF now e true).fl = 0 := by unfold notedF; simp
theorem mem_modify {α : Type} {l : List α} {i : Nat} {g : α → α} {y : α} (h : y ∈ l.modify i g) : y ∈ l ∨ ∃ x ∈ l, y = g x := by
  cases hk : l[i]? with
  | none => rw [List.modify_eq_self (by simpa using hk)] at h; exact .inl h
  | some x =>
    rw [modify_set g hk] at h
    rcases mem_set hk h with rfl | ⟨h, _⟩
    · exact .inr ⟨x, List.mem_of_getElem? hk, rfl⟩
    · exact .inl h
theorem ent_noted {f : Bool} {N now : Int} {k : Bk} {e : Ent} {ans : Bool} (hN : 0 ≤ N) (h : e.nd.id.size = 20 ∧ e.nd.fam = famN f ∧ holdsB k.pre k.bits e.nd.id = true ∧ 0 ≤ e.fl ∧ e.fl ≤ N) :
    (notedF now e ans).nd.id.size = 20 ∧ (notedF now e ans).nd.fam = famN f ∧ holdsB k.pre k.bits (notedF now e ans).nd.id = true ∧ 0 ≤ (notedF now e ans).fl ∧ (notedF now e ans).fl ≤ N := by
  rw [notedF_nd]
  obtain ⟨a, b, c, d, e'⟩ := h
  refine ⟨a, b, c, ?_⟩
  rcases notedF_fl now e ans with h | h <;> rw [h]
  · exact ⟨Int.le_refl _, hN⟩
  · exact ⟨d, e'⟩
theorem BInv.known {f : Bool} {N now : Int} {k k' : Bk} {n : Nd} {ans : Bool} (hN : 0 ≤ N) (h : BInv f N k) (hk : knownF now k n ans = some k') : BInv f N k' ∧ k'.pre = k.pre ∧ k'.bits = k.bits := by
  unfold knownF at hk
  split at hk
  · rename_i i hi
    injection hk with hk
    subst hk
    refine ⟨⟨by simpa using h.he, h.hs, fun e he => ?_, fun e he hb s hs => ?_⟩, rfl, rfl⟩
    · rcases he with he | he
      · rcases mem_modify he with he | ⟨x, hx, rfl⟩
        · exact h.all e (.inl he)
        · exact ent_noted hN (h.all x (.inl hx))
      · exact h.all e (.inr he)
    · rcases mem_modify he with he | ⟨x, hx, rfl⟩
      · exact h.bad e he hb s hs
      · cases ans with
        | true => rw [notedF_yes] at hb; omega
        | false => rw [(notedF_no now x).1] at hb; exact h.bad x hx hb s hs
  · split at hk
    · rename_i s hs
      split at hk
      · rename_i x hx
        cases he : k.spare[s]? with
        | none => rw [he] at hk; cases hk
        | some e =>
          rw [he] at hk
          injection hk with hk
          subst hk
          have hm := List.mem_of_getElem? he
          have hxl := (worstF_lt k.ents).2
          rw [hx] at hxl
          have hxl' : x < k.ents.length := by have : ((x : Nat) : Int) < k.ents.length := hxl; omega
          have hsl := (List.getElem?_eq_some_iff.1 he).1
          refine ⟨⟨?_, ?_, fun y hy => ?_, fun y hy hb z hz => ?_⟩, rfl, rfl⟩
          · show (delF k.ents x ++ [_]).length ≤ 8
            rw [List.length_append, delF_length hxl']
            have := h.he
            simp
            omega
          · show (delF k.spare s).length ≤ 8
            rw [delF_length hsl]
            have := h.hs
            omega
          · rcases hy with hy | hy
            · rcases List.mem_append.1 hy with hy | hy
              · exact h.all y (.inl (mem_delF hy))
              · rw [List.mem_singleton] at hy
                subst hy
                exact ent_noted hN (h.all e (.inr hm))
            · exact h.all y (.inr (mem_delF hy))
          · rcases List.mem_append.1 hy with hy | hy
            · exact h.bad y (mem_delF hy) hb z (mem_delF hz)
            · rw [List.mem_singleton] at hy
              subst hy
              rw [notedF_yes] at hb
              omega
      · rename_i an0 an1 wv hno
        clear an1
        injection hk with hk
        subst hk
        refine ⟨⟨h.he, by simpa using h.hs, fun e he => ?_, fun e he hb y hy => ?_⟩, rfl, rfl⟩
        · rcases he with he | he
          · exact h.all e (.inl he)
          · rcases mem_modify he with he | ⟨x, hx, rfl⟩
            · exact h.all e (.inr he)
            · exact ent_noted hN (h.all x (.inr hx))
        · rcases mem_modify hy with hy | ⟨x, hx, rfl⟩
          · exact h.bad e he hb y hy
          · cases an0 with
            | true =>
              exfalso
              cases hw : worstF k.ents with
              | ofNat x => exact hno x rfl hw
              | negSucc x =>
                have := worstF_none (es := k.ents) (by rw [hw]; exact Int.negSucc_lt_zero _) e he
                omega
            | false =>
              rw [(notedF_no now x).1, (notedF_no now x).2]
              exact h.bad e he hb x hx
    · cases hk
/-- What is asked of an entry that comes new into a bucket. -/
def EOk (f : Bool) (N : Int) (k : Bk) (e : Ent) : Prop := e.nd.id.size = 20 ∧ e.nd.fam = famN f ∧ holdsB k.pre k.bits e.nd.id = true ∧ e.fl = 0 ∧ 0 ≤ N
theorem EOk.all {f : Bool} {N : Int} {k : Bk} {e : Ent} (h : EOk f N k e) : e.nd.id.size = 20 ∧ e.nd.fam = famN f ∧ holdsB k.pre k.bits e.nd.id = true ∧ 0 ≤ e.fl ∧ e.fl ≤ N := by
  obtain ⟨a, b, c, d, n⟩ := h
  exact ⟨a, b, c, by omega, by omega⟩
theorem BInv.way1 {f : Bool} {N : Int} {k k' : Bk} {e : Ent} (h : BInv f N k) (he : EOk f N k e) (hk : way1F k e = some k') : BInv f N k' ∧ k'.pre = k.pre ∧ k'.bits = k.bits := by
  unfold way1F at hk
  split at hk
  · rename_i hl
    injection hk with hk
    subst hk
    refine ⟨⟨by simp; omega, h.hs, fun y hy => ?_, fun y hy hb z hz => ?_⟩, rfl, rfl⟩
    · rcases hy with hy | hy
      · rcases List.mem_append.1 hy with hy | hy
        · exact h.all y (.inl hy)
        · rw [List.mem_singleton] at hy; subst hy; exact he.all
      · exact h.all y (.inr hy)
    · rcases List.mem_append.1 hy with hy | hy
      · exact h.bad y hy hb z hz
      · rw [List.mem_singleton] at hy; subst hy; have := he.2.2.2.1; omega
  · cases hk
theorem BInv.way2 {f : Bool} {N : Int} {k k' : Bk} {e : Ent} (h : BInv f N k) (he : EOk f N k e) (hk : way2F k e = some k') : BInv f N k' ∧ k'.pre = k.pre ∧ k'.bits = k.bits := by
  unfold way2F at hk
  split at hk
  · rename_i x hx
    injection hk with hk
    subst hk
    have hxl := (worstF_lt k.ents).2
    rw [hx] at hxl
    have hxl' : x < k.ents.length := by have : ((x : Nat) : Int) < k.ents.length := hxl; omega
    refine ⟨⟨?_, h.hs, fun y hy => ?_, fun y hy hb z hz => ?_⟩, rfl, rfl⟩
    · show (delF k.ents x ++ [_]).length ≤ 8
      rw [List.length_append, delF_length hxl']
      have := h.he
      simp
      omega
    · rcases hy with hy | hy
      · rcases List.mem_append.1 hy with hy | hy
        · exact h.all y (.inl (mem_delF hy))
        · rw [List.mem_singleton] at hy; subst hy; exact he.all
      · exact h.all y (.inr hy)
    · rcases List.mem_append.1 hy with hy | hy
      · exact h.bad y (mem_delF hy) hb z hz
      · rw [List.mem_singleton] at hy; subst hy; have := he.2.2.2.1; omega
  · cases hk
theorem way2_none {k : Bk} {e : Ent} (h : way2F k e = none) : ∀ x ∈ k.ents, x.fl < 2 := by
  unfold way2F at h
  split at h
  · cases h
  · rename_i x hx
    exact worstF_none (by rw [hx]; exact Int.negSucc_lt_zero _)
theorem BInv.way4 {f : Bool} {N : Int} {k k' : Bk} {e : Ent} (h : BInv f N k) (he : EOk f N k e) (h2 : way2F k e = none) (hk : way4F k e = some k') : BInv f N k' ∧ k'.pre = k.pre ∧ k'.bits = k.bits := by
  have hb := way2_none h2
  unfold way4F at hk
  split at hk
  · cases hk
  · rename_i i hi
    injection hk with hk
    subst hk
    refine ⟨⟨h.he, ?_, fun y hy => ?_, fun y hy hy2 => ?_⟩, rfl, rfl⟩
    · show ((if i < k.spare.length then delF k.spare i else k.spare) ++ [e]).length ≤ 8
      rw [List.length_append]
      split
      · rename_i hlt
        rw [delF_length hlt]
        have := h.hs
        simp
        omega
      · rename_i hlt
        have hs := h.hs
        have hne : k.spare.length ≠ 8 := by
          intro h8
          unfold way4I at hi
          have hidx : ∀ p : Ent → Bool, idxF p k.spare < 8 := by
            intro p
            unfold idxF
            split
            · rename_i j hj
              have := findIdx_lt hj
              omega
            · omega
          have h1 := hidx (fun x => decide (2 ≤ x.fl))
          have h3 := hidx (fun x => decide (x.an < 0))
          simp only [h8, if_true] at hi
          split at hi
          · rw [hi] at h3; have : ((i : Nat) : Int) < 8 := h3; omega
          · rw [hi] at h1; have : ((i : Nat) : Int) < 8 := h1; omega
        simp
        omega
    · rcases hy with hy | hy
      · exact h.all y (.inl hy)
      · rcases List.mem_append.1 hy with hy | hy
        · split at hy
          · exact h.all y (.inr (mem_delF hy))
          · exact h.all y (.inr hy)
        · rw [List.mem_singleton] at hy; subst hy; exact he.all
    · have := hb y hy; omega
theorem BInv.half {f : Bool} {N : Int} {k : Bk} (h : BInv f N k) (p : ByteArray) : BInv f N (halfF k p) := by
  refine ⟨Nat.le_trans (List.length_filter_le _ _) h.he, Nat.le_trans (List.length_filter_le _ _) h.hs, fun e he => ?_, fun e he hb s hs => h.bad e (List.mem_filter.1 he).1 hb s (List.mem_filter.1 hs).1⟩
  have hh : (e ∈ k.ents ∨ e ∈ k.spare) ∧ holdsB p (k.bits + 1) e.nd.id = true := by
    rcases he with he | he
    · exact ⟨.inl (List.mem_filter.1 he).1, (List.mem_filter.1 he).2⟩
    · exact ⟨.inr (List.mem_filter.1 he).1, (List.mem_filter.1 he).2⟩
  obtain ⟨a, b, c, d⟩ := h.all e hh.1
  exact ⟨a, b, hh.2, d⟩
theorem FInv.split {own : ByteArray} {f : Bool} {N : Int} {l : List Bk} (h : FInv own f N l) {i : Nat} {k : Bk} (hk : l[i]? = some k) (hh : holdsB k.pre k.bits own = true) (h160 : k.bits ≠ 160) : FInv own f N (splitL l i k) ∧ k.bits < 160 := by
  obtain ⟨d, hd, hm⟩ := h.ch
  have hx : (chainF own d)[i]? = some (k.pre, k.bits) := by rw [← hm]; simp [hk]
  obtain ⟨h1, h2⟩ := chain_own hd hx hh
  injection h1 with hp hb
  have hlt : k.bits < 160 := by omega
  refine ⟨⟨⟨d + 1, by omega, ?_⟩, fun x hx => ?_⟩, hlt⟩
  · rw [← chain_split (by omega)]
    unfold splitL replL
    rw [List.map_append, List.map_append, List.map_take, List.map_drop, hm, ← h2]
    simp [halfF, hp, hb]
  · unfold splitL replL at hx
    rcases List.mem_append.1 hx with hx | hx
    · rcases List.mem_append.1 hx with hx | hx
      · exact h.bk x (List.mem_of_mem_take hx)
      · simp only [List.mem_cons, List.not_mem_nil, or_false] at hx
        rcases hx with rfl | rfl
        · exact (h.bk k (List.mem_of_getElem? hk)).half _
        · exact (h.bk k (List.mem_of_getElem? hk)).half _
    · exact h.bk x (List.mem_of_mem_drop hx)
theorem FInv.place {own : ByteArray} {f : Bool} {N now : Int} {e : Ent} (h1 : e.nd.id.size = 20) (h2 : e.nd.fam = famN f) (h3 : e.fl = 0) (hN : 0 ≤ N) : ∀ (fuel : Nat) {l : List Bk}, FInv own f N l → FInv own f N (placeF own now fuel l e).2
  | 0, l, h => h
  | fuel + 1, l, h => by
    obtain ⟨i, k, ho, hk, hh, hm⟩ := h.of e.nd.id
    have he : EOk f N k e := ⟨h1, h2, hh, h3, hN⟩
    have hB := h.bk k hm
    unfold placeF
    simp only [ho, hk]
    split
    · rename_i k' hw
      obtain ⟨a, b, c⟩ := hB.way1 he hw
      exact (h.set hk b c a).touch _
    · split
      · rename_i k' hw
        obtain ⟨a, b, c⟩ := hB.way2 he hw
        exact (h.set hk b c a).touch _
      · rename_i hw2
        split
        · rename_i hc
          have ih := FInv.place (now := now) h1 h2 h3 hN fuel (h.split hk hc.1 hc.2).1
          split
          · rename_i l' hl'
            rw [hl'] at ih
            exact FInv.touch ih _
          · rename_i l' hl'
            rw [hl'] at ih
            split
            · exact FInv.touch ih _
            · exact ih
        · split
          · rename_i k' hw
            obtain ⟨a, b, c⟩ := hB.way4 he hw2 hw
            exact (h.set hk b c a).touch _
          · exact h
theorem FInv.seen {own : ByteArray} {f : Bool} {N now : Int} {l : List Bk} {n : Nd} {ans : Bool} (h : FInv own f N l) (hn : n.id.size = 20) (hf : n.fam = famN f) (hN : 0 ≤ N) : FInv own f N (seenF own now l n ans).2 := by
  unfold seenF
  split
  · exact h
  · have h1 := h.drops (((allE l).filter (clash n)).map (·.nd))
    obtain ⟨i, k, ho, hk, hh, hm⟩ := h1.of n.id
    simp only [ho, hk]
    split
    · rename_i k' hw
      obtain ⟨a, b, c⟩ := (h1.bk k hm).known hN hw
      exact h1.set hk b c a
    · refine FInv.place (by rw [notedF_nd]; exact hn) (by rw [notedF_nd]; exact hf) ?_ hN 161 h1
      rcases notedF_fl now ⟨n, 0, -1, -1, 0⟩ ans with h | h <;> rw [h]
theorem BInv.fail {f : Bool} {N now : Int} {k k' : Bk} {n : Nd} (hN : 0 ≤ N) (h : BInv f N k) (hk : failB now k n = some k') : BInv f (N + 1) k' ∧ k'.pre = k.pre ∧ k'.bits = k.bits := by
  have up : ∀ e, e ∈ k.ents ∨ e ∈ k.spare → ∀ m : Int, m = e.fl ∨ m = e.fl + 1 → e.nd.id.size = 20 ∧ e.nd.fam = famN f ∧ holdsB k.pre k.bits e.nd.id = true ∧ 0 ≤ m ∧ m ≤ N + 1 := fun e he m hm => by
    obtain ⟨a, b, c, d, e'⟩ := h.all e he
    exact ⟨a, b, c, by omega, by omega⟩
  unfold failB at hk
  split at hk
  · rename_i i hi
    cases he : k.ents[i]? with
    | none => rw [he] at hk; cases hk
    | some e =>
      rw [he] at hk
      have hm := List.mem_of_getElem? he
      have hil := (List.getElem?_eq_some_iff.1 he).1
      have hset : ∀ y, y ∈ k.ents.set i { e with fl := e.fl + 1 } → y = { e with fl := e.fl + 1 } ∨ y ∈ k.ents := fun y hy => (mem_set he hy).imp id (·.1)
      simp only at hk
      split at hk
      · rename_i hx hhx
        cases hs : k.spare[hx]? with
        | none => rw [hs] at hk; cases hk
        | some s =>
          rw [hs] at hk
          have hsm := List.mem_of_getElem? hs
          have hsl := (List.getElem?_eq_some_iff.1 hs).1
          have hsf : s.fl < 2 := by
            obtain ⟨s', hs', hlt⟩ := heir_some (es := k.spare) (k := k.spare.length) (i := hx) hhx
            rw [hs] at hs'
            injection hs' with hs'
            subst hs'
            exact hlt
          simp only at hk
          split at hk
          · injection hk with hk
            subst hk
            refine ⟨⟨?_, ?_, fun y hy => ?_, fun y hy hb z hz => ?_⟩, rfl, rfl⟩
            · show (delF (k.ents.set i _) i ++ [s]).length ≤ 8
              rw [List.length_append, delF_length (by simpa using hil)]
              have := h.he
              simp
              omega
            · show (delF k.spare hx).length ≤ 8
              rw [delF_length hsl]
              have := h.hs
              omega
            · rcases hy with hy | hy
              · rcases List.mem_append.1 hy with hy | hy
                · rcases hset y (mem_delF hy) with rfl | hy
                  · exact up e (.inl hm) _ (.inr rfl)
                  · exact up y (.inl hy) _ (.inl rfl)
                · rw [List.mem_singleton] at hy; subst hy; exact up y (.inr hsm) _ (.inl rfl)
              · exact up y (.inr (mem_delF hy)) _ (.inl rfl)
            · rcases List.mem_append.1 hy with hy | hy
              · have hy' : y ∈ k.ents := by
                  have : delF (k.ents.set i { e with fl := e.fl + 1 }) i = delF k.ents i := by
                    unfold delF
                    rw [List.take_set_of_le (Nat.le_refl _), List.drop_set_of_lt (by omega)]
                  rw [this] at hy
                  exact mem_delF hy
                exact h.bad y hy' hb z (mem_delF hz)
              · rw [List.mem_singleton] at hy; subst hy; omega
          · rename_i hnb
            injection hk with hk
            subst hk
            refine ⟨⟨by simpa using h.he, h.hs, fun y hy => ?_, fun y hy hb z hz => ?_⟩, rfl, rfl⟩
            · rcases hy with hy | hy
              · rcases hset y hy with rfl | hy
                · exact up e (.inl hm) _ (.inr rfl)
                · exact up y (.inl hy) _ (.inl rfl)
              · exact up y (.inr hy) _ (.inl rfl)
            · rcases hset y hy with rfl | hy
              · exact absurd hb hnb
              · exact h.bad y hy hb z hz
      · rename_i hx hhx
        injection hk with hk
        subst hk
        have hall := heirF_none (es := k.spare) (by rw [hhx]; exact Int.negSucc_lt_zero _)
        refine ⟨⟨by simpa using h.he, h.hs, fun y hy => ?_, fun y hy hb z hz hlt => ?_⟩, rfl, rfl⟩
        · rcases hy with hy | hy
          · rcases hset y hy with rfl | hy
            · exact up e (.inl hm) _ (.inr rfl)
            · exact up y (.inl hy) _ (.inl rfl)
          · exact up y (.inr hy) _ (.inl rfl)
        · have := hall z hz; omega
  · split at hk
    · rename_i s hs
      cases he : k.spare[s]? with
      | none => rw [he] at hk; cases hk
      | some e =>
        rw [he] at hk
        have hm := List.mem_of_getElem? he
        have hsl := (List.getElem?_eq_some_iff.1 he).1
        have hset : ∀ y, y ∈ k.spare.set s { e with fl := e.fl + 1 } → y = { e with fl := e.fl + 1 } ∨ y ∈ k.spare := fun y hy => (mem_set he hy).imp id (·.1)
        simp only at hk
        split at hk
        · injection hk with hk
          subst hk
          have hd : delF (k.spare.set s { e with fl := e.fl + 1 }) s = delF k.spare s := by
            unfold delF
            rw [List.take_set_of_le (Nat.le_refl _), List.drop_set_of_lt (by omega)]
          rw [hd]
          refine ⟨⟨h.he, ?_, fun y hy => ?_, fun y hy hb z hz => h.bad y hy hb z (mem_delF hz)⟩, rfl, rfl⟩
          · show (delF k.spare s).length ≤ 8
            rw [delF_length hsl]
            have := h.hs
            omega
          · rcases hy with hy | hy
            · exact up y (.inl hy) _ (.inl rfl)
            · exact up y (.inr (mem_delF hy)) _ (.inl rfl)
        · injection hk with hk
          subst hk
          refine ⟨⟨h.he, by simpa using h.hs, fun y hy => ?_, fun y hy hb z hz hlt => ?_⟩, rfl, rfl⟩
          · rcases hy with hy | hy
            · exact up y (.inl hy) _ (.inl rfl)
            · rcases hset y hy with rfl | hy
              · exact up e (.inr hm) _ (.inr rfl)
              · exact up y (.inr hy) _ (.inl rfl)
          · rcases hset z hz with rfl | hz
            · have h1 : e.fl + 1 < 2 := hlt
              exact h.bad y hy hb e hm (by omega)
            · exact h.bad y hy hb z hz hlt
    · cases hk
theorem FInv.failed {own : ByteArray} {f : Bool} {N now : Int} {l : List Bk} {n : Nd} (h : FInv own f N l) (hN : 0 ≤ N) : FInv own f (N + 1) (failedF now l n).2 := by
  obtain ⟨i, k, ho, hk, hh, hm⟩ := h.of n.id
  unfold failedF
  simp only [ho, hk]
  split
  · rename_i k' hw
    obtain ⟨a, b, c⟩ := (h.bk k hm).fail hN hw
    exact (h.mono (by omega)).set hk b c a
  · exact h.mono (by omega)
end Go.Proofs.Tc
