/-
  Bits of identifiers: what Prefix, Flip and Common make of them; the buckets of splitting the own one again and again. No program in sight.
-/
import Derived.Test.YtjjnbanlofhhnaaGreatD5
namespace Go.Proofs.Tc
open Go.RowKit Go.Sort

theorem bitL_set (l : List UInt8) (j : Nat) (x : UInt8) (i : Nat) (hj : j < l.length) : bitL (l.set j x) i = if i / 8 = j then x.toNat.testBit (7 - i % 8) else bitL l i := by
  unfold bitL
  rw [List.getD_eq_getElem?_getD, List.getElem?_set, List.getD_eq_getElem?_getD]
  by_cases h : j = i / 8
  · subst h; simp [hj]
  · rw [if_neg h, if_neg (fun e => h e.symm)]
theorem pow8 (k : Nat) : 2 ^ (7 - k % 8) < 256 := Nat.lt_of_le_of_lt (Nat.pow_le_pow_right (by omega) (show 7 - k % 8 ≤ 7 by omega)) (by decide)
theorem or_bit (x : UInt8) (k m : Nat) : (x ||| UInt8.ofNat (2 ^ (7 - k % 8))).toNat.testBit m = (x.toNat.testBit m || decide (7 - k % 8 = m)) := by
  rw [UInt8.toNat_or, UInt8.toNat_ofNat_of_lt' (pow8 k), Nat.testBit_or, Nat.testBit_two_pow]
theorem xor_bit (x : UInt8) (k m : Nat) : (x ^^^ UInt8.ofNat (2 ^ (7 - k % 8))).toNat.testBit m = (x.toNat.testBit m ^^ decide (7 - k % 8 = m)) := by
  rw [UInt8.toNat_xor, UInt8.toNat_ofNat_of_lt' (pow8 k), Nat.testBit_xor, Nat.testBit_two_pow]
theorem orTo_bit (l : List Bool) (i : Nat) (hi : i < 160) : ∀ k, k ≤ 160 → bitL (orTo l k) i = (decide (i < k) && l.getD i false)
  | 0, _ => by
    have : (List.replicate 20 (0 : UInt8)).getD (i / 8) 0 = 0 := by
      rw [List.getD_eq_getElem?_getD, List.getElem?_replicate]; split <;> rfl
    unfold orTo bitL
    rw [this]
    simp
  | k + 1, hk => by
    have ih := orTo_bit l i hi k (by omega)
    unfold orTo
    by_cases hb : l.getD k false = true
    · rw [if_pos hb, bitL_set _ _ _ _ (by rw [orTo_length]; omega)]
      by_cases h8 : i / 8 = k / 8
      · rw [if_pos h8, or_bit]
        have : ((orTo l k).getD (k / 8) 0).toNat.testBit (7 - i % 8) = bitL (orTo l k) i := by unfold bitL; rw [h8]
        rw [this, ih]
        by_cases he : i = k
        · subst he; rw [hb]; simp
        · have h1 : decide (7 - k % 8 = 7 - i % 8) = false := by rw [decide_eq_false_iff_not]; omega
          have h2 : decide (i < k + 1) = decide (i < k) := by rw [decide_eq_decide]; omega
          rw [h1, h2, Bool.or_false]
      · rw [if_neg h8, ih]
        have h2 : decide (i < k + 1) = decide (i < k) := by rw [decide_eq_decide]; constructor <;> intro h <;> first | omega | (have : i ≠ k := fun e => h8 (by rw [e]); omega)
        rw [h2]
    · rw [if_neg hb, ih]
      by_cases he : i = k
      · subst he
        have : l.getD i false = false := by simpa using hb
        rw [this]; simp
      · have h2 : decide (i < k + 1) = decide (i < k) := by rw [decide_eq_decide]; omega
        rw [h2]
theorem bitsTo_get (s : ByteArray) (i : Nat) (hi : i < 160) : (bitsTo s 160).getD i false = bitL s.data.toList i := by
  simp [bitsTo, List.getD_eq_getElem?_getD, hi]
theorem cutTo_get (l : List Bool) (n i : Nat) : ∀ k, (cutTo l n k).getD i false = if n ≤ i ∧ i < n + k then false else l.getD i false
  | 0 => by rw [if_neg (by omega)]; rfl
  | k + 1 => by
    have ih := cutTo_get l n i k
    unfold cutTo
    rw [List.getD_eq_getElem?_getD, List.getElem?_set]
    by_cases he : n + k = i
    · rw [if_pos he]
      have : ∀ c : Prop, [Decidable c] → (if c then some false else none : Option Bool).getD false = false := fun c _ => by split <;> rfl
      rw [this, if_pos (by omega)]
    · rw [if_neg he, ← List.getD_eq_getElem?_getD, ih]
      by_cases h2 : n ≤ i ∧ i < n + k
      · rw [if_pos h2, if_pos (by omega)]
      · rw [if_neg h2, if_neg (by omega)]
theorem size_of_list (l : List UInt8) : (⟨l.toArray⟩ : ByteArray).size = l.length := by simp [ByteArray.size]
theorem prefixF_size (s : ByteArray) (n : Nat) : (prefixF s n).size = 20 := by unfold prefixF; rw [size_of_list, orTo_length]
theorem flipF_size (s : ByteArray) (n : Nat) : (flipF s n).size = 20 := by unfold flipF; rw [size_of_list, orTo_length]
theorem flipN_size (s : ByteArray) (n : Nat) (hs : s.size = 20) : (flipN s n).size = 20 := by unfold flipN flipL; rw [size_of_list, List.length_set]; simpa using hs
theorem prefixF_bit (s : ByteArray) (n i : Nat) (hn : n ≤ 160) (hi : i < 160) : bitL (prefixF s n).data.toList i = (decide (i < n) && bitL s.data.toList i) := by
  unfold prefixF
  show bitL (orTo _ 160).toArray.toList i = _
  rw [List.toList_toArray, orTo_bit _ _ hi _ (Nat.le_refl _), cutTo_get, bitsTo_get s i hi]
  by_cases h : i < n
  · rw [if_neg (by omega)]; simp [h, hi]
  · rw [if_pos (by omega)]; simp [h]
theorem flipF_bit (s : ByteArray) (n i : Nat) (hn : n < 160) (hi : i < 160) : bitL (flipF s n).data.toList i = (bitL s.data.toList i ^^ decide (i = n)) := by
  unfold flipF
  show bitL (orTo _ 160).toArray.toList i = _
  rw [List.toList_toArray, orTo_bit _ _ hi _ (Nat.le_refl _), List.getD_eq_getElem?_getD, List.getElem?_set]
  by_cases h : n = i
  · subst h
    rw [if_pos rfl, if_pos (by rw [bitsTo_length]; omega), bitsTo_get s n hi]
    simp [hi]
  · rw [if_neg h, ← List.getD_eq_getElem?_getD, bitsTo_get s i hi]
    have : decide (i = n) = false := by rw [decide_eq_false_iff_not]; exact fun e => h e.symm
    rw [this]; simp [hi]
theorem flipN_bit (s : ByteArray) (n i : Nat) (hs : s.size = 20) (hn : n < 160) (hi : i < 160) : bitL (flipN s n).data.toList i = (bitL s.data.toList i ^^ decide (i = n)) := by
  unfold flipN flipL
  show bitL (List.toArray _).toList i = _
  have hl : s.data.toList.length = 20 := by simpa using hs
  rw [List.toList_toArray, bitL_set _ _ _ _ (by omega)]
  by_cases h8 : i / 8 = n / 8
  · rw [if_pos h8, xor_bit]
    have : (s.data.toList.getD (n / 8) 0).toNat.testBit (7 - i % 8) = bitL s.data.toList i := by unfold bitL; rw [h8]
    rw [this]
    congr 1
    rw [decide_eq_decide]; omega
  · rw [if_neg h8]
    have : decide (i = n) = false := by rw [decide_eq_false_iff_not]; exact fun e => h8 (by rw [e])
    rw [this]; simp
theorem byte_ext {x y : UInt8} (h : ∀ m, m < 8 → x.toNat.testBit m = y.toNat.testBit m) : x = y := by
  apply UInt8.toNat_inj.1
  apply Nat.eq_of_testBit_eq
  intro m
  by_cases hm : m < 8
  · exact h m hm
  · have hp : 2 ^ 8 ≤ 2 ^ m := Nat.pow_le_pow_right (by omega) (by omega)
    rw [Nat.testBit_lt_two_pow (Nat.lt_of_lt_of_le x.toNat_lt hp), Nat.testBit_lt_two_pow (Nat.lt_of_lt_of_le y.toNat_lt hp)]
theorem id_ext {a b : ByteArray} (ha : a.size = 20) (hb : b.size = 20) (h : ∀ i, i < 160 → bitL a.data.toList i = bitL b.data.toList i) : a = b := by
  apply WideShapes.bytes_inj
  have hla : a.data.toList.length = 20 := by simpa using ha
  have hlb : b.data.toList.length = 20 := by simpa using hb
  apply List.ext_getElem (by rw [hla, hlb])
  intro j h1 h2
  apply byte_ext
  intro m hm
  have := h (8 * j + (7 - m)) (by omega)
  unfold bitL at this
  rw [show (8 * j + (7 - m)) / 8 = j by omega, show 7 - (8 * j + (7 - m)) % 8 = m by omega, List.getD_eq_getElem?_getD, List.getD_eq_getElem?_getD, List.getElem?_eq_getElem h1, List.getElem?_eq_getElem h2] at this
  exact this

theorem cm_spec (a b : ByteArray) : ∀ f n, n ≤ cm a b f n ∧ cm a b f n ≤ n + f ∧ (∀ j, n ≤ j → j < cm a b f n → bitL a.data.toList j = bitL b.data.toList j) ∧ (cm a b f n < n + f → bitL a.data.toList (cm a b f n) ≠ bitL b.data.toList (cm a b f n))
  | 0, n => by simp [cm]; intro j h1 h2; omega
  | f + 1, n => by
    unfold cm
    by_cases he : bitL a.data.toList n = bitL b.data.toList n
    · rw [if_pos (by simpa using he)]
      obtain ⟨h1, h2, h3, h4⟩ := cm_spec a b f (n + 1)
      refine ⟨by omega, by omega, fun j hj hk => ?_, fun h => h4 (by omega)⟩
      by_cases hjn : j = n
      · subst hjn; exact he
      · exact h3 j (by omega) hk
    · rw [if_neg (by simpa using he)]
      exact ⟨by omega, by omega, fun j hj hk => by omega, fun _ => he⟩
theorem commonF_spec (a b : ByteArray) : commonF a b ≤ 160 ∧ (∀ j, j < commonF a b → bitL a.data.toList j = bitL b.data.toList j) ∧ (commonF a b < 160 → bitL a.data.toList (commonF a b) ≠ bitL b.data.toList (commonF a b)) := by
  obtain ⟨_, h2, h3, h4⟩ := cm_spec a b 160 0
  unfold commonF
  exact ⟨by omega, fun j hj => h3 j (Nat.zero_le _) hj, fun h => h4 (by omega)⟩
theorem holdsB_iff {pre id : ByteArray} {n : Nat} (hn : n ≤ 160) : holdsB pre n id = true ↔ ∀ j, j < n → bitL id.data.toList j = bitL pre.data.toList j := by
  obtain ⟨h1, h2, h3⟩ := commonF_spec id pre
  unfold holdsB
  rw [decide_eq_true_iff]
  constructor
  · intro h j hj
    exact h2 j (by omega)
  · intro h
    apply Nat.le_of_not_lt
    intro hlt
    exact h3 (by omega) (h _ hlt)

def sibF (own : ByteArray) (k : Nat) : ByteArray := flipF (prefixF own (k + 1)) k
theorem sibF_bit (own : ByteArray) (k i : Nat) (hk : k < 160) (hi : i < 160) : bitL (sibF own k).data.toList i = if i < k then bitL own.data.toList i else if i = k then !bitL own.data.toList k else false := by
  unfold sibF
  rw [flipF_bit _ _ _ hk hi, prefixF_bit _ _ _ (by omega) hi]
  by_cases h1 : i < k
  · rw [if_pos h1]
    have a1 : decide (i < k + 1) = true := by rw [decide_eq_true_iff]; omega
    have a2 : decide (i = k) = false := by rw [decide_eq_false_iff_not]; omega
    rw [a1, a2]; simp
  · rw [if_neg h1]
    by_cases h2 : i = k
    · subst h2; simp
    · rw [if_neg h2]
      have a1 : decide (i < k + 1) = false := by rw [decide_eq_false_iff_not]; omega
      have a2 : decide (i = k) = false := by rw [decide_eq_false_iff_not]; omega
      rw [a1, a2]; simp
theorem sibF_size (own : ByteArray) (k : Nat) : (sibF own k).size = 20 := flipF_size _ _

/-- The buckets to the left of the own one, and to the right of it, where it has d bits. -/
def lefts (own : ByteArray) : Nat → List (ByteArray × Nat)
  | 0 => []
  | d + 1 => lefts own d ++ (if bitL own.data.toList d = true then [(sibF own d, d + 1)] else [])
def rights (own : ByteArray) : Nat → List (ByteArray × Nat)
  | 0 => []
  | d + 1 => (if bitL own.data.toList d = true then [] else [(sibF own d, d + 1)]) ++ rights own d
def chainF (own : ByteArray) (d : Nat) : List (ByteArray × Nat) := lefts own d ++ [(prefixF own d, d)] ++ rights own d
theorem mem_lefts {own : ByteArray} {x : ByteArray × Nat} : ∀ {d}, x ∈ lefts own d ↔ ∃ k, k < d ∧ bitL own.data.toList k = true ∧ x = (sibF own k, k + 1)
  | 0 => by simp [lefts]
  | d + 1 => by
    unfold lefts
    rw [List.mem_append, mem_lefts]
    constructor
    · rintro (⟨k, h1, h2, h3⟩ | h)
      · exact ⟨k, by omega, h2, h3⟩
      · by_cases hb : bitL own.data.toList d = true
        · rw [if_pos hb] at h
          exact ⟨d, by omega, hb, by simpa using h⟩
        · rw [if_neg hb] at h; simp at h
    · rintro ⟨k, h1, h2, h3⟩
      by_cases hk : k = d
      · subst hk; rw [if_pos h2]; exact .inr (by simp [h3])
      · exact .inl ⟨k, by omega, h2, h3⟩
theorem mem_rights {own : ByteArray} {x : ByteArray × Nat} : ∀ {d}, x ∈ rights own d ↔ ∃ k, k < d ∧ bitL own.data.toList k = false ∧ x = (sibF own k, k + 1)
  | 0 => by simp [rights]
  | d + 1 => by
    unfold rights
    rw [List.mem_append, mem_rights]
    constructor
    · rintro (h | ⟨k, h1, h2, h3⟩)
      · by_cases hb : bitL own.data.toList d = true
        · rw [if_pos hb] at h; simp at h
        · rw [if_neg hb] at h
          exact ⟨d, by omega, by simpa using hb, by simpa using h⟩
      · exact ⟨k, by omega, h2, h3⟩
    · rintro ⟨k, h1, h2, h3⟩
      by_cases hk : k = d
      · subst hk; rw [if_neg (by simp [h2])]; exact .inl (by simp [h3])
      · exact .inr ⟨k, by omega, h2, h3⟩
theorem sides_length (own : ByteArray) : ∀ d, (lefts own d).length + (rights own d).length = d
  | 0 => rfl
  | d + 1 => by
    have ih := sides_length own d
    unfold lefts rights
    by_cases hb : bitL own.data.toList d = true
    · rw [if_pos hb, if_pos hb]; simp; omega
    · rw [if_neg hb, if_neg hb]; simp; omega
theorem chainF_length (own : ByteArray) (d : Nat) : (chainF own d).length = d + 1 := by
  have := sides_length own d
  unfold chainF
  simp
  omega
theorem mem_chain {own : ByteArray} {d : Nat} {x : ByteArray × Nat} : x ∈ chainF own d ↔ x = (prefixF own d, d) ∨ ∃ k, k < d ∧ x = (sibF own k, k + 1) := by
  unfold chainF
  rw [List.mem_append, List.mem_append, mem_lefts, mem_rights, List.mem_singleton]
  constructor
  · rintro ((⟨k, h1, h2, h3⟩ | h) | ⟨k, h1, h2, h3⟩)
    · exact .inr ⟨k, h1, h3⟩
    · exact .inl h
    · exact .inr ⟨k, h1, h3⟩
  · rintro (h | ⟨k, h1, h3⟩)
    · exact .inl (.inr h)
    · cases hb : bitL own.data.toList k with
      | true => exact .inl (.inl ⟨k, h1, hb, h3⟩)
      | false => exact .inr ⟨k, h1, hb, h3⟩
theorem chain_good {own : ByteArray} {d : Nat} (hd : d ≤ 160) {x : ByteArray × Nat} (hx : x ∈ chainF own d) : x.1.size = 20 ∧ x.2 ≤ d := by
  rcases mem_chain.1 hx with rfl | ⟨k, hk, rfl⟩
  · exact ⟨prefixF_size _ _, Nat.le_refl _⟩
  · exact ⟨sibF_size _ _, hk⟩
theorem chain_holds (own : ByteArray) {d : Nat} (hd : d ≤ 160) (id : ByteArray) : ∃ x ∈ chainF own d, holdsB x.1 x.2 id = true := by
  obtain ⟨h1, h2, h3⟩ := commonF_spec id own
  by_cases hc : d ≤ commonF id own
  · refine ⟨(prefixF own d, d), mem_chain.2 (.inl rfl), (holdsB_iff hd).2 fun j hj => ?_⟩
    show _ = bitL (prefixF own d).data.toList j
    rw [prefixF_bit _ _ _ hd (by omega), h2 j (by omega)]
    simp [hj]
  · refine ⟨(sibF own (commonF id own), commonF id own + 1), mem_chain.2 (.inr ⟨_, by omega, rfl⟩), (holdsB_iff (by show _ + 1 ≤ 160; omega)).2 fun j hj => ?_⟩
    show _ = bitL (sibF own (commonF id own)).data.toList j
    have hj' : j < commonF id own + 1 := hj
    rw [sibF_bit _ _ _ (by omega) (by omega)]
    by_cases hlt : j < commonF id own
    · rw [if_pos hlt, h2 j hlt]
    · obtain rfl : j = commonF id own := by omega
      rw [if_neg (by omega), if_pos rfl]
      have := h3 (by omega)
      revert this
      cases bitL id.data.toList (commonF id own) <;> cases bitL own.data.toList (commonF id own) <;> simp
theorem sib_own {own : ByteArray} {k : Nat} (hk : k < 160) : holdsB (sibF own k) (k + 1) own = false := by
  cases h : holdsB (sibF own k) (k + 1) own with
  | false => rfl
  | true =>
    have := (holdsB_iff (by omega)).1 h k (by omega)
    rw [sibF_bit _ _ _ hk hk, if_neg (by omega), if_pos rfl] at this
    revert this
    cases bitL own.data.toList k <;> simp
theorem own_own {own : ByteArray} {d : Nat} (hd : d ≤ 160) : holdsB (prefixF own d) d own = true :=
  (holdsB_iff hd).2 fun j hj => by rw [prefixF_bit _ _ _ hd (by omega)]; simp [hj]
/-- Of a chain the bucket of the own identifier is the one in the middle. -/
theorem chain_own {own : ByteArray} {d : Nat} (hd : d ≤ 160) {i : Nat} {x : ByteArray × Nat} (hx : (chainF own d)[i]? = some x) (h : holdsB x.1 x.2 own = true) : x = (prefixF own d, d) ∧ i = (lefts own d).length := by
  have hmem := List.mem_of_getElem? hx
  have hX : x = (prefixF own d, d) := by
    rcases mem_chain.1 hmem with h1 | ⟨k, hk, rfl⟩
    · exact h1
    · rw [sib_own (by omega)] at h; cases h
  refine ⟨hX, ?_⟩
  have noL : ∀ y ∈ lefts own d, holdsB y.1 y.2 own = false := fun y hy => by
    obtain ⟨k, hk, _, rfl⟩ := mem_lefts.1 hy
    exact sib_own (by omega)
  have noR : ∀ y ∈ rights own d, holdsB y.1 y.2 own = false := fun y hy => by
    obtain ⟨k, hk, _, rfl⟩ := mem_rights.1 hy
    exact sib_own (by omega)
  unfold chainF at hx
  rcases Nat.lt_trichotomy i (lefts own d).length with hlt | heq | hgt
  · rw [List.append_assoc, List.getElem?_append_left hlt] at hx
    rw [noL x (List.mem_of_getElem? hx)] at h; cases h
  · exact heq
  · rw [List.getElem?_append_right (by simp; omega)] at hx
    rw [noR x (List.mem_of_getElem? hx)] at h; cases h
theorem own_half_t {own : ByteArray} {d : Nat} (hd : d < 160) (hb : bitL own.data.toList d = true) : prefixF own d = sibF own d ∧ flipN (prefixF own d) d = prefixF own (d + 1) := by
  constructor
  · refine id_ext (prefixF_size _ _) (sibF_size _ _) fun i hi => ?_
    rw [prefixF_bit _ _ _ (by omega) hi, sibF_bit _ _ _ hd hi]
    by_cases h1 : i < d
    · rw [if_pos h1]; simp [h1]
    · rw [if_neg h1]
      by_cases h2 : i = d
      · subst h2; rw [if_pos rfl, hb]; simp
      · rw [if_neg h2]; simp [h1]
  · refine id_ext (flipN_size _ _ (prefixF_size _ _)) (prefixF_size _ _) fun i hi => ?_
    rw [flipN_bit _ _ _ (prefixF_size _ _) hd hi, prefixF_bit _ _ _ (by omega) hi, prefixF_bit _ _ _ (by omega) hi]
    by_cases h2 : i = d
    · subst h2; simp [hb]
    · have a : decide (i = d) = false := by rw [decide_eq_false_iff_not]; exact h2
      have b : decide (i < d + 1) = decide (i < d) := by rw [decide_eq_decide]; omega
      rw [a, b]; simp
theorem own_half_f {own : ByteArray} {d : Nat} (hd : d < 160) (hb : bitL own.data.toList d = false) : prefixF own d = prefixF own (d + 1) ∧ flipN (prefixF own d) d = sibF own d := by
  constructor
  · refine id_ext (prefixF_size _ _) (prefixF_size _ _) fun i hi => ?_
    rw [prefixF_bit _ _ _ (by omega) hi, prefixF_bit _ _ _ (by omega) hi]
    by_cases h2 : i = d
    · subst h2; simp [hb]
    · have b : decide (i < d + 1) = decide (i < d) := by rw [decide_eq_decide]; omega
      rw [b]
  · refine id_ext (flipN_size _ _ (prefixF_size _ _)) (sibF_size _ _) fun i hi => ?_
    rw [flipN_bit _ _ _ (prefixF_size _ _) hd hi, prefixF_bit _ _ _ (by omega) hi, sibF_bit _ _ _ hd hi]
    by_cases h1 : i < d
    · rw [if_pos h1]
      have a : decide (i = d) = false := by rw [decide_eq_false_iff_not]; omega
      rw [a]; simp [h1]
    · rw [if_neg h1]
      by_cases h2 : i = d
      · subst h2; rw [if_pos rfl, hb]; simp
      · rw [if_neg h2]; simp [h1, h2]
/-- A chain whose own bucket is split is the chain one deeper. -/
theorem chain_split {own : ByteArray} {d : Nat} (hd : d < 160) : (chainF own d).take (lefts own d).length ++ [(prefixF own d, d + 1), (flipN (prefixF own d) d, d + 1)] ++ (chainF own d).drop ((lefts own d).length + 1) = chainF own (d + 1) := by
  have h1 : (chainF own d).take (lefts own d).length = lefts own d := by
    unfold chainF; rw [List.append_assoc, List.take_left]
  have h2 : (chainF own d).drop ((lefts own d).length + 1) = rights own d := by
    unfold chainF
    rw [show (lefts own d).length + 1 = (lefts own d ++ [(prefixF own d, d)]).length by simp, List.drop_left]
  rw [h1, h2]
  unfold chainF
  cases hb : bitL own.data.toList d with
  | true =>
    obtain ⟨e1, e2⟩ := own_half_t hd hb
    rw [e2, e1]
    simp [lefts, rights, hb]
  | false =>
    obtain ⟨e1, e2⟩ := own_half_f hd hb
    rw [e2, e1]
    simp [lefts, rights, hb]

/-- a lies before b: the first bit that differs is set in b alone. -/
def bitlt (a b : ByteArray) : Prop := ∃ k, k < 160 ∧ (∀ j, j < k → bitL a.data.toList j = bitL b.data.toList j) ∧ bitL a.data.toList k = false ∧ bitL b.data.toList k = true
theorem lefts_lt {own p : ByteArray} {d : Nat} (hd : d ≤ 160) {x : ByteArray × Nat} (hx : x ∈ lefts own d) (hp : ∀ j, j < d → bitL p.data.toList j = bitL own.data.toList j) : bitlt x.1 p := by
  obtain ⟨k, hk, hb, rfl⟩ := mem_lefts.1 hx
  refine ⟨k, by omega, fun j hj => ?_, ?_, ?_⟩
  · rw [sibF_bit _ _ _ (by omega) (by omega), if_pos hj, hp j (by omega)]
  · rw [sibF_bit _ _ _ (by omega) (by omega), if_neg (by omega), if_pos rfl, hb]; rfl
  · rw [hp k hk, hb]
theorem rights_lt {own p : ByteArray} {d : Nat} (hd : d ≤ 160) {x : ByteArray × Nat} (hx : x ∈ rights own d) (hp : ∀ j, j < d → bitL p.data.toList j = bitL own.data.toList j) : bitlt p x.1 := by
  obtain ⟨k, hk, hb, rfl⟩ := mem_rights.1 hx
  refine ⟨k, by omega, fun j hj => ?_, ?_, ?_⟩
  · rw [sibF_bit _ _ _ (by omega) (by omega), if_pos hj, hp j (by omega)]
  · rw [hp k hk, hb]
  · rw [sibF_bit _ _ _ (by omega) (by omega), if_neg (by omega), if_pos rfl, hb]; rfl
theorem sib_agrees {own : ByteArray} {d : Nat} (hd : d < 160) : ∀ j, j < d → bitL (sibF own d).data.toList j = bitL own.data.toList j := fun j hj => by
  rw [sibF_bit _ _ _ hd (by omega), if_pos hj]
theorem sides_lt {own : ByteArray} {d : Nat} (hd : d ≤ 160) {x y : ByteArray × Nat} (hx : x ∈ lefts own d) (hy : y ∈ rights own d) : bitlt x.1 y.1 := by
  obtain ⟨i, hi, hbi, rfl⟩ := mem_lefts.1 hx
  obtain ⟨k, hk, hbk, rfl⟩ := mem_rights.1 hy
  have hne : i ≠ k := fun e => by rw [e, hbk] at hbi; cases hbi
  by_cases hlt : i < k
  · exact lefts_lt (d := k) (by omega) (mem_lefts.2 ⟨i, hlt, hbi, rfl⟩) (sib_agrees (by omega))
  · exact rights_lt (d := i) (by omega) (mem_rights.2 ⟨k, by omega, hbk, rfl⟩) (sib_agrees (by omega))
theorem lefts_pair {own : ByteArray} : ∀ {d}, d ≤ 160 → (lefts own d).Pairwise fun x y => bitlt x.1 y.1
  | 0, _ => List.Pairwise.nil
  | d + 1, h => by
    unfold lefts
    rw [List.pairwise_append]
    refine ⟨lefts_pair (by omega), ?_, fun x hx y hy => ?_⟩
    · split <;> simp
    · split at hy
      · rw [List.mem_singleton] at hy
        subst hy
        exact lefts_lt (by omega) hx (sib_agrees (by omega))
      · simp at hy
theorem rights_pair {own : ByteArray} : ∀ {d}, d ≤ 160 → (rights own d).Pairwise fun x y => bitlt x.1 y.1
  | 0, _ => List.Pairwise.nil
  | d + 1, h => by
    unfold rights
    rw [List.pairwise_append]
    refine ⟨?_, rights_pair (by omega), fun x hx y hy => ?_⟩
    · split <;> simp
    · split at hx
      · simp at hx
      · rw [List.mem_singleton] at hx
        subst hx
        exact rights_lt (by omega) hy (sib_agrees (by omega))
theorem chain_pair {own : ByteArray} {d : Nat} (hd : d ≤ 160) : (chainF own d).Pairwise fun x y => bitlt x.1 y.1 := by
  have hp : ∀ j, j < d → bitL (prefixF own d).data.toList j = bitL own.data.toList j := fun j hj => by rw [prefixF_bit _ _ _ hd (by omega)]; simp [hj]
  unfold chainF
  rw [List.pairwise_append, List.pairwise_append]
  refine ⟨⟨lefts_pair hd, by simp, fun x hx y hy => ?_⟩, rights_pair hd, fun x hx y hy => ?_⟩
  · rw [List.mem_singleton] at hy
    subst hy
    exact lefts_lt hd hx hp
  · rcases List.mem_append.1 hx with hx | hx
    · exact sides_lt hd hx hy
    · rw [List.mem_singleton] at hx
      subst hx
      exact rights_lt hd hy hp
theorem nat_lt_of_bits {x y : Nat} (p : Nat) (hx : x.testBit p = false) (hy : y.testBit p = true) (h : ∀ m, p < m → x.testBit m = y.testBit m) : x < y := by
  have e : x / 2 ^ (p + 1) = y / 2 ^ (p + 1) := by
    apply Nat.eq_of_testBit_eq
    intro i
    rw [Nat.testBit_div_two_pow, Nat.testBit_div_two_pow]
    exact h _ (by omega)
  rw [Nat.testBit_eq_decide_div_mod_eq, decide_eq_false_iff_not] at hx
  rw [Nat.testBit_eq_decide_div_mod_eq, decide_eq_true_iff] at hy
  rw [Nat.pow_succ, ← Nat.div_div_eq_div_mul, ← Nat.div_div_eq_div_mul] at e
  apply Nat.lt_of_not_le
  intro hle
  have := Nat.div_le_div_right (c := 2 ^ p) hle
  omega
theorem byte_lt {x y : UInt8} {k : Nat} (hk : k < 8) (h : ∀ j, j < k → x.toNat.testBit (7 - j) = y.toNat.testBit (7 - j)) (hx : x.toNat.testBit (7 - k) = false) (hy : y.toNat.testBit (7 - k) = true) : x < y := by
  rw [UInt8.lt_iff_toNat_lt]
  refine nat_lt_of_bits (7 - k) hx hy fun m hm => ?_
  by_cases h8 : m < 8
  · have := h (7 - m) (by omega)
    rw [show 7 - (7 - m) = m by omega] at this
    exact this
  · have hp : 2 ^ 8 ≤ 2 ^ m := Nat.pow_le_pow_right (by omega) (by omega)
    rw [Nat.testBit_lt_two_pow (Nat.lt_of_lt_of_le x.toNat_lt hp), Nat.testBit_lt_two_pow (Nat.lt_of_lt_of_le y.toNat_lt hp)]
theorem bitL_cons (x : UInt8) (l : List UInt8) (i : Nat) : bitL (x :: l) (i + 8) = bitL l i := by
  unfold bitL
  rw [show (i + 8) / 8 = i / 8 + 1 by omega, show (i + 8) % 8 = i % 8 by omega]
  rfl
theorem bitL_head (x : UInt8) (l : List UInt8) (i : Nat) (hi : i < 8) : bitL (x :: l) i = x.toNat.testBit (7 - i) := by
  unfold bitL
  rw [show i / 8 = 0 by omega, show i % 8 = i by omega]
  rfl
theorem less_of_bits : ∀ (a b : List UInt8) (k : Nat), k < 8 * a.length → k < 8 * b.length → (∀ j, j < k → bitL a j = bitL b j) → bitL a k = false → bitL b k = true → Op.bytesLess a b = true
  | [], b, k, h, _, _, _, _ => by simp at h
  | x :: a, [], k, _, h, _, _, _ => by simp at h
  | x :: a, y :: b, k, h1, h2, h3, h4, h5 => by
    unfold Op.bytesLess
    by_cases hk : k < 8
    · have : x < y := byte_lt hk (fun j hj => by rw [← bitL_head x a j (by omega), ← bitL_head y b j (by omega)]; exact h3 j hj) (by rw [← bitL_head x a k hk]; exact h4) (by rw [← bitL_head y b k hk]; exact h5)
      simp [this]
    · have hxy : x = y := byte_ext fun m hm => by
        have := h3 (7 - m) (by omega)
        rw [bitL_head x a _ (by omega), bitL_head y b _ (by omega), show 7 - (7 - m) = m by omega] at this
        exact this
      obtain ⟨i, rfl⟩ : ∃ i, k = i + 8 := ⟨k - 8, by omega⟩
      have := less_of_bits a b i (by simp at h1; omega) (by simp at h2; omega) (fun j hj => by
        have := h3 (j + 8) (by omega)
        rw [bitL_cons, bitL_cons] at this
        exact this) (by rw [← bitL_cons x]; exact h4) (by rw [← bitL_cons y]; exact h5)
      simp [hxy, this]
theorem less_of_bitlt {a b : ByteArray} (ha : a.size = 20) (hb : b.size = 20) (h : bitlt a b) : Op.bytesLess a.toList b.toList = true := by
  obtain ⟨k, hk, h1, h2, h3⟩ := h
  rw [Lib.toList_data, Lib.toList_data]
  have hla : a.data.toList.length = 20 := by simpa using ha
  have hlb : b.data.toList.length = 20 := by simpa using hb
  exact less_of_bits _ _ k (by omega) (by omega) h1 h2 h3
theorem bitlt_ne {a b : ByteArray} (h : bitlt a b) : a ≠ b := by
  obtain ⟨k, _, _, h2, h3⟩ := h
  intro e
  rw [e, h3] at h2
  cases h2
end Go.Proofs.Tc
