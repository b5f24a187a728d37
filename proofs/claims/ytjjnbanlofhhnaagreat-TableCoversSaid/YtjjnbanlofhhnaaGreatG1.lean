import Derived.Test.YtjjnbanlofhhnaaGreatF7
namespace Go.Proofs.Tc
open Go.RowKit Go.Sort
attribute [local go_sem] stepO_0 stepO_1 stepO_2 stepO_3 stepV_0 stepV_1 stepV_2 stepV_3 stepV_5

/-- One act of the given list. -/
structure Ac where
  kd : Int
  la : Int
  nd : Nd
  id : ByteArray
  ff : Int
def Ac.vals (x : Ac) : List Value := [.int .i64 x.kd, .int .i64 x.la, .string x.nd.id, .int .i64 x.nd.fam, .string x.nd.ip, .int .i64 x.nd.port, .string x.id, .int .i64 x.ff]
/-- The acts of the list A lie in memory at the slice (a, cap). -/
structure ActsIn (w : World) (a : Option Addr) (cap : Nat) (A : List Ac) : Prop where
  hn : A.length ≤ cap
  hm : cap ≤ maxLen
  hc : ∀ (i : Nat) (x : Ac), A[i]? = some x → ∃ ad b o z, a = some ad ∧ ad.add (i * 8) = ⟨b, o, z⟩ ∧ b < w.heap.size ∧ w.cell? ⟨b, o, z⟩ = some (.int .i64 x.kd) ∧ ∀ j u, 1 ≤ j → x.vals[j]? = some u → w.cell? ⟨b, o + j, none⟩ = some u
theorem ActsIn.below {w w' : World} {a : Option Addr} {cap : Nat} {A : List Ac} {n : Nat} (h : ActsIn w a cap A) (hB : Below n w w') (hn : n = w.heap.size) : ActsIn w' a cap A := by
  subst hn
  refine ⟨h.hn, h.hm, fun i x hx => ?_⟩
  obtain ⟨ad, b, o, z, h1, h2, h3, h4, h5⟩ := h.hc i x hx
  exact ⟨ad, b, o, z, h1, h2, Nat.lt_of_lt_of_le h3 hB.size, (hB.cell h3).trans h4, fun j u hj hu => (hB.cell h3).trans (h5 j u hj hu)⟩
def LightRes (w : World) (A : List Ac) (e : Ending) (w' : World) : Prop := ∃ r, e = .returned (.bool r) ∧ Below w.heap.size w w' ∧ (r = true → A.length ≤ 150 ∧ ∀ (i : Nat) (x : Ac), A[i]? = some x → -1000000 ≤ x.la ∧ x.la ≤ 1000000)
set_option maxRecDepth 100000 in
theorem light_calls (w : World) (s : ByteArray) (a : Option Addr) (cap : Nat) (A : List Ac) (hA : ActsIn w a cap A) : Calls Tryz.prog 5 #[.string s, .slice a A.length cap] w (LightRes w A) := by
  have hle := hA.hn
  have hmx := hA.hm
  unfold maxLen at hmx
  obtain ⟨n, hn⟩ : ∃ n, A.length = n := ⟨_, rfl⟩
  have HA := Lib.hid hA
  have HN := Lib.hid hn
  rw [hn] at hle ⊢
  clear hn hA
  go_enter Tryz.func5, Tryz.ntmps5
  by_cases h40 : (s.size : Int) > 40
  · go_wp2
    go_ret
    exact ⟨false, rfl, Below.refl _ _, fun h => by cases h⟩
  by_cases h150 : (n : Int) > 150
  · go_wp2
    go_ret
    exact ⟨false, rfl, Below.refl _ _, fun h => by cases h⟩
  go_wp2_with fail
  go_loopw [17] (fun i wr => ∃ (k : Nat), k ≤ n ∧ i = .int .i64 k ∧ Hid (Below w.heap.size w wr) ∧ Hid (∀ (i : Nat) (x : Ac), i < k → A[i]? = some x → -1000000 ≤ x.la ∧ x.la ≤ 1000000)) (fun i _ => n - (intOf i).toNat)
  case atStart => exact ⟨0, by omega, rfl, Below.refl _ _, fun i x hi => by omega⟩
  case round =>
    obtain ⟨k, hk, rfl, HB, HL⟩ := hrel
    by_cases hlt : k < n
    · obtain ⟨x, hx⟩ : ∃ x, A[k]? = some x := ⟨A[k]'(by rw [HN.out]; exact hlt), List.getElem?_eq_getElem (by rw [HN.out]; exact hlt)⟩
      obtain ⟨ad, b, o, z, rfl, hadd, hb, hc0, hc⟩ := HA.out.hc k x hx
      have g : ∀ j u, 1 ≤ j → x.vals[j]? = some u → wr.cell? ⟨b, o + j, none⟩ = some u := fun j u hj hu => (HB.out.cell hb).trans (hc j u hj hu)
      have g0 := (HB.out.cell hb).trans hc0
      have g1 := g 1 _ (by omega) rfl
      have g2 := g 2 _ (by omega) rfl
      have g3 := g 3 _ (by omega) rfl
      have g4 := g 4 _ (by omega) rfl
      have g5 := g 5 _ (by omega) rfl
      have g6 := g 6 _ (by omega) rfl
      have g7 := g 7 _ (by omega) rfl
      have HX := Lib.hid hx
      have HBW := Lib.hid (below_new HB.out (.cells #[.int .i64 x.kd, .int .i64 x.la, .string x.nd.id, .int .i64 x.nd.fam, .string x.nd.ip, .int .i64 x.nd.port, .string x.id, .int .i64 x.ff] 35))
      clear g hc hc0 hx
      go_wp2_with fail
      all_goals (try (go_ret; exact ⟨false, rfl, HBW.out, fun h => by cases h⟩))
      go_roundw
      rename_i hh
      case rel =>
        refine ⟨k + 1, by omega, by go_num, HBW.out, fun i y hi hy => ?_⟩
        rcases Nat.lt_succ_iff_lt_or_eq.1 hi with hi | rfl
        · exact HL.out i y hi hy
        · have := HX.out
          rw [this] at hy
          injection hy with hy
          subst hy
          exact ⟨hh.2, hh.1.2⟩
      case measure => simp [intOf]; omega
    · obtain rfl : k = n := by omega
      go_wp2
      go_ret
      exact ⟨true, rfl, HB.out, fun _ => ⟨by rw [HN.out]; omega, fun i x hx => HL.out i x (by have := (List.getElem?_eq_some_iff.1 hx).1; have := HN.out; omega) hx⟩⟩
end Go.Proofs.Tc
