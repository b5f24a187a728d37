import Derived.Test.YtjjnbanlofhhnaaGreatA1
import Derived.Test.YtjjnbanlofhhnaaGreatOwn
namespace Go.Proofs.Tc
open Go.RowKit Go.Sort
attribute [local go_sem] stepO_0 stepO_1 stepO_2 stepO_3
def bls (l : List Bool) : List Value := l.map .bool
def bitsTo (s : ByteArray) (k : Nat) : List Bool := (List.range k).map (bitL s.data.toList)
def GivesBools (w : World) (l : List Bool) (e : Ending) (w' : World) : Prop := ∃ v, e = .returned v ∧ Own w' 4 1 v l.length (bls l) ∧ (∀ g ∈ fpv v, w.heap.size ≤ g) ∧ Below w.heap.size w w'
theorem Eb : ElemT Tryz.prog 120 4 1 1 (.bool false) := ⟨Tryz.underlying120, by kernel_rfl, rfl⟩
theorem bitsTo_succ (s : ByteArray) (k : Nat) : bls (bitsTo s k) ++ [.bool (bitL s.data.toList k)] = bls (bitsTo s (k + 1)) := by simp [bls, bitsTo, List.range_succ]
set_option maxRecDepth 100000 in
theorem bits_calls (w : World) (s : ByteArray) (hs : s.size = 20) : Calls Tryz.prog 69 #[.string s] w (GivesBools w (bitsTo s 160)) := by
  go_enter Tryz.func69, Tryz.ntmps69
  go_wp2
  go_loopw [3, 5] (fun out i wr => ∃ k : Nat, k ≤ 160 ∧ i = .int .i64 k ∧ Own wr 4 1 out k (bls (bitsTo s k)) ∧ (∀ g ∈ fpv out, w.heap.size ≤ g) ∧ Below w.heap.size w wr) (fun _ i _ => 160 - (intOf i).toNat)
  case atStart => exact ⟨0, by omega, rfl, Own.nil _ _ _, by simp [fpv], Below.refl _ _⟩
  case round =>
    rename_i out _
    obtain ⟨k, hk, rfl, ho, hf, hB⟩ := hrel
    by_cases hlt : k < 160
    · have HS := Lib.hid (bitsTo_succ s k)
      have HF := Lib.hid hf
      clear hf
      go_wp2_with (first | (go_at_call 106; refine (bit_calls _ _ _ (by omega) (by unfold maxLen; omega)).mono ?_; rintro e2 w2 ⟨rfl, hb2⟩) | (at_builtin; refine wpList_append' rfl rfl Eb rfl ((ho.ext hb2).alloc _) [.bool (bitL s.data.toList k)] rfl rfl (cell_one_new _ _ _) (by simp [Value.oneCell']) (by unfold maxLen; omega) (by omega) ?_; intro v' w3 ho' hk' hf' hz'))
      have hB2 := below_new (below_ext hB hb2) (.cells #[.bool (bitL s.data.toList k)] 4)
      have hB3 : Below w.heap.size w w3 := below_keeps hB2 hk' HF.out
      go_roundw
      case rel => exact ⟨k + 1, by omega, by go_num, by rw [← HS.out]; exact ho', fp_ge HF.out hf' hB2.size, hB3⟩
      case measure => simp [intOf]; omega
    · obtain rfl : k = 160 := by omega
      have HF := Lib.hid hf
      clear hf
      go_wp2
      go_ret
      exact ⟨_, rfl, by simpa [bitsTo] using ho, HF.out, hB⟩

theorem bls_length (l : List Bool) : (bls l).length = l.length := by simp [bls]
theorem bls_get {l : List Bool} {i : Nat} {x : Bool} (h : l[i]? = some x) : (bls l)[i]? = some (.bool x) := by simp [bls, h]
theorem u8s_get' {l : List UInt8} {i : Nat} {x : UInt8} (h : l[i]? = some x) : (u8s l)[i]? = some (.int .u8 x.toNat) := by simp [u8s, h]

def orTo (l : List Bool) : Nat → List UInt8
  | 0 => List.replicate 20 0
  | k + 1 => if l.getD k false then (orTo l k).set (k / 8) ((orTo l k).getD (k / 8) 0 ||| UInt8.ofNat (2 ^ (7 - k % 8))) else orTo l k
theorem orTo_length (l : List Bool) : ∀ k, (orTo l k).length = 20
  | 0 => by simp [orTo]
  | k + 1 => by unfold orTo; split <;> simp [orTo_length l k]
theorem or_fact (x : UInt8) (k : Nat) : bits BinOp.or IntKind.u8 (x.toNat : Int) (2 ^ (7 - k % 8) % 256) = ((x ||| UInt8.ofNat (2 ^ (7 - k % 8))).toNat : Int) := by
  have e : ((2 : Int) ^ (7 - k % 8) % 256) = ((2 ^ (7 - k % 8) % 256 : Nat) : Int) := by rw [Int.natCast_emod, Int.natCast_pow]; rfl
  rw [e, u8_or_nat _ _ x.toNat_lt (Nat.mod_lt _ (by omega)), UInt8.toNat_or]
  congr 2
set_option maxRecDepth 100000 in
theorem from_calls (w : World) (l : List Bool) (v : Value) (ho : Own w 4 1 v 160 (bls l)) (hl : l.length = 160) : Calls Tryz.prog 70 #[v] w (Ret w (.string ⟨(orTo l 160).toArray⟩)) := by
  obtain ⟨g, cap, rfl, hc1, hc2, hfp, hrow⟩ := ho.row (by omega)
  have lt := hrow.lt
  have hmk : ∀ w : World, (Instr.makeSlice 155 (.int .i64 20) (.int .i64 20)).run Tryz.prog w = .ok (.slice (some ⟨w.heap.size, 0, none⟩) 20 20) (w.alloc (.cells (List.replicate 20 (.int .u8 0)).toArray 5)) := fun _ => by kernel_rfl
  go_enter Tryz.func70, Tryz.ntmps70
  go_wp2
  go_loopw [9] (fun i wr => ∃ (k : Nat), k ≤ 160 ∧ i = .int .i64 k ∧ Row wr w.heap.size 5 (u8s (orTo l k)) 20 ∧ Below w.heap.size w wr) (fun i _ => 160 - (intOf i).toNat)
  case atStart => exact ⟨0, by omega, rfl, ⟨_, 0, 0, heap_alloc_new _ _, .inl (Nat.le_refl _), rfl, rfl⟩, below_new (Below.refl _ _) _⟩
  case round =>
    obtain ⟨k, hk, rfl, hr, hB⟩ := hrel
    clear hmk
    have hrow' := hrow.ext hB
    have hb := orTo_length l k
    by_cases hlt : k < 160
    · obtain ⟨c, hc⟩ : ∃ c, l[k]? = some c := ⟨l[k], List.getElem?_eq_getElem (by omega)⟩
      obtain ⟨x, hx⟩ : ∃ x, (orTo l k)[k / 8]? = some x := ⟨(orTo l k)[k / 8], List.getElem?_eq_getElem (by omega)⟩
      have hck := hrow'.cell (bls_get hc)
      have hcb := hr.cell (u8s_get' hx)
      have hfb := hr.frozen (i := k / 8) (by omega)
      have hlk : k < l.length := by omega
      have HL := Lib.hid hl; have HB := Lib.hid hb; have HC := Lib.hid hc; have HX := Lib.hid hx
      clear hl hb hc hx
      have h8 : k / 8 < 20 := by omega
      have h8' : (k : Int) / 8 < 20 := by omega
      cases c with
      | true =>
        have HS : Hid (orTo l (k + 1) = (orTo l k).set (k / 8) (x ||| UInt8.ofNat (2 ^ (7 - k % 8)))) := by
          show orTo l (k + 1) = _
          rw [orTo, List.getD_eq_getElem?_getD, HC.out, List.getD_eq_getElem?_getD, HX.out]; rfl
        go_wp2_with fail
        refine wp_region_ord [(0,0),(1,0),(2,0),(3,0),(4,1),(5,0),(6,0),(7,0),(8,0),(9,0),(10,0),(11,3)] (by kernel_rfl) (by kernel_rfl) ?_
        simp only [pickO, List.map_cons, List.map_nil, List.getD_cons_zero, List.getD_cons_succ]
        repeat (first | ((with_reducible refine wpO_skip ?_ ?_); rfl; simp only [Act.put, List.setIfInBounds_toArray, List.set_cons_zero, List.set_cons_succ]) | ((with_reducible refine wpO_step (fun K hK => ?_)); go_simp; (try go_bits); (first | (with_reducible refine hK _ _ ?_) | (simp only [IntWalk.iteOmega]; go_simp; (try go_bits); (with_reducible refine hK _ _ ?_))); clear hK K))
        (with_reducible refine wpO_nil ?_)
        go_wp2
        go_roundw
        case rel =>
          refine ⟨k + 1, by omega, by go_num, ?_, by go_grown⟩
          rw [HS.out, ← u8s_set, or_fact]
          exact hr.set _ (by rw [u8s_length, HB.out]; exact h8)
        case measure => simp [intOf]; omega
      | false =>
        have HS : Hid (orTo l (k + 1) = orTo l k) := by
          show orTo l (k + 1) = _
          rw [orTo, List.getD_eq_getElem?_getD, HC.out]; rfl
        go_wp2
        go_roundw
        case rel => exact ⟨k + 1, by omega, by go_num, by rw [HS.out]; exact hr, hB⟩
        case measure => simp [intOf]; omega
    · obtain rfl : k = 160 := by omega
      have hback := conv_back (P := Tryz.prog) (w := wr) (cap := 20) 155 9 5 Tryz.underlying155 Tryz.underlying5 Tryz.underlying9 hr
      rw [hb] at hback
      clear hb hl
      go_wp2
      go_ret
      exact ⟨rfl, hB⟩

def cutTo (l : List Bool) (n : Nat) : Nat → List Bool
  | 0 => l
  | k + 1 => (cutTo l n k).set (n + k) false
theorem cutTo_length (l : List Bool) (n : Nat) : ∀ k, (cutTo l n k).length = l.length
  | 0 => rfl
  | k + 1 => by simp [cutTo, cutTo_length l n k]
theorem bls_set (l : List Bool) (i : Nat) (b : Bool) : (bls l).set i (.bool b) = bls (l.set i b) := by simp [bls, List.map_set]
theorem bitsTo_length (s : ByteArray) (k : Nat) : (bitsTo s k).length = k := by simp [bitsTo]
def prefixF (s : ByteArray) (n : Nat) : ByteArray := ⟨(orTo (cutTo (bitsTo s 160) n (160 - n)) 160).toArray⟩
def flipF (s : ByteArray) (i : Nat) : ByteArray := ⟨(orTo ((bitsTo s 160).set i (!(bitsTo s 160).getD i false)) 160).toArray⟩
set_option maxRecDepth 100000 in
theorem prefix_calls (w : World) (s : ByteArray) (n : Nat) (hs : s.size = 20) (hn : n ≤ 160) : Calls Tryz.prog 37 #[.string s, .int .i64 n] w (Ret w (.string (prefixF s n))) := by
  go_enter Tryz.func37, Tryz.ntmps37
  go_wp2_with (go_at_call 69; refine (bits_calls _ _ hs).mono ?_; rintro e2 w2 ⟨v, rfl, ho, hf, hb2⟩)
  rw [bitsTo_length] at ho
  obtain ⟨g, cap, rfl, hc1, hc2, hfp, hrow⟩ := ho.row (by omega)
  have hg : w.heap.size ≤ g := hf g (by rw [hfp]; simp)
  clear hf hfp hrow
  go_loopw [6] (fun i wr => ∃ (k : Nat), k ≤ 160 - n ∧ i = .int .i64 (n + k : Nat) ∧ Own wr 4 1 (.slice (some ⟨g, 0, none⟩) 160 (cap + 1)) 160 (bls (cutTo (bitsTo s 160) n k)) ∧ Below w.heap.size w wr) (fun i _ => 160 - (intOf i).toNat)
  case atStart => exact ⟨0, by omega, by simp, ho, hb2⟩
  case round =>
    obtain ⟨k, hk, rfl, hr, hB⟩ := hrel
    have hlen : (bls (cutTo (bitsTo s 160) n k)).length = 160 := by rw [bls_length, cutTo_length, bitsTo_length]
    by_cases hlt : n + k < 160
    · obtain ⟨c, hc⟩ : ∃ c, (bls (cutTo (bitsTo s 160) n k))[n + k]? = some c := ⟨_, List.getElem?_eq_getElem (by omega)⟩
      have hck := hr.cell rfl hc
      have hfr := hr.frozen (i := n + k) (by omega)
      have HL := Lib.hid hlen; have HC := Lib.hid hc
      clear hlen hc
      go_wp2
      go_roundw
      case rel =>
        refine ⟨k + 1, by omega, by go_num, ?_, by go_grown⟩
        have := hr.set (i := n + k) (.bool false) (by omega)
        rw [bls_set] at this
        exact this
      case measure => simp [intOf]; omega
    · obtain rfl : k = 160 - n := by omega
      have HL := Lib.hid hlen
      clear hlen
      go_wp2_with (go_at_call 70; (with_reducible refine (from_calls _ _ _ hr (by rw [cutTo_length, bitsTo_length])).mono ?_); rintro e2 w3 ⟨rfl, hb3⟩)
      go_ret
      exact ⟨rfl, below_ext hB hb3⟩
set_option maxRecDepth 100000 in
theorem flip_calls (w : World) (s : ByteArray) (n : Nat) (hs : s.size = 20) (hn : n < 160) : Calls Tryz.prog 38 #[.string s, .int .i64 n] w (Ret w (.string (flipF s n))) := by
  go_enter Tryz.func38, Tryz.ntmps38
  go_wp2_with fail
  refine (bits_calls _ _ hs).mono ?_; rintro e2 w2 ⟨v, rfl, ho, hf, hb2⟩
  rw [bitsTo_length] at ho
  obtain ⟨g, cap, rfl, hc1, hc2, hfp, hrow⟩ := ho.row (by omega)
  have hg : w.heap.size ≤ g := hf g (by rw [hfp]; simp)
  obtain ⟨c, hc⟩ : ∃ c, (bitsTo s 160)[n]? = some c := ⟨_, List.getElem?_eq_getElem (by rw [bitsTo_length]; exact hn)⟩
  have hck := ho.cell rfl (bls_get hc)
  have hfr := ho.frozen (i := n) (by omega)
  have ho2 := ho.set (i := n) (.bool (!c)) (by omega)
  rw [bls_set] at ho2
  have HC := Lib.hid hc
  clear hf hfp hrow ho hc
  have hn' : (n : Int) < 160 := by omega
  go_wp2_with (go_at_call 70; (with_reducible refine (from_calls _ _ _ ho2 (by rw [List.length_set, bitsTo_length])).mono ?_); rintro e2 w3 ⟨rfl, hb3⟩)
  go_ret
  refine ⟨?_, below_ext (hb2.setCell (p := ⟨g, n, none⟩) hg _) hb3⟩
  unfold flipF
  rw [List.getD_eq_getElem?_getD, HC.out]; rfl
def cm (a b : ByteArray) : Nat → Nat → Nat
  | 0, n => n
  | f + 1, n => if bitL a.data.toList n == bitL b.data.toList n then cm a b f (n + 1) else n
def commonF (a b : ByteArray) : Nat := cm a b 160 0
set_option maxRecDepth 100000 in
theorem rcommon_calls (w : World) (a b : ByteArray) (ha : a.size = 20) (hb : b.size = 20) : Calls Tryz.prog 71 #[.string a, .string b] w (Ret w (.int .i64 (commonF a b))) := by
  go_enter Tryz.func71, Tryz.ntmps71
  go_wp2
  go_loopw [5] (fun i wr => ∃ (k : Nat), k ≤ 160 ∧ i = .int .i64 k ∧ commonF a b = cm a b (160 - k) k ∧ Below w.heap.size w wr) (fun i _ => 160 - (intOf i).toNat)
  case atStart => exact ⟨0, by omega, by simp, rfl, Below.refl _ _⟩
  case round =>
    obtain ⟨k, hk, rfl, hr, hB⟩ := hrel
    by_cases hlt : k < 160
    · obtain ⟨f, hf⟩ : ∃ f, 160 - k = f + 1 := ⟨159 - k, by omega⟩
      have HR : Hid (commonF a b = if bitL a.data.toList k == bitL b.data.toList k then cm a b f (k + 1) else k) := by
        show _ = _
        rw [hr, hf, cm]
      have HF := Lib.hid hf
      clear hr hf
      by_cases he : bitL a.data.toList k == bitL b.data.toList k
      · go_wp2_with (go_at_call 106; (with_reducible refine (bit_calls _ _ _ (by omega) (by unfold maxLen; omega)).mono ?_); rintro e2 w2 ⟨rfl, hb2⟩)
        go_roundw
        case rel => exact ⟨k + 1, by omega, by go_num, by rw [HR.out, if_pos he]; have := HF.out; congr 1; omega, by first | exact below_ext (below_ext hB (by assumption)) (by assumption)⟩
        case measure => simp [intOf]; omega
      · have he' : (bitL a.data.toList k == bitL b.data.toList k) = false := by simpa using he
        go_wp2_with (go_at_call 106; (with_reducible refine (bit_calls _ _ _ (by omega) (by unfold maxLen; omega)).mono ?_); rintro e2 w2 ⟨rfl, hb2⟩)
        go_ret
        exact Ret.int rfl (by rw [HR.out, if_neg he]) (below_ext (below_ext hB (by assumption)) (by assumption))
    · obtain rfl : k = 160 := by omega
      have HR := Lib.hid hr
      clear hr
      go_wp2
      go_ret
      exact Ret.int rfl (by rw [HR.out]; rfl) hB
theorem rwithin_calls (w : World) (a b : ByteArray) (n : Int) (ha : a.size = 20) (hb : b.size = 20) : Calls Tryz.prog 39 #[.string a, .string b, .int .i64 n] w (Ret w (.bool (decide (n ≤ (commonF a b : Int))))) := by
  go_enter Tryz.func39, Tryz.ntmps39
  go_wp2_with (go_at_call 71; (with_reducible refine (rcommon_calls _ _ _ ha hb).mono ?_); rintro e2 w2 ⟨rfl, hb2⟩)
  go_ret
  exact ⟨rfl, hb2⟩
end Go.Proofs.Tc
