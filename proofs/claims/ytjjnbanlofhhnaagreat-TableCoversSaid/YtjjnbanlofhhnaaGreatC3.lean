import Derived.Test.YtjjnbanlofhhnaaGreatC2
import Derived.Shelf.Abstract
namespace Go.Proofs.Tc
open Go.RowKit Go.Sort
attribute [local go_sem] stepO_0 stepO_1 stepO_2 stepO_3

theorem sameidx_calls (w : World) (b : Nat) (n : Nd) (e : Ent)
   (h0 : w.cell? ⟨b, 0, none⟩ = some (.string n.id)) (h1 : w.cell? ⟨b, 1, none⟩ = some (.int .i64 n.fam)) (h2 : w.cell? ⟨b, 2, none⟩ = some (.string n.ip)) (h3 : w.cell? ⟨b, 3, none⟩ = some (.int .i64 n.port)) :
    Calls Tryz.prog 67 #[entV e, .pointer (some ⟨b, 0, none⟩)] w (Ret w (.bool (decide (e.nd = n)))) := by
  have lt := World.block_lt_of_cell? w _ h0
  simp only at lt
  unfold entV
  go_enter Tryz.func67, Tryz.ntmps67
  go_wp2
  all_goals (go_ret; refine Ret.bool rfl ?_ ((Below.refl _ _).alloc (Nat.le_refl _) _))
  all_goals (obtain ⟨⟨i1, i2, i3, i4⟩, _, _, _, _⟩ := e; obtain ⟨j1, j2, j3, j4⟩ := n)
  all_goals first | exact nd_t (by assumption) (by assumption) (by assumption) (by assumption) | exact nd_f1 (by assumption) | exact nd_f2 (by assumption) | exact nd_f3 (by assumption) | exact nd_f4 (by assumption)
theorem samedrop_calls' (w : World) (b : Nat) (n : Nd) (e : Ent)
   (h0 : w.cell? ⟨b, 0, none⟩ = some (.string n.id)) (h1 : w.cell? ⟨b, 1, none⟩ = some (.int .i64 n.fam)) (h2 : w.cell? ⟨b, 2, none⟩ = some (.string n.ip)) (h3 : w.cell? ⟨b, 3, none⟩ = some (.int .i64 n.port)) :
    Calls Tryz.prog 62 #[entV e, .pointer (some ⟨b, 0, none⟩)] w (Ret w (.bool (decide (e.nd = n)))) := by
  obtain ⟨⟨i1, i2, i3, i4⟩, _, _, _, _⟩ := e; obtain ⟨j1, j2, j3, j4⟩ := n
  exact samedrop_calls w b _ _ _ _ _ _ _ _ _ _ _ _ h0 h1 h2 h3

theorem index_calls (w : World) (v : Value) (es : List Ent) (n : Nd) (ho : OwnE w v es) :
    Calls Tryz.prog 33 #[v, ndV n] w (Ret w (.int .i64 (idxF (fun e => decide (e.nd = n)) es))) := by
  have HO := Lib.hid ho
  clear ho
  have hp : ∀ W, Below (w.heap.size + 1) (w.alloc (.cells #[.string n.id, .int .i64 n.fam, .string n.ip, .int .i64 n.port] 33)) W → ∀ e ∈ es,
     Calls Tryz.prog 67 (#[entV e] ++ #[.pointer (some ⟨w.heap.size, 0, none⟩)]) W (Ret W (.bool (decide (e.nd = n)))) := by
    intro W hW e _
    have hh : W.heap[w.heap.size]? = some (.cells #[.string n.id, .int .i64 n.fam, .string n.ip, .int .i64 n.port] 33 (0, 0)) := (hW.block _ (by omega)).trans (heap_alloc_new w _)
    exact sameidx_calls W w.heap.size n e (by simp [World.cell?, hh]) (by simp [World.cell?, hh]) (by simp [World.cell?, hh]) (by simp [World.cell?, hh])
  have HP := Lib.hid hp
  clear hp
  unfold ndV
  go_enter Tryz.func33, Tryz.ntmps33
  go_wp2_with fail
  refine (indexE_calls _ v es (HO.out.alloc _) 67 #[.pointer (some ⟨w.heap.size, 0, none⟩)] (fun e => decide (e.nd = n)) (enters_of Tryz.func67 (by kernel_rfl) rfl) (by simpa using HP.out)).mono ?_
  rintro e2 w2 ⟨rfl, hb2⟩
  go_wp2
  go_ret
  exact ⟨rfl, (below_new (Below.refl _ _) _).trans (hb2.mono (by simp))⟩

theorem Own.cells {w : World} {e : TypeId} {size n cap : Nat} {ad : Addr} {xs : List Value} (h : Own w e size (.slice (some ad) n cap) n xs) : ∀ j u, xs[j]? = some u → w.cell? (ad.add j) = some u := by
  intro j u hu
  have hpos : 0 < n := by
    rcases Nat.eq_zero_or_pos n with h0 | h0
    · have := h.length; rw [h0] at this; simp at this; subst this; simp at hu
    · exact h0
  obtain ⟨g, cap', hv, _⟩ := h.row hpos
  injection hv with ha _ hc
  injection ha with ha
  subst ha
  rw [show (⟨g, 0, none⟩ : Addr).add j = ⟨g, j, none⟩ by unfold Addr.add; split <;> simp_all]
  exact h.cell rfl hu

set_option maxRecDepth 100000 in
theorem clone_calls (w : World) (v : Value) (es : List Ent) (ho : OwnE w v es) (hm : es.length * 80 ≤ 140737488355328) :
    Calls Tryz.prog 68 #[v] w fun e w' => ∃ v', e = .returned v' ∧ OwnE w' v' es ∧ (∀ g ∈ fpv v', w.heap.size ≤ g) ∧ Below w.heap.size w w' := by
  obtain ⟨a, cap, rfl, hle, hmx⟩ := ho.shape
  unfold maxLen at hmx
  have hnil := fun w => Lib.run_eql_slice_nil (P := Tryz.prog) w 44 60 a es.length cap 0 0 Tryz.underlying44
  cases a with
  | none =>
    have h0 : es = [] := by
      rcases ho with ⟨_, _, h, _⟩ | ⟨g, cap, cur, hv, _⟩
      · exact List.eq_nil_of_length_eq_zero h
      · cases hv
    subst h0
    have hnil0 := fun w => Lib.run_eql_slice_nil (P := Tryz.prog) w 44 60 none 0 cap 0 0 Tryz.underlying44
    go_enter Tryz.func68, Tryz.ntmps68
    go_wp2
    go_ret
    exact ⟨_, rfl, .inl ⟨none, rfl, rfl, rfl⟩, by simp [fpv], Below.refl _ _⟩
  | some a =>
    have HO := Lib.hid ho
    clear ho
    go_enter Tryz.func68, Tryz.ntmps68
    go_wp2_with ((at_builtin; refine wpList_append' rfl rfl Ee rfl (.inl ⟨_, rfl, rfl, rfl⟩) (evs es) rfl (evs_length es) ((HO.out.alloc _).cells) (evs_one es) (by simp [maxLen]; omega) (by omega) ?_; intro v' w3 ho' hk' hf' hz'))
    go_ret
    have hf2 : ∀ g ∈ fpv v', g ∈ ([] : List Nat) ∨ g = (w.alloc (.cells #[] 60)).heap.size := hf'
    rw [World.size_alloc] at hf2
    have hk2 : Keeps [] (w.alloc (.cells #[] 60)) w3 := hk'
    refine ⟨_, rfl, by simpa using ho', fun g hg => ?_, (below_new (Below.refl _ w) _).trans (hk2.below (by simp) (by simp))⟩
    rcases hf2 g hg with h | h
    · cases h
    · omega
end Go.Proofs.Tc
