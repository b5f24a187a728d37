import Derived.Test.YtjjnbanlofhhnaaGreatC8
namespace Go.Proofs.Tc
open Go.RowKit Go.Sort
attribute [local go_sem] stepO_0 stepO_1 stepO_2 stepO_3 stepV_0 stepV_1 stepV_2 stepV_3 stepV_5

/-- A way went there, or it left all as it was. -/
def WayRes (w : World) (b : Nat) (S : List Nat) (o : Option Bk) (r : Ending) (w' : World) : Prop :=
  match o with
  | some k' => r = .returned (.bool true) ∧ BkTurn w b S k' w'
  | none => r = .returned (.bool false) ∧ Below w.heap.size w w'
theorem WayRes.yes {w w' : World} {b : Nat} {S : List Nat} {o : Option Bk} {k' : Bk} {v : Value} {c : Bool} (h : o = some k') (hv : v = .bool c) (hc : c = true) (ht : BkTurn w b S k' w') : WayRes w b S o (.returned v) w' := by rw [h, hv, hc]; exact ⟨rfl, ht⟩
theorem WayRes.no {w w' : World} {b : Nat} {S : List Nat} {o : Option Bk} {v : Value} {c : Bool} (h : o = none) (hv : v = .bool c) (hc : c = false) (ht : Below w.heap.size w w') : WayRes w b S o (.returned v) w' := by rw [h, hv, hc]; exact ⟨rfl, ht⟩

def way1F (k : Bk) (e : Ent) : Option Bk := if k.ents.length < 8 then some { k with ents := k.ents ++ [e] } else none
set_option maxRecDepth 100000 in
set_option maxHeartbeats 400000 in
theorem way1_calls (w : World) (tb b : Nat) (k : Bk) (S : List Nat) (e : Ent) (hk : BkIn w b k S) :
    Calls Tryz.prog 99 #[.pointer (some ⟨tb, 0, none⟩), .pointer (some ⟨b, 0, none⟩), entV e] w (WayRes w b S (way1F k e)) := by
  obtain ⟨ve, vs, hh, hve, hvs, rfl, hnd⟩ := hk
  have lt : b < w.heap.size := (Array.getElem?_eq_some_iff.1 hh).1
  have hb : b ∉ fpv ve ++ fpv vs := (List.nodup_cons.1 hnd).1
  obtain ⟨hnd1, hnd2, hdis⟩ := List.nodup_append.1 (List.nodup_cons.1 hnd).2
  have hbe : b ∉ fpv ve := fun h => hb (List.mem_append.2 (.inl h))
  have hbs : b ∉ fpv vs := fun h => hb (List.mem_append.2 (.inr h))
  obtain ⟨c0, c1, c2, c3, c4⟩ := cells5 hh
  obtain ⟨a, cap, rfl, hle, hmx⟩ := hve.shape
  have HH := Lib.hid hh
  have HE := Lib.hid hve
  have HS := Lib.hid hvs
  have HD := Lib.hid hdis
  clear hve hvs hh hnd hb hdis
  by_cases h8 : k.ents.length < 8
  · have HF : Hid (way1F k e = some { k with ents := k.ents ++ [e] }) := if_pos h8
    unfold entV
    go_enter Tryz.func99, Tryz.ntmps99
    go_wp2_with fail
    obtain ⟨w1, hw1⟩ : ∃ w1, w.alloc (.cells #[.string e.nd.id, .int .i64 e.nd.fam, .string e.nd.ip, .int .i64 e.nd.port, .int .i64 e.kd, .int .i64 e.an, .int .i64 e.ak, .int .i64 e.fl] 60) = w1 := ⟨_, rfl⟩
    have h1 : w1.heap[w.heap.size]? = some (.cells #[.string e.nd.id, .int .i64 e.nd.fam, .string e.nd.ip, .int .i64 e.nd.port, .int .i64 e.kd, .int .i64 e.an, .int .i64 e.ak, .int .i64 e.fl] 60 (0, 0)) := by rw [← hw1]; exact heap_alloc_new w _
    have hB1 : Below w.heap.size w w1 := by rw [← hw1]; exact below_new (Below.refl _ w) _
    have hh1 := (hB1.block b lt).trans HH.out
    have hE1 := HE.out.ext hB1
    have lt1 : b < w1.heap.size := Nat.lt_of_lt_of_le lt hB1.size
    rw [hw1]
    clear hw1 c0 c1 c2 c3 c4
    obtain ⟨c0, c1, c2, c3, c4⟩ := cells5 hh1
    obtain ⟨a0, a1, a2, a3, a4, a5, a6, a7⟩ := cells8 h1
    have HH1 := Lib.hid hh1
    have HE1 := Lib.hid hE1
    clear hh1 hE1 h1
    refine wp_region_ord [(0,0),(1,0),(2,0),(3,0),(4,1),(5,1),(6,2),(7,3),(8,0),(9,0),(10,3)] (by kernel_rfl) (by kernel_rfl) ?_
    simp only [pickO, List.map_cons, List.map_nil, List.getD_cons_zero, List.getD_cons_succ]
    repeat (first | ((with_reducible refine wpO_skip ?_ ?_); rfl; simp only [Act.put, List.setIfInBounds_toArray, List.set_cons_zero, List.set_cons_succ]) | ((with_reducible refine wpO_step (fun K hK => ?_)); go_simp; (try go_bits); (first | (with_reducible refine hK _ _ ?_) | (simp only [IntWalk.iteOmega]; go_simp; (try go_bits); (with_reducible refine hK _ _ ?_))); clear hK K))
    (with_reducible refine wpO_step (fun K hK => ?_)); go_simp; (try go_bits)
    refine ⟨(Below.refl w1.heap.size w1.drew).alloc (by simp) _, ?_⟩
    (with_reducible refine hK _ _ ?_); clear hK K
    refine wpO_append' rfl rfl Ee rfl ((HE1.out.alloc _).drew) e.vals rfl rfl (by exact new_cells w1 e.vals 60) (by intro u hu; exact evs_one [e] u (by simpa [evs] using hu)) (by unfold maxLen; omega) (by omega) ?_
    intro v' w3 ho' hk' hf' hs'
    change Keeps (fpv (.slice a k.ents.length cap)) (w1.alloc (.cells #[.string e.nd.id, .int .i64 e.nd.fam, .string e.nd.ip, .int .i64 e.nd.port, .int .i64 e.kd, .int .i64 e.an, .int .i64 e.ak, .int .i64 e.fl] 60)).drew w3 at hk'
    change ∀ g ∈ fpv v', g ∈ fpv (.slice a k.ents.length cap) ∨ g = (w1.alloc (.cells #[.string e.nd.id, .int .i64 e.nd.fam, .string e.nd.ip, .int .i64 e.nd.port, .int .i64 e.kd, .int .i64 e.an, .int .i64 e.ak, .int .i64 e.fl] 60)).drew.heap.size at hf'
    have hsz : (w1.alloc (.cells #[.string e.nd.id, .int .i64 e.nd.fam, .string e.nd.ip, .int .i64 e.nd.port, .int .i64 e.kd, .int .i64 e.an, .int .i64 e.ak, .int .i64 e.fl] 60)).drew.heap.size = w1.heap.size + 1 := by simp
    rw [hsz] at hf'
    have hh3 := (hk'.block b (by rw [hsz]; omega) hbe).trans ((Below.heap_alloc w1 (.cells #[.string e.nd.id, .int .i64 e.nd.fam, .string e.nd.ip, .int .i64 e.nd.port, .int .i64 e.kd, .int .i64 e.an, .int .i64 e.ak, .int .i64 e.fl] 60) b lt1).trans HH1.out)
    have hK1 : Keeps (fpv (.slice a k.ents.length cap)) w w3 := ((below_new hB1 _).drew.keep).trans hk'
    have hs3 := (HS.out.ext ((below_new hB1 (.cells #[.string e.nd.id, .int .i64 e.nd.fam, .string e.nd.ip, .int .i64 e.nd.port, .int .i64 e.kd, .int .i64 e.an, .int .i64 e.ak, .int .i64 e.fl] 60)).drew)).keeps hk' (fun g hg hg' => HD.out g hg' g hg rfl)
    have hbv : b ∉ fpv v' := fun h => by
      rcases hf' b h with h | h
      · exact hbe h
      · omega
    have hdv : ∀ g ∈ fpv v', g ∉ fpv vs := fun g h1 h2 => by
      rcases hf' g h1 with h | h
      · exact HD.out g h g h2 rfl
      · have := HS.out.fp_lt g h2; have := hB1.size; omega
    have hfin : BkTurn w b (fpv (.slice a k.ents.length cap) ++ fpv vs) { k with ents := k.ents ++ [e] } (w3.setCell ⟨b, 2, none⟩ v') := by
      refine BkTurn.make (k' := { k with ents := k.ents ++ [e] }) (v1 := v') (v2 := vs) (set_e _ hh3) ?_ (hs3.setO _ hbs) ?_ (nodup3 hbv hbs hdv) ?_
      · show Own _ 60 8 v' (k.ents ++ [e]).length (evs (k.ents ++ [e]))
        rw [evs_append, List.length_append, show evs [e] = e.vals by simp [evs]]
        exact ho'.setO _ hbv
      · intro g hg
        rcases hg with hg | hg
        · rcases hf' g hg with h | h
          · exact .inl (List.mem_append.2 (.inl h))
          · exact .inr (by have := hB1.size; omega)
        · exact .inl (List.mem_append.2 (.inr hg))
      · exact (hK1.mono (fun x hx _ => List.mem_cons_of_mem _ (List.mem_append.2 (.inl hx)))).setCell _ (.inl (by simp))
    obtain ⟨a', cap', rfl, _⟩ := ho'.shape
    have HFIN := Lib.hid hfin
    clear c0 c1 c2 c3 c4 a0 a1 a2 a3 a4 a5 a6 a7 hfin hbv hdv hs3 hK1 hk' hf' ho'
    obtain ⟨c0, c1, c2, c3, c4⟩ := cells5 hh3
    have u2 := unfrozen0 hh3 2
    clear hh3
    simp only [Act.put, List.setIfInBounds_toArray, List.set_cons_zero, List.set_cons_succ]
    repeat (first | ((with_reducible refine wpO_skip ?_ ?_); rfl; simp only [Act.put, List.setIfInBounds_toArray, List.set_cons_zero, List.set_cons_succ]) | ((with_reducible refine wpO_step (fun K hK => ?_)); go_simp; (try go_bits); (first | (with_reducible refine hK _ _ ?_) | (simp only [IntWalk.iteOmega]; go_simp; (try go_bits); (with_reducible refine hK _ _ ?_))); clear hK K))
    (with_reducible refine wpO_nil ?_)
    go_wp2
    go_ret
    exact WayRes.yes HF.out rfl (by first | rfl | simp) HFIN.out
  · have HF : Hid (way1F k e = none) := if_neg h8
    unfold entV
    go_enter Tryz.func99, Tryz.ntmps99
    go_wp2
    go_ret
    refine WayRes.no HF.out rfl (by simp; omega) (below_new (Below.refl _ w) _)
end Go.Proofs.Tc
