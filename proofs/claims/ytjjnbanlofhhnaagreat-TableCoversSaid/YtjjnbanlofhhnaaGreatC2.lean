import Derived.Test.YtjjnbanlofhhnaaGreatC1
namespace Go.Proofs.Tc
open Go.RowKit Go.Sort
attribute [local go_sem] stepO_0 stepO_1 stepO_2 stepO_3

def entV (e : Ent) : Value := .agg #[.string e.nd.id, .int .i64 e.nd.fam, .string e.nd.ip, .int .i64 e.nd.port, .int .i64 e.kd, .int .i64 e.an, .int .i64 e.ak, .int .i64 e.fl]
def ndV (n : Nd) : Value := .agg #[.string n.id, .int .i64 n.fam, .string n.ip, .int .i64 n.port]
/-- Entry number k of a list in block g. -/
structure EntAt (w : World) (g k : Nat) (e : Ent) : Prop where
  c0 : w.cell? ⟨g, k * 8, none⟩ = some (.string e.nd.id)
  c1 : w.cell? ⟨g, k * 8 + 1, none⟩ = some (.int .i64 e.nd.fam)
  c2 : w.cell? ⟨g, k * 8 + 2, none⟩ = some (.string e.nd.ip)
  c3 : w.cell? ⟨g, k * 8 + 3, none⟩ = some (.int .i64 e.nd.port)
  c4 : w.cell? ⟨g, k * 8 + 4, none⟩ = some (.int .i64 e.kd)
  c5 : w.cell? ⟨g, k * 8 + 5, none⟩ = some (.int .i64 e.an)
  c6 : w.cell? ⟨g, k * 8 + 6, none⟩ = some (.int .i64 e.ak)
  c7 : w.cell? ⟨g, k * 8 + 7, none⟩ = some (.int .i64 e.fl)
theorem OwnE.at {w : World} {g n cap : Nat} {es : List Ent} (h : Own w 60 8 (.slice (some ⟨g, 0, none⟩) n cap) n (evs es)) {k : Nat} {e : Ent} (he : es[k]? = some e) : EntAt w g k e := by
  have hg : ∀ j, j < 8 → ∀ u, e.vals[j]? = some u → w.cell? ⟨g, k * 8 + j, none⟩ = some u := fun j hj u hu => h.cell rfl (by rw [evs_get he hj]; exact hu)
  exact ⟨hg 0 (by omega) _ rfl, hg 1 (by omega) _ rfl, hg 2 (by omega) _ rfl, hg 3 (by omega) _ rfl, hg 4 (by omega) _ rfl, hg 5 (by omega) _ rfl, hg 6 (by omega) _ rfl, hg 7 (by omega) _ rfl⟩

/-- The place of the first one that p takes; -1. -/
def idxF {α : Type} (p : α → Bool) (l : List α) : Int := match l.findIdx? p with | some i => i | none => -1
theorem idxF_hit {α : Type} {p : α → Bool} {l : List α} {k : Nat} {e : α} (h : ∀ j x, j < k → l[j]? = some x → p x = false) (he : l[k]? = some e) (hp : p e = true) : idxF p l = k := by
  obtain ⟨hk, rfl⟩ := List.getElem?_eq_some_iff.1 he
  have : l.findIdx? p = some k := by
    rw [List.findIdx?_eq_some_iff_getElem]
    refine ⟨hk, hp, fun j hj => ?_⟩
    have := h j (l[j]) hj (List.getElem?_eq_getElem (by omega))
    simp [this]
  simp [idxF, this]
theorem idxF_none {α : Type} {p : α → Bool} {l : List α} (h : ∀ j x, j < l.length → l[j]? = some x → p x = false) : idxF p l = -1 := by
  have : l.findIdx? p = none := by
    rw [List.findIdx?_eq_none_iff]
    intro x hx
    obtain ⟨j, hj, rfl⟩ := List.mem_iff_getElem.1 hx
    exact h j _ hj (List.getElem?_eq_getElem hj)
  simp [idxF, this]

set_option maxRecDepth 100000 in
/-- slices.IndexFunc over entries. -/
theorem indexE_calls (w : World) (v : Value) (es : List Ent) (ho : OwnE w v es) (fid : Nat) (caps : Array Value) (p : Ent → Bool)
    (eg : ∀ args w, (callFunc fid args).run Tryz.prog w = .ok (.enter fid args) w)
    (hp : ∀ W, Below w.heap.size w W → ∀ e ∈ es, Calls Tryz.prog fid (#[entV e] ++ caps) W (Ret W (.bool (p e)))) :
    Calls Tryz.prog 66 #[v, .func (.func fid) #[] caps] w (Ret w (.int .i64 (idxF p es))) := by
  obtain ⟨a, cap, rfl, hle, hmx⟩ := ho.shape
  unfold maxLen at hmx
  have HO := Lib.hid ho
  have HP := Lib.hid hp
  clear ho hp
  go_enter Tryz.func66, Tryz.ntmps66
  go_wp2
  go_loopw [8] (fun i wr => ∃ k : Nat, k ≤ es.length ∧ i = .int .i64 k ∧ Hid (∀ j x, j < k → es[j]? = some x → p x = false) ∧ Below w.heap.size w wr) (fun i _ => es.length - (intOf i).toNat)
  case atStart => exact ⟨0, by omega, rfl, fun j x hj => by omega, Below.refl _ _⟩
  case round =>
    obtain ⟨k, hk, rfl, hne, hB⟩ := hrel
    by_cases hlt : k < es.length
    · obtain ⟨e, he⟩ : ∃ e, es[k]? = some e := ⟨es[k], List.getElem?_eq_getElem hlt⟩
      obtain ⟨g, cap', hv, _, _, _, _⟩ := HO.out.row (by omega)
      injection hv with ha _ hcap
      subst ha hcap
      obtain ⟨c0, c1, c2, c3, c4, c5, c6, c7⟩ := (OwnE.at (HO.out.ext hB) he)
      have hpe := HP.out wr hB e (List.mem_of_getElem? he)
      have HE := Lib.hid he
      clear he
      cases hpv : p e with
      | true =>
        rw [hpv] at hpe
        have HV := Lib.hid hpv
        clear hpv
        go_wp2_with (refine hpe.mono ?_; rintro e2 w2 ⟨rfl, hb2⟩)
        go_ret
        refine Ret.int rfl (idxF_hit hne HE.out HV.out).symm (below_ext hB hb2)
      | false =>
        rw [hpv] at hpe
        have HV := Lib.hid hpv
        clear hpv
        go_wp2_with (refine hpe.mono ?_; rintro e2 w2 ⟨rfl, hb2⟩)
        go_roundw
        case rel =>
          refine ⟨k + 1, by omega, by go_num, fun j x hj hx => ?_, below_ext hB hb2⟩
          by_cases hjk : j = k
          · subst hjk
            have := HE.out.symm.trans hx
            injection this with this
            subst this
            exact HV.out
          · exact hne.out j x (by omega) hx
        case measure => simp [intOf]; omega
    · obtain rfl : k = es.length := by omega
      go_wp2
      go_ret
      exact Ret.int rfl (idxF_none hne.out).symm hB
end Go.Proofs.Tc
