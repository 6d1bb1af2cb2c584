/- A tree's elements told by the nodes alone: parents, children, places, what stands ahead, depths. Plain. -/
import Derived.Test.YtdbhcogafhhlnaaDInv
namespace Go.Proofs.Ytdbhcogafhhlnaa
open Go.RowKit Go.Maps Go.ChangeShapes Go.WideShapes Go.ChangeAt Go.WideMaps Go.WideElems

/-- The parent of the j-th node. -/
def parN (ds : List NodeD) (j : Nat) : Int := (ds[j]?.map NodeD.par).getD (-2)
theorem parN_at {ds : List NodeD} {j : Nat} {d : NodeD} (h : ds[j]? = some d) : parN ds j = d.par := by unfold parN; rw [h]; rfl
/-- Those of the first k nodes whose parent is p. -/
def kidN (ds : List NodeD) (p : Int) (k : Nat) : List Nat := (List.range k).filter fun j => parN ds j == p
def kidL (ds : List NodeD) (p : Int) (k : Nat) : List Int := (kidN ds p k).map fun (j : Nat) => (j : Int)
theorem kidN_succ (ds : List NodeD) (p : Int) (k : Nat) : kidN ds p (k + 1) = kidN ds p k ++ (if parN ds k = p then [k] else []) := by
  unfold kidN
  rw [List.range_succ, List.filter_append]
  by_cases h : parN ds k = p
  · simp [h]
  · simp [h]
theorem kidL_yes {ds : List NodeD} {p : Int} {k : Nat} (h : parN ds k = p) : kidL ds p (k + 1) = kidL ds p k ++ [(k : Int)] := by
  unfold kidL; rw [kidN_succ, if_pos h, List.map_append]; rfl
theorem kidL_no {ds : List NodeD} {p : Int} {k : Nat} (h : parN ds k ≠ p) : kidL ds p (k + 1) = kidL ds p k := by
  unfold kidL; rw [kidN_succ, if_neg h, List.append_nil]
theorem kidN_lt {ds : List NodeD} {p : Int} {k j : Nat} (h : j ∈ kidN ds p k) : j < k ∧ parN ds j = p := by
  unfold kidN at h
  rw [List.mem_filter, List.mem_range] at h
  exact ⟨h.1, by simpa using h.2⟩
theorem mem_kidN {ds : List NodeD} {p : Int} {k j : Nat} (h : j < k) (hp : parN ds j = p) : j ∈ kidN ds p k := by
  unfold kidN
  rw [List.mem_filter, List.mem_range]
  exact ⟨h, by simpa using hp⟩
theorem kidN_len (ds : List NodeD) (p : Int) (k : Nat) : (kidN ds p k).length ≤ k := by
  unfold kidN
  have := List.length_filter_le (fun j => parN ds j == p) (List.range k)
  simpa using this
theorem kidL_len (ds : List NodeD) (p : Int) (k : Nat) : (kidL ds p k).length ≤ k := by unfold kidL; rw [List.length_map]; exact kidN_len ds p k
theorem kidN_none {ds : List NodeD} {p : Int} {k : Nat} (h : ∀ j, j < k → parN ds j ≠ p) : kidN ds p k = [] := by
  unfold kidN
  rw [List.filter_eq_nil_iff]
  intro j hj
  simpa using h j (List.mem_range.1 hj)
theorem kidL_none {ds : List NodeD} {p : Int} {k : Nat} (h : ∀ j, j < k → parN ds j ≠ p) : kidL ds p k = [] := by unfold kidL; rw [kidN_none h]; rfl

/-- Parents stand ahead. -/
def Good (ds : List NodeD) (k : Nat) : Prop := ∀ j, j < k → (j = 0 → parN ds j = -1) ∧ (0 < j → 0 ≤ parN ds j ∧ parN ds j < j)

/-- The elements of the first k nodes. -/
structure VE (ds : List NodeD) (k : Nat) (els : List ElD) : Prop where
  len : els.length = k
  at_ : ∀ (e : Nat) x, els[e]? = some x → ds[e]? = some x.nd ∧ x.kids = kidL ds (e : Int) k ∧ x.plc = ((kidL ds (parN ds e) e).length : Int) + 1 ∧ x.bef = (kidL ds (parN ds e) e).getLastD (-1)
  dep : els.map ElD.dep = R.dps ds k
  good : Good ds k

theorem VE.nil (ds : List NodeD) : VE ds 0 [] := ⟨rfl, fun e x h => by simp at h, rfl, fun j h => by omega⟩
theorem VE.step {ds : List NodeD} {k : Nat} {els els' : List ElD} {d : NodeD} (h : VE ds k els) (hd : ds[k]? = some d) (hs : stepP els d = .inr els') : VE ds (k + 1) els' := by
  have hpar := parN_at hd
  have hl := h.len
  by_cases hb : badP els.length d.par
  · rw [stepP_bad hb] at hs; cases hs
  rcases Nat.eq_zero_or_pos els.length with h0 | h0
  · rw [stepP_root hb h0] at hs
    cases hs
    have hk : k = 0 := by omega
    subst hk
    have hp : d.par = -1 := by unfold badP at hb; omega
    refine ⟨rfl, fun e x hx => ?_, ?_, fun j hj => ?_⟩
    · cases e with
      | zero =>
        simp at hx
        subst hx
        refine ⟨hd, ?_, ?_, ?_⟩
        · show [] = kidL ds ((0 : Nat) : Int) 1
          rw [kidL_none]
          intro j hj
          have : j = 0 := by omega
          subst this
          rw [hpar, hp]
          decide
        · rfl
        · rfl
      | succ e => simp at hx
    · rfl
    · have : j = 0 := by omega
      subst this
      rw [hpar]
      exact ⟨fun _ => hp, fun h => by omega⟩
  · obtain ⟨p, x, hp, hx, hst⟩ := stepP_kid hb h0
    rw [hst] at hs
    split at hs
    · cases hs
    cases hs
    have hpl := (List.getElem?_eq_some_iff.1 hx).1
    have hkl := kidE_len els p x
    have hpk : p < k := by omega
    have hgood : Good ds (k + 1) := by
      intro j hj
      by_cases e : j < k
      · exact h.good j e
      · have : j = k := by omega
        subst this
        rw [hpar, hp]
        exact ⟨fun h => by omega, fun _ => by omega⟩
    refine ⟨by simp [hkl, hl], fun e z hz => ?_, ?_, hgood⟩
    · rcases Nat.lt_trichotomy e els.length with he | he | he
      · rw [List.getElem?_append_left (by rw [hkl]; exact he)] at hz
        unfold kidE at hz
        rw [List.getElem?_set] at hz
        by_cases ep : p = e
        · subst ep
          rw [if_pos rfl, if_pos hpl] at hz
          cases hz
          obtain ⟨a, b, c, e5⟩ := h.at_ p x hx
          refine ⟨a, ?_, c, e5⟩
          simp only
          rw [kidL_yes (hpar.trans hp), b, hl]
        · rw [if_neg ep] at hz
          obtain ⟨a, b, c, e5⟩ := h.at_ e z hz
          refine ⟨a, ?_, c, e5⟩
          rw [b, kidL_no]
          rw [hpar, hp]
          omega
      · subst he
        rw [List.getElem?_append_right (by rw [hkl]; exact Nat.le_refl _), hkl, Nat.sub_self] at hz
        simp at hz
        subst hz
        obtain ⟨a, b, c, e5⟩ := h.at_ p x hx
        have hpp : parN ds els.length = (p : Int) := by rw [hl, hpar, hp]
        refine ⟨by rw [hl]; exact hd, ?_, ?_, ?_⟩
        · show [] = kidL ds ((els.length : Nat) : Int) (k + 1)
          rw [kidL_none]
          intro j hj
          have := hgood j hj
          rcases Nat.eq_zero_or_pos j with e | e
          · rw [this.1 e]; omega
          · have := this.2 e; omega
        · show (x.kids.length : Int) + 1 = _
          rw [hpp, b, hl]
        · show x.kids.getLastD (-1) = _
          rw [hpp, b, hl]
      · rw [List.getElem?_eq_none (by rw [List.length_append, hkl]; simp; omega)] at hz
        cases hz
    · rw [R.dps_succ, List.map_append, kidE_dep hx, h.dep]
      congr 1
      show [x.dep + 1] = _
      unfold R.dpAt
      rw [if_neg (by omega), show (ds[k]?.map NodeD.par).getD 0 = d.par by rw [hd]; rfl, hp, Int.toNat_natCast, ← h.dep, List.getD_eq_getElem?_getD, List.getElem?_map, hx]
      rfl
theorem VE.run (ds : List NodeD) (n k : Nat) (els els' : List ElD) (hn : k + n = ds.length) (h : VE ds k els) (hs : runP els (ds.drop k) = .inr els') : VE ds ds.length els' := by
  induction n generalizing k els with
  | zero =>
    rw [show k = ds.length by omega, List.drop_length] at hs
    cases hs
    rw [show k = ds.length by omega] at h
    exact h
  | succ n ih =>
    have hk : k < ds.length := by omega
    have hdd : ds[k]? = some ds[k] := List.getElem?_eq_getElem hk
    rw [List.drop_eq_getElem_cons hk] at hs
    simp only [runP] at hs
    cases hst : stepP els ds[k] with
    | inl m => rw [hst] at hs; cases hs
    | inr e2 =>
      rw [hst] at hs
      exact ih (k + 1) e2 (by omega) (h.step hdd hst) hs
theorem new_view {ds : List NodeD} {els : List ElD} (hs : newR ds = .inr els) : VE ds ds.length els := by
  unfold newR at hs
  split at hs
  · cases hs
  · exact VE.run ds ds.length 0 [] els (by omega) (VE.nil ds) (by simpa using hs)
end Go.Proofs.Ytdbhcogafhhlnaa
