/- The order of all elements, as DomOrder asks for it: plain. -/
import Derived.Test.YtdbhcogafhhlnaaDAll
namespace Go.Proofs.Ytdbhcogafhhlnaa
open Go.RowKit Go.Maps Go.ChangeShapes Go.WideShapes Go.ChangeAt Go.WideMaps Go.WideElems

theorem idx_at {l : List Nat} (hn : l.Nodup) {i x : Nat} (h : l[i]? = some x) : l.idxOf x = i := by
  obtain ⟨hi, hx⟩ := List.getElem?_eq_some_iff.1 h
  have := List.Nodup.idxOf_getElem hn i hi
  rw [hx] at this
  exact this
theorem idx_get {l : List Nat} {x : Nat} (h : x ∈ l) : l[l.idxOf x]? = some x := by
  have hl := List.idxOf_lt_length_of_mem h
  rw [List.getElem?_eq_getElem hl, List.getElem_idxOf hl]
theorem pair_lt {R : Nat → Nat → Prop} {l : List Nat} (hp : l.Pairwise R) {x y : Nat} (hx : x ∈ l) (hy : y ∈ l) (hne : x ≠ y) (h : ¬ R y x) : l.idxOf x < l.idxOf y := by
  have hlx := List.idxOf_lt_length_of_mem hx
  have hly := List.idxOf_lt_length_of_mem hy
  rcases Nat.lt_trichotomy (l.idxOf x) (l.idxOf y) with hh | hh | hh
  · exact hh
  · exfalso
    have h1 := idx_get hx
    have h2 := idx_get hy
    rw [hh, h2] at h1
    exact hne (Option.some.inj h1).symm
  · exfalso
    have := List.pairwise_iff_getElem.1 hp _ _ hly hlx hh
    rw [List.getElem_idxOf, List.getElem_idxOf] at this
    exact h this

/-- Where each element came, of the first i: one more than its place; 0: not yet. -/
def atL (ds : List NodeD) (i : Nat) : List Int := (List.range ds.length).map fun x => if x ∈ (allN ds).take i then ((allN ds).idxOf x : Int) + 1 else 0
theorem atL_len (ds : List NodeD) (i : Nat) : (atL ds i).length = ds.length := by simp [atL]
theorem atL_get (ds : List NodeD) (i x : Nat) (h : x < ds.length) : (atL ds i)[x]? = some (if x ∈ (allN ds).take i then ((allN ds).idxOf x : Int) + 1 else 0) := by
  unfold atL
  rw [List.getElem?_map, List.getElem?_range h]
  rfl
theorem atL_0 (ds : List NodeD) : atL ds 0 = List.replicate ds.length 0 := by
  apply List.ext_getElem?
  intro x
  by_cases h : x < ds.length
  · rw [atL_get ds 0 x h, List.getElem?_replicate, if_pos h]
    simp
  · rw [List.getElem?_eq_none (by rw [atL_len]; omega), List.getElem?_eq_none (by simp; omega)]
section
variable {ds : List NodeD} (hg : Good ds ds.length) (h0 : 0 < ds.length)
include hg h0
theorem all_nd : (allN ds).Nodup := by
  have := (allN_spec hg h0).nd
  simpa using this
theorem all_lt {i x : Nat} (h : (allN ds)[i]? = some x) : x < ds.length := (allN_spec hg h0).lt x (by simp [List.mem_of_getElem? h])
theorem all_mem {x : Nat} (h : x < ds.length) : x ∈ allN ds := (allN_spec hg h0).full hg x h
theorem atL_new {i x : Nat} (h : (allN ds)[i]? = some x) : (atL ds i)[x]? = some 0 := by
  rw [atL_get ds i x (all_lt hg h0 h), if_neg]
  intro hm
  obtain ⟨j, hj, hx⟩ := List.getElem_of_mem hm
  rw [List.getElem_take] at hx
  simp at hj
  have h1 := idx_at (all_nd hg h0) h
  have h2 := idx_at (all_nd hg h0) (i := j) (x := x) (by rw [List.getElem?_eq_getElem (by omega), hx])
  omega
theorem atL_step {i x : Nat} (h : (allN ds)[i]? = some x) : (atL ds i).set x ((i : Int) + 1) = atL ds (i + 1) := by
  have hx := all_lt hg h0 h
  have hix := idx_at (all_nd hg h0) h
  apply List.ext_getElem?
  intro y
  by_cases hy : y < ds.length
  · rw [List.getElem?_set, atL_get ds (i + 1) y hy, atL_get ds i y hy]
    have ht : (allN ds).take (i + 1) = (allN ds).take i ++ [x] := by rw [List.take_add_one, h]; rfl
    rw [ht]
    by_cases e : x = y
    · subst e
      rw [if_pos rfl, if_pos (by rw [atL_len]; exact hx), if_pos (by simp), hix]
    · rw [if_neg e]
      congr 1
      have : (y ∈ (allN ds).take i ++ [x]) ↔ y ∈ (allN ds).take i := by
        simp only [List.mem_append, List.mem_singleton]
        exact ⟨fun hh => hh.elim id (fun hh => absurd hh.symm e), .inl⟩
      simp only [this]
  · rw [List.getElem?_eq_none (by simp [atL_len]; omega), List.getElem?_eq_none (by rw [atL_len]; omega)]
theorem atL_end {x : Nat} (h : x < ds.length) : (atL ds ds.length)[x]? = some (((allN ds).idxOf x : Int) + 1) := by
  rw [atL_get ds _ x h, List.take_of_length_le (by rw [allN_len hg h0]; exact Nat.le_refl _), if_pos (all_mem hg h0 h)]
/-- A parent comes ahead of its children. -/
theorem par_ahead {e p : Nat} (he : e < ds.length) (hp : parN ds e = (p : Int)) : (allN ds).idxOf p < (allN ds).idxOf e := by
  have hpe : p < e := by
    have := hg e he
    rcases Nat.eq_zero_or_pos e with h | h
    · rw [this.1 h] at hp; omega
    · have := this.2 h; omega
  exact pair_lt (allN_spec hg h0).ord (all_mem hg h0 (by omega)) (all_mem hg h0 he) (by omega) (fun h => h.1 hp)
/-- An elder child comes ahead of a younger one. -/
theorem bro_ahead {e b : Nat} (he : e < ds.length) (hb : b < e) (hp : parN ds b = parN ds e) : (allN ds).idxOf b < (allN ds).idxOf e :=
  pair_lt (allN_spec hg h0).ord (all_mem hg h0 (by omega)) (all_mem hg h0 he) (by omega) (fun h => by have := h.2 hp.symm; omega)
end
/-- The last child ahead. -/
theorem kid_last (ds : List NodeD) (p : Int) (k : Nat) : kidN ds p k = [] ∨ ∃ b, b < k ∧ parN ds b = p ∧ kidN ds p k = kidN ds p b ++ [b] := by
  induction k with
  | zero => exact .inl rfl
  | succ k ih =>
    rw [kidN_succ]
    by_cases h : parN ds k = p
    · rw [if_pos h]
      exact .inr ⟨k, by omega, h, rfl⟩
    · rw [if_neg h, List.append_nil]
      rcases ih with h1 | ⟨b, h1, h2, h3⟩
      · exact .inl h1
      · exact .inr ⟨b, by omega, h2, h3⟩
theorem kidL_last (ds : List NodeD) (p : Int) (k : Nat) : kidL ds p k = [] ∨ ∃ b : Nat, b < k ∧ parN ds b = p ∧ kidL ds p k = kidL ds p b ++ [(b : Int)] := by
  unfold kidL
  rcases kid_last ds p k with h | ⟨b, h1, h2, h3⟩
  · exact .inl (by rw [h]; rfl)
  · exact .inr ⟨b, h1, h2, by rw [h3, List.map_append]; rfl⟩
end Go.Proofs.Ytdbhcogafhhlnaa
