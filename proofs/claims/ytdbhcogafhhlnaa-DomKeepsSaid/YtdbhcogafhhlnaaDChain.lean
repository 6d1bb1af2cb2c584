/- DomChain: a chain of nodes, plain. -/
import Derived.Test.YtdbhcogafhhlnaaDLaw1
namespace Go.Proofs.Ytdbhcogafhhlnaa
open Go.RowKit Go.Maps Go.ChangeShapes Go.WideShapes Go.ChangeAt Go.WideMaps Go.WideElems

def chE (k : Nat) : List ElD := (List.range k).map fun j : Nat => ⟨nil0 ((j : Int) - 1), if j + 1 < k then [(j : Int) + 1] else [], (j : Int), 1, -1⟩
theorem chE_len (k : Nat) : (chE k).length = k := by simp [chE]
theorem chE_at {k j : Nat} (h : j < k) : (chE k)[j]? = some ⟨nil0 ((j : Int) - 1), if j + 1 < k then [(j : Int) + 1] else [], (j : Int), 1, -1⟩ := by
  unfold chE
  rw [List.getElem?_map, List.getElem?_range h]
  rfl
theorem ch_step (k : Nat) (hk : k ≤ 256) : stepP (chE k) (nil0 ((k : Int) - 1)) = .inr (chE (k + 1)) := by
  have hb : ¬ badP (chE k).length (nil0 ((k : Int) - 1)).par := by
    rw [chE_len]
    show ¬ badP k ((k : Int) - 1)
    unfold badP; omega
  unfold stepP
  rw [if_neg hb]
  cases k with
  | zero => rfl
  | succ m =>
    have hp : (nil0 (((m + 1 : Nat) : Int) - 1)).par.toNat = m := by
      show (((m + 1 : Nat) : Int) - 1).toNat = m
      omega
    rw [hp, chE_at (Nat.lt_succ_self m)]
    simp only
    rw [if_neg (by omega), if_neg (by omega)]
    congr 1
    apply List.ext_getElem?
    intro i
    have hl : ((chE (m + 1)).set m { nd := nil0 ((m : Int) - 1), kids := [] ++ [((chE (m + 1)).length : Int)], dep := (m : Int), plc := 1, bef := -1 }).length = m + 1 := by rw [List.length_set, chE_len]
    unfold kidE
    rcases Nat.lt_trichotomy i (m + 1) with h | h | h
    · rw [List.getElem?_append_left (by rw [hl]; exact h), List.getElem?_set, chE_at (show i < m + 1 + 1 by omega)]
      by_cases e : m = i
      · subst e
        rw [if_pos rfl, if_pos (by rw [chE_len]; omega), if_pos (by omega), chE_len]
        simp
      · rw [if_neg e, chE_at h, if_pos (by omega), if_pos (by omega)]
    · subst h
      rw [List.getElem?_append_right (by rw [hl]; exact Nat.le_refl _), hl, Nat.sub_self, chE_at (Nat.lt_succ_self _), if_neg (by omega)]
      simp [newE]
    · rw [List.getElem?_eq_none (by rw [List.length_append, hl]; simp; omega), List.getElem?_eq_none (by rw [chE_len]; omega)]

def chD (k n : Nat) : List NodeD := (List.range' k n).map fun j : Nat => nil0 ((j : Int) - 1)
theorem chD_succ (k n : Nat) : chD k (n + 1) = nil0 ((k : Int) - 1) :: chD (k + 1) n := by simp [chD, List.range'_succ]
theorem chD_len (k n : Nat) : (chD k n).length = n := by simp [chD]
theorem chD_snoc (n : Nat) : chD 0 (n + 1) = chD 0 n ++ [nil0 ((n : Int) - 1)] := by
  unfold chD
  rw [List.range'_concat, List.map_append]
  simp
theorem ch_run (n k : Nat) (hk : k + n ≤ 257) (r : List NodeD) : runP (chE k) (chD k n ++ r) = runP (chE (k + n)) r := by
  induction n generalizing k with
  | zero => rfl
  | succ n ih =>
    rw [chD_succ, List.cons_append]
    simp only [runP, ch_step k (by omega)]
    rw [ih (k + 1) (by omega)]
    congr 2
    omega
theorem ch_new (n : Nat) (h : n ≤ 257) : newR (chD 0 n) = .inr (chE n) := by
  have := ch_run n 0 (by omega) []
  unfold newR
  rw [chD_len, if_neg (by omega)]
  rw [List.append_nil, Nat.zero_add] at this
  exact this
theorem ch_deep (n : Nat) (h : 257 < n) (h2 : n ≤ 300) : newR (chD 0 n) = .inl 11 := by
  unfold newR
  rw [chD_len, if_neg (by omega)]
  obtain ⟨m, rfl⟩ : ∃ m, n = 257 + (m + 1) := ⟨n - 258, by omega⟩
  have hs : chD 0 (257 + (m + 1)) = chD 0 257 ++ chD 257 (m + 1) := by
    unfold chD
    rw [← List.map_append, ← List.range'_append_1]
  rw [hs]
  have := ch_run 257 0 (by omega) (chD 257 (m + 1))
  rw [show ([] : List ElD) = chE 0 from rfl, this, chD_succ]
  have hst : stepP (chE (0 + 257)) (nil0 (((257 : Nat) : Int) - 1)) = .inl 11 := by
    unfold stepP
    rw [if_neg (by rw [chE_len]; show ¬ badP 257 (((257 : Nat) : Int) - 1); unfold badP; omega)]
    have hp : (nil0 (((257 : Nat) : Int) - 1)).par.toNat = 256 := rfl
    rw [hp, chE_at (by omega)]
    rfl
  simp only [runP, hst]
theorem ch_more (n : Nat) (h1 : 1 ≤ n) (h : n ≤ 257) (d : NodeD) (hd : d.par = (n : Int)) : newR (chD 0 n ++ [d]) = .inl 10 := by
  unfold newR
  rw [List.length_append, chD_len, if_neg (by simp; omega)]
  have := ch_run n 0 (by omega) [d]
  rw [show ([] : List ElD) = chE 0 from rfl, this]
  have hst : stepP (chE (0 + n)) d = .inl 10 := by
    unfold stepP
    rw [if_pos (by rw [chE_len, hd]; unfold badP; omega)]
  simp only [runP, hst]
theorem ch_dep (m : Nat) : (eltAt (chE (m + 1)) (m : Int)).dep = (m : Int) ∧ (eltAt (chE (m + 1)) (m : Int)).kids = [] := by
  rw [eltAt_in (chE_at (Nat.lt_succ_self m)), if_neg (by omega)]
  exact ⟨rfl, rfl⟩
end Go.Proofs.Ytdbhcogafhhlnaa
