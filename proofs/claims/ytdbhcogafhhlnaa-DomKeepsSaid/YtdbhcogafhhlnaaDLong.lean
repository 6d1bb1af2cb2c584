/- DomLong: a star of nodes; the walk. -/
import Derived.Test.YtdbhcogafhhlnaaDLaw1
import Derived.OwnWalk
namespace Go.Proofs.Ytdbhcogafhhlnaa
open Go.RowKit Go.Maps Go.ChangeShapes Go.WideShapes Go.ChangeAt Go.WideMaps Go.WideElems

def starE : Nat → List ElD
  | 0 => []
  | k + 1 => ⟨nil0 (-1), (List.range k).map (fun j : Nat => (j : Int) + 1), 0, 1, -1⟩ :: (List.range k).map fun j : Nat => ⟨nil0 0, [], 1, (j : Int) + 1, if j = 0 then -1 else (j : Int)⟩
theorem starE_len (k : Nat) : (starE k).length = k := by cases k <;> simp [starE]

theorem star_last (k : Nat) : ((List.range k).map (fun j : Nat => (j : Int) + 1)).getLastD (-1) = if k = 0 then -1 else (k : Int) := by
  cases k with
  | zero => rfl
  | succ m =>
    rw [List.range_succ, List.map_append]
    simp
theorem star_step (k : Nat) : stepP (starE (k + 1)) (nil0 0) = .inr (starE (k + 2)) := by
  have hb : ¬ badP (starE (k + 1)).length (nil0 0).par := by
    rw [starE_len]
    show ¬ badP (k + 1) 0
    unfold badP; omega
  have hx : (starE (k + 1))[(nil0 0).par.toNat]? = some ⟨nil0 (-1), (List.range k).map (fun j : Nat => (j : Int) + 1), 0, 1, -1⟩ := rfl
  unfold stepP
  rw [if_neg hb, hx]
  simp only
  rw [if_neg (by omega)]
  congr 1
  have hl := starE_len (k + 1)
  unfold kidE newE
  rw [hl]
  simp only [star_last]
  show ((starE (k + 1)).set 0 _) ++ _ = starE (k + 2)
  simp only [starE, List.set_cons_zero, List.cons_append, List.length_map, List.length_range]
  rw [List.range_succ, List.map_append, List.map_append]
  simp

theorem star_run (m k : Nat) : runP (starE (k + 1)) (List.replicate m (nil0 0)) = .inr (starE (k + 1 + m)) := by
  induction m generalizing k with
  | zero => rfl
  | succ m ih =>
    rw [List.replicate_succ]
    simp only [runP, star_step]
    rw [ih (k + 1)]
    congr 2
    omega
def starD (m : Nat) : List NodeD := nil0 (-1) :: List.replicate m (nil0 0)
theorem starD_len (m : Nat) : (starD m).length = m + 1 := by simp [starD]
theorem star_new (m : Nat) (h : m + 1 ≤ 4096) : newR (starD m) = .inr (starE (m + 1)) := by
  unfold newR
  rw [starD_len, if_neg (by omega)]
  have h0 : stepP [] (nil0 (-1)) = .inr (starE 1) := by rfl
  simp only [starD, runP, h0]
  rw [star_run]
  congr 2
  omega
theorem star_long (m : Nat) (h : 4096 < m + 1) : newR (starD m) = .inl 3 := by
  unfold newR
  rw [starD_len, if_pos h]
theorem star_kids (m : Nat) : (eltAt (starE (m + 1)) 0).kids.length = m := by
  rw [show (0 : Int) = ((0 : Nat) : Int) from rfl, eltAt_in (k := 0) (x := ⟨nil0 (-1), (List.range m).map (fun j : Nat => (j : Int) + 1), 0, 1, -1⟩) rfl]
  simp
theorem star_plc (m : Nat) : (eltAt (starE (m + 1 + 1)) ((m : Int) + 1)).plc = (m : Int) + 1 := by
  have : (starE (m + 1 + 1))[m + 1]? = some ⟨nil0 0, [], 1, (m : Int) + 1, if m = 0 then -1 else (m : Int)⟩ := by
    simp only [starE, List.getElem?_cons_succ]
    rw [List.getElem?_map, List.getElem?_range (by omega)]
    rfl
  rw [show (m : Int) + 1 = ((m + 1 : Nat) : Int) by omega, eltAt_in this]
  simp

theorem made_at (z : Array Value) (N j : Nat) (hj : j < N) : (madeCells z N)[j]? = some (z[j % z.size]!) := by
  unfold madeCells
  rw [Array.getElem?_map, Array.getElem?_range]
  simp [hj]

def Z5 : Array Value := #[.int .i64 0, .string ⟨#[]⟩, .string ⟨#[]⟩, .slice none 0 0, .slice none 0 0]
theorem info25 : (Try.prog.info? 25).map (fun i => (i.zero, i.size, i.bytes)) = some (some (.agg #[.int .i64 0, .string ⟨#[]⟩, .string ⟨#[]⟩, .slice none 0 0, .slice none 0 0]), 5, 88) := by kernel_rfl

theorem star_rd {w : World} {g n : Nat} {cur : Array Value} (m : Nat) (hn : n = (m + 1) * 5) (hb : w.heap[g]? = some (.cells (cur.setIfInBounds 0 (.int .i64 (-1))) 25 (0, 0))) (hc : ∀ j, j < n → cur[j]? = (madeCells Z5 n)[j]?) : RdNs w (some ⟨g, 0, none⟩) (starD m) := by
  intro k d hk
  have hkm : k < m + 1 := by rw [← starD_len m]; exact (List.getElem?_eq_some_iff.1 hk).1
  have at_ : ∀ i, i < 5 → 0 < k * 5 + i → w.cell? ⟨g, k * 5 + i, none⟩ = some (Z5[i]!) := by
    intro i hi h0
    rw [cellOf hb, Array.getElem?_setIfInBounds_ne (by omega), hc _ (by omega), made_at _ _ _ (by omega)]
    rw [show (k * 5 + i) % Z5.size = i from by show (k * 5 + i) % 5 = i; omega]
  have h0 : w.cell? ⟨g, 0, none⟩ = some (.int .i64 (-1)) := by
    rw [cellOf hb, Array.getElem?_setIfInBounds_self]
    have := hc 0 (by omega)
    rw [made_at _ _ _ (by omega)] at this
    rw [if_pos (Array.getElem?_eq_some_iff.1 this).1]
  have e1 := at_ 1 (by omega) (by omega)
  have e2 := at_ 2 (by omega) (by omega)
  have e3 := at_ 3 (by omega) (by omega)
  have e4 := at_ 4 (by omega) (by omega)
  have hd : d = nil0 (if k = 0 then -1 else 0) := by
    cases k with
    | zero => simp [starD] at hk; rw [← hk]; rfl
    | succ k =>
      simp only [starD, List.getElem?_cons_succ] at hk
      rw [List.getElem?_replicate, if_pos (by omega)] at hk
      cases hk
      rfl
  subst hd
  refine ⟨g, 0, none, 0, none, 0, rfl, ltOf hb, ?_, by rw [Nat.zero_add]; exact e1, by rw [Nat.zero_add]; exact e2, by rw [Nat.zero_add]; exact e3, by rw [Nat.zero_add]; exact e4, RdNd.nil0 _ _⟩
  rcases Nat.eq_zero_or_pos k with hz | hz
  · subst hz; exact h0
  · rw [if_neg (by omega), Nat.zero_add]
    exact at_ 0 (by omega) (by omega)
end Go.Proofs.Ytdbhcogafhhlnaa
