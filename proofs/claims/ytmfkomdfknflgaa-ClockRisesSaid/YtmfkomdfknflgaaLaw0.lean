/- Clock: plain laws. -/
import Derived.Test.YtmfkomdfknflgaaDoW
namespace Go.Proofs.Ytmfkomdfknflgaa

def newG (n : Nat) : LG := ⟨n, fun _ _ => 0, fun _ _ => 0, fun _ => none, []⟩
def nW (z : Int) : Nat := (min (max 0 z) 64).toNat
theorem celOf_new (n : Nat) (z : Int) : celOf (newG n) z = zCel := rfl
theorem celOf_do (g : LG) (a : Acc) (z : Int) : celOf (doN g a) z = if z = a.cell then celN g a else celOf g z := by
  unfold celOf doN updM
  by_cases e : z = a.cell
  · simp [e]
  · simp [e]
theorem okN_iff (g : LG) (a : Acc) : okN g a = true ↔ ∀ k, k < 4 → skp a.wt a.at_ k = false → ∀ v, v < g.n → (v : Int) ≠ a.who → 0 < (celOf g a.cell).t k v → (celOf g a.cell).t k v ≤ clkN g a v := by
  unfold okN rvT
  simp only [List.all_eq_true, decide_eq_true_eq, List.mem_flatMap, List.mem_range]
  constructor
  · intro h k hk hs v hv hw hp
    refine h (v, (celOf g a.cell).t k v) ⟨k, hk, ?_⟩
    rw [hs]
    simp only [Bool.false_eq_true, if_false]
    unfold rvJ
    exact List.mem_flatMap.2 ⟨v, List.mem_range.2 hv, by simp [hw, hp]⟩
  · rintro h y ⟨k, hk, hy⟩
    by_cases hs : skp a.wt a.at_ k = true
    · rw [if_pos hs] at hy; cases hy
    · rw [if_neg hs] at hy
      unfold rvJ at hy
      obtain ⟨v, hv, hm⟩ := List.mem_flatMap.1 hy
      split at hm
      · rename_i hc
        simp only [Bool.and_eq_true, decide_eq_true_eq] at hc
        obtain rfl := List.mem_singleton.1 hm
        exact h k hk (by simpa using hs) v (List.mem_range.1 hv) hc.1 hc.2
      · cases hm
/-- No number is greater than that of the accesses. -/
structure Bd (g : LG) : Prop where
  b1 : ∀ i v, g.C i v ≤ g.L.length
  b2 : ∀ z v, (celOf g z).c v ≤ g.L.length
  b3 : ∀ d ∈ g.L, d.who < g.n
theorem Bd.new (n : Nat) : Bd (newG n) := ⟨fun _ _ => Nat.le_refl _, fun _ _ => Nat.le_refl _, fun d h => by cases h⟩
theorem Bd.clk {g : LG} (h : Bd g) (a : Acc) (v : Nat) : clkN g a v ≤ g.L.length + 1 := by
  have h1 : upd (g.C a.who.toNat) a.who.toNat (g.C a.who.toNat a.who.toNat + 1) v ≤ g.L.length + 1 := by
    unfold upd
    have := h.b1 a.who.toNat v
    split
    · rename_i e; subst e; omega
    · omega
  unfold clkN
  cases a.at_ with
  | true =>
    have := h.b2 a.cell v
    exact Nat.max_le.2 ⟨h1, by omega⟩
  | false => exact h1
theorem doN_len (g : LG) (a : Acc) : (doN g a).L.length = g.L.length + 1 := by simp [doN]
theorem Bd.doN {g : LG} (h : Bd g) {a : Acc} (ha : isB g.n a.who = true) : Bd (doN g a) := by
  have hl := doN_len g a
  refine ⟨fun i v => ?_, fun z v => ?_, fun d hd => ?_⟩
  · rw [hl]
    show upd g.C a.who.toNat (clkN g a) i v ≤ _
    unfold upd
    split
    · exact h.clk a v
    · have := h.b1 i v; omega
  · rw [hl, celOf_do]
    split
    · unfold celN
      simp only
      split
      · exact h.clk a v
      · have := h.b2 a.cell v; omega
    · have := h.b2 z v; omega
  · have hd : d ∈ g.L ++ [⟨a.who.toNat, clkN g a a.who.toNat, basN g a a.who.toNat⟩] := hd
    rcases List.mem_append.1 hd with e | e
    · exact h.b3 d e
    · obtain rfl := List.mem_singleton.1 e
      unfold isB at ha
      simp only [Bool.and_eq_true, decide_eq_true_eq] at ha
      show a.who.toNat < g.n
      omega
theorem Bd.doG {g : LG} (h : Bd g) (a : Acc) : Bd (DoG g a) := by
  unfold DoG
  split
  · rename_i e; exact h.doN e
  · exact h
theorem doG_n (g : LG) (a : Acc) : (DoG g a).n = g.n := by unfold DoG; split <;> rfl
theorem doG_len (g : LG) (a : Acc) : (DoG g a).L.length ≤ g.L.length + 1 := by unfold DoG; split; rw [doN_len]; exact Nat.le_refl _; omega

/-- What was written, told and seen, is read in order, and not without. -/
theorem pass_pure {a b : Nat} (ha : a < 64) (hb : b < 64) (hab : a ≠ b) {cell flag : Int} (hcf : cell ≠ flag) (wt rd : Bool) :
    let g1 := DoG (newG 64) ⟨a, cell, true, false⟩
    let g2 := if wt then DoG g1 ⟨a, flag, true, true⟩ else g1
    let g3 := if rd then DoG g2 ⟨b, flag, false, true⟩ else g2
    DoB (newG 64) ⟨a, cell, true, false⟩ = true ∧ DoB g3 ⟨b, cell, false, false⟩ = (wt && rd) := by
  intro g1 g2 g3
  have ia : ∀ (g : LG), g.n = 64 → isB g.n (a : Int) = true := fun g h => by rw [h]; unfold isB; simp; omega
  have ib : ∀ (g : LG), g.n = 64 → isB g.n (b : Int) = true := fun g h => by rw [h]; unfold isB; simp; omega
  have e1 : g1 = doN (newG 64) ⟨a, cell, true, false⟩ := if_pos (ia _ rfl)
  have n1 : g1.n = 64 := by rw [e1]; rfl
  have n2 : g2.n = 64 := by
    show (if wt then DoG g1 _ else g1).n = 64
    split
    · rw [doG_n]; exact n1
    · exact n1
  have n3 : g3.n = 64 := by
    show (if rd then DoG g2 _ else g2).n = 64
    split
    · rw [doG_n]; exact n2
    · exact n2
  refine ⟨?_, ?_⟩
  · unfold DoB
    rw [if_pos (ia _ rfl), okN_iff]
    intro k _ _ v _ _ hp
    exact absurd hp (by simp [celOf_new, zCel])
  · have t1 : (celOf g1 cell).t = upd zCel.t 1 (upd (zCel.t 1) a 1) := by
      rw [e1, celOf_do, if_pos rfl]
      have hk : clkN (newG 64) ⟨(a : Int), cell, true, false⟩ a = 1 := by
        show upd (fun _ => 0) a (0 + 1) a = 1
        rw [upd_same]
      show upd zCel.t 1 (upd (zCel.t 1) a (clkN (newG 64) ⟨(a : Int), cell, true, false⟩ a)) = _
      rw [hk]
    have t2 : (celOf g2 cell).t = (celOf g1 cell).t := by
      show (celOf (if wt then DoG g1 _ else g1) cell).t = _
      split
      · rw [show DoG g1 ⟨a, flag, true, true⟩ = doN g1 ⟨a, flag, true, true⟩ from if_pos (ia _ n1), celOf_do, if_neg hcf]
      · rfl
    have t3 : (celOf g3 cell).t = (celOf g1 cell).t := by
      show (celOf (if rd then DoG g2 _ else g2) cell).t = _
      split
      · rw [show DoG g2 ⟨b, flag, false, true⟩ = doN g2 ⟨b, flag, false, true⟩ from if_pos (ib _ n2), celOf_do, if_neg hcf, t2]
      · exact t2
    -- what b knows of a
    have c1 : g1.C a a = 1 := by
      rw [e1]
      show upd (newG 64).C a (clkN (newG 64) ⟨a, cell, true, false⟩) a a = 1
      rw [upd_same]
      show upd (fun _ => 0) a (0 + 1) a = 1
      rw [upd_same]
    have c1b : g1.C b a = 0 := by
      rw [e1]
      show upd (newG 64).C a (clkN (newG 64) ⟨a, cell, true, false⟩) b a = 0
      rw [upd_other _ _ (Ne.symm hab)]
      rfl
    have f1 : (celOf g1 flag).c a = 0 := by
      rw [e1, celOf_do, if_neg (Ne.symm hcf)]
      rfl
    have c2b : g2.C b a = 0 := by
      show (if wt then DoG g1 _ else g1).C b a = _
      split
      · rw [show DoG g1 ⟨a, flag, true, true⟩ = doN g1 ⟨a, flag, true, true⟩ from if_pos (ia _ n1)]
        show upd g1.C a _ b a = 0
        rw [upd_other _ _ (Ne.symm hab)]
        exact c1b
      · exact c1b
    have f2 : (celOf g2 flag).c a = if wt then 2 else 0 := by
      show (celOf (if wt then DoG g1 _ else g1) flag).c a = _
      split
      · rw [show DoG g1 ⟨a, flag, true, true⟩ = doN g1 ⟨a, flag, true, true⟩ from if_pos (ia _ n1), celOf_do, if_pos rfl]
        show max (upd (g1.C a) a (g1.C a a + 1) a) ((celOf g1 flag).c a) = 2
        rw [upd_same, c1, f1]
        rfl
      · exact f1
    have c3 : g3.C b a = if (wt && rd) then 2 else 0 := by
      show (if rd then DoG g2 _ else g2).C b a = _
      cases rd with
      | false => simp only [Bool.and_false, Bool.false_eq_true, if_false]; exact c2b
      | true =>
        simp only [if_true, Bool.and_true]
        rw [show DoG g2 ⟨b, flag, false, true⟩ = doN g2 ⟨b, flag, false, true⟩ from if_pos (ib _ n2)]
        show upd g2.C b _ b a = _
        rw [upd_same]
        show max (upd (g2.C b) b (g2.C b b + 1) a) ((celOf g2 flag).c a) = _
        rw [upd_other _ _ hab, c2b, f2]
        cases wt <;> rfl
    have ck : clkN g3 ⟨b, cell, false, false⟩ a = if (wt && rd) then 2 else 0 := by
      show upd (g3.C b) b _ a = _
      rw [upd_other _ _ hab, c3]
    unfold DoB
    rw [if_pos (ib _ n3), Bool.eq_iff_iff, okN_iff]
    simp only
    rw [n3, t3, t1]
    constructor
    · intro h
      have := h 1 (by omega) (by decide) a ha (by omega) (by rw [upd_same, upd_same]; omega)
      rw [upd_same, upd_same, ck] at this
      cases hw : (wt && rd) with
      | true => rfl
      | false => rw [hw] at this; simp at this
    · intro hw k _ _ v _ _ hp
      by_cases e : k = 1
      · subst e
        rw [upd_same] at hp ⊢
        by_cases e2 : v = a
        · subst e2
          rw [upd_same, ck, hw]
          decide
        · rw [upd_other _ _ e2] at hp
          exact absurd hp (by simp [zCel])
      · rw [upd_other _ _ e] at hp
        exact absurd hp (by simp [zCel])

/-- What no access of a kind ever leaves. -/
def Calm (at_ : Bool) (g : LG) : Prop := ∀ z k, k < 4 → skp false at_ k = false → ∀ v, (celOf g z).t k v = 0
theorem Calm.new (at_ : Bool) (n : Nat) : Calm at_ (newG n) := fun _ _ _ _ _ => rfl
end Go.Proofs.Ytmfkomdfknflgaa
