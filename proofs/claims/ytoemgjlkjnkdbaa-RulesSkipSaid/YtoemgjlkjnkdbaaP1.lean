/- What tokens' things are, and what rules any tokens are: the plain law of rules.Parse and of the document's own answer. -/
import Derived.Test.YtoemgjlkjnkdbaaPSx2
namespace Go.Proofs.Ytoemgjlkjnkdbaa.PS
open Go.RowKit Go.Proofs.YtoemgjlkjnkdbaaW.PrintWords Go.Proofs.YtoemgjlkjnkdbaaW.PrintLast

/-- What is open at a thing's end. -/
def skS : List S35 → List Int → List Int
  | [], o => o
  | t :: ts, o => if st1 o t.f0 = [] then [] else skS ts (st1 o t.f0)
theorem st1_base (b : Int) (o : List Int) (k : Int) (h : o ≠ [] ∨ k ≠ b) : st1 (b :: o) k = b :: st1 o k := by
  cases o with
  | nil =>
    have hk : k ≠ b := by simpa using h
    have h1 : ¬ ([b].getLast? = some k) := by simpa using fun e : b = k => hk e.symm
    have h2 : ¬ (([] : List Int).getLast? = some k) := by simp
    unfold st1
    rw [if_neg h1, if_neg h2]
    split <;> simp
  | cons x o =>
    unfold st1
    rw [List.getLast?_cons_cons]
    split
    · simp
    · split <;> simp
theorem skS_nil_or (l : List S35) : ∀ o, o ≠ [] → skS l o = [] → l ≠ [] := by
  intro o h1 h2 h3
  subst h3
  exact h1 h2
theorem skN_open (l : List S35) : ∀ o, skS l o ≠ [] → skN l o = l.length := by
  induction l with
  | nil => intro o h; rfl
  | cons t ts ih =>
    intro o h
    simp only [skS] at h
    simp only [skN]
    by_cases e : st1 o t.f0 = []
    · rw [if_pos e] at h
      exact absurd rfl h
    · rw [if_neg e] at h ⊢
      rw [ih _ h, List.length_cons]
      omega
/-- A thing within what b closes. -/
theorem skN_base (b : Int) (l : List S35) : ∀ o, (o ≠ [] ∨ ∀ t ∈ l.head?, t.f0 ≠ b) →
    (skS l o = [] → skN l (b :: o) = skN l o + skN (l.drop (skN l o)) [b] ∧ skS l (b :: o) = skS (l.drop (skN l o)) [b]) ∧ (skS l o ≠ [] → skN l (b :: o) = skN l o ∧ skS l (b :: o) = b :: skS l o) := by
  induction l with
  | nil =>
    intro o h
    constructor
    · intro e
      have e : o = [] := e
      subst e
      simp [skN, skS]
    · intro e
      exact ⟨rfl, rfl⟩
  | cons t ts ih =>
    intro o h
    have hb : st1 (b :: o) t.f0 = b :: st1 o t.f0 := st1_base b o t.f0 (h.imp id (fun h => h t (by simp)))
    simp only [skN, skS, hb]
    have hne : ¬ (b :: st1 o t.f0 = []) := by simp
    rw [if_neg hne, if_neg hne]
    by_cases e : st1 o t.f0 = []
    · rw [if_pos e, if_pos e, e]
      exact ⟨fun _ => by simp, fun h => absurd rfl h⟩
    · rw [if_neg e, if_neg e]
      obtain ⟨h1, h2⟩ := ih (st1 o t.f0) (.inl e)
      constructor
      · intro e2
        obtain ⟨h3, h4⟩ := h1 e2
        rw [h3, h4, show 1 + skN ts (st1 o t.f0) = skN ts (st1 o t.f0) + 1 by omega, List.drop_succ_cons]
        exact ⟨by omega, rfl⟩
      · intro e2
        obtain ⟨h3, h4⟩ := h2 e2
        rw [h3, h4]
        exact ⟨rfl, rfl⟩

/-- Where the first thing begins, from i on, that begins so. -/
def fndV (ts : List S35) (a b : Int) (i : Nat) : Nat :=
  if h : i < ts.length then (if ts[i].f0 = a ∨ ts[i].f0 = b then i else fndV ts a b (skV ts i)) else ts.length
termination_by ts.length - i
decreasing_by have := skV_lt ts i h; omega
theorem fndV_le (ts : List S35) (a b : Int) (i : Nat) : fndV ts a b i ≤ ts.length := by
  induction h : ts.length - i using Nat.strongRecOn generalizing i with
  | _ n ih =>
    rw [fndV]
    split
    · rename_i hi
      split
      · omega
      · have := skV_lt ts i hi
        exact ih _ (by omega) _ rfl
    · exact Nat.le_refl _
theorem fndV_ge (ts : List S35) (a b : Int) (i : Nat) (hi : i ≤ ts.length) : i ≤ fndV ts a b i := by
  induction h : ts.length - i using Nat.strongRecOn generalizing i with
  | _ n ih =>
    rw [fndV]
    split
    · rename_i hi
      split
      · omega
      · have := skV_lt ts i hi
        have := skV_le ts i (by omega)
        have := ih _ (by omega) _ this rfl
        omega
    · omega
theorem fndV_hit (ts : List S35) (a b : Int) (i : Nat) (h : fndV ts a b i < ts.length) : ts[fndV ts a b i].f0 = a ∨ ts[fndV ts a b i].f0 = b := by
  induction hn : ts.length - i using Nat.strongRecOn generalizing i with
  | _ n ih =>
    have key : fndV ts a b i = if h : i < ts.length then (if ts[i].f0 = a ∨ ts[i].f0 = b then i else fndV ts a b (skV ts i)) else ts.length := by rw [fndV]
    by_cases hi : i < ts.length
    · rw [dif_pos hi] at key
      by_cases hh : ts[i].f0 = a ∨ ts[i].f0 = b
      · rw [if_pos hh] at key
        simp only [key]
        exact hh
      · rw [if_neg hh] at key
        have := skV_lt ts i hi
        have h2 := ih _ (by omega) (skV ts i) (by omega) rfl
        simp only [key]
        exact h2
    · rw [dif_neg hi] at key
      omega
/-- Where the thing ends that begins with an at-name. -/
def atV (ts : List S35) (i : Nat) : Nat := if fndV ts 12 14 (i + 1) < ts.length then skV ts (fndV ts 12 14 (i + 1)) else ts.length
theorem atV_le (ts : List S35) (i : Nat) : atV ts i ≤ ts.length := by
  unfold atV
  split
  · exact skV_le _ _ (by omega)
  · exact Nat.le_refl _
theorem atV_lt (ts : List S35) (i : Nat) (hi : i < ts.length) : i < atV ts i := by
  unfold atV
  have := fndV_ge ts 12 14 (i + 1) (by omega)
  split
  · rename_i h
    have := skV_lt ts _ h
    omega
  · exact hi
/-- The rules from i on. -/
def parV (ts : List S35) (i : Nat) : List S37 :=
  if h : i < ts.length then
    if ts[i].f0 = 9 then parV ts (i + 1)
    else if ts[i].f0 = 2 then parV ts (atV ts i)
    else if h2 : fndV ts 14 14 i < ts.length then
      ⟨(ts.take (fndV ts 14 14 i)).drop i, (ts.take (fndV ts 15 15 (fndV ts 14 14 i + 1))).drop (fndV ts 14 14 i + 1)⟩ :: parV ts (skV ts (fndV ts 14 14 i))
    else []
  else []
termination_by ts.length - i
decreasing_by
  · omega
  · have := atV_lt ts i h; omega
  · have := skV_lt ts _ h2; have := fndV_ge ts 14 14 i (by omega); omega

/-- What a block has: its end, and that it is closed. -/
theorem block_end (ts : List S35) (p : Nat) (hp : p ≤ ts.length) :
    (fndV ts 15 15 p < ts.length ∧ p + skN (ts.drop p) [15] = fndV ts 15 15 p + 1 ∧ skS (ts.drop p) [15] = []) ∨
    (fndV ts 15 15 p = ts.length ∧ p + skN (ts.drop p) [15] = ts.length ∧ skS (ts.drop p) [15] ≠ []) := by
  induction hn : ts.length - p using Nat.strongRecOn generalizing p with
  | _ n ih =>
    have key : fndV ts 15 15 p = if h : p < ts.length then (if ts[p].f0 = 15 ∨ ts[p].f0 = 15 then p else fndV ts 15 15 (skV ts p)) else ts.length := by rw [fndV]
    by_cases hlt : p < ts.length
    · rw [dif_pos hlt] at key
      by_cases hh : ts[p].f0 = 15
      · rw [if_pos (.inl hh)] at key
        left
        rw [key, List.drop_eq_getElem_cons hlt]
        simp only [skN, skS, hh]
        simp [st1, hlt]
      · rw [if_neg (by simpa using hh)] at key
        have hb := skN_base 15 (ts.drop p) [] (.inr (fun t ht => by rw [List.drop_eq_getElem_cons hlt, List.head?_cons, Option.mem_some_iff] at ht; rw [← ht]; exact hh))
        have hq : skV ts p = p + skN (ts.drop p) [] := rfl
        have hq1 := skV_lt ts p hlt
        have hq2 := skV_le ts p (by omega)
        by_cases e : skS (ts.drop p) [] = []
        · have hb := hb.1 e
          rw [List.drop_drop, ← hq] at hb
          rcases ih _ (by omega) (skV ts p) hq2 rfl with ⟨h1, h2, h3⟩ | ⟨h1, h2, h3⟩
          · left
            rw [key, hb.1, hb.2]
            exact ⟨h1, by omega, h3⟩
          · right
            rw [key, hb.1, hb.2]
            exact ⟨h1, by omega, h3⟩
        · have hb := hb.2 e
          have hl := skN_open (ts.drop p) [] e
          rw [List.length_drop] at hl
          right
          rw [key, hb.1, hb.2]
          refine ⟨?_, by omega, by simp⟩
          rw [fndV, dif_neg (by omega)]
    · rw [dif_neg hlt] at key
      right
      rw [key, List.drop_eq_nil_of_le (by omega)]
      exact ⟨rfl, by simp [skN]; omega, by simp [skS]⟩
theorem st1_14 : st1 [] 14 = [15] := by decide
/-- The thing of a block. -/
theorem skV_block (ts : List S35) (i : Nat) (hi : i < ts.length) (h : ts[i].f0 = 14) : skV ts i = i + 1 + skN (ts.drop (i + 1)) [15] ∧ skS (ts.drop i) [] = skS (ts.drop (i + 1)) [15] := by
  unfold skV
  rw [List.drop_eq_getElem_cons hi]
  simp only [skN, skS, h, st1_14]
  rw [if_neg (by simp), if_neg (by simp)]
  exact ⟨by omega, rfl⟩
end Go.Proofs.Ytoemgjlkjnkdbaa.PS
