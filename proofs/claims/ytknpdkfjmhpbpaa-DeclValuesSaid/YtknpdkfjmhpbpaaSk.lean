/- Tokens, things and rules: plain. No condition. -/
import Derived.Test.YtknpdkfjmhpbpaaBase
namespace Go.Proofs.Ytknpdkfjmhpbpaa

/-- A token; its kind, its text, its number, whole, its point. -/
structure Tok where
  f0 : Int
  f1 : ByteArray
  f2 : Int
  f3 : Bool
  f4 : Int
structure RawT where
  f0 : List Tok
  f1 : List Tok

set_option linter.unusedVariables false
set_option linter.unusedSimpArgs false
--BEGIN
/-- What closes a kind; 0: nothing. -/
def cl (k : Int) : Int := if k = 14 then 15 else if k = 16 ∨ k = 20 then 17 else if k = 18 then 19 else 0
/-- What is open behind a token. -/
def st1 (o : List Int) (k : Int) : List Int := if o.getLast? = some k then o.dropLast else if cl k = 0 then o else o ++ [cl k]
/-- How many tokens the thing has that begins so. -/
def skN : List Tok → List Int → Nat
  | [], _ => 0
  | t :: ts, o => if st1 o t.f0 = [] then 1 else 1 + skN ts (st1 o t.f0)
theorem skN_le : ∀ (ts : List Tok) (o : List Int), skN ts o ≤ ts.length
  | [], _ => Nat.le_refl _
  | t :: ts, o => by
    have := skN_le ts (st1 o t.f0)
    simp only [skN, List.length_cons]
    split <;> omega
theorem skN_pos (t : Tok) (ts : List Tok) (o : List Int) : 1 ≤ skN (t :: ts) o := by simp only [skN]; split <;> omega
/-- Where the thing ends that begins at a token. -/
def skV (x0 : List Tok) (i : Nat) : Nat := i + skN (x0.drop i) []
theorem skV_le (x0 : List Tok) (i : Nat) (h : i ≤ x0.length) : skV x0 i ≤ x0.length := by
  have := skN_le (x0.drop i) []
  simp at this
  unfold skV
  omega
theorem skV_lt (x0 : List Tok) (i : Nat) (h : i < x0.length) : i < skV x0 i := by
  unfold skV
  rw [List.drop_eq_getElem_cons h]
  have := skN_pos x0[i] (x0.drop (i + 1)) []
  omega
/-- What is open at a thing's end. -/
def skS : List Tok → List Int → List Int
  | [], o => o
  | t :: ts, o => if st1 o t.f0 = [] then [] else skS ts (st1 o t.f0)
theorem st1_base (b : Int) (o : List Int) (k : Int) (h : o ≠ [] ∨ k ≠ b) : st1 (b :: o) k = b :: st1 o k := by
  cases o with
  | nil =>
    have hk : k ≠ b := by simpa using h
    have h1 : ¬ ([b].getLast? = some k) := by simpa using fun e : b = k => hk e.symm
    have h2 : ¬ (([] : List Int).getLast? = some k) := by simp
    unfold st1
    rw [if_neg h1, if_neg h2]
    split <;> simp
  | cons x o =>
    unfold st1
    rw [List.getLast?_cons_cons]
    split
    · simp
    · split <;> simp
theorem skS_nil_or (l : List Tok) : ∀ o, o ≠ [] → skS l o = [] → l ≠ [] := by
  intro o h1 h2 h3
  subst h3
  exact h1 h2
theorem skN_open (l : List Tok) : ∀ o, skS l o ≠ [] → skN l o = l.length := by
  induction l with
  | nil => intro o h; rfl
  | cons t ts ih =>
    intro o h
    simp only [skS] at h
    simp only [skN]
    by_cases e : st1 o t.f0 = []
    · rw [if_pos e] at h
      exact absurd rfl h
    · rw [if_neg e] at h ⊢
      rw [ih _ h, List.length_cons]
      omega
/-- A thing within what b closes. -/
theorem skN_base (b : Int) (l : List Tok) : ∀ o, (o ≠ [] ∨ ∀ t ∈ l.head?, t.f0 ≠ b) →
    (skS l o = [] → skN l (b :: o) = skN l o + skN (l.drop (skN l o)) [b] ∧ skS l (b :: o) = skS (l.drop (skN l o)) [b]) ∧ (skS l o ≠ [] → skN l (b :: o) = skN l o ∧ skS l (b :: o) = b :: skS l o) := by
  induction l with
  | nil =>
    intro o h
    constructor
    · intro e
      have e : o = [] := e
      subst e
      simp [skN, skS]
    · intro e
      exact ⟨rfl, rfl⟩
  | cons t ts ih =>
    intro o h
    have hb : st1 (b :: o) t.f0 = b :: st1 o t.f0 := st1_base b o t.f0 (h.imp id (fun h => h t (by simp)))
    simp only [skN, skS, hb]
    have hne : ¬ (b :: st1 o t.f0 = []) := by simp
    rw [if_neg hne, if_neg hne]
    by_cases e : st1 o t.f0 = []
    · rw [if_pos e, if_pos e, e]
      exact ⟨fun _ => by simp, fun h => absurd rfl h⟩
    · rw [if_neg e, if_neg e]
      obtain ⟨h1, h2⟩ := ih (st1 o t.f0) (.inl e)
      constructor
      · intro e2
        obtain ⟨h3, h4⟩ := h1 e2
        rw [h3, h4, show 1 + skN ts (st1 o t.f0) = skN ts (st1 o t.f0) + 1 by omega, List.drop_succ_cons]
        exact ⟨by omega, rfl⟩
      · intro e2
        obtain ⟨h3, h4⟩ := h2 e2
        rw [h3, h4]
        exact ⟨rfl, rfl⟩

/-- Where the first thing begins, from i on, that begins so. -/
def fndV (ts : List Tok) (a b : Int) (i : Nat) : Nat :=
  if h : i < ts.length then (if ts[i].f0 = a ∨ ts[i].f0 = b then i else fndV ts a b (skV ts i)) else ts.length
termination_by ts.length - i
decreasing_by have := skV_lt ts i h; omega
theorem fndV_le (ts : List Tok) (a b : Int) (i : Nat) : fndV ts a b i ≤ ts.length := by
  induction h : ts.length - i using Nat.strongRecOn generalizing i with
  | _ n ih =>
    rw [fndV]
    split
    · rename_i hi
      split
      · omega
      · have := skV_lt ts i hi
        exact ih _ (by omega) _ rfl
    · exact Nat.le_refl _
theorem fndV_ge (ts : List Tok) (a b : Int) (i : Nat) (hi : i ≤ ts.length) : i ≤ fndV ts a b i := by
  induction h : ts.length - i using Nat.strongRecOn generalizing i with
  | _ n ih =>
    rw [fndV]
    split
    · rename_i hi
      split
      · omega
      · have := skV_lt ts i hi
        have := skV_le ts i (by omega)
        have := ih _ (by omega) _ this rfl
        omega
    · omega
theorem fndV_hit (ts : List Tok) (a b : Int) (i : Nat) (h : fndV ts a b i < ts.length) : ts[fndV ts a b i].f0 = a ∨ ts[fndV ts a b i].f0 = b := by
  induction hn : ts.length - i using Nat.strongRecOn generalizing i with
  | _ n ih =>
    have key : fndV ts a b i = if h : i < ts.length then (if ts[i].f0 = a ∨ ts[i].f0 = b then i else fndV ts a b (skV ts i)) else ts.length := by rw [fndV]
    by_cases hi : i < ts.length
    · rw [dif_pos hi] at key
      by_cases hh : ts[i].f0 = a ∨ ts[i].f0 = b
      · rw [if_pos hh] at key
        simp only [key]
        exact hh
      · rw [if_neg hh] at key
        have := skV_lt ts i hi
        have h2 := ih _ (by omega) (skV ts i) (by omega) rfl
        simp only [key]
        exact h2
    · rw [dif_neg hi] at key
      omega
/-- Where the thing ends that begins with an at-name. -/
def atV (ts : List Tok) (i : Nat) : Nat := if fndV ts 12 14 (i + 1) < ts.length then skV ts (fndV ts 12 14 (i + 1)) else ts.length
theorem atV_le (ts : List Tok) (i : Nat) : atV ts i ≤ ts.length := by
  unfold atV
  split
  · exact skV_le _ _ (by omega)
  · exact Nat.le_refl _
theorem atV_lt (ts : List Tok) (i : Nat) (hi : i < ts.length) : i < atV ts i := by
  unfold atV
  have := fndV_ge ts 12 14 (i + 1) (by omega)
  split
  · rename_i h
    have := skV_lt ts _ h
    omega
  · exact hi
/-- The rules from i on. -/
def parV (ts : List Tok) (i : Nat) : List RawT :=
  if h : i < ts.length then
    if ts[i].f0 = 9 then parV ts (i + 1)
    else if ts[i].f0 = 2 then parV ts (atV ts i)
    else if h2 : fndV ts 14 14 i < ts.length then
      ⟨(ts.take (fndV ts 14 14 i)).drop i, (ts.take (fndV ts 15 15 (fndV ts 14 14 i + 1))).drop (fndV ts 14 14 i + 1)⟩ :: parV ts (skV ts (fndV ts 14 14 i))
    else []
  else []
termination_by ts.length - i
decreasing_by
  · omega
  · have := atV_lt ts i h; omega
  · have := skV_lt ts _ h2; have := fndV_ge ts 14 14 i (by omega); omega

/-- What a block has: its end, and that it is closed. -/
theorem block_end (ts : List Tok) (p : Nat) (hp : p ≤ ts.length) :
    (fndV ts 15 15 p < ts.length ∧ p + skN (ts.drop p) [15] = fndV ts 15 15 p + 1 ∧ skS (ts.drop p) [15] = []) ∨
    (fndV ts 15 15 p = ts.length ∧ p + skN (ts.drop p) [15] = ts.length ∧ skS (ts.drop p) [15] ≠ []) := by
  induction hn : ts.length - p using Nat.strongRecOn generalizing p with
  | _ n ih =>
    have key : fndV ts 15 15 p = if h : p < ts.length then (if ts[p].f0 = 15 ∨ ts[p].f0 = 15 then p else fndV ts 15 15 (skV ts p)) else ts.length := by rw [fndV]
    by_cases hlt : p < ts.length
    · rw [dif_pos hlt] at key
      by_cases hh : ts[p].f0 = 15
      · rw [if_pos (.inl hh)] at key
        left
        rw [key, List.drop_eq_getElem_cons hlt]
        simp only [skN, skS, hh]
        simp [st1, hlt]
      · rw [if_neg (by simpa using hh)] at key
        have hb := skN_base 15 (ts.drop p) [] (.inr (fun t ht => by rw [List.drop_eq_getElem_cons hlt, List.head?_cons, Option.mem_some_iff] at ht; rw [← ht]; exact hh))
        have hq : skV ts p = p + skN (ts.drop p) [] := rfl
        have hq1 := skV_lt ts p hlt
        have hq2 := skV_le ts p (by omega)
        by_cases e : skS (ts.drop p) [] = []
        · have hb := hb.1 e
          rw [List.drop_drop, ← hq] at hb
          rcases ih _ (by omega) (skV ts p) hq2 rfl with ⟨h1, h2, h3⟩ | ⟨h1, h2, h3⟩
          · left
            rw [key, hb.1, hb.2]
            exact ⟨h1, by omega, h3⟩
          · right
            rw [key, hb.1, hb.2]
            exact ⟨h1, by omega, h3⟩
        · have hb := hb.2 e
          have hl := skN_open (ts.drop p) [] e
          rw [List.length_drop] at hl
          right
          rw [key, hb.1, hb.2]
          refine ⟨?_, by omega, by simp⟩
          rw [fndV, dif_neg (by omega)]
    · rw [dif_neg hlt] at key
      right
      rw [key, List.drop_eq_nil_of_le (by omega)]
      exact ⟨rfl, by simp [skN]; omega, by simp [skS]⟩
theorem st1_14 : st1 [] 14 = [15] := by decide
/-- The thing of a block. -/
theorem skV_block (ts : List Tok) (i : Nat) (hi : i < ts.length) (h : ts[i].f0 = 14) : skV ts i = i + 1 + skN (ts.drop (i + 1)) [15] ∧ skS (ts.drop i) [] = skS (ts.drop (i + 1)) [15] := by
  unfold skV
  rw [List.drop_eq_getElem_cons hi]
  simp only [skN, skS, h, st1_14]
  rw [if_neg (by simp), if_neg (by simp)]
  exact ⟨by omega, rfl⟩
theorem cl_nonneg (k : Int) : 0 ≤ cl k := by unfold cl; split <;> (try split) <;> (try split) <;> omega
/-- Only what closes stands open. -/
def Shut (o : List Int) : Prop := ∀ x ∈ o, cl x = 0
theorem cl_cl (k : Int) : cl (cl k) = 0 := by
  unfold cl
  split <;> (try split) <;> (try split) <;> simp_all <;> omega
theorem Shut.st1 {o : List Int} (h : Shut o) (k : Int) : Shut (st1 o k) := by
  unfold Go.Proofs.Ytknpdkfjmhpbpaa.st1
  split
  · exact fun x hx => h x (List.dropLast_subset _ hx)
  · split
    · exact h
    · intro x hx
      rcases List.mem_append.1 hx with hx | hx
      · exact h x hx
      · rw [List.mem_singleton.1 hx]
        exact cl_cl k
/-- The document's order of the two questions. -/
theorem st1_ref {o : List Int} (h : Shut o) (k : Int) : st1 o k = if cl k > 0 then o ++ [cl k] else if o.getLast? = some k then o.dropLast else o := by
  unfold st1
  by_cases e : o.getLast? = some k
  · have hk : cl k = 0 := h k (List.mem_of_getLast? e)
    rw [if_pos e, if_neg (by omega), if_pos e]
  · rw [if_neg e]
    have := cl_nonneg k
    by_cases hc : cl k = 0
    · rw [if_pos hc, if_neg (by omega), if_neg e]
    · rw [if_neg hc, if_pos (by omega)]
theorem cut_len (ts : List Tok) (i j : Nat) : ((ts.take j).drop i).length ≤ ts.length := by
  simp
  omega
theorem skV_one (ts : List Tok) (i : Nat) (hi : i < ts.length) (h : cl ts[i].f0 = 0) : skV ts i = i + 1 := by
  unfold skV
  rw [List.drop_eq_getElem_cons hi]
  have : st1 [] ts[i].f0 = [] := by
    unfold st1
    rw [if_neg (by simp), if_pos h]
  simp only [skN, this]
  rfl
/-- Where a block's inside ends. -/
theorem block_to (ts : List Tok) (i : Nat) (hi : i < ts.length) (h : ts[i].f0 = 14) :
    (skS (ts.drop i) [] = [] → skV ts i = fndV ts 15 15 (i + 1) + 1 ∧ fndV ts 15 15 (i + 1) < ts.length) ∧ (skS (ts.drop i) [] ≠ [] → skV ts i = ts.length ∧ fndV ts 15 15 (i + 1) = ts.length) := by
  obtain ⟨h1, h2⟩ := skV_block ts i hi h
  rw [h2, h1]
  rcases block_end ts (i + 1) hi with ⟨h3, h4, h5⟩ | ⟨h3, h4, h5⟩
  · exact ⟨fun _ => ⟨h4, h3⟩, fun e => absurd h5 e⟩
  · exact ⟨fun e => absurd e h5, fun _ => ⟨h4, h3⟩⟩
theorem parV_len (ts : List Tok) (i : Nat) (hi : i ≤ ts.length) : (parV ts i).length + i ≤ ts.length ∧ ∀ x ∈ parV ts i, x.f0.length ≤ ts.length ∧ x.f1.length ≤ ts.length := by
  induction hn : ts.length - i using Nat.strongRecOn generalizing i with
  | _ n ih =>
    rw [parV]
    by_cases hlt : i < ts.length
    · rw [dif_pos hlt]
      by_cases h9 : ts[i].f0 = 9
      · rw [if_pos h9]
        have := ih _ (by omega) (i + 1) hlt rfl
        exact ⟨by omega, this.2⟩
      · rw [if_neg h9]
        by_cases h2 : ts[i].f0 = 2
        · rw [if_pos h2]
          have hv := atV_lt ts i hlt
          have := ih _ (by omega) (atV ts i) (atV_le ts i) rfl
          exact ⟨by omega, this.2⟩
        · rw [if_neg h2]
          by_cases hf : fndV ts 14 14 i < ts.length
          · rw [dif_pos hf]
            have hg := fndV_ge ts 14 14 i hi
            have hv := skV_lt ts _ hf
            have := ih _ (by omega) (skV ts (fndV ts 14 14 i)) (skV_le _ _ (by omega)) rfl
            refine ⟨by simp; omega, fun x hx => ?_⟩
            rcases List.mem_cons.1 hx with rfl | hx
            · exact ⟨cut_len _ _ _, cut_len _ _ _⟩
            · exact this.2 x hx
          · rw [dif_neg hf]
            exact ⟨by simp; omega, fun x hx => by simp at hx⟩
    · rw [dif_neg hlt]
      exact ⟨by simp; omega, fun x hx => by simp at hx⟩
/-- Tokens that open nothing are passed over, one by one. -/
theorem fndV_plain (ts : List Tok) (a b : Int) (j : Nat) (hj : j ≤ ts.length) (i : Nat) (hij : i ≤ j) (h : ∀ m (hm : m < ts.length), i ≤ m → m < j → cl ts[m].f0 = 0 ∧ ts[m].f0 ≠ a ∧ ts[m].f0 ≠ b) : fndV ts a b i = fndV ts a b j := by
  induction hn : j - i generalizing i with
  | zero => rw [show i = j by omega]
  | succ n ih =>
    have hlt : i < ts.length := by omega
    obtain ⟨h1, h2, h3⟩ := h i hlt (Nat.le_refl _) (by omega)
    rw [fndV, dif_pos hlt, if_neg (by simp [h2, h3]), skV_one ts i hlt h1]
    exact ih (i + 1) (by omega) (fun m hm h1 h2 => h m hm (by omega) h2) (by omega)
theorem fndV_here (ts : List Tok) (a b : Int) (i : Nat) (hi : i < ts.length) (h : ts[i].f0 = a) : fndV ts a b i = i := by
  rw [fndV, dif_pos hi, if_pos (.inl h)]
theorem fndV_end (ts : List Tok) (a b : Int) : fndV ts a b ts.length = ts.length := by
  rw [fndV, dif_neg (by omega)]
/-- Nothing that opens. -/
def Flat (l : List Tok) : Prop := ∀ t ∈ l, t.f0 ≠ 14 ∧ t.f0 ≠ 16 ∧ t.f0 ≠ 18 ∧ t.f0 ≠ 20
theorem Flat.cl {l : List Tok} (h : Flat l) {t : Tok} (ht : t ∈ l) : Go.Proofs.Ytknpdkfjmhpbpaa.cl t.f0 = 0 := by
  obtain ⟨h1, h2, h3, h4⟩ := h t ht
  unfold Go.Proofs.Ytknpdkfjmhpbpaa.cl
  rw [if_neg h1, if_neg (by simp [h2, h4]), if_neg h3]
/-- The rule of a flat prelude and a flat block, closed or not. -/
theorem parV_block (a b c : List Tok) (o : Tok) (ho : o.f0 = 14) (ha : Flat a) (hb : Flat b) (hb2 : ∀ t ∈ b, t.f0 ≠ 15) (h0 : ∀ t ∈ a.head?, t.f0 ≠ 2 ∧ t.f0 ≠ 9) (hc : c = [] ∨ ∃ s, c = [s] ∧ s.f0 = 15) :
    parV (a ++ o :: (b ++ c)) 0 = [⟨a, b⟩] := by
  obtain ⟨ts, hts⟩ : ∃ ts, ts = a ++ o :: (b ++ c) := ⟨_, rfl⟩
  have hl : ts.length = a.length + 1 + b.length + c.length := by rw [hts]; simp; omega
  have ga : ∀ m (h : m < ts.length), m < a.length → ts[m] ∈ a := fun m h h1 => by
    simp only [hts]; rw [List.getElem_append_left h1]; exact List.getElem_mem h1
  have go : ∀ h : a.length < ts.length, ts[a.length] = o := fun h => by
    simp only [hts]; rw [List.getElem_append_right (Nat.le_refl _)]; simp
  have gb : ∀ m (h : m < ts.length), a.length + 1 ≤ m → m < a.length + 1 + b.length → ts[m] ∈ b := fun m h h1 h2 => by
    simp only [hts]
    rw [List.getElem_append_right (by omega), List.getElem_cons, dif_neg (by omega), List.getElem_append_left (by omega)]
    exact List.getElem_mem _
  have ho2 : a.length < ts.length := by omega
  have f1 : fndV ts 14 14 0 = a.length := by
    rw [fndV_plain ts 14 14 a.length (by omega) 0 (Nat.zero_le _) (fun m hm _ h2 => ⟨ha.cl (ga m hm h2), (ha _ (ga m hm h2)).1, (ha _ (ga m hm h2)).1⟩)]
    exact fndV_here ts 14 14 _ ho2 (by rw [go]; exact ho)
  have f2 : fndV ts 15 15 (a.length + 1) = a.length + 1 + b.length := by
    rw [fndV_plain ts 15 15 (a.length + 1 + b.length) (by omega) (a.length + 1) (by omega) (fun m hm h1 h2 => ⟨hb.cl (gb m hm h1 h2), hb2 _ (gb m hm h1 h2), hb2 _ (gb m hm h1 h2)⟩)]
    rcases hc with rfl | ⟨s, rfl, hs⟩
    · have : a.length + 1 + b.length = ts.length := by rw [hl]; simp
      rw [this]
      exact fndV_end ts 15 15
    · refine fndV_here ts 15 15 _ (by rw [hl]; simp) ?_
      simp only [hts]
      rw [List.getElem_append_right (by omega), List.getElem_cons, dif_neg (by omega), List.getElem_append_right (by omega)]
      simpa using hs
  have f3 : skV ts a.length = ts.length := by
    obtain ⟨b1, b2⟩ := block_to ts a.length ho2 (by rw [go]; exact ho)
    by_cases e : skS (ts.drop a.length) [] = []
    · obtain ⟨c1, c2⟩ := b1 e
      rcases hc with rfl | ⟨s, rfl, hs⟩
      · rw [f2, hl] at c2
        simp at c2
      · rw [c1, f2, hl]; simp
    · exact (b2 e).1
  have hn9 : ¬ ts[0].f0 = 9 ∧ ¬ ts[0].f0 = 2 := by
    cases a with
    | nil =>
      have := go ho2
      simp only [List.length_nil] at this
      rw [this, ho]
      decide
    | cons x a =>
      have := h0 x (by simp)
      have e : ts[0] = x := by simp only [hts]; rfl
      rw [e]
      exact ⟨this.2, this.1⟩
  rw [← hts, parV, dif_pos (by omega), if_neg hn9.1, if_neg hn9.2, dif_pos (by rw [f1]; exact ho2)]
  simp only [f1, f2, f3]
  rw [parV, dif_neg (by omega)]
  congr 2
  · rw [hts]; simp
  · rw [hts, List.drop_take, show a ++ o :: (b ++ c) = (a ++ [o]) ++ (b ++ c) by simp, List.drop_left' (by simp), show a.length + 1 + b.length - (a.length + 1) = b.length by omega, List.take_left' rfl]
theorem parV_none (a : List Tok) (ha : Flat a) (h0 : ∀ t ∈ a.head?, t.f0 ≠ 2 ∧ t.f0 ≠ 9) : parV a 0 = [] := by
  cases a with
  | nil => rw [parV, dif_neg (by simp)]
  | cons x a =>
    have hx := h0 x (by simp)
    have f1 : fndV (x :: a) 14 14 0 = (x :: a).length := by
      rw [fndV_plain (x :: a) 14 14 (x :: a).length (Nat.le_refl _) 0 (Nat.zero_le _) (fun m hm _ h2 => ⟨ha.cl (List.getElem_mem hm), (ha _ (List.getElem_mem hm)).1, (ha _ (List.getElem_mem hm)).1⟩)]
      exact fndV_end _ 14 14
    have e : (x :: a)[0].f0 = x.f0 := rfl
    rw [parV, dif_pos (by simp), e, if_neg hx.2, if_neg hx.1, dif_neg (by rw [f1]; omega)]
/-- A thing that goes on behind the first part. -/
theorem skN_app (l1 : List Tok) : ∀ (l2 : List Tok) (o : List Int), skS l1 o ≠ [] → skN (l1 ++ l2) o = l1.length + skN l2 (skS l1 o) ∧ skS (l1 ++ l2) o = skS l2 (skS l1 o) := by
  induction l1 with
  | nil => intro l2 o h; exact ⟨by simp [skS], rfl⟩
  | cons t ts ih =>
    intro l2 o h
    simp only [skS] at h
    by_cases e : st1 o t.f0 = []
    · rw [if_pos e] at h
      exact absurd rfl h
    · rw [if_neg e] at h
      obtain ⟨h1, h2⟩ := ih l2 _ h
      simp only [List.cons_append, skN, skS]
      rw [if_neg e, if_neg e, if_neg e, h1, h2, List.length_cons]
      exact ⟨by omega, rfl⟩
/-- The kinds of what opens, by a number. -/
def opn (q : Nat) : Int := if q = 0 then 14 else if q = 1 then 16 else if q = 2 then 18 else 20
def sht (q : Nat) : Int := if q = 0 then 15 else if q = 1 then 17 else if q = 2 then 19 else 17
def tk (k : Int) : Tok := ⟨k, (⟨#[]⟩ : ByteArray), 0, false, 0⟩
theorem cl_opn (q : Nat) : cl (opn q) = sht q := by unfold opn sht; split <;> (try split) <;> (try split) <;> decide
theorem sht_in (q : Nat) : sht q = 15 ∨ sht q = 17 ∨ sht q = 19 := by unfold sht; split <;> (try split) <;> (try split) <;> omega
theorem opn_in (q : Nat) : opn q = 14 ∨ opn q = 16 ∨ opn q = 18 ∨ opn q = 20 := by unfold opn; split <;> (try split) <;> (try split) <;> omega
def ups (qs : List Nat) : List Tok := qs.flatMap fun q => [tk (opn q), tk 12]
def downs (qs : List Nat) : List Tok := qs.reverse.map fun q => tk (sht q)
/-- Only what closes. -/
def Cls (o : List Int) : Prop := ∀ x ∈ o, x = 15 ∨ x = 17 ∨ x = 19
theorem Cls.snoc {o : List Int} (h : Cls o) (q : Nat) : Cls (o ++ [sht q]) := fun x hx => by
  rcases List.mem_append.1 hx with hx | hx
  · exact h x hx
  · rw [List.mem_singleton.1 hx]; exact sht_in q
theorem st1_open {o : List Int} (h : Cls o) (q : Nat) : st1 o (opn q) = o ++ [sht q] := by
  unfold st1
  rw [if_neg, if_neg, cl_opn]
  · rw [cl_opn]; rcases sht_in q with h | h | h <;> omega
  · intro e
    have := h _ (List.mem_of_getLast? e)
    rcases opn_in q with h2 | h2 | h2 | h2 <;> omega
theorem st1_12 {o : List Int} (h : Cls o) : st1 o 12 = o := by
  unfold st1
  rw [if_neg, if_pos (by decide)]
  intro e
  have := h _ (List.mem_of_getLast? e)
  omega
theorem skS_ups (qs : List Nat) : ∀ o, Cls o → (qs ≠ [] ∨ o ≠ []) → skS (ups qs) o = o ++ qs.map sht ∧ skS (ups qs) o ≠ [] := by
  induction qs with
  | nil => intro o _ h; simpa [ups, skS] using h
  | cons q qs ih =>
    intro o ho _
    have e1 := st1_open ho q
    have e2 := st1_12 (ho.snoc q)
    obtain ⟨h1, h2⟩ := ih (o ++ [sht q]) (ho.snoc q) (.inr (by simp))
    have : skS (ups (q :: qs)) o = skS (ups qs) (o ++ [sht q]) := by
      show skS (tk (opn q) :: tk 12 :: ups qs) o = _
      simp only [skS]
      rw [show (tk (opn q)).f0 = opn q from rfl, show (tk 12).f0 = 12 from rfl, e1, e2, if_neg (by simp), if_neg (by simp)]
    rw [this, h1]
    exact ⟨by simp, by simp⟩
theorem ups_len (qs : List Nat) : (ups qs).length = 2 * qs.length := by
  induction qs with
  | nil => rfl
  | cons q qs ih => show (ups qs).length + 1 + 1 = _; rw [ih, List.length_cons]; omega
theorem st1_shut (o : List Int) (x : Int) : st1 (o ++ [x]) x = o := by
  unfold st1
  rw [if_pos (by simp)]
  simp
/-- What closes all that is open. -/
theorem skN_downs (qs : List Nat) (rest : List Tok) (h : qs ≠ []) : skN (downs qs ++ rest) (qs.map sht) = qs.length := by
  obtain ⟨rs, rfl⟩ : ∃ rs, qs = List.reverse rs := ⟨qs.reverse, by simp⟩
  have hrs : rs ≠ [] := by rintro rfl; exact h rfl
  have : ∀ rs : List Nat, rs ≠ [] → skN ((rs.map fun q => tk (sht q)) ++ rest) (rs.reverse.map sht) = rs.length := by
    intro rs
    induction rs with
    | nil => intro h; exact absurd rfl h
    | cons q rs ih =>
      intro _
      simp only [List.map_cons, List.cons_append, skN, List.reverse_cons, List.map_append, List.map_nil]
      rw [show (tk (sht q)).f0 = sht q from rfl, st1_shut]
      by_cases e : rs = []
      · subst e
        rfl
      · rw [if_neg (by simpa using e), ih e, List.length_cons]
        omega
  have h2 := this rs hrs
  unfold downs
  rw [List.reverse_reverse, List.length_reverse]
  exact h2
theorem ups_app (a b : List Nat) : ups (a ++ b) = ups a ++ ups b := by simp [ups]
/-- Where a nested thing ends. -/
theorem nest_end (qs : List Nat) (more : List Tok) (i : Nat) (hi : i < qs.length) : skV (ups qs ++ downs qs ++ more) (2 * i) = 3 * qs.length - i := by
  have hq : qs = qs.take i ++ qs.drop i := (List.take_append_drop i qs).symm
  have hd : (ups qs ++ downs qs ++ more).drop (2 * i) = ups (qs.drop i) ++ (downs qs ++ more) := by
    conv => lhs; rw [show ups qs = ups (qs.take i) ++ ups (qs.drop i) by rw [← ups_app, ← hq]]
    rw [List.append_assoc, List.append_assoc, List.drop_left' (by rw [ups_len]; simp; omega)]
  have hne : qs.drop i ≠ [] := by intro e; have := congrArg List.length e; simp at this; omega
  obtain ⟨h1, h2⟩ := skS_ups (qs.drop i) [] (fun x hx => by simp at hx) (.inl hne)
  have hdn : downs qs = downs (qs.drop i) ++ downs (qs.take i) := by
    unfold downs
    conv => lhs; rw [hq]
    rw [List.reverse_append, List.map_append]
  unfold skV
  rw [hd, (skN_app _ _ [] h2).1, h1, List.nil_append, hdn, List.append_assoc, skN_downs _ _ hne, ups_len]
  simp
  omega
theorem nest_open (qs : List Nat) (i : Nat) (hi : i < qs.length) : skV (ups qs) (2 * i) = 2 * qs.length := by
  have hq : qs = qs.take i ++ qs.drop i := (List.take_append_drop i qs).symm
  have hd : (ups qs).drop (2 * i) = ups (qs.drop i) := by
    conv => lhs; rw [show ups qs = ups (qs.take i) ++ ups (qs.drop i) by rw [← ups_app, ← hq]]
    rw [List.drop_left' (by rw [ups_len]; simp; omega)]
  have hne : qs.drop i ≠ [] := by intro e; have := congrArg List.length e; simp at this; omega
  obtain ⟨h1, h2⟩ := skS_ups (qs.drop i) [] (fun x hx => by simp at hx) (.inl hne)
  unfold skV
  rw [hd, skN_open _ _ h2, ups_len]
  simp
  omega
/-- The things that begin at i, one behind the other; j: behind the last. -/
def Chn (x0 : List Tok) : Nat → List { p : Nat // p < x0.length } → Nat → Prop
  | i, [], j => i = j
  | i, p :: ps, j => p.1 = i ∧ Chn x0 (skV x0 i) ps j
theorem Chn.snoc {x0 : List Tok} : ∀ {i : Nat} {ps : List { p : Nat // p < x0.length }} {j : Nat} (h : Chn x0 i ps j) (hj : j < x0.length), Chn x0 i (ps ++ [⟨j, hj⟩]) (skV x0 j)
  | i, [], j, h, hj => by
    obtain rfl : i = j := h
    exact ⟨rfl, rfl⟩
  | i, p :: ps, j, h, hj => ⟨h.1, Chn.snoc h.2 hj⟩
theorem Chn.len {x0 : List Tok} : ∀ {i : Nat} {ps : List { p : Nat // p < x0.length }} {j : Nat} (h : Chn x0 i ps j), i + ps.length ≤ j
  | i, [], j, h => by
    obtain rfl : i = j := h
    simp
  | i, p :: ps, j, h => by
    obtain ⟨rfl, h2⟩ := h
    have := Chn.len h2
    have := skV_lt x0 p.1 p.2
    simp
    omega
/-- Does a thing begin so? -/
def hit (x0 : List Tok) (a2 a3 : Int) (p : { p : Nat // p < x0.length }) : Prop := x0[p.1].f0 = a2 ∨ x0[p.1].f0 = a3
theorem find_none (x0 : List Tok) (a2 a3 : Int) : ∀ (ys : List { p : Nat // p < x0.length }) (i j : Nat), Chn x0 i ys j → x0.length ≤ j → (∀ y ∈ ys, ¬ hit x0 a2 a3 y) → fndV x0 a2 a3 i = x0.length
  | [], i, j, hc, hj, hn => by
    obtain rfl : i = j := hc
    rw [fndV, dif_neg (by omega)]
  | p :: ps, i, j, hc, hj, hn => by
    obtain ⟨rfl, h2⟩ := hc
    rw [fndV, dif_pos p.2, if_neg (show ¬ (x0[p.1].f0 = a2 ∨ x0[p.1].f0 = a3) from hn p (by simp))]
    exact find_none x0 a2 a3 ps _ j h2 hj (fun y hy => hn y (by simp [hy]))
theorem find_hit (x0 : List Tok) (a2 a3 : Int) : ∀ (ys : List { p : Nat // p < x0.length }) (x : { p : Nat // p < x0.length }) (i j : Nat), Chn x0 i (ys ++ [x]) j → (∀ y ∈ ys, ¬ hit x0 a2 a3 y) → hit x0 a2 a3 x → fndV x0 a2 a3 i = x.1
  | [], x, i, j, hc, hn, hx => by
    obtain ⟨rfl, h2⟩ := hc
    rw [fndV, dif_pos x.2, if_pos (show x0[x.1].f0 = a2 ∨ x0[x.1].f0 = a3 from hx)]
  | p :: ps, x, i, j, hc, hn, hx => by
    obtain ⟨rfl, h2⟩ := hc
    rw [fndV, dif_pos p.2, if_neg (show ¬ (x0[p.1].f0 = a2 ∨ x0[p.1].f0 = a3) from hn p (by simp))]
    exact find_hit x0 a2 a3 ps x _ j h2 (fun y hy => hn y (by simp [hy])) hx
end Go.Proofs.Ytknpdkfjmhpbpaa
