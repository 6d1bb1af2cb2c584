/- New's plain law: as the reference's; children, places, counts. -/
import Derived.Test.YtdbhcogafhhlnaaDLaw1
import Derived.Test.YtdbhcogafhhlnaaRTreeW
namespace Go.Proofs.Ytdbhcogafhhlnaa
open Go.RowKit Go.Maps Go.ChangeShapes Go.WideShapes Go.ChangeAt Go.WideMaps Go.WideElems

theorem stepP_bad {els : List ElD} {d : NodeD} (h : badP els.length d.par) : stepP els d = .inl 10 := by unfold stepP; rw [if_pos h]
theorem stepP_root {els : List ElD} {d : NodeD} (h : ¬ badP els.length d.par) (h0 : els.length = 0) : stepP els d = .inr [⟨d, [], 0, 1, -1⟩] := by
  unfold stepP
  rw [if_neg h, List.getElem?_eq_none (by omega)]
theorem stepP_kid {els : List ElD} {d : NodeD} (h : ¬ badP els.length d.par) (h0 : 0 < els.length) : ∃ (p : Nat) (x : ElD), d.par = (p : Int) ∧ els[p]? = some x ∧ stepP els d = if 256 < x.dep + 1 then .inl 11 else .inr (kidE els p x ++ [newE d x]) := by
  have hp : 0 ≤ d.par ∧ d.par < els.length := by unfold badP at h; omega
  obtain ⟨p, hpp⟩ := Int.eq_ofNat_of_zero_le hp.1
  have hlt : p < els.length := by omega
  refine ⟨p, els[p], hpp, List.getElem?_eq_getElem hlt, ?_⟩
  unfold stepP
  rw [if_neg h, hpp, Int.toNat_natCast, List.getElem?_eq_getElem hlt]

theorem kidE_len (els : List ElD) (p : Nat) (x : ElD) : (kidE els p x).length = els.length := by simp [kidE]
theorem kidE_dep {els : List ElD} {p : Nat} {x : ElD} (h : els[p]? = some x) : (kidE els p x).map ElD.dep = els.map ElD.dep := by
  unfold kidE
  apply List.ext_getElem?
  intro i
  rw [List.getElem?_map, List.getElem?_map, List.getElem?_set]
  by_cases e : p = i
  · subst e
    rw [if_pos rfl, if_pos (List.getElem?_eq_some_iff.1 h).1, h]
    rfl
  · rw [if_neg e]

theorem err_aux (ds : List NodeD) (n k : Nat) (els : List ElD) (hn : k + n = ds.length) (hl : els.length = k) (hd : els.map ElD.dep = R.dps ds k) :
    (R.errFrom ds n k = 0 ∧ ∃ els', runP els (ds.drop k) = .inr els') ∨ (R.errFrom ds n k ≠ 0 ∧ runP els (ds.drop k) = .inl (R.errFrom ds n k)) := by
  induction n generalizing k els with
  | zero =>
    left
    rw [show k = ds.length by omega, List.drop_length]
    exact ⟨rfl, els, rfl⟩
  | succ n ih =>
    have hk : k < ds.length := by omega
    obtain ⟨d, hdd⟩ : ∃ d, ds[k]? = some d := ⟨ds[k], List.getElem?_eq_getElem hk⟩
    have hpar : (ds[k]?.map NodeD.par).getD 0 = d.par := by rw [hdd]; rfl
    by_cases hb : badP els.length d.par
    · right
      have hs : R.stepE ds k = 10 := by
        unfold R.stepE
        rw [hpar, if_pos (by rw [← hl]; exact hb)]
      rw [R.errFrom_stop _ _ _ (by rw [hs]; decide), hs]
      exact ⟨by decide, runP_stop hdd (stepP_bad hb)⟩
    · rcases Nat.eq_zero_or_pos els.length with h0 | h0
      · have hst := stepP_root hb h0
        have hk0 : k = 0 := by omega
        have hs : R.stepE ds k = 0 := by
          unfold R.stepE
          rw [hpar, if_neg (by rw [← hl]; exact hb)]
          unfold R.dpAt
          rw [if_pos hk0]
          rfl
        rw [R.errFrom_skip _ _ _ hs, runP_skip hdd hst]
        refine ih (k + 1) _ (by omega) (by simp [hk0]) ?_
        rw [R.dps_succ, ← hd, List.eq_nil_of_length_eq_zero h0]
        unfold R.dpAt
        rw [if_pos hk0]
        rfl
      · obtain ⟨p, x, hp, hx, hst⟩ := stepP_kid hb h0
        have hdx : R.dpAt ds k = x.dep + 1 := by
          unfold R.dpAt
          rw [if_neg (by omega), hpar, hp, Int.toNat_natCast, ← hd, List.getD_eq_getElem?_getD, List.getElem?_map, hx]
          rfl
        by_cases hdeep : 256 < x.dep + 1
        · right
          rw [if_pos hdeep] at hst
          have hs : R.stepE ds k = 11 := by
            unfold R.stepE
            rw [hpar, if_neg (by rw [← hl]; exact hb), hdx, if_pos hdeep]
          rw [R.errFrom_stop _ _ _ (by rw [hs]; decide), hs]
          exact ⟨by decide, runP_stop hdd hst⟩
        · rw [if_neg hdeep] at hst
          have hs : R.stepE ds k = 0 := by
            unfold R.stepE
            rw [hpar, if_neg (by rw [← hl]; exact hb), hdx, if_neg hdeep]
          rw [R.errFrom_skip _ _ _ hs, runP_skip hdd hst]
          refine ih (k + 1) _ (by omega) (by rw [List.length_append, kidE_len]; simp [hl]) ?_
          rw [R.dps_succ, List.map_append, kidE_dep hx, hd, hdx]
          rfl

/-- Which nodes are a tree: both say the same. -/
theorem err_new (ds : List NodeD) : (R.errN ds = 0 ∧ ∃ els, newR ds = .inr els) ∨ (R.errN ds ≠ 0 ∧ newR ds = .inl (R.errN ds)) := by
  unfold R.errN newR
  by_cases h : 4096 < ds.length
  · rw [if_pos h, if_pos h]
    exact .inr ⟨by decide, rfl⟩
  · rw [if_neg h, if_neg h]
    have := err_aux ds ds.length 0 [] (by omega) rfl rfl
    rw [List.drop_zero] at this
    exact this

/-- Children, places, and what stands ahead. -/
def KidK (els : List ElD) : Prop := ∀ (e : Nat) x, els[e]? = some x → ∀ (i : Nat) c, x.kids[i]? = some c → ∃ (j : Nat) (y : ElD), c = (j : Int) ∧ els[j]? = some y ∧ y.nd.par = (e : Int) ∧ y.plc = (i : Int) + 1 ∧ y.bef = (x.kids.take i).getLastD (-1)
def kidSum (els : List ElD) : Nat := (els.map fun x => x.kids.length).sum

theorem sum_set (l : List Nat) (p a b : Nat) (h : l[p]? = some a) : (l.set p b).sum + a = l.sum + b := by
  induction l generalizing p with
  | nil => simp at h
  | cons x r ih =>
    cases p with
    | zero => simp at h; subst h; simp; omega
    | succ p =>
      simp at h
      have := ih p h
      simp
      omega

theorem step_kids {els els' : List ElD} {d : NodeD} (h : KidK els) (hs : stepP els d = .inr els') : KidK els' ∧ (els.length = 0 → kidSum els' = 0) ∧ (0 < els.length → kidSum els' = kidSum els + 1) := by
  by_cases hb : badP els.length d.par
  · rw [stepP_bad hb] at hs; cases hs
  rcases Nat.eq_zero_or_pos els.length with h0 | h0
  · rw [stepP_root hb h0] at hs
    cases hs
    refine ⟨fun e x hx i c hc => ?_, fun _ => rfl, fun h1 => by omega⟩
    cases e with
    | zero => simp at hx; subst hx; simp at hc
    | succ e => simp at hx
  · obtain ⟨p, x, hp, hx, hst⟩ := stepP_kid hb h0
    rw [hst] at hs
    split at hs
    · cases hs
    cases hs
    have hpl := (List.getElem?_eq_some_iff.1 hx).1
    have hkl := kidE_len els p x
    -- an element of the old ones stands there still
    have old : ∀ (j : Nat) y, els[j]? = some y → ∃ y', (kidE els p x ++ [newE d x])[j]? = some y' ∧ y'.nd = y.nd ∧ y'.plc = y.plc ∧ y'.bef = y.bef := by
      intro j y hy
      have hj := (List.getElem?_eq_some_iff.1 hy).1
      rw [List.getElem?_append_left (by rw [hkl]; exact hj)]
      unfold kidE
      rw [List.getElem?_set]
      by_cases e : p = j
      · subst e
        rw [hx] at hy
        cases hy
        rw [if_pos rfl, if_pos hj]
        exact ⟨_, rfl, rfl, rfl, rfl⟩
      · rw [if_neg e]
        exact ⟨y, hy, rfl, rfl, rfl⟩
    refine ⟨fun e z hz i c hc => ?_, fun h1 => by omega, fun _ => ?_⟩
    · rcases Nat.lt_trichotomy e els.length with he | he | he
      · rw [List.getElem?_append_left (by rw [hkl]; exact he)] at hz
        unfold kidE at hz
        rw [List.getElem?_set] at hz
        by_cases ep : p = e
        · subst ep
          rw [if_pos rfl, if_pos hpl] at hz
          cases hz
          simp only at hc
          rcases Nat.lt_trichotomy i x.kids.length with hi | hi | hi
          · rw [List.getElem?_append_left hi] at hc
            obtain ⟨j, y, e1, e2, e3, e4, e5⟩ := h p x hx i c hc
            obtain ⟨y', f1, f2, f3, f4⟩ := old j y e2
            refine ⟨j, y', e1, f1, by rw [f2]; exact e3, by rw [f3]; exact e4, ?_⟩
            rw [f4, e5]
            simp only
            rw [List.take_append_of_le_length (Nat.le_of_lt hi)]
          · subst hi
            rw [List.getElem?_append_right (Nat.le_refl _), Nat.sub_self] at hc
            simp at hc
            refine ⟨els.length, newE d x, hc.symm, ?_, hp, rfl, ?_⟩
            · rw [List.getElem?_append_right (by rw [hkl]; exact Nat.le_refl _), hkl, Nat.sub_self]
              rfl
            · simp only
              rw [List.take_append_of_le_length (Nat.le_refl _), List.take_length]
              rfl
          · rw [List.getElem?_eq_none (by simp; omega)] at hc
            cases hc
        · rw [if_neg ep] at hz
          obtain ⟨j, y, e1, e2, e3, e4, e5⟩ := h e z hz i c hc
          obtain ⟨y', f1, f2, f3, f4⟩ := old j y e2
          exact ⟨j, y', e1, f1, by rw [f2]; exact e3, by rw [f3]; exact e4, by rw [f4]; exact e5⟩
      · subst he
        rw [List.getElem?_append_right (by rw [hkl]; exact Nat.le_refl _), hkl, Nat.sub_self] at hz
        simp at hz
        subst hz
        simp [newE] at hc
      · rw [List.getElem?_eq_none (by rw [List.length_append, hkl]; simp; omega)] at hz
        cases hz
    · unfold kidSum kidE
      rw [List.map_append, List.sum_append, List.map_set]
      have := sum_set (els.map fun x => x.kids.length) p x.kids.length (x.kids.length + 1) (by rw [List.getElem?_map, hx]; rfl)
      simp [newE] at *
      omega

theorem run_kids (ds : List NodeD) (els els' : List ElD) (h : KidK els) (hI : InvE els) (hS : 0 < els.length → kidSum els + 1 = els.length) (hs : runP els ds = .inr els') :
    KidK els' ∧ InvE els' ∧ els'.length = els.length + ds.length ∧ (0 < els'.length → kidSum els' + 1 = els'.length) := by
  induction ds generalizing els with
  | nil => cases hs; exact ⟨h, hI, rfl, hS⟩
  | cons d r ih =>
    simp only [runP] at hs
    cases hst : stepP els d with
    | inl n => rw [hst] at hs; cases hs
    | inr e2 =>
      rw [hst] at hs
      obtain ⟨k1, k2, k3⟩ := step_kids h hst
      obtain ⟨i1, i2⟩ := stepP_inv hI hst
      obtain ⟨a, b, c, e⟩ := ih e2 k1 i1 (fun _ => by
        rcases Nat.eq_zero_or_pos els.length with h0 | h0
        · rw [k2 h0, i2, h0]
        · rw [k3 h0, i2, hS h0]) hs
      exact ⟨a, b, by rw [c, i2, List.length_cons]; omega, e⟩
theorem new_kids (ds : List NodeD) (els : List ElD) (hs : newR ds = .inr els) : KidK els ∧ InvE els ∧ els.length = ds.length ∧ (0 < els.length → kidSum els + 1 = els.length) := by
  unfold newR at hs
  split at hs
  · cases hs
  · obtain ⟨a, b, c, e⟩ := run_kids ds [] els (fun e x hx => by simp at hx) (fun x hx => by simp at hx) (fun h => by simp at h) hs
    exact ⟨a, b, by simpa using c, e⟩
end Go.Proofs.Ytdbhcogafhhlnaa
