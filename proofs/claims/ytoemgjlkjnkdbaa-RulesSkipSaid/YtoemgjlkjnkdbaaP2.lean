/- What the functions of rules tell: each as its plain word says. -/
import Derived.Test.YtoemgjlkjnkdbaaP1
import Derived.Test.YtoemgjlkjnkdbaaPSx5
import Derived.Test.YtoemgjlkjnkdbaaPSx3
import Derived.Test.YtoemgjlkjnkdbaaPSx4
namespace Go.Proofs.Ytoemgjlkjnkdbaa.PS
open Go.RowKit Go.Proofs.YtoemgjlkjnkdbaaW.PrintWords Go.Proofs.YtoemgjlkjnkdbaaW.PrintLast

theorem Skip_ev (ts : List S35) (hb : ts.length < 2932031007402) (i : Nat) (hi : i < ts.length) : Ev (fun k => rules_Skip.f k ts i) (skV ts i : Int) :=
  ⟨2 * ts.length + 3, fun k hk => skip_f ts hb i k hi hk⟩
theorem Skip_end (ts : List S35) : Ev (fun k => rules_Skip.f k ts (ts.length : Int)) (ts.length : Int) :=
  ⟨1, fun k hk => by
    obtain ⟨k, rfl⟩ : ∃ m, k = m + 1 := ⟨k - 1, by omega⟩
    show rules_Skip.f (k + 1) ts (ts.length : Int) = _
    unfold rules_Skip.f
    rw [if_neg (by omega), decide_eq_true (by omega)]
    simp [rules_Skip.j0]⟩
theorem Find_l0 (ts : List S35) (hb : ts.length < 2932031007402) (a b : Int) (i : Nat) (hi : i ≤ ts.length) : Ev (fun k => rules_Find.l0 k ts a b i) (fndV ts a b i : Int) := by
  induction hn : ts.length - i using Nat.strongRecOn generalizing i with
  | _ n ih =>
    rw [fndV]
    by_cases hlt : i < ts.length
    · rw [dif_pos hlt]
      have hv := skV_lt ts i hlt
      have hv2 := skV_le ts i (by omega)
      refine Ev.step (f := fun k => (rules_Skip.f k ts i).bind fun t => if ts[i].f0 = a then some (i : Int) else if ts[i].f0 = b then some (i : Int) else rules_Find.l0 k ts a b t) (fun k => ?_) ?_
      · simp only [rules_Find.l0]
        rw [if_pos (by omega), rdT _ _ hlt]
        congr 1
      · refine Ev.bind (Skip_ev ts hb i hlt) ?_
        by_cases h1 : ts[i].f0 = a
        · rw [if_pos (.inl h1)]
          exact Ev.congr (fun k => if_pos h1) (Ev.now _)
        · by_cases h2 : ts[i].f0 = b
          · rw [if_pos (.inr h2)]
            exact Ev.congr (fun k => by rw [if_neg h1, if_pos h2]) (Ev.now _)
          · rw [if_neg (by simp [h1, h2])]
            exact Ev.congr (fun k => by rw [if_neg h1, if_neg h2]) (ih _ (by omega) (skV ts i) hv2 rfl)
    · rw [dif_neg hlt]
      refine Ev.step (fun k => ?_) (Ev.now _)
      simp only [rules_Find.l0]
      rw [if_neg (by omega)]
theorem Find_ev (ts : List S35) (hb : ts.length < 2932031007402) (a b : Int) (i : Nat) (hi : i ≤ ts.length) : Ev (fun k => rules_Find.f k ts i a b) (fndV ts a b i : Int) :=
  Ev.congr (fun k => by unfold rules_Find.f; rw [if_pos (by simpa using hb)]) (Find_l0 ts hb a b i hi)
theorem wn (i n : Nat) (h : i < n) (hb : n < 2932031007402) : wrap64 ((i : Int) + 1) = ((i + 1 : Nat) : Int) := by
  rw [w64 _ (by omega) (by omega)]
  omega
theorem At_ev (ts : List S35) (hb : ts.length < 2932031007402) (i : Nat) (hi : i < ts.length) : Ev (fun k => rules_At.f k ts i) (atV ts i : Int) := by
  refine Ev.congr (f := fun k => (rules_Find.f k ts ((i + 1 : Nat) : Int) 12 14).bind fun t => rules_Skip.f k ts t) (fun k => ?_) ?_
  · unfold rules_At.f
    rw [wn i _ hi hb]
    congr 1
    funext t
    cases rules_Skip.f k ts t <;> rfl
  · refine Ev.bind (Find_ev ts hb 12 14 (i + 1) hi) ?_
    unfold atV
    by_cases h : fndV ts 12 14 (i + 1) < ts.length
    · rw [if_pos h]
      exact Skip_ev ts hb _ h
    · rw [if_neg h]
      have := fndV_le ts 12 14 (i + 1)
      rw [show fndV ts 12 14 (i + 1) = ts.length by omega]
      exact Skip_end ts
theorem Clone_ev (l : List S35) (hb : l.length < 2932031007402) : api_Token.f l = some l := by
  unfold api_Token.f
  rw [Option.bind_some, if_pos (by simpa using hb)]
  rfl
theorem cut_len (ts : List S35) (i j : Nat) : ((ts.take j).drop i).length ≤ ts.length := by
  simp
  omega
theorem inner_ev (ts : List S35) (hb : ts.length < 2932031007402) (i : Nat) (hi : i < ts.length) : Ev (fun k => rules_inner.f k ts i) ((ts.take (fndV ts 15 15 (i + 1))).drop (i + 1)) := by
  have h1 := fndV_ge ts 15 15 (i + 1) hi
  have h2 := fndV_le ts 15 15 (i + 1)
  unfold rules_inner.f
  rw [wn i _ hi hb]
  refine Ev.bind (Find_ev ts hb 15 15 (i + 1) hi) (Ev.congr (fun k => ?_) (Ev.now _))
  rw [if_pos (by omega), if_pos (by omega), if_pos (by omega), Int.toNat_natCast, Int.toNat_natCast, Clone_ev _ (by have := cut_len ts (i + 1) (fndV ts 15 15 (i + 1)); omega)]
  rfl
theorem Parse_l0 (ts : List S35) (hb : ts.length < 2932031007402) (i : Nat) (acc : List S37) (hi : i ≤ ts.length) (ha : acc.length ≤ i) : Ev (fun k => rules_Parse.l0 k ts acc i) (acc ++ parV ts i) := by
  induction hn : ts.length - i using Nat.strongRecOn generalizing i acc with
  | _ n ih =>
    rw [parV]
    by_cases hlt : i < ts.length
    · rw [dif_pos hlt]
      by_cases h9 : ts[i].f0 = 9
      · rw [if_pos h9]
        refine Ev.step (fun k => ?_) (ih _ (by omega) (i + 1) acc hlt (by omega) rfl)
        simp only [rules_Parse.l0]
        rw [if_pos (by omega), if_pos (by omega), rdT _ _ hlt, if_pos h9, wn i _ hlt hb]
      · rw [if_neg h9]
        by_cases h2 : ts[i].f0 = 2
        · rw [if_pos h2]
          have hv := atV_lt ts i hlt
          refine Ev.step (f := fun k => (rules_At.f k ts i).bind fun t => rules_Parse.l0 k ts acc t) (fun k => ?_) (Ev.bind (At_ev ts hb i hlt) (ih _ (by omega) (atV ts i) acc (atV_le ts i) (by omega) rfl))
          simp only [rules_Parse.l0]
          rw [if_pos (by omega), if_pos (by omega), rdT _ _ hlt, if_neg h9, if_pos h2]
        · rw [if_neg h2]
          have hg := fndV_ge ts 14 14 i hi
          have hle := fndV_le ts 14 14 i
          refine Ev.step (f := fun k => (rules_Find.f k ts i 14 14).bind fun t134 => (if t134 = (ts.length : Int) then (some acc) else (if (i : Int) ≤ t134 then (if t134 ≤ (ts.length : Int) then ((api_Token.f ((ts.take (t134 : Int).toNat).drop (i : Int).toNat)).bind fun t139 => ((rules_inner.f k ts t134).bind fun t142 => (if acc.length < 2932031007402 then ((rules_Skip.f k ts t134).bind fun t148 => (rules_Parse.l0 k ts (acc ++ [(⟨t139, t142⟩ : S37)]) t148)) else (none)))) else (none)) else (none)))) (fun k => ?_) (Ev.bind (Find_ev ts hb 14 14 i hi) ?_)
          · simp only [rules_Parse.l0]
            rw [if_pos (by omega), if_pos (by omega), rdT _ _ hlt, if_neg h9, if_neg h2]
          · by_cases hf : fndV ts 14 14 i < ts.length
            · rw [dif_pos hf]
              have hv := skV_lt ts _ hf
              refine Ev.congr (f := fun k => (rules_inner.f k ts (fndV ts 14 14 i : Int)).bind fun t142 => (rules_Skip.f k ts (fndV ts 14 14 i : Int)).bind fun t148 => rules_Parse.l0 k ts (acc ++ [(⟨(ts.take (fndV ts 14 14 i)).drop i, t142⟩ : S37)]) t148) (fun k => ?_) ?_
              · rw [if_neg (by omega), if_pos (by omega), if_pos (by omega), Int.toNat_natCast, Int.toNat_natCast, Clone_ev _ (by have := cut_len ts i (fndV ts 14 14 i); omega), Option.bind_some]
                congr 1
                funext t142
                rw [if_pos (by omega)]
              · refine Ev.bind (inner_ev ts hb _ hf) (Ev.bind (Skip_ev ts hb _ hf) ?_)
                have := ih _ (by omega) (skV ts (fndV ts 14 14 i)) (acc ++ [⟨(ts.take (fndV ts 14 14 i)).drop i, (ts.take (fndV ts 15 15 (fndV ts 14 14 i + 1))).drop (fndV ts 14 14 i + 1)⟩]) (skV_le _ _ (by omega)) (by simp; omega) rfl
                rw [List.append_assoc] at this
                exact this
            · rw [dif_neg hf, List.append_nil]
              refine Ev.congr (fun k => ?_) (Ev.now _)
              rw [if_pos (by omega)]
    · rw [dif_neg hlt, List.append_nil]
      refine Ev.step (fun k => ?_) (Ev.now _)
      simp only [rules_Parse.l0]
      rw [if_neg (by omega)]
/-- rules.Parse tells the rules. -/
theorem Parse_ev (ts : List S35) (hb : ts.length < 2932031007402) : Ev (fun k => rules_Parse.f k ts) (parV ts 0) := by
  have := Parse_l0 ts hb 0 [] (Nat.zero_le _) (Nat.le_refl _)
  exact this
end Go.Proofs.Ytoemgjlkjnkdbaa.PS
