/- RulesSkip, plain. -/
import Derived.Test.YtoemgjlkjnkdbaaP5a
import Derived.Test.YtoemgjlkjnkdbaaP3a
import Derived.Test.YtoemgjlkjnkdbaaPSx23
namespace Go.Proofs.Ytoemgjlkjnkdbaa.PS
open Go.RowKit Go.Proofs.YtoemgjlkjnkdbaaW.PrintWords Go.Proofs.YtoemgjlkjnkdbaaW.PrintLast

/-- RulesSkip, plain. -/
theorem RulesSkip_pure (ts : List S35) (i : Int) (hb : ts.length ≤ 9223372036854775807) : Ev (fun k => v_RulesSkip.f k ts i) true := by
  obtain ⟨b, h1, h2⟩ := Big_ev ts hb
  unfold v_RulesSkip.f
  refine Ev.bind alive_ev (Ev.bind h1 (Ev.congr (fun k => if_pos rfl) ?_))
  cases b with
  | true => exact Ev.step (f := fun _ => some true) (fun k => by simp [v_RulesSkip.j0]) (Ev.now _)
  | false =>
    have hl := (h2 rfl).1
    have hb2 : ts.length < 2932031007402 := by omega
    refine Ev.step (f := fun k => (rules_Skip.f k ts i).bind fun t522 => (q_Skip.f k ts i).bind fun t523 => if t522 = t523 then (if i < 0 then some true else if i ≥ (ts.length : Int) then some true else if t522 > i then some (decide (t522 ≤ (ts.length : Int))) else some false) else some false) (fun k => ?_) ?_
    · simp only [v_RulesSkip.j0]
      rw [if_neg (by simp)]
    · by_cases hin : 0 ≤ i ∧ i < (ts.length : Int)
      · obtain ⟨j, rfl⟩ := Int.eq_ofNat_of_zero_le hin.1
        have hj : j < ts.length := by omega
        have hv := skV_lt ts j hj
        have hv2 := skV_le ts j (by omega)
        refine Ev.bind (Skip_ev ts hb2 j hj) (Ev.bind (rSkip_ev ts hb2 j hj) (Ev.congr (fun k => ?_) (Ev.now _)))
        rw [if_pos rfl, if_neg (by omega), if_neg (by omega), if_pos (by omega), decide_eq_true (by omega)]
      · have e1 : Ev (fun k => rules_Skip.f k ts i) i := ⟨1, fun k hk => by
          obtain ⟨k, rfl⟩ : ∃ m, k = m + 1 := ⟨k - 1, by omega⟩
          show rules_Skip.f (k + 1) ts i = _
          unfold rules_Skip.f
          by_cases hn : i < 0
          · rw [if_pos hn]; simp [rules_Skip.j0]
          · rw [if_neg hn, decide_eq_true (by omega)]; simp [rules_Skip.j0]⟩
        have e2 : Ev (fun k => q_Skip.f k ts i) i := ⟨1, fun k hk => by
          obtain ⟨k, rfl⟩ : ∃ m, k = m + 1 := ⟨k - 1, by omega⟩
          show q_Skip.f (k + 1) ts i = _
          unfold q_Skip.f
          by_cases hn : i < 0
          · rw [if_pos hn]; simp [q_Skip.j0]
          · rw [if_neg hn, decide_eq_true (by omega)]; simp [q_Skip.j0]⟩
        refine Ev.bind e1 (Ev.bind e2 (Ev.congr (fun k => ?_) (Ev.now _)))
        rw [if_pos rfl]
        by_cases hn : i < 0
        · rw [if_pos hn]
        · rw [if_neg hn, if_pos (by omega)]
end Go.Proofs.Ytoemgjlkjnkdbaa.PS
