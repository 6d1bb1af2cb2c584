/- The law's own alive and Big. -/
import Derived.Test.YtoemgjlkjnkdbaaP2
import Derived.Test.YtoemgjlkjnkdbaaPSx12
import Derived.Test.YtoemgjlkjnkdbaaPSx12
namespace Go.Proofs.Ytoemgjlkjnkdbaa.PS
open Go.RowKit Go.Proofs.YtoemgjlkjnkdbaaW.PrintWords Go.Proofs.YtoemgjlkjnkdbaaW.PrintLast

theorem w1 (n : Nat) (h : 0 < n) (hb : n < 2932031007402) : wrap64 ((n : Int) - 1) = ((n - 1 : Nat) : Int) := by
  rw [w64 _ (by omega) (by omega)]
  omega
theorem skV_one (ts : List S35) (i : Nat) (hi : i < ts.length) (h : cl ts[i].f0 = 0) : skV ts i = i + 1 := by
  unfold skV
  rw [List.drop_eq_getElem_cons hi]
  have : st1 [] ts[i].f0 = [] := by
    unfold st1
    rw [if_neg (by simp), if_pos h]
  simp only [skN, this]
  rfl
theorem alive_now (k : Nat) : v_alive.f (k + 60) = some true := by kernel_rfl
theorem alive_ev : Ev (fun k => v_alive.f k) true := ⟨60, fun k hk => by obtain ⟨m, rfl⟩ : ∃ m, k = m + 60 := ⟨k - 60, by omega⟩; exact alive_now m⟩
/-- Are tokens too many, or too great? -/
theorem Big_l0 (ts : List S35) (hb : ts.length ≤ 9223372036854775807) (i : Nat) (hi : i ≤ ts.length) : ∃ b, Ev (fun k => v_Big.l0 k ts i) b ∧ (b = false → ts.length ≤ 500 ∧ ∀ j (h : j < ts.length), i ≤ j → ts[j].f1.size ≤ 300) := by
  induction hn : ts.length - i using Nat.strongRecOn generalizing i with
  | _ n ih =>
    by_cases hlt : i < ts.length
    · by_cases hg : (ts[i].f1.size : Int) > 300
      · refine ⟨true, Ev.step (fun k => ?_) (Ev.now _), fun h => by cases h⟩
        simp only [v_Big.l0]
        rw [if_pos (by omega), if_pos (by omega), rdT _ _ hlt, if_pos hg]
      · obtain ⟨b, h1, h2⟩ := ih _ (by omega) (i + 1) hlt rfl
        refine ⟨b, Ev.step (fun k => ?_) h1, fun h => ⟨(h2 h).1, fun j hj hij => ?_⟩⟩
        · simp only [v_Big.l0]
          rw [if_pos (by omega), if_pos (by omega), rdT _ _ hlt, if_neg hg, w64 _ (by omega) (by omega)]
          rfl
        · rcases Nat.eq_or_lt_of_le hij with e | e
          · subst e
            omega
          · exact (h2 h).2 j hj e
    · refine ⟨decide ((ts.length : Int) > 500), Ev.step (fun k => ?_) (Ev.now _), fun h => ⟨by have := of_decide_eq_false h; omega, fun j hj hij => by omega⟩⟩
      simp only [v_Big.l0]
      rw [if_neg (by omega)]
theorem Big_ev (ts : List S35) (hb : ts.length ≤ 9223372036854775807) : ∃ b, Ev (fun k => v_Big.f k ts) b ∧ (b = false → ts.length ≤ 500 ∧ ∀ j (h : j < ts.length), ts[j].f1.size ≤ 300) := by
  obtain ⟨b, h1, h2⟩ := Big_l0 ts hb 0 (Nat.zero_le _)
  exact ⟨b, h1, fun h => ⟨(h2 h).1, fun j hj => (h2 h).2 j hj (Nat.zero_le _)⟩⟩
end Go.Proofs.Ytoemgjlkjnkdbaa.PS
