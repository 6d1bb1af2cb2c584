/- The reference's Skip. -/
import Derived.Test.YtoemgjlkjnkdbaaP2
import Derived.Test.YtoemgjlkjnkdbaaPSx13
namespace Go.Proofs.Ytoemgjlkjnkdbaa.PS
open Go.RowKit Go.Proofs.YtoemgjlkjnkdbaaW.PrintWords Go.Proofs.YtoemgjlkjnkdbaaW.PrintLast


theorem rclosing_f (k : Nat) (a : Int) : q_closing.f (k + 1) a = some (cl a) := by
  unfold q_closing.f cl
  by_cases h : a = 14
  · rw [if_pos h, if_pos h]
  · rw [if_neg h, if_neg h]
    by_cases h2 : a = 16
    · rw [if_pos h2, if_pos (.inl h2)]; simp [q_closing.j0, h2]
    · rw [if_neg h2]
      by_cases h3 : a = 20
      · rw [if_pos (.inr h3)]; simp [q_closing.j0, h3]
      · rw [if_neg (by simp [h2, h3])]
        simp only [q_closing.j0]
        rw [if_neg (by simpa using h3)]
        split <;> rfl
theorem rclosing_ev (a : Int) : Ev (fun k => q_closing.f k a) (cl a) := ⟨1, fun k hk => by
  obtain ⟨k, rfl⟩ : ∃ m, k = m + 1 := ⟨k - 1, by omega⟩
  exact rclosing_f k a⟩
theorem cl_nonneg (k : Int) : 0 ≤ cl k := by unfold cl; split <;> (try split) <;> (try split) <;> omega
/-- Only what closes stands open. -/
def Shut (o : List Int) : Prop := ∀ x ∈ o, cl x = 0
theorem cl_cl (k : Int) : cl (cl k) = 0 := by
  unfold cl
  split <;> (try split) <;> (try split) <;> simp_all <;> omega
theorem Shut.st1 {o : List Int} (h : Shut o) (k : Int) : Shut (st1 o k) := by
  unfold Go.Proofs.Ytoemgjlkjnkdbaa.PS.st1
  split
  · exact fun x hx => h x (List.dropLast_subset _ hx)
  · split
    · exact h
    · intro x hx
      rcases List.mem_append.1 hx with hx | hx
      · exact h x hx
      · rw [List.mem_singleton.1 hx]
        exact cl_cl k
/-- The document's order of the two questions. -/
theorem st1_ref {o : List Int} (h : Shut o) (k : Int) : st1 o k = if cl k > 0 then o ++ [cl k] else if o.getLast? = some k then o.dropLast else o := by
  unfold st1
  by_cases e : o.getLast? = some k
  · have hk : cl k = 0 := h k (List.mem_of_getLast? e)
    rw [if_pos e, if_neg (by omega), if_pos e]
  · rw [if_neg e]
    have := cl_nonneg k
    by_cases hc : cl k = 0
    · rw [if_pos hc, if_neg (by omega), if_neg e]
    · rw [if_neg hc, if_pos (by omega)]
theorem last_rd (o : List Int) (h : o ≠ []) : o.getLast? = some (rd o ((o.length - 1 : Nat) : Int)) := by
  have hp := List.length_pos_iff.2 h
  rw [List.getLast?_eq_getElem?, List.getElem?_eq_getElem (by omega)]
  simp [rd, List.getElem?_eq_getElem (show o.length - 1 < o.length by omega)]
theorem rSkip_l0 (ts : List S35) (hb : ts.length < 2932031007402) (i : Nat) (o : List Int) (hi : i < ts.length) (ho : o.length ≤ i) (hs : Shut o) :
    Ev (fun k => q_Skip.l0 k ts i o) ((i + skN (ts.drop i) o : Nat) : Int) := by
  induction hn : ts.length - i using Nat.strongRecOn generalizing i o with
  | _ n ih =>
    have hs2 := hs.st1 ts[i].f0
    have fin : ∀ o', o' = st1 o ts[i].f0 → o'.length ≤ i + 1 → Ev (fun k => if (o'.length : Int) = 0 then some (wrap64 ((i : Int) + 1)) else if wrap64 ((i : Int) + 1) = (ts.length : Int) then some (wrap64 ((i : Int) + 1)) else q_Skip.l0 k ts (wrap64 ((i : Int) + 1)) o') ((i + skN (ts.drop i) o : Nat) : Int) := by
      intro o' ho' hl
      rw [List.drop_eq_getElem_cons hi, wn i _ hi hb]
      simp only [skN]
      rw [← ho']
      by_cases h : o' = []
      · rw [if_pos h]
        exact Ev.congr (fun k => by rw [if_pos (by rw [h]; rfl)]) (Ev.now _)
      · have hp := List.length_pos_iff.2 h
        rw [if_neg h]
        by_cases he : i + 1 = ts.length
        · rw [List.drop_eq_nil_of_le (by omega)]
          exact Ev.congr (fun k => by rw [if_neg (by omega), if_pos (by omega)]; simp [skN]) (Ev.now _)
        · have := ih _ (by omega) (i + 1) o' (by omega) hl (by rw [ho']; exact hs2) rfl
          rw [show i + (1 + skN (ts.drop (i + 1)) o') = i + 1 + skN (ts.drop (i + 1)) o' by omega]
          exact Ev.congr (fun k => by rw [if_neg (by omega), if_neg (by omega)]) this
    have hr := st1_ref hs ts[i].f0
    refine Ev.step (f := fun k => (q_closing.f k ts[i].f0).bind fun t428 => (if t428 > 0 then (if o.length < 17592186044416 then ((some (o ++ [t428] : List Int)).bind fun y429 => (if (y429.length : Int) = 0 then (some (wrap64 ((i : Int) + 1))) else (if (wrap64 ((i : Int) + 1)) = (ts.length : Int) then (some (wrap64 ((i : Int) + 1))) else (q_Skip.l0 k ts (wrap64 ((i : Int) + 1)) y429)))) else (none)) else (if (o.length : Int) > 0 then (if 0 ≤ (wrap64 ((o.length : Int) - 1)) then (if (wrap64 ((o.length : Int) - 1)) < (o.length : Int) then (q_Skip.j2 k ts i o (ts[i].f0 == (rd o (wrap64 ((o.length : Int) - 1))))) else (none)) else (none)) else (q_Skip.j2 k ts i o false)))) (fun k => ?_) (Ev.bind (rclosing_ev _) ?_)
    · simp only [q_Skip.l0]
      rw [if_pos (by omega), if_pos (by omega), rdT _ _ hi]
    · by_cases hc : cl ts[i].f0 > 0
      · rw [if_pos hc] at hr
        exact Ev.congr (fun k => by rw [if_pos hc, if_pos (by omega), Option.bind_some]) (fin _ hr.symm (by simp; omega))
      · rw [if_neg hc] at hr
        have j2 : ∀ b : Bool, b = decide (o.getLast? = some ts[i].f0) → Ev (fun k => q_Skip.j2 k ts i o b) ((i + skN (ts.drop i) o : Nat) : Int) := by
          intro b hbb
          cases b with
          | true =>
            have hl : o.getLast? = some ts[i].f0 := by simpa using hbb.symm
            have hne : o ≠ [] := by rintro rfl; simp at hl
            have hp := List.length_pos_iff.2 hne
            have hw2 : wrap64 ((o.length : Int) - 1) = ((o.length - 1 : Nat) : Int) := by rw [w64 _ (by omega) (by omega)]; omega
            rw [if_pos hl] at hr
            refine Ev.step (fun k => ?_) (fin o.dropLast hr.symm (by simp; omega))
            simp only [q_Skip.j2]
            rw [if_pos trivial, hw2, if_pos (by omega), if_pos (by omega), Option.bind_some, Int.toNat_natCast, ← List.dropLast_eq_take]
          | false =>
            have hl : ¬ o.getLast? = some ts[i].f0 := by simpa using hbb.symm
            rw [if_neg hl] at hr
            refine Ev.step (fun k => ?_) (fin o hr.symm (by omega))
            simp only [q_Skip.j2]
            rw [if_neg (by simp)]
        by_cases hne : o = []
        · refine Ev.congr (fun k => ?_) (j2 false (by rw [hne]; simp))
          rw [if_neg hc, if_neg (by rw [hne]; simp)]
        · have hp := List.length_pos_iff.2 hne
          have hw2 : wrap64 ((o.length : Int) - 1) = ((o.length - 1 : Nat) : Int) := by rw [w64 _ (by omega) (by omega)]; omega
          refine Ev.congr (fun k => ?_) (j2 (ts[i].f0 == rd o ((o.length - 1 : Nat) : Int)) ?_)
          · rw [if_neg hc, if_pos (by omega), hw2, if_pos (by omega), if_pos (by omega)]
          · rw [last_rd o hne]
            by_cases h : ts[i].f0 = rd o ((o.length - 1 : Nat) : Int)
            · rw [beq_iff_eq.2 h, decide_eq_true (by rw [← h])]
            · rw [beq_eq_false_iff_ne.2 h, decide_eq_false (fun e => h (Option.some.inj e).symm)]
theorem rSkip_ev (ts : List S35) (hb : ts.length < 2932031007402) (i : Nat) (hi : i < ts.length) : Ev (fun k => q_Skip.f k ts i) (skV ts i : Int) := by
  refine Ev.congr (f := fun k => q_Skip.j0 k ts i false) (fun k => ?_) (Ev.step (fun k => ?_) (rSkip_l0 ts hb i [] hi (by simp) (fun x hx => by simp at hx)))
  · unfold q_Skip.f
    rw [if_neg (by omega), decide_eq_false (by omega)]
  · simp only [q_Skip.j0]
    rw [if_neg (by simp)]
end Go.Proofs.Ytoemgjlkjnkdbaa.PS
