/- ClockPass: the walk (printed by mkpass.py). -/
import Derived.Test.YtmfkomdfknflgaaLaw1
namespace Go.Proofs.Ytmfkomdfknflgaa
open Go.RowKit Go.Maps Go.ChangeShapes Go.WideShapes Go.ChangeAt Go.WideMaps Go.WideElems

set_option maxHeartbeats 2000000 in
theorem pass_law (a b cell flag : Int) (wt rd : Bool) (w : World) (hc : InR cell) (hf : InR flag) :
    Calls Try.prog 3 #[.int .i64 a, .int .i64 b, .int .i64 cell, .int .i64 flag, .bool wt, .bool rd] w fun e w' => e = .returned (.bool true) ∧ Fr (fun _ => False) w w' := by
  have AL := Lib.hid (alive_any w)
  go_enter Try.func3, Try.ntmps3
  go_wp2_with fail
  rename_i KK aa
  refine AL.out.mono ?_
  rintro e w1 ⟨rfl, f1⟩
  have F1 := Lib.hid f1
  clear AL f1
  show KK _ _
  apply aa
  clear aa
  by_cases c0 : a < 0
  · have d0 : decide (a < 0) = true := by simpa using c0
    clear c0
    go_wp2_with fail
    go_ret
    exact ⟨rfl, F1.out⟩
  have d0 : decide (a < 0) = false := by simpa using c0
  by_cases c1 : 63 < a
  · have d1 : decide (63 < a) = true := by simpa using c1
    clear c1
    go_wp2_with fail
    go_ret
    exact ⟨rfl, F1.out⟩
  have d1 : decide (63 < a) = false := by simpa using c1
  by_cases c2 : b < 0
  · have d2 : decide (b < 0) = true := by simpa using c2
    clear c2
    go_wp2_with fail
    go_ret
    exact ⟨rfl, F1.out⟩
  have d2 : decide (b < 0) = false := by simpa using c2
  by_cases c3 : 63 < b
  · have d3 : decide (63 < b) = true := by simpa using c3
    clear c3
    go_wp2_with fail
    go_ret
    exact ⟨rfl, F1.out⟩
  have d3 : decide (63 < b) = false := by simpa using c3
  by_cases c4 : a = b
  · have d4 : (a == b) = true := by simpa using c4
    clear c4
    go_wp2_with fail
    go_ret
    exact ⟨rfl, F1.out⟩
  have d4 : (a == b) = false := by simpa using c4
  by_cases c5 : cell = flag
  · have d5 : (cell == flag) = true := by simpa using c5
    clear c5
    go_wp2_with fail
    go_ret
    exact ⟨rfl, F1.out⟩
  have d5 : (cell == flag) = false := by simpa using c5
  obtain ⟨a, rfl⟩ := Int.eq_ofNat_of_zero_le (by omega : 0 ≤ a)
  obtain ⟨b, rfl⟩ := Int.eq_ofNat_of_zero_le (by omega : 0 ≤ b)
  obtain ⟨p1, p2⟩ := pass_pure (a := a) (b := b) (by omega) (by omega) (by omega) c5 wt rd
  have B0 := Bd.new 64
  have B1 := B0.doG ⟨a, cell, true, false⟩
  have N1 := doG_len (newG 64) ⟨a, cell, true, false⟩
  have P1 := Lib.hid (LS.new w w1 F1.out 64)
  rw [show nW 64 = 64 from rfl] at P1
  have A1 := Lib.hid (fun W bb (l : LS w W bb (newG 64)) => l.act B0 (by show 0 ≤ _; omega) ⟨a, cell, true, false⟩ hc)
  rw [p1] at A1
  clear p1 B0
  rw [show (newG 64).L.length = 0 from rfl] at N1
  generalize DoG (newG 64) ⟨a, cell, true, false⟩ = g1 at *
  have A2 := Lib.hid (fun W bb (l : LS w W bb g1) => l.act B1 (by omega) ⟨a, flag, true, true⟩ hf)
  obtain ⟨g2, hg2⟩ : ∃ g2, (if wt = true then DoG g1 ⟨a, flag, true, true⟩ else g1) = g2 := ⟨_, rfl⟩
  have B2 : Bd g2 := by
    rw [← hg2]; split
    · exact B1.doG _
    · exact B1
  have N2 : g2.L.length ≤ 2 := by
    rw [← hg2]; split
    · have := doG_len g1 ⟨a, flag, true, true⟩; omega
    · omega
  have A3 := Lib.hid (fun W bb (l : LS w W bb g2) => l.act B2 (by omega) ⟨b, flag, false, true⟩ hf)
  simp only [hg2] at p2
  obtain ⟨g3, hg3⟩ : ∃ g3, (if rd = true then DoG g2 ⟨b, flag, false, true⟩ else g2) = g3 := ⟨_, rfl⟩
  have B3 : Bd g3 := by
    rw [← hg3]; split
    · exact B2.doG _
    · exact B2
  have N3 : g3.L.length ≤ 3 := by
    rw [← hg3]; split
    · have := doG_len g2 ⟨b, flag, false, true⟩; omega
    · omega
  rw [hg3] at p2
  have A4 := Lib.hid (fun W bb (l : LS w W bb g3) => l.act B3 (by omega) ⟨b, cell, false, false⟩ hc)
  rw [p2] at A4
  unfold accV at A1 A2 A3 A4
  have G2 := Lib.hid hg2
  have G3 := Lib.hid hg3
  clear B1 B2 B3 N1 N2 N3 p2 hg2 hg3 hc hf c0 c1 c2 c3 c4 c5
  go_wp2_with fail
  rename_i KK2 aa2
  refine P1.out.mono ?_
  rintro e w2 ⟨bb, rfl, l2⟩
  have LL := Lib.hid l2
  clear l2 P1 F1
  show KK2 _ _
  apply aa2
  clear aa2
  cases wt <;> cases rd
  all_goals
    have e2 := G2.out
    have e3 := G3.out
    clear G2 G3
    simp only [Bool.false_eq_true, if_false, if_true] at e2 e3
    subst e2
    subst e3
    go_wp2_with (first
      | (go_at_call 10; with_reducible refine (A1.out _ _ LL.out).mono ?_; rintro e w5 ⟨rfl, l5⟩; have LL := Lib.hid l5; clear l5)
      | (go_at_call 10; with_reducible refine (A2.out _ _ LL.out).mono ?_; rintro e w5 ⟨rfl, l5⟩; have LL := Lib.hid l5; clear l5)
      | (go_at_call 10; with_reducible refine (A3.out _ _ LL.out).mono ?_; rintro e w5 ⟨rfl, l5⟩; have LL := Lib.hid l5; clear l5)
      | (go_at_call 10; with_reducible refine (A4.out _ _ LL.out).mono ?_; rintro e w5 ⟨rfl, l5⟩; have LL := Lib.hid l5; clear l5))
    go_ret
    exact ⟨rfl, LL.out.fr⟩
theorem clockPass_walk (a b cell flag : Int) (wt rd : Bool) (w : World) (_ : (Lit.int .i64 a).wf = true) (_ : (Lit.int .i64 b).wf = true) (h2 : (Lit.int .i64 cell).wf = true) (h3 : (Lit.int .i64 flag).wf = true) :
    Calls Try.prog 3 #[.int .i64 a, .int .i64 b, .int .i64 cell, .int .i64 flag, .bool wt, .bool rd] w fun e w' => e = .returned (.bool true) ∧ Below w.heap.size w w' := by
  refine (pass_law a b cell flag wt rd w (by simpa [InR, Lit.wf, IntKind.min, IntKind.max, IntKind.signed, IntKind.bits] using h2) (by simpa [InR, Lit.wf, IntKind.min, IntKind.max, IntKind.signed, IntKind.bits] using h3)).mono ?_
  exact fun _ _ h => ⟨h.1, h.2.below (Nat.le_refl _) (by simp)⟩
end Go.Proofs.Ytmfkomdfknflgaa
