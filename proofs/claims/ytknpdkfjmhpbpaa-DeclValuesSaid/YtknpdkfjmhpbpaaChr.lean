/- Classes of plain code points, in the reference. No condition but that they are plain. -/
import Derived.Test.YtknpdkfjmhpbpaaClose
import Derived.Test.YtknpdkfjmhpbpaaTokS
namespace Go.Proofs.Ytknpdkfjmhpbpaa
open Go.RowKit Go.Maps Go.ChangeShapes Go.WideShapes Go.ChangeAt Go.WideMaps Go.WideElems

/-- Plain code points, or none. -/
def okZ (c : Int) : Prop := (97 ≤ c ∧ c ≤ 122) ∨ (65 ≤ c ∧ c ≤ 90) ∨ c = -1 ∨ c = 32 ∨ c = 33 ∨ c = 58 ∨ c = 59 ∨ c = 123 ∨ c = 125
def letZ (c : Int) : Bool := decide (97 ≤ c ∧ c ≤ 122 ∨ 65 ≤ c ∧ c ≤ 90)
def sgnZ (c : Int) : Int := if c = 58 then 11 else if c = 59 then 12 else if c = 123 then 14 else if c = 125 then 15 else 0
def whZ (c : Int) : Bool := decide (c = 32)
theorem okZ_of {c : Nat} (h : okC c) : okZ (c : Int) := by
  unfold okC letN at h
  unfold okZ
  simp at h
  omega
theorem letZ_of (c : Nat) : letZ (c : Int) = letN c := by
  unfold letZ letN
  rw [decide_eq_decide]
  omega
theorem sgnZ_of (c : Nat) : sgnZ (c : Int) = sgnN c := by
  unfold sgnZ sgnN
  by_cases h1 : c = 58
  · subst h1; rfl
  · by_cases h2 : c = 59
    · subst h2; rfl
    · by_cases h3 : c = 123
      · subst h3; rfl
      · by_cases h4 : c = 125
        · subst h4; rfl
        · rw [if_neg (by omega), if_neg (by omega), if_neg (by omega), if_neg (by omega), if_neg h1, if_neg h2, if_neg h3, if_neg h4]
theorem whZ_of (c : Nat) : whZ (c : Int) = wh c := by
  unfold whZ wh
  rw [decide_eq_decide]
  omega

set_option maxRecDepth 100000 in
set_option maxHeartbeats 4000000 in
theorem nameStart_any (c : Int) (h : okZ c) (w : World) : Calls Try.prog 62 #[.int .i64 c] w fun e w' => e = .returned (.bool (letZ c)) ∧ w' = w := by
  rcases h with ⟨h1, h2⟩ | ⟨h1, h2⟩ | rfl | rfl | rfl | rfl | rfl | rfl | rfl
  · rw [show letZ c = true by unfold letZ; exact decide_eq_true (by omega)]
    have q0 : decide ((97 : Int) ≤ c) = true := decide_eq_true (by omega)
    have q1 : decide (c ≤ (122 : Int)) = true := decide_eq_true (by omega)
    go_enter Try.func62, Try.ntmps62
    go_wp2
    go_ret
    exact ⟨rfl, rfl⟩
  · rw [show letZ c = true by unfold letZ; exact decide_eq_true (by omega)]
    have q0 : decide ((97 : Int) ≤ c) = false := decide_eq_false (by omega)
    have q1 : decide ((65 : Int) ≤ c) = true := decide_eq_true (by omega)
    have q2 : decide (c ≤ (90 : Int)) = true := decide_eq_true (by omega)
    go_enter Try.func62, Try.ntmps62
    go_wp2
    go_ret
    exact ⟨rfl, rfl⟩
  · go_enter Try.func62, Try.ntmps62
    go_wp2
    go_ret
    exact ⟨rfl, rfl⟩
  · go_enter Try.func62, Try.ntmps62
    go_wp2
    go_ret
    exact ⟨rfl, rfl⟩
  · go_enter Try.func62, Try.ntmps62
    go_wp2
    go_ret
    exact ⟨rfl, rfl⟩
  · go_enter Try.func62, Try.ntmps62
    go_wp2
    go_ret
    exact ⟨rfl, rfl⟩
  · go_enter Try.func62, Try.ntmps62
    go_wp2
    go_ret
    exact ⟨rfl, rfl⟩
  · go_enter Try.func62, Try.ntmps62
    go_wp2
    go_ret
    exact ⟨rfl, rfl⟩
  · go_enter Try.func62, Try.ntmps62
    go_wp2
    go_ret
    exact ⟨rfl, rfl⟩
set_option maxRecDepth 100000 in
set_option maxHeartbeats 4000000 in
theorem digit_any (c : Int) (h : okZ c) (w : World) : Calls Try.prog 61 #[.int .i64 c] w fun e w' => e = .returned (.bool false) ∧ w' = w := by
  by_cases h1 : 48 ≤ c
  · have q0 : decide ((48 : Int) ≤ c) = true := decide_eq_true h1
    have q1 : decide (c ≤ (57 : Int)) = false := decide_eq_false (by unfold okZ at h; omega)
    go_enter Try.func61, Try.ntmps61
    go_wp2
    go_ret
    exact ⟨rfl, rfl⟩
  · have q0 : decide ((48 : Int) ≤ c) = false := decide_eq_false h1
    go_enter Try.func61, Try.ntmps61
    go_wp2
    go_ret
    exact ⟨rfl, rfl⟩
set_option maxRecDepth 100000 in
set_option maxHeartbeats 4000000 in
theorem namePoint_any (c : Int) (h : okZ c) (w : World) : Calls Try.prog 48 #[.int .i64 c] w fun e w' => e = .returned (.bool (letZ c)) ∧ w' = w := by
  have N := Lib.hid (nameStart_any c h)
  have D := Lib.hid (digit_any c h)
  have q45 : (c == 45) = false := by rw [beq_eq_false_iff_ne]; unfold okZ at h; omega
  generalize letZ c = b at *
  cases b with
  | true =>
    go_enter Try.func48, Try.ntmps48
    go_wp2_with (first
      | (go_at_call 62; refine (N.out _).mono ?_; rintro e w' ⟨rfl, rfl⟩)
      | (go_at_call 61; refine (D.out _).mono ?_; rintro e w' ⟨rfl, rfl⟩))
    go_ret
    exact ⟨rfl, rfl⟩
  | false =>
    go_enter Try.func48, Try.ntmps48
    go_wp2_with (first
      | (go_at_call 62; refine (N.out _).mono ?_; rintro e w' ⟨rfl, rfl⟩)
      | (go_at_call 61; refine (D.out _).mono ?_; rintro e w' ⟨rfl, rfl⟩))
    go_ret
    exact ⟨rfl, rfl⟩
set_option maxRecDepth 100000 in
set_option maxHeartbeats 4000000 in
theorem white_any (c : Int) (h : okZ c) (w : World) : Calls Try.prog 46 #[.int .i64 c] w fun e w' => e = .returned (.bool (whZ c)) ∧ w' = w := by
  have q9 : (c == 9) = false := by rw [beq_eq_false_iff_ne]; unfold okZ at h; omega
  have q10 : (c == 10) = false := by rw [beq_eq_false_iff_ne]; unfold okZ at h; omega
  have q32 : (c == 32) = whZ c := by unfold whZ; rw [Bool.eq_iff_iff]; simp
  generalize whZ c = b at *
  go_enter Try.func46, Try.ntmps46
  go_wp2
  go_ret
  exact ⟨rfl, rfl⟩
set_option maxRecDepth 100000 in
set_option maxHeartbeats 4000000 in
theorem right_any (c : Int) (h0 : 0 ≤ c) (h1 : c ≤ 127) (w : World) : Calls Try.prog 60 #[.int .i64 c] w fun e w' => e = .returned (.bool true) ∧ w' = w := by
  have q0 : decide ((0 : Int) ≤ c) = true := decide_eq_true h0
  have q1 : decide (c ≤ (1114111 : Int)) = true := decide_eq_true (by omega)
  have q2 : decide (c < (55296 : Int)) = true := decide_eq_true (by omega)
  go_enter Try.func60, Try.ntmps60
  go_wp2
  go_ret
  exact ⟨rfl, rfl⟩
set_option maxRecDepth 100000 in
set_option maxHeartbeats 4000000 in
theorem sign_any (c : Int) (h : okZ c) (w : World) : Calls Try.prog 52 #[.int .i64 c] w fun e w' => e = .returned (.int .i64 (sgnZ c)) ∧ w' = w := by
  rcases h with ⟨h1, h2⟩ | ⟨h1, h2⟩ | rfl | rfl | rfl | rfl | rfl | rfl | rfl
  · rw [show sgnZ c = 0 by unfold sgnZ; rw [if_neg (by omega), if_neg (by omega), if_neg (by omega), if_neg (by omega)]]
    have q0 : (c == 58) = false := by rw [beq_eq_false_iff_ne]; omega
    have q1 : (c == 59) = false := by rw [beq_eq_false_iff_ne]; omega
    have q2 : (c == 44) = false := by rw [beq_eq_false_iff_ne]; omega
    have q3 : (c == 123) = false := by rw [beq_eq_false_iff_ne]; omega
    have q4 : (c == 125) = false := by rw [beq_eq_false_iff_ne]; omega
    have q5 : (c == 40) = false := by rw [beq_eq_false_iff_ne]; omega
    have q6 : (c == 41) = false := by rw [beq_eq_false_iff_ne]; omega
    have q7 : (c == 91) = false := by rw [beq_eq_false_iff_ne]; omega
    have q8 : (c == 93) = false := by rw [beq_eq_false_iff_ne]; omega
    go_enter Try.func52, Try.ntmps52
    go_wp2
    go_ret
    exact ⟨rfl, rfl⟩
  · rw [show sgnZ c = 0 by unfold sgnZ; rw [if_neg (by omega), if_neg (by omega), if_neg (by omega), if_neg (by omega)]]
    have q0 : (c == 58) = false := by rw [beq_eq_false_iff_ne]; omega
    have q1 : (c == 59) = false := by rw [beq_eq_false_iff_ne]; omega
    have q2 : (c == 44) = false := by rw [beq_eq_false_iff_ne]; omega
    have q3 : (c == 123) = false := by rw [beq_eq_false_iff_ne]; omega
    have q4 : (c == 125) = false := by rw [beq_eq_false_iff_ne]; omega
    have q5 : (c == 40) = false := by rw [beq_eq_false_iff_ne]; omega
    have q6 : (c == 41) = false := by rw [beq_eq_false_iff_ne]; omega
    have q7 : (c == 91) = false := by rw [beq_eq_false_iff_ne]; omega
    have q8 : (c == 93) = false := by rw [beq_eq_false_iff_ne]; omega
    go_enter Try.func52, Try.ntmps52
    go_wp2
    go_ret
    exact ⟨rfl, rfl⟩
  · go_enter Try.func52, Try.ntmps52
    go_wp2
    go_ret
    exact ⟨rfl, rfl⟩
  · go_enter Try.func52, Try.ntmps52
    go_wp2
    go_ret
    exact ⟨rfl, rfl⟩
  · go_enter Try.func52, Try.ntmps52
    go_wp2
    go_ret
    exact ⟨rfl, rfl⟩
  · go_enter Try.func52, Try.ntmps52
    go_wp2
    go_ret
    exact ⟨rfl, rfl⟩
  · go_enter Try.func52, Try.ntmps52
    go_wp2
    go_ret
    exact ⟨rfl, rfl⟩
  · go_enter Try.func52, Try.ntmps52
    go_wp2
    go_ret
    exact ⟨rfl, rfl⟩
  · go_enter Try.func52, Try.ntmps52
    go_wp2
    go_ret
    exact ⟨rfl, rfl⟩
end Go.Proofs.Ytknpdkfjmhpbpaa
