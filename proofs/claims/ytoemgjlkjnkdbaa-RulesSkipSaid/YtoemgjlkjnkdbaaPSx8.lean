-- Written by wip/xprint.py, gen2.py and squeeze.py of this session, over the printer of the kit; not that printer's own output.
import Derived.Test.YtoemgjlkjnkdbaaPSx0
import Derived.Test.YtoemgjlkjnkdbaaPSx5
import Derived.Test.YtoemgjlkjnkdbaaPSx7
namespace Go.Proofs.Ytoemgjlkjnkdbaa.PS
open Go.RowKit Go.Proofs.YtoemgjlkjnkdbaaW.PrintWords Go.Proofs.YtoemgjlkjnkdbaaW.PrintLast
open Go.Proofs.YtoemgjlkjnkdbaaW.PrintWords.Aside0 renaming mk → aM
open Go.Proofs.YtoemgjlkjnkdbaaW.PrintWords.Drawn0 renaming refl → dR, step → dS
open Option renaming bind_eq_some_iff → oB
open List renaming length_take → lT, length_drop → lD, map_toArray → mT, map_cons → mC, map_nil → mN
set_option linter.unusedVariables false
set_option linter.unusedSimpArgs false

mutual
def q_Num.j0 : Nat → ByteArray → Int → Bool → Bool → Option (Int × Bool)
 | 0, _, _, _, _ => none
 | k + 1, x0, x4, x5, x26 => if x26 = true then (if 0 ≤ x4 then (if x4 < (x0.size : Int) then (q_Num.j1 k x0 (wrap64 (x4 + 1)) ((bt x0 x4) == 45)) else (none)) else (none)) else (q_Num.j1 k x0 x4 x5)
def q_Num.j1 : Nat → ByteArray → Int → Bool → Option (Int × Bool)
 | 0, _, _, _ => none
 | k + 1, x0, x4, x5 => q_Num.l0 k x0 x4 x5 0 0
def q_Num.l0 : Nat → ByteArray → Int → Bool → Int → Int → Option (Int × Bool)
 | 0, _, _, _, _, _ => none
 | k + 1, x0, x4, x5, x6, x7 => if x4 < (x0.size : Int) then (if 0 ≤ x4 then ((q_digit.f (wrap64 (bt x0 x4))).bind fun t249 => (q_Num.j3 k x0 x4 x5 x6 x7 t249)) else (none)) else (q_Num.j3 k x0 x4 x5 x6 x7 false)
def q_Num.j3 : Nat → ByteArray → Int → Bool → Int → Int → Bool → Option (Int × Bool)
 | 0, _, _, _, _, _, _ => none
 | k + 1, x0, x4, x5, x6, x7, x43 => if x43 = true then (if 0 ≤ x4 then (if x4 < (x0.size : Int) then (if (wrap64 ((wrap64 ((wrap64 (x6 * 10)) + (wrap64 (bt x0 x4)))) - 48)) > 2147483647 then (q_Num.l0 k x0 (wrap64 (x4 + 1)) x5 2147483647 (wrap64 (x7 + 1))) else (q_Num.l0 k x0 (wrap64 (x4 + 1)) x5 (wrap64 ((wrap64 ((wrap64 (x6 * 10)) + (wrap64 (bt x0 x4)))) - 48)) (wrap64 (x7 + 1)))) else (none)) else (none)) else (if x4 < (x0.size : Int) then (if 0 ≤ x4 then (q_Num.j4 k x0 x4 x5 (wrap64 (x6 * 1000)) x7 0 ((bt x0 x4) == 46)) else (none)) else (q_Num.j4 k x0 x4 x5 (wrap64 (x6 * 1000)) x7 0 false))
def q_Num.j4 : Nat → ByteArray → Int → Bool → Int → Int → Int → Bool → Option (Int × Bool)
 | 0, _, _, _, _, _, _, _ => none
 | k + 1, x0, x4, x5, x6, x7, x8, x9 => if x9 = true then (q_Num.l1 k x0 (wrap64 (x4 + 1)) x5 x6 x7 x8 x9 100) else (q_Num.j6 k x0 x4 x5 x6 x7 x8 x9)
def q_Num.j6 : Nat → ByteArray → Int → Bool → Int → Int → Int → Bool → Option (Int × Bool)
 | 0, _, _, _, _, _, _, _ => none
 | k + 1, x0, x4, x5, x6, x7, x8, x9 => if x4 = (x0.size : Int) then (if x9 = true then (if x8 = 0 then (q_Num.j7 k x5 x6 true) else (q_Num.j7 k x5 x6 false)) else (q_Num.j7 k x5 x6 (x7 == 0))) else (q_Num.j7 k x5 x6 true)
def q_Num.j7 : Nat → Bool → Int → Bool → Option (Int × Bool)
 | 0, _, _, _ => none
 | k + 1, x5, x6, x117 => if x117 = true then (some (0, false)) else (if x5 = true then ((q_Cap.f (wrap64 (-x6))).bind fun t251 => (some (t251, true))) else ((q_Cap.f x6).bind fun t252 => (some (t252, true))))
def q_Num.l1 : Nat → ByteArray → Int → Bool → Int → Int → Int → Bool → Int → Option (Int × Bool)
 | 0, _, _, _, _, _, _, _, _ => none
 | k + 1, x0, x4, x5, x6, x7, x8, x9, x10 => if x4 < (x0.size : Int) then (if 0 ≤ x4 then ((q_digit.f (wrap64 (bt x0 x4))).bind fun t250 => (if t250 = true then (q_Num.l1 k x0 (wrap64 (x4 + 1)) x5 (wrap64 (x6 + (wrap64 (x10 * (wrap64 ((wrap64 (bt x0 x4)) - 48)))))) x7 (wrap64 (x8 + 1)) x9 (wrap64 (Int.tdiv x10 10))) else (q_Num.j6 k x0 x4 x5 x6 x7 x8 x9))) else (none)) else (q_Num.j6 k x0 x4 x5 x6 x7 x8 x9)
end
def q_Num.f (k : Nat) (a0 : ByteArray) : Option (Int × Bool) := if 0 < (a0.size : Int) then (if (bt a0 0) = 43 then (q_Num.j0 k a0 0 false true) else (q_Num.j0 k a0 0 false ((bt a0 0) == 45))) else (q_Num.j0 k a0 0 false false)
set_option maxHeartbeats 8000000 in
set_option maxRecDepth 100000 in
theorem q_Num.calls (k : Nat) (a0 : ByteArray) (r1 : Int) (r2 : Bool) (w : World) (h : q_Num.f k a0 = some (r1, r2)) :
  Calls Try.prog 47 #[.string a0] w fun e w' => e = .returned (.tuple #[.int .i64 r1, .bool r2]) ∧ Drawn0 w w' := by
 have H : (if 0 < (a0.size : Int) then (if (bt a0 0) = 43 then (q_Num.j0 k a0 0 false true) else (q_Num.j0 k a0 0 false ((bt a0 0) == 45))) else (q_Num.j0 k a0 0 false false)) = some (r1, r2) := h; clear h; have HC2 := aM H; clear H
 go_enter Try.func47, Try.ntmps47
 go_upto_region 3 with (fail)
 go_cut [26] (fun v26 wc => ∃ (kq : Nat) (x26_1 : Bool), v26 = .bool x26_1 ∧ Aside0 (q_Num.j0 kq a0 0 false x26_1 = some (r1, r2)) ∧ Aside0 (kq ≤ k) ∧ Drawn0 w wc)
 case first =>
  have H := HC2.out; clear HC2
  by_cases c3 : 0 < (a0.size : Int)
  ·rw [if_pos c3] at H; have c3b0 : decide (0 < (a0.size : Int)) = true := decide_eq_true c3; have c3b1 : decide (0 < a0.size) = true := decide_eq_true (by omega); clear c3
   (first | rw [c3b0] | (simp only [i64_w, i32_w]; rw [c3b0]) | skip)
   by_cases c5 : (bt a0 0) = 43
   ·rw [if_pos c5] at H; have c5b0 : ((bt a0 0) == 43) = true := beq_iff_eq.mpr c5; have c5b1 : ((bt a0 0) != 43) = false := bne_eq_false_iff_eq.mpr c5; clear c5; have H' := aM H; clear H; have p4 : 0 ≤ (0 : Int) := (by omega); have q4 : 0 < a0.size := (by have : (0 : Int) < (a0.size : Int) := of_decide_eq_true (by first | (with_reducible assumption) | assumption); omega); have hx4 : ∀ h : 0 < a0.size, ((a0[0]'h).toNat : Int) = bt a0 0 := bt_at a0 0; clear p4; have qi4 : (0 < (a0.size : Int)) = True := eq_true (of_decide_eq_true (by first | (with_reducible assumption) | assumption)); replace q4 := eq_true q4; go_wp2; go_meet
    case rel => exact ⟨_, (true), (by first | rfl | (simp; done) | (simp [*]; done) | (simp [wrap64]; done)), H', ⟨by first | omega | exact Nat.le_refl _⟩, by repeat (first | exact dR _ | apply dS)⟩
   ·rw [if_neg c5] at H; have c5b0 : ((bt a0 0) == 43) = false := beq_eq_false_iff_ne.mpr c5; have c5b1 : ((bt a0 0) != 43) = true := bne_iff_ne.mpr c5; have H' := aM H; clear H; have p4 : 0 ≤ (0 : Int) := (by omega); have q4 : 0 < a0.size := (by have : (0 : Int) < (a0.size : Int) := of_decide_eq_true (by first | (with_reducible assumption) | assumption); omega); have hx4 : ∀ h : 0 < a0.size, ((a0[0]'h).toNat : Int) = bt a0 0 := bt_at a0 0; clear p4; have qi4 : (0 < (a0.size : Int)) = True := eq_true (of_decide_eq_true (by first | (with_reducible assumption) | assumption)); replace q4 := eq_true q4; have p6 : 0 ≤ (0 : Int) := (by omega); have q6 : 0 < a0.size := (by have : (0 : Int) < (a0.size : Int) := of_decide_eq_true (by first | (with_reducible assumption) | assumption); omega); have hx6 : ∀ h : 0 < a0.size, ((a0[0]'h).toNat : Int) = bt a0 0 := bt_at a0 0; clear p6; have qi6 : (0 < (a0.size : Int)) = True := eq_true (of_decide_eq_true (by first | (with_reducible assumption) | assumption)); replace q6 := eq_true q6; go_wp2; go_meet
    case rel => exact ⟨_, (((bt a0 0) == 45)), (by first | rfl | (simp; done) | (simp [*]; done) | (simp [wrap64]; done)), H', ⟨by first | omega | exact Nat.le_refl _⟩, by repeat (first | exact dR _ | apply dS)⟩
  ·rw [if_neg c3] at H; have c3b0 : decide (0 < (a0.size : Int)) = false := decide_eq_false c3; have c3b1 : decide (0 < a0.size) = false := decide_eq_false (by omega); clear c3
   (first | rw [c3b0] | (simp only [i64_w, i32_w]; rw [c3b0]) | skip)
   have H' := aM H; clear H; go_wp2; go_meet
   case rel => exact ⟨_, (false), (by first | rfl | (simp; done) | (simp [*]; done) | (simp [wrap64]; done)), H', ⟨by first | omega | exact Nat.le_refl _⟩, by repeat (first | exact dR _ | apply dS)⟩
 case rest =>
  clear HC2; (try clear p2); (try clear c3); (try clear c3b0); (try clear c3b1); (try clear c4); (try clear p4); (try clear q4); (try clear hx4); (try clear qi4); (try clear c5); (try clear c5b0); (try clear c5b1); (try clear p6); (try clear q6); (try clear hx6); (try clear qi6); (try clear p4); (try clear p6); (try clear q4); (try clear q6); obtain ⟨kq, x26_1, rfl, HA, HJ1, ⟨mc1, rfl⟩⟩ := hcut
  cases kq with
  | zero => exact absurd HA.out (by simp [q_Num.j0])
  | succ kj1 =>
   have H := HA.out; clear HA
   simp only [q_Num.j0] at H
   have HC7 := aM H; clear H
   go_upto_if 26 with (fail)
   go_cut [4, 5] (fun v4 v5 wc => ∃ (kq : Nat) (x4_6 : Int) (x5_6 : Bool), v4 = .int .i64 x4_6 ∧ v5 = .bool x5_6 ∧ Aside0 (q_Num.j1 kq a0 x4_6 x5_6 = some (r1, r2)) ∧ Aside0 (kq ≤ kj1) ∧ Drawn0 w wc)
   case first =>
    have H := HC7.out; clear HC7
    by_cases c8 : x26_1 = true
    ·subst c8
     have H1 : (if 0 ≤ 0 then (if 0 < (a0.size : Int) then (q_Num.j1 kj1 a0 (wrap64 (0 + 1)) ((bt a0 0) == 45)) else (none)) else (none)) = some (r1, r2) := by rw [if_pos rfl] at H; exact H
     clear H; have H := H1; clear H1
     by_cases c9 : 0 ≤ 0
     ·rw [if_pos c9] at H; have c9b0 : decide (0 ≤ 0) = true := decide_eq_true c9; clear c9
      (first | rw [c9b0] | (simp only [i64_w, i32_w]; rw [c9b0]) | skip)
      by_cases c10 : 0 < (a0.size : Int)
      ·rw [if_pos c10] at H; have c10b0 : decide (0 < (a0.size : Int)) = true := decide_eq_true c10; have c10b1 : decide (0 < a0.size) = true := decide_eq_true (by omega); clear c10; have H' := aM H; clear H; have p11 : 0 ≤ (0 : Int) := (by omega); have q11 : 0 < a0.size := (by have : (0 : Int) < (a0.size : Int) := of_decide_eq_true (by first | (with_reducible assumption) | assumption); omega); have hx11 : ∀ h : 0 < a0.size, ((a0[0]'h).toNat : Int) = bt a0 0 := bt_at a0 0; clear p11; have qi11 : (0 < (a0.size : Int)) = True := eq_true (of_decide_eq_true (by first | (with_reducible assumption) | assumption)); replace q11 := eq_true q11; go_wp2; go_meet
       case rel => exact ⟨_, (wrap64 (0 + 1)), (((bt a0 0) == 45)), (by first | rfl | (simp; done) | (simp [*]; done) | (simp [wrap64]; done)), (by first | rfl | (simp; done) | (simp [*]; done) | (simp [wrap64]; done)), H', ⟨by have := HJ1.out; first | omega | exact Nat.le_refl _⟩, by repeat (first | exact dR _ | apply dS)⟩
      ·rw [if_neg c10] at H
       exact absurd H (by simp)
     ·rw [if_neg c9] at H
      exact absurd H (by simp)
    ·replace c8 := Bool.eq_false_iff.mpr c8; subst c8
     have H1 : (q_Num.j1 kj1 a0 0 false) = some (r1, r2) := by rw [if_neg (show ¬ (false = true) by decide)] at H; exact H
     clear H; have H := H1; clear H1; have H' := aM H; clear H; go_wp2; go_meet
     case rel => exact ⟨_, (0), (false), (by first | rfl | (simp; done) | (simp [*]; done) | (simp [wrap64]; done)), (by first | rfl | (simp; done) | (simp [*]; done) | (simp [wrap64]; done)), H', ⟨by have := HJ1.out; first | omega | exact Nat.le_refl _⟩, by repeat (first | exact dR _ | apply dS)⟩
   case rest =>
    clear HC7; (try clear c1); (try clear p1); (try clear q1); (try clear hx1); (try clear qi1); (try clear p2); (try clear c3); (try clear c3b0); (try clear c3b1); (try clear c4); (try clear p4); (try clear q4); (try clear hx4); (try clear qi4); (try clear c5); (try clear c5b0); (try clear c5b1); (try clear p6); (try clear q6); (try clear hx6); (try clear qi6); (try clear c8); (try clear c9); (try clear c9b0); (try clear c10); (try clear c10b0); (try clear c10b1); (try clear p11); (try clear q11); (try clear hx11); (try clear qi11); (try clear p11); (try clear p2); (try clear p4); (try clear p6); (try clear q11); (try clear q4); (try clear q6); obtain ⟨kq, x4_6, x5_6, rfl, rfl, HA, HJ6, ⟨mc6, rfl⟩⟩ := hcut
    cases kq with
    | zero => exact absurd HA.out (by simp [q_Num.j1])
    | succ kj6 =>
     have H := HA.out; clear HA
     simp only [q_Num.j1] at H
     have H' := aM H; clear H; go_wp2
     go_loopg [4, 6, 7] kj6 (fun kq v4 v6 v7 w' => ∃ (x4_3 : Int) (x6_3 : Int) (x7_3 : Int), v4 = .int .i64 x4_3 ∧ v6 = .int .i64 x6_3 ∧ v7 = .int .i64 x7_3 ∧ Aside0 (q_Num.l0 kq a0 x4_3 x5_6 x6_3 x7_3 = some (r1, r2)) ∧ Aside0 (kq ≤ kj6) ∧ Drawn0 w w')
     case atStart => exact ⟨(x4_6), (0), (0), (by first | rfl | (simp; done) | (simp [*]; done) | (simp [wrap64]; done)), (by first | rfl | (simp; done) | (simp [*]; done) | (simp [wrap64]; done)), (by first | rfl | (simp; done) | (simp [*]; done) | (simp [wrap64]; done)), H', ⟨Nat.le_refl _⟩, by repeat (first | exact dR _ | apply dS)⟩
     case round =>
      clear H'; (try clear c1); (try clear p1); (try clear q1); (try clear hx1); (try clear qi1); (try clear p2); (try clear c3); (try clear c3b0); (try clear c3b1); (try clear c4); (try clear p4); (try clear q4); (try clear hx4); (try clear qi4); (try clear c5); (try clear c5b0); (try clear c5b1); (try clear c6); (try clear p6); (try clear q6); (try clear hx6); (try clear qi6); (try clear c8); (try clear c9); (try clear c9b0); (try clear c10); (try clear c10b0); (try clear c10b1); (try clear p11); (try clear q11); (try clear hx11); (try clear qi11); (try clear p1); (try clear p11); (try clear p2); (try clear p4); (try clear p6); (try clear q1); (try clear q11); (try clear q4); (try clear q6); obtain ⟨x4_3, x6_3, x7_3, rfl, rfl, rfl, HA, HK3, ⟨m3, rfl⟩⟩ := hrel
      cases gk with
      | zero => exact absurd HA.out (by simp [q_Num.l0])
      | succ k3 =>
       have H := HA.out; clear HA
       simp only [q_Num.l0] at H
       have HC12 := aM H; clear H
       go_upto_region 8 with (fail)
       go_cut [43] (fun v43 wc => ∃ (kq : Nat) (x43_11 : Bool), v43 = .bool x43_11 ∧ Aside0 (q_Num.j3 kq a0 x4_3 x5_6 x6_3 x7_3 x43_11 = some (r1, r2)) ∧ Aside0 (kq ≤ k3) ∧ Drawn0 w wc)
       case first =>
        have H := HC12.out; clear HC12
        by_cases c13 : x4_3 < (a0.size : Int)
        ·rw [if_pos c13] at H; have c13b0 : decide (x4_3 < (a0.size : Int)) = true := decide_eq_true c13; clear c13
         (first | rw [c13b0] | (simp only [i64_w, i32_w]; rw [c13b0]) | skip)
         by_cases c14 : 0 ≤ x4_3
         ·rw [if_pos c14] at H; have c14b0 : decide (0 ≤ x4_3) = true := decide_eq_true c14; clear c14; replace H := oB.mp H; obtain ⟨t249, A160, H⟩ := H; replace H : (q_Num.j3 k3 a0 x4_3 x5_6 x6_3 x7_3 t249) = some (r1, r2) := H; have A16 := aM A160; clear A160; have H' := aM H; clear H; have p15 : 0 ≤ (x4_3 : Int) := of_decide_eq_true (by first | (with_reducible assumption) | assumption); have q15 : x4_3 < (a0.size : Int) := of_decide_eq_true (by first | (with_reducible assumption) | assumption); have hx15 := bt_at a0 x4_3; replace p15 := eq_true p15; replace q15 := eq_true q15
          go_wp2_with (first | (go_at_call 43; (with_reducible refine (q_digit.calls (wrap64 (bt a0 x4_3)) t249 _ A16.out).mono ?_); rintro e w' ⟨rfl, ⟨nd, rfl⟩⟩))
          go_meet
          case rel => exact ⟨_, (t249), (by first | rfl | (simp; done) | (simp [*]; done) | (simp [wrap64]; done)), H', ⟨by have := HJ1.out; have := HJ6.out; have := HK3.out; first | omega | exact Nat.le_refl _⟩, by repeat (first | exact dR _ | apply dS)⟩
         ·rw [if_neg c14] at H
          exact absurd H (by simp)
        ·rw [if_neg c13] at H; have c13b0 : decide (x4_3 < (a0.size : Int)) = false := decide_eq_false c13; clear c13
         (first | rw [c13b0] | (simp only [i64_w, i32_w]; rw [c13b0]) | skip)
         have H' := aM H; clear H; go_wp2; go_meet
         case rel => exact ⟨_, (false), (by first | rfl | (simp; done) | (simp [*]; done) | (simp [wrap64]; done)), H', ⟨by have := HJ1.out; have := HJ6.out; have := HK3.out; first | omega | exact Nat.le_refl _⟩, by repeat (first | exact dR _ | apply dS)⟩
       case rest =>
        clear HC12; (try clear c1); (try clear p1); (try clear q1); (try clear hx1); (try clear qi1); (try clear p2); (try clear c3); (try clear c3b0); (try clear c3b1); (try clear c4); (try clear p4); (try clear q4); (try clear hx4); (try clear qi4); (try clear c5); (try clear c5b0); (try clear c5b1); (try clear c6); (try clear p6); (try clear q6); (try clear hx6); (try clear qi6); (try clear c8); (try clear c9); (try clear c9b0); (try clear c10); (try clear c10b0); (try clear c10b1); (try clear p11); (try clear q11); (try clear hx11); (try clear qi11); (try clear c13); (try clear c13b0); (try clear c14); (try clear c14b0); (try clear p15); (try clear q15); (try clear hx15); (try clear p1); (try clear p11); (try clear p15); (try clear p2); (try clear p4); (try clear p6); (try clear q1); (try clear q11); (try clear q15); (try clear q4); (try clear q6); obtain ⟨kq, x43_11, rfl, HA, HJ11, ⟨mc11, rfl⟩⟩ := hcut
        cases kq with
        | zero => exact absurd HA.out (by simp [q_Num.j3])
        | succ kj11 =>
         have H := HA.out; clear HA
         simp only [q_Num.j3] at H
         by_cases c17 : x43_11 = true
         ·subst c17
          have H1 : (if 0 ≤ x4_3 then (if x4_3 < (a0.size : Int) then (if (wrap64 ((wrap64 ((wrap64 (x6_3 * 10)) + (wrap64 (bt a0 x4_3)))) - 48)) > 2147483647 then (q_Num.l0 kj11 a0 (wrap64 (x4_3 + 1)) x5_6 2147483647 (wrap64 (x7_3 + 1))) else (q_Num.l0 kj11 a0 (wrap64 (x4_3 + 1)) x5_6 (wrap64 ((wrap64 ((wrap64 (x6_3 * 10)) + (wrap64 (bt a0 x4_3)))) - 48)) (wrap64 (x7_3 + 1)))) else (none)) else (none)) = some (r1, r2) := by rw [if_pos rfl] at H; exact H
          clear H; have H := H1; clear H1
          by_cases c18 : 0 ≤ x4_3
          ·rw [if_pos c18] at H; have c18b0 : decide (0 ≤ x4_3) = true := decide_eq_true c18; clear c18
           by_cases c19 : x4_3 < (a0.size : Int)
           ·rw [if_pos c19] at H; have c19b0 : decide (x4_3 < (a0.size : Int)) = true := decide_eq_true c19; clear c19
            by_cases c21 : (wrap64 ((wrap64 ((wrap64 (x6_3 * 10)) + (wrap64 (bt a0 x4_3)))) - 48)) > 2147483647
            ·rw [if_pos c21] at H; have c21b0 : decide (2147483647 < (wrap64 ((wrap64 ((wrap64 (x6_3 * 10)) + (wrap64 (bt a0 x4_3)))) - 48))) = true := decide_eq_true c21; clear c21; have H' := aM H; clear H; have p20 : 0 ≤ (x4_3 : Int) := of_decide_eq_true (by first | (with_reducible assumption) | assumption); have q20 : x4_3 < (a0.size : Int) := of_decide_eq_true (by first | (with_reducible assumption) | assumption); have hx20 := bt_at a0 x4_3; replace p20 := eq_true p20; replace q20 := eq_true q20; go_wp2
             go_roundg kj11
             case measure => have := HJ1.out; have := HJ6.out; have := HK3.out; have := HJ11.out; omega
             case rel => exact ⟨(wrap64 (x4_3 + 1)), (2147483647), (wrap64 (x7_3 + 1)), (by first | rfl | (simp; done) | (simp [*]; done) | (simp [wrap64]; done)), (by first | rfl | (simp; done) | (simp [*]; done) | (simp [wrap64]; done)), (by first | rfl | (simp; done) | (simp [*]; done) | (simp [wrap64]; done)), H', ⟨by have := HJ1.out; have := HJ6.out; have := HK3.out; have := HJ11.out; omega⟩, by repeat (first | exact dR _ | apply dS)⟩
            ·rw [if_neg c21] at H; have c21b0 : decide (2147483647 < (wrap64 ((wrap64 ((wrap64 (x6_3 * 10)) + (wrap64 (bt a0 x4_3)))) - 48))) = false := decide_eq_false c21; clear c21; have H' := aM H; clear H; have p20 : 0 ≤ (x4_3 : Int) := of_decide_eq_true (by first | (with_reducible assumption) | assumption); have q20 : x4_3 < (a0.size : Int) := of_decide_eq_true (by first | (with_reducible assumption) | assumption); have hx20 := bt_at a0 x4_3; replace p20 := eq_true p20; replace q20 := eq_true q20; go_wp2
             go_roundg kj11
             case measure => have := HJ1.out; have := HJ6.out; have := HK3.out; have := HJ11.out; omega
             case rel => exact ⟨(wrap64 (x4_3 + 1)), (wrap64 ((wrap64 ((wrap64 (x6_3 * 10)) + (wrap64 (bt a0 x4_3)))) - 48)), (wrap64 (x7_3 + 1)), (by first | rfl | (simp; done) | (simp [*]; done) | (simp [wrap64]; done)), (by first | rfl | (simp; done) | (simp [*]; done) | (simp [wrap64]; done)), (by first | rfl | (simp; done) | (simp [*]; done) | (simp [wrap64]; done)), H', ⟨by have := HJ1.out; have := HJ6.out; have := HK3.out; have := HJ11.out; omega⟩, by repeat (first | exact dR _ | apply dS)⟩
           ·rw [if_neg c19] at H
            exact absurd H (by simp)
          ·rw [if_neg c18] at H
           exact absurd H (by simp)
         ·replace c17 := Bool.eq_false_iff.mpr c17; subst c17
          have H1 : (if x4_3 < (a0.size : Int) then (if 0 ≤ x4_3 then (q_Num.j4 kj11 a0 x4_3 x5_6 (wrap64 (x6_3 * 1000)) x7_3 0 ((bt a0 x4_3) == 46)) else (none)) else (q_Num.j4 kj11 a0 x4_3 x5_6 (wrap64 (x6_3 * 1000)) x7_3 0 false)) = some (r1, r2) := by rw [if_neg (show ¬ (false = true) by decide)] at H; exact H
          clear H; have H := H1; clear H1; have HC22 := aM H; clear H
          go_upto_region 16 with (fail)
          go_cut [9] (fun v9 wc => ∃ (kq : Nat) (x9_21 : Bool), v9 = .bool x9_21 ∧ Aside0 (q_Num.j4 kq a0 x4_3 x5_6 (wrap64 (x6_3 * 1000)) x7_3 0 x9_21 = some (r1, r2)) ∧ Aside0 (kq ≤ kj11) ∧ Drawn0 w wc)
          case first =>
           have H := HC22.out; clear HC22
           by_cases c23 : x4_3 < (a0.size : Int)
           ·rw [if_pos c23] at H; have c23b0 : decide (x4_3 < (a0.size : Int)) = true := decide_eq_true c23; clear c23
            (first | rw [c23b0] | (simp only [i64_w, i32_w]; rw [c23b0]) | skip)
            by_cases c24 : 0 ≤ x4_3
            ·rw [if_pos c24] at H; have c24b0 : decide (0 ≤ x4_3) = true := decide_eq_true c24; clear c24; have H' := aM H; clear H; have p25 : 0 ≤ (x4_3 : Int) := of_decide_eq_true (by first | (with_reducible assumption) | assumption); have q25 : x4_3 < (a0.size : Int) := of_decide_eq_true (by first | (with_reducible assumption) | assumption); have hx25 := bt_at a0 x4_3; replace p25 := eq_true p25; replace q25 := eq_true q25; go_wp2; go_meet
             case rel => exact ⟨_, (((bt a0 x4_3) == 46)), (by first | rfl | (simp; done) | (simp [*]; done) | (simp [wrap64]; done)), H', ⟨by have := HJ1.out; have := HJ6.out; have := HK3.out; have := HJ11.out; first | omega | exact Nat.le_refl _⟩, by repeat (first | exact dR _ | apply dS)⟩
            ·rw [if_neg c24] at H
             exact absurd H (by simp)
           ·rw [if_neg c23] at H; have c23b0 : decide (x4_3 < (a0.size : Int)) = false := decide_eq_false c23; clear c23
            (first | rw [c23b0] | (simp only [i64_w, i32_w]; rw [c23b0]) | skip)
            have H' := aM H; clear H; go_wp2; go_meet
            case rel => exact ⟨_, (false), (by first | rfl | (simp; done) | (simp [*]; done) | (simp [wrap64]; done)), H', ⟨by have := HJ1.out; have := HJ6.out; have := HK3.out; have := HJ11.out; first | omega | exact Nat.le_refl _⟩, by repeat (first | exact dR _ | apply dS)⟩
          case rest =>
           clear HC22; (try clear c1); (try clear p1); (try clear q1); (try clear hx1); (try clear qi1); (try clear c2); (try clear p2); (try clear q2); (try clear hx2); (try clear c3); (try clear c3b0); (try clear c3b1); (try clear c4); (try clear p4); (try clear q4); (try clear hx4); (try clear qi4); (try clear c5); (try clear c5b0); (try clear c5b1); (try clear c6); (try clear p6); (try clear q6); (try clear hx6); (try clear qi6); (try clear c8); (try clear c9); (try clear c9b0); (try clear c10); (try clear c10b0); (try clear c10b1); (try clear c11); (try clear p11); (try clear q11); (try clear hx11); (try clear qi11); (try clear c13); (try clear c13b0); (try clear c14); (try clear c14b0); (try clear p15); (try clear q15); (try clear hx15); (try clear c17); (try clear c18); (try clear c18b0); (try clear c19); (try clear c19b0); (try clear p20); (try clear q20); (try clear hx20); (try clear c21); (try clear c21b0); (try clear c23); (try clear c23b0); (try clear c24); (try clear c24b0); (try clear p25); (try clear q25); (try clear hx25); (try clear p1); (try clear p11); (try clear p15); (try clear p2); (try clear p20); (try clear p25); (try clear p4); (try clear p6); (try clear q1); (try clear q11); (try clear q15); (try clear q20); (try clear q25); (try clear q4); (try clear q6); obtain ⟨kq, x9_21, rfl, HA, HJ21, ⟨mc21, rfl⟩⟩ := hcut
           cases kq with
           | zero => exact absurd HA.out (by simp [q_Num.j4])
           | succ kj21 =>
            have H := HA.out; clear HA
            simp only [q_Num.j4] at H
            have HC26 := aM H; clear H
            go_upto_if 70 with (fail)
            go_cut [4, 6, 8] (fun v4 v6 v8 wc => ∃ (kq : Nat) (x4_25 : Int) (x6_25 : Int) (x8_25 : Int), v4 = .int .i64 x4_25 ∧ v6 = .int .i64 x6_25 ∧ v8 = .int .i64 x8_25 ∧ Aside0 (q_Num.j6 kq a0 x4_25 x5_6 x6_25 x7_3 x8_25 x9_21 = some (r1, r2)) ∧ Aside0 (kq ≤ kj21) ∧ Drawn0 w wc)
            case first =>
             have H := HC26.out; clear HC26
             by_cases c27 : x9_21 = true
             ·subst c27
              have H1 : (q_Num.l1 kj21 a0 (wrap64 (x4_3 + 1)) x5_6 (wrap64 (x6_3 * 1000)) x7_3 0 true 100) = some (r1, r2) := by rw [if_pos rfl] at H; exact H
              clear H; have H := H1; clear H1; have H' := aM H; clear H; go_wp2
              go_loopg [4, 6, 8, 10] kj21 (fun kq v4 v6 v8 v10 w' => ∃ (x4_6 : Int) (x6_6 : Int) (x8_6 : Int) (x10_6 : Int), v4 = .int .i64 x4_6 ∧ v6 = .int .i64 x6_6 ∧ v8 = .int .i64 x8_6 ∧ v10 = .int .i64 x10_6 ∧ Aside0 (q_Num.l1 kq a0 x4_6 x5_6 x6_6 x7_3 x8_6 true x10_6 = some (r1, r2)) ∧ Aside0 (kq ≤ kj21) ∧ Drawn0 w w')
              case atStart => exact ⟨(wrap64 (x4_3 + 1)), ((wrap64 (x6_3 * 1000))), (0), (100), (by first | rfl | (simp; done) | (simp [*]; done) | (simp [wrap64]; done)), (by first | rfl | (simp; done) | (simp [*]; done) | (simp [wrap64]; done)), (by first | rfl | (simp; done) | (simp [*]; done) | (simp [wrap64]; done)), (by first | rfl | (simp; done) | (simp [*]; done) | (simp [wrap64]; done)), H', ⟨Nat.le_refl _⟩, by repeat (first | exact dR _ | apply dS)⟩
              case round =>
               clear H'; (try clear c1); (try clear p1); (try clear q1); (try clear hx1); (try clear qi1); (try clear c2); (try clear p2); (try clear q2); (try clear hx2); (try clear c3); (try clear c3b0); (try clear c3b1); (try clear c4); (try clear p4); (try clear q4); (try clear hx4); (try clear qi4); (try clear c5); (try clear c5b0); (try clear c5b1); (try clear c6); (try clear p6); (try clear q6); (try clear hx6); (try clear qi6); (try clear c8); (try clear c9); (try clear c9b0); (try clear c10); (try clear c10b0); (try clear c10b1); (try clear c11); (try clear p11); (try clear q11); (try clear hx11); (try clear qi11); (try clear c13); (try clear c13b0); (try clear c14); (try clear c14b0); (try clear p15); (try clear q15); (try clear hx15); (try clear c17); (try clear c18); (try clear c18b0); (try clear c19); (try clear c19b0); (try clear p20); (try clear q20); (try clear hx20); (try clear c21); (try clear c21b0); (try clear c23); (try clear c23b0); (try clear c24); (try clear c24b0); (try clear p25); (try clear q25); (try clear hx25); (try clear c27); (try clear p1); (try clear p11); (try clear p15); (try clear p2); (try clear p20); (try clear p25); (try clear p4); (try clear p6); (try clear q1); (try clear q11); (try clear q15); (try clear q2); (try clear q20); (try clear q25); (try clear q4); (try clear q6); obtain ⟨x4_6, x6_6, x8_6, x10_6, rfl, rfl, rfl, rfl, HA, HK6, ⟨m6, rfl⟩⟩ := hrel
               cases gk with
               | zero => exact absurd HA.out (by simp [q_Num.l1])
               | succ k6 =>
                have H := HA.out; clear HA
                simp only [q_Num.l1] at H
                by_cases c28 : x4_6 < (a0.size : Int)
                ·rw [if_pos c28] at H; have c28b0 : decide (x4_6 < (a0.size : Int)) = true := decide_eq_true c28; clear c28
                 (first | rw [c28b0] | (simp only [i64_w, i32_w]; rw [c28b0]) | skip)
                 by_cases c29 : 0 ≤ x4_6
                 ·rw [if_pos c29] at H; have c29b0 : decide (0 ≤ x4_6) = true := decide_eq_true c29; clear c29; replace H := oB.mp H; obtain ⟨t250, A310, H⟩ := H; replace H : (if t250 = true then (q_Num.l1 k6 a0 (wrap64 (x4_6 + 1)) x5_6 (wrap64 (x6_6 + (wrap64 (x10_6 * (wrap64 ((wrap64 (bt a0 x4_6)) - 48)))))) x7_3 (wrap64 (x8_6 + 1)) true (wrap64 (Int.tdiv x10_6 10))) else (q_Num.j6 k6 a0 x4_6 x5_6 x6_6 x7_3 x8_6 true)) = some (r1, r2) := H; have A31 := aM A310; clear A310
                  by_cases c32 : t250 = true
                  ·subst c32
                   have H1 : (q_Num.l1 k6 a0 (wrap64 (x4_6 + 1)) x5_6 (wrap64 (x6_6 + (wrap64 (x10_6 * (wrap64 ((wrap64 (bt a0 x4_6)) - 48)))))) x7_3 (wrap64 (x8_6 + 1)) true (wrap64 (Int.tdiv x10_6 10))) = some (r1, r2) := by rw [if_pos rfl] at H; exact H
                   clear H; have H := H1; clear H1; have H' := aM H; clear H; have p30 : 0 ≤ (x4_6 : Int) := of_decide_eq_true (by first | (with_reducible assumption) | assumption); have q30 : x4_6 < (a0.size : Int) := of_decide_eq_true (by first | (with_reducible assumption) | assumption); have hx30 := bt_at a0 x4_6; replace p30 := eq_true p30; replace q30 := eq_true q30
                   go_wp2_with (first | (go_at_call 43; (with_reducible refine (q_digit.calls (wrap64 (bt a0 x4_6)) true _ A31.out).mono ?_); rintro e w' ⟨rfl, ⟨nd, rfl⟩⟩; have p33 : 0 ≤ (x4_6 : Int) := of_decide_eq_true (by first | (with_reducible assumption) | assumption); have q33 : x4_6 < (a0.size : Int) := of_decide_eq_true (by first | (with_reducible assumption) | assumption); have hx33 := bt_at a0 x4_6; replace p33 := eq_true p33; replace q33 := eq_true q33))
                   go_roundg k6
                   case measure => have := HJ1.out; have := HJ6.out; have := HK3.out; have := HJ11.out; have := HJ21.out; have := HK6.out; omega
                   case rel => exact ⟨(wrap64 (x4_6 + 1)), (wrap64 (x6_6 + (wrap64 (x10_6 * (wrap64 ((wrap64 (bt a0 x4_6)) - 48)))))), (wrap64 (x8_6 + 1)), (wrap64 (Int.tdiv x10_6 10)), (by first | rfl | (simp; done) | (simp [*]; done) | (simp [wrap64]; done)), (by first | rfl | (simp; done) | (simp [*]; done) | (simp [wrap64]; done)), (by first | rfl | (simp; done) | (simp [*]; done) | (simp [wrap64]; done)), (by first | rfl | (simp; done) | (simp [*]; done) | (simp [wrap64]; done)), H', ⟨by have := HJ1.out; have := HJ6.out; have := HK3.out; have := HJ11.out; have := HJ21.out; have := HK6.out; omega⟩, by repeat (first | exact dR _ | apply dS)⟩
                  ·replace c32 := Bool.eq_false_iff.mpr c32; subst c32
                   have H1 : (q_Num.j6 k6 a0 x4_6 x5_6 x6_6 x7_3 x8_6 true) = some (r1, r2) := by rw [if_neg (show ¬ (false = true) by decide)] at H; exact H
                   clear H; have H := H1; clear H1; have H' := aM H; clear H; have p30 : 0 ≤ (x4_6 : Int) := of_decide_eq_true (by first | (with_reducible assumption) | assumption); have q30 : x4_6 < (a0.size : Int) := of_decide_eq_true (by first | (with_reducible assumption) | assumption); have hx30 := bt_at a0 x4_6; replace p30 := eq_true p30; replace q30 := eq_true q30
                   go_wp2_with (first | (go_at_call 43; (with_reducible refine (q_digit.calls (wrap64 (bt a0 x4_6)) false _ A31.out).mono ?_); rintro e w' ⟨rfl, ⟨nd, rfl⟩⟩))
                   go_meet
                   case rel => exact ⟨_, (x4_6), (x6_6), (x8_6), (by first | rfl | (simp; done) | (simp [*]; done) | (simp [wrap64]; done)), (by first | rfl | (simp; done) | (simp [*]; done) | (simp [wrap64]; done)), (by first | rfl | (simp; done) | (simp [*]; done) | (simp [wrap64]; done)), H', ⟨by have := HJ1.out; have := HJ6.out; have := HK3.out; have := HJ11.out; have := HJ21.out; have := HK6.out; first | omega | exact Nat.le_refl _⟩, by repeat (first | exact dR _ | apply dS)⟩
                 ·rw [if_neg c29] at H
                  exact absurd H (by simp)
                ·rw [if_neg c28] at H; have c28b0 : decide (x4_6 < (a0.size : Int)) = false := decide_eq_false c28; clear c28
                 (first | rw [c28b0] | (simp only [i64_w, i32_w]; rw [c28b0]) | skip)
                 have H' := aM H; clear H; go_wp2; go_meet
                 case rel => exact ⟨_, (x4_6), (x6_6), (x8_6), (by first | rfl | (simp; done) | (simp [*]; done) | (simp [wrap64]; done)), (by first | rfl | (simp; done) | (simp [*]; done) | (simp [wrap64]; done)), (by first | rfl | (simp; done) | (simp [*]; done) | (simp [wrap64]; done)), H', ⟨by have := HJ1.out; have := HJ6.out; have := HK3.out; have := HJ11.out; have := HJ21.out; have := HK6.out; first | omega | exact Nat.le_refl _⟩, by repeat (first | exact dR _ | apply dS)⟩
             ·replace c27 := Bool.eq_false_iff.mpr c27; subst c27
              have H1 : (q_Num.j6 kj21 a0 x4_3 x5_6 (wrap64 (x6_3 * 1000)) x7_3 0 false) = some (r1, r2) := by rw [if_neg (show ¬ (false = true) by decide)] at H; exact H
              clear H; have H := H1; clear H1; have H' := aM H; clear H; go_wp2; go_meet
              case rel => exact ⟨_, (x4_3), ((wrap64 (x6_3 * 1000))), (0), (by first | rfl | (simp; done) | (simp [*]; done) | (simp [wrap64]; done)), (by first | rfl | (simp; done) | (simp [*]; done) | (simp [wrap64]; done)), (by first | rfl | (simp; done) | (simp [*]; done) | (simp [wrap64]; done)), H', ⟨by have := HJ1.out; have := HJ6.out; have := HK3.out; have := HJ11.out; have := HJ21.out; first | omega | exact Nat.le_refl _⟩, by repeat (first | exact dR _ | apply dS)⟩
            case rest =>
             clear HC26; (try clear c1); (try clear p1); (try clear q1); (try clear hx1); (try clear qi1); (try clear c2); (try clear p2); (try clear q2); (try clear hx2); (try clear c3); (try clear c3b0); (try clear c3b1); (try clear p3); (try clear q3); (try clear hx3); (try clear c4); (try clear p4); (try clear q4); (try clear hx4); (try clear qi4); (try clear c5); (try clear c5b0); (try clear c5b1); (try clear c6); (try clear p6); (try clear q6); (try clear hx6); (try clear qi6); (try clear c8); (try clear c9); (try clear c9b0); (try clear c10); (try clear c10b0); (try clear c10b1); (try clear c11); (try clear p11); (try clear q11); (try clear hx11); (try clear qi11); (try clear c13); (try clear c13b0); (try clear c14); (try clear c14b0); (try clear p15); (try clear q15); (try clear hx15); (try clear c17); (try clear c18); (try clear c18b0); (try clear c19); (try clear c19b0); (try clear p20); (try clear q20); (try clear hx20); (try clear c21); (try clear c21b0); (try clear c23); (try clear c23b0); (try clear c24); (try clear c24b0); (try clear p25); (try clear q25); (try clear hx25); (try clear c27); (try clear c28); (try clear c28b0); (try clear c29); (try clear c29b0); (try clear p30); (try clear q30); (try clear hx30); (try clear c32); (try clear p33); (try clear q33); (try clear hx33); (try clear p1); (try clear p11); (try clear p15); (try clear p2); (try clear p20); (try clear p25); (try clear p30); (try clear p33); (try clear p4); (try clear p6); (try clear q1); (try clear q11); (try clear q15); (try clear q2); (try clear q20); (try clear q25); (try clear q30); (try clear q33); (try clear q4); (try clear q6); obtain ⟨kq, x4_25, x6_25, x8_25, rfl, rfl, rfl, HA, HJ25, ⟨mc25, rfl⟩⟩ := hcut
             cases kq with
             | zero => exact absurd HA.out (by simp [q_Num.j6])
             | succ kj25 =>
              have H := HA.out; clear HA
              simp only [q_Num.j6] at H
              have HC34 := aM H; clear H
              go_upto_region 25 with (fail)
              go_cut [117] (fun v117 wc => ∃ (kq : Nat) (x117_33 : Bool), v117 = .bool x117_33 ∧ Aside0 (q_Num.j7 kq x5_6 x6_25 x117_33 = some (r1, r2)) ∧ Aside0 (kq ≤ kj25) ∧ Drawn0 w wc)
              case first =>
               have H := HC34.out; clear HC34
               by_cases c35 : x4_25 = (a0.size : Int)
               ·rw [if_pos c35] at H; have c35b0 : (x4_25 == (a0.size : Int)) = true := beq_iff_eq.mpr c35; have c35b1 : (x4_25 != (a0.size : Int)) = false := bne_eq_false_iff_eq.mpr c35; clear c35
                (first | rw [c35b0] | (simp only [i64_w, i32_w]; rw [c35b0]) | skip)
                by_cases c36 : x9_21 = true
                ·subst c36
                 have H1 : (if x8_25 = 0 then (q_Num.j7 kj25 x5_6 x6_25 true) else (q_Num.j7 kj25 x5_6 x6_25 false)) = some (r1, r2) := by rw [if_pos rfl] at H; exact H
                 clear H; have H := H1; clear H1
                 by_cases c37 : x8_25 = 0
                 ·rw [if_pos c37] at H; have c37b0 : (x8_25 == 0) = true := beq_iff_eq.mpr c37; have c37b1 : (x8_25 != 0) = false := bne_eq_false_iff_eq.mpr c37; clear c37; have H' := aM H; clear H; go_wp2; go_meet
                  case rel => exact ⟨_, (true), (by first | rfl | (simp; done) | (simp [*]; done) | (simp [wrap64]; done)), H', ⟨by have := HJ1.out; have := HJ6.out; have := HK3.out; have := HJ11.out; have := HJ21.out; have := HJ25.out; first | omega | exact Nat.le_refl _⟩, by repeat (first | exact dR _ | apply dS)⟩
                 ·rw [if_neg c37] at H; have c37b0 : (x8_25 == 0) = false := beq_eq_false_iff_ne.mpr c37; have c37b1 : (x8_25 != 0) = true := bne_iff_ne.mpr c37; have H' := aM H; clear H; go_wp2; go_meet
                  case rel => exact ⟨_, (false), (by first | rfl | (simp; done) | (simp [*]; done) | (simp [wrap64]; done)), H', ⟨by have := HJ1.out; have := HJ6.out; have := HK3.out; have := HJ11.out; have := HJ21.out; have := HJ25.out; first | omega | exact Nat.le_refl _⟩, by repeat (first | exact dR _ | apply dS)⟩
                ·replace c36 := Bool.eq_false_iff.mpr c36; subst c36
                 have H1 : (q_Num.j7 kj25 x5_6 x6_25 (x7_3 == 0)) = some (r1, r2) := by rw [if_neg (show ¬ (false = true) by decide)] at H; exact H
                 clear H; have H := H1; clear H1; have H' := aM H; clear H; go_wp2; go_meet
                 case rel => exact ⟨_, ((x7_3 == 0)), (by first | rfl | (simp; done) | (simp [*]; done) | (simp [wrap64]; done)), H', ⟨by have := HJ1.out; have := HJ6.out; have := HK3.out; have := HJ11.out; have := HJ21.out; have := HJ25.out; first | omega | exact Nat.le_refl _⟩, by repeat (first | exact dR _ | apply dS)⟩
               ·rw [if_neg c35] at H; have c35b0 : (x4_25 == (a0.size : Int)) = false := beq_eq_false_iff_ne.mpr c35; have c35b1 : (x4_25 != (a0.size : Int)) = true := bne_iff_ne.mpr c35
                (first | rw [c35b0] | (simp only [i64_w, i32_w]; rw [c35b0]) | skip)
                have H' := aM H; clear H; go_wp2; go_meet
                case rel => exact ⟨_, (true), (by first | rfl | (simp; done) | (simp [*]; done) | (simp [wrap64]; done)), H', ⟨by have := HJ1.out; have := HJ6.out; have := HK3.out; have := HJ11.out; have := HJ21.out; have := HJ25.out; first | omega | exact Nat.le_refl _⟩, by repeat (first | exact dR _ | apply dS)⟩
              case rest =>
               clear HC34; (try clear c1); (try clear p1); (try clear q1); (try clear hx1); (try clear qi1); (try clear c2); (try clear p2); (try clear q2); (try clear hx2); (try clear c3); (try clear c3b0); (try clear c3b1); (try clear p3); (try clear q3); (try clear hx3); (try clear c4); (try clear p4); (try clear q4); (try clear hx4); (try clear qi4); (try clear c5); (try clear c5b0); (try clear c5b1); (try clear c6); (try clear p6); (try clear q6); (try clear hx6); (try clear qi6); (try clear c8); (try clear c9); (try clear c9b0); (try clear c10); (try clear c10b0); (try clear c10b1); (try clear c11); (try clear p11); (try clear q11); (try clear hx11); (try clear qi11); (try clear c13); (try clear c13b0); (try clear c14); (try clear c14b0); (try clear p15); (try clear q15); (try clear hx15); (try clear c17); (try clear c18); (try clear c18b0); (try clear c19); (try clear c19b0); (try clear p20); (try clear q20); (try clear hx20); (try clear c21); (try clear c21b0); (try clear c23); (try clear c23b0); (try clear c24); (try clear c24b0); (try clear c25); (try clear p25); (try clear q25); (try clear hx25); (try clear c27); (try clear c28); (try clear c28b0); (try clear c29); (try clear c29b0); (try clear p30); (try clear q30); (try clear hx30); (try clear c32); (try clear p33); (try clear q33); (try clear hx33); (try clear c35); (try clear c35b0); (try clear c35b1); (try clear c36); (try clear c37); (try clear c37b0); (try clear c37b1); (try clear p1); (try clear p11); (try clear p15); (try clear p2); (try clear p20); (try clear p25); (try clear p3); (try clear p30); (try clear p33); (try clear p4); (try clear p6); (try clear q1); (try clear q11); (try clear q15); (try clear q2); (try clear q20); (try clear q25); (try clear q3); (try clear q30); (try clear q33); (try clear q4); (try clear q6); obtain ⟨kq, x117_33, rfl, HA, HJ33, ⟨mc33, rfl⟩⟩ := hcut
               cases kq with
               | zero => exact absurd HA.out (by simp [q_Num.j7])
               | succ kj33 =>
                have H := HA.out; clear HA
                simp only [q_Num.j7] at H
                by_cases c38 : x117_33 = true
                ·subst c38
                 have H1 : (some (0, false)) = some (r1, r2) := by rw [if_pos rfl] at H; exact H
                 clear H; have H := H1; clear H1
                 simp only [Option.some.injEq, Prod.mk.injEq] at H
                 obtain ⟨rfl, rfl⟩ := H; go_wp2
                 go_ret2
                 exact ⟨by first | rfl | (simp; done) | (simp [*]; done), by repeat (first | exact dR _ | apply dS)⟩
                ·replace c38 := Bool.eq_false_iff.mpr c38; subst c38
                 have H1 : (if x5_6 = true then ((q_Cap.f (wrap64 (-x6_25))).bind fun t251 => (some (t251, true))) else ((q_Cap.f x6_25).bind fun t252 => (some (t252, true)))) = some (r1, r2) := by rw [if_neg (show ¬ (false = true) by decide)] at H; exact H
                 clear H; have H := H1; clear H1
                 by_cases c39 : x5_6 = true
                 ·subst c39
                  have H1 : ((q_Cap.f (wrap64 (-x6_25))).bind fun t251 => (some (t251, true))) = some (r1, r2) := by rw [if_pos rfl] at H; exact H
                  clear H; have H := H1; clear H1; replace H := oB.mp H; obtain ⟨t251, A400, H⟩ := H; replace H : (some (t251, true)) = some (r1, r2) := H; have A40 := aM A400; clear A400
                  simp only [Option.some.injEq, Prod.mk.injEq] at H
                  obtain ⟨rfl, rfl⟩ := H
                  go_wp2_with (first | ((with_reducible refine gate_callee (f := 51) rfl ?_); refine goesL_ (some 122) rfl rfl Try.func51 (by kernel_rfl) rfl #[.int .i64 (wrap64 (-x6_25))] rfl (by (try simp only [mT, mC, mN]); first | done | rfl | (simp only [lD, lT]; rfl)) ?_; (with_reducible refine (q_Cap.calls (wrap64 (-x6_25)) t251 _ A40.out).mono ?_); rintro e w' ⟨rfl, ⟨nd, rfl⟩⟩; refine ⟨_, rfl, ?_⟩))
                  go_ret2
                  exact ⟨by first | rfl | (simp; done) | (simp [*]; done), by repeat (first | exact dR _ | apply dS)⟩
                 ·replace c39 := Bool.eq_false_iff.mpr c39; subst c39
                  have H1 : ((q_Cap.f x6_25).bind fun t252 => (some (t252, true))) = some (r1, r2) := by rw [if_neg (show ¬ (false = true) by decide)] at H; exact H
                  clear H; have H := H1; clear H1; replace H := oB.mp H; obtain ⟨t252, A410, H⟩ := H; replace H : (some (t252, true)) = some (r1, r2) := H; have A41 := aM A410; clear A410
                  simp only [Option.some.injEq, Prod.mk.injEq] at H
                  obtain ⟨rfl, rfl⟩ := H
                  go_wp2_with (first | ((with_reducible refine gate_callee (f := 51) rfl ?_); refine goesL_ (some 122) rfl rfl Try.func51 (by kernel_rfl) rfl #[.int .i64 x6_25] rfl (by (try simp only [mT, mC, mN]); first | done | rfl | (simp only [lD, lT]; rfl)) ?_; (with_reducible refine (q_Cap.calls x6_25 t252 _ A41.out).mono ?_); rintro e w' ⟨rfl, ⟨nd, rfl⟩⟩; refine ⟨_, rfl, ?_⟩))
                  go_ret2
                  exact ⟨by first | rfl | (simp; done) | (simp [*]; done), by repeat (first | exact dR _ | apply dS)⟩

end Go.Proofs.Ytoemgjlkjnkdbaa.PS
