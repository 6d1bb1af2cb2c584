-- Written by wip/xprint.py, gen2.py and squeeze.py of this session, over the printer of the kit; not that printer's own output.
import Derived.Test.YtoemgjlkjnkdbaaPSx0
import Derived.Test.YtoemgjlkjnkdbaaPSx5
namespace Go.Proofs.Ytoemgjlkjnkdbaa.PS
open Go.RowKit Go.Proofs.YtoemgjlkjnkdbaaW.PrintWords Go.Proofs.YtoemgjlkjnkdbaaW.PrintLast
open Go.Proofs.YtoemgjlkjnkdbaaW.PrintWords renaming pw_below_drewN → bN, below_alloc → bA, below_drew1 → bD
open Go.Proofs.YtoemgjlkjnkdbaaW.PrintWords.Aside0 renaming mk → aM
open Go.Proofs.YtoemgjlkjnkdbaaW.PrintWords.Kd renaming R_alloc → RA, R_drewN → RN, R_drew → RD
open Go.Proofs.YtoemgjlkjnkdbaaW.PrintWords.Drawn0 renaming refl → dR, step → dS
open Option renaming bind_eq_some_iff → oB
open Option.some renaming inj → oI
open List renaming length_take → lT, length_drop → lD, map_toArray → mT, map_cons → mC, map_nil → mN
set_option linter.unusedVariables false
set_option linter.unusedSimpArgs false

mutual
def q_point.j2 : Nat → List Int → Int → Int → Int → Option (Int × Int)
 | 0, _, _, _, _ => none
 | k + 1, x0, x5, x6, x7 => if (x0.length : Int) < x5 then (some (65533, 1)) else (q_point.l0 k x0 x5 x6 x7 1)
def q_point.l0 : Nat → List Int → Int → Int → Int → Int → Option (Int × Int)
 | 0, _, _, _, _, _ => none
 | k + 1, x0, x5, x6, x7, x8 => if x8 < x5 then (if 0 ≤ x8 then (if x8 < (x0.length : Int) then (if (wrap64 (rd x0 x8)) < 128 then (some (65533, 1)) else (if (wrap64 (rd x0 x8)) > 191 then (some (65533, 1)) else (q_point.l0 k x0 x5 x6 (wrap64 ((wrap64 (x7 * 64)) + (Go.bits .and .i64 (wrap64 (rd x0 x8)) 63))) (wrap64 (x8 + 1))))) else (none)) else (none)) else (if x7 < x6 then (some (65533, 1)) else ((q_right.f x7).bind fun t379 => (if t379 = true then (some (x7, x5)) else (some (65533, 1)))))
def q_point.j0 : Nat → List Int → Int → Bool → Option (Int × Int)
 | 0, _, _, _ => none
 | k + 1, x0, x4, x18 => if x18 = true then (q_point.j2 k x0 2 128 (Go.bits .and .i64 x4 31)) else (if x4 ≥ 224 then (q_point.j1 k x0 x4 (decide (x4 < 240))) else (q_point.j1 k x0 x4 false))
def q_point.j1 : Nat → List Int → Int → Bool → Option (Int × Int)
 | 0, _, _, _ => none
 | k + 1, x0, x4, x27 => if x27 = true then (q_point.j2 k x0 3 2048 (Go.bits .and .i64 x4 15)) else (if x4 ≥ 240 then (if x4 < 245 then (q_point.j2 k x0 4 65536 (Go.bits .and .i64 x4 7)) else (some (65533, 1))) else (some (65533, 1)))
end
def q_point.f (k : Nat) (l0 : List Int) : Option (Int × Int) := if 0 < (l0.length : Int) then (if (wrap64 (rd l0 0)) < 128 then (some (wrap64 (rd l0 0), 1)) else (if (wrap64 (rd l0 0)) ≥ 194 then (q_point.j0 k l0 (wrap64 (rd l0 0)) (decide ((wrap64 (rd l0 0)) < 224))) else (q_point.j0 k l0 (wrap64 (rd l0 0)) false))) else (none)
set_option maxHeartbeats 8000000 in
set_option maxRecDepth 100000 in
theorem q_point.calls (k : Nat) (A0 : Option Addr) (c0 : Nat) (l0 : List Int) (r1 : Int) (r2 : Int) (w : World) (hr0 : Kd.C (Kd.int .u8) w A0 l0.length l0) (hc0 : l0.length ≤ c0) (h : q_point.f k l0 = some (r1, r2)) :
  Calls Try.prog 48 #[.slice A0 l0.length c0] w fun e w' => e = .returned (.tuple #[.int .i64 r1, .int .i64 r2]) ∧ Drawn0 w w' := by
 have HR0 := aM hr0; have HC0 := aM hc0; clear hr0 hc0; have H : (if 0 < (l0.length : Int) then (if (wrap64 (rd l0 0)) < 128 then (some (wrap64 (rd l0 0), 1)) else (if (wrap64 (rd l0 0)) ≥ 194 then (q_point.j0 k l0 (wrap64 (rd l0 0)) (decide ((wrap64 (rd l0 0)) < 224))) else (q_point.j0 k l0 (wrap64 (rd l0 0)) false))) else (none)) = some (r1, r2) := h; clear h
 by_cases c2 : 0 < (l0.length : Int)
 ·rw [if_pos c2] at H; have c2b0 : decide (0 < (l0.length : Int)) = true := decide_eq_true c2; have c2b1 : decide (0 < l0.length) = true := decide_eq_true (by omega); clear c2; have HC3 := aM H; clear H; have p377 : 0 ≤ (0 : Int) := (by omega); have q377 : 0 < (l0.length : Int) := of_decide_eq_true (by first | (with_reducible assumption) | assumption); obtain ⟨ad377, e377, hx377_0⟩ := Kd.at_int HR0.out 0 p377 q377
  cases e377
  have qi377 : (0 < l0.length) = True := eq_true (by omega)
  (try rw [show ((0 : Int)).toNat = 0 from rfl] at hx377_0)
  (try rw [Addr.add_zero'] at hx377_0)
  replace p377 := eq_true p377; replace q377 := eq_true q377
  go_enter Try.func48, Try.ntmps48
  go_upto_block 0 with (fail)
  go_cut [5, 6, 7] (fun v5 v6 v7 wc => ∃ (kq : Nat) (x5_2 : Int) (x6_2 : Int) (x7_2 : Int), v5 = .int .i64 x5_2 ∧ v6 = .int .i64 x6_2 ∧ v7 = .int .i64 x7_2 ∧ Aside0 (q_point.j2 kq l0 x5_2 x6_2 x7_2 = some (r1, r2)) ∧ Aside0 (kq ≤ k) ∧ Drawn0 w wc)
  case first =>
   have H := HC3.out; clear HC3
   by_cases c4 : (wrap64 (rd l0 0)) < 128
   ·rw [if_pos c4] at H; have c4b0 : decide ((wrap64 (rd l0 0)) < 128) = true := decide_eq_true c4; clear c4
    (first | rw [c4b0] | (simp only [i64_w, i32_w]; rw [c4b0]) | skip)
    simp only [Option.some.injEq, Prod.mk.injEq] at H
    obtain ⟨rfl, rfl⟩ := H; go_wp2
    go_ret2
    exact ⟨by first | rfl | (simp; done) | (simp [*]; done), by repeat (first | exact dR _ | apply dS)⟩
   ·rw [if_neg c4] at H; have c4b0 : decide ((wrap64 (rd l0 0)) < 128) = false := decide_eq_false c4; clear c4
    (first | rw [c4b0] | (simp only [i64_w, i32_w]; rw [c4b0]) | skip)
    have HC5 := aM H; clear H
    go_upto_region 8 with (fail)
    go_cut [18] (fun v18 wc => ∃ (kq : Nat) (x18_4 : Bool), v18 = .bool x18_4 ∧ Aside0 (q_point.j0 kq l0 (wrap64 (rd l0 0)) x18_4 = some (r1, r2)) ∧ Aside0 (kq ≤ k) ∧ Drawn0 w wc)
    case first =>
     have H := HC5.out; clear HC5
     by_cases c6 : (wrap64 (rd l0 0)) ≥ 194
     ·rw [if_pos c6] at H; have c6b0 : decide (194 ≤ (wrap64 (rd l0 0))) = true := decide_eq_true c6; clear c6
      (first | rw [c6b0] | (simp only [i64_w, i32_w]; rw [c6b0]) | skip)
      have H' := aM H; clear H; go_wp2; go_meet
      case rel => exact ⟨_, (decide ((wrap64 (rd l0 0)) < 224)), (by first | rfl | (simp; done) | (simp [*]; done)), H', ⟨by first | omega | exact Nat.le_refl _⟩, by repeat (first | exact dR _ | apply dS)⟩
     ·rw [if_neg c6] at H; have c6b0 : decide (194 ≤ (wrap64 (rd l0 0))) = false := decide_eq_false c6; clear c6
      (first | rw [c6b0] | (simp only [i64_w, i32_w]; rw [c6b0]) | skip)
      have H' := aM H; clear H; go_wp2; go_meet
      case rel => exact ⟨_, (false), (by first | rfl | (simp; done) | (simp [*]; done)), H', ⟨by first | omega | exact Nat.le_refl _⟩, by repeat (first | exact dR _ | apply dS)⟩
    case rest =>
     clear HC5; (try clear c2); (try clear c2b0); (try clear c2b1); (try clear p2); (try clear p3); (try clear q3); (try clear hx3); (try clear qi3); (try clear c4); (try clear c4b0); (try clear c6); (try clear c6b0); (try clear p6); (try clear hx377_0); (try clear p377); (try clear q377); obtain ⟨kq, x18_4, rfl, HA, HJ4, ⟨mc4, rfl⟩⟩ := hcut
     cases kq with
     | zero => exact absurd HA.out (by simp [q_point.j0])
     | succ kj4 =>
      have H := HA.out; clear HA
      simp only [q_point.j0] at H
      by_cases c7 : x18_4 = true
      ·subst c7
       have H1 : (q_point.j2 kj4 l0 2 128 (Go.bits .and .i64 (wrap64 (rd l0 0)) 31)) = some (r1, r2) := by rw [if_pos rfl] at H; exact H
       clear H; have H := H1; clear H1; have H' := aM H; clear H; go_wp2; go_meet
       case rel => exact ⟨_, (2), (128), (Go.bits .and .i64 (wrap64 (rd l0 0)) 31), (by first | rfl | (simp; done) | (simp [*]; done)), (by first | rfl | (simp; done) | (simp [*]; done)), (by first | rfl | (simp; done) | (simp [*]; done)), H', ⟨by have := HJ4.out; first | omega | exact Nat.le_refl _⟩, by repeat (first | exact dR _ | apply dS)⟩
      ·replace c7 := Bool.eq_false_iff.mpr c7; subst c7
       have H1 : (if (wrap64 (rd l0 0)) ≥ 224 then (q_point.j1 kj4 l0 (wrap64 (rd l0 0)) (decide ((wrap64 (rd l0 0)) < 240))) else (q_point.j1 kj4 l0 (wrap64 (rd l0 0)) false)) = some (r1, r2) := by rw [if_neg (show ¬ (false = true) by decide)] at H; exact H
       clear H; have H := H1; clear H1; have HC8 := aM H; clear H
       go_upto_region 12 with (fail)
       go_cut [27] (fun v27 wc => ∃ (kq : Nat) (x27_7 : Bool), v27 = .bool x27_7 ∧ Aside0 (q_point.j1 kq l0 (wrap64 (rd l0 0)) x27_7 = some (r1, r2)) ∧ Aside0 (kq ≤ kj4) ∧ Drawn0 w wc)
       case first =>
        have H := HC8.out; clear HC8
        by_cases c9 : (wrap64 (rd l0 0)) ≥ 224
        ·rw [if_pos c9] at H; have c9b0 : decide (224 ≤ (wrap64 (rd l0 0))) = true := decide_eq_true c9; clear c9
         (first | rw [c9b0] | (simp only [i64_w, i32_w]; rw [c9b0]) | skip)
         have H' := aM H; clear H; go_wp2; go_meet
         case rel => exact ⟨_, (decide ((wrap64 (rd l0 0)) < 240)), (by first | rfl | (simp; done) | (simp [*]; done)), H', ⟨by have := HJ4.out; first | omega | exact Nat.le_refl _⟩, by repeat (first | exact dR _ | apply dS)⟩
        ·rw [if_neg c9] at H; have c9b0 : decide (224 ≤ (wrap64 (rd l0 0))) = false := decide_eq_false c9; clear c9
         (first | rw [c9b0] | (simp only [i64_w, i32_w]; rw [c9b0]) | skip)
         have H' := aM H; clear H; go_wp2; go_meet
         case rel => exact ⟨_, (false), (by first | rfl | (simp; done) | (simp [*]; done)), H', ⟨by have := HJ4.out; first | omega | exact Nat.le_refl _⟩, by repeat (first | exact dR _ | apply dS)⟩
       case rest =>
        clear HC8; (try clear c2); (try clear c2b0); (try clear c2b1); (try clear p2); (try clear p3); (try clear q3); (try clear hx3); (try clear qi3); (try clear c4); (try clear c4b0); (try clear c6); (try clear c6b0); (try clear p6); (try clear c7); (try clear c9); (try clear c9b0); (try clear hx377_0); (try clear p2); (try clear p3); (try clear p377); (try clear p6); (try clear q3); (try clear q377); obtain ⟨kq, x27_7, rfl, HA, HJ7, ⟨mc7, rfl⟩⟩ := hcut
        cases kq with
        | zero => exact absurd HA.out (by simp [q_point.j1])
        | succ kj7 =>
         have H := HA.out; clear HA
         simp only [q_point.j1] at H
         by_cases c10 : x27_7 = true
         ·subst c10
          have H1 : (q_point.j2 kj7 l0 3 2048 (Go.bits .and .i64 (wrap64 (rd l0 0)) 15)) = some (r1, r2) := by rw [if_pos rfl] at H; exact H
          clear H; have H := H1; clear H1; have H' := aM H; clear H; go_wp2; go_meet
          case rel => exact ⟨_, (3), (2048), (Go.bits .and .i64 (wrap64 (rd l0 0)) 15), (by first | rfl | (simp; done) | (simp [*]; done)), (by first | rfl | (simp; done) | (simp [*]; done)), (by first | rfl | (simp; done) | (simp [*]; done)), H', ⟨by have := HJ4.out; have := HJ7.out; first | omega | exact Nat.le_refl _⟩, by repeat (first | exact dR _ | apply dS)⟩
         ·replace c10 := Bool.eq_false_iff.mpr c10; subst c10
          have H1 : (if (wrap64 (rd l0 0)) ≥ 240 then (if (wrap64 (rd l0 0)) < 245 then (q_point.j2 kj7 l0 4 65536 (Go.bits .and .i64 (wrap64 (rd l0 0)) 7)) else (some (65533, 1))) else (some (65533, 1))) = some (r1, r2) := by rw [if_neg (show ¬ (false = true) by decide)] at H; exact H
          clear H; have H := H1; clear H1
          by_cases c11 : (wrap64 (rd l0 0)) ≥ 240
          ·rw [if_pos c11] at H; have c11b0 : decide (240 ≤ (wrap64 (rd l0 0))) = true := decide_eq_true c11; clear c11
           by_cases c12 : (wrap64 (rd l0 0)) < 245
           ·rw [if_pos c12] at H; have c12b0 : decide ((wrap64 (rd l0 0)) < 245) = true := decide_eq_true c12; clear c12; have H' := aM H; clear H; go_wp2; go_meet
            case rel => exact ⟨_, (4), (65536), (Go.bits .and .i64 (wrap64 (rd l0 0)) 7), (by first | rfl | (simp; done) | (simp [*]; done)), (by first | rfl | (simp; done) | (simp [*]; done)), (by first | rfl | (simp; done) | (simp [*]; done)), H', ⟨by have := HJ4.out; have := HJ7.out; first | omega | exact Nat.le_refl _⟩, by repeat (first | exact dR _ | apply dS)⟩
           ·rw [if_neg c12] at H; have c12b0 : decide ((wrap64 (rd l0 0)) < 245) = false := decide_eq_false c12; clear c12
            simp only [Option.some.injEq, Prod.mk.injEq] at H
            obtain ⟨rfl, rfl⟩ := H; go_wp2
            go_ret2
            exact ⟨by first | rfl | (simp; done) | (simp [*]; done), by repeat (first | exact dR _ | apply dS)⟩
          ·rw [if_neg c11] at H; have c11b0 : decide (240 ≤ (wrap64 (rd l0 0))) = false := decide_eq_false c11; clear c11
           simp only [Option.some.injEq, Prod.mk.injEq] at H
           obtain ⟨rfl, rfl⟩ := H; go_wp2
           go_ret2
           exact ⟨by first | rfl | (simp; done) | (simp [*]; done), by repeat (first | exact dR _ | apply dS)⟩
  case rest =>
   clear HC3; (try clear c1); (try clear c2); (try clear c2b0); (try clear c2b1); (try clear p2); (try clear p3); (try clear q3); (try clear hx3); (try clear qi3); (try clear c4); (try clear c4b0); (try clear c6); (try clear c6b0); (try clear p6); (try clear c7); (try clear c9); (try clear c9b0); (try clear c10); (try clear c11); (try clear c11b0); (try clear c12); (try clear c12b0); (try clear hx377_0); (try clear p2); (try clear p3); (try clear p377); (try clear p6); (try clear q3); (try clear q377); obtain ⟨kq, x5_2, x6_2, x7_2, rfl, rfl, rfl, HA, HJ2, ⟨mc2, rfl⟩⟩ := hcut
   cases kq with
   | zero => exact absurd HA.out (by simp [q_point.j2])
   | succ kj2 =>
    have H := HA.out; clear HA
    simp only [q_point.j2] at H
    by_cases c13 : (l0.length : Int) < x5_2
    ·rw [if_pos c13] at H; have c13b0 : decide ((l0.length : Int) < x5_2) = true := decide_eq_true c13; clear c13
     simp only [Option.some.injEq, Prod.mk.injEq] at H
     obtain ⟨rfl, rfl⟩ := H; go_wp2
     go_ret2
     exact ⟨by first | rfl | (simp; done) | (simp [*]; done), by repeat (first | exact dR _ | apply dS)⟩
    ·rw [if_neg c13] at H; have c13b0 : decide ((l0.length : Int) < x5_2) = false := decide_eq_false c13; clear c13; have H' := aM H; clear H; go_wp2
     go_loopg [7, 8] kj2 (fun kq v7 v8 w' => ∃ (x7_2 : Int) (x8_2 : Int), v7 = .int .i64 x7_2 ∧ v8 = .int .i64 x8_2 ∧ Aside0 (q_point.l0 kq l0 x5_2 x6_2 x7_2 x8_2 = some (r1, r2)) ∧ Aside0 (kq ≤ kj2) ∧ Drawn0 w w')
     case atStart => exact ⟨(x7_2), (1), (by first | rfl | (simp; done) | (simp [*]; done)), (by first | rfl | (simp; done) | (simp [*]; done)), H', ⟨Nat.le_refl _⟩, by repeat (first | exact dR _ | apply dS)⟩
     case round =>
      clear H'; (try clear c1); (try clear c2); (try clear c2b0); (try clear c2b1); (try clear p2); (try clear p3); (try clear q3); (try clear hx3); (try clear qi3); (try clear c4); (try clear c4b0); (try clear c6); (try clear c6b0); (try clear p6); (try clear c7); (try clear c9); (try clear c9b0); (try clear c10); (try clear c11); (try clear c11b0); (try clear c12); (try clear c12b0); (try clear c13); (try clear c13b0); (try clear hx377_0); (try clear p2); (try clear p3); (try clear p377); (try clear p6); (try clear q3); (try clear q377); obtain ⟨x7_2, x8_2, rfl, rfl, HA, HK2, ⟨m2, rfl⟩⟩ := hrel
      cases gk with
      | zero => exact absurd HA.out (by simp [q_point.l0])
      | succ k2 =>
       have H := HA.out; clear HA
       simp only [q_point.l0] at H
       by_cases c14 : x8_2 < x5_2
       ·rw [if_pos c14] at H; have c14b0 : decide (x8_2 < x5_2) = true := decide_eq_true c14; clear c14
        by_cases c15 : 0 ≤ x8_2
        ·rw [if_pos c15] at H; have c15b0 : decide (0 ≤ x8_2) = true := decide_eq_true c15; clear c15
         by_cases c16 : x8_2 < (l0.length : Int)
         ·rw [if_pos c16] at H; have c16b0 : decide (x8_2 < (l0.length : Int)) = true := decide_eq_true c16; clear c16
          by_cases c17 : (wrap64 (rd l0 x8_2)) < 128
          ·rw [if_pos c17] at H; have c17b0 : decide ((wrap64 (rd l0 x8_2)) < 128) = true := decide_eq_true c17; clear c17
           simp only [Option.some.injEq, Prod.mk.injEq] at H
           obtain ⟨rfl, rfl⟩ := H; have p378 : 0 ≤ (x8_2 : Int) := of_decide_eq_true (by first | (with_reducible assumption) | assumption); have q378 : x8_2 < (l0.length : Int) := of_decide_eq_true (by first | (with_reducible assumption) | assumption); obtain ⟨ad378, e378, hx378_0⟩ := Kd.at_int HR0.out x8_2 p378 q378; obtain rfl : ad377 = ad378 := (by injection e378); replace p378 := eq_true p378; replace q378 := eq_true q378; go_wp2
           go_ret2
           exact ⟨by first | rfl | (simp; done) | (simp [*]; done), by repeat (first | exact dR _ | apply dS)⟩
          ·rw [if_neg c17] at H; have c17b0 : decide ((wrap64 (rd l0 x8_2)) < 128) = false := decide_eq_false c17; clear c17
           by_cases c18 : (wrap64 (rd l0 x8_2)) > 191
           ·rw [if_pos c18] at H; have c18b0 : decide (191 < (wrap64 (rd l0 x8_2))) = true := decide_eq_true c18; clear c18
            simp only [Option.some.injEq, Prod.mk.injEq] at H
            obtain ⟨rfl, rfl⟩ := H; have p378 : 0 ≤ (x8_2 : Int) := of_decide_eq_true (by first | (with_reducible assumption) | assumption); have q378 : x8_2 < (l0.length : Int) := of_decide_eq_true (by first | (with_reducible assumption) | assumption); obtain ⟨ad378, e378, hx378_0⟩ := Kd.at_int HR0.out x8_2 p378 q378; obtain rfl : ad377 = ad378 := (by injection e378); replace p378 := eq_true p378; replace q378 := eq_true q378; go_wp2
            go_ret2
            exact ⟨by first | rfl | (simp; done) | (simp [*]; done), by repeat (first | exact dR _ | apply dS)⟩
           ·rw [if_neg c18] at H; have c18b0 : decide (191 < (wrap64 (rd l0 x8_2))) = false := decide_eq_false c18; clear c18; have H' := aM H; clear H; have p378 : 0 ≤ (x8_2 : Int) := of_decide_eq_true (by first | (with_reducible assumption) | assumption); have q378 : x8_2 < (l0.length : Int) := of_decide_eq_true (by first | (with_reducible assumption) | assumption); obtain ⟨ad378, e378, hx378_0⟩ := Kd.at_int HR0.out x8_2 p378 q378; obtain rfl : ad377 = ad378 := (by injection e378); replace p378 := eq_true p378; replace q378 := eq_true q378; go_wp2
            go_roundg k2
            case measure => have := HJ2.out; have := HK2.out; omega
            case rel => exact ⟨(wrap64 ((wrap64 (x7_2 * 64)) + (Go.bits .and .i64 (wrap64 (rd l0 x8_2)) 63))), (wrap64 (x8_2 + 1)), (by first | rfl | (simp; done) | (simp [*]; done)), (by first | rfl | (simp; done) | (simp [*]; done)), H', ⟨by have := HJ2.out; have := HK2.out; omega⟩, by repeat (first | exact dR _ | apply dS)⟩
         ·rw [if_neg c16] at H
          exact absurd H (by simp)
        ·rw [if_neg c15] at H
         exact absurd H (by simp)
       ·rw [if_neg c14] at H; have c14b0 : decide (x8_2 < x5_2) = false := decide_eq_false c14; clear c14
        by_cases c19 : x7_2 < x6_2
        ·rw [if_pos c19] at H; have c19b0 : decide (x7_2 < x6_2) = true := decide_eq_true c19; clear c19
         simp only [Option.some.injEq, Prod.mk.injEq] at H
         obtain ⟨rfl, rfl⟩ := H; go_wp2
         go_ret2
         exact ⟨by first | rfl | (simp; done) | (simp [*]; done), by repeat (first | exact dR _ | apply dS)⟩
        ·rw [if_neg c19] at H; have c19b0 : decide (x7_2 < x6_2) = false := decide_eq_false c19; clear c19; replace H := oB.mp H; obtain ⟨t379, A200, H⟩ := H; replace H : (if t379 = true then (some (x7_2, x5_2)) else (some (65533, 1))) = some (r1, r2) := H; have A20 := aM A200; clear A200
         by_cases c21 : t379 = true
         ·subst c21
          have H1 : (some (x7_2, x5_2)) = some (r1, r2) := by rw [if_pos rfl] at H; exact H
          clear H; have H := H1; clear H1
          simp only [Option.some.injEq, Prod.mk.injEq] at H
          obtain ⟨rfl, rfl⟩ := H
          go_wp2_with (first | (go_at_call 42; (with_reducible refine (q_right.calls x7_2 true _ A20.out).mono ?_); rintro e w' ⟨rfl, ⟨nd, rfl⟩⟩))
          go_ret2
          exact ⟨by first | rfl | (simp; done) | (simp [*]; done), by repeat (first | exact dR _ | apply dS)⟩
         ·replace c21 := Bool.eq_false_iff.mpr c21; subst c21
          have H1 : (some (65533, 1)) = some (r1, r2) := by rw [if_neg (show ¬ (false = true) by decide)] at H; exact H
          clear H; have H := H1; clear H1
          simp only [Option.some.injEq, Prod.mk.injEq] at H
          obtain ⟨rfl, rfl⟩ := H
          go_wp2_with (first | (go_at_call 42; (with_reducible refine (q_right.calls x7_2 false _ A20.out).mono ?_); rintro e w' ⟨rfl, ⟨nd, rfl⟩⟩))
          go_ret2
          exact ⟨by first | rfl | (simp; done) | (simp [*]; done), by repeat (first | exact dR _ | apply dS)⟩
 ·rw [if_neg c2] at H
  exact absurd H (by simp)

def q_Points.l0 : Nat → List Int → List Int → Int → Option (List Int)
 | 0, _, _, _ => none
 | k + 1, x0, x3, x4 => if x4 < (x0.length : Int) then (if 0 ≤ x4 then (if x4 ≤ (x0.length : Int) then ((q_point.f k (x0.drop (x4 : Int).toNat)).bind fun bt381 => (if x3.length < 17592186044416 then (q_Points.l0 k x0 (x3 ++ [bt381.1]) (wrap64 (x4 + bt381.2))) else (none))) else (none)) else (none)) else (some x3)
def q_Points.f (k : Nat) (l0 : List Int) : Option (List Int) := q_Points.l0 k l0 ([] : List Int) 0
set_option maxHeartbeats 8000000 in
set_option maxRecDepth 100000 in
theorem q_Points.calls (k : Nat) (A0 : Option Addr) (c0 : Nat) (l0 : List Int) (r : List Int) (w : World) (hr0 : Kd.C (Kd.int .u8) w A0 l0.length l0) (hc0 : l0.length ≤ c0) (h : q_Points.f k l0 = some r) :
  Calls Try.prog 40 #[.slice A0 l0.length c0] w fun e w' => ∃ v0_ : Value, e = .returned (v0_) ∧ Kd.R (Kd.int .i64) 3 w' w.heap.size (fun _ => True) v0_ r ∧ Below w.heap.size w w' := by
 have HR0 := aM hr0; have HC0 := aM hc0; clear hr0 hc0; have HB := aM (Below.refl w.heap.size w); have H : (q_Points.l0 k l0 ([] : List Int) 0) = some r := h; clear h; have H' := aM H; clear H
 go_enter Try.func40, Try.ntmps40
 go_wp2
 go_loopg [3, 4] k (fun kq v3 v4 w' => ∃ (x3_1 : List Int) (x4_1 : Int), v4 = .int .i64 x4_1 ∧ Aside0 (q_Points.l0 kq l0 x3_1 x4_1 = some r) ∧ Aside0 (kq ≤ k) ∧ Aside0 (Kd.R (Kd.int .i64) 3 w' w.heap.size (fun _ => True) v3 x3_1) ∧ Aside0 (Below w.heap.size w w'))
 case atStart => exact ⟨(([] : List Int)), (0), (by first | rfl | (simp; done) | (simp [*]; done)), H', ⟨Nat.le_refl _⟩, ⟨by first | exact Kd.R_nil _ _ _ _ _ | exact Kd.N_nil _ _ _ _ _ | exact Kd.V_nil _ _ _ _ _ | exact Kd.Q_nil _ _ _ _ _ | exact Kd.S_nil _ _ _ _ _⟩, ⟨by repeat (first | (with_reducible first | exact HB.out | apply bA | apply bN | apply bD) | exact HB.out)⟩⟩
 case round =>
  clear H'; obtain ⟨x3_1, x4_1, rfl, HA, HK1, HO_3, HB⟩ := hrel
  cases gk with
  | zero => exact absurd HA.out (by simp [q_Points.l0])
  | succ k1 =>
   have H := HA.out; clear HA
   simp only [q_Points.l0] at H
   by_cases c2 : x4_1 < (l0.length : Int)
   ·rw [if_pos c2] at H; have c2b0 : decide (x4_1 < (l0.length : Int)) = true := decide_eq_true c2; clear c2
    by_cases c3 : 0 ≤ x4_1
    ·rw [if_pos c3] at H; have c3b0 := eq_true c3; have c3b1 : decide (0 ≤ x4_1) = true := decide_eq_true c3; clear c3
     by_cases c4 : x4_1 ≤ (l0.length : Int)
     ·rw [if_pos c4] at H; have c4b0 := eq_true c4; have c4b1 : decide (x4_1 ≤ (l0.length : Int)) = true := decide_eq_true c4; clear c4; replace H := oB.mp H; obtain ⟨⟨t381, t382⟩, A50, H⟩ := H; replace H : (if x3_1.length < 17592186044416 then (q_Points.l0 k1 l0 (x3_1 ++ [t381]) (wrap64 (x4_1 + t382))) else (none)) = some r := H; have A5 := aM A50; clear A50
      by_cases c6 : x3_1.length < 17592186044416
      ·rw [if_pos c6] at H; have LMc6 := aM c6; clear c6; obtain ⟨y383, hy383⟩ : ∃ y_ : List Int, y_ = (x3_1 ++ [t381]) := ⟨_, rfl⟩
       replace H : (q_Points.l0 k1 l0 y383 (wrap64 (x4_1 + t382))) = some r := by first | (rw [hy383]; with_reducible exact H) | (have H2_ := (Option.bind_some _ _).symm.trans H; rw [hy383]; with_reducible exact H2_) | (have H2_ := (Option.bind_some _ _).symm.trans H; with_reducible exact H2_) | with_reducible exact H | (rw [hy383]; exact H) | exact H
       have Ny383 := aM hy383; clear hy383; have H' := aM H; clear H; obtain ⟨i07, hi07, _, hsz7, _⟩ := info_parts info5; obtain ⟨A7, hcut7, hA7, hC7⟩ := print_drop_of (P := Try.prog) (Value.int .u8) 0 29 5 .i64 Try.underlying29 hi07 hsz7 A0 c0 l0 x4_1 (of_decide_eq_true (by first | (with_reducible assumption) | assumption)) (of_decide_eq_true (by first | (with_reducible assumption) | assumption)) HC0.out; have HR380 := aM (Kd.C_of_reads (h1 := fun _ => rfl) (hA7 _ (Kd.reads_of_C HR0.out))); have HC380 := aM hC7; clear hA7 hC7 hi07 hsz7
       go_wp2_with (first | ((with_reducible refine gate_callee (f := 48) rfl ?_); refine goesL_ (some 15) rfl rfl Try.func48 (by kernel_rfl) rfl #[.slice A7 (l0.drop (x4_1 : Int).toNat).length (c0 - x4_1.toNat)] rfl (by (try simp only [mT, mC, mN]); first | done | (rw [show (l0.drop (x4_1 : Int).toNat).length = (l0.length - x4_1.toNat) from lD] <;> rfl) | rfl | (simp only [lD, lT]; rfl)) ?_; (with_reducible refine (q_point.calls k1 _ _ (l0.drop (x4_1 : Int).toNat) t381 t382 _ ?side1 ?side2 A5.out).mono ?_); (case side1 => repeat (first | exact (Kd.C_below HR380.out HB.out) | (with_reducible refine Kd.C_alloc ?_ _) | (with_reducible refine Kd.C_drewN ?_ _) | (with_reducible refine Kd.C_drew ?_))); (case side2 => exact HC380.out); rintro e w' ⟨rfl, ⟨nd, rfl⟩⟩; refine ⟨_, rfl, ?_⟩) | ((with_reducible refine gate_builtin (b := .append) (xs := #[.tmp 18, .tmp 20]) rfl ?_); at_builtin; refine Kd.R_append (Kd.int .i64) (w0 := w) w.heap.size rfl (.tmp 18) (.tmp 20) 39 3 (.int .i64 0) 8 rfl Try.underlying39 info3 rfl (by decide) (by omega) u3 x3_1 t381 [.int .i64 t381] (fun _ => True) (fun _ => False) rfl rfl ?aP (fun _ hk => hk.elim) ?aF ?aO ?aB ?aS ?aL ?_; (case aP => exact rfl); (case aB => exact (by repeat (first | (with_reducible first | exact HB.out | apply bA | apply bN | apply bD) | exact HB.out))); (case aF => exact (fun _ _ => trivial)); (case aO => exact (by (with_reducible repeat (first | apply RA | apply RN | apply RD)); exact HO_3.out)); (case aS => exact (below_size (by repeat (first | (with_reducible first | exact HB.out | apply bA | apply bN | apply bD) | exact HB.out)))); (case aL => have := LMc6.out; omega); intro v384 w8 ho hb hg hat; rw [← Ny383.out] at ho; have n0_ := aM (hb); have n1_ := aM (ho); clear HB; clear HO_3; have HB := n0_; have HO385 := n1_; clear n0_ n1_; clear ho hb hg hat))
       go_roundg k1
       case measure => have := HK1.out; omega
       case rel => exact ⟨(y383), (wrap64 (x4_1 + t382)), (by first | rfl | (simp; done) | (simp [*]; done)), H', ⟨by have := HK1.out; omega⟩, ⟨by (with_reducible repeat (first | apply RA | apply RN | apply RD)); exact HO385.out⟩, ⟨by repeat (first | (with_reducible first | exact HB.out | apply bA | apply bN | apply bD) | exact HB.out)⟩⟩
      ·rw [if_neg c6] at H
       exact absurd H (by simp)
     ·rw [if_neg c4] at H
      exact absurd H (by simp)
    ·rw [if_neg c3] at H
     exact absurd H (by simp)
   ·rw [if_neg c2] at H; have c2b0 : decide (x4_1 < (l0.length : Int)) = false := decide_eq_false c2; clear c2; obtain rfl := oI H; go_wp2
    go_ret
    exact ⟨_, by first | rfl | (simp [errW_none, errW_some] <;> rfl) | (simp [*, errW_none, errW_some] <;> rfl), by (with_reducible repeat (first | apply RA | apply RN | apply RD)); exact HO_3.out, by repeat (first | (with_reducible first | exact HB.out | apply bA | apply bN | apply bD) | exact HB.out)⟩

end Go.Proofs.Ytoemgjlkjnkdbaa.PS
