-- Written by wip/xprint.py, gen2.py and squeeze.py of this session, over the printer of the kit; not that printer's own output.
import Derived.Test.YtoemgjlkjnkdbaaPSx0
namespace Go.Proofs.Ytoemgjlkjnkdbaa.PS
open Go.RowKit Go.Proofs.YtoemgjlkjnkdbaaW.PrintWords Go.Proofs.YtoemgjlkjnkdbaaW.PrintLast
open Go.Proofs.YtoemgjlkjnkdbaaW.PrintWords renaming pw_below_drewN → bN, below_alloc → bA, below_drew1 → bD
open Go.Proofs.YtoemgjlkjnkdbaaW.PrintWords.Aside0 renaming mk → aM
open Go.Proofs.YtoemgjlkjnkdbaaW.PrintWords.Kd renaming R_alloc → RA, R_drewN → RN, R_drew → RD
open Go.Proofs.YtoemgjlkjnkdbaaW.PrintWords.Drawn0 renaming refl → dR, step → dS
open Go.Proofs.YtoemgjlkjnkdbaaW.PrintWords.LeO renaming none → lN, bind → lB, ite → lI
open Option renaming bind_eq_some_iff → oB
open Option.some renaming inj → oI
open List renaming length_take → lT
set_option linter.unusedVariables false
set_option linter.unusedSimpArgs false

def rules_closing.j0 : Nat → Int → Bool → Option (Int)
 | 0, _, _ => none
 | k + 1, x3, x6 => if x6 = true then (some 17) else (if x3 = 18 then (some 19) else (some 0))
def rules_closing.f (k : Nat) (a0 : Int) : Option (Int) := if a0 = 14 then (some 15) else (if a0 = 16 then (rules_closing.j0 k a0 (a0 == 16)) else (rules_closing.j0 k a0 (a0 == 20)))
theorem rules_closing.mono_l : ∀ k, (∀ y0 y1, LeO (rules_closing.j0 k y0 y1) (rules_closing.j0 (k + 1) y0 y1))
 | 0 => fun _ _ r h => by simp [rules_closing.j0] at h
 | k + 1 => by
  have ih0 := rules_closing.mono_l k
  ·intro y0 y1
   unfold rules_closing.j0
   repeat' first
   | (with_reducible exact ih0 _ _)
   | (with_reducible exact LeO.refl _)
   | (with_reducible exact lN _)
   | (with_reducible refine lI ?_ ?_)
   | (with_reducible refine lB ?_ (fun _ => ?_))
   | exact ih0 _ _
   | exact lN _
   | refine lI ?_ ?_
   | refine lB ?_ (fun _ => ?_)
theorem rules_closing.mono : ∀ a0 k, LeO (rules_closing.f k a0) (rules_closing.f (k + 1) a0) := by
 intro a0 k; have ih0 := rules_closing.mono_l k
 unfold rules_closing.f
 repeat' first
   | (with_reducible exact ih0 _ _)
   | (with_reducible exact LeO.refl _)
   | (with_reducible exact lN _)
   | (with_reducible refine lI ?_ ?_)
   | (with_reducible refine lB ?_ (fun _ => ?_))
   | exact ih0 _ _
   | exact lN _
   | refine lI ?_ ?_
   | refine lB ?_ (fun _ => ?_)
set_option maxHeartbeats 8000000 in
set_option maxRecDepth 100000 in
theorem rules_closing.calls (k : Nat) (a0 : Int) (r : Int) (w : World) (h : rules_closing.f k a0 = some r) :
  Calls Try.prog 28 #[.int .i64 a0] w fun e w' => e = .returned (.int .i64 r) ∧ Drawn0 w w' := by
 have H : (if a0 = 14 then (some 15) else (if a0 = 16 then (rules_closing.j0 k a0 (a0 == 16)) else (rules_closing.j0 k a0 (a0 == 20)))) = some r := h; clear h
 by_cases c2 : a0 = 14
 ·rw [if_pos c2] at H; have c2b0 : (a0 == 14) = true := beq_iff_eq.mpr c2; have c2b1 : (a0 != 14) = false := bne_eq_false_iff_eq.mpr c2; clear c2; obtain rfl := oI H
  go_enter Try.func28, Try.ntmps28
  go_wp2
  go_ret
  exact ⟨by first | rfl | (simp; done) | (simp [*]; done), by repeat (first | exact dR _ | apply dS)⟩
 ·rw [if_neg c2] at H; have c2b0 : (a0 == 14) = false := beq_eq_false_iff_ne.mpr c2; have c2b1 : (a0 != 14) = true := bne_iff_ne.mpr c2; have HC3 := aM H; clear H
  go_enter Try.func28, Try.ntmps28
  go_upto_if 6 with (fail)
  go_cut [6] (fun v6 wc => ∃ (kq : Nat) (x6_2 : Bool), v6 = .bool x6_2 ∧ Aside0 (rules_closing.j0 kq a0 x6_2 = some r) ∧ Aside0 (kq ≤ k) ∧ Drawn0 w wc)
  case first =>
   have H := HC3.out; clear HC3
   by_cases c4 : a0 = 16
   ·rw [if_pos c4] at H; have c4b0 : (a0 == 16) = true := beq_iff_eq.mpr c4; have c4b1 : (a0 != 16) = false := bne_eq_false_iff_eq.mpr c4; clear c4
    (first | rw [c4b0] | (simp only [i64_w, i32_w]; rw [c4b0]) | skip)
    have H' := aM H; clear H; go_wp2; go_meet
    case rel => exact ⟨_, ((a0 == 16)), (by first | rfl | (simp; done) | (simp [*]; done)), H', ⟨by first | omega | exact Nat.le_refl _⟩, by repeat (first | exact dR _ | apply dS)⟩
   ·rw [if_neg c4] at H; have c4b0 : (a0 == 16) = false := beq_eq_false_iff_ne.mpr c4; have c4b1 : (a0 != 16) = true := bne_iff_ne.mpr c4
    (first | rw [c4b0] | (simp only [i64_w, i32_w]; rw [c4b0]) | skip)
    have H' := aM H; clear H; go_wp2; go_meet
    case rel => exact ⟨_, ((a0 == 20)), (by first | rfl | (simp; done) | (simp [*]; done)), H', ⟨by first | omega | exact Nat.le_refl _⟩, by repeat (first | exact dR _ | apply dS)⟩
  case rest =>
   clear HC3; (try clear c2); (try clear c2b0); (try clear c2b1); (try clear p2); (try clear c4); (try clear c4b0); (try clear c4b1); obtain ⟨kq, x6_2, rfl, HA, HJ2, ⟨mc2, rfl⟩⟩ := hcut
   cases kq with
   | zero => exact absurd HA.out (by simp [rules_closing.j0])
   | succ kj2 =>
    have H := HA.out; clear HA
    simp only [rules_closing.j0] at H
    by_cases c5 : x6_2 = true
    ·subst c5
     have H1 : (some 17) = some r := by rw [if_pos rfl] at H; exact H
     clear H; have H := H1; clear H1; obtain rfl := oI H; go_wp2
     go_ret
     exact ⟨by first | rfl | (simp; done) | (simp [*]; done), by repeat (first | exact dR _ | apply dS)⟩
    ·replace c5 := Bool.eq_false_iff.mpr c5; subst c5
     have H1 : (if a0 = 18 then (some 19) else (some 0)) = some r := by rw [if_neg (show ¬ (false = true) by decide)] at H; exact H
     clear H; have H := H1; clear H1
     by_cases c6 : a0 = 18
     ·rw [if_pos c6] at H; have c6b0 : (a0 == 18) = true := beq_iff_eq.mpr c6; have c6b1 : (a0 != 18) = false := bne_eq_false_iff_eq.mpr c6; clear c6; obtain rfl := oI H; go_wp2
      go_ret
      exact ⟨by first | rfl | (simp; done) | (simp [*]; done), by repeat (first | exact dR _ | apply dS)⟩
     ·rw [if_neg c6] at H; have c6b0 : (a0 == 18) = false := beq_eq_false_iff_ne.mpr c6; have c6b1 : (a0 != 18) = true := bne_iff_ne.mpr c6; obtain rfl := oI H; go_wp2
      go_ret
      exact ⟨by first | rfl | (simp; done) | (simp [*]; done), by repeat (first | exact dR _ | apply dS)⟩

mutual
def rules_Skip.j0 : Nat → List (S35) → Int → Bool → Option (Int)
 | 0, _, _, _ => none
 | k + 1, x0, x1, x15 => if x15 = true then (some x1) else (rules_Skip.l0 k x0 x1 ([] : List Int))
def rules_Skip.l0 : Nat → List (S35) → Int → List Int → Option (Int)
 | 0, _, _, _ => none
 | k + 1, x0, x1, x5 => if x1 < (x0.length : Int) then (if (x5.length : Int) > 0 then (if 0 ≤ x1 then (if 0 ≤ (wrap64 ((x5.length : Int) - 1)) then (if (wrap64 ((x5.length : Int) - 1)) < (x5.length : Int) then (rules_Skip.j2 k x0 x1 x5 (x5.length : Int) (((rd_T35 x0 x1).f0) == (rd x5 (wrap64 ((x5.length : Int) - 1))))) else (none)) else (none)) else (none)) else (rules_Skip.j2 k x0 x1 x5 (x5.length : Int) false)) else (some x1)
def rules_Skip.j2 : Nat → List (S35) → Int → List Int → Int → Bool → Option (Int)
 | 0, _, _, _, _, _ => none
 | k + 1, x0, x1, x5, x6, x39 => if x39 = true then (if 0 ≤ (wrap64 (x6 - 1)) then (if (wrap64 (x6 - 1)) ≤ (x5.length : Int) then ((some (x5.take ((wrap64 (x6 - 1)) : Int).toNat : List Int)).bind fun y103 => (if (y103.length : Int) = 0 then (some (wrap64 (x1 + 1))) else (rules_Skip.l0 k x0 (wrap64 (x1 + 1)) y103))) else (none)) else (none)) else (if 0 ≤ x1 then (if x1 < (x0.length : Int) then ((rules_closing.f k ((rd_T35 x0 x1).f0)).bind fun t107 => (if t107 = 0 then (if (x5.length : Int) = 0 then (some (wrap64 (x1 + 1))) else (rules_Skip.l0 k x0 (wrap64 (x1 + 1)) x5)) else (if x5.length < 17592186044416 then ((some (x5 ++ [t107] : List Int)).bind fun y108 => (if (y108.length : Int) = 0 then (some (wrap64 (x1 + 1))) else (rules_Skip.l0 k x0 (wrap64 (x1 + 1)) y108))) else (none)))) else (none)) else (none))
end
def rules_Skip.f (k : Nat) (l0 : List (S35)) (a1 : Int) : Option (Int) := if a1 < 0 then (rules_Skip.j0 k l0 a1 true) else (rules_Skip.j0 k l0 a1 (decide (a1 ≥ (l0.length : Int))))
theorem rules_Skip.mono_l : ∀ k, (∀ y0 y1 y2, LeO (rules_Skip.j0 k y0 y1 y2) (rules_Skip.j0 (k + 1) y0 y1 y2)) ∧ (∀ y0 y1 y2, LeO (rules_Skip.l0 k y0 y1 y2) (rules_Skip.l0 (k + 1) y0 y1 y2)) ∧ (∀ y0 y1 y2 y3 y4, LeO (rules_Skip.j2 k y0 y1 y2 y3 y4) (rules_Skip.j2 (k + 1) y0 y1 y2 y3 y4))
 | 0 => ⟨fun _ _ _ r h => by simp [rules_Skip.j0] at h, fun _ _ _ r h => by simp [rules_Skip.l0] at h, fun _ _ _ _ _ r h => by simp [rules_Skip.j2] at h⟩
 | k + 1 => by
  obtain ⟨ih0, ih1, ih2⟩ := rules_Skip.mono_l k
  refine ⟨?_, ?_, ?_⟩
  ·intro y0 y1 y2
   unfold rules_Skip.j0
   repeat' first
   | (with_reducible exact ih0 _ _ _)
   | (with_reducible exact ih1 _ _ _)
   | (with_reducible exact ih2 _ _ _ _ _)
   | (with_reducible exact rules_closing.mono _ _)
   | (with_reducible exact LeO.refl _)
   | (with_reducible exact lN _)
   | (with_reducible refine lI ?_ ?_)
   | (with_reducible refine lB ?_ (fun _ => ?_))
   | exact ih0 _ _ _
   | exact ih1 _ _ _
   | exact ih2 _ _ _ _ _
   | exact rules_closing.mono _ _
   | exact lN _
   | refine lI ?_ ?_
   | refine lB ?_ (fun _ => ?_)
  ·intro y0 y1 y2
   unfold rules_Skip.l0
   repeat' first
   | (with_reducible exact ih0 _ _ _)
   | (with_reducible exact ih1 _ _ _)
   | (with_reducible exact ih2 _ _ _ _ _)
   | (with_reducible exact rules_closing.mono _ _)
   | (with_reducible exact LeO.refl _)
   | (with_reducible exact lN _)
   | (with_reducible refine lI ?_ ?_)
   | (with_reducible refine lB ?_ (fun _ => ?_))
   | exact ih0 _ _ _
   | exact ih1 _ _ _
   | exact ih2 _ _ _ _ _
   | exact rules_closing.mono _ _
   | exact lN _
   | refine lI ?_ ?_
   | refine lB ?_ (fun _ => ?_)
  ·intro y0 y1 y2 y3 y4
   unfold rules_Skip.j2
   repeat' first
   | (with_reducible exact ih0 _ _ _)
   | (with_reducible exact ih1 _ _ _)
   | (with_reducible exact ih2 _ _ _ _ _)
   | (with_reducible exact rules_closing.mono _ _)
   | (with_reducible exact LeO.refl _)
   | (with_reducible exact lN _)
   | (with_reducible refine lI ?_ ?_)
   | (with_reducible refine lB ?_ (fun _ => ?_))
   | exact ih0 _ _ _
   | exact ih1 _ _ _
   | exact ih2 _ _ _ _ _
   | exact rules_closing.mono _ _
   | exact lN _
   | refine lI ?_ ?_
   | refine lB ?_ (fun _ => ?_)
theorem rules_Skip.mono : ∀ a0 a1 k, LeO (rules_Skip.f k a0 a1) (rules_Skip.f (k + 1) a0 a1) := by
 intro a0 a1 k; obtain ⟨ih0, ih1, ih2⟩ := rules_Skip.mono_l k
 unfold rules_Skip.f
 repeat' first
   | (with_reducible exact ih0 _ _ _)
   | (with_reducible exact ih1 _ _ _)
   | (with_reducible exact ih2 _ _ _ _ _)
   | (with_reducible exact rules_closing.mono _ _)
   | (with_reducible exact LeO.refl _)
   | (with_reducible exact lN _)
   | (with_reducible refine lI ?_ ?_)
   | (with_reducible refine lB ?_ (fun _ => ?_))
   | exact ih0 _ _ _
   | exact ih1 _ _ _
   | exact ih2 _ _ _ _ _
   | exact rules_closing.mono _ _
   | exact lN _
   | refine lI ?_ ?_
   | refine lB ?_ (fun _ => ?_)
set_option maxHeartbeats 8000000 in
set_option maxRecDepth 100000 in
theorem rules_Skip.calls (k : Nat) (A0 : Option Addr) (c0 : Nat) (l0 : List (S35)) (a1 : Int) (r : Int) (w : World) (hr0 : Kd.C k35 w A0 l0.length l0) (hc0 : l0.length ≤ c0) (h : rules_Skip.f k l0 a1 = some r) :
  Calls Try.prog 17 #[.slice A0 l0.length c0, .int .i64 a1] w fun e w' => e = .returned (.int .i64 r) ∧ Below w.heap.size w w' := by
 have HR0 := aM hr0; have HC0 := aM hc0; clear hr0 hc0; have HB := aM (Below.refl w.heap.size w); have H : (if a1 < 0 then (rules_Skip.j0 k l0 a1 true) else (rules_Skip.j0 k l0 a1 (decide (a1 ≥ (l0.length : Int))))) = some r := h; clear h; have HC3 := aM H; clear H
 go_enter Try.func17, Try.ntmps17
 go_upto_region 1 with (fail)
 repeat (go_quiet (fail); go_upto_region 1 with (fail))
 go_cut [15] (fun v15 wc => ∃ (kq : Nat) (x15_2 : Bool), v15 = .bool x15_2 ∧ Aside0 (rules_Skip.j0 kq l0 a1 x15_2 = some r) ∧ Aside0 (kq ≤ k) ∧ Aside0 (Below w.heap.size w wc))
 case first =>
  have H := HC3.out; clear HC3
  by_cases c4 : a1 < 0
  ·rw [if_pos c4] at H; have c4b0 : decide (a1 < 0) = true := decide_eq_true c4; clear c4
   (first | rw [c4b0] | (simp only [i64_w, i32_w]; rw [c4b0]) | skip)
   have H' := aM H; clear H; go_wp2
   repeat (go_quiet (fail); try go_wp2)
   go_meet
   case rel => exact ⟨_, (true), (by first | rfl | (simp; done) | (simp [*]; done)), H', ⟨by first | omega | exact Nat.le_refl _⟩, ⟨by repeat (first | (with_reducible first | exact HB.out | apply bA | apply bN | apply bD) | exact HB.out)⟩⟩
  ·rw [if_neg c4] at H; have c4b0 : decide (a1 < 0) = false := decide_eq_false c4; clear c4
   (first | rw [c4b0] | (simp only [i64_w, i32_w]; rw [c4b0]) | skip)
   have H' := aM H; clear H; go_wp2
   repeat (go_quiet (fail); try go_wp2)
   go_meet
   case rel => exact ⟨_, (decide (a1 ≥ (l0.length : Int))), (by first | rfl | (simp; done) | (simp [*]; done)), H', ⟨by first | omega | exact Nat.le_refl _⟩, ⟨by repeat (first | (with_reducible first | exact HB.out | apply bA | apply bN | apply bD) | exact HB.out)⟩⟩
 case rest =>
  clear HC3; (try clear c1); (try clear p2); (try clear c4); (try clear c4b0); obtain ⟨kq, x15_2, rfl, HA, HJ2, HB⟩ := hcut
  cases kq with
  | zero => exact absurd HA.out (by simp [rules_Skip.j0])
  | succ kj2 =>
   have H := HA.out; clear HA
   simp only [rules_Skip.j0] at H
   by_cases c5 : x15_2 = true
   ·subst c5
    have H1 : (some a1) = some r := by rw [if_pos rfl] at H; exact H
    clear H; have H := H1; clear H1; obtain rfl := oI H; go_wp2
    repeat (go_quiet (fail); try go_wp2)
    go_ret
    exact ⟨by first | rfl | (simp [errW_none, errW_some] <;> rfl) | (simp [*, errW_none, errW_some] <;> rfl), by repeat (first | (with_reducible first | exact HB.out | apply bA | apply bN | apply bD) | exact HB.out)⟩
   ·replace c5 := Bool.eq_false_iff.mpr c5; subst c5
    have H1 : (rules_Skip.l0 kj2 l0 a1 ([] : List Int)) = some r := by rw [if_neg (show ¬ (false = true) by decide)] at H; exact H
    clear H; have H := H1; clear H1; have H' := aM H; clear H; go_wp2
    repeat (go_quiet (fail); try go_wp2)
    go_loopg [1, 5] kj2 (fun kq v1 v5 w' => ∃ (x1_2 : Int) (x5_2 : List Int), v1 = .int .i64 x1_2 ∧ Aside0 (rules_Skip.l0 kq l0 x1_2 x5_2 = some r) ∧ Aside0 (kq ≤ kj2) ∧ Aside0 (Kd.R (Kd.int .i64) 3 w' w.heap.size (fun _ => True) v5 x5_2) ∧ Aside0 (Below w.heap.size w w'))
    case atStart => exact ⟨(a1), (([] : List Int)), (by first | rfl | (simp; done) | (simp [*]; done)), H', ⟨Nat.le_refl _⟩, ⟨by first | exact Kd.R_nil _ _ _ _ _ | exact Kd.N_nil _ _ _ _ _ | exact Kd.V_nil _ _ _ _ _ | exact Kd.Q_nil _ _ _ _ _ | exact Kd.S_nil _ _ _ _ _⟩, ⟨by repeat (first | (with_reducible first | exact HB.out | apply bA | apply bN | apply bD) | exact HB.out)⟩⟩
    case round =>
     clear H'; (try clear c1); (try clear p2); (try clear c4); (try clear c4b0); (try clear c5); (try clear p2); obtain ⟨x1_2, x5_2, rfl, HA, HK2, HO_5, HB⟩ := hrel
     cases gk with
     | zero => exact absurd HA.out (by simp [rules_Skip.l0])
     | succ k2 =>
      have H := HA.out; clear HA
      simp only [rules_Skip.l0] at H
      by_cases c6 : x1_2 < (l0.length : Int)
      ·rw [if_pos c6] at H; have c6b0 : decide (x1_2 < (l0.length : Int)) = true := decide_eq_true c6; clear c6; have HC7 := aM H; clear H; obtain ⟨Ao8, co8, eo8⟩ := Kd.R_slice HO_5.out; subst eo8
       go_upto_region 7 with (fail)
       repeat (go_quiet (fail); go_upto_region 7 with (fail))
       go_cut [39] (fun v39 wc => ∃ (kq : Nat) (x39_6 : Bool), v39 = .bool x39_6 ∧ Aside0 (rules_Skip.j2 kq l0 x1_2 x5_2 (x5_2.length : Int) x39_6 = some r) ∧ Aside0 (kq ≤ k2) ∧ Aside0 (Kd.R (Kd.int .i64) 3 wc w.heap.size (fun _ => True) (.slice Ao8 x5_2.length co8) x5_2) ∧ Aside0 (Below w.heap.size w wc))
       case first =>
        have H := HC7.out; clear HC7
        by_cases c9 : (x5_2.length : Int) > 0
        ·rw [if_pos c9] at H; have c9b0 : decide (0 < (x5_2.length : Int)) = true := decide_eq_true c9; have c9b1 : decide (0 < x5_2.length) = true := decide_eq_true (by omega); clear c9
         (first | rw [c9b0] | (simp only [i64_w, i32_w]; rw [c9b0]) | skip)
         by_cases c10 : 0 ≤ x1_2
         ·rw [if_pos c10] at H; have c10b0 : decide (0 ≤ x1_2) = true := decide_eq_true c10; clear c10; obtain ⟨ji11, hji11⟩ : ∃ j_ : Int, (wrap64 ((x5_2.length : Int) - 1)) = j_ := ⟨_, rfl⟩
          replace H : (if 0 ≤ (ji11) then (if (ji11) < (x5_2.length : Int) then (rules_Skip.j2 k2 l0 x1_2 x5_2 (x5_2.length : Int) (((rd_T35 l0 x1_2).f0) == (rd x5_2 (ji11)))) else (none)) else (none)) = some r := by first | (rw [hji11] at H; exact H) | (simp only [hji11] at H ⊢; exact H)
          have hji11w : (IntKind.i64.wrap ((x5_2.length : Int) - 1)) = ji11 := (i64_w _).trans hji11
          by_cases c12 : 0 ≤ (ji11)
          ·rw [if_pos c12] at H; have c12b0 : decide (0 ≤ (ji11)) = true := decide_eq_true c12; clear c12
           by_cases c13 : (ji11) < (x5_2.length : Int)
           ·rw [if_pos c13] at H; have c13b0 : decide ((ji11) < (x5_2.length : Int)) = true := decide_eq_true c13; clear c13; have H' := aM H; clear H; have p101 : 0 ≤ (x1_2 : Int) := of_decide_eq_true (by first | (with_reducible assumption) | assumption); have q101 : x1_2 < (l0.length : Int) := of_decide_eq_true (by first | (with_reducible assumption) | assumption); obtain ⟨ad101, e101, hx101_0, hx101_1, hx101_2, hx101_3, hx101_4⟩ := at_T35 HR0.out x1_2 p101 q101
            cases e101
            replace hx101_0 := (HB.out.cell (World.block_lt_of_cell? w _ hx101_0)).trans hx101_0; replace hx101_1 := (HB.out.cell (World.block_lt_of_cell? w _ hx101_1)).trans hx101_1; replace hx101_2 := (HB.out.cell (World.block_lt_of_cell? w _ hx101_2)).trans hx101_2; replace hx101_3 := (HB.out.cell (World.block_lt_of_cell? w _ hx101_3)).trans hx101_3; replace hx101_4 := (HB.out.cell (World.block_lt_of_cell? w _ hx101_4)).trans hx101_4; replace p101 := eq_true p101; replace q101 := eq_true q101; have p102 : 0 ≤ ((ji11) : Int) := of_decide_eq_true (by first | (with_reducible assumption) | assumption); have q102 : (ji11) < (x5_2.length : Int) := of_decide_eq_true (by first | (with_reducible assumption) | assumption); obtain ⟨ad102, e102, hx102_0⟩ := Kd.at_int (Kd.R_reads' HO_5.out).2.2 (ji11) p102 q102
            cases e102
            replace p102 := eq_true p102; replace q102 := eq_true q102; go_wp2
            repeat (go_quiet (fail); try go_wp2)
            go_meet
            case rel => exact ⟨_, ((((rd_T35 l0 x1_2).f0) == (rd x5_2 (ji11)))), (by first | rfl | (simp; done) | (simp only [← hji11] <;> (first | rfl | simp)) | (simp [*]; done)), H', ⟨by have := HJ2.out; have := HK2.out; first | omega | exact Nat.le_refl _⟩, ⟨by (with_reducible repeat (first | apply RA | apply RN | apply RD)); exact HO_5.out⟩, ⟨by repeat (first | (with_reducible first | exact HB.out | apply bA | apply bN | apply bD) | exact HB.out)⟩⟩
           ·rw [if_neg c13] at H
            exact absurd H (by simp)
          ·rw [if_neg c12] at H
           exact absurd H (by simp)
         ·rw [if_neg c10] at H
          exact absurd H (by simp)
        ·rw [if_neg c9] at H; have c9b0 : decide (0 < (x5_2.length : Int)) = false := decide_eq_false c9; have c9b1 : decide (0 < x5_2.length) = false := decide_eq_false (by omega); clear c9
         (first | rw [c9b0] | (simp only [i64_w, i32_w]; rw [c9b0]) | skip)
         have H' := aM H; clear H; go_wp2
         repeat (go_quiet (fail); try go_wp2)
         go_meet
         case rel => exact ⟨_, (false), (by first | rfl | (simp; done) | (simp [*]; done)), H', ⟨by have := HJ2.out; have := HK2.out; first | omega | exact Nat.le_refl _⟩, ⟨by (with_reducible repeat (first | apply RA | apply RN | apply RD)); exact HO_5.out⟩, ⟨by repeat (first | (with_reducible first | exact HB.out | apply bA | apply bN | apply bD) | exact HB.out)⟩⟩
       case rest =>
        clear HC7; (try clear c1); (try clear p1); (try clear q1); (try clear hx1); (try clear p2); (try clear c4); (try clear c4b0); (try clear c5); (try clear c6); (try clear c6b0); (try clear p6); (try clear c9); (try clear c9b0); (try clear c9b1); (try clear c10); (try clear c10b0); (try clear p10); (try clear q10); (try clear hx10); (try clear c12); (try clear c12b0); (try clear c13); (try clear c13b0); (try clear hx101_0); (try clear hx101_1); (try clear hx101_2); (try clear hx101_3); (try clear hx101_4); (try clear hx102_0); (try clear p101); (try clear p102); (try clear p2); (try clear q101); (try clear q102); obtain ⟨kq, x39_6, rfl, HA, HJ6, HO_5, HB⟩ := hcut
        cases kq with
        | zero => exact absurd HA.out (by simp [rules_Skip.j2])
        | succ kj6 =>
         have H := HA.out; clear HA
         simp only [rules_Skip.j2] at H
         by_cases c14 : x39_6 = true
         ·subst c14
          have H1 : (if 0 ≤ (wrap64 ((x5_2.length : Int) - 1)) then (if (wrap64 ((x5_2.length : Int) - 1)) ≤ (x5_2.length : Int) then ((some (x5_2.take ((wrap64 ((x5_2.length : Int) - 1)) : Int).toNat : List Int)).bind fun y103 => (if (y103.length : Int) = 0 then (some (wrap64 (x1_2 + 1))) else (rules_Skip.l0 kj6 l0 (wrap64 (x1_2 + 1)) y103))) else (none)) else (none)) = some r := by rw [if_pos rfl] at H; exact H
          clear H; have H := H1; clear H1; obtain ⟨ji15, hji15⟩ : ∃ j_ : Int, (wrap64 ((x5_2.length : Int) - 1)) = j_ := ⟨_, rfl⟩
          replace H : (if 0 ≤ (ji15) then (if (ji15) ≤ (x5_2.length : Int) then ((some (x5_2.take ((ji15) : Int).toNat : List Int)).bind fun y103 => (if (y103.length : Int) = 0 then (some (wrap64 (x1_2 + 1))) else (rules_Skip.l0 kj6 l0 (wrap64 (x1_2 + 1)) y103))) else (none)) else (none)) = some r := by first | (rw [hji15] at H; exact H) | (simp only [hji15] at H ⊢; exact H)
          have hji15w : (IntKind.i64.wrap ((x5_2.length : Int) - 1)) = ji15 := (i64_w _).trans hji15
          by_cases c16 : 0 ≤ (ji15)
          ·rw [if_pos c16] at H; have c16b0 := eq_true c16; have c16b1 : decide (0 ≤ (ji15)) = true := decide_eq_true c16; clear c16
           by_cases c17 : (ji15) ≤ (x5_2.length : Int)
           ·rw [if_pos c17] at H; have c17b0 := eq_true c17; have c17b1 : decide ((ji15) ≤ (x5_2.length : Int)) = true := decide_eq_true c17; clear c17; obtain ⟨y103, hy103⟩ : ∃ y_ : List Int, y_ = (x5_2.take ((ji15) : Int).toNat) := ⟨_, rfl⟩
            replace H : (if (y103.length : Int) = 0 then (some (wrap64 (x1_2 + 1))) else (rules_Skip.l0 kj6 l0 (wrap64 (x1_2 + 1)) y103)) = some r := by first | (rw [hy103]; with_reducible exact H) | (have H2_ := (Option.bind_some _ _).symm.trans H; rw [hy103]; with_reducible exact H2_) | (have H2_ := (Option.bind_some _ _).symm.trans H; with_reducible exact H2_) | with_reducible exact H | (rw [hy103]; exact H) | exact H
            have Ny103 := aM hy103; clear hy103
            by_cases c18 : (y103.length : Int) = 0
            ·rw [if_pos c18] at H; have c18b0 : ((y103.length : Int) == 0) = true := beq_iff_eq.mpr c18; have c18b1 : ((y103.length : Int) != 0) = false := bne_eq_false_iff_eq.mpr c18; clear c18; obtain rfl := oI H; have q19 : ((ji15) : Int) ≤ ((x5_2.length : Int) : Int) := of_decide_eq_true (by first | (with_reducible assumption) | assumption); obtain ⟨i019, hi019, _, hsz19, _⟩ := info_parts info3; have hcut19 := cut_to (P := Try.prog) 39 3 .i64 Try.underlying39 hi019 Ao8 x5_2.length co8 (ji15) (of_decide_eq_true (by first | (with_reducible assumption) | assumption)) q19 (Kd.R_reads' HO_5.out).2.1; have hr19 := Kd.R_take (m := ((ji15) : Int).toNat) HO_5.out (by omega); have hy19 : y103.length = ((ji15) : Int).toNat := (by rw [Ny103.out, lT]; omega); rw [← Ny103.out] at hr19; rw [← hy19] at hr19 hcut19; clear hy19 hi019 hsz19 HO_5; have HO105 := aM hr19; clear hr19; replace q19 := eq_true q19; go_wp2
             repeat (go_quiet (fail); try go_wp2)
             go_ret
             exact ⟨by first | rfl | (simp [errW_none, errW_some] <;> rfl) | (simp only [← hji15]; first | rfl | (simp [errW_none, errW_some] <;> rfl)) | (simp [*, errW_none, errW_some] <;> rfl), by repeat (first | (with_reducible first | exact HB.out | apply bA | apply bN | apply bD) | exact HB.out)⟩
            ·rw [if_neg c18] at H; have c18b0 : ((y103.length : Int) == 0) = false := beq_eq_false_iff_ne.mpr c18; have c18b1 : ((y103.length : Int) != 0) = true := bne_iff_ne.mpr c18
             have c18b2 : ¬ (y103 = []) := fun h_ => c18 (by rw [h_]; rfl)
             have H' := aM H; clear H; have q20 : ((ji15) : Int) ≤ ((x5_2.length : Int) : Int) := of_decide_eq_true (by first | (with_reducible assumption) | assumption); obtain ⟨i020, hi020, _, hsz20, _⟩ := info_parts info3; have hcut20 := cut_to (P := Try.prog) 39 3 .i64 Try.underlying39 hi020 Ao8 x5_2.length co8 (ji15) (of_decide_eq_true (by first | (with_reducible assumption) | assumption)) q20 (Kd.R_reads' HO_5.out).2.1; have hr20 := Kd.R_take (m := ((ji15) : Int).toNat) HO_5.out (by omega); have hy20 : y103.length = ((ji15) : Int).toNat := (by rw [Ny103.out, lT]; omega); rw [← Ny103.out] at hr20; rw [← hy20] at hr20 hcut20; clear hy20 hi020 hsz20 HO_5; have HO105 := aM hr20; clear hr20; replace q20 := eq_true q20; go_wp2
             repeat (go_quiet (fail); try go_wp2)
             go_roundg kj6
             case measure => have := HJ2.out; have := HK2.out; have := HJ6.out; omega
             case rel => exact ⟨(wrap64 (x1_2 + 1)), (y103), (by first | rfl | (simp; done) | (simp [*]; done)), H', ⟨by have := HJ2.out; have := HK2.out; have := HJ6.out; omega⟩, ⟨by (with_reducible repeat (first | apply RA | apply RN | apply RD)); exact HO105.out⟩, ⟨by repeat (first | (with_reducible first | exact HB.out | apply bA | apply bN | apply bD) | exact HB.out)⟩⟩
           ·rw [if_neg c17] at H
            exact absurd H (by simp)
          ·rw [if_neg c16] at H
           exact absurd H (by simp)
         ·replace c14 := Bool.eq_false_iff.mpr c14; subst c14
          have H1 : (if 0 ≤ x1_2 then (if x1_2 < (l0.length : Int) then ((rules_closing.f kj6 ((rd_T35 l0 x1_2).f0)).bind fun t107 => (if t107 = 0 then (if (x5_2.length : Int) = 0 then (some (wrap64 (x1_2 + 1))) else (rules_Skip.l0 kj6 l0 (wrap64 (x1_2 + 1)) x5_2)) else (if x5_2.length < 17592186044416 then ((some (x5_2 ++ [t107] : List Int)).bind fun y108 => (if (y108.length : Int) = 0 then (some (wrap64 (x1_2 + 1))) else (rules_Skip.l0 kj6 l0 (wrap64 (x1_2 + 1)) y108))) else (none)))) else (none)) else (none)) = some r := by rw [if_neg (show ¬ (false = true) by decide)] at H; exact H
          clear H; have H := H1; clear H1
          by_cases c21 : 0 ≤ x1_2
          ·rw [if_pos c21] at H; have c21b0 : decide (0 ≤ x1_2) = true := decide_eq_true c21; clear c21
           by_cases c22 : x1_2 < (l0.length : Int)
           ·rw [if_pos c22] at H; have c22b0 : decide (x1_2 < (l0.length : Int)) = true := decide_eq_true c22; clear c22; replace H := oB.mp H; obtain ⟨t107, A230, H⟩ := H; replace H : (if t107 = 0 then (if (x5_2.length : Int) = 0 then (some (wrap64 (x1_2 + 1))) else (rules_Skip.l0 kj6 l0 (wrap64 (x1_2 + 1)) x5_2)) else (if x5_2.length < 17592186044416 then ((some (x5_2 ++ [t107] : List Int)).bind fun y108 => (if (y108.length : Int) = 0 then (some (wrap64 (x1_2 + 1))) else (rules_Skip.l0 kj6 l0 (wrap64 (x1_2 + 1)) y108))) else (none))) = some r := H; have A23 := aM A230; clear A230
            by_cases c24 : t107 = 0
            ·rw [if_pos c24] at H; have c24b0 : (t107 == 0) = true := beq_iff_eq.mpr c24; have c24b1 : (t107 != 0) = false := bne_eq_false_iff_eq.mpr c24; clear c24
             by_cases c25 : (x5_2.length : Int) = 0
             ·rw [if_pos c25] at H; have c25b0 : ((x5_2.length : Int) == 0) = true := beq_iff_eq.mpr c25; have c25b1 : ((x5_2.length : Int) != 0) = false := bne_eq_false_iff_eq.mpr c25; clear c25; obtain rfl := oI H; have p106 : 0 ≤ (x1_2 : Int) := of_decide_eq_true (by first | (with_reducible assumption) | assumption); have q106 : x1_2 < (l0.length : Int) := of_decide_eq_true (by first | (with_reducible assumption) | assumption); obtain ⟨ad106, e106, hx106_0, hx106_1, hx106_2, hx106_3, hx106_4⟩ := at_T35 HR0.out x1_2 p106 q106
              cases e106
              replace hx106_0 := (HB.out.cell (World.block_lt_of_cell? w _ hx106_0)).trans hx106_0; replace hx106_1 := (HB.out.cell (World.block_lt_of_cell? w _ hx106_1)).trans hx106_1; replace hx106_2 := (HB.out.cell (World.block_lt_of_cell? w _ hx106_2)).trans hx106_2; replace hx106_3 := (HB.out.cell (World.block_lt_of_cell? w _ hx106_3)).trans hx106_3; replace hx106_4 := (HB.out.cell (World.block_lt_of_cell? w _ hx106_4)).trans hx106_4; replace p106 := eq_true p106; replace q106 := eq_true q106
              go_wp2_with (first | (go_at_call 28; (with_reducible refine (rules_closing.calls kj6 ((rd_T35 l0 x1_2).f0) t107 _ A23.out).mono ?_); rintro e w' ⟨rfl, ⟨nd, rfl⟩⟩; (try first | exact ⟨rfl, _, World.drewN_drewN _ _ _⟩ | exact ⟨rfl, _, Eq.trans (World.drewN_drewN _ _ _) (congrArg (World.drewN _) (Nat.add_assoc _ _ _))⟩)))
              repeat (go_quiet (first | (go_at_call 28; (with_reducible refine (rules_closing.calls kj6 ((rd_T35 l0 x1_2).f0) t107 _ A23.out).mono ?_); rintro e w' ⟨rfl, ⟨nd, rfl⟩⟩; (try first | exact ⟨rfl, _, World.drewN_drewN _ _ _⟩ | exact ⟨rfl, _, Eq.trans (World.drewN_drewN _ _ _) (congrArg (World.drewN _) (Nat.add_assoc _ _ _))⟩))); try go_wp2_with (first | (go_at_call 28; (with_reducible refine (rules_closing.calls kj6 ((rd_T35 l0 x1_2).f0) t107 _ A23.out).mono ?_); rintro e w' ⟨rfl, ⟨nd, rfl⟩⟩; (try first | exact ⟨rfl, _, World.drewN_drewN _ _ _⟩ | exact ⟨rfl, _, Eq.trans (World.drewN_drewN _ _ _) (congrArg (World.drewN _) (Nat.add_assoc _ _ _))⟩))))
              go_ret
              exact ⟨by first | rfl | (simp [errW_none, errW_some] <;> rfl) | (simp [*, errW_none, errW_some] <;> rfl), by repeat (first | (with_reducible first | exact HB.out | apply bA | apply bN | apply bD) | exact HB.out)⟩
             ·rw [if_neg c25] at H; have c25b0 : ((x5_2.length : Int) == 0) = false := beq_eq_false_iff_ne.mpr c25; have c25b1 : ((x5_2.length : Int) != 0) = true := bne_iff_ne.mpr c25
              have c25b2 : ¬ (x5_2 = []) := fun h_ => c25 (by rw [h_]; rfl)
              have H' := aM H; clear H; have p106 : 0 ≤ (x1_2 : Int) := of_decide_eq_true (by first | (with_reducible assumption) | assumption); have q106 : x1_2 < (l0.length : Int) := of_decide_eq_true (by first | (with_reducible assumption) | assumption); obtain ⟨ad106, e106, hx106_0, hx106_1, hx106_2, hx106_3, hx106_4⟩ := at_T35 HR0.out x1_2 p106 q106
              cases e106
              replace hx106_0 := (HB.out.cell (World.block_lt_of_cell? w _ hx106_0)).trans hx106_0; replace hx106_1 := (HB.out.cell (World.block_lt_of_cell? w _ hx106_1)).trans hx106_1; replace hx106_2 := (HB.out.cell (World.block_lt_of_cell? w _ hx106_2)).trans hx106_2; replace hx106_3 := (HB.out.cell (World.block_lt_of_cell? w _ hx106_3)).trans hx106_3; replace hx106_4 := (HB.out.cell (World.block_lt_of_cell? w _ hx106_4)).trans hx106_4; replace p106 := eq_true p106; replace q106 := eq_true q106
              go_wp2_with (first | (go_at_call 28; (with_reducible refine (rules_closing.calls kj6 ((rd_T35 l0 x1_2).f0) t107 _ A23.out).mono ?_); rintro e w' ⟨rfl, ⟨nd, rfl⟩⟩; (try first | exact ⟨rfl, _, World.drewN_drewN _ _ _⟩ | exact ⟨rfl, _, Eq.trans (World.drewN_drewN _ _ _) (congrArg (World.drewN _) (Nat.add_assoc _ _ _))⟩)))
              repeat (go_quiet (first | (go_at_call 28; (with_reducible refine (rules_closing.calls kj6 ((rd_T35 l0 x1_2).f0) t107 _ A23.out).mono ?_); rintro e w' ⟨rfl, ⟨nd, rfl⟩⟩; (try first | exact ⟨rfl, _, World.drewN_drewN _ _ _⟩ | exact ⟨rfl, _, Eq.trans (World.drewN_drewN _ _ _) (congrArg (World.drewN _) (Nat.add_assoc _ _ _))⟩))); try go_wp2_with (first | (go_at_call 28; (with_reducible refine (rules_closing.calls kj6 ((rd_T35 l0 x1_2).f0) t107 _ A23.out).mono ?_); rintro e w' ⟨rfl, ⟨nd, rfl⟩⟩; (try first | exact ⟨rfl, _, World.drewN_drewN _ _ _⟩ | exact ⟨rfl, _, Eq.trans (World.drewN_drewN _ _ _) (congrArg (World.drewN _) (Nat.add_assoc _ _ _))⟩))))
              go_roundg kj6
              case measure => have := HJ2.out; have := HK2.out; have := HJ6.out; omega
              case rel => exact ⟨(wrap64 (x1_2 + 1)), (x5_2), (by first | rfl | (simp; done) | (simp [*]; done)), H', ⟨by have := HJ2.out; have := HK2.out; have := HJ6.out; omega⟩, ⟨by (with_reducible repeat (first | apply RA | apply RN | apply RD)); exact HO_5.out⟩, ⟨by repeat (first | (with_reducible first | exact HB.out | apply bA | apply bN | apply bD) | exact HB.out)⟩⟩
            ·rw [if_neg c24] at H; have c24b0 : (t107 == 0) = false := beq_eq_false_iff_ne.mpr c24; have c24b1 : (t107 != 0) = true := bne_iff_ne.mpr c24
             by_cases c26 : x5_2.length < 17592186044416
             ·rw [if_pos c26] at H; have LMc26 := aM c26; clear c26; obtain ⟨y108, hy108⟩ : ∃ y_ : List Int, y_ = (x5_2 ++ [t107]) := ⟨_, rfl⟩
              replace H : (if (y108.length : Int) = 0 then (some (wrap64 (x1_2 + 1))) else (rules_Skip.l0 kj6 l0 (wrap64 (x1_2 + 1)) y108)) = some r := by first | (rw [hy108]; with_reducible exact H) | (have H2_ := (Option.bind_some _ _).symm.trans H; rw [hy108]; with_reducible exact H2_) | (have H2_ := (Option.bind_some _ _).symm.trans H; with_reducible exact H2_) | with_reducible exact H | (rw [hy108]; exact H) | exact H
              have Ny108 := aM hy108; clear hy108
              by_cases c27 : (y108.length : Int) = 0
              ·rw [if_pos c27] at H; have c27b0 : ((y108.length : Int) == 0) = true := beq_iff_eq.mpr c27; have c27b1 : ((y108.length : Int) != 0) = false := bne_eq_false_iff_eq.mpr c27; clear c27; obtain rfl := oI H; have p106 : 0 ≤ (x1_2 : Int) := of_decide_eq_true (by first | (with_reducible assumption) | assumption); have q106 : x1_2 < (l0.length : Int) := of_decide_eq_true (by first | (with_reducible assumption) | assumption); obtain ⟨ad106, e106, hx106_0, hx106_1, hx106_2, hx106_3, hx106_4⟩ := at_T35 HR0.out x1_2 p106 q106
               cases e106
               replace hx106_0 := (HB.out.cell (World.block_lt_of_cell? w _ hx106_0)).trans hx106_0; replace hx106_1 := (HB.out.cell (World.block_lt_of_cell? w _ hx106_1)).trans hx106_1; replace hx106_2 := (HB.out.cell (World.block_lt_of_cell? w _ hx106_2)).trans hx106_2; replace hx106_3 := (HB.out.cell (World.block_lt_of_cell? w _ hx106_3)).trans hx106_3; replace hx106_4 := (HB.out.cell (World.block_lt_of_cell? w _ hx106_4)).trans hx106_4; replace p106 := eq_true p106; replace q106 := eq_true q106
               go_wp2_with (first | (go_at_call 28; (with_reducible refine (rules_closing.calls kj6 ((rd_T35 l0 x1_2).f0) t107 _ A23.out).mono ?_); rintro e w' ⟨rfl, ⟨nd, rfl⟩⟩; (try first | exact ⟨rfl, _, World.drewN_drewN _ _ _⟩ | exact ⟨rfl, _, Eq.trans (World.drewN_drewN _ _ _) (congrArg (World.drewN _) (Nat.add_assoc _ _ _))⟩)) | ((with_reducible refine gate_builtin (b := .append) (xs := #[.tmp 52, .tmp 54]) rfl ?_); (try (refine gate_guard (by rfl) ?_; dsimp only)); at_builtin; refine Kd.R_append (Kd.int .i64) (w0 := w) w.heap.size rfl (.tmp 52) (.tmp 54) 39 3 (.int .i64 0) 8 rfl Try.underlying39 info3 rfl (by decide) (by omega) (.slice Ao8 x5_2.length co8) x5_2 t107 [.int .i64 t107] (fun _ => True) (fun _ => False) rfl rfl ?aP (fun _ hk => hk.elim) ?aF ?aO ?aB ?aS ?aL ?_; (case aP => exact rfl); (case aB => exact (by repeat (first | (with_reducible first | exact HB.out | apply bA | apply bN | apply bD) | exact HB.out))); (case aF => exact (fun _ _ => trivial)); (case aO => exact (by (with_reducible repeat (first | apply RA | apply RN | apply RD)); exact HO_5.out)); (case aS => exact (below_size (by repeat (first | (with_reducible first | exact HB.out | apply bA | apply bN | apply bD) | exact HB.out)))); (case aL => have := LMc26.out; omega); intro v109 w28 ho hb hg hat; rw [← Ny108.out] at ho; have n0_ := aM (hb); have n1_ := aM (ho); clear HB; clear HO_5; have HB := n0_; have HO110 := n1_; clear n0_ n1_; clear ho hb hg hat; obtain ⟨Ao29, co29, eo29⟩ := Kd.R_slice HO110.out; subst eo29))
               repeat (go_quiet (first | (go_at_call 28; (with_reducible refine (rules_closing.calls kj6 ((rd_T35 l0 x1_2).f0) t107 _ A23.out).mono ?_); rintro e w' ⟨rfl, ⟨nd, rfl⟩⟩; (try first | exact ⟨rfl, _, World.drewN_drewN _ _ _⟩ | exact ⟨rfl, _, Eq.trans (World.drewN_drewN _ _ _) (congrArg (World.drewN _) (Nat.add_assoc _ _ _))⟩)) | ((with_reducible refine gate_builtin (b := .append) (xs := #[.tmp 52, .tmp 54]) rfl ?_); (try (refine gate_guard (by rfl) ?_; dsimp only)); at_builtin; refine Kd.R_append (Kd.int .i64) (w0 := w) w.heap.size rfl (.tmp 52) (.tmp 54) 39 3 (.int .i64 0) 8 rfl Try.underlying39 info3 rfl (by decide) (by omega) (.slice Ao8 x5_2.length co8) x5_2 t107 [.int .i64 t107] (fun _ => True) (fun _ => False) rfl rfl ?aP (fun _ hk => hk.elim) ?aF ?aO ?aB ?aS ?aL ?_; (case aP => exact rfl); (case aB => exact (by repeat (first | (with_reducible first | exact HB.out | apply bA | apply bN | apply bD) | exact HB.out))); (case aF => exact (fun _ _ => trivial)); (case aO => exact (by (with_reducible repeat (first | apply RA | apply RN | apply RD)); exact HO_5.out)); (case aS => exact (below_size (by repeat (first | (with_reducible first | exact HB.out | apply bA | apply bN | apply bD) | exact HB.out)))); (case aL => have := LMc26.out; omega); intro v109 w28 ho hb hg hat; rw [← Ny108.out] at ho; have n0_ := aM (hb); have n1_ := aM (ho); clear HB; clear HO_5; have HB := n0_; have HO110 := n1_; clear n0_ n1_; clear ho hb hg hat; obtain ⟨Ao29, co29, eo29⟩ := Kd.R_slice HO110.out; subst eo29)); try go_wp2_with (first | (go_at_call 28; (with_reducible refine (rules_closing.calls kj6 ((rd_T35 l0 x1_2).f0) t107 _ A23.out).mono ?_); rintro e w' ⟨rfl, ⟨nd, rfl⟩⟩; (try first | exact ⟨rfl, _, World.drewN_drewN _ _ _⟩ | exact ⟨rfl, _, Eq.trans (World.drewN_drewN _ _ _) (congrArg (World.drewN _) (Nat.add_assoc _ _ _))⟩)) | ((with_reducible refine gate_builtin (b := .append) (xs := #[.tmp 52, .tmp 54]) rfl ?_); (try (refine gate_guard (by rfl) ?_; dsimp only)); at_builtin; refine Kd.R_append (Kd.int .i64) (w0 := w) w.heap.size rfl (.tmp 52) (.tmp 54) 39 3 (.int .i64 0) 8 rfl Try.underlying39 info3 rfl (by decide) (by omega) (.slice Ao8 x5_2.length co8) x5_2 t107 [.int .i64 t107] (fun _ => True) (fun _ => False) rfl rfl ?aP (fun _ hk => hk.elim) ?aF ?aO ?aB ?aS ?aL ?_; (case aP => exact rfl); (case aB => exact (by repeat (first | (with_reducible first | exact HB.out | apply bA | apply bN | apply bD) | exact HB.out))); (case aF => exact (fun _ _ => trivial)); (case aO => exact (by (with_reducible repeat (first | apply RA | apply RN | apply RD)); exact HO_5.out)); (case aS => exact (below_size (by repeat (first | (with_reducible first | exact HB.out | apply bA | apply bN | apply bD) | exact HB.out)))); (case aL => have := LMc26.out; omega); intro v109 w28 ho hb hg hat; rw [← Ny108.out] at ho; have n0_ := aM (hb); have n1_ := aM (ho); clear HB; clear HO_5; have HB := n0_; have HO110 := n1_; clear n0_ n1_; clear ho hb hg hat; obtain ⟨Ao29, co29, eo29⟩ := Kd.R_slice HO110.out; subst eo29)))
               go_ret
               exact ⟨by first | rfl | (simp [errW_none, errW_some] <;> rfl) | (simp [*, errW_none, errW_some] <;> rfl), by repeat (first | (with_reducible first | exact HB.out | apply bA | apply bN | apply bD) | exact HB.out)⟩
              ·rw [if_neg c27] at H; have c27b0 : ((y108.length : Int) == 0) = false := beq_eq_false_iff_ne.mpr c27; have c27b1 : ((y108.length : Int) != 0) = true := bne_iff_ne.mpr c27
               have c27b2 : ¬ (y108 = []) := fun h_ => c27 (by rw [h_]; rfl)
               have H' := aM H; clear H; have p106 : 0 ≤ (x1_2 : Int) := of_decide_eq_true (by first | (with_reducible assumption) | assumption); have q106 : x1_2 < (l0.length : Int) := of_decide_eq_true (by first | (with_reducible assumption) | assumption); obtain ⟨ad106, e106, hx106_0, hx106_1, hx106_2, hx106_3, hx106_4⟩ := at_T35 HR0.out x1_2 p106 q106
               cases e106
               replace hx106_0 := (HB.out.cell (World.block_lt_of_cell? w _ hx106_0)).trans hx106_0; replace hx106_1 := (HB.out.cell (World.block_lt_of_cell? w _ hx106_1)).trans hx106_1; replace hx106_2 := (HB.out.cell (World.block_lt_of_cell? w _ hx106_2)).trans hx106_2; replace hx106_3 := (HB.out.cell (World.block_lt_of_cell? w _ hx106_3)).trans hx106_3; replace hx106_4 := (HB.out.cell (World.block_lt_of_cell? w _ hx106_4)).trans hx106_4; replace p106 := eq_true p106; replace q106 := eq_true q106
               go_wp2_with (first | (go_at_call 28; (with_reducible refine (rules_closing.calls kj6 ((rd_T35 l0 x1_2).f0) t107 _ A23.out).mono ?_); rintro e w' ⟨rfl, ⟨nd, rfl⟩⟩; (try first | exact ⟨rfl, _, World.drewN_drewN _ _ _⟩ | exact ⟨rfl, _, Eq.trans (World.drewN_drewN _ _ _) (congrArg (World.drewN _) (Nat.add_assoc _ _ _))⟩)) | ((with_reducible refine gate_builtin (b := .append) (xs := #[.tmp 52, .tmp 54]) rfl ?_); (try (refine gate_guard (by rfl) ?_; dsimp only)); at_builtin; refine Kd.R_append (Kd.int .i64) (w0 := w) w.heap.size rfl (.tmp 52) (.tmp 54) 39 3 (.int .i64 0) 8 rfl Try.underlying39 info3 rfl (by decide) (by omega) (.slice Ao8 x5_2.length co8) x5_2 t107 [.int .i64 t107] (fun _ => True) (fun _ => False) rfl rfl ?aP (fun _ hk => hk.elim) ?aF ?aO ?aB ?aS ?aL ?_; (case aP => exact rfl); (case aB => exact (by repeat (first | (with_reducible first | exact HB.out | apply bA | apply bN | apply bD) | exact HB.out))); (case aF => exact (fun _ _ => trivial)); (case aO => exact (by (with_reducible repeat (first | apply RA | apply RN | apply RD)); exact HO_5.out)); (case aS => exact (below_size (by repeat (first | (with_reducible first | exact HB.out | apply bA | apply bN | apply bD) | exact HB.out)))); (case aL => have := LMc26.out; omega); intro v109 w30 ho hb hg hat; rw [← Ny108.out] at ho; have n0_ := aM (hb); have n1_ := aM (ho); clear HB; clear HO_5; have HB := n0_; have HO110 := n1_; clear n0_ n1_; clear ho hb hg hat; obtain ⟨Ao31, co31, eo31⟩ := Kd.R_slice HO110.out; subst eo31))
               repeat (go_quiet (first | (go_at_call 28; (with_reducible refine (rules_closing.calls kj6 ((rd_T35 l0 x1_2).f0) t107 _ A23.out).mono ?_); rintro e w' ⟨rfl, ⟨nd, rfl⟩⟩; (try first | exact ⟨rfl, _, World.drewN_drewN _ _ _⟩ | exact ⟨rfl, _, Eq.trans (World.drewN_drewN _ _ _) (congrArg (World.drewN _) (Nat.add_assoc _ _ _))⟩)) | ((with_reducible refine gate_builtin (b := .append) (xs := #[.tmp 52, .tmp 54]) rfl ?_); (try (refine gate_guard (by rfl) ?_; dsimp only)); at_builtin; refine Kd.R_append (Kd.int .i64) (w0 := w) w.heap.size rfl (.tmp 52) (.tmp 54) 39 3 (.int .i64 0) 8 rfl Try.underlying39 info3 rfl (by decide) (by omega) (.slice Ao8 x5_2.length co8) x5_2 t107 [.int .i64 t107] (fun _ => True) (fun _ => False) rfl rfl ?aP (fun _ hk => hk.elim) ?aF ?aO ?aB ?aS ?aL ?_; (case aP => exact rfl); (case aB => exact (by repeat (first | (with_reducible first | exact HB.out | apply bA | apply bN | apply bD) | exact HB.out))); (case aF => exact (fun _ _ => trivial)); (case aO => exact (by (with_reducible repeat (first | apply RA | apply RN | apply RD)); exact HO_5.out)); (case aS => exact (below_size (by repeat (first | (with_reducible first | exact HB.out | apply bA | apply bN | apply bD) | exact HB.out)))); (case aL => have := LMc26.out; omega); intro v109 w30 ho hb hg hat; rw [← Ny108.out] at ho; have n0_ := aM (hb); have n1_ := aM (ho); clear HB; clear HO_5; have HB := n0_; have HO110 := n1_; clear n0_ n1_; clear ho hb hg hat; obtain ⟨Ao31, co31, eo31⟩ := Kd.R_slice HO110.out; subst eo31)); try go_wp2_with (first | (go_at_call 28; (with_reducible refine (rules_closing.calls kj6 ((rd_T35 l0 x1_2).f0) t107 _ A23.out).mono ?_); rintro e w' ⟨rfl, ⟨nd, rfl⟩⟩; (try first | exact ⟨rfl, _, World.drewN_drewN _ _ _⟩ | exact ⟨rfl, _, Eq.trans (World.drewN_drewN _ _ _) (congrArg (World.drewN _) (Nat.add_assoc _ _ _))⟩)) | ((with_reducible refine gate_builtin (b := .append) (xs := #[.tmp 52, .tmp 54]) rfl ?_); (try (refine gate_guard (by rfl) ?_; dsimp only)); at_builtin; refine Kd.R_append (Kd.int .i64) (w0 := w) w.heap.size rfl (.tmp 52) (.tmp 54) 39 3 (.int .i64 0) 8 rfl Try.underlying39 info3 rfl (by decide) (by omega) (.slice Ao8 x5_2.length co8) x5_2 t107 [.int .i64 t107] (fun _ => True) (fun _ => False) rfl rfl ?aP (fun _ hk => hk.elim) ?aF ?aO ?aB ?aS ?aL ?_; (case aP => exact rfl); (case aB => exact (by repeat (first | (with_reducible first | exact HB.out | apply bA | apply bN | apply bD) | exact HB.out))); (case aF => exact (fun _ _ => trivial)); (case aO => exact (by (with_reducible repeat (first | apply RA | apply RN | apply RD)); exact HO_5.out)); (case aS => exact (below_size (by repeat (first | (with_reducible first | exact HB.out | apply bA | apply bN | apply bD) | exact HB.out)))); (case aL => have := LMc26.out; omega); intro v109 w30 ho hb hg hat; rw [← Ny108.out] at ho; have n0_ := aM (hb); have n1_ := aM (ho); clear HB; clear HO_5; have HB := n0_; have HO110 := n1_; clear n0_ n1_; clear ho hb hg hat; obtain ⟨Ao31, co31, eo31⟩ := Kd.R_slice HO110.out; subst eo31)))
               go_roundg kj6
               case measure => have := HJ2.out; have := HK2.out; have := HJ6.out; omega
               case rel => exact ⟨(wrap64 (x1_2 + 1)), (y108), (by first | rfl | (simp; done) | (simp [*]; done)), H', ⟨by have := HJ2.out; have := HK2.out; have := HJ6.out; omega⟩, ⟨by (with_reducible repeat (first | apply RA | apply RN | apply RD)); exact HO110.out⟩, ⟨by repeat (first | (with_reducible first | exact HB.out | apply bA | apply bN | apply bD) | exact HB.out)⟩⟩
             ·rw [if_neg c26] at H
              exact absurd H (by simp)
           ·rw [if_neg c22] at H
            exact absurd H (by simp)
          ·rw [if_neg c21] at H
           exact absurd H (by simp)
      ·rw [if_neg c6] at H; have c6b0 : decide (x1_2 < (l0.length : Int)) = false := decide_eq_false c6; clear c6; obtain rfl := oI H; go_wp2
       repeat (go_quiet (fail); try go_wp2)
       go_ret
       exact ⟨by first | rfl | (simp [errW_none, errW_some] <;> rfl) | (simp [*, errW_none, errW_some] <;> rfl), by repeat (first | (with_reducible first | exact HB.out | apply bA | apply bN | apply bD) | exact HB.out)⟩

end Go.Proofs.Ytoemgjlkjnkdbaa.PS
