-- Written by wip/xprint.py, gen2.py and squeeze.py of this session, over the printer of the kit; not that printer's own output.
import Derived.Test.YtoemgjlkjnkdbaaPSx0
import Derived.Test.YtoemgjlkjnkdbaaPSx1
import Derived.Test.YtoemgjlkjnkdbaaPSx12
namespace Go.Proofs.Ytoemgjlkjnkdbaa.PS
open Go.RowKit Go.Proofs.YtoemgjlkjnkdbaaW.PrintWords Go.Proofs.YtoemgjlkjnkdbaaW.PrintLast
open Go.Proofs.YtoemgjlkjnkdbaaW.PrintWords renaming pw_below_drewN → bN, below_alloc → bA, below_drew1 → bD
open Go.Proofs.YtoemgjlkjnkdbaaW.PrintWords.Aside0 renaming mk → aM
open Go.Proofs.YtoemgjlkjnkdbaaW.PrintWords.Kd renaming R_alloc → RA, R_drewN → RN, R_drew → RD
open Option renaming bind_eq_some_iff → oB
open Option.some renaming inj → oI
open List renaming length_take → lT, length_drop → lD, map_toArray → mT, map_cons → mC, map_nil → mN
set_option linter.unusedVariables false
set_option linter.unusedSimpArgs false

mutual
def q_Skip.j0 : Nat → List (S35) → Int → Bool → Option (Int)
 | 0, _, _, _ => none
 | k + 1, x0, x1, x15 => if x15 = true then (some x1) else (q_Skip.l0 k x0 x1 ([] : List Int))
def q_Skip.l0 : Nat → List (S35) → Int → List Int → Option (Int)
 | 0, _, _, _ => none
 | k + 1, x0, x1, x5 => if 0 ≤ x1 then (if x1 < (x0.length : Int) then ((q_closing.f k ((rd_T35 x0 x1).f0)).bind fun t420 => (if t420 > 0 then (if x5.length < 17592186044416 then ((some (x5 ++ [t420] : List Int)).bind fun y421 => (if (y421.length : Int) = 0 then (some (wrap64 (x1 + 1))) else (if (wrap64 (x1 + 1)) = (x0.length : Int) then (some (wrap64 (x1 + 1))) else (q_Skip.l0 k x0 (wrap64 (x1 + 1)) y421)))) else (none)) else (if (x5.length : Int) > 0 then (if 0 ≤ (wrap64 ((x5.length : Int) - 1)) then (if (wrap64 ((x5.length : Int) - 1)) < (x5.length : Int) then (q_Skip.j2 k x0 x1 x5 (((rd_T35 x0 x1).f0) == (rd x5 (wrap64 ((x5.length : Int) - 1))))) else (none)) else (none)) else (q_Skip.j2 k x0 x1 x5 false)))) else (none)) else (none)
def q_Skip.j2 : Nat → List (S35) → Int → List Int → Bool → Option (Int)
 | 0, _, _, _, _ => none
 | k + 1, x0, x1, x5, x31 => if x31 = true then (if 0 ≤ (wrap64 ((x5.length : Int) - 1)) then (if (wrap64 ((x5.length : Int) - 1)) ≤ (x5.length : Int) then ((some (x5.take ((wrap64 ((x5.length : Int) - 1)) : Int).toNat : List Int)).bind fun y425 => (if (y425.length : Int) = 0 then (some (wrap64 (x1 + 1))) else (if (wrap64 (x1 + 1)) = (x0.length : Int) then (some (wrap64 (x1 + 1))) else (q_Skip.l0 k x0 (wrap64 (x1 + 1)) y425)))) else (none)) else (none)) else (if (x5.length : Int) = 0 then (some (wrap64 (x1 + 1))) else (if (wrap64 (x1 + 1)) = (x0.length : Int) then (some (wrap64 (x1 + 1))) else (q_Skip.l0 k x0 (wrap64 (x1 + 1)) x5)))
end
def q_Skip.f (k : Nat) (l0 : List (S35)) (a1 : Int) : Option (Int) := if a1 < 0 then (q_Skip.j0 k l0 a1 true) else (q_Skip.j0 k l0 a1 (decide (a1 ≥ (l0.length : Int))))
set_option maxHeartbeats 8000000 in
set_option maxRecDepth 100000 in
theorem q_Skip.calls (k : Nat) (A0 : Option Addr) (c0 : Nat) (l0 : List (S35)) (a1 : Int) (r : Int) (w : World) (hr0 : Kd.C k35 w A0 l0.length l0) (hc0 : l0.length ≤ c0) (h : q_Skip.f k l0 a1 = some r) :
  Calls Try.prog 18 #[.slice A0 l0.length c0, .int .i64 a1] w fun e w' => e = .returned (.int .i64 r) ∧ Below w.heap.size w w' := by
 have HR0 := aM hr0; have HC0 := aM hc0; clear hr0 hc0; have HB := aM (Below.refl w.heap.size w); have H : (if a1 < 0 then (q_Skip.j0 k l0 a1 true) else (q_Skip.j0 k l0 a1 (decide (a1 ≥ (l0.length : Int))))) = some r := h; clear h; have HC3 := aM H; clear H
 go_enter Try.func18, Try.ntmps18
 go_upto_region 1 with (fail)
 go_cut [15] (fun v15 wc => ∃ (kq : Nat) (x15_2 : Bool), v15 = .bool x15_2 ∧ Aside0 (q_Skip.j0 kq l0 a1 x15_2 = some r) ∧ Aside0 (kq ≤ k) ∧ Aside0 (Below w.heap.size w wc))
 case first =>
  have H := HC3.out; clear HC3
  by_cases c4 : a1 < 0
  ·rw [if_pos c4] at H; have c4b0 : decide (a1 < 0) = true := decide_eq_true c4; clear c4
   (first | rw [c4b0] | (simp only [i64_w, i32_w]; rw [c4b0]) | skip)
   have H' := aM H; clear H; go_wp2; go_meet
   case rel => exact ⟨_, (true), (by first | rfl | (simp; done) | (simp [*]; done)), H', ⟨by first | omega | exact Nat.le_refl _⟩, ⟨by repeat (first | (with_reducible first | exact HB.out | apply bA | apply bN | apply bD) | exact HB.out)⟩⟩
  ·rw [if_neg c4] at H; have c4b0 : decide (a1 < 0) = false := decide_eq_false c4; clear c4
   (first | rw [c4b0] | (simp only [i64_w, i32_w]; rw [c4b0]) | skip)
   have H' := aM H; clear H; go_wp2; go_meet
   case rel => exact ⟨_, (decide (a1 ≥ (l0.length : Int))), (by first | rfl | (simp; done) | (simp [*]; done)), H', ⟨by first | omega | exact Nat.le_refl _⟩, ⟨by repeat (first | (with_reducible first | exact HB.out | apply bA | apply bN | apply bD) | exact HB.out)⟩⟩
 case rest =>
  clear HC3; (try clear c1); (try clear p2); (try clear c4); (try clear c4b0); obtain ⟨kq, x15_2, rfl, HA, HJ2, HB⟩ := hcut
  cases kq with
  | zero => exact absurd HA.out (by simp [q_Skip.j0])
  | succ kj2 =>
   have H := HA.out; clear HA
   simp only [q_Skip.j0] at H
   by_cases c5 : x15_2 = true
   ·subst c5
    have H1 : (some a1) = some r := by rw [if_pos rfl] at H; exact H
    clear H; have H := H1; clear H1; obtain rfl := oI H; go_wp2
    go_ret
    exact ⟨by first | rfl | (simp [errW_none, errW_some] <;> rfl) | (simp [*, errW_none, errW_some] <;> rfl), by repeat (first | (with_reducible first | exact HB.out | apply bA | apply bN | apply bD) | exact HB.out)⟩
   ·replace c5 := Bool.eq_false_iff.mpr c5; subst c5
    have H1 : (q_Skip.l0 kj2 l0 a1 ([] : List Int)) = some r := by rw [if_neg (show ¬ (false = true) by decide)] at H; exact H
    clear H; have H := H1; clear H1; have H' := aM H; clear H; go_wp2
    go_loopg [1, 5] kj2 (fun kq v1 v5 w' => ∃ (x1_2 : Int) (x5_2 : List Int), v1 = .int .i64 x1_2 ∧ Aside0 (q_Skip.l0 kq l0 x1_2 x5_2 = some r) ∧ Aside0 (kq ≤ kj2) ∧ Aside0 (Kd.R (Kd.int .i64) 3 w' w.heap.size (fun _ => True) v5 x5_2) ∧ Aside0 (Below w.heap.size w w'))
    case atStart => exact ⟨(a1), (([] : List Int)), (by first | rfl | (simp; done) | (simp [*]; done)), H', ⟨Nat.le_refl _⟩, ⟨by first | exact Kd.R_nil _ _ _ _ _ | exact Kd.N_nil _ _ _ _ _ | exact Kd.V_nil _ _ _ _ _ | exact Kd.Q_nil _ _ _ _ _ | exact Kd.S_nil _ _ _ _ _⟩, ⟨by repeat (first | (with_reducible first | exact HB.out | apply bA | apply bN | apply bD) | exact HB.out)⟩⟩
    case round =>
     clear H'; (try clear c1); (try clear p2); (try clear c4); (try clear c4b0); (try clear c5); (try clear p2); obtain ⟨x1_2, x5_2, rfl, HA, HK2, HO_5, HB⟩ := hrel
     cases gk with
     | zero => exact absurd HA.out (by simp [q_Skip.l0])
     | succ k2 =>
      have H := HA.out; clear HA
      simp only [q_Skip.l0] at H
      by_cases c6 : 0 ≤ x1_2
      ·rw [if_pos c6] at H; have c6b0 : decide (0 ≤ x1_2) = true := decide_eq_true c6; clear c6
       by_cases c7 : x1_2 < (l0.length : Int)
       ·rw [if_pos c7] at H; have c7b0 : decide (x1_2 < (l0.length : Int)) = true := decide_eq_true c7; clear c7; replace H := oB.mp H; obtain ⟨t420, A80, H⟩ := H; replace H : (if t420 > 0 then (if x5_2.length < 17592186044416 then ((some (x5_2 ++ [t420] : List Int)).bind fun y421 => (if (y421.length : Int) = 0 then (some (wrap64 (x1_2 + 1))) else (if (wrap64 (x1_2 + 1)) = (l0.length : Int) then (some (wrap64 (x1_2 + 1))) else (q_Skip.l0 k2 l0 (wrap64 (x1_2 + 1)) y421)))) else (none)) else (if (x5_2.length : Int) > 0 then (if 0 ≤ (wrap64 ((x5_2.length : Int) - 1)) then (if (wrap64 ((x5_2.length : Int) - 1)) < (x5_2.length : Int) then (q_Skip.j2 k2 l0 x1_2 x5_2 (((rd_T35 l0 x1_2).f0) == (rd x5_2 (wrap64 ((x5_2.length : Int) - 1))))) else (none)) else (none)) else (q_Skip.j2 k2 l0 x1_2 x5_2 false))) = some r := H; have A8 := aM A80; clear A80
        by_cases c9 : t420 > 0
        ·rw [if_pos c9] at H; have c9b0 : decide (0 < t420) = true := decide_eq_true c9; clear c9
         by_cases c10 : x5_2.length < 17592186044416
         ·rw [if_pos c10] at H; have LMc10 := aM c10; clear c10; obtain ⟨y421, hy421⟩ : ∃ y_ : List Int, y_ = (x5_2 ++ [t420]) := ⟨_, rfl⟩
          replace H : (if (y421.length : Int) = 0 then (some (wrap64 (x1_2 + 1))) else (if (wrap64 (x1_2 + 1)) = (l0.length : Int) then (some (wrap64 (x1_2 + 1))) else (q_Skip.l0 k2 l0 (wrap64 (x1_2 + 1)) y421))) = some r := by first | (rw [hy421]; with_reducible exact H) | (have H2_ := (Option.bind_some _ _).symm.trans H; rw [hy421]; with_reducible exact H2_) | (have H2_ := (Option.bind_some _ _).symm.trans H; with_reducible exact H2_) | with_reducible exact H | (rw [hy421]; exact H) | exact H
          have Ny421 := aM hy421; clear hy421
          by_cases c11 : (y421.length : Int) = 0
          ·rw [if_pos c11] at H; have c11b0 : ((y421.length : Int) == 0) = true := beq_iff_eq.mpr c11; have c11b1 : ((y421.length : Int) != 0) = false := bne_eq_false_iff_eq.mpr c11; clear c11; obtain rfl := oI H; have p419 : 0 ≤ (x1_2 : Int) := of_decide_eq_true (by first | (with_reducible assumption) | assumption); have q419 : x1_2 < (l0.length : Int) := of_decide_eq_true (by first | (with_reducible assumption) | assumption); obtain ⟨ad419, e419, hx419_0, hx419_1, hx419_2, hx419_3, hx419_4⟩ := at_T35 HR0.out x1_2 p419 q419
           cases e419
           replace hx419_0 := (HB.out.cell (World.block_lt_of_cell? w _ hx419_0)).trans hx419_0; replace hx419_1 := (HB.out.cell (World.block_lt_of_cell? w _ hx419_1)).trans hx419_1; replace hx419_2 := (HB.out.cell (World.block_lt_of_cell? w _ hx419_2)).trans hx419_2; replace hx419_3 := (HB.out.cell (World.block_lt_of_cell? w _ hx419_3)).trans hx419_3; replace hx419_4 := (HB.out.cell (World.block_lt_of_cell? w _ hx419_4)).trans hx419_4; replace p419 := eq_true p419; replace q419 := eq_true q419
           go_wp2_with (first | ((with_reducible refine gate_callee (f := 29) rfl ?_); refine goesL_ (some 23) rfl rfl Try.func29 (by kernel_rfl) rfl #[.int .i64 ((rd_T35 l0 x1_2).f0)] rfl (by (try simp only [mT, mC, mN]); first | done | rfl | (simp only [lD, lT]; rfl)) ?_; (with_reducible refine (q_closing.calls k2 ((rd_T35 l0 x1_2).f0) t420 _ A8.out).mono ?_); rintro e w' ⟨rfl, ⟨nd, rfl⟩⟩; refine ⟨_, rfl, ?_⟩) | ((with_reducible refine gate_builtin (b := .append) (xs := #[.tmp 27, .tmp 29]) rfl ?_); (try (refine gate_guard (by rfl) ?_; dsimp only)); at_builtin; refine Kd.R_append (Kd.int .i64) (w0 := w) w.heap.size rfl (.tmp 27) (.tmp 29) 39 3 (.int .i64 0) 8 rfl Try.underlying39 info3 rfl (by decide) (by omega) u5 x5_2 t420 [.int .i64 t420] (fun _ => True) (fun _ => False) rfl rfl ?aP (fun _ hk => hk.elim) ?aF ?aO ?aB ?aS ?aL ?_; (case aP => exact rfl); (case aB => exact (by repeat (first | (with_reducible first | exact HB.out | apply bA | apply bN | apply bD) | exact HB.out))); (case aF => exact (fun _ _ => trivial)); (case aO => exact (by (with_reducible repeat (first | apply RA | apply RN | apply RD)); exact HO_5.out)); (case aS => exact (below_size (by repeat (first | (with_reducible first | exact HB.out | apply bA | apply bN | apply bD) | exact HB.out)))); (case aL => have := LMc10.out; omega); intro v422 w12 ho hb hg hat; rw [← Ny421.out] at ho; have n0_ := aM (hb); have n1_ := aM (ho); clear HB; clear HO_5; have HB := n0_; have HO423 := n1_; clear n0_ n1_; clear ho hb hg hat; obtain ⟨Ao13, co13, eo13⟩ := Kd.R_slice HO423.out; subst eo13))
           go_ret
           exact ⟨by first | rfl | (simp [errW_none, errW_some] <;> rfl) | (simp [*, errW_none, errW_some] <;> rfl), by repeat (first | (with_reducible first | exact HB.out | apply bA | apply bN | apply bD) | exact HB.out)⟩
          ·rw [if_neg c11] at H; have c11b0 : ((y421.length : Int) == 0) = false := beq_eq_false_iff_ne.mpr c11; have c11b1 : ((y421.length : Int) != 0) = true := bne_iff_ne.mpr c11
           have c11b2 : ¬ (y421 = []) := fun h_ => c11 (by rw [h_]; rfl)
           by_cases c14 : (wrap64 (x1_2 + 1)) = (l0.length : Int)
           ·rw [if_pos c14] at H; have c14b0 : ((wrap64 (x1_2 + 1)) == (l0.length : Int)) = true := beq_iff_eq.mpr c14; have c14b1 : ((wrap64 (x1_2 + 1)) != (l0.length : Int)) = false := bne_eq_false_iff_eq.mpr c14; clear c14; obtain rfl := oI H; have p419 : 0 ≤ (x1_2 : Int) := of_decide_eq_true (by first | (with_reducible assumption) | assumption); have q419 : x1_2 < (l0.length : Int) := of_decide_eq_true (by first | (with_reducible assumption) | assumption); obtain ⟨ad419, e419, hx419_0, hx419_1, hx419_2, hx419_3, hx419_4⟩ := at_T35 HR0.out x1_2 p419 q419
            cases e419
            replace hx419_0 := (HB.out.cell (World.block_lt_of_cell? w _ hx419_0)).trans hx419_0; replace hx419_1 := (HB.out.cell (World.block_lt_of_cell? w _ hx419_1)).trans hx419_1; replace hx419_2 := (HB.out.cell (World.block_lt_of_cell? w _ hx419_2)).trans hx419_2; replace hx419_3 := (HB.out.cell (World.block_lt_of_cell? w _ hx419_3)).trans hx419_3; replace hx419_4 := (HB.out.cell (World.block_lt_of_cell? w _ hx419_4)).trans hx419_4; replace p419 := eq_true p419; replace q419 := eq_true q419
            go_wp2_with (first | ((with_reducible refine gate_callee (f := 29) rfl ?_); refine goesL_ (some 23) rfl rfl Try.func29 (by kernel_rfl) rfl #[.int .i64 ((rd_T35 l0 x1_2).f0)] rfl (by (try simp only [mT, mC, mN]); first | done | rfl | (simp only [lD, lT]; rfl)) ?_; (with_reducible refine (q_closing.calls k2 ((rd_T35 l0 x1_2).f0) t420 _ A8.out).mono ?_); rintro e w' ⟨rfl, ⟨nd, rfl⟩⟩; refine ⟨_, rfl, ?_⟩) | ((with_reducible refine gate_builtin (b := .append) (xs := #[.tmp 27, .tmp 29]) rfl ?_); (try (refine gate_guard (by rfl) ?_; dsimp only)); at_builtin; refine Kd.R_append (Kd.int .i64) (w0 := w) w.heap.size rfl (.tmp 27) (.tmp 29) 39 3 (.int .i64 0) 8 rfl Try.underlying39 info3 rfl (by decide) (by omega) u5 x5_2 t420 [.int .i64 t420] (fun _ => True) (fun _ => False) rfl rfl ?aP (fun _ hk => hk.elim) ?aF ?aO ?aB ?aS ?aL ?_; (case aP => exact rfl); (case aB => exact (by repeat (first | (with_reducible first | exact HB.out | apply bA | apply bN | apply bD) | exact HB.out))); (case aF => exact (fun _ _ => trivial)); (case aO => exact (by (with_reducible repeat (first | apply RA | apply RN | apply RD)); exact HO_5.out)); (case aS => exact (below_size (by repeat (first | (with_reducible first | exact HB.out | apply bA | apply bN | apply bD) | exact HB.out)))); (case aL => have := LMc10.out; omega); intro v422 w15 ho hb hg hat; rw [← Ny421.out] at ho; have n0_ := aM (hb); have n1_ := aM (ho); clear HB; clear HO_5; have HB := n0_; have HO423 := n1_; clear n0_ n1_; clear ho hb hg hat; obtain ⟨Ao16, co16, eo16⟩ := Kd.R_slice HO423.out; subst eo16))
            go_ret
            exact ⟨by first | rfl | (simp [errW_none, errW_some] <;> rfl) | (simp [*, errW_none, errW_some] <;> rfl), by repeat (first | (with_reducible first | exact HB.out | apply bA | apply bN | apply bD) | exact HB.out)⟩
           ·rw [if_neg c14] at H; have c14b0 : ((wrap64 (x1_2 + 1)) == (l0.length : Int)) = false := beq_eq_false_iff_ne.mpr c14; have c14b1 : ((wrap64 (x1_2 + 1)) != (l0.length : Int)) = true := bne_iff_ne.mpr c14; have H' := aM H; clear H; have p419 : 0 ≤ (x1_2 : Int) := of_decide_eq_true (by first | (with_reducible assumption) | assumption); have q419 : x1_2 < (l0.length : Int) := of_decide_eq_true (by first | (with_reducible assumption) | assumption); obtain ⟨ad419, e419, hx419_0, hx419_1, hx419_2, hx419_3, hx419_4⟩ := at_T35 HR0.out x1_2 p419 q419
            cases e419
            replace hx419_0 := (HB.out.cell (World.block_lt_of_cell? w _ hx419_0)).trans hx419_0; replace hx419_1 := (HB.out.cell (World.block_lt_of_cell? w _ hx419_1)).trans hx419_1; replace hx419_2 := (HB.out.cell (World.block_lt_of_cell? w _ hx419_2)).trans hx419_2; replace hx419_3 := (HB.out.cell (World.block_lt_of_cell? w _ hx419_3)).trans hx419_3; replace hx419_4 := (HB.out.cell (World.block_lt_of_cell? w _ hx419_4)).trans hx419_4; replace p419 := eq_true p419; replace q419 := eq_true q419
            go_wp2_with (first | ((with_reducible refine gate_callee (f := 29) rfl ?_); refine goesL_ (some 23) rfl rfl Try.func29 (by kernel_rfl) rfl #[.int .i64 ((rd_T35 l0 x1_2).f0)] rfl (by (try simp only [mT, mC, mN]); first | done | rfl | (simp only [lD, lT]; rfl)) ?_; (with_reducible refine (q_closing.calls k2 ((rd_T35 l0 x1_2).f0) t420 _ A8.out).mono ?_); rintro e w' ⟨rfl, ⟨nd, rfl⟩⟩; refine ⟨_, rfl, ?_⟩) | ((with_reducible refine gate_builtin (b := .append) (xs := #[.tmp 27, .tmp 29]) rfl ?_); (try (refine gate_guard (by rfl) ?_; dsimp only)); at_builtin; refine Kd.R_append (Kd.int .i64) (w0 := w) w.heap.size rfl (.tmp 27) (.tmp 29) 39 3 (.int .i64 0) 8 rfl Try.underlying39 info3 rfl (by decide) (by omega) u5 x5_2 t420 [.int .i64 t420] (fun _ => True) (fun _ => False) rfl rfl ?aP (fun _ hk => hk.elim) ?aF ?aO ?aB ?aS ?aL ?_; (case aP => exact rfl); (case aB => exact (by repeat (first | (with_reducible first | exact HB.out | apply bA | apply bN | apply bD) | exact HB.out))); (case aF => exact (fun _ _ => trivial)); (case aO => exact (by (with_reducible repeat (first | apply RA | apply RN | apply RD)); exact HO_5.out)); (case aS => exact (below_size (by repeat (first | (with_reducible first | exact HB.out | apply bA | apply bN | apply bD) | exact HB.out)))); (case aL => have := LMc10.out; omega); intro v422 w17 ho hb hg hat; rw [← Ny421.out] at ho; have n0_ := aM (hb); have n1_ := aM (ho); clear HB; clear HO_5; have HB := n0_; have HO423 := n1_; clear n0_ n1_; clear ho hb hg hat; obtain ⟨Ao18, co18, eo18⟩ := Kd.R_slice HO423.out; subst eo18))
            go_roundg k2
            case measure => have := HJ2.out; have := HK2.out; omega
            case rel => exact ⟨(wrap64 (x1_2 + 1)), (y421), (by first | rfl | (simp; done) | (simp [*]; done)), H', ⟨by have := HJ2.out; have := HK2.out; omega⟩, ⟨by (with_reducible repeat (first | apply RA | apply RN | apply RD)); exact HO423.out⟩, ⟨by repeat (first | (with_reducible first | exact HB.out | apply bA | apply bN | apply bD) | exact HB.out)⟩⟩
         ·rw [if_neg c10] at H
          exact absurd H (by simp)
        ·rw [if_neg c9] at H; have c9b0 : decide (0 < t420) = false := decide_eq_false c9; clear c9; have HC19 := aM H; clear H; have p419 : 0 ≤ (x1_2 : Int) := of_decide_eq_true (by first | (with_reducible assumption) | assumption); have q419 : x1_2 < (l0.length : Int) := of_decide_eq_true (by first | (with_reducible assumption) | assumption); obtain ⟨ad419, e419, hx419_0, hx419_1, hx419_2, hx419_3, hx419_4⟩ := at_T35 HR0.out x1_2 p419 q419
         cases e419
         replace hx419_0 := (HB.out.cell (World.block_lt_of_cell? w _ hx419_0)).trans hx419_0; replace hx419_1 := (HB.out.cell (World.block_lt_of_cell? w _ hx419_1)).trans hx419_1; replace hx419_2 := (HB.out.cell (World.block_lt_of_cell? w _ hx419_2)).trans hx419_2; replace hx419_3 := (HB.out.cell (World.block_lt_of_cell? w _ hx419_3)).trans hx419_3; replace hx419_4 := (HB.out.cell (World.block_lt_of_cell? w _ hx419_4)).trans hx419_4; replace p419 := eq_true p419; replace q419 := eq_true q419
         go_upto_region 8 with (first | ((with_reducible refine gate_callee (f := 29) rfl ?_); refine goesL_ (some 23) rfl rfl Try.func29 (by kernel_rfl) rfl #[.int .i64 ((rd_T35 l0 x1_2).f0)] rfl (by (try simp only [mT, mC, mN]); first | done | rfl | (simp only [lD, lT]; rfl)) ?_; (with_reducible refine (q_closing.calls k2 ((rd_T35 l0 x1_2).f0) t420 _ A8.out).mono ?_); rintro e w' ⟨rfl, ⟨nd, rfl⟩⟩; refine ⟨_, rfl, ?_⟩))
         (try simp only [Act.put, List.setIfInBounds_toArray, List.set_cons_zero, List.set_cons_succ])
         go_cut [31] (fun v31 wc => ∃ (kq : Nat) (x31_18 : Bool), v31 = .bool x31_18 ∧ Aside0 (q_Skip.j2 kq l0 x1_2 x5_2 x31_18 = some r) ∧ Aside0 (kq ≤ k2) ∧ Aside0 (Kd.R (Kd.int .i64) 3 wc w.heap.size (fun _ => True) u5 x5_2) ∧ Aside0 (Below w.heap.size w wc))
         case first =>
          have H := HC19.out; clear HC19
          by_cases c20 : (x5_2.length : Int) > 0
          ·rw [if_pos c20] at H; have c20b0 : decide (0 < (x5_2.length : Int)) = true := decide_eq_true c20; have c20b1 : decide (0 < x5_2.length) = true := decide_eq_true (by omega); clear c20
           (first | rw [c20b0] | (simp only [i64_w, i32_w]; rw [c20b0]) | skip)
           obtain ⟨ji21, hji21⟩ : ∃ j_ : Int, (wrap64 ((x5_2.length : Int) - 1)) = j_ := ⟨_, rfl⟩
           replace H : (if 0 ≤ (ji21) then (if (ji21) < (x5_2.length : Int) then (q_Skip.j2 k2 l0 x1_2 x5_2 (((rd_T35 l0 x1_2).f0) == (rd x5_2 (ji21)))) else (none)) else (none)) = some r := by first | (rw [hji21] at H; exact H) | (simp only [hji21] at H ⊢; exact H)
           have hji21w : (IntKind.i64.wrap ((x5_2.length : Int) - 1)) = ji21 := (i64_w _).trans hji21
           by_cases c22 : 0 ≤ (ji21)
           ·rw [if_pos c22] at H; have c22b0 : decide (0 ≤ (ji21)) = true := decide_eq_true c22; clear c22
            by_cases c23 : (ji21) < (x5_2.length : Int)
            ·rw [if_pos c23] at H; have c23b0 : decide ((ji21) < (x5_2.length : Int)) = true := decide_eq_true c23; clear c23; have H' := aM H; clear H; obtain ⟨Ao24, co24, eo24⟩ := Kd.R_slice HO_5.out; subst eo24; have p424 : 0 ≤ ((ji21) : Int) := of_decide_eq_true (by first | (with_reducible assumption) | assumption); have q424 : (ji21) < (x5_2.length : Int) := of_decide_eq_true (by first | (with_reducible assumption) | assumption); obtain ⟨ad424, e424, hx424_0⟩ := Kd.at_int (Kd.R_reads' HO_5.out).2.2 (ji21) p424 q424
             cases e424
             replace p424 := eq_true p424; replace q424 := eq_true q424; go_wp2; go_meet
             case rel => exact ⟨_, ((((rd_T35 l0 x1_2).f0) == (rd x5_2 (ji21)))), (by first | rfl | (simp; done) | (simp only [← hji21] <;> (first | rfl | simp)) | (simp [*]; done)), H', ⟨by have := HJ2.out; have := HK2.out; first | omega | exact Nat.le_refl _⟩, ⟨by (with_reducible repeat (first | apply RA | apply RN | apply RD)); exact HO_5.out⟩, ⟨by repeat (first | (with_reducible first | exact HB.out | apply bA | apply bN | apply bD) | exact HB.out)⟩⟩
            ·rw [if_neg c23] at H
             exact absurd H (by simp)
           ·rw [if_neg c22] at H
            exact absurd H (by simp)
          ·rw [if_neg c20] at H; have c20b0 : decide (0 < (x5_2.length : Int)) = false := decide_eq_false c20; have c20b1 : decide (0 < x5_2.length) = false := decide_eq_false (by omega); clear c20
           (first | rw [c20b0] | (simp only [i64_w, i32_w]; rw [c20b0]) | skip)
           have H' := aM H; clear H; obtain ⟨Ao25, co25, eo25⟩ := Kd.R_slice HO_5.out; subst eo25; go_wp2; go_meet
           case rel => exact ⟨_, (false), (by first | rfl | (simp; done) | (simp [*]; done)), H', ⟨by have := HJ2.out; have := HK2.out; first | omega | exact Nat.le_refl _⟩, ⟨by (with_reducible repeat (first | apply RA | apply RN | apply RD)); exact HO_5.out⟩, ⟨by repeat (first | (with_reducible first | exact HB.out | apply bA | apply bN | apply bD) | exact HB.out)⟩⟩
         case rest =>
          clear HC19; (try clear c1); (try clear c2); (try clear p2); (try clear c4); (try clear c4b0); (try clear p4); (try clear q4); (try clear hx4); (try clear c5); (try clear c6); (try clear c6b0); (try clear p6); (try clear c7); (try clear c7b0); (try clear c9); (try clear c9b0); (try clear c10); (try clear c11); (try clear c11b0); (try clear c11b1); (try clear c11b2); (try clear c14); (try clear c14b0); (try clear c14b1); (try clear c18); (try clear c20); (try clear c20b0); (try clear c20b1); (try clear c22); (try clear c22b0); (try clear c23); (try clear c23b0); (try clear hx419_0); (try clear hx419_1); (try clear hx419_2); (try clear hx419_3); (try clear hx419_4); (try clear hx424_0); (try clear p2); (try clear p419); (try clear p424); (try clear q419); (try clear q424); obtain ⟨kq, x31_18, rfl, HA, HJ18, HO_5, HB⟩ := hcut
          cases kq with
          | zero => exact absurd HA.out (by simp [q_Skip.j2])
          | succ kj18 =>
           have H := HA.out; clear HA
           simp only [q_Skip.j2] at H
           by_cases c26 : x31_18 = true
           ·subst c26
            have H1 : (if 0 ≤ (wrap64 ((x5_2.length : Int) - 1)) then (if (wrap64 ((x5_2.length : Int) - 1)) ≤ (x5_2.length : Int) then ((some (x5_2.take ((wrap64 ((x5_2.length : Int) - 1)) : Int).toNat : List Int)).bind fun y425 => (if (y425.length : Int) = 0 then (some (wrap64 (x1_2 + 1))) else (if (wrap64 (x1_2 + 1)) = (l0.length : Int) then (some (wrap64 (x1_2 + 1))) else (q_Skip.l0 kj18 l0 (wrap64 (x1_2 + 1)) y425)))) else (none)) else (none)) = some r := by rw [if_pos rfl] at H; exact H
            clear H; have H := H1; clear H1; obtain ⟨ji27, hji27⟩ : ∃ j_ : Int, (wrap64 ((x5_2.length : Int) - 1)) = j_ := ⟨_, rfl⟩
            replace H : (if 0 ≤ (ji27) then (if (ji27) ≤ (x5_2.length : Int) then ((some (x5_2.take ((ji27) : Int).toNat : List Int)).bind fun y425 => (if (y425.length : Int) = 0 then (some (wrap64 (x1_2 + 1))) else (if (wrap64 (x1_2 + 1)) = (l0.length : Int) then (some (wrap64 (x1_2 + 1))) else (q_Skip.l0 kj18 l0 (wrap64 (x1_2 + 1)) y425)))) else (none)) else (none)) = some r := by first | (rw [hji27] at H; exact H) | (simp only [hji27] at H ⊢; exact H)
            have hji27w : (IntKind.i64.wrap ((x5_2.length : Int) - 1)) = ji27 := (i64_w _).trans hji27
            by_cases c28 : 0 ≤ (ji27)
            ·rw [if_pos c28] at H; have c28b0 := eq_true c28; have c28b1 : decide (0 ≤ (ji27)) = true := decide_eq_true c28; clear c28
             by_cases c29 : (ji27) ≤ (x5_2.length : Int)
             ·rw [if_pos c29] at H; have c29b0 := eq_true c29; have c29b1 : decide ((ji27) ≤ (x5_2.length : Int)) = true := decide_eq_true c29; clear c29; obtain ⟨y425, hy425⟩ : ∃ y_ : List Int, y_ = (x5_2.take ((ji27) : Int).toNat) := ⟨_, rfl⟩
              replace H : (if (y425.length : Int) = 0 then (some (wrap64 (x1_2 + 1))) else (if (wrap64 (x1_2 + 1)) = (l0.length : Int) then (some (wrap64 (x1_2 + 1))) else (q_Skip.l0 kj18 l0 (wrap64 (x1_2 + 1)) y425))) = some r := by first | (rw [hy425]; with_reducible exact H) | (have H2_ := (Option.bind_some _ _).symm.trans H; rw [hy425]; with_reducible exact H2_) | (have H2_ := (Option.bind_some _ _).symm.trans H; with_reducible exact H2_) | with_reducible exact H | (rw [hy425]; exact H) | exact H
              have Ny425 := aM hy425; clear hy425
              by_cases c30 : (y425.length : Int) = 0
              ·rw [if_pos c30] at H; have c30b0 : ((y425.length : Int) == 0) = true := beq_iff_eq.mpr c30; have c30b1 : ((y425.length : Int) != 0) = false := bne_eq_false_iff_eq.mpr c30; clear c30; obtain rfl := oI H; obtain ⟨Ao31, co31, eo31⟩ := Kd.R_slice HO_5.out; subst eo31; have q32 : ((ji27) : Int) ≤ ((x5_2.length : Int) : Int) := of_decide_eq_true (by first | (with_reducible assumption) | assumption); obtain ⟨i032, hi032, _, hsz32, _⟩ := info_parts info3; have hcut32 := cut_to (P := Try.prog) 39 3 .i64 Try.underlying39 hi032 Ao31 x5_2.length co31 (ji27) (of_decide_eq_true (by first | (with_reducible assumption) | assumption)) q32 (Kd.R_reads' HO_5.out).2.1; have hr32 := Kd.R_take (m := ((ji27) : Int).toNat) HO_5.out (by omega); have hy32 : y425.length = ((ji27) : Int).toNat := (by rw [Ny425.out, lT]; omega); rw [← Ny425.out] at hr32; rw [← hy32] at hr32 hcut32; clear hy32 hi032 hsz32 HO_5; have HO427 := aM hr32; clear hr32; replace q32 := eq_true q32; go_wp2
               go_ret
               exact ⟨by first | rfl | (simp [errW_none, errW_some] <;> rfl) | (simp only [← hji27]; first | rfl | (simp [errW_none, errW_some] <;> rfl)) | (simp [*, errW_none, errW_some] <;> rfl), by repeat (first | (with_reducible first | exact HB.out | apply bA | apply bN | apply bD) | exact HB.out)⟩
              ·rw [if_neg c30] at H; have c30b0 : ((y425.length : Int) == 0) = false := beq_eq_false_iff_ne.mpr c30; have c30b1 : ((y425.length : Int) != 0) = true := bne_iff_ne.mpr c30
               have c30b2 : ¬ (y425 = []) := fun h_ => c30 (by rw [h_]; rfl)
               by_cases c33 : (wrap64 (x1_2 + 1)) = (l0.length : Int)
               ·rw [if_pos c33] at H; have c33b0 : ((wrap64 (x1_2 + 1)) == (l0.length : Int)) = true := beq_iff_eq.mpr c33; have c33b1 : ((wrap64 (x1_2 + 1)) != (l0.length : Int)) = false := bne_eq_false_iff_eq.mpr c33; clear c33; obtain rfl := oI H; obtain ⟨Ao34, co34, eo34⟩ := Kd.R_slice HO_5.out; subst eo34; have q35 : ((ji27) : Int) ≤ ((x5_2.length : Int) : Int) := of_decide_eq_true (by first | (with_reducible assumption) | assumption); obtain ⟨i035, hi035, _, hsz35, _⟩ := info_parts info3; have hcut35 := cut_to (P := Try.prog) 39 3 .i64 Try.underlying39 hi035 Ao34 x5_2.length co34 (ji27) (of_decide_eq_true (by first | (with_reducible assumption) | assumption)) q35 (Kd.R_reads' HO_5.out).2.1; have hr35 := Kd.R_take (m := ((ji27) : Int).toNat) HO_5.out (by omega); have hy35 : y425.length = ((ji27) : Int).toNat := (by rw [Ny425.out, lT]; omega); rw [← Ny425.out] at hr35; rw [← hy35] at hr35 hcut35; clear hy35 hi035 hsz35 HO_5; have HO427 := aM hr35; clear hr35; replace q35 := eq_true q35; go_wp2
                go_ret
                exact ⟨by first | rfl | (simp [errW_none, errW_some] <;> rfl) | (simp only [← hji27]; first | rfl | (simp [errW_none, errW_some] <;> rfl)) | (simp [*, errW_none, errW_some] <;> rfl), by repeat (first | (with_reducible first | exact HB.out | apply bA | apply bN | apply bD) | exact HB.out)⟩
               ·rw [if_neg c33] at H; have c33b0 : ((wrap64 (x1_2 + 1)) == (l0.length : Int)) = false := beq_eq_false_iff_ne.mpr c33; have c33b1 : ((wrap64 (x1_2 + 1)) != (l0.length : Int)) = true := bne_iff_ne.mpr c33; have H' := aM H; clear H; obtain ⟨Ao36, co36, eo36⟩ := Kd.R_slice HO_5.out; subst eo36; have q37 : ((ji27) : Int) ≤ ((x5_2.length : Int) : Int) := of_decide_eq_true (by first | (with_reducible assumption) | assumption); obtain ⟨i037, hi037, _, hsz37, _⟩ := info_parts info3; have hcut37 := cut_to (P := Try.prog) 39 3 .i64 Try.underlying39 hi037 Ao36 x5_2.length co36 (ji27) (of_decide_eq_true (by first | (with_reducible assumption) | assumption)) q37 (Kd.R_reads' HO_5.out).2.1; have hr37 := Kd.R_take (m := ((ji27) : Int).toNat) HO_5.out (by omega); have hy37 : y425.length = ((ji27) : Int).toNat := (by rw [Ny425.out, lT]; omega); rw [← Ny425.out] at hr37; rw [← hy37] at hr37 hcut37; clear hy37 hi037 hsz37 HO_5; have HO427 := aM hr37; clear hr37; replace q37 := eq_true q37; go_wp2
                go_roundg kj18
                case measure => have := HJ2.out; have := HK2.out; have := HJ18.out; omega
                case rel => exact ⟨(wrap64 (x1_2 + 1)), (y425), (by first | rfl | (simp; done) | (simp [*]; done)), H', ⟨by have := HJ2.out; have := HK2.out; have := HJ18.out; omega⟩, ⟨by (with_reducible repeat (first | apply RA | apply RN | apply RD)); exact HO427.out⟩, ⟨by repeat (first | (with_reducible first | exact HB.out | apply bA | apply bN | apply bD) | exact HB.out)⟩⟩
             ·rw [if_neg c29] at H
              exact absurd H (by simp)
            ·rw [if_neg c28] at H
             exact absurd H (by simp)
           ·replace c26 := Bool.eq_false_iff.mpr c26; subst c26
            have H1 : (if (x5_2.length : Int) = 0 then (some (wrap64 (x1_2 + 1))) else (if (wrap64 (x1_2 + 1)) = (l0.length : Int) then (some (wrap64 (x1_2 + 1))) else (q_Skip.l0 kj18 l0 (wrap64 (x1_2 + 1)) x5_2))) = some r := by rw [if_neg (show ¬ (false = true) by decide)] at H; exact H
            clear H; have H := H1; clear H1
            by_cases c38 : (x5_2.length : Int) = 0
            ·rw [if_pos c38] at H; have c38b0 : ((x5_2.length : Int) == 0) = true := beq_iff_eq.mpr c38; have c38b1 : ((x5_2.length : Int) != 0) = false := bne_eq_false_iff_eq.mpr c38; clear c38; obtain rfl := oI H; obtain ⟨Ao39, co39, eo39⟩ := Kd.R_slice HO_5.out; subst eo39; go_wp2
             go_ret
             exact ⟨by first | rfl | (simp [errW_none, errW_some] <;> rfl) | (simp [*, errW_none, errW_some] <;> rfl), by repeat (first | (with_reducible first | exact HB.out | apply bA | apply bN | apply bD) | exact HB.out)⟩
            ·rw [if_neg c38] at H; have c38b0 : ((x5_2.length : Int) == 0) = false := beq_eq_false_iff_ne.mpr c38; have c38b1 : ((x5_2.length : Int) != 0) = true := bne_iff_ne.mpr c38
             have c38b2 : ¬ (x5_2 = []) := fun h_ => c38 (by rw [h_]; rfl)
             by_cases c40 : (wrap64 (x1_2 + 1)) = (l0.length : Int)
             ·rw [if_pos c40] at H; have c40b0 : ((wrap64 (x1_2 + 1)) == (l0.length : Int)) = true := beq_iff_eq.mpr c40; have c40b1 : ((wrap64 (x1_2 + 1)) != (l0.length : Int)) = false := bne_eq_false_iff_eq.mpr c40; clear c40; obtain rfl := oI H; obtain ⟨Ao41, co41, eo41⟩ := Kd.R_slice HO_5.out; subst eo41; go_wp2
              go_ret
              exact ⟨by first | rfl | (simp [errW_none, errW_some] <;> rfl) | (simp [*, errW_none, errW_some] <;> rfl), by repeat (first | (with_reducible first | exact HB.out | apply bA | apply bN | apply bD) | exact HB.out)⟩
             ·rw [if_neg c40] at H; have c40b0 : ((wrap64 (x1_2 + 1)) == (l0.length : Int)) = false := beq_eq_false_iff_ne.mpr c40; have c40b1 : ((wrap64 (x1_2 + 1)) != (l0.length : Int)) = true := bne_iff_ne.mpr c40; have H' := aM H; clear H; obtain ⟨Ao42, co42, eo42⟩ := Kd.R_slice HO_5.out; subst eo42; go_wp2
              go_roundg kj18
              case measure => have := HJ2.out; have := HK2.out; have := HJ18.out; omega
              case rel => exact ⟨(wrap64 (x1_2 + 1)), (x5_2), (by first | rfl | (simp; done) | (simp [*]; done)), H', ⟨by have := HJ2.out; have := HK2.out; have := HJ18.out; omega⟩, ⟨by (with_reducible repeat (first | apply RA | apply RN | apply RD)); exact HO_5.out⟩, ⟨by repeat (first | (with_reducible first | exact HB.out | apply bA | apply bN | apply bD) | exact HB.out)⟩⟩
       ·rw [if_neg c7] at H
        exact absurd H (by simp)
      ·rw [if_neg c6] at H
       exact absurd H (by simp)
end Go.Proofs.Ytoemgjlkjnkdbaa.PS
