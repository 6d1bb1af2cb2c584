-- Written by wip/xprint.py, gen2.py and squeeze.py of this session, over the printer of the kit; not that printer's own output.
import Derived.Test.YtoemgjlkjnkdbaaPSx0
import Derived.WalkSpells
namespace Go.Proofs.Ytoemgjlkjnkdbaa.PS
open Go.RowKit Go.Proofs.YtoemgjlkjnkdbaaW.PrintWords Go.Proofs.YtoemgjlkjnkdbaaW.PrintLast
open Go.Proofs.YtoemgjlkjnkdbaaW.PrintWords renaming pw_below_drewN → bN, below_alloc → bA, below_drew1 → bD
open Go.Proofs.YtoemgjlkjnkdbaaW.PrintWords.Aside0 renaming mk → aM
open Go.Proofs.YtoemgjlkjnkdbaaW.PrintWords.Kd renaming R_alloc → RA, R_drewN → RN, R_drew → RD
open Option.some renaming inj → oI
set_option linter.unusedVariables false
set_option linter.unusedSimpArgs false

def api_Token.f (l0 : List (S35)) : Option ((List (S35))) := (some (([] : List (S35)) : List (S35))).bind fun y118 => (if y118.length + l0.length < 2932031007402 then (some (y118 ++ l0)) else (none))
set_option maxHeartbeats 8000000 in
set_option maxRecDepth 100000 in
theorem api_Token.calls (A0 : Option Addr) (c0 : Nat) (l0 : List (S35)) (r : List (S35)) (w : World) (hr0 : Kd.C k35 w A0 l0.length l0) (hc0 : l0.length ≤ c0) (h : api_Token.f l0 = some r) :
  Calls Try.prog 24 #[.slice A0 l0.length c0] w fun e w' => ∃ v0_ : Value, e = .returned (v0_) ∧ Kd.R k35 35 w' w.heap.size (fun _ => True) v0_ r ∧ Below w.heap.size w w' := by
 cases A0 with
 | none =>
  have hq_ := fun (W : World) (c n : Nat) => Lib.run_eql_slice_nil (P := Try.prog) W 22 35 none n c 0 0 Try.underlying22
  have hl_ : l0 = [] := by
   cases l0 with
   | nil => rfl
   | cons x_ l_ => exact absurd (hr0.2.2 (by simp)) (by rintro ⟨_, h_, _⟩; cases h_)
  subst hl_
  obtain rfl : ([] : List _) = r := by simpa [api_Token.f] using h
  clear h hr0 hc0
  go_enter Try.func24, Try.ntmps24
  go_wp2
  go_ret
  exact ⟨_, rfl, Kd.R_nil _ _ _ _ _, Below.refl _ _⟩
 | some ad_ =>
 have hq_ := fun (W : World) (c n : Nat) => Lib.run_eql_slice_nil (P := Try.prog) W 22 35 (some ad_) n c 0 0 Try.underlying22
 have HR0 := aM hr0; have HC0 := aM hc0; clear hr0 hc0; have HB := aM (Below.refl w.heap.size w); have H : ((some (([] : List (S35)) : List (S35))).bind fun y118 => (if y118.length + l0.length < 2932031007402 then (some (y118 ++ l0)) else (none))) = some r := h; clear h; obtain ⟨y118, hy118⟩ : ∃ y_ : List (S35), y_ = (([] : List (S35))) := ⟨_, rfl⟩
 replace H : (if y118.length + l0.length < 2932031007402 then (some (y118 ++ l0)) else (none)) = some r := by first | (rw [hy118]; with_reducible exact H) | (have H2_ := (Option.bind_some _ _).symm.trans H; rw [hy118]; with_reducible exact H2_) | (have H2_ := (Option.bind_some _ _).symm.trans H; with_reducible exact H2_) | with_reducible exact H | (rw [hy118]; exact H) | exact H
 have Ny118 := aM hy118; clear hy118
 by_cases c2 : y118.length + l0.length < 2932031007402
 ·rw [if_pos c2] at H; have LMc2 := aM c2; clear c2; obtain ⟨y121, hy121⟩ : ∃ y_ : List (S35), y_ = (y118 ++ l0) := ⟨_, rfl⟩
  replace H : (some y121) = some r := by first | (rw [hy121]; with_reducible exact H) | (have H2_ := (Option.bind_some _ _).symm.trans H; rw [hy121]; with_reducible exact H2_) | (have H2_ := (Option.bind_some _ _).symm.trans H; with_reducible exact H2_) | with_reducible exact H | (rw [hy121]; exact H) | exact H
  have Ny121 := aM hy121; clear hy121; obtain rfl := oI H
  go_enter Try.func24, Try.ntmps24
  go_wp2_with (first | ((with_reducible refine gate_dst (N := 5) rfl ?_); refine Kd.R_lit k35 _ 35 ?hg (N := 5) ?hd (xs := ([] : List (S35))) (inner := []) (ok := fun _ => True) (okp := fun _ => True) ?hr ?hp (fun _ hk => hk) trivial (Below.refl _ _) (Nat.le_refl _) (by simp) ?_; (case hd => rfl); (case hg => rfl); (case hr => first | (go_simp; done) | (go_simp; rfl)); (case hp => exact (Reps.none _ _)); intro v119 w3 ho4 hb hg_ hnew_; clear hg_ hnew_; (first | rw [← Ny118.out] at ho4 | (simp only [Int.reduceToNat] at ho4; rw [← Ny118.out] at ho4)); have n0_ := aM (Kd.R_lower ho4 (below_size (by repeat (first | (with_reducible first | exact HB.out | apply bA | apply bN | apply bD) | exact HB.out)))); have n1_ := aM (below_step (by repeat (first | (with_reducible first | exact HB.out | apply bA | apply bN | apply bD) | exact HB.out)) hb); clear HB; have HO120 := n0_; have HB := n1_; clear n0_ n1_; clear hb ho4) | ((with_reducible refine gate_builtin (b := .append) (xs := #[.tmp 5, .tmp 6]) rfl ?_); at_builtin; refine Kd.R_append_rows k35 (w0 := w) w.heap.size rfl (.tmp 5) (.tmp 6) 22 35 (.agg #[(.int .i64 0), (.string ⟨#[]⟩), (.int .i64 0), (.bool false), (.int .i64 0)]) 48 rfl Try.underlying22 info35 rfl (by decide) (by omega) v119 y118 l0 _ _ _ (fun _ => True) (fun _ => False) rfl rfl ?aO ?aR (fun _ _ h => h) (fun _ h => h.elim) ?aF ?aB ?aS ?aL ?_; (case aR => repeat (first | exact (Kd.C_below HR0.out HB.out) | (with_reducible refine Kd.C_alloc ?_ _) | (with_reducible refine Kd.C_drewN ?_ _) | (with_reducible refine Kd.C_drew ?_))); (case aB => exact (by repeat (first | (with_reducible first | exact HB.out | apply bA | apply bN | apply bD) | exact HB.out))); (case aF => exact (fun _ _ => trivial)); (case aO => exact (by (with_reducible repeat (first | apply RA | apply RN | apply RD)); exact HO120.out)); (case aS => exact (below_size (by repeat (first | (with_reducible first | exact HB.out | apply bA | apply bN | apply bD) | exact HB.out)))); (case aL => have := LMc2.out; omega); intro v122 w5 ho hb hg hat; rw [← Ny121.out] at ho; have n0_ := aM (hb); have n1_ := aM (ho); clear HB; clear HO120; have HB := n0_; have HO123 := n1_; clear n0_ n1_; clear ho hb hg hat))
  go_ret
  exact ⟨_, by first | rfl | (simp [errW_none, errW_some] <;> rfl) | (simp [*, errW_none, errW_some] <;> rfl), by (with_reducible repeat (first | apply RA | apply RN | apply RD)); exact HO123.out, by repeat (first | (with_reducible first | exact HB.out | apply bA | apply bN | apply bD) | exact HB.out)⟩
 ·rw [if_neg c2] at H
  exact absurd H (by simp)

end Go.Proofs.Ytoemgjlkjnkdbaa.PS
