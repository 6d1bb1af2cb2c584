-- Written by wip/xprint.py, gen2.py and squeeze.py of this session, over the printer of the kit; not that printer's own output.
import Derived.Test.YtoemgjlkjnkdbaaPSx0
import Derived.Test.YtoemgjlkjnkdbaaPSx1
import Derived.Test.YtoemgjlkjnkdbaaPSx2
namespace Go.Proofs.Ytoemgjlkjnkdbaa.PS
open Go.RowKit Go.Proofs.YtoemgjlkjnkdbaaW.PrintWords Go.Proofs.YtoemgjlkjnkdbaaW.PrintLast
open Go.Proofs.YtoemgjlkjnkdbaaW.PrintWords renaming pw_below_drewN → bN, below_alloc → bA, below_drew1 → bD
open Go.Proofs.YtoemgjlkjnkdbaaW.PrintWords.Aside0 renaming mk → aM
open Option renaming bind_eq_some_iff → oB
open Option.some renaming inj → oI
open List renaming length_take → lT, length_drop → lD, map_toArray → mT, map_cons → mC, map_nil → mN
set_option linter.unusedVariables false
set_option linter.unusedSimpArgs false

def rules_At.f (k : Nat) (l0 : List (S35)) (a1 : Int) : Option (Int) := (rules_Find.f k l0 (wrap64 (a1 + 1)) 12 14).bind fun t116 => ((rules_Skip.f k l0 t116).bind fun t117 => (some t117))
set_option maxHeartbeats 8000000 in
set_option maxRecDepth 100000 in
theorem rules_At.calls (k : Nat) (A0 : Option Addr) (c0 : Nat) (l0 : List (S35)) (a1 : Int) (r : Int) (w : World) (hr0 : Kd.C k35 w A0 l0.length l0) (hc0 : l0.length ≤ c0) (h : rules_At.f k l0 a1 = some r) :
  Calls Try.prog 22 #[.slice A0 l0.length c0, .int .i64 a1] w fun e w' => e = .returned (.int .i64 r) ∧ Below w.heap.size w w' := by
 have HR0 := aM hr0; have HC0 := aM hc0; clear hr0 hc0; have HB := aM (Below.refl w.heap.size w); have H : ((rules_Find.f k l0 (wrap64 (a1 + 1)) 12 14).bind fun t116 => ((rules_Skip.f k l0 t116).bind fun t117 => (some t117))) = some r := h; clear h; replace H := oB.mp H; obtain ⟨t116, A30, H⟩ := H; replace H : ((rules_Skip.f k l0 t116).bind fun t117 => (some t117)) = some r := H; have A3 := aM A30; clear A30; replace H := oB.mp H; obtain ⟨t117, A40, H⟩ := H; replace H : (some t117) = some r := H; have A4 := aM A40; clear A40; obtain rfl := oI H
 go_enter Try.func22, Try.ntmps22
 go_wp2_with (first | ((with_reducible refine gate_callee (f := 23) rfl ?_); refine goesL_ (some 9) rfl rfl Try.func23 (by kernel_rfl) rfl #[.slice A0 l0.length c0, .int .i64 (wrap64 (a1 + 1)), .int .i64 12, .int .i64 14] rfl (by (try simp only [mT, mC, mN]); first | done | rfl | (simp only [lD, lT]; rfl)) ?_; (with_reducible refine (rules_Find.calls k _ _ l0 (wrap64 (a1 + 1)) 12 14 t116 _ ?side1 ?side2 A3.out).mono ?_); (case side1 => repeat (first | exact HR0.out | (with_reducible refine Kd.C_alloc ?_ _) | (with_reducible refine Kd.C_drewN ?_ _) | (with_reducible refine Kd.C_drew ?_))); (case side2 => exact HC0.out); rintro e w5 ⟨rfl, hb⟩; refine ⟨_, rfl, ?_⟩; have n0_ := aM (below_step (by repeat (first | (with_reducible first | exact HB.out | apply bA | apply bN | apply bD) | exact HB.out)) hb); clear HB; have HB := n0_; clear n0_; (try clear hb); (try clear hb2); (try clear hk); (try clear hi)) | ((with_reducible refine gate_callee (f := 17) rfl ?_); refine goesL_ (some 10) rfl rfl Try.func17 (by kernel_rfl) rfl #[.slice A0 l0.length c0, .int .i64 t116] rfl (by (try simp only [mT, mC, mN]); first | done | rfl | (simp only [lD, lT]; rfl)) ?_; (with_reducible refine (rules_Skip.calls k _ _ l0 t116 t117 _ ?side1 ?side2 A4.out).mono ?_); (case side1 => repeat (first | exact (Kd.C_below HR0.out HB.out) | (with_reducible refine Kd.C_alloc ?_ _) | (with_reducible refine Kd.C_drewN ?_ _) | (with_reducible refine Kd.C_drew ?_))); (case side2 => exact HC0.out); rintro e w6 ⟨rfl, hb⟩; refine ⟨_, rfl, ?_⟩; have n0_ := aM (below_step (by repeat (first | (with_reducible first | exact HB.out | apply bA | apply bN | apply bD) | exact HB.out)) hb); clear HB; have HB := n0_; clear n0_; (try clear hb); (try clear hb2); (try clear hk); (try clear hi)))
 go_ret
 exact ⟨by first | rfl | (simp [errW_none, errW_some] <;> rfl) | (simp [*, errW_none, errW_some] <;> rfl), by repeat (first | (with_reducible first | exact HB.out | apply bA | apply bN | apply bD) | exact HB.out)⟩

end Go.Proofs.Ytoemgjlkjnkdbaa.PS
