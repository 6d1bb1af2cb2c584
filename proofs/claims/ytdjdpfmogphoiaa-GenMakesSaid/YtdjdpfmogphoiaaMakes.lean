/- GenMakes: the law's walk. -/
import Derived.Test.YtdjdpfmogphoiaaRPicks
import Derived.Test.YtdjdpfmogphoiaaAlive
namespace Go.Proofs.Ytdjdpfmogphoiaa
open Go.RowKit Go.Maps Go.ChangeShapes Go.WideShapes Go.ChangeAt Go.WideMaps Go.WideElems

set_option maxHeartbeats 8000000 in
set_option maxRecDepth 100000 in
theorem makes_any (seed wk n : Int) (w : World) (_h1 : (Lit.int .i64 seed).wf = true) (_h3 : (Lit.int .i64 wk).wf = true) (_h4 : (Lit.int .i64 n).wf = true) :
    Calls Try.prog 5 #[.int .i64 seed, .int .i64 wk, .int .i64 n] w fun e w' => e = .returned (.bool true) ∧ Below w.heap.size w w' := by
  by_cases c3 : 300 < n
  · have d3 : decide (300 < n) = true := by simpa using c3
    go_enter Try.func5, Try.ntmps5
    go_wp2_with fail
    refine (alive_any _).mono ?_
    rintro e w1 ⟨rfl, b1⟩
    have B1 := Lib.hid b1
    clear b1
    go_wp2_with fail
    go_ret
    exact ⟨rfl, B1.out⟩
  have d3 : decide (300 < n) = false := by simp; omega
  have hN : n ≤ 300 := by omega
  go_enter Try.func5, Try.ntmps5
  go_wp2_with fail
  refine (alive_any _).mono ?_
  rintro e w1 ⟨rfl, b1⟩
  have B1 := Lib.hid b1
  clear b1
  have P1 := Lib.hid (nodes_any seed n w1 hN)
  have HGL := Lib.hid (gRun_len (seedS seed) (List.range n.toNat))
  have HGC := Lib.hid (gRun_cls (seedS seed) (List.range n.toNat))
  generalize hds : (gRun (seedS seed) (List.range n.toNat)).1 = ds at *
  have HDS := Lib.hid hds
  clear hds
  have HL := Lib.hid (show ds.length = n.toNat by rw [HGL.out]; simp)
  clear HGL
  go_wp2_with fail
  refine P1.out.mono ?_
  rintro e w2 ⟨⟨sp1, k1, xs1, rfl, row1, nl1⟩, b2⟩
  have R1 := Lib.hid (RdN.of row1 nl1 HL.out)
  have B2 := Lib.hid (B1.out.trans (b2.mono B1.out.size))
  clear row1 nl1 b2 P1 B1
  have P2 := Lib.hid (rnodes_any seed n w2 hN)
  rw [HDS.out] at P2
  go_wp2_with fail
  refine P2.out.mono ?_
  rintro e w3 ⟨⟨sp2, k2, xs2, rfl, row2, nl2⟩, b3⟩
  have R2 := Lib.hid (RdN.of row2 nl2 HL.out)
  have R3 := Lib.hid (R1.out.fr (frB b3))
  have B3 := Lib.hid (B2.out.trans (b3.mono B2.out.size))
  clear row2 nl2 b3 P2 B2 R1
  have P3 := Lib.hid (sameNodes_any sp1 sp2 k1 k2 ds w3 R3.out R2.out (by rw [HL.out]; omega) HGC.out)
  rw [HL.out] at P3
  go_wp2_with fail
  refine P3.out.mono ?_
  rintro e w4 ⟨rfl, b4⟩
  have B4 := Lib.hid (B3.out.trans (b4.mono B3.out.size))
  clear b4 P3 B3 R2 R3 HL HDS HGC
  by_cases hw : wk < 1 ∨ 64 < wk
  · have P4 := Lib.hid (picks_no seed wk n w4 hw)
    go_wp2_with fail
    refine P4.out.mono ?_
    rintro e w5 ⟨rfl, b5⟩
    have B5 := Lib.hid (B4.out.trans (b5.mono B4.out.size))
    have P5 := Lib.hid (rpicks_no seed wk n w5 hw)
    clear P4 B4 b5
    go_wp2_with fail
    refine P5.out.mono ?_
    rintro e w6 ⟨rfl, rfl⟩
    have P6 := Lib.hid (same_any none none 0 0 0 (fun _ => 0) (fun _ => 0) w5 (fun k hk => by omega) (fun k hk => by omega) (by omega) (by omega) (by omega))
    clear P5
    go_wp2_with fail
    refine P6.out.mono ?_
    rintro e w7 ⟨rfl, b7⟩
    have B7 := Lib.hid (B5.out.trans (b7.mono B5.out.size))
    go_wp2_with fail
    go_ret
    exact ⟨rfl, B7.out⟩
  · have P4 := Lib.hid (picksI_any seed wk n w4 (by omega) (by omega) hN)
    generalize hs0 : seedS seed = s0 at *
    have HS0 := Lib.hid hs0
    clear hs0
    go_wp2_with fail
    refine P4.out.mono ?_
    rintro e w5 ⟨⟨sp3, k3, rfl, row3⟩, b5⟩
    have hc1 : n.toNat ≤ k3 := by
      rcases row3.2 with ⟨_, h⟩ | ⟨_, _, _, h, _, _, h2, _⟩
      · omega
      · cases h; exact h2
    have I1 := Lib.hid (IsPk.of row3)
    have B5 := Lib.hid (B4.out.trans (b5.mono B4.out.size))
    clear P4 B4 row3 b5
    have P5 := Lib.hid (rpicks_any seed wk n w5 (by omega) (by omega) hN)
    rw [HS0.out] at P5
    go_wp2_with fail
    refine P5.out.mono ?_
    rintro e w6 ⟨⟨sp4, k4, rfl, row4⟩, b6⟩
    have hc2 : n.toNat ≤ k4 := by
      rcases row4.2 with ⟨_, h⟩ | ⟨_, _, _, h, _, _, h2, _⟩
      · omega
      · cases h; exact h2
    have P6 := Lib.hid (same_any sp3 sp4 n.toNat k3 k4 _ _ w6 (I1.out.below b6) (IsPk.of row4) (by omega) hc1 hc2)
    have B6 := Lib.hid (B5.out.trans (b6.mono B5.out.size))
    clear P5 B5 row4 b6 I1
    go_wp2_with fail
    refine P6.out.mono ?_
    rintro e w7 ⟨rfl, b7⟩
    have B7 := Lib.hid (B6.out.trans (b7.mono B6.out.size))
    go_wp2_with fail
    go_ret
    exact ⟨rfl, B7.out⟩
end Go.Proofs.Ytdjdpfmogphoiaa
