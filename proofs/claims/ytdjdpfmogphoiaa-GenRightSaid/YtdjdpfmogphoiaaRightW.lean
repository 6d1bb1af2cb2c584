/- GenRight: the law's walk. -/
import Derived.Test.YtdjdpfmogphoiaaRight
namespace Go.Proofs.Ytdjdpfmogphoiaa
open Go.RowKit Go.Maps Go.ChangeShapes Go.WideShapes Go.ChangeAt Go.WideMaps Go.WideElems

/-- Of a seed its lowest 32 bits count. -/
theorem seed_up (seed up : Int) : seedS (seed + up * 4294967296) = seedS seed := by
  unfold seedS
  rw [i64_and32, i64_and32]
  omega

set_option maxHeartbeats 8000000 in
set_option maxRecDepth 100000 in
theorem right_any (seed up wk n : Int) (w : World) (_h1 : (Lit.int .i64 seed).wf = true) (_h2 : (Lit.int .i64 up).wf = true) (_h3 : (Lit.int .i64 wk).wf = true) (_h4 : (Lit.int .i64 n).wf = true) :
    Calls Try.prog 6 #[.int .i64 seed, .int .i64 up, .int .i64 wk, .int .i64 n] w fun e w' => e = .returned (.bool true) ∧ Below w.heap.size w w' := by
  by_cases c0 : wk < 1
  · go_enter Try.func6, Try.ntmps6
    go_wp2_with fail
    refine (alive_any _).mono ?_
    rintro e w1 ⟨rfl, b1⟩
    have B1 := Lib.hid b1
    clear b1
    go_wp2_with fail
    go_ret
    exact ⟨rfl, B1.out⟩
  by_cases c1 : 64 < wk
  · go_enter Try.func6, Try.ntmps6
    go_wp2_with fail
    refine (alive_any _).mono ?_
    rintro e w1 ⟨rfl, b1⟩
    have B1 := Lib.hid b1
    clear b1
    go_wp2_with fail
    go_ret
    exact ⟨rfl, B1.out⟩
  by_cases c2 : n < 0
  · go_enter Try.func6, Try.ntmps6
    go_wp2_with fail
    refine (alive_any _).mono ?_
    rintro e w1 ⟨rfl, b1⟩
    have B1 := Lib.hid b1
    clear b1
    go_wp2_with fail
    go_ret
    exact ⟨rfl, B1.out⟩
  by_cases c3 : 300 < n
  · go_enter Try.func6, Try.ntmps6
    go_wp2_with fail
    refine (alive_any _).mono ?_
    rintro e w1 ⟨rfl, b1⟩
    have B1 := Lib.hid b1
    clear b1
    go_wp2_with fail
    go_ret
    exact ⟨rfl, B1.out⟩
  by_cases c4 : up < 0
  · go_enter Try.func6, Try.ntmps6
    go_wp2_with fail
    refine (alive_any _).mono ?_
    rintro e w1 ⟨rfl, b1⟩
    have B1 := Lib.hid b1
    clear b1
    go_wp2_with fail
    go_ret
    exact ⟨rfl, B1.out⟩
  by_cases c5 : 1000 < up
  · go_enter Try.func6, Try.ntmps6
    go_wp2_with fail
    refine (alive_any _).mono ?_
    rintro e w1 ⟨rfl, b1⟩
    have B1 := Lib.hid b1
    clear b1
    go_wp2_with fail
    go_ret
    exact ⟨rfl, B1.out⟩
  by_cases c6 : 1152921504606846976 < seed
  · go_enter Try.func6, Try.ntmps6
    go_wp2_with fail
    refine (alive_any _).mono ?_
    rintro e w1 ⟨rfl, b1⟩
    have B1 := Lib.hid b1
    clear b1
    go_wp2_with fail
    go_ret
    exact ⟨rfl, B1.out⟩
  by_cases c7 : seed < -1152921504606846976
  · go_enter Try.func6, Try.ntmps6
    go_wp2_with fail
    refine (alive_any _).mono ?_
    rintro e w1 ⟨rfl, b1⟩
    have B1 := Lib.hid b1
    clear b1
    go_wp2_with fail
    go_ret
    exact ⟨rfl, B1.out⟩
  obtain ⟨N, rfl⟩ := Int.eq_ofNat_of_zero_le (by omega : 0 ≤ n)
  have d0 : decide (wk < 1) = false := by simp; omega
  have d1 : decide (64 < wk) = false := by simp; omega
  have d2 : decide ((N : Int) < 0) = false := by simp
  have d3 : decide (300 < (N : Int)) = false := by simp; omega
  have d4 : decide (up < 0) = false := by simp; omega
  have d5 : decide (1000 < up) = false := by simp; omega
  have d6 : decide (1152921504606846976 < seed) = false := by simp; omega
  have d7 : decide (seed < -1152921504606846976) = false := by simp; omega
  go_enter Try.func6, Try.ntmps6
  go_wp2_with fail
  refine (alive_any _).mono ?_
  rintro e w1 ⟨rfl, b1⟩
  have B1 := Lib.hid b1
  clear b1
  have P1 := Lib.hid (picks_any seed wk N w1 (by omega) (by omega) (by omega))
  go_wp2_with fail
  refine P1.out.mono ?_
  rintro e w2 ⟨⟨sp, c, rfl, row1⟩, b2⟩
  have hc1 : N ≤ c := by
    rcases row1.2 with ⟨_, h⟩ | ⟨_, _, _, h, _, _, h2, _⟩
    · omega
    · cases h; exact h2
  have I1 := Lib.hid (IsPk.of row1)
  have B2 := Lib.hid (B1.out.trans (b2.mono B1.out.size))
  clear P1 B1 row1 b2 w1
  generalize hs : seedS seed = s at *
  have hse := seed_up seed up
  rw [hs] at hse
  have qn : ((N : Int) == (N : Int)) = true := by simp
  have hN3 : N ≤ 300 := by omega
  go_wp2_with fail
  go_loopw [11] (fun i wr => ∃ k : Nat, k ≤ N ∧ i = .int .i64 k ∧ wr = w2) (fun i _ => N - (intOf i).toNat)
  case atStart => exact ⟨0, by omega, rfl, rfl⟩
  case round =>
    obtain ⟨k, hk, rfl, rfl⟩ := hrel
    by_cases hlt : k < N
    · obtain ⟨b, rfl, _, a0, a1⟩ := I1.out k hlt
      simp only at a0 a1
      obtain ⟨u0, u1⟩ := nxV_in (stp s k) wk
      obtain ⟨v0, v1⟩ := nxV_in (nxS (stp s k)) wk
      have u2 := u1 (by omega)
      have v2 := v1 (by omega)
      clear u1 v1
      generalize nxV (stp s k) wk = u at *
      generalize nxV (nxS (stp s k)) wk = v at *
      have t0 : decide (u < 0) = false := by simp; omega
      have t1 : decide (wk ≤ u) = false := by simp; omega
      have t2 : decide (v < 0) = false := by simp; omega
      have t3 : decide (wk ≤ v) = false := by simp; omega
      have i1 : (k : Int) < (N : Int) := by omega
      go_wp2_with fail
      go_roundw
      case rel => exact ⟨k + 1, by omega, by go_num, trivial⟩
      case measure => simp [intOf]; omega
    · have i1 : ¬ (k : Int) < (N : Int) := by omega
      have P2 := Lib.hid (picks_any (seed + up * 4294967296) wk N wr (by omega) (by omega) (by omega))
      rw [hse] at P2
      go_wp2_with fail
      refine P2.out.mono ?_
      rintro e w3 ⟨⟨sp2, c2, rfl, row2⟩, b3⟩
      have hc2 : N ≤ c2 := by
        rcases row2.2 with ⟨_, h⟩ | ⟨_, _, _, h, _, _, h2, _⟩
        · omega
        · cases h; exact h2
      have P3 := Lib.hid (same_any sp sp2 N c c2 _ _ w3 (I1.out.below b3) (IsPk.of row2) hN3 hc1 hc2)
      have B3 := Lib.hid (B2.out.trans (b3.mono B2.out.size))
      clear P2 row2 b3
      go_wp2_with fail
      refine P3.out.mono ?_
      rintro e w4 ⟨rfl, b4⟩
      have B4 := Lib.hid (B3.out.trans (b4.mono B3.out.size))
      clear P3 b4
      go_wp2_with fail
      go_ret
      exact ⟨rfl, B4.out⟩
end Go.Proofs.Ytdjdpfmogphoiaa
