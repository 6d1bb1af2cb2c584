/- StoreNone: it returns true, and writes nothing that was there. -/
import Derived.Test.YtpjijcpbmljanaaKS
namespace Go.Proofs.Ytpjijcpbmljanaa
open Go.RowKit Go.Maps Go.ChangeShapes Go.WideShapes Go.ChangeAt Go.WideMaps Go.WideElems

/-- The style whose first number is k. -/
def xk (k : Int) : Nat → Int := fun j => if j = 0 then k else 0
theorem stLk (k : Int) : (stL (xk k)).toArray = #[.int .i64 k, .int .i64 0, .int .i64 0, .int .i64 0, .int .i64 0, .int .i64 0, .int .i64 0, .int .i64 0] := rfl

/-- n structs, each held once. -/
def LN : Nat → List Item
  | 0 => []
  | n + 1 => LN n ++ [(xk n, 1)]
theorem LN_len (n : Nat) : (LN n).length = n := by
  induction n with
  | zero => rfl
  | succ n ih => simp [LN, ih]
theorem LN_at (n k : Nat) (hk : k < n) (h : k < (LN n).length) : (LN n)[k] = (xk k, 1) := by
  induction n with
  | zero => omega
  | succ n ih =>
    simp only [LN]
    rcases Nat.lt_or_ge k n with h1 | h1
    · rw [List.getElem_append_left (by rw [LN_len]; exact h1)]
      exact ih h1 (by rw [LN_len]; exact h1)
    · obtain rfl : k = n := by omega
      rw [List.getElem_append_right (by rw [LN_len]; omega)]
      simp [LN_len]
theorem LN_live (n : Nat) : liveOf (LN n) = n := by
  induction n with
  | zero => rfl
  | succ n ih => rw [LN, liveOf_snoc, ih, if_pos (by simp)]; omega
theorem LN_cnt (n : Nat) (i : Int) : cntL (LN n) i = if 0 ≤ i ∧ i < n then 1 else 0 := by
  by_cases h : 0 ≤ i ∧ i < n
  · obtain ⟨k, rfl⟩ := Int.eq_ofNat_of_zero_le h.1
    rw [if_pos h, cntL_nat (by rw [LN_len]; omega), LN_at n k (by omega)]
  · rw [if_neg h, cntL_no (by rw [LN_len]; omega)]

theorem cnt_hold {L : List Item} {i : Int} (hp : 0 < cntL L i) : cntL (hold L i) i = cntL L i + 1 := by
  unfold hold
  rw [if_pos hp]
  obtain ⟨k, rfl, hk⟩ := inR hp
  rw [bump_nat hk, cntL_nat (by simpa using hk), cntL_nat hk]
  simp
theorem rel_hold {L : List Item} {i : Int} (hp : 0 < cntL L i) : rel (hold L i) i = L := by
  have h1 := cnt_hold hp
  unfold rel
  rw [if_pos (by omega)]
  unfold hold
  rw [if_pos hp]
  obtain ⟨k, rfl, hk⟩ := inR hp
  rw [bump_nat hk, bump_nat (by simpa using hk)]
  simp
  rw [show L[k].2 + 1 + -1 = L[k].2 by omega]
  exact List.set_getElem_self hk

set_option maxHeartbeats 1000000 in
set_option maxRecDepth 100000 in
theorem none_any (n i : Int) (w : World) (_hn : (Lit.int .i64 n).wf = true) (_hi : (Lit.int .i64 i).wf = true) :
    Calls Try.prog 5 #[.int .i64 n, .int .i64 i] w fun e w' => e = .returned (.bool true) ∧ Below w.heap.size w w' := by
  by_cases c1 : n < 0
  · go_enter Try.func5, Try.ntmps5
    go_wp2_with fail
    refine (alive_any _).mono ?_
    rintro e w1 ⟨rfl, b1⟩
    go_wp2_with fail
    go_ret
    exact ⟨rfl, b1⟩
  by_cases c2 : 50 < n
  · go_enter Try.func5, Try.ntmps5
    go_wp2_with fail
    refine (alive_any _).mono ?_
    rintro e w1 ⟨rfl, b1⟩
    go_wp2_with fail
    go_ret
    exact ⟨rfl, b1⟩
  obtain ⟨N, rfl⟩ := Int.eq_ofNat_of_zero_le (by omega : 0 ≤ n)
  have hN : N ≤ 50 := by omega
  clear c1 c2
  have d2 : decide ((N : Int) < 0) = false := by simp
  have d3 : decide ((50 : Int) < (N : Int)) = false := by simp; omega
  go_enter Try.func5, Try.ntmps5
  go_wp2_with fail
  refine (alive_any _).mono ?_
  rintro e w1 ⟨rfl, b1⟩
  go_wp2_with fail
  have K0 := Lib.hid (KS.init w w1 b1)
  generalize w1.alloc (.cells #[.slice none 0 0, .int .i64 0] 26) = w2 at *
  generalize w1.heap.size = b at *
  clear b1
  go_loopw [7] (fun i wr => ∃ k : Nat, k ≤ N ∧ i = .int .i64 k ∧ Hid (KS w wr b (LN k) k)) (fun i _ => N - (intOf i).toNat)
  case atStart => exact ⟨0, by omega, rfl, K0.out⟩
  case round =>
    obtain ⟨k, hk, rfl, hK⟩ := hrel
    clear K0
    by_cases hlt : k < N
    · have P := Lib.hid (hK.out.add (xk k) (by rw [LN_len]; omega) (by omega))
      rw [LN_len, stLk] at P
      go_wp2_with fail
      refine P.out.mono ?_
      rintro e w3 ⟨rfl, hK3⟩
      have K3 := Lib.hid hK3
      clear hK3 P
      go_wp2_with fail
      go_roundw
      case rel => exact ⟨k + 1, by omega, by go_num, K3.out⟩
      case measure => simp [intOf]; omega
    · have hke : k = N := by omega
      subst hke
      have P1 := Lib.hid (hK.out.get i (by rw [LN_len]; omega))
      have HC := Lib.hid (LN_cnt k i)
      have HV := Lib.hid (LN_live k)
      by_cases hi : 0 ≤ i ∧ i < k
      · obtain ⟨j, rfl⟩ := Int.eq_ofNat_of_zero_le hi.1
        have hj : j < k := by omega
        have e1 : errOf (LN k) (j : Nat) = 0 := by unfold errOf; rw [HC.out, if_pos hi]; rfl
        have e2 : getX (LN k) (j : Nat) = xk j := by rw [getX_nat (by rw [LN_len]; omega) (by rw [LN_at k j hj]; omega), LN_at k j hj]
        rw [e1, e2, stLk] at P1
        have hpos : 0 < cntL (LN k) (j : Nat) := by rw [HC.out, if_pos hi]; omega
        have e3 : errOf (hold (LN k) (j : Nat)) (j : Nat) = 0 := by
          unfold errOf; rw [if_pos (by rw [cnt_hold hpos]; omega)]
        have E1 := Lib.hid e1
        have E3 := Lib.hid e3
        have E4 := Lib.hid (rel_hold hpos)
        have hj2 : decide (j < k) = true := by simp; omega
        have EX := Lib.hid (stLk j)
        obtain ⟨hi0, hi1⟩ := hi
        clear e1 e2 e3 hpos
        go_wp2_with fail
        refine P1.out.mono ?_
        rintro e w3 ⟨rfl, hK3⟩
        have K3 := Lib.hid hK3
        clear hK3 P1
        go_wp2_with fail
        have P2 := Lib.hid (K3.out.two (j : Nat) (by rw [LN_len]; omega) (by omega) (.cells #[.int .i64 j, .int .i64 0, .int .i64 0, .int .i64 0, .int .i64 0, .int .i64 0, .int .i64 0, .int .i64 0] 33))
        rw [E1.out, E3.out, E4.out] at P2
        refine P2.out.mono ?_
        rintro e w4 ⟨rfl, _, _, P3⟩
        have HP3 := Lib.hid P3
        clear P3 P2 K3
        go_wp2_with fail
        refine HP3.out.mono ?_
        rintro e w5 ⟨rfl, o5, K5⟩
        have HK5 := Lib.hid K5
        clear K5 HP3
        have y0 := cellOf o5 0
        simp at y0
        have MV := Lib.hid HK5.out.live
        rw [HV.out] at MV
        have nx : (j : Int) = (j : Int) := rfl
        clear nx o5
        go_wp2_with fail
        refine (num_any _ _).mono ?_
        rintro e w6 ⟨rfl, rfl⟩
        go_wp2_with fail
        refine (num_any _ _).mono ?_
        rintro e w6 ⟨rfl, rfl⟩
        go_wp2_with fail
        refine (num_any _ _).mono ?_
        rintro e w6 ⟨rfl, rfl⟩
        go_wp2_with fail
        refine MV.out.mono ?_
        rintro e w6 ⟨rfl, rfl⟩
        go_wp2_with fail
        go_ret
        exact ⟨rfl, HK5.out.below⟩
      · have h0 : ¬ 0 < cntL (LN k) i := by rw [HC.out, if_neg hi]; omega
        have e1 : errOf (LN k) i = 6 := by unfold errOf; rw [if_neg h0]
        have e2 : getX (LN k) i = xk 0 := by unfold getX; rw [if_neg h0]; funext j; unfold xk; split <;> rfl
        have e3 : hold (LN k) i = LN k := by unfold hold; rw [if_neg h0]
        have e4 : rel (LN k) i = LN k := by unfold rel; rw [if_neg h0]
        rw [e1, e2, stLk] at P1
        have E1 := Lib.hid e1
        have E3 := Lib.hid e3
        have E4 := Lib.hid e4
        clear e1 e2 e3 e4 h0
        by_cases hi0 : i < 0
        all_goals
          first
            | (have hd1 : decide (0 ≤ i) = false := by simpa using hi0
               have hq := hd1)
            | (have hd1 : decide (0 ≤ i) = true := by simp; omega
               have hd2 : decide (i < (k : Int)) = false := by simp; omega
               have hd3 : (k : Int) ≤ i := by omega
               have hq := hd1)
          clear hq hi
          go_wp2_with fail
          refine P1.out.mono ?_
          rintro e w3 ⟨rfl, hK3⟩
          have K3 := Lib.hid hK3
          clear hK3 P1
          go_wp2_with fail
          have P2 := Lib.hid (K3.out.two i (by rw [LN_len]; omega) (by omega) (.cells #[.int .i64 0, .int .i64 0, .int .i64 0, .int .i64 0, .int .i64 0, .int .i64 0, .int .i64 0, .int .i64 0] 33))
          rw [E3.out, E4.out, E1.out] at P2
          refine P2.out.mono ?_
          rintro e w4 ⟨rfl, _, _, P3⟩
          have HP3 := Lib.hid P3
          clear P3 P2 K3
          go_wp2_with fail
          refine HP3.out.mono ?_
          rintro e w5 ⟨rfl, o5, K5⟩
          have HK5 := Lib.hid K5
          clear K5 HP3
          have y0 := cellOf o5 0
          have y1 := cellOf o5 1
          have y2 := cellOf o5 2
          have y3 := cellOf o5 3
          have y4 := cellOf o5 4
          have y5 := cellOf o5 5
          have y6 := cellOf o5 6
          have y7 := cellOf o5 7
          simp at y0 y1 y2 y3 y4 y5 y6 y7
          have MV := Lib.hid HK5.out.live
          rw [HV.out] at MV
          clear o5
          have hq := fun w => arrEq (xk 0) w
          simp only [stLk] at hq
          go_wp2_with fail
          refine (num_any _ _).mono ?_
          rintro e w6 ⟨rfl, rfl⟩
          go_wp2_with fail
          refine (num_any _ _).mono ?_
          rintro e w6 ⟨rfl, rfl⟩
          go_wp2_with fail
          refine (num_any _ _).mono ?_
          rintro e w6 ⟨rfl, rfl⟩
          go_wp2_with fail
          refine MV.out.mono ?_
          rintro e w6 ⟨rfl, rfl⟩
          go_wp2_with fail
          go_ret
          exact ⟨rfl, HK5.out.below⟩

end Go.Proofs.Ytpjijcpbmljanaa
