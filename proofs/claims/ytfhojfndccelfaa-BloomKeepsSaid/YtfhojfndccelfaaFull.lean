/- BloomFull: it returns true, and writes nothing that was there. -/
import Derived.Test.YtfhojfndccelfaaOne
namespace Go.Proofs.Ytfhojfndccelfaa
open Go.RowKit Go.Maps Go.ChangeShapes Go.WideShapes Go.ChangeAt Go.WideMaps Go.WideElems

def ups (k : Nat) : Int := if k < 255 then (k : Int) else 255
def downs (n : Int) (m : Nat) : Int := if n = 255 then 255 else if (m : Int) < n then n - m else 0

theorem ups_bd (k : Nat) : 0 ≤ ups k ∧ ups k ≤ 255 := by unfold ups; split <;> omega
theorem ups_step (k : Nat) : up (ups k) = ups (k + 1) := by unfold up ups; (repeat' split) <;> omega
theorem downs_bd {n : Int} (h : 0 ≤ n ∧ n ≤ 255) (m : Nat) : 0 ≤ downs n m ∧ downs n m ≤ 255 := by unfold downs; (repeat' split) <;> omega
theorem downs_step {n : Int} (h : 0 ≤ n ∧ n ≤ 255) (m : Nat) : down (downs n m) = downs n (m + 1) := by unfold down downs; (repeat' split) <;> omega
theorem downs_zero {n : Int} (h : 0 ≤ n ∧ n ≤ 255) : downs n 0 = n := by unfold downs; (repeat' split) <;> omega

theorem push_at (b : Nat) (h n : Int) (w : World) (hw : (Lit.int .i64 h).wf = true) (hf : IsFil 26 .u8 w b (st h n)) (hn : 0 ≤ n ∧ n ≤ 255) (w0 : World) (bw : Below w0.heap.size w0 w) (hge : w0.heap.size ≤ b) :
    Calls Try.prog 10 #[.pointer (some ⟨b, 0, none⟩), .slice (some ⟨w.heap.size, 0, none⟩) 1 1] (w.alloc (.cells #[.int .i64 h] 3)) fun e w' => e = .returned (.tuple #[]) ∧ Below w0.heap.size w0 w' ∧ IsFil 26 .u8 w' b (st h (up n)) := by
  refine (push_st b h n w hw hf hn).mono ?_
  rintro e w' ⟨rfl, f, g⟩
  exact ⟨rfl, (bw.alloc bw.size _).trans (f.below (Nat.le_trans bw.size (by simp)) (fun k hk e => by omega)), g⟩
theorem pop_at (b : Nat) (h n : Int) (w : World) (hw : (Lit.int .i64 h).wf = true) (hf : IsFil 26 .u8 w b (st h n)) (hn : 0 ≤ n ∧ n ≤ 255) (w0 : World) (bw : Below w0.heap.size w0 w) (hge : w0.heap.size ≤ b) :
    Calls Try.prog 11 #[.pointer (some ⟨b, 0, none⟩), .slice (some ⟨w.heap.size, 0, none⟩) 1 1] (w.alloc (.cells #[.int .i64 h] 3)) fun e w' => e = .returned (.tuple #[]) ∧ Below w0.heap.size w0 w' ∧ IsFil 26 .u8 w' b (st h (down n)) := by
  refine (pop_st b h n w hw hf hn).mono ?_
  rintro e w' ⟨rfl, f, g⟩
  exact ⟨rfl, (bw.alloc bw.size _).trans (f.below (Nat.le_trans bw.size (by simp)) (fun k hk e => by omega)), g⟩

/-- The end of the law: what is wanted, by cases. -/
theorem full_want (U D : Nat) (_hU : U ≤ 400) : downs (ups U) D = if 255 ≤ U then 255 else if D < U then (U : Int) - D else 0 := by
  unfold downs ups; (repeat' split) <;> omega

set_option maxHeartbeats 1000000 in
set_option maxRecDepth 100000 in
theorem bfull_any (h u d : Int) (w : World) (hw : (Lit.int .i64 h).wf = true) (_hu : (Lit.int .i64 u).wf = true) (_hd : (Lit.int .i64 d).wf = true) :
    Calls Try.prog 6 #[.int .i64 h, .int .i64 u, .int .i64 d] w fun e w' => e = .returned (.bool true) ∧ Below w.heap.size w w' := by
  have Hw := Lib.hid hw
  clear hw
  by_cases c1 : u < 0
  · go_enter Try.func6, Try.ntmps6
    go_wp2_with fail
    refine (alive_any _).mono ?_
    rintro e w1 ⟨rfl, b1⟩
    go_wp2_with fail
    go_ret
    exact ⟨rfl, b1⟩
  by_cases c2 : 400 < u
  · go_enter Try.func6, Try.ntmps6
    go_wp2_with fail
    refine (alive_any _).mono ?_
    rintro e w1 ⟨rfl, b1⟩
    go_wp2_with fail
    go_ret
    exact ⟨rfl, b1⟩
  by_cases c3 : d < 0
  · go_enter Try.func6, Try.ntmps6
    go_wp2_with fail
    refine (alive_any _).mono ?_
    rintro e w1 ⟨rfl, b1⟩
    go_wp2_with fail
    go_ret
    exact ⟨rfl, b1⟩
  by_cases c4 : 400 < d
  · go_enter Try.func6, Try.ntmps6
    go_wp2_with fail
    refine (alive_any _).mono ?_
    rintro e w1 ⟨rfl, b1⟩
    go_wp2_with fail
    go_ret
    exact ⟨rfl, b1⟩
  obtain ⟨U, rfl⟩ := Int.eq_ofNat_of_zero_le (by omega : 0 ≤ u)
  obtain ⟨D, rfl⟩ := Int.eq_ofNat_of_zero_le (by omega : 0 ≤ d)
  have hU : U ≤ 400 := by omega
  have hD : D ≤ 400 := by omega
  clear c1 c2 c3 c4
  have ha := i64_and32 h
  have Cpa := Lib.hid (fun c => cnt_pa c h)
  obtain ⟨x, hx⟩ : ∃ x, x = h % 4294967296 := ⟨_, rfl⟩
  rw [← hx] at ha Cpa
  have x0 : 0 ≤ x := by omega
  have x1 : x ≤ 4294967295 := by omega
  clear hx
  have hwant := full_want U D hU
  have Hwant := Lib.hid hwant
  clear hwant
  have z26 := zero26
  go_enter Try.func6, Try.ntmps6
  go_wp2_with fail
  refine (alive_any _).mono ?_
  rintro e w1 ⟨rfl, b1⟩
  go_wp2_with fail
  clear z26
  have hf := fil_new 26 .u8 w1
  have b2 : Below w.heap.size w (w1.alloc (.cells (tab .u8 zc) 26)) := b1.alloc b1.size _
  have hge : w.heap.size ≤ w1.heap.size := b1.size
  rw [← st_zero h] at hf b2 ⊢
  generalize w1.alloc (.cells (tab .u8 (st h 0)) 26) = w2 at *
  generalize w1.heap.size = b at *
  have HF := Lib.hid hf
  have B2 := Lib.hid b2
  clear hf b2 b1
  go_loopw [9] (fun i wr => ∃ k : Nat, k ≤ U ∧ i = .int .i64 k ∧ Hid (IsFil 26 .u8 wr b (st h (ups k))) ∧ Hid (Below w.heap.size w wr)) (fun i _ => U - (intOf i).toNat)
  case atStart => exact ⟨0, by omega, rfl, HF.out, B2.out⟩
  case round =>
    obtain ⟨k, hk, rfl, hf, hb⟩ := hrel
    by_cases hlt : k < U
    · have P0 := Lib.hid (push_at b h (ups k) wr Hw.out hf.out (ups_bd k) w hb.out hge)
      rw [ups_step] at P0
      go_wp2_with fail
      refine P0.out.mono ?_
      rintro e w3 ⟨rfl, b3, hf3⟩
      have HF3 := Lib.hid hf3
      have B3 := Lib.hid b3
      clear b3 hf3
      go_wp2_with fail
      go_roundw
      case rel => exact ⟨k + 1, by omega, by go_num, HF3.out, B3.out⟩
      case measure => simp [intOf]; omega
    · have hke : k = U := by omega
      subst hke
      have hbd := ups_bd k
      obtain ⟨n, hn⟩ : ∃ n, n = ups k := ⟨_, rfl⟩
      rw [← hn] at hf Hwant hbd
      clear hn HF B2
      obtain ⟨wo, rfl⟩ : ∃ wo : World, wo = wr := ⟨_, rfl⟩
      go_wp2_with fail
      go_loopw [10] (fun i wr => ∃ m : Nat, m ≤ D ∧ i = .int .i64 m ∧ Hid (IsFil 26 .u8 wr b (st h (downs n m))) ∧ Hid (Below w.heap.size w wr)) (fun i _ => D - (intOf i).toNat)
      case atStart => exact ⟨0, by omega, rfl, by rw [downs_zero hbd]; exact hf, hb⟩
      case round =>
        obtain ⟨m, hm, rfl, hf4, hb4⟩ := hrel
        clear hf hb
        by_cases hlt2 : m < D
        · have P0 := Lib.hid (pop_at b h (downs n m) wr Hw.out hf4.out (downs_bd hbd m) w hb4.out hge)
          rw [downs_step hbd] at P0
          go_wp2_with fail
          refine P0.out.mono ?_
          rintro e w3 ⟨rfl, b3, hf3⟩
          have HF3 := Lib.hid hf3
          have B3 := Lib.hid b3
          clear b3 hf3
          go_wp2_with fail
          go_roundw
          case rel => exact ⟨m + 1, by omega, by go_num, HF3.out, B3.out⟩
          case measure => simp [intOf]; omega
        · have hme : m = D := by omega
          subst hme
          rw [Hwant.out] at hf4
          by_cases e1 : 255 ≤ k
          · rw [if_pos e1] at hf4
            have M1 := Lib.hid (Count_any b _ (x % 1024) wr hf4.out (st_in (by omega)))
            rw [Cpa.out, show st h 255 (pa h) = 255 by simp [st]] at M1
            have M2 := Lib.hid (May_any b _ h wr hf4.out)
            rw [may_st, show decide ((0 : Int) < 255) = true by decide] at M2
            by_cases e2 : k < m
            all_goals
              go_wp2_with fail
              refine M1.out.mono ?_
              rintro e w4 ⟨rfl, rfl⟩
              go_wp2_with fail
              refine M2.out.mono ?_
              rintro e w4 ⟨rfl, rfl⟩
              go_wp2_with fail
              go_ret
              exact ⟨rfl, hb4.out⟩
          · rw [if_neg e1] at hf4
            by_cases e2 : m < k
            · rw [if_pos e2] at hf4
              have M1 := Lib.hid (Count_any b _ (x % 1024) wr hf4.out (st_in (by omega)))
              rw [Cpa.out, show st h ((k : Int) - m) (pa h) = (k : Int) - m by simp [st]] at M1
              have M2 := Lib.hid (May_any b _ h wr hf4.out)
              rw [may_st, show decide ((0 : Int) < (k : Int) - m) = true by simp; omega] at M2
              go_wp2_with fail
              refine M1.out.mono ?_
              rintro e w4 ⟨rfl, rfl⟩
              go_wp2_with fail
              refine M2.out.mono ?_
              rintro e w4 ⟨rfl, rfl⟩
              go_wp2_with fail
              go_ret
              exact ⟨rfl, hb4.out⟩
            · rw [if_neg e2] at hf4
              have M1 := Lib.hid (Count_any b _ (x % 1024) wr hf4.out (st_in (by omega)))
              rw [Cpa.out, show st h 0 (pa h) = 0 by simp [st]] at M1
              have M2 := Lib.hid (May_any b _ h wr hf4.out)
              rw [may_st, show decide ((0 : Int) < 0) = false by decide] at M2
              by_cases e3 : m = k
              · subst e3
                go_wp2_with fail
                refine M1.out.mono ?_
                rintro e w4 ⟨rfl, rfl⟩
                go_wp2_with fail
                refine M2.out.mono ?_
                rintro e w4 ⟨rfl, rfl⟩
                go_wp2_with fail
                go_ret
                exact ⟨rfl, hb4.out⟩
              · have e4 : k < m := by omega
                clear e3 e2
                go_wp2_with fail
                refine M1.out.mono ?_
                rintro e w4 ⟨rfl, rfl⟩
                go_wp2_with fail
                refine M2.out.mono ?_
                rintro e w4 ⟨rfl, rfl⟩
                go_wp2_with fail
                go_ret
                exact ⟨rfl, hb4.out⟩

end Go.Proofs.Ytfhojfndccelfaa
