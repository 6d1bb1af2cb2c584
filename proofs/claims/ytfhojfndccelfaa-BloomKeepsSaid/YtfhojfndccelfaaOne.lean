/- BloomOne and BloomFull: they return true, and write nothing that was there. -/
import Derived.Test.YtfhojfndccelfaaLaws
namespace Go.Proofs.Ytfhojfndccelfaa
open Go.RowKit Go.Maps Go.ChangeShapes Go.WideShapes Go.ChangeAt Go.WideMaps Go.WideElems

/-- Both counters of h at n, all others at 0. -/
def st (h : Int) (n : Int) : Nat → Int := fun j => if j = pa h ∨ j = pb h then n else 0

theorem st_zero (h : Int) : st h 0 = zc := by funext j; simp [st, zc]
theorem one_st (g : Int → Int) (h n : Int) : one g (st h n) h = st h (g n) := by
  funext j
  unfold one upd st
  by_cases e : pb h = pa h
  · simp only [e, if_true, or_self]
    split <;> simp_all
  · simp only [e, if_false, or_true, true_or, if_true]
    by_cases e1 : j = pb h
    · simp [e1]
    · by_cases e2 : j = pa h
      · simp [e2]
      · simp [e1, e2]
theorem many_one (g : Int → Int) (c : Nat → Int) (h : Int) : many g c [h] = one g c h := rfl
theorem st_in {h n : Int} (hn : 0 ≤ n ∧ n ≤ 255) : In255 (st h n) := by
  intro j; unfold st; split
  · exact hn
  · omega
theorem may_st (h n : Int) : mayB (st h n) h = decide (0 < n) := by simp [mayB, st]
theorem cnt_pa (c : Nat → Int) (h : Int) : cnt c (h % 4294967296 % 1024) = c (pa h) := by
  unfold cnt pa; rw [if_pos (by omega)]
theorem cnt_pb (c : Nat → Int) (h : Int) : cnt c (h % 4294967296 / 1024 % 1024) = c (pb h) := by
  unfold cnt pb; rw [if_pos (by omega)]
theorem cnt_nat (c : Nat → Int) (k : Nat) (hk : k < 1024) : cnt c (k : Nat) = c k := by
  unfold cnt; rw [if_pos (by omega), Int.toNat_natCast]

def sm (c : Nat → Int) : Nat → Int
  | 0 => 0
  | k + 1 => sm c k + c k

theorem sm_st (h : Int) (k : Nat) : sm (st h 1) k = (if pa h < k then 1 else 0) + (if pb h < k ∧ pb h ≠ pa h then 1 else 0) := by
  induction k with
  | zero => simp [sm]
  | succ k ih =>
    rw [sm, ih]
    unfold st
    by_cases e1 : k = pa h <;> by_cases e2 : k = pb h <;> by_cases e3 : pb h = pa h <;> simp [e1, e2, e3] <;> (repeat' split) <;> omega

theorem sm_bd (h : Int) (k : Nat) : 0 ≤ sm (st h 1) k ∧ sm (st h 1) k ≤ 2 := by
  rw [sm_st]; (repeat' split) <;> omega
theorem sm_all (h : Int) : sm (st h 1) 1024 = if pa h = pb h then 1 else 2 := by
  have h1 := pa_lt h
  have h2 := pb_lt h
  rw [sm_st]; (repeat' split) <;> omega

theorem push_st (b : Nat) (h n : Int) (w : World) (hw : (Lit.int .i64 h).wf = true) (hf : IsFil 26 .u8 w b (st h n)) (hn : 0 ≤ n ∧ n ≤ 255) :
    Calls Try.prog 10 #[.pointer (some ⟨b, 0, none⟩), .slice (some ⟨w.heap.size, 0, none⟩) 1 1] (w.alloc (.cells #[.int .i64 h] 3)) fun e w' => e = .returned (.tuple #[]) ∧ Fr (fun k => k = b) (w.alloc (.cells #[.int .i64 h] 3)) w' ∧ IsFil 26 .u8 w' b (st h (up n)) := by
  have := Push_any b (st h n) _ [h] _ (heapAlloc (o' := .cells #[.int .i64 h] 3) hf) (src_one w h hw b hf.lt) (st_in hn)
  rw [many_one, one_st] at this
  exact this
theorem pop_st (b : Nat) (h n : Int) (w : World) (hw : (Lit.int .i64 h).wf = true) (hf : IsFil 26 .u8 w b (st h n)) (hn : 0 ≤ n ∧ n ≤ 255) :
    Calls Try.prog 11 #[.pointer (some ⟨b, 0, none⟩), .slice (some ⟨w.heap.size, 0, none⟩) 1 1] (w.alloc (.cells #[.int .i64 h] 3)) fun e w' => e = .returned (.tuple #[]) ∧ Fr (fun k => k = b) (w.alloc (.cells #[.int .i64 h] 3)) w' ∧ IsFil 26 .u8 w' b (st h (down n)) := by
  have := Pop_any b (st h n) _ [h] _ (heapAlloc (o' := .cells #[.int .i64 h] 3) hf) (src_one w h hw b hf.lt) (st_in hn)
  rw [many_one, one_st] at this
  exact this

set_option maxHeartbeats 1000000 in
set_option maxRecDepth 100000 in
theorem bone_any (h : Int) (w : World) (hw : (Lit.int .i64 h).wf = true) :
    Calls Try.prog 5 #[.int .i64 h] w fun e w' => e = .returned (.bool true) ∧ Below w.heap.size w w' := by
  have ha := i64_and32 h
  have hpa : ((pa h : Nat) : Int) = h % 4294967296 % 1024 := by unfold pa; omega
  have hpb : ((pb h : Nat) : Int) = h % 4294967296 / 1024 % 1024 := by unfold pb; omega
  have Cpa := Lib.hid (fun c => cnt_pa c h)
  have Cpb := Lib.hid (fun c => cnt_pb c h)
  have Hw := Lib.hid hw
  have hsum := sm_all h
  obtain ⟨x, hx⟩ : ∃ x, x = h % 4294967296 := ⟨_, rfl⟩
  rw [← hx] at ha hpa hpb Cpa Cpb
  have x0 : 0 ≤ x := by omega
  have x1 : x ≤ 4294967295 := by omega
  have hab : (x % 1024 = x / 1024 % 1024) ↔ pa h = pb h := by omega
  clear hx hpa hpb hw
  have Hsum := Lib.hid hsum
  have Hab := Lib.hid hab
  clear hsum hab
  have z26 := zero26
  go_enter Try.func5, Try.ntmps5
  go_wp2_with fail
  refine (alive_any _).mono ?_
  rintro e w1 ⟨rfl, b1⟩
  go_wp2_with fail
  clear z26
  have hf := fil_new 26 .u8 w1
  rw [← st_zero h] at hf ⊢
  have b2 : Below w.heap.size w (w1.alloc (.cells (tab .u8 (st h 0)) 26)) := b1.alloc b1.size _
  have hge : w.heap.size ≤ w1.heap.size := b1.size
  have P0 := push_st _ h 0 _ Hw.out hf (by omega)
  rw [World.size_alloc] at P0
  refine P0.mono ?_
  clear P0
  rintro e w3 ⟨rfl, f3, hf3⟩
  rw [show up 0 = 1 by decide] at hf3
  have b3 := (b2.alloc b2.size _).trans (f3.below (Nat.le_trans b2.size (by simp)) (fun k hk e => by omega))
  clear b2 hf f3
  generalize w1.heap.size = b at *
  have MC := Lib.hid (fun i => Count_any b (st h 1) i w3 hf3 (st_in (by omega)))
  have MM := Lib.hid (May_any b (st h 1) h w3 hf3)
  rw [may_st, show decide ((0 : Int) < 1) = true by decide] at MM
  have MP := Lib.hid (pop_st b h 1 w3 Hw.out hf3 (by omega))
  rw [show down 1 = 0 by decide] at MP
  clear hf3
  by_cases e : pa h = pb h
  all_goals
    have hwant := Lib.hid e
    have hq := Hab.out
    first
      | (have q1 : (x % 1024 == x / 1024 % 1024) = true := by rw [beq_iff_eq]; exact hq.2 e)
      | (have q1 : (x % 1024 == x / 1024 % 1024) = false := by rw [beq_eq_false_iff_ne]; exact fun t => e (hq.1 t))
    first
      | (have s1 := Hsum.out; rw [if_pos e] at s1)
      | (have s1 := Hsum.out; rw [if_neg e] at s1)
    have S1 := Lib.hid s1
    clear e hq s1
    go_wp2_with fail
    go_loop [8, 9] (fun s i => ∃ k : Nat, k ≤ 1024 ∧ i = .int .i64 k ∧ s = .int .i64 (sm (st h 1) k)) (fun _ i => 1024 - (intOf i).toNat)
    case atStart => exact ⟨0, by omega, rfl, rfl⟩
    case round =>
      obtain ⟨k, hk, rfl, rfl⟩ := hrel
      by_cases hlt : k < 1024
      · have hb1 := sm_bd h k
        have hstep := Lib.hid (show sm (st h 1) (k + 1) = sm (st h 1) k + cnt (st h 1) (k : Nat) by rw [sm, cnt_nat _ _ hlt])
        have hb2 : (0 : Int) ≤ cnt (st h 1) (k : Nat) ∧ cnt (st h 1) (k : Nat) ≤ 255 := by
          rw [cnt_nat _ _ hlt]; exact st_in (by omega) k
        have MCk := Lib.hid (MC.out (k : Nat))
        generalize cnt (st h 1) (k : Nat) = y at *
        generalize sm (st h 1) k = z at *
        go_wp2_with fail
        refine MCk.out.mono ?_
        rintro e w4 ⟨rfl, rfl⟩
        go_wp2_with fail
        go_round
        case rel => exact ⟨k + 1, by omega, by go_num, by rw [hstep.out]⟩
        case measure => simp [intOf]; omega
      · have hke : k = 1024 := by omega
        subst hke
        have M1 := Lib.hid (MC.out (x % 1024))
        have M2 := Lib.hid (MC.out (x / 1024 % 1024))
        rw [Cpa.out, show st h 1 (pa h) = 1 by simp [st]] at M1
        rw [Cpb.out, show st h 1 (pb h) = 1 by simp [st]] at M2
        rw [S1.out]
        go_wp2_with fail
        refine MM.out.mono ?_
        rintro e w4 ⟨rfl, rfl⟩
        go_wp2_with fail
        refine M1.out.mono ?_
        rintro e w4 ⟨rfl, rfl⟩
        go_wp2_with fail
        refine M2.out.mono ?_
        rintro e w4 ⟨rfl, rfl⟩
        go_wp2_with fail
        refine MP.out.mono ?_
        rintro e w5 ⟨rfl, f5, hf5⟩
        have b5 := (b3.alloc b3.size _).trans (f5.below (Nat.le_trans b3.size (by simp)) (fun k hk e => by omega))
        have N1 := Lib.hid (Count_any b (st h 0) (x % 1024) w5 hf5 (st_in (by omega)))
        have N2 := Lib.hid (Count_any b (st h 0) (x / 1024 % 1024) w5 hf5 (st_in (by omega)))
        rw [Cpa.out, show st h 0 (pa h) = 0 by simp [st]] at N1
        rw [Cpb.out, show st h 0 (pb h) = 0 by simp [st]] at N2
        have NM := Lib.hid (May_any b (st h 0) h w5 hf5)
        rw [may_st, show decide ((0 : Int) < 0) = false by decide] at NM
        clear f5 hf5
        go_wp2_with fail
        refine N1.out.mono ?_
        rintro e w6 ⟨rfl, rfl⟩
        go_wp2_with fail
        refine N2.out.mono ?_
        rintro e w6 ⟨rfl, rfl⟩
        go_wp2_with fail
        refine NM.out.mono ?_
        rintro e w6 ⟨rfl, rfl⟩
        go_wp2_with fail
        go_ret
        exact ⟨rfl, b5⟩

end Go.Proofs.Ytfhojfndccelfaa
