/- The contracts of a filter's methods and of the reference's. -/
import Derived.Test.YtfhojfndccelfaaTurn
namespace Go.Proofs.Ytfhojfndccelfaa
open Go.RowKit Go.Maps Go.ChangeShapes Go.WideShapes Go.ChangeAt Go.WideMaps Go.WideElems

theorem Push_any (b : Nat) (c : Nat → Int) (v : Value) (l : List Int) (w : World) (hf : IsFil 26 .u8 w b c) (hl : Src w v l b) (hc : In255 c) :
    Calls Try.prog 10 #[.pointer (some ⟨b, 0, none⟩), v] w fun e w' => e = .returned (.tuple #[]) ∧ Fr (fun k => k = b) w w' ∧ IsFil 26 .u8 w' b (many up c l) := by
  have H := Lib.hid (turn31 b c v l w hf hl hc)
  clear hf hl hc
  go_enter Try.func10, Try.ntmps10
  go_wp2_with fail
  refine H.out.mono ?_
  rintro e w' ⟨rfl, h1, h2⟩
  go_wp2_with fail
  go_end0
  exact ⟨rfl, h1, h2⟩

theorem Pop_any (b : Nat) (c : Nat → Int) (v : Value) (l : List Int) (w : World) (hf : IsFil 26 .u8 w b c) (hl : Src w v l b) (hc : In255 c) :
    Calls Try.prog 11 #[.pointer (some ⟨b, 0, none⟩), v] w fun e w' => e = .returned (.tuple #[]) ∧ Fr (fun k => k = b) w w' ∧ IsFil 26 .u8 w' b (many down c l) := by
  have H := Lib.hid (turn32 b c v l w hf hl hc)
  clear hf hl hc
  go_enter Try.func11, Try.ntmps11
  go_wp2_with fail
  refine H.out.mono ?_
  rintro e w' ⟨rfl, h1, h2⟩
  go_wp2_with fail
  go_end0
  exact ⟨rfl, h1, h2⟩

def mayB (c : Nat → Int) (h : Int) : Bool := decide (0 < c (pa h)) && decide (0 < c (pb h))

theorem May_any (b : Nat) (c : Nat → Int) (h : Int) (w : World) (hf : IsFil 26 .u8 w b c) :
    Calls Try.prog 14 #[.pointer (some ⟨b, 0, none⟩), .int .i64 h] w fun e w' => e = .returned (.bool (mayB c h)) ∧ w = w' := by
  have hca := hf.cell (pa_lt h)
  have hcb := hf.cell (pb_lt h)
  have ha := pa_lt h
  have hb := pb_lt h
  have H := Lib.hid (places_any h w)
  unfold mayB
  generalize pa h = i at *
  generalize pb h = j at *
  generalize c i = x at *
  generalize c j = y at *
  clear hf
  by_cases hx : 0 < x
  · have hd : decide (0 < x) = true := by simpa using hx
    have Hd := Lib.hid hd
    rw [hd]
    clear hd
    go_enter Try.func14, Try.ntmps14
    go_wp2_with fail
    refine H.out.mono ?_
    rintro e w' ⟨rfl, rfl⟩
    go_wp2_with fail
    go_ret
    exact ⟨by simp, rfl⟩
  · have hd : decide (0 < x) = false := by simpa using hx
    rw [hd]
    go_enter Try.func14, Try.ntmps14
    go_wp2_with fail
    refine H.out.mono ?_
    rintro e w' ⟨rfl, rfl⟩
    go_wp2_with fail
    go_ret
    exact ⟨by simp, rfl⟩

def cnt (c : Nat → Int) (i : Int) : Int := if 0 ≤ i ∧ i < 1024 then c i.toNat else 0

theorem Count_any (b : Nat) (c : Nat → Int) (i : Int) (w : World) (hf : IsFil 26 .u8 w b c) (hc : In255 c) :
    Calls Try.prog 16 #[.pointer (some ⟨b, 0, none⟩), .int .i64 i] w fun e w' => e = .returned (.int .i64 (cnt c i)) ∧ w = w' := by
  unfold cnt
  by_cases h0 : i < 0
  · rw [if_neg (by omega)]
    clear hf hc
    go_enter Try.func16, Try.ntmps16
    go_wp2
    go_ret
    exact ⟨rfl, rfl⟩
  · by_cases h1 : 1024 ≤ i
    · rw [if_neg (by omega)]
      clear hf hc
      go_enter Try.func16, Try.ntmps16
      go_wp2
      go_ret
      exact ⟨rfl, rfl⟩
    · rw [if_pos (by omega)]
      obtain ⟨k, rfl⟩ := Int.eq_ofNat_of_zero_le (by omega : 0 ≤ i)
      have hk : k < 1024 := by omega
      have hcell := hf.cell hk
      have hb := hc k
      rw [Int.toNat_natCast]
      generalize c k = x at *
      clear hf hc h0 h1
      go_enter Try.func16, Try.ntmps16
      go_wp2
      go_ret
      exact ⟨rfl, rfl⟩

end Go.Proofs.Ytfhojfndccelfaa
