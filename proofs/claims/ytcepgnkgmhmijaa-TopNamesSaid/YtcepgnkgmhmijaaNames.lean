/- TopNames: it returns true, and writes nothing that was there. -/
import Derived.Test.YtcepgnkgmhmijaaRows
import Derived.Test.YtcepgnkgmhmijaaBase
import Derived.BigQuiet
import Derived.Deep.QuietTactic
namespace Go.Proofs.Ytcepgnkgmhmijaa
open Go.RowKit Go.Maps Go.ChangeShapes Go.WideShapes Go.ChangeAt Go.WideMaps Go.WideElems

def dup : List Int → List Value
  | [] => []
  | x :: r => .int .i64 x :: .int .i64 x :: dup r

theorem dup_at (l : List Int) (i : Nat) (h : i < l.length) : ∃ x : Int, (dup l)[i * 2]? = some (.int .i64 x) ∧ (dup l)[i * 2 + 1]? = some (.int .i64 x) := by
  induction l generalizing i with
  | nil => simp at h
  | cons x r ih =>
    cases i with
    | zero => exact ⟨x, rfl, rfl⟩
    | succ i =>
      obtain ⟨y, h1, h2⟩ := ih i (by simpa using h)
      refine ⟨y, ?_, ?_⟩
      · rw [show (i + 1) * 2 = i * 2 + 1 + 1 by omega]; simpa [dup] using h1
      · rw [show (i + 1) * 2 + 1 = i * 2 + 1 + 1 + 1 by omega]; simpa [dup] using h2

set_option maxHeartbeats 400000 in
theorem are_any (b n : Nat) (w : World) (hn : n ≤ 1000) (hc : ∀ i, i < n → ∃ x : Int, w.cell? ⟨b, i * 2, none⟩ = some (.int .i64 x) ∧ w.cell? ⟨b, i * 2 + 1, none⟩ = some (.int .i64 x)) :
    Calls Try.prog 7 #[.slice (some ⟨b, 0, none⟩) n n] w fun e w' => e = .returned (.bool true) ∧ ∃ m, w' = w.drewN m := by
  have Hc := Lib.hid hc
  clear hc
  go_enter Try.func7, Try.ntmps7
  go_wp2
  go_loopw [3] (fun i wr => ∃ (k m : Nat), k ≤ n ∧ i = .int .i64 k ∧ wr = w.drewN m) (fun i _ => n - (intOf i).toNat)
  case atStart => exact ⟨0, 0, by omega, rfl, rfl⟩
  case round =>
    obtain ⟨k, m, hk, rfl, rfl⟩ := hrel
    have HW := Lib.hid (show ∀ n, (w.drewN m).drewN n = w.drewN (m + n) from fun n => World.drewN_drewN _ _ _)
    by_cases hlt : k < n
    · obtain ⟨x, h1, h2⟩ := Hc.out k hlt
      have a1 : (w.drewN m).cell? ⟨b, k * 2, none⟩ = some (.int .i64 x) := h1
      have a2 : (w.drewN m).cell? ⟨b, k * 2 + 1, none⟩ = some (.int .i64 x) := h2
      have hk0 : (k : Int) < (n : Int) := by omega
      clear h1 h2
      generalize w.drewN m = w9 at *
      go_wp2_with fail
      go_quiet (fail)
      go_wp2_with fail
      go_roundw
      case rel => exact ⟨k + 1, _, by omega, by go_num, HW.out _⟩
      case measure => simp [intOf]; omega
    · have hke : k = n := by omega
      subst hke
      go_wp2_with fail
      go_ret
      exact ⟨rfl, _, rfl⟩

/-- What one of the three does: a block of pairs, and the question. -/
theorem ask (w : World) (T : TypeId) (l : List Int) (hn : l.length ≤ 1000) :
    Calls Try.prog 7 #[.slice (some ⟨w.heap.size, 0, none⟩) l.length l.length] (w.alloc (.cells (dup l).toArray T)) fun e w' => e = .returned (.bool true) ∧ Below w.heap.size w w' := by
  refine (are_any w.heap.size l.length _ hn (fun i hi => ?_)).mono ?_
  · obtain ⟨x, h1, h2⟩ := dup_at l i hi
    exact ⟨x, by rw [cellOf (heapNew _ _)]; simpa using h1, by rw [cellOf (heapNew _ _)]; simpa using h2⟩
  · rintro e w' ⟨rfl, m, rfl⟩
    have hb : Below w.heap.size w (w.alloc (.cells (dup l).toArray T)) := (Below.refl _ _).alloc (Nat.le_refl _) _
    exact ⟨rfl, ⟨hb.os, hb.tape, hb.output, hb.size, hb.block⟩⟩

set_option maxHeartbeats 1000000 in
set_option maxRecDepth 100000 in
theorem first_any (w : World) : Calls Try.prog 4 #[] w fun e w' => e = .returned (.bool true) ∧ Below w.heap.size w w' := by
  go_enter Try.func4, Try.ntmps4
  go_wp2_with fail
  have A := ask w 24 [0, 1, 2, 3, 6, 10, 11, 4096, 256, 65536, 2147483647, 64, 16, 8, 4, 65536, 262144, 8000, 1024, 255, 1, 2, 3, 4, 5, 6, 7] (by decide)
  simp only [dup, List.length_cons, List.length_nil, Nat.reduceAdd] at A
  refine A.mono ?_
  clear A
  rintro e w1 ⟨rfl, b1⟩
  go_wp2_with fail
  go_ret
  exact ⟨rfl, b1⟩

set_option maxHeartbeats 1000000 in
set_option maxRecDepth 100000 in
theorem second_any (w : World) : Calls Try.prog 5 #[] w fun e w' => e = .returned (.bool true) ∧ Below w.heap.size w w' := by
  go_enter Try.func5, Try.ntmps5
  go_wp2_with fail
  have A := ask w 24 [8, 9, 10, 11, 12, 13, 14, 15, 16, 17, 18, 19, 20, 0, 1, 2, 3, 4, 5, 6, 7, 8, 1, 2, 3, 4, 5] (by decide)
  simp only [dup, List.length_cons, List.length_nil, Nat.reduceAdd] at A
  refine A.mono ?_
  clear A
  rintro e w1 ⟨rfl, b1⟩
  go_wp2_with fail
  go_ret
  exact ⟨rfl, b1⟩

set_option maxHeartbeats 1000000 in
set_option maxRecDepth 100000 in
theorem third_any (w : World) : Calls Try.prog 6 #[] w fun e w' => e = .returned (.bool true) ∧ Below w.heap.size w w' := by
  go_enter Try.func6, Try.ntmps6
  go_wp2_with fail
  have A := ask w 24 [6, 7, 8, 9, 0, 1, 2, 3, 4, 5, 6, 1, 2, 3, 4, 5, 6, 7, 8, 0, 1, 2, 3, 4, 1, 2, 3] (by decide)
  simp only [dup, List.length_cons, List.length_nil, Nat.reduceAdd] at A
  refine A.mono ?_
  clear A
  rintro e w1 ⟨rfl, b1⟩
  go_wp2_with fail
  go_ret
  exact ⟨rfl, b1⟩

theorem names_any (w : World) : Calls Try.prog 3 #[] w fun e w' => e = .returned (.bool true) ∧ Below w.heap.size w w' := by
  go_enter Try.func3, Try.ntmps3
  go_wp2_with fail
  refine (first_any _).mono ?_
  rintro e w1 ⟨rfl, b1⟩
  go_wp2_with fail
  refine (second_any _).mono ?_
  rintro e w2 ⟨rfl, b2⟩
  have b12 := b1.trans (b2.mono b1.size)
  go_wp2_with fail
  refine (third_any _).mono ?_
  rintro e w3 ⟨rfl, b3⟩
  have b13 := b12.trans (b3.mono b12.size)
  go_wp2_with fail
  go_ret
  exact ⟨rfl, b13⟩

end Go.Proofs.Ytcepgnkgmhmijaa
