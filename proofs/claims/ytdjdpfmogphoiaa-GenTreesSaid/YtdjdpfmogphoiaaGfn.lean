/- The lots. -/
import Derived.Test.YtdjdpfmogphoiaaRows
import Derived.Test.YtdjdpfmogphoiaaBase
import Derived.Lib.Hide
namespace Go.Proofs.Ytdjdpfmogphoiaa
open Go.RowKit Go.Maps Go.ChangeShapes Go.WideShapes Go.ChangeAt Go.WideMaps Go.WideElems

theorem i64_and32 (n : Int) : bits .and .i64 n 4294967295 = n % 4294967296 := by
  have h : (BitVec.ofInt 64 n &&& BitVec.ofInt 64 4294967295).toNat = (n % ((2 ^ 64 : Nat) : Int)).toNat % 2 ^ 32 := by
    rw [BitVec.toNat_and, BitVec.toNat_ofInt, show (BitVec.ofInt 64 4294967295).toNat = 2 ^ 32 - 1 by decide, Nat.and_two_pow_sub_one_eq_mod]
  show IntKind.i64.wrap ((BitVec.ofInt 64 n &&& BitVec.ofInt 64 4294967295).toNat : Nat) = n % 4294967296
  rw [h, IntKind.wrap_i64]
  omega

/-- The state behind a draw. -/
def nxS (s : Int) : Int := bits .and .i64 (wrap64 (wrap64 (s * 1664525) + 1013904223)) 4294967295
/-- What a draw tells. -/
def nxV (s n : Int) : Int := if n < 1 then 0 else (nxS s / 256).tmod n
def seedS (s : Int) : Int := bits .and .i64 s 4294967295

theorem nxS_eq (s : Int) : nxS s = (s * 1664525 + 1013904223) % 4294967296 := by
  unfold nxS
  rw [i64_and32]
  unfold wrap64
  omega
theorem nxS_in (s : Int) : 0 ≤ nxS s ∧ nxS s < 4294967296 := by rw [nxS_eq]; omega
theorem nxV_in (s n : Int) : 0 ≤ nxV s n ∧ (1 ≤ n → nxV s n < n) := by
  unfold nxV
  have h := nxS_in s
  split
  · omega
  · have h0 : 0 ≤ nxS s / 256 := by omega
    rw [Int.tmod_eq_emod_of_nonneg h0]
    have a := Int.emod_nonneg (nxS s / 256) (show n ≠ 0 by omega)
    have b := Int.emod_lt_of_pos (nxS s / 256) (show 0 < n by omega)
    exact ⟨a, fun _ => b⟩

/-- A lot of either kind: its block and its state. -/
def IsLot (T : TypeId) (w : World) (b : Nat) (s : Int) : Prop := w.heap[b]? = some (.cells #[.int .i64 s] T (0, 0))

theorem New_any (seed : Int) (w : World) : Calls Try.prog 8 #[.int .i64 seed] w fun e w' => e = .returned (.pointer (some ⟨w.heap.size, 0, none⟩)) ∧ w' = w.alloc (.cells #[.int .i64 (seedS seed)] 49) := by
  go_enter Try.func8, Try.ntmps8
  go_wp2_with fail
  go_ret
  exact ⟨rfl, rfl⟩
theorem RNew_any (seed : Int) (w : World) : Calls Try.prog 9 #[.int .i64 seed] w fun e w' => e = .returned (.pointer (some ⟨w.heap.size, 0, none⟩)) ∧ w' = w.alloc (.cells #[.int .i64 (seedS seed)] 51) := by
  go_enter Try.func9, Try.ntmps9
  go_wp2_with fail
  go_ret
  exact ⟨rfl, rfl⟩

theorem Next_cell (b : Nat) (s n : Int) (w : World) (hc : w.cell? ⟨b, 0, none⟩ = some (.int .i64 s)) (hf : w.frozen? ⟨b, 0, none⟩ = false) :
    Calls Try.prog 10 #[.pointer (some ⟨b, 0, none⟩), .int .i64 n] w fun e w' => e = .returned (.int .i64 (nxV s n)) ∧ w' = w.setCell ⟨b, 0, none⟩ (.int .i64 (nxS s)) := by
  by_cases h : n < 1
  · rw [show nxV s n = 0 by unfold nxV; rw [if_pos h]]
    go_enter Try.func10, Try.ntmps10
    go_wp2_with fail
    go_ret
    exact ⟨rfl, rfl⟩
  · rw [show nxV s n = (nxS s / 256).tmod n by unfold nxV; rw [if_neg h]]
    have q : (n == 0) = false := by rw [beq_eq_false_iff_ne]; omega
    go_enter Try.func10, Try.ntmps10
    go_wp2_with fail
    go_ret
    exact ⟨rfl, rfl⟩
theorem RNext_cell (b : Nat) (s n : Int) (w : World) (hc : w.cell? ⟨b, 0, none⟩ = some (.int .i64 s)) (hf : w.frozen? ⟨b, 0, none⟩ = false) :
    Calls Try.prog 11 #[.pointer (some ⟨b, 0, none⟩), .int .i64 n] w fun e w' => e = .returned (.int .i64 (nxV s n)) ∧ w' = w.setCell ⟨b, 0, none⟩ (.int .i64 (nxS s)) := by
  by_cases h : n < 1
  · rw [show nxV s n = 0 by unfold nxV; rw [if_pos h]]
    go_enter Try.func11, Try.ntmps11
    go_wp2_with fail
    go_ret
    exact ⟨rfl, rfl⟩
  · rw [show nxV s n = (nxS s / 256).tmod n by unfold nxV; rw [if_neg h]]
    have q : (n == 0) = false := by rw [beq_eq_false_iff_ne]; omega
    go_enter Try.func11, Try.ntmps11
    go_wp2_with fail
    go_ret
    exact ⟨rfl, rfl⟩

theorem Next_any (b : Nat) (s n : Int) (w : World) (h : IsLot 49 w b s) :
    Calls Try.prog 10 #[.pointer (some ⟨b, 0, none⟩), .int .i64 n] w fun e w' => e = .returned (.int .i64 (nxV s n)) ∧ IsLot 49 w' b (nxS s) ∧ Fr (fun k => k = b) w w' := by
  refine (Next_cell b s n w (cellOf h 0) (frozenOf h 0)).mono ?_
  rintro e w' ⟨rfl, rfl⟩
  exact ⟨rfl, heapSet h _ _, (Fr.refl (fun k => k = b) _).setCell (p := ⟨b, 0, none⟩) (.inl rfl) _⟩
theorem RNext_any (b : Nat) (s n : Int) (w : World) (h : IsLot 51 w b s) :
    Calls Try.prog 11 #[.pointer (some ⟨b, 0, none⟩), .int .i64 n] w fun e w' => e = .returned (.int .i64 (nxV s n)) ∧ IsLot 51 w' b (nxS s) ∧ Fr (fun k => k = b) w w' := by
  refine (RNext_cell b s n w (cellOf h 0) (frozenOf h 0)).mono ?_
  rintro e w' ⟨rfl, rfl⟩
  exact ⟨rfl, heapSet h _ _, (Fr.refl (fun k => k = b) _).setCell (p := ⟨b, 0, none⟩) (.inl rfl) _⟩

theorem one_any (b sb off len c : Nat) (s : Int) (v : Value) (w : World) (h : IsLot 49 w b s) (hn : sb ≠ b) (hsb : sb < w.heap.size) (h1 : 1 ≤ len) (_h2 : len ≤ c) (_h3 : c ≤ 2 ^ 63 - 1)
    (hv : w.cell? ⟨sb, off + (nxV s len).toNat, none⟩ = some v) :
    Calls Try.prog 24 #[.pointer (some ⟨b, 0, none⟩), .slice (some ⟨sb, off, none⟩) len c] w fun e w' => e = .returned v ∧ IsLot 49 w' b (nxS s) ∧ Fr (fun k => k = b) w w' := by
  have hi := nxV_in s len
  have hk : nxV s len < len := hi.2 (by omega)
  obtain ⟨k, hk2⟩ := Int.eq_ofNat_of_zero_le hi.1
  rw [hk2] at hv hk
  simp only [Int.toNat_natCast] at hv
  have P := Lib.hid (Next_any b s len w h)
  rw [hk2] at P
  go_enter Try.func24, Try.ntmps24
  go_wp2_with fail
  refine P.out.mono ?_
  rintro e w' ⟨rfl, hl, f⟩
  have hv' := (f.cell (p := ⟨sb, off + k, none⟩) hsb hn).trans hv
  have F := Lib.hid f
  clear f P
  go_wp2_with fail
  go_ret
  exact ⟨rfl, hl, F.out⟩
end Go.Proofs.Ytdjdpfmogphoiaa
