/- GenRight: SamePicks, the law's walk. -/
import Derived.Test.YtdjdpfmogphoiaaPicks
import Derived.BigQuiet
import Derived.Deep.QuietTactic
namespace Go.Proofs.Ytdjdpfmogphoiaa
open Go.RowKit Go.Maps Go.ChangeShapes Go.WideShapes Go.ChangeAt Go.WideMaps Go.WideElems

/-- A row of picks, as it is read. -/
def IsPk (w : World) (p : Option Addr) (n : Nat) (f g : Nat → Int) : Prop :=
  ∀ k, k < n → ∃ b, p = some ⟨b, 0, none⟩ ∧ b < w.heap.size ∧ w.cell? ⟨b, k * 2, none⟩ = some (.int .i64 (f k)) ∧ w.cell? ⟨b, k * 2 + 1, none⟩ = some (.int .i64 (g k))

theorem IsPk.of {w : World} {base : Nat} {sp : Option Addr} {n c : Nat} {s wk : Int} (h : w.ownsRow base 41 2 (.slice sp n c) n (PL s wk n)) : IsPk w sp n (fun k => nxV (stp s k) wk) (fun k => nxV (nxS (stp s k)) wk) := by
  intro k hk
  obtain ⟨g, c', e, hc⟩ := ownsRow.first h (by omega)
  cases e
  obtain ⟨a, b⟩ := PL_at s wk n k hk
  exact ⟨g, rfl, (h.lt g rfl).2, hc _ _ a, hc _ _ b⟩

theorem IsPk.below {w w' : World} {p : Option Addr} {n : Nat} {f g : Nat → Int} (h : IsPk w p n f g) (hb : Below w.heap.size w w') : IsPk w' p n f g := fun k hk => by
  obtain ⟨b, e, hlt, h1, h2⟩ := h k hk
  exact ⟨b, e, Nat.lt_of_lt_of_le hlt hb.size, (hb.cell (p := ⟨b, _, none⟩) hlt).trans h1, (hb.cell (p := ⟨b, _, none⟩) hlt).trans h2⟩

set_option maxHeartbeats 4000000 in
set_option maxRecDepth 100000 in
theorem same_any (p1 p2 : Option Addr) (n c1 c2 : Nat) (f g : Nat → Int) (w : World) (h1 : IsPk w p1 n f g) (h2 : IsPk w p2 n f g) (hn : n ≤ 300) (_hc1 : n ≤ c1) (_hc2 : n ≤ c2) :
    Calls Try.prog 16 #[.slice p1 n c1, .slice p2 n c2] w fun e w' => e = .returned (.bool true) ∧ Below w.heap.size w w' := by
  have H1 := Lib.hid h1
  have H2 := Lib.hid h2
  clear h1 h2
  have qn : ((n : Int) != (n : Int)) = false := by simp
  go_enter Try.func16, Try.ntmps16
  go_wp2_with fail
  go_loopw [5] (fun i wr => ∃ (k m : Nat), k ≤ n ∧ i = .int .i64 k ∧ wr = w.drewN m) (fun i _ => n - (intOf i).toNat)
  case atStart => exact ⟨0, 0, by omega, rfl, rfl⟩
  case round =>
    obtain ⟨k, m, hk, rfl, rfl⟩ := hrel
    by_cases hlt : k < n
    · obtain ⟨b1, rfl, _, a0, a1⟩ := H1.out k hlt
      obtain ⟨b2, rfl, _, e0, e1⟩ := H2.out k hlt
      have HW := Lib.hid (show ∀ n, (w.drewN m).drewN n = w.drewN (m + n) from fun n => World.drewN_drewN _ _ _)
      have x0 : (w.drewN m).cell? ⟨b1, k * 2, none⟩ = some (.int .i64 (f k)) := a0
      have x1 : (w.drewN m).cell? ⟨b1, k * 2 + 1, none⟩ = some (.int .i64 (g k)) := a1
      have y0 : (w.drewN m).cell? ⟨b2, k * 2, none⟩ = some (.int .i64 (f k)) := e0
      have y1 : (w.drewN m).cell? ⟨b2, k * 2 + 1, none⟩ = some (.int .i64 (g k)) := e1
      generalize w.drewN m = w9 at *
      generalize f k = u at *
      generalize g k = v at *
      have i1 : (k : Int) < (n : Int) := by omega
      go_wp2_with fail
      go_quiet (fail)
      go_wp2_with fail
      go_roundw
      case rel => exact ⟨k + 1, _, by omega, by go_num, HW.out _⟩
      case measure => simp [intOf]; omega
    · go_wp2_with fail
      go_ret
      exact ⟨rfl, ⟨rfl, rfl, rfl, Nat.le_refl _, fun _ _ => rfl⟩⟩
end Go.Proofs.Ytdjdpfmogphoiaa
