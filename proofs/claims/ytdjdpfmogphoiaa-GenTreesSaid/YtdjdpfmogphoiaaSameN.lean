/- SameStrings, SameNode, Same: of what reads alike. -/
import Derived.Test.YtdjdpfmogphoiaaNodesG
import Derived.Test.YtdjdpfmogphoiaaRight
import Derived.BigQuiet
import Derived.Deep.QuietTactic
namespace Go.Proofs.Ytdjdpfmogphoiaa
open Go.RowKit Go.Maps Go.ChangeShapes Go.WideShapes Go.ChangeAt Go.WideMaps Go.WideElems

/-- Strings, as they are read. -/
def RdS (w : World) (p : Option Addr) (l : List ByteArray) : Prop :=
  ∀ k t, l[k]? = some t → ∃ b, p = some ⟨b, 0, none⟩ ∧ w.cell? ⟨b, k, none⟩ = some (.string t)

theorem RdS.of {w : World} {base : Nat} {sp : Option Addr} {c : Nat} {l : List ByteArray} (h : w.ownsRow base 9 1 (.slice sp l.length c) l.length (l.map Value.string)) : RdS w sp l := by
  intro k t hk
  have hlt : k < l.length := (List.getElem?_eq_some_iff.1 hk).1
  obtain ⟨g, c', e, hc⟩ := ownsRow.first h (by omega)
  cases e
  exact ⟨g, rfl, hc k _ (by rw [List.getElem?_map, hk]; rfl)⟩

set_option maxHeartbeats 4000000 in
set_option maxRecDepth 100000 in
theorem sameStrs_any (p1 p2 : Option Addr) (c1 c2 : Nat) (l : List ByteArray) (w : World) (h1 : RdS w p1 l) (h2 : RdS w p2 l) (hn : l.length ≤ 1000) :
    Calls Try.prog 26 #[.slice p1 l.length c1, .slice p2 l.length c2] w fun e w' => e = .returned (.bool true) ∧ ∃ m, w' = w.drewN m := by
  have H1 := Lib.hid h1
  have H2 := Lib.hid h2
  clear h1 h2
  have qn : ((l.length : Int) != (l.length : Int)) = false := by simp
  go_enter Try.func26, Try.ntmps26
  go_wp2_with fail
  go_loopw [5] (fun i wr => ∃ (k m : Nat), k ≤ l.length ∧ i = .int .i64 k ∧ wr = w.drewN m) (fun i _ => l.length - (intOf i).toNat)
  case atStart => exact ⟨0, 0, by omega, rfl, rfl⟩
  case round =>
    obtain ⟨k, m, hk, rfl, rfl⟩ := hrel
    by_cases hlt : k < l.length
    · obtain ⟨t, ht⟩ : ∃ t, l[k]? = some t := ⟨l[k], by simp [hlt]⟩
      obtain ⟨b1, rfl, a0⟩ := H1.out k t ht
      obtain ⟨b2, rfl, e0⟩ := H2.out k t ht
      have HW := Lib.hid (show ∀ n, (w.drewN m).drewN n = w.drewN (m + n) from fun n => World.drewN_drewN _ _ _)
      have x0 : (w.drewN m).cell? ⟨b1, k, none⟩ = some (.string t) := a0
      have y0 : (w.drewN m).cell? ⟨b2, k, none⟩ = some (.string t) := e0
      clear ht
      generalize w.drewN m = w9 at *
      have i1 : (k : Int) < (l.length : Int) := by omega
      go_wp2_with fail
      go_quiet (fail)
      go_wp2_with fail
      go_roundw
      case rel => exact ⟨k + 1, _, by omega, by go_num, HW.out _⟩
      case measure => simp [intOf]; omega
    · go_wp2_with fail
      go_ret
      exact ⟨rfl, m, rfl⟩
end Go.Proofs.Ytdjdpfmogphoiaa
