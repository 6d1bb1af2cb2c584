/- SameInts, alive. -/
import Derived.Test.YtfgmhpdhgepalaaDoorPrepare
import Derived.BigQuiet
import Derived.Deep.QuietTactic
namespace Go.Proofs.YtfgmhpdhgepalaaDoor
open Go.RowKit Go.Maps Go.ChangeShapes Go.WideShapes Go.ChangeAt Go.WideMaps Go.WideElems

/-- Whole numbers, as they are read. -/
def RdN (w : World) (p : Option Addr) (l : List Nat) : Prop :=
  ∀ (k : Nat) x, l[k]? = some x → ∃ g off, p = some ⟨g, off, none⟩ ∧ w.cell? ⟨g, off + k, none⟩ = some (.int .i64 (x : Int))
theorem RdN.fr {w w' : World} {p : Option Addr} {l : List Nat} (h : RdN w p l) (f : Fr (fun _ => False) w w') : RdN w' p l := fun k x hk => by
  obtain ⟨g, off, e, hc⟩ := h k x hk
  exact ⟨g, off, e, cellFr0 f hc⟩
theorem RdN.win {w : World} {base c : Nat} {sp : Option Addr} {l : List Nat} (h : OwnsWin w base 3 1 (.slice sp l.length c) l.length (iR l)) : RdN w sp l := by
  intro k x hk
  have hlt : k < l.length := (List.getElem?_eq_some_iff.1 hk).1
  obtain ⟨g, off, cap, hv, _, _, hg, _, hcell, _⟩ := h.cells (by omega)
  cases hv
  exact ⟨g, off, rfl, hcell k _ (by unfold iR; rw [List.getElem?_map, hk]; rfl)⟩
set_option maxHeartbeats 4000000 in
set_option maxRecDepth 100000 in
theorem sameInts_any (p1 p2 : Option Addr) (c1 c2 : Nat) (l : List Nat) (w : World) (h1 : RdN w p1 l) (h2 : RdN w p2 l) (hn : l.length ≤ 1000000) :
    Calls Tryd.prog 12 #[.slice p1 l.length c1, .slice p2 l.length c2] w fun e w' => e = .returned (.bool true) ∧ Fr (fun _ => False) w w' := by
  have H1 := Lib.hid h1
  have H2 := Lib.hid h2
  clear h1 h2
  have qn : ((l.length : Int) != (l.length : Int)) = false := by simp
  go_enter Tryd.func12, Tryd.ntmps12
  go_wp2_with fail
  go_loopw [5] (fun i wr => ∃ (k m : Nat), k ≤ l.length ∧ i = .int .i64 k ∧ wr = w.drewN m) (fun i _ => l.length - (intOf i).toNat)
  case atStart => exact ⟨0, 0, by omega, rfl, rfl⟩
  case round =>
    obtain ⟨k, m, hk, rfl, rfl⟩ := hrel
    by_cases hlt : k < l.length
    · obtain ⟨t, ht⟩ : ∃ t, l[k]? = some t := ⟨l[k], by simp [hlt]⟩
      obtain ⟨b1, o1, rfl, a0⟩ := H1.out k t ht
      obtain ⟨b2, o2, rfl, e0⟩ := H2.out k t ht
      have HW := Lib.hid (show ∀ n, (w.drewN m).drewN n = w.drewN (m + n) from fun n => World.drewN_drewN _ _ _)
      have x0 : (w.drewN m).cell? ⟨b1, o1 + k, none⟩ = some (.int .i64 t) := a0
      have y0 : (w.drewN m).cell? ⟨b2, o2 + k, none⟩ = some (.int .i64 t) := e0
      clear ht
      generalize w.drewN m = w9 at *
      have i1 : (k : Int) < (l.length : Int) := by omega
      go_wp2_with fail
      go_quiet (fail)
      go_wp2_with fail
      go_roundw
      case rel => exact ⟨k + 1, _, by omega, by go_num, HW.out _⟩
      case measure => simp [intOf]; omega
    · go_wp2_with fail
      go_ret
      exact ⟨rfl, ⟨rfl, rfl, rfl, Nat.le_refl _, fun _ _ _ => rfl⟩⟩

theorem prep_alive : prep [13, 10, 65] = [10, 65] := by rfl
set_option maxHeartbeats 1000000 in
theorem alive_any (w : World) (hT : Tabs w) : Calls Tryd.prog 11 #[] w fun e w' => e = .returned (.bool true) ∧ Fr (fun _ => False) w w' := by
  have F0 := Lib.hid ((Fr.refl (fun _ => False) w).alloc (.cells #[.int .u8 13, .int .u8 10, .int .u8 65] 5))
  have HB := heapNew w (.cells #[.int .u8 13, .int .u8 10, .int .u8 65] 5)
  have P := Prepare_any (w.alloc (.cells #[.int .u8 13, .int .u8 10, .int .u8 65] 5)) (some ⟨w.heap.size, 0, none⟩) 3 [13, 10, 65] (tabs_fr hT F0.out) (by decide) (fun k x hk => by
    refine ⟨w.heap.size, 0, rfl, ?_⟩
    match k, hk with
    | 0, hk => cases hk; rw [cellOf HB]; rfl
    | 1, hk => cases hk; rw [cellOf HB]; rfl
    | 2, hk => cases hk; rw [cellOf HB]; rfl
    | k + 3, hk => simp at hk) (by decide) (by unfold maxLen; decide) (by decide)
  rw [prep_alive] at P
  have PP := Lib.hid P
  clear P HB hT
  go_enter Tryd.func11, Tryd.ntmps11
  go_wp2_with fail
  refine PP.out.mono ?_
  rintro e w1 ⟨sp, c, rfl, o1, f1⟩
  have F1 := Lib.hid (F0.out.trans f1)
  obtain ⟨g, off, e0, y0⟩ := RdN.win o1 0 10 rfl
  obtain ⟨_, _, e1, y1⟩ := RdN.win o1 1 65 rfl
  rw [e0] at e1
  cases e1
  subst e0
  obtain ⟨hcp1, hcp2⟩ := o1.capLe rfl
  rw [Nat.add_zero] at y0
  simp only [List.length_cons, List.length_nil, Nat.zero_add, Nat.reduceAdd] at hcp1
  unfold maxLen at hcp2
  clear o1 f1 PP
  go_wp2_with fail
  go_ret
  exact ⟨rfl, F1.out⟩
end Go.Proofs.YtfgmhpdhgepalaaDoor
