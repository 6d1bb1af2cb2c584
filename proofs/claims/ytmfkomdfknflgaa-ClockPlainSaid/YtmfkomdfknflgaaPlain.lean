/- ClockPlain: the walk (printed by mkplain.py). -/
import Derived.Test.YtmfkomdfknflgaaAccs
namespace Go.Proofs.Ytmfkomdfknflgaa
open Go.RowKit Go.Maps Go.ChangeShapes Go.WideShapes Go.ChangeAt Go.WideMaps Go.WideElems

/-- Between two rounds. -/
def PlS (at_ : Bool) (w W : World) (b n k : Nat) : Prop := ∃ g, LS w W b g ∧ Bd g ∧ Hush at_ g ∧ g.n = n ∧ g.L.length ≤ k
set_option maxHeartbeats 4000000 in
theorem plain_law (wk : Int) (l : List Acc) (p : Option Addr) (c : Nat) (at_ : Bool) (w : World) (hl : RowR 4 AccR w (.slice p l.length c) l) :
    Calls Try.prog 4 #[.int .i64 wk, .slice p l.length c, .bool at_] w fun e w' => e = .returned (.bool true) ∧ Fr (fun _ => False) w w' := by
  have AL := Lib.hid (alive_any w)
  have HR := Lib.hid hl
  clear hl
  go_enter Try.func4, Try.ntmps4
  go_wp2_with fail
  rename_i KK aa
  refine AL.out.mono ?_
  rintro e w1 ⟨rfl, f1⟩
  have F1 := Lib.hid f1
  clear AL f1
  show KK _ _
  apply aa
  clear aa
  by_cases c0 : wk < 1
  · have d0 : decide (wk < 1) = true := by simpa using c0
    clear c0
    go_wp2_with fail
    go_ret
    exact ⟨rfl, F1.out⟩
  have d0 : decide (wk < 1) = false := by simpa using c0
  by_cases c1 : 64 < wk
  · have d1 : decide (64 < wk) = true := by simpa using c1
    clear c1
    go_wp2_with fail
    go_ret
    exact ⟨rfl, F1.out⟩
  have d1 : decide (64 < wk) = false := by simpa using c1
  by_cases c2 : 100 < l.length
  · have d2 : decide ((100 : Int) < (l.length : Int)) = true := by simp; omega
    clear c2
    go_wp2_with fail
    go_ret
    exact ⟨rfl, F1.out⟩
  have d2 : decide ((100 : Int) < (l.length : Int)) = false := by simp; omega
  obtain ⟨n, rfl⟩ := Int.eq_ofNat_of_zero_le (by omega : 0 ≤ wk)
  have hn : nW (n : Int) = n := by unfold nW; omega
  have P1 := Lib.hid (LS.new w w1 F1.out (n : Int))
  rw [hn] at P1
  clear hn
  go_wp2_with fail
  rename_i KK2 aa2
  refine P1.out.mono ?_
  rintro e w2 ⟨b, rfl, l2⟩
  have H0 := Lib.hid (show PlS at_ w w2 b n 0 from ⟨_, l2, Bd.new n, Hush.new at_ n, rfl, Nat.le_refl _⟩)
  clear l2 P1 F1
  show KK2 _ _
  apply aa2
  clear aa2
  go_wp2_with fail
  go_loopw [9] (fun i wr => ∃ (k : Nat), k ≤ l.length ∧ i = .int .i64 k ∧ Hid (PlS at_ w wr b n k)) (fun i _ => l.length - (intOf i).toNat)
  case atStart => exact ⟨0, by omega, rfl, H0⟩
  case round =>
    obtain ⟨k, hk, rfl, hS⟩ := hrel
    clear H0
    by_cases hlt : k < l.length
    · obtain ⟨a, ha⟩ : ∃ a, l[k]? = some a := ⟨l[k], List.getElem?_eq_getElem hlt⟩
      obtain ⟨r1, r2, gg, off, rfl, hcl⟩ := acc_at HR.out ha
      obtain ⟨g, h1, h2, h3, h4, h5⟩ := hS.out
      obtain ⟨x0, x1, x2, x3⟩ := hcl wr h1.fr
      have q1 : decide ((k : Int) < (l.length : Int)) = true := by simp; omega
      have H2 := Lib.hid (h1.fr0 ((Fr.refl (fun _ => False) wr).alloc (.cells #[.int .i64 a.who, .int .i64 a.cell, .bool a.wt, .bool a.at_] 27)))
      clear ha hcl
      have HK := Lib.hid (show ∀ W, LS w W b g → PlS at_ w W b n (k + 1) from fun W l => ⟨g, l, h2, h3, h4, by omega⟩)
      by_cases e0 : a.who < 0
      · have d3 : decide (a.who < 0) = true := by simpa using e0
        clear e0
        go_wp2_with fail
        go_roundw
        case rel => exact ⟨k + 1, by omega, by first | rfl | go_num, Lib.hid (HK.out _ H2.out)⟩
        case measure => simp [intOf]; omega
      have d3 : decide (a.who < 0) = false := by simpa using e0
      by_cases e1 : (n : Int) ≤ a.who
      · have d4 : decide ((n : Int) ≤ a.who) = true := by simpa using e1
        clear e0 e1
        go_wp2_with fail
        go_roundw
        case rel => exact ⟨k + 1, by omega, by first | rfl | go_num, Lib.hid (HK.out _ H2.out)⟩
        case measure => simp [intOf]; omega
      have d4 : decide ((n : Int) ≤ a.who) = false := by simpa using e1
      have hi : isB g.n a.who = true := by rw [h4]; unfold isB; simp; omega
      have AC := Lib.hid (fun W (l : LS w W b g) => l.act h2 (by omega) (toKind at_ a) (by unfold toKind; split <;> exact r2))
      rw [h3.doB hi] at AC
      have HN := Lib.hid (show ∀ W, LS w W b (DoG g (toKind at_ a)) → PlS at_ w W b n (k + 1) from fun W l => ⟨_, l, h2.doG _, h3.do_ a, by rw [doG_n]; exact h4, by have := doG_len g (toKind at_ a); omega⟩)
      unfold accV at AC
      have HL := Lib.hid h1
      clear HK e0 e1 hi h1 h2 h3 h4 h5 r1 r2 H2
      cases at_ with
      | true =>
        simp only [toKind, if_true] at AC HN
        go_wp2_with (go_at_call 10; refine (AC.out _ (HL.out.fr0 ((Fr.refl (fun _ => False) wr).alloc _))).mono ?_; rintro e w5 ⟨rfl, l5⟩; have LL := Lib.hid (HN.out _ l5); clear l5)
        go_roundw
        case rel => exact ⟨k + 1, by omega, by first | rfl | go_num, LL⟩
        case measure => simp [intOf]; omega
      | false =>
        simp only [toKind, Bool.false_eq_true, if_false] at AC HN
        go_wp2_with (go_at_call 10; refine (AC.out _ (HL.out.fr0 ((Fr.refl (fun _ => False) wr).alloc _))).mono ?_; rintro e w5 ⟨rfl, l5⟩; have LL := Lib.hid (HN.out _ l5); clear l5)
        go_roundw
        case rel => exact ⟨k + 1, by omega, by first | rfl | go_num, LL⟩
        case measure => simp [intOf]; omega
    · obtain rfl : k = l.length := by omega
      have q1 : decide ((l.length : Int) < (l.length : Int)) = false := by simp
      go_wp2_with fail
      go_ret
      obtain ⟨g, h1, _⟩ := hS.out
      exact ⟨rfl, h1.fr⟩
theorem clockPlain_walk (wk : Int) (v : Value) (l : List Acc) (at_ : Bool) (w : World) (_ : (Lit.int .i64 wk).wf = true) (hl : RowR 4 AccR w v l) :
    Calls Try.prog 4 #[.int .i64 wk, v, .bool at_] w fun e w' => e = .returned (.bool true) ∧ Below w.heap.size w w' := by
  obtain ⟨p, c, rfl, h⟩ := hl
  exact (plain_law wk l p c at_ w ⟨p, c, rfl, h⟩).mono fun _ _ h => ⟨h.1, h.2.below (Nat.le_refl _) (by simp)⟩
end Go.Proofs.Ytmfkomdfknflgaa
