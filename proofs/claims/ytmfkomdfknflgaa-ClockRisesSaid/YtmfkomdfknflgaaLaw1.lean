/- Clock: a log in a law; the example. -/
import Derived.Test.YtmfkomdfknflgaaDo2
import Derived.Test.YtmfkomdfknflgaaNew
namespace Go.Proofs.Ytmfkomdfknflgaa
open Go.RowKit Go.Maps Go.ChangeShapes Go.WideShapes Go.ChangeAt Go.WideMaps Go.WideElems

/-- A log that was made since. -/
def LS (w W : World) (b : Nat) (g : LG) : Prop := ∃ R, IsLog W b R g ∧ Fr (fun _ => False) w W ∧ ∀ k, k < w.heap.size → R k = .no
theorem LS.fr0 {w W W' : World} {b : Nat} {g : LG} (h : LS w W b g) (f : Fr (fun _ => False) W W') : LS w W' b g := by
  obtain ⟨R, h1, h2, h3⟩ := h
  exact ⟨R, h1.fr f (fun _ e => e.elim), h2.trans f, h3⟩
theorem LS.fr {w W : World} {b : Nat} {g : LG} (h : LS w W b g) : Fr (fun _ => False) w W := by obtain ⟨_, _, h, _⟩ := h; exact h
theorem LS.act {w W : World} {b : Nat} {g : LG} (h : LS w W b g) (hB : Bd g) (hL : g.L.length ≤ 100000) (a : Acc) (hz : InR a.cell) :
    Calls Try.prog 10 #[.pointer (some ⟨b, 0, none⟩), accV a.who a.cell a.wt a.at_] W fun e w' => e = .returned (.bool (DoB g a)) ∧ LS w w' b (DoG g a) := by
  obtain ⟨R, h1, h2, h3⟩ := h
  refine (do_all W b R g a h1 hz (fun i _ => by have := hB.b1 i i; omega) hL).mono ?_
  rintro e w' ⟨he, R', h4, h5, h6⟩
  exact ⟨he, R', h4, h2.step h5 (fun k hk => by
    by_cases e : k < w.heap.size
    · exact absurd (h3 k e) hk
    · exact .inr (by omega)), fun k hk => (h6 k (Nat.lt_of_lt_of_le hk h2.size)).trans (h3 k hk)⟩
theorem LS.new (w W : World) (f : Fr (fun _ => False) w W) (z : Int) : Calls Try.prog 9 #[.int .i64 z] W fun e w' => ∃ b, e = .returned (.pointer (some ⟨b, 0, none⟩)) ∧ LS w w' b (newG (nW z)) := by
  refine (New_any W z).mono ?_
  rintro e w' ⟨b, R, he, _, h1, h2, h3⟩
  exact ⟨b, he, R, h1, f.trans h2, fun k hk => h3 k (Nat.lt_of_lt_of_le hk f.size)⟩
theorem LS.len {w W : World} {b : Nat} {g : LG} (h : LS w W b g) : Calls Try.prog 16 #[.pointer (some ⟨b, 0, none⟩)] W fun e w' => e = .returned (.int .i64 (g.L.length : Int)) ∧ LS w w' b g := by
  obtain ⟨R, h1, h2⟩ := h
  exact (len_any W b R g h1).mono fun e w' ⟨he, f⟩ => ⟨he, LS.fr0 ⟨R, h1, h2⟩ f⟩

theorem ex_1 : DoB (newG 2) ⟨0, 1, true, false⟩ = true := by decide
theorem ex_2 : DoB (DoG (newG 2) ⟨0, 1, true, false⟩) ⟨1, 1, false, false⟩ = false := by decide
set_option maxHeartbeats 1000000 in
theorem alive_any (w : World) : Calls Try.prog 8 #[] w fun e w' => e = .returned (.bool true) ∧ Fr (fun _ => False) w w' := by
  have P1 := Lib.hid (LS.new w w (Fr.refl _ _) 2)
  go_enter Try.func8, Try.ntmps8
  go_wp2_with fail
  rename_i KK aa
  refine P1.out.mono ?_
  rintro e w1 ⟨b, rfl, l1⟩
  rw [show nW 2 = 2 from rfl] at l1
  have A1 := Lib.hid (l1.act (Bd.new 2) (by show 0 ≤ _; omega) ⟨0, 1, true, false⟩ ⟨by decide, by decide⟩)
  have hl2 : (DoG (newG 2) ⟨0, 1, true, false⟩).L.length ≤ 1 := doG_len (newG 2) _
  have hB2 := (Bd.new 2).doG ⟨0, 1, true, false⟩
  have hlen : (DoG (DoG (newG 2) ⟨0, 1, true, false⟩) ⟨1, 1, false, false⟩).L.length = 2 := rfl
  have e2 := ex_2
  rw [ex_1] at A1
  generalize DoG (newG 2) ⟨0, 1, true, false⟩ = g2 at *
  have A2 := Lib.hid (fun W (l : LS w W b g2) => l.act hB2 (by omega) ⟨1, 1, false, false⟩ ⟨by decide, by decide⟩)
  rw [e2] at A2
  generalize DoG g2 ⟨1, 1, false, false⟩ = g3 at *
  have A3 := Lib.hid (fun W (l : LS w W b g3) => l.len)
  rw [hlen] at A3
  unfold accV at A1 A2
  clear P1 l1 hl2 hB2 hlen e2
  show KK _ _
  apply aa
  clear aa
  go_wp2_with (first
    | (go_at_call 10; refine A1.out.mono ?_; rintro e w2 ⟨rfl, l2⟩; have L2 := Lib.hid l2; clear l2 A1)
    | (go_at_call 10; refine (A2.out _ L2.out).mono ?_; rintro e w3 ⟨rfl, l3⟩; have L3 := Lib.hid l3; clear l3)
    | (go_at_call 16; refine (A3.out _ L3.out).mono ?_; rintro e w4 ⟨rfl, l4⟩; have L4 := Lib.hid l4; clear l4))
  go_ret
  exact ⟨rfl, L4.out.fr⟩
end Go.Proofs.Ytmfkomdfknflgaa
