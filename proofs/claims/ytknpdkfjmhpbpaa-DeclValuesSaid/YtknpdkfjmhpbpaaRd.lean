/- The reader of code points, in the reference, where what it reads is plain. -/
import Derived.Test.YtknpdkfjmhpbpaaChr
import Derived.Laws.IdiomStrings
namespace Go.Proofs.Ytknpdkfjmhpbpaa
open Go.RowKit Go.Maps Go.ChangeShapes Go.WideShapes Go.ChangeAt Go.WideMaps Go.WideElems

def zl (l : List Nat) : List Int := l.map fun (x : Nat) => (x : Int)
/-- What the reader sees at a place. -/
def seeV (l : List Nat) (j : Nat) : Int := match l[j]? with | some c => (c : Int) | none => -1
theorem seeV_some {l : List Nat} {j c : Nat} (h : l[j]? = some c) : seeV l j = (c : Int) := by unfold seeV; rw [h]
theorem seeV_none {l : List Nat} {j : Nat} (h : l.length ≤ j) : seeV l j = -1 := by unfold seeV; rw [List.getElem?_eq_none h]
def Okl (l : List Nat) : Prop := ∀ c ∈ l, okC c
theorem seeV_ok {l : List Nat} (h : Okl l) (j : Nat) : okZ (seeV l j) := by
  cases hj : l[j]? with
  | none =>
    rw [show seeV l j = -1 by unfold seeV; rw [hj]]
    unfold okZ; omega
  | some c => rw [seeV_some hj]; exact okZ_of (h c (List.mem_of_getElem? hj))
/-- A reader. -/
structure Rd (W : World) (rb : Nat) (p : Option Addr) (c : Nat) (l : List Nat) (k : Nat) : Prop where
  b : W.heap[rb]? = some (.cells #[.slice p l.length c, .int .i64 (k : Int)] 63 (0, 0))
  r : RdZ W p (zl l)
  ne : ∀ g off, p = some ⟨g, off, none⟩ → l ≠ [] → g ≠ rb
theorem Rd.fr {W W' : World} {rb : Nat} {p : Option Addr} {c : Nat} {l : List Nat} {k : Nat} (h : Rd W rb p c l k) (f : Fr (fun _ => False) W W') : Rd W' rb p c l k :=
  ⟨f.heap h.b (fun e => e), h.r.fr f, h.ne⟩
theorem Rd.step {W W' : World} {rb : Nat} {p : Option Addr} {c : Nat} {l : List Nat} {k : Nat} {S : Nat → Prop} (h : Rd W rb p c l k) (f : Fr S W W') (h1 : ¬ S rb) (h2 : ∀ g off, p = some ⟨g, off, none⟩ → l ≠ [] → ¬ S g) : Rd W' rb p c l k := by
  refine ⟨f.heap h.b h1, fun i x hx => ?_, h.ne⟩
  obtain ⟨g, off, hp, hg, hc⟩ := h.r i x hx
  have hn : l ≠ [] := by rintro rfl; simp [zl] at hx
  exact ⟨g, off, hp, Nat.lt_of_lt_of_le hg f.size, (f.cell (p := ⟨g, off + i, none⟩) hg (h2 g off hp hn)).trans hc⟩
theorem Rd.set {W : World} {rb : Nat} {p : Option Addr} {c : Nat} {l : List Nat} {k : Nat} (h : Rd W rb p c l k) (z : Int) (k' : Nat) (hz : z = (k' : Int)) : Rd (W.setCell ⟨rb, 1, none⟩ (.int .i64 z)) rb p c l k' ∧ Fr (fun j => j = rb) W (W.setCell ⟨rb, 1, none⟩ (.int .i64 z)) := by
  subst hz
  have f : Fr (fun j => j = rb) W (W.setCell ⟨rb, 1, none⟩ (.int .i64 (k' : Int))) := (Fr.refl (fun j => j = rb) W).setCell (p := ⟨rb, 1, none⟩) (.inl rfl) _
  have hb := heapSet h.b 1 (.int .i64 (k' : Int))
  refine ⟨⟨by simpa using hb, fun i x hx => ?_, h.ne⟩, f⟩
  obtain ⟨g, off, hp, hg, hc⟩ := h.r i x hx
  have hn : l ≠ [] := by rintro rfl; simp [zl] at hx
  exact ⟨g, off, hp, Nat.lt_of_lt_of_le hg f.size, (f.cell (p := ⟨g, off + i, none⟩) hg (h.ne g off hp hn)).trans hc⟩

theorem drwN (w : World) (n : Nat) : Fr (fun _ => False) w (w.drewN n) := ⟨rfl, rfl, rfl, Nat.le_refl _, fun _ _ _ => rfl⟩
set_option maxRecDepth 100000 in
set_option maxHeartbeats 4000000 in
theorem see0_any (w : World) (rb : Nat) (p : Option Addr) (c : Nat) (l : List Nat) (k : Nat) (h : Rd w rb p c l k) (ho : Okl l) (hk : k ≤ 200000) :
    Calls Try.prog 43 #[.pointer (some ⟨rb, 0, none⟩), .int .i64 0] w fun e w' => e = .returned (.int .i64 (seeV l k)) ∧ Fr (fun _ => False) w w' := by
  have H := Lib.hid h
  have HO := Lib.hid ho
  have c0 := cellOf h.b 0
  have c1 := cellOf h.b 1
  simp at c0 c1
  clear h ho
  have qw : IntKind.i64.wrap ((k : Int) + 0) = (k : Int) := IntWalk.i64_in _ (by omega)
  have qw2 : IntKind.i64.wrap (k : Int) = (k : Int) := IntWalk.i64_in _ (by omega)
  by_cases hlt : l.length ≤ k
  · have q0 : decide ((l.length : Int) ≤ (k : Int)) = true := decide_eq_true (by omega)
    rw [seeV_none hlt]
    go_enter Try.func43, Try.ntmps43
    go_wp2_with fail
    go_quiet (fail)
    go_wp2_with fail
    go_ret
    exact ⟨rfl, drwN _ _⟩
  · have q0 : decide ((l.length : Int) ≤ (k : Int)) = false := decide_eq_false (by omega)
    have hx := List.getElem?_eq_getElem (show k < l.length by omega)
    rw [seeV_some hx]
    have hok := okZ_of (HO.out _ (List.mem_of_getElem? hx))
    have hz : (zl l)[k]? = some ((l[k] : Nat) : Int) := by unfold zl; rw [List.getElem?_map, hx]; rfl
    obtain ⟨g, off, rfl, hg, a0⟩ := H.out.r k _ hz
    have hx0 : (0 : Int) ≤ ((l[k] : Nat) : Int) := by omega
    have hx1 : ((l[k] : Nat) : Int) ≤ 127 := by unfold okZ at hok; omega
    have RT := Lib.hid (right_any ((l[k] : Nat) : Int) hx0 hx1)
    have hk2 : (k : Int) < (l.length : Int) := by omega
    clear hz hx hok
    generalize l[k] = x at *
    go_enter Try.func43, Try.ntmps43
    go_upto_region 1 with fail
    go_cut [17] from 6 to 17 (fun v wx => v = .bool false ∧ Hid (Fr (fun _ => False) w wx))
    case first =>
      go_quiet (fail)
      go_wp2_with fail
      go_meet
      exact ⟨rfl, Lib.hid (drwN _ _)⟩
    case rest =>
    obtain ⟨rfl, hX⟩ := hcut
    have H2 := Lib.hid (H.out.fr hX.out)
    have b0 := cellOf H2.out.b 0
    have b1 := cellOf H2.out.b 1
    have a1 := (hX.out.cell (p := ⟨g, off + k, none⟩) hg (by simp)).trans a0
    simp at b0 b1
    clear c0 c1 a0 hg
    go_wp2_with fail
    go_quiet (fail)
    go_wp2_with (go_at_call 60; refine (RT.out _).mono ?_; rintro e w' ⟨rfl, rfl⟩)
    go_ret
    exact ⟨rfl, hX.out.trans (drwN _ _)⟩

section
variable (w : World) (rb : Nat) (p : Option Addr) (c : Nat) (l : List Nat) (k : Nat) (h : Rd w rb p c l k) (ho : Okl l) (hk : k ≤ 200000)
include h ho hk
set_option maxRecDepth 100000 in
set_option maxHeartbeats 4000000 in
theorem escape0_any : Calls Try.prog 49 #[.pointer (some ⟨rb, 0, none⟩), .int .i64 0] w fun e w' => e = .returned (.bool false) ∧ Fr (fun _ => False) w w' := by
  have S := Lib.hid (see0_any w rb p c l k h ho hk)
  have q92 : (seeV l k == 92) = false := by rw [beq_eq_false_iff_ne]; have := seeV_ok ho k; unfold okZ at this; omega
  generalize seeV l k = z at *
  clear h ho
  go_enter Try.func49, Try.ntmps49
  go_wp2_with (go_at_call 43; refine S.out.mono ?_; rintro e w1 ⟨rfl, f1⟩; have F1 := Lib.hid f1; clear f1)
  go_ret
  exact ⟨rfl, F1.out⟩
set_option maxRecDepth 100000 in
set_option maxHeartbeats 4000000 in
theorem begins0_any : Calls Try.prog 45 #[.pointer (some ⟨rb, 0, none⟩), .int .i64 0] w fun e w' => e = .returned (.bool (letZ (seeV l k))) ∧ Fr (fun _ => False) w w' := by
  have S := Lib.hid (see0_any w rb p c l k h ho hk)
  have E := Lib.hid (show ∀ W, Fr (fun _ => False) w W → Calls Try.prog 49 #[.pointer (some ⟨rb, 0, none⟩), .int .i64 0] W fun e w' => e = .returned (.bool false) ∧ Fr (fun _ => False) W w' from fun W f => escape0_any W rb p c l k (h.fr f) ho hk)
  have hz := seeV_ok ho k
  have N := Lib.hid (nameStart_any (seeV l k) hz)
  have q45 : (seeV l k == 45) = false := by rw [beq_eq_false_iff_ne]; unfold okZ at hz; omega
  clear hz
  generalize seeV l k = z at *
  generalize letZ z = b at *
  clear h ho
  cases b with
  | true =>
    go_enter Try.func45, Try.ntmps45
    go_wp2_with (first
      | (go_at_call 43; refine S.out.mono ?_; rintro e w1 ⟨rfl, f1⟩; have F1 := Lib.hid f1; clear f1)
      | (go_at_call 62; refine (N.out _).mono ?_; rintro e w' ⟨rfl, rfl⟩))
    go_ret
    exact ⟨rfl, F1.out⟩
  | false =>
    go_enter Try.func45, Try.ntmps45
    go_wp2_with (first
      | (go_at_call 43; refine S.out.mono ?_; rintro e w1 ⟨rfl, f1⟩; have F1 := Lib.hid f1; clear f1)
      | (go_at_call 62; refine (N.out _).mono ?_; rintro e w' ⟨rfl, rfl⟩)
      | (go_at_call 49; refine (E.out _ F1.out).mono ?_; rintro e w2 ⟨rfl, f2⟩; have F2 := Lib.hid (F1.out.trans f2); clear f2))
    go_ret
    exact ⟨rfl, F2.out⟩
set_option maxRecDepth 100000 in
set_option maxHeartbeats 4000000 in
theorem number_any : Calls Try.prog 44 #[.pointer (some ⟨rb, 0, none⟩)] w fun e w' => e = .returned (.bool false) ∧ Fr (fun _ => False) w w' := by
  have S := Lib.hid (show ∀ W, Fr (fun _ => False) w W → Calls Try.prog 43 #[.pointer (some ⟨rb, 0, none⟩), .int .i64 0] W fun e w' => e = .returned (.int .i64 (seeV l k)) ∧ Fr (fun _ => False) W w' from fun W f => see0_any W rb p c l k (h.fr f) ho hk)
  have hz := seeV_ok ho k
  have D := Lib.hid (digit_any (seeV l k) hz)
  have q43 : (seeV l k == 43) = false := by rw [beq_eq_false_iff_ne]; unfold okZ at hz; omega
  have q45 : (seeV l k == 45) = false := by rw [beq_eq_false_iff_ne]; unfold okZ at hz; omega
  have q46 : (seeV l k == 46) = false := by rw [beq_eq_false_iff_ne]; unfold okZ at hz; omega
  have G0 : Fr (fun _ => False) w w := Fr.refl _ _
  clear hz
  generalize seeV l k = z at *
  clear h ho
  go_enter Try.func44, Try.ntmps44
  go_wp2_with (first
    | (go_at_call 43; refine (S.out _ (by assumption)).mono ?_; rintro e w1 ⟨rfl, f1⟩; have G1 := Fr.trans (by assumption) f1; clear f1)
    | (go_at_call 61; refine (D.out _).mono ?_; rintro e w' ⟨rfl, rfl⟩))
  go_ret
  exact ⟨rfl, by assumption⟩
end
end Go.Proofs.Ytknpdkfjmhpbpaa
