/- Do in full; Len, Clock, Ordered: what each answers. -/
import Derived.Test.YtmfkomdfknflgaaDo1
namespace Go.Proofs.Ytmfkomdfknflgaa
open Go.RowKit Go.Maps Go.ChangeShapes Go.WideShapes Go.ChangeAt Go.WideMaps Go.WideElems

theorem isB_iff {n : Nat} {z : Int} : isB n z = true ↔ ∃ i : Nat, z = (i : Int) ∧ i < n := by
  unfold isB
  simp only [Bool.and_eq_true, decide_eq_true_eq]
  constructor
  · rintro ⟨h1, h2⟩
    obtain ⟨i, rfl⟩ := Int.eq_ofNat_of_zero_le h1
    exact ⟨i, rfl, by omega⟩
  · rintro ⟨i, rfl, h⟩
    omega
def InR (z : Int) : Prop := -9223372036854775808 ≤ z ∧ z ≤ 9223372036854775807
/-- Do, of whatever access. -/
theorem do_all (w : World) (b : Nat) (R : Nat → Role) (g : LG) (a : Acc) (h : IsLog w b R g) (hz : InR a.cell) (hc : ∀ i, i < g.n → g.C i i ≤ 1000000) (hL : g.L.length ≤ 100000) :
    Calls Try.prog 10 #[.pointer (some ⟨b, 0, none⟩), accV a.who a.cell a.wt a.at_] w fun e w' => e = .returned (.bool (DoB g a)) ∧ ∃ R', IsLog w' b R' (DoG g a) ∧ Fr (fun k => R k ≠ .no) w w' ∧ (∀ k, k < w.heap.size → R' k = R k) := by
  obtain ⟨who, cell, wt, at_⟩ := a
  unfold DoB DoG
  simp only
  by_cases hb : isB g.n who = true
  · obtain ⟨i, rfl, hi⟩ := isB_iff.1 hb
    rw [if_pos hb, if_pos hb]
    exact Do_any w b R g i cell wt at_ h hi hz (hc i hi) hL
  · rw [if_neg hb, if_neg hb]
    have hf : isB g.n who = false := by simpa using hb
    have H := Lib.hid h
    obtain ⟨vc, vb, mb, vl, hl⟩ := h
    have HBK := Lib.hid (heapAlloc (o' := .cells #[.int .i64 who, .int .i64 cell, .bool wt, .bool at_] 27) hl.blk)
    have IS := Lib.hid (fun (W : World) (rest : List Value) (h : W.heap[b]? = some (.cells (Value.int .i64 (g.n : Int) :: rest).toArray 46 (0, 0))) => is_any W b g.n rest (0, 0) h who)
    rw [hf] at IS
    unfold accV
    clear hl hf hb
    have ka := cellOf (heapNew w (.cells #[.int .i64 who, .int .i64 cell, .bool wt, .bool at_] 27)) 0
    simp at ka
    go_enter Try.func10, Try.ntmps10
    go_wp2_with (go_at_call 20; refine Calls.mono (IS.out _ _ HBK.out) ?_; rintro e w1 ⟨rfl, f1⟩; have F1 := Lib.hid (((Fr.refl (fun _ => False) w).alloc _).trans f1); clear f1)
    go_ret
    exact ⟨rfl, R, H.out.fr F1.out (fun _ e => e.elim), F1.out.mono (fun _ _ e => e.elim), fun _ _ => rfl⟩

theorem len_any (w : World) (b : Nat) (R : Nat → Role) (g : LG) (h : IsLog w b R g) :
    Calls Try.prog 16 #[.pointer (some ⟨b, 0, none⟩)] w fun e w' => e = .returned (.int .i64 (g.L.length : Int)) ∧ Fr (fun _ => False) w w' := by
  obtain ⟨vc, vb, mb, vl, hl⟩ := h
  obtain ⟨E, hE, hv, _⟩ := hl.l
  obtain ⟨sp, sk, rfl⟩ := hv.shape
  have k4 := cellOf hl.blk 4
  simp at k4
  have e : g.L.length = E.length := by rw [← hE, List.length_map]
  rw [e]
  clear hl hE hv e
  go_enter Try.func16, Try.ntmps16
  go_wp2_with fail
  go_ret
  exact ⟨rfl, Fr.refl _ _⟩

/-- What Clock answers. -/
def ClockP (g : LG) (z : Int) (w : World) (e : Ending) (w' : World) : Prop :=
  Fr (fun _ => False) w w' ∧ if isB g.n z = true then ∃ b o c, e = .returned (sl b o g.n c) ∧ w.heap.size ≤ b ∧ Row w' b o g.n (g.C z.toNat) ∧ g.n ≤ c ∧ c ≤ maxLen else e = .returned (.slice none 0 0)
theorem clock_any (w : World) (b : Nat) (R : Nat → Role) (g : LG) (h : IsLog w b R g) (z : Int) :
    Calls Try.prog 11 #[.pointer (some ⟨b, 0, none⟩), .int .i64 z] w (ClockP g z w) := by
  have IS := Lib.hid (fun (W : World) (rest : List Value) (h : W.heap[b]? = some (.cells (Value.int .i64 (g.n : Int) :: rest).toArray 46 (0, 0))) => is_any W b g.n rest (0, 0) h z)
  unfold ClockP
  by_cases hb : isB g.n z = true
  · simp only [hb, ↓reduceIte]
    rw [hb] at IS
    obtain ⟨i, rfl, hi⟩ := isB_iff.1 hb
    obtain ⟨p, _, hl⟩ := LogW.of h (by omega)
    have HB := Lib.hid hl.blk
    obtain ⟨hcr, cur, hcur, hcv⟩ := hl.c0
    have k1 := cellOf hl.blk 1
    have kc := cellOf hcur i
    rw [hcv i hi] at kc
    have y1 := ltOf hl.blk
    have y2 := ltOf hcur
    simp [sl] at k1 kc
    have CL := Lib.hid (show ∀ W, Fr (fun _ => False) w W → Calls Try.prog 23 #[.slice (some ⟨p.ck i, 0, none⟩) g.n g.n] W (NewR g.n (g.C i) W) from fun W f => clone_any _ _ _ _ _ W ((hl.c1 i hi).2.fr f (by simp)) (by omega) hl.n64)
    have hcc := hl.cc
    clear hcr hcur hcv hl hb h
    go_enter Try.func11, Try.ntmps11
    go_wp2_with (first
      | (go_at_call 20; refine Calls.mono (IS.out _ _ HB.out) ?_; rintro e w1 ⟨rfl, f1⟩; have F1 := Lib.hid f1; have k1' := (f1.cell (p := ⟨b, 1, none⟩) y1 (by simp)).trans k1; have kc' := (f1.cell (p := ⟨p.bc, i, none⟩) y2 (by simp)).trans kc; clear f1)
      | (go_at_call 23; refine (CL.out _ F1.out).mono ?_; rintro e w2 ⟨nb, o, c, rfl, h1, h2, h3, h4, f2⟩; have F2 := Lib.hid (F1.out.trans f2); have N := Lib.hid (show w.heap.size ≤ nb ∧ Row w2 nb o g.n (g.C i) ∧ g.n ≤ c ∧ c ≤ maxLen from ⟨Nat.le_trans F1.out.size h1, h2, h3, h4⟩); clear f2 h1 h2 h3 h4; unfold sl))
    go_ret
    exact ⟨F2.out, nb, o, c, rfl, N.out.1, N.out.2.1, N.out.2.2⟩
  · have hf : isB g.n z = false := by simpa using hb
    simp only [hf, Bool.false_eq_true, ↓reduceIte]
    obtain ⟨vc, vb, mb, vl, hl⟩ := h
    have HB := Lib.hid hl.blk
    rw [hf] at IS
    clear hl hf hb
    go_enter Try.func11, Try.ntmps11
    go_wp2_with (go_at_call 20; refine Calls.mono (IS.out _ _ HB.out) ?_; rintro e w1 ⟨rfl, f1⟩; have F1 := Lib.hid f1; clear f1)
    go_ret
    exact ⟨F1.out, rfl⟩
end Go.Proofs.Ytmfkomdfknflgaa
