/- The contracts of the reference filter's methods. -/
import Derived.Test.YtfhojfndccelfaaFns
namespace Go.Proofs.Ytfhojfndccelfaa
open Go.RowKit Go.Maps Go.ChangeShapes Go.WideShapes Go.ChangeAt Go.WideMaps Go.WideElems

set_option maxRecDepth 100000 in
theorem rup_any (b : Nat) (c : Nat → Int) (i : Nat) (w : World) (hf : IsFil 30 .i64 w b c) (hc : In255 c) (hi : i < 1024) :
    Calls Try.prog 35 #[.pointer (some ⟨b, 0, none⟩), .int .i64 (i : Nat)] w fun e w' => e = .returned (.tuple #[]) ∧ Fr (fun k => k = b) w w' ∧ IsFil 30 .i64 w' b (upd c i (up (c i))) := by
  have hcell := hf.cell hi
  have hfz := hf.frozen i
  have hb := hc i
  have hf2 := Lib.hid (hf.drew.set i (up (c i)))
  have hr2 := Lib.hid ((Fr.refl (fun k => k = b) w).drew.setCell (p := ⟨b, i, none⟩) (.inl rfl) (.int .i64 (up (c i))))
  by_cases h : c i < 255
  · have e : up (c i) = c i + 1 := by unfold up; rw [if_pos h]
    rw [e] at hf2 hr2 ⊢
    obtain ⟨x, hx⟩ : ∃ x, x = c i := ⟨_, rfl⟩
    rw [← hx] at hcell hb h hf2 hr2 ⊢
    have hii : (i : Int) < 1024 := by omega
    have hw1 : IntKind.i64.wrap (x + 1) = x + 1 := IntWalk.i64_in _ (by omega)
    clear e hx hf hc
    go_enter Try.func35, Try.ntmps35
    go_wp2_with fail
    go_still_tail 10, (by kernel_rfl)
    change wpList _ _ _ _ _ w.drew
    have hcell2 : w.drew.cell? ⟨b, i, none⟩ = some (.int .i64 x) := hcell
    have hfz2 : w.drew.frozen? ⟨b, i, none⟩ = false := hfz
    clear hcell hfz hw1
    go_wp2_with fail
    go_end0
    exact ⟨rfl, hr2.out, hf2.out⟩
  · have e : up (c i) = c i := by unfold up; rw [if_neg h]
    have e2 : upd c i (c i) = c := by funext j; unfold upd; split <;> simp_all
    rw [e, e2]
    have Hf := Lib.hid hf
    clear e e2 hf hc hf2 hr2
    go_enter Try.func35, Try.ntmps35
    go_wp2_with fail
    go_end0
    exact ⟨rfl, Fr.refl _ _, Hf.out⟩

set_option maxRecDepth 100000 in
theorem rdown_any (b : Nat) (c : Nat → Int) (i : Nat) (w : World) (hf : IsFil 30 .i64 w b c) (hc : In255 c) (hi : i < 1024) :
    Calls Try.prog 34 #[.pointer (some ⟨b, 0, none⟩), .int .i64 (i : Nat)] w fun e w' => e = .returned (.tuple #[]) ∧ Fr (fun k => k = b) w w' ∧ IsFil 30 .i64 w' b (upd c i (down (c i))) := by
  have hcell := hf.cell hi
  have hfz := hf.frozen i
  have hb := hc i
  have hf2 := Lib.hid (hf.drew.set i (down (c i)))
  have hr2 := Lib.hid ((Fr.refl (fun k => k = b) w).drew.setCell (p := ⟨b, i, none⟩) (.inl rfl) (.int .i64 (down (c i))))
  by_cases h : c i < 255 ∧ 0 < c i
  · have e : down (c i) = c i - 1 := by unfold down; rw [if_pos h]
    rw [e] at hf2 hr2 ⊢
    obtain ⟨h1, h2⟩ := h
    obtain ⟨x, hx⟩ : ∃ x, x = c i := ⟨_, rfl⟩
    rw [← hx] at hcell hb h1 h2 hf2 hr2 ⊢
    have hii : (i : Int) < 1024 := by omega
    have hw1 : IntKind.i64.wrap (x - 1) = x - 1 := IntWalk.i64_in _ (by omega)
    clear e hx hf hc
    go_enter Try.func34, Try.ntmps34
    go_wp2_with fail
    go_still_tail 10, (by kernel_rfl)
    change wpList _ _ _ _ _ w.drew
    have hcell2 : w.drew.cell? ⟨b, i, none⟩ = some (.int .i64 x) := hcell
    have hfz2 : w.drew.frozen? ⟨b, i, none⟩ = false := hfz
    clear hcell hfz hw1
    go_wp2_with fail
    go_end0
    exact ⟨rfl, hr2.out, hf2.out⟩
  · have e : down (c i) = c i := by unfold down; rw [if_neg h]
    have e2 : upd c i (c i) = c := by funext j; unfold upd; split <;> simp_all
    rw [e, e2]
    have Hf := Lib.hid hf
    obtain ⟨x, hx⟩ : ∃ x, x = c i := ⟨_, rfl⟩
    rw [← hx] at hcell hb h
    clear e e2 hf hc hf2 hr2 hx
    by_cases h1 : x < 255
    · have h2 : x ≤ 0 := by omega
      clear h
      go_enter Try.func34, Try.ntmps34
      go_wp2_with fail
      go_end0
      exact ⟨rfl, Fr.refl _ _, Hf.out⟩
    · clear h
      go_enter Try.func34, Try.ntmps34
      go_wp2_with fail
      go_end0
      exact ⟨rfl, Fr.refl _ _, Hf.out⟩

theorem RMay_any (b : Nat) (c : Nat → Int) (h : Int) (w : World) (hf : IsFil 30 .i64 w b c) :
    Calls Try.prog 15 #[.pointer (some ⟨b, 0, none⟩), .int .i64 h] w fun e w' => e = .returned (.bool (mayB c h)) ∧ w = w' := by
  have hca := hf.cell (pa_lt h)
  have hcb := hf.cell (pb_lt h)
  have ha := pa_lt h
  have hb := pb_lt h
  have H := Lib.hid (two_any h w)
  unfold mayB
  generalize pa h = i at *
  generalize pb h = j at *
  generalize c i = x at *
  generalize c j = y at *
  clear hf
  by_cases hx : 0 < x
  · have hd : decide (0 < x) = true := by simpa using hx
    rw [hd]
    clear hd
    go_enter Try.func15, Try.ntmps15
    go_wp2_with fail
    refine H.out.mono ?_
    rintro e w' ⟨rfl, rfl⟩
    go_wp2_with fail
    go_ret
    exact ⟨by simp, rfl⟩
  · have hd : decide (0 < x) = false := by simpa using hx
    rw [hd]
    go_enter Try.func15, Try.ntmps15
    go_wp2_with fail
    refine H.out.mono ?_
    rintro e w' ⟨rfl, rfl⟩
    go_wp2_with fail
    go_ret
    exact ⟨by simp, rfl⟩

set_option maxHeartbeats 1000000 in
theorem RPush_any (b : Nat) (c : Nat → Int) (v : Value) (l : List Int) (w : World) (hf : IsFil 30 .i64 w b c) (hl : Src w v l b) (hc : In255 c) :
    Calls Try.prog 13 #[.pointer (some ⟨b, 0, none⟩), v] w fun e w' => e = .returned (.tuple #[]) ∧ Fr (fun k => k = b) w w' ∧ IsFil 30 .i64 w' b (many up c l) := by
  obtain ⟨⟨⟨p, cp, rfl, h1, h2, h3⟩, h4⟩, hne⟩ := hl
  unfold maxLen at h2
  have H3 := Lib.hid h3
  have HN := Lib.hid hne
  have HF := Lib.hid hf
  have HC := Lib.hid hc
  clear h3 h4 hne hf hc
  go_enter Try.func13, Try.ntmps13
  go_wp2
  go_loopw [4] (fun i wr => ∃ k : Nat, k ≤ l.length ∧ i = .int .i64 k ∧ Hid (Fr (fun k => k = b) w wr) ∧ Hid (IsFil 30 .i64 wr b (many up c (l.take k)))) (fun i _ => l.length - (intOf i).toNat)
  case atStart => exact ⟨0, Nat.zero_le _, rfl, Fr.refl _ _, HF.out⟩
  case round =>
    obtain ⟨k, hk, rfl, hfr, hfil⟩ := hrel
    by_cases hlt : k < l.length
    · obtain ⟨h, hh⟩ : ∃ h, l[k]? = some h := ⟨l[k], by simp [hlt]⟩
      obtain ⟨g, off, rfl, hg, hcell⟩ := H3.out k h hh
      have hgb := HN.out g off _ _ rfl (by omega)
      have hcell2 := (hfr.out.cell (p := ⟨g, off + k, none⟩) hg hgb).trans hcell
      have Hstep := Lib.hid (show many up c (l.take (k + 1)) = one up (many up c (l.take k)) h by rw [take_snoc_some hh, many_snoc])
      have hcb := many_in up up_in HC.out (l.take k)
      generalize many up c (l.take k) = d at *
      clear hcell hh
      go_wp2_with fail
      refine (two_any _ _).mono ?_
      rintro e w3 ⟨rfl, rfl⟩
      have C1 := Lib.hid (rup_any b d (pa h) wr hfil.out hcb (pa_lt h))
      have hcb2 : In255 (upd d (pa h) (up (d (pa h)))) := upd_in hcb (up_in _ (hcb _))
      have C2 := Lib.hid (fun w4 hf4 => rup_any b (upd d (pa h) (up (d (pa h)))) (pb h) w4 hf4 hcb2 (pb_lt h))
      unfold one at Hstep
      generalize pa h = i at *
      generalize pb h = j at *
      go_wp2_with fail
      refine C1.out.mono ?_
      rintro e w4 ⟨rfl, f4, g4⟩
      have F4 := Lib.hid (hfr.out.trans f4)
      have G4 := Lib.hid g4
      clear f4 g4 C1
      by_cases hji : j = i
      · subst hji
        go_wp2_with fail
        go_roundw
        case rel => exact ⟨k + 1, by omega, by go_num, F4.out, by rw [Hstep.out]; first | (rw [if_pos rfl]; exact G4.out) | (rw [if_pos trivial]; exact G4.out)⟩
        case measure => simp [intOf]; omega
      · have hne' : ((j : Int) == (i : Int)) = false := by rw [beq_eq_false_iff_ne]; omega
        have Hji := Lib.hid hji
        clear hji
        go_wp2_with fail
        refine (C2.out w4 G4.out).mono ?_
        rintro e w5 ⟨rfl, f5, g5⟩
        have F5 := Lib.hid (F4.out.trans f5)
        have G5 := Lib.hid g5
        clear f5 g5 C2
        go_wp2_with fail
        go_roundw
        case rel => exact ⟨k + 1, by omega, by go_num, F5.out, by rw [Hstep.out, if_neg Hji.out]; exact G5.out⟩
        case measure => simp [intOf]; omega
    · have hke : k = l.length := by omega
      subst hke
      rw [List.take_length] at hfil
      go_wp2_with fail
      go_end0
      exact ⟨rfl, hfr.out, hfil.out⟩

set_option maxHeartbeats 1000000 in
theorem RPop_any (b : Nat) (c : Nat → Int) (v : Value) (l : List Int) (w : World) (hf : IsFil 30 .i64 w b c) (hl : Src w v l b) (hc : In255 c) :
    Calls Try.prog 12 #[.pointer (some ⟨b, 0, none⟩), v] w fun e w' => e = .returned (.tuple #[]) ∧ Fr (fun k => k = b) w w' ∧ IsFil 30 .i64 w' b (many down c l) := by
  obtain ⟨⟨⟨p, cp, rfl, h1, h2, h3⟩, h4⟩, hne⟩ := hl
  unfold maxLen at h2
  have H3 := Lib.hid h3
  have HN := Lib.hid hne
  have HF := Lib.hid hf
  have HC := Lib.hid hc
  clear h3 h4 hne hf hc
  go_enter Try.func12, Try.ntmps12
  go_wp2
  go_loopw [4] (fun i wr => ∃ k : Nat, k ≤ l.length ∧ i = .int .i64 k ∧ Hid (Fr (fun k => k = b) w wr) ∧ Hid (IsFil 30 .i64 wr b (many down c (l.take k)))) (fun i _ => l.length - (intOf i).toNat)
  case atStart => exact ⟨0, Nat.zero_le _, rfl, Fr.refl _ _, HF.out⟩
  case round =>
    obtain ⟨k, hk, rfl, hfr, hfil⟩ := hrel
    by_cases hlt : k < l.length
    · obtain ⟨h, hh⟩ : ∃ h, l[k]? = some h := ⟨l[k], by simp [hlt]⟩
      obtain ⟨g, off, rfl, hg, hcell⟩ := H3.out k h hh
      have hgb := HN.out g off _ _ rfl (by omega)
      have hcell2 := (hfr.out.cell (p := ⟨g, off + k, none⟩) hg hgb).trans hcell
      have Hstep := Lib.hid (show many down c (l.take (k + 1)) = one down (many down c (l.take k)) h by rw [take_snoc_some hh, many_snoc])
      have hcb := many_in down down_in HC.out (l.take k)
      generalize many down c (l.take k) = d at *
      clear hcell hh
      go_wp2_with fail
      refine (two_any _ _).mono ?_
      rintro e w3 ⟨rfl, rfl⟩
      have C1 := Lib.hid (rdown_any b d (pa h) wr hfil.out hcb (pa_lt h))
      have hcb2 : In255 (upd d (pa h) (down (d (pa h)))) := upd_in hcb (down_in _ (hcb _))
      have C2 := Lib.hid (fun w4 hf4 => rdown_any b (upd d (pa h) (down (d (pa h)))) (pb h) w4 hf4 hcb2 (pb_lt h))
      unfold one at Hstep
      generalize pa h = i at *
      generalize pb h = j at *
      go_wp2_with fail
      refine C1.out.mono ?_
      rintro e w4 ⟨rfl, f4, g4⟩
      have F4 := Lib.hid (hfr.out.trans f4)
      have G4 := Lib.hid g4
      clear f4 g4 C1
      by_cases hji : j = i
      · subst hji
        go_wp2_with fail
        go_roundw
        case rel => exact ⟨k + 1, by omega, by go_num, F4.out, by rw [Hstep.out]; first | (rw [if_pos rfl]; exact G4.out) | (rw [if_pos trivial]; exact G4.out)⟩
        case measure => simp [intOf]; omega
      · have hne' : ((j : Int) == (i : Int)) = false := by rw [beq_eq_false_iff_ne]; omega
        have Hji := Lib.hid hji
        clear hji
        go_wp2_with fail
        refine (C2.out w4 G4.out).mono ?_
        rintro e w5 ⟨rfl, f5, g5⟩
        have F5 := Lib.hid (F4.out.trans f5)
        have G5 := Lib.hid g5
        clear f5 g5 C2
        go_wp2_with fail
        go_roundw
        case rel => exact ⟨k + 1, by omega, by go_num, F5.out, by rw [Hstep.out, if_neg Hji.out]; exact G5.out⟩
        case measure => simp [intOf]; omega
    · have hke : k = l.length := by omega
      subst hke
      rw [List.take_length] at hfil
      go_wp2_with fail
      go_end0
      exact ⟨rfl, hfr.out, hfil.out⟩

end Go.Proofs.Ytfhojfndccelfaa
