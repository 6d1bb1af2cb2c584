/- The turn of a filter's counters by Push's and by Pop's function. -/
import Derived.Test.YtfhojfndccelfaaFil
namespace Go.Proofs.Ytfhojfndccelfaa
open Go.RowKit Go.Maps Go.ChangeShapes Go.WideShapes Go.ChangeAt Go.WideMaps Go.WideElems

def one (g : Int → Int) (c : Nat → Int) (h : Int) : Nat → Int :=
  if pb h = pa h then upd c (pa h) (g (c (pa h))) else upd (upd c (pa h) (g (c (pa h)))) (pb h) (g (upd c (pa h) (g (c (pa h))) (pb h)))
def many (g : Int → Int) (c : Nat → Int) (l : List Int) : Nat → Int := l.foldl (one g) c

theorem many_snoc (g : Int → Int) (c : Nat → Int) (l : List Int) (h : Int) : many g c (l ++ [h]) = one g (many g c l) h := by simp [many]
theorem take_snoc_some {α : Type} {l : List α} {k : Nat} {x : α} (h : l[k]? = some x) : l.take (k + 1) = l.take k ++ [x] := by
  rw [List.take_add_one, h]; rfl

def In255 (c : Nat → Int) : Prop := ∀ i, 0 ≤ c i ∧ c i ≤ 255
theorem upd_in {c : Nat → Int} (h : In255 c) {i : Nat} {v : Int} (hv : 0 ≤ v ∧ v ≤ 255) : In255 (upd c i v) := by
  intro j; unfold upd; split
  · exact hv
  · exact h j
theorem up_in (n : Int) (h : 0 ≤ n ∧ n ≤ 255) : 0 ≤ up n ∧ up n ≤ 255 := by unfold up; split <;> omega
theorem down_in (n : Int) (h : 0 ≤ n ∧ n ≤ 255) : 0 ≤ down n ∧ down n ≤ 255 := by unfold down; split <;> omega
theorem one_in (g : Int → Int) (hg : ∀ n, 0 ≤ n ∧ n ≤ 255 → 0 ≤ g n ∧ g n ≤ 255) {c : Nat → Int} (h : In255 c) (x : Int) : In255 (one g c x) := by
  unfold one; split
  · exact upd_in h (hg _ (h _))
  · exact upd_in (upd_in h (hg _ (h _))) (hg _ (upd_in h (hg _ (h _)) _))
theorem many_in (g : Int → Int) (hg : ∀ n, 0 ≤ n ∧ n ≤ 255 → 0 ≤ g n ∧ g n ≤ 255) {c : Nat → Int} (h : In255 c) (l : List Int) : In255 (many g c l) := by
  unfold many
  induction l generalizing c with
  | nil => exact h
  | cons x r ih => exact ih (one_in g hg h x)

/-- A slice of hashes that lies in another block than b. -/
def Src (w : World) (v : Value) (l : List Int) (b : Nat) : Prop := IsInts .i64 w v l ∧ ∀ g off n c, v = .slice (some ⟨g, off, none⟩) n c → 0 < l.length → g ≠ b

set_option maxHeartbeats 1000000 in
set_option maxRecDepth 100000 in
theorem turn31 (b : Nat) (c : Nat → Int) (v : Value) (l : List Int) (w : World) (hf : IsFil 26 .u8 w b c) (hl : Src w v l b) (hc : In255 c) :
    Calls Try.prog 30 #[.pointer (some ⟨b, 0, none⟩), v, .func (.func 31) #[] #[]] w fun e w' => e = .returned (.tuple #[]) ∧ Fr (fun k => k = b) w w' ∧ IsFil 26 .u8 w' b (many up c l) := by
  obtain ⟨⟨⟨p, cp, rfl, h1, h2, h3⟩, h4⟩, hne⟩ := hl
  unfold maxLen at h2
  have H3 := Lib.hid h3
  have HN := Lib.hid hne
  have HF := Lib.hid hf
  have HC := Lib.hid hc
  clear h3 h4 hne hf hc
  go_enter Try.func30, Try.ntmps30
  go_wp2
  go_loopw [12] (fun i wr => ∃ k : Nat, k ≤ l.length ∧ i = .int .i64 k ∧ Hid (Fr (fun k => k = b) w wr) ∧ Hid (IsFil 26 .u8 wr b (many up c (l.take k)))) (fun i _ => l.length - (intOf i).toNat)
  case atStart => exact ⟨0, Nat.zero_le _, rfl, Fr.refl _ _, HF.out⟩
  case round =>
    obtain ⟨k, hk, rfl, hfr, hfil⟩ := hrel
    by_cases hlt : k < l.length
    · obtain ⟨h, hh⟩ : ∃ h, l[k]? = some h := ⟨l[k], by simp [hlt]⟩
      obtain ⟨g, off, rfl, hg, hcell⟩ := H3.out k h hh
      have hgb := HN.out g off _ _ rfl (by omega)
      have hcell2 := (hfr.out.cell (p := ⟨g, off + k, none⟩) hg hgb).trans hcell
      have Hstep := Lib.hid (show many up c (l.take (k + 1)) = one up (many up c (l.take k)) h by rw [take_snoc_some hh, many_snoc])
      have hcb := many_in up up_in HC.out (l.take k)
      generalize many up c (l.take k) = d at *
      clear hcell hh
      go_wp2_with fail
      refine (places_any _ _).mono ?_
      rintro e w3 ⟨rfl, rfl⟩
      have hca := hfil.out.cell (pa_lt h)
      have ha := pa_lt h
      have hbb := pb_lt h
      have hba := hcb (pa h)
      have hup := Lib.hid (up_any (d (pa h)) wr.drew hba.1 hba.2)
      have hfa := hfil.out.frozen (pa h)
      have hfil2 := Lib.hid (hfil.out.drew.set (pa h) (up (d (pa h))))
      have hfr2 := Lib.hid (hfr.out.drew.setCell (p := ⟨b, pa h, none⟩) (.inl rfl) (.int .u8 (up (d (pa h)))))
      unfold one at Hstep
      generalize pa h = i at *
      generalize pb h = j at *
      have hcb2 : In255 (upd d i (up (d i))) := upd_in hcb (up_in _ (hcb i))
      have gi : (0 : Int) ≤ up (d i) ∧ up (d i) ≤ 255 := up_in _ (hcb i)
      obtain ⟨x, hx⟩ : ∃ x, x = up (d i) := ⟨_, rfl⟩
      rw [← hx] at hfil2 hfr2 hcb2 Hstep hup gi
      obtain ⟨y, hy⟩ : ∃ y, y = d i := ⟨_, rfl⟩
      rw [← hy] at hup hca hba
      clear hx hy
      have hai : (i : Int) < 1024 := by omega
      have hbi : (j : Int) < 1024 := by omega
      go_wp2_with fail
      refine wp_region_still_tail 13 (by kernel_rfl) (by kernel_rfl) ?_
      simp only [List.take_succ_cons, List.take_zero, List.drop_succ_cons, List.drop_zero]
      repeat still_step
      still_call (hup.out)
      repeat still_step
      refine wpStill_nil ?_
      change wpList _ _ _ _ _ wr.drew
      have hca2 : wr.drew.cell? ⟨b, i, none⟩ = some (.int .u8 y) := hca
      have hfa2 : wr.drew.frozen? ⟨b, i, none⟩ = false := hfa
      clear hca hfa hup hcell2 hcb hfil hfr
      by_cases hji : j = i
      · subst hji
        go_wp2_with fail
        go_roundw
        case rel => exact ⟨k + 1, by omega, by go_num, hfr2.out, by rw [Hstep.out, if_pos rfl]; exact hfil2.out⟩
        case measure => simp [intOf]; omega
      · have hne' : ((j : Int) == (i : Int)) = false := by rw [beq_eq_false_iff_ne]; omega
        have Hji := Lib.hid hji
        clear hji
        go_wp2_with fail
        have Hw4f : IsFil 26 .u8 (wr.setCell ⟨b, i, none⟩ (.int .u8 x)).drew b (upd d i x) := hfil2.out
        have Hw4r : Fr (fun k => k = b) w (wr.setCell ⟨b, i, none⟩ (.int .u8 x)).drew := hfr2.out
        clear hfil2 hfr2 hca2 hfa2
        generalize (wr.setCell ⟨b, i, none⟩ (.int .u8 x)).drew = w4 at *
        generalize upd d i x = d2 at *
        have hcj := Hw4f.cell hbb
        have hbj := hcb2 j
        have hup := Lib.hid (up_any (d2 j) w4.drew hbj.1 hbj.2)
        have hfj := Hw4f.frozen j
        have hfil3 := Lib.hid (Hw4f.drew.set j (up (d2 j)))
        have hfr3 := Lib.hid (Hw4r.drew.setCell (p := ⟨b, j, none⟩) (.inl rfl) (.int .u8 (up (d2 j))))
        have gj : (0 : Int) ≤ up (d2 j) ∧ up (d2 j) ≤ 255 := up_in _ (hcb2 j)
        obtain ⟨x2, hx2⟩ : ∃ x, x = up (d2 j) := ⟨_, rfl⟩
        rw [← hx2] at hfil3 hfr3 Hstep hup gj
        obtain ⟨y2, hy2⟩ : ∃ y, y = d2 j := ⟨_, rfl⟩
        rw [← hy2] at hup hcj hbj
        clear hx2 hy2 Hw4f Hw4r hcb2
        refine wp_region_still_tail 13 (by kernel_rfl) (by kernel_rfl) ?_
        simp only [List.take_succ_cons, List.take_zero, List.drop_succ_cons, List.drop_zero]
        repeat still_step
        still_call (hup.out)
        repeat still_step
        refine wpStill_nil ?_
        change wpList _ _ _ _ _ w4.drew
        have hcj2 : w4.drew.cell? ⟨b, j, none⟩ = some (.int .u8 y2) := hcj
        have hfj2 : w4.drew.frozen? ⟨b, j, none⟩ = false := hfj
        clear hcj hfj hup
        go_wp2_with fail
        go_roundw
        case rel => exact ⟨k + 1, by omega, by go_num, hfr3.out, by rw [Hstep.out, if_neg Hji.out]; exact hfil3.out⟩
        case measure => simp [intOf]; omega
    · have hke : k = l.length := by omega
      subst hke
      rw [List.take_length] at hfil
      go_wp2_with fail
      go_end0
      exact ⟨rfl, hfr.out, hfil.out⟩

set_option maxHeartbeats 1000000 in
set_option maxRecDepth 100000 in
theorem turn32 (b : Nat) (c : Nat → Int) (v : Value) (l : List Int) (w : World) (hf : IsFil 26 .u8 w b c) (hl : Src w v l b) (hc : In255 c) :
    Calls Try.prog 30 #[.pointer (some ⟨b, 0, none⟩), v, .func (.func 32) #[] #[]] w fun e w' => e = .returned (.tuple #[]) ∧ Fr (fun k => k = b) w w' ∧ IsFil 26 .u8 w' b (many down c l) := by
  obtain ⟨⟨⟨p, cp, rfl, h1, h2, h3⟩, h4⟩, hne⟩ := hl
  unfold maxLen at h2
  have H3 := Lib.hid h3
  have HN := Lib.hid hne
  have HF := Lib.hid hf
  have HC := Lib.hid hc
  clear h3 h4 hne hf hc
  go_enter Try.func30, Try.ntmps30
  go_wp2
  go_loopw [12] (fun i wr => ∃ k : Nat, k ≤ l.length ∧ i = .int .i64 k ∧ Hid (Fr (fun k => k = b) w wr) ∧ Hid (IsFil 26 .u8 wr b (many down c (l.take k)))) (fun i _ => l.length - (intOf i).toNat)
  case atStart => exact ⟨0, Nat.zero_le _, rfl, Fr.refl _ _, HF.out⟩
  case round =>
    obtain ⟨k, hk, rfl, hfr, hfil⟩ := hrel
    by_cases hlt : k < l.length
    · obtain ⟨h, hh⟩ : ∃ h, l[k]? = some h := ⟨l[k], by simp [hlt]⟩
      obtain ⟨g, off, rfl, hg, hcell⟩ := H3.out k h hh
      have hgb := HN.out g off _ _ rfl (by omega)
      have hcell2 := (hfr.out.cell (p := ⟨g, off + k, none⟩) hg hgb).trans hcell
      have Hstep := Lib.hid (show many down c (l.take (k + 1)) = one down (many down c (l.take k)) h by rw [take_snoc_some hh, many_snoc])
      have hcb := many_in down down_in HC.out (l.take k)
      generalize many down c (l.take k) = d at *
      clear hcell hh
      go_wp2_with fail
      refine (places_any _ _).mono ?_
      rintro e w3 ⟨rfl, rfl⟩
      have hca := hfil.out.cell (pa_lt h)
      have ha := pa_lt h
      have hbb := pb_lt h
      have hba := hcb (pa h)
      have hup := Lib.hid (down_any (d (pa h)) wr.drew hba.1 hba.2)
      have hfa := hfil.out.frozen (pa h)
      have hfil2 := Lib.hid (hfil.out.drew.set (pa h) (down (d (pa h))))
      have hfr2 := Lib.hid (hfr.out.drew.setCell (p := ⟨b, pa h, none⟩) (.inl rfl) (.int .u8 (down (d (pa h)))))
      unfold one at Hstep
      generalize pa h = i at *
      generalize pb h = j at *
      have hcb2 : In255 (upd d i (down (d i))) := upd_in hcb (down_in _ (hcb i))
      have gi : (0 : Int) ≤ down (d i) ∧ down (d i) ≤ 255 := down_in _ (hcb i)
      obtain ⟨x, hx⟩ : ∃ x, x = down (d i) := ⟨_, rfl⟩
      rw [← hx] at hfil2 hfr2 hcb2 Hstep hup gi
      obtain ⟨y, hy⟩ : ∃ y, y = d i := ⟨_, rfl⟩
      rw [← hy] at hup hca hba
      clear hx hy
      have hai : (i : Int) < 1024 := by omega
      have hbi : (j : Int) < 1024 := by omega
      go_wp2_with fail
      refine wp_region_still_tail 13 (by kernel_rfl) (by kernel_rfl) ?_
      simp only [List.take_succ_cons, List.take_zero, List.drop_succ_cons, List.drop_zero]
      repeat still_step
      still_call (hup.out)
      repeat still_step
      refine wpStill_nil ?_
      change wpList _ _ _ _ _ wr.drew
      have hca2 : wr.drew.cell? ⟨b, i, none⟩ = some (.int .u8 y) := hca
      have hfa2 : wr.drew.frozen? ⟨b, i, none⟩ = false := hfa
      clear hca hfa hup hcell2 hcb hfil hfr
      by_cases hji : j = i
      · subst hji
        go_wp2_with fail
        go_roundw
        case rel => exact ⟨k + 1, by omega, by go_num, hfr2.out, by rw [Hstep.out, if_pos rfl]; exact hfil2.out⟩
        case measure => simp [intOf]; omega
      · have hne' : ((j : Int) == (i : Int)) = false := by rw [beq_eq_false_iff_ne]; omega
        have Hji := Lib.hid hji
        clear hji
        go_wp2_with fail
        have Hw4f : IsFil 26 .u8 (wr.setCell ⟨b, i, none⟩ (.int .u8 x)).drew b (upd d i x) := hfil2.out
        have Hw4r : Fr (fun k => k = b) w (wr.setCell ⟨b, i, none⟩ (.int .u8 x)).drew := hfr2.out
        clear hfil2 hfr2 hca2 hfa2
        generalize (wr.setCell ⟨b, i, none⟩ (.int .u8 x)).drew = w4 at *
        generalize upd d i x = d2 at *
        have hcj := Hw4f.cell hbb
        have hbj := hcb2 j
        have hup := Lib.hid (down_any (d2 j) w4.drew hbj.1 hbj.2)
        have hfj := Hw4f.frozen j
        have hfil3 := Lib.hid (Hw4f.drew.set j (down (d2 j)))
        have hfr3 := Lib.hid (Hw4r.drew.setCell (p := ⟨b, j, none⟩) (.inl rfl) (.int .u8 (down (d2 j))))
        have gj : (0 : Int) ≤ down (d2 j) ∧ down (d2 j) ≤ 255 := down_in _ (hcb2 j)
        obtain ⟨x2, hx2⟩ : ∃ x, x = down (d2 j) := ⟨_, rfl⟩
        rw [← hx2] at hfil3 hfr3 Hstep hup gj
        obtain ⟨y2, hy2⟩ : ∃ y, y = d2 j := ⟨_, rfl⟩
        rw [← hy2] at hup hcj hbj
        clear hx2 hy2 Hw4f Hw4r hcb2
        refine wp_region_still_tail 13 (by kernel_rfl) (by kernel_rfl) ?_
        simp only [List.take_succ_cons, List.take_zero, List.drop_succ_cons, List.drop_zero]
        repeat still_step
        still_call (hup.out)
        repeat still_step
        refine wpStill_nil ?_
        change wpList _ _ _ _ _ w4.drew
        have hcj2 : w4.drew.cell? ⟨b, j, none⟩ = some (.int .u8 y2) := hcj
        have hfj2 : w4.drew.frozen? ⟨b, j, none⟩ = false := hfj
        clear hcj hfj hup
        go_wp2_with fail
        go_roundw
        case rel => exact ⟨k + 1, by omega, by go_num, hfr3.out, by rw [Hstep.out, if_neg Hji.out]; exact hfil3.out⟩
        case measure => simp [intOf]; omega
    · have hke : k = l.length := by omega
      subst hke
      rw [List.take_length] at hfil
      go_wp2_with fail
      go_end0
      exact ⟨rfl, hfr.out, hfil.out⟩

end Go.Proofs.Ytfhojfndccelfaa
