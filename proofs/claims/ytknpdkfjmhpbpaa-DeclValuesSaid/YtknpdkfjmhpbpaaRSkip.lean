/- The reference's Skip: where a thing ends. No condition but sizes. -/
import Derived.Test.YtknpdkfjmhpbpaaSkip
namespace Go.Proofs.Ytknpdkfjmhpbpaa
open Go.RowKit Go.Maps Go.ChangeShapes Go.WideShapes Go.ChangeAt Go.WideMaps Go.WideElems

set_option maxHeartbeats 4000000 in
set_option maxRecDepth 100000 in
theorem rSkip_any (w : World) (p : Option Addr) (c : Nat) (ts : List Tok) (i : Int) (h : RdT w p ts) (hl : ts.length ≤ 100000) :
    Calls Try.prog 23 #[.slice p ts.length c, .int .i64 i] w fun e w' => e = .returned (.int .i64 (skA ts i)) ∧ Fr (fun _ => False) w w' := by
  obtain ⟨i3, hb0, hb1, hb2, hb3⟩ := info_parts info3
  have HP := Lib.hid h
  clear h
  by_cases h0 : i < 0
  · have q0 : decide (i < (0 : Int)) = true := decide_eq_true h0
    rw [show skA ts i = i from if_neg (by omega)]
    go_enter Try.func23, Try.ntmps23
    go_wp2_with fail
    go_ret
    exact ⟨rfl, Fr.refl _ _⟩
  have q0 : decide (i < (0 : Int)) = false := decide_eq_false h0
  by_cases h1 : (ts.length : Int) ≤ i
  · have q1 : decide ((ts.length : Int) ≤ i) = true := decide_eq_true h1
    rw [show skA ts i = i from if_neg (by omega)]
    go_enter Try.func23, Try.ntmps23
    go_wp2_with fail
    go_ret
    exact ⟨rfl, Fr.refl _ _⟩
  have q1 : decide ((ts.length : Int) ≤ i) = false := decide_eq_false h1
  obtain ⟨n, rfl⟩ : ∃ n : Nat, i = n := ⟨i.toNat, by omega⟩
  have hn : n < ts.length := by omega
  obtain ⟨V, hV⟩ : ∃ V, skV ts n = V := ⟨_, rfl⟩
  rw [show skA ts n = (V : Int) by unfold skA; rw [if_pos (by omega), show (n : Int).toNat = n by omega, hV]]
  have HV0 := Lib.hid (show n + skN (ts.drop n) [] = V from hV)
  clear hV
  go_enter Try.func23, Try.ntmps23
  go_wp2_with fail
  go_loopw [1, 5] (fun iv v wr => ∃ (k : Nat) (o : List Int), iv = .int .i64 k ∧ k < ts.length ∧ o.length ≤ k ∧ Hid (k + skN (ts.drop k) o = V) ∧ Hid (Shut o) ∧ Hid (IW w o v wr)) (fun iv _ _ => ts.length - (intOf iv).toNat)
  case atStart => exact ⟨n, [], rfl, by omega, by simp, HV0, Lib.hid (fun x hx => by simp at hx), Lib.hid (IW.nil (Fr.refl _ _))⟩
  case round =>
    clear HV0
    obtain ⟨k, o, rfl, hk, ho, HS, HSH, hI⟩ := hrel
    obtain ⟨x, hx⟩ : ∃ x, ts[k]? = some x := ⟨ts[k], List.getElem?_eq_getElem hk⟩
    obtain ⟨_, g, off, rfl, hg, a0, _⟩ := (HP.out.fr hI.out.fr).at_ hx
    have HN := Lib.hid (skN_at hx o)
    have HR := Lib.hid (st1_ref HSH.out x.f0)
    have HSH2 := Lib.hid (HSH.out.st1 x.f0)
    have hk2 : (k : Int) < (ts.length : Int) := by omega
    have CL := Lib.hid (rclosing_any x.f0)
    have hcn := cl_nonneg x.f0
    obtain ⟨⟨sp, c9, rfl, hO⟩, hF⟩ := hI.out
    have HF := Lib.hid hF
    clear hx hF hI
    obtain ⟨m, hm⟩ : ∃ m, o.length = m := ⟨_, rfl⟩
    rw [hm] at hO ⊢
    have HO := Lib.hid hO
    by_cases hc : 0 < cl x.f0
    · have qc : decide ((0 : Int) < cl x.f0) = true := decide_eq_true hc
      have H1 := Lib.hid (show st1 o x.f0 = o ++ [cl x.f0] by rw [HR.out, if_pos hc])
      have qm : ((m : Int) + 1 == 0) = false := by rw [beq_eq_false_iff_ne]; omega
      have HSH3 := Lib.hid (show Shut (o ++ [cl x.f0]) by rw [← H1.out]; exact HSH2.out)
      generalize cl x.f0 = cc at *
      clear hO HR HSH2 hc hcn
      by_cases hke : k + 1 = ts.length
      · have qe : ((k : Int) + 1 == (ts.length : Int)) = true := by rw [beq_iff_eq]; omega
        have HV := Lib.hid (show k + 1 = V by have h1 := HS.out; rw [HN.out, hke, List.drop_eq_nil_of_le (Nat.le_refl _)] at h1; split at h1 <;> first | omega | (simp only [skN] at h1; omega))
        go_wp2_with (first
          | (go_at_call 40; refine (CL.out _).mono ?_; rintro e w' ⟨rfl, rfl⟩)
          | (at_builtin; refine wpList_append_src _ rfl (.tmp 27) (.tmp 29) 39 rfl w.heap.size 3 i3 _ 1 8 Try.underlying39 hb0 hb1 hb2 hb3 rfl (by omega) (.slice sp m c9) m _ rfl (HO.out.fr ((Fr.refl (fun _ => False) _).alloc _) (by simp)) (some ⟨_, 0, none⟩) 1 1 [.int .i64 cc] rfl (SrcW.one (heapNew _ _) rfl) (by simp [Value.oneCell']) (by unfold maxLen; omega) (by omega) (by rw [World.size_alloc]; exact Nat.le_succ_of_le HF.out.size) ?_; intro s7 c7 w7 hown hgrow _; have R7 := Lib.hid (iw_step hm HF.out HO.out hown hgrow); clear hown hgrow))
        go_ret
        exact ⟨by rw [← HV.out]; rfl, R7.out.fr⟩
      · have qe : ((k : Int) + 1 == (ts.length : Int)) = false := by rw [beq_eq_false_iff_ne]; omega
        have HT := Lib.hid (show k + 1 + skN (ts.drop (k + 1)) (o ++ [cc]) = V by have h1 := HS.out; rw [HN.out, H1.out, if_neg (by simp)] at h1; omega)
        go_wp2_with (first
          | (go_at_call 40; refine (CL.out _).mono ?_; rintro e w' ⟨rfl, rfl⟩)
          | (at_builtin; refine wpList_append_src _ rfl (.tmp 27) (.tmp 29) 39 rfl w.heap.size 3 i3 _ 1 8 Try.underlying39 hb0 hb1 hb2 hb3 rfl (by omega) (.slice sp m c9) m _ rfl (HO.out.fr ((Fr.refl (fun _ => False) _).alloc _) (by simp)) (some ⟨_, 0, none⟩) 1 1 [.int .i64 cc] rfl (SrcW.one (heapNew _ _) rfl) (by simp [Value.oneCell']) (by unfold maxLen; omega) (by omega) (by rw [World.size_alloc]; exact Nat.le_succ_of_le HF.out.size) ?_; intro s7 c7 w7 hown hgrow _; have R7 := Lib.hid (iw_step hm HF.out HO.out hown hgrow); clear hown hgrow))
        go_roundw
        case rel => exact ⟨k + 1, o ++ [cc], by go_num, by omega, by simp; omega, HT, Lib.hid HSH3.out, R7⟩
        case measure => simp [intOf]; omega
    · have hc0 : cl x.f0 = 0 := by omega
      have qc : decide ((0 : Int) < cl x.f0) = false := decide_eq_false hc
      by_cases hon : o = []
      · subst hon
        obtain rfl : m = 0 := by simpa using hm.symm
        have g0 : decide ((0 : Int) < (0 : Int)) = false := by simp
        have HV := Lib.hid (show k + 1 = V by have h1 := HS.out; rw [HN.out, HR.out, if_neg hc] at h1; simpa using h1)
        generalize cl x.f0 = cc at *
        clear hO HR HSH2 hc hcn hc0
        go_wp2_with (first | (go_at_call 40; refine (CL.out _).mono ?_; rintro e w' ⟨rfl, rfl⟩))
        go_ret
        exact ⟨by rw [← HV.out]; rfl, HF.out⟩
      · obtain ⟨m', z, hm', hz, hzl⟩ := last_of hon
        obtain rfl : m = m' + 1 := by omega
        have g0 : decide ((0 : Int) < (m' : Int) + 1) = true := decide_eq_true (by omega)
        obtain ⟨g2, off2, cap2, e2, _, _, hg2, _, hcl, _⟩ := hO.cells (by omega)
        cases e2
        have l0 : wr.cell? ⟨g2, off2 + m', none⟩ = some (.int .i64 z) := hcl m' _ (by unfold iZ; rw [List.getElem?_map, hz]; rfl)
        have HON := Lib.hid hon
        have HZ := Lib.hid hzl
        clear hO hcl hg2 hz hon hzl
        by_cases hkz : x.f0 = z
        · have qz : (x.f0 == z) = true := by simp [hkz]
          have H1 := Lib.hid (show st1 o x.f0 = o.dropLast by rw [HR.out, if_neg hc, if_pos (by rw [HZ.out, hkz])])
          have HF3 := Lib.hid (iw_pop HF.out hm' HO.out)
          have HSH3 := Lib.hid (show Shut o.dropLast by rw [← H1.out]; exact HSH2.out)
          generalize cl x.f0 = cc at *
          clear hkz HR HSH2 hc hcn hc0
          have hdl : o.dropLast.length = m' := by rw [List.length_dropLast]; omega
          cases m' with
          | zero =>
            have HV := Lib.hid (show k + 1 = V by have h1 := HS.out; rw [HN.out, H1.out, if_pos (List.eq_nil_of_length_eq_zero hdl)] at h1; exact h1)
            have g1 : decide ((0 : Int) < (1 : Int)) = true := rfl
            have l1 : wr.cell? ⟨g2, off2, none⟩ = some (.int .i64 z) := l0
            go_wp2_with (first | (go_at_call 40; refine (CL.out _).mono ?_; rintro e w' ⟨rfl, rfl⟩))

            go_ret
            exact ⟨by rw [← HV.out]; rfl, HF.out⟩
          | succ m =>
            have qm : ((m : Int) + 1 == 0) = false := by rw [beq_eq_false_iff_ne]; omega
            have HDN := Lib.hid (show ¬ o.dropLast = [] by intro e; rw [e] at hdl; simp at hdl)
            by_cases hke : k + 1 = ts.length
            · have qe : ((k : Int) + 1 == (ts.length : Int)) = true := by rw [beq_iff_eq]; omega
              have HV := Lib.hid (show k + 1 = V by have h1 := HS.out; rw [HN.out, hke, List.drop_eq_nil_of_le (Nat.le_refl _)] at h1; split at h1 <;> first | omega | (simp only [skN] at h1; omega))
              go_wp2_with (first | (go_at_call 40; refine (CL.out _).mono ?_; rintro e w' ⟨rfl, rfl⟩))
              go_ret
              exact ⟨by rw [← HV.out]; rfl, HF.out⟩
            · have qe : ((k : Int) + 1 == (ts.length : Int)) = false := by rw [beq_eq_false_iff_ne]; omega
              have HT := Lib.hid (show k + 1 + skN (ts.drop (k + 1)) (o.dropLast) = V by have h1 := HS.out; rw [HN.out, H1.out, if_neg HDN.out] at h1; omega)
              go_wp2_with (first | (go_at_call 40; refine (CL.out _).mono ?_; rintro e w' ⟨rfl, rfl⟩))
              go_roundw
              case rel => exact ⟨k + 1, o.dropLast, by go_num, by omega, by omega, HT, Lib.hid HSH3.out, HF3⟩
              case measure => simp [intOf]; omega
        · have qz : (x.f0 == z) = false := by simp [hkz]
          have H1 := Lib.hid (show st1 o x.f0 = o by rw [HR.out, if_neg hc, if_neg (by rw [HZ.out]; intro e; exact hkz (Option.some.inj e).symm)])
          have qm : ((m' : Int) + 1 == 0) = false := by rw [beq_eq_false_iff_ne]; omega
          have HF3 := Lib.hid (show IW w o (.slice (some ⟨g2, off2, none⟩) (m' + 1) c9) _ from ⟨⟨_, c9, by rw [hm], by rw [hm]; exact HO.out⟩, HF.out⟩)
          generalize cl x.f0 = cc at *
          clear hkz HR HSH2 hc hcn hc0
          by_cases hke : k + 1 = ts.length
          · have qe : ((k : Int) + 1 == (ts.length : Int)) = true := by rw [beq_iff_eq]; omega
            have HV := Lib.hid (show k + 1 = V by have h1 := HS.out; rw [HN.out, hke, List.drop_eq_nil_of_le (Nat.le_refl _)] at h1; split at h1 <;> first | omega | (simp only [skN] at h1; omega))
            go_wp2_with (first | (go_at_call 40; refine (CL.out _).mono ?_; rintro e w' ⟨rfl, rfl⟩))
            go_ret
            exact ⟨by rw [← HV.out]; rfl, HF.out⟩
          · have qe : ((k : Int) + 1 == (ts.length : Int)) = false := by rw [beq_eq_false_iff_ne]; omega
            have HT := Lib.hid (show k + 1 + skN (ts.drop (k + 1)) (o) = V by have h1 := HS.out; rw [HN.out, H1.out, if_neg HON.out] at h1; omega)
            go_wp2_with (first | (go_at_call 40; refine (CL.out _).mono ?_; rintro e w' ⟨rfl, rfl⟩))
            go_roundw
            case rel => exact ⟨k + 1, o, by go_num, by omega, by omega, HT, Lib.hid HSH.out, HF3⟩
            case measure => simp [intOf]; omega
end Go.Proofs.Ytknpdkfjmhpbpaa
