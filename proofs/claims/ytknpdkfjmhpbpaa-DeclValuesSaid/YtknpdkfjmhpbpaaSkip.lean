/- rules.Skip: where a thing ends. No condition but sizes. -/
import Derived.Test.YtknpdkfjmhpbpaaClose
namespace Go.Proofs.Ytknpdkfjmhpbpaa
open Go.RowKit Go.Maps Go.ChangeShapes Go.WideShapes Go.ChangeAt Go.WideMaps Go.WideElems

theorem skN_at {ts : List Tok} {k : Nat} {x : Tok} (hx : ts[k]? = some x) (o : List Int) : skN (ts.drop k) o = if st1 o x.f0 = [] then 1 else 1 + skN (ts.drop (k + 1)) (st1 o x.f0) := by
  obtain ⟨hk, e⟩ := List.getElem?_eq_some_iff.1 hx
  rw [List.drop_eq_getElem_cons hk, e]
  rfl
/-- Skip's answer at any number. -/
def skA (ts : List Tok) (i : Int) : Int := if 0 ≤ i ∧ i < ts.length then (skV ts i.toNat : Int) else i
/-- A row that is not empty, and its last one. -/
theorem last_of {o : List Int} (h : o ≠ []) : ∃ m z, o.length = m + 1 ∧ o[m]? = some z ∧ o.getLast? = some z := by
  have hl := List.length_pos_iff.2 h
  refine ⟨o.length - 1, o[o.length - 1], by omega, List.getElem?_eq_getElem (by omega), ?_⟩
  rw [List.getLast?_eq_getElem?, List.getElem?_eq_getElem (by omega)]
theorem iw_step {w W w4 : World} {n : Nat} {l : List Int} {x : Int} {sp sp' : Option Addr} {c c' : Nat} {Y : Obj} (hn : l.length = n) (hf : Fr (fun _ => False) w W) (h2 : OwnsWin W w.heap.size 3 1 (.slice sp n c) n (iZ l))
    (hown : OwnsWin w4 w.heap.size 3 1 (.slice sp' (n + 1) c') (n + 1) (iZ l ++ [.int .i64 x])) (hgrow : (W.alloc Y).grownBy w4 (Value.slice sp n c).ownBlock) :
    IW w (l ++ [x]) (.slice sp' (n + 1) c') w4 := by
  subst hn
  exact IW.step hf h2 hown hgrow
theorem iw_pop {w W : World} {l : List Int} {n c : Nat} {sp : Option Addr} (hf : Fr (fun _ => False) w W) (hn : l.length = n + 1) (h2 : OwnsWin W w.heap.size 3 1 (.slice sp (n + 1) c) (n + 1) (iZ l)) : IW w l.dropLast (.slice sp n c) W := by
  rw [← hn] at h2
  exact IW.pop hf h2 hn

set_option maxHeartbeats 4000000 in
set_option maxRecDepth 100000 in
theorem Skip_any (w : World) (p : Option Addr) (c : Nat) (ts : List Tok) (i : Int) (h : RdT w p ts) (hl : ts.length ≤ 100000) :
    Calls Try.prog 22 #[.slice p ts.length c, .int .i64 i] w fun e w' => e = .returned (.int .i64 (skA ts i)) ∧ Fr (fun _ => False) w w' := by
  obtain ⟨i3, hb0, hb1, hb2, hb3⟩ := info_parts info3
  have HP := Lib.hid h
  clear h
  by_cases h0 : i < 0
  · have q0 : decide (i < (0 : Int)) = true := decide_eq_true h0
    rw [show skA ts i = i from if_neg (by omega)]
    go_enter Try.func22, Try.ntmps22
    go_wp2_with fail
    go_ret
    exact ⟨rfl, Fr.refl _ _⟩
  have q0 : decide (i < (0 : Int)) = false := decide_eq_false h0
  by_cases h1 : (ts.length : Int) ≤ i
  · have q1 : decide ((ts.length : Int) ≤ i) = true := decide_eq_true h1
    rw [show skA ts i = i from if_neg (by omega)]
    go_enter Try.func22, Try.ntmps22
    go_wp2_with fail
    go_ret
    exact ⟨rfl, Fr.refl _ _⟩
  have q1 : decide ((ts.length : Int) ≤ i) = false := decide_eq_false h1
  obtain ⟨n, rfl⟩ : ∃ n : Nat, i = n := ⟨i.toNat, by omega⟩
  have hn : n < ts.length := by omega
  obtain ⟨V, hV⟩ : ∃ V, skV ts n = V := ⟨_, rfl⟩
  rw [show skA ts n = (V : Int) by unfold skA; rw [if_pos (by omega), show (n : Int).toNat = n by omega, hV]]
  have HV0 := Lib.hid (show n + skN (ts.drop n) [] = V from hV)
  clear hV
  go_enter Try.func22, Try.ntmps22
  go_wp2_with fail
  go_loopw [1, 5] (fun iv v wr => ∃ (k : Nat) (o : List Int), iv = .int .i64 k ∧ k ≤ ts.length ∧ o.length ≤ k ∧ Hid (k + skN (ts.drop k) o = V) ∧ Hid (IW w o v wr)) (fun iv _ _ => ts.length - (intOf iv).toNat)
  case atStart => exact ⟨n, [], rfl, by omega, by simp, HV0, Lib.hid (IW.nil (Fr.refl _ _))⟩
  case round =>
    clear HV0
    obtain ⟨k, o, rfl, hk, ho, HS, hI⟩ := hrel
    by_cases hlt : k < ts.length
    · have d0 : decide ((k : Int) < (ts.length : Int)) = true := decide_eq_true (by omega)
      obtain ⟨x, hx⟩ : ∃ x, ts[k]? = some x := ⟨ts[k], List.getElem?_eq_getElem hlt⟩
      obtain ⟨_, g, off, rfl, hg, a0, _⟩ := (HP.out.fr hI.out.fr).at_ hx
      have HN := Lib.hid (skN_at hx o)
      have hk2 : (k : Int) < (ts.length : Int) := by omega
      have CL := Lib.hid (closing_any x.f0)
      obtain ⟨⟨sp, c9, rfl, hO⟩, hF⟩ := hI.out
      have HF := Lib.hid hF
      clear hx hF hI
      by_cases hon : o = []
      · subst hon
        have HO := Lib.hid hO
        clear hO
        have g0 : decide ((0 : Int) < (0 : Int)) = false := by simp
        by_cases hc : cl x.f0 = 0
        · have qc : (cl x.f0 != 0) = false := by simp [hc]
          have HV := Lib.hid (show k + 1 = V by have h1 := HS.out; rw [HN.out, if_pos (by unfold st1; simp [hc])] at h1; exact h1)
          generalize cl x.f0 = cc at *
          rw [List.length_nil] at HO ⊢
          go_upto_region 7 with fail
          go_cut [39] from 25 to 39 (fun v wx => v = .bool false ∧ Hid (Fr (fun _ => False) wr wx))
          case first =>
            go_quiet (fail)
            go_wp2_with fail
            go_meet
            exact ⟨rfl, Lib.hid ⟨rfl, rfl, rfl, Nat.le_refl _, fun _ _ _ => rfl⟩⟩
          case rest =>
          obtain ⟨rfl, hX⟩ := hcut
          have a1 := (hX.out.cell (p := ⟨g, off + k * 5, none⟩) hg (by simp)).trans a0
          have HO2 := Lib.hid (HO.out.fr hX.out (by simp))
          have HF2 := Lib.hid (HF.out.trans hX.out)
          clear HO HF hX a0
          go_wp2_with (first | (go_at_call 39; refine (CL.out _).mono ?_; rintro e w' ⟨rfl, rfl⟩))
          go_ret
          exact ⟨by rw [← HV.out]; rfl, HF2.out⟩
        · have qc : (cl x.f0 != 0) = true := by simp [hc]
          have HT := Lib.hid (show k + 1 + skN (ts.drop (k + 1)) ([] ++ [cl x.f0]) = V by have h1 := HS.out; rw [HN.out, if_neg (by unfold st1; simp [hc]), show st1 [] x.f0 = [] ++ [cl x.f0] by unfold st1; simp [hc]] at h1; omega)
          generalize cl x.f0 = cc at *
          rw [List.length_nil] at HO ⊢
          go_upto_region 7 with fail
          go_cut [39] from 25 to 39 (fun v wx => v = .bool false ∧ Hid (Fr (fun _ => False) wr wx))
          case first =>
            go_quiet (fail)
            go_wp2_with fail
            go_meet
            exact ⟨rfl, Lib.hid ⟨rfl, rfl, rfl, Nat.le_refl _, fun _ _ _ => rfl⟩⟩
          case rest =>
          obtain ⟨rfl, hX⟩ := hcut
          have a1 := (hX.out.cell (p := ⟨g, off + k * 5, none⟩) hg (by simp)).trans a0
          have HO2 := Lib.hid (HO.out.fr hX.out (by simp))
          have HF2 := Lib.hid (HF.out.trans hX.out)
          clear HO HF hX a0
          go_wp2_with (first
            | (go_at_call 39; refine (CL.out _).mono ?_; rintro e w' ⟨rfl, rfl⟩)
            | (at_builtin; refine wpList_append_src _ rfl (.tmp 52) (.tmp 54) 39 rfl w.heap.size 3 i3 _ 1 8 Try.underlying39 hb0 hb1 hb2 hb3 rfl (by omega) (.slice sp 0 c9) 0 _ rfl (HO2.out.fr ((Fr.refl (fun _ => False) _).alloc _) (by simp)) (some ⟨_, 0, none⟩) 1 1 [.int .i64 cc] rfl (SrcW.one (heapNew _ _) rfl) (by simp [Value.oneCell']) (by unfold maxLen; omega) (by omega) (by rw [World.size_alloc]; exact Nat.le_succ_of_le HF2.out.size) ?_; intro s7 c7 w7 hown hgrow _; have R7 := Lib.hid (iw_step rfl HF2.out HO2.out hown hgrow); clear hown hgrow))
          go_roundw
          case rel => exact ⟨k + 1, [] ++ [cc], by go_num, by omega, by first | (simp; done) | (simp; omega), HT, R7⟩
          case measure => simp [intOf]; omega
      · obtain ⟨m, z, hm, hz, hzl⟩ := last_of hon
        rw [hm] at hO ⊢
        have g0 : decide ((0 : Int) < (m : Int) + 1) = true := decide_eq_true (by omega)
        obtain ⟨g2, off2, cap2, e2, _, _, hg2, _, hcl, _⟩ := hO.cells (by omega)
        cases e2
        have l0 : wr.cell? ⟨g2, off2 + m, none⟩ = some (.int .i64 z) := hcl m _ (by unfold iZ; rw [List.getElem?_map, hz]; rfl)
        have HO := Lib.hid hO
        have HON := Lib.hid hon
        have HZ := Lib.hid hzl
        clear hO hcl hg2 hz hon hzl
        by_cases hkz : x.f0 = z
        · have qz : (x.f0 == z) = true := by simp [hkz]
          have HT0 := Lib.hid (show st1 o x.f0 = o.dropLast by unfold st1; rw [if_pos (by rw [HZ.out, hkz])])
          clear hkz
          go_upto_region 7 with fail
          go_cut [39] from 25 to 39 (fun v wx => v = .bool true ∧ Hid (Fr (fun _ => False) wr wx))
          case first =>
            go_quiet (fail)
            go_wp2_with fail
            go_meet
            exact ⟨rfl, Lib.hid ⟨rfl, rfl, rfl, Nat.le_refl _, fun _ _ _ => rfl⟩⟩
          case rest =>
          obtain ⟨rfl, hX⟩ := hcut
          have a1 := (hX.out.cell (p := ⟨g, off + k * 5, none⟩) hg (by simp)).trans a0
          have HO2 := Lib.hid (HO.out.fr hX.out (by simp))
          have HF2 := Lib.hid (HF.out.trans hX.out)
          have HF3 := Lib.hid (iw_pop HF2.out hm HO2.out)
          clear HO HF hX a0
          cases m with
          | zero =>
            have HV := Lib.hid (show k + 1 = V by have h1 := HS.out; rw [HN.out, HT0.out, if_pos (by apply List.eq_nil_of_length_eq_zero; rw [List.length_dropLast]; omega)] at h1; exact h1)
            go_wp2_with fail
            go_ret
            exact ⟨by rw [← HV.out]; rfl, HF2.out⟩
          | succ m =>
            have HT := Lib.hid (show k + 1 + skN (ts.drop (k + 1)) o.dropLast = V by have h1 := HS.out; rw [HN.out, HT0.out, if_neg (by intro e; have := congrArg List.length e; rw [List.length_dropLast] at this; simp at this; omega)] at h1; omega)
            have hdl : o.dropLast.length ≤ k + 1 := by rw [List.length_dropLast]; omega
            have qm : ((m : Int) + 1 == 0) = false := by rw [beq_eq_false_iff_ne]; omega
            go_wp2_with fail
            go_roundw
            case rel => exact ⟨k + 1, o.dropLast, by go_num, by omega, hdl, HT, HF3⟩
            case measure => simp [intOf]; omega
        · have qz : (x.f0 == z) = false := by simp [hkz]
          have HNZ := Lib.hid (show o.getLast? ≠ some x.f0 by rw [HZ.out]; intro e; exact hkz (Option.some.inj e).symm)
          clear hkz
          have qm : ((m : Int) + 1 == 0) = false := by rw [beq_eq_false_iff_ne]; omega
          have qm2 : ((m : Int) + 1 + 1 == 0) = false := by rw [beq_eq_false_iff_ne]; omega
          by_cases hc : cl x.f0 = 0
          · have qc : (cl x.f0 != 0) = false := by simp [hc]
            have HT := Lib.hid (show k + 1 + skN (ts.drop (k + 1)) o = V by have h1 := HS.out; rw [HN.out, show st1 o x.f0 = o by unfold st1; rw [if_neg HNZ.out, if_pos hc], if_neg HON.out] at h1; omega)
            generalize cl x.f0 = cc at *
            go_upto_region 7 with fail
            go_cut [39] from 25 to 39 (fun v wx => v = .bool false ∧ Hid (Fr (fun _ => False) wr wx))
            case first =>
              go_quiet (fail)
              go_wp2_with fail
              go_meet
              exact ⟨rfl, Lib.hid ⟨rfl, rfl, rfl, Nat.le_refl _, fun _ _ _ => rfl⟩⟩
            case rest =>
            obtain ⟨rfl, hX⟩ := hcut
            have a1 := (hX.out.cell (p := ⟨g, off + k * 5, none⟩) hg (by simp)).trans a0
            have HO2 := Lib.hid (HO.out.fr hX.out (by simp))
            have HF2 := Lib.hid (HF.out.trans hX.out)
            have HF3 := Lib.hid (show IW w o (.slice (some ⟨g2, off2, none⟩) (m + 1) c9) _ from ⟨⟨_, c9, by rw [hm], by rw [hm]; exact HO2.out⟩, HF2.out⟩)
            clear HO HF hX a0
            go_wp2_with (first | (go_at_call 39; refine (CL.out _).mono ?_; rintro e w' ⟨rfl, rfl⟩))
            go_roundw
            case rel => exact ⟨k + 1, o, by go_num, by omega, by omega, HT, HF3⟩
            case measure => simp [intOf]; omega
          · have qc : (cl x.f0 != 0) = true := by simp [hc]
            have HT := Lib.hid (show k + 1 + skN (ts.drop (k + 1)) (o ++ [cl x.f0]) = V by have h1 := HS.out; rw [HN.out, show st1 o x.f0 = o ++ [cl x.f0] by unfold st1; rw [if_neg HNZ.out, if_neg hc], if_neg (by simp)] at h1; omega)
            generalize cl x.f0 = cc at *
            go_upto_region 7 with fail
            go_cut [39] from 25 to 39 (fun v wx => v = .bool false ∧ Hid (Fr (fun _ => False) wr wx))
            case first =>
              go_quiet (fail)
              go_wp2_with fail
              go_meet
              exact ⟨rfl, Lib.hid ⟨rfl, rfl, rfl, Nat.le_refl _, fun _ _ _ => rfl⟩⟩
            case rest =>
            obtain ⟨rfl, hX⟩ := hcut
            have a1 := (hX.out.cell (p := ⟨g, off + k * 5, none⟩) hg (by simp)).trans a0
            have HO2 := Lib.hid (HO.out.fr hX.out (by simp))
            have HF2 := Lib.hid (HF.out.trans hX.out)
            clear HO HF hX a0
            go_wp2_with (first
              | (go_at_call 39; refine (CL.out _).mono ?_; rintro e w' ⟨rfl, rfl⟩)
              | (at_builtin; refine wpList_append_src _ rfl (.tmp 52) (.tmp 54) 39 rfl w.heap.size 3 i3 _ 1 8 Try.underlying39 hb0 hb1 hb2 hb3 rfl (by omega) (.slice (some ⟨g2, off2, none⟩) (m + 1) c9) (m + 1) _ rfl (HO2.out.fr ((Fr.refl (fun _ => False) _).alloc _) (by simp)) (some ⟨_, 0, none⟩) 1 1 [.int .i64 cc] rfl (SrcW.one (heapNew _ _) rfl) (by simp [Value.oneCell']) (by unfold maxLen; omega) (by omega) (by rw [World.size_alloc]; exact Nat.le_succ_of_le HF2.out.size) ?_; intro s7 c7 w7 hown hgrow _; have R7 := Lib.hid (iw_step hm HF2.out HO2.out hown hgrow); clear hown hgrow))
            go_roundw
            case rel => exact ⟨k + 1, o ++ [cc], by go_num, by omega, by first | (simp; done) | (simp; omega), HT, R7⟩
            case measure => simp [intOf]; omega
    · obtain rfl : k = ts.length := by omega
      have d0 : decide ((ts.length : Int) < (ts.length : Int)) = false := by simp
      have HV := Lib.hid (show ts.length = V by have h1 := HS.out; rw [List.drop_eq_nil_of_le (Nat.le_refl _)] at h1; exact h1)
      go_wp2_with fail
      go_ret
      exact ⟨by rw [← HV.out]; rfl, hI.out.fr⟩
end Go.Proofs.Ytknpdkfjmhpbpaa
