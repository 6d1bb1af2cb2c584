/- The reference's at and closed. No condition but sizes. -/
import Derived.Test.YtknpdkfjmhpbpaaAt
namespace Go.Proofs.Ytknpdkfjmhpbpaa
open Go.RowKit Go.Maps Go.ChangeShapes Go.WideShapes Go.ChangeAt Go.WideMaps Go.WideElems

theorem fndV_at {ts : List Tok} {k : Nat} {x : Tok} (hx : ts[k]? = some x) (a b : Int) : fndV ts a b k = if x.f0 = a ∨ x.f0 = b then k else fndV ts a b (skV ts k) := by
  obtain ⟨hk, e⟩ := List.getElem?_eq_some_iff.1 hx
  subst e
  rw [fndV, dif_pos hk]

theorem Skip_any' (w : World) (p : Option Addr) (c : Nat) (ts : List Tok) (k : Nat) (h : RdT w p ts) (hl : ts.length ≤ 100000) (hk : k < ts.length) : Calls Try.prog 23 #[.slice p ts.length c, .int .i64 (k : Int)] w fun e w' => e = .returned (.int .i64 (skV ts k : Int)) ∧ Fr (fun _ => False) w w' := by
  have := rSkip_any w p c ts k h hl
  rwa [skA_in hk] at this

set_option maxRecDepth 100000 in
set_option maxHeartbeats 4000000 in
theorem rat_any (w : World) (p : Option Addr) (c : Nat) (ts : List Tok) (i : Nat) (h : RdT w p ts) (hl : ts.length ≤ 100000) (hi : i < ts.length) :
    Calls Try.prog 37 #[.slice p ts.length c, .int .i64 (i : Int)] w fun e w' => e = .returned (.int .i64 (atV ts i : Int)) ∧ Fr (fun _ => False) w w' := by
  have HP := Lib.hid h
  clear h
  obtain ⟨V, hV⟩ : ∃ V, atV ts i = V := ⟨_, rfl⟩
  rw [hV]
  have HV0 := Lib.hid (show (if fndV ts 12 14 (i + 1) < ts.length then skV ts (fndV ts 12 14 (i + 1)) else ts.length) = V from hV)
  clear hV
  go_enter Try.func37, Try.ntmps37
  go_wp2_with fail
  go_loopw [1] (fun iv wr => ∃ (k : Nat), iv = .int .i64 k ∧ k ≤ ts.length ∧ Hid ((if fndV ts 12 14 k < ts.length then skV ts (fndV ts 12 14 k) else ts.length) = V) ∧ Hid (Fr (fun _ => False) w wr)) (fun iv _ => ts.length - (intOf iv).toNat)
  case atStart => exact ⟨i + 1, by go_num, by omega, HV0, Lib.hid (Fr.refl _ _)⟩
  case round =>
    clear HV0
    obtain ⟨k, rfl, hk, HS, hF⟩ := hrel
    by_cases hlt : k < ts.length
    · have d0 : decide ((k : Int) < (ts.length : Int)) = true := decide_eq_true (by omega)
      obtain ⟨x, hx⟩ : ∃ x, ts[k]? = some x := ⟨ts[k], List.getElem?_eq_getElem hlt⟩
      obtain ⟨g, off, hp, a0⟩ := (HP.out.fr hF.out).kind hx
      subst hp
      have hk2 : (k : Int) < (ts.length : Int) := by omega
      have HN := Lib.hid (fndV_at hx 12 14)
      have SK := Lib.hid (Skip_any' wr (some ⟨g, off, none⟩) c ts k (HP.out.fr hF.out) hl hlt)
      have hv1 := skV_lt ts k hlt
      have hv2 := skV_le ts k (by omega)
      by_cases h12 : x.f0 = 12
      · have q1 : (x.f0 == 12) = true := by simp [h12]
        have HV := Lib.hid (show k + 1 = V by
          have h1 := HS.out
          rw [show fndV ts 12 14 k = k by rw [HN.out, if_pos (.inl h12)], if_pos hlt] at h1
          rw [skV_one ts k hlt (by have := (List.getElem?_eq_some_iff.1 hx).2; rw [this, h12]; decide)] at h1
          exact h1)
        clear hx
        go_wp2_with fail
        go_ret
        exact ⟨by rw [← HV.out]; rfl, hF.out⟩
      have q1 : (x.f0 == 12) = false := by simp [h12]
      by_cases h14 : x.f0 = 14
      · have q2 : (x.f0 == 14) = true := by simp [h14]
        have HV := Lib.hid (show skV ts k = V by
          have h1 := HS.out
          rw [show fndV ts 12 14 k = k by rw [HN.out, if_pos (.inr h14)], if_pos hlt] at h1
          exact h1)
        clear hx
        generalize skV ts k = j at *
        go_wp2_with (go_at_call 23; refine SK.out.mono ?_; rintro e w5 ⟨rfl, f5⟩; have hF5 := Lib.hid (hF.out.trans f5); clear f5)
        go_ret
        exact ⟨by rw [← HV.out]; rfl, hF5.out⟩
      · have q2 : (x.f0 == 14) = false := by simp [h14]
        have HT := Lib.hid (show (if fndV ts 12 14 (skV ts k) < ts.length then skV ts (fndV ts 12 14 (skV ts k)) else ts.length) = V by
          have h1 := HS.out
          rw [show fndV ts 12 14 k = fndV ts 12 14 (skV ts k) by rw [HN.out, if_neg (by simp [h12, h14])]] at h1
          exact h1)
        clear hx HS HN
        generalize skV ts k = j at *
        go_wp2_with (go_at_call 23; refine SK.out.mono ?_; rintro e w5 ⟨rfl, f5⟩; have hF5 := Lib.hid (hF.out.trans f5); clear f5)
        go_roundw
        case rel => exact ⟨j, rfl, by omega, HT, hF5⟩
        case measure => simp [intOf]; omega
    · obtain rfl : k = ts.length := by omega
      have d0 : decide ((ts.length : Int) < (ts.length : Int)) = false := by simp
      have HV := Lib.hid (show ts.length = V by have h1 := HS.out; rw [fndV_end, if_neg (by omega)] at h1; exact h1)
      go_wp2_with fail
      go_ret
      exact ⟨by rw [← HV.out]; rfl, hF.out⟩

/-- Where the walk over a thing stands. -/
def CLR (ts : List Tok) (E : Nat) (Sf : List Int) (k : Nat) (o : List Int) : Prop := (k = E ∧ o = Sf) ∨ (k < E ∧ k + skN (ts.drop k) o = E ∧ skS (ts.drop k) o = Sf)
theorem skS_at {ts : List Tok} {k : Nat} {x : Tok} (hx : ts[k]? = some x) (o : List Int) : skS (ts.drop k) o = if st1 o x.f0 = [] then [] else skS (ts.drop (k + 1)) (st1 o x.f0) := by
  obtain ⟨hk, e⟩ := List.getElem?_eq_some_iff.1 hx
  rw [List.drop_eq_getElem_cons hk, e]
  rfl
theorem CLR.step {ts : List Tok} {E k : Nat} {Sf o : List Int} {x : Tok} (h : CLR ts E Sf k o) (hk : k < E) (hx : ts[k]? = some x) : CLR ts E Sf (k + 1) (st1 o x.f0) := by
  rcases h with ⟨h1, _⟩ | ⟨_, h2, h3⟩
  · omega
  · rw [skN_at hx] at h2
    rw [skS_at hx] at h3
    by_cases e : st1 o x.f0 = []
    · rw [if_pos e] at h2 h3
      left
      exact ⟨h2, by rw [e, h3]⟩
    · rw [if_neg e] at h2 h3
      by_cases e2 : k + 1 < E
      · exact .inr ⟨e2, by omega, h3⟩
      · left
        have hz : skN (ts.drop (k + 1)) (st1 o x.f0) = 0 := by omega
        cases hd : ts.drop (k + 1) with
        | nil =>
          rw [hd] at h3
          exact ⟨by omega, h3⟩
        | cons y r =>
          rw [hd] at hz
          have := skN_pos y r (st1 o x.f0)
          omega

set_option maxRecDepth 100000 in
set_option maxHeartbeats 4000000 in
theorem closed_any (w : World) (p : Option Addr) (c : Nat) (ts : List Tok) (i : Nat) (h : RdT w p ts) (hl : ts.length ≤ 100000) (hi : i < ts.length) :
    Calls Try.prog 38 #[.slice p ts.length c, .int .i64 (i : Int), .int .i64 (skV ts i : Int)] w fun e w' => e = .returned (.bool (((skS (ts.drop i) []).length : Int) == 0)) ∧ Fr (fun _ => False) w w' := by
  obtain ⟨i3, hb0, hb1, hb2, hb3⟩ := info_parts info3
  have HP := Lib.hid h
  clear h
  have hE := skV_le ts i (by omega)
  have hE1 := skV_lt ts i hi
  have HC0 := Lib.hid (show CLR ts (skV ts i) (skS (ts.drop i) []) i [] from .inr ⟨hE1, rfl, rfl⟩)
  generalize skS (ts.drop i) [] = Sf at *
  generalize skV ts i = E at *
  go_enter Try.func38, Try.ntmps38
  go_wp2_with fail
  go_loopw [1, 7] (fun iv v wr => ∃ (k : Nat) (o : List Int), iv = .int .i64 k ∧ k ≤ E ∧ o.length ≤ k ∧ Hid (CLR ts E Sf k o) ∧ Hid (Shut o) ∧ Hid (IW w o v wr)) (fun iv _ _ => E - (intOf iv).toNat)
  case atStart => exact ⟨i, [], rfl, by omega, by simp, HC0, Lib.hid (fun x hx => by simp at hx), Lib.hid (IW.nil (Fr.refl _ _))⟩
  case round =>
    clear HC0
    obtain ⟨k, o, rfl, hk, ho, HS, HSH, hI⟩ := hrel
    obtain ⟨⟨sp, c9, rfl, hO⟩, hF⟩ := hI.out
    by_cases hlt : k < E
    · have d0 : decide ((k : Int) < (E : Int)) = true := decide_eq_true (by omega)
      obtain ⟨x, hx⟩ : ∃ x, ts[k]? = some x := ⟨ts[k], List.getElem?_eq_getElem (by omega)⟩
      obtain ⟨_, g, off, rfl, hg, a0, _⟩ := (HP.out.fr hF).at_ hx
      have HSTEP := Lib.hid (HS.out.step hlt hx)
      have HR := Lib.hid (st1_ref HSH.out x.f0)
      have HSH2 := Lib.hid (HSH.out.st1 x.f0)
      have hk2 : (k : Int) < (ts.length : Int) := by omega
      have CL := Lib.hid (rclosing_any x.f0)
      have hcn := cl_nonneg x.f0
      have HF := Lib.hid hF
      clear hx hF hI
      obtain ⟨m, hm⟩ : ∃ m, o.length = m := ⟨_, rfl⟩
      rw [hm] at hO ⊢
      have HO := Lib.hid hO
      by_cases hc : 0 < cl x.f0
      · have qc : decide ((0 : Int) < cl x.f0) = true := decide_eq_true hc
        have H1 := Lib.hid (show st1 o x.f0 = o ++ [cl x.f0] by rw [HR.out, if_pos hc])
        have HSH3 := Lib.hid (show Shut (o ++ [cl x.f0]) by rw [← H1.out]; exact HSH2.out)
        generalize cl x.f0 = cc at *
        clear hO HR HSH2 hc hcn
        go_wp2_with (first
          | (go_at_call 40; refine (CL.out _).mono ?_; rintro e w' ⟨rfl, rfl⟩)
          | (at_builtin; refine wpList_append_src _ rfl (.tmp 23) (.tmp 25) 39 rfl w.heap.size 3 i3 _ 1 8 Try.underlying39 hb0 hb1 hb2 hb3 rfl (by omega) (.slice sp m c9) m _ rfl (HO.out.fr ((Fr.refl (fun _ => False) _).alloc _) (by simp)) (some ⟨_, 0, none⟩) 1 1 [.int .i64 cc] rfl (SrcW.one (heapNew _ _) rfl) (by simp [Value.oneCell']) (by unfold maxLen; omega) (by omega) (by rw [World.size_alloc]; exact Nat.le_succ_of_le HF.out.size) ?_; intro s7 c7 w7 hown hgrow _; have R7 := Lib.hid (iw_step hm HF.out HO.out hown hgrow); clear hown hgrow))
        go_roundw
        case rel => exact ⟨k + 1, o ++ [cc], by go_num, by omega, by simp; omega, Lib.hid (by have := HSTEP.out; rw [H1.out] at this; exact this), Lib.hid HSH3.out, R7⟩
        case measure => simp [intOf]; omega
      · have hc0 : cl x.f0 = 0 := by omega
        have qc : decide ((0 : Int) < cl x.f0) = false := decide_eq_false hc
        by_cases hon : o = []
        · subst hon
          obtain rfl : m = 0 := by simpa using hm.symm
          have g0 : decide ((0 : Int) < (0 : Int)) = false := by simp
          have H1 := Lib.hid (show st1 [] x.f0 = [] by rw [HR.out, if_neg hc]; rfl)
          have HI9 := Lib.hid (show IW w [] (.slice sp 0 c9) wr from ⟨⟨_, _, rfl, HO.out⟩, HF.out⟩)
          generalize cl x.f0 = cc at *
          clear hO HR HSH2 hc hcn hc0
          go_upto_region 7 with (first | (go_at_call 40; refine (CL.out _).mono ?_; rintro e w' ⟨rfl, rfl⟩))
          go_cut [27] from 28 to 44 (fun v wx => v = .bool false ∧ Hid (Fr (fun _ => False) w' wx))
          case first =>
            go_quiet (fail)
            go_wp2_with fail
            go_meet
            exact ⟨rfl, Lib.hid ⟨rfl, rfl, rfl, Nat.le_refl _, fun _ _ _ => rfl⟩⟩
          case rest =>
          obtain ⟨rfl, hX⟩ := hcut
          have HI8 := Lib.hid (HI9.out.fr0 hX.out)
          go_wp2_with fail
          go_roundw
          case rel => exact ⟨k + 1, [], by go_num, by omega, by simp, Lib.hid (by have := HSTEP.out; rw [H1.out] at this; exact this), Lib.hid HSH.out, HI8⟩
          case measure => simp [intOf]; omega
        · obtain ⟨m', z, hm', hz, hzl⟩ := last_of hon
          obtain rfl : m = m' + 1 := by omega
          have g0 : decide ((0 : Int) < (m' : Int) + 1) = true := decide_eq_true (by omega)
          obtain ⟨g2, off2, cap2, e2, _, _, hg2, _, hcl, _⟩ := hO.cells (by omega)
          cases e2
          have l0 : wr.cell? ⟨g2, off2 + m', none⟩ = some (.int .i64 z) := hcl m' _ (by unfold iZ; rw [List.getElem?_map, hz]; rfl)
          have HON := Lib.hid hon
          have HZ := Lib.hid hzl
          clear hO hcl hg2 hz hon hzl
          by_cases hkz : x.f0 = z
          · have qz : (x.f0 == z) = true := by simp [hkz]
            have H1 := Lib.hid (show st1 o x.f0 = o.dropLast by rw [HR.out, if_neg hc, if_pos (by rw [HZ.out, hkz])])
            have HF3 := Lib.hid (iw_pop HF.out hm' HO.out)
            have HSH3 := Lib.hid (show Shut o.dropLast by rw [← H1.out]; exact HSH2.out)
            generalize cl x.f0 = cc at *
            clear hkz HR HSH2 hc hcn hc0
            have hdl : o.dropLast.length ≤ k + 1 := by rw [List.length_dropLast]; omega
            go_upto_region 7 with (first | (go_at_call 40; refine (CL.out _).mono ?_; rintro e w' ⟨rfl, rfl⟩))
            go_cut [27] from 28 to 44 (fun v wx => v = .bool true ∧ Hid (Fr (fun _ => False) w' wx))
            case first =>
              go_quiet (fail)
              go_wp2_with fail
              go_meet
              exact ⟨rfl, Lib.hid ⟨rfl, rfl, rfl, Nat.le_refl _, fun _ _ _ => rfl⟩⟩
            case rest =>
            obtain ⟨rfl, hX⟩ := hcut
            have HI8 := Lib.hid (HF3.out.fr0 hX.out)
            go_wp2_with fail
            go_roundw
            case rel => exact ⟨k + 1, o.dropLast, by go_num, by omega, hdl, Lib.hid (by have := HSTEP.out; rw [H1.out] at this; exact this), Lib.hid HSH3.out, HI8⟩
            case measure => simp [intOf]; omega
          · have qz : (x.f0 == z) = false := by simp [hkz]
            have H1 := Lib.hid (show st1 o x.f0 = o by rw [HR.out, if_neg hc, if_neg (by rw [HZ.out]; intro e; exact hkz (Option.some.inj e).symm)])
            have HF3 := Lib.hid (show IW w o (.slice (some ⟨g2, off2, none⟩) (m' + 1) c9) wr from ⟨⟨_, c9, by rw [hm], by rw [hm]; exact HO.out⟩, HF.out⟩)
            generalize cl x.f0 = cc at *
            clear hkz HR HSH2 hc hcn hc0
            go_upto_region 7 with (first | (go_at_call 40; refine (CL.out _).mono ?_; rintro e w' ⟨rfl, rfl⟩))
            go_cut [27] from 28 to 44 (fun v wx => v = .bool false ∧ Hid (Fr (fun _ => False) w' wx))
            case first =>
              go_quiet (fail)
              go_wp2_with fail
              go_meet
              exact ⟨rfl, Lib.hid ⟨rfl, rfl, rfl, Nat.le_refl _, fun _ _ _ => rfl⟩⟩
            case rest =>
            obtain ⟨rfl, hX⟩ := hcut
            have HI8 := Lib.hid (HF3.out.fr0 hX.out)
            go_wp2_with fail
            go_roundw
            case rel => exact ⟨k + 1, o, by go_num, by omega, by omega, Lib.hid (by have := HSTEP.out; rw [H1.out] at this; exact this), Lib.hid HSH.out, HI8⟩
            case measure => simp [intOf]; omega
    · obtain rfl : k = E := by omega
      have d0 : decide ((k : Int) < (k : Int)) = false := by simp
      have HV := Lib.hid (show o = Sf by rcases HS.out with ⟨_, h⟩ | ⟨h, _⟩; exact h; omega)
      have HF := Lib.hid hF
      clear hO hF
      go_wp2_with fail
      go_ret
      exact ⟨by rw [← HV.out]; rfl, HF.out⟩
end Go.Proofs.Ytknpdkfjmhpbpaa
