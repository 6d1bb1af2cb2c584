/- The reference's Decls: the declarations of tokens. No condition but sizes. -/
import Derived.Test.YtknpdkfjmhpbpaaRDecl
import Derived.Test.YtknpdkfjmhpbpaaDParse
import Derived.Test.YtknpdkfjmhpbpaaRAt
namespace Go.Proofs.Ytknpdkfjmhpbpaa
open Go.RowKit Go.Maps Go.ChangeShapes Go.WideShapes Go.ChangeAt Go.WideMaps Go.WideElems

set_option maxRecDepth 100000 in
set_option maxHeartbeats 4000000 in
theorem Decls_any (w : World) (p : Option Addr) (c : Nat) (ts : List Tok) (h : RdT w p ts) (hl : ts.length ≤ 100000) (hc : ts.length ≤ c) (hcm : c ≤ maxLen) :
    Calls Try.prog 28 #[.slice p ts.length c] w fun e w' => ∃ v, e = .returned v ∧ RwD w (decV ts 0) v w' := by
  obtain ⟨i48, hb0, hb1, hb2, hb3⟩ := info_parts info48
  have HP := Lib.hid h
  have HCM := Lib.hid hcm
  unfold maxLen at hcm
  clear h
  obtain ⟨R, hR⟩ : ∃ R, decV ts 0 = R := ⟨_, rfl⟩
  rw [hR]
  have HR0 := Lib.hid hR
  clear hR
  go_enter Try.func28, Try.ntmps28
  go_wp2_with fail
  go_loopw [3, 4] (fun v iv wr => ∃ (k : Nat) (acc : List DeclT), iv = .int .i64 k ∧ k ≤ ts.length ∧ acc.length ≤ k ∧ Hid (acc ++ decV ts k = R) ∧ Hid (RwD w acc v wr)) (fun _ iv _ => ts.length - (intOf iv).toNat)
  case atStart => exact ⟨0, [], rfl, by omega, by simp, Lib.hid (by rw [List.nil_append]; exact HR0.out), Lib.hid (RwD.nil (Fr.refl _ _))⟩
  case round =>
    clear HR0
    obtain ⟨k, acc, rfl, hk, ha, HS, hI⟩ := hrel
    have HPW := Lib.hid (HP.out.fr hI.out.fr)
    by_cases hlt : k < ts.length
    · have d0 : decide ((k : Int) < (ts.length : Int)) = true := decide_eq_true (by omega)
      obtain ⟨x, hx⟩ : ∃ x, ts[k]? = some x := ⟨ts[k], List.getElem?_eq_getElem hlt⟩
      obtain ⟨g, off, hp, a0⟩ := HPW.out.kind hx
      subst hp
      have HN := Lib.hid (decV_at hx)
      have hk2 : (k : Int) < (ts.length : Int) := by omega
      have HGT := Lib.hid (show ¬ (x.f0 = 12 ∨ x.f0 = 12) → k < fndV ts 12 12 k from fun h => fndV_gt ts 12 12 k hlt (by
        obtain ⟨h1, h2⟩ := List.getElem?_eq_some_iff.1 hx
        rw [h2]; exact h))
      clear hx
      by_cases h9 : x.f0 = 9
      · have q9 : (x.f0 == 9) = true := by simp [h9]
        have HT := Lib.hid (show acc ++ decV ts (k + 1) = R by have h1 := HS.out; rw [HN.out, if_pos (.inl h9)] at h1; exact h1)
        go_wp2_with fail
        go_roundw
        case rel => exact ⟨k + 1, acc, by go_num, by omega, by omega, HT, hI⟩
        case measure => simp [intOf]; omega
      have q9 : (x.f0 == 9) = false := by simp [h9]
      by_cases h12 : x.f0 = 12
      · have q12 : (x.f0 == 12) = true := by simp [h12]
        have HT := Lib.hid (show acc ++ decV ts (k + 1) = R by have h1 := HS.out; rw [HN.out, if_pos (.inr h12)] at h1; exact h1)
        go_wp2_with fail
        go_roundw
        case rel => exact ⟨k + 1, acc, by go_num, by omega, by omega, HT, hI⟩
        case measure => simp [intOf]; omega
      have q12 : (x.f0 == 12) = false := by simp [h12]
      by_cases h2 : x.f0 = 2
      · have q2 : (x.f0 == 2) = true := by simp [h2]
        have HT := Lib.hid (show acc ++ decV ts (atV ts k) = R by have h1 := HS.out; rw [HN.out, if_neg (by simp [h9, h12]), if_pos h2] at h1; exact h1)
        have AT := Lib.hid (rat_any wr (some ⟨g, off, none⟩) c ts k HPW.out hl (by omega))
        have hv1 := atV_lt ts k hlt
        have hv2 := atV_le ts k
        generalize atV ts k = m at *
        go_wp2_with (go_at_call 37; refine AT.out.mono ?_; rintro e w5 ⟨rfl, f5⟩; have hI5 := Lib.hid (hI.out.fr0 f5); clear f5)
        go_roundw
        case rel => exact ⟨m, acc, rfl, by omega, by omega, HT, hI5⟩
        case measure => simp [intOf]; omega
      have q2 : (x.f0 == 2) = false := by simp [h2]
      have hm1 : k < fndV ts 12 12 k := HGT.out (by simp [h12])
      have hm2 := fndV_le ts 12 12 k
      replace HN := Lib.hid (show decV ts k = (oneV ((ts.take (fndV ts 12 12 k)).drop k)).toList ++ decV ts (fndV ts 12 12 k) by rw [HN.out, if_neg (by simp [h9, h12]), if_neg h2])
      obtain ⟨m, hmd⟩ : ∃ m, fndV ts 12 12 k = m := ⟨_, rfl⟩
      rw [hmd] at HN hm1 hm2
      have HM := Lib.hid hmd
      clear hmd HGT h9 h12 h2
      obtain ⟨L1, hL1⟩ : ∃ L1, (ts.take m).drop k = L1 := ⟨_, rfl⟩
      obtain ⟨⟨sp, c9, ys, rfl, hO, hY⟩, hF⟩ := hI.out
      have HO := Lib.hid hO
      have HY := Lib.hid hY
      have HF := Lib.hid hF
      clear hO hY hF
      obtain ⟨n, hn⟩ : ∃ n, acc.length = n := ⟨_, rfl⟩
      rw [hn] at HO ⊢
      have HRR := Lib.hid (show RwD w acc (.slice sp n c9) wr by rw [← hn]; exact hI.out)
      obtain ⟨w0, hw0⟩ : ∃ w0, w0 = wr := ⟨_, rfl⟩
      rw [← hw0] at HO HY HF HPW HRR
      have HW0 := Lib.hid (show Fr (fun _ => False) w0 wr by rw [hw0]; exact Fr.refl _ _)
      clear hI hw0
      have ON := Lib.hid (show ∀ W, Fr (fun _ => False) w0 W → Calls Try.prog 42 #[.slice (some ⟨g, off + k * 5, none⟩) (m - k) (c - k)] W fun e w' => ∃ v, e = .returned v ∧ DecV W (oneV L1) v w' ∧ Fr (fun _ => False) W w' from fun W f => rdecl_any W _ L1 (SlT.cutC hL1 (HPW.out.fr f) hm2 hc HCM.out) (by rw [← hL1]; have := cut_len ts k m; omega) (by
        intro e
        have := congrArg List.length (hL1.trans e)
        rw [List.length_drop, List.length_take] at this
        simp at this
        omega))
      rw [hL1] at HN
      have HZ := Lib.hid (show ∀ x ∈ L1, x.f1.size ≤ maxLen from fun x hx => HPW.out.sizes x (by rw [← hL1] at hx; exact List.mem_of_mem_take (List.mem_of_mem_drop hx)))
      have HO1 := Lib.hid (show ∀ D, oneV L1 = some D → ∀ x ∈ D.val, x.f1.size ≤ maxLen from fun D hD x hx => HZ.out x (oneV_sub hD x hx))
      clear hL1 HZ
      go_upto_region 10 with fail
      go_loopw [4] (fun iv wx => ∃ (q : Nat), iv = .int .i64 q ∧ k ≤ q ∧ q ≤ ts.length ∧ Hid (fndV ts 12 12 q = m) ∧ Hid (Fr (fun _ => False) w0 wx)) (fun iv _ => ts.length - (intOf iv).toNat)
      case atStart => exact ⟨k, rfl, by omega, by omega, HM, HW0⟩
      case round =>
        clear HM HW0 a0
        obtain ⟨q0, rfl, hq1, hq2, HM, hFx⟩ := hrel
        by_cases hqlt : q0 < ts.length
        · have d1 : decide ((q0 : Int) < (ts.length : Int)) = true := decide_eq_true (by omega)
          obtain ⟨y, hy⟩ : ∃ y, ts[q0]? = some y := ⟨ts[q0], List.getElem?_eq_getElem hqlt⟩
          obtain ⟨g1, off1, e1, a0⟩ := (HPW.out.fr hFx.out).kind hy
          cases e1
          have HN2 := Lib.hid (fndV_at hy 12 12)
          have hk3 : (q0 : Int) < (ts.length : Int) := by omega
          by_cases h14 : y.f0 = 12
          · have q3 : (y.f0 != 12) = false := by simp [h14]
            obtain rfl : q0 = m := by have h1 := HM.out; rw [HN2.out, if_pos (.inl h14)] at h1; exact h1
            clear hy h14 HN2 HM
            have dl : decide ((q0 : Int) < (ts.length : Int)) = decide ((q0 : Int) < (ts.length : Int)) := rfl
            clear dl
            have hmc : (q0 : Int) ≤ (c : Int) := by omega
            have hmc2 : q0 ≤ c := by omega
            have hkm : (k : Int) ≤ (q0 : Int) := by omega
            have hkc : (c = k) = False := by simp; omega
            cases hO : oneV L1 with
            | none =>
              rw [hO] at HN ON
              have HT := Lib.hid (show acc ++ decV ts q0 = R by have h1 := HS.out; rw [HN.out] at h1; exact h1)
              clear hO HN HS HO1
              go_wp2_with (go_at_call 42; refine (ON.out _ hFx.out).mono ?_; rintro e w6 ⟨v6, rfl, h6, f6⟩; obtain rfl := h6; have R6 := Lib.hid (HRR.out.fr0 ((hFx.out.trans f6).alloc (.cells #[.string ⟨#[]⟩, .slice none 0 0, .bool false] 48))); clear f6)
              go_roundw
              case rel => exact ⟨q0, acc, rfl, by omega, by omega, HT, R6⟩
              case measure => simp [intOf]; omega
            | some D =>
              rw [hO] at HN ON
              have HT := Lib.hid (show (acc ++ [D]) ++ decV ts q0 = R by have h1 := HS.out; rw [HN.out] at h1; rw [List.append_assoc]; exact h1)
              have HZ := Lib.hid (HO1.out D hO)
              clear hO HN HS HO1
              go_wp2_with (first
                | (go_at_call 42; refine (ON.out _ hFx.out).mono ?_; rintro e w6 ⟨v6, rfl, h6, f6⟩; obtain ⟨u6, rfl, s6, c6, rfl, h6, -⟩ := h6; have H6 := Lib.hid (h6.lower (HF.out.trans hFx.out).size); have F6 := Lib.hid ((hFx.out.trans f6).alloc (.cells #[.string D.nm, .slice s6 D.val.length c6, .bool D.imp] 48)); have H7 := Lib.hid (H6.out.fr ((Fr.refl (fun _ => False) _).alloc (.cells #[.string D.nm, .slice s6 D.val.length c6, .bool D.imp] 48)) (by simp)); have C6 := heapNew w6 (.cells #[.string D.nm, .slice s6 D.val.length c6, .bool D.imp] 48); have j0 := cellOf C6 0; have j1 := cellOf C6 1; have j2 := cellOf C6 2; simp at j0 j1 j2; have C7 := heapNew (w6.alloc (.cells #[.string D.nm, .slice s6 D.val.length c6, .bool D.imp] 48)) (.cells #[.string D.nm, .slice s6 D.val.length c6, .bool D.imp] 48); rw [World.size_alloc] at C7; have C8 := Lib.hid C7; clear f6 h6 C6 C7)
                | (at_builtin; refine wpList_append_src _ rfl (.tmp 56) (.tmp 58) 44 rfl w.heap.size 48 i48 _ 3 48 Try.underlying44 hb0 hb1 hb2 hb3 rfl (by omega) (.slice sp n c9) n ys rfl ((HO.out.fr F6.out (by simp)).fr ((Fr.refl (fun _ => False) _).alloc _) (by simp)) (some ⟨_, 0, none⟩) 1 1 [.string D.nm, .slice s6 D.val.length c6, .bool D.imp] rfl (SrcW.one C8.out rfl) (by simp [Value.oneCell']) (by unfold maxLen; omega) (by omega) (by rw [World.size_alloc]; exact Nat.le_succ_of_le (HF.out.trans F6.out).size) ?_; intro s8 c8 w8 hown hgrow _; have R8 := Lib.hid (RwD.step (x := D) hn (HF.out.trans F6.out) (HO.out.fr F6.out (by simp)) (DecsIn.fr F6.out (fun _ _ _ _ _ e => e) HY.out) ⟨s6, c6, rfl, H7.out, HZ.out⟩ hown hgrow); clear hown hgrow))
              go_roundw
              case rel => exact ⟨q0, _, rfl, by omega, by simp; omega, HT, R8⟩
              case measure => simp [intOf]; omega

          · have q3 : (y.f0 != 12) = true := by simp [h14]
            have HT := Lib.hid (show fndV ts 12 12 (skV ts q0) = m by have h1 := HM.out; rw [HN2.out, if_neg (by simp [h14])] at h1; exact h1)
            have SK := Lib.hid (Skip_any' wr (some ⟨g, off, none⟩) c ts q0 (HPW.out.fr hFx.out) hl hqlt)
            have hv1 := skV_lt ts q0 hqlt
            have hv2 := skV_le ts q0 (by omega)
            generalize skV ts q0 = j at *
            go_wp2_with (go_at_call 23; refine SK.out.mono ?_; rintro e w5 ⟨rfl, f5⟩; have F5 := Lib.hid (hFx.out.trans f5); clear f5)
            go_roundw
            case rel => exact ⟨j, rfl, by omega, by omega, HT, F5⟩
            case measure => simp [intOf]; omega
        · obtain rfl : q0 = ts.length := by omega
          have d1 : decide ((ts.length : Int) < (ts.length : Int)) = false := by simp
          obtain rfl : ts.length = m := by have h1 := HM.out; rw [fndV_end] at h1; exact h1
          clear HM
          have dl : decide ((ts.length : Int) < (ts.length : Int)) = decide ((ts.length : Int) < (ts.length : Int)) := rfl
          clear dl
          have hmc : (ts.length : Int) ≤ (c : Int) := by omega
          have hmc2 : ts.length ≤ c := by omega
          have hkm : (k : Int) ≤ (ts.length : Int) := by omega
          have hkc : (c = k) = False := by simp; omega
          cases hO : oneV L1 with
          | none =>
            rw [hO] at HN ON
            have HT := Lib.hid (show acc ++ decV ts ts.length = R by have h1 := HS.out; rw [HN.out] at h1; exact h1)
            clear hO HN HS HO1
            go_wp2_with (go_at_call 42; refine (ON.out _ hFx.out).mono ?_; rintro e w6 ⟨v6, rfl, h6, f6⟩; obtain rfl := h6; have R6 := Lib.hid (HRR.out.fr0 ((hFx.out.trans f6).alloc (.cells #[.string ⟨#[]⟩, .slice none 0 0, .bool false] 48))); clear f6)
            go_roundw
            case rel => exact ⟨ts.length, acc, rfl, by omega, by omega, HT, R6⟩
            case measure => simp [intOf]; omega
          | some D =>
            rw [hO] at HN ON
            have HT := Lib.hid (show (acc ++ [D]) ++ decV ts ts.length = R by have h1 := HS.out; rw [HN.out] at h1; rw [List.append_assoc]; exact h1)
            have HZ := Lib.hid (HO1.out D hO)
            clear hO HN HS HO1
            go_wp2_with (first
              | (go_at_call 42; refine (ON.out _ hFx.out).mono ?_; rintro e w6 ⟨v6, rfl, h6, f6⟩; obtain ⟨u6, rfl, s6, c6, rfl, h6, -⟩ := h6; have H6 := Lib.hid (h6.lower (HF.out.trans hFx.out).size); have F6 := Lib.hid ((hFx.out.trans f6).alloc (.cells #[.string D.nm, .slice s6 D.val.length c6, .bool D.imp] 48)); have H7 := Lib.hid (H6.out.fr ((Fr.refl (fun _ => False) _).alloc (.cells #[.string D.nm, .slice s6 D.val.length c6, .bool D.imp] 48)) (by simp)); have C6 := heapNew w6 (.cells #[.string D.nm, .slice s6 D.val.length c6, .bool D.imp] 48); have j0 := cellOf C6 0; have j1 := cellOf C6 1; have j2 := cellOf C6 2; simp at j0 j1 j2; have C7 := heapNew (w6.alloc (.cells #[.string D.nm, .slice s6 D.val.length c6, .bool D.imp] 48)) (.cells #[.string D.nm, .slice s6 D.val.length c6, .bool D.imp] 48); rw [World.size_alloc] at C7; have C8 := Lib.hid C7; clear f6 h6 C6 C7)
              | (at_builtin; refine wpList_append_src _ rfl (.tmp 56) (.tmp 58) 44 rfl w.heap.size 48 i48 _ 3 48 Try.underlying44 hb0 hb1 hb2 hb3 rfl (by omega) (.slice sp n c9) n ys rfl ((HO.out.fr F6.out (by simp)).fr ((Fr.refl (fun _ => False) _).alloc _) (by simp)) (some ⟨_, 0, none⟩) 1 1 [.string D.nm, .slice s6 D.val.length c6, .bool D.imp] rfl (SrcW.one C8.out rfl) (by simp [Value.oneCell']) (by unfold maxLen; omega) (by omega) (by rw [World.size_alloc]; exact Nat.le_succ_of_le (HF.out.trans F6.out).size) ?_; intro s8 c8 w8 hown hgrow _; have R8 := Lib.hid (RwD.step (x := D) hn (HF.out.trans F6.out) (HO.out.fr F6.out (by simp)) (DecsIn.fr F6.out (fun _ _ _ _ _ e => e) HY.out) ⟨s6, c6, rfl, H7.out, HZ.out⟩ hown hgrow); clear hown hgrow))
            go_roundw
            case rel => exact ⟨ts.length, _, rfl, by omega, by simp; omega, HT, R8⟩
            case measure => simp [intOf]; omega

    · obtain rfl : k = ts.length := by omega
      have d0 : decide ((ts.length : Int) < (ts.length : Int)) = false := by simp
      have HT := Lib.hid (show acc = R by have h1 := HS.out; rw [decV_end, List.append_nil] at h1; exact h1)
      go_wp2_with fail
      go_ret
      exact ⟨_, rfl, by rw [← HT.out]; exact hI.out⟩
end Go.Proofs.Ytknpdkfjmhpbpaa
