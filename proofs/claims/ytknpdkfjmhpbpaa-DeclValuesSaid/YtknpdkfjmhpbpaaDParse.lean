/- decl.Parse: the declarations of tokens. No condition but sizes. -/
import Derived.Test.YtknpdkfjmhpbpaaDecs
namespace Go.Proofs.Ytknpdkfjmhpbpaa
open Go.RowKit Go.Maps Go.ChangeShapes Go.WideShapes Go.ChangeAt Go.WideMaps Go.WideElems

theorem SlT.cutC {w : World} {g off c : Nat} {ts : List Tok} {i j : Nat} {L : List Tok} (hL : (ts.take j).drop i = L) (h : RdT w (some ⟨g, off, none⟩) ts) (hj : j ≤ ts.length) (hc : ts.length ≤ c) (hcm : c ≤ maxLen) : SlT w (.slice (some ⟨g, off + i * 5, none⟩) (j - i) (c - i)) L := by
  subst hL
  have h2 := h.cutA i j
  rw [Option.map_some, addOf _ _ rfl] at h2
  have hl : ((ts.take j).drop i).length = j - i := by simp; omega
  exact ⟨_, _, by rw [hl], h2, by rw [hl]; omega, Nat.le_trans (Nat.sub_le _ _) hcm⟩

set_option maxRecDepth 100000 in
set_option maxHeartbeats 4000000 in
theorem DParse_any (w : World) (p : Option Addr) (c : Nat) (ts : List Tok) (h : RdT w p ts) (hl : ts.length ≤ 100000) (hc : ts.length ≤ c) (hcm : c ≤ maxLen) :
    Calls Try.prog 27 #[.slice p ts.length c] w fun e w' => ∃ v, e = .returned v ∧ RwD w (decV ts 0) v w' := by
  obtain ⟨i48, hb0, hb1, hb2, hb3⟩ := info_parts info48
  have HP := Lib.hid h
  have HCM := Lib.hid hcm
  unfold maxLen at hcm
  clear h
  obtain ⟨R, hR⟩ : ∃ R, decV ts 0 = R := ⟨_, rfl⟩
  rw [hR]
  have HR0 := Lib.hid hR
  clear hR
  go_enter Try.func27, Try.ntmps27
  go_wp2_with fail
  go_loopw [3, 4] (fun v iv wr => ∃ (k : Nat) (acc : List DeclT), iv = .int .i64 k ∧ k ≤ ts.length ∧ acc.length ≤ k ∧ Hid (acc ++ decV ts k = R) ∧ Hid (RwD w acc v wr)) (fun _ iv _ => ts.length - (intOf iv).toNat)
  case atStart => exact ⟨0, [], rfl, by omega, by simp, Lib.hid (by rw [List.nil_append]; exact HR0.out), Lib.hid (RwD.nil (Fr.refl _ _))⟩
  case round =>
    clear HR0
    obtain ⟨k, acc, rfl, hk, ha, HS, hI⟩ := hrel
    have HPW := Lib.hid (HP.out.fr hI.out.fr)
    by_cases hlt : k < ts.length
    · have d0 : decide ((k : Int) < (ts.length : Int)) = true := decide_eq_true (by omega)
      obtain ⟨x, hx⟩ : ∃ x, ts[k]? = some x := ⟨ts[k], List.getElem?_eq_getElem hlt⟩
      obtain ⟨g, off, hp, a0⟩ := HPW.out.kind hx
      subst hp
      have HN := Lib.hid (decV_at hx)
      have hk2 : (k : Int) < (ts.length : Int) := by omega
      have HGT := Lib.hid (show ¬ (x.f0 = 12 ∨ x.f0 = 12) → k < fndV ts 12 12 k from fun h => fndV_gt ts 12 12 k hlt (by
        obtain ⟨h1, h2⟩ := List.getElem?_eq_some_iff.1 hx
        rw [h2]; exact h))
      clear hx
      by_cases h9 : x.f0 = 9
      · have q9 : (x.f0 == 9) = true := by simp [h9]
        have HT := Lib.hid (show acc ++ decV ts (k + 1) = R by have h1 := HS.out; rw [HN.out, if_pos (.inl h9)] at h1; exact h1)
        go_wp2_with fail
        go_roundw
        case rel => exact ⟨k + 1, acc, by go_num, by omega, by omega, HT, hI⟩
        case measure => simp [intOf]; omega
      have q9 : (x.f0 == 9) = false := by simp [h9]
      by_cases h12 : x.f0 = 12
      · have q12 : (x.f0 == 12) = true := by simp [h12]
        have HT := Lib.hid (show acc ++ decV ts (k + 1) = R by have h1 := HS.out; rw [HN.out, if_pos (.inr h12)] at h1; exact h1)
        go_wp2_with fail
        go_roundw
        case rel => exact ⟨k + 1, acc, by go_num, by omega, by omega, HT, hI⟩
        case measure => simp [intOf]; omega
      have q12 : (x.f0 == 12) = false := by simp [h12]
      by_cases h2 : x.f0 = 2
      · have q2 : (x.f0 == 2) = true := by simp [h2]
        have HT := Lib.hid (show acc ++ decV ts (atV ts k) = R by have h1 := HS.out; rw [HN.out, if_neg (by simp [h9, h12]), if_pos h2] at h1; exact h1)
        have AT := Lib.hid (At_any wr (some ⟨g, off, none⟩) c ts k HPW.out hl (by omega))
        have hv1 := atV_lt ts k hlt
        have hv2 := atV_le ts k
        generalize atV ts k = m at *
        go_wp2_with fail
        refine AT.out.mono ?_
        rintro e w5 ⟨rfl, f5⟩
        have hI5 := Lib.hid (hI.out.fr0 f5)
        clear f5 hI AT
        go_wp2_with fail
        go_roundw
        case rel => exact ⟨m, acc, rfl, by omega, by omega, HT, hI5⟩
        case measure => simp [intOf]; omega
      have q2 : (x.f0 == 2) = false := by simp [h2]
      have FN := Lib.hid (Find_any wr (some ⟨g, off, none⟩) c ts k 12 12 HPW.out hl)
      have hm1 : k < fndV ts 12 12 k := HGT.out (by simp [h12])
      have hm2 := fndV_le ts 12 12 k
      replace HN := Lib.hid (show decV ts k = (oneV ((ts.take (fndV ts 12 12 k)).drop k)).toList ++ decV ts (fndV ts 12 12 k) by rw [HN.out, if_neg (by simp [h9, h12]), if_neg h2])
      have HDL := Lib.hid (decV_len ts (fndV ts 12 12 k) hm2)
      generalize fndV ts 12 12 k = m at *
      obtain ⟨L1, hL1⟩ : ∃ L1, (ts.take m).drop k = L1 := ⟨_, rfl⟩
      have ON := Lib.hid (show ∀ W, Fr (fun _ => False) wr W → Calls Try.prog 41 #[.slice (some ⟨g, off + k * 5, none⟩) (m - k) (c - k)] W fun e w' => ∃ v, e = .returned v ∧ DecV W (oneV L1) v w' ∧ Fr (fun _ => False) W w' from fun W f => one_any W _ L1 (SlT.cutC hL1 (HPW.out.fr f) hm2 hc HCM.out) (by rw [← hL1]; have := cut_len ts k m; omega))
      rw [hL1] at HN
      have HZ := Lib.hid (show ∀ x ∈ L1, x.f1.size ≤ maxLen from fun x hx => HPW.out.sizes x (by rw [← hL1] at hx; exact List.mem_of_mem_take (List.mem_of_mem_drop hx)))
      have hm3 : (m : Int) ≤ (ts.length : Int) := by omega
      have hm4 : (m : Int) ≤ (c : Int) := by omega
      have hm5 : (k : Int) ≤ (m : Int) := by omega
      have hkc : ((c : Int) == (k : Int)) = false := by rw [beq_eq_false_iff_ne]; omega
      have HO1 := Lib.hid (show ∀ D, oneV L1 = some D → ∀ x ∈ D.val, x.f1.size ≤ maxLen from fun D hD x hx => HZ.out x (oneV_sub hD x hx))
      clear hL1 h9 h12 h2 HZ HGT
      cases hO : oneV L1 with
      | none =>
        rw [hO] at HN ON
        have HT := Lib.hid (show acc ++ decV ts m = R by have h1 := HS.out; rw [HN.out] at h1; exact h1)
        clear hO HN HS HDL HO1
        go_wp2_with (first
          | (go_at_call 34; refine FN.out.mono ?_; rintro e w5 ⟨rfl, f5⟩; have F5 := Lib.hid f5; clear f5)
          | (go_at_call 41; refine (ON.out _ F5.out).mono ?_; rintro e w6 ⟨v6, rfl, h6, f6⟩; obtain rfl := h6; have R6 := Lib.hid (hI.out.fr0 ((F5.out.trans f6).alloc (.cells #[.string ⟨#[]⟩, .slice none 0 0, .bool false] 48))); clear f6))
        go_roundw
        case rel => exact ⟨m, acc, rfl, by omega, by omega, HT, R6⟩
        case measure => simp [intOf]; omega
      | some D =>
        rw [hO] at HN ON
        have HT := Lib.hid (show (acc ++ [D]) ++ decV ts m = R by have h1 := HS.out; rw [HN.out] at h1; rw [List.append_assoc]; exact h1)
        have HZ := Lib.hid (HO1.out D hO)
        clear hO HN HS HDL HO1
        obtain ⟨⟨sp, c9, ys, rfl, hO, hY⟩, hF⟩ := hI.out
        have HO := Lib.hid hO
        have HY := Lib.hid hY
        have HF := Lib.hid hF
        clear hO hY hF hI
        obtain ⟨n, hn⟩ : ∃ n, acc.length = n := ⟨_, rfl⟩
        rw [hn] at HO ⊢
        go_wp2_with (first
          | (go_at_call 34; refine FN.out.mono ?_; rintro e w5 ⟨rfl, f5⟩; have F5 := Lib.hid f5; clear f5)
          | (go_at_call 41; refine (ON.out _ F5.out).mono ?_; rintro e w6 ⟨v6, rfl, h6, f6⟩; obtain ⟨u6, rfl, s6, c6, rfl, h6, -⟩ := h6; have H6 := Lib.hid (h6.lower (HF.out.trans F5.out).size); have F6 := Lib.hid ((F5.out.trans f6).alloc (.cells #[.string D.nm, .slice s6 D.val.length c6, .bool D.imp] 48)); have H7 := Lib.hid (H6.out.fr ((Fr.refl (fun _ => False) _).alloc (.cells #[.string D.nm, .slice s6 D.val.length c6, .bool D.imp] 48)) (by simp)); have C6 := heapNew w6 (.cells #[.string D.nm, .slice s6 D.val.length c6, .bool D.imp] 48); have j0 := cellOf C6 0; have j1 := cellOf C6 1; have j2 := cellOf C6 2; simp at j0 j1 j2; have C7 := heapNew (w6.alloc (.cells #[.string D.nm, .slice s6 D.val.length c6, .bool D.imp] 48)) (.cells #[.string D.nm, .slice s6 D.val.length c6, .bool D.imp] 48); rw [World.size_alloc] at C7; have C8 := Lib.hid C7; clear f6 h6 C6 C7)
          | (at_builtin; refine wpList_append_src _ rfl (.tmp 39) (.tmp 41) 44 rfl w.heap.size 48 i48 _ 3 48 Try.underlying44 hb0 hb1 hb2 hb3 rfl (by omega) (.slice sp n c9) n ys rfl ((HO.out.fr F6.out (by simp)).fr ((Fr.refl (fun _ => False) _).alloc _) (by simp)) (some ⟨_, 0, none⟩) 1 1 [.string D.nm, .slice s6 D.val.length c6, .bool D.imp] rfl (SrcW.one C8.out rfl) (by simp [Value.oneCell']) (by unfold maxLen; omega) (by omega) (by rw [World.size_alloc]; exact Nat.le_succ_of_le (HF.out.trans F6.out).size) ?_; intro s8 c8 w8 hown hgrow _; have R8 := Lib.hid (RwD.step (x := D) hn (HF.out.trans F6.out) (HO.out.fr F6.out (by simp)) (DecsIn.fr F6.out (fun _ _ _ _ _ e => e) HY.out) ⟨s6, c6, rfl, H7.out, HZ.out⟩ hown hgrow); clear hown hgrow))
        go_roundw
        case rel => exact ⟨m, _, rfl, by omega, by simp; omega, HT, R8⟩
        case measure => simp [intOf]; omega
    · obtain rfl : k = ts.length := by omega
      have d0 : decide ((ts.length : Int) < (ts.length : Int)) = false := by simp
      have HT := Lib.hid (show acc = R by have h1 := HS.out; rw [decV_end, List.append_nil] at h1; exact h1)
      go_wp2_with fail
      go_ret
      exact ⟨_, rfl, by rw [← HT.out]; exact hI.out⟩
end Go.Proofs.Ytknpdkfjmhpbpaa
