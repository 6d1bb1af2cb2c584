/- rules.Parse: the rules of tokens. No condition but sizes. -/
import Derived.Test.YtknpdkfjmhpbpaaRaws
namespace Go.Proofs.Ytknpdkfjmhpbpaa
open Go.RowKit Go.Maps Go.ChangeShapes Go.WideShapes Go.ChangeAt Go.WideMaps Go.WideElems

theorem cloneC_any (w : World) (g off c : Nat) (ts : List Tok) (i j : Nat) (L : List Tok) (hL : (ts.take j).drop i = L) (h : RdT w (some ⟨g, off, none⟩) ts) (hl : ts.length ≤ 100000) (hj : j ≤ ts.length) :
    Calls Try.prog 35 #[.slice (some ⟨g, off + i * 5, none⟩) (j - i) c] w fun e w' => ∃ v, e = .returned v ∧ NewT w L v w' := by
  have := cloneA_any w (some ⟨g, off, none⟩) c ts i j L hL h hl hj
  rwa [Option.map_some, addOf _ _ rfl] at this

set_option maxRecDepth 100000 in
set_option maxHeartbeats 4000000 in
theorem Parse_any (w : World) (p : Option Addr) (c : Nat) (ts : List Tok) (h : RdT w p ts) (hl : ts.length ≤ 100000) (hc : ts.length ≤ c) (hcm : c ≤ maxLen) :
    Calls Try.prog 18 #[.slice p ts.length c] w fun e w' => ∃ v, e = .returned v ∧ RwR w (parV ts 0) v w' := by
  obtain ⟨i37, hb0, hb1, hb2, hb3⟩ := info_parts info37
  have HP := Lib.hid h
  have HCM := Lib.hid hcm
  unfold maxLen at hcm
  clear h
  obtain ⟨R, hR⟩ : ∃ R, parV ts 0 = R := ⟨_, rfl⟩
  rw [hR]
  have HR0 := Lib.hid hR
  clear hR
  go_enter Try.func18, Try.ntmps18
  go_wp2_with fail
  go_loopw [3, 4] (fun v iv wr => ∃ (k : Nat) (acc : List RawT), iv = .int .i64 k ∧ k ≤ ts.length ∧ acc.length ≤ k ∧ Hid (acc ++ parV ts k = R) ∧ Hid (RwR w acc v wr)) (fun _ iv _ => ts.length - (intOf iv).toNat)
  case atStart => exact ⟨0, [], rfl, by omega, by simp, Lib.hid (by rw [List.nil_append]; exact HR0.out), Lib.hid (RwR.nil (Fr.refl _ _))⟩
  case round =>
    clear HR0
    obtain ⟨k, acc, rfl, hk, ha, HS, hI⟩ := hrel
    have HPW := Lib.hid (HP.out.fr hI.out.fr)
    by_cases hlt : k < ts.length
    · have d0 : decide ((k : Int) < (ts.length : Int)) = true := decide_eq_true (by omega)
      obtain ⟨x, hx⟩ : ∃ x, ts[k]? = some x := ⟨ts[k], List.getElem?_eq_getElem hlt⟩
      obtain ⟨g, off, hp, a0⟩ := HPW.out.kind hx
      subst hp
      have HN := Lib.hid (parV_at hx)
      have hk2 : (k : Int) < (ts.length : Int) := by omega
      clear hx
      by_cases h9 : x.f0 = 9
      · have q9 : (x.f0 == 9) = true := by simp [h9]
        have HT := Lib.hid (show acc ++ parV ts (k + 1) = R by have h1 := HS.out; rw [HN.out, if_pos h9] at h1; exact h1)
        go_wp2_with fail
        go_roundw
        case rel => exact ⟨k + 1, acc, by go_num, by omega, by omega, HT, hI⟩
        case measure => simp [intOf]; omega
      have q9 : (x.f0 == 9) = false := by simp [h9]
      by_cases h2 : x.f0 = 2
      · have q2 : (x.f0 == 2) = true := by simp [h2]
        have HT := Lib.hid (show acc ++ parV ts (atV ts k) = R by have h1 := HS.out; rw [HN.out, if_neg h9, if_pos h2] at h1; exact h1)
        have AT := Lib.hid (At_any wr (some ⟨g, off, none⟩) c ts k HPW.out hl (by omega))
        have hv1 := atV_lt ts k hlt
        have hv2 := atV_le ts k
        generalize atV ts k = m at *
        go_wp2_with fail
        refine AT.out.mono ?_
        rintro e w5 ⟨rfl, f5⟩
        have hI5 := Lib.hid (hI.out.fr0 f5)
        clear f5 hI AT
        go_wp2_with fail
        go_roundw
        case rel => exact ⟨m, acc, rfl, by omega, by omega, HT, hI5⟩
        case measure => simp [intOf]; omega
      have q2 : (x.f0 == 2) = false := by simp [h2]
      have FN := Lib.hid (Find_any wr (some ⟨g, off, none⟩) c ts k 14 14 HPW.out hl)
      have hm1 := fndV_ge ts 14 14 k hk
      have hm2 := fndV_le ts 14 14 k
      replace HN := Lib.hid (show parV ts k = if fndV ts 14 14 k < ts.length then ⟨(ts.take (fndV ts 14 14 k)).drop k, (ts.take (fndV ts 15 15 (fndV ts 14 14 k + 1))).drop (fndV ts 14 14 k + 1)⟩ :: parV ts (skV ts (fndV ts 14 14 k)) else [] by rw [HN.out, if_neg h9, if_neg h2])
      generalize fndV ts 14 14 k = m at *
      by_cases hm : m < ts.length
      · have qm : ((m : Int) == (ts.length : Int)) = false := by rw [beq_eq_false_iff_ne]; omega
        obtain ⟨L1, hL1⟩ : ∃ L1, (ts.take m).drop k = L1 := ⟨_, rfl⟩
        obtain ⟨L2, hL2⟩ : ∃ L2, (ts.take (fndV ts 15 15 (m + 1))).drop (m + 1) = L2 := ⟨_, rfl⟩
        have HT := Lib.hid (show (acc ++ [⟨L1, L2⟩]) ++ parV ts (skV ts m) = R by have h1 := HS.out; rw [HN.out, if_pos hm, hL1, hL2] at h1; rw [List.append_assoc]; exact h1)
        have HZ := Lib.hid HPW.out.sizes
        have HZ1 := Lib.hid (show ∀ x ∈ L1, x.f1.size ≤ maxLen from fun x hx => HZ.out x (by rw [← hL1] at hx; exact List.mem_of_mem_take (List.mem_of_mem_drop hx)))
        have HZ2 := Lib.hid (show ∀ x ∈ L2, x.f1.size ≤ maxLen from fun x hx => HZ.out x (by rw [← hL2] at hx; exact List.mem_of_mem_take (List.mem_of_mem_drop hx)))
        have HL1 := Lib.hid hL1
        have IN := Lib.hid (show ∀ W, RdT W (some ⟨g, off, none⟩) ts → Calls Try.prog 36 #[.slice (some ⟨g, off, none⟩) ts.length c, .int .i64 (m : Int)] W fun e w' => ∃ v, e = .returned v ∧ NewT W L2 v w' from fun W f => by
          have := inner_any W (some ⟨g, off, none⟩) c ts m f hl hm hc HCM.out; rwa [hL2] at this)
        have SK := Lib.hid (show ∀ W, RdT W (some ⟨g, off, none⟩) ts → Calls Try.prog 22 #[.slice (some ⟨g, off, none⟩) ts.length c, .int .i64 (m : Int)] W fun e w' => e = .returned (.int .i64 (skV ts m : Int)) ∧ Fr (fun _ => False) W w' from fun W f => by
          have := Skip_any W (some ⟨g, off, none⟩) c ts m f hl; rwa [skA_in hm] at this)
        have hv1 := skV_lt ts m hm
        have hv2 := skV_le ts m (by omega)
        generalize skV ts m = j at *
        clear hL1 hL2 HN HS HZ h9 h2
        obtain ⟨⟨sp, c9, ys, rfl, hO, hY⟩, hF⟩ := hI.out
        have HO := Lib.hid hO
        have HY := Lib.hid hY
        have HF := Lib.hid hF
        clear hO hY hF hI
        obtain ⟨n, hn⟩ : ∃ n, acc.length = n := ⟨_, rfl⟩
        rw [hn] at HO ⊢
        go_wp2_with (first
          | (go_at_call 34; refine FN.out.mono ?_; rintro e w5 ⟨rfl, f5⟩; have F5 := Lib.hid f5; clear f5)
          | (go_at_call 35; refine (cloneC_any _ g off _ ts k m L1 HL1.out (HPW.out.fr F5.out) hl hm2).mono ?_; rintro e w6 ⟨v6, rfl, s6, c6, rfl, h6, f6⟩; have H6 := Lib.hid h6; have F6 := Lib.hid (F5.out.trans f6); clear h6 f6)
          | (go_at_call 36; refine (IN.out _ (HPW.out.fr F6.out)).mono ?_; rintro e w7 ⟨v7, rfl, s7, c7, rfl, h7, f7⟩; have O7 := Lib.hid (show OwnT w7 w.heap.size (.slice s7 L2.length c7) L2 from ⟨_, _, rfl, h7.lower (HF.out.trans F6.out).size, HZ2.out⟩); have O6 := Lib.hid (show OwnT w7 w.heap.size (.slice s6 L1.length c6) L1 from ⟨_, _, rfl, (H6.out.lower (HF.out.trans F5.out).size).fr f7 (by simp), HZ1.out⟩); have F7 := Lib.hid (F6.out.trans f7); clear h7 f7)
          | (at_builtin; refine wpList_append_src _ rfl (.tmp 32) (.tmp 42) 26 rfl w.heap.size 37 i37 _ 2 48 Try.underlying26 hb0 hb1 hb2 hb3 rfl (by omega) (.slice sp n c9) n ys rfl ((HO.out.fr F7.out (by simp)).fr ((Fr.refl (fun _ => False) _).alloc _) (by simp)) (some ⟨_, 0, none⟩) 1 1 [.slice s6 L1.length c6, .slice s7 L2.length c7] rfl (SrcW.one (heapNew _ _) rfl) (by simp [Value.oneCell']) (by unfold maxLen; omega) (by omega) (by rw [World.size_alloc]; exact Nat.le_succ_of_le (HF.out.trans F7.out).size) ?_; intro s8 c8 w8 hown hgrow _; have R8 := Lib.hid (RwR.step (x := ⟨L1, L2⟩) hn (HF.out.trans F7.out) (HO.out.fr F7.out (by simp)) (RawsIn.fr F7.out (fun _ _ _ _ _ e => e) HY.out) O6.out O7.out hown hgrow); have HPP := Lib.hid (HP.out.fr R8.out.fr); clear hown hgrow)
          | (go_at_call 22; refine (SK.out _ HPP.out).mono ?_; rintro e w9 ⟨rfl, f9⟩; have R9 := Lib.hid (R8.out.fr0 f9); clear f9))
        go_roundw
        case rel => exact ⟨j, _, rfl, by omega, by simp; omega, HT, R9⟩
        case measure => simp [intOf]; omega
      · obtain rfl : m = ts.length := by omega
        have qm : ((ts.length : Int) == (ts.length : Int)) = true := by simp
        have HT := Lib.hid (show acc = R by have h1 := HS.out; rw [HN.out, if_neg hm, List.append_nil] at h1; exact h1)
        go_wp2_with fail
        refine FN.out.mono ?_
        rintro e w5 ⟨rfl, f5⟩
        have hI5 := Lib.hid (hI.out.fr0 f5)
        clear f5 hI FN
        go_wp2_with fail
        go_ret
        exact ⟨_, rfl, by rw [← HT.out]; exact hI5.out⟩
    · obtain rfl : k = ts.length := by omega
      have d0 : decide ((ts.length : Int) < (ts.length : Int)) = false := by simp
      have HT := Lib.hid (show acc = R by have h1 := HS.out; rw [parV_end, List.append_nil] at h1; exact h1)
      go_wp2_with fail
      go_ret
      exact ⟨_, rfl, by rw [← HT.out]; exact hI.out⟩
end Go.Proofs.Ytknpdkfjmhpbpaa
