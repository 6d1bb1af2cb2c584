/- The reference's Rules: the rules of tokens. No condition but sizes. -/
import Derived.Test.YtknpdkfjmhpbpaaRAt
import Derived.Test.YtknpdkfjmhpbpaaRaws
namespace Go.Proofs.Ytknpdkfjmhpbpaa
open Go.RowKit Go.Maps Go.ChangeShapes Go.WideShapes Go.ChangeAt Go.WideMaps Go.WideElems

theorem closedB (p : Option Addr) (c : Nat) (ts : List Tok) (m : Nat) (hl : ts.length ≤ 100000) (hm : m < ts.length) (h14 : ts[m]?.map (·.f0) = some 14) : ∃ b : Bool, (∀ W, RdT W p ts → Calls Try.prog 38 #[.slice p ts.length c, .int .i64 (m : Int), .int .i64 (skV ts m : Int)] W fun e w' => e = .returned (.bool b) ∧ Fr (fun _ => False) W w') ∧
    (b = true → skV ts m = fndV ts 15 15 (m + 1) + 1) ∧ (b = false → skV ts m = fndV ts 15 15 (m + 1)) := by
  have he : ts[m].f0 = 14 := by rw [List.getElem?_eq_getElem hm] at h14; exact Option.some.inj h14
  obtain ⟨b1, b2⟩ := block_to ts m hm he
  refine ⟨((skS (ts.drop m) []).length : Int) == 0, fun W f => closed_any W p c ts m f hl hm, fun h => (b1 ?_).1, fun h => ?_⟩
  · apply List.eq_nil_of_length_eq_zero
    rw [beq_iff_eq] at h
    omega
  · have := b2 (by intro e; rw [e] at h; simp at h)
    omega

set_option maxRecDepth 100000 in
set_option maxHeartbeats 40000000 in
theorem Rules_any (w : World) (p : Option Addr) (c : Nat) (ts : List Tok) (h : RdT w p ts) (hl : ts.length ≤ 100000) (hc : ts.length ≤ c) (hcm : c ≤ maxLen) :
    Calls Try.prog 19 #[.slice p ts.length c] w fun e w' => ∃ v, e = .returned v ∧ RwR w (parV ts 0) v w' := by
  obtain ⟨i35, ha0, ha1, ha2, ha3⟩ := info_parts info35
  obtain ⟨i37, hb0, hb1, hb2, hb3⟩ := info_parts info37
  have HP := Lib.hid h
  unfold maxLen at hcm
  clear h
  obtain ⟨R, hR⟩ : ∃ R, parV ts 0 = R := ⟨_, rfl⟩
  rw [hR]
  have HR0 := Lib.hid hR
  clear hR
  go_enter Try.func19, Try.ntmps19
  go_wp2_with fail
  go_loopw [3, 4] (fun v iv wr => ∃ (k : Nat) (acc : List RawT), iv = .int .i64 k ∧ k ≤ ts.length ∧ acc.length ≤ k ∧ Hid (acc ++ parV ts k = R) ∧ Hid (RwR w acc v wr)) (fun _ iv _ => ts.length - (intOf iv).toNat)
  case atStart => exact ⟨0, [], rfl, by omega, by simp, Lib.hid (by rw [List.nil_append]; exact HR0.out), Lib.hid (RwR.nil (Fr.refl _ _))⟩
  case round =>
    clear HR0
    obtain ⟨k, acc, rfl, hk, ha, HS, hI⟩ := hrel
    have HPW := Lib.hid (HP.out.fr hI.out.fr)
    by_cases hlt : k < ts.length
    · have d0 : decide ((k : Int) < (ts.length : Int)) = true := decide_eq_true (by omega)
      obtain ⟨x, hx⟩ : ∃ x, ts[k]? = some x := ⟨ts[k], List.getElem?_eq_getElem hlt⟩
      obtain ⟨g, off, hp, a0⟩ := HPW.out.kind hx
      subst hp
      have HN := Lib.hid (parV_at hx)
      have hk2 : (k : Int) < (ts.length : Int) := by omega
      clear hx
      by_cases h9 : x.f0 = 9
      · have q9 : (x.f0 == 9) = true := by simp [h9]
        have HT := Lib.hid (show acc ++ parV ts (k + 1) = R by have h1 := HS.out; rw [HN.out, if_pos h9] at h1; exact h1)
        go_wp2_with fail
        go_roundw
        case rel => exact ⟨k + 1, acc, by go_num, by omega, by omega, HT, hI⟩
        case measure => simp [intOf]; omega
      have q9 : (x.f0 == 9) = false := by simp [h9]
      by_cases h2 : x.f0 = 2
      · have q2 : (x.f0 == 2) = true := by simp [h2]
        have HT := Lib.hid (show acc ++ parV ts (atV ts k) = R by have h1 := HS.out; rw [HN.out, if_neg h9, if_pos h2] at h1; exact h1)
        have AT := Lib.hid (rat_any wr (some ⟨g, off, none⟩) c ts k HPW.out hl (by omega))
        have hv1 := atV_lt ts k hlt
        have hv2 := atV_le ts k
        generalize atV ts k = m at *
        go_wp2_with (go_at_call 37; refine AT.out.mono ?_; rintro e w5 ⟨rfl, f5⟩; have hI5 := Lib.hid (hI.out.fr0 f5); clear f5)
        go_roundw
        case rel => exact ⟨m, acc, rfl, by omega, by omega, HT, hI5⟩
        case measure => simp [intOf]; omega
      have q2 : (x.f0 == 2) = false := by simp [h2]
      have hm1 := fndV_ge ts 14 14 k hk
      have hm2 := fndV_le ts 14 14 k
      replace HN := Lib.hid (show parV ts k = if fndV ts 14 14 k < ts.length then ⟨(ts.take (fndV ts 14 14 k)).drop k, (ts.take (fndV ts 15 15 (fndV ts 14 14 k + 1))).drop (fndV ts 14 14 k + 1)⟩ :: parV ts (skV ts (fndV ts 14 14 k)) else [] by rw [HN.out, if_neg h9, if_neg h2])
      obtain ⟨m, hmd⟩ : ∃ m, fndV ts 14 14 k = m := ⟨_, rfl⟩
      rw [hmd] at HN hm1 hm2
      have HM := Lib.hid hmd
      clear hmd
      obtain ⟨⟨sp, c9, ys, rfl, hO, hY⟩, hF⟩ := hI.out
      have HO := Lib.hid hO
      have HY := Lib.hid hY
      have HF := Lib.hid hF
      clear hO hY hF h9 h2
      obtain ⟨n, hn⟩ : ∃ n, acc.length = n := ⟨_, rfl⟩
      rw [hn] at HO ⊢
      have HRR := Lib.hid (show RwR w acc (.slice sp n c9) wr by rw [← hn]; exact hI.out)
      obtain ⟨w0, hw0⟩ : ∃ w0, w0 = wr := ⟨_, rfl⟩
      rw [← hw0] at HO HY HF HPW HRR
      have HW0 := Lib.hid (show Fr (fun _ => False) w0 wr by rw [hw0]; exact Fr.refl _ _)
      clear hI hw0
      go_upto_region 9 with fail
      go_loopw [4] (fun iv wx => ∃ (q : Nat), iv = .int .i64 q ∧ k ≤ q ∧ q ≤ ts.length ∧ Hid (fndV ts 14 14 q = m) ∧ Hid (Fr (fun _ => False) w0 wx)) (fun iv _ => ts.length - (intOf iv).toNat)
      case atStart => exact ⟨k, rfl, by omega, by omega, HM, HW0⟩
      case round =>
        clear HM HW0 a0
        obtain ⟨q0, rfl, hq1, hq2, HM, hFx⟩ := hrel
        by_cases hqlt : q0 < ts.length
        · have d1 : decide ((q0 : Int) < (ts.length : Int)) = true := decide_eq_true (by omega)
          obtain ⟨y, hy⟩ : ∃ y, ts[q0]? = some y := ⟨ts[q0], List.getElem?_eq_getElem hqlt⟩
          obtain ⟨g1, off1, e1, a0⟩ := (HPW.out.fr hFx.out).kind hy
          cases e1
          have HN2 := Lib.hid (fndV_at hy 14 14)
          have hk3 : (q0 : Int) < (ts.length : Int) := by omega
          by_cases h14 : y.f0 = 14
          · have q3 : (y.f0 != 14) = false := by simp [h14]
            obtain rfl : q0 = m := by have h1 := HM.out; rw [HN2.out, if_pos (.inl h14)] at h1; exact h1
            have d2 : decide ((ts.length : Int) ≤ (q0 : Int)) = false := decide_eq_false (by omega)
            obtain ⟨b, hb, hbt, hbf⟩ := closedB (some ⟨g, off, none⟩) c ts q0 hl hqlt (by rw [hy, Option.map_some, h14])
            have HB := Lib.hid hb
            obtain ⟨L1, hL1⟩ : ∃ L1, (ts.take q0).drop k = L1 := ⟨_, rfl⟩
            obtain ⟨L2, hL2⟩ : ∃ L2, (ts.take (fndV ts 15 15 (q0 + 1))).drop (q0 + 1) = L2 := ⟨_, rfl⟩
            have HT := Lib.hid (show (acc ++ [⟨L1, L2⟩]) ++ parV ts (skV ts q0) = R by have h1 := HS.out; rw [HN.out, if_pos hqlt, hL1, hL2] at h1; rw [List.append_assoc]; exact h1)
            have HZ := Lib.hid HPW.out.sizes
            have HZ1 := Lib.hid (show ∀ x ∈ L1, x.f1.size ≤ maxLen from fun x hx => HZ.out x (by rw [← hL1] at hx; exact List.mem_of_mem_take (List.mem_of_mem_drop hx)))
            have HZ2 := Lib.hid (show ∀ x ∈ L2, x.f1.size ≤ maxLen from fun x hx => HZ.out x (by rw [← hL2] at hx; exact List.mem_of_mem_take (List.mem_of_mem_drop hx)))
            have hl1 : L1.length = q0 - k := by rw [← hL1]; exact cutLen (by omega)
            have hfl := fndV_le ts 15 15 (q0 + 1)
            have hfg := fndV_ge ts 15 15 (q0 + 1) (by omega)
            have hl2 : L2.length = fndV ts 15 15 (q0 + 1) - (q0 + 1) := by rw [← hL2]; exact cutLen hfl
            have SK := Lib.hid (show ∀ W, RdT W (some ⟨g, off, none⟩) ts → Calls Try.prog 23 #[.slice (some ⟨g, off, none⟩) ts.length c, .int .i64 (q0 : Int)] W fun e w' => e = .returned (.int .i64 (skV ts q0 : Int)) ∧ Fr (fun _ => False) W w' from fun W f => Skip_any' W (some ⟨g, off, none⟩) c ts q0 f hl hqlt)
            have S1 := Lib.hid (show ∀ W, Fr (fun _ => False) w0 W → SrcW W 5 (some ⟨g, off + k * 5, none⟩) (q0 - k) (tL L1) from fun W f => by
              have := ((HPW.out.fr f).cutA k q0).src; rw [cutLen (by omega), hL1, Option.map_some, addOf _ _ rfl] at this; exact this)
            have S2 := Lib.hid (show ∀ W, Fr (fun _ => False) w0 W → SrcW W 5 (some ⟨g, off + (q0 + 1) * 5, none⟩) (fndV ts 15 15 (q0 + 1) - (q0 + 1)) (tL L2) from fun W f => by
              have := ((HPW.out.fr f).cutA (q0 + 1) (fndV ts 15 15 (q0 + 1))).src; rw [cutLen hfl, hL2, Option.map_some, addOf _ _ rfl] at this; exact this)
            have hv1 := skV_lt ts q0 hqlt
            have hv2 := skV_le ts q0 (by omega)
            generalize fndV ts 15 15 (q0 + 1) = q at *
            generalize skV ts q0 = j at *
            clear hL1 hL2 HN HN2 HS HZ HM hb hy
            go_upto_if 59 with (first
              | (go_at_call 23; refine (SK.out _ (HPW.out.fr hFx.out)).mono ?_; rintro e w5 ⟨rfl, f5⟩; have F5 := Lib.hid (hFx.out.trans f5); clear f5)
              | (go_at_call 38; refine (HB.out _ (HPW.out.fr F5.out)).mono ?_; rintro e w9 ⟨rfl, f9⟩; have F9 := Lib.hid (F5.out.trans f9); clear f9))
            go_cut [7] from 59 to 61 (fun v wz => v = .int .i64 (q : Int) ∧ wz = w9)
            case first =>
              cases b with
              | true =>
                have := hbt rfl
                subst this
                go_wp2_with fail
                go_meet
                exact ⟨by go_num, rfl⟩
              | false =>
                have := hbf rfl
                subst this
                go_wp2_with fail
                go_meet
                exact ⟨rfl, rfl⟩
            case rest =>
            obtain ⟨rfl, hwz⟩ := hcut
            subst hwz
            have HF9 := Lib.hid (HF.out.trans F9.out)
            have S1 := Lib.hid (show ∀ W, Fr (fun _ => False) wc W → SrcW W 5 (some ⟨g, off + k * 5, none⟩) (q0 - k) (tL L1) from fun W f => S1.out W (F9.out.trans f))
            have HO := Lib.hid (show ∀ W, Fr (fun _ => False) wc W → OwnsWin W w.heap.size 37 2 (.slice sp n c9) n ys from fun W f => HO.out.fr (F9.out.trans f) (by simp))
            have HY := Lib.hid (show ∀ W, Fr (fun _ => False) wc W → RawsIn W w.heap.size ys acc from fun W f => RawsIn.fr (F9.out.trans f) (fun _ _ _ _ _ e => e) HY.out)
            have qw : IntKind.i64.wrap ((q0 : Int) + 1) = (q0 : Int) + 1 := IntWalk.i64_in _ (by omega)
            by_cases hcz : c = q0 + 1
            · subst hcz
              obtain rfl : q = q0 + 1 := by omega
              rw [Nat.sub_self] at hl2
              have u0 : (0 : Int) ≤ (q0 : Int) + 1 := by omega
              have u1 : (q0 : Int) ≤ (q0 : Int) + 1 := by omega
              have u2 : q0 ≤ q0 + 1 := by omega
              have u6 : (k : Int) ≤ (q0 : Int) := by omega
              have u7 : (q0 + 1 = k) = False := by simp; omega
              have S2 := Lib.hid (show ∀ W, Fr (fun _ => False) wc W → SrcW W 5 (some ⟨g, off, none⟩) 0 (tL L2) from fun W f => by
                have e : L2 = [] := List.eq_nil_of_length_eq_zero (by omega)
                subst e
                exact ⟨by simp only [tL_nil, List.length_nil], (by intro e; cases e), fun ad e j u hj => by simp [tL_nil] at hj⟩)
              go_upto_region 18 with fail
              have G0 : Fr (fun _ => False) wc wc.drew := (Fr.refl (fun _ => False) wc).drew
              go_region_law (first
                | (refine step_append_src rfl (.const (.slice none 0 0)) (.tmp 66) 22 rfl w.heap.size 35 i35 _ 5 48 Try.underlying22 ha0 ha1 ha2 ha3 rfl (by omega) (.slice none 0 0) 0 [] (by simp [Act.eval, Act.put]) (OwnsWin.nil _ _ _ _) (some ⟨g, off + k * 5, none⟩) (q0 - k) (q0 + 1 - k) (tL L1) (by simp [Act.eval, Act.put]) (S1.out _ (by assumption)) (tL_one_cell L1) (by unfold maxLen; omega) (by omega) (HF9.out.trans (by assumption)).size ?_; intro s6 c6 w6 h6 g6 _; rw [List.nil_append, Nat.zero_add] at h6; rw [Nat.zero_add]; have f6 := (Fr.refl (fun _ => False) _).grown g6 (fun k e => by simp [Value.ownBlock] at e); have G6 : Fr (fun _ => False) wc w6 := Fr.trans (by assumption) f6)
                | (refine step_append_src rfl (.const (.slice none 0 0)) (.tmp 72) 22 rfl w.heap.size 35 i35 _ 5 48 Try.underlying22 ha0 ha1 ha2 ha3 rfl (by omega) (.slice none 0 0) 0 [] (by simp [Act.eval, Act.put]) (OwnsWin.nil _ _ _ _) (some ⟨g, off, none⟩) 0 0 (tL L2) (by simp [Act.eval, Act.put]) (S2.out _ (by assumption)) (tL_one_cell L2) (by unfold maxLen; omega) (by omega) (HF9.out.trans (by assumption)).size ?_; intro s7 c7 w7 h7 g7 _; rw [List.nil_append, Nat.zero_add] at h7; rw [Nat.zero_add]; have f7 := (Fr.refl (fun _ => False) _).grown g7 (fun k e => by simp [Value.ownBlock] at e); have G7 : Fr (fun _ => False) wc w7 := Fr.trans (by assumption) f7)
                | (refine step_append_src rfl (.tmp 62) (.tmp 75) 26 rfl w.heap.size 37 i37 _ 2 48 Try.underlying26 hb0 hb1 hb2 hb3 rfl (by omega) (.slice sp n c9) n ys (by simp [Act.eval, Act.put]) ((HO.out _ (by assumption)).fr ((Fr.refl (fun _ => False) _).alloc _) (by simp)) (some ⟨_, 0, none⟩) 1 1 [.slice s6 (q0 - k) c6, .slice s7 0 c7] (by simp [Act.eval, Act.put]) (SrcW.one (heapNew _ _) rfl) (by simp [Value.oneCell']) (by unfold maxLen; omega) (by omega) (by rw [World.size_alloc]; exact Nat.le_succ_of_le (HF9.out.trans (by assumption)).size) ?_; intro s8 c8 w8 hown hgrow _))
              all_goals
                have R8 : RwR w (acc ++ [⟨L1, L2⟩]) (.slice s8 (n + 1) c8) w8 := by
                  first
                    | exact RwR.step (x := ⟨L1, L2⟩) hn (HF9.out.trans G7) (HO.out _ G7) (HY.out _ G7) ⟨s6, c6, by rw [hl1], by rw [hl1]; exact h6.fr f7 (by simp), HZ1.out⟩ ⟨s7, c7, by rw [hl2], by rw [hl2]; exact h7, HZ2.out⟩ hown hgrow
                    | exact RwR.step (x := ⟨L1, L2⟩) hn (HF9.out.trans G6) (HO.out _ G6) (HY.out _ G6) ⟨s6, c6, by rw [hl1], by rw [hl1]; exact h6, HZ1.out⟩ ⟨s7, c7, by rw [hl2], by rw [hl2]; exact h7.fr f6 (by simp), HZ2.out⟩ hown hgrow
                have R9 := Lib.hid R8
                clear hown hgrow h6 h7 f6 f7 G6 G7 G0 g6 g7 R8
                go_wp2_with fail
                go_roundw
                case rel => exact ⟨j, _, rfl, by omega, by simp; omega, HT, R9⟩
                case measure => simp [intOf]; omega
            · have hcz2 : (c = q0 + 1) = False := by simpa using hcz
              have u0 : (0 : Int) ≤ (q0 : Int) + 1 := by omega
              have u1 : (q0 : Int) ≤ (c : Int) := by omega
              have u2 : q0 ≤ c := by omega
              have u3 : (q : Int) ≤ (c : Int) := by omega
              have u4 : q ≤ c := by omega
              have u5 : (q0 : Int) + 1 ≤ (q : Int) := by omega
              have u6 : (k : Int) ≤ (q0 : Int) := by omega
              have u7 : (c = k) = False := by simp; omega
              have S2 := Lib.hid (show ∀ W, Fr (fun _ => False) wc W → SrcW W 5 (some ⟨g, off + (q0 + 1) * 5, none⟩) (q - (q0 + 1)) (tL L2) from fun W f => S2.out W (F9.out.trans f))
              go_upto_region 18 with fail
              have G0 : Fr (fun _ => False) wc wc.drew := (Fr.refl (fun _ => False) wc).drew
              go_region_law (first
                | (refine step_append_src rfl (.const (.slice none 0 0)) (.tmp 66) 22 rfl w.heap.size 35 i35 _ 5 48 Try.underlying22 ha0 ha1 ha2 ha3 rfl (by omega) (.slice none 0 0) 0 [] (by simp [Act.eval, Act.put]) (OwnsWin.nil _ _ _ _) (some ⟨g, off + k * 5, none⟩) (q0 - k) (c - k) (tL L1) (by simp [Act.eval, Act.put]) (S1.out _ (by assumption)) (tL_one_cell L1) (by unfold maxLen; omega) (by omega) (HF9.out.trans (by assumption)).size ?_; intro s6 c6 w6 h6 g6 _; rw [List.nil_append, Nat.zero_add] at h6; rw [Nat.zero_add]; have f6 := (Fr.refl (fun _ => False) _).grown g6 (fun k e => by simp [Value.ownBlock] at e); have G6 : Fr (fun _ => False) wc w6 := Fr.trans (by assumption) f6)
                | (refine step_append_src rfl (.const (.slice none 0 0)) (.tmp 72) 22 rfl w.heap.size 35 i35 _ 5 48 Try.underlying22 ha0 ha1 ha2 ha3 rfl (by omega) (.slice none 0 0) 0 [] (by simp [Act.eval, Act.put]) (OwnsWin.nil _ _ _ _) (some ⟨g, off + (q0 + 1) * 5, none⟩) (q - (q0 + 1)) (c - (q0 + 1)) (tL L2) (by simp [Act.eval, Act.put]) (S2.out _ (by assumption)) (tL_one_cell L2) (by unfold maxLen; omega) (by omega) (HF9.out.trans (by assumption)).size ?_; intro s7 c7 w7 h7 g7 _; rw [List.nil_append, Nat.zero_add] at h7; rw [Nat.zero_add]; have f7 := (Fr.refl (fun _ => False) _).grown g7 (fun k e => by simp [Value.ownBlock] at e); have G7 : Fr (fun _ => False) wc w7 := Fr.trans (by assumption) f7)
                | (refine step_append_src rfl (.tmp 62) (.tmp 75) 26 rfl w.heap.size 37 i37 _ 2 48 Try.underlying26 hb0 hb1 hb2 hb3 rfl (by omega) (.slice sp n c9) n ys (by simp [Act.eval, Act.put]) ((HO.out _ (by assumption)).fr ((Fr.refl (fun _ => False) _).alloc _) (by simp)) (some ⟨_, 0, none⟩) 1 1 [.slice s6 (q0 - k) c6, .slice s7 (q - (q0 + 1)) c7] (by simp [Act.eval, Act.put]) (SrcW.one (heapNew _ _) rfl) (by simp [Value.oneCell']) (by unfold maxLen; omega) (by omega) (by rw [World.size_alloc]; exact Nat.le_succ_of_le (HF9.out.trans (by assumption)).size) ?_; intro s8 c8 w8 hown hgrow _))
              all_goals
                have R8 : RwR w (acc ++ [⟨L1, L2⟩]) (.slice s8 (n + 1) c8) w8 := by
                  first
                    | exact RwR.step (x := ⟨L1, L2⟩) hn (HF9.out.trans G7) (HO.out _ G7) (HY.out _ G7) ⟨s6, c6, by rw [hl1], by rw [hl1]; exact h6.fr f7 (by simp), HZ1.out⟩ ⟨s7, c7, by rw [hl2], by rw [hl2]; exact h7, HZ2.out⟩ hown hgrow
                    | exact RwR.step (x := ⟨L1, L2⟩) hn (HF9.out.trans G6) (HO.out _ G6) (HY.out _ G6) ⟨s6, c6, by rw [hl1], by rw [hl1]; exact h6, HZ1.out⟩ ⟨s7, c7, by rw [hl2], by rw [hl2]; exact h7.fr f6 (by simp), HZ2.out⟩ hown hgrow
                have R9 := Lib.hid R8
                clear hown hgrow h6 h7 f6 f7 G6 G7 G0 g6 g7 R8
                go_wp2_with fail
                go_roundw
                case rel => exact ⟨j, _, rfl, by omega, by simp; omega, HT, R9⟩
                case measure => simp [intOf]; omega
          · have q3 : (y.f0 != 14) = true := by simp [h14]
            have HT := Lib.hid (show fndV ts 14 14 (skV ts q0) = m by have h1 := HM.out; rw [HN2.out, if_neg (by simp [h14])] at h1; exact h1)
            have SK := Lib.hid (Skip_any' wr (some ⟨g, off, none⟩) c ts q0 (HPW.out.fr hFx.out) hl hqlt)
            have hv1 := skV_lt ts q0 hqlt
            have hv2 := skV_le ts q0 (by omega)
            generalize skV ts q0 = j at *
            go_wp2_with (go_at_call 23; refine SK.out.mono ?_; rintro e w5 ⟨rfl, f5⟩; have F5 := Lib.hid (hFx.out.trans f5); clear f5)
            go_roundw
            case rel => exact ⟨j, rfl, by omega, by omega, HT, F5⟩
            case measure => simp [intOf]; omega
        · obtain rfl : q0 = ts.length := by omega
          have d1 : decide ((ts.length : Int) < (ts.length : Int)) = false := by simp
          have d2 : decide ((ts.length : Int) ≤ (ts.length : Int)) = true := by simp
          have HT := Lib.hid (show acc = R by have h1 := HS.out; rw [HN.out, if_neg (by rw [← HM.out, fndV_end]; omega), List.append_nil] at h1; exact h1)
          go_wp2_with fail
          go_ret
          exact ⟨_, rfl, by rw [← HT.out]; exact HRR.out.fr0 hFx.out⟩
    · obtain rfl : k = ts.length := by omega
      have d0 : decide ((ts.length : Int) < (ts.length : Int)) = false := by simp
      have HT := Lib.hid (show acc = R by have h1 := HS.out; rw [parV_end, List.append_nil] at h1; exact h1)
      go_wp2_with fail
      go_ret
      exact ⟨_, rfl, by rw [← HT.out]; exact hI.out⟩
end Go.Proofs.Ytknpdkfjmhpbpaa
