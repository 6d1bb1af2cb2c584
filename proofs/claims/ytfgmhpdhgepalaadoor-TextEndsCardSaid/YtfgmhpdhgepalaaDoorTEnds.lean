/- TextEnds: the walk (printed by mkends.py). -/
import Derived.Test.YtfgmhpdhgepalaaDoorEnds0
import Derived.Test.YtfgmhpdhgepalaaDoorNums
import Derived.Deep.RegionWith
namespace Go.Proofs.YtfgmhpdhgepalaaDoor
open Go.RowKit Go.Shelf Go.Maps Go.ChangeShapes Go.WideShapes Go.ChangeAt Go.WideMaps Go.WideElems

set_option maxHeartbeats 4000000 in
set_option maxRecDepth 100000 in
theorem ends_law (l : List Int) (p : Option Addr) (c : Nat) (w : World) (hT : Tabs w) (hr : RdI w p l) :
    Calls Tryd.prog 8 #[.slice p l.length c] w fun e w' => e = .returned (.bool true) ∧ Fr (fun _ => False) w w' := by
  have AL := Lib.hid (alive_any w hT)
  have HT := Lib.hid hT
  have HR := Lib.hid hr
  clear hT hr
  obtain ⟨i5, jb0, jb1, jb2, jb3⟩ := info_parts info5
  go_enter Tryd.func8, Tryd.ntmps8
  go_wp2_with fail
  rename_i KK aa
  refine AL.out.mono ?_
  rintro e w1 ⟨rfl, f1⟩
  have F1 := Lib.hid f1
  clear AL f1
  show KK _ _
  apply aa
  by_cases hbig : 200 < l.length
  · have d1 : decide ((200 : Int) < (l.length : Int)) = true := by simp; omega
    go_wp2_with fail
    go_ret
    exact ⟨rfl, F1.out⟩
  have d1 : decide ((200 : Int) < (l.length : Int)) = false := by simp; omega
  go_wp2_with fail
  go_loopw [4, 5] (fun o i wr => ∃ (k : Nat), k ≤ l.length ∧ i = .int .i64 k ∧ Hid (WrW w wr o (lns (l.take k)))) (fun _ i _ => l.length - (intOf i).toNat)
  case atStart => exact ⟨0, by omega, rfl, ⟨OwnsWin.nil _ _ _ _, F1.out⟩⟩
  case round =>
    obtain ⟨k, hk, rfl, hW⟩ := hrel
    by_cases hlt : k < l.length
    · obtain ⟨z, hz⟩ : ∃ x, l[k]? = some x := ⟨l[k], List.getElem?_eq_getElem hlt⟩
      have hlen := lns_len (l.take k)
      rw [List.length_take] at hlen
      have q1 : decide ((k : Int) < (l.length : Int)) = true := by simp; omega
      have HS := Lib.hid (show lns (l.take (k + 1)) = lns (l.take k) ++ 120 :: tl z by rw [List.take_add_one, hz]; exact lns_snoc _ _)
      generalize lns (l.take k) = bs at *
      have hbs : bs.length ≤ 1000 := by omega
      obtain ⟨sp, sc, rfl⟩ := hW.out.1.shape
      have a00 := i64_and3 z
      have HC := Lib.hid (tl_cases z)
      have HX := Lib.hid (show ∀ W, Fr (fun _ => False) w W → ∃ g off, p = some ⟨g, off, none⟩ ∧ W.cell? ⟨g, off + k, none⟩ = some (.int .i64 z) from fun W f => (HR.out.fr f) k z hz)
      clear hz hlen
      obtain ⟨g, off, rfl, _⟩ := HX.out w (Fr.refl _ _)
      have HY := Lib.hid (show ∀ W, Fr (fun _ => False) w W → W.cell? ⟨g, off + k, none⟩ = some (.int .i64 z) from fun W f => by obtain ⟨_, _, e, h⟩ := HX.out W f; cases e; exact h)
      clear HX
      rcases HC.out with ⟨h, e⟩ | ⟨h, e⟩ | ⟨h, e⟩ | ⟨h, e⟩
      · have a0 : bits .and .i64 z 3 = 0 := by rw [a00, h]
        rw [e] at HS
        clear a00 h e HC
        go_wp2_with (first
          | (at_builtin; refine wpList_append_src _ rfl (.tmp 23) (.tmp 24) 22 rfl w.heap.size 5 i5 _ 1 1 Tryd.underlying22 jb0 jb1 jb2 jb3 rfl (by decide) (.slice sp bs.length sc) bs.length _ rfl (hW.out.1.fr ((Fr.refl (fun _ => False) _).alloc _) (by simp)) (some ⟨_, 0, none⟩) 1 1 [.int .u8 120] rfl (Src.many (heapNew _ _)) (by simp [Value.oneCell']) (by unfold maxLen; omega) (by omega) ((hW.out.2.trans ((Fr.refl (fun _ => False) _).alloc _)).size) ?_; intro s4 c4 w4 hown hgrow hsh; have F4 := Lib.hid ((hW.out.2.trans ((Fr.refl (fun _ => False) _).alloc _)).ownGrown (hW.out.1.fr ((Fr.refl (fun _ => False) _).alloc _) (by simp)) (Nat.le_refl _) hgrow); have O4 := Lib.hid hown; clear hown hgrow hsh; have x0 := HY.out w4 F4.out)
          | (at_builtin; refine wpList_append_src _ rfl (.tmp 36) (.tmp 37) 22 rfl w.heap.size 5 i5 _ 1 1 Tryd.underlying22 jb0 jb1 jb2 jb3 rfl (by decide) (.slice s4 (bs.length + 1) c4) (bs.length + 1) _ rfl (O4.out.fr ((Fr.refl (fun _ => False) _).alloc _) (by simp)) (some ⟨_, 0, none⟩) 1 1 [.int .u8 10] rfl (Src.many (heapNew _ _)) (by simp [Value.oneCell']) (by unfold maxLen; omega) (by omega) ((F4.out.trans ((Fr.refl (fun _ => False) _).alloc _)).size) ?_; intro s5 c5 w5 hown hgrow hsh; have F5 := Lib.hid ((F4.out.trans ((Fr.refl (fun _ => False) _).alloc _)).ownGrown (O4.out.fr ((Fr.refl (fun _ => False) _).alloc _) (by simp)) (Nat.le_refl _) hgrow); have O5 := Lib.hid hown; clear hown hgrow hsh))
        go_roundw
        case rel =>
          refine ⟨k + 1, by omega, by first | rfl | go_num, ⟨?_, F5.out⟩⟩
          have := O5.out
          rw [HS.out]
          simpa [bR] using this
        case measure => simp [intOf]; omega
      · have a0 : bits .and .i64 z 3 = 1 := by rw [a00, h]
        rw [e] at HS
        clear a00 h e HC
        go_wp2_with (first
          | (at_builtin; refine wpList_append_src _ rfl (.tmp 23) (.tmp 24) 22 rfl w.heap.size 5 i5 _ 1 1 Tryd.underlying22 jb0 jb1 jb2 jb3 rfl (by decide) (.slice sp bs.length sc) bs.length _ rfl (hW.out.1.fr ((Fr.refl (fun _ => False) _).alloc _) (by simp)) (some ⟨_, 0, none⟩) 1 1 [.int .u8 120] rfl (Src.many (heapNew _ _)) (by simp [Value.oneCell']) (by unfold maxLen; omega) (by omega) ((hW.out.2.trans ((Fr.refl (fun _ => False) _).alloc _)).size) ?_; intro s4 c4 w4 hown hgrow hsh; have F4 := Lib.hid ((hW.out.2.trans ((Fr.refl (fun _ => False) _).alloc _)).ownGrown (hW.out.1.fr ((Fr.refl (fun _ => False) _).alloc _) (by simp)) (Nat.le_refl _) hgrow); have O4 := Lib.hid hown; clear hown hgrow hsh; have x0 := HY.out w4 F4.out)
          | (at_builtin; refine wpList_append_src _ rfl (.tmp 41) (.tmp 42) 22 rfl w.heap.size 5 i5 _ 1 1 Tryd.underlying22 jb0 jb1 jb2 jb3 rfl (by decide) (.slice s4 (bs.length + 1) c4) (bs.length + 1) _ rfl (O4.out.fr ((Fr.refl (fun _ => False) _).alloc _) (by simp)) (some ⟨_, 0, none⟩) 1 1 [.int .u8 13] rfl (Src.many (heapNew _ _)) (by simp [Value.oneCell']) (by unfold maxLen; omega) (by omega) ((F4.out.trans ((Fr.refl (fun _ => False) _).alloc _)).size) ?_; intro s5 c5 w5 hown hgrow hsh; have F5 := Lib.hid ((F4.out.trans ((Fr.refl (fun _ => False) _).alloc _)).ownGrown (O4.out.fr ((Fr.refl (fun _ => False) _).alloc _) (by simp)) (Nat.le_refl _) hgrow); have O5 := Lib.hid hown; clear hown hgrow hsh))
        go_roundw
        case rel =>
          refine ⟨k + 1, by omega, by first | rfl | go_num, ⟨?_, F5.out⟩⟩
          have := O5.out
          rw [HS.out]
          simpa [bR] using this
        case measure => simp [intOf]; omega
      · have a0 : bits .and .i64 z 3 = 2 := by rw [a00, h]
        rw [e] at HS
        clear a00 h e HC
        go_wp2_with (first
          | (at_builtin; refine wpList_append_src _ rfl (.tmp 23) (.tmp 24) 22 rfl w.heap.size 5 i5 _ 1 1 Tryd.underlying22 jb0 jb1 jb2 jb3 rfl (by decide) (.slice sp bs.length sc) bs.length _ rfl (hW.out.1.fr ((Fr.refl (fun _ => False) _).alloc _) (by simp)) (some ⟨_, 0, none⟩) 1 1 [.int .u8 120] rfl (Src.many (heapNew _ _)) (by simp [Value.oneCell']) (by unfold maxLen; omega) (by omega) ((hW.out.2.trans ((Fr.refl (fun _ => False) _).alloc _)).size) ?_; intro s4 c4 w4 hown hgrow hsh; have F4 := Lib.hid ((hW.out.2.trans ((Fr.refl (fun _ => False) _).alloc _)).ownGrown (hW.out.1.fr ((Fr.refl (fun _ => False) _).alloc _) (by simp)) (Nat.le_refl _) hgrow); have O4 := Lib.hid hown; clear hown hgrow hsh; have x0 := HY.out w4 F4.out)
          | (at_builtin; refine wpList_append_src _ rfl (.tmp 46) (.tmp 47) 22 rfl w.heap.size 5 i5 _ 1 1 Tryd.underlying22 jb0 jb1 jb2 jb3 rfl (by decide) (.slice s4 (bs.length + 1) c4) (bs.length + 1) _ rfl (O4.out.fr ((Fr.refl (fun _ => False) _).alloc _) (by simp)) (some ⟨_, 0, none⟩) 1 1 [.int .u8 12] rfl (Src.many (heapNew _ _)) (by simp [Value.oneCell']) (by unfold maxLen; omega) (by omega) ((F4.out.trans ((Fr.refl (fun _ => False) _).alloc _)).size) ?_; intro s5 c5 w5 hown hgrow hsh; have F5 := Lib.hid ((F4.out.trans ((Fr.refl (fun _ => False) _).alloc _)).ownGrown (O4.out.fr ((Fr.refl (fun _ => False) _).alloc _) (by simp)) (Nat.le_refl _) hgrow); have O5 := Lib.hid hown; clear hown hgrow hsh))
        go_roundw
        case rel =>
          refine ⟨k + 1, by omega, by first | rfl | go_num, ⟨?_, F5.out⟩⟩
          have := O5.out
          rw [HS.out]
          simpa [bR] using this
        case measure => simp [intOf]; omega
      · have a0 : bits .and .i64 z 3 = 3 := by rw [a00, h]
        rw [e] at HS
        clear a00 h e HC
        go_wp2_with (first
          | (at_builtin; refine wpList_append_src _ rfl (.tmp 23) (.tmp 24) 22 rfl w.heap.size 5 i5 _ 1 1 Tryd.underlying22 jb0 jb1 jb2 jb3 rfl (by decide) (.slice sp bs.length sc) bs.length _ rfl (hW.out.1.fr ((Fr.refl (fun _ => False) _).alloc _) (by simp)) (some ⟨_, 0, none⟩) 1 1 [.int .u8 120] rfl (Src.many (heapNew _ _)) (by simp [Value.oneCell']) (by unfold maxLen; omega) (by omega) ((hW.out.2.trans ((Fr.refl (fun _ => False) _).alloc _)).size) ?_; intro s4 c4 w4 hown hgrow hsh; have F4 := Lib.hid ((hW.out.2.trans ((Fr.refl (fun _ => False) _).alloc _)).ownGrown (hW.out.1.fr ((Fr.refl (fun _ => False) _).alloc _) (by simp)) (Nat.le_refl _) hgrow); have O4 := Lib.hid hown; clear hown hgrow hsh; have x0 := HY.out w4 F4.out)
          | (at_builtin; refine wpList_append_src _ rfl (.tmp 31) (.tmp 32) 22 rfl w.heap.size 5 i5 _ 1 1 Tryd.underlying22 jb0 jb1 jb2 jb3 rfl (by decide) (.slice s4 (bs.length + 1) c4) (bs.length + 1) _ rfl (O4.out.fr ((Fr.refl (fun _ => False) _).alloc _) (by simp)) (some ⟨_, 0, none⟩) 2 2 [.int .u8 13, .int .u8 10] rfl (Src.many (heapNew _ _)) (by simp [Value.oneCell']) (by unfold maxLen; omega) (by omega) ((F4.out.trans ((Fr.refl (fun _ => False) _).alloc _)).size) ?_; intro s5 c5 w5 hown hgrow hsh; have F5 := Lib.hid ((F4.out.trans ((Fr.refl (fun _ => False) _).alloc _)).ownGrown (O4.out.fr ((Fr.refl (fun _ => False) _).alloc _) (by simp)) (Nat.le_refl _) hgrow); have O5 := Lib.hid hown; clear hown hgrow hsh))
        go_roundw
        case rel =>
          refine ⟨k + 1, by omega, by first | rfl | go_num, ⟨?_, F5.out⟩⟩
          have := O5.out
          rw [HS.out]
          simpa [bR] using this
        case measure => simp [intOf]; omega
    · obtain rfl : k = l.length := by omega
      have q1 : decide ((l.length : Int) < (l.length : Int)) = false := by simp
      rw [List.take_length] at hW
      have hlen := lns_len l
      have HL := Lib.hid (lns_low l)
      have HP := Lib.hid (prep_lns l)
      generalize lns l = bs at *
      obtain ⟨sp, sc, hv⟩ := hW.out.1.shape
      subst hv
      obtain ⟨c1, c2⟩ := hW.out.1.capLe rfl
      have P1 := Lib.hid (Prepare_any _ sp sc bs (tabs_fr HT.out hW.out.2) (fun x hx => by have := HL.out x hx; omega) (RdB.win hW.out.1) c1 c2 (by omega))
      rw [HP.out] at P1
      have hx := xx_len l.length
      have HA := Lib.hid (xx_at l.length)
      have HSc := Lib.hid (xx_sc l.length)
      generalize xx l.length = xs at *
      go_wp2_with fail
      rename_i KK2 aa2
      refine P1.out.mono ?_
      rintro e w2 ⟨s1, k1, rfl, o1, f2⟩
      have F2 := Lib.hid (hW.out.2.trans f2)
      have R1 := Lib.hid (RdN.win o1)
      clear f2 o1 P1 aa hW HT
      show KK2 _ _
      apply aa2
      clear aa2
      have HB2 := Lib.hid (encs_byte (zs xs))
      have P19 := Lib.hid (show ∀ W, Fr (fun _ => False) w2 W → Calls Tryd.prog 19 #[.slice s1 xs.length k1] W (NewB W (encs (zs xs))) from fun W f => Bytes_nat W s1 k1 xs (R1.out.fr f) (fun x hx => by have := HSc.out x hx; omega) (by omega))
      have P20 := Lib.hid (show ∀ W, Fr (fun _ => False) w2 W → Calls Tryd.prog 20 #[.slice s1 xs.length k1] W (NewB W (encs (zs xs))) from fun W f => by
        have := RBytes_any W s1 k1 (zs xs) (R1.out.fr f).ints (by rw [zs_len]; omega)
        rw [zs_len] at this
        exact this)
      generalize encs (zs xs) = bt at *
      obtain ⟨nm, hnm⟩ : ∃ nm, baOf bt = nm := ⟨_, rfl⟩
      have CV := Lib.hid (show ∀ (W0 W : World) (s : Option Addr) (k B : Nat), OwnsWin W0 B 5 1 (.slice s bt.length k) bt.length (bR bt) → Fr (fun _ => False) W0 W → (convert 22 9 (.slice s bt.length k)).run Tryd.prog W = .ok (.string nm) W from fun W0 W s k B h f => by rw [← hnm]; exact conv_any (h.fr f (by simp)) HB2.out)
      have q0 : (((xs.length : Nat) : Int) != 2 * (l.length : Int)) = false := by simp; omega
      have HX := Lib.hid hx
      have hl9 : l.length ≤ 200 := by omega
      clear hx hnm HB2 HSc HL HP hbig hk hlt
      go_wp2_with fail
      go_loopw [7] (fun i wr => ∃ (k : Nat), k ≤ l.length ∧ i = .int .i64 k ∧ wr = w2) (fun i _ => l.length - (intOf i).toNat)
      case atStart => exact ⟨0, by omega, rfl, by first | rfl | trivial⟩
      case round =>
        obtain ⟨k, hk, rfl, rfl⟩ := hrel
        by_cases hlt : k < l.length
        · obtain ⟨ha, hb⟩ := HA.out k hlt
          obtain ⟨g, off, rfl, x0⟩ := R1.out _ _ ha
          obtain ⟨_, _, e1, x1⟩ := R1.out _ _ hb
          cases e1
          have b1 : 2 * k < xs.length := by have := HX.out; omega
          have b2 : 2 * k + 1 < xs.length := by have := HX.out; omega
          have q1 : decide ((k : Int) < (l.length : Int)) = true := by simp; omega
          clear ha hb
          go_wp2_with fail
          go_roundw
          case rel => exact ⟨k + 1, by omega, by first | rfl | go_num, by first | rfl | trivial⟩
          case measure => simp [intOf]; omega
        · obtain rfl : k = l.length := by omega
          have q1 : decide ((l.length : Int) < (l.length : Int)) = false := by simp
          go_wp2_with fail
          go_region_with (first
            | (go_at_call 19; (refine (P19.out _ (by first | exact Fr.refl _ _ | exact (Fr.refl _ _).drew | exact G4.out | exact G4.out.drew)).mono ?_; rintro e w3 ⟨s3, k3, rfl, o3, f3⟩; have G3 := Lib.hid (show Fr (fun _ => False) wr w3 by first | exact f3 | exact (Fr.refl _ _).drew.trans f3 | exact G4.out.trans f3 | exact G4.out.drew.trans f3); have ka := CV.out _ w3 _ _ _ o3 (Fr.refl _ _); have ka' := CV.out _ w3.drew _ _ _ o3 (Fr.refl _ _).drew; (try have kb := CV.out _ w3 _ _ _ O4.out (by first | exact f3 | exact (Fr.refl _ _).drew.trans f3)); (try have kb' := CV.out _ w3.drew _ _ _ O4.out (by first | exact f3.drew | exact ((Fr.refl _ _).drew.trans f3).drew)); have O3 := Lib.hid o3; clear f3 o3))
            | (go_at_call 20; (refine (P20.out _ (by first | exact Fr.refl _ _ | exact (Fr.refl _ _).drew | exact G3.out | exact G3.out.drew)).mono ?_; rintro e w4 ⟨s4, k4, rfl, o4, f4⟩; have G4 := Lib.hid (show Fr (fun _ => False) wr w4 by first | exact f4 | exact (Fr.refl _ _).drew.trans f4 | exact G3.out.trans f4 | exact G3.out.drew.trans f4); have kc := CV.out _ w4 _ _ _ o4 (Fr.refl _ _); have kc' := CV.out _ w4.drew _ _ _ o4 (Fr.refl _ _).drew; (try have kd := CV.out _ w4 _ _ _ O3.out (by first | exact f4 | exact (Fr.refl _ _).drew.trans f4)); (try have kd' := CV.out _ w4.drew _ _ _ O3.out (by first | exact f4.drew | exact ((Fr.refl _ _).drew.trans f4).drew)); have O4 := Lib.hid o4; clear f4 o4)))
          all_goals
            go_wp2_with fail
            go_ret
            exact ⟨by first | rfl | simp, by first | exact F2.out.trans G4.out | exact F2.out.trans G3.out | exact (F2.out.trans G4.out).drew | exact (F2.out.trans G3.out).drew⟩
theorem textEnds_walk (v : Value) (l : List Int) (w : World) (hT : Tabs w) (h : IsI w v l) : Calls Tryd.prog 8 #[v] w fun e w' => e = .returned (.bool true) ∧ Below w.heap.size w w' := by
  obtain ⟨p, c, rfl, _, _, h, _⟩ := h
  exact (ends_law l p c w hT h).mono fun _ _ h => ⟨h.1, h.2.below (Nat.le_refl _) (by simp)⟩
end Go.Proofs.YtfgmhpdhgepalaaDoor
