/- TextBytes: the walk. -/
import Derived.Test.YtfgmhpdhgepalaaDoorBytes2
import Derived.Test.YtfgmhpdhgepalaaDoorNums
import Derived.Deep.RegionWith
import Derived.Deep.RegionHeld3
import Derived.Deep.Cut
import Derived.Deep.CutRange
import Derived.Deep.DeepCutAuto
import Derived.Deep.QuietTactic
import Derived.BigQuiet
namespace Go.Proofs.YtfgmhpdhgepalaaDoor
open Go.RowKit Go.Shelf Go.Maps Go.ChangeShapes Go.WideShapes Go.ChangeAt Go.WideMaps Go.WideElems

theorem act_eq {K : Act → World → Prop} {Q : Exit → Act → World → Prop} {e : Exit} {A A' : Act} {w : World} (h : A = A') (g : Exit.then K Q e A' w) : Exit.then K Q e A w := h ▸ g

set_option maxHeartbeats 8000000 in
set_option maxRecDepth 100000 in
theorem bytes_law (l : List Int) (p : Option Addr) (c : Nat) (w : World) (hT : Tabs w) (hr : RdI w p l) (hw : ∀ z ∈ l, -9223372036854775808 ≤ z ∧ z ≤ 9223372036854775807) :
    Calls Tryd.prog 9 #[.slice p l.length c] w fun e w' => e = .returned (.bool true) ∧ Fr (fun _ => False) w w' := by
  have AL := Lib.hid (alive_any w hT)
  have HT := Lib.hid hT
  have HR := Lib.hid hr
  have HW := Lib.hid hw
  clear hT hr hw
  go_enter Tryd.func9, Tryd.ntmps9
  go_wp2_with fail
  rename_i KK aa
  refine AL.out.mono ?_
  rintro e w1 ⟨rfl, f1⟩
  have F1 := Lib.hid f1
  clear AL f1
  show KK _ _
  apply aa
  by_cases hbig : 1000 < l.length
  · have d1 : decide ((1000 : Int) < (l.length : Int)) = true := by simp; omega
    go_wp2_with fail
    go_ret
    exact ⟨rfl, F1.out⟩
  have d1 : decide ((1000 : Int) < (l.length : Int)) = false := by simp; omega
  have P1 := Lib.hid (Bytes_any w1 p c l (HR.out.fr F1.out) HW.out (by omega))
  have l1 := encs_len l
  have HBB := Lib.hid (encs_byte l)
  have HPE := Lib.hid (pts_encs_any l)
  have P3 := Lib.hid (show ∀ W, Fr (fun _ => False) w W → Calls Tryd.prog 20 #[.slice p l.length c] W (NewB W (encs l)) from fun W f => RBytes_any W p c l (HR.out.fr f) (by omega))
  generalize encs l = bs at *
  go_wp2_with fail
  rename_i KK2 aa2
  refine P1.out.mono ?_
  rintro e w2 ⟨s1, k1, rfl, o1, f2⟩
  have F2 := Lib.hid (F1.out.trans f2)
  have O1 := Lib.hid o1
  obtain ⟨c1, c2⟩ := o1.capLe rfl
  clear f2 o1 P1 aa
  show KK2 _ _
  apply aa2
  clear aa2
  have P2 := Lib.hid (Points_any w2 s1 k1 bs (tabs_fr HT.out F2.out) HBB.out (RdB.win O1.out) c1 c2 (by omega))
  rw [HPE.out] at P2
  go_wp2_with fail
  rename_i KK3 aa3
  refine P2.out.mono ?_
  rintro e w3 ⟨s2, k2, rfl, o2, f3⟩
  have F3 := Lib.hid (F2.out.trans f3)
  have R2 := Lib.hid (RdN.win o2)
  have O1' := Lib.hid (O1.out.fr f3 (by simp))
  clear f3 o2 P2 O1
  show KK3 _ _
  apply aa3
  clear aa3
  rw [List.length_map] at *
  obtain ⟨nm, hnm⟩ : ∃ nm, baOf bs = nm := ⟨_, rfl⟩
  have CV := Lib.hid (show ∀ (W0 W : World) (s : Option Addr) (k B : Nat), OwnsWin W0 B 5 1 (.slice s bs.length k) bs.length (bR bs) → Fr (fun _ => False) W0 W → (convert 22 9 (.slice s bs.length k)).run Tryd.prog W = .ok (.string nm) W from fun W0 W s k B h f => by rw [← hnm]; exact conv_any (h.fr f (by simp)) HBB.out)
  have kc0 := CV.out _ w3 _ _ _ O1'.out (Fr.refl _ _)
  have kc1 := CV.out _ w3.drew _ _ _ O1'.out (Fr.refl _ _).drew
  have qn : ((l.length : Int) != (l.length : Int)) = false := by simp
  have hl9 : l.length ≤ 1000 := by omega
  clear hnm HPE HBB hbig
  go_upto_region 6 with fail
  go_cut [33] from 21 to 33 (fun v wx => v = .bool false ∧ Hid (Fr (fun _ => False) w3 wx))
  case first =>
    go_region_with (go_at_call 20; refine (P3.out _ (by first | exact F3.out | exact F3.out.drew | exact F3.out.drew.drew)).mono ?_; rintro e w4 ⟨s4, k4, rfl, o4, f4⟩; have G4 := Lib.hid (show Fr (fun _ => False) w3 w4 by first | exact f4 | exact (Fr.refl (fun _ => False) w3).drew.trans f4); have kc2 := CV.out _ w4 _ _ _ O1'.out G4.out; have kc3 := CV.out _ w4 _ _ _ o4 (Fr.refl _ _); clear f4 o4)
    all_goals refine act_eq (A' := { tmps := #[.slice p l.length c, undef, .bool false, .bool true, .slice s1 bs.length k1, .slice s2 l.length k2, undef, undef, .bool true, .bool true, .bool false, .bool false, .slice p l.length c, .int .i64 (l.length : Int), .bool false, .bool false, undef, .slice p l.length c, .slice s1 bs.length k1, .slice s1 bs.length k1, .slice s2 l.length k2, .slice s1 bs.length k1, .string nm, .slice p l.length c, .slice s4 bs.length k4, .string nm, .bool false, .bool false, .slice s2 l.length k2, .int .i64 (l.length : Int), .slice p l.length c, .int .i64 (l.length : Int), .bool false, .bool false, undef, undef, undef, undef, undef, undef, undef, undef, undef, undef, undef, undef, undef, undef, undef, undef, undef, undef, undef, undef, undef, undef, undef, undef, undef, undef, undef, undef, undef, undef, undef, undef, undef, undef, undef, undef, undef, undef, undef, undef, undef, undef, undef, undef, undef, undef, undef, undef, undef, undef, undef, undef, undef, undef, undef], defers := [] }) (by kernel_rfl) ?_
    all_goals dsimp only
    all_goals go_wp2_with fail
    all_goals go_meet
    all_goals exact ⟨rfl, G4⟩
  case rest =>
    obtain ⟨rfl, G4⟩ := hcut
    clear P3 kc0 kc1 CV
    go_wp2_with fail
    go_loopw [6] (fun q wr => ∃ (k : Nat) (m : Nat), k ≤ l.length ∧ q = .int .i64 k ∧ wr = wc.drewN m) (fun q _ => l.length - (intOf q).toNat)
    case atStart => exact ⟨0, 0, by omega, rfl, rfl⟩
    case round =>
      obtain ⟨k, m, hk, rfl, rfl⟩ := hrel
      by_cases hlt : k < l.length
      · obtain ⟨z, hz⟩ : ∃ z, l[k]? = some z := ⟨_, List.getElem?_eq_getElem hlt⟩
        have fw : Fr (fun _ => False) w3 (wc.drewN m) := G4.out.trans ⟨rfl, rfl, rfl, Nat.le_refl _, fun _ _ _ => rfl⟩
        obtain ⟨g1, o1, rfl, x0⟩ := (HR.out.fr (F3.out.trans fw)) k z hz
        obtain ⟨g2, o2, rfl, y0⟩ := (R2.out.fr fw) k (fixN z) (by rw [List.getElem?_map, hz]; rfl)
        have HW := Lib.hid (show ∀ n, (wc.drewN m).drewN n = wc.drewN (m + n) from fun n => World.drewN_drewN _ _ _)
        have q1 : decide ((k : Int) < (l.length : Int)) = true := by simp; omega
        have i1 : (k : Int) < (l.length : Int) := by omega
        clear fw hz
        generalize wc.drewN m = w9 at *
        have hx := Lib.hid (show fixN z = if rightB z = true then z.toNat else 65533 from rfl)
        by_cases e0 : 0 ≤ z
        · have d0 : decide (0 ≤ z) = true := by simpa using e0
          by_cases e1 : z ≤ 1114111
          · have d1 : decide (z ≤ 1114111) = true := by simpa using e1
            by_cases e2 : z < 55296
            · have d2 : decide (z < 55296) = true := by simpa using e2
              have hf : ((fixN z : Nat) : Int) = z := by rw [hx.out, if_pos (by unfold rightB; exact decide_eq_true (by omega))]; omega
              rw [hf] at y0
              have qz : (z != z) = false := by simp
              clear hf e0 e1 e2 hx
              go_wp2_with fail
              go_quiet (fail)
              go_wp2_with fail
              go_roundw
              case rel => exact ⟨k + 1, _, by omega, by go_num, HW.out _⟩
              case measure => simp [intOf]; omega
            · have d2 : decide (z < 55296) = false := by simpa using e2
              by_cases e3 : 57343 < z
              · have d3 : decide (57343 < z) = true := by simpa using e3
                have hf : ((fixN z : Nat) : Int) = z := by rw [hx.out, if_pos (by unfold rightB; exact decide_eq_true (by omega))]; omega
                rw [hf] at y0
                have qz : (z != z) = false := by simp
                clear hf e0 e1 e2 e3 hx
                go_wp2_with fail
                go_quiet (fail)
                go_wp2_with fail
                go_roundw
                case rel => exact ⟨k + 1, _, by omega, by go_num, HW.out _⟩
                case measure => simp [intOf]; omega
              · have d3 : decide (57343 < z) = false := by simpa using e3
                have hf : fixN z = 65533 := by rw [hx.out, if_neg (by unfold rightB; simp; omega)]
                rw [hf] at y0
                clear hf e0 e1 e2 e3 hx
                go_wp2_with fail
                go_quiet (fail)
                go_wp2_with fail
                go_roundw
                case rel => exact ⟨k + 1, _, by omega, by go_num, HW.out _⟩
                case measure => simp [intOf]; omega
          · have d1 : decide (z ≤ 1114111) = false := by simpa using e1
            have hf : fixN z = 65533 := by rw [hx.out, if_neg (by unfold rightB; simp; omega)]
            rw [hf] at y0
            clear hf e0 e1 hx
            go_wp2_with fail
            go_quiet (fail)
            go_wp2_with fail
            go_roundw
            case rel => exact ⟨k + 1, _, by omega, by go_num, HW.out _⟩
            case measure => simp [intOf]; omega
        · have d0 : decide (0 ≤ z) = false := by simpa using e0
          have hf : fixN z = 65533 := by rw [hx.out, if_neg (by unfold rightB; simp; omega)]
          rw [hf] at y0
          clear hf e0 hx
          go_wp2_with fail
          go_quiet (fail)
          go_wp2_with fail
          go_roundw
          case rel => exact ⟨k + 1, _, by omega, by go_num, HW.out _⟩
          case measure => simp [intOf]; omega
      · obtain rfl : k = l.length := by omega
        have q1 : decide ((l.length : Int) < (l.length : Int)) = false := by simp
        go_wp2_with fail
        go_ret
        exact ⟨rfl, F3.out.trans (G4.out.trans ⟨rfl, rfl, rfl, Nat.le_refl _, fun _ _ _ => rfl⟩)⟩
theorem textBytes_walk (v : Value) (l : List Int) (w : World) (hT : Tabs w) (h : IsI w v l) : Calls Tryd.prog 9 #[v] w fun e w' => e = .returned (.bool true) ∧ Below w.heap.size w w' := by
  obtain ⟨p, c, rfl, _, _, h, hz⟩ := h
  exact (bytes_law l p c w hT h hz).mono fun _ _ h => ⟨h.1, h.2.below (Nat.le_refl _) (by simp)⟩
end Go.Proofs.YtfgmhpdhgepalaaDoor
