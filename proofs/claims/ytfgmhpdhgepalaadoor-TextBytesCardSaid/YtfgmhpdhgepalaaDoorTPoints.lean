/- TextPoints: the walk. -/
import Derived.Test.YtfgmhpdhgepalaaDoorRPrep
namespace Go.Proofs.YtfgmhpdhgepalaaDoor
open Go.RowKit Go.Shelf Go.Maps Go.ChangeShapes Go.WideShapes Go.ChangeAt Go.WideMaps Go.WideElems

theorem prep_len (l : List Nat) : (prep l).length ≤ l.length := by
  rw [prep_ref]
  exact Nat.le_trans (rprep_len _) (pts_len l)

set_option maxHeartbeats 4000000 in
set_option maxRecDepth 100000 in
theorem points_law (l : List Nat) (p : Option Addr) (c : Nat) (w : World) (hT : Tabs w) (hb : ∀ x ∈ l, x < 256) (hr : RdB w p l) (hc : l.length ≤ c) (hm : c ≤ maxLen) :
    Calls Tryd.prog 3 #[.slice p l.length c] w fun e w' => e = .returned (.bool true) ∧ Fr (fun _ => False) w w' := by
  have AL := Lib.hid (alive_any w hT)
  have HT := Lib.hid hT
  have HB := Lib.hid hb
  have HR := Lib.hid hr
  clear hT hb hr
  go_enter Tryd.func3, Tryd.ntmps3
  go_wp2_with fail
  rename_i KK aa
  refine AL.out.mono ?_
  rintro e w1 ⟨rfl, f1⟩
  have F1 := Lib.hid f1
  clear AL f1
  show KK _ _
  apply aa
  by_cases hbig : 2000 < l.length
  · have d1 : decide ((2000 : Int) < (l.length : Int)) = true := by simp; omega
    go_wp2_with fail
    go_ret
    exact ⟨rfl, F1.out⟩
  have d1 : decide ((2000 : Int) < (l.length : Int)) = false := by simp; omega
  have P1 := Lib.hid (show ∀ W, Fr (fun _ => False) w W → Calls Tryd.prog 13 #[.slice p l.length c] W (NewN W (pts l)) from fun W f => Points_any W p c l (tabs_fr HT.out f) HB.out (HR.out.fr f) hc hm (by omega))
  have P2 := Lib.hid (show ∀ W, Fr (fun _ => False) w W → Calls Tryd.prog 14 #[.slice p l.length c] W (NewN W (pts l)) from fun W f => RPoints_any W p c l HB.out (HR.out.fr f) hc hm (by omega))
  have P3 := Lib.hid (show ∀ W, Fr (fun _ => False) w W → Calls Tryd.prog 15 #[.slice p l.length c] W (NewN W (prep l)) from fun W f => Prepare_any W p c l (tabs_fr HT.out f) HB.out (HR.out.fr f) hc hm (by omega))
  have P4 := Lib.hid (show ∀ W, Fr (fun _ => False) w W → Calls Tryd.prog 16 #[.slice p l.length c] W (NewN W (prep l)) from fun W f => RPrepare_any W p c l HB.out (HR.out.fr f) hc hm (by omega))
  have l1 := pts_len l
  have l2 := prep_len l
  generalize pts l = xa at *
  generalize prep l = xb at *
  have SA := Lib.hid (show ∀ W s1 k1 s2 k2, RdN W s1 xa → RdN W s2 xa → Calls Tryd.prog 12 #[.slice s1 xa.length k1, .slice s2 xa.length k2] W (fun e w' => e = .returned (.bool true) ∧ Fr (fun _ => False) W w') from fun W s1 k1 s2 k2 h1 h2 => sameInts_any s1 s2 k1 k2 xa W h1 h2 (by omega))
  have SB := Lib.hid (show ∀ W s1 k1 s2 k2, RdN W s1 xb → RdN W s2 xb → Calls Tryd.prog 12 #[.slice s1 xb.length k1, .slice s2 xb.length k2] W (fun e w' => e = .returned (.bool true) ∧ Fr (fun _ => False) W w') from fun W s1 k1 s2 k2 h1 h2 => sameInts_any s1 s2 k1 k2 xb W h1 h2 (by omega))
  clear HT HB HR
  go_wp2_with (first
    | (go_at_call 13; refine Calls.mono (P1.out _ F1.out) ?_; rintro e w2 ⟨s1, k1, rfl, o1, f2⟩; have F2 := Lib.hid (F1.out.trans f2); have R1 := Lib.hid (RdN.win o1); clear o1 f2)
    | (go_at_call 14; refine Calls.mono (P2.out _ F2.out) ?_; rintro e w3 ⟨s2, k2, rfl, o2, f3⟩; have F3 := Lib.hid (F2.out.trans f3); have R2 := Lib.hid (RdN.win o2); have R1' := Lib.hid (R1.out.fr f3); clear o2 f3 R1)
    | (go_at_call 15; refine Calls.mono (P3.out _ F4.out) ?_; rintro e w5 ⟨s3, k3, rfl, o3, f5⟩; have F5 := Lib.hid (F4.out.trans f5); have R3 := Lib.hid (RdN.win o3); clear o3 f5)
    | (go_at_call 16; refine Calls.mono (P4.out _ F5.out) ?_; rintro e w6 ⟨s4, k4, rfl, o4, f6⟩; have F6 := Lib.hid (F5.out.trans f6); have R4 := Lib.hid (RdN.win o4); have R3' := Lib.hid (R3.out.fr f6); clear o4 f6 R3)
    | (go_at_call 12; with_reducible refine Calls.mono (SB.out _ _ _ _ _ R3'.out R4.out) ?_; rintro e w7 ⟨rfl, f7⟩; have F7 := Lib.hid (F6.out.trans f7); clear f7)
    | (go_at_call 12; with_reducible refine Calls.mono (SA.out _ _ _ _ _ R1'.out R2.out) ?_; rintro e w4 ⟨rfl, f4⟩; have F4 := Lib.hid (F3.out.trans f4); clear f4))
  go_ret
  exact ⟨rfl, F7.out⟩
theorem textPoints_walk (v : Value) (l : List Nat) (w : World) (hT : Tabs w) (h : IsB w v l) : Calls Tryd.prog 3 #[v] w fun e w' => e = .returned (.bool true) ∧ Below w.heap.size w w' := by
  obtain ⟨p, c, rfl, h1, h2, h3, h4⟩ := h
  exact (points_law l p c w hT h4 h3 h1 h2).mono fun _ _ h => ⟨h.1, h.2.below (Nat.le_refl _) (by simp)⟩
end Go.Proofs.YtfgmhpdhgepalaaDoor
