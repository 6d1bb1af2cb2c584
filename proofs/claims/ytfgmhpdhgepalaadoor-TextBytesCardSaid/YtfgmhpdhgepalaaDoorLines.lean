/- TextLines: the walk. -/
import Derived.Test.YtfgmhpdhgepalaaDoorRound
import Derived.Test.YtfgmhpdhgepalaaDoorTPoints
namespace Go.Proofs.YtfgmhpdhgepalaaDoor
open Go.RowKit Go.Shelf Go.Maps Go.ChangeShapes Go.WideShapes Go.ChangeAt Go.WideMaps Go.WideElems

theorem zs_len (l : List Nat) : (zs l).length = l.length := by simp [zs]
theorem Bytes_nat (w : World) (p : Option Addr) (c : Nat) (xs : List Nat) (hr : RdN w p xs) (hs : ∀ x ∈ xs, x ≤ 1114111) (hl : xs.length ≤ 100000) :
    Calls Tryd.prog 19 #[.slice p xs.length c] w (NewB w (encs (zs xs))) := by
  have := Bytes_any w p c (zs xs) hr.ints (fun z hz => by
    obtain ⟨x, hx, rfl⟩ := List.mem_map.1 hz
    have := hs x hx
    omega) (by rw [zs_len]; exact hl)
  rw [zs_len] at this
  exact this
set_option maxHeartbeats 4000000 in
set_option maxRecDepth 100000 in
theorem lines_law (l : List Nat) (p : Option Addr) (c : Nat) (w : World) (hT : Tabs w) (hb : ∀ x ∈ l, x < 256) (hr : RdB w p l) (hc : l.length ≤ c) (hm : c ≤ maxLen) :
    Calls Tryd.prog 7 #[.slice p l.length c] w fun e w' => e = .returned (.bool true) ∧ Fr (fun _ => False) w w' := by
  have AL := Lib.hid (alive_any w hT)
  have HT := Lib.hid hT
  have HB := Lib.hid hb
  have HR := Lib.hid hr
  clear hT hb hr
  go_enter Tryd.func7, Tryd.ntmps7
  go_wp2_with fail
  rename_i KK aa
  refine AL.out.mono ?_
  rintro e w1 ⟨rfl, f1⟩
  have F1 := Lib.hid f1
  clear AL f1
  show KK _ _
  apply aa
  by_cases hbig : 2000 < l.length
  · have d1 : decide ((2000 : Int) < (l.length : Int)) = true := by simp; omega
    go_wp2_with fail
    go_ret
    exact ⟨rfl, F1.out⟩
  have d1 : decide ((2000 : Int) < (l.length : Int)) = false := by simp; omega
  have P1 := Lib.hid (show ∀ W, Fr (fun _ => False) w W → Calls Tryd.prog 15 #[.slice p l.length c] W (NewN W (prep l)) from fun W f => Prepare_any W p c l (tabs_fr HT.out f) HB.out (HR.out.fr f) hc hm (by omega))
  have l2 := prep_len l
  have PM := Lib.hid (prep_mem l)
  have PA := Lib.hid (prep_again l)
  generalize prep l = xs at *
  have P2 := Lib.hid (show ∀ W s k, RdN W s xs → Calls Tryd.prog 19 #[.slice s xs.length k] W (NewB W (encs (zs xs))) from fun W s k h => Bytes_nat W s k xs h (fun x hx => (PM.out x hx).1.1) (by omega))
  have l3 := encs_len (zs xs)
  rw [zs_len] at l3
  have l4 := encs_byte (zs xs)
  generalize encs (zs xs) = bs at *
  have P3 := Lib.hid (show ∀ W s k B, Fr (fun _ => False) w W → OwnsWin W B 5 1 (.slice s bs.length k) bs.length (bR bs) → Calls Tryd.prog 15 #[.slice s bs.length k] W (NewN W xs) from fun W s k B f h => by
    obtain ⟨c1, c2⟩ := h.capLe rfl
    have := Prepare_any W s k bs (tabs_fr HT.out f) l4 (RdB.win h) c1 c2 (by omega)
    rw [PA.out] at this
    exact this)
  have SA := Lib.hid (show ∀ W s1 k1 s2 k2, RdN W s1 xs → RdN W s2 xs → Calls Tryd.prog 12 #[.slice s1 xs.length k1, .slice s2 xs.length k2] W (fun e w' => e = .returned (.bool true) ∧ Fr (fun _ => False) W w') from fun W s1 k1 s2 k2 h1 h2 => sameInts_any s1 s2 k1 k2 xs W h1 h2 (by omega))
  clear HT HB HR l4 PA
  go_wp2_with fail
  rename_i KK2 aa2
  refine (P1.out _ F1.out).mono ?_
  rintro e w2 ⟨s1, k1, rfl, o1, f2⟩
  have F2 := Lib.hid (F1.out.trans f2)
  have R1 := Lib.hid (RdN.win o1)
  clear f2 o1 P1 F1 aa
  show KK2 _ _
  apply aa2
  clear aa2
  go_wp2_with fail
  go_loopw [5] (fun i wr => ∃ (k : Nat), k ≤ xs.length ∧ i = .int .i64 k ∧ wr = w2) (fun i _ => xs.length - (intOf i).toNat)
  case atStart => exact ⟨0, by omega, rfl, by first | rfl | trivial⟩
  case round =>
    obtain ⟨k, hk, rfl, rfl⟩ := hrel
    by_cases hlt : k < xs.length
    · obtain ⟨x, hx⟩ : ∃ x, xs[k]? = some x := ⟨xs[k], List.getElem?_eq_getElem hlt⟩
      obtain ⟨g, off, rfl, x0⟩ := R1.out k x hx
      obtain ⟨-, e13, e12, e0⟩ := PM.out x (List.mem_of_getElem? hx)
      have q13 : ((x : Int) == 13) = false := by simp; omega
      have q12 : ((x : Int) == 12) = false := by simp; omega
      have q0 : ¬ ((x : Int) ≤ 0) := by omega
      have q1 : (k : Int) < (xs.length : Int) := by omega
      clear hx
      go_wp2_with fail
      go_roundw
      case rel => exact ⟨k + 1, by omega, by first | rfl | go_num, by first | rfl | trivial⟩
      case measure => simp [intOf]; omega
    · obtain rfl : k = xs.length := by omega
      have q1 : ¬ ((xs.length : Int) < (xs.length : Int)) := by omega
      have q2 : (xs.length : Int) ≤ (l.length : Int) := by omega
      go_wp2_with (first
        | (go_at_call 19; refine Calls.mono (P2.out _ _ _ R1.out) ?_; rintro e w3 ⟨s2, k2, rfl, o2, f3⟩; have F3 := Lib.hid (F2.out.trans f3); have R1' := Lib.hid (R1.out.fr f3); have O2 := Lib.hid o2; clear f3 o2)
        | (go_at_call 15; refine Calls.mono (P3.out _ _ _ _ F3.out O2.out) ?_; rintro e w4 ⟨s3, k3, rfl, o3, f4⟩; have F4 := Lib.hid (F3.out.trans f4); have R4 := Lib.hid (R1'.out.fr f4); have R3 := Lib.hid (RdN.win o3); clear f4 o3)
        | (go_at_call 12; refine Calls.mono (SA.out _ _ _ _ _ R3.out R4.out) ?_; rintro e w5 ⟨rfl, f5⟩; have F5 := Lib.hid (F4.out.trans f5); clear f5))
      go_ret
      exact ⟨rfl, F5.out⟩
theorem textLines_walk (v : Value) (l : List Nat) (w : World) (hT : Tabs w) (h : IsB w v l) : Calls Tryd.prog 7 #[v] w fun e w' => e = .returned (.bool true) ∧ Below w.heap.size w w' := by
  obtain ⟨p, c, rfl, h1, h2, h3, h4⟩ := h
  exact (lines_law l p c w hT h4 h3 h1 h2).mono fun _ _ h => ⟨h.1, h.2.below (Nat.le_refl _) (by simp)⟩
end Go.Proofs.YtfgmhpdhgepalaaDoor
