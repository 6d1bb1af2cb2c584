/- The reference's Prepare (printed by mkrprep.py); TextPoints. -/
import Derived.Test.YtfgmhpdhgepalaaDoorRPts
namespace Go.Proofs.YtfgmhpdhgepalaaDoor
open Go.RowKit Go.Shelf Go.Maps Go.ChangeShapes Go.WideShapes Go.ChangeAt Go.WideMaps Go.WideElems

set_option maxHeartbeats 8000000 in
set_option maxRecDepth 100000 in
theorem RPrepare_any (w : World) (p : Option Addr) (c : Nat) (l : List Nat) (hb : ∀ x ∈ l, x < 256) (hr : RdB w p l) (hc : l.length ≤ c) (hm : c ≤ maxLen) (hl : l.length ≤ 100000) :
    Calls Tryd.prog 16 #[.slice p l.length c] w (NewN w (prep l)) := by
  have RP := Lib.hid (RPoints_any w p c l hb hr hc hm hl)
  rw [prep_ref]
  have hpl := pts_len l
  have HLB := Lib.hid (rprep_len (pts l))
  generalize pts l = xs at *
  obtain ⟨i3, ib0, ib1, ib2, ib3⟩ := info_parts info3
  clear hb hr hc hm
  go_enter Tryd.func16, Tryd.ntmps16
  go_wp2_with fail
  rename_i KK aa
  refine RP.out.mono ?_
  rintro e w1 ⟨s1, k1, rfl, o1, f1⟩
  have F1 := Lib.hid f1
  have R1 := Lib.hid (RdN.win o1)
  obtain ⟨hk1, hk2⟩ := o1.capLe rfl
  unfold maxLen at hk2
  clear RP o1 f1
  show KK _ _
  apply aa
  clear aa
  go_wp2_with fail
  go_loopw [4, 5] (fun o i wr => ∃ (k n : Nat) (pre : List Nat) (sp : Option Addr) (cc : Nat), k ≤ xs.length ∧ n ≤ k ∧ n = pre.length ∧ i = .int .i64 k ∧ o = .slice sp n cc ∧ Hid (rprep xs = pre ++ rprep (xs.drop k)) ∧ Hid (OwnsWin wr w1.heap.size 3 1 (.slice sp n cc) n (iR pre)) ∧ Hid (Fr (fun _ => False) w1 wr)) (fun _ i _ => xs.length - (intOf i).toNat)
  case atStart => exact ⟨0, 0, [], none, 0, by omega, by omega, rfl, rfl, rfl, (rfl : rprep xs = [] ++ rprep (xs.drop 0)), OwnsWin.nil _ _ _ _, Fr.refl _ _⟩
  case round =>
    obtain ⟨k, n, pre, sp, cc, hk, hnk, hn, rfl, rfl, hP, hO, hG⟩ := hrel
    by_cases hlt : k < xs.length
    · obtain ⟨x, hx⟩ : ∃ x, xs[k]? = some x := ⟨xs[k], List.getElem?_eq_getElem hlt⟩
      obtain ⟨g, off, rfl, x0⟩ := (R1.out.fr hG.out) k x hx
      have HX := Lib.hid (rprep_at hx)
      have HR2 := Lib.hid (R1.out.fr hG.out)
      have q1 : (k : Int) < (xs.length : Int) := by omega
      have HN := Lib.hid hn
      clear hx hn
      by_cases e13 : x = 13
      · subst e13
        by_cases h1 : k + 1 < xs.length
        · obtain ⟨y, hy⟩ : ∃ y, xs[k + 1]? = some y := ⟨xs[k + 1], List.getElem?_eq_getElem h1⟩
          obtain ⟨g', off', e, y0⟩ := HR2.out (k + 1) y hy
          cases e
          have q2 : (k : Int) + 1 < (xs.length : Int) := by omega
          rw [hy] at HX
          clear hy
          by_cases e10 : y = 10
          · subst e10
            have HP2 := Lib.hid (show rprep xs = pre ++ rprep (xs.drop (k + 1)) by rw [hP.out, HX.out, if_pos ⟨rfl, rfl⟩])
            clear HX
            go_wp2_with fail
            go_roundw
            case rel => exact ⟨k + 1, n, pre, sp, cc, by omega, by omega, HN.out, by first | rfl | go_num, rfl, HP2.out, hO.out, hG.out⟩
            case measure => simp [intOf]; omega
          · have q3 : ((y : Int) == 10) = false := by simp; omega
            have HP2 := Lib.hid (show rprep xs = (pre ++ [10]) ++ rprep (xs.drop (k + 1)) by rw [hP.out, HX.out, if_neg (fun e => e10 (Option.some.inj e.2)), if_pos (Or.inl rfl)]; simp)
            clear HX
            go_wp2_with (at_builtin; refine wpList_append_src _ rfl (.tmp 55) (.tmp 56) 25 rfl w1.heap.size 3 i3 _ 1 8 Tryd.underlying25 ib0 ib1 ib2 ib3 rfl (by decide) (.slice sp n cc) n _ rfl (hO.out.fr ((Fr.refl (fun _ => False) _).alloc _) (by simp)) (some ⟨_, 0, none⟩) 1 1 [.int .i64 10] rfl (Src.one (heapNew _ _) rfl) (by simp [Value.oneCell']) (by unfold maxLen; omega) (by omega) ((hG.out.alloc _).size) ?_; intro s4 c4 w4 hown hgrow hsh; have G4 := Lib.hid ((hG.out.alloc _).ownGrown (hO.out.fr ((Fr.refl (fun _ => False) _).alloc _) (by simp)) (Nat.le_refl _) hgrow); have O4 := Lib.hid hown; clear hown hgrow hsh)
            go_roundw
            case rel => exact ⟨k + 1, n + 1, pre ++ [10], s4, c4, by omega, by omega, by simp [HN.out], by first | rfl | go_num, rfl, HP2.out, by show OwnsWin _ _ _ _ _ _ _; rw [iR_snoc]; exact O4.out, G4.out⟩
            case measure => simp [intOf]; omega
        · have q2 : ¬ ((k : Int) + 1 < (xs.length : Int)) := by omega
          have hno : xs[k + 1]? = none := List.getElem?_eq_none (by omega)
          rw [hno] at HX
          clear hno
          have HP2 := Lib.hid (show rprep xs = (pre ++ [10]) ++ rprep (xs.drop (k + 1)) by rw [hP.out, HX.out, if_neg (fun e => by cases e.2), if_pos (Or.inl rfl)]; simp)
          clear HX
          go_wp2_with (at_builtin; refine wpList_append_src _ rfl (.tmp 55) (.tmp 56) 25 rfl w1.heap.size 3 i3 _ 1 8 Tryd.underlying25 ib0 ib1 ib2 ib3 rfl (by decide) (.slice sp n cc) n _ rfl (hO.out.fr ((Fr.refl (fun _ => False) _).alloc _) (by simp)) (some ⟨_, 0, none⟩) 1 1 [.int .i64 10] rfl (Src.one (heapNew _ _) rfl) (by simp [Value.oneCell']) (by unfold maxLen; omega) (by omega) ((hG.out.alloc _).size) ?_; intro s4 c4 w4 hown hgrow hsh; have G4 := Lib.hid ((hG.out.alloc _).ownGrown (hO.out.fr ((Fr.refl (fun _ => False) _).alloc _) (by simp)) (Nat.le_refl _) hgrow); have O4 := Lib.hid hown; clear hown hgrow hsh)
          go_roundw
          case rel => exact ⟨k + 1, n + 1, pre ++ [10], s4, c4, by omega, by omega, by simp [HN.out], by first | rfl | go_num, rfl, HP2.out, by show OwnsWin _ _ _ _ _ _ _; rw [iR_snoc]; exact O4.out, G4.out⟩
          case measure => simp [intOf]; omega
      have q13 : ((x : Int) == 13) = false := by simp; omega
      by_cases e12 : x = 12
      · subst e12
        have HP2 := Lib.hid (show rprep xs = (pre ++ [10]) ++ rprep (xs.drop (k + 1)) by rw [hP.out, HX.out, if_neg (fun e => e13 e.1), if_pos (Or.inr rfl)]; simp)
        clear HX
        go_wp2_with (at_builtin; refine wpList_append_src _ rfl (.tmp 55) (.tmp 56) 25 rfl w1.heap.size 3 i3 _ 1 8 Tryd.underlying25 ib0 ib1 ib2 ib3 rfl (by decide) (.slice sp n cc) n _ rfl (hO.out.fr ((Fr.refl (fun _ => False) _).alloc _) (by simp)) (some ⟨_, 0, none⟩) 1 1 [.int .i64 10] rfl (Src.one (heapNew _ _) rfl) (by simp [Value.oneCell']) (by unfold maxLen; omega) (by omega) ((hG.out.alloc _).size) ?_; intro s4 c4 w4 hown hgrow hsh; have G4 := Lib.hid ((hG.out.alloc _).ownGrown (hO.out.fr ((Fr.refl (fun _ => False) _).alloc _) (by simp)) (Nat.le_refl _) hgrow); have O4 := Lib.hid hown; clear hown hgrow hsh)
        go_roundw
        case rel => exact ⟨k + 1, n + 1, pre ++ [10], s4, c4, by omega, by omega, by simp [HN.out], by first | rfl | go_num, rfl, HP2.out, by show OwnsWin _ _ _ _ _ _ _; rw [iR_snoc]; exact O4.out, G4.out⟩
        case measure => simp [intOf]; omega
      have q12 : ((x : Int) == 12) = false := by simp; omega
      by_cases e0 : x = 0
      · subst e0
        have HP2 := Lib.hid (show rprep xs = (pre ++ [65533]) ++ rprep (xs.drop (k + 1)) by rw [hP.out, HX.out, if_neg (fun e => e13 e.1), if_neg (fun e => e.elim e13 e12), if_pos rfl]; simp)
        clear HX
        go_wp2_with (at_builtin; refine wpList_append_src _ rfl (.tmp 64) (.tmp 65) 25 rfl w1.heap.size 3 i3 _ 1 8 Tryd.underlying25 ib0 ib1 ib2 ib3 rfl (by decide) (.slice sp n cc) n _ rfl (hO.out.fr ((Fr.refl (fun _ => False) _).alloc _) (by simp)) (some ⟨_, 0, none⟩) 1 1 [.int .i64 65533] rfl (Src.one (heapNew _ _) rfl) (by simp [Value.oneCell']) (by unfold maxLen; omega) (by omega) ((hG.out.alloc _).size) ?_; intro s4 c4 w4 hown hgrow hsh; have G4 := Lib.hid ((hG.out.alloc _).ownGrown (hO.out.fr ((Fr.refl (fun _ => False) _).alloc _) (by simp)) (Nat.le_refl _) hgrow); have O4 := Lib.hid hown; clear hown hgrow hsh)
        go_roundw
        case rel => exact ⟨k + 1, n + 1, pre ++ [65533], s4, c4, by omega, by omega, by simp [HN.out], by first | rfl | go_num, rfl, HP2.out, by show OwnsWin _ _ _ _ _ _ _; rw [iR_snoc]; exact O4.out, G4.out⟩
        case measure => simp [intOf]; omega
      have q0 : ((x : Int) == 0) = false := by simp; omega
      have HP2 := Lib.hid (show rprep xs = (pre ++ [x]) ++ rprep (xs.drop (k + 1)) by rw [hP.out, HX.out, if_neg (fun e => e13 e.1), if_neg (fun e => e.elim e13 e12), if_neg e0]; simp)
      clear HX
      go_wp2_with (at_builtin; refine wpList_append_src _ rfl (.tmp 14) (.tmp 19) 25 rfl w1.heap.size 3 i3 _ 1 8 Tryd.underlying25 ib0 ib1 ib2 ib3 rfl (by decide) (.slice sp n cc) n _ rfl (hO.out.fr ((Fr.refl (fun _ => False) _).alloc _) (by simp)) (some ⟨_, 0, none⟩) 1 1 [.int .i64 (x : Int)] rfl (Src.one (heapNew _ _) rfl) (by simp [Value.oneCell']) (by unfold maxLen; omega) (by omega) ((hG.out.alloc _).size) ?_; intro s4 c4 w4 hown hgrow hsh; have G4 := Lib.hid ((hG.out.alloc _).ownGrown (hO.out.fr ((Fr.refl (fun _ => False) _).alloc _) (by simp)) (Nat.le_refl _) hgrow); have O4 := Lib.hid hown; clear hown hgrow hsh)
      go_roundw
      case rel => exact ⟨k + 1, n + 1, pre ++ [x], s4, c4, by omega, by omega, by simp [HN.out], by first | rfl | go_num, rfl, HP2.out, by show OwnsWin _ _ _ _ _ _ _; rw [iR_snoc]; exact O4.out, G4.out⟩
      case measure => simp [intOf]; omega
    · obtain rfl : k = xs.length := by omega
      have q1 : ¬ ((xs.length : Int) < (xs.length : Int)) := by omega
      have HE := Lib.hid (show rprep xs = pre by have := hP.out; rw [List.drop_of_length_le (Nat.le_refl _)] at this; simpa [rprep] using this)
      go_wp2_with fail
      go_ret
      refine ⟨sp, cc, by rw [HE.out, ← hn]; rfl, ?_, F1.out.trans hG.out⟩
      rw [HE.out, ← hn]
      exact hO.out.lower F1.out.size
end Go.Proofs.YtfgmhpdhgepalaaDoor
