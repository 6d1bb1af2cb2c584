/- ClockOrders: the walk (printed by mkord.py). -/
import Derived.Test.YtmfkomdfknflgaaAccs
import Derived.Test.YtmfkomdfknflgaaCaus
import Derived.Deep.RegionHeld3
import Derived.Deep.QuietTactic
import Derived.BigQuiet
namespace Go.Proofs.Ytmfkomdfknflgaa
open Go.RowKit Go.Maps Go.ChangeShapes Go.WideShapes Go.ChangeAt Go.WideMaps Go.WideElems

theorem LS.ord {w W : World} {b : Nat} {g : LG} (h : LS w W b g) (hB : Bd g) (hL : g.L.length ≤ 100000) (i k : Int) :
    Calls Try.prog 13 #[.pointer (some ⟨b, 0, none⟩), .int .i64 i, .int .i64 k] W fun e w' => e = .returned (.bool (ordB g i k)) ∧ LS w w' b g := by
  obtain ⟨R, h1, h2⟩ := h
  exact (ordered_any W b R g h1 hB.b3 i k hL).mono fun e w' ⟨he, f⟩ => ⟨he, LS.fr0 ⟨R, h1, h2⟩ f⟩
/-- Between two rounds. -/
def OrS (w W : World) (b n k : Nat) (l : List Acc) : Prop := ∃ g, LS w W b g ∧ Bd g ∧ Cs g ∧ g.n = n ∧ g.L.length = k ∧ ∀ (t : Nat) (a : Acc) (d : Dn), l[t]? = some a → g.L[t]? = some d → (d.who : Int) = a.who
theorem OrS.next {w W' : World} {b n k : Nat} {l : List Acc} {g : LG} {a : Acc} (h2 : Bd g) (h3 : Cs g) (h4 : g.n = n) (h5 : g.L.length = k) (h6 : ∀ (t : Nat) (a : Acc) (d : Dn), l[t]? = some a → g.L[t]? = some d → (d.who : Int) = a.who) (ha : l[k]? = some a) (hi : isB g.n a.who = true) (hl : LS w W' b (DoG g a)) : OrS w W' b n (k + 1) l := by
  have e : DoG g a = doN g a := if_pos hi
  refine ⟨_, hl, h2.doG a, h3.doG a, by rw [doG_n]; exact h4, by rw [e, doN_len, h5], fun t x d hx hd => ?_⟩
  rw [e] at hd
  have hd : (g.L ++ [(⟨a.who.toNat, clkN g a a.who.toNat, basN g a a.who.toNat⟩ : Dn)])[t]? = some d := hd
  by_cases q : t < g.L.length
  · rw [List.getElem?_append_left q] at hd
    exact h6 t x d hx hd
  · rw [List.getElem?_append_right (by omega)] at hd
    have hq : t - g.L.length = 0 := by
      rcases Nat.eq_zero_or_pos (t - g.L.length) with e2 | e2
      · exact e2
      · rw [List.getElem?_eq_none (by simp; omega)] at hd; cases hd
    rw [hq] at hd
    obtain rfl : _ = d := by simpa using hd
    have : t = k := by omega
    subst this
    rw [ha] at hx
    cases hx
    obtain ⟨m, hm, _⟩ := isB_iff.1 hi
    show ((a.who.toNat : Nat) : Int) = a.who
    rw [hm]; rfl
set_option maxRecDepth 100000 in
set_option maxHeartbeats 4000000 in
theorem orders_law (wk : Int) (l : List Acc) (p : Option Addr) (c : Nat) (i j k : Int) (w : World) (hl : RowR 4 AccR w (.slice p l.length c) l) :
    Calls Try.prog 6 #[.int .i64 wk, .slice p l.length c, .int .i64 i, .int .i64 j, .int .i64 k] w fun e w' => e = .returned (.bool true) ∧ Fr (fun _ => False) w w' := by
  have AL := Lib.hid (alive_any w)
  have HR := Lib.hid hl
  clear hl
  go_enter Try.func6, Try.ntmps6
  go_wp2_with fail
  rename_i KK aa
  refine AL.out.mono ?_
  rintro e w1 ⟨rfl, f1⟩
  have F1 := Lib.hid f1
  clear AL f1
  show KK _ _
  apply aa
  clear aa
  by_cases c0 : wk < 1
  · have d0 : decide (wk < 1) = true := by simpa using c0
    clear c0
    go_wp2_with fail
    go_ret
    exact ⟨rfl, F1.out⟩
  have d0 : decide (wk < 1) = false := by simpa using c0
  by_cases c1 : 64 < wk
  · have d1 : decide (64 < wk) = true := by simpa using c1
    clear c1
    go_wp2_with fail
    go_ret
    exact ⟨rfl, F1.out⟩
  have d1 : decide (64 < wk) = false := by simpa using c1
  by_cases c2 : 60 < l.length
  · have d2 : decide ((60 : Int) < (l.length : Int)) = true := by simp; omega
    clear c2
    go_wp2_with fail
    go_ret
    exact ⟨rfl, F1.out⟩
  have d2 : decide ((60 : Int) < (l.length : Int)) = false := by simp; omega
  by_cases c3 : i < 0
  · have d3 : decide (i < 0) = true := by simpa using c3
    clear c3
    go_wp2_with fail
    go_ret
    exact ⟨rfl, F1.out⟩
  have d3 : decide (i < 0) = false := by simpa using c3
  by_cases c4 : j < 0
  · have d4 : decide (j < 0) = true := by simpa using c4
    clear c4
    go_wp2_with fail
    go_ret
    exact ⟨rfl, F1.out⟩
  have d4 : decide (j < 0) = false := by simpa using c4
  by_cases c5 : k < 0
  · have d5 : decide (k < 0) = true := by simpa using c5
    clear c5
    go_wp2_with fail
    go_ret
    exact ⟨rfl, F1.out⟩
  have d5 : decide (k < 0) = false := by simpa using c5
  by_cases c6 : (l.length : Int) ≤ i
  · have d6 : decide ((l.length : Int) ≤ i) = true := by simpa using c6
    clear c6
    go_wp2_with fail
    go_ret
    exact ⟨rfl, F1.out⟩
  have d6 : decide ((l.length : Int) ≤ i) = false := by simpa using c6
  by_cases c7 : (l.length : Int) ≤ j
  · have d7 : decide ((l.length : Int) ≤ j) = true := by simpa using c7
    clear c7
    go_wp2_with fail
    go_ret
    exact ⟨rfl, F1.out⟩
  have d7 : decide ((l.length : Int) ≤ j) = false := by simpa using c7
  by_cases c8 : (l.length : Int) ≤ k
  · have d8 : decide ((l.length : Int) ≤ k) = true := by simpa using c8
    clear c8
    go_wp2_with fail
    go_ret
    exact ⟨rfl, F1.out⟩
  have d8 : decide ((l.length : Int) ≤ k) = false := by simpa using c8
  obtain ⟨n, rfl⟩ := Int.eq_ofNat_of_zero_le (by omega : 0 ≤ wk)
  have hn : nW (n : Int) = n := by unfold nW; omega
  have P1 := Lib.hid (LS.new w w1 F1.out (n : Int))
  rw [hn] at P1
  clear hn
  go_wp2_with fail
  rename_i KK2 aa2
  refine P1.out.mono ?_
  rintro e w2 ⟨b, rfl, l2⟩
  have H0 := Lib.hid (show OrS w w2 b n 0 l from ⟨_, l2, Bd.new n, Cs.new n, rfl, rfl, fun t a d _ h => by simp [newG] at h⟩)
  clear l2 P1 F1
  show KK2 _ _
  apply aa2
  clear aa2
  have hll : l.length ≤ 60 := by omega
  obtain ⟨i, rfl⟩ := Int.eq_ofNat_of_zero_le (by omega : 0 ≤ i)
  obtain ⟨j, rfl⟩ := Int.eq_ofNat_of_zero_le (by omega : 0 ≤ j)
  obtain ⟨k, rfl⟩ := Int.eq_ofNat_of_zero_le (by omega : 0 ≤ k)
  have ii : i < l.length := by omega
  have jj : j < l.length := by omega
  have kk : k < l.length := by omega
  clear c0 c1 c2 c3 c4 c5 c6 c7 c8 d0 d1 d2 d3 d4 d5 d6 d7 d8
  go_wp2_with fail
  go_loopw [13] (fun q wr => ∃ (t : Nat), t ≤ l.length ∧ q = .int .i64 t ∧ Hid (OrS w wr b n t l)) (fun q _ => l.length - (intOf q).toNat)
  case atStart => exact ⟨0, by omega, rfl, H0⟩
  case round =>
    obtain ⟨t, hk, rfl, hS⟩ := hrel
    clear H0
    by_cases hlt : t < l.length
    · obtain ⟨a, ha⟩ : ∃ a, l[t]? = some a := ⟨l[t], List.getElem?_eq_getElem hlt⟩
      obtain ⟨r1, r2, gg, off, rfl, hcl⟩ := acc_at HR.out ha
      obtain ⟨g, h1, h2, h3, h4, h5, h6⟩ := hS.out
      obtain ⟨x0, x1, x2, x3⟩ := hcl wr h1.fr
      have q1 : decide ((t : Int) < (l.length : Int)) = true := by simp; omega
      have HF := Lib.hid h1.fr
      by_cases e0 : a.who < 0
      · have d3 : decide (a.who < 0) = true := by simpa using e0
        clear e0 hcl h1 h2 h3 h4 h5 h6 ha
        go_wp2_with fail
        go_ret
        exact ⟨rfl, HF.out⟩
      have d3 : decide (a.who < 0) = false := by simpa using e0
      by_cases e1 : (n : Int) ≤ a.who
      · have d4 : decide ((n : Int) ≤ a.who) = true := by simpa using e1
        clear e0 e1 hcl h1 h2 h3 h4 h5 h6 ha
        go_wp2_with fail
        go_ret
        exact ⟨rfl, HF.out⟩
      have d4 : decide ((n : Int) ≤ a.who) = false := by simpa using e1
      have hi : isB g.n a.who = true := by rw [h4]; unfold isB; simp; omega
      have AC := Lib.hid (h1.act h2 (by omega) a r2)
      have HN := Lib.hid (fun W' (l' : LS w W' b (DoG g a)) => OrS.next h2 h3 h4 h5 h6 ha hi l')
      unfold accV at AC
      clear e0 e1 hi hcl h1 h2 h3 h4 h5 h6 ha r1 r2
      go_wp2_with (go_at_call 10; refine AC.out.mono ?_; rintro e w5 ⟨rfl, l5⟩; have LL := Lib.hid (HN.out _ l5); clear l5)
      go_roundw
      case rel => exact ⟨t + 1, by omega, by first | rfl | go_num, LL⟩
      case measure => simp [intOf]; omega
    · obtain rfl : t = l.length := by omega
      have q1 : decide ((l.length : Int) < (l.length : Int)) = false := by simp
      obtain ⟨g, h1, h2, h3, h4, h5, h6⟩ := hS.out
      obtain ⟨pu1, pu2, pu3⟩ := orders_pure (i := i) (j := j) (k := k) h3 (by omega) (by omega) (by omega)
      obtain ⟨ai, hai⟩ : ∃ a, l[i]? = some a := ⟨_, List.getElem?_eq_getElem ii⟩
      obtain ⟨aj, haj⟩ : ∃ a, l[j]? = some a := ⟨_, List.getElem?_eq_getElem jj⟩
      obtain ⟨_, _, gg, off, rfl, hci⟩ := acc_at HR.out hai
      obtain ⟨_, _, gg', off', epp, hcj⟩ := acc_at HR.out haj
      cases epp
      have pu2' : ai.who = aj.who → i < j → ordB g i j = true := fun hw hij => by
        obtain ⟨x, hx⟩ : ∃ x, g.L[i]? = some x := ⟨_, List.getElem?_eq_getElem (by omega)⟩
        obtain ⟨y, hy⟩ : ∃ y, g.L[j]? = some y := ⟨_, List.getElem?_eq_getElem (by omega)⟩
        refine pu2 x y hx hy ?_ hij
        have q1 := h6 i ai x hai hx
        have q2 := h6 j aj y haj hy
        omega
      have OA := Lib.hid (fun W (l' : LS w W b g) (p q : Int) => l'.ord h2 (by omega) p q)
      have HL := Lib.hid h1
      have PU1 := Lib.hid pu1
      have PU2 := Lib.hid pu2'
      have PU3 := Lib.hid pu3
      have HCI := Lib.hid hci
      have HCJ := Lib.hid hcj
      clear h1 h2 h3 h4 h5 h6 pu1 pu2 pu2' pu3 hai haj hci hcj hS hlt hk
      go_upto_region 11 with fail
      go_cut [14] from 93 to 110 (fun v wx => v = .bool true ∧ Hid (LS w wx b g))
      case first =>
        have OIJ := Lib.hid (fun W l' => OA.out W l' (i : Int) (j : Int))
        have OJK := Lib.hid (fun W l' => OA.out W l' (j : Int) (k : Int))
        have OIK := Lib.hid (fun W l' => OA.out W l' (i : Int) (k : Int))
        clear OA
        cases o1 : ordB g i j with
        | false =>
          rw [o1] at OIJ
          clear o1
          go_wp2_with (go_at_call 13; refine (OIJ.out _ HL.out).mono ?_; rintro e w5 ⟨rfl, l5⟩; have LL := Lib.hid l5; clear l5)
          go_meet
          exact ⟨rfl, LL⟩
        | true =>
          rw [o1] at OIJ
          cases o2 : ordB g j k with
          | false =>
            rw [o2] at OJK
            clear o1 o2
            go_wp2_with (first
              | (go_at_call 13; with_reducible refine (OIJ.out _ HL.out).mono ?_; rintro e w5 ⟨rfl, l5⟩; have LL := Lib.hid l5; clear l5 HL)
              | (go_at_call 13; with_reducible refine (OJK.out _ LL.out).mono ?_; rintro e w6 ⟨rfl, l6⟩; have LM := Lib.hid l6; clear l6))
            go_meet
            exact ⟨rfl, LM⟩
          | true =>
            have o3 := PU1.out o1 o2
            rw [o2] at OJK
            rw [o3] at OIK
            clear o1 o2 o3
            go_wp2_with (first
              | (go_at_call 13; with_reducible refine (OIJ.out _ HL.out).mono ?_; rintro e w5 ⟨rfl, l5⟩; have LL := Lib.hid l5; clear l5 HL)
              | (go_at_call 13; with_reducible refine (OJK.out _ LL.out).mono ?_; rintro e w6 ⟨rfl, l6⟩; have LM := Lib.hid l6; clear l6 LL)
              | (go_at_call 13; with_reducible refine (OIK.out _ LM.out).mono ?_; rintro e w7 ⟨rfl, l7⟩; have LN := Lib.hid l7; clear l7))
            go_meet
            exact ⟨rfl, LN⟩
      case rest =>
        obtain ⟨rfl, HL2⟩ := hcut
        clear HL PU1
        go_upto_region 12 with fail
        go_cut [15] from 111 to 132 (fun v wx => v = .bool true ∧ Hid (LS w wx b g))
        case first =>
          obtain ⟨x0, -⟩ := HCI.out wc HL2.out.fr
          obtain ⟨y0, -⟩ := HCJ.out wc HL2.out.fr
          have OIJ := Lib.hid (fun W l' => OA.out W l' (i : Int) (j : Int))
          have u1 : (i : Int) < (l.length : Int) := by omega
          have u2 : (j : Int) < (l.length : Int) := by omega
          have z1 := World.block_lt_of_cell? _ _ x0
          simp only at z1
          clear OA
          by_cases hw : ai.who = aj.who
          · have qw : (ai.who != aj.who) = false := by simpa using hw
            by_cases hij : i < j
            · have o1 := PU2.out hw hij
              rw [o1] at OIJ
              have qi : decide ((j : Int) ≤ (i : Int)) = false := by simp; omega
              have qi2 : decide (j ≤ i) = false := by simp; omega
              clear o1 hw hij PU2
              go_region_held3 (fun w' => w'.cell? ⟨gg, off + i * 4, none⟩ = some (.int .i64 ai.who) ∧ w'.cell? ⟨gg, off + j * 4, none⟩ = some (.int .i64 aj.who)) (first | exact ⟨x0, y0⟩ | exact ⟨x0', y0'⟩ | go_keep)
                (first | (go_at_call 13; refine (OIJ.out _ (by first | exact HL2.out | exact HL2.out.fr0 (Fr.refl _ _).drew)).mono ?_; rintro e w5 ⟨rfl, l5⟩; have LL := Lib.hid l5; have x0' := (HCI.out w5 l5.fr).1; have y0' := (HCJ.out w5 l5.fr).1; clear l5))
              all_goals go_wp2_with fail
              all_goals go_meet
              case rel => exact ⟨rfl, LL⟩
            · have qi : decide ((j : Int) ≤ (i : Int)) = true := by simp; omega
              have qi2 : decide (j ≤ i) = true := by simp; omega
              clear hw hij PU2
              go_quiet (fail)
              all_goals go_wp2_with fail
              all_goals go_meet
              case rel => exact ⟨rfl, Lib.hid (HL2.out.fr0 ⟨rfl, rfl, rfl, Nat.le_refl _, fun _ _ _ => rfl⟩)⟩
          · have qw : (ai.who != aj.who) = true := by simpa using hw
            clear hw PU2
            go_quiet (fail)
            all_goals go_wp2_with fail
            all_goals go_meet
            case rel => exact ⟨rfl, Lib.hid (HL2.out.fr0 ⟨rfl, rfl, rfl, Nat.le_refl _, fun _ _ _ => rfl⟩)⟩
        case rest =>
          obtain ⟨rfl, HL3⟩ := hcut
          clear HL2 PU2 HCI HCJ
          have OIJ := Lib.hid (fun W l' => OA.out W l' (i : Int) (j : Int))
          by_cases hij : i < j
          · have qi : decide ((i : Int) < (j : Int)) = true := by simp; omega
            have qi2 : decide (i < j) = true := by simp; omega
            clear hij PU3
            go_wp2_with fail
            go_ret
            exact ⟨rfl, HL3.out.fr⟩
          · have qi : decide ((i : Int) < (j : Int)) = false := by simp; omega
            have qi2 : decide (i < j) = false := by simp; omega
            have o1 := PU3.out hij
            rw [o1] at OIJ
            clear hij PU3 o1
            go_wp2_with (go_at_call 13; refine (OIJ.out _ HL3.out).mono ?_; rintro e w5 ⟨rfl, l5⟩; have LL := Lib.hid l5; clear l5)
            go_ret
            exact ⟨rfl, LL.out.fr⟩
theorem clockOrders_walk (wk : Int) (v : Value) (l : List Acc) (i j k : Int) (w : World) (_ : (Lit.int .i64 wk).wf = true) (hl : RowR 4 AccR w v l) (_ : (Lit.int .i64 i).wf = true) (_ : (Lit.int .i64 j).wf = true) (_ : (Lit.int .i64 k).wf = true) :
    Calls Try.prog 6 #[.int .i64 wk, v, .int .i64 i, .int .i64 j, .int .i64 k] w fun e w' => e = .returned (.bool true) ∧ Below w.heap.size w w' := by
  obtain ⟨p, c, rfl, h⟩ := hl
  exact (orders_law wk l p c i j k w ⟨p, c, rfl, h⟩).mono fun _ _ h => ⟨h.1, h.2.below (Nat.le_refl _) (by simp)⟩
end Go.Proofs.Ytmfkomdfknflgaa
