/- LruPlays: the walk. -/
import Derived.Test.YtimildmpkamomaaTT
import Derived.BigQuiet
import Derived.Deep.QuietTactic
import Derived.Deep.Cut
import Derived.Deep.CutRange
import Derived.Deep.AppendLies
namespace Go.Proofs.Ytimildmpkamomaa
open Go.RowKit Go.Maps Go.ChangeShapes Go.WideShapes Go.ChangeAt Go.WideMaps Go.WideElems

set_option maxHeartbeats 4000000 in
set_option maxRecDepth 100000 in
theorem plays_any (n : Int) (v : Value) (l : List ActD) (w : World) (_h1 : (Lit.int .i64 n).wf = true) (hl : RowR 3 ActR w v l) :
    Calls Try.prog 3 #[.int .i64 n, v] w fun e w' => e = .returned (.bool true) ∧ Below w.heap.size w w' := by
  obtain ⟨p, cp, rfl, g1, g2, g3⟩ := hl
  unfold maxLen at g2
  have G3 := Lib.hid g3
  clear g3
  by_cases c3 : 100 < l.length
  · have d3 : decide ((100 : Int) < (l.length : Int)) = true := by simp; omega
    go_enter Try.func3, Try.ntmps3
    go_wp2_with fail
    refine (alive_any _).mono ?_
    rintro e w1 ⟨rfl, b1⟩
    have B1 := Lib.hid b1
    clear b1
    go_wp2_with fail
    go_ret
    exact ⟨rfl, B1.out.below (Nat.le_refl _) (by simp)⟩
  have d3 : decide ((100 : Int) < (l.length : Int)) = false := by simp; omega
  have C3 : capS 3 = 3 := by decide
  have N3 := Lib.hid (fun W => New_any 3 W)
  rw [C3] at N3
  clear C3
  have NN := Lib.hid (fun W => New_any n W)
  have NR := Lib.hid (fun W => RNew_any n W)
  have hsz : 0 ≤ capS n ∧ capS n ≤ 1024 := by unfold capS; omega
  generalize capS n = size at *
  obtain ⟨hs0, hs1⟩ := hsz
  go_enter Try.func3, Try.ntmps3
  go_wp2_with fail
  refine (alive_any _).mono ?_
  rintro e w1 ⟨rfl, f1⟩
  have B1 := Lib.hid (f1.below (Nat.le_refl _) (by simp))
  clear f1
  go_wp2_with fail
  refine (NN.out _).mono ?_
  rintro e w2 ⟨rfl, rfl⟩
  go_wp2_with fail
  refine (N3.out _).mono ?_
  rintro e w2 ⟨rfl, rfl⟩
  go_wp2_with fail
  refine (NR.out _).mono ?_
  rintro e w2 ⟨rfl, rfl⟩
  have T0 := Lib.hid (TT.new w w1 B1.out size)
  simp only [World.size_alloc]
  generalize ((w1.alloc (.cells #[.int .i64 size, .slice none 0 0] 44)).alloc (.cells #[.int .i64 3, .slice none 0 0] 44)).alloc (.cells #[.int .i64 size, .slice none 0 0] 47) = w2 at *
  generalize w1.heap.size + 1 + 1 = br at *
  generalize w1.heap.size + 1 = bo at *
  generalize w1.heap.size = bc at *
  clear B1 NN NR N3
  go_wp2_with fail
  go_loopw [9] (fun i wr => ∃ (j : Nat) (E : List Ent), j ≤ l.length ∧ i = .int .i64 j ∧ (E.length : Int) ≤ size ∧ Hid (UniqK E) ∧ Hid (TT w wr bc bo br size E E.reverse [])) (fun i _ => l.length - (intOf i).toNat)
  case atStart => exact ⟨0, [], Nat.zero_le _, rfl, by simpa using hs0, List.nodup_nil, T0.out⟩
  case round =>
    obtain ⟨j, E, hj, rfl, hEl, hU, hT⟩ := hrel
    clear T0
    by_cases hlt : j < l.length
    · obtain ⟨⟨x0, x1, x2⟩, hx⟩ : ∃ x, l[j]? = some x := ⟨l[j], by simp [hlt]⟩
      obtain ⟨g, off, cs, rfl, hg, hcl, hcc, rfl⟩ := G3.out j _ hx
      have a0 := hcc 0 (by omega)
      have a1 := hcc 1 (by omega)
      have a2 := hcc 2 (by omega)
      simp at a0 a1 a2
      have A := Lib.hid (And.intro a0 (And.intro a1 a2))
      have i1 : (j : Int) < (l.length : Int) := by omega
      have PO := Lib.hid (hT.out.oPut (j : Int) (j : Int))
      clear hcc hx hcl a0 a1 a2
      go_wp2_with fail
      refine PO.out.mono ?_
      rintro e w3 ⟨⟨rv, rfl⟩, t3⟩
      obtain ⟨a0, a1, a2⟩ := A.out
      have y0 := (t3.below.cell (p := ⟨g, off + j * 3, none⟩) hg).trans a0
      have y1 := (t3.below.cell (p := ⟨g, off + j * 3 + 1, none⟩) hg).trans a1
      have y2 := (t3.below.cell (p := ⟨g, off + j * 3 + 2, none⟩) hg).trans a2
      have T3 := Lib.hid (t3.alloc (.cells #[.bool x0, .int .i64 x1, .int .i64 x2] 31))
      clear t3 PO hT a0 a1 a2 A
      go_upto_if 51 with fail
      clear y0 y1 y2
      generalize w3.alloc (.cells #[.bool x0, .int .i64 x1, .int .i64 x2] 31) = w4 at *
      generalize w3.heap.size = a at *
      go_cut [11, 12, 13, 14, 15, 16, 17, 18, 19] from 36 to 126 (fun ok _ _ _ _ _ _ _ _ wx => ok = .bool true ∧ ∃ E2 : List Ent, (E2.length : Int) ≤ size ∧ Hid (UniqK E2) ∧ Hid (TT w wx bc bo br size E2 E2.reverse []))
      case first =>
        have hga := T3.out.guest List.mem_cons_self
        have c0 := cellOf hga 0
        have c1 := cellOf hga 1
        have c2 := cellOf hga 2
        simp at c0 c1 c2
        cases x0 with
        | true =>
          obtain ⟨cc, dd, hpv⟩ : ∃ cc dd, PutV size E x1 x2 = #[.int .i64 cc, .bool dd] := by
            unfold PutV
            split
            · exact ⟨_, _, rfl⟩
            · exact ⟨_, _, rfl⟩
          have P1 := Lib.hid (T3.out.cStep (fun S h => Put_any bc S size E x1 x2 w4 h (by omega)))
          have HL := Lib.hid (PutE_len x1 x2 hs0 hEl)
          have HU := Lib.hid (PutE_uniq (size := size) x1 x2 hU.out)
          have PR := Lib.hid (fun W S (h : IsCa 47 52 W br S size E.reverse) => RPut_rev br S size x1 x2 W hU.out h (by omega))
          rw [show (if ((rm E x1 ++ [(x1, x2)]).length : Int) ≤ size then #[Value.int .i64 0, .bool false] else #[.int .i64 (((rm E x1 ++ [(x1, x2)])[0]?.map (·.1)).getD 0), .bool true]) = PutV size E x1 x2 from rfl] at P1
          rw [show (if ((rm E x1 ++ [(x1, x2)]).length : Int) ≤ size then rm E x1 ++ [(x1, x2)] else (rm E x1 ++ [(x1, x2)]).drop 1) = PutE size E x1 x2 from rfl] at P1
          rw [hpv] at P1 PR
          clear hpv
          generalize PutE size E x1 x2 = E2 at *
          go_wp2_with fail
          refine P1.out.mono ?_
          rintro e w5 ⟨rfl, t5⟩
          have hga5 := t5.guest List.mem_cons_self
          have P2 := Lib.hid (t5.rStep (fun S h => PR.out w5 S h))
          have d0 := cellOf hga5 0
          have d1 := cellOf hga5 1
          have d2 := cellOf hga5 2
          simp at d0 d1 d2
          clear t5 P1 PR hga hga5
          go_wp2_with fail
          refine P2.out.mono ?_
          rintro e w6 ⟨rfl, t6⟩
          have T6 := Lib.hid (t6.less (gs' := []) (by simp))
          clear t6 P2
          have qc : (cc == cc) = true := by simp
          have qd : (dd == dd) = true := by simp
          go_wp2_with fail
          go_meet
          exact ⟨by simp, E2, HL.out, HU.out, T6.out⟩
        | false =>
          cases hh : hitV E x1 with
          | some vv =>
            have P1 := Lib.hid (T3.out.cStep (fun S h => Get_yes bc S size E x1 vv w4 h (by omega) hh))
            have hh2 : hitV E.reverse x1 = some vv := by rw [hit_rev hU.out]; exact hh
            have PR := Lib.hid (fun W S (h : IsCa 47 52 W br S size E.reverse) => RGet_yes br S size E.reverse x1 vv W h (by simp; omega) hh2)
            have e9 := put_rev hU.out x1 vv
            rw [e9] at PR
            have HU := Lib.hid (hU.out.snoc x1 vv)
            have hl2 := hit_len hh
            clear hh hh2 e9
            generalize rm E x1 ++ [(x1, vv)] = E2 at *
            go_wp2_with fail
            refine P1.out.mono ?_
            rintro e w5 ⟨rfl, t5⟩
            have hga5 := t5.guest List.mem_cons_self
            have P2 := Lib.hid (t5.rStep (fun S h => PR.out w5 S h))
            have d1 := cellOf hga5 1
            simp at d1
            clear t5 P1 PR hga hga5
            go_wp2_with fail
            refine P2.out.mono ?_
            rintro e w6 ⟨rfl, t6⟩
            have T6 := Lib.hid (t6.less (gs' := []) (by simp))
            clear t6 P2
            have qc : (vv == vv) = true := by simp
            go_wp2_with fail
            go_meet
            exact ⟨by simp, E2, by omega, HU.out, T6.out⟩
          | none =>
            have hm : x1 ∉ E.reverse.map (·.1) := by
              have := hit_none_mem hh
              simpa using this
            have P1 := Lib.hid (show Calls Try.prog 11 #[.pointer (some ⟨bc, 0, none⟩), .int .i64 x1] w4 fun e w' => e = .returned (.tuple #[.int .i64 0, .bool false]) ∧ TT w w' bc bo br size E E.reverse [(a, .cells #[.bool false, .int .i64 x1, .int .i64 x2] 31)] by
              obtain ⟨⟨Sc, So, Sr, Eo, hc, r⟩, hb⟩ := T3.out
              refine (Get_no bc Sc size E x1 w4 hc (by omega) hh).mono ?_
              rintro e w' ⟨rfl, f⟩
              exact ⟨rfl, T3.out.fr0 f⟩)
            have P2 := Lib.hid (fun W (h : TT w W bc bo br size E E.reverse [(a, .cells #[.bool false, .int .i64 x1, .int .i64 x2] 31)]) => (by
              obtain ⟨⟨Sc, So, Sr, Eo, hc, ho, hr, r⟩, hb⟩ := h
              exact RGet_no br Sr size E.reverse x1 W hr hm : Calls Try.prog 12 #[.pointer (some ⟨br, 0, none⟩), .int .i64 x1] W fun e w' => e = .returned (.tuple #[.int .i64 0, .bool false]) ∧ W = w'))
            clear hh hm
            go_wp2_with fail
            refine P1.out.mono ?_
            rintro e w5 ⟨rfl, t5⟩
            have hga5 := t5.guest List.mem_cons_self
            have P3 := Lib.hid (P2.out w5 t5)
            have T5 := Lib.hid (t5.less (gs' := []) (by simp))
            have d1 := cellOf hga5 1
            simp at d1
            clear t5 P1 P2 hga hga5
            go_wp2_with fail
            refine P3.out.mono ?_
            rintro e w6 ⟨rfl, rfl⟩
            go_wp2_with fail
            go_meet
            exact ⟨by simp, E, hEl, hU.out, T5.out⟩
      case rest =>
        obtain ⟨rfl, E2, hl2, hU2, hT2⟩ := hcut
        clear T3 hU
        obtain ⟨⟨Sc, So, Sr, Eo, hc, ho, hr, _⟩, _⟩ := hT2.out
        have HC := Lib.hid hc
        have HRr := Lib.hid hr
        have PK := Lib.hid (Keys_any bc Sc size E2 wc hc (by omega))
        have HKL := Lib.hid (show kys E2.reverse = (E2.reverse.map (·.1)).map (Value.int .i64) by unfold kys; rw [List.map_map]; rfl)
        have HLL := Lib.hid (show (E2.reverse.map (·.1)).length = E2.length by simp)
        rw [HKL.out] at PK
        clear hc ho hr
        go_wp2_with fail
        refine PK.out.mono ?_
        rintro e w5 ⟨⟨sp, c, rfl, row5⟩, b5⟩
        have PR := Lib.hid (RKeys_any br Sr size E2.reverse w5 (HRr.out.fr (frB b5) (by simp)) (by simp; omega))
        rw [List.length_reverse, HKL.out] at PR
        have R5 := Lib.hid row5
        have F5 := Lib.hid (frB b5)
        clear row5 b5 PK
        generalize hLq : E2.reverse.map (·.1) = L at *
        generalize hnq : E2.length = nn at *
        have HNQ := Lib.hid hnq
        clear hLq hnq
        go_wp2_with fail
        refine PR.out.mono ?_
        rintro e w6 ⟨⟨sp6, c6, rfl, row6⟩, b6⟩
        have F6 := Lib.hid (F5.out.trans (frB b6))
        have R6 := Lib.hid (ownsRow.fr R5.out (frB b6) (by simp))
        have PS := Lib.hid (sameInts_any sp sp6 c c6 L w6 (RdI.of (by rw [HLL.out]; exact R6.out)) (RdI.of (by rw [HLL.out]; exact row6)) (by rw [HLL.out]; omega))
        rw [HLL.out] at PS
        clear row6 b6 PR R5 F5
        go_wp2_with fail
        refine PS.out.mono ?_
        rintro e w7 ⟨rfl, f7⟩
        have F7 := Lib.hid (F6.out.trans f7)
        have R7 := Lib.hid (ownsRow.fr R6.out f7 (by simp))
        have PL := Lib.hid (Len_any bc Sc size E2 w7 (HC.out.fr F7.out (by simp)))
        rw [HNQ.out] at PL
        have qn : ((nn : Int) != (nn : Int)) = false := by simp
        clear f7 PS R6 F6
        go_wp2_with fail
        refine PL.out.mono ?_
        rintro e w8 ⟨rfl, rfl⟩
        go_wp2_with fail
        go_loopw [21] (fun i wr => ∃ (q : Nat) (xs : List Value), q ≤ nn ∧ i = .int .i64 q ∧ Hid (wr.ownsRow wc.heap.size 3 1 (.slice sp nn c) nn xs) ∧ Hid (Fr (fun _ => False) wc wr)) (fun i _ => nn - (intOf i).toNat)
        case atStart => exact ⟨0, _, Nat.zero_le _, rfl, R7.out, F7.out⟩
        case round =>
          obtain ⟨q, xs, hq, rfl, hO, hF⟩ := hrel
          clear R7 F7
          by_cases hlt5 : q < nn
          · obtain ⟨gk, cap, hv, hgb, _⟩ := hO.out.form (by omega)
            cases hv
            have hxl := hO.out.1
            rw [Nat.mul_one] at hxl
            have x0 := hO.out.cellAt q (by omega)
            rw [List.getElem?_eq_getElem (by omega)] at x0
            have z0 := hO.out.frozenAt q
            have i5 : (q : Int) < (nn : Int) := by omega
            obtain ⟨hc1, hc2⟩ := (OwnsWin.of_row hO.out).capLe rfl
            unfold maxLen at hc2
            generalize xs[q] = xq at *
            have HST := Lib.hid (hO.out.stored q (.int .i64 (-5)))
            have HFS := Lib.hid (hF.out.setCell (p := ⟨gk, q, none⟩) (.inr hgb) (.int .i64 (-5)))
            go_wp2_with fail
            go_roundw
            case rel => exact ⟨q + 1, _, by omega, by go_num, HST.out.1, HFS.out⟩
            case measure => simp [intOf]; omega
          · have i5 : ¬ (q : Int) < (nn : Int) := by omega
            have TF := Lib.hid (hT2.out.fr0 hF.out)
            go_wp2_with fail
            go_roundw
            case rel => exact ⟨j + 1, E2, by omega, by go_num, by rw [HNQ.out]; exact hl2, hU2.out, TF.out⟩
            case measure => simp [intOf]; omega
    · have i1 : ¬ (j : Int) < (l.length : Int) := by omega
      go_wp2_with fail
      go_ret
      exact ⟨rfl, hT.out.below⟩
end Go.Proofs.Ytimildmpkamomaa
