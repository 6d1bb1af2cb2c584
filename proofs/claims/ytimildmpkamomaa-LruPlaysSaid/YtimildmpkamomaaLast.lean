/- LruLast: the walk. -/
import Derived.Test.YtimildmpkamomaaPlainL
import Derived.BigQuiet
import Derived.Deep.QuietTactic
namespace Go.Proofs.Ytimildmpkamomaa
open Go.RowKit Go.Maps Go.ChangeShapes Go.WideShapes Go.ChangeAt Go.WideMaps Go.WideElems

theorem CT.getYes {w wr : World} {b : Nat} {size : Int} {E : List Ent} (h : CT w wr b size E) {k v : Int} (hk : hitV E k = some v) (hn : E.length ≤ 1400) :
    Calls Try.prog 11 #[.pointer (some ⟨b, 0, none⟩), .int .i64 k] wr fun e w' => e = .returned (.tuple #[.int .i64 v, .bool true]) ∧ CT w w' b size (rm E k ++ [(k, v)]) := by
  obtain ⟨S, h1, h2, h3⟩ := h
  refine (Get_yes b S size E k v wr h1 (by omega) hk).mono ?_
  rintro e w' ⟨rfl, f, k1⟩
  exact ⟨rfl, _, k1, Gr.ge h2 h3.size, h3.trans (f.below h3.size (fun j hj e => by have := h2 j e; omega))⟩
theorem CT.getNo {w wr : World} {b : Nat} {size : Int} {E : List Ent} (h : CT w wr b size E) {k : Int} (hk : hitV E k = none) (hn : E.length ≤ 1400) :
    Calls Try.prog 11 #[.pointer (some ⟨b, 0, none⟩), .int .i64 k] wr fun e w' => e = .returned (.tuple #[.int .i64 0, .bool false]) ∧ CT w w' b size E := by
  obtain ⟨S, h1, h2, h3⟩ := h
  refine (Get_no b S size E k wr h1 (by omega) hk).mono ?_
  rintro e w' ⟨rfl, f⟩
  exact ⟨rfl, CT.fr0 ⟨S, h1, h2, h3⟩ f⟩

set_option maxHeartbeats 4000000 in
set_option maxRecDepth 100000 in
theorem last_any (size : Int) (v : Value) (l : List Int) (w : World) (_h1 : (Lit.int .i64 size).wf = true) (hl : IsInts .i64 w v l) :
    Calls Try.prog 4 #[.int .i64 size, v] w fun e w' => e = .returned (.bool true) ∧ Below w.heap.size w w' := by
  obtain ⟨p, cp, rfl, g1, g2, g3⟩ := IsInts.rd hl
  unfold maxLen at g2
  have G3 := Lib.hid g3
  clear g3 hl
  by_cases c1 : size < 0
  · have d1 : decide (size < 0) = true := by simpa using c1
    go_enter Try.func4, Try.ntmps4
    go_wp2_with fail
    refine (alive_any _).mono ?_
    rintro e w1 ⟨rfl, b1⟩
    have B1 := Lib.hid b1
    clear b1
    go_wp2_with fail
    go_ret
    exact ⟨rfl, B1.out.below (Nat.le_refl _) (by simp)⟩
  have d1 : decide (size < 0) = false := by simp; omega
  by_cases c2 : 20 < size
  · have d2 : decide (20 < size) = true := by simpa using c2
    go_enter Try.func4, Try.ntmps4
    go_wp2_with fail
    refine (alive_any _).mono ?_
    rintro e w1 ⟨rfl, b1⟩
    have B1 := Lib.hid b1
    clear b1
    go_wp2_with fail
    go_ret
    exact ⟨rfl, B1.out.below (Nat.le_refl _) (by simp)⟩
  have d2 : decide (20 < size) = false := by simp; omega
  by_cases c3 : 100 < l.length
  · have d3 : decide ((100 : Int) < (l.length : Int)) = true := by simp; omega
    go_enter Try.func4, Try.ntmps4
    go_wp2_with fail
    refine (alive_any _).mono ?_
    rintro e w1 ⟨rfl, b1⟩
    have B1 := Lib.hid b1
    clear b1
    go_wp2_with fail
    go_ret
    exact ⟨rfl, B1.out.below (Nat.le_refl _) (by simp)⟩
  have d3 : decide ((100 : Int) < (l.length : Int)) = false := by simp; omega
  obtain ⟨sz, rfl⟩ := Int.eq_ofNat_of_zero_le (by omega : 0 ≤ size)
  have hsz : sz ≤ 20 := by omega
  have hcs : capS (sz : Int) = sz := by unfold capS; omega
  have NN := Lib.hid (fun W => New_any (sz : Int) W)
  rw [hcs] at NN
  clear hcs
  go_enter Try.func4, Try.ntmps4
  go_wp2_with fail
  refine (alive_any _).mono ?_
  rintro e w1 ⟨rfl, f1⟩
  have B1 := Lib.hid (f1.below (Nat.le_refl _) (by simp))
  clear f1
  go_wp2_with fail
  refine (NN.out _).mono ?_
  rintro e w2 ⟨rfl, rfl⟩
  have C0 := Lib.hid (CT.new w w1 sz B1.out)
  generalize w1.alloc (.cells #[.int .i64 sz, .slice none 0 0] 44) = w2 at *
  generalize w1.heap.size = bb at *
  clear B1 NN
  go_wp2_with fail
  go_loopw [7] (fun i wr => ∃ (j : Nat) (E : List Ent), j ≤ l.length ∧ i = .int .i64 j ∧ E.length ≤ sz ∧ Hid (UniqK E) ∧ Hid (rk E = (wl (l.take j).reverse).take sz) ∧ Hid (CT w wr bb sz E)) (fun i _ => l.length - (intOf i).toNat)
  case atStart => exact ⟨0, [], Nat.zero_le _, rfl, Nat.zero_le _, List.nodup_nil, Lib.hid (by simp [rk, wl]), C0.out⟩
  case round =>
    obtain ⟨j, E, hj, rfl, hEl, hU, hK, hC⟩ := hrel
    clear C0
    by_cases hlt : j < l.length
    · obtain ⟨x, hx⟩ : ∃ x, l[j]? = some x := ⟨l[j], by simp [hlt]⟩
      obtain ⟨g, off, rfl, hg, hcc⟩ := G3.out j _ hx
      have y0 := (hC.out.below.cell (p := ⟨g, off + j, none⟩) hg).trans hcc
      have HT := Lib.hid (show (l.take (j + 1)).reverse = x :: (l.take j).reverse by rw [List.take_add_one, hx]; simp)
      have i1 : (j : Int) < (l.length : Int) := by omega
      clear hx
      cases hh : hitV E x with
      | some vv =>
        have PP := Lib.hid (hC.out.getYes hh (by omega))
        have HN := Lib.hid (last_hit hU.out (wl_nodup _) hK.out hh)
        have HU := Lib.hid (hU.out.snoc x vv)
        have hl2 := hit_len hh
        clear hh
        generalize rm E x ++ [(x, vv)] = E2 at *
        go_wp2_with fail
        refine PP.out.mono ?_
        rintro e w3 ⟨rfl, k3⟩
        have K3 := Lib.hid k3
        clear k3 PP
        go_wp2_with fail
        go_roundw
        case rel => exact ⟨j + 1, E2, by omega, by go_num, by omega, HU.out, by rw [HT.out]; exact HN.out, K3.out⟩
        case measure => simp [intOf]; omega
      | none =>
        have PP := Lib.hid (hC.out.getNo hh (by omega))
        have HN := Lib.hid (last_miss (v := (j : Int)) hK.out hEl hh)
        have HU := Lib.hid (PutE_uniq (size := (sz : Int)) x (j : Int) hU.out)
        have hl2 := PutE_len (size := (sz : Int)) (E := E) x (j : Int) (by omega) (by omega)
        have PU := Lib.hid (fun wr (h : CT w wr bb sz E) => h.put x (j : Int) (by omega))
        clear hh
        generalize PutE (sz : Int) E x (j : Int) = E2 at *
        generalize (if ((rm E x ++ [(x, (j : Int))]).length : Int) ≤ (sz : Int) then #[Value.int .i64 0, .bool false] else #[.int .i64 (((rm E x ++ [(x, (j : Int))])[0]?.map (·.1)).getD 0), .bool true]) = rv at *
        go_wp2_with fail
        refine PP.out.mono ?_
        rintro e w3 ⟨rfl, k3⟩
        have z0 := (k3.below.cell (p := ⟨g, off + j, none⟩) hg).trans hcc
        have P3 := Lib.hid (PU.out _ k3)
        clear k3 PP PU
        go_wp2_with fail
        refine P3.out.mono ?_
        rintro e w4 ⟨rfl, k4⟩
        have K4 := Lib.hid k4
        clear k4 P3
        go_wp2_with fail
        go_roundw
        case rel => exact ⟨j + 1, E2, by omega, by go_num, by omega, HU.out, by rw [HT.out]; exact HN.out, K4.out⟩
        case measure => simp [intOf]; omega
    · have hje : j = l.length := by omega
      have i1 : ¬ (j : Int) < (l.length : Int) := by omega
      have HKF := Lib.hid (show rk E = (wl l.reverse).take sz by have := hK.out; rw [hje, List.take_length] at this; exact this)
      obtain ⟨S, hca, hSge, hbel⟩ := hC.out
      have HCA := Lib.hid hca
      have BE := Lib.hid hbel
      have HSG := Lib.hid hSge
      clear hK hC hU hca hbel hSge hje
      have RG := Lib.hid (fun W (hb : Below wr.heap.size wr W) m (hm : m < l.length) => by
        obtain ⟨g, off, e, hg, hc⟩ := G3.out m l[m] (List.getElem?_eq_getElem hm)
        have := (BE.out.cell (p := ⟨g, off + m, none⟩) hg).trans hc
        exact (⟨g, off, e, (hb.cell (p := ⟨g, off + m, none⟩) (Nat.lt_of_lt_of_le hg BE.out.size)).trans this⟩ : ∃ g off, p = some ⟨g, off, none⟩ ∧ W.cell? ⟨g, off + m, none⟩ = some (.int .i64 l[m])))
      obtain ⟨wB, rfl⟩ : ∃ wB : World, wB = wr := ⟨_, rfl⟩
      go_wp2_with fail
      go_loopw [10, 11] (fun o i wr => ∃ (r : Nat) (acc : List Int) (sp : Option Addr) (c : Nat), r ≤ l.length ∧ i = .int .i64 ((r : Int) - 1) ∧ o = .slice sp acc.length c ∧ acc.length ≤ sz ∧ Hid (acc = df [] (l.reverse.take (l.length - r))) ∧
        Hid (wr.ownsRow wB.heap.size 3 1 (.slice sp acc.length c) acc.length (acc.map (Value.int .i64))) ∧ Hid (Below wB.heap.size wB wr)) (fun _ i _ => (intOf i + 1).toNat)
      case atStart => exact ⟨l.length, [], none, 0, Nat.le_refl _, rfl, rfl, Nat.zero_le _, by rw [Nat.sub_self]; rfl, World.ownsRow_nil _ _ _ _, Below.refl _ _⟩
      case round =>
        obtain ⟨r, acc, sp, c, hr, rfl, rfl, ha, hacc, hrow, hbw⟩ := hrel
        obtain ⟨wo, rfl⟩ : ∃ wo : World, wo = wr := ⟨_, rfl⟩
        by_cases hgo : 0 < r ∧ acc.length < sz
        · obtain ⟨hr0, hal⟩ := hgo
          obtain ⟨m, rfl⟩ : ∃ m, r = m + 1 := ⟨r - 1, by omega⟩
          have e1 : (((m + 1 : Nat) : Int) - 1) = (m : Int) := by omega
          rw [e1]
          have hm : m < l.length := by omega
          have HSTEP := Lib.hid (show l.reverse.take (l.length - m) = l.reverse.take (l.length - (m + 1)) ++ [l[m]] by
            rw [show l.length - m = l.length - (m + 1) + 1 by omega, List.take_add_one, List.getElem?_reverse (by omega), show l.length - 1 - (l.length - (m + 1)) = m by omega, List.getElem?_eq_getElem hm]
            rfl)
          obtain ⟨x, hx⟩ : ∃ x, x = l[m] := ⟨_, rfl⟩
          have RX := Lib.hid (fun W (hb : Below wB.heap.size wB W) => by
            have := RG.out W hb m hm
            rw [← hx] at this
            exact this)
          rw [← hx] at HSTEP
          have i0 : (0 : Int) ≤ (m : Int) := by omega
          have i2 : (m : Int) < (l.length : Int) := by omega
          have i3 : (acc.length : Int) < (sz : Int) := by omega
          have i4 : (m : Int) < 200 := by omega
          have i5 : decide ((0 : Int) ≤ (m : Int)) = true := by simp
          have i6 : decide ((acc.length : Int) < (sz : Int)) = true := by simp; omega
          clear hx e1
          go_wp2_with fail
          go_loopw [12, 13] (fun t q wr => ∃ (kk mm : Nat), kk ≤ acc.length ∧ q = .int .i64 kk ∧ wr = wo.drewN mm ∧ ((t = .bool true ∧ Hid (x ∈ acc.take kk)) ∨ (t = .bool false ∧ Hid (x ∉ acc.take kk)))) (fun _ q _ => acc.length - (intOf q).toNat)
          case atStart => exact ⟨0, 0, Nat.zero_le _, rfl, rfl, .inr ⟨rfl, Lib.hid (by simp)⟩⟩
          case round =>
            obtain ⟨kk, mm, hkk, rfl, rfl, ht⟩ := hrel
            have fdm : Below wB.heap.size wB (wo.drewN mm) := by
              have h := hbw.out
              exact ⟨h.os, h.tape, h.output, h.size, h.block⟩
            have FD := Lib.hid fdm
            clear fdm
            by_cases hlt3 : kk < acc.length
            · obtain ⟨g2, off2, cap2, hv2, hc1, hc2, hg2, _, hcell2, _⟩ := (OwnsWin.of_row hrow.out).cells (by omega)
              cases hv2
              have y0 := hcell2 kk (.int .i64 acc[kk]) (by rw [List.getElem?_map, List.getElem?_eq_getElem hlt3]; rfl)
              have y1 : (wo.drewN mm).cell? ⟨g2, off2 + kk, none⟩ = some (.int .i64 acc[kk]) := y0
              have HTK := Lib.hid (show acc.take (kk + 1) = acc.take kk ++ [acc[kk]] by rw [List.take_add_one, List.getElem?_eq_getElem hlt3]; rfl)
              obtain ⟨y, hy⟩ : ∃ y, y = acc[kk] := ⟨_, rfl⟩
              rw [← hy] at y1 HTK
              obtain ⟨gk, ok, rfl, x1⟩ := RX.out _ FD.out
              have HW := Lib.hid (show ∀ n, (wo.drewN mm).drewN n = wo.drewN (mm + n) from fun n => World.drewN_drewN _ _ _)
              have j1 : (kk : Int) < (acc.length : Int) := by omega
              unfold maxLen at hc2
              clear y0 hcell2 hy
              generalize wo.drewN mm = w9 at *
              rcases ht with ⟨rfl, ht⟩ | ⟨rfl, ht⟩
              · go_wp2_with fail
                go_quiet (fail)
                go_wp2_with fail
                go_roundw
                case rel => exact ⟨kk + 1, _, by omega, by go_num, HW.out _, .inl ⟨rfl, by rw [HTK.out]; exact List.mem_append_left _ ht.out⟩⟩
                case measure => simp [intOf]; omega
              · by_cases hyx : y = x
                · have q1 : (y == x) = true := by simp [hyx]
                  have HYX := Lib.hid hyx
                  clear hyx
                  go_wp2_with fail
                  go_quiet (fail)
                  go_wp2_with fail
                  go_roundw
                  case rel => exact ⟨kk + 1, _, by omega, by go_num, HW.out _, .inl ⟨rfl, Lib.hid (by rw [HTK.out, HYX.out]; simp)⟩⟩
                  case measure => simp [intOf]; omega
                · have q1 : (y == x) = false := by simp [hyx]
                  have HYX := Lib.hid hyx
                  clear hyx
                  go_wp2_with fail
                  go_quiet (fail)
                  go_wp2_with fail
                  go_roundw
                  case rel => exact ⟨kk + 1, _, by omega, by go_num, HW.out _, .inr ⟨rfl, by
                    rw [HTK.out]
                    intro h
                    rcases List.mem_append.1 h with h | h
                    · exact ht.out h
                    · simp at h
                      exact HYX.out h.symm⟩⟩
                  case measure => simp [intOf]; omega
            · have hke : kk = acc.length := by omega
              have j1 : ¬ (kk : Int) < (acc.length : Int) := by omega
              have HROW := Lib.hid (show (wo.drewN mm).ownsRow wB.heap.size 3 1 (.slice sp acc.length c) acc.length (acc.map (Value.int .i64)) from hrow.out)
              have HTA := Lib.hid (show acc.take kk = acc by rw [hke, List.take_length])
              rw [HTA.out] at ht
              obtain ⟨gk, ok, rfl, x1⟩ := RX.out _ FD.out
              clear hke
              generalize wo.drewN mm = w9 at *
              rcases ht with ⟨rfl, ht⟩ | ⟨rfl, ht⟩
              · have HA := Lib.hid (show acc = df [] (l.reverse.take (l.length - m)) by
                  rw [HSTEP.out, df_append, ← hacc.out]
                  show acc = (if x ∈ acc then acc else acc ++ [x])
                  rw [if_pos ht.out])
                go_wp2_with fail
                go_roundw
                case rel => exact ⟨m, acc, sp, c, by omega, rfl, rfl, ha, HA.out, HROW.out, FD.out⟩
                case measure => simp [intOf]
              · have HA := Lib.hid (show acc ++ [x] = df [] (l.reverse.take (l.length - m)) by
                  rw [HSTEP.out, df_append, ← hacc.out]
                  show acc ++ [x] = (if x ∈ acc then acc else acc ++ [x])
                  rw [if_neg ht.out])
                obtain ⟨i9, hi, hz0, hz1, hz2⟩ := info_parts info3
                have HSZ : wB.heap.size ≤ w9.heap.size := FD.out.size
                go_wp2_with (at_builtin; refine wpList_append_own _ rfl (.tmp 90) (.tmp 95) 33 rfl wB.heap.size 3 i9 _ 1 8 Try.underlying33 hi hz0 hz1 hz2 rfl (by omega) (.slice sp acc.length c) acc.length _ rfl (ownsRow.fr HROW.out ((Fr.refl (fun _ => False) w9).alloc _) (by simp)) ⟨w9.heap.size, 0, none⟩ 1 1 [.int .i64 x] rfl rfl (news_new w9 _ 3) (by simp [Value.oneCell']) (by unfold maxLen; omega) (by omega) (by simp; omega) ?_; intro v7 w7 hown7 hgrow7 _; obtain ⟨sp7, c7, rfl⟩ := ownsRow.shape hown7; have HO7 := Lib.hid hown7; have HG7 := Lib.hid hgrow7; clear hown7 hgrow7)
                go_roundw
                case rel =>
                  have hb7 : Below wB.heap.size wB w7 := (FD.out.alloc HSZ _).grown HG7.out (by simp; omega) (fun j e => (HROW.out.lt j e).1)
                  refine ⟨m, acc ++ [x], sp7, c7, by omega, rfl, by simp, by simp; omega, HA.out, ?_, hb7⟩
                  have := HO7.out
                  rw [show acc.length + 1 = (acc ++ [x]).length by simp] at this
                  rw [List.map_append]
                  exact this
                case measure => simp [intOf]
        · have hfin : acc = (wl l.reverse).take sz := by
            obtain ⟨t, ht⟩ := df_pre acc (l.reverse.drop (l.length - r))
            have h1 : df [] l.reverse = acc ++ t := by
              rw [← ht, hacc.out, ← df_append, List.take_append_drop]
            rw [df_nil] at h1
            by_cases h0 : 0 < r
            · have : acc.length = sz := by omega
              rw [h1, ← this, List.take_left']
              rfl
            · obtain rfl : r = 0 := by omega
              have h2 : acc = wl l.reverse := by rw [hacc.out, Nat.sub_zero, List.take_of_length_le (by simp), df_nil]
              rw [← h2, List.take_of_length_le ha]
          have HF := Lib.hid hfin
          have KK := Lib.hid (Keys_any bb S sz E wo (HCA.out.fr (frB hbw.out) (by simp)) (by omega))
          have HEA := Lib.hid (show E.length = acc.length by rw [← rk_len, HKF.out, ← hfin])
          rw [HEA.out] at KK
          have HRW := Lib.hid (RdI.of hrow.out)
          have HKY := Lib.hid (show kys E.reverse = acc.map (Value.int .i64) by rw [HF.out, ← HKF.out]; simp [kys, rk])
          rw [HKY.out] at KK
          have PS := Lib.hid (fun w8 (sp8 : Option Addr) c8 (h8 : w8.ownsRow wo.heap.size 3 1 (.slice sp8 acc.length c8) acc.length (acc.map (Value.int .i64))) (b8 : Below wo.heap.size wo w8) => sameInts_any sp8 sp c8 c acc w8 (RdI.of h8) (HRW.out.fr (frB b8) (by simp)) (by omega))
          have B0 := Lib.hid (BE.out.trans (hbw.out.mono BE.out.size))
          clear hfin hacc HKF HEA
          by_cases h0 : 0 < r
          · obtain ⟨m, rfl⟩ : ∃ m, r = m + 1 := ⟨r - 1, by omega⟩
            have e1 : (((m + 1 : Nat) : Int) - 1) = (m : Int) := by omega
            rw [e1]
            have i0 : (0 : Int) ≤ (m : Int) := by omega
            have i5 : decide ((0 : Int) ≤ (m : Int)) = true := by simp
            have i6 : decide ((acc.length : Int) < (sz : Int)) = false := by simp; omega
            have i7 : ¬ (acc.length : Int) < (sz : Int) := by omega
            clear e1 hgo
            go_wp2_with fail
            refine KK.out.mono ?_
            rintro e w8 ⟨⟨sp8, c8, rfl, row8⟩, b8⟩
            have P8 := Lib.hid (PS.out w8 sp8 c8 row8 b8)
            have B8 := Lib.hid (B0.out.trans (b8.mono B0.out.size))
            clear row8 b8 KK PS
            go_wp2_with fail
            refine P8.out.mono ?_
            rintro e w9 ⟨rfl, f9⟩
            have B9 := Lib.hid (B8.out.trans (f9.below B8.out.size (by simp)))
            clear f9
            go_wp2_with fail
            go_ret
            exact ⟨rfl, B9.out⟩
          · obtain rfl : r = 0 := by omega
            rw [show (((0 : Nat) : Int) - 1) = -1 by decide]
            clear hgo h0
            go_wp2_with fail
            refine KK.out.mono ?_
            rintro e w8 ⟨⟨sp8, c8, rfl, row8⟩, b8⟩
            have P8 := Lib.hid (PS.out w8 sp8 c8 row8 b8)
            have B8 := Lib.hid (B0.out.trans (b8.mono B0.out.size))
            clear row8 b8 KK PS
            go_wp2_with fail
            refine P8.out.mono ?_
            rintro e w9 ⟨rfl, f9⟩
            have B9 := Lib.hid (B8.out.trans (f9.below B8.out.size (by simp)))
            clear f9
            go_wp2_with fail
            go_ret
            exact ⟨rfl, B9.out⟩
end Go.Proofs.Ytimildmpkamomaa
