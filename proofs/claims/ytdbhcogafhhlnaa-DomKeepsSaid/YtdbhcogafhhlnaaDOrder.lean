/- DomOrder: the walk. -/
import Derived.Test.YtdbhcogafhhlnaaDTells
import Derived.Test.YtdbhcogafhhlnaaDOrd
import Derived.OwnWalk
namespace Go.Proofs.Ytdbhcogafhhlnaa
open Go.RowKit Go.Maps Go.ChangeShapes Go.WideShapes Go.ChangeAt Go.WideMaps Go.WideElems

theorem allN_len' {ds : List NodeD} (hg : Good ds ds.length) : (allN ds).length = ds.length := by
  rcases Nat.eq_zero_or_pos ds.length with h0 | h0
  · unfold allN; rw [h0]; rfl
  · exact allN_len hg h0
theorem made_int (n : Nat) : (madeCells (Value.int .i64 0).cells (n * 1)).toList = (List.replicate n (0 : Int)).map (Value.int .i64) := by
  apply List.ext_getElem?
  intro j
  unfold madeCells
  rw [Nat.mul_one, Array.getElem?_toList, Array.getElem?_map]
  by_cases h : j < n
  · rw [Array.getElem?_range, if_pos h, List.getElem?_map, List.getElem?_replicate, if_pos h]
    simp [Value.cells, Nat.mod_one]
  · rw [Array.getElem?_range, if_neg h, List.getElem?_eq_none (by simp; omega)]
    rfl

/-- What a tree tells of its k-th element, in each world that comes from wp by new memory. -/
structure Tell (wp : World) (tb : Nat) (ds : List NodeD) : Prop where
  pa : ∀ W, Fr (fun _ => False) wp W → ∀ k, k < ds.length → Calls Try.prog 21 #[.pointer (some ⟨tb, 0, none⟩), .int .i64 (k : Int)] W fun e w' => e = .returned (.int .i64 (parN ds k)) ∧ Fr (fun _ => False) W w'
  be : ∀ W, Fr (fun _ => False) wp W → ∀ k, k < ds.length → Calls Try.prog 22 #[.pointer (some ⟨tb, 0, none⟩), .int .i64 (k : Int)] W fun e w' => e = .returned (.int .i64 ((kidL ds (parN ds k) k).getLastD (-1))) ∧ Fr (fun _ => False) W w'
  de : ∀ W, Fr (fun _ => False) wp W → ∀ k, k < ds.length → Calls Try.prog 13 #[.pointer (some ⟨tb, 0, none⟩), .int .i64 (k : Int)] W fun e w' => e = .returned (.int .i64 ((R.dps ds ds.length).getD k 0)) ∧ Fr (fun _ => False) W w'
  pl : ∀ W, Fr (fun _ => False) wp W → ∀ k, k < ds.length → Calls Try.prog 18 #[.pointer (some ⟨tb, 0, none⟩), .int .i64 (k : Int)] W fun e w' => e = .returned (.int .i64 ((kidL ds (parN ds k) k).length + 1)) ∧ Fr (fun _ => False) W w'
theorem tell_any (w0 wp : World) (tb : Nat) (ds : List NodeD) (els : List ElD) (hT : TS w0 wp tb els) (hv : VE ds ds.length els) : Tell wp tb ds := by
  have at_ : ∀ k, k < ds.length → ∃ x, els[k]? = some x ∧ eltAt els (k : Int) = x ∧ x.nd.par = parN ds k ∧ x.plc = ((kidL ds (parN ds k) k).length : Int) + 1 ∧ x.bef = (kidL ds (parN ds k) k).getLastD (-1) ∧ x.dep = (R.dps ds ds.length).getD k 0 := fun k hk => by
    have hkl : k < els.length := by rw [hv.len]; exact hk
    have hx := List.getElem?_eq_getElem hkl
    obtain ⟨e1, e2, e3, e4⟩ := hv.at_ k _ hx
    refine ⟨_, hx, eltAt_in hx, (parN_at e1).symm, e3, e4, ?_⟩
    rw [← hv.dep, List.getD_eq_getElem?_getD, List.getElem?_map, hx]
    rfl
  refine ⟨fun W f k hk => ?_, fun W f k hk => ?_, fun W f k hk => ?_, fun W f k hk => ?_⟩
  · obtain ⟨x, h1, h2, h3, h4, h5, h6⟩ := at_ k hk
    have := Parent_any w0 W tb els (hT.fr0 f) k x h1
    rwa [h3] at this
  · obtain ⟨x, h1, h2, h3, h4, h5, h6⟩ := at_ k hk
    have := Before_any w0 W tb els (hT.fr0 f) (k : Int)
    rwa [h2, h5] at this
  · obtain ⟨x, h1, h2, h3, h4, h5, h6⟩ := at_ k hk
    have := Depth_any w0 W tb els (hT.fr0 f) (k : Int)
    rwa [h2, h6] at this
  · obtain ⟨x, h1, h2, h3, h4, h5, h6⟩ := at_ k hk
    have := Place_any w0 W tb els (hT.fr0 f) (k : Int)
    rwa [h2, h4] at this

theorem dps_at (ds : List NodeD) (n k : Nat) (h : k < n) : (R.dps ds n)[k]? = some (R.dpAt ds k) := by
  induction n with
  | zero => omega
  | succ n ih =>
    rw [R.dps_succ]
    rcases Nat.lt_or_ge k n with hk | hk
    · rw [List.getElem?_append_left (by rw [R.dps_len]; exact hk)]
      exact ih hk
    · obtain rfl : k = n := by omega
      rw [List.getElem?_append_right (by rw [R.dps_len]; exact Nat.le_refl _), R.dps_len, Nat.sub_self]
      rfl
theorem dps_par {ds : List NodeD} {k q : Nat} (hk : k < ds.length) (hz : 0 < k) (hqk : q < k) (hp : parN ds k = (q : Int)) : (R.dps ds ds.length).getD k 0 = (R.dps ds ds.length).getD q 0 + 1 := by
  have hd := List.getElem?_eq_getElem hk
  have hpp := parN_at hd
  rw [List.getD_eq_getElem?_getD, dps_at ds _ k hk, Option.getD_some]
  have e : R.dpAt ds k = (R.dps ds k).getD ((ds[k]?.map NodeD.par).getD 0).toNat 0 + 1 := by unfold R.dpAt; rw [if_neg (by omega)]
  rw [e, hd]
  show (R.dps ds k).getD (ds[k].par).toNat 0 + 1 = _
  rw [← hpp, hp, Int.toNat_natCast, List.getD_eq_getElem?_getD, List.getD_eq_getElem?_getD]
  rw [dps_at ds k q hqk, dps_at ds _ q (by omega)]
theorem dps_bd {ds : List NodeD} {els : List ElD} (hv : VE ds ds.length els) (hi : InvE els) {k : Nat} (hk : k < ds.length) : 0 ≤ (R.dps ds ds.length).getD k 0 ∧ (R.dps ds ds.length).getD k 0 ≤ 256 := by
  have hkl : k < els.length := by rw [hv.len]; exact hk
  have := hi els[k] (List.getElem_mem hkl)
  rw [← hv.dep, List.getD_eq_getElem?_getD, List.getElem?_map, List.getElem?_eq_getElem hkl]
  exact ⟨this.1, this.2.1⟩
set_option maxHeartbeats 4000000 in
set_option maxRecDepth 100000 in
theorem order_any (ds : List NodeD) (p : Option Addr) (c : Nat) (w : World) (h : RdNs w p ds) (hcap : RdCap w p ds) (hlc : ds.length ≤ c) (hcm : c ≤ maxLen) :
    Calls Try.prog 8 #[.slice p ds.length c] w fun e w' => e = .returned (.bool true) ∧ Fr (fun _ => False) w w' := by
  have AL := Lib.hid (alive_any w)
  have HN := Lib.hid (RdNs.ref h hcap)
  have HD := Lib.hid h
  have hcm' := hcm
  unfold maxLen at hcm'
  clear h hcap
  go_enter Try.func8, Try.ntmps8
  go_wp2_with fail
  refine AL.out.mono ?_
  rintro e w1 ⟨rfl, f1⟩
  have F1 := Lib.hid f1
  have HD1 := Lib.hid (HD.out.fr f1)
  have BG := Lib.hid (Big_any ds p c w1 HD1.out hlc hcm)
  have RN := Lib.hid (R.RTree_any ds p c w1 (HN.out.fr f1) hlc hcm)
  clear AL f1 HD HN
  go_wp2_with fail
  refine BG.out.mono ?_
  rintro e w2 ⟨rfl, bg, rfl, hbg⟩
  have HBG := Lib.hid hbg
  clear hbg BG
  go_wp2_with fail
  refine RN.out.mono ?_
  rintro e w3 ⟨q3, rfl, -, -, f3⟩
  have F3 := Lib.hid (F1.out.trans f3)
  have HD3 := Lib.hid (HD1.out.fr f3)
  clear f3 RN F1 HD1
  cases bg with
  | true =>
    go_wp2_with fail
    go_ret
    exact ⟨rfl, F3.out⟩
  | false =>
    rcases err_new ds with ⟨he, els, hn⟩ | ⟨he, -⟩
    · have HV := Lib.hid (new_view hn)
      have HI := Lib.hid (new_kids ds els hn).2.1
      have hl40 : ds.length ≤ 40 := by
        obtain ⟨-, hl1, hl2⟩ := HBG.out rfl
        unfold newR at hn
        split at hn
        · cases hn
        · omega
      have HNW := Lib.hid hn
      have N4 := Lib.hid (New_any ds p c w3 HD3.out hlc hcm)
      rw [he]
      clear hn HBG he
      go_wp2_with fail
      refine N4.out.mono ?_
      rintro e w4 ⟨f4, (⟨n, hn, -⟩ | ⟨els', tb, hn, rfl, hT, -, -⟩)⟩
      · rw [HNW.out] at hn; cases hn
      rw [HNW.out] at hn
      cases hn
      have F4 := Lib.hid (F3.out.trans f4)
      have T4 := Lib.hid hT
      have A23 := Lib.hid (all23 w3 w4 w4 tb ds els hT HV.out (by omega) (Fr.refl _ _))
      have hal : ((allN ds).map fun (j : Nat) => (j : Int)).length = ds.length := by rw [List.length_map]; exact allN_len' HV.out.good
      have HALL := Lib.hid (show ∀ i : Nat, i < ds.length → ∃ x : Nat, (allN ds)[i]? = some x ∧ ((allN ds).map fun (j : Nat) => (j : Int))[i]? = some (x : Int) from fun i hi => by
        have hl := allN_len' HV.out.good
        exact ⟨(allN ds)[i], List.getElem?_eq_getElem (by omega), by rw [List.getElem?_map, List.getElem?_eq_getElem (by omega)]; rfl⟩)
      have HAL := Lib.hid hal
      obtain ⟨i27, hb0, hb1, hb2, hb3⟩ := info_parts R.info3
      clear f4 hT N4 F3 HD3 HNW hal
      generalize (allN ds).map (fun (j : Nat) => (j : Int)) = AL at *
      go_wp2_with fail
      refine A23.out.mono ?_
      rintro e w6 ⟨sa, ka, rfl, ra, f6⟩
      rw [HAL.out]
      have F6 := Lib.hid (F4.out.trans f6)
      have T6 := Lib.hid (tell_any w3 w6 tb ds els (T4.out.fr0 f6) HV.out)
      have RA := Lib.hid ra
      have qn : ((ds.length : Int) != (ds.length : Int)) = false := by simp
      clear f6 ra A23 T4 F4
      go_wp2_with (at_make; refine wpList_make_full _ rfl _ _ 34 rfl w6.heap.size 3 i27 _ 1 Try.underlying34 hb0 hb1 hb2 .i64 .i64 _ _ ds.length rfl rfl rfl rfl (by rw [hb3]; omega) (by unfold maxLen; omega) (Nat.le_refl _) ?_; intro w7 hown hgrow; rw [made_int, ← atL_0] at hown; have O7 := Lib.hid (OwnsWin.of_row hown); have F7 := Lib.hid ((Fr.refl (fun _ => False) w6).grown hgrow (by simp)); clear hown hgrow)
      go_loopw [11] (fun i wr => ∃ k : Nat, k ≤ ds.length ∧ i = .int .i64 k ∧ Hid (Fr (fun _ => False) w6 wr) ∧ Hid (OwnsWin wr w6.heap.size 3 1 (.slice (some ⟨w6.heap.size, 0, none⟩) ds.length ds.length) ds.length ((atL ds k).map (Value.int .i64)))) (fun i _ => ds.length - (intOf i).toNat)
      case atStart => exact ⟨0, Nat.zero_le _, rfl, F7.out, O7.out⟩
      case round =>
        obtain ⟨k, hk, rfl, hF, hO⟩ := hrel
        clear F7 O7
        obtain ⟨wo, rfl⟩ : ∃ wo : World, wo = wr := ⟨_, rfl⟩
        by_cases hlt : k < ds.length
        · have h0 : 0 < ds.length := by omega
          obtain ⟨x, hx1, hx2⟩ := HALL.out k hlt
          have hxl := all_lt HV.out.good h0 hx1
          obtain ⟨g, off, rfl, -, y0⟩ := RA.out.fr0 hF.out k _ hx2
          obtain ⟨g', off', cap', hv, _, _, hgl, hbs, hcell, hfrz⟩ := hO.out.cells h0
          cases hv
          have y1 := hcell x (.int .i64 0) (by rw [List.getElem?_map, atL_new HV.out.good h0 hx1]; rfl)
          have z1 := hfrz (0 + x)
          have HS := Lib.hid (hO.out.set x (.int .i64 ((k : Int) + 1)))
          have HX := Lib.hid (show ((atL ds k).map (Value.int .i64)).set x (.int .i64 ((k : Int) + 1)) = (atL ds (k + 1)).map (Value.int .i64) by rw [← atL_step HV.out.good h0 hx1, List.map_set])
          have HF2 := Lib.hid (hF.out.setCell (p := ⟨w6.heap.size, 0 + x, none⟩) (.inr (Nat.le_refl _)) (.int .i64 ((k : Int) + 1)))
          rw [HX.out] at HS
          rw [Nat.zero_add] at y1 z1 HS HF2
          have i1 : (k : Int) < (ds.length : Int) := by omega
          have i2 : (x : Int) < (ds.length : Int) := by omega
          have q1 : decide ((x : Int) < 0) = false := by simp
          have q2 : decide ((ds.length : Int) ≤ (x : Int)) = false := by simp; omega
          have q2n : decide (ds.length ≤ x) = false := by simp; omega
          clear hcell hfrz hx1 hx2 HX hO hF
          go_wp2_with fail
          go_roundw
          case rel => exact ⟨k + 1, by omega, by go_num, HF2.out, HS.out⟩
          case measure => simp [intOf]; omega
        · obtain rfl : k = ds.length := by omega
          have i1 : ¬ ((ds.length : Int) < (ds.length : Int)) := by omega
          have F8 := Lib.hid hF.out
          have O8 := Lib.hid hO.out
          clear hF hO
          go_wp2_with fail
          go_loopw [12, 13, 14] (fun i _ _ wr => ∃ k : Nat, k ≤ ds.length ∧ i = .int .i64 k ∧ Hid (Fr (fun _ => False) w6 wr) ∧ Hid (OwnsWin wr w6.heap.size 3 1 (.slice (some ⟨w6.heap.size, 0, none⟩) ds.length ds.length) ds.length ((atL ds ds.length).map (Value.int .i64)))) (fun i _ _ _ => ds.length - (intOf i).toNat)
          case atStart => exact ⟨0, Nat.zero_le _, rfl, F8.out, O8.out⟩
          case round =>
            obtain ⟨k, hk, rfl, hF, hO⟩ := hrel
            clear F8 O8 RA HALL
            obtain ⟨wp, rfl⟩ : ∃ wp : World, wp = wr := ⟨_, rfl⟩
            by_cases hlt : k < ds.length
            · have h0 : 0 < ds.length := by omega
              have i2 : (k : Int) < (ds.length : Int) := by omega
              obtain ⟨g', off', cap', hv, _, _, hgl, hbs, hcell, -⟩ := hO.out.cells h0
              cases hv
              have AT := Lib.hid (show ∀ x, x < ds.length → wp.cell? ⟨w6.heap.size, x, none⟩ = some (.int .i64 (((allN ds).idxOf x : Int) + 1)) from fun x hx => by
                have := hcell x (.int .i64 (((allN ds).idxOf x : Int) + 1)) (by rw [List.getElem?_map, atL_end HV.out.good h0 hx]; rfl)
                rwa [Nat.zero_add] at this)
              have GG := Lib.hid hF.out
              have O0 := Lib.hid hO.out
              have GP := Lib.hid (Fr.refl (fun _ => False) wp)
              have PB := Lib.hid (fun W f => T6.out.be W f k hlt)
              have PP := Lib.hid (fun W f => T6.out.pl W f k hlt)
              have PA := Lib.hid (fun W f => T6.out.pa W f k hlt)
              have PD := Lib.hid (fun W f => T6.out.de W f k hlt)
              clear hcell hO
              rcases Nat.eq_zero_or_pos k with hz | hz
              · have hp := (HV.out.good k hlt).1 hz
                have hkl : kidL ds (parN ds k) k = [] := by rw [hz]; rfl
                rw [hkl] at PB PP
                rw [hp] at PA
                simp only [List.getLastD_nil, List.length_nil] at PB PP
                clear hp hkl PD AT hz
                go_wp2_with (first
                  | (go_at_call 21; ((with_reducible refine Calls.mono (PA.out _ GG.out) ?_); rintro e wa ⟨rfl, fa⟩); have GG := Lib.hid (GG.out.trans fa); have GP := Lib.hid (GP.out.trans fa); clear fa)
                  | (go_at_call 22; ((with_reducible refine Calls.mono (PB.out _ GG.out) ?_); rintro e wa ⟨rfl, fa⟩); have GG := Lib.hid (GG.out.trans fa); have GP := Lib.hid (GP.out.trans fa); clear fa))
                refine wp_region_fr (by kernel_rfl) (by kernel_rfl) ?_
                repeat (go_big_quiet_step (first
                  | (go_at_call 18; (with_reducible exact Calls.fr_of _ (PP.out _ (GG.out.trans (FrW.fr _)))))))
                refine wpQuiet_nil ?_
                rintro _ ⟨nq, rfl⟩
                have GN := nq.fr
                go_wp2_with fail
                go_roundw
                case rel => exact ⟨k + 1, by omega, by go_num, GG.out.trans GN, O0.out.fr (GP.out.trans GN) (by simp)⟩
                case measure => simp [intOf]; omega
              · obtain ⟨q, hp⟩ := Int.eq_ofNat_of_zero_le ((HV.out.good k hlt).2 hz).1
                have hqk : q < k := by have := ((HV.out.good k hlt).2 hz).2; omega
                have hi := par_ahead HV.out.good h0 hlt hp
                have hdk := dps_par hlt hz hqk hp
                have hdb := dps_bd HV.out HI.out (k := q) (by omega)
                have PQ := Lib.hid (fun W f => T6.out.de W f q (by omega))
                rw [hp] at PB PP PA
                rw [hdk] at PD
                have xk := AT.out k hlt
                have xq := AT.out q (by omega)
                have i3 : (q : Int) < (ds.length : Int) := by omega
                rcases kidL_last ds (q : Int) k with hkl | ⟨b, hb1, hb2, hkl⟩
                · rw [hkl] at PB PP
                  simp only [List.getLastD_nil, List.length_nil] at PB PP
                  clear AT hkl hdk hp
                  generalize (allN ds).idxOf k = ik at *
                  generalize (allN ds).idxOf q = iq at *
                  generalize (R.dps ds ds.length).getD q 0 = dq at *
                  have w1 : decide ((ik : Int) + 1 ≤ (iq : Int) + 1) = false := by simp; omega
                  have w2 : decide ((ik : Int) ≤ (iq : Int)) = false := by simp; omega
                  have w3 : decide (ik ≤ iq) = false := by simp; omega
                  have w4 : IntKind.i64.wrap (dq + 1) = dq + 1 := IntWalk.i64_in _ (by omega)
                  have w4' : (dq + 1 != IntKind.i64.wrap (dq + 1)) = false := by rw [w4]; simp
                  go_wp2_with (first
                    | (go_at_call 21; ((with_reducible refine Calls.mono (PA.out _ GG.out) ?_); rintro e wa ⟨rfl, fa⟩); have xk := cellFr0 fa xk; have xq := cellFr0 fa xq; have GG := Lib.hid (GG.out.trans fa); have GP := Lib.hid (GP.out.trans fa); clear fa)
                    | (go_at_call 22; ((with_reducible refine Calls.mono (PB.out _ GG.out) ?_); rintro e wa ⟨rfl, fa⟩); have xk := cellFr0 fa xk; have xq := cellFr0 fa xq; have GG := Lib.hid (GG.out.trans fa); have GP := Lib.hid (GP.out.trans fa); clear fa))
                  have zxk := FrW.cell xk
                  clear xk
                  have zxq := FrW.cell xq
                  clear xq
                  refine wp_region_fr (by kernel_rfl) (by kernel_rfl) ?_
                  repeat (go_big_quiet_step (first
                    | (go_at_call 13; (with_reducible exact Calls.fr_of _ (PD.out _ (GG.out.trans (FrW.fr _)))))
                    | (go_at_call 13; (with_reducible exact Calls.fr_of _ (PQ.out _ (GG.out.trans (FrW.fr _)))))
                    | (go_at_call 18; (with_reducible exact Calls.fr_of _ (PP.out _ (GG.out.trans (FrW.fr _)))))))
                  refine wpQuiet_nil ?_
                  rintro _ ⟨nq, rfl⟩
                  have GN := nq.fr
                  go_wp2_with fail
                  go_roundw
                  case rel => exact ⟨k + 1, by omega, by go_num, GG.out.trans GN, O0.out.fr (GP.out.trans GN) (by simp)⟩
                  case measure => simp [intOf]; omega
                · have hib := bro_ahead HV.out.good h0 hlt hb1 (hb2.trans hp.symm)
                  have xb := AT.out b (by omega)
                  have BA := Lib.hid (fun W f => T6.out.pa W f b (by omega))
                  have BP := Lib.hid (fun W f => T6.out.pl W f b (by omega))
                  have hlb := kidL_len ds (q : Int) b
                  rw [hb2] at BA BP
                  rw [hkl, List.length_append] at PP
                  rw [hkl] at PB
                  simp only [List.getLastD_concat, List.length_cons, List.length_nil, Nat.zero_add] at PB PP
                  clear AT hkl hdk hp hb2
                  generalize (allN ds).idxOf k = ik at *
                  generalize (allN ds).idxOf q = iq at *
                  generalize (allN ds).idxOf b = ib at *
                  generalize (kidL ds (q : Int) b).length = lb at *
                  generalize (R.dps ds ds.length).getD q 0 = dq at *
                  have i4 : (b : Int) < (ds.length : Int) := by omega
                  have w1 : decide ((ik : Int) + 1 ≤ (iq : Int) + 1) = false := by simp; omega
                  have w2 : decide ((ik : Int) ≤ (iq : Int)) = false := by simp; omega
                  have w3 : decide (ik ≤ iq) = false := by simp; omega
                  have w4 : IntKind.i64.wrap (dq + 1) = dq + 1 := IntWalk.i64_in _ (by omega)
                  have w4' : (dq + 1 != IntKind.i64.wrap (dq + 1)) = false := by rw [w4]; simp
                  have w5 : decide ((ik : Int) + 1 ≤ (ib : Int) + 1) = false := by simp; omega
                  have w6' : decide ((ik : Int) ≤ (ib : Int)) = false := by simp; omega
                  have w7 : decide (ik ≤ ib) = false := by simp; omega
                  have w8 : decide ((b : Int) < 0) = false := by simp
                  have w9 : IntKind.i64.wrap ((lb : Int) + 1 + 1) = (lb : Int) + 1 + 1 := IntWalk.i64_in _ (by omega)
                  have w9' : (IntKind.i64.wrap ((lb : Int) + 1 + 1) != (lb : Int) + 1 + 1) = false := by rw [w9]; simp
                  go_wp2_with (first
                    | (go_at_call 21; ((with_reducible refine Calls.mono (PA.out _ GG.out) ?_); rintro e wa ⟨rfl, fa⟩); have xk := cellFr0 fa xk; have xq := cellFr0 fa xq; have xb := cellFr0 fa xb; have GG := Lib.hid (GG.out.trans fa); have GP := Lib.hid (GP.out.trans fa); clear fa)
                    | (go_at_call 22; ((with_reducible refine Calls.mono (PB.out _ GG.out) ?_); rintro e wa ⟨rfl, fa⟩); have xk := cellFr0 fa xk; have xq := cellFr0 fa xq; have xb := cellFr0 fa xb; have GG := Lib.hid (GG.out.trans fa); have GP := Lib.hid (GP.out.trans fa); clear fa))
                  have zxk := FrW.cell xk
                  clear xk
                  have zxq := FrW.cell xq
                  clear xq
                  have zxb := FrW.cell xb
                  clear xb
                  refine wp_region_fr (by kernel_rfl) (by kernel_rfl) ?_
                  repeat (go_big_quiet_step (first
                    | (go_at_call 21; (with_reducible exact Calls.fr_of _ (BA.out _ (GG.out.trans (FrW.fr _)))))
                    | (go_at_call 13; (with_reducible exact Calls.fr_of _ (PD.out _ (GG.out.trans (FrW.fr _)))))
                    | (go_at_call 13; (with_reducible exact Calls.fr_of _ (PQ.out _ (GG.out.trans (FrW.fr _)))))
                    | (go_at_call 18; (with_reducible exact Calls.fr_of _ (BP.out _ (GG.out.trans (FrW.fr _)))))
                    | (go_at_call 18; (with_reducible exact Calls.fr_of _ (PP.out _ (GG.out.trans (FrW.fr _)))))))
                  refine wpQuiet_nil ?_
                  rintro _ ⟨nq, rfl⟩
                  have GN := nq.fr
                  go_wp2_with fail
                  go_roundw
                  case rel => exact ⟨k + 1, by omega, by go_num, GG.out.trans GN, O0.out.fr (GP.out.trans GN) (by simp)⟩
                  case measure => simp [intOf]; omega
            · obtain rfl : k = ds.length := by omega
              have i2 : ¬ ((ds.length : Int) < (ds.length : Int)) := by omega
              go_wp2_with fail
              go_ret
              exact ⟨rfl, F6.out.trans hF.out⟩
    · have hne : (R.errN ds != 0) = true := by simpa using he
      go_wp2_with fail
      go_ret
      exact ⟨rfl, F3.out⟩

theorem domOrder_walk (v : Value) (ds : List NodeD) (w : World) (h : IsNodes w v ds) : Calls Try.prog 8 #[v] w fun e w' => e = .returned (.bool true) ∧ Below w.heap.size w w' := by
  obtain ⟨p, c, rfl, h1, h2, h3, h4⟩ := h
  exact (order_any ds p c w h3 h4 h1 h2).mono fun _ _ h => ⟨h.1, h.2.below (Nat.le_refl _) (by simp)⟩
end Go.Proofs.Ytdbhcogafhhlnaa
