/- DomKeeps: the walk. -/
import Derived.Test.YtdbhcogafhhlnaaDKeep0
namespace Go.Proofs.Ytdbhcogafhhlnaa
open Go.RowKit Go.Maps Go.ChangeShapes Go.WideShapes Go.ChangeAt Go.WideMaps Go.WideElems


set_option maxHeartbeats 4000000 in
set_option maxRecDepth 100000 in
theorem keeps_any (ds : List NodeD) (p : Option Addr) (c : Nat) (z : Int) (w : World) (h : RdNs w p ds) (hcap : RdCap w p ds) (hlc : ds.length ≤ c) (hcm : c ≤ maxLen) :
    Calls Try.prog 7 #[.slice p ds.length c, .int .i64 z] w fun e w' => e = .returned (.bool true) ∧ Fr (fun _ => False) w w' := by
  have AL := Lib.hid (alive_any w)
  have HN := Lib.hid (RdNs.ref h hcap)
  have HD := Lib.hid h
  have hcm' := hcm
  unfold maxLen at hcm'
  clear h hcap
  go_enter Try.func7, Try.ntmps7
  go_wp2_with fail
  refine AL.out.mono ?_
  rintro e w1 ⟨rfl, f1⟩
  have F1 := Lib.hid f1
  have HD1 := Lib.hid (HD.out.fr f1)
  have BG := Lib.hid (Big_any ds p c w1 HD1.out hlc hcm)
  have RN := Lib.hid (R.RTree_any ds p c w1 (HN.out.fr f1) hlc hcm)
  clear AL f1 HD
  go_wp2_with fail
  refine BG.out.mono ?_
  rintro e w2 ⟨rfl, bg, rfl, hbg⟩
  have HBG := Lib.hid hbg
  clear hbg BG
  go_wp2_with fail
  refine RN.out.mono ?_
  rintro e w3 ⟨q3, rfl, -, -, f3⟩
  have F3 := Lib.hid (F1.out.trans f3)
  have HD3 := Lib.hid (HD1.out.fr f3)
  clear f3 RN F1 HD1
  cases bg with
  | true =>
    go_wp2_with fail
    go_ret
    exact ⟨rfl, F3.out⟩
  | false =>
    rcases err_new ds with ⟨he, els, hn⟩ | ⟨he, -⟩
    · have hlen40 : ds.length ≤ 40 := by
        obtain ⟨-, hl1, hl2⟩ := HBG.out rfl
        unfold newR at hn
        split at hn
        · cases hn
        · omega
      have HSM := Lib.hid (show ∀ (k : Nat) d, ds[k]? = some d → d.cls.length ≤ 8 ∧ d.att.length ≤ 8 ∧ d.tag.size ≤ maxLen ∧ ∀ p ∈ d.att, p.1.size ≤ maxLen from fun k d hd => by
        have := (List.getElem?_eq_some_iff.1 hd).1
        obtain ⟨a, b, c, -, -, e⟩ := (HBG.out rfl).1 k d (by omega) hd
        refine ⟨a, b, by unfold maxLen; omega, fun p hp => ?_⟩
        obtain ⟨j, hj⟩ := List.mem_iff_getElem?.1 hp
        have := (e j p hj).1
        unfold maxLen
        omega)
      have HNW := Lib.hid hn
      have HER := Lib.hid he
      rw [he]
      clear hn HBG he
      by_cases hz0 : z < 0
      · have d0 : decide (z < 0) = true := decide_eq_true hz0
        go_wp2_with fail
        go_ret
        exact ⟨rfl, F3.out⟩
      have d0 : decide (z < 0) = false := decide_eq_false hz0
      by_cases hz1 : (ds.length : Int) ≤ z
      · have d1 : decide ((ds.length : Int) ≤ z) = true := decide_eq_true hz1
        go_wp2_with fail
        go_ret
        exact ⟨rfl, F3.out⟩
      obtain ⟨e0, rfl⟩ := Int.eq_ofNat_of_zero_le (by omega : 0 ≤ z)
      have hez : e0 < ds.length := by omega
      have d1 : decide ((ds.length : Int) ≤ (e0 : Int)) = false := decide_eq_false hz1
      have d1n : decide (ds.length ≤ e0) = false := decide_eq_false (by omega)
      have h0 : 0 < ds.length := by omega
      clear hz0 hz1
      obtain ⟨i9, ha0, ha1, ha2, ha3⟩ := info_parts info9
      obtain ⟨i38, hb0, hb1, hb2, hb3⟩ := info_parts info38
      obtain ⟨i25, hc0, hc1, hc2, hc3⟩ := info_parts info25c
      go_wp2_with fail
      go_loopw [9, 10] (fun v i wr => ∃ (k : Nat) (so : Option Addr) (co : Nat) (css : List (List Value)), k ≤ ds.length ∧ i = .int .i64 k ∧ v = .slice so k co ∧ Hid (OwnsWin wr w3.heap.size 25 5 (.slice so k co) k css.flatten) ∧ Hid (NOw w3.heap.size wr css ds k) ∧ Hid (Fr (fun _ => False) w3 wr)) (fun _ i _ => ds.length - (intOf i).toNat)
      case atStart => exact ⟨0, none, 0, [], Nat.zero_le _, rfl, rfl, OwnsWin.nil _ _ _ _, ⟨rfl, fun i cs d a => by simp at a⟩, Fr.refl _ _⟩
      case round =>
        obtain ⟨k, so, co, css, hk, rfl, rfl, hO, hN, hF⟩ := hrel
        obtain ⟨wo, rfl⟩ : ∃ wo : World, wo = wr := ⟨_, rfl⟩
        by_cases hlt : k < ds.length
        · have i1 : (k : Int) < (ds.length : Int) := by omega
          obtain ⟨d, hd⟩ : ∃ d, ds[k]? = some d := ⟨ds[k], List.getElem?_eq_getElem hlt⟩
          obtain ⟨b, off, sp, cc, q, o, rfl, hb, x0, x1, x2, x3, x4, hr⟩ := (HD3.out.fr hF.out) k d hd
          obtain ⟨s1, s2, s3, s4⟩ := HSM.out k d hd
          have HDK := Lib.hid hd
          have x4' := x4
          have HR := Lib.hid hr
          have hWS := hF.out.size
          clear hd hr
          have FA := Lib.hid ((Fr.refl (fun _ => False) wo).alloc (.cells #[.int .i64 d.par, .string d.tag, .string d.id, .slice sp d.cls.length cc, .slice q d.att.length o] 25))
          have XB := Lib.hid (heapNew wo (.cells #[.int .i64 d.par, .string d.tag, .string d.id, .slice sp d.cls.length cc, .slice q d.att.length o] 25))
          have ATT1 := Lib.hid (attL_cell d.att)
          go_upto_region 11 with fail
          generalize (wo.alloc (.cells #[.int .i64 d.par, .string d.tag, .string d.id, .slice sp d.cls.length cc, .slice q d.att.length o] 25)) = wa at *
          have y3 := cellFr0 FA.out x3
          have y4 := cellFr0 FA.out x4
          have hWA := FA.out.size
          have hXl := ltOf XB.out
          clear x0 x1 x2 x3 x4
          go_upto_region 12 with (at_builtin; refine wpList_append_src _ rfl (.const (.slice none 0 0)) (.tmp 68) 22 rfl w3.heap.size 9 i9 _ 1 16 Try.underlying22 ha0 ha1 ha2 ha3 rfl (by decide) (.slice none 0 0) 0 [] rfl (OwnsWin.nil _ _ _ _) sp d.cls.length cc (d.cls.map Value.string) rfl (HR.out.cls.fr FA.out) (by simp [Value.oneCell']) (by unfold maxLen; omega) (by omega) (by omega) ?_; intro sp1 c1 w5 hown5 hgrow5 hsh5; rw [Nat.zero_add, List.nil_append] at hown5; have F5 := Lib.hid ((Fr.refl (fun _ => False) wa).grown hgrow5 (fun j e => by simp [Value.ownBlock] at e)); have XB5 := Lib.hid (F5.out.heap XB.out (by simp)); have XN5 := Lib.hid (hown5.ne XB5.out (by intro c; simp)); have O5 := Lib.hid hown5; have r3 := cellOf XB5.out 3; have r3f := frozenOf XB5.out 3; simp at r3; clear hown5 hgrow5 hsh5)
          have XB6 := Lib.hid (heapSet XB5.out 3 (.slice sp1 d.cls.length c1))
          have G6 := Lib.hid ((Fr.refl (fun j => j = wo.heap.size) w5).setCell (p := ⟨wo.heap.size, 3, none⟩) (.inl rfl) (.slice sp1 d.cls.length c1))
          generalize w5.setCell ⟨wo.heap.size, 3, none⟩ (.slice sp1 d.cls.length c1) = w6 at *
          have O6 := Lib.hid (O5.out.fr G6.out (fun j a e => XN5.out (by subst e; exact a.symm)))
          have F6 := Lib.hid ((FA.out.trans F5.out).step G6.out (fun i e => .inr (by omega)))
          have z4 := cellFr0 F6.out x4'
          have hW6 := F6.out.size
          clear y3 y4 r3 r3f O5 XN5 XB5 G6 XB FA F5
          go_upto_region 13 with (at_builtin; refine wpList_append_src _ rfl (.const (.slice none 0 0)) (.tmp 75) 23 rfl w3.heap.size 38 i38 _ 2 32 Try.underlying23 hb0 hb1 hb2 hb3 rfl (by decide) (.slice none 0 0) 0 [] rfl (OwnsWin.nil _ _ _ _) q d.att.length o (attL d.att) rfl (HR.out.att.fr F6.out) ATT1.out (by unfold maxLen; omega) (by omega) (by omega) ?_; intro sp2 c2 w7 hown7 hgrow7 hsh7; rw [Nat.zero_add, List.nil_append] at hown7; have F7 := Lib.hid ((Fr.refl (fun _ => False) w6).grown hgrow7 (fun j e => by simp [Value.ownBlock] at e)); have XB7 := Lib.hid (F7.out.heap XB6.out (by simp)); have XN7 := Lib.hid (hown7.ne XB7.out (by intro c; simp)); have O7 := Lib.hid hown7; have r4 := cellOf XB7.out 4; have r4f := frozenOf XB7.out 4; simp at r4; clear hown7 hgrow7 hsh7)
          have XB8 := Lib.hid (heapSet XB7.out 4 (.slice sp2 d.att.length c2))
          have G8 := Lib.hid ((Fr.refl (fun j => j = wo.heap.size) w7).setCell (p := ⟨wo.heap.size, 4, none⟩) (.inl rfl) (.slice sp2 d.att.length c2))
          generalize w7.setCell ⟨wo.heap.size, 4, none⟩ (.slice sp2 d.att.length c2) = w8 at *
          have O8 := Lib.hid (O7.out.fr G8.out (fun j a e => XN7.out (by subst e; exact a.symm)))
          have P8 := Lib.hid ((O6.out.fr F7.out (by simp)).fr G8.out (fun j a e => by
            have := (O6.out.fr F7.out (by simp)).ne XB7.out (by intro c; simp)
            subst e
            exact this a.symm))
          have F8 := Lib.hid ((F6.out.trans F7.out).step G8.out (fun i e => .inr (by omega)))
          have XB9 := Lib.hid (show w8.heap[wo.heap.size]? = some (.cells #[.int .i64 d.par, .string d.tag, .string d.id, .slice sp1 d.cls.length c1, .slice sp2 d.att.length c2] 25 (0, 0)) by simpa using XB8.out)
          have e0' := cellOf XB9.out 0
          have e1' := cellOf XB9.out 1
          have e2' := cellOf XB9.out 2
          have e3' := cellOf XB9.out 3
          have e4' := cellOf XB9.out 4
          simp at e0' e1' e2' e3' e4'
          have hW8 := F8.out.size
          have OW8 := Lib.hid (hO.out.fr F8.out (by simp))
          have NW8 := Lib.hid (hN.out.keep F8.out (by simp))
          have IW8 := Lib.hid (show IsOw w3.heap.size w8 [.int .i64 d.par, .string d.tag, .string d.id, .slice sp1 d.cls.length c1, .slice sp2 d.att.length c2] d from ⟨sp1, c1, sp2, c2, rfl, P8.out, O8.out⟩)
          have NS8 := Lib.hid (NW8.out.snoc HDK.out IW8.out)
          clear z4 r4 r4f XB8 G8 O7 XN7 XB7 XB6 O6 F6 F7 P8 O8 IW8 NW8 x4' hN hO ATT1
          go_wp2_with (at_builtin; refine wpList_append_src _ rfl (.tmp 78) (.tmp 80) 27 rfl w3.heap.size 25 i25 _ 5 88 Try.underlying27 hc0 hc1 hc2 hc3 rfl (by decide) (.slice so k co) k _ rfl (OW8.out.fr ((Fr.refl (fun _ => False) _).alloc _) (by simp)) (some ⟨_, 0, none⟩) 1 1 [.int .i64 d.par, .string d.tag, .string d.id, .slice sp1 d.cls.length c1, .slice sp2 d.att.length c2] rfl (Src.one (heapNew _ _) rfl) (by simp [Value.oneCell']) (by unfold maxLen; omega) (by omega) (by simp; omega) ?_; intro so9 co9 w9 hown9 hgrow9 _; have O9 := Lib.hid hown9; have G9 := Lib.hid hgrow9; clear hown9 hgrow9)
          have R9 : OwnsWin w9 w3.heap.size 25 5 (.slice so9 (k + 1) co9) (k + 1) (css ++ [([.int .i64 d.par, .string d.tag, .string d.id, .slice sp1 d.cls.length c1, .slice sp2 d.att.length c2] : List Value)]).flatten := by
            rw [List.flatten_append]
            simpa using O9.out
          have N9 := NS8.out.grow OW8.out G9.out
          have F9 := ((hF.out.trans F8.out).alloc _).grown G9.out (fun j e => .inr (OW8.out.lt j e).1)
          go_roundw
          case rel => exact ⟨k + 1, so9, co9, _, by omega, by go_num, rfl, R9, N9, F9⟩
          case measure => simp [intOf]; omega
        · obtain rfl : k = ds.length := by omega
          have i1 : ¬ ((ds.length : Int) < (ds.length : Int)) := by omega
          obtain ⟨hcp1, hcp2⟩ := hO.out.capLe rfl
          have RD := hN.out.rd hO.out (fun k d hd => by obtain ⟨a, b, c, e⟩ := HSM.out k d hd; exact ⟨by omega, by omega, c, e⟩)
          have MU := Lib.hid (Mu.of hN.out hO.out)
          have N4 := Lib.hid (New_any ds so co wo RD hcp1 hcp2)
          clear hN hO RD
          go_wp2_with fail
          refine N4.out.mono ?_
          rintro e w4 ⟨f4, (⟨n, hn, -⟩ | ⟨els', tb, hn, rfl, hT, -, -⟩)⟩
          · rw [HNW.out] at hn; cases hn
          rw [HNW.out] at hn
          cases hn
          have T4 := Lib.hid hT
          have F4 := Lib.hid f4
          have HV := Lib.hid (new_view HNW.out)
          obtain ⟨d, hd⟩ : ∃ d, ds[e0]? = some d := ⟨ds[e0], List.getElem?_eq_getElem hez⟩
          obtain ⟨x, hx⟩ : ∃ x, els[e0]? = some x := ⟨els[e0]'(by rw [HV.out.len]; exact hez), List.getElem?_eq_getElem _⟩
          have hxd : x.nd = d := by
            have := (HV.out.at_ e0 x hx).1
            rw [hd] at this
            exact (Option.some.inj this).symm
          obtain ⟨s1, s2, s3, s4⟩ := HSM.out e0 d hd
          have NODE := Lib.hid (show ∀ w0 W, TS w0 W tb els → Calls Try.prog 15 #[.pointer (some ⟨tb, 0, none⟩), .int .i64 (e0 : Int)] W (NodeP W x) from fun w0 W h => Node_any w0 W tb els h (e0 : Int) x (eltAt_in hx) (by rw [hxd]; omega) (by rw [hxd]; omega))
          unfold NodeP at NODE
          rw [hxd] at NODE
          have N15 := Lib.hid (NODE.out wo w4 hT)
          have HMU4 := Lib.hid (MU.out.fr f4)
          have HDD := Lib.hid hd
          clear hT f4 N4 hx hxd hd MU
          go_upto_region 16 with (go_at_call 15; refine Calls.mono N15.out ?_; rintro e w5 ⟨sw, cw, qw, ow, rfl, o1, o2, f5⟩; have O1 := Lib.hid o1; have O2 := Lib.hid o2; have F5 := Lib.hid f5; clear o1 o2 f5)
          have FA := Lib.hid ((Fr.refl (fun _ => False) w5).alloc (.cells #[.int .i64 d.par, .string (lowS d.tag), .string d.id, .slice sw d.cls.length cw, .slice qw d.att.length ow] 25))
          have WB := Lib.hid (heapNew w5 (.cells #[.int .i64 d.par, .string (lowS d.tag), .string d.id, .slice sw d.cls.length cw, .slice qw d.att.length ow] 25))
          generalize (w5.alloc (.cells #[.int .i64 d.par, .string (lowS d.tag), .string d.id, .slice sw d.cls.length cw, .slice qw d.att.length ow] 25)) = w6 at *
          have F6 := Lib.hid (F5.out.trans FA.out)
          have A23 := Lib.hid (All_any wo w6 tb els ds (T4.out.fr0 F6.out) HV.out (by omega) h0)
          unfold R.NewN at A23
          rw [allN_len HV.out.good h0] at A23
          go_upto_region 17 with (go_at_call 23; refine Calls.mono A23.out ?_; rintro e w7 ⟨sl, cl, rfl, ol, f7⟩; have OL := Lib.hid ol; have F7 := Lib.hid f7; clear ol f7)
          have MU7 := Lib.hid ((HMU4.out.fr F6.out).fr F7.out)
          have hz4 := F4.out.size
          have hz6 := F6.out.size
          have hz5 := F5.out.size
          have T7 := Lib.hid ((T4.out.fr0 F6.out).fr0 F7.out)
          have Q1 := Lib.hid (((O1.out.lower hz4).fr FA.out (by simp)).fr F7.out (by simp))
          have Q2 := Lib.hid (((O2.out.lower hz4).fr FA.out (by simp)).fr F7.out (by simp))
          have QL := Lib.hid (OL.out.lower (Nat.le_trans hz4 hz6))
          have WB7 := Lib.hid (F7.out.heap WB.out (by simp))
          have F37 := Lib.hid (((hF.out.trans F4.out).trans F6.out).trans F7.out)
          have hw37 := F37.out.size
          have hwo3 := hF.out.size
          clear HMU4 T4 O1 O2 OL WB A23 N15 FA
          go_wp2_with fail
          go_loopw [16, 17, 18] (fun i _ _ wr => ∃ k : Nat, k ≤ ds.length ∧ i = .int .i64 k ∧ Hid (Fr (fun j => w3.heap.size ≤ j ∧ j < wo.heap.size) w7 wr) ∧ Hid (Mu wr w3.heap.size wo.heap.size so css ds)) (fun i _ _ _ => ds.length - (intOf i).toNat)
          case atStart => exact ⟨0, Nat.zero_le _, rfl, Fr.refl _ _, MU7.out⟩
          case round =>
            obtain ⟨k, hk, rfl, hG, hM⟩ := hrel
            clear MU7
            obtain ⟨wp, rfl⟩ : ∃ wp : World, wp = wr := ⟨_, rfl⟩
            by_cases hlt : k < ds.length
            · have i1 : (k : Int) < (ds.length : Int) := by omega
              obtain ⟨dk, hdk⟩ : ∃ dk, ds[k]? = some dk := ⟨ds[k], List.getElem?_eq_getElem hlt⟩
              have HDK := Lib.hid hdk
              obtain ⟨g, off, sp, cc, q, o, v0, v1, rfl, hg1, hg2, hcs, x0, x1, x3, x4, hfz, b1, b2, b3, b4, -, -⟩ := hM.out.at_ hdk
              obtain ⟨t1, t2, -, -⟩ := HSM.out k dk hdk
              have HCS := Lib.hid hcs
              unfold maxLen at hcp2
              have y0 := hfz (off + k * 5)
              have M1 := Lib.hid (hM.out.set0 k (.int .i64 7))
              have G1 := Lib.hid (hG.out.setCell (p := ⟨g, off + k * 5, none⟩) (.inl ⟨hg1, hg2⟩) (.int .i64 7))
              clear hdk hcs hfz hM hG x1 x3 x4
              go_upto_region 21 with fail
              generalize wp.setCell ⟨g, off + k * 5, none⟩ (.int .i64 7) = wa at *
              clear x0 y0
              obtain ⟨_, _, _, _, _, _, v0', v1', e, -, -, -, x0, x1, x3, x4, hfz, -, -, -, -, -, -⟩ := M1.out.at_ HDK.out
              cases e
              have y1 := hfz (off + k * 5 + 1)
              have M2 := Lib.hid (M1.out.setN k 1 (by omega) (.string ⟨#[99, 104, 97, 110, 103, 101, 100]⟩))
              have G2 := Lib.hid (G1.out.setCell (p := ⟨g, off + k * 5 + 1, none⟩) (.inl ⟨hg1, hg2⟩) (.string ⟨#[99, 104, 97, 110, 103, 101, 100]⟩))
              clear hfz x0 x3 x4
              go_upto_region 22 with fail
              generalize wa.setCell ⟨g, off + k * 5 + 1, none⟩ (.string ⟨#[99, 104, 97, 110, 103, 101, 100]⟩) = wb at *
              clear x1 y1 M1 G1
              go_wp2_with fail
              go_loopw [17] (fun i wr => ∃ j : Nat, j ≤ dk.cls.length ∧ i = .int .i64 j ∧ Hid (Fr (fun j => w3.heap.size ≤ j ∧ j < wo.heap.size) w7 wr) ∧ Hid (Mu wr w3.heap.size wo.heap.size (some ⟨g, off, none⟩) css ds)) (fun i _ => dk.cls.length - (intOf i).toNat)
              case atStart => exact ⟨0, Nat.zero_le _, rfl, G2.out, M2.out⟩
              case round =>
                obtain ⟨j, hj, rfl, hG, hM⟩ := hrel
                clear G2 M2
                obtain ⟨wq, rfl⟩ : ∃ wq : World, wq = wr := ⟨_, rfl⟩
                obtain ⟨_, _, sp', cc', q', o', v0', v1', e, -, -, hcs2, x0, x1, x3, x4, -, -, -, -, -, hs1, hs2⟩ := hM.out.at_ HDK.out
                cases e
                rw [HCS.out] at hcs2
                cases hcs2
                by_cases hjl : j < dk.cls.length
                · obtain ⟨gs, offs, cur, vs, rfl, hs3, hs4, hs5, s0, sf⟩ := hs1.at j (by omega)
                  have j1 : (j : Int) < (dk.cls.length : Int) := by omega
                  unfold maxLen at b2
                  have M3 := Lib.hid (hM.out.setX hs5 (by decide) (offs + j) (.string ⟨#[99, 104, 97, 110, 103, 101, 100]⟩))
                  have G3 := Lib.hid (hG.out.setCell (p := ⟨gs, offs + j, none⟩) (.inl ⟨hs3, hs4⟩) (.string ⟨#[99, 104, 97, 110, 103, 101, 100]⟩))
                  clear hs1 hs2 hs5 x0 x1 x4 hM hG
                  go_wp2_with fail
                  go_roundw
                  case rel => exact ⟨j + 1, by omega, by go_num, G3.out, M3.out⟩
                  case measure => simp [intOf]; omega
                · obtain rfl : j = dk.cls.length := by omega
                  have j1 : ¬ ((dk.cls.length : Int) < (dk.cls.length : Int)) := by omega
                  have G4 := Lib.hid hG.out
                  have M4 := Lib.hid hM.out
                  clear hs1 hs2 x0 x1 x4 hM hG
                  go_wp2_with fail
                  clear x3
                  go_loopw [18] (fun i wr => ∃ j : Nat, j ≤ dk.att.length ∧ i = .int .i64 j ∧ Hid (Fr (fun j => w3.heap.size ≤ j ∧ j < wo.heap.size) w7 wr) ∧ Hid (Mu wr w3.heap.size wo.heap.size (some ⟨g, off, none⟩) css ds)) (fun i _ => dk.att.length - (intOf i).toNat)
                  case atStart => exact ⟨0, Nat.zero_le _, rfl, G4.out, M4.out⟩
                  case round =>
                    obtain ⟨j, hj, rfl, hG, hM⟩ := hrel
                    clear G4 M4
                    obtain ⟨wx, rfl⟩ : ∃ wx : World, wx = wr := ⟨_, rfl⟩
                    obtain ⟨_, _, sp', cc', q', o', v0', v1', e, -, -, hcs2, x0, x1, x3, x4, -, -, -, -, -, hs1, hs2⟩ := hM.out.at_ HDK.out
                    cases e
                    rw [HCS.out] at hcs2
                    cases hcs2
                    by_cases hjl : j < dk.att.length
                    · obtain ⟨gs, offs, cur, vs, rfl, hs3, hs4, hs5, s0, sf⟩ := hs2.at (j * 2 + 1) (by omega)
                      rw [← Nat.add_assoc] at s0 sf
                      have j1 : (j : Int) < (dk.att.length : Int) := by omega
                      unfold maxLen at b4
                      have M3 := Lib.hid (hM.out.setX hs5 (by decide) (offs + j * 2 + 1) (.string ⟨#[99, 104, 97, 110, 103, 101, 100]⟩))
                      have G3 := Lib.hid (hG.out.setCell (p := ⟨gs, offs + j * 2 + 1, none⟩) (.inl ⟨hs3, hs4⟩) (.string ⟨#[99, 104, 97, 110, 103, 101, 100]⟩))
                      clear hs1 hs2 hs5 x0 x1 x3 hM hG
                      go_wp2_with fail
                      go_roundw
                      case rel => exact ⟨j + 1, by omega, by go_num, G3.out, M3.out⟩
                      case measure => simp [intOf]; omega
                    · obtain rfl : j = dk.att.length := by omega
                      have j1 : ¬ ((dk.att.length : Int) < (dk.att.length : Int)) := by omega
                      have G4 := Lib.hid hG.out
                      have M4 := Lib.hid hM.out
                      clear hs1 hs2 x0 x1 x3 hM hG
                      go_wp2_with fail
                      go_roundw
                      case rel => exact ⟨k + 1, by omega, by go_num, G4.out, M4.out⟩
                      case measure => simp [intOf]; omega
            · obtain rfl : k = ds.length := by omega
              have i2 : ¬ ((ds.length : Int) < (ds.length : Int)) := by omega
              have F38 := Lib.hid (F37.out.step hG.out (fun i e => .inr e.1))
              have T8 := Lib.hid (T7.out.older hG.out (fun k e => e.2) F38.out hwo3)
              have P1 := Lib.hid (Q1.out.fr hG.out (fun j a e => by have := (Q1.out.lt j a).1; omega))
              have P2 := Lib.hid (Q2.out.fr hG.out (fun j a e => by have := (Q2.out.lt j a).1; omega))
              have PL := Lib.hid (QL.out.fr hG.out (fun j a e => by have := (QL.out.lt j a).1; omega))
              have WB8 := Lib.hid (hG.out.heap WB7.out (fun e => by have := e.2; omega))
              have N15 := Lib.hid (NODE.out w3 wp T8.out)
              clear hG hM T7 Q1 Q2 QL WB7 NODE
              go_upto_region 31 with (go_at_call 15; refine Calls.mono N15.out ?_; rintro e w8 ⟨sx, cx, qx, ox, rfl, o1, o2, f8⟩; have O1 := Lib.hid o1; have O2 := Lib.hid o2; have F8 := Lib.hid f8; clear o1 o2 f8)
              have XB := Lib.hid (heapNew w8 (.cells #[.int .i64 d.par, .string (lowS d.tag), .string d.id, .slice sx d.cls.length cx, .slice qx d.att.length ox] 25))
              have FA := Lib.hid ((Fr.refl (fun _ => False) w8).alloc (.cells #[.int .i64 d.par, .string (lowS d.tag), .string d.id, .slice sx d.cls.length cx, .slice qx d.att.length ox] 25))
              generalize (w8.alloc (.cells #[.int .i64 d.par, .string (lowS d.tag), .string d.id, .slice sx d.cls.length cx, .slice qx d.att.length ox] 25)) = w9 at *
              have F9 := Lib.hid (F8.out.trans FA.out)
              have WB9 := Lib.hid (F9.out.heap WB8.out (by simp))
              have SN := Lib.hid (nodes_same w9 d sx sw qx qw cx cw ox ow (RdV.win (O1.out.fr FA.out (by simp))) (RdV.win (P1.out.fr F9.out (by simp))) (RdV.win (O2.out.fr FA.out (by simp))) (RdV.win (P2.out.fr F9.out (by simp))) (by omega) (by omega))
              have a0 := cellOf XB.out 0
              have a1 := cellOf XB.out 1
              have a2 := cellOf XB.out 2
              have a3 := cellOf XB.out 3
              have a4 := cellOf XB.out 4
              have c0 := cellOf WB9.out 0
              have c1 := cellOf WB9.out 1
              have c2 := cellOf WB9.out 2
              have c3 := cellOf WB9.out 3
              have c4 := cellOf WB9.out 4
              simp at a0 a1 a2 a3 a4 c0 c1 c2 c3 c4
              go_upto_region 32 with (go_at_call 24; refine Calls.mono SN.out ?_; rintro e w10 ⟨rfl, f10⟩; have F10 := Lib.hid f10; clear f10)
              have XB10 := Lib.hid (F10.out.heap XB.out (by simp))
              have O10 := Lib.hid ((O1.out.fr FA.out (by simp)).fr F10.out (by simp))
              have FP10 := Lib.hid (F9.out.trans F10.out)
              clear a0 a1 a2 a3 a4 c0 c1 c2 c3 c4 SN O1 O2 P1 P2 WB8 WB9 XB FA N15
              go_wp2_with fail
              go_loopw [21] (fun i wr => ∃ j : Nat, j ≤ d.cls.length ∧ i = .int .i64 j ∧ Hid (Fr (fun _ => False) wp wr) ∧ Hid (∃ xs, OwnsWin wr wp.heap.size 9 1 (.slice sx d.cls.length cx) d.cls.length xs) ∧ Hid (wr.heap[w8.heap.size]? = some (.cells #[.int .i64 d.par, .string (lowS d.tag), .string d.id, .slice sx d.cls.length cx, .slice qx d.att.length ox] 25 (0, 0)))) (fun i _ => d.cls.length - (intOf i).toNat)
              case atStart => exact ⟨0, Nat.zero_le _, rfl, FP10.out, ⟨_, O10.out⟩, XB10.out⟩
              case round =>
                obtain ⟨j, hj, rfl, hG, hO, hX⟩ := hrel
                clear FP10 O10 XB10
                obtain ⟨wq, rfl⟩ : ∃ wq : World, wq = wr := ⟨_, rfl⟩
                have a3 := cellOf hX.out 3
                simp at a3
                by_cases hjl : j < d.cls.length
                · have j1 : (j : Int) < (d.cls.length : Int) := by omega
                  obtain ⟨xs, ho⟩ := hO.out
                  obtain ⟨gx, offx, capx, hv, hx1, hx2, hgl, hgb, hcell, hfz⟩ := ho.cells (by omega)
                  cases hv
                  obtain ⟨u, hu⟩ : ∃ u, xs[j]? = some u := ⟨xs[j]'(by have := ho.1; omega), List.getElem?_eq_getElem _⟩
                  have s0 := hcell j u hu
                  have s1' := hfz (offx + j)
                  have hne := ho.ne hX.out (by intro c; simp)
                  have HS := Lib.hid (ho.set j (.string ⟨#[45]⟩))
                  have HG2 := Lib.hid (hG.out.setCell (p := ⟨gx, offx + j, none⟩) (.inr hgb) (.string ⟨#[45]⟩))
                  have HX2 := Lib.hid ((heapSetOther (w := wq) (b := gx) (offx + j) (.string ⟨#[45]⟩) (fun e => hne (by rw [e]; rfl))).trans hX.out)
                  unfold maxLen at hx2
                  clear ho hcell hfz hu hne hG hO hX
                  go_wp2_with fail
                  go_roundw
                  case rel => exact ⟨j + 1, by omega, by go_num, HG2.out, ⟨_, HS.out⟩, HX2.out⟩
                  case measure => simp [intOf]; omega
                · obtain rfl : j = d.cls.length := by omega
                  have j1 : ¬ ((d.cls.length : Int) < (d.cls.length : Int)) := by omega
                  have GQ := Lib.hid hG.out
                  have C14 := Lib.hid (kidsD w3 wq tb els ds (T8.out.fr0 hG.out) HV.out (by omega) e0 hez)
                  have hkl : (kidA ds e0).length ≤ ds.length := kidN_len ds _ _
                  clear hG hO hX
                  go_wp2_with (go_at_call 14; refine Calls.mono C14.out ?_; rintro e w11 ⟨sc, kc, rfl, oc, f11⟩; have OC := Lib.hid oc; have F11 := Lib.hid (GQ.out.trans f11); have hq11 := GQ.out.size; clear oc f11)
                  clear a3
                  generalize (kidA ds e0).length = m at *
                  go_loopw [23] (fun i wr => ∃ j : Nat, j ≤ m ∧ i = .int .i64 j ∧ Hid (Fr (fun _ => False) wp wr) ∧ Hid (∃ xs, OwnsWin wr wq.heap.size 3 1 (.slice sc m kc) m xs)) (fun i _ => m - (intOf i).toNat)
                  case atStart => exact ⟨0, Nat.zero_le _, rfl, F11.out, ⟨_, OC.out⟩⟩
                  case round =>
                    obtain ⟨j, hj, rfl, hG, hO⟩ := hrel
                    clear F11 OC C14
                    obtain ⟨wx, rfl⟩ : ∃ wx : World, wx = wr := ⟨_, rfl⟩
                    by_cases hjl : j < m
                    · have j1 : (j : Int) < (m : Int) := by omega
                      obtain ⟨xs, ho⟩ := hO.out
                      obtain ⟨gx, offx, capx, hv, hx1, hx2, hgl, hgb, hcell, hfz⟩ := ho.cells (by omega)
                      cases hv
                      obtain ⟨u, hu⟩ : ∃ u, xs[j]? = some u := ⟨xs[j]'(by have := ho.1; omega), List.getElem?_eq_getElem _⟩
                      have s0 := hcell j u hu
                      have s1' := hfz (offx + j)
                      have HS := Lib.hid (ho.set j (.int .i64 (-9)))
                      have HG2 := Lib.hid (hG.out.setCell (p := ⟨gx, offx + j, none⟩) (.inr (Nat.le_trans hq11 hgb)) (.int .i64 (-9)))
                      unfold maxLen at hx2
                      clear ho hcell hfz hu hG hO
                      go_wp2_with fail
                      go_roundw
                      case rel => exact ⟨j + 1, by omega, by go_num, HG2.out, ⟨_, HS.out⟩⟩
                      case measure => simp [intOf]; omega
                    · obtain rfl : j = m := by omega
                      have j1 : ¬ ((j : Int) < (j : Int)) := by omega
                      have F12 := Lib.hid (F3.out.trans (F38.out.trans hG.out))
                      have T12 := Lib.hid (T8.out.fr0 hG.out)
                      have PL12 := Lib.hid (RdI.newN (by have hh := PL.out.fr hG.out (by simp); rw [← allN_len HV.out.good h0] at hh; exact hh))
                      have hAL : ((allN ds).map fun (j : Nat) => (j : Int)).length = ds.length := by rw [List.length_map]; exact allN_len HV.out.good h0
                      have RN := Lib.hid (R.RTree_any ds p c wx (HN.out.fr F12.out) hlc hcm)
                      clear hG hO T8 PL F38
                      go_wp2_with fail
                      refine RN.out.mono ?_
                      rintro e w13 ⟨q13, rfl, hr13, -, f13⟩
                      obtain ⟨tr, rfl, hTR⟩ := hr13 HER.out
                      obtain ⟨spN, cN, spD, cD, hRV⟩ := hTR.view
                      rw [HER.out]
                      have F13 := Lib.hid (F12.out.trans f13)
                      have A23 := Lib.hid (fun W (f : Fr (fun _ => False) w13 W) => all23 w3 w13 W tb ds els (T12.out.fr0 f13) HV.out (by omega) f)
                      have PL13 := Lib.hid (PL12.out.fr0 f13)
                      obtain ⟨dv, hdv⟩ : ∃ dv, (R.dps ds ds.length)[e0]? = some dv := ⟨_, List.getElem?_eq_getElem (by rw [R.dps_len]; exact hez)⟩
                      have HB := Lib.hid (both_in w3 w13 tb tr ds els (T12.out.fr0 f13) hRV HV.out (by omega) e0 d HDD.out (by omega) (by omega) dv hdv)
                      have S26 := Lib.hid (fun W p1 c1 p2 c2 (h1 : RdI W p1 ((allN ds).map fun (j : Nat) => (j : Int))) (h2 : RdI W p2 ((allN ds).map fun (j : Nat) => (j : Int))) => by
                        have := sameInts_any p1 p2 c1 c2 _ W h1 h2 (by omega)
                        rw [hAL] at this
                        exact this)
                      unfold AllP at A23
                      rw [hAL] at A23
                      have GG := Lib.hid (Fr.refl (fun _ => False) w13)
                      clear hTR hRV hr13 f13 T12 PL12 F12 RN hAL hdv
                      generalize (allN ds).map (fun (j : Nat) => (j : Int)) = AL at *
                      generalize kidL ds (e0 : Int) ds.length = KL at *
                      go_wp2_with (first
                        | (go_at_call 15; refine Calls.mono (HB.out.n15 _ GG.out) ?_; rintro e wa ⟨g1, k1, t1, j1, rfl, a1, a2, fa⟩; have A1 := Lib.hid (RdV.win a1); have A2 := Lib.hid (RdV.win a2); have GG := Lib.hid (GG.out.trans fa); clear fa a1 a2)
                        | (go_at_call 25; refine Calls.mono (HB.out.n25 _ GG.out) ?_; rintro e wb ⟨g2, k2, t2, j2, rfl, a1, a2, fa⟩; have A1 := Lib.hid (A1.out.fr fa); have A2 := Lib.hid (A2.out.fr fa); have B1 := Lib.hid (RdV.win a1); have B2 := Lib.hid (RdV.win a2); have GG := Lib.hid (GG.out.trans fa); clear fa a1 a2)
                        | (go_at_call 24; refine Calls.mono (nodes_same _ _ _ _ _ _ _ _ _ _ A1.out B1.out A2.out B2.out HB.out.sc HB.out.sa) ?_; rintro e wc ⟨rfl, fa⟩; have GG := Lib.hid (GG.out.trans fa); clear fa A1 A2 B1 B2)
                        | (go_at_call 14; refine Calls.mono (HB.out.c14 _ GG.out) ?_; rintro e wd ⟨g3, k3, rfl, a1, fa⟩; have C1 := Lib.hid (RdI.newL a1); have GG := Lib.hid (GG.out.trans fa); clear fa a1)
                        | (go_at_call 27; refine Calls.mono (HB.out.c27 _ GG.out) ?_; rintro e we ⟨g4, k4, rfl, a1, fa⟩; have C1 := Lib.hid (C1.out.fr0 fa); have C2 := Lib.hid (RdI.newL a1); have GG := Lib.hid (GG.out.trans fa); clear fa a1)
                        | (go_at_call 26; ((with_reducible refine Calls.mono (sameInts_any _ _ _ _ _ _ C1.out C2.out HB.out.sk) ?_)); rintro e wf ⟨rfl, fa⟩; have GG := Lib.hid (GG.out.trans fa); clear fa C1 C2)
                        | (go_at_call 23; refine Calls.mono (A23.out _ GG.out) ?_; rintro e wg ⟨g5, k5, rfl, a1, fa⟩; have D1 := Lib.hid a1; have GG := Lib.hid (GG.out.trans fa); clear fa a1)
                        | (go_at_call 26; ((with_reducible refine Calls.mono (S26.out _ _ _ _ _ D1.out (PL13.out.fr0 GG.out)) ?_)); rintro e wh ⟨rfl, fa⟩; have GG := Lib.hid (GG.out.trans fa); clear fa D1))
                      go_ret
                      exact ⟨rfl, F13.out.trans GG.out⟩
    · have hne : (R.errN ds != 0) = true := by simpa using he
      go_wp2_with fail
      go_ret
      exact ⟨rfl, F3.out⟩

theorem domKeeps_walk (v : Value) (ds : List NodeD) (z : Int) (w : World) (h : IsNodes w v ds) (_hz : (Lit.int .i64 z).wf = true) : Calls Try.prog 7 #[v, .int .i64 z] w fun e w' => e = .returned (.bool true) ∧ Below w.heap.size w w' := by
  obtain ⟨p, c, rfl, h1, h2, h3, h4⟩ := h
  exact (keeps_any ds p c z w h3 h4 h1 h2).mono fun _ _ h => ⟨h.1, h.2.below (Nat.le_refl _) (by simp)⟩
end Go.Proofs.Ytdbhcogafhhlnaa
