/- The reference's New: the walk. As gen's seat has it. -/
import Derived.Test.YtdbhcogafhhlnaaRTree
import Derived.BigQuiet
import Derived.Deep.QuietTactic
import Derived.Deep.Cut
import Derived.Deep.CutRange
namespace Go.Proofs.Ytdbhcogafhhlnaa.R
open Go.RowKit Go.Maps Go.ChangeShapes Go.WideShapes Go.ChangeAt Go.WideMaps Go.WideElems

def TreeP (w : World) (ds : List NodeD) (e : Ending) (w' : World) : Prop :=
  ∃ q, e = .returned (.tuple #[.pointer q, .int .i64 (errN ds)]) ∧ (errN ds = 0 → ∃ tb, q = some ⟨tb, 0, none⟩ ∧ TS w w' tb ds ds.length ds.length) ∧ (errN ds ≠ 0 → q = none) ∧ Fr (fun _ => False) w w'

theorem TreeP.no {w w' : World} {ds : List NodeD} (v : Int) (hv : errN ds = v) (h0 : v ≠ 0) (f : Fr (fun _ => False) w w') : TreeP w ds (.returned (.tuple #[.pointer none, .int .i64 v])) w' :=
  ⟨none, by rw [hv], fun h => absurd (hv ▸ h) h0, fun _ => rfl, f⟩
theorem TreeP.yes {w w' : World} {ds : List NodeD} {tb : Nat} (hv : errN ds = 0) (h : TS w w' tb ds ds.length ds.length) : TreeP w ds (.returned (.tuple #[.pointer (some ⟨tb, 0, none⟩), .int .i64 0])) w' :=
  ⟨some ⟨tb, 0, none⟩, by rw [hv], fun _ => ⟨tb, rfl, h⟩, fun h0 => absurd hv h0, h.fr⟩

theorem dps_bd_snoc {ds : List NodeD} {k : Nat} (h : ∀ x ∈ dps ds k, 0 ≤ x ∧ x ≤ 256) (h1 : 0 ≤ dpAt ds k) (h2 : dpAt ds k ≤ 256) : ∀ x ∈ dps ds (k + 1), 0 ≤ x ∧ x ≤ 256 := by
  intro x hx
  rw [dps_succ, List.mem_append] at hx
  rcases hx with hx | hx
  · exact h x hx
  · simp at hx
    subst hx
    exact ⟨h1, h2⟩
theorem dpAt_nn {ds : List NodeD} {k : Nat} (h : ∀ x ∈ dps ds k, 0 ≤ x ∧ x ≤ 256) : 0 ≤ dpAt ds k ∧ dpAt ds k ≤ 257 := by
  unfold dpAt
  split
  · omega
  · rw [List.getD_eq_getElem?_getD]
    cases hx : (dps ds k)[((ds[k]?.map NodeD.par).getD 0).toNat]? with
    | none => simp
    | some v => have := h v (List.mem_of_getElem? hx); simp; omega

set_option maxHeartbeats 8000000 in
set_option maxRecDepth 100000 in
theorem RTree_any (ds : List NodeD) (p : Option Addr) (c : Nat) (w : World) (h : RdNs w p ds) (hlc : ds.length ≤ c) (hcm : c ≤ maxLen) :
    Calls Try.prog 20 #[.slice p ds.length c] w (TreeP w ds) := by
  have H := Lib.hid h
  have hcm' := hcm
  have hlc' := hlc
  unfold maxLen at hcm'
  clear h
  by_cases hlong : 4096 < ds.length
  · have d1 : decide ((4096 : Int) < (ds.length : Int)) = true := by simp; omega
    have HE := Lib.hid (show errN ds = 3 by unfold errN; rw [if_pos hlong])
    go_enter Try.func20, Try.ntmps20
    go_wp2_with fail
    go_ret2
    exact TreeP.no 3 HE.out (by decide) (Fr.refl _ _)
  have d1 : decide ((4096 : Int) < (ds.length : Int)) = false := by simp; omega
  have HE := Lib.hid (show errN ds = errFrom ds ds.length 0 by unfold errN; rw [if_neg hlong])
  have HP := Lib.hid (show ∀ e w', TreeP w ds e w' ↔ TreeP w ds e w' from fun _ _ => Iff.rfl)
  have T0 := Lib.hid (TS.new w ds)
  go_enter Try.func20, Try.ntmps20
  go_wp2_with fail
  go_loopw [5] (fun i wr => ∃ k : Nat, k ≤ ds.length ∧ i = .int .i64 k ∧ Hid (TS w wr w.heap.size ds k k) ∧ Hid (∀ x ∈ dps ds k, 0 ≤ x ∧ x ≤ 256) ∧ Hid (errFrom ds (ds.length - k) k = errN ds)) (fun i _ => ds.length - (intOf i).toNat)
  case atStart => exact ⟨0, Nat.zero_le _, rfl, T0.out, fun x hx => by simp [dps] at hx, by rw [HE.out]; rfl⟩
  case round =>
    obtain ⟨k, hk, rfl, hT, hB, hF⟩ := hrel
    clear T0
    obtain ⟨wo, rfl⟩ : ∃ wo : World, wo = wr := ⟨_, rfl⟩
    by_cases hlt : k < ds.length
    · obtain ⟨d, hd⟩ : ∃ d, ds[k]? = some d := ⟨ds[k], by simp [hlt]⟩
      have hnode := H.out.fr hT.out.fr k d hd
      obtain ⟨b, off, sp, cc, q, o, rfl, hb, x0, x1, x2, x3, x4, rC, rA, hsp, hn1, hn2, ho1, ho2, hts, has⟩ := hnode
      have RC := Lib.hid rC
      have RA := Lib.hid rA
      have HSPN := Lib.hid hsp
      have HAS := Lib.hid has
      have HD := Lib.hid hd
      have HPar := Lib.hid (show (ds[k]?.map NodeD.par).getD 0 = d.par by rw [hd]; rfl)
      have HFs := Lib.hid (show ds.length - k = (ds.length - (k + 1)) + 1 by omega)
      clear rC rA hsp has hd
      have i1 : (k : Int) < (ds.length : Int) := by omega
      by_cases hbad : badP k d.par
      · have HS := Lib.hid (show stepE ds k = 10 by unfold stepE; rw [HPar.out, if_pos hbad])
        have HR := Lib.hid (show errN ds = 10 by rw [← hF.out, HFs.out, errFrom_stop _ _ _ (by rw [HS.out]; decide), HS.out])
        generalize d.par = par at *
        unfold badP at hbad
        rcases hbad with ⟨h0, h1⟩ | ⟨h0, h1⟩
        · have q0 : ((k : Int) == 0) = true := by simp [h0]
          have q1 : (par != -1) = true := by simpa using h1
          clear h0
          go_wp2_with fail
          go_ret2
          exact TreeP.no 10 HR.out (by decide) hT.out.fr
        · have q0 : ((k : Int) == 0) = false := by rw [beq_eq_false_iff_ne]; omega
          have q1 : decide ((0 : Int) < (k : Int)) = true := by simp; omega
          have q1' : (0 : Int) < (k : Int) := by omega
          by_cases h2 : par < 0
          · have q3 : decide (par < 0) = true := by simpa using h2
            go_wp2_with fail
            go_ret2
            exact TreeP.no 10 HR.out (by decide) hT.out.fr
          · have q3 : decide (par < 0) = false := by simp; omega
            have q4 : decide ((k : Int) ≤ par) = true := by simp; omega
            go_wp2_with fail
            go_ret2
            exact TreeP.no 10 HR.out (by decide) hT.out.fr
      · obtain ⟨spN, cN, spD, cD, xs, hblk, hN, hNL, hD⟩ := hT.out.body
        have HBK := Lib.hid hbad
        have HDA := Lib.hid (dpAt_nn hB.out)
        unfold badP at hbad
        have b0 := cellOf hblk 0
        have b1 := cellOf hblk 1
        have z0 := frozenOf hblk 0
        have z1 := frozenOf hblk 1
        simp at b0 b1
        have HBLK := Lib.hid hblk
        have HN := Lib.hid hN
        have HNL := Lib.hid hNL
        have HDD := Lib.hid hD
        clear hblk hN hNL hD
        obtain ⟨par, hpar⟩ : ∃ par, par = d.par := ⟨_, rfl⟩
        rw [← hpar] at x0 hbad HPar
        have HPR := Lib.hid hpar
        clear hpar
        have htwo : k = 0 ∧ par = -1 ∨ 0 < k ∧ 0 ≤ par ∧ par < k := by omega
        rcases htwo with ⟨h0, h1⟩ | ⟨h0, h1, h2⟩
        · have q0 : ((k : Int) == 0) = true := by simp [h0]
          have q1 : (par != -1) = false := by simp [h1]
          have q2 : decide ((0 : Int) < (k : Int)) = false := by simp [h0]
          have q3 : ¬ (0 : Int) < (k : Int) := by omega
          have HV := Lib.hid (show (0 : Int) = dpAt ds k by unfold dpAt; rw [if_pos h0])
          clear h0 h1 hbad
          go_wp2_with fail
          have HS := Lib.hid (show stepE ds k = 0 by unfold stepE; rw [HPar.out, if_neg (by rw [HPR.out]; exact HBK.out), if_neg (by rw [← HV.out]; omega)])
          have HF2 := Lib.hid (show errFrom ds (ds.length - (k + 1)) (k + 1) = errN ds by rw [← errFrom_skip _ _ _ HS.out, ← HFs.out]; exact hF.out)
          have HB2 := Lib.hid (dps_bd_snoc hB.out HDA.out.1 (by rw [← HV.out]; omega))
          have PL := Lib.hid (lowered_any par d.tag d.id d.cls d.att sp cc q o wo.drew (RC.out.fr (Fr.refl _ wo).drew) (RA.out.fr (Fr.refl _ wo).drew) HSPN.out hn1 hn2 ho1 ho2 hts HAS.out)
          have HCS := Lib.hid (show ∀ w6 sp1 c1 sp2 c2, OwnsWin w6 wo.drew.heap.size 9 1 (.slice sp1 d.cls.length c1) d.cls.length (d.cls.map Value.string) → OwnsWin w6 wo.drew.heap.size 38 2 (.slice sp2 d.att.length c2) d.att.length (attL (lowA d.att)) → IsLo w.heap.size w6 [.int .i64 par, .string (lowS d.tag), .string d.id, .slice sp1 d.cls.length c1, .slice sp2 d.att.length c2] d from fun w6 sp1 c1 sp2 c2 a1 a2 => ⟨sp1, c1, sp2, c2, by rw [HPR.out], a1.lower hT.out.fr.size, a2.lower hT.out.fr.size⟩)
          have n2 := HN.out.ne HBLK.out (by intro c; simp)
          obtain ⟨i25, ha0, ha1, ha2, ha3⟩ := info_parts info25t
          obtain ⟨i27, hb0, hb1, hb2, hb3⟩ := info_parts info3
          generalize lowS d.tag = ltag at *
          go_region_law (first
            | (go_simp; go_at_call 37; refine Calls.mono PL.out ?_; rintro e w6 ⟨⟨sp1, c1, sp2, c2, rfl, o1, o2⟩, f6⟩; have F6 := Lib.hid ((Fr.refl (fun _ => False) wo).drew.trans f6); have O1 := Lib.hid (HCS.out _ _ _ _ _ o1 o2); have e0 := cellOf (F6.out.heap HBLK.out (by simp)) 0; have e0a := cellOf (heapAlloc (o' := .cells #[.int .i64 par, .string ltag, .string d.id, .slice sp1 d.cls.length c1, .slice sp2 d.att.length c2] 25) (F6.out.heap HBLK.out (by simp))) 0; simp at e0 e0a; clear f6 o1 o2)
            | (refine step_append_src rfl (.tmp 59) (.tmp 65) 27 rfl w.heap.size 25 i25 _ 5 88 Try.underlying27 ha0 ha1 ha2 ha3 rfl (by omega) (.slice spN k cN) k xs rfl ((HN.out.fr F6.out (by simp)).fr ((Fr.refl (fun _ => False) w6).alloc _) (by simp)) (some ⟨w6.heap.size, 0, none⟩) 1 1 [.int .i64 par, .string ltag, .string d.id, .slice sp1 d.cls.length c1, .slice sp2 d.att.length c2] rfl (Src.one (heapNew _ _) rfl) (by simp [Value.oneCell']) (by unfold maxLen; omega) (by omega) (by have := F6.out.size; have := hT.out.fr.size; simp; omega) ?_; intro sp7 c7 w7 hown7 hgrow7 _; have hb7 := heapGrown hgrow7 (heapAlloc (F6.out.heap HBLK.out (by simp))) n2; have g0 := cellOf hb7 0; have g1 := frozenOf hb7 0; simp at g0; have T8 := Lib.hid (TS.addN hT.out.fr hT.out.ht HBLK.out HN.out HNL.out HDD.out HD.out F6.out O1.out hown7 hgrow7); clear hown7 hgrow7 hb7))
          all_goals
            clear PL HCS b0 b1 z0 z1
            generalize w7.setCell ⟨w.heap.size, 0, none⟩ (.slice sp7 (k + 1) c7) = w8 at *
            obtain ⟨spN8, cN8, spD8, cD8, xs8, hblk8, hN8, hNL8, hD8⟩ := T8.out.body
            have b0 := cellOf hblk8 0
            have b1 := cellOf hblk8 1
            simp at b0 b1
            have n3 := hD8.ne hblk8 (by intro c; simp)
            have HBLK8 := Lib.hid hblk8
            have HN8 := Lib.hid hN8
            have HNL8 := Lib.hid hNL8
            have HD8 := Lib.hid hD8
            clear hblk8 hN8 hNL8 hD8
            go_wp2_with (at_builtin; refine wpList_append_src _ rfl (.tmp 73) (.tmp 75) 34 rfl w.heap.size 3 i27 _ 1 8 Try.underlying34 hb0 hb1 hb2 hb3 rfl (by omega) (.slice spD8 k cD8) k _ rfl (HD8.out.fr ((Fr.refl (fun _ => False) w8).alloc _) (by simp)) (some ⟨w8.heap.size, 0, none⟩) 1 1 [.int .i64 (0)] rfl (Src.one (heapNew _ _) rfl) (by simp [Value.oneCell']) (by unfold maxLen; omega) (by omega) (by have := T8.out.fr.size; simp; omega) ?_; intro sp9 c9 w9 hown9 hgrow9 _; have hb9 := heapGrown hgrow9 (heapAlloc HBLK8.out) n3; have k0 := cellOf hb9 1; have k1 := frozenOf hb9 1; simp at k0; have T10 := Lib.hid (TS.addD T8.out.fr T8.out.ht HBLK8.out HN8.out HNL8.out HD8.out HV.out hown9 hgrow9); clear hown9 hgrow9 hb9)
            go_roundw
            case rel => exact ⟨k + 1, by omega, by go_num, T10.out, HB2.out, HF2.out⟩
            case measure => simp [intOf]; omega
        · have q0 : ((k : Int) == 0) = false := by rw [beq_eq_false_iff_ne]; omega
          have q2 : decide ((0 : Int) < (k : Int)) = true := by simp; omega
          have q3 : (0 : Int) < (k : Int) := by omega
          obtain ⟨pn, rfl⟩ := Int.eq_ofNat_of_zero_le h1
          have q4 : decide ((pn : Int) < 0) = false := by simp
          have q5 : decide ((k : Int) ≤ (pn : Int)) = false := by simp; omega
          obtain ⟨g, off2, cap, hv, hcap1, hcap2, hg, hwg, hcell, _⟩ := HDD.out.cells h0
          cases hv
          have hpl : pn < (dps ds k).length := by rw [dps_len]; omega
          have y0 := hcell pn (.int .i64 (dps ds k)[pn]) (by rw [List.getElem?_map, List.getElem?_eq_getElem hpl]; rfl)
          have HV := Lib.hid (show (dps ds k)[pn] + 1 = dpAt ds k by unfold dpAt; rw [if_neg (by omega), HPar.out, List.getD_eq_getElem?_getD, Int.toNat_natCast, List.getElem?_eq_getElem hpl]; rfl)
          obtain ⟨v0, v1⟩ := hB.out _ (List.getElem_mem hpl)
          generalize (dps ds k)[pn] = dv at *
          have q6 : (pn : Int) < (k : Int) := by omega
          clear hcell hpl hbad
          by_cases hdeep : 256 < dv + 1
          · have d9 : decide (256 < dv + 1) = true := by simpa using hdeep
            have HS := Lib.hid (show stepE ds k = 11 by unfold stepE; rw [HPar.out, if_neg (by rw [HPR.out]; exact HBK.out), if_pos (by rw [← HV.out]; exact hdeep)])
            have HR := Lib.hid (show errN ds = 11 by rw [← hF.out, HFs.out, errFrom_stop _ _ _ (by rw [HS.out]; decide), HS.out])
            go_wp2_with fail
            go_ret2
            exact TreeP.no 11 HR.out (by decide) hT.out.fr
          · have d9 : decide (256 < dv + 1) = false := by simp; omega
            go_wp2_with fail
            have HS := Lib.hid (show stepE ds k = 0 by unfold stepE; rw [HPar.out, if_neg (by rw [HPR.out]; exact HBK.out), if_neg (by rw [← HV.out]; omega)])
            have HF2 := Lib.hid (show errFrom ds (ds.length - (k + 1)) (k + 1) = errN ds by rw [← errFrom_skip _ _ _ HS.out, ← HFs.out]; exact hF.out)
            have HB2 := Lib.hid (dps_bd_snoc hB.out HDA.out.1 (by rw [← HV.out]; omega))
            have PL := Lib.hid (lowered_any pn d.tag d.id d.cls d.att sp cc q o wo.drew (RC.out.fr (Fr.refl _ wo).drew) (RA.out.fr (Fr.refl _ wo).drew) HSPN.out hn1 hn2 ho1 ho2 hts HAS.out)
            have HCS := Lib.hid (show ∀ w6 sp1 c1 sp2 c2, OwnsWin w6 wo.drew.heap.size 9 1 (.slice sp1 d.cls.length c1) d.cls.length (d.cls.map Value.string) → OwnsWin w6 wo.drew.heap.size 38 2 (.slice sp2 d.att.length c2) d.att.length (attL (lowA d.att)) → IsLo w.heap.size w6 [.int .i64 pn, .string (lowS d.tag), .string d.id, .slice sp1 d.cls.length c1, .slice sp2 d.att.length c2] d from fun w6 sp1 c1 sp2 c2 a1 a2 => ⟨sp1, c1, sp2, c2, by rw [HPR.out], a1.lower hT.out.fr.size, a2.lower hT.out.fr.size⟩)
            have n2 := HN.out.ne HBLK.out (by intro c; simp)
            obtain ⟨i25, ha0, ha1, ha2, ha3⟩ := info_parts info25t
            obtain ⟨i27, hb0, hb1, hb2, hb3⟩ := info_parts info3
            generalize lowS d.tag = ltag at *
            go_region_law (first
              | (go_simp; go_at_call 37; refine Calls.mono PL.out ?_; rintro e w6 ⟨⟨sp1, c1, sp2, c2, rfl, o1, o2⟩, f6⟩; have F6 := Lib.hid ((Fr.refl (fun _ => False) wo).drew.trans f6); have O1 := Lib.hid (HCS.out _ _ _ _ _ o1 o2); have e0 := cellOf (F6.out.heap HBLK.out (by simp)) 0; have e0a := cellOf (heapAlloc (o' := .cells #[.int .i64 pn, .string ltag, .string d.id, .slice sp1 d.cls.length c1, .slice sp2 d.att.length c2] 25) (F6.out.heap HBLK.out (by simp))) 0; simp at e0 e0a; clear f6 o1 o2)
              | (refine step_append_src rfl (.tmp 59) (.tmp 65) 27 rfl w.heap.size 25 i25 _ 5 88 Try.underlying27 ha0 ha1 ha2 ha3 rfl (by omega) (.slice spN k cN) k xs rfl ((HN.out.fr F6.out (by simp)).fr ((Fr.refl (fun _ => False) w6).alloc _) (by simp)) (some ⟨w6.heap.size, 0, none⟩) 1 1 [.int .i64 pn, .string ltag, .string d.id, .slice sp1 d.cls.length c1, .slice sp2 d.att.length c2] rfl (Src.one (heapNew _ _) rfl) (by simp [Value.oneCell']) (by unfold maxLen; omega) (by omega) (by have := F6.out.size; have := hT.out.fr.size; simp; omega) ?_; intro sp7 c7 w7 hown7 hgrow7 _; have hb7 := heapGrown hgrow7 (heapAlloc (F6.out.heap HBLK.out (by simp))) n2; have g0 := cellOf hb7 0; have g1 := frozenOf hb7 0; simp at g0; have T8 := Lib.hid (TS.addN hT.out.fr hT.out.ht HBLK.out HN.out HNL.out HDD.out HD.out F6.out O1.out hown7 hgrow7); clear hown7 hgrow7 hb7))
            all_goals
              clear PL HCS b0 b1 z0 z1
              generalize w7.setCell ⟨w.heap.size, 0, none⟩ (.slice sp7 (k + 1) c7) = w8 at *
              obtain ⟨spN8, cN8, spD8, cD8, xs8, hblk8, hN8, hNL8, hD8⟩ := T8.out.body
              have b0 := cellOf hblk8 0
              have b1 := cellOf hblk8 1
              simp at b0 b1
              have n3 := hD8.ne hblk8 (by intro c; simp)
              have HBLK8 := Lib.hid hblk8
              have HN8 := Lib.hid hN8
              have HNL8 := Lib.hid hNL8
              have HD8 := Lib.hid hD8
              clear hblk8 hN8 hNL8 hD8
              go_wp2_with (at_builtin; refine wpList_append_src _ rfl (.tmp 73) (.tmp 75) 34 rfl w.heap.size 3 i27 _ 1 8 Try.underlying34 hb0 hb1 hb2 hb3 rfl (by omega) (.slice spD8 k cD8) k _ rfl (HD8.out.fr ((Fr.refl (fun _ => False) w8).alloc _) (by simp)) (some ⟨w8.heap.size, 0, none⟩) 1 1 [.int .i64 (dv + 1)] rfl (Src.one (heapNew _ _) rfl) (by simp [Value.oneCell']) (by unfold maxLen; omega) (by omega) (by have := T8.out.fr.size; simp; omega) ?_; intro sp9 c9 w9 hown9 hgrow9 _; have hb9 := heapGrown hgrow9 (heapAlloc HBLK8.out) n3; have k0 := cellOf hb9 1; have k1 := frozenOf hb9 1; simp at k0; have T10 := Lib.hid (TS.addD T8.out.fr T8.out.ht HBLK8.out HN8.out HNL8.out HD8.out HV.out hown9 hgrow9); clear hown9 hgrow9 hb9)
              go_roundw
              case rel => exact ⟨k + 1, by omega, by go_num, T10.out, HB2.out, HF2.out⟩
              case measure => simp [intOf]; omega
    · have hke : k = ds.length := by omega
      subst hke
      have HR := Lib.hid (show errN ds = 0 by rw [← hF.out, Nat.sub_self]; rfl)
      go_wp2_with fail
      go_ret2
      exact TreeP.yes HR.out hT.out
end Go.Proofs.Ytdbhcogafhhlnaa.R
