/- DomTells: the walk. -/
import Derived.Test.YtdbhcogafhhlnaaDBoth
import Derived.Test.YtdbhcogafhhlnaaDNds
import Derived.Test.YtdbhcogafhhlnaaFrQ
import Derived.IntWalk
namespace Go.Proofs.Ytdbhcogafhhlnaa
open Go.RowKit Go.Maps Go.ChangeShapes Go.WideShapes Go.ChangeAt Go.WideMaps Go.WideElems

theorem RdI.newL {w' : World} {B c : Nat} {sp : Option Addr} {l : List Int} (h : OwnsWin w' B 3 1 (.slice sp l.length c) l.length (l.map (Value.int .i64))) : RdI w' sp l := RdI.win h
theorem RdI.newN {w' : World} {B c : Nat} {sp : Option Addr} {l : List Nat} (h : OwnsWin w' B 3 1 (.slice sp l.length c) l.length (R.iR l)) : RdI w' sp (l.map fun (j : Nat) => (j : Int)) := by
  have : OwnsWin w' B 3 1 (.slice sp (l.map fun (j : Nat) => (j : Int)).length c) (l.map fun (j : Nat) => (j : Int)).length ((l.map fun (j : Nat) => (j : Int)).map (Value.int .i64)) := by
    rw [List.length_map, List.map_map]; exact h
  exact RdI.win this
theorem RdI.fr0 {w w' : World} {p : Option Addr} {l : List Int} (h : RdI w p l) (f : Fr (fun _ => False) w w') : RdI w' p l := h.fr f (by simp)

/-- All, of a tree without elements. -/
theorem All_nil (w0 w : World) (tb : Nat) (els : List ElD) (hT : TS w0 w tb els) (hl : els.length = 0) : Calls Try.prog 23 #[.pointer (some ⟨tb, 0, none⟩)] w fun e w' => e = .returned (.slice none 0 0) ∧ Fr (fun _ => False) w w' := by
  obtain ⟨spT, cT, css, hblk, -, -⟩ := hT.body
  have t0 := cellOf hblk 0
  simp at t0
  have q0 : ((els.length : Int) == 0) = true := by simp [hl]
  clear hblk hT
  go_enter Try.func23, Try.ntmps23
  go_wp2
  go_ret
  exact ⟨rfl, Fr.refl _ _⟩
theorem RAll_nil (w : World) (tb : Nat) (ds : List NodeD) {spN spD : Option Addr} {cN cD : Nat} (h : R.RV w tb ds spN cN spD cD) (hl : ds.length = 0) : Calls Try.prog 28 #[.pointer (some ⟨tb, 0, none⟩)] w fun e w' => e = .returned (.slice none 0 0) ∧ Fr (fun _ => False) w w' := by
  have t0 := h.c0
  have q0 : ((ds.length : Int) == 0) = true := by simp [hl]
  clear h
  go_enter Try.func28, Try.ntmps28
  go_wp2
  go_ret
  exact ⟨rfl, Fr.refl _ _⟩

def AllP (W : World) (l : List Int) (e : Ending) (w' : World) : Prop := ∃ sp c, e = .returned (.slice sp l.length c) ∧ RdI w' sp l ∧ Fr (fun _ => False) W w'
theorem all23 (w0 wp W : World) (tb : Nat) (ds : List NodeD) (els : List ElD) (hT : TS w0 wp tb els) (hv : VE ds ds.length els) (hb : ds.length ≤ 100000) (f : Fr (fun _ => False) wp W) :
    Calls Try.prog 23 #[.pointer (some ⟨tb, 0, none⟩)] W (AllP W ((allN ds).map fun (j : Nat) => (j : Int))) := by
  rcases Nat.eq_zero_or_pos ds.length with h0 | h0
  · refine (All_nil w0 W tb els (hT.fr0 f) (by rw [hv.len]; exact h0)).mono fun _ _ ⟨he, hf⟩ => ?_
    have : allN ds = [] := by unfold allN; rw [h0]; rfl
    rw [this]
    exact ⟨none, 0, he, fun k x hk => by simp at hk, hf⟩
  · refine (All_any w0 W tb els ds (hT.fr0 f) hv hb h0).mono fun _ _ ⟨sp, c, he, ho, hf⟩ => ⟨sp, c, by rw [List.length_map]; exact he, RdI.newN ho, hf⟩
theorem all28 (wp W : World) (tb : Nat) (ds : List NodeD) {spN spD : Option Addr} {cN cD : Nat} (h : R.RV wp tb ds spN cN spD cD) (hg : Good ds ds.length) (hb : ds.length ≤ 100000) (f : Fr (fun _ => False) wp W) :
    Calls Try.prog 28 #[.pointer (some ⟨tb, 0, none⟩)] W (AllP W ((allN ds).map fun (j : Nat) => (j : Int))) := by
  rcases Nat.eq_zero_or_pos ds.length with h0 | h0
  · refine (RAll_nil W tb ds (h.fr f) h0).mono fun _ _ ⟨he, hf⟩ => ?_
    have : allN ds = [] := by unfold allN; rw [h0]; rfl
    rw [this]
    exact ⟨none, 0, he, fun k x hk => by simp at hk, hf⟩
  · refine (R.All_any W tb ds (h.fr f) hg hb h0).mono fun _ _ ⟨sp, c, he, ho, hf⟩ => ⟨sp, c, he, RdI.newL ho, hf⟩
theorem allN_le {ds : List NodeD} (hg : Good ds ds.length) : (allN ds).length ≤ ds.length := by
  rcases Nat.eq_zero_or_pos ds.length with h0 | h0
  · unfold allN; rw [h0]; exact Nat.le_refl _
  · exact Nat.le_of_eq (allN_len hg h0)

set_option maxHeartbeats 4000000 in
set_option maxRecDepth 100000 in
theorem tells_any (ds : List NodeD) (p : Option Addr) (c : Nat) (z : Int) (w : World) (h : RdNs w p ds) (hcap : RdCap w p ds) (hlc : ds.length ≤ c) (hcm : c ≤ maxLen) :
    Calls Try.prog 9 #[.slice p ds.length c, .int .i64 z] w fun e w' => e = .returned (.bool true) ∧ Fr (fun _ => False) w w' := by
  have AL := Lib.hid (alive_any w)
  have HN := Lib.hid (RdNs.ref h hcap)
  have HD := Lib.hid h
  have hcm' := hcm
  unfold maxLen at hcm'
  clear h hcap
  go_enter Try.func9, Try.ntmps9
  go_wp2_with fail
  refine AL.out.mono ?_
  rintro e w1 ⟨rfl, f1⟩
  have F1 := Lib.hid f1
  have HD1 := Lib.hid (HD.out.fr f1)
  have HN1 := Lib.hid (HN.out.fr f1)
  have BG := Lib.hid (Big_any ds p c w1 HD1.out hlc hcm)
  clear AL f1 HD HN
  go_wp2_with fail
  refine BG.out.mono ?_
  rintro e w2 ⟨rfl, bg, rfl, hbg⟩
  have HBG := Lib.hid hbg
  clear hbg BG
  cases bg with
  | true =>
    go_wp2_with fail
    go_ret
    exact ⟨rfl, F1.out⟩
  | false =>
    obtain ⟨hsm, hl1, hl2⟩ := HBG.out rfl
    have N4 := Lib.hid (New_any ds p c w2 HD1.out hlc hcm)
    clear HBG
    go_wp2_with fail
    refine N4.out.mono ?_
    rintro e w4 ⟨f4, hN⟩
    have F4 := Lib.hid (F1.out.trans f4)
    have RN := Lib.hid (R.RTree_any ds p c w4 (HN1.out.fr f4) hlc hcm)
    have HNN := Lib.hid hN
    clear f4 N4 HD1 HN1 hN F1
    rcases err_new ds with ⟨he, els, hn⟩ | ⟨he, hn⟩
    · obtain ⟨tb, rfl, hT⟩ : ∃ tb, e = .returned (.tuple #[.pointer (some ⟨tb, 0, none⟩), .int .i64 0]) ∧ TS w2 w4 tb els := by
        rcases HNN.out with ⟨n, hn', -⟩ | ⟨els', tb, hn', he', hT, -, -⟩
        · rw [hn] at hn'; cases hn'
        · rw [hn] at hn'; cases hn'; exact ⟨tb, he', hT⟩
      have hl40 : ds.length ≤ 40 := by
        unfold newR at hn
        split at hn
        · cases hn
        · omega
      have HV := Lib.hid (new_view hn)
      have HT4 := Lib.hid hT
      have HE := Lib.hid he
      have HSM := Lib.hid (show ∀ (k : Nat) d, ds[k]? = some d → d.cls.length ≤ 100000 ∧ d.att.length ≤ 100000 from fun k d hd => by
        have := (List.getElem?_eq_some_iff.1 hd).1
        obtain ⟨a, b, -⟩ := hsm k d (by omega) hd
        omega)
      clear hT he hn HNN hsm hl1 hl2
      go_wp2_with fail
      refine RN.out.mono ?_
      rintro e w5 ⟨q5, rfl, hr5, -, f5⟩
      obtain ⟨tr, rfl, hTR⟩ := hr5 HE.out
      obtain ⟨spN, cN, spD, cD, hRV⟩ := hTR.view
      have F5 := Lib.hid (F4.out.trans f5)
      have HT5 := Lib.hid (HT4.out.fr0 f5)
      have HR5 := Lib.hid hRV
      rw [HE.out]
      have PN := Lib.hid (fun W => sameFr (num_any W 0))
      have PL := Lib.hid (fun W (f : Fr (fun _ => False) w5 W) => Len_any w2 W tb els (HT5.out.fr0 f))
      rw [HV.out.len] at PL
      have A23 := Lib.hid (fun W (f : Fr (fun _ => False) w5 W) => all23 w2 w5 W tb ds els HT5.out HV.out (by omega) f)
      have A28 := Lib.hid (fun W (f : Fr (fun _ => False) w5 W) => all28 w5 W tr ds HR5.out HV.out.good (by omega) f)
      have hal := allN_le HV.out.good
      have qn : ((ds.length : Int) != (ds.length : Int)) = false := by simp
      have GG := Lib.hid (Fr.refl (fun _ => False) w5)
      clear hRV hTR hr5 f5 RN HT4 F4
      have HAL := Lib.hid (show ((allN ds).map fun (j : Nat) => (j : Int)).length ≤ 100000 by rw [List.length_map]; omega)
      generalize (allN ds).map (fun (j : Nat) => (j : Int)) = AL at *
      go_wp2_with (first
        | (go_at_call 12; refine Calls.mono (PN.out _) ?_; rintro e wa ⟨rfl, fa⟩; have GG := Lib.hid (GG.out.trans fa); clear fa)
        | (go_at_call 17; refine Calls.mono (PL.out _ GG.out) ?_; rintro e wa ⟨rfl, fa⟩; have GG := Lib.hid (GG.out.trans fa); clear fa)
        | (go_at_call 23; refine Calls.mono (A23.out _ GG.out) ?_; rintro e wb ⟨s1, k1, rfl, r1, fa⟩; have R1 := Lib.hid r1; have GG := Lib.hid (GG.out.trans fa); clear fa r1)
        | (go_at_call 28; refine Calls.mono (A28.out _ GG.out) ?_; rintro e wc ⟨s2, k2, rfl, r2, fa⟩; have R1 := Lib.hid (R1.out.fr0 fa); have R2 := Lib.hid r2; have GG := Lib.hid (GG.out.trans fa); clear fa r2)
        | (go_at_call 26; refine Calls.mono (sameInts_any _ _ _ _ _ _ R1.out R2.out HAL.out) ?_; rintro e wd ⟨rfl, fa⟩; have GG := Lib.hid (GG.out.trans fa); clear fa))
      clear PN PL A23 A28 R1 R2
      go_loopw [11, 12] (fun i _ wr => ∃ x : Int, -1 ≤ x ∧ x ≤ ds.length + 1 ∧ i = .int .i64 x ∧ Hid (Fr (fun _ => False) w5 wr)) (fun i _ _ => (ds.length + 1 - intOf i).toNat)
      case atStart => exact ⟨-1, by omega, by omega, rfl, GG.out⟩
      case round =>
        obtain ⟨x, hx1, hx2, rfl, hF⟩ := hrel
        clear GG
        obtain ⟨wp, rfl⟩ : ∃ wp : World, wp = wr := ⟨_, rfl⟩
        by_cases hx : x ≤ ds.length
        · have ROUND : ∀ z : Int, ∃ d kl pv dv lv bv, Both wp tb tr z d kl pv dv lv bv := fun z => both_any w2 wp tb tr ds els (HT5.out.fr0 hF.out) (HR5.out.fr hF.out) HV.out (by omega) HSM.out z
          have i1 : x ≤ (ds.length : Int) := hx
          have GG := Lib.hid (Fr.refl (fun _ => False) wp)
          by_cases hm : x = -1
          · subst hm
            obtain ⟨d, kl, pv, dv, lv, bv, hB⟩ := ROUND z
            have HB := Lib.hid hB
            clear ROUND hB
            go_wp2_with (first
            | (go_at_call 15; refine Calls.mono (HB.out.n15 _ GG.out) ?_; rintro e wa ⟨s1, k1, t1, j1, rfl, a1, a2, fa⟩; have A1 := Lib.hid (RdV.win a1); have A2 := Lib.hid (RdV.win a2); have GG := Lib.hid (GG.out.trans fa); clear fa a1 a2)
            | (go_at_call 25; refine Calls.mono (HB.out.n25 _ GG.out) ?_; rintro e wb ⟨s2, k2, t2, j2, rfl, a1, a2, fa⟩; have A1 := Lib.hid (A1.out.fr fa); have A2 := Lib.hid (A2.out.fr fa); have B1 := Lib.hid (RdV.win a1); have B2 := Lib.hid (RdV.win a2); have GG := Lib.hid (GG.out.trans fa); clear fa a1 a2)
            | (go_at_call 24; refine Calls.mono (nodes_same _ _ _ _ _ _ _ _ _ _ A1.out B1.out A2.out B2.out HB.out.sc HB.out.sa) ?_; rintro e wc ⟨rfl, fa⟩; have GG := Lib.hid (GG.out.trans fa); clear fa A1 A2 B1 B2)
            | (go_at_call 14; refine Calls.mono (HB.out.c14 _ GG.out) ?_; rintro e wd ⟨s3, k3, rfl, a1, fa⟩; have C1 := Lib.hid (RdI.newL a1); have GG := Lib.hid (GG.out.trans fa); clear fa a1)
            | (go_at_call 27; refine Calls.mono (HB.out.c27 _ GG.out) ?_; rintro e we ⟨s4, k4, rfl, a1, fa⟩; have C1 := Lib.hid (C1.out.fr0 fa); have C2 := Lib.hid (RdI.newL a1); have GG := Lib.hid (GG.out.trans fa); clear fa a1)
            | (go_at_call 26; refine Calls.mono (sameInts_any _ _ _ _ _ _ C1.out C2.out HB.out.sk) ?_; rintro e wf ⟨rfl, fa⟩; have GG := Lib.hid (GG.out.trans fa); clear fa C1 C2)
            | (go_at_call 21; refine Calls.mono (HB.out.p21 _ GG.out) ?_; rintro e wa ⟨rfl, fa⟩; have GG := Lib.hid (GG.out.trans fa); clear fa)
            | (go_at_call 29; refine Calls.mono (HB.out.p29 _ GG.out) ?_; rintro e wa ⟨rfl, fa⟩; have GG := Lib.hid (GG.out.trans fa); clear fa)
            | (go_at_call 13; refine Calls.mono (HB.out.d13 _ GG.out) ?_; rintro e wa ⟨rfl, fa⟩; have GG := Lib.hid (GG.out.trans fa); clear fa)
            | (go_at_call 30; refine Calls.mono (HB.out.d30 _ GG.out) ?_; rintro e wa ⟨rfl, fa⟩; have GG := Lib.hid (GG.out.trans fa); clear fa)
            | (go_at_call 18; refine Calls.mono (HB.out.l18 _ GG.out) ?_; rintro e wa ⟨rfl, fa⟩; have GG := Lib.hid (GG.out.trans fa); clear fa)
            | (go_at_call 31; refine Calls.mono (HB.out.l31 _ GG.out) ?_; rintro e wa ⟨rfl, fa⟩; have GG := Lib.hid (GG.out.trans fa); clear fa)
            | (go_at_call 22; refine Calls.mono (HB.out.b22 _ GG.out) ?_; rintro e wa ⟨rfl, fa⟩; have GG := Lib.hid (GG.out.trans fa); clear fa)
            | (go_at_call 32; refine Calls.mono (HB.out.b32 _ GG.out) ?_; rintro e wa ⟨rfl, fa⟩; have GG := Lib.hid (GG.out.trans fa); clear fa))
            go_roundw
            case rel => exact ⟨0, by omega, by omega, by first | rfl | go_num, hF.out.trans GG.out⟩
            case measure => simp [intOf] <;> omega
          · have qx : (x == -1) = false := by simpa using hm
            obtain ⟨d, kl, pv, dv, lv, bv, hB⟩ := ROUND x
            have HB := Lib.hid hB
            clear ROUND hB
            go_wp2_with (first
            | (go_at_call 15; refine Calls.mono (HB.out.n15 _ GG.out) ?_; rintro e wa ⟨s1, k1, t1, j1, rfl, a1, a2, fa⟩; have A1 := Lib.hid (RdV.win a1); have A2 := Lib.hid (RdV.win a2); have GG := Lib.hid (GG.out.trans fa); clear fa a1 a2)
            | (go_at_call 25; refine Calls.mono (HB.out.n25 _ GG.out) ?_; rintro e wb ⟨s2, k2, t2, j2, rfl, a1, a2, fa⟩; have A1 := Lib.hid (A1.out.fr fa); have A2 := Lib.hid (A2.out.fr fa); have B1 := Lib.hid (RdV.win a1); have B2 := Lib.hid (RdV.win a2); have GG := Lib.hid (GG.out.trans fa); clear fa a1 a2)
            | (go_at_call 24; refine Calls.mono (nodes_same _ _ _ _ _ _ _ _ _ _ A1.out B1.out A2.out B2.out HB.out.sc HB.out.sa) ?_; rintro e wc ⟨rfl, fa⟩; have GG := Lib.hid (GG.out.trans fa); clear fa A1 A2 B1 B2)
            | (go_at_call 14; refine Calls.mono (HB.out.c14 _ GG.out) ?_; rintro e wd ⟨s3, k3, rfl, a1, fa⟩; have C1 := Lib.hid (RdI.newL a1); have GG := Lib.hid (GG.out.trans fa); clear fa a1)
            | (go_at_call 27; refine Calls.mono (HB.out.c27 _ GG.out) ?_; rintro e we ⟨s4, k4, rfl, a1, fa⟩; have C1 := Lib.hid (C1.out.fr0 fa); have C2 := Lib.hid (RdI.newL a1); have GG := Lib.hid (GG.out.trans fa); clear fa a1)
            | (go_at_call 26; refine Calls.mono (sameInts_any _ _ _ _ _ _ C1.out C2.out HB.out.sk) ?_; rintro e wf ⟨rfl, fa⟩; have GG := Lib.hid (GG.out.trans fa); clear fa C1 C2)
            | (go_at_call 21; refine Calls.mono (HB.out.p21 _ GG.out) ?_; rintro e wa ⟨rfl, fa⟩; have GG := Lib.hid (GG.out.trans fa); clear fa)
            | (go_at_call 29; refine Calls.mono (HB.out.p29 _ GG.out) ?_; rintro e wa ⟨rfl, fa⟩; have GG := Lib.hid (GG.out.trans fa); clear fa)
            | (go_at_call 13; refine Calls.mono (HB.out.d13 _ GG.out) ?_; rintro e wa ⟨rfl, fa⟩; have GG := Lib.hid (GG.out.trans fa); clear fa)
            | (go_at_call 30; refine Calls.mono (HB.out.d30 _ GG.out) ?_; rintro e wa ⟨rfl, fa⟩; have GG := Lib.hid (GG.out.trans fa); clear fa)
            | (go_at_call 18; refine Calls.mono (HB.out.l18 _ GG.out) ?_; rintro e wa ⟨rfl, fa⟩; have GG := Lib.hid (GG.out.trans fa); clear fa)
            | (go_at_call 31; refine Calls.mono (HB.out.l31 _ GG.out) ?_; rintro e wa ⟨rfl, fa⟩; have GG := Lib.hid (GG.out.trans fa); clear fa)
            | (go_at_call 22; refine Calls.mono (HB.out.b22 _ GG.out) ?_; rintro e wa ⟨rfl, fa⟩; have GG := Lib.hid (GG.out.trans fa); clear fa)
            | (go_at_call 32; refine Calls.mono (HB.out.b32 _ GG.out) ?_; rintro e wa ⟨rfl, fa⟩; have GG := Lib.hid (GG.out.trans fa); clear fa))
            go_roundw
            case rel => exact ⟨x + 1, by omega, by omega, by first | rfl | go_num, hF.out.trans GG.out⟩
            case measure => simp [intOf] <;> omega
        · have q1 : ¬ (x ≤ (ds.length : Int)) := hx
          go_wp2_with fail
          go_ret
          exact ⟨rfl, F5.out.trans hF.out⟩
    · have HNE := Lib.hid he
      have qne : (R.errN ds != 0) = true := by simpa using he
      have qnb : (R.errN ds == 0) = false := by simpa using he
      obtain rfl : e = .returned (.tuple #[.pointer none, .int .i64 (R.errN ds)]) := by
        rcases HNN.out with ⟨n, hn', he'⟩ | ⟨els', tb, hn', -⟩
        · rw [hn] at hn'; cases hn'; exact he'
        · rw [hn] at hn'; cases hn'
      clear HNN hn hsm hl1 hl2
      go_wp2_with fail
      refine RN.out.mono ?_
      rintro e w5 ⟨q5, rfl, -, hr5, f5⟩
      obtain rfl := hr5 HNE.out
      have F5 := Lib.hid (F4.out.trans f5)
      have PN := Lib.hid (fun W => num_any W (R.errN ds))
      clear RN f5 hr5
      generalize R.errN ds = er at *
      go_wp2_with (go_at_call 12; refine Calls.mono (PN.out _) ?_; rintro e wa ⟨rfl, rfl⟩)
      go_ret
      exact ⟨rfl, F5.out⟩

theorem domTells_walk (v : Value) (ds : List NodeD) (z : Int) (w : World) (h : IsNodes w v ds) (_hz : (Lit.int .i64 z).wf = true) : Calls Try.prog 9 #[v, .int .i64 z] w fun e w' => e = .returned (.bool true) ∧ Below w.heap.size w w' := by
  obtain ⟨p, c, rfl, h1, h2, h3, h4⟩ := h
  exact (tells_any ds p c z w h3 h4 h1 h2).mono fun _ _ h => ⟨h.1, h.2.below (Nat.le_refl _) (by simp)⟩
end Go.Proofs.Ytdbhcogafhhlnaa
