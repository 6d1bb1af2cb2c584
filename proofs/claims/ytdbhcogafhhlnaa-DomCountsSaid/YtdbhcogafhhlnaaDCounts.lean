/- DomCounts: the walk. -/
import Derived.Test.YtdbhcogafhhlnaaDBig
import Derived.Test.YtdbhcogafhhlnaaDInv
import Derived.Test.YtdbhcogafhhlnaaFrQ
import Derived.Deep.QuietTactic
import Derived.Deep.RegionLaw
import Derived.Deep.Cut
import Derived.Deep.CutRange
import Derived.IntWalk
namespace Go.Proofs.Ytdbhcogafhhlnaa
open Go.RowKit Go.Maps Go.ChangeShapes Go.WideShapes Go.ChangeAt Go.WideMaps Go.WideElems

theorem kidSum_take {els : List ElD} {k : Nat} {x : ElD} (h : els[k]? = some x) : kidSum (els.take (k + 1)) = kidSum (els.take k) + x.kids.length := by
  unfold kidSum
  rw [List.take_add_one, h]
  simp
theorem kidSum_le (els : List ElD) (k : Nat) : kidSum (els.take k) ≤ kidSum els := by
  have h : kidSum (els.take k) + kidSum (els.drop k) = kidSum els := by
    unfold kidSum
    rw [← List.sum_append, ← List.map_append, List.take_append_drop]
  omega
theorem take_last {l : List Int} {m : Nat} {v : Int} (h : l[m]? = some v) : (l.take (m + 1)).getLastD (-1) = v := by
  rw [List.take_add_one, h]
  simp

set_option maxHeartbeats 16000000 in
set_option maxRecDepth 100000 in
theorem counts_any (ds : List NodeD) (p : Option Addr) (c : Nat) (w : World) (h : RdNs w p ds) (hcap : RdCap w p ds) (hlc : ds.length ≤ c) (hcm : c ≤ maxLen) :
    Calls Try.prog 6 #[.slice p ds.length c] w fun e w' => e = .returned (.bool true) ∧ Fr (fun _ => False) w w' := by
  have AL := Lib.hid (alive_any w)
  have HN := Lib.hid (RdNs.ref h hcap)
  have HD := Lib.hid h
  have hcm' := hcm
  unfold maxLen at hcm'
  clear h hcap
  go_enter Try.func6, Try.ntmps6
  go_wp2_with fail
  refine AL.out.mono ?_
  rintro e w1 ⟨rfl, f1⟩
  have F1 := Lib.hid f1
  have HD1 := Lib.hid (HD.out.fr f1)
  have BG := Lib.hid (Big_any ds p c w1 HD1.out hlc hcm)
  have RN := Lib.hid (R.RTree_any ds p c w1 (HN.out.fr f1) hlc hcm)
  clear AL f1 HD HN
  go_wp2_with fail
  refine BG.out.mono ?_
  rintro e w2 ⟨rfl, bg, rfl, hbg⟩
  have HBG := Lib.hid hbg
  clear hbg BG
  go_wp2_with fail
  refine RN.out.mono ?_
  rintro e w3 ⟨q3, rfl, -, -, f3⟩
  have F3 := Lib.hid (F1.out.trans f3)
  have HD3 := Lib.hid (HD1.out.fr f3)
  clear f3 RN F1 HD1
  cases bg with
  | true =>
    go_wp2_with fail
    go_ret
    exact ⟨rfl, F3.out⟩
  | false =>
    rcases err_new ds with ⟨he, els, hn⟩ | ⟨he, -⟩
    · obtain ⟨kk, ki, kl, ks⟩ := new_kids ds els hn
      obtain ⟨-, hl1, hl2⟩ := HBG.out rfl
      have hl40 : ds.length ≤ 40 := by
        unfold newR at hn
        split at hn
        · cases hn
        · omega
      have KK := Lib.hid kk
      have KI := Lib.hid ki
      have KL := Lib.hid kl
      have KS := Lib.hid ks
      have HNW := Lib.hid hn
      have N4 := Lib.hid (New_any ds p c w3 HD3.out hlc hcm)
      rw [he]
      clear kk ki kl ks hn HBG hl1 hl2 he
      go_wp2_with fail
      refine N4.out.mono ?_
      rintro e w4 ⟨f4, (⟨n, hn, -⟩ | ⟨els', tb, hn, rfl, hT, -, -⟩)⟩
      · rw [HNW.out] at hn; cases hn
      rw [HNW.out] at hn
      cases hn
      have F4 := Lib.hid (F3.out.trans f4)
      have T4 := Lib.hid hT
      clear f4 hT N4 F3 HD3 HNW
      go_wp2_with fail
      go_loopw [9, 10] (fun n e wr => ∃ k : Nat, k ≤ ds.length ∧ e = .int .i64 k ∧ n = .int .i64 (kidSum (els.take k) : Nat) ∧ Hid (Fr (fun _ => False) w wr) ∧ Hid (TS w3 wr tb els)) (fun _ e _ => ds.length - (intOf e).toNat)
      case atStart => exact ⟨0, Nat.zero_le _, rfl, rfl, F4.out, T4.out⟩
      case round =>
        obtain ⟨k, hk, rfl, rfl, hF, hT⟩ := hrel
        clear F4 T4
        obtain ⟨wo, rfl⟩ : ∃ wo : World, wo = wr := ⟨_, rfl⟩
        have hsum : kidSum els ≤ 40 := by
          rcases Nat.eq_zero_or_pos els.length with h0 | h0
          · rw [List.eq_nil_of_length_eq_zero h0]; decide
          · have := KS.out h0; have := KL.out; omega
        by_cases hkk : k < ds.length
        · have q1 : (k : Int) < (ds.length : Int) := by omega
          obtain ⟨x, hx⟩ : ∃ x, els[k]? = some x := ⟨els[k]'(by rw [KL.out]; exact hkk), List.getElem?_eq_getElem _⟩
          have hkb := (KI.out x (List.mem_of_getElem? hx)).2.2
          rw [KL.out] at hkb
          have hke : eltAt els (k : Int) = x := eltAt_in hx
          have C := Children_any w3 wo tb els hT.out (k : Int) (by rw [hke]; omega)
          rw [hke] at C
          have C := Lib.hid C
          have HSUM := Lib.hid (kidSum_take hx)
          have hS := kidSum_le els k
          have hS2 := kidSum_le els (k + 1)
          have HX := Lib.hid hx
          rw [HSUM.out] at hS2
          clear hx hke
          generalize kidSum (els.take k) = S at *
          generalize hkl : x.kids.length = kl at *
          have HKL := Lib.hid hkl
          clear hkl
          go_wp2_with fail
          refine C.out.mono ?_
          rintro e w5 ⟨⟨sp, cc, rfl, o5⟩, f5⟩
          have F5 := Lib.hid (hF.out.trans f5)
          have T5 := Lib.hid (hT.out.fr0 f5)
          have O5 := Lib.hid (o5.lower (show 0 ≤ wo.heap.size from Nat.zero_le _))
          clear o5 f5 C hF hT
          go_wp2_with fail
          go_loopw [12] (fun i wr => ∃ j : Nat, j ≤ kl ∧ i = .int .i64 j ∧ Hid (Fr (fun _ => False) w wr) ∧ Hid (TS w3 wr tb els) ∧ Hid (OwnsWin wr 0 3 1 (.slice sp kl cc) kl (x.kids.map (Value.int .i64)))) (fun i _ => kl - (intOf i).toNat)
          case atStart => exact ⟨0, Nat.zero_le _, rfl, F5.out, T5.out, O5.out⟩
          case round =>
            obtain ⟨j, hj, rfl, hF, hT, hO⟩ := hrel
            clear F5 T5 O5
            obtain ⟨wp, rfl⟩ : ∃ wp : World, wp = wr := ⟨_, rfl⟩
            by_cases hjl : j < kl
            · have q3 : (j : Int) < (kl : Int) := by omega
              have q3n : j < kl := hjl
              obtain ⟨v, hv⟩ : ∃ v, x.kids[j]? = some v := ⟨x.kids[j]'(by rw [HKL.out]; exact hjl), List.getElem?_eq_getElem _⟩
              obtain ⟨g, off, cap, hse, hk1, hk2, hk3, -, hkc, -⟩ := hO.out.cells (by omega)
              cases hse
              obtain ⟨jj, y, rfl, e2, e3, e4, e5⟩ := KK.out k x HX.out j v hv
              have x0 := hkc j (.int .i64 (jj : Int)) (by rw [List.getElem?_map, hv]; rfl)
              have hye := eltAt_in e2
              have PA := Lib.hid (show ∀ W, Fr (fun _ => False) wp W → Calls Try.prog 21 #[.pointer (some ⟨tb, 0, none⟩), .int .i64 (jj : Int)] W fun en w' => en = .returned (.int .i64 (k : Int)) ∧ Fr (fun _ => False) W w' from fun W f => by
                have := Parent_any w3 W tb els (hT.out.fr0 f) jj y e2
                rw [e3] at this
                exact this)
              have PL := Lib.hid (show ∀ W, Fr (fun _ => False) wp W → Calls Try.prog 18 #[.pointer (some ⟨tb, 0, none⟩), .int .i64 (jj : Int)] W fun en w' => en = .returned (.int .i64 ((j : Int) + 1)) ∧ Fr (fun _ => False) W w' from fun W f => by
                have := Place_any w3 W tb els (hT.out.fr0 f) (jj : Int)
                rw [hye, e4] at this
                exact this)
              have PB := Lib.hid (show ∀ W, Fr (fun _ => False) wp W → Calls Try.prog 22 #[.pointer (some ⟨tb, 0, none⟩), .int .i64 (jj : Int)] W fun en w' => en = .returned (.int .i64 ((x.kids.take j).getLastD (-1))) ∧ Fr (fun _ => False) W w' from fun W f => by
                have := Before_any w3 W tb els (hT.out.fr0 f) (jj : Int)
                rw [hye, e5] at this
                exact this)
              have hkc0 := hkc
              clear hye e2 e3 e4 e5 hkc
              have HV := Lib.hid hv
              clear hv
              have qk : ((k : Int) != (k : Int)) = false := by simp
              have qj : (((j : Int) + 1) != ((j : Int) + 1)) = false := by simp
              have qjr : IntKind.i64.wrap ((j : Int) + 1) = (j : Int) + 1 := IntWalk.i64_in _ (by omega)
              have qjw : (((j : Int) + 1) != IntKind.i64.wrap ((j : Int) + 1)) = false := by rw [qjr]; simp
              go_upto_region 16 with fail
              rcases Nat.eq_zero_or_pos j with hz | hz
              · have qz : ((j : Int) == 0) = true := by simp [hz]
                have qg : decide ((0 : Int) < (j : Int)) = false := by simp [hz]
                have qgn : decide (0 < j) = false := by simp [hz]
                rw [show (x.kids.take j).getLastD (-1) = -1 by rw [hz]; rfl] at PB
                clear hz
                clear hkc0
                have z0 := FrW.cell x0
                clear x0
                refine wp_region_fr (by kernel_rfl) (by kernel_rfl) ?_
                repeat (go_big_quiet_step (first
                  | (go_at_call 21; exact Calls.fr_of _ (PA.out _ (FrW.fr _)))
                  | (go_at_call 18; exact Calls.fr_of _ (PL.out _ (FrW.fr _)))
                  | (go_at_call 22; exact Calls.fr_of _ (PB.out _ (FrW.fr _)))))
                refine wpQuiet_nil ?_
                rintro _ ⟨nq, rfl⟩
                have GC := nq.fr
                go_wp2_with fail
                go_roundw
                case rel => exact ⟨j + 1, by omega, by go_num, hF.out.trans GC, hT.out.fr0 GC, hO.out.fr GC (by simp)⟩
                case measure => simp [intOf]; omega

              · obtain ⟨m, rfl⟩ : ∃ m, j = m + 1 := ⟨j - 1, by omega⟩
                obtain ⟨u, hu⟩ : ∃ u, x.kids[m]? = some u := ⟨x.kids[m]'(by rw [HKL.out]; omega), List.getElem?_eq_getElem _⟩
                rw [take_last hu] at PB
                have x1 := hkc0 m (.int .i64 u) (by rw [List.getElem?_map, hu]; rfl)
                clear hu hz hkc0
                have qw : IntKind.i64.wrap (m : Int) = (m : Int) := IntWalk.i64_in _ (by omega)
                have qg : decide ((0 : Int) < (m : Int) + 1) = true := decide_eq_true (by omega)
                have qz : ((m : Int) + 1 == 0) = false := by rw [beq_eq_false_iff_ne]; omega
                have qb : (m : Int) < (kl : Int) := by omega
                have qbn : m < kl := by omega
                have qu : (u != u) = false := by simp
                have q3s : (m : Int) + 1 < (kl : Int) := by omega
                have q3p : (0 : Int) ≤ (m : Int) + 1 := by omega
                have qj2 : ((m : Int) + 1 + 1 != (m : Int) + 1 + 1) = false := by simp
                have qj3 : IntKind.i64.wrap ((m : Int) + 1 + 1) = (m : Int) + 1 + 1 := IntWalk.i64_in _ (by omega)
                have qj4 : ((m : Int) + 1 + 1 != IntKind.i64.wrap ((m : Int) + 1 + 1)) = false := by rw [qj3]; simp
                have qm1 : (m : Int) + 1 - 1 = (m : Int) := by omega
                rw [show ((m + 1 : Nat) : Int) = (m : Int) + 1 from by omega] at PL
                have z0 := FrW.cell x0
                clear x0
                have z1 := FrW.cell x1
                clear x1
                refine wp_region_fr (by kernel_rfl) (by kernel_rfl) ?_
                repeat (go_big_quiet_step (first
                  | (go_at_call 21; exact Calls.fr_of _ (PA.out _ (FrW.fr _)))
                  | (go_at_call 18; exact Calls.fr_of _ (PL.out _ (FrW.fr _)))
                  | (go_at_call 22; exact Calls.fr_of _ (PB.out _ (FrW.fr _)))))
                refine wpQuiet_nil ?_
                rintro _ ⟨nq, rfl⟩
                have GC := nq.fr
                go_wp2_with fail
                go_roundw
                case rel => exact ⟨m + 1 + 1, by omega, by go_num, hF.out.trans GC, hT.out.fr0 GC, hO.out.fr GC (by simp)⟩
                case measure => simp [intOf]; omega


            · have hje : j = kl := by omega
              subst hje
              have q3 : ¬ ((j : Int) < (j : Int)) := by omega
              go_wp2_with fail
              go_roundw
              case rel => exact ⟨k + 1, by omega, by go_num, by rw [HSUM.out]; exact congrArg (Value.int .i64) (by omega), hF.out, hT.out⟩
              case measure => simp [intOf]; omega
        · have hke : k = ds.length := by omega
          subst hke
          have q1 : ¬ ((ds.length : Int) < (ds.length : Int)) := by omega
          have htk : els.take ds.length = els := by rw [← KL.out]; exact List.take_length
          rw [htk]
          rcases Nat.eq_zero_or_pos ds.length with h0 | h0
          · have e0 : kidSum els = 0 := by rw [List.eq_nil_of_length_eq_zero (KL.out.trans h0)]; rfl
            have q2 : ((ds.length : Int) == 0) = true := by simp [h0]
            have q3 : (((kidSum els : Nat) : Int) == 0) = true := by simp [e0]
            clear htk e0 h0
            generalize kidSum els = S at *
            generalize ds.length = len at *
            go_wp2_with fail
            go_ret
            exact ⟨rfl, hF.out⟩
          · have e0 := KS.out (by rw [KL.out]; exact h0)
            rw [KL.out] at e0
            have q2 : ((ds.length : Int) == 0) = false := by rw [beq_eq_false_iff_ne]; omega
            have q3 : (((kidSum els : Nat) : Int) == (ds.length : Int) - 1) = true := by rw [beq_iff_eq]; omega
            clear htk
            generalize kidSum els = S at *
            generalize ds.length = len at *
            go_wp2_with fail
            go_ret
            exact ⟨rfl, hF.out⟩
    · have hne : (R.errN ds != 0) = true := by simpa using he
      go_wp2_with fail
      go_ret
      exact ⟨rfl, F3.out⟩

theorem domCounts_walk (v : Value) (ds : List NodeD) (w : World) (h : IsNodes w v ds) : Calls Try.prog 6 #[v] w fun e w' => e = .returned (.bool true) ∧ Below w.heap.size w w' := by
  obtain ⟨p, c, rfl, h1, h2, h3, h4⟩ := h
  exact (counts_any ds p c w h3 h4 h1 h2).mono fun _ _ h => ⟨h.1, h.2.below (Nat.le_refl _) (by simp)⟩
end Go.Proofs.Ytdbhcogafhhlnaa
