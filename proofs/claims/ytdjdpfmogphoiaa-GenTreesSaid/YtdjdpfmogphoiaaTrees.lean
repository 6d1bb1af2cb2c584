/- GenTrees: what is made is a tree; fewer are the beginning of more; the walk. -/
import Derived.Test.YtdjdpfmogphoiaaTreeW
import Derived.Test.YtdjdpfmogphoiaaRPicks
import Derived.Test.YtdjdpfmogphoiaaAlive
namespace Go.Proofs.Ytdjdpfmogphoiaa
open Go.RowKit Go.Maps Go.ChangeShapes Go.WideShapes Go.ChangeAt Go.WideMaps Go.WideElems

theorem gRun_take (s : Int) (n m : Nat) (h : n ≤ m) : (gRun s (List.range m)).1.take n = (gRun s (List.range n)).1 := by
  induction m with
  | zero =>
    obtain rfl : n = 0 := by omega
    rfl
  | succ m ih =>
    have hl := gRun_len s (List.range m)
    rw [List.length_range] at hl
    rcases Nat.lt_or_ge n (m + 1) with h1 | h1
    · rw [List.range_succ, gRun_snoc]
      simp only
      rw [List.take_append_of_le_length (by omega)]
      exact ih (by omega)
    · obtain rfl : n = m + 1 := by omega
      have hl2 := gRun_len s (List.range (m + 1))
      rw [List.length_range] at hl2
      rw [List.take_of_length_le (by omega)]

theorem gRun_at (s : Int) (m k : Nat) (h : k < m) : (gRun s (List.range m)).1[k]? = some (gNode (gRun s (List.range k)).2 k) := by
  have h1 := gRun_take s (k + 1) m (by omega)
  have hl := gRun_len s (List.range k)
  rw [List.length_range] at hl
  have h2 : (gRun s (List.range (k + 1))).1[k]? = some (gNode (gRun s (List.range k)).2 k) := by
    rw [List.range_succ, gRun_snoc]
    simp only
    rw [List.getElem?_append_right (by omega), hl, Nat.sub_self]
    rfl
  rw [← h1, List.getElem?_take, if_pos (by omega)] at h2
  exact h2

theorem gPar_in (s : Int) (k : Nat) (h : 0 < k) : 0 ≤ gPar s k ∧ gPar s k < k := by
  unfold gPar
  rw [if_pos h]
  have h1 := nxV_in s (min (k : Int) 4)
  have h2 := h1.2 (by omega)
  omega
theorem gPar_zero (s : Int) : gPar s 0 = -1 := by unfold gPar; rw [if_neg (by omega)]

theorem gDps (s : Int) (m : Nat) : ∀ k, k ≤ m → ∀ (j : Nat) x, (dps (gRun s (List.range m)).1 k)[j]? = some x → 0 ≤ x ∧ x ≤ j := by
  intro k
  induction k with
  | zero => intro _ j x h; simp [dps] at h
  | succ k ih =>
    intro hk j x h
    have hl := dps_len (gRun s (List.range m)).1 k
    rw [dps_succ] at h
    rcases Nat.lt_or_ge j k with hj | hj
    · rw [List.getElem?_append_left (by omega)] at h
      exact ih (by omega) j x h
    · rw [List.getElem?_append_right (by omega), hl] at h
      have hjk : j = k := by
        rcases Nat.eq_zero_or_pos (j - k) with e | e
        · omega
        · rw [List.getElem?_eq_none (by simp; omega)] at h; cases h
      subst hjk
      rw [Nat.sub_self] at h
      simp at h
      subst h
      unfold dpAt
      rcases Nat.eq_zero_or_pos j with h0 | h0
      · rw [if_pos h0]; omega
      · rw [if_neg (by omega), gRun_at s m j (by omega)]
        obtain ⟨p0, p1⟩ := gPar_in (gRun s (List.range j)).2 j h0
        show 0 ≤ (dps _ j).getD (gPar _ j).toNat 0 + 1 ∧ (dps _ j).getD (gPar _ j).toNat 0 + 1 ≤ j
        rw [List.getD_eq_getElem?_getD]
        cases hx : (dps (gRun s (List.range m)).1 j)[(gPar (gRun s (List.range j)).2 j).toNat]? with
        | none => simp; omega
        | some v =>
          have := ih (by omega) _ v hx
          simp
          omega

theorem gStep (s : Int) (m k : Nat) (hk : k < m) (hm : m ≤ 256) : stepE (gRun s (List.range m)).1 k = 0 := by
  have hd := gDps s m (k + 1) (by omega) k (dpAt (gRun s (List.range m)).1 k) (by
    rw [dps_succ, List.getElem?_append_right (by rw [dps_len]; exact Nat.le_refl _), dps_len, Nat.sub_self]; rfl)
  unfold stepE
  have hp : ((gRun s (List.range m)).1[k]?.map NodeD.par).getD 0 = gPar (gRun s (List.range k)).2 k := by rw [gRun_at s m k hk]; rfl
  rw [hp, if_neg, if_neg (by omega)]
  unfold badP
  rintro (⟨rfl, h⟩ | ⟨h0, h⟩)
  · exact h (gPar_zero _)
  · have := gPar_in (gRun s (List.range k)).2 k h0
    omega
theorem errFrom_zero (ds : List NodeD) (n k : Nat) (h : ∀ j, k ≤ j → j < k + n → stepE ds j = 0) : errFrom ds n k = 0 := by
  induction n generalizing k with
  | zero => rfl
  | succ n ih =>
    rw [errFrom_skip _ _ _ (h k (by omega) (by omega))]
    exact ih (k + 1) (fun j h1 h2 => h j (by omega) (by omega))
theorem gErr (s : Int) (m : Nat) (hm : m ≤ 256) : errN (gRun s (List.range m)).1 = 0 := by
  have hl := gRun_len s (List.range m)
  rw [List.length_range] at hl
  unfold errN
  rw [if_neg (by omega)]
  exact errFrom_zero _ _ _ (fun j h1 h2 => gStep s m j (by omega) hm)

theorem pick_size (l : List ByteArray) (s : Int) (n : Nat) (h : ∀ t ∈ l, t.size ≤ n) : (pick l s).size ≤ n := by
  unfold pick
  cases hx : l[(nxV s l.length).toNat]? with
  | none => exact Nat.zero_le _
  | some t => exact h t (List.mem_of_getElem? hx)

/-- What is handed to New, of a row of nodes. -/
def SmallD (d : NodeD) : Prop := d.cls.length ≤ 1000 ∧ d.tag.size ≤ 100 ∧ ∀ p ∈ d.att, p.1.size ≤ 100
theorem gNode_small (s : Int) (i : Nat) : SmallD (gNode s i) := by
  refine ⟨?_, ?_, ?_⟩
  · show (clsL _ _).length ≤ 1000
    rw [clsL_len]
    unfold gN
    have := (nxV_in (gC s i) 3).2 (by omega)
    omega
  · exact pick_size lTag _ 100 (by unfold lTag; decide)
  · intro p hp
    have hp : p ∈ gAtt (gE s i) := hp
    unfold gAtt at hp
    split at hp
    · simp at hp
      subst hp
      exact pick_size lNam _ 100 (by unfold lNam; decide)
    · cases hp
theorem gRun_small (s : Int) (m : Nat) : ∀ (k : Nat) d, (gRun s (List.range m)).1[k]? = some d → SmallD d := by
  intro k d h
  have hl := gRun_len s (List.range m)
  rw [List.length_range] at hl
  have hk : k < m := by have := (List.getElem?_eq_some_iff.1 h).1; omega
  rw [gRun_at s m k hk] at h
  cases h
  exact gNode_small _ _

theorem RdNs.of {w : World} {base base' : Nat} {sp : Option Addr} {n c : Nat} {xs : List Value} {ds : List NodeD} (h : w.ownsRow base 47 5 (.slice sp n c) n xs) (hl : NL base' w xs ds) (hn : ds.length = n) (hs : ∀ (k : Nat) d, ds[k]? = some d → SmallD d) : RdNs w sp ds := by
  intro k d hk
  have hlt : k < ds.length := (List.getElem?_eq_some_iff.1 hk).1
  obtain ⟨g, c', e, hc⟩ := ownsRow.first h (by omega)
  cases e
  obtain ⟨cs, ⟨sp1, c1, vA, rfl, r1, r2⟩, hx⟩ := hl.at k hlt
  have hd : ds[k] = d := by
    rw [List.getElem?_eq_getElem hlt] at hk
    exact Option.some.inj hk
  rw [hd] at hx r1 r2
  obtain ⟨s1, s2, s3⟩ := hs k d hk
  have hA : ∃ q o, vA = .slice q d.att.length o ∧ RdA w q d.att ∧ d.att.length ≤ 1 ∧ d.att.length ≤ o ∧ o ≤ 1 := by
    rcases r2 with ⟨e, rfl⟩ | ⟨a, t, ga, e, rfl, _, hg⟩
    · rw [e]
      exact ⟨none, 0, rfl, fun k p h => by simp at h, by simp, by simp, by simp⟩
    · rw [e]
      refine ⟨some ⟨ga, 0, none⟩, 1, rfl, fun k p h => ?_, by simp, by simp, by simp⟩
      cases k with
      | zero =>
        simp at h
        subst h
        exact ⟨ga, 0, rfl, ltOf hg, by rw [cellOf hg]; rfl, by rw [cellOf hg]; rfl⟩
      | succ k => simp at h
  obtain ⟨q, o, rfl, a1, a2, a3, a4⟩ := hA
  refine ⟨g, 0, sp1, c1, q, o, rfl, (h.lt g rfl).2, ?_, ?_, ?_, ?_, ?_, ?_, a1, ?_, by omega, by omega, a3, by unfold maxLen; omega, by unfold maxLen; omega, fun p hp => by have := s3 p hp; unfold maxLen; omega⟩
  · rw [Nat.zero_add]; exact hc _ _ (hx 0 (by omega))
  · rw [Nat.zero_add]; exact hc _ _ (hx 1 (by omega))
  · rw [Nat.zero_add]; exact hc _ _ (hx 2 (by omega))
  · rw [Nat.zero_add]; exact hc _ _ (hx 3 (by omega))
  · rw [Nat.zero_add]; exact hc _ _ (hx 4 (by omega))
  · intro k t hk
    have hlt : k < d.cls.length := (List.getElem?_eq_some_iff.1 hk).1
    obtain ⟨g2, c2, e, hc2⟩ := ownsRow.first r1 (by omega)
    cases e
    exact ⟨g2, 0, rfl, (r1.lt g2 rfl).2, by rw [Nat.zero_add]; exact hc2 k _ (by rw [List.getElem?_map, hk]; rfl)⟩
  · intro e
    rcases r1.2 with ⟨_, h0⟩ | ⟨_, _, _, h, _⟩
    · exact h0
    · rw [e] at h; cases h

theorem RdN.take {w : World} {p : Option Addr} {ds : List NodeD} (h : RdN w p ds) (n : Nat) : RdN w p (ds.take n) := by
  intro k d hk
  rw [List.getElem?_take] at hk
  split at hk
  · exact h k d hk
  · cases hk

set_option maxHeartbeats 8000000 in
set_option maxRecDepth 100000 in
theorem trees_any (seed n m : Int) (w : World) (_h1 : (Lit.int .i64 seed).wf = true) (_h3 : (Lit.int .i64 n).wf = true) (_h4 : (Lit.int .i64 m).wf = true) :
    Calls Try.prog 4 #[.int .i64 seed, .int .i64 n, .int .i64 m] w fun e w' => e = .returned (.bool true) ∧ Below w.heap.size w w' := by
  by_cases c1 : n < 0
  · have d1 : decide (n < 0) = true := by simpa using c1
    go_enter Try.func4, Try.ntmps4
    go_wp2_with fail
    refine (alive_any _).mono ?_
    rintro e w1 ⟨rfl, b1⟩
    have B1 := Lib.hid b1
    clear b1
    go_wp2_with fail
    go_ret
    exact ⟨rfl, B1.out⟩
  have d1 : decide (n < 0) = false := by simp; omega
  by_cases c2 : m < n
  · have d2 : decide (m < n) = true := by simpa using c2
    go_enter Try.func4, Try.ntmps4
    go_wp2_with fail
    refine (alive_any _).mono ?_
    rintro e w1 ⟨rfl, b1⟩
    have B1 := Lib.hid b1
    clear b1
    go_wp2_with fail
    go_ret
    exact ⟨rfl, B1.out⟩
  have d2 : decide (m < n) = false := by simp; omega
  by_cases c3 : 150 < m
  · have d3 : decide (150 < m) = true := by simpa using c3
    go_enter Try.func4, Try.ntmps4
    go_wp2_with fail
    refine (alive_any _).mono ?_
    rintro e w1 ⟨rfl, b1⟩
    have B1 := Lib.hid b1
    clear b1
    go_wp2_with fail
    go_ret
    exact ⟨rfl, B1.out⟩
  have d3 : decide (150 < m) = false := by simp; omega
  obtain ⟨N, rfl⟩ := Int.eq_ofNat_of_zero_le (by omega : 0 ≤ n)
  obtain ⟨M, rfl⟩ := Int.eq_ofNat_of_zero_le (by omega : 0 ≤ m)
  have hNM : N ≤ M := by omega
  have hM : M ≤ 150 := by omega
  go_enter Try.func4, Try.ntmps4
  go_wp2_with fail
  refine (alive_any _).mono ?_
  rintro e w1 ⟨rfl, b1⟩
  have B1 := Lib.hid b1
  clear b1
  have P1 := Lib.hid (nodes_any seed N w1 (by omega))
  rw [Int.toNat_natCast] at P1
  have P2 := Lib.hid (fun W => nodes_any seed M W (by omega))
  rw [Int.toNat_natCast] at P2
  have HT := Lib.hid (gRun_take (seedS seed) N M hNM)
  have HE := Lib.hid (gErr (seedS seed) M (by omega))
  have HS := Lib.hid (gRun_small (seedS seed) M)
  have HL1 := Lib.hid (gRun_len (seedS seed) (List.range N))
  have HL2 := Lib.hid (gRun_len (seedS seed) (List.range M))
  rw [List.length_range] at HL1 HL2
  have HGC := Lib.hid (gRun_cls (seedS seed) (List.range N))
  generalize (gRun (seedS seed) (List.range N)).1 = da at *
  generalize (gRun (seedS seed) (List.range M)).1 = db at *
  go_wp2_with fail
  refine P1.out.mono ?_
  rintro e w2 ⟨⟨sp1, k1, xs1, rfl, row1, nl1⟩, b2⟩
  have R1 := Lib.hid (RdN.of row1 nl1 HL1.out)
  have B2 := Lib.hid (B1.out.trans (b2.mono B1.out.size))
  clear row1 nl1 b2 P1 B1
  go_wp2_with fail
  refine (P2.out w2).mono ?_
  rintro e w3 ⟨⟨sp2, k2, xs2, rfl, row2, nl2⟩, b3⟩
  have hc2 : M ≤ k2 := by
    rcases row2.2 with ⟨_, h⟩ | ⟨_, _, _, h, _, _, h2, _⟩
    · omega
    · cases h; exact h2
  have hc3 : k2 ≤ maxLen := by
    rcases row2.2 with ⟨h, _⟩ | ⟨_, _, _, h, _, _, _, h2, _⟩
    · cases h; exact Nat.zero_le _
    · cases h; exact h2
  have R2 := Lib.hid ((RdN.of row2 nl2 HL2.out).take N)
  rw [HT.out] at R2
  have R3 := Lib.hid (R1.out.fr (frB b3))
  have PT := Lib.hid (RTree_any db sp2 k2 w3 (RdNs.of row2 nl2 HL2.out HS.out) (by rw [HL2.out]; exact hc2) hc3)
  rw [HL2.out] at PT
  have B3 := Lib.hid (B2.out.trans (b3.mono B2.out.size))
  clear row2 nl2 b3 P2 B2 R1
  unfold maxLen at hc3
  go_wp2_with fail
  refine PT.out.mono ?_
  rintro e w4 ⟨q, rfl, _, _, f4⟩
  rw [HE.out]
  have R4 := Lib.hid (R2.out.fr f4)
  have R5 := Lib.hid (R3.out.fr f4)
  have B4 := Lib.hid (B3.out.trans (f4.below B3.out.size (by simp)))
  have PS := Lib.hid (sameNodes_any sp1 sp2 k1 k2 da w4 R5.out R4.out (by rw [HL1.out]; omega) HGC.out)
  rw [HL1.out] at PS
  clear f4 PT R2 R3 R4 R5 B3
  have qn : ((N : Int) == (N : Int)) = true := by simp
  have qm : ((M : Int) == (M : Int)) = true := by simp
  have hNMi : (N : Int) ≤ (M : Int) := by omega
  have hNk : N ≤ k2 := by omega
  have hNki : (N : Int) ≤ (k2 : Int) := by omega
  go_wp2_with fail
  refine PS.out.mono ?_
  rintro e w5 ⟨rfl, b5⟩
  have B5 := Lib.hid (B4.out.trans (b5.mono B4.out.size))
  go_wp2_with fail
  go_ret
  exact ⟨rfl, B5.out⟩
end Go.Proofs.Ytdjdpfmogphoiaa
