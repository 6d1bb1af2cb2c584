/- TextKeeps: the plain law and the walk. -/
import Derived.Test.YtfgmhpdhgepalaaDoorLaw0
namespace Go.Proofs.YtfgmhpdhgepalaaDoor
open Go.RowKit Go.Maps Go.ChangeShapes Go.WideShapes Go.ChangeAt Go.WideMaps Go.WideElems

/-- Bytes that were handed in. -/
def IsB (w : World) (v : Value) (l : List Nat) : Prop := ∃ p c, v = .slice p l.length c ∧ l.length ≤ c ∧ c ≤ maxLen ∧ RdB w p l ∧ ∀ x ∈ l, x < 256
theorem bytes_open {H : Type} {enc : TypeId × Value → H} {w : World} {v : Value} {d : DataW H} {ps : List MemPlace} {r : Reach} {b0 : Nat} (hval : Value.okWide Tryd.prog w r b0 22 v) (h : DataW.Trod enc Tryd.prog w 0 (fun _ => true) true 22 v d ps) : ∃ l, IsB w v l := by
  obtain ⟨l, ⟨p, c, rfl, h1, h2, h3⟩, h4⟩ := ints_open (q := .u8) Tryd.underlying22 Tryd.underlying5 (by kernel_rfl) hval h
  have hb : ∀ z ∈ l, 0 ≤ z ∧ z ≤ 255 := fun z hz => by simpa [Lit.wf, IntKind.min, IntKind.max, IntKind.signed, IntKind.bits] using h4 z hz
  refine ⟨l.map Int.toNat, p, c, by rw [List.length_map], by simpa using h1, h2, fun k x hk => ?_, fun x hx => ?_⟩
  · rw [List.getElem?_map] at hk
    cases hz : l[k]? with
    | none => rw [hz] at hk; cases hk
    | some z =>
      rw [hz] at hk
      simp at hk
      subst hk
      obtain ⟨g, off, e, _, hc⟩ := h3 k z hz
      have := hb z (List.mem_of_getElem? hz)
      exact ⟨g, off, e, by rw [hc, Int.toNat_of_nonneg this.1]⟩
  · obtain ⟨z, hz, rfl⟩ := List.mem_map.1 hx
    have := hb z hz
    omega

theorem dec_small (l : List Nat) (h : (dec l).1 < 128) : (dec l).1 = l.getD 0 0 := by
  unfold dec Lib.decodeN at *
  split at h
  · simp only at h ⊢
    rename_i h1
    rw [if_pos h1]
  rename_i h1
  split at h
  · split at h
    · simp only at h; omega
    · simp only at h; omega
  split at h
  · split at h
    · simp only at h; omega
    · simp only at h; omega
  split at h
  · split at h
    · simp only at h; omega
    · simp only at h; omega
  · simp only at h; omega
theorem pts_small (l : List Nat) : ∀ x ∈ pts l, x < 128 → x ∈ l := by
  generalize hn : l.length = n
  induction n using Nat.strongRecOn generalizing l with
  | _ n ih =>
    by_cases h : l = []
    · subst h; simp [pts_nil]
    · rw [pts_cons h]
      intro x hx hs
      rcases List.mem_cons.1 hx with rfl | hx
      · rw [dec_small l hs]
        cases l with
        | nil => exact absurd rfl h
        | cons a r => simp
      · have h1 := dec_ge1 l
        have h2 := dec_len h
        exact List.mem_of_mem_drop (ih (l.drop (dec l).2).length (by rw [List.length_drop]; omega) _ rfl x hx hs)
theorem prepF_same : ∀ (l : List Nat) (s : List Nat × Nat), (∀ x ∈ l, x ≠ 0 ∧ x ≠ 12 ∧ x ≠ 13) → s.2 ≠ 13 → (l.foldl prS s).1 = s.1 ++ l
  | [], s, _, _ => by simp
  | x :: r, s, h, h2 => by
    obtain ⟨a, b, c⟩ := h x (by simp)
    have e : prS s x = (s.1 ++ [x], x) := by
      unfold prS
      rw [if_neg (fun e => h2 e.2), if_neg (by omega), if_neg a]
    rw [List.foldl_cons, e, prepF_same r _ (fun y hy => h y (by simp [hy])) c]
    simp
theorem keep_plain (l : List Nat) (h : ∀ x ∈ l, x ≠ 0 ∧ x ≠ 12 ∧ x ≠ 13) : prep l = pts l := by
  unfold prep prepS
  rw [prepF_same _ _ (fun x hx => ?_) (by decide)]
  · rfl
  · by_cases hs : x < 128
    · exact h x (pts_small l x hx hs)
    · omega

set_option maxHeartbeats 4000000 in
set_option maxRecDepth 100000 in
theorem keeps_any (l : List Nat) (p : Option Addr) (c : Nat) (w : World) (hT : Tabs w) (hb : ∀ x ∈ l, x < 256) (hr : RdB w p l) (hc : l.length ≤ c) (hm : c ≤ maxLen) :
    Calls Tryd.prog 5 #[.slice p l.length c] w fun e w' => e = .returned (.bool true) ∧ Fr (fun _ => False) w w' := by
  have AL := Lib.hid (alive_any w hT)
  have HT := Lib.hid hT
  have HB := Lib.hid hb
  have HR := Lib.hid hr
  have hm' := hm
  unfold maxLen at hm'
  clear hT hb hr
  go_enter Tryd.func5, Tryd.ntmps5
  go_wp2_with fail
  rename_i KK aa
  refine AL.out.mono ?_
  rintro e w1 ⟨rfl, f1⟩
  have F1 := Lib.hid f1
  clear AL f1
  show KK _ _
  apply aa
  by_cases hbig : 1000 < l.length
  · have d1 : decide ((1000 : Int) < (l.length : Int)) = true := by simp; omega
    go_wp2_with fail
    go_ret
    exact ⟨rfl, F1.out⟩
  have d1 : decide ((1000 : Int) < (l.length : Int)) = false := by simp; omega
  go_wp2_with fail
  go_loopw [4] (fun i wr => ∃ k : Nat, k ≤ l.length ∧ i = .int .i64 k ∧ Hid (∀ j x, j < k → l[j]? = some x → x ≠ 0 ∧ x ≠ 12 ∧ x ≠ 13) ∧ Hid (Fr (fun _ => False) w wr)) (fun i _ => l.length - (intOf i).toNat)
  case atStart => exact ⟨0, Nat.zero_le _, rfl, fun j x hj => by omega, F1.out⟩
  case round =>
    obtain ⟨k, hk, rfl, hA, hF⟩ := hrel
    clear F1
    obtain ⟨wo, rfl⟩ : ∃ wo : World, wo = wr := ⟨_, rfl⟩
    by_cases hlt : k < l.length
    · obtain ⟨x, hx⟩ : ∃ x, l[k]? = some x := ⟨l[k], List.getElem?_eq_getElem hlt⟩
      obtain ⟨g, off, rfl, y0⟩ := (HR.out.fr hF.out) k x hx
      have i1 : (k : Int) < (l.length : Int) := by omega
      have HX := Lib.hid hx
      clear hx
      by_cases h0 : x = 0
      · have q0 : ((x : Int) == 0) = true := by simp [h0]
        clear h0
        go_wp2_with fail
        go_ret
        exact ⟨rfl, hF.out⟩
      have q0 : ((x : Int) == 0) = false := by rw [beq_eq_false_iff_ne]; omega
      by_cases h12 : x = 12
      · have q1 : ((x : Int) == 12) = true := by simp [h12]
        clear h12 h0
        go_wp2_with fail
        go_ret
        exact ⟨rfl, hF.out⟩
      have q1 : ((x : Int) == 12) = false := by rw [beq_eq_false_iff_ne]; omega
      by_cases h13 : x = 13
      · have q2 : ((x : Int) == 13) = true := by simp [h13]
        clear h12 h0 h13
        go_wp2_with fail
        go_ret
        exact ⟨rfl, hF.out⟩
      have q2 : ((x : Int) == 13) = false := by rw [beq_eq_false_iff_ne]; omega
      have HA := Lib.hid (show ∀ j y, j < k + 1 → l[j]? = some y → y ≠ 0 ∧ y ≠ 12 ∧ y ≠ 13 from fun j y hj hy => by
        rcases Nat.lt_or_ge j k with e | e
        · exact hA.out j y e hy
        · obtain rfl : j = k := by omega
          rw [HX.out] at hy
          cases hy
          exact ⟨h0, h12, h13⟩)
      clear h0 h12 h13
      go_wp2_with fail
      go_roundw
      case rel => exact ⟨k + 1, by omega, by go_num, HA.out, hF.out⟩
      case measure => simp [intOf]; omega
    · obtain rfl : k = l.length := by omega
      have i1 : ¬ ((l.length : Int) < (l.length : Int)) := by omega
      have HK := Lib.hid (keep_plain l (fun x hx => by
        obtain ⟨j, hj, rfl⟩ := List.getElem_of_mem hx
        exact hA.out j _ hj (List.getElem?_eq_getElem hj)))
      have PR := Lib.hid (Prepare_any wo p c l (tabs_fr HT.out hF.out) HB.out (HR.out.fr hF.out) hc hm (by omega))
      have hpl := pts_len l
      rw [HK.out] at PR
      go_wp2_with (first
        | (go_at_call 15; refine Calls.mono PR.out ?_; rintro e w2 ⟨s1, k1, rfl, o1, f2⟩; have R1 := Lib.hid (RdN.win o1); have F2 := Lib.hid (hF.out.trans f2); have PT := Lib.hid (Points_any w2 p c l (tabs_fr HT.out (hF.out.trans f2)) HB.out (HR.out.fr (hF.out.trans f2)) hc hm (by omega)); clear o1 f2)
        | (go_at_call 13; refine Calls.mono PT.out ?_; rintro e w3 ⟨s2, k2, rfl, o2, f3⟩; have R2 := Lib.hid (RdN.win o2); have R1 := Lib.hid (R1.out.fr f3); have F3 := Lib.hid (F2.out.trans f3); clear o2 f3)
        | (go_at_call 12; refine Calls.mono (sameInts_any _ _ _ _ _ _ R1.out R2.out (by omega)) ?_; rintro e w4 ⟨rfl, f4⟩; have F4 := Lib.hid (F3.out.trans f4); clear f4))
      go_ret
      exact ⟨rfl, F4.out⟩

theorem textKeeps_walk (v : Value) (l : List Nat) (w : World) (hT : Tabs w) (h : IsB w v l) : Calls Tryd.prog 5 #[v] w fun e w' => e = .returned (.bool true) ∧ Below w.heap.size w w' := by
  obtain ⟨p, c, rfl, h1, h2, h3, h4⟩ := h
  exact (keeps_any l p c w hT h4 h3 h1 h2).mono fun _ _ h => ⟨h.1, h.2.below (Nat.le_refl _) (by simp)⟩
end Go.Proofs.YtfgmhpdhgepalaaDoor
