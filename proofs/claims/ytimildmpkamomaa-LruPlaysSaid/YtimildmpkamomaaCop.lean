/- Get, Put, Len, New of a cache. -/
import Derived.Test.YtimildmpkamomaaPut
import Derived.BigQuiet
import Derived.Deep.QuietTactic
import Derived.Deep.RegionWith
namespace Go.Proofs.Ytimildmpkamomaa
open Go.RowKit Go.Maps Go.ChangeShapes Go.WideShapes Go.ChangeAt Go.WideMaps Go.WideElems

/-- What a key has. -/
def hitV (E : List Ent) (k : Int) : Option Int := match fndN E k with | some i => E[i]?.map (·.2) | none => none

theorem Gr.up {S : Nat → Prop} {w wx w' : World} {k : Nat} (h : Gr S wx w' k) (hs : w.heap.size ≤ wx.heap.size) : Gr S w w' k := by
  rcases h with h | h
  · exact .inl h
  · exact .inr ⟨by omega, h.2⟩
theorem IsCa.grow {T e : TypeId} {S S' : Nat → Prop} {w : World} {b : Nat} {size : Int} {E : List Ent} (h : IsCa T e w b S size E) (hS : ∀ k, S k → S' k) (hlt : ∀ k, S' k → k < w.heap.size) : IsCa T e w b S' size E := by
  obtain ⟨_, hm, sp, sc, h1, h2, h3⟩ := h
  exact ⟨hlt, hS _ hm, sp, sc, h1, h2, fun k hk => hS _ (h3 k hk)⟩

theorem Len_any (b : Nat) (S : Nat → Prop) (size : Int) (E : List Ent) (w : World) (h : IsCa 44 50 w b S size E) :
    Calls Try.prog 16 #[.pointer (some ⟨b, 0, none⟩)] w fun e w' => e = .returned (.int .i64 (E.length : Nat)) ∧ w = w' := by
  obtain ⟨hlt, hSb, sp, sc, hb, hrow, hSr⟩ := h
  have c1 := cellOf hb 1
  simp at c1
  clear hb hrow hSr
  go_enter Try.func16, Try.ntmps16
  go_wp2_with fail
  go_ret
  exact ⟨rfl, rfl⟩

/-- The size that is kept. -/
def capS (n : Int) : Int := min (max 0 n) 1024

theorem New_any (n : Int) (w : World) : Calls Try.prog 7 #[.int .i64 n] w fun e w' => e = .returned (.pointer (some ⟨w.heap.size, 0, none⟩)) ∧ w' = w.alloc (.cells #[.int .i64 (capS n), .slice none 0 0] 44) := by
  by_cases h1 : 0 < n
  · by_cases h2 : n < 1024
    · rw [show capS n = n by unfold capS; omega]
      go_enter Try.func7, Try.ntmps7
      go_wp2_with fail
      go_ret
      exact ⟨rfl, rfl⟩
    · rw [show capS n = 1024 by unfold capS; omega]
      obtain h3 | h3 : n = 1024 ∨ 1024 < n := by omega
      · subst h3
        go_enter Try.func7, Try.ntmps7
        go_wp2_with fail
        go_ret
        exact ⟨rfl, rfl⟩
      go_enter Try.func7, Try.ntmps7
      go_wp2_with fail
      go_ret
      exact ⟨rfl, rfl⟩
  · rw [show capS n = 0 by unfold capS; omega]
    go_enter Try.func7, Try.ntmps7
    go_wp2_with fail
    go_ret
    exact ⟨rfl, rfl⟩

set_option maxHeartbeats 2000000 in
set_option maxRecDepth 100000 in
theorem Get_no (b : Nat) (S : Nat → Prop) (size : Int) (E : List Ent) (k : Int) (w : World) (h : IsCa 44 50 w b S size E) (hn : E.length ≤ 1500) (hk : hitV E k = none) :
    Calls Try.prog 11 #[.pointer (some ⟨b, 0, none⟩), .int .i64 k] w fun e w' => e = .returned (.tuple #[.int .i64 0, .bool false]) ∧ Fr (fun _ => False) w w' := by
  have hf : fnd E k = -1 := by
    unfold fnd
    cases hfn : fndN E k with
    | none => rfl
    | some i =>
      obtain ⟨hi, _⟩ := fndN_some hfn
      unfold hitV at hk
      rw [hfn] at hk
      simp only at hk
      rw [List.getElem?_eq_getElem hi] at hk
      cases hk
  have PF := Lib.hid (find_any b S size E k w h (by omega))
  rw [hf] at PF
  clear hf hk
  go_enter Try.func11, Try.ntmps11
  go_wp2_with fail
  refine PF.out.mono ?_
  rintro e w2 ⟨rfl, f2⟩
  have F2 := Lib.hid f2
  clear f2 PF
  go_wp2_with fail
  go_ret2
  exact ⟨rfl, F2.out⟩

set_option maxHeartbeats 4000000 in
set_option maxRecDepth 100000 in
theorem Get_yes (b : Nat) (S : Nat → Prop) (size : Int) (E : List Ent) (k v : Int) (w : World) (h : IsCa 44 50 w b S size E) (hn : E.length ≤ 1500) (hk : hitV E k = some v) :
    Calls Try.prog 11 #[.pointer (some ⟨b, 0, none⟩), .int .i64 k] w fun e w' => e = .returned (.tuple #[.int .i64 v, .bool true]) ∧ Fr S w w' ∧ IsCa 44 50 w' b (Gr S w w') size (rm E k ++ [(k, v)]) := by
  obtain ⟨i, hil, hf, hEk, hEv⟩ : ∃ i, ∃ hi : i < E.length, fnd E k = i ∧ E[i].1 = k ∧ E[i].2 = v := by
    unfold hitV at hk
    cases hfn : fndN E k with
    | none => rw [hfn] at hk; cases hk
    | some i =>
      obtain ⟨hi, he⟩ := fndN_some hfn
      rw [hfn] at hk
      simp only at hk
      rw [List.getElem?_eq_getElem hi] at hk
      exact ⟨i, hi, by unfold fnd; rw [hfn], he, by simpa using hk⟩
  have PF := Lib.hid (find_any b S size E k w h (by omega))
  rw [hf] at PF
  have HC := Lib.hid h
  have hb0 := h.lt b h.mem
  have HLT := Lib.hid h.lt
  obtain ⟨hlt, hSb, sp, sc, hb, hrow, hSr⟩ := h
  obtain ⟨g, off, cap, hv, _, _, hgl, _, hcell, _⟩ := hrow.cells (by omega)
  cases hv
  obtain ⟨a0, a1⟩ := ents_at E i hil
  have x0 := hcell _ _ a0
  have x1 := hcell _ _ a1
  rw [hEk] at x0
  rw [hEv, ← Nat.add_assoc] at x1
  have c1 := cellOf hb 1
  simp at c1
  have HX := Lib.hid (And.intro x0 (And.intro x1 c1))
  have i1 : (i : Int) < (E.length : Int) := by omega
  have i2 : ¬ (i : Int) < 0 := by omega
  clear hb hrow hSr hf hEk hEv hk hcell a0 a1 x0 x1 c1 hlt
  go_enter Try.func11, Try.ntmps11
  go_wp2_with fail
  refine PF.out.mono ?_
  rintro e w2 ⟨rfl, f2⟩
  obtain ⟨x0, x1, c1⟩ := HX.out
  have y0 := (f2.cell (p := ⟨g, off + i * 2, none⟩) hgl (by simp)).trans x0
  have y1 := (f2.cell (p := ⟨g, off + i * 2 + 1, none⟩) hgl (by simp)).trans x1
  have y2 := (f2.cell (p := ⟨b, 1, none⟩) hb0 (by simp)).trans c1
  have hnb := heapNew w2 (.cells #[.int .i64 k, .int .i64 v] 50)
  have F3 := Lib.hid ((f2.alloc (.cells #[.int .i64 k, .int .i64 v] 50)).drew)
  have PP := Lib.hid (put_any b S size E k v _ (HC.out.fr F3.out (by simp)) hn)
  have z0 := cellOf hnb 0
  have z1 := cellOf hnb 1
  simp at z0 z1
  have HNB := Lib.hid hnb
  have HW2 := Lib.hid f2.size
  clear x0 x1 c1 hnb HX f2 PF
  go_wp2_with fail
  go_region_with (go_at_call 17; refine Calls.mono PP.out ?_; rintro e w6 ⟨rfl, f6, k6⟩; have q1 := cellOf (f6.heap (heapDrew HNB.out) (fun e => by have := HLT.out _ e; have := HW2.out; omega)) 1; simp at q1; have F6 := Lib.hid f6; have K6 := Lib.hid k6; clear f6 k6)
  all_goals
    go_wp2_with fail
    go_ret2
    have f7 : Fr S w w6 := (F3.out.mono (fun _ _ e => e.elim)).trans F6.out
    exact ⟨rfl, f7, K6.out.grow (fun j hj => hj.up F3.out.size) (Gr.lt HLT.out f7.size)⟩

set_option maxHeartbeats 4000000 in
set_option maxRecDepth 100000 in
theorem Put_any (b : Nat) (S : Nat → Prop) (size : Int) (E : List Ent) (k v : Int) (w : World) (h : IsCa 44 50 w b S size E) (hn : E.length ≤ 1400) :
    Calls Try.prog 9 #[.pointer (some ⟨b, 0, none⟩), .int .i64 k, .int .i64 v] w fun e w' =>
      e = .returned (.tuple (if ((rm E k ++ [(k, v)]).length : Int) ≤ size then #[.int .i64 0, .bool false] else #[.int .i64 (((rm E k ++ [(k, v)])[0]?.map (·.1)).getD 0), .bool true])) ∧
      Fr S w w' ∧ IsCa 44 50 w' b (Gr S w w') size (if ((rm E k ++ [(k, v)]).length : Int) ≤ size then rm E k ++ [(k, v)] else (rm E k ++ [(k, v)]).drop 1) := by
  have PP := Lib.hid (put_any b S size E k v w h (by omega))
  have hlen : (rm E k ++ [(k, v)]).length ≤ 1401 ∧ 1 ≤ (rm E k ++ [(k, v)]).length := by
    have := rm_len E k
    simp
    omega
  have hb0 := h.lt b h.mem
  have HLT := Lib.hid h.lt
  have HMB := Lib.hid h.mem
  clear h
  generalize rm E k ++ [(k, v)] = E1 at *
  by_cases hle : (E1.length : Int) ≤ size
  · rw [if_pos hle, if_pos hle]
    have d1 : decide ((E1.length : Int) ≤ size) = true := by simpa using hle
    go_enter Try.func9, Try.ntmps9
    go_wp2_with fail
    refine PP.out.mono ?_
    rintro e w2 ⟨rfl, f2, k2⟩
    have F2 := Lib.hid f2
    have K2 := Lib.hid k2
    obtain ⟨_, _, sp, sc, hb, _, _⟩ := k2
    have c0 := cellOf hb 0
    simp at c0
    have PL := Lib.hid (fun m => Len_any b _ size E1 (w2.drewN m) (K2.out.fr (⟨rfl, rfl, rfl, Nat.le_refl _, fun _ _ _ => rfl⟩ : Fr (fun _ => False) w2 (w2.drewN m)) (by simp)))
    clear f2 hb PP
    go_wp2_with fail
    go_quiet ((go_at_call 16; exact Calls.quiet_of_same ((PL.out _).mono fun _ _ h => ⟨h.1, h.2.symm⟩)))
    go_wp2_with fail
    go_ret2
    have fd : ∀ m, Fr (fun _ => False) w2 (w2.drewN m) := fun m => ⟨rfl, rfl, rfl, Nat.le_refl _, fun _ _ _ => rfl⟩
    have f3 : ∀ m, Fr S w (w2.drewN m) := fun m => F2.out.trans ((fd m).mono (fun _ _ e => e.elim))
    exact ⟨rfl, f3 _, (K2.out.fr (fd _) (by simp)).grow (fun j hj => hj) (Gr.lt HLT.out (f3 _).size)⟩
  · rw [if_neg hle, if_neg hle]
    have d1 : decide ((E1.length : Int) ≤ size) = false := by simpa using hle
    have hh : ∃ p r, E1 = p :: r := by
      cases E1 with
      | nil => simp at hlen
      | cons p r => exact ⟨p, r, rfl⟩
    obtain ⟨⟨pk, pv⟩, r, hpr⟩ := hh
    have HPR := Lib.hid hpr
    clear hpr
    have HG := Lib.hid (show (E1[0]?.map (·.1)).getD 0 = pk by rw [HPR.out]; rfl)
    rw [HG.out]
    go_enter Try.func9, Try.ntmps9
    go_wp2_with fail
    refine PP.out.mono ?_
    rintro e w2 ⟨rfl, f2, k2⟩
    have F2 := Lib.hid f2
    have K2 := Lib.hid k2
    have PL := Lib.hid (fun m => Len_any b _ size E1 (w2.drewN m) (K2.out.fr (⟨rfl, rfl, rfl, Nat.le_refl _, fun _ _ _ => rfl⟩ : Fr (fun _ => False) w2 (w2.drewN m)) (by simp)))
    obtain ⟨_, _, sp, sc, hb, hrow, hSr⟩ := k2
    obtain ⟨g, off, cap, hv, hc1, hc2, hgl, _, hcell, _⟩ := hrow.cells (by omega)
    cases hv
    unfold maxLen at hc2
    have x0 := hcell 0 (.int .i64 pk) (by rw [HPR.out]; rfl)
    rw [Nat.add_zero] at x0
    have c0 := cellOf hb 0
    have c1 := cellOf hb 1
    have z1 := frozenOf hb 1
    simp at c0 c1
    have HB := Lib.hid hb
    have HR := Lib.hid hrow
    have HS := Lib.hid hSr
    clear f2 hb PP hcell hrow hSr
    have j1 : (0 : Int) < (E1.length : Int) := by omega
    have j2 : (1 : Int) ≤ (E1.length : Int) := by omega
    have j3 : 1 ≤ E1.length := by omega
    have j4 : 1 ≤ sc := by omega
    have j5 : (1 : Int) ≤ (sc : Int) := by omega
    go_wp2_with fail
    go_quiet ((go_at_call 16; exact Calls.quiet_of_same ((PL.out _).mono fun _ _ h => ⟨h.1, h.2.symm⟩)))
    have fd : ∀ m, Fr (fun _ => False) w2 (w2.drewN m) := fun m => ⟨rfl, rfl, rfl, Nat.le_refl _, fun _ _ _ => rfl⟩
    have f3 : ∀ m, Fr S w (w2.drewN m) := fun m => F2.out.trans ((fd m).mono (fun _ _ e => e.elim))
    have F3 := Lib.hid f3
    have HR3 := Lib.hid (fun m => HR.out.fr (fd m) (by simp))
    have HB3 := Lib.hid (fun m => (fd m).heap HB.out (by simp))
    have HLO := Lib.hid (show ∀ j, (Value.slice (some ⟨g, off, none⟩) E1.length sc).ownBlock = some j → S j ∨ w.heap.size ≤ j from fun j hj => by
      rcases HS.out j hj with h | h
      · exact .inl h
      · exact .inr h.1)
    clear fd f3
    by_cases hcap : sc = 1
    · subst hcap
      have hE1 : E1.length = 1 := by omega
      have HE1 := Lib.hid hE1
      clear hE1
      go_wp2_with fail
      go_ret2
      refine ⟨rfl, IsCa.put (by decide) HLT.out HMB.out (F3.out _) (by rw [List.length_drop, HE1.out]) (HB3.out _) ?_ HLO.out⟩
      rw [List.drop_of_length_le (by rw [HE1.out]; exact Nat.le_refl _)]
      exact (HR3.out _).dropAll
    · have hcap3 : (sc = 1) = False := by simpa using hcap
      go_wp2_with fail
      go_ret2
      refine ⟨rfl, IsCa.put (by decide) HLT.out HMB.out (F3.out _) (by rw [List.length_drop]) (HB3.out _) ?_ HLO.out⟩
      have h9 := (HR3.out ‹Nat›).drop 1 (by omega)
      rw [ents_drop, Nat.one_mul] at h9
      exact h9
end Go.Proofs.Ytimildmpkamomaa
