/- The reference's New, Get, Put, Keys. -/
import Derived.Test.YtimildmpkamomaaTake
import Derived.BigQuiet
import Derived.Deep.QuietTactic
import Derived.Deep.RegionLaw
import Derived.IntWalk
namespace Go.Proofs.Ytimildmpkamomaa
open Go.RowKit Go.Maps Go.ChangeShapes Go.WideShapes Go.ChangeAt Go.WideMaps Go.WideElems

theorem RNew_any (n : Int) (w : World) : Calls Try.prog 8 #[.int .i64 n] w fun e w' => e = .returned (.pointer (some ⟨w.heap.size, 0, none⟩)) ∧ w' = w.alloc (.cells #[.int .i64 (capS n), .slice none 0 0] 47) := by
  by_cases h1 : n < 0
  · rw [show capS n = 0 by unfold capS; omega]
    go_enter Try.func8, Try.ntmps8
    go_wp2_with fail
    go_ret
    exact ⟨rfl, rfl⟩
  · by_cases h2 : 1024 < n
    · rw [show capS n = 1024 by unfold capS; omega]
      go_enter Try.func8, Try.ntmps8
      go_wp2_with fail
      go_ret
      exact ⟨rfl, rfl⟩
    · rw [show capS n = n by unfold capS; omega]
      go_enter Try.func8, Try.ntmps8
      go_wp2_with fail
      go_ret
      exact ⟨rfl, rfl⟩

/-- A literal slice of one entry. -/
theorem OwnsWin.lit (w : World) (base : Nat) (e : TypeId) (k v : Int) (hb : base ≤ w.heap.size) : OwnsWin (w.alloc (.cells #[.int .i64 k, .int .i64 v] e)) base e 2 (.slice (some ⟨w.heap.size, 0, none⟩) 1 1) 1 (ents [(k, v)]) := by
  refine ⟨rfl, .inr ⟨w.heap.size, 0, 1, _, rfl, hb, heapNew w _, Nat.le_refl _, by unfold maxLen; omega, by simp, fun j u hj => ?_⟩⟩
  rw [Nat.zero_add]
  simpa [ents] using hj

set_option maxHeartbeats 4000000 in
set_option maxRecDepth 100000 in
theorem RGet_no (b : Nat) (S : Nat → Prop) (size : Int) (E : List Ent) (k : Int) (w : World) (h : IsCa 47 52 w b S size E) (hk : k ∉ E.map (·.1)) :
    Calls Try.prog 12 #[.pointer (some ⟨b, 0, none⟩), .int .i64 k] w fun e w' => e = .returned (.tuple #[.int .i64 0, .bool false]) ∧ w = w' := by
  have PT := Lib.hid (take_no b S size E k w h hk)
  clear h hk
  go_enter Try.func12, Try.ntmps12
  go_wp2_with fail
  refine PT.out.mono ?_
  rintro e w' ⟨rfl, rfl⟩
  go_wp2_with fail
  go_ret2
  exact ⟨rfl, rfl⟩

set_option maxHeartbeats 4000000 in
set_option maxRecDepth 100000 in
theorem RGet_yes (b : Nat) (S : Nat → Prop) (size : Int) (E : List Ent) (k v : Int) (w : World) (h : IsCa 47 52 w b S size E) (hn : E.length ≤ 1400) (hk : hitV E k = some v) :
    Calls Try.prog 12 #[.pointer (some ⟨b, 0, none⟩), .int .i64 k] w fun e w' => e = .returned (.tuple #[.int .i64 v, .bool true]) ∧ Fr S w w' ∧ IsCa 47 52 w' b (Gr S w w') size ((k, v) :: rm E k) := by
  have PT := Lib.hid (take_yes b S size E k v w h (by omega) hk)
  have HLT := Lib.hid h.lt
  have hSb := h.mem
  have hl := rm_len E k
  clear h hk
  obtain ⟨i9, hi, hz0, hz1, hz2⟩ := info_parts info52
  generalize rm E k = E1 at *
  go_enter Try.func12, Try.ntmps12
  go_wp2_with fail
  refine PT.out.mono ?_
  rintro e w2 ⟨rfl, f2, k2⟩
  have F2 := Lib.hid f2
  obtain ⟨hlt2, hmem2, sp, sc, hb, hrow, hSr⟩ := k2
  have F3 := Lib.hid ((Fr.refl (fun _ => False) w2).alloc (.cells #[.int .i64 k, .int .i64 v] 52))
  have HB := Lib.hid (F3.out.heap hb (by simp))
  have HS := Lib.hid (Src.of_win (hrow.fr F3.out (by simp)))
  have HL := Lib.hid (OwnsWin.lit w2 w.heap.size 52 k v f2.size)
  have HB2 := Lib.hid hb
  have c1 := cellOf hb 1
  have c1a := cellOf HB.out 1
  simp at c1 c1a
  clear f2 hb hrow hSr hlt2 PT
  go_wp2_with (at_builtin; refine wpList_append_src _ rfl (.tmp 19) (.tmp 23) 45 rfl w.heap.size 52 i9 _ 2 16 Try.underlying45 hi hz0 hz1 hz2 rfl (by omega) (.slice (some ⟨w2.heap.size, 0, none⟩) 1 1) 1 _ rfl HL.out sp E1.length sc _ rfl HS.out (fun u hu => ents_cell E1 u hu) (by unfold maxLen; omega) (by omega) (Nat.le_trans F2.out.size F3.out.size) ?_; intro sp5 sc5 w5 hown5 hgrow5 hloc5; have F5 := Lib.hid (F3.out.grown hgrow5 (fun k e => .inr (by simp [Value.ownBlock] at e; omega))); have hb5 := F5.out.heap HB2.out (by simp); have d5 := cellOf hb5 1; have y5 := frozenOf hb5 1; simp at d5; have HB5 := Lib.hid hb5; have HO5 := Lib.hid hown5; clear hown5 hgrow5 hb5)
  go_ret2
  exact ⟨rfl, IsCa.put (by decide) HLT.out hSb (F2.out.trans (F5.out.mono (fun _ _ e => e.elim))) (by simp; omega) HB5.out (HO5.out.lower (Nat.zero_le _)) (fun j hj => .inr (HO5.out.lt j hj).1)⟩

theorem take_any (b : Nat) (S : Nat → Prop) (size : Int) (E : List Ent) (k : Int) (w : World) (h : IsCa 47 52 w b S size E) (hn : E.length ≤ 1500) :
    Calls Try.prog 18 #[.pointer (some ⟨b, 0, none⟩), .int .i64 k] w fun e w' => (∃ rv, e = .returned rv) ∧ Fr S w w' ∧ IsCa 47 52 w' b (Gr S w w') size (rm E k) := by
  cases hh : hitV E k with
  | some v => exact (take_yes b S size E k v w h hn hh).mono fun e w' ⟨h1, h2, h3⟩ => ⟨⟨_, h1⟩, h2, h3⟩
  | none =>
    have hm := hit_none_mem hh
    refine (take_no b S size E k w h hm).mono ?_
    rintro e w' ⟨rfl, rfl⟩
    rw [rm_none hm]
    exact ⟨⟨_, rfl⟩, Fr.refl _ _, h.grow (fun j hj => .inl hj) (Gr.lt h.lt (Nat.le_refl _))⟩

set_option maxHeartbeats 4000000 in
set_option maxRecDepth 100000 in
theorem RPut_any (b : Nat) (S : Nat → Prop) (size : Int) (E : List Ent) (k v : Int) (w : World) (h : IsCa 47 52 w b S size E) (hn : E.length ≤ 1400) (L : List Ent) (hL : L = (k, v) :: rm E k) :
    Calls Try.prog 10 #[.pointer (some ⟨b, 0, none⟩), .int .i64 k, .int .i64 v] w fun e w' =>
      e = .returned (.tuple (if (L.length : Int) ≤ size then #[.int .i64 0, .bool false] else #[.int .i64 ((L[L.length - 1]?.map (·.1)).getD 0), .bool true])) ∧
      Fr S w w' ∧ IsCa 47 52 w' b (Gr S w w') size (if (L.length : Int) ≤ size then L else L.take (L.length - 1)) := by
  have PT := Lib.hid (take_any b S size E k w h (by omega))
  have HLT := Lib.hid h.lt
  have hSb := h.mem
  have hl := rm_len E k
  have hLl : L.length = 1 + (rm E k).length := by rw [hL]; simp; omega
  have hEL : ents L = ents [(k, v)] ++ ents (rm E k) := by rw [hL]; rfl
  clear h hL
  obtain ⟨i9, hi, hz0, hz1, hz2⟩ := info_parts info52
  generalize rm E k = E1 at *
  have HEL := Lib.hid hEL
  clear hEL
  obtain ⟨m, hm⟩ : ∃ m, m = E1.length := ⟨_, rfl⟩
  have hLm : L.length = m + 1 := by omega
  have HLM := Lib.hid hLm
  have hlast : ∃ y z, L[m]? = some (y, z) := by
    have : m < L.length := by omega
    exact ⟨L[m].1, L[m].2, by rw [List.getElem?_eq_getElem this]⟩
  obtain ⟨y, z, hy⟩ := hlast
  have HY := Lib.hid hy
  have HY2 := Lib.hid (show (L[L.length - 1]?.map (·.1)).getD 0 = y by rw [hLm, Nat.add_sub_cancel, hy]; rfl)
  rw [HY2.out, hLm, Nat.add_sub_cancel]
  have hm2 : m ≤ 1400 := by omega
  have HM := Lib.hid hm
  clear hy hLm hLl hl hm
  by_cases hle : ((m + 1 : Nat) : Int) ≤ size
  · rw [if_pos hle, if_pos hle]
    have d1 : decide (size < ((m + 1 : Nat) : Int)) = false := by simp; omega
    have d2 : decide (size < (m : Int) + 1) = false := by simp; omega
    have d3 : ¬ size < (m : Int) + 1 := by omega
    go_enter Try.func10, Try.ntmps10
    go_wp2_with fail
    refine PT.out.mono ?_
    rintro e w2 ⟨⟨rv, rfl⟩, f2, k2⟩
    have F2 := Lib.hid f2
    obtain ⟨hlt2, hmem2, sp, sc, hb, hrow, hSr⟩ := k2
    rw [← HM.out] at hb hrow
    have F3 := Lib.hid ((Fr.refl (fun _ => False) w2).alloc (.cells #[.int .i64 k, .int .i64 v] 52))
    have HB2 := Lib.hid hb
    have HB := Lib.hid (F3.out.heap hb (by simp))
    have HS := Lib.hid (Src.of_win (hrow.fr F3.out (by simp)))
    have HL := Lib.hid (OwnsWin.lit w2 w.heap.size 52 k v f2.size)
    have c1 := cellOf hb 1
    have c1a := cellOf HB.out 1
    simp at c1 c1a
    clear f2 hb hrow hSr hlt2 PT
    go_wp2_with (at_builtin; refine wpList_append_src _ rfl (.tmp 16) (.tmp 20) 45 rfl w.heap.size 52 i9 _ 2 16 Try.underlying45 hi hz0 hz1 hz2 rfl (by omega) (.slice (some ⟨w2.heap.size, 0, none⟩) 1 1) 1 _ rfl HL.out sp m sc _ rfl HS.out (fun u hu => ents_cell E1 u hu) (by unfold maxLen; omega) (by omega) (Nat.le_trans F2.out.size F3.out.size) ?_; intro sp5 sc5 w5 hown5 hgrow5 hloc5; have F5 := Lib.hid (F3.out.grown hgrow5 (fun k e => .inr (by simp [Value.ownBlock] at e; omega))); have hb5 := F5.out.heap HB2.out (by simp); have d5 := cellOf hb5 1; have y5 := frozenOf hb5 1; simp at d5; rw [← HEL.out, Nat.add_comm 1 m] at hown5; rw [Nat.add_comm 1 m]; have HB5 := Lib.hid hb5; have HO5 := Lib.hid hown5; clear hown5 hgrow5 hb5)
    have KP := Lib.hid (IsCa.put (S := S) (w := w) (b := b) (E' := L) (sp' := sp5) (n' := m + 1) (sc' := sc5) (size := size) (T := 47) (e := 52) (by decide) HLT.out hSb (F2.out.trans (F5.out.mono (fun _ _ e => e.elim))) HLM.out.symm HB5.out (HO5.out.lower (Nat.zero_le _)) (fun j hj => .inr (HO5.out.lt j hj).1))
    have hb6 := heapSet HB5.out 1 (.slice sp5 (m + 1) sc5)
    have e0 := cellOf hb6 0
    have e1 := cellOf hb6 1
    have z1 := frozenOf hb6 1
    simp at e0 e1
    generalize w5.setCell ⟨b, 1, none⟩ (.slice sp5 (m + 1) sc5) = w6 at *
    go_quiet (fail)
    go_wp2_with fail
    go_ret2
    have fd : ∀ m, Fr (fun _ => False) w6 (w6.drewN m) := fun m => ⟨rfl, rfl, rfl, Nat.le_refl _, fun _ _ _ => rfl⟩
    have f3 : ∀ m, Fr S w (w6.drewN m) := fun m => KP.out.1.trans ((fd m).mono (fun _ _ e => e.elim))
    exact ⟨rfl, f3 _, (KP.out.2.fr (fd _) (by simp)).grow (fun j hj => hj) (Gr.lt HLT.out (f3 _).size)⟩
  · rw [if_neg hle, if_neg hle]
    have d1 : decide (size < ((m + 1 : Nat) : Int)) = true := by simp; omega
    have d2 : decide (size < (m : Int) + 1) = true := by simp; omega
    have d3 : size < (m : Int) + 1 := by omega
    go_enter Try.func10, Try.ntmps10
    go_wp2_with fail
    refine PT.out.mono ?_
    rintro e w2 ⟨⟨rv, rfl⟩, f2, k2⟩
    have F2 := Lib.hid f2
    obtain ⟨hlt2, hmem2, sp, sc, hb, hrow, hSr⟩ := k2
    rw [← HM.out] at hb hrow
    have F3 := Lib.hid ((Fr.refl (fun _ => False) w2).alloc (.cells #[.int .i64 k, .int .i64 v] 52))
    have HB2 := Lib.hid hb
    have HB := Lib.hid (F3.out.heap hb (by simp))
    have HS := Lib.hid (Src.of_win (hrow.fr F3.out (by simp)))
    have HL := Lib.hid (OwnsWin.lit w2 w.heap.size 52 k v f2.size)
    have c1 := cellOf hb 1
    have c1a := cellOf HB.out 1
    simp at c1 c1a
    clear f2 hb hrow hSr hlt2 PT
    go_wp2_with (at_builtin; refine wpList_append_src _ rfl (.tmp 16) (.tmp 20) 45 rfl w.heap.size 52 i9 _ 2 16 Try.underlying45 hi hz0 hz1 hz2 rfl (by omega) (.slice (some ⟨w2.heap.size, 0, none⟩) 1 1) 1 _ rfl HL.out sp m sc _ rfl HS.out (fun u hu => ents_cell E1 u hu) (by unfold maxLen; omega) (by omega) (Nat.le_trans F2.out.size F3.out.size) ?_; intro sp5 sc5 w5 hown5 hgrow5 hloc5; have F5 := Lib.hid (F3.out.grown hgrow5 (fun k e => .inr (by simp [Value.ownBlock] at e; omega))); have hb5 := F5.out.heap HB2.out (by simp); have d5 := cellOf hb5 1; have y5 := frozenOf hb5 1; simp at d5; rw [← HEL.out, Nat.add_comm 1 m] at hown5; rw [Nat.add_comm 1 m]; have HB5 := Lib.hid hb5; have HO5 := Lib.hid hown5; clear hown5 hgrow5 hb5)
    have KP := Lib.hid (IsCa.put (S := S) (w := w) (b := b) (E' := L) (sp' := sp5) (n' := m + 1) (sc' := sc5) (size := size) (T := 47) (e := 52) (by decide) HLT.out hSb (F2.out.trans (F5.out.mono (fun _ _ e => e.elim))) HLM.out.symm HB5.out (HO5.out.lower (Nat.zero_le _)) (fun j hj => .inr (HO5.out.lt j hj).1))
    have hb6 := heapSet HB5.out 1 (.slice sp5 (m + 1) sc5)
    have e0 := cellOf hb6 0
    have e1 := cellOf hb6 1
    have z1 := frozenOf hb6 1
    simp at e0 e1
    have hne5 := HO5.out.ne HB5.out (by intro c; simp)
    have HO6 := Lib.hid (HO5.out.fr ((Fr.refl (fun j => j = b) w5).setCell (p := ⟨b, 1, none⟩) (.inl rfl) (.slice sp5 (m + 1) sc5)) (fun j hj e => hne5 (by subst e; exact hj.symm)))
    generalize w5.setCell ⟨b, 1, none⟩ (.slice sp5 (m + 1) sc5) = w6 at *
    obtain ⟨g, off, cap, hv, hc1, hc2, hg, _, hcell, _⟩ := HO6.out.cells (by omega)
    cases hv
    unfold maxLen at hc2
    have hym : ∃ h : m < L.length, L[m] = (y, z) := by
      have := HY.out
      exact ⟨(List.getElem?_eq_some_iff.1 this).1, (List.getElem?_eq_some_iff.1 this).2⟩
    obtain ⟨hmL, hym⟩ := hym
    have a0 := (ents_at L m hmL).1
    rw [hym] at a0
    have x0 := hcell _ _ a0
    have HB6 := Lib.hid hb6
    simp only [List.setIfInBounds_toArray, List.set_cons_succ, List.set_cons_zero] at hb6
    have HB7 := Lib.hid hb6
    have q1 : IntKind.i64.wrap ((m : Int) + 1 - 1) = (m : Int) := by rw [Int.add_sub_cancel]; exact IntWalk.i64_in _ (by omega)
    have q1b : IntKind.i64.wrap (m : Int) = (m : Int) := IntWalk.i64_in _ (by omega)
    have q2 : (0 : Int) ≤ (m : Int) := by omega
    have q3 : (m : Int) < (m : Int) + 1 := by omega
    have q4 : (m : Int) ≤ (sc5 : Int) := by omega
    have q5 : m ≤ sc5 := by omega
    have q6 : m < m + 1 := by omega
    clear hb6 hcell a0 hym
    go_quiet (fail)
    go_wp2_with fail
    go_quiet (fail)
    go_wp2_with fail
    clear q1 q1b
    have q1b : IntKind.i64.wrap (m : Int) = (m : Int) := IntWalk.i64_in _ (by omega)
    go_region_law (fail)
    all_goals
      clear q1b
      go_wp2_with fail
      go_ret2
      have fd : ∀ m, Fr (fun _ => False) w6 (w6.drewN m) := fun m => ⟨rfl, rfl, rfl, Nat.le_refl _, fun _ _ _ => rfl⟩
      refine ⟨rfl, IsCa.put (by decide) HLT.out hSb (KP.out.1.trans ((fd _).mono (fun _ _ e => e.elim))) (by rw [List.length_take, HLM.out]; omega) ((fd _).heap HB7.out (by simp)) ?_ (fun j hj => .inr (HO6.out.lt j hj).1)⟩
      rw [← ents_take]
      exact ((HO6.out.fr (fd _) (by simp)).take m (by omega)).lower (Nat.zero_le _)
end Go.Proofs.Ytimildmpkamomaa
