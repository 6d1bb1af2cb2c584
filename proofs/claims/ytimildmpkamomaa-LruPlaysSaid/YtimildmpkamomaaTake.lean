/- The reference's take: a key is taken out. -/
import Derived.Test.YtimildmpkamomaaLast
namespace Go.Proofs.Ytimildmpkamomaa
open Go.RowKit Go.Maps Go.ChangeShapes Go.WideShapes Go.ChangeAt Go.WideMaps Go.WideElems

/-- What of a cache's row is read at its k-th entry. -/
theorem entAt {w wr : World} {sp : Option Addr} {sc : Nat} {E : List Ent} {e : TypeId} (h : OwnsWin w 0 e 2 (.slice sp E.length sc) E.length (ents E)) (f : Fr (fun _ => False) w wr) (j : Nat) (hj : j < E.length) :
    ∃ g off, sp = some ⟨g, off, none⟩ ∧ g < w.heap.size ∧ wr.cell? ⟨g, off + j * 2, none⟩ = some (.int .i64 E[j].1) ∧ wr.cell? ⟨g, off + j * 2 + 1, none⟩ = some (.int .i64 E[j].2) := by
  obtain ⟨g, off, cap, hv, _, _, hg, _, hc, _⟩ := h.cells (by omega)
  cases hv
  obtain ⟨a0, a1⟩ := ents_at E j hj
  have q0 := hc _ _ a0
  have q1 := hc _ _ a1
  rw [← Nat.add_assoc] at q1
  exact ⟨g, off, rfl, hg, (f.cell (p := ⟨g, off + j * 2, none⟩) hg (by simp)).trans q0, (f.cell (p := ⟨g, off + j * 2 + 1, none⟩) hg (by simp)).trans q1⟩

set_option maxHeartbeats 4000000 in
set_option maxRecDepth 100000 in
theorem take_no (b : Nat) (S : Nat → Prop) (size : Int) (E : List Ent) (k : Int) (w : World) (h : IsCa 47 52 w b S size E) (hk : k ∉ E.map (·.1)) :
    Calls Try.prog 18 #[.pointer (some ⟨b, 0, none⟩), .int .i64 k] w fun e w' => e = .returned (.tuple #[.int .i64 0, .bool false]) ∧ w = w' := by
  obtain ⟨hlt, hSb, sp, sc, hb, hrow, hSr⟩ := h
  have hcl := hrow.capLe rfl
  obtain ⟨hc1, hc2⟩ := hcl
  unfold maxLen at hc2
  have c1 := cellOf hb 1
  simp at c1
  have HR := Lib.hid hrow
  have HK := Lib.hid hk
  clear hb hrow hSr hk
  go_enter Try.func18, Try.ntmps18
  go_wp2_with fail
  go_loop [6] (fun i => ∃ j : Nat, j ≤ E.length ∧ i = .int .i64 j) (fun i => E.length - (intOf i).toNat)
  case atStart => exact ⟨0, Nat.zero_le _, rfl⟩
  case round =>
    obtain ⟨j, hj, rfl⟩ := hrel
    by_cases hlt2 : j < E.length
    · obtain ⟨g, off, rfl, hg, x0, x1⟩ := entAt HR.out (Fr.refl _ w) j hlt2
      have hne : E[j].1 ≠ k := fun e => HK.out (by rw [← e]; exact List.mem_map_of_mem (List.getElem_mem hlt2))
      have i1 : (j : Int) < (E.length : Int) := by omega
      generalize E[j].1 = y at *
      generalize E[j].2 = z at *
      have q : (y == k) = false := by simp [hne]
      have HQ := Lib.hid hne
      clear hne
      go_wp2_with fail
      go_round
      case rel => exact ⟨j + 1, by omega, by go_num⟩
      case measure => simp [intOf]; omega
    · have hje : j = E.length := by omega
      have i1 : ¬ (j : Int) < (E.length : Int) := by omega
      go_wp2_with fail
      go_ret2
      exact ⟨rfl, rfl⟩

theorem hit_idx {E : List Ent} {k v : Int} (h : hitV E k = some v) : ∃ i, ∃ hi : i < E.length, E[i].1 = k ∧ E[i].2 = v ∧ rm E k = E.take i ++ E.drop (i + 1) ∧ ∀ j (hj : j < i), (E[j]'(by omega)).1 ≠ k := by
  unfold hitV at h
  cases hf : fndN E k with
  | none => rw [hf] at h; cases h
  | some i =>
    obtain ⟨hi, he⟩ := fndN_some hf
    rw [hf] at h
    simp only at h
    rw [List.getElem?_eq_getElem hi] at h
    have hf2 := hf
    unfold fndN at hf2
    rw [List.findIdx?_eq_some_iff_getElem] at hf2
    obtain ⟨_, _, h3⟩ := hf2
    exact ⟨i, hi, he, by simpa using h, by rw [rm_eq, hf]; exact eraseIdx_eq E i, fun j hj => by simpa using h3 j hj⟩

set_option maxHeartbeats 4000000 in
set_option maxRecDepth 100000 in
theorem take_yes (b : Nat) (S : Nat → Prop) (size : Int) (E : List Ent) (k v : Int) (w : World) (h : IsCa 47 52 w b S size E) (hn : E.length ≤ 1500) (hk : hitV E k = some v) :
    Calls Try.prog 18 #[.pointer (some ⟨b, 0, none⟩), .int .i64 k] w fun e w' => e = .returned (.tuple #[.int .i64 v, .bool true]) ∧ Fr S w w' ∧ IsCa 47 52 w' b (Gr S w w') size (rm E k) := by
  obtain ⟨i, hil, hEk, hEv, hrm, hno⟩ := hit_idx hk
  obtain ⟨hlt, hSb, sp, sc, hb, hrow, hSr⟩ := h
  obtain ⟨hc1, hc2⟩ := hrow.capLe rfl
  unfold maxLen at hc2
  obtain ⟨i9, hi, hz0, hz1, hz2⟩ := info_parts info52
  have c1 := cellOf hb 1
  have z1 := frozenOf hb 1
  simp at c1
  obtain ⟨g, off, rfl, hg, x0, x1⟩ := entAt hrow (Fr.refl _ w) i hil
  rw [hEk] at x0
  rw [hEv] at x1
  have X0 := Lib.hid x0
  have X1 := Lib.hid x1
  have HR := Lib.hid hrow
  have HB := Lib.hid hb
  have HSR := Lib.hid hSr
  have HNO := Lib.hid hno
  have HRM := Lib.hid hrm
  have HLT := Lib.hid hlt
  clear hb hrow hSr hk hno hrm hEk hEv hlt x0 x1
  go_enter Try.func18, Try.ntmps18
  go_wp2_with fail
  go_loop [6] (fun n => ∃ j : Nat, j ≤ i ∧ n = .int .i64 j) (fun n => i - (intOf n).toNat)
  case atStart => exact ⟨0, Nat.zero_le _, rfl⟩
  case round =>
    obtain ⟨j, hj, rfl⟩ := hrel
    by_cases hlt2 : j < i
    · have hjl : j < E.length := by omega
      obtain ⟨g', off', e', _, x0, x1⟩ := entAt HR.out (Fr.refl _ w) j hjl
      cases e'
      have hne := HNO.out j hlt2
      have i1 : (j : Int) < (E.length : Int) := by omega
      generalize E[j].1 = y at *
      generalize E[j].2 = z at *
      have q : (y == k) = false := by simp [hne]
      have HQ := Lib.hid hne
      clear hne
      go_wp2_with fail
      go_round
      case rel => exact ⟨j + 1, by omega, by go_num⟩
      case measure => simp [intOf]; omega
    · obtain rfl : j = i := by omega
      have x0 := X0.out
      have x1 := X1.out
      have i1 : (j : Int) < (E.length : Int) := by omega
      have q : (k == k) = true := by simp
      have j5 : (j : Int) + 1 ≤ (E.length : Int) := by omega
      have j7 : (0 : Int) ≤ (j : Int) + 1 := by omega
      have j8 : j ≤ sc := by omega
      have j9 : j + 1 ≤ E.length := by omega
      have j12 : j + 1 ≤ sc := by omega
      have j13 : (j : Int) ≤ (sc : Int) := by omega
      have SC := Lib.hid (Src.cut HR.out (j + 1) (by omega))
      by_cases hcap : sc = j + 1
      · have hEl : E.length = j + 1 := by omega
        have HEL := Lib.hid hEl
        clear hEl
        subst hcap
        have SC2 := Lib.hid (show Src w 2 (some ⟨g, off, none⟩) 0 [] from ⟨rfl, (by intro h; cases h), fun ad _ j u hj => by simp at hj⟩)
        have HN0 := Lib.hid (show ∀ u ∈ ([] : List Value), u.oneCell' = true by simp)
        have HN1 := Lib.hid (show ∀ u ∈ ([] : List Value), u.oneCell' = true by simp)
        go_wp2_with (first
          | (at_builtin; refine wpList_append_src _ rfl (.const (.slice none 0 0)) (.tmp 42) 45 rfl w.heap.size 52 i9 _ 2 16 Try.underlying45 hi hz0 hz1 hz2 rfl (by omega) (.slice none 0 0) 0 [] rfl (OwnsWin.nil _ _ _ _) (some ⟨g, off, none⟩) 0 _ [] rfl SC2.out HN0.out (by unfold maxLen; omega) (by omega) (Nat.le_refl _) ?_; intro spT scT w3 hownT hgrow3 _; have F3 := Lib.hid ((Fr.refl (fun _ => False) w).grown hgrow3 (fun k e => by simp [Value.ownBlock] at e)); have d1 := cellOf (F3.out.heap HB.out (by simp)) 1; simp at d1; rw [Nat.zero_add, List.nil_append] at hownT; have HT := Lib.hid hownT; have HS3 := Lib.hid (Src.of_win ((HR.out.fr F3.out (by simp)).take j (by omega))); clear hownT hgrow3)
          | (at_builtin; refine wpList_append_src _ rfl (.const (.slice none 0 0)) (.tmp 50) 45 rfl w.heap.size 52 i9 _ 2 16 Try.underlying45 hi hz0 hz1 hz2 rfl (by omega) (.slice none 0 0) 0 [] rfl (OwnsWin.nil _ _ _ _) (some ⟨g, off, none⟩) j (j + 1) _ rfl HS3.out (fun u hu => ents_cell E u (List.mem_of_mem_take hu)) (by unfold maxLen; omega) (by omega) F3.out.size ?_; intro spA scA w4 hownA hgrow4 _; have F34 := (Fr.refl (fun _ => False) w3).grown hgrow4 (fun k e => by simp [Value.ownBlock] at e); have F4 := Lib.hid (F3.out.trans F34); have HT4 := Lib.hid (HT.out.fr F34 (by simp)); rw [Nat.zero_add, List.nil_append] at hownA; have HA := Lib.hid hownA; have HST := Lib.hid (Src.of_win HT4.out); clear hownA hgrow4 F34)
          | (at_builtin; refine wpList_append_src _ rfl (.tmp 51) (.tmp 52) 45 rfl w.heap.size 52 i9 _ 2 16 Try.underlying45 hi hz0 hz1 hz2 rfl (by omega) (.slice spA j scA) j _ rfl HA.out spT 0 scT _ rfl HST.out HN1.out (by unfold maxLen; omega) (by omega) F4.out.size ?_; intro sp5 sc5 w5 hown5 hgrow5 _; have F5 := Lib.hid (F4.out.grown hgrow5 (fun k e => .inr (HA.out.lt k e).1)); have hb5 := F5.out.heap HB.out (by simp); have d5 := cellOf hb5 1; have y5 := frozenOf hb5 1; simp at d5; have HB5 := Lib.hid hb5; have HO5 := Lib.hid hown5; clear hown5 hgrow5 hb5))
        go_ret2
        refine ⟨rfl, IsCa.put (by decide) HLT.out hSb (F5.out.mono (fun _ _ e => e.elim)) ?_ HB5.out ?_ (fun j hj => .inr (HO5.out.lt j hj).1)⟩
        · rw [HRM.out, List.length_append, List.length_take, List.length_drop]; omega
        · have h9 := HO5.out.lower (base := 0) (Nat.zero_le _)
          rw [HRM.out, ents_append, ← ents_take, ← ents_drop]
          rw [List.drop_of_length_le (by rw [ents_len, HEL.out]; exact Nat.le_refl _)]
          simpa using h9
      · have hcap3 : (sc = j + 1) = False := by simpa using hcap
        have SC2 := Lib.hid (show Src w 2 (some ⟨g, off + (j + 1) * 2, none⟩) (E.length - (j + 1)) ((ents E).drop ((j + 1) * 2)) by
          have := SC.out
          rw [if_neg hcap] at this
          have e : (⟨g, off, none⟩ : Addr).add ((j + 1) * 2) = ⟨g, off + (j + 1) * 2, none⟩ := addOf _ _ rfl
          rw [← e]
          exact this)
        have HN0 := Lib.hid (show ∀ u ∈ (ents E).drop ((j + 1) * 2), u.oneCell' = true from fun u hu => ents_cell E u (List.mem_of_mem_drop hu))
        have HN1 := Lib.hid (show ∀ u ∈ (ents E).drop ((j + 1) * 2), u.oneCell' = true from fun u hu => ents_cell E u (List.mem_of_mem_drop hu))
        go_wp2_with (first
          | (at_builtin; refine wpList_append_src _ rfl (.const (.slice none 0 0)) (.tmp 42) 45 rfl w.heap.size 52 i9 _ 2 16 Try.underlying45 hi hz0 hz1 hz2 rfl (by omega) (.slice none 0 0) 0 [] rfl (OwnsWin.nil _ _ _ _) (some ⟨g, off + (j + 1) * 2, none⟩) (E.length - (j + 1)) _ _ rfl SC2.out HN0.out (by unfold maxLen; omega) (by omega) (Nat.le_refl _) ?_; intro spT scT w3 hownT hgrow3 _; have F3 := Lib.hid ((Fr.refl (fun _ => False) w).grown hgrow3 (fun k e => by simp [Value.ownBlock] at e)); have d1 := cellOf (F3.out.heap HB.out (by simp)) 1; simp at d1; rw [Nat.zero_add, List.nil_append] at hownT; have HT := Lib.hid hownT; have HS3 := Lib.hid (Src.of_win ((HR.out.fr F3.out (by simp)).take j (by omega))); clear hownT hgrow3)
          | (at_builtin; refine wpList_append_src _ rfl (.const (.slice none 0 0)) (.tmp 50) 45 rfl w.heap.size 52 i9 _ 2 16 Try.underlying45 hi hz0 hz1 hz2 rfl (by omega) (.slice none 0 0) 0 [] rfl (OwnsWin.nil _ _ _ _) (some ⟨g, off, none⟩) j sc _ rfl HS3.out (fun u hu => ents_cell E u (List.mem_of_mem_take hu)) (by unfold maxLen; omega) (by omega) F3.out.size ?_; intro spA scA w4 hownA hgrow4 _; have F34 := (Fr.refl (fun _ => False) w3).grown hgrow4 (fun k e => by simp [Value.ownBlock] at e); have F4 := Lib.hid (F3.out.trans F34); have HT4 := Lib.hid (HT.out.fr F34 (by simp)); rw [Nat.zero_add, List.nil_append] at hownA; have HA := Lib.hid hownA; have HST := Lib.hid (Src.of_win HT4.out); clear hownA hgrow4 F34)
          | (at_builtin; refine wpList_append_src _ rfl (.tmp 51) (.tmp 52) 45 rfl w.heap.size 52 i9 _ 2 16 Try.underlying45 hi hz0 hz1 hz2 rfl (by omega) (.slice spA j scA) j _ rfl HA.out spT (E.length - (j + 1)) scT _ rfl HST.out HN1.out (by unfold maxLen; omega) (by omega) F4.out.size ?_; intro sp5 sc5 w5 hown5 hgrow5 _; have F5 := Lib.hid (F4.out.grown hgrow5 (fun k e => .inr (HA.out.lt k e).1)); have hb5 := F5.out.heap HB.out (by simp); have d5 := cellOf hb5 1; have y5 := frozenOf hb5 1; simp at d5; have HB5 := Lib.hid hb5; have HO5 := Lib.hid hown5; clear hown5 hgrow5 hb5))
        go_ret2
        refine ⟨rfl, IsCa.put (by decide) HLT.out hSb (F5.out.mono (fun _ _ e => e.elim)) ?_ HB5.out ?_ (fun j hj => .inr (HO5.out.lt j hj).1)⟩
        · rw [HRM.out, List.length_append, List.length_take, List.length_drop]; omega
        · have h9 := HO5.out.lower (base := 0) (Nat.zero_le _)
          rw [HRM.out, ents_append, ← ents_take, ← ents_drop]
          simpa using h9
end Go.Proofs.Ytimildmpkamomaa
