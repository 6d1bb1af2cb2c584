/- The reference's tree, read: Parent, Depth, Place, Before, Children. -/
import Derived.Test.YtdbhcogafhhlnaaDRead
import Derived.IntWalk
namespace Go.Proofs.Ytdbhcogafhhlnaa.R
open Go.RowKit Go.Maps Go.ChangeShapes Go.WideShapes Go.ChangeAt Go.WideMaps Go.WideElems

set_option maxHeartbeats 1000000 in
theorem Parent_yes (wr : World) (tb : Nat) (ds : List NodeD) {spN spD : Option Addr} {cN cD : Nat} (h : RV wr tb ds spN cN spD cD) (k : Nat) (d : NodeD) (hd : ds[k]? = some d) :
    Calls Try.prog 29 #[.pointer (some ⟨tb, 0, none⟩), .int .i64 (k : Int)] wr fun en w' => en = .returned (.int .i64 d.par) ∧ w' = wr := by
  have hk : k < ds.length := (List.getElem?_eq_some_iff.1 hd).1
  have IS := Lib.hid (is_yes wr tb ds h k hk)
  have t0 := h.c0
  obtain ⟨g, off, sp, c, q, o, rfl, hc1, hc2, a0, -⟩ := h.nd k d hd
  clear h hd
  generalize ds.length = n at *
  have q1 : (k : Int) < (n : Int) := by omega
  go_enter Try.func29, Try.ntmps29
  go_wp2_with (go_at_call 40; refine IS.out.mono ?_; rintro e w' ⟨rfl, rfl⟩)
  go_ret
  exact ⟨rfl, rfl⟩
set_option maxHeartbeats 1000000 in
theorem Parent_no (wr : World) (tb : Nat) (ds : List NodeD) {spN spD : Option Addr} {cN cD : Nat} (h : RV wr tb ds spN cN spD cD) (e : Int) (hk : e < 0 ∨ (ds.length : Int) ≤ e) :
    Calls Try.prog 29 #[.pointer (some ⟨tb, 0, none⟩), .int .i64 e] wr fun en w' => en = .returned (.int .i64 (-1)) ∧ w' = wr := by
  have IS := Lib.hid (is_no wr tb ds h e hk)
  clear h
  go_enter Try.func29, Try.ntmps29
  go_wp2_with (go_at_call 40; refine IS.out.mono ?_; rintro e w' ⟨rfl, rfl⟩)
  go_ret
  exact ⟨rfl, rfl⟩
set_option maxHeartbeats 1000000 in
theorem Depth_yes (wr : World) (tb : Nat) (ds : List NodeD) {spN spD : Option Addr} {cN cD : Nat} (h : RV wr tb ds spN cN spD cD) (k : Nat) (v : Int) (hd : (dps ds ds.length)[k]? = some v) :
    Calls Try.prog 30 #[.pointer (some ⟨tb, 0, none⟩), .int .i64 (k : Int)] wr fun en w' => en = .returned (.int .i64 v) ∧ w' = wr := by
  have hk := (List.getElem?_eq_some_iff.1 hd).1
  rw [dps_len] at hk
  have IS := Lib.hid (is_yes wr tb ds h k hk)
  have t1 := h.c1
  obtain ⟨g, off, rfl, hc1, hc2, a0⟩ := h.dp k v hd
  clear h hd
  generalize ds.length = n at *
  have q1 : (k : Int) < (n : Int) := by omega
  go_enter Try.func30, Try.ntmps30
  go_wp2_with (go_at_call 40; refine IS.out.mono ?_; rintro e w' ⟨rfl, rfl⟩)
  go_ret
  exact ⟨rfl, rfl⟩
set_option maxHeartbeats 1000000 in
theorem Depth_no (wr : World) (tb : Nat) (ds : List NodeD) {spN spD : Option Addr} {cN cD : Nat} (h : RV wr tb ds spN cN spD cD) (e : Int) (hk : e < 0 ∨ (ds.length : Int) ≤ e) :
    Calls Try.prog 30 #[.pointer (some ⟨tb, 0, none⟩), .int .i64 e] wr fun en w' => en = .returned (.int .i64 0) ∧ w' = wr := by
  have IS := Lib.hid (is_no wr tb ds h e hk)
  clear h
  go_enter Try.func30, Try.ntmps30
  go_wp2_with (go_at_call 40; refine IS.out.mono ?_; rintro e w' ⟨rfl, rfl⟩)
  go_ret
  exact ⟨rfl, rfl⟩

/-- The count goes on. -/
theorem place_step {ds : List NodeD} {p : Int} {i : Nat} {d : NodeD} (h : ds[i]? = some d) : ((kidL ds p (i + 1)).length : Int) = (kidL ds p i).length + if d.par = p then 1 else 0 := by
  have hp := parN_at h
  by_cases e : d.par = p
  · rw [if_pos e, kidL_yes (hp.trans e)]; simp
  · rw [if_neg e, kidL_no (by rw [hp]; exact e)]; simp
theorem fr_drewN (w : World) (n : Nat) : Fr (fun _ => False) w (w.drewN n) := ⟨rfl, rfl, rfl, Nat.le_refl _, fun _ _ _ => rfl⟩
set_option maxHeartbeats 4000000 in
set_option maxRecDepth 100000 in
theorem Place_yes (wr : World) (tb : Nat) (ds : List NodeD) {spN spD : Option Addr} {cN cD : Nat} (h : RV wr tb ds spN cN spD cD) (hg : Good ds ds.length) (k : Nat) (d : NodeD) (hd : ds[k]? = some d) :
    Calls Try.prog 31 #[.pointer (some ⟨tb, 0, none⟩), .int .i64 (k : Int)] wr fun en w' => en = .returned (.int .i64 ((kidL ds d.par k).length + 1)) ∧ Fr (fun _ => False) wr w' := by
  have hk : k < ds.length := (List.getElem?_eq_some_iff.1 hd).1
  have IS := Lib.hid (is_yes wr tb ds h k hk)
  have t0 := h.c0
  have hpk := hg k hk
  rw [parN_at hd] at hpk
  obtain ⟨g, off, sp, c, q, o, rfl, hc1, hc2, a0, -⟩ := h.nd k d hd
  have ND := Lib.hid h.nd
  have i1 : (k : Int) < (ds.length : Int) := by omega
  unfold maxLen at hc2
  have K1 := Lib.hid (show 0 < k → kidL ds d.par 1 = [] from fun e => by
    refine kidL_none fun j hj => ?_
    obtain rfl : j = 0 := by omega
    rw [(hg 0 (by omega)).1 rfl]; have := hpk.2 e; omega)
  have K0 := Lib.hid (show kidL ds d.par 0 = [] from rfl)
  clear h hd hpk hg
  generalize d.par = p at *
  go_enter Try.func31, Try.ntmps31
  go_wp2_with (go_at_call 40; refine IS.out.mono ?_; rintro e w' ⟨rfl, rfl⟩)
  go_loopw [5, 6] (fun m i wq => ∃ (c s : Nat), 1 ≤ c ∧ (c ≤ k ∨ c = 1) ∧ i = .int .i64 c ∧ m = .int .i64 ((s : Int) + 1) ∧ Hid (0 < k → s = (kidL ds p c).length) ∧ s ≤ c ∧ Hid (k = 0 → s = 0) ∧ (∃ n, wq = w'.drewN n)) (fun _ i _ => k - (intOf i).toNat)
  case atStart => exact ⟨1, 0, by omega, by omega, rfl, rfl, fun e => by rw [K1.out e]; rfl, by omega, fun _ => rfl, 0, rfl⟩
  case round =>
    obtain ⟨c, s, hc0, hck, rfl, rfl, hs, hsc, hs0, n, rfl⟩ := hrel
    have HW := Lib.hid (show ∀ m, (w'.drewN n).drewN m = w'.drewN (n + m) from fun m => World.drewN_drewN _ _ _)
    have hF := Lib.hid (fr_drewN w' n)
    by_cases hlt : c < k
    · have hcl : c < ds.length := by omega
      obtain ⟨dc, hdc⟩ : ∃ dc, ds[c]? = some dc := ⟨ds[c], List.getElem?_eq_getElem hcl⟩
      obtain ⟨_, _, _, _, _, _, e, _, _, b0, -⟩ := ND.out c dc hdc
      cases e
      have HST := Lib.hid (place_step (p := p) hdc)
      have x0 := cellFr0 hF.out a0
      have y0 := cellFr0 hF.out b0
      have z0 := cellFr0 hF.out t0
      clear a0 b0 t0 hdc
      generalize dc.par = pc at *
      generalize w'.drewN n = w9 at *
      have i2 : (c : Int) < (ds.length : Int) := by omega
      have i3 : (c : Int) < (k : Int) := by omega
      by_cases hpc : pc = p
      · subst hpc
        go_wp2_with fail
        go_quiet (fail)
        go_wp2_with fail
        go_roundw
        case rel => exact ⟨c + 1, s + 1, by omega, by omega, by go_num, by go_num, fun e => by have := hs.out e; have := HST.out; simp only [if_true] at this; omega, by omega, fun e => by omega, _, HW.out _⟩
        case measure => simp [intOf]; omega
      · have qn : (pc == p) = false := by simpa using hpc
        go_wp2_with fail
        go_quiet (fail)
        go_wp2_with fail
        go_roundw
        case rel => exact ⟨c + 1, s, by omega, by omega, by go_num, rfl, fun e => by have := hs.out e; have := HST.out; rw [if_neg hpc] at this; omega, by omega, hs0.out, _, HW.out _⟩
        case measure => simp [intOf]; omega
    · have HE := Lib.hid (show ((s : Int) + 1) = (kidL ds p k).length + 1 by
        rcases Nat.eq_zero_or_pos k with e | e
        · rw [e, K0.out, hs0.out e]; rfl
        · obtain rfl : c = k := by omega
          rw [hs.out e])
      have i3 : ¬ (c : Int) < (k : Int) := by omega
      go_wp2_with fail
      go_ret
      exact ⟨congrArg (fun z => Ending.returned (.int .i64 z)) HE.out, hF.out⟩
set_option maxHeartbeats 1000000 in
theorem Place_no (wr : World) (tb : Nat) (ds : List NodeD) {spN spD : Option Addr} {cN cD : Nat} (h : RV wr tb ds spN cN spD cD) (e : Int) (hk : e < 0 ∨ (ds.length : Int) ≤ e) :
    Calls Try.prog 31 #[.pointer (some ⟨tb, 0, none⟩), .int .i64 e] wr fun en w' => en = .returned (.int .i64 0) ∧ w' = wr := by
  have IS := Lib.hid (is_no wr tb ds h e hk)
  clear h
  go_enter Try.func31, Try.ntmps31
  go_wp2_with (go_at_call 40; refine IS.out.mono ?_; rintro e w' ⟨rfl, rfl⟩)
  go_ret
  exact ⟨rfl, rfl⟩
set_option maxHeartbeats 1000000 in
theorem Before_no (wr : World) (tb : Nat) (ds : List NodeD) {spN spD : Option Addr} {cN cD : Nat} (h : RV wr tb ds spN cN spD cD) (e : Int) (hk : e < 0 ∨ (ds.length : Int) ≤ e) :
    Calls Try.prog 32 #[.pointer (some ⟨tb, 0, none⟩), .int .i64 e] wr fun en w' => en = .returned (.int .i64 (-1)) ∧ w' = wr := by
  have IS := Lib.hid (is_no wr tb ds h e hk)
  clear h
  go_enter Try.func32, Try.ntmps32
  go_wp2_with (go_at_call 40; refine IS.out.mono ?_; rintro e w' ⟨rfl, rfl⟩)
  go_ret
  exact ⟨rfl, rfl⟩
set_option maxHeartbeats 4000000 in
set_option maxRecDepth 100000 in
theorem Before_yes (wr : World) (tb : Nat) (ds : List NodeD) {spN spD : Option Addr} {cN cD : Nat} (h : RV wr tb ds spN cN spD cD) (hg : Good ds ds.length) (k : Nat) (d : NodeD) (hd : ds[k]? = some d) :
    Calls Try.prog 32 #[.pointer (some ⟨tb, 0, none⟩), .int .i64 (k : Int)] wr fun en w' => en = .returned (.int .i64 ((kidL ds d.par k).getLastD (-1))) ∧ Fr (fun _ => False) wr w' := by
  have hk : k < ds.length := (List.getElem?_eq_some_iff.1 hd).1
  have IS := Lib.hid (is_yes wr tb ds h k hk)
  rcases Nat.eq_zero_or_pos k with hk0 | hk0
  · have q0 : ((k : Int) == 0) = true := by simp [hk0]
    have HE := Lib.hid (show (-1 : Int) = (kidL ds d.par k).getLastD (-1) by rw [hk0]; rfl)
    clear h hd hk0
    go_enter Try.func32, Try.ntmps32
    go_wp2_with (go_at_call 40; refine IS.out.mono ?_; rintro e w' ⟨rfl, rfl⟩)
    go_ret
    exact ⟨congrArg (fun z => Ending.returned (.int .i64 z)) HE.out, Fr.refl _ _⟩
  have q0 : ((k : Int) == 0) = false := by rw [beq_eq_false_iff_ne]; omega
  have t0 := h.c0
  have hpk := hg k hk
  rw [parN_at hd] at hpk
  obtain ⟨g, off, sp, c, q, o, rfl, hc1, hc2, a0, -⟩ := h.nd k d hd
  have ND := Lib.hid h.nd
  have i1 : (k : Int) < (ds.length : Int) := by omega
  unfold maxLen at hc2
  have K1 := Lib.hid (show kidL ds d.par 1 = [] by
    refine kidL_none fun j hj => ?_
    obtain rfl : j = 0 := by omega
    rw [(hg 0 (by omega)).1 rfl]; have := hpk.2 hk0; omega)
  clear h hd hpk hg
  generalize d.par = p at *
  go_enter Try.func32, Try.ntmps32
  go_wp2_with (go_at_call 40; refine IS.out.mono ?_; rintro e w' ⟨rfl, rfl⟩)
  go_loopw [5] (fun i wq => ∃ (c : Nat), c < k ∧ i = .int .i64 c ∧ Hid (kidL ds p k = kidL ds p (c + 1)) ∧ (∃ n, wq = w'.drewN n)) (fun i _ => (intOf i).toNat)
  case atStart =>
    refine ⟨k - 1, by omega, ?_, ?_, 0, rfl⟩
    · exact congrArg (Value.int .i64) (by omega)
    · show kidL ds p k = kidL ds p (k - 1 + 1)
      rw [Nat.sub_add_cancel hk0]
  case round =>
    obtain ⟨c, hck, rfl, hs, n, rfl⟩ := hrel
    have HW := Lib.hid (show ∀ m, (w'.drewN n).drewN m = w'.drewN (n + m) from fun m => World.drewN_drewN _ _ _)
    have hF := Lib.hid (fr_drewN w' n)
    rcases Nat.eq_zero_or_pos c with hc | hc
    · have HE := Lib.hid (show (-1 : Int) = (kidL ds p k).getLastD (-1) by rw [hs.out, hc, K1.out]; rfl)
      subst hc
      go_wp2_with fail
      go_ret
      exact ⟨congrArg (fun z => Ending.returned (.int .i64 z)) HE.out, hF.out⟩
    · obtain ⟨m, rfl⟩ : ∃ m, c = m + 1 := ⟨c - 1, by omega⟩
      have hcl : m + 1 < ds.length := by omega
      obtain ⟨dc, hdc⟩ : ∃ dc, ds[m + 1]? = some dc := ⟨ds[m + 1], List.getElem?_eq_getElem hcl⟩
      obtain ⟨_, _, _, _, _, _, e, _, _, b0, -⟩ := ND.out (m + 1) dc hdc
      cases e
      have HPA := Lib.hid (parN_at hdc)
      have x0 := cellFr0 hF.out a0
      have y0 := cellFr0 hF.out b0
      have z0 := cellFr0 hF.out t0
      clear a0 b0 t0 hdc
      generalize dc.par = pc at *
      generalize w'.drewN n = w9 at *
      have i2 : ((m + 1 : Nat) : Int) < (ds.length : Int) := by omega
      have i2' : (m : Int) + 1 < (ds.length : Int) := by omega
      have i3 : (0 : Int) < ((m + 1 : Nat) : Int) := by omega
      have i4 : (0 : Int) ≤ (m : Int) + 1 := by omega
      by_cases hpc : pc = p
      · have HE := Lib.hid (show (((m + 1 : Nat) : Int)) = (kidL ds p k).getLastD (-1) by rw [hs.out, kidL_yes (HPA.out.trans hpc)]; simp)
        subst hpc
        go_wp2_with fail
        go_quiet (fail)
        go_wp2_with fail
        go_ret
        exact ⟨congrArg (fun z => Ending.returned (.int .i64 z)) HE.out, hF.out.trans (fr_drewN _ _)⟩
      · have qn : (pc == p) = false := by simpa using hpc
        go_wp2_with fail
        go_quiet (fail)
        go_wp2_with fail
        go_roundw
        case rel => exact ⟨m, by omega, by first | rfl | exact congrArg (Value.int .i64) (by omega), by rw [hs.out]; exact kidL_no (by rw [HPA.out]; exact hpc), _, HW.out _⟩
        case measure => simp [intOf]
end Go.Proofs.Ytdbhcogafhhlnaa.R
