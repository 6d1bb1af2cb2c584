/- SameStrings, SameNode, the reference's Node; Parent of an element that is nowhere: the walks. -/
import Derived.Test.YtdbhcogafhhlnaaDAllW
import Derived.Test.YtdbhcogafhhlnaaDRead3
namespace Go.Proofs.Ytdbhcogafhhlnaa
open Go.RowKit Go.Maps Go.ChangeShapes Go.WideShapes Go.ChangeAt Go.WideMaps Go.WideElems

/-- Cells, as they are read. -/
def RdV (w : World) (p : Option Addr) (l : List Value) : Prop :=
  ∀ (k : Nat) x, l[k]? = some x → ∃ g off, p = some ⟨g, off, none⟩ ∧ w.cell? ⟨g, off + k, none⟩ = some x
theorem RdV.win {w : World} {base e size n c : Nat} {sp : Option Addr} {l : List Value} (h : OwnsWin w base e size (.slice sp n c) n l) : RdV w sp l := by
  intro k x hk
  have hlt : k < l.length := (List.getElem?_eq_some_iff.1 hk).1
  have hn : 0 < n := by
    rcases Nat.eq_zero_or_pos n with e | e
    · have := h.1; rw [e, Nat.zero_mul] at this; omega
    · exact e
  obtain ⟨g, off, cap, hv, _, _, hg, _, hcell, _⟩ := h.cells hn
  cases hv
  exact ⟨g, off, rfl, hcell k _ hk⟩
theorem RdV.fr {w w' : World} {p : Option Addr} {l : List Value} (h : RdV w p l) (f : Fr (fun _ => False) w w') : RdV w' p l := fun k x hk => by
  obtain ⟨g, off, e, hc⟩ := h k x hk
  exact ⟨g, off, e, cellFr0 f hc⟩

set_option maxHeartbeats 4000000 in
set_option maxRecDepth 100000 in
theorem sameStrs_any (p1 p2 : Option Addr) (c1 c2 : Nat) (l : List ByteArray) (w : World) (h1 : RdV w p1 (l.map Value.string)) (h2 : RdV w p2 (l.map Value.string)) (hn : l.length ≤ 100000) :
    Calls Try.prog 39 #[.slice p1 l.length c1, .slice p2 l.length c2] w fun e w' => e = .returned (.bool true) ∧ Fr (fun _ => False) w w' := by
  have H1 := Lib.hid h1
  have H2 := Lib.hid h2
  clear h1 h2
  have qn : ((l.length : Int) != (l.length : Int)) = false := by simp
  go_enter Try.func39, Try.ntmps39
  go_wp2_with fail
  go_loopw [5] (fun i wr => ∃ (k m : Nat), k ≤ l.length ∧ i = .int .i64 k ∧ wr = w.drewN m) (fun i _ => l.length - (intOf i).toNat)
  case atStart => exact ⟨0, 0, by omega, rfl, rfl⟩
  case round =>
    obtain ⟨k, m, hk, rfl, rfl⟩ := hrel
    by_cases hlt : k < l.length
    · obtain ⟨t, ht⟩ : ∃ t, l[k]? = some t := ⟨l[k], by simp [hlt]⟩
      have hm : (l.map Value.string)[k]? = some (.string t) := by rw [List.getElem?_map, ht]; rfl
      obtain ⟨b1, o1, rfl, a0⟩ := H1.out k _ hm
      obtain ⟨b2, o2, rfl, e0⟩ := H2.out k _ hm
      have HW := Lib.hid (show ∀ n, (w.drewN m).drewN n = w.drewN (m + n) from fun n => World.drewN_drewN _ _ _)
      have x0 : (w.drewN m).cell? ⟨b1, o1 + k, none⟩ = some (.string t) := a0
      have y0 : (w.drewN m).cell? ⟨b2, o2 + k, none⟩ = some (.string t) := e0
      clear ht hm
      generalize w.drewN m = w9 at *
      have i1 : (k : Int) < (l.length : Int) := by omega
      go_wp2_with fail
      go_quiet (fail)
      go_wp2_with fail
      go_roundw
      case rel => exact ⟨k + 1, _, by omega, by go_num, HW.out _⟩
      case measure => simp [intOf]; omega
    · go_wp2_with fail
      go_ret
      exact ⟨rfl, ⟨rfl, rfl, rfl, Nat.le_refl _, fun _ _ _ => rfl⟩⟩

set_option maxHeartbeats 4000000 in
set_option maxRecDepth 100000 in
theorem sameNode_any (w : World) (par : Int) (tag id : ByteArray) (cls : List ByteArray) (att : List (ByteArray × ByteArray)) (p1 p2 q1 q2 : Option Addr) (c1 c2 o1 o2 : Nat)
    (h1 : RdV w p1 (cls.map Value.string)) (h2 : RdV w p2 (cls.map Value.string)) (h3 : RdV w q1 (attL att)) (h4 : RdV w q2 (attL att)) (hn : cls.length ≤ 100000) (hm : att.length ≤ 100000) :
    Calls Try.prog 24 #[.agg #[.int .i64 par, .string tag, .string id, .slice p1 cls.length c1, .slice q1 att.length o1], .agg #[.int .i64 par, .string tag, .string id, .slice p2 cls.length c2, .slice q2 att.length o2]] w
      fun e w' => e = .returned (.bool true) ∧ Fr (fun _ => False) w w' := by
  have F0 := Lib.hid (((Fr.refl (fun _ => False) w).alloc (.cells #[.int .i64 par, .string tag, .string id, .slice p1 cls.length c1, .slice q1 att.length o1] 25)).alloc (.cells #[.int .i64 par, .string tag, .string id, .slice p2 cls.length c2, .slice q2 att.length o2] 25))
  have SS := Lib.hid (sameStrs_any p1 p2 c1 c2 cls _ (h1.fr F0.out) (h2.fr F0.out) hn)
  have H3 := Lib.hid (h3.fr F0.out)
  have H4 := Lib.hid (h4.fr F0.out)
  have B1 := Lib.hid (heapAlloc (o' := .cells #[.int .i64 par, .string tag, .string id, .slice p2 cls.length c2, .slice q2 att.length o2] 25) (heapNew w (.cells #[.int .i64 par, .string tag, .string id, .slice p1 cls.length c1, .slice q1 att.length o1] 25)))
  have B2 := Lib.hid (show ((w.alloc (.cells #[.int .i64 par, .string tag, .string id, .slice p1 cls.length c1, .slice q1 att.length o1] 25)).alloc (.cells #[.int .i64 par, .string tag, .string id, .slice p2 cls.length c2, .slice q2 att.length o2] 25)).heap[w.heap.size + 1]? = some (.cells #[.int .i64 par, .string tag, .string id, .slice p2 cls.length c2, .slice q2 att.length o2] 25 (0, 0)) by
    have := heapNew (w.alloc (.cells #[.int .i64 par, .string tag, .string id, .slice p1 cls.length c1, .slice q1 att.length o1] 25)) (.cells #[.int .i64 par, .string tag, .string id, .slice p2 cls.length c2, .slice q2 att.length o2] 25)
    rwa [World.size_alloc] at this)
  clear h1 h2 h3 h4
  have qp : (par != par) = false := by simp
  have qa : ((att.length : Int) != (att.length : Int)) = false := by simp
  go_enter Try.func24, Try.ntmps24
  go_wp2_with (go_at_call 39; refine Calls.mono SS.out ?_; rintro e w1 ⟨rfl, f1⟩; have F1 := Lib.hid (F0.out.trans f1); have r1 := cellOf (f1.heap B1.out (by simp)) 4; have r2 := cellOf (f1.heap B2.out (by simp)) 4; simp at r1 r2; have H3 := Lib.hid (H3.out.fr f1); have H4 := Lib.hid (H4.out.fr f1); clear f1)
  go_loopw [5] (fun i wr => ∃ (k m : Nat), k ≤ att.length ∧ i = .int .i64 k ∧ wr = w1.drewN m) (fun i _ => att.length - (intOf i).toNat)
  case atStart => exact ⟨0, 0, by omega, rfl, rfl⟩
  case round =>
    obtain ⟨k, m, hk, rfl, rfl⟩ := hrel
    have HW := Lib.hid (show ∀ n, (w1.drewN m).drewN n = w1.drewN (m + n) from fun n => World.drewN_drewN _ _ _)
    have r1' : (w1.drewN m).cell? ⟨w.heap.size, 4, none⟩ = _ := r1
    have r2' : (w1.drewN m).cell? ⟨w.heap.size + 1, 4, none⟩ = _ := r2
    by_cases hlt : k < att.length
    · obtain ⟨t, ht⟩ : ∃ t, att[k]? = some t := ⟨att[k], by simp [hlt]⟩
      obtain ⟨k0, k1⟩ := attL_at att k t.1 t.2 ht
      obtain ⟨b1, o1', e1, a0⟩ := H3.out _ _ k0
      obtain ⟨_, _, e2, a1⟩ := H3.out _ _ k1
      rw [e1] at e2
      cases e2
      obtain ⟨b2, o2', e3, a2⟩ := H4.out _ _ k0
      obtain ⟨_, _, e4, a3⟩ := H4.out _ _ k1
      rw [e3] at e4
      cases e4
      subst e1
      subst e3
      rw [← Nat.add_assoc] at a1 a3
      have x0 : (w1.drewN m).cell? _ = _ := a0
      have x1 : (w1.drewN m).cell? _ = _ := a1
      have x2 : (w1.drewN m).cell? _ = _ := a2
      have x3 : (w1.drewN m).cell? _ = _ := a3
      clear ht k0 k1 a0 a1 a2 a3 r1 r2
      generalize w1.drewN m = w9 at *
      generalize t.1 = t1 at *
      generalize t.2 = t2 at *
      have i1 : (k : Int) < (att.length : Int) := by omega
      go_wp2_with fail
      go_quiet (fail)
      go_wp2_with fail
      go_roundw
      case rel => exact ⟨k + 1, _, by omega, by go_num, HW.out _⟩
      case measure => simp [intOf]; omega
    · have F2 := Lib.hid (R.fr_drewN w1 m)
      clear r1 r2
      generalize w1.drewN m = w9 at *
      obtain rfl : k = att.length := by omega
      have i1 : ¬ (att.length : Int) < (att.length : Int) := by omega
      go_wp2_with fail
      go_ret
      exact ⟨rfl, F1.out.trans F2.out⟩

def NodeR (wr : World) (x : NodeD) (en : Ending) (w' : World) : Prop :=
  ∃ sp c q o, en = .returned (.agg #[.int .i64 x.par, .string (lowS x.tag), .string x.id, .slice sp x.cls.length c, .slice q x.att.length o]) ∧ OwnsWin w' 0 9 1 (.slice sp x.cls.length c) x.cls.length (x.cls.map Value.string) ∧
    OwnsWin w' 0 38 2 (.slice q x.att.length o) x.att.length (attL (lowA x.att)) ∧ Fr (fun _ => False) wr w'
set_option maxHeartbeats 1000000 in
theorem RNode_yes (wr : World) (tb : Nat) (ds : List NodeD) {spN spD : Option Addr} {cN cD : Nat} (h : R.RV wr tb ds spN cN spD cD) (k : Nat) (d : NodeD) (hd : ds[k]? = some d) :
    Calls Try.prog 25 #[.pointer (some ⟨tb, 0, none⟩), .int .i64 (k : Int)] wr (NodeR wr d) := by
  have hk : k < ds.length := (List.getElem?_eq_some_iff.1 hd).1
  have F0 := Lib.hid ((Fr.refl (fun _ => False) wr).alloc (.cells #[.int .i64 0, .string ⟨#[]⟩, .string ⟨#[]⟩, .slice none 0 0, .slice none 0 0] 25))
  have HR := h.fr F0.out
  have IS := Lib.hid (R.is_yes _ tb ds HR k hk)
  have t0 := HR.c0
  obtain ⟨g, off, sp, c, q, o, rfl, hc1, hc2, a0, a1, a2, a3, a4, -, -⟩ := HR.nd k d hd
  obtain ⟨_, _, sp', c', q', o', e, -, -, b0, b1, b2, b3, b4, o1, o2⟩ := h.nd k d hd
  cases e
  rw [cellFr0 F0.out b3] at a3
  rw [cellFr0 F0.out b4] at a4
  cases a3
  cases a4
  have A3 := cellFr0 F0.out b3
  have A4 := cellFr0 F0.out b4
  have F9 := Lib.hid ((Fr.refl (fun _ => False) wr).alloc (.cells #[.int .i64 d.par, .string (lowS d.tag), .string d.id, .slice sp d.cls.length c, .slice q d.att.length o] 25))
  have O1 := Lib.hid o1
  have O2 := Lib.hid o2
  clear h hd HR b0 b1 b2 b3 b4 o1 o2
  generalize hn : ds.length = n at *
  clear hn
  have q1 : (k : Int) < (n : Int) := by omega
  unfold maxLen at hc2
  go_enter Try.func25, Try.ntmps25
  go_wp2_with (go_at_call 40; refine IS.out.mono ?_; rintro e w' ⟨rfl, rfl⟩)
  show bodyPost Try.prog Try.f25 _ Exit.ret _ _
  refine bodyPost_ret (v := .agg #[.int .i64 d.par, .string (lowS d.tag), .string d.id, .slice sp d.cls.length c, .slice q d.att.length o]) (by simp [results, Try.results25, go_sem]) rfl ?_
  exact ⟨sp, c, q, o, rfl, O1.out.fr F9.out (by simp), O2.out.fr F9.out (by simp), F9.out⟩
set_option maxHeartbeats 1000000 in
theorem RNode_no (wr : World) (tb : Nat) (ds : List NodeD) {spN spD : Option Addr} {cN cD : Nat} (h : R.RV wr tb ds spN cN spD cD) (e : Int) (hk : e < 0 ∨ (ds.length : Int) ≤ e) :
    Calls Try.prog 25 #[.pointer (some ⟨tb, 0, none⟩), .int .i64 e] wr (NodeR wr ⟨0, ⟨#[]⟩, ⟨#[]⟩, [], []⟩) := by
  have F0 := Lib.hid ((Fr.refl (fun _ => False) wr).alloc (.cells #[.int .i64 0, .string ⟨#[]⟩, .string ⟨#[]⟩, .slice none 0 0, .slice none 0 0] 25))
  have HR := h.fr F0.out
  have IS := Lib.hid (R.is_no _ tb ds HR e hk)
  clear h HR
  go_enter Try.func25, Try.ntmps25
  go_wp2_with (go_at_call 40; refine IS.out.mono ?_; rintro e w' ⟨rfl, rfl⟩)
  show bodyPost Try.prog Try.f25 _ Exit.ret _ _
  refine bodyPost_ret (v := .agg #[.int .i64 0, .string ⟨#[]⟩, .string ⟨#[]⟩, .slice none 0 0, .slice none 0 0]) (by simp [results, Try.results25, go_sem]) rfl ?_
  exact ⟨none, 0, none, 0, rfl, OwnsWin.nil _ _ _ _, OwnsWin.nil _ _ _ _, F0.out⟩
set_option maxHeartbeats 400000 in
theorem Parent_out (w wr : World) (tb : Nat) (els : List ElD) (h : TS w wr tb els) (e : Int) (he : e < 0 ∨ (els.length : Int) ≤ e) :
    Calls Try.prog 21 #[.pointer (some ⟨tb, 0, none⟩), .int .i64 e] wr fun en w' => en = .returned (.int .i64 (-1)) ∧ Fr (fun _ => False) wr w' := by
  obtain ⟨spT, cT, css, hblk, hrow, hNE⟩ := h.body
  have t0 := cellOf hblk 0
  simp at t0
  clear hblk hrow hNE h
  generalize els.length = n at *
  by_cases hn : e < 0
  · have q3 : decide (e < 0) = true := by simpa using hn
    go_enter Try.func21, Try.ntmps21
    go_wp2_with fail
    go_ret
    exact ⟨rfl, Fr.refl _ _⟩
  · have q3 : decide (e < 0) = false := by simpa using hn
    have q4 : decide ((n : Int) ≤ e) = true := by simp; omega
    go_enter Try.func21, Try.ntmps21
    go_wp2_with fail
    go_ret
    exact ⟨rfl, Fr.refl _ _⟩
end Go.Proofs.Ytdbhcogafhhlnaa
