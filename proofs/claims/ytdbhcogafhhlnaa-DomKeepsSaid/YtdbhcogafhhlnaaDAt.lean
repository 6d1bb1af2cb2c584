/- A tree's elements, read: at, Depth, Place, Before, Parent, Len, Children, Node. -/
import Derived.Test.YtdbhcogafhhlnaaDNew
namespace Go.Proofs.Ytdbhcogafhhlnaa
open Go.RowKit Go.Maps Go.ChangeShapes Go.WideShapes Go.ChangeAt Go.WideMaps Go.WideElems

def eltAt (els : List ElD) (e : Int) : ElD := if 0 ≤ e ∧ e < els.length then els.getD e.toNat ⟨⟨0, ⟨#[]⟩, ⟨#[]⟩, [], []⟩, [], 0, 0, -1⟩ else ⟨⟨0, ⟨#[]⟩, ⟨#[]⟩, [], []⟩, [], 0, 0, -1⟩
theorem eltAt_in {els : List ElD} {k : Nat} {x : ElD} (h : els[k]? = some x) : eltAt els (k : Int) = x := by
  have := (List.getElem?_eq_some_iff.1 h).1
  unfold eltAt
  rw [if_pos (by omega), List.getD_eq_getElem?_getD]
  simp [h]
theorem eltAt_out {els : List ElD} {e : Int} (h : e < 0 ∨ (els.length : Int) ≤ e) : eltAt els e = ⟨⟨0, ⟨#[]⟩, ⟨#[]⟩, [], []⟩, [], 0, 0, -1⟩ := by
  unfold eltAt
  rw [if_neg (by omega)]
theorem field57_0 (a b c d e f g h i : Value) (w : World) : (Instr.field 57 (.agg #[a, b, c, d, e, f, g, h, i]) 0).run Try.prog w = .ok (.agg #[a, b, c, d, e]) w := by kernel_rfl
theorem field57_1 (a b c d e f g h i : Value) (w : World) : (Instr.field 57 (.agg #[a, b, c, d, e, f, g, h, i]) 1).run Try.prog w = .ok f w := by kernel_rfl
theorem field57_2 (a b c d e f g h i : Value) (w : World) : (Instr.field 57 (.agg #[a, b, c, d, e, f, g, h, i]) 2).run Try.prog w = .ok g w := by kernel_rfl
theorem field57_3 (a b c d e f g h i : Value) (w : World) : (Instr.field 57 (.agg #[a, b, c, d, e, f, g, h, i]) 3).run Try.prog w = .ok h w := by kernel_rfl
theorem field57_4 (a b c d e f g h i : Value) (w : World) : (Instr.field 57 (.agg #[a, b, c, d, e, f, g, h, i]) 4).run Try.prog w = .ok i w := by kernel_rfl
theorem lowS_nil : lowS ⟨#[]⟩ = ⟨#[]⟩ := rfl

/-- What at answers: an element, its slices' memory in the tree. -/
def AtP (w wr : World) (x : ElD) (en : Ending) (w' : World) : Prop :=
  ∃ sp c q o s kk, en = .returned (.agg #[.int .i64 x.nd.par, .string (lowS x.nd.tag), .string x.nd.id, .slice sp x.nd.cls.length c, .slice q x.nd.att.length o, .slice s x.kids.length kk, .int .i64 x.dep, .int .i64 x.plc, .int .i64 x.bef]) ∧ OwnsWin w' w.heap.size 9 1 (.slice sp x.nd.cls.length c) x.nd.cls.length (x.nd.cls.map Value.string) ∧
    OwnsWin w' w.heap.size 38 2 (.slice q x.nd.att.length o) x.nd.att.length (attL (lowA x.nd.att)) ∧ OwnsWin w' w.heap.size 3 1 (.slice s x.kids.length kk) x.kids.length (x.kids.map (Value.int .i64)) ∧ Fr (fun _ => False) wr w'

set_option maxHeartbeats 1000000 in
set_option maxRecDepth 100000 in
theorem at_in (w wr : World) (tb : Nat) (els : List ElD) (h : TS w wr tb els) (p : Nat) (x : ElD) (hx : els[p]? = some x) :
    Calls Try.prog 34 #[.pointer (some ⟨tb, 0, none⟩), .int .i64 (p : Int)] wr (AtP w wr x) := by
  have F0 := Lib.hid ((Fr.refl (fun _ => False) wr).alloc (.cells #[.int .i64 0, .string ⟨#[]⟩, .string ⟨#[]⟩, .slice none 0 0, .slice none 0 0, .slice none 0 0, .int .i64 0, .int .i64 0, .int .i64 0] 57))
  have ZB := Lib.hid (heapNew wr (.cells #[.int .i64 0, .string ⟨#[]⟩, .string ⟨#[]⟩, .slice none 0 0, .slice none 0 0, .slice none 0 0, .int .i64 0, .int .i64 0, .int .i64 0] 57))
  have hwsz := h.fr.size
  have hpn : p < els.length := (List.getElem?_eq_some_iff.1 hx).1
  obtain ⟨spT, cT, css, hblk0, hrow0, hNE⟩ := h.body
  have hblk := F0.out.heap hblk0 (by simp)
  have hrow := ownsRow.fr hrow0 F0.out (by simp)
  clear hblk0 hrow0
  obtain ⟨cs, hcs⟩ : ∃ cs, css[p]? = some cs := ⟨css[p]'(by rw [hNE.len]; exact hpn), List.getElem?_eq_getElem _⟩
  obtain ⟨g, cur, rfl, hg, hcap1, hcap2, hcur⟩ := rowAt hrow hNE.all9 hcs
  obtain ⟨sp, c, q, o, s, kk, hcse, o1, o2, o3⟩ := hNE.el p cs x hcs hx
  have y0 := cellOf hg (p * 9 + 0)
  rw [hcur 0 (by omega), hcse] at y0
  have y1 := cellOf hg (p * 9 + 1)
  rw [hcur 1 (by omega), hcse] at y1
  have y2 := cellOf hg (p * 9 + 2)
  rw [hcur 2 (by omega), hcse] at y2
  have y3 := cellOf hg (p * 9 + 3)
  rw [hcur 3 (by omega), hcse] at y3
  have y4 := cellOf hg (p * 9 + 4)
  rw [hcur 4 (by omega), hcse] at y4
  have y5 := cellOf hg (p * 9 + 5)
  rw [hcur 5 (by omega), hcse] at y5
  have y6 := cellOf hg (p * 9 + 6)
  rw [hcur 6 (by omega), hcse] at y6
  have y7 := cellOf hg (p * 9 + 7)
  rw [hcur 7 (by omega), hcse] at y7
  have y8 := cellOf hg (p * 9 + 8)
  rw [hcur 8 (by omega), hcse] at y8
  have t0 := cellOf hblk 0
  simp [elC] at t0 y0 y1 y2 y3 y4 y5 y6 y7 y8
  have HX := Lib.hid hx
  clear hcse hcs hcur hg hblk hrow hNE h hx
  generalize hnn : els.length = n at *
  clear hnn
  have q3 : decide ((p : Int) < 0) = false := by simp
  have q4 : decide ((n : Int) ≤ (p : Int)) = false := by simp; omega
  have q4n : decide (n ≤ p) = false := by simp; omega
  have q5 : (p : Int) < (n : Int) := by omega
  unfold maxLen at hcap2
  go_enter Try.func34, Try.ntmps34
  go_wp2_with fail
  have A := (Fr.refl (fun _ => False) wr).alloc (.cells #[.int .i64 x.nd.par, .string (lowS x.nd.tag), .string x.nd.id, .slice sp x.nd.cls.length c, .slice q x.nd.att.length o, .slice s x.kids.length kk, .int .i64 x.dep, .int .i64 x.plc, .int .i64 x.bef] 57)
  show bodyPost Try.prog Try.f34 _ Exit.ret _ _
  refine bodyPost_ret (v := .agg #[.int .i64 x.nd.par, .string (lowS x.nd.tag), .string x.nd.id, .slice sp x.nd.cls.length c, .slice q x.nd.att.length o, .slice s x.kids.length kk, .int .i64 x.dep, .int .i64 x.plc, .int .i64 x.bef]) (by simp [results, Try.results34, go_sem]) rfl ?_
  exact ⟨sp, c, q, o, s, kk, rfl, o1.fr A (by simp), o2.fr A (by simp), o3.fr A (by simp), A⟩

set_option maxHeartbeats 1000000 in
set_option maxRecDepth 100000 in
theorem at_out (w wr : World) (tb : Nat) (els : List ElD) (h : TS w wr tb els) (e : Int) (he : e < 0 ∨ (els.length : Int) ≤ e) :
    Calls Try.prog 34 #[.pointer (some ⟨tb, 0, none⟩), .int .i64 e] wr (AtP w wr ⟨⟨0, ⟨#[]⟩, ⟨#[]⟩, [], []⟩, [], 0, 0, -1⟩) := by
  have F0 := Lib.hid ((Fr.refl (fun _ => False) wr).alloc (.cells #[.int .i64 0, .string ⟨#[]⟩, .string ⟨#[]⟩, .slice none 0 0, .slice none 0 0, .slice none 0 0, .int .i64 0, .int .i64 0, .int .i64 0] 57))
  have ZB := Lib.hid (heapNew wr (.cells #[.int .i64 0, .string ⟨#[]⟩, .string ⟨#[]⟩, .slice none 0 0, .slice none 0 0, .slice none 0 0, .int .i64 0, .int .i64 0, .int .i64 0] 57))
  obtain ⟨spT, cT, css, hblk0, hrow0, hNE⟩ := h.body
  have hblk := F0.out.heap hblk0 (by simp)
  have t0 := cellOf hblk 0
  simp at t0
  have A := Lib.hid ((Fr.refl (fun _ => False) wr).alloc (.cells #[.int .i64 0, .string ⟨#[]⟩, .string ⟨#[]⟩, .slice none 0 0, .slice none 0 0, .slice none 0 0, .int .i64 0, .int .i64 0, .int .i64 (-1)] 57))
  clear hblk hblk0 hrow0 hNE h
  generalize hnn : els.length = n at *
  clear hnn
  by_cases hneg : e < 0
  · have q3 : decide (e < 0) = true := by simpa using hneg
    go_enter Try.func34, Try.ntmps34
    go_wp2_with fail
    show bodyPost Try.prog Try.f34 _ Exit.ret _ _
    refine bodyPost_ret (v := .agg #[.int .i64 0, .string ⟨#[]⟩, .string ⟨#[]⟩, .slice none 0 0, .slice none 0 0, .slice none 0 0, .int .i64 0, .int .i64 0, .int .i64 (-1)]) (by simp [results, Try.results34, go_sem]) rfl ?_
    exact ⟨none, 0, none, 0, none, 0, rfl, OwnsWin.nil _ _ _ _, OwnsWin.nil _ _ _ _, OwnsWin.nil _ _ _ _, A.out⟩
  · have q3 : decide (e < 0) = false := by simpa using hneg
    have q4 : decide ((n : Int) ≤ e) = true := by simp; omega
    go_enter Try.func34, Try.ntmps34
    go_wp2_with fail
    show bodyPost Try.prog Try.f34 _ Exit.ret _ _
    refine bodyPost_ret (v := .agg #[.int .i64 0, .string ⟨#[]⟩, .string ⟨#[]⟩, .slice none 0 0, .slice none 0 0, .slice none 0 0, .int .i64 0, .int .i64 0, .int .i64 (-1)]) (by simp [results, Try.results34, go_sem]) rfl ?_
    exact ⟨none, 0, none, 0, none, 0, rfl, OwnsWin.nil _ _ _ _, OwnsWin.nil _ _ _ _, OwnsWin.nil _ _ _ _, A.out⟩

theorem at_any (w wr : World) (tb : Nat) (els : List ElD) (h : TS w wr tb els) (e : Int) :
    Calls Try.prog 34 #[.pointer (some ⟨tb, 0, none⟩), .int .i64 e] wr (AtP w wr (eltAt els e)) := by
  by_cases he : e < 0 ∨ (els.length : Int) ≤ e
  · rw [eltAt_out he]
    exact at_out w wr tb els h e he
  · obtain ⟨p, rfl⟩ := Int.eq_ofNat_of_zero_le (by omega : 0 ≤ e)
    have hp : p < els.length := by omega
    have hx := List.getElem?_eq_getElem hp
    show Calls Try.prog 34 #[.pointer (some ⟨tb, 0, none⟩), .int .i64 (p : Int)] wr (AtP w wr (eltAt els (p : Int)))
    rw [eltAt_in hx]
    exact at_in w wr tb els h p _ hx

set_option maxHeartbeats 400000 in
theorem Depth_any (w wr : World) (tb : Nat) (els : List ElD) (h : TS w wr tb els) (e : Int) :
    Calls Try.prog 13 #[.pointer (some ⟨tb, 0, none⟩), .int .i64 e] wr fun en w' => en = .returned (.int .i64 (eltAt els e).dep) ∧ Fr (fun _ => False) wr w' := by
  have P := Lib.hid (at_any w wr tb els h e)
  clear h
  go_enter Try.func13, Try.ntmps13
  go_wp2_with fail
  refine P.out.mono ?_
  rintro en w1 ⟨sp, c, q, o, s, kk, rfl, -, -, -, f1⟩
  have F1 := Lib.hid f1
  have hfd : ∀ (a b c d e f g h i : Value) (w : World), (Instr.field 57 (.agg #[a, b, c, d, e, f, g, h, i]) 2).run Try.prog w = .ok g w := field57_2
  clear f1 P
  go_wp2_with fail
  go_ret
  exact ⟨rfl, F1.out⟩
set_option maxHeartbeats 400000 in
theorem Place_any (w wr : World) (tb : Nat) (els : List ElD) (h : TS w wr tb els) (e : Int) :
    Calls Try.prog 18 #[.pointer (some ⟨tb, 0, none⟩), .int .i64 e] wr fun en w' => en = .returned (.int .i64 (eltAt els e).plc) ∧ Fr (fun _ => False) wr w' := by
  have P := Lib.hid (at_any w wr tb els h e)
  clear h
  go_enter Try.func18, Try.ntmps18
  go_wp2_with fail
  refine P.out.mono ?_
  rintro en w1 ⟨sp, c, q, o, s, kk, rfl, -, -, -, f1⟩
  have F1 := Lib.hid f1
  have hfd : ∀ (a b c d e f g h i : Value) (w : World), (Instr.field 57 (.agg #[a, b, c, d, e, f, g, h, i]) 3).run Try.prog w = .ok h w := field57_3
  clear f1 P
  go_wp2_with fail
  go_ret
  exact ⟨rfl, F1.out⟩
set_option maxHeartbeats 400000 in
theorem Before_any (w wr : World) (tb : Nat) (els : List ElD) (h : TS w wr tb els) (e : Int) :
    Calls Try.prog 22 #[.pointer (some ⟨tb, 0, none⟩), .int .i64 e] wr fun en w' => en = .returned (.int .i64 (eltAt els e).bef) ∧ Fr (fun _ => False) wr w' := by
  have P := Lib.hid (at_any w wr tb els h e)
  clear h
  go_enter Try.func22, Try.ntmps22
  go_wp2_with fail
  refine P.out.mono ?_
  rintro en w1 ⟨sp, c, q, o, s, kk, rfl, -, -, -, f1⟩
  have F1 := Lib.hid f1
  have hfd : ∀ (a b c d e f g h i : Value) (w : World), (Instr.field 57 (.agg #[a, b, c, d, e, f, g, h, i]) 4).run Try.prog w = .ok i w := field57_4
  clear f1 P
  go_wp2_with fail
  go_ret
  exact ⟨rfl, F1.out⟩
set_option maxHeartbeats 400000 in
theorem Len_any (w wr : World) (tb : Nat) (els : List ElD) (h : TS w wr tb els) :
    Calls Try.prog 17 #[.pointer (some ⟨tb, 0, none⟩)] wr fun en w' => en = .returned (.int .i64 els.length) ∧ Fr (fun _ => False) wr w' := by
  obtain ⟨spT, cT, css, hblk, -, -⟩ := h.body
  have t0 := cellOf hblk 0
  simp at t0
  clear hblk h
  generalize els.length = n at *
  go_enter Try.func17, Try.ntmps17
  go_wp2_with fail
  go_ret
  exact ⟨rfl, Fr.refl _ _⟩
set_option maxHeartbeats 400000 in
theorem num_any (w : World) (e : Int) : Calls Try.prog 12 #[.int .i64 e] w fun en w' => en = .returned (.int .i64 e) ∧ w' = w := by
  go_enter Try.func12, Try.ntmps12
  go_wp2_with fail
  go_ret
  exact ⟨rfl, rfl⟩
set_option maxHeartbeats 400000 in
theorem Children_any (w wr : World) (tb : Nat) (els : List ElD) (h : TS w wr tb els) (e : Int) (hk : (eltAt els e).kids.length ≤ 100000) :
    Calls Try.prog 14 #[.pointer (some ⟨tb, 0, none⟩), .int .i64 e] wr fun en w' => (∃ sp c, en = .returned (.slice sp (eltAt els e).kids.length c) ∧ OwnsWin w' wr.heap.size 3 1 (.slice sp (eltAt els e).kids.length c) (eltAt els e).kids.length ((eltAt els e).kids.map (Value.int .i64))) ∧ Fr (fun _ => False) wr w' := by
  have P := Lib.hid (at_any w wr tb els h e)
  clear h
  go_enter Try.func14, Try.ntmps14
  go_wp2_with fail
  refine P.out.mono ?_
  rintro en w1 ⟨sp, c, q, o, s, kk, rfl, -, -, o3, f1⟩
  have C := Lib.hid (cloneI_any s _ kk _ w1 (Src.of_win o3) (by simp [Value.oneCell']) (by omega))
  have F1 := Lib.hid f1
  have hfd : ∀ (a b c d e f g h i : Value) (w : World), (Instr.field 57 (.agg #[a, b, c, d, e, f, g, h, i]) 1).run Try.prog w = .ok f w := field57_1
  clear f1 P o3
  go_wp2_with fail
  refine C.out.mono ?_
  rintro en w2 ⟨⟨sp2, c2, rfl, o2⟩, f2⟩
  have F2 := Lib.hid f2
  have O2 := Lib.hid o2
  clear f2 o2 C
  go_wp2_with fail
  go_ret
  exact ⟨⟨sp2, c2, rfl, O2.out.lower F1.out.size⟩, F1.out.trans F2.out⟩
set_option maxHeartbeats 400000 in
theorem Parent_any (w wr : World) (tb : Nat) (els : List ElD) (h : TS w wr tb els) (p : Nat) (x : ElD) (hx : els[p]? = some x) :
    Calls Try.prog 21 #[.pointer (some ⟨tb, 0, none⟩), .int .i64 (p : Int)] wr fun en w' => en = .returned (.int .i64 x.nd.par) ∧ Fr (fun _ => False) wr w' := by
  have hpn : p < els.length := (List.getElem?_eq_some_iff.1 hx).1
  obtain ⟨spT, cT, css, hblk, hrow, hNE⟩ := h.body
  obtain ⟨cs, hcs⟩ : ∃ cs, css[p]? = some cs := ⟨css[p]'(by rw [hNE.len]; exact hpn), List.getElem?_eq_getElem _⟩
  obtain ⟨g, cur, rfl, hg, hcap1, hcap2, hcur⟩ := rowAt hrow hNE.all9 hcs
  obtain ⟨sp, c, q, o, s, kk, hcse, o1, o2, o3⟩ := hNE.el p cs x hcs hx
  have y0 := cellOf hg (p * 9 + 0)
  rw [hcur 0 (by omega), hcse] at y0
  have t0 := cellOf hblk 0
  simp [elC] at t0 y0
  clear hcse hcs hcur hg hblk hrow hNE h hx o1 o2 o3
  generalize els.length = n at *
  have q3 : decide ((p : Int) < 0) = false := by simp
  have q4 : decide ((n : Int) ≤ (p : Int)) = false := by simp; omega
  have q4n : decide (n ≤ p) = false := by simp; omega
  have q5 : (p : Int) < (n : Int) := by omega
  unfold maxLen at hcap2
  go_enter Try.func21, Try.ntmps21
  go_wp2_with fail
  go_ret
  exact ⟨rfl, Fr.refl _ _⟩
end Go.Proofs.Ytdbhcogafhhlnaa
