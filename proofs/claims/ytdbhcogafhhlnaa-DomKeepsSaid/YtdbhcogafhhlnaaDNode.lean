/- Node: an element's node. -/
import Derived.Test.YtdbhcogafhhlnaaDAt
namespace Go.Proofs.Ytdbhcogafhhlnaa
open Go.RowKit Go.Maps Go.ChangeShapes Go.WideShapes Go.ChangeAt Go.WideMaps Go.WideElems

def NodeP (wr : World) (x : ElD) (en : Ending) (w' : World) : Prop :=
  ∃ sp c q o, en = .returned (.agg #[.int .i64 x.nd.par, .string (lowS x.nd.tag), .string x.nd.id, .slice sp x.nd.cls.length c, .slice q x.nd.att.length o]) ∧ OwnsWin w' wr.heap.size 9 1 (.slice sp x.nd.cls.length c) x.nd.cls.length (x.nd.cls.map Value.string) ∧
    OwnsWin w' wr.heap.size 38 2 (.slice q x.nd.att.length o) x.nd.att.length (attL (lowA x.nd.att)) ∧ Fr (fun _ => False) wr w'

theorem fin5 {w : World} {b : Nat} (r : w.heap[b]? = some ZN) (v0 v1 v2 v3 v4 : Value) :
    ((((((w.setCell ⟨b, 0, none⟩ v0).setCell ⟨b, 1, none⟩ v1).setCell ⟨b, 2, none⟩ v2).setCell ⟨b, 3, none⟩ v3).setCell ⟨b, 4, none⟩ v4).heap[b]? = some (.cells #[v0, v1, v2, v3, v4] 25 (0, 0))) ∧
    Fr (fun j => j = b) w (((((w.setCell ⟨b, 0, none⟩ v0).setCell ⟨b, 1, none⟩ v1).setCell ⟨b, 2, none⟩ v2).setCell ⟨b, 3, none⟩ v3).setCell ⟨b, 4, none⟩ v4) := by
  refine ⟨?_, (((((Fr.refl (fun j => j = b) w).setCell (p := ⟨b, 0, none⟩) (.inl rfl) _).setCell (p := ⟨b, 1, none⟩) (.inl rfl) _).setCell (p := ⟨b, 2, none⟩) (.inl rfl) _).setCell (p := ⟨b, 3, none⟩) (.inl rfl) _).setCell (p := ⟨b, 4, none⟩) (.inl rfl) _⟩
  unfold ZN at r
  simpa using heapSet (heapSet (heapSet (heapSet (heapSet r 0 v0) 1 v1) 2 v2) 3 v3) 4 v4

set_option maxHeartbeats 1000000 in
set_option maxRecDepth 100000 in
theorem Node_any (w wr : World) (tb : Nat) (els : List ElD) (h : TS w wr tb els) (e : Int) (x : ElD) (hx : eltAt els e = x) (hn : x.nd.cls.length * 16 ≤ 140737488351232) (hm : x.nd.att.length * 32 ≤ 140737488351232) :
    Calls Try.prog 15 #[.pointer (some ⟨tb, 0, none⟩), .int .i64 e] wr (NodeP wr x) := by
  have A := Lib.hid ((Fr.refl (fun _ => False) wr).alloc ZN)
  have ZB := Lib.hid (heapNew wr ZN)
  have P := Lib.hid (at_any w _ tb els (h.fr0 A.out) e)
  rw [hx] at P
  unfold ZN at P
  clear h
  go_enter Try.func15, Try.ntmps15
  go_wp2_with fail
  refine P.out.mono ?_
  rintro en w1 ⟨sp, c, q, o, s, kk, rfl, o1, o2, -, f1⟩
  have hla : (lowA x.nd.att).length = x.nd.att.length := by simp [lowA]
  have C := copied_any x.nd.par (lowS x.nd.tag) x.nd.id x.nd.cls (lowA x.nd.att) sp c q o w1 (Src.of_win o1) (by rw [hla]; exact Src.of_win o2) hn (by rw [hla]; exact hm)
  rw [hla] at C
  have C := Lib.hid C
  have F1 := Lib.hid (A.out.trans f1)
  have ZB1 := Lib.hid (f1.heap ZB.out (by simp))
  have hfd : ∀ (a b c d e f g h i : Value) (w : World), (Instr.field 57 (.agg #[a, b, c, d, e, f, g, h, i]) 0).run Try.prog w = .ok (.agg #[a, b, c, d, e]) w := field57_0
  clear f1 P o1 o2 hla A ZB
  go_wp2_with fail
  refine C.out.mono ?_
  rintro en w2 ⟨⟨sp1, c1, sp2, c2, rfl, o1, o2⟩, f2⟩
  have F2 := Lib.hid (F1.out.trans f2)
  have ZB2 := Lib.hid (f2.heap ZB1.out (by simp))
  have hr := ZB2.out
  unfold ZN at hr
  have r0 := cellOf hr 0
  have r1 := cellOf hr 1
  have r2 := cellOf hr 2
  have r3 := cellOf hr 3
  have r4 := cellOf hr 4
  have y0 := frozenOf hr 0
  have y1 := frozenOf hr 1
  have y2 := frozenOf hr 2
  have y3 := frozenOf hr 3
  have y4 := frozenOf hr 4
  simp at r0 r1 r2 r3 r4
  have N1 := Lib.hid (o1.ne hr (by intro c; simp))
  have N2 := Lib.hid (o2.ne hr (by intro c; simp))
  have O1 := Lib.hid (o1.lower F1.out.size)
  have O2 := Lib.hid (o2.lower F1.out.size)
  have M := Lib.hid (fin5 ZB2.out (.int .i64 x.nd.par) (.string (lowS x.nd.tag)) (.string x.nd.id) (.slice sp1 x.nd.cls.length c1) (.slice sp2 x.nd.att.length c2))
  clear hr f2 C o1 o2 F1 ZB1 ZB2
  go_wp2_with fail
  clear r0 r1 r2 r3 r4 y0 y1 y2 y3 y4
  obtain ⟨m1, m2⟩ := M.out
  clear M
  generalize ((((w2.setCell ⟨wr.heap.size, 0, none⟩ (.int .i64 x.nd.par)).setCell ⟨wr.heap.size, 1, none⟩ (.string (lowS x.nd.tag))).setCell ⟨wr.heap.size, 2, none⟩ (.string x.nd.id)).setCell ⟨wr.heap.size, 3, none⟩ (.slice sp1 x.nd.cls.length c1)).setCell ⟨wr.heap.size, 4, none⟩ (.slice sp2 x.nd.att.length c2) = wz at *
  have d0 := cellOf m1 0
  have d1 := cellOf m1 1
  have d2 := cellOf m1 2
  have d3 := cellOf m1 3
  have d4 := cellOf m1 4
  simp at d0 d1 d2 d3 d4
  show bodyPost Try.prog Try.f15 _ Exit.ret _ _
  refine bodyPost_ret (v := .agg #[.int .i64 x.nd.par, .string (lowS x.nd.tag), .string x.nd.id, .slice sp1 x.nd.cls.length c1, .slice sp2 x.nd.att.length c2]) (by simp [results, Try.results15, go_sem, d0, d1, d2, d3, d4]) rfl ?_
  exact ⟨sp1, c1, sp2, c2, rfl, O1.out.fr m2 (fun j hj e => N1.out (by subst e; exact hj.symm)), O2.out.fr m2 (fun j hj e => N2.out (by subst e; exact hj.symm)), F2.out.step m2 (fun j e => .inr (by omega))⟩
end Go.Proofs.Ytdbhcogafhhlnaa
