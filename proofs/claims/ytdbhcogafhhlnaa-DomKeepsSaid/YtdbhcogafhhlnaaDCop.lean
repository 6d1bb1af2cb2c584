/- dom's copied: a node in memory of its own. -/
import Derived.Test.YtdbhcogafhhlnaaDClone
import Derived.Deep.RegionLaw
namespace Go.Proofs.Ytdbhcogafhhlnaa
open Go.RowKit Go.Maps Go.ChangeShapes Go.WideShapes Go.ChangeAt Go.WideMaps Go.WideElems

def attL (l : List (ByteArray × ByteArray)) : List Value := l.flatMap fun p => [.string p.1, .string p.2]
def lowA (l : List (ByteArray × ByteArray)) : List (ByteArray × ByteArray) := l.map fun p => (lowS p.1, p.2)
theorem lowA_len (l : List (ByteArray × ByteArray)) : (lowA l).length = l.length := by simp [lowA]
theorem attL_len (l : List (ByteArray × ByteArray)) : (attL l).length = l.length * 2 := by
  induction l with
  | nil => rfl
  | cons p r ih => simp only [attL, List.flatMap_cons, List.length_append, List.length_cons, List.length_nil] at *; rw [ih]; omega
theorem attL_cell (l : List (ByteArray × ByteArray)) : ∀ u ∈ attL l, u.oneCell' = true := by
  intro u hu
  unfold attL at hu
  rw [List.mem_flatMap] at hu
  obtain ⟨p, _, hu⟩ := hu
  simp only [List.mem_cons, List.not_mem_nil, or_false] at hu
  rcases hu with rfl | rfl <;> rfl
theorem strs_cell (l : List ByteArray) : ∀ u ∈ l.map Value.string, u.oneCell' = true := by
  intro u hu
  obtain ⟨t, _, rfl⟩ := List.mem_map.1 hu
  rfl

def ZN : Obj := .cells #[.int .i64 0, .string ⟨#[]⟩, .string ⟨#[]⟩, .slice none 0 0, .slice none 0 0] 25

/-- A node's block, and its result's behind it. -/
structure LD (w wr : World) (nb : Nat) (par : Int) (tag id : ByteArray) (vC vA : Value) : Prop where
  node : wr.heap[nb]? = some (.cells #[.int .i64 par, .string tag, .string id, vC, vA] 25 (0, 0))
  res : wr.heap[nb + 1]? = some ZN
  fr : Fr (fun _ => False) w wr
  hn : w.heap.size ≤ nb

section
variable {w wr : World} {nb : Nat} {par : Int} {tag id : ByteArray} {vC vA : Value}
theorem LD.fr' (h : LD w wr nb par tag id vC vA) {w2 : World} (f : Fr (fun _ => False) wr w2) : LD w w2 nb par tag id vC vA :=
  ⟨f.heap h.node (by simp), f.heap h.res (by simp), h.fr.trans f, h.hn⟩
theorem LD.setTag (h : LD w wr nb par tag id vC vA) (t : ByteArray) : LD w (wr.setCell ⟨nb, 1, none⟩ (.string t)) nb par t id vC vA :=
  ⟨by simpa using heapSet h.node 1 (.string t), (heapSetOther 1 _ (by omega)).trans h.res, h.fr.setCell (p := ⟨nb, 1, none⟩) (.inr h.hn) _, h.hn⟩
theorem LD.setCls (h : LD w wr nb par tag id vC vA) (v : Value) : LD w (wr.setCell ⟨nb, 3, none⟩ v) nb par tag id v vA :=
  ⟨by simpa using heapSet h.node 3 v, (heapSetOther 3 _ (by omega)).trans h.res, h.fr.setCell (p := ⟨nb, 3, none⟩) (.inr h.hn) _, h.hn⟩
theorem LD.setAtt (h : LD w wr nb par tag id vC vA) (v : Value) : LD w (wr.setCell ⟨nb, 4, none⟩ v) nb par tag id vC v :=
  ⟨by simpa using heapSet h.node 4 v, (heapSetOther 4 _ (by omega)).trans h.res, h.fr.setCell (p := ⟨nb, 4, none⟩) (.inr h.hn) _, h.hn⟩
theorem LD.fin (h : LD w wr nb par tag id vC vA) :
    ((((((wr.setCell ⟨nb + 1, 0, none⟩ (.int .i64 par)).setCell ⟨nb + 1, 1, none⟩ (.string tag)).setCell ⟨nb + 1, 2, none⟩ (.string id)).setCell ⟨nb + 1, 3, none⟩ vC).setCell ⟨nb + 1, 4, none⟩ vA).heap[nb + 1]? = some (.cells #[.int .i64 par, .string tag, .string id, vC, vA] 25 (0, 0))) ∧
    Fr (fun j => j = nb + 1) wr (((((wr.setCell ⟨nb + 1, 0, none⟩ (.int .i64 par)).setCell ⟨nb + 1, 1, none⟩ (.string tag)).setCell ⟨nb + 1, 2, none⟩ (.string id)).setCell ⟨nb + 1, 3, none⟩ vC).setCell ⟨nb + 1, 4, none⟩ vA) := by
  refine ⟨?_, (((((Fr.refl (fun j => j = nb + 1) wr).setCell (p := ⟨nb + 1, 0, none⟩) (.inl rfl) _).setCell (p := ⟨nb + 1, 1, none⟩) (.inl rfl) _).setCell (p := ⟨nb + 1, 2, none⟩) (.inl rfl) _).setCell (p := ⟨nb + 1, 3, none⟩) (.inl rfl) _).setCell (p := ⟨nb + 1, 4, none⟩) (.inl rfl) _⟩
  have r := h.res
  unfold ZN at r
  simpa using heapSet (heapSet (heapSet (heapSet (heapSet r 0 (.int .i64 par)) 1 (.string tag)) 2 (.string id)) 3 vC) 4 vA
end
theorem LD.new (w : World) (par : Int) (tag id : ByteArray) (vC vA : Value) : LD w ((w.alloc (.cells #[.int .i64 par, .string tag, .string id, vC, vA] 25)).alloc ZN) w.heap.size par tag id vC vA := by
  have h2 := heapNew (w.alloc (.cells #[.int .i64 par, .string tag, .string id, vC, vA] 25)) ZN
  rw [World.size_alloc] at h2
  exact ⟨heapAlloc (heapNew w _), h2, ((Fr.refl _ w).alloc _).alloc _, Nat.le_refl _⟩

set_option maxHeartbeats 4000000 in
set_option maxRecDepth 100000 in
theorem copied_any (par : Int) (tag id : ByteArray) (cls : List ByteArray) (att : List (ByteArray × ByteArray)) (sp : Option Addr) (c : Nat) (qA : Option Addr) (oA : Nat) (w : World)
    (hc : Src w 1 sp cls.length (cls.map Value.string)) (hA : Src w 2 qA att.length (attL att)) (hn : cls.length * 16 ≤ 140737488351232) (hm : att.length * 32 ≤ 140737488351232) :
    Calls Try.prog 36 #[.agg #[.int .i64 par, .string tag, .string id, .slice sp cls.length c, .slice qA att.length oA]] w fun e w' =>
      (∃ sp1 c1 sp2 c2, e = .returned (.agg #[.int .i64 par, .string tag, .string id, .slice sp1 cls.length c1, .slice sp2 att.length c2]) ∧
        OwnsWin w' w.heap.size 9 1 (.slice sp1 cls.length c1) cls.length (cls.map Value.string) ∧ OwnsWin w' w.heap.size 38 2 (.slice sp2 att.length c2) att.length (attL att)) ∧ Fr (fun _ => False) w w' := by
  have L0 := Lib.hid (LD.new w par tag id (.slice sp cls.length c) (.slice qA att.length oA))
  have hL := LD.new w par tag id (.slice sp cls.length c) (.slice qA att.length oA)
  have HB0 := hL.node
  have HC := Lib.hid hc
  have HA := Lib.hid hA
  have P1 := Lib.hid (fun W (f : Fr (fun _ => False) w W) => cloneS_any sp cls.length c _ W (hc.fr f) (strs_cell cls) hn)
  have P2 := Lib.hid (fun W (f : Fr (fun _ => False) w W) => cloneP_any qA att.length oA _ W (hA.fr f) (attL_cell att) hm)
  have f0 := hL.fr
  clear hL hc hA
  unfold ZN at *
  generalize hw2 : (w.alloc (.cells #[.int .i64 par, .string tag, .string id, .slice sp cls.length c, .slice qA att.length oA] 25)).alloc (.cells #[.int .i64 0, .string ⟨#[]⟩, .string ⟨#[]⟩, .slice none 0 0, .slice none 0 0] 25) = w2 at *
  have HW := Lib.hid hw2
  clear hw2
  have F0 := Lib.hid f0.drew
  have HBH := Lib.hid HB0
  clear f0 HB0
  go_enter Try.func36, Try.ntmps36
  go_wp2_with fail
  rw [HW.out]
  have G0 : Fr (fun _ => False) w w2.drew := F0.out
  have B0 : w2.drew.heap[w.heap.size]? = some (.cells #[.int .i64 par, .string tag, .string id, .slice sp cls.length c, .slice qA att.length oA] 25 (0, 0)) := HBH.out
  have LL0 : LD w w2.drew w.heap.size par tag id (.slice sp cls.length c) (.slice qA att.length oA) := L0.out.fr' (Fr.refl _ _).drew
  have LLH := Lib.hid LL0
  have d3 := cellOf B0 3
  have d4 := cellOf B0 4
  have z3 := frozenOf B0 3
  have z4 := frozenOf B0 4
  simp at d3 d4
  clear LL0
  go_region_law (first
    | (go_simp; go_at_call 42; refine Calls.mono (P1.out _ (by assumption)) ?_; rintro e w6 ⟨⟨sp1, c1, rfl, o1⟩, f6⟩; have G6 : Fr (fun _ => False) w w6 := Fr.trans (by assumption) f6; have B6 : w6.heap[w.heap.size]? = some (.cells #[.int .i64 par, .string tag, .string id, .slice sp cls.length c, .slice qA att.length oA] 25 (0, 0)) := Fr.heap f6 (by assumption) (by simp); have k3 := cellOf B6 3; have k4 := cellOf B6 4; have t3 := frozenOf B6 3; have t4 := frozenOf B6 4; simp at k3 k4)
    | (go_simp; go_at_call 43; refine Calls.mono (P2.out _ (by assumption)) ?_; rintro e w7 ⟨⟨sp2, c2, rfl, o2⟩, f7⟩; have G7 : Fr (fun _ => False) w w7 := Fr.trans (by assumption) f7; have B7 : w7.heap[w.heap.size]? = some (.cells #[.int .i64 par, .string tag, .string id, .slice sp cls.length c, .slice qA att.length oA] 25 (0, 0)) := Fr.heap f7 (by assumption) (by simp); have m3 := cellOf B7 3; have m4 := cellOf B7 4; have s3 := frozenOf B7 3; have s4 := frozenOf B7 4; simp at m3 m4))
  all_goals
    first
      | (have fwf : Fr (fun _ => False) w2.drew w7 := f6.trans f7; have o1f := (o1.lower G0.size).fr f7 (by simp); have o2f := o2.lower G6.size; (have F9 := Lib.hid (((LLH.out.fr' fwf).setCls (.slice sp1 cls.length c1)).setAtt (.slice sp2 att.length c2)); have n1 := o1f.ne (LLH.out.fr' fwf).node (by intro c; simp); have n2 := o2f.ne (LLH.out.fr' fwf).node (by intro c; simp); have fset : Fr (fun j => j = w.heap.size) w7 ((w7.setCell ⟨w.heap.size, 3, none⟩ (.slice sp1 cls.length c1)).setCell ⟨w.heap.size, 4, none⟩ (.slice sp2 att.length c2)) := ((Fr.refl (fun j => j = w.heap.size) w7).setCell (p := ⟨w.heap.size, 3, none⟩) (.inl rfl) _).setCell (p := ⟨w.heap.size, 4, none⟩) (.inl rfl) _; have p1 := o1f.fr fset (fun j hj e => n1 (by subst e; exact hj.symm)); have p2 := o2f.fr fset (fun j hj e => n2 (by subst e; exact hj.symm)); have P1' := Lib.hid p1; have P2' := Lib.hid p2; generalize (w7.setCell ⟨w.heap.size, 3, none⟩ (.slice sp1 cls.length c1)).setCell ⟨w.heap.size, 4, none⟩ (.slice sp2 att.length c2) = w9 at *))
      | (have fwf : Fr (fun _ => False) w2.drew w6 := f7.trans f6; have o1f := o1.lower G7.size; have o2f := (o2.lower G0.size).fr f6 (by simp); (have F9 := Lib.hid (((LLH.out.fr' fwf).setCls (.slice sp1 cls.length c1)).setAtt (.slice sp2 att.length c2)); have n1 := o1f.ne (LLH.out.fr' fwf).node (by intro c; simp); have n2 := o2f.ne (LLH.out.fr' fwf).node (by intro c; simp); have fset : Fr (fun j => j = w.heap.size) w6 ((w6.setCell ⟨w.heap.size, 3, none⟩ (.slice sp1 cls.length c1)).setCell ⟨w.heap.size, 4, none⟩ (.slice sp2 att.length c2)) := ((Fr.refl (fun j => j = w.heap.size) w6).setCell (p := ⟨w.heap.size, 3, none⟩) (.inl rfl) _).setCell (p := ⟨w.heap.size, 4, none⟩) (.inl rfl) _; have p1 := o1f.fr fset (fun j hj e => n1 (by subst e; exact hj.symm)); have p2 := o2f.fr fset (fun j hj e => n2 (by subst e; exact hj.symm)); have P1' := Lib.hid p1; have P2' := Lib.hid p2; generalize (w6.setCell ⟨w.heap.size, 3, none⟩ (.slice sp1 cls.length c1)).setCell ⟨w.heap.size, 4, none⟩ (.slice sp2 att.length c2) = w9 at *))
  all_goals
    have hcn := F9.out.node
    have hcr := F9.out.res
    unfold ZN at hcr
    have b0 := cellOf hcn 0
    have b1 := cellOf hcn 1
    have b2 := cellOf hcn 2
    have b3 := cellOf hcn 3
    have b4 := cellOf hcn 4
    have r0 := cellOf hcr 0
    have r1 := cellOf hcr 1
    have r2 := cellOf hcr 2
    have r3 := cellOf hcr 3
    have r4 := cellOf hcr 4
    have y0 := frozenOf hcr 0
    have y1 := frozenOf hcr 1
    have y2 := frozenOf hcr 2
    have y3 := frozenOf hcr 3
    have y4 := frozenOf hcr 4
    simp at b0 b1 b2 b3 b4 r0 r1 r2 r3 r4
    have m1n := P1'.out.ne hcr (by intro c; simp)
    have m2n := P2'.out.ne hcr (by intro c; simp)
    clear hcn hcr G0 B0 G6 G7 B6 B7 k3 k4 t3 t4 m3 m4 s3 s4 d3 d4 z3 z4 o1 o2 f6 f7
    go_wp2_with fail
    have M := F9.out.fin
    clear b0 b1 b2 b3 b4 r0 r1 r2 r3 r4 y0 y1 y2 y3 y4
    generalize ((((w9.setCell ⟨w.heap.size + 1, 0, none⟩ (.int .i64 par)).setCell ⟨w.heap.size + 1, 1, none⟩ (.string tag)).setCell ⟨w.heap.size + 1, 2, none⟩ (.string id)).setCell ⟨w.heap.size + 1, 3, none⟩ (.slice sp1 cls.length c1)).setCell ⟨w.heap.size + 1, 4, none⟩ (.slice sp2 att.length c2) = wz at *
    obtain ⟨m1, m2⟩ := M
    have d0 := cellOf m1 0
    have d1 := cellOf m1 1
    have d2 := cellOf m1 2
    have d3 := cellOf m1 3
    have d4 := cellOf m1 4
    simp at d0 d1 d2 d3 d4
    show bodyPost Try.prog Try.f36 _ Exit.ret _ _
    refine bodyPost_ret (v := .agg #[.int .i64 par, .string tag, .string id, .slice sp1 cls.length c1, .slice sp2 att.length c2]) (by simp [results, Try.results36, go_sem, d0, d1, d2, d3, d4]) rfl ?_
    exact ⟨⟨sp1, c1, sp2, c2, rfl, P1'.out.fr m2 (fun j hj e => m1n (by subst e; exact hj.symm)), P2'.out.fr m2 (fun j hj e => m2n (by subst e; exact hj.symm))⟩, F9.out.fr.step m2 (fun j e => .inr (by omega))⟩
end Go.Proofs.Ytdbhcogafhhlnaa
