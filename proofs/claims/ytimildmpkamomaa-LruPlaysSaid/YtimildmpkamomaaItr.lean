/- The iterator over a cache's entries, from the first one on: its contract. -/
import Derived.RangeFuncBox
import Derived.RangeFuncLeaves
import Derived.RangeFuncNested
import Derived.RangeFuncBound
import Derived.Shelf.Abstract
import Derived.WalkKit
import Derived.OwnWalkIn
import Derived.TacticsInMore
import Derived.LoopNIn
import Derived.LoopIn
import Derived.Maps.AppendAt
import Derived.Test.YtimildmpkamomaaCop
namespace Go.Proofs.Ytimildmpkamomaa
open Go.RowKit Go.Shelf

attribute [local go_sem] Oper.semAt_some

/-- What was there when the call began stays, and one block more. -/
def KpB (w : World) (B : Nat) (A C : World) : Prop := (∀ k, k < w.heap.size → C.heap[k]? = A.heap[k]?) ∧ C.heap[B]? = A.heap[B]?
theorem KpB.t {w : World} {B : Nat} {X Y Z : World} (h : KpB w B X Y) (k : KpB w B Y Z) : KpB w B X Z := ⟨fun j hj => (k.1 j hj).trans (h.1 j hj), k.2.trans h.2⟩
theorem KpB.b {w w0 : World} {B : Nat} (hB : B < w0.heap.size) (hw : w.heap.size ≤ w0.heap.size) (W : World) (l : Nat) (o o' : Obj) (hl : w0.heap.size ≤ l) (h : W.heap[l]? = some o) (_ : o.isCells = false) (_ : o.isWalk = false) : KpB w B W (W.putObj l o') := by
  have hlt := (Array.getElem?_eq_some_iff.1 h).1
  exact ⟨fun k hk => (grownBy_putObj' W l o').block k (by omega) (by simp; omega), (grownBy_putObj' W l o').block B (by omega) (by simp; omega)⟩

theorem frOfGrown {A B : World} {row : Option Nat} (hg : A.grownBy B row) : Fr (fun k => row = some k) A B := (Fr.refl _ A).grown hg (fun _ e => .inl e)
theorem heapKept {A B : World} {row : Option Nat} {C k : Nat} {c : Array Value} {t : TypeId} {fz : Nat × Nat} (h : A.heap[k]? = some (.cells c t fz)) (hg : A.grownBy B row) (hr : ∀ r, row = some r → C ≤ r ∧ ∃ o : Obj, A.heap[r]? = some o ∧ o.isCells = false) : B.heap[k]? = some (.cells c t fz) :=
  (frOfGrown hg).heap h (fun e => by
    obtain ⟨_, o, ho, hc⟩ := hr k e
    rw [h] at ho
    cases ho
    simp [Obj.isCells] at hc)
theorem rowKept {A B : World} {row : Option Nat} {C base e size n : Nat} {v : Value} {xs : List Value} (h : A.ownsRow base e size v n xs) (hg : A.grownBy B row) (hr : ∀ r, row = some r → C ≤ r ∧ ∃ o : Obj, A.heap[r]? = some o ∧ o.isCells = false) : B.ownsRow base e size v n xs :=
  ownsRow.fr h (frOfGrown hg) (fun k hk e => by
    obtain ⟨_, o, ho, hc⟩ := hr k e
    exact ownsRow.ne h ho (fun c => by rintro rfl; simp [Obj.isCells] at hc) hk.symm)
theorem Fr.keeps {S : Nat → Prop} {W W' : World} {B : Nat} (f : Fr S W W') (hS : ∀ k, S k → ∃ c t z, W.heap[k]? = some (.cells c t z)) : KeepsFrom B W W' :=
  ⟨f.size, fun k o _ hk ho => f.heap hk (fun e => by
    obtain ⟨c, t, z, h⟩ := hS k e
    rw [h] at hk
    cases hk
    simp [Obj.isCells] at ho)⟩

/-- What the iterator reads: the box, the cache, its row. -/
structure Rdc (w W : World) (B b : Nat) (size : Int) (E : List Ent) : Prop where
  box : Boxed W B 56 (.pointer (some ⟨b, 1, none⟩))
  old : ∀ k, k < w.heap.size → W.heap[k]? = w.heap[k]?
  ca : ∃ S, IsCa 44 50 w b S size E
theorem Rdc.kp {w W W' : World} {B b : Nat} {size : Int} {E : List Ent} (h : Rdc w W B b size E) (k : KpB w B W W') : Rdc w W' B b size E :=
  ⟨k.2.trans h.box, fun j hj => (k.1 j hj).trans (h.old j hj), h.ca⟩

set_option maxRecDepth 100000 in
set_option maxHeartbeats 2000000 in
theorem each1_in (F : Fence) (n : Nat) (h21 : F.fn 21) (hro : F.round = none) (hn : 1 ≤ n) (l B b : Nat) (size : Int) (E : List Ent) (w : World) (hE : E.length ≤ 2000) (J Jx : List Ent → World → Prop)
    (hY : ∀ pre x W, J pre W → pre.length < E.length → YieldAt F (n - 1) Try.prog l #[.agg #[.int .i64 x.1, .int .i64 x.2]] W fun e W' =>
      (e = .returned (.bool true) ∧ J (pre ++ [x]) W' ∧ KpB w B W W') ∨ (e = .returned (.bool false) ∧ Jx (pre ++ [x]) W'))
    (W : World) (hR : Rdc w W B b size E) (h0 : J [] W) :
    CallsIn F n Try.prog 21 #[.func (.yield l) #[] #[], .pointer (some ⟨B, 0, none⟩)] W fun e W' => (∃ v, e = .returned v) ∧
      ((∃ ys, ys = E.reverse ∧ J ys W') ∨ (∃ pre, pre <+: E.reverse ∧ Jx pre W')) := by
  have rd : ∀ W1, Rdc w W1 B b size E → ∃ sp sc, W1.cell? ⟨b, 1, none⟩ = some (.slice sp E.length sc) ∧ E.length ≤ sc ∧ sc ≤ maxLen ∧ ∀ m (hm : m < E.length), ∃ g off, sp = some ⟨g, off, none⟩ ∧ W1.cell? ⟨g, off + m * 2, none⟩ = some (.int .i64 E[m].1) ∧ W1.cell? ⟨g, off + m * 2 + 1, none⟩ = some (.int .i64 E[m].2) := by
    intro W1 h1
    obtain ⟨S, _, _, sp, sc, hb, hrow, _⟩ := h1.ca
    have hcl := hrow.capLe rfl
    refine ⟨sp, sc, ?_, hcl.1, hcl.2, fun m hm => ?_⟩
    · rw [cellOf ((h1.old b (ltOf hb)).trans hb)]; rfl
    · obtain ⟨g, off, cap, hv, _, _, hgl, _, hcell, _⟩ := hrow.cells (by omega)
      cases hv
      obtain ⟨a0, a1⟩ := ents_at E m hm
      have q0 := hcell _ _ a0
      have q1 := hcell _ _ a1
      rw [← Nat.add_assoc] at q1
      exact ⟨g, off, rfl, (World.cell?_of_block (h1.old g hgl)).trans q0, (World.cell?_of_block (h1.old g hgl)).trans q1⟩
  have RD := Lib.hid rd
  clear rd
  obtain ⟨sp0, sc0, c1, q0, q9, _⟩ := RD.out W hR
  unfold maxLen at q9
  have c0 := hR.box.cell
  refine callsIn_of_wp Try.func21 rfl h21 ?_ hro
  simp only [Try.ntmps21, List.size_toArray, List.length_cons, List.length_nil, Nat.reduceAdd, Nat.reduceSub, Array.replicate_succ, Array.replicate_zero, List.push_toArray, List.append_toArray, List.nil_append, List.cons_append]
  gi_wp2
  clear c0 c1 q0 q9
  gi_loopw [3] (fun i wr => ∃ r : Nat, i = .int .i64 ((r : Int) - 1) ∧ r ≤ E.length ∧ Hid (Rdc w wr B b size E) ∧ Hid (J (E.reverse.take (E.length - r)) wr)) (fun i _ => (intOf i + 1).toNat)
  case atStart => exact ⟨E.length, rfl, Nat.le_refl _, hR, by rw [Nat.sub_self]; exact h0⟩
  case round =>
    obtain ⟨r, rfl, hr, hRd, hJ⟩ := hrel
    cases r with
    | zero =>
      gi_wp2
      go_end0
      exact ⟨⟨_, rfl⟩, .inl ⟨E.reverse, rfl, by have := hJ.out; rw [Nat.sub_zero, List.take_of_length_le (by simp)] at this; exact this⟩⟩
    | succ m =>
      have hm : m < E.length := by omega
      have e1 : (((m + 1 : Nat) : Int) - 1) = (m : Int) := by omega
      rw [e1]
      obtain ⟨sp, sc, c1, q1, q2, hc⟩ := RD.out wr hRd.out
      obtain ⟨g, off, rfl, x0, x1⟩ := hc m hm
      unfold maxLen at q2
      have c0 := hRd.out.box.cell
      obtain ⟨fn, tmps, assign, body, hy, hR9⟩ := hY _ E[m] wr hJ.out (by simp; omega)
      have ht : E.reverse.take (E.length - (m + 1)) ++ [E[m]] = E.reverse.take (E.length - m) := by
        rw [show E.length - m = E.length - (m + 1) + 1 by omega, List.take_add_one, List.getElem?_reverse (by omega), show E.length - 1 - (E.length - (m + 1)) = m by omega, List.getElem?_eq_getElem hm]
        rfl
      rw [ht] at hR9
      have HR9 := Lib.hid hR9
      have i0 : (0 : Int) ≤ (m : Int) := by omega
      have i1 : (m : Int) < (E.length : Int) := by omega
      have i2 : (m : Int) < 3000 := by omega
      clear hR9 ht hc e1
      generalize E[m].1 = y0 at *
      generalize E[m].2 = y1 at *
      gi_wp2
      refine HR9.out.mono ?_
      rintro e W3 (⟨rfl, hJ3, hk3⟩ | ⟨rfl, hJx3⟩)
      · have HJ3 := Lib.hid hJ3
        have HR3 := Lib.hid (hRd.out.kp hk3)
        clear hJ3 hk3 HR9
        gi_wp2
        go_roundw
        case rel => exact ⟨m, rfl, by omega, HR3.out, HJ3.out⟩
        case measure => simp [intOf]
      · gi_wp2
        refine bodyPost_ret (v := .tuple #[]) (results_none rfl _ _ _) rfl ?_
        exact ⟨⟨_, rfl⟩, .inr ⟨E.reverse.take (E.length - m), List.take_prefix _ _, hJx3⟩⟩

set_option maxHeartbeats 1000000 in
theorem each_in (F : Fence) (n : Nat) (h20 : F.fn 20) (hro : F.round = none) (p : Addr) (w : World) :
    CallsIn F n Try.prog 20 #[.pointer (some p)] w fun e w' => e = .returned (.func (.func 21) #[] #[.pointer (some ⟨w.heap.size, 0, none⟩)]) ∧ w' = w.alloc (.cells #[.pointer (some p)] 56) := by
  refine callsIn_of_wp Try.func20 rfl h20 ?_ hro
  simp only [Try.ntmps20, List.size_toArray, List.length_cons, List.length_nil, Nat.reduceAdd, Nat.reduceSub, Array.replicate_succ, Array.replicate_zero, List.push_toArray, List.append_toArray, List.nil_append, List.cons_append]
  gi_wp2
  go_ret
  exact ⟨rfl, rfl⟩

theorem each_stops (F : Fence) (n : Nat) (h21 : F.fn 21) (hro : F.round = none) (hn : 1 ≤ n) (B b : Nat) (size : Int) (E : List Ent) (w w1 : World) (hE : E.length ≤ 2000) (hR : Rdc w w1 B b size E) (hs : w.heap.size ≤ w1.heap.size) :
    SeqStopsK F n Try.prog 21 #[.pointer (some ⟨B, 0, none⟩)] (fun x : Ent => #[Value.agg #[.int .i64 x.1, .int .i64 x.2]]) (KpB w B) (fun ys => ys = E.reverse) (fun pre => pre <+: E.reverse) E.length w1 := fun l J Jx W hW _ _ hY h0 =>
  each1_in F n h21 hro hn l B b size E w hE J Jx hY W ⟨(hW.block B hR.box.lt).trans hR.box, fun k hk => (hW.block k (by omega)).trans (hR.old k hk), hR.ca⟩ h0
end Go.Proofs.Ytimildmpkamomaa
