/- The iterator over numbers from 0 on: its contract. -/
import Derived.RangeFuncBox
import Derived.RangeFuncLeaves
import Derived.RangeFuncNested
import Derived.RangeFuncBound
import Derived.Shelf.Abstract
import Derived.WalkKit
import Derived.OwnWalkIn
import Derived.TacticsInMore
import Derived.LoopNIn
import Derived.LoopIn
import Derived.Maps.AppendAt
import Derived.Test.YtdjdpfmogphoiaaGfn
namespace Go.Proofs.Ytdjdpfmogphoiaa
open Go.RowKit Go.Shelf

attribute [local go_sem] Oper.semAt_some

/-- One block stays. -/
def Kp1 (B : Nat) (A C : World) : Prop := C.heap[B]? = A.heap[B]?
theorem Kp1.t {B : Nat} {X Y Z : World} (h : Kp1 B X Y) (k : Kp1 B Y Z) : Kp1 B X Z := Eq.trans k h
theorem Kp1.b {B : Nat} {w : World} (hB : B < w.heap.size) (W : World) (l : Nat) (o o' : Obj) (hl : w.heap.size ≤ l) (h : W.heap[l]? = some o) (_ : o.isCells = false) (_ : o.isWalk = false) : Kp1 B W (W.putObj l o') := by
  unfold Kp1
  have := (grownBy_putObj' W l o').block B (by have := (Array.getElem?_eq_some_iff.1 h).1; omega) (by simp; omega)
  exact this

set_option maxRecDepth 100000 in
set_option maxHeartbeats 1000000 in
theorem some1_in (F : Fence) (n : Nat) (h23 : F.fn 23) (hro : F.round = none) (hn : 1 ≤ n) (l B : Nat) (N : Int) {α : Type} (enc : α → Int) (xs : List α) (hN : xs.length = N.toNat) (hbd : N ≤ 1000000) (hxs : ∀ (i : Nat) x, xs[i]? = some x → enc x = i) (J Jx : List α → World → Prop)
    (hY : ∀ pre x W, J pre W → pre.length < xs.length → YieldAt F (n - 1) Try.prog l #[.int .i64 (enc x)] W fun e W' =>
      (e = .returned (.bool true) ∧ J (pre ++ [x]) W' ∧ Kp1 B W W') ∨ (e = .returned (.bool false) ∧ Jx (pre ++ [x]) W'))
    (W : World) (hB : Boxed W B 3 (.int .i64 N)) (h0 : J [] W) :
    CallsIn F n Try.prog 23 #[.func (.yield l) #[] #[], .pointer (some ⟨B, 0, none⟩)] W fun e W' => (∃ v, e = .returned v) ∧
      ((∃ ys, ys = xs ∧ J ys W') ∨ (∃ pre, pre <+: xs ∧ Jx pre W')) := by
  refine callsIn_of_wp Try.func23 rfl h23 ?_ hro
  simp only [Try.ntmps23, List.size_toArray, List.length_cons, List.length_nil, Nat.reduceAdd, Nat.reduceSub, Array.replicate_succ, Array.replicate_zero, List.push_toArray, List.append_toArray, List.nil_append, List.cons_append]
  gi_wp2
  gi_loopw [3] (fun i wr => ∃ k : Nat, i = .int .i64 k ∧ k ≤ xs.length ∧ Boxed wr B 3 (.int .i64 N) ∧ J (xs.take k) wr) (fun i _ => xs.length - (intOf i).toNat)
  case atStart => exact ⟨0, rfl, Nat.zero_le _, hB, h0⟩
  case round =>
    obtain ⟨k, rfl, hk, hb, hJs⟩ := hrel
    have hc := hb.cell
    by_cases hlt : k < xs.length
    · obtain ⟨x, hx⟩ : ∃ x, xs[k]? = some x := ⟨xs[k], by simp [hlt]⟩
      have he := hxs k x hx
      have hlt2 : (k : Int) < N := by omega
      have hlt3 : (k : Int) < 1000000 := by omega
      obtain ⟨fn, tmps, assign, body, hy, hR⟩ := hY _ x wr hJs (by simp; omega)
      rw [he] at hy
      have ht : xs.take k ++ [x] = xs.take (k + 1) := by rw [List.take_add_one, hx]; rfl
      rw [ht] at hR
      gi_wp2
      refine hR.mono ?_
      rintro e W3 (⟨rfl, hJ3, hk3⟩ | ⟨rfl, hJx3⟩)
      · gi_wp2
        go_roundw
        case rel => exact ⟨k + 1, by go_num, by omega, hk3.trans hb, hJ3⟩
        case measure => simp [intOf]; omega
      · gi_wp2
        go_end0
        exact ⟨⟨_, rfl⟩, .inr ⟨xs.take (k + 1), List.take_prefix _ _, hJx3⟩⟩
    · have hge : ¬ (k : Int) < N := by omega
      gi_wp2
      refine ⟨fun _ h => (by cases h), ?_⟩
      gi_wp2
      go_end0
      exact ⟨⟨_, rfl⟩, .inl ⟨xs.take k, by rw [List.take_of_length_le (by omega)], hJs⟩⟩

set_option maxHeartbeats 1000000 in
theorem some_in (F : Fence) (n : Nat) (h19 : F.fn 19) (hro : F.round = none) (N : Int) (w : World) :
    CallsIn F n Try.prog 19 #[.int .i64 N] w fun e w' => e = .returned (.func (.func 23) #[] #[.pointer (some ⟨w.heap.size, 0, none⟩)]) ∧ w' = w.alloc (.cells #[.int .i64 N] 3) := by
  refine callsIn_of_wp Try.func19 rfl h19 ?_ hro
  simp only [Try.ntmps19, List.size_toArray, List.length_cons, List.length_nil, Nat.reduceAdd, Nat.reduceSub, Array.replicate_succ, Array.replicate_zero, List.push_toArray, List.append_toArray, List.nil_append, List.cons_append]
  gi_wp2
  go_ret
  exact ⟨rfl, rfl⟩

theorem some_stops (F : Fence) (n : Nat) (h23 : F.fn 23) (hro : F.round = none) (hn : 1 ≤ n) (B : Nat) (N : Int) {α : Type} (enc : α → Int) (xs : List α) (hN : xs.length = N.toNat) (hbd : N ≤ 1000000) (hxs : ∀ (i : Nat) x, xs[i]? = some x → enc x = i) (w : World) (hBlt : B < w.heap.size) (hB : Boxed w B 3 (.int .i64 N)) :
    SeqStopsK F n Try.prog 23 #[.pointer (some ⟨B, 0, none⟩)] (fun x : α => #[Value.int .i64 (enc x)]) (Kp1 B) (fun ys => ys = xs) (fun pre => pre <+: xs) xs.length w := fun l J Jx W hW _ _ hY h0 =>
  some1_in F n h23 hro hn l B N enc xs hN hbd hxs J Jx hY W ((hW.block B hBlt).trans hB) h0
end Go.Proofs.Ytdjdpfmogphoiaa
