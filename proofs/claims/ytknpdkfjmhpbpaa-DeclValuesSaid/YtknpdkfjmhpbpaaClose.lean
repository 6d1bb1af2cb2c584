/- closing, in both packages; slices.Clone of tokens. No condition but sizes. -/
import Derived.Test.YtknpdkfjmhpbpaaRows
import Derived.Test.YtknpdkfjmhpbpaaIW
import Derived.WalkSpells
import Derived.Lib.SliceRun
import Derived.BigQuiet
import Derived.Deep.Cut
import Derived.Deep.CutRange
import Derived.Deep.DeepCutAuto
namespace Go.Proofs.Ytknpdkfjmhpbpaa
open Go.RowKit Go.Maps Go.ChangeShapes Go.WideShapes Go.ChangeAt Go.WideMaps Go.WideElems

theorem info3 : (Try.prog.info? 3).map (fun i => (i.zero, i.size, i.bytes)) = some (some (.int .i64 0), 1, 8) := by kernel_rfl
theorem info35 : (Try.prog.info? 35).map (fun i => (i.zero, i.size, i.bytes)) = some (some (.agg #[.int .i64 0, .string ⟨#[]⟩, .int .i64 0, .bool false, .int .i64 0]), 5, 48) := by kernel_rfl

theorem closing_any (k : Int) (w : World) : Calls Try.prog 39 #[.int .i64 k] w fun e w' => e = .returned (.int .i64 (cl k)) ∧ w' = w := by
  by_cases h14 : k = 14
  · subst h14
    go_enter Try.func39, Try.ntmps39
    go_wp2
    go_ret
    exact ⟨rfl, rfl⟩
  · have q1 : (k == 14) = false := by simp [h14]
    by_cases h16 : k = 16
    · subst h16
      go_enter Try.func39, Try.ntmps39
      go_wp2
      go_ret
      exact ⟨rfl, rfl⟩
    · have q2 : (k == 16) = false := by simp [h16]
      by_cases h20 : k = 20
      · subst h20
        go_enter Try.func39, Try.ntmps39
        go_wp2
        go_ret
        exact ⟨rfl, rfl⟩
      · have q3 : (k == 20) = false := by simp [h20]
        by_cases h18 : k = 18
        · subst h18
          go_enter Try.func39, Try.ntmps39
          go_wp2
          go_ret
          exact ⟨rfl, rfl⟩
        · have q4 : (k == 18) = false := by simp [h18]
          have hc : cl k = 0 := by unfold cl; rw [if_neg h14, if_neg (by simp [h16, h20]), if_neg h18]
          rw [hc]
          go_enter Try.func39, Try.ntmps39
          go_wp2
          go_ret
          exact ⟨rfl, rfl⟩
theorem rclosing_any (k : Int) (w : World) : Calls Try.prog 40 #[.int .i64 k] w fun e w' => e = .returned (.int .i64 (cl k)) ∧ w' = w := by
  by_cases h14 : k = 14
  · subst h14
    go_enter Try.func40, Try.ntmps40
    go_wp2
    go_ret
    exact ⟨rfl, rfl⟩
  · have q1 : (k == 14) = false := by simp [h14]
    by_cases h16 : k = 16
    · subst h16
      go_enter Try.func40, Try.ntmps40
      go_wp2
      go_ret
      exact ⟨rfl, rfl⟩
    · have q2 : (k == 16) = false := by simp [h16]
      by_cases h20 : k = 20
      · subst h20
        go_enter Try.func40, Try.ntmps40
        go_wp2
        go_ret
        exact ⟨rfl, rfl⟩
      · have q3 : (k == 20) = false := by simp [h20]
        by_cases h18 : k = 18
        · subst h18
          go_enter Try.func40, Try.ntmps40
          go_wp2
          go_ret
          exact ⟨rfl, rfl⟩
        · have q4 : (k == 18) = false := by simp [h18]
          have hc : cl k = 0 := by unfold cl; rw [if_neg h14, if_neg (by simp [h16, h20]), if_neg h18]
          rw [hc]
          go_enter Try.func40, Try.ntmps40
          go_wp2
          go_ret
          exact ⟨rfl, rfl⟩

/-- A literal slice without elements. -/
theorem OwnsWin.none_ (w : World) (base : Nat) (e : TypeId) (size : Nat) (hb : base ≤ w.heap.size) : OwnsWin (w.alloc (.cells #[] e)) base e size (.slice (some ⟨w.heap.size, 0, none⟩) 0 0) 0 [] := by
  refine ⟨by simp, .inr ⟨w.heap.size, 0, 0, _, rfl, hb, heapNew w _, Nat.le_refl _, Nat.zero_le _, by simp, fun j u hj => by simp at hj⟩⟩
/-- A new row of tokens. -/
def NewT (w : World) (ts : List Tok) (v : Value) (W : World) : Prop :=
  ∃ sp c, v = .slice sp ts.length c ∧ OwnsWin W w.heap.size 35 5 (.slice sp ts.length c) ts.length (tL ts) ∧ Fr (fun _ => False) w W

set_option maxHeartbeats 2000000 in
set_option maxRecDepth 100000 in
theorem clone_any (A : Option Addr) (c : Nat) (ts : List Tok) (w : World) (h : RdT w A ts) (hb : ts.length ≤ 100000) :
    Calls Try.prog 35 #[.slice A ts.length c] w fun e w' => ∃ v, e = .returned v ∧ NewT w ts v w' := by
  have EQ := Lib.run_eql_slice_nil (P := Try.prog) w 22 35 A ts.length c 0 0 Try.underlying22
  cases A with
  | none =>
    obtain rfl : ts = [] := by
      cases ts with
      | nil => rfl
      | cons x ts => obtain ⟨_, g, off, hp, _⟩ := h 0 x rfl; cases hp
    simp only [Option.isNone_none, List.length_nil] at EQ
    rw [List.length_nil]
    go_enter Try.func35, Try.ntmps35
    go_wp2_with fail
    go_ret
    exact ⟨_, rfl, none, 0, rfl, OwnsWin.nil _ _ _ _, Fr.refl _ _⟩
  | some a =>
    have HS := Lib.hid h
    clear h
    obtain ⟨i9, hi, hz0, hz1, hz2⟩ := info_parts info35
    simp only [Option.isNone_some] at EQ
    have F2 := Lib.hid ((Fr.refl (fun _ => False) w).alloc (.cells #[] 35))
    have S2 := Lib.hid (HS.out.fr F2.out)
    have W2 := Lib.hid (OwnsWin.none_ w w.heap.size 35 5 (Nat.le_refl _))
    go_enter Try.func35, Try.ntmps35
    go_wp2_with (at_builtin; refine wpList_append_src _ rfl (.tmp 5) (.tmp 6) 22 rfl w.heap.size 35 i9 _ 5 48 Try.underlying22 hi hz0 hz1 hz2 rfl (by omega) (.slice (some ⟨w.heap.size, 0, none⟩) 0 0) 0 [] rfl W2.out (some a) ts.length c (tL ts) rfl S2.out.src (tL_one_cell ts) (by unfold maxLen; omega) (by omega) F2.out.size ?_; intro sp1 sc1 w4 hown4 hgrow4 _; rw [Nat.zero_add, List.nil_append] at hown4; rw [Nat.zero_add]; have HO4 := Lib.hid hown4; have F4 := Lib.hid (F2.out.grown hgrow4 (fun k e => .inr (by simp [Value.ownBlock] at e; omega))); clear hown4 hgrow4)
    go_ret
    exact ⟨_, rfl, sp1, sc1, rfl, HO4.out, F4.out⟩
end Go.Proofs.Ytknpdkfjmhpbpaa
