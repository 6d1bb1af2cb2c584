/- slices.Clone of strings, pairs and whole numbers: what it answers. -/
import Derived.Test.YtdbhcogafhhlnaaDLow
import Derived.Test.YtdbhcogafhhlnaaWin
import Derived.WalkSpells
import Derived.Lib.SliceRun
namespace Go.Proofs.Ytdbhcogafhhlnaa
open Go.RowKit Go.Maps Go.ChangeShapes Go.WideShapes Go.ChangeAt Go.WideMaps Go.WideElems

theorem info3 : (Try.prog.info? 3).map (fun i => (i.zero, i.size, i.bytes)) = some (some (.int .i64 0), 1, 8) := by kernel_rfl
theorem info9 : (Try.prog.info? 9).map (fun i => (i.zero, i.size, i.bytes)) = some (some (.string ⟨#[]⟩), 1, 16) := by kernel_rfl
theorem info38 : (Try.prog.info? 38).map (fun i => (i.zero, i.size, i.bytes)) = some (some (.agg #[.string ⟨#[]⟩, .string ⟨#[]⟩]), 2, 32) := by kernel_rfl

/-- A literal slice without elements. -/
theorem OwnsWin.none_ (w : World) (base : Nat) (e : TypeId) (size : Nat) (hb : base ≤ w.heap.size) : OwnsWin (w.alloc (.cells #[] e)) base e size (.slice (some ⟨w.heap.size, 0, none⟩) 0 0) 0 [] := by
  refine ⟨by simp, .inr ⟨w.heap.size, 0, 0, _, rfl, hb, heapNew w _, Nat.le_refl _, Nat.zero_le _, by simp, fun j u hj => by simp at hj⟩⟩

theorem Src.fr {w w' : World} {size m : Nat} {A : Option Addr} {news : List Value} (h : Src w size A m news) (f : Fr (fun _ => False) w w') : Src w' size A m news := by
  refine ⟨h.1, h.2.1, fun ad e j u hj => ?_⟩
  have hc := h.2.2 ad e j u hj
  have hlt := World.block_lt_of_cell? w _ hc
  exact (f.cell hlt (by simp)).trans hc

set_option maxHeartbeats 2000000 in
set_option maxRecDepth 100000 in
theorem cloneS_any (A : Option Addr) (m c : Nat) (news : List Value) (w : World) (h : Src w 1 A m news) (h1 : ∀ u ∈ news, u.oneCell' = true) (hb : m * 16 ≤ 140737488351232) :
    Calls Try.prog 42 #[.slice A m c] w fun e w' => (∃ sp c', e = .returned (.slice sp m c') ∧ OwnsWin w' w.heap.size 9 1 (.slice sp m c') m news) ∧ Fr (fun _ => False) w w' := by
  have HS := Lib.hid h
  have H1 := Lib.hid h1
  clear h h1
  have EQ := Lib.run_eql_slice_nil (P := Try.prog) w 22 9 A m c 0 0 Try.underlying22
  cases A with
  | none =>
    have hm := HS.out.2.1 rfl
    subst hm
    have hn : news = [] := List.eq_nil_of_length_eq_zero (by simpa using HS.out.1)
    subst hn
    clear EQ
    have EQ := Lib.run_eql_slice_nil (P := Try.prog) w 22 9 none 0 c 0 0 Try.underlying22
    simp only [Option.isNone_none] at EQ
    go_enter Try.func42, Try.ntmps42
    go_wp2_with fail
    go_ret
    exact ⟨⟨none, 0, rfl, OwnsWin.nil _ _ _ _⟩, Fr.refl _ _⟩
  | some a =>
    obtain ⟨i9, hi, hz0, hz1, hz2⟩ := info_parts info9
    simp only [Option.isNone_some] at EQ
    have F2 := Lib.hid ((Fr.refl (fun _ => False) w).alloc (.cells #[] 9))
    have S2 := Lib.hid (HS.out.fr F2.out)
    have W2 := Lib.hid (OwnsWin.none_ w w.heap.size 9 1 (Nat.le_refl _))
    go_enter Try.func42, Try.ntmps42
    go_wp2_with (at_builtin; refine wpList_append_src _ rfl (.tmp 5) (.tmp 6) 22 rfl w.heap.size 9 i9 _ 1 16 Try.underlying22 hi hz0 hz1 hz2 rfl (by omega) (.slice (some ⟨w.heap.size, 0, none⟩) 0 0) 0 [] rfl W2.out (some a) m c news rfl S2.out H1.out (by unfold maxLen; omega) (by omega) F2.out.size ?_; intro sp1 sc1 w4 hown4 hgrow4 _; rw [Nat.zero_add, List.nil_append] at hown4; rw [Nat.zero_add]; have HO4 := Lib.hid hown4; have F4 := Lib.hid (F2.out.grown hgrow4 (fun k e => .inr (by simp [Value.ownBlock] at e; omega))); clear hown4 hgrow4)
    go_ret
    exact ⟨⟨sp1, sc1, rfl, HO4.out⟩, F4.out⟩

set_option maxHeartbeats 2000000 in
set_option maxRecDepth 100000 in
theorem cloneP_any (A : Option Addr) (m c : Nat) (news : List Value) (w : World) (h : Src w 2 A m news) (h1 : ∀ u ∈ news, u.oneCell' = true) (hb : m * 32 ≤ 140737488351232) :
    Calls Try.prog 43 #[.slice A m c] w fun e w' => (∃ sp c', e = .returned (.slice sp m c') ∧ OwnsWin w' w.heap.size 38 2 (.slice sp m c') m news) ∧ Fr (fun _ => False) w w' := by
  have HS := Lib.hid h
  have H1 := Lib.hid h1
  clear h h1
  have EQ := Lib.run_eql_slice_nil (P := Try.prog) w 23 38 A m c 0 0 Try.underlying23
  cases A with
  | none =>
    have hm := HS.out.2.1 rfl
    subst hm
    have hn : news = [] := List.eq_nil_of_length_eq_zero (by simpa using HS.out.1)
    subst hn
    clear EQ
    have EQ := Lib.run_eql_slice_nil (P := Try.prog) w 23 38 none 0 c 0 0 Try.underlying23
    simp only [Option.isNone_none] at EQ
    go_enter Try.func43, Try.ntmps43
    go_wp2_with fail
    go_ret
    exact ⟨⟨none, 0, rfl, OwnsWin.nil _ _ _ _⟩, Fr.refl _ _⟩
  | some a =>
    obtain ⟨i9, hi, hz0, hz1, hz2⟩ := info_parts info38
    simp only [Option.isNone_some] at EQ
    have F2 := Lib.hid ((Fr.refl (fun _ => False) w).alloc (.cells #[] 38))
    have S2 := Lib.hid (HS.out.fr F2.out)
    have W2 := Lib.hid (OwnsWin.none_ w w.heap.size 38 2 (Nat.le_refl _))
    go_enter Try.func43, Try.ntmps43
    go_wp2_with (at_builtin; refine wpList_append_src _ rfl (.tmp 5) (.tmp 6) 23 rfl w.heap.size 38 i9 _ 2 32 Try.underlying23 hi hz0 hz1 hz2 rfl (by omega) (.slice (some ⟨w.heap.size, 0, none⟩) 0 0) 0 [] rfl W2.out (some a) m c news rfl S2.out H1.out (by unfold maxLen; omega) (by omega) F2.out.size ?_; intro sp1 sc1 w4 hown4 hgrow4 _; rw [Nat.zero_add, List.nil_append] at hown4; rw [Nat.zero_add]; have HO4 := Lib.hid hown4; have F4 := Lib.hid (F2.out.grown hgrow4 (fun k e => .inr (by simp [Value.ownBlock] at e; omega))); clear hown4 hgrow4)
    go_ret
    exact ⟨⟨sp1, sc1, rfl, HO4.out⟩, F4.out⟩

set_option maxHeartbeats 2000000 in
set_option maxRecDepth 100000 in
theorem cloneI_any (A : Option Addr) (m c : Nat) (news : List Value) (w : World) (h : Src w 1 A m news) (h1 : ∀ u ∈ news, u.oneCell' = true) (hb : m * 8 ≤ 140737488351232) :
    Calls Try.prog 35 #[.slice A m c] w fun e w' => (∃ sp c', e = .returned (.slice sp m c') ∧ OwnsWin w' w.heap.size 3 1 (.slice sp m c') m news) ∧ Fr (fun _ => False) w w' := by
  have HS := Lib.hid h
  have H1 := Lib.hid h1
  clear h h1
  have EQ := Lib.run_eql_slice_nil (P := Try.prog) w 34 3 A m c 0 0 Try.underlying34
  cases A with
  | none =>
    have hm := HS.out.2.1 rfl
    subst hm
    have hn : news = [] := List.eq_nil_of_length_eq_zero (by simpa using HS.out.1)
    subst hn
    clear EQ
    have EQ := Lib.run_eql_slice_nil (P := Try.prog) w 34 3 none 0 c 0 0 Try.underlying34
    simp only [Option.isNone_none] at EQ
    go_enter Try.func35, Try.ntmps35
    go_wp2_with fail
    go_ret
    exact ⟨⟨none, 0, rfl, OwnsWin.nil _ _ _ _⟩, Fr.refl _ _⟩
  | some a =>
    obtain ⟨i9, hi, hz0, hz1, hz2⟩ := info_parts info3
    simp only [Option.isNone_some] at EQ
    have F2 := Lib.hid ((Fr.refl (fun _ => False) w).alloc (.cells #[] 3))
    have S2 := Lib.hid (HS.out.fr F2.out)
    have W2 := Lib.hid (OwnsWin.none_ w w.heap.size 3 1 (Nat.le_refl _))
    go_enter Try.func35, Try.ntmps35
    go_wp2_with (at_builtin; refine wpList_append_src _ rfl (.tmp 5) (.tmp 6) 34 rfl w.heap.size 3 i9 _ 1 8 Try.underlying34 hi hz0 hz1 hz2 rfl (by omega) (.slice (some ⟨w.heap.size, 0, none⟩) 0 0) 0 [] rfl W2.out (some a) m c news rfl S2.out H1.out (by unfold maxLen; omega) (by omega) F2.out.size ?_; intro sp1 sc1 w4 hown4 hgrow4 _; rw [Nat.zero_add, List.nil_append] at hown4; rw [Nat.zero_add]; have HO4 := Lib.hid hown4; have F4 := Lib.hid (F2.out.grown hgrow4 (fun k e => .inr (by simp [Value.ownBlock] at e; omega))); clear hown4 hgrow4)
    go_ret
    exact ⟨⟨sp1, sc1, rfl, HO4.out⟩, F4.out⟩
end Go.Proofs.Ytdbhcogafhhlnaa
