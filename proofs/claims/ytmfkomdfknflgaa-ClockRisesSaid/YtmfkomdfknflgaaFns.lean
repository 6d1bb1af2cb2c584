/- The clock's small functions: what each answers. -/
import Derived.Test.YtmfkomdfknflgaaClk
namespace Go.Proofs.Ytmfkomdfknflgaa
open Go.RowKit Go.Maps Go.ChangeShapes Go.WideShapes Go.ChangeAt Go.WideMaps Go.WideElems

theorem info3 : (Try.prog.info? 3).map (fun i => (i.zero, i.size, i.bytes)) = some (some (.int .i64 0), 1, 8) := by kernel_rfl

theorem info61 : (Try.prog.info? 61).map (fun i => (i.zero, i.size, i.bytes)) = some (some (.agg #[.int .i64 0, .int .i64 0, .slice none 0 0]), 3, 40) := by kernel_rfl
def isB (n : Nat) (z : Int) : Bool := decide (0 ≤ z) && decide (z < (n : Int))
/-- is. -/
theorem is_any (w : World) (b n : Nat) (rest : List Value) (fz : Nat × Nat) (h : w.heap[b]? = some (.cells (.int .i64 (n : Int) :: rest).toArray 46 fz)) (z : Int) :
    Calls Try.prog 20 #[.pointer (some ⟨b, 0, none⟩), .int .i64 z] w fun e w' => e = .returned (.bool (isB n z)) ∧ Fr (fun _ => False) w w' := by
  have c0 := cellOf h 0
  simp at c0
  clear h
  by_cases h0 : 0 ≤ z
  · have d0 : decide (0 ≤ z) = true := by simpa using h0
    by_cases h1 : z < (n : Int)
    · have d1 : decide (z < (n : Int)) = true := by simpa using h1
      have e : isB n z = true := by unfold isB; rw [d0, d1]; rfl
      rw [e]
      clear h0 h1 e
      go_enter Try.func20, Try.ntmps20
      go_wp2_with fail
      go_ret
      exact ⟨rfl, Fr.refl _ _⟩
    · have d1 : decide (z < (n : Int)) = false := by simpa using h1
      have e : isB n z = false := by unfold isB; rw [d0, d1]; rfl
      rw [e]
      clear h0 h1 e
      go_enter Try.func20, Try.ntmps20
      go_wp2_with fail
      go_ret
      exact ⟨rfl, Fr.refl _ _⟩
  · have d0 : decide (0 ≤ z) = false := by simpa using h0
    have e : isB n z = false := by unfold isB; rw [d0]; rfl
    rw [e]
    clear h0 e
    go_enter Try.func20, Try.ntmps20
    go_wp2_with fail
    go_ret
    exact ⟨rfl, Fr.refl _ _⟩

def accV (who cell : Int) (wr at_ : Bool) : Value := .agg #[.int .i64 who, .int .i64 cell, .bool wr, .bool at_]
def kindN (wr at_ : Bool) : Nat := (if wr then 1 else 0) + (if at_ then 2 else 0)
/-- kind. -/
theorem kind_any (w : World) (who cell : Int) (wr at_ : Bool) :
    Calls Try.prog 25 #[accV who cell wr at_] w fun e w' => e = .returned (.int .i64 (kindN wr at_ : Nat)) ∧ Fr (fun _ => False) w w' := by
  unfold accV
  have a0 : bits .or .i64 0 1 = 1 := by decide
  have a1 : bits .or .i64 0 2 = 2 := by decide
  have a2 : bits .or .i64 1 2 = 3 := by decide
  cases wr <;> cases at_
  all_goals
    go_enter Try.func25, Try.ntmps25
    go_wp2_with fail
    go_ret
    exact ⟨rfl, (Fr.refl _ _).alloc _⟩

/-- A record of an access: what was known of a worker. -/
def kn (d : Dn) (v : Nat) : Nat := if v = d.who then d.own else d.base v
theorem dat_any (w : World) (n : Nat) (d : Dn) (b o c v : Nat) (h : Row w b o n d.base) (hv : v < n) :
    Calls Try.prog 26 #[.agg #[.int .i64 (d.who : Int), .int .i64 (d.own : Int), sl b o n c], .int .i64 (v : Int)] w fun e w' => e = .returned (.int .i64 (kn d v : Nat)) ∧ Fr (fun _ => False) w w' := by
  have c0 := (h.fr ((Fr.refl (fun _ => False) w).alloc (.cells #[.int .i64 (d.who : Int), .int .i64 (d.own : Int), sl b o n c] 61)) (by simp)).cell hv
  clear h
  unfold kn
  unfold sl at *
  by_cases e : v = d.who
  · have q : ((v : Int) == (d.who : Int)) = true := by rw [e]; simp
    rw [if_pos e]
    clear e
    go_enter Try.func26, Try.ntmps26
    go_wp2_with fail
    go_ret
    exact ⟨rfl, (Fr.refl _ _).alloc _⟩
  · have q : ((v : Int) == (d.who : Int)) = false := beq_eq_false_iff_ne.2 (by omega)
    rw [if_neg e]
    clear e
    go_enter Try.func26, Try.ntmps26
    go_wp2_with fail
    go_ret
    exact ⟨rfl, (Fr.refl _ _).alloc _⟩

/-- A literal slice without elements. -/
theorem OwnsWin.none_ (w : World) (base : Nat) (e : TypeId) (size : Nat) (hb : base ≤ w.heap.size) : OwnsWin (w.alloc (.cells #[] e)) base e size (.slice (some ⟨w.heap.size, 0, none⟩) 0 0) 0 [] := by
  refine ⟨by simp, .inr ⟨w.heap.size, 0, 0, _, rfl, hb, heapNew w _, Nat.le_refl _, Nat.zero_le _, by simp, fun j u hj => by simp at hj⟩⟩
theorem Src.fr {w w' : World} {size m : Nat} {A : Option Addr} {news : List Value} (h : Src w size A m news) (f : Fr (fun _ => False) w w') : Src w' size A m news := by
  refine ⟨h.1, h.2.1, fun ad e j u hj => ?_⟩
  have hc := h.2.2 ad e j u hj
  have hlt := World.block_lt_of_cell? w _ hc
  exact (f.cell hlt (by simp)).trans hc
/-- What a clone answers. -/
def NewR (n : Nat) (f : Nat → Nat) (w : World) (e : Ending) (w' : World) : Prop :=
  ∃ b o c, e = .returned (sl b o n c) ∧ w.heap.size ≤ b ∧ Row w' b o n f ∧ n ≤ c ∧ c ≤ maxLen ∧ Fr (fun _ => False) w w'
set_option maxHeartbeats 2000000 in
set_option maxRecDepth 100000 in
theorem clone_any (b o n c : Nat) (f : Nat → Nat) (w : World) (h : Row w b o n f) (hn : 0 < n) (hb : n ≤ 64) : Calls Try.prog 23 #[sl b o n c] w (NewR n f w) := by
  have HS := Lib.hid h.src
  have H1 := Lib.hid (show ∀ u ∈ fV n f, u.oneCell' = true from fun u hu => by
    obtain ⟨j, hj⟩ := List.getElem?_of_mem hu
    obtain ⟨_, rfl⟩ := fV_at hj
    rfl)
  clear h
  unfold sl
  obtain ⟨i9, hi, hz0, hz1, hz2⟩ := info_parts info3
  have EQ := Lib.run_eql_slice_nil (P := Try.prog) w 47 3 (some ⟨b, o, none⟩) n c 0 0 Try.underlying47
  simp only [Option.isNone_some] at EQ
  have F2 := Lib.hid ((Fr.refl (fun _ => False) w).alloc (.cells #[] 3))
  have S2 := Lib.hid (HS.out.fr F2.out)
  have W2 := Lib.hid (OwnsWin.none_ w w.heap.size 3 1 (Nat.le_refl _))
  have F0 := Lib.hid (show ∀ W s k, OwnsWin W w.heap.size 3 1 (.slice s n k) n (fV n f) → ∃ b o, s = some ⟨b, o, none⟩ ∧ w.heap.size ≤ b ∧ Row W b o n f ∧ n ≤ k ∧ k ≤ maxLen from fun W s k h => Row.of_win h hn)
  have m1 : 0 + n ≤ maxLen := by unfold maxLen; omega
  have m2 : (0 + n) * 8 ≤ 140737488355328 := by omega
  clear hb hn
  generalize fV n f = news at *
  go_enter Try.func23, Try.ntmps23
  go_wp2_with (at_builtin; refine wpList_append_src _ rfl (.tmp 5) (.tmp 6) 47 rfl w.heap.size 3 i9 _ 1 8 Try.underlying47 hi hz0 hz1 hz2 rfl (by omega) (.slice (some ⟨w.heap.size, 0, none⟩) 0 0) 0 [] rfl W2.out (some ⟨b, o, none⟩) n c news rfl S2.out H1.out m1 m2 F2.out.size ?_; intro sp1 sc1 w4 hown4 hgrow4 _; rw [Nat.zero_add, List.nil_append] at hown4; rw [Nat.zero_add]; have HO4 := Lib.hid hown4; have F4 := Lib.hid (F2.out.grown hgrow4 (fun k e => .inr (by simp [Value.ownBlock] at e; omega))); clear hown4 hgrow4)
  go_ret
  obtain ⟨b', o', rfl, h1, h2, h3, h4⟩ := F0.out _ _ _ HO4.out
  exact ⟨b', o', sc1, rfl, h1, h2, h3, h4, F4.out⟩
end Go.Proofs.Ytmfkomdfknflgaa
