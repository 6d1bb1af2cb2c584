/- A filter's block, and the contracts of the functions that turn it. -/
import Derived.Test.YtfhojfndccelfaaRows
import Derived.Test.YtfhojfndccelfaaBase
import Derived.BigQuiet
import Derived.Deep.QuietTactic
namespace Go.Proofs.Ytfhojfndccelfaa
open Go.RowKit Go.Maps Go.ChangeShapes Go.WideShapes Go.ChangeAt Go.WideMaps Go.WideElems

theorem i64_and32 (n : Int) : bits .and .i64 n 4294967295 = n % 4294967296 := by
  have h : (BitVec.ofInt 64 n &&& BitVec.ofInt 64 4294967295).toNat = (n % ((2 ^ 64 : Nat) : Int)).toNat % 2 ^ 32 := by
    rw [BitVec.toNat_and, BitVec.toNat_ofInt, show (BitVec.ofInt 64 4294967295).toNat = 2 ^ 32 - 1 by decide, Nat.and_two_pow_sub_one_eq_mod]
  show IntKind.i64.wrap ((BitVec.ofInt 64 n &&& BitVec.ofInt 64 4294967295).toNat : Nat) = n % 4294967296
  rw [h, IntKind.wrap_i64]
  omega

/-- 1024 counters as cells. -/
def tab (q : IntKind) (c : Nat → Int) : Array Value := Array.ofFn (n := 1024) fun i => .int q (c i.1)

theorem tab_at (q : IntKind) (c : Nat → Int) {i : Nat} (h : i < 1024) : (tab q c)[i]? = some (.int q (c i)) := by
  unfold tab
  rw [Array.getElem?_ofFn, dif_pos h]

def upd (c : Nat → Int) (i : Nat) (v : Int) : Nat → Int := fun j => if j = i then v else c j

theorem tab_set (q : IntKind) (c : Nat → Int) (i : Nat) (v : Int) : (tab q c).setIfInBounds i (.int q v) = tab q (upd c i v) := by
  apply Array.ext_getElem?
  intro j
  unfold tab upd
  rw [Array.getElem?_setIfInBounds]
  simp only [Array.getElem?_ofFn, Array.size_ofFn]
  by_cases h : i = j
  · subst h
    by_cases hi : i < 1024
    · simp [hi]
    · simp [hi]
  · have h' : ¬ j = i := fun e => h e.symm
    simp [h, h']

/-- Block b is a filter with these counters. -/
def IsFil (T : TypeId) (q : IntKind) (w : World) (b : Nat) (c : Nat → Int) : Prop := w.heap[b]? = some (.cells (tab q c) T (0, 0))

theorem IsFil.cell {T : TypeId} {q : IntKind} {w : World} {b : Nat} {c : Nat → Int} (h : IsFil T q w b c) {i : Nat} (hi : i < 1024) : w.cell? ⟨b, i, none⟩ = some (.int q (c i)) := by
  rw [cellOf h]; exact tab_at q c hi
theorem IsFil.frozen {T : TypeId} {q : IntKind} {w : World} {b : Nat} {c : Nat → Int} (h : IsFil T q w b c) (i : Nat) : w.frozen? ⟨b, i, none⟩ = false := frozenOf h i
theorem IsFil.set {T : TypeId} {q : IntKind} {w : World} {b : Nat} {c : Nat → Int} (h : IsFil T q w b c) (i : Nat) (v : Int) : IsFil T q (w.setCell ⟨b, i, none⟩ (.int q v)) b (upd c i v) := by
  unfold IsFil
  rw [heapSet h, tab_set]
theorem IsFil.drew {T : TypeId} {q : IntKind} {w : World} {b : Nat} {c : Nat → Int} (h : IsFil T q w b c) : IsFil T q w.drew b c := h
theorem IsFil.fr {T : TypeId} {q : IntKind} {S : Nat → Prop} {w w' : World} {b : Nat} {c : Nat → Int} (h : IsFil T q w b c) (f : Fr S w w') (hn : ¬ S b) : IsFil T q w' b c := f.heap h hn
theorem IsFil.lt {T : TypeId} {q : IntKind} {w : World} {b : Nat} {c : Nat → Int} (h : IsFil T q w b c) : b < w.heap.size := ltOf h

/-- A hash's counters. -/
def pa (h : Int) : Nat := (h % 4294967296 % 1024).toNat
def pb (h : Int) : Nat := (h % 4294967296 / 1024 % 1024).toNat
theorem pa_lt (h : Int) : pa h < 1024 := by unfold pa; omega
theorem pb_lt (h : Int) : pb h < 1024 := by unfold pb; omega

theorem ret2i (a b c d : Int) (h1 : a = c) (h2 : b = d) : Ending.returned (.tuple #[.int .i64 a, .int .i64 b]) = .returned (.tuple #[.int .i64 c, .int .i64 d]) := by rw [h1, h2]

/-- places -/
theorem places_any (h : Int) (w : World) : Calls Try.prog 36 #[.int .i64 h] w fun e w' => e = .returned (.tuple #[.int .i64 (pa h : Nat), .int .i64 (pb h : Nat)]) ∧ w = w' := by
  have e1 : ((pa h : Nat) : Int) = h % 4294967296 % 1024 := by unfold pa; omega
  have e2 : ((pb h : Nat) : Int) = h % 4294967296 / 1024 % 1024 := by unfold pb; omega
  rw [e1, e2]
  have ha := i64_and32 h
  obtain ⟨x, hx⟩ : ∃ x, x = h % 4294967296 := ⟨_, rfl⟩
  rw [← hx] at ha ⊢
  have x0 : 0 ≤ x := by omega
  have x1 : x ≤ 4294967295 := by omega
  clear hx e1 e2
  go_enter Try.func36, Try.ntmps36
  go_wp2
  go_ret2
  exact ⟨rfl, rfl⟩

/-- two -/
theorem two_any (h : Int) (w : World) : Calls Try.prog 33 #[.int .i64 h] w fun e w' => e = .returned (.tuple #[.int .i64 (pa h : Nat), .int .i64 (pb h : Nat)]) ∧ w = w' := by
  have e1 : ((pa h : Nat) : Int) = h % 4294967296 % 1024 := by unfold pa; omega
  have e2 : ((pb h : Nat) : Int) = h % 4294967296 / 1024 % 1024 := by unfold pb; omega
  rw [e1, e2]
  have ha := i64_and32 h
  obtain ⟨x, hx⟩ : ∃ x, x = h % 4294967296 := ⟨_, rfl⟩
  rw [← hx] at ha ⊢
  have x0 : 0 ≤ x := by omega
  have x1 : x ≤ 4294967295 := by omega
  clear hx e1 e2
  go_enter Try.func33, Try.ntmps33
  go_wp2
  go_ret2
  exact ⟨rfl, rfl⟩

def up (n : Int) : Int := if n < 255 then n + 1 else n
def down (n : Int) : Int := if n < 255 ∧ 0 < n then n - 1 else n

/-- Push's function value -/
theorem up_any (n : Int) (w : World) (h0 : 0 ≤ n) (h1 : n ≤ 255) : Calls Try.prog 31 #[.int .u8 n] w fun e w' => e = .returned (.int .u8 (up n)) ∧ w' = w := by
  unfold up
  by_cases h : n < 255
  · rw [if_pos h]
    go_enter Try.func31, Try.ntmps31
    go_wp2
    go_ret
    exact ⟨rfl, rfl⟩
  · rw [if_neg h]
    have hn : n = 255 := by omega
    subst hn
    go_enter Try.func31, Try.ntmps31
    go_wp2
    go_ret
    exact ⟨rfl, rfl⟩

theorem down_any (n : Int) (w : World) (h0 : 0 ≤ n) (h1 : n ≤ 255) : Calls Try.prog 32 #[.int .u8 n] w fun e w' => e = .returned (.int .u8 (down n)) ∧ w' = w := by
  unfold down
  by_cases h : n < 255 ∧ 0 < n
  · rw [if_pos h]
    have q1 : (n == 0) = false := by rw [beq_eq_false_iff_ne]; omega
    have q2 : (n == 255) = false := by rw [beq_eq_false_iff_ne]; omega
    go_enter Try.func32, Try.ntmps32
    go_wp2
    go_ret
    exact ⟨rfl, rfl⟩
  · rw [if_neg h]
    by_cases hn : n = 255
    · subst hn
      go_enter Try.func32, Try.ntmps32
      go_wp2
      go_ret
      exact ⟨rfl, rfl⟩
    · have hn : n = 0 := by omega
      subst hn
      go_enter Try.func32, Try.ntmps32
      go_wp2
      go_ret
      exact ⟨rfl, rfl⟩

end Go.Proofs.Ytfhojfndccelfaa
