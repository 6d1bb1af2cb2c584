/- The contracts of the table's and the reference's functions. -/
import Derived.Test.YtplbbfpkmhediaaOf
import Derived.BigQuiet
import Derived.Deep.QuietTactic
namespace Go.Proofs.Ytplbbfpkmhediaa
open Go.RowKit Go.Maps Go.ChangeShapes Go.WideShapes Go.ChangeAt Go.WideMaps Go.WideElems

/-- (*Table).Of -/
theorem Of_any (b : Nat) (S : Nat → Prop) (xs : List ByteArray) (s : ByteArray) (w : World) (ht : IsTab w b S xs) (hs : s.size ≤ maxLen) (hn : xs.length ≤ 1000) :
    Calls Try.prog 7 #[.pointer (some ⟨b, 0, none⟩), .string s] w fun e w' => e = .returned (.tuple #[.int .i64 ((ins xs s).idxOf s : Nat), .bool true]) ∧ Fr S w w' ∧ IsTab w' b (Gr S w w') (ins xs s) := by
  have hc := Lib.hid (of_any b S xs s w ht hs hn)
  clear ht hs hn
  go_enter Try.func7, Try.ntmps7
  go_wp2_with fail
  refine hc.out.mono ?_
  rintro e w' ⟨rfl, h1, h2⟩
  go_wp2_with fail
  go_ret2
  exact ⟨rfl, h1, h2⟩

def fnd (xs : List ByteArray) (s : ByteArray) : Nat := if s ∈ xs then xs.idxOf s else 0

/-- (*Table).Find -/
theorem Find_any (b : Nat) (S : Nat → Prop) (xs : List ByteArray) (s : ByteArray) (w : World) (ht : IsTab w b S xs) (hs : s.size ≤ maxLen) :
    Calls Try.prog 8 #[.pointer (some ⟨b, 0, none⟩), .string s] w fun e w' => e = .returned (.tuple #[.int .i64 (fnd xs s : Nat), .bool (decide (s ∈ xs))]) ∧ w = w' := by
  have hkey := keyOf_string_mk Try.underlying9 hs
  obtain ⟨_, _, mv, sp, sc, h1, h2, h3, ⟨rfl, rfl⟩ | ⟨mb, D, rfl, hmb, hown, hg⟩⟩ := ht
  · have c0 := cellOf h1 0
    have hrun := look_nil (w := w) true law9 Try.underlying24 (zero3 _) hkey
    simp at c0
    clear h1 h2 h3
    go_enter Try.func8, Try.ntmps8
    go_wp2
    go_ret2
    exact ⟨by simp [fnd], rfl⟩
  · have c0 := cellOf h1 0
    simp at c0
    have hhas := hg.has s
    unfold ky at hhas
    have Hat := Lib.hid (show D.atKey (ky s) (.lit (.int .i64 0)) = .lit (.int .i64 (fnd xs s : Nat)) by
      unfold fnd
      by_cases hin : s ∈ xs
      · rw [if_pos hin]; exact hg.at_ s hin
      · rw [if_neg hin]; exact atKey_of_not_has (by rw [hg.has]; simpa using hin) _)
    have Hhas := Lib.hid hhas
    clear h1 h2 h3 hg hhas
    go_enter Try.func8, Try.ntmps8
    go_wp2_with (first
      | (at_lookup; refine wpList_lookup_own_ok_int _ rfl _ _ 24 rfl 9 3 .i64 law9 Try.underlying24 Try.underlying3 (zero3 _) mb _ D rfl hown _ _ rfl hkey ?_; intro c hat hwc)
      | go_in)
    have h3 := Hat.out
    unfold ky at h3
    rw [hat] at h3
    have e1 : c = (fnd xs s : Nat) := by injection h3 with h3; injection h3
    subst e1
    go_ret2
    exact ⟨by rw [Hhas.out]; rfl, rfl⟩

/-- The cells of a table's names. -/
theorem IsTab.cells {w : World} {b : Nat} {S : Nat → Prop} {xs : List ByteArray} (ht : IsTab w b S xs) : ∃ sp sc, w.cell? ⟨b, 1, none⟩ = some (.slice sp xs.length sc) ∧
    ∀ k, k < xs.length → ∃ g, sp = some ⟨g, 0, none⟩ ∧ w.cell? ⟨g, k, none⟩ = some (.string (xs.getD k ByteArray.empty)) := by
  obtain ⟨_, _, mv, sp, sc, h1, h2, h3, _⟩ := ht
  have c1 := cellOf h1 1
  simp at c1
  refine ⟨sp, sc, c1, fun k hk => ?_⟩
  rcases h2.2 with ⟨e, h0⟩ | ⟨g, cap, cur, e, _⟩
  · omega
  · cases e
    refine ⟨g, rfl, ?_⟩
    rw [h2.cellAt k (by omega)]
    simp [strsV, hk]

/-- (*Table).Len -/
theorem Len_any (b : Nat) (S : Nat → Prop) (xs : List ByteArray) (w : World) (ht : IsTab w b S xs) :
    Calls Try.prog 12 #[.pointer (some ⟨b, 0, none⟩)] w fun e w' => e = .returned (.int .i64 (xs.length : Nat)) ∧ w = w' := by
  obtain ⟨sp, sc, c1, _⟩ := ht.cells
  clear ht
  go_enter Try.func12, Try.ntmps12
  go_wp2
  go_ret
  exact ⟨rfl, rfl⟩

/-- (*Table).Name where there is one -/
theorem Name_yes (b : Nat) (S : Nat → Prop) (xs : List ByteArray) (k : Nat) (w : World) (ht : IsTab w b S xs) (hk : k < xs.length) (_hn : xs.length ≤ 1001) :
    Calls Try.prog 11 #[.pointer (some ⟨b, 0, none⟩), .int .i64 (k : Nat)] w fun e w' => e = .returned (.tuple #[.string (xs.getD k ByteArray.empty), .bool true]) ∧ w = w' := by
  obtain ⟨sp, sc, c1, hc⟩ := ht.cells
  obtain ⟨g, rfl, hg⟩ := hc k hk
  generalize hnm : xs.getD k ByteArray.empty = nm at *
  clear ht hc hnm
  go_enter Try.func11, Try.ntmps11
  go_wp2
  go_ret2
  exact ⟨rfl, rfl⟩

/-- .. and where there is none -/
theorem Name_no (b : Nat) (S : Nat → Prop) (xs : List ByteArray) (k : Int) (w : World) (ht : IsTab w b S xs) (hk : k < 0 ∨ xs.length ≤ k) (_hn : xs.length ≤ 1001) :
    Calls Try.prog 11 #[.pointer (some ⟨b, 0, none⟩), .int .i64 k] w fun e w' => e = .returned (.tuple #[.string ByteArray.empty, .bool false]) ∧ w = w' := by
  obtain ⟨sp, sc, c1, hc⟩ := ht.cells
  clear ht hc
  by_cases h0 : k < 0
  · clear hk
    go_enter Try.func11, Try.ntmps11
    go_wp2
    go_ret2
    exact ⟨rfl, rfl⟩
  · have h1 : (xs.length : Int) ≤ k := by omega
    clear hk
    go_enter Try.func11, Try.ntmps11
    go_wp2
    go_ret2
    exact ⟨rfl, rfl⟩

/-- Block b holds the reference's table with these names; all of it lies in S. -/
structure IsRef (w : World) (b : Nat) (S : Nat → Prop) (xs : List ByteArray) : Prop where
  lt : ∀ k, S k → k < w.heap.size
  mem : S b
  body : ∃ sp sc, w.heap[b]? = some (.cells #[.slice sp xs.length sc] 35 (0, 0)) ∧ w.ownsRow 0 9 1 (.slice sp xs.length sc) xs.length (strsV xs) ∧
    (∀ k, (Value.slice sp xs.length sc).ownBlock = some k → S k)

theorem IsRef.fr {S T : Nat → Prop} {w w' : World} {b : Nat} {xs : List ByteArray} (h : IsRef w b S xs) (f : Fr T w w') (hd : ∀ k, S k → ¬ T k) : IsRef w' b S xs := by
  obtain ⟨hl, hm, sp, sc, h1, h2, h3⟩ := h
  exact ⟨fun k hk => Nat.lt_of_lt_of_le (hl k hk) f.size, hm, sp, sc, f.heap h1 (hd b hm), ownsRow.fr h2 f (fun k hk => hd k (h3 k hk)), h3⟩

theorem IsRef.new (w : World) : IsRef (w.alloc (.cells #[.slice none 0 0] 35)) w.heap.size (fun k => k = w.heap.size) [] :=
  ⟨fun k hk => by subst hk; simp, rfl, none, 0, heapNew _ _, World.ownsRow_nil _ _ _ _, fun k hk => by simp [Value.ownBlock] at hk⟩

theorem IsRef.cells {w : World} {b : Nat} {S : Nat → Prop} {xs : List ByteArray} (ht : IsRef w b S xs) : ∃ sp sc, w.cell? ⟨b, 0, none⟩ = some (.slice sp xs.length sc) ∧
    ∀ k, k < xs.length → ∃ g, sp = some ⟨g, 0, none⟩ ∧ w.cell? ⟨g, k, none⟩ = some (.string (xs.getD k ByteArray.empty)) := by
  obtain ⟨_, _, sp, sc, h1, h2, h3⟩ := ht
  have c1 := cellOf h1 0
  simp at c1
  refine ⟨sp, sc, c1, fun k hk => ?_⟩
  rcases h2.2 with ⟨e, h0⟩ | ⟨g, cap, cur, e, _⟩
  · omega
  · cases e
    refine ⟨g, rfl, ?_⟩
    rw [h2.cellAt k (by omega)]
    simp [strsV, hk]

theorem fnd_at {xs : List ByteArray} {s : ByteArray} {k : Nat} (hk : k < xs.length) (hb : ∀ j, j < k → xs.getD j ByteArray.empty ≠ s) (h : xs.getD k ByteArray.empty = s) : s ∈ xs ∧ xs.idxOf s = k := by
  induction xs generalizing k with
  | nil => simp at hk
  | cons x r ih =>
    cases k with
    | zero => simp at h; subst h; simp
    | succ k =>
      have h0 : x ≠ s := by have := hb 0 (by omega); simpa using this
      obtain ⟨i1, i2⟩ := ih (k := k) (by simpa using hk) (fun j hj => by have := hb (j + 1) (by omega); simpa using this) (by simpa using h)
      refine ⟨by simp [i1], ?_⟩
      rw [List.idxOf_cons]
      have hx : (x == s) = false := by simpa using h0
      rw [hx, i2]
      rfl

theorem fnd_no {xs : List ByteArray} {s : ByteArray} (hb : ∀ j, j < xs.length → xs.getD j ByteArray.empty ≠ s) : s ∉ xs := by
  intro h
  obtain ⟨i, hi, e⟩ := List.getElem_of_mem h
  exact hb i hi (by simp [hi, e])

set_option maxHeartbeats 400000 in
theorem RFind_any (b : Nat) (S : Nat → Prop) (xs : List ByteArray) (s : ByteArray) (w : World) (ht : IsRef w b S xs) (hn : xs.length ≤ 1000) :
    Calls Try.prog 9 #[.pointer (some ⟨b, 0, none⟩), .string s] w fun e w' => e = .returned (.tuple #[.int .i64 (fnd xs s : Nat), .bool (decide (s ∈ xs))]) ∧ w = w' := by
  obtain ⟨sp, sc, c1, hc⟩ := ht.cells
  clear ht
  have Hc := Lib.hid hc
  clear hc
  go_enter Try.func9, Try.ntmps9
  go_wp2
  go_loop [6] (fun i => ∃ k : Nat, k ≤ xs.length ∧ i = .int .i64 k ∧ Hid (∀ j, j < k → xs.getD j ByteArray.empty ≠ s)) (fun i => xs.length - (intOf i).toNat)
  case atStart => exact ⟨0, Nat.zero_le _, rfl, fun j hj => by omega⟩
  case round =>
    obtain ⟨k, hk, rfl, hb⟩ := hrel
    by_cases hlt : k < xs.length
    · obtain ⟨g, rfl, hg⟩ := Hc.out k hlt
      generalize hnm : xs.getD k ByteArray.empty = nm at hg
      have Hnm := Lib.hid hnm
      clear hnm
      by_cases he : nm = s
      · have h2 : (nm.toList == s.toList) = true := by rw [strEq]; simpa using he
        have Hhe := Lib.hid he
        clear he
        go_wp2
        go_ret2
        obtain ⟨q1, q2⟩ := fnd_at hlt hb.out (Hnm.out.trans Hhe.out)
        exact ⟨by simp [fnd, q1, q2], rfl⟩
      · have h2 : (nm.toList == s.toList) = false := by rw [strEq]; simpa using he
        go_wp2
        go_round
        case rel =>
          refine ⟨k + 1, by omega, by go_num, fun j hj => ?_⟩
          by_cases hjk : j = k
          · subst hjk; rw [Hnm.out]; exact he
          · exact hb.out j (by omega)
        case measure => simp [intOf]; omega
    · have hke : k = xs.length := by omega
      subst hke
      go_wp2
      go_ret2
      have q := fnd_no hb.out
      exact ⟨by simp [fnd, q], rfl⟩

end Go.Proofs.Ytplbbfpkmhediaa
