/- The contract of a table's 'of' for every table and every name, below 1000 names. -/
import Derived.Test.YtplbbfpkmhediaaRows
import Derived.Test.YtplbbfpkmhediaaBase
namespace Go.Proofs.Ytplbbfpkmhediaa
open Go.RowKit Go.Maps Go.ChangeShapes Go.WideShapes Go.ChangeAt Go.WideMaps Go.WideElems

theorem law9 : Keyed Try.prog 9 := string_keyed Try.underlying9
theorem zero3 (w : World) : (zeroValue 3).run Try.prog w = .ok (.int .i64 0) w := by kernel_rfl
theorem info9 : (Try.prog.info? 9).map (fun i => (i.zero, i.size, i.bytes)) = some (some (.string ByteArray.empty), 1, 16) := by kernel_rfl

/-- A name as a key. -/
def ky (s : ByteArray) : Lit := .string s.data.toList

theorem ky_inj {a b : ByteArray} (h : ky a = ky b) : a = b := by
  unfold ky at h
  injection h with h
  have h2 : a.data = b.data := Array.toList_inj.1 h
  exact ByteArray.ext h2

theorem ky_key (s : ByteArray) : WideAt.IsKeyLit (ky s) := by
  unfold ky; trivial

/-- The map's datum has just the names of the list, each with its place. -/
structure Good (D : DataW Unit) (xs : List ByteArray) : Prop where
  isMap : IsMap D
  has : ∀ s, Maps.has D (ky s) = decide (s ∈ xs)
  at_ : ∀ s, s ∈ xs → D.atKey (ky s) (.lit (.int .i64 0)) = .lit (.int .i64 (xs.idxOf s : Nat))

theorem Good.empty : Good (.map []) [] := ⟨isMap_empty, fun s => by simp [Maps.has], fun s h => by simp at h⟩

theorem Good.put {D : DataW Unit} {xs : List ByteArray} (h : Good D xs) {s : ByteArray} (hs : s ∉ xs) : Good (D.put (ky s) (.lit (.int .i64 (xs.length : Nat)))) (xs ++ [s]) := by
  refine ⟨h.isMap.put _ _, fun t => ?_, fun t ht => ?_⟩
  · by_cases e : t = s
    · subst e
      rw [has_put_same h.isMap (ky_key _)]; simp
    · rw [has_put_other (fun e1 => e (ky_inj e1)), h.has]; simp [e]
  · by_cases e : t = s
    · subst e
      rw [atKey_put_same h.isMap (ky_key _), idxOf_snoc_new hs]
    · rw [atKey_put_other (fun e1 => e (ky_inj e1))]
      have hx : t ∈ xs := by simpa [e] using ht
      rw [h.at_ t hx, idxOf_snoc_mem hx]

def strsV (xs : List ByteArray) : List Value := xs.map Value.string

/-- Block b holds a table with these names; all of it lies in S. -/
structure IsTab (w : World) (b : Nat) (S : Nat → Prop) (xs : List ByteArray) : Prop where
  lt : ∀ k, S k → k < w.heap.size
  mem : S b
  body : ∃ mv sp sc, w.heap[b]? = some (.cells #[mv, .slice sp xs.length sc] 28 (0, 0)) ∧ w.ownsRow 0 9 1 (.slice sp xs.length sc) xs.length (strsV xs) ∧
    (∀ k, (Value.slice sp xs.length sc).ownBlock = some k → S k) ∧
    ((mv = .map none ∧ xs = []) ∨ ∃ mb D, mv = .map (some mb) ∧ S mb ∧ w.ownsMap Try.prog 9 (plainElem Try.prog 3) mb xs.length D ∧ Good D xs)

theorem IsTab.fr {S T : Nat → Prop} {w w' : World} {b : Nat} {xs : List ByteArray} (h : IsTab w b S xs) (f : Fr T w w') (hd : ∀ k, S k → ¬ T k) : IsTab w' b S xs := by
  obtain ⟨hl, hm, mv, sp, sc, h1, h2, h3, h4⟩ := h
  refine ⟨fun k hk => Nat.lt_of_lt_of_le (hl k hk) f.size, hm, mv, sp, sc, f.heap h1 (hd b hm), ownsRow.fr h2 f (fun k hk => hd k (h3 k hk)), h3, ?_⟩
  rcases h4 with h4 | ⟨mb, D, e, hs, ho, hg⟩
  · exact .inl h4
  · exact .inr ⟨mb, D, e, hs, ownsMap.fr ho f (hd mb hs), hg⟩

theorem IsTab.new (w : World) : IsTab (w.alloc (.cells #[.map none, .slice none 0 0] 28)) w.heap.size (fun k => k = w.heap.size) [] :=
  ⟨fun k hk => by subst hk; simp, rfl, .map none, none, 0, heapNew _ _, World.ownsRow_nil _ _ _ _, fun k hk => by simp [Value.ownBlock] at hk, .inl ⟨rfl, rfl⟩⟩

theorem eql24 (w : World) (r : Option Nat) : (binOp .eql 24 (.map r) (.map none)).run Try.prog w = .ok (.bool r.isNone) w := run_eql_map_nil w _ _ _ r Try.underlying24

/-- A name that is there. -/
theorem of_there (b : Nat) (S : Nat → Prop) (xs : List ByteArray) (s : ByteArray) (w : World) (ht : IsTab w b S xs) (hs : s.size ≤ maxLen) (hin : s ∈ xs) :
    Calls Try.prog 13 #[.pointer (some ⟨b, 0, none⟩), .string s] w fun e w' => e = .returned (.tuple #[.int .i64 (xs.idxOf s : Nat), .bool true]) ∧ w = w' := by
  have hkey := keyOf_string_mk Try.underlying9 hs
  obtain ⟨_, _, mv, sp, sc, h1, h2, h3, ⟨_, rfl⟩ | ⟨mb, D, rfl, hmb, hown, hg⟩⟩ := ht
  · simp at hin
  have c0 := cellOf h1 0
  simp at c0
  have hhas : Maps.has D (.string s.data.toList) = true := by have := hg.has s; unfold ky at this; rw [this]; simpa using hin
  have Hat := Lib.hid (hg.at_ s hin)
  clear h1 h2 h3 hg hin
  go_enter Try.func13, Try.ntmps13
  go_wp2_with (first
    | (at_lookup; refine wpList_lookup_own_ok_int _ rfl _ _ 24 rfl 9 3 .i64 law9 Try.underlying24 Try.underlying3 (zero3 _) mb _ D rfl hown _ _ rfl hkey ?_; intro c hat hwc)
    | go_in)
  all_goals
    have h3 := Hat.out
    unfold ky at h3
    rw [hat] at h3
    have e1 : c = (xs.idxOf s : Nat) := by injection h3 with h3; injection h3
    subst e1
    go_ret2
    exact ⟨rfl, rfl⟩

/-- A name that is not there yet, a map having been made. -/
theorem of_new (b mb : Nat) (S : Nat → Prop) (D : DataW Unit) (sp : Option Addr) (sc : Nat) (xs : List ByteArray) (s : ByteArray) (w : World)
    (hlt : ∀ k, S k → k < w.heap.size) (hSb : S b) (hSm : S mb)
    (hb : w.heap[b]? = some (.cells #[.map (some mb), .slice sp xs.length sc] 28 (0, 0)))
    (hown : w.ownsMap Try.prog 9 (plainElem Try.prog 3) mb xs.length D) (hg : Good D xs)
    (hrow : w.ownsRow 0 9 1 (.slice sp xs.length sc) xs.length (strsV xs)) (hSr : ∀ k, (Value.slice sp xs.length sc).ownBlock = some k → S k)
    (hs : s.size ≤ maxLen) (hn : xs.length ≤ 1000) (hout : s ∉ xs) :
    Calls Try.prog 13 #[.pointer (some ⟨b, 0, none⟩), .string s] w fun e w' => e = .returned (.tuple #[.int .i64 xs.length, .bool true]) ∧ Fr S w w' ∧ IsTab w' b (Gr S w w') (xs ++ [s]) := by
  have hkey := keyOf_string_mk Try.underlying9 hs
  obtain ⟨i0, hi, hz0, hz1, hz2⟩ := info_parts info9
  have hge : decide ((65536 : Int) ≤ (xs.length : Int)) = false := by simp; omega
  have q24 := eql24
  have hbm : b ≠ mb := by
    intro e; subst e
    obtain ⟨es, clock, hm, _⟩ := hown
    rw [hb] at hm; cases hm
  have hrm : some mb ≠ (Value.slice sp xs.length sc).ownBlock := by
    obtain ⟨es, clock, hm, _⟩ := hown
    exact ownsRow.ne hrow hm (by intro c; simp)
  have hrb : some b ≠ (Value.slice sp xs.length sc).ownBlock := ownsRow.ne hrow hb (by intro c; simp)
  have hhas : Maps.has D (.string s.data.toList) = false := by have := hg.has s; unfold ky at this; rw [this]; simpa using hout
  have c0 := cellOf hb 0
  have c1 := cellOf hb 1
  have f1 := frozenOf hb 1
  simp at c0 c1
  go_enter Try.func13, Try.ntmps13
  go_wp2_with (first
    | (at_lookup; refine wpList_lookup_own_ok_int _ rfl _ _ 24 rfl 9 3 .i64 law9 Try.underlying24 Try.underlying3 (zero3 _) mb _ D rfl hown _ _ rfl hkey ?_; intro c hat hwc)
    | go_in)
  go_still_tail 10, (by kernel_rfl)
  change wpList _ _ _ _ _ w.drew
  have f0 : Fr S w w.drew := (Fr.refl S w).drew
  replace hown : w.drew.ownsMap Try.prog 9 (plainElem Try.prog 3) mb xs.length D := hown
  replace hrow : w.drew.ownsRow 0 9 1 (.slice sp xs.length sc) xs.length (strsV xs) := hrow
  replace hb : w.drew.heap[b]? = some (.cells #[.map (some mb), .slice sp xs.length sc] 28 (0, 0)) := hb
  clear c0 c1 f1
  generalize w.drew = w2 at *
  have c0 := cellOf hb 0
  have c1 := cellOf hb 1
  have f1 := frozenOf hb 1
  simp at c0 c1
  go_wp2_with (first
    | (at_mapUpdate; refine wpList_mapUpdate_own _ rfl _ _ _ 24 rfl 9 3 law9 Try.underlying24 _ mb _ D rfl hown (by unfold maxLen; omega) _ _ _ rfl rfl hkey _ [] (plainElem_int Try.underlying3 (WalkArith.wf_i64 (by omega))) ?_; intro w1 hown1 hgrow1; have f1' := f0.grown hgrow1 (fun k e => by cases e; exact .inl hSm); have hb1 := heapGrown hgrow1 hb (by simpa using hbm); have hrow1 := ownsRow.fr hrow ((Fr.refl (fun k => k = mb) w2).grown hgrow1 (fun k e => by cases e; exact .inl rfl)) (fun k hk e => hrm (by rw [hk, e])); clear c0 c1 f1 hown hrow hgrow1; have c0 := cellOf hb1 0; have c1 := cellOf hb1 1; have f1 := frozenOf hb1 1; simp at c0 c1)
    | (at_builtin; refine wpList_append_own_at _ rfl _ _ 22 rfl 0 9 i0 (.string ByteArray.empty) 1 16 Try.underlying22 hi hz0 hz1 hz2 rfl (by decide) (.slice sp xs.length sc) _ _ rfl (hrow1.alloc _) ⟨w1.heap.size, 0, none⟩ 1 1 [.string s] rfl rfl (cell_one_new _ _ _) (by simp [Value.oneCell']) (by unfold maxLen; omega) (by omega) (by omega) ?_; intro v' w3 hown3 hgrow3 _ hloc; obtain ⟨sp', sc', rfl⟩ := ownsRow.shape hown3; have f3 := (f1'.alloc _).grown hgrow3 (fun k e => .inl (hSr k e)); have hb3 := heapGrown hgrow3 (heapAlloc hb1) hrb; have hm3 := (hown1.alloc (.cells #[.string s] 9)).kept hgrow3 hrm; clear c0 c1 f1 hown1 hrow1 hgrow3 hb1; have c0 := cellOf hb3 0; have c1 := cellOf hb3 1; have f1 := frozenOf hb3 1; simp at c0 c1)
    | go_in)
  go_ret2
  have hb4 := heapSet hb3 1 (.slice sp' (xs.length + 1) sc')
  have hne : some b ≠ (Value.slice sp' (xs.length + 1) sc').ownBlock := ownsRow.ne hown3 hb3 (by intro c; simp)
  have hbm3 : mb ≠ b := fun e => hbm e.symm
  have hw1 : w.heap.size ≤ w1.heap.size := f1'.size
  have hmem : Gr S w (w3.setCell ⟨b, 1, none⟩ (.slice sp' (xs.length + 1) sc')) b := .inl hSb
  have hf := f3.setCell (p := ⟨b, 1, none⟩) (.inl hSb) (.slice sp' (xs.length + 1) sc')
  have hln : (xs ++ [s]).length = xs.length + 1 := by simp
  refine ⟨rfl, hf, fun k hk => Gr.lt hlt hf.size k hk, hmem, .map (some mb), sp', sc', ?_, ?_, ?_, .inr ⟨mb, _, rfl, .inl hSm, ?_, hg.put hout⟩⟩
  · rw [hln]; simpa using hb4
  · rw [hln]
    have := ownsRow.fr hown3 ((Fr.refl (fun k => k = b) w3).setCell (p := ⟨b, 1, none⟩) (.inl rfl) (.slice sp' (xs.length + 1) sc')) (fun k hk e => hne (by rw [hk, e]))
    simpa [strsV] using this
  · intro k hk
    rw [hln] at hk
    rcases hloc with h | h
    · exact .inl (hSr k (by rw [← h]; exact hk))
    · refine .inr ?_
      have hlt3 := (hown3.lt _ hk).2
      rw [h] at hk
      simp at hk
      refine ⟨by omega, ?_⟩
      simpa [World.setCell] using hlt3
  · rw [hln]
    exact (ownsMap.fr hm3 ((Fr.refl (fun k => k = b) w3).setCell (p := ⟨b, 1, none⟩) (.inl rfl) _) hbm3)

theorem makeMap24 (w : World) : (Instr.makeMap 24 none).run Try.prog w = .ok (.map (some w.heap.size)) (w.alloc (.map #[] 0)) := run_makeMap 24 w

/-- The first name of all. -/
theorem of_first (b : Nat) (S : Nat → Prop) (sp : Option Addr) (sc : Nat) (s : ByteArray) (w : World)
    (hlt : ∀ k, S k → k < w.heap.size) (hSb : S b)
    (hb : w.heap[b]? = some (.cells #[.map none, .slice sp 0 sc] 28 (0, 0)))
    (hrow : w.ownsRow 0 9 1 (.slice sp 0 sc) 0 []) (hSr : ∀ k, (Value.slice sp 0 sc).ownBlock = some k → S k)
    (hs : s.size ≤ maxLen) :
    Calls Try.prog 13 #[.pointer (some ⟨b, 0, none⟩), .string s] w fun e w' => e = .returned (.tuple #[.int .i64 0, .bool true]) ∧ Fr S w w' ∧ IsTab w' b (Gr S w w') [s] := by
  have hkey := keyOf_string_mk Try.underlying9 hs
  obtain ⟨i0, hi, hz0, hz1, hz2⟩ := info_parts info9
  have hge : decide ((65536 : Int) ≤ ((0 : Nat) : Int)) = false := by simp
  have q24 := eql24
  have hrun := look_nil (w := w) true law9 Try.underlying24 (zero3 _) hkey
  have hmm := @run_makeMap Try.prog
  have c0 := cellOf hb 0
  have c1 := cellOf hb 1
  have f1 := frozenOf hb 0
  have hbl := ltOf hb
  simp at c0 c1
  go_enter Try.func13, Try.ntmps13
  go_wp2
  have hsz0 : (w.setCell ⟨b, 0, none⟩ (.map (some w.heap.size))).heap.size = w.heap.size := by simp [World.setCell]
  have hown : ((w.setCell ⟨b, 0, none⟩ (.map (some w.heap.size))).alloc (.map #[] 0)).ownsMap Try.prog 9 (plainElem Try.prog 3) w.heap.size 0 (.map [] : DataW Unit) := by
    have := World.ownsMap_made (H := Unit) (w.setCell ⟨b, 0, none⟩ (.map (some w.heap.size))) Try.prog 9 (plainElem Try.prog 3)
    rw [hsz0] at this; exact this
  have hb2 := heapAlloc (o' := .map #[] 0) (heapSet hb 0 (.map (some w.heap.size)))
  have hrow2 : ((w.setCell ⟨b, 0, none⟩ (.map (some w.heap.size))).alloc (.map #[] 0)).ownsRow 0 9 1 (.slice sp 0 sc) 0 [] := ⟨rfl, by
    have hne : some b ≠ (Value.slice sp 0 sc).ownBlock := ownsRow.ne hrow hb (by intro c; simp)
    exact (ownsRow.fr hrow (((Fr.refl (fun k => k = b) w).setCell (p := ⟨b, 0, none⟩) (.inl rfl) _).alloc _) (fun k hk e => hne (by rw [hk, e]))).2⟩
  have f0 : Fr S w ((w.setCell ⟨b, 0, none⟩ (.map (some w.heap.size))).alloc (.map #[] 0)) := ((Fr.refl S w).setCell (.inl hSb) _).alloc _
  clear hsz0
  have hbm : b ≠ w.heap.size := by omega
  obtain ⟨mb, hmbe⟩ : ∃ mb, mb = w.heap.size := ⟨_, rfl⟩
  rw [← hmbe] at hown hb2 hrow2 f0 hbm ⊢
  have Hmb := Lib.hid hmbe
  clear hmbe hmm c0 c1 f1 hb hrow
  have hrm : some mb ≠ (Value.slice sp 0 sc).ownBlock := by
    obtain ⟨es, clock, hm, _⟩ := hown
    exact ownsRow.ne hrow2 hm (by intro c; simp)
  have hrb : some b ≠ (Value.slice sp 0 sc).ownBlock := ownsRow.ne hrow2 hb2 (by intro c; simp)
  generalize (w.setCell ⟨b, 0, none⟩ (.map (some mb))).alloc (.map #[] 0) = w4 at *
  have c0 := cellOf hb2 0
  have c1 := cellOf hb2 1
  simp at c0 c1
  go_still_tail 10, (by kernel_rfl)
  change wpList _ _ _ _ _ w4.drew
  replace f0 := f0.drew
  replace hown := hown.drew
  replace hrow2 : w4.drew.ownsRow 0 9 1 (.slice sp 0 sc) 0 [] := hrow2
  replace hb2 := heapDrew hb2
  clear c0 c1
  generalize w4.drew = w2 at *
  have c0 := cellOf hb2 0
  have c1 := cellOf hb2 1
  have f1 := frozenOf hb2 1
  simp at c0 c1
  have hSm : ∀ k, some mb = some k → S k ∨ w.heap.size ≤ k := fun k e => by cases e; right; rw [Hmb.out]; exact Nat.le_refl _
  go_wp2_with (first
    | (at_mapUpdate; refine wpList_mapUpdate_own _ rfl _ _ _ 24 rfl 9 3 law9 Try.underlying24 _ mb _ _ rfl hown (by unfold maxLen; omega) _ _ _ rfl rfl hkey _ [] (plainElem_int Try.underlying3 (WalkArith.wf_i64 (by omega))) ?_; intro w1 hown1 hgrow1; have f1' := f0.grown hgrow1 hSm; have hb1 := heapGrown hgrow1 hb2 (by simpa using hbm); have hrow1 := ownsRow.fr hrow2 ((Fr.refl (fun k => k = mb) w2).grown hgrow1 (fun k e => by cases e; exact .inl rfl)) (fun k hk e => hrm (by rw [hk, e])); clear c0 c1 f1 hown hrow2 hgrow1; have c0 := cellOf hb1 0; have c1 := cellOf hb1 1; have f1 := frozenOf hb1 1; simp at c0 c1)
    | (at_builtin; refine wpList_append_own_at _ rfl _ _ 22 rfl 0 9 i0 (.string ByteArray.empty) 1 16 Try.underlying22 hi hz0 hz1 hz2 rfl (by decide) (.slice sp 0 sc) _ _ rfl (hrow1.alloc _) ⟨w1.heap.size, 0, none⟩ 1 1 [.string s] rfl rfl (cell_one_new _ _ _) (by simp [Value.oneCell']) (by unfold maxLen; omega) (by omega) (by omega) ?_; intro v' w3 hown3 hgrow3 _ hloc; obtain ⟨sp', sc', rfl⟩ := ownsRow.shape hown3; have f3 := (f1'.alloc _).grown hgrow3 (fun k e => .inl (hSr k e)); have hb3 := heapGrown hgrow3 (heapAlloc hb1) hrb; have hm3 := (hown1.alloc (.cells #[.string s] 9)).kept hgrow3 hrm; clear c0 c1 f1 hown1 hrow1 hgrow3 hb1; have c0 := cellOf hb3 0; have c1 := cellOf hb3 1; have f1 := frozenOf hb3 1; simp at c0 c1)
    | go_in)
  go_ret2
  have hb4 := heapSet hb3 1 (.slice sp' (0 + 1) sc')
  have hne : some b ≠ (Value.slice sp' (0 + 1) sc').ownBlock := ownsRow.ne hown3 hb3 (by intro c; simp)
  have hbm3 : mb ≠ b := fun e => hbm e.symm
  have hw1 : w.heap.size ≤ w1.heap.size := f1'.size
  have hmem : Gr S w (w3.setCell ⟨b, 1, none⟩ (.slice sp' (0 + 1) sc')) b := .inl hSb
  have hf := f3.setCell (p := ⟨b, 1, none⟩) (.inl hSb) (.slice sp' (0 + 1) sc')
  have hmlt : mb < w3.heap.size := hm3.lt
  refine ⟨rfl, hf, fun k hk => Gr.lt hlt hf.size k hk, hmem, .map (some mb), sp', sc', by simpa using hb4, ?_, ?_, .inr ⟨mb, _, rfl, .inr ⟨by rw [Hmb.out]; exact Nat.le_refl _, by simpa [World.setCell] using hmlt⟩, ?_, Good.empty.put (by simp)⟩⟩
  · have := ownsRow.fr hown3 ((Fr.refl (fun k => k = b) w3).setCell (p := ⟨b, 1, none⟩) (.inl rfl) (.slice sp' (0 + 1) sc')) (fun k hk e => hne (by rw [hk, e]))
    simpa [strsV] using this
  · intro k hk
    rcases hloc with h | h
    · exact .inl (hSr k (by rw [← h]; exact hk))
    · refine .inr ?_
      have hlt3 := (hown3.lt _ hk).2
      have hk' : (Value.slice sp' (0 + 1) sc').ownBlock = some k := hk
      rw [h] at hk'
      simp at hk'
      refine ⟨by omega, ?_⟩
      simpa [World.setCell] using hlt3
  · exact (ownsMap.fr hm3 ((Fr.refl (fun k => k = b) w3).setCell (p := ⟨b, 1, none⟩) (.inl rfl) _) hbm3)

def ins (xs : List ByteArray) (s : ByteArray) : List ByteArray := if s ∈ xs then xs else xs ++ [s]

/-- Whatever name: its number, and the table behind the call. -/
theorem of_any (b : Nat) (S : Nat → Prop) (xs : List ByteArray) (s : ByteArray) (w : World) (ht : IsTab w b S xs) (hs : s.size ≤ maxLen) (hn : xs.length ≤ 1000) :
    Calls Try.prog 13 #[.pointer (some ⟨b, 0, none⟩), .string s] w fun e w' => e = .returned (.tuple #[.int .i64 ((ins xs s).idxOf s : Nat), .bool true]) ∧ Fr S w w' ∧ IsTab w' b (Gr S w w') (ins xs s) := by
  by_cases hin : s ∈ xs
  · refine (of_there b S xs s w ht hs hin).mono ?_
    rintro e w' ⟨rfl, rfl⟩
    refine ⟨by simp [ins, hin], Fr.refl _ _, ?_⟩
    have e : ins xs s = xs := by simp [ins, hin]
    rw [e]
    obtain ⟨hl, hm, mv, sp, sc, h1, h2, h3, h4⟩ := ht
    refine ⟨Gr.lt hl (Nat.le_refl _), .inl hm, mv, sp, sc, h1, h2, fun k hk => .inl (h3 k hk), ?_⟩
    rcases h4 with h4 | ⟨mb, D, e, hs, ho, hg⟩
    · exact .inl h4
    · exact .inr ⟨mb, D, e, .inl hs, ho, hg⟩
  · have e : ins xs s = xs ++ [s] := by simp [ins, hin]
    rw [e, idxOf_snoc_new hin]
    obtain ⟨hl, hm, mv, sp, sc, h1, h2, h3, ⟨rfl, rfl⟩ | ⟨mb, D, rfl, hmb, hown, hg⟩⟩ := ht
    · exact of_first b S sp sc s w hl hm h1 h2 h3 hs
    · exact of_new b mb S D sp sc xs s w hl hm hmb h1 hown hg h2 h3 hs hn hin

end Go.Proofs.Ytplbbfpkmhediaa
