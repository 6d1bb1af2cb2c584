/- Plain lemmas on worlds: frames by sets of blocks, cells out of blocks. No condition. -/
import Derived.WalkKit
import Derived.WalkSpells
import Derived.WalkLawsBesides
import Derived.Maps.OwnSet
import Derived.ProofKit
import Derived.Maps.AppendAt
import Derived.Deep.RegionWith
import Derived.Deep.RegionLaw
import Derived.StillTailTactics
import Derived.Lib.Hide
namespace Go.Proofs.Ytknpdkfjmhpbpaa
open Go.RowKit Go.Maps Go.ChangeShapes Go.WideShapes Go.ChangeAt Go.WideMaps Go.WideElems

/-- w' is as w was but for the blocks of S and new ones. -/
structure Fr (S : Nat → Prop) (w w' : World) : Prop where
  os : w'.os = w.os
  tape : w'.tape = w.tape
  output : w'.output = w.output
  size : w.heap.size ≤ w'.heap.size
  block : ∀ k, k < w.heap.size → ¬ S k → w'.heap[k]? = w.heap[k]?

theorem Fr.refl (S : Nat → Prop) (w : World) : Fr S w w := ⟨rfl, rfl, rfl, Nat.le_refl _, fun _ _ _ => rfl⟩

/-- The second step may write what the first step made. -/
theorem Fr.step {S T : Nat → Prop} {a b c : World} (h : Fr S a b) (k : Fr T b c) (hT : ∀ i, T i → S i ∨ a.heap.size ≤ i) : Fr S a c :=
  ⟨k.os.trans h.os, k.tape.trans h.tape, k.output.trans h.output, Nat.le_trans h.size k.size, fun i hi hs =>
    (k.block i (Nat.lt_of_lt_of_le hi h.size) (fun e => by rcases hT i e with e | e; exact hs e; omega)).trans (h.block i hi hs)⟩

theorem Fr.trans {S : Nat → Prop} {a b c : World} (h : Fr S a b) (k : Fr S b c) : Fr S a c := h.step k (fun _ e => .inl e)

theorem Fr.mono {S T : Nat → Prop} {a b : World} (h : Fr S a b) (hT : ∀ i, i < a.heap.size → S i → T i) : Fr T a b :=
  ⟨h.os, h.tape, h.output, h.size, fun i hi hn => h.block i hi (fun e => hn (hT i hi e))⟩

theorem Fr.drew {S : Nat → Prop} {a b : World} (h : Fr S a b) : Fr S a b.drew := ⟨h.os, h.tape, h.output, h.size, h.block⟩

theorem Fr.alloc {S : Nat → Prop} {a b : World} (h : Fr S a b) (o : Obj) : Fr S a (b.alloc o) :=
  h.trans ⟨rfl, rfl, rfl, by simp, fun k hk _ => Below.heap_alloc _ _ _ hk⟩

theorem Fr.setCell {S : Nat → Prop} {a b : World} (h : Fr S a b) {p : Addr} (hp : S p.block ∨ a.heap.size ≤ p.block) (u : Value) : Fr S a (b.setCell p u) :=
  h.step (T := fun k => k = p.block) ⟨rfl, rfl, rfl, by simp [World.setCell], fun k _ hn => Below.heap_setCell _ _ _ _ hn⟩ (fun i e => by subst e; exact hp)

theorem Fr.grown {S : Nat → Prop} {a b c : World} {row : Option Nat} (h : Fr S a b) (hg : b.grownBy c row) (hr : ∀ k, row = some k → S k ∨ a.heap.size ≤ k) : Fr S a c :=
  h.step (T := fun k => row = some k) ⟨hg.os, hg.tape, hg.output, hg.size, fun k hk hn => hg.block k hk (fun e => hn e.symm)⟩ (fun i e => hr i e)

theorem Fr.below {S : Nat → Prop} {a b : World} (h : Fr S a b) {B : Nat} (hB : B ≤ a.heap.size) (hS : ∀ k, k < B → ¬ S k) : Below B a b :=
  ⟨h.os, h.tape, h.output, h.size, fun k hk => h.block k (by omega) (hS k hk)⟩

theorem Fr.cell {S : Nat → Prop} {a b : World} (h : Fr S a b) {p : Addr} (hp : p.block < a.heap.size) (hn : ¬ S p.block) : b.cell? p = a.cell? p := World.cell?_of_block (h.block _ hp hn)
theorem Fr.frozen {S : Nat → Prop} {a b : World} (h : Fr S a b) {p : Addr} (hp : p.block < a.heap.size) (hn : ¬ S p.block) : b.frozen? p = a.frozen? p := World.frozen?_of_block (h.block _ hp hn)

theorem Fr.of_below {B : Nat} {a b : World} (h : Below B a b) : Fr (fun k => B ≤ k) a b := ⟨h.os, h.tape, h.output, h.size, fun k _ hn => h.block k (by omega)⟩

/-- S and what was made between w and w'. -/
def Gr (S : Nat → Prop) (w w' : World) (k : Nat) : Prop := S k ∨ (w.heap.size ≤ k ∧ k < w'.heap.size)

theorem Gr.disj {S T : Nat → Prop} {w w' : World} (h : ∀ k, S k → ¬ T k) (hT : ∀ k, T k → k < w.heap.size) : ∀ k, Gr S w w' k → ¬ T k := by
  intro k hk ht
  rcases hk with hk | hk
  · exact h k hk ht
  · have := hT k ht; omega

theorem Gr.lt {S : Nat → Prop} {w w' : World} (h : ∀ k, S k → k < w.heap.size) (hle : w.heap.size ≤ w'.heap.size) : ∀ k, Gr S w w' k → k < w'.heap.size := by
  intro k hk
  rcases hk with hk | hk
  · have := h k hk; omega
  · exact hk.2

theorem Gr.ge {S : Nat → Prop} {w w' : World} {B : Nat} (h : ∀ k, S k → B ≤ k) (hB : B ≤ w.heap.size) : ∀ k, Gr S w w' k → B ≤ k := by
  intro k hk
  rcases hk with hk | hk
  · exact h k hk
  · omega

theorem ltOf {w : World} {b : Nat} {o : Obj} (h : w.heap[b]? = some o) : b < w.heap.size := (Array.getElem?_eq_some_iff.1 h).1

theorem cellOf {w : World} {b : Nat} {c : Array Value} {t : TypeId} {fz : Nat × Nat} (h : w.heap[b]? = some (.cells c t fz)) (i : Nat) : w.cell? ⟨b, i, none⟩ = c[i]? := by
  simp [World.cell?, h]

theorem frozenOf {w : World} {b : Nat} {c : Array Value} {t : TypeId} (h : w.heap[b]? = some (.cells c t (0, 0))) (i : Nat) : w.frozen? ⟨b, i, none⟩ = false := by
  simp [World.frozen?, h]

theorem heapSet {w : World} {b : Nat} {c : Array Value} {t : TypeId} {fz : Nat × Nat} (h : w.heap[b]? = some (.cells c t fz)) (i : Nat) (v : Value) :
    (w.setCell ⟨b, i, none⟩ v).heap[b]? = some (.cells (c.setIfInBounds i v) t fz) := by
  simp [World.setCell, Array.getElem?_modify, h]

theorem heapSetOther {w : World} {b k : Nat} (i : Nat) (v : Value) (h : k ≠ b) : (w.setCell ⟨b, i, none⟩ v).heap[k]? = w.heap[k]? := Below.heap_setCell _ _ _ _ h

theorem heapAlloc {w : World} {b : Nat} {o o' : Obj} (h : w.heap[b]? = some o) : (w.alloc o').heap[b]? = some o := by
  rw [Below.heap_alloc _ _ _ (ltOf h)]; exact h

theorem heapNew (w : World) (o : Obj) : (w.alloc o).heap[w.heap.size]? = some o := heap_alloc_new w o

theorem heapDrew {w : World} {b : Nat} {o : Obj} (h : w.heap[b]? = some o) : w.drew.heap[b]? = some o := h

theorem heapGrown {w w' : World} {b : Nat} {o : Obj} {row : Option Nat} (hg : w.grownBy w' row) (h : w.heap[b]? = some o) (hne : some b ≠ row) : w'.heap[b]? = some o :=
  (hg.block b (ltOf h) hne).trans h

theorem Fr.heap {S : Nat → Prop} {a b : World} (h : Fr S a b) {k : Nat} {o : Obj} (hk : a.heap[k]? = some o) (hn : ¬ S k) : b.heap[k]? = some o := (h.block k (ltOf hk) hn).trans hk

theorem ownsRow.fr {S : Nat → Prop} {w w' : World} {base e size : Nat} {v : Value} {n : Nat} {xs : List Value} (h : w.ownsRow base e size v n xs) (f : Fr S w w') (hn : ∀ k, v.ownBlock = some k → ¬ S k) : w'.ownsRow base e size v n xs := by
  refine ⟨h.1, ?_⟩
  rcases h.2 with hz | ⟨g, cap, cur, rfl, hb, hgg, rest⟩
  · exact .inl hz
  · exact .inr ⟨g, cap, cur, rfl, hb, f.heap hgg (hn g (by simp [Value.ownBlock])), rest⟩

theorem ownsMap.fr {H : Type} {P : Program} {kt : TypeId} {R : Value → Option (DataW H × List MemPlace)} {S : Nat → Prop} {w w' : World} {b n : Nat} {D : DataW H} (h : w.ownsMap P kt R b n D) (f : Fr S w w') (hn : ¬ S b) : w'.ownsMap P kt R b n D := by
  obtain ⟨es, clock, hb, r⟩ := h
  exact ⟨es, clock, f.heap hb hn, r⟩

/-- The shape of an owned row's value. -/
theorem ownsRow.shape {w : World} {base e size : Nat} {v : Value} {n : Nat} {xs : List Value} (h : w.ownsRow base e size v n xs) : ∃ sp sc, v = .slice sp n sc := by
  rcases h.2 with ⟨rfl, rfl⟩ | ⟨g, cap, cur, rfl, _⟩
  · exact ⟨_, _, rfl⟩
  · exact ⟨_, _, rfl⟩

/-- A block of another element type is another block. -/
theorem ownsRow.ne {w : World} {base e size : Nat} {v : Value} {n : Nat} {xs : List Value} (h : w.ownsRow base e size v n xs) {b : Nat} {o : Obj} (hb : w.heap[b]? = some o) (ho : ∀ c, o ≠ .cells c e (0, 0)) : some b ≠ v.ownBlock := by
  intro e1
  rcases h.2 with ⟨rfl, _⟩ | ⟨g, cap, cur, rfl, _, hg, _⟩
  · simp [Value.ownBlock] at e1
  · simp [Value.ownBlock] at e1
    subst e1
    rw [hb] at hg
    cases hg
    exact ho _ rfl

theorem beqBA (a b : ByteArray) : (a == b) = (a.data == b.data) := by
  cases a; cases b; rfl
instance lawfulBA : LawfulBEq ByteArray where
  eq_of_beq {a b} h := by rw [beqBA] at h; exact ByteArray.ext (by simpa using h)
  rfl {a} := by rw [beqBA]; simp

/-- Two texts as the walk compares them. -/
theorem strEq (a b : ByteArray) : (a.toList == b.toList) = decide (a = b) := by
  rw [ByteArray.toList_eq, ByteArray.toList_eq, Bool.eq_iff_iff]
  simp only [beq_iff_eq, decide_eq_true_eq]
  constructor
  · intro h; exact ByteArray.ext (Array.toList_inj.1 h)
  · intro h; rw [h]

theorem idxOf_snoc_mem {xs : List ByteArray} {s t : ByteArray} (h : t ∈ xs) : (xs ++ [s]).idxOf t = xs.idxOf t := by
  rw [List.idxOf_append, if_pos h]
theorem idxOf_snoc_new {xs : List ByteArray} {s : ByteArray} (h : s ∉ xs) : (xs ++ [s]).idxOf s = xs.length := by
  rw [List.idxOf_append, if_neg h]; simp

/-! ### what a slice that came in reads as -/
/-- A slice whose elements, one cell each, read as the list tells. -/
def IsRowOf {α : Type} (f : α → Value) (w : World) (v : Value) (l : List α) : Prop :=
  ∃ p c, v = .slice p l.length c ∧ l.length ≤ c ∧ c ≤ maxLen ∧ ∀ i x, l[i]? = some x → ∃ g off, p = some ⟨g, off, none⟩ ∧ g < w.heap.size ∧ w.cell? ⟨g, off + i, none⟩ = some (f x)

theorem addOf (a : Addr) (i : Nat) (h : a.spot = none) : a.add i = ⟨a.block, a.off + i, none⟩ := by
  obtain ⟨b, o, sp⟩ := a
  simp only at h
  subst h
  unfold Addr.add
  split <;> simp_all

theorem rowOf_open {α : Type} {f : α → Value} {w : World} {a : Addr} {len cap : Nat} (z : α) (zs : List α) (hl : len ≤ cap) (hm : cap ≤ maxLen) (hz : zs.length = cap) (hc : ∀ i, i < zs.length → w.cell? (a.add i) = some (f (zs.getD i z))) :
    IsRowOf f w (.slice (some a) len cap) (zs.take len) := by
  have h1 : (zs.take len).length = len := by rw [List.length_take]; omega
  refine ⟨some a, cap, by rw [h1], by omega, hm, fun i x hx => ?_⟩
  have hi : i < len := by
    rcases Nat.lt_or_ge i len with h | h
    · exact h
    · rw [List.getElem?_take, if_neg (by omega)] at hx; cases hx
  rw [List.getElem?_take, if_pos hi] at hx
  have h0 := hc 0 (by omega)
  have hs : a.spot = none := by
    have := World.cell?_spot h0
    obtain ⟨b, o, sp⟩ := a
    unfold Addr.add at this
    split at this <;> simp_all
  have hci := hc i (by omega)
  have hb := World.block_lt_of_cell? w _ hci
  rw [addOf a i hs] at hci hb
  refine ⟨a.block, a.off, ?_, hb, ?_⟩
  · obtain ⟨b, o, sp⟩ := a
    simp only at hs
    subst hs
    rfl
  · rw [hci]
    simp [List.getD, hx]

theorem rowOf_nil {α : Type} (f : α → Value) (w : World) : IsRowOf f w (.slice none 0 0) ([] : List α) :=
  ⟨none, 0, rfl, Nat.le_refl _, Nat.zero_le _, fun i x h => by simp at h⟩

theorem IsRowOf.below {α : Type} {f : α → Value} {w w' : World} {v : Value} {l : List α} (h : IsRowOf f w v l) (hb : Below w.heap.size w w') : IsRowOf f w' v l := by
  obtain ⟨p, c, e, h1, h2, h3⟩ := h
  refine ⟨p, c, e, h1, h2, fun i x hx => ?_⟩
  obtain ⟨g, off, hp, hg, hc⟩ := h3 i x hx
  exact ⟨g, off, hp, Nat.lt_of_lt_of_le hg hb.size, (hb.cell (p := ⟨g, off + i, none⟩) hg).trans hc⟩

def IsStrs (w : World) (v : Value) (l : List ByteArray) : Prop := IsRowOf Value.string w v l ∧ ∀ s ∈ l, s.size ≤ maxLen
def IsBools (w : World) (v : Value) (l : List Bool) : Prop := IsRowOf Value.bool w v l
def IsInts (k : IntKind) (w : World) (v : Value) (l : List Int) : Prop := IsRowOf (Value.int k) w v l ∧ ∀ n ∈ l, (Lit.int k n).wf = true

theorem strs_open {H : Type} {enc : TypeId × Value → H} {P : Program} {t e : TypeId} {w : World} {v : Value} {d : DataW H} {ps : List MemPlace} {r : Reach} {b0 : Nat} (ht : P.underlying t = some (.slice e)) (he : P.underlying e = some .string) (hc : P.cellsOf e = 1)
    (hval : Value.okWide P w r b0 t v) (h : DataW.Trod enc P w 0 (fun _ => true) true t v d ps) : ∃ l, IsStrs w v l := by
  obtain ⟨a, n, c, rfl⟩ := okWide_slice ht hval
  obtain ⟨fuel, hf⟩ := h
  rcases open_strings ht he hc hf with ⟨hcs, _⟩ | ⟨x, l, c', zs, hcs, _, hl, hm, hz, _, hcell, hws⟩
  · simp [Value.cells] at hcs
    obtain ⟨rfl, rfl, rfl⟩ := hcs
    exact ⟨[], rowOf_nil _ _, fun s hs => by simp at hs⟩
  · simp [Value.cells] at hcs
    obtain ⟨rfl, rfl, rfl⟩ := hcs
    exact ⟨zs.take n, rowOf_open ByteArray.empty zs hl hm (by simpa using hz) hcell, fun s hs => hws s (List.mem_of_mem_take hs)⟩

theorem ints_open {H : Type} {enc : TypeId × Value → H} {P : Program} {t e : TypeId} {q : IntKind} {w : World} {v : Value} {d : DataW H} {ps : List MemPlace} {r : Reach} {b0 : Nat} (ht : P.underlying t = some (.slice e)) (he : P.underlying e = some (.int q)) (hc : P.cellsOf e = 1)
    (hval : Value.okWide P w r b0 t v) (h : DataW.Trod enc P w 0 (fun _ => true) true t v d ps) : ∃ l, IsInts q w v l := by
  obtain ⟨a, n, c, rfl⟩ := okWide_slice ht hval
  obtain ⟨fuel, hf⟩ := h
  rcases open_ints ht he hc hf with ⟨hcs, _⟩ | ⟨x, l, c', zs, hcs, _, hl, hm, hz, _, hcell, hws⟩
  · simp [Value.cells] at hcs
    obtain ⟨rfl, rfl, rfl⟩ := hcs
    exact ⟨[], rowOf_nil _ _, fun s hs => by simp at hs⟩
  · simp [Value.cells] at hcs
    obtain ⟨rfl, rfl, rfl⟩ := hcs
    exact ⟨zs.take n, rowOf_open 0 zs hl hm (by simpa using hz) hcell, fun s hs => hws s (List.mem_of_mem_take hs)⟩

end Go.Proofs.Ytknpdkfjmhpbpaa
