/- A tree of elements: what its memory is, and the two steps that make an element more. -/
import Derived.Test.YtdbhcogafhhlnaaDLowd
import Derived.Laws.OwnMore
import Derived.Deep.AppendLies
namespace Go.Proofs.Ytdbhcogafhhlnaa
open Go.RowKit Go.Maps Go.ChangeShapes Go.WideShapes Go.ChangeAt Go.WideMaps Go.WideElems

structure NodeD where
  par : Int
  tag : ByteArray
  id : ByteArray
  cls : List ByteArray
  att : List (ByteArray × ByteArray)
structure ElD where
  nd : NodeD
  kids : List Int
  dep : Int
  plc : Int
  bef : Int

def elC (x : ElD) (vC vA vK : Value) : List Value := [.int .i64 x.nd.par, .string (lowS x.nd.tag), .string x.nd.id, vC, vA, vK, .int .i64 x.dep, .int .i64 x.plc, .int .i64 x.bef]
def kidB (cs : List Value) : Option Nat := (cs[5]?.getD undef).ownBlock

def IsEl (base : Nat) (w : World) (cs : List Value) (x : ElD) : Prop :=
  ∃ sp c q o s k, cs = elC x (.slice sp x.nd.cls.length c) (.slice q x.nd.att.length o) (.slice s x.kids.length k) ∧ OwnsWin w base 9 1 (.slice sp x.nd.cls.length c) x.nd.cls.length (x.nd.cls.map Value.string) ∧
    OwnsWin w base 38 2 (.slice q x.nd.att.length o) x.nd.att.length (attL (lowA x.nd.att)) ∧ OwnsWin w base 3 1 (.slice s x.kids.length k) x.kids.length (x.kids.map (Value.int .i64))

theorem IsEl.len {base : Nat} {w : World} {cs : List Value} {x : ElD} (h : IsEl base w cs x) : cs.length = 9 := by
  obtain ⟨sp, c, q, o, s, k, rfl, _⟩ := h
  rfl
/-- It stays where neither its rows nor its children's row are written. -/
theorem IsEl.keep {base : Nat} {S : Nat → Prop} {w w' : World} {cs : List Value} {x : ElD} (h : IsEl base w cs x) (f : Fr S w w') (hS : ∀ k, S k → ∃ c t z, w.heap[k]? = some (.cells c t z) ∧ t ≠ 9 ∧ t ≠ 38) (hk : ∀ g, kidB cs = some g → ¬ S g) : IsEl base w' cs x := by
  obtain ⟨sp, c, q, o, s, k, e, h1, h2, h3⟩ := h
  refine ⟨sp, c, q, o, s, k, e, h1.fr f (fun j hj e => ?_), h2.fr f (fun j hj e => ?_), h3.fr f (fun j hj => hk j (by subst e; exact hj))⟩
  · obtain ⟨c', t, z, hk, h9, _⟩ := hS j e
    exact h1.ne hk (by intro c'' e'; cases e'; exact h9 rfl) hj.symm
  · obtain ⟨c', t, z, hk, _, h38⟩ := hS j e
    exact h2.ne hk (by intro c'' e'; cases e'; exact h38 rfl) hj.symm
theorem IsEl.kid {base : Nat} {w : World} {cs : List Value} {x : ElD} (h : IsEl base w cs x) : ∃ s k, cs[5]? = some (.slice s x.kids.length k) ∧ OwnsWin w base 3 1 (.slice s x.kids.length k) x.kids.length (x.kids.map (Value.int .i64)) := by
  obtain ⟨sp, c, q, o, s, k, rfl, h1, h2, h3⟩ := h
  exact ⟨s, k, rfl, h3⟩

structure NE (base : Nat) (w : World) (css : List (List Value)) (els : List ElD) : Prop where
  len : css.length = els.length
  el : ∀ (k : Nat) cs x, css[k]? = some cs → els[k]? = some x → IsEl base w cs x
  dis : ∀ (i j : Nat) ci cj g, i ≠ j → css[i]? = some ci → css[j]? = some cj → kidB ci = some g → kidB cj ≠ some g

theorem NE.nil (base : Nat) (w : World) : NE base w [] [] := ⟨rfl, fun k cs x h => by simp at h, fun i j ci cj g _ h => by simp at h⟩
theorem NE.keep {base : Nat} {S : Nat → Prop} {w w' : World} {css : List (List Value)} {els : List ElD} (h : NE base w css els) (f : Fr S w w') (hS : ∀ k, S k → ∃ c t z, w.heap[k]? = some (.cells c t z) ∧ t ≠ 9 ∧ t ≠ 38 ∧ t ≠ 3) : NE base w' css els := by
  refine ⟨h.len, fun k cs x a b => ?_, h.dis⟩
  have hel := h.el k cs x a b
  refine hel.keep f (fun j e => by obtain ⟨c, t, z, h1, h2, h3, _⟩ := hS j e; exact ⟨c, t, z, h1, h2, h3⟩) (fun g hg e => ?_)
  obtain ⟨c, t, z, h1, _, _, h3⟩ := hS g e
  obtain ⟨s, kk, h5, hown⟩ := hel.kid
  unfold kidB at hg
  rw [h5] at hg
  exact hown.ne h1 (by intro c'' e'; cases e'; exact h3 rfl) hg.symm
theorem NE.snoc {base : Nat} {w : World} {css : List (List Value)} {els : List ElD} {cs : List Value} {x : ElD} (h : NE base w css els) (hc : IsEl base w cs x) (hk : kidB cs = none) : NE base w (css ++ [cs]) (els ++ [x]) := by
  have hl := h.len
  have at_ : ∀ (i : Nat) ci, (css ++ [cs])[i]? = some ci → css[i]? = some ci ∨ (i = css.length ∧ ci = cs) := by
    intro i ci hi
    rcases Nat.lt_or_ge i css.length with h1 | h1
    · rw [List.getElem?_append_left h1] at hi; exact .inl hi
    · rw [List.getElem?_append_right h1] at hi
      rcases Nat.eq_zero_or_pos (i - css.length) with e | e
      · rw [e] at hi; simp at hi; exact .inr ⟨by omega, hi.symm⟩
      · rw [List.getElem?_eq_none (by simp; omega)] at hi; cases hi
  refine ⟨by simp [hl], fun k c' x' a b => ?_, fun i j ci cj g hij a b hg => ?_⟩
  · rcases at_ k c' a with h1 | ⟨rfl, rfl⟩
    · have hk1 : k < css.length := (List.getElem?_eq_some_iff.1 h1).1
      rw [List.getElem?_append_left (by omega)] at b
      exact h.el k c' x' h1 b
    · rw [hl, List.getElem?_append_right (Nat.le_refl _), Nat.sub_self] at b
      simp at b
      subst b
      exact hc
  · rcases at_ i ci a with h1 | ⟨rfl, rfl⟩
    · rcases at_ j cj b with h2 | ⟨rfl, rfl⟩
      · exact h.dis i j ci cj g hij h1 h2 hg
      · rw [hk]; simp
    · rw [hk] at hg; cases hg

theorem flat9 (css : List (List Value)) (hl : ∀ cs ∈ css, cs.length = 9) (k j : Nat) (hj : j < 9) (cs : List Value) (hk : css[k]? = some cs) : css.flatten[k * 9 + j]? = cs[j]? := by
  induction css generalizing k with
  | nil => simp at hk
  | cons a r ih =>
    have ha : a.length = 9 := hl a (by simp)
    cases k with
    | zero =>
      simp at hk
      subst hk
      rw [List.flatten_cons, List.getElem?_append_left (by omega)]
      simp
    | succ k =>
      rw [List.flatten_cons, List.getElem?_append_right (by omega), show (k + 1) * 9 + j - a.length = k * 9 + j by omega]
      exact ih (fun cs h => hl cs (by simp [h])) k (by simpa using hk)
theorem flat9_set (css : List (List Value)) (hl : ∀ cs ∈ css, cs.length = 9) (k j : Nat) (hj : j < 9) (cs : List Value) (hk : css[k]? = some cs) (u : Value) : css.flatten.set (k * 9 + j) u = (css.set k (cs.set j u)).flatten := by
  induction css generalizing k with
  | nil => simp at hk
  | cons a r ih =>
    have ha : a.length = 9 := hl a (by simp)
    cases k with
    | zero =>
      simp at hk
      subst hk
      rw [List.flatten_cons, Nat.zero_mul, Nat.zero_add, List.set_append_left _ _ (by omega)]
      rfl
    | succ k =>
      rw [List.flatten_cons, List.set_append_right _ _ (by omega), show (k + 1) * 9 + j - a.length = k * 9 + j by omega, ih (fun cs h => hl cs (by simp [h])) k (by simpa using hk)]
      rfl
theorem NE.all9 {base : Nat} {w : World} {css : List (List Value)} {els : List ElD} (h : NE base w css els) : ∀ cs ∈ css, cs.length = 9 := by
  intro cs hc
  obtain ⟨i, hi, rfl⟩ := List.getElem_of_mem hc
  have hl := h.len
  exact (h.el i css[i] (els[i]'(by omega)) (List.getElem?_eq_getElem hi) (List.getElem?_eq_getElem (by omega))).len

/-- Block tb is a tree of these elements. -/
structure TS (w wr : World) (tb : Nat) (els : List ElD) : Prop where
  body : ∃ sp c css, wr.heap[tb]? = some (.cells #[.slice sp els.length c] 54 (0, 0)) ∧ wr.ownsRow w.heap.size 57 9 (.slice sp els.length c) els.length css.flatten ∧ NE w.heap.size wr css els
  fr : Fr (fun _ => False) w wr
  ht : w.heap.size ≤ tb

theorem TS.new (w : World) : TS w (w.alloc (.cells #[.slice none 0 0] 54)) w.heap.size [] :=
  ⟨⟨none, 0, [], heapNew w _, World.ownsRow_nil _ _ _ _, NE.nil _ _⟩, (Fr.refl _ w).alloc _, Nat.le_refl _⟩
theorem TS.fr0 {w wr w' : World} {tb : Nat} {els : List ElD} (h : TS w wr tb els) (f : Fr (fun _ => False) wr w') : TS w w' tb els := by
  obtain ⟨⟨sp, c, css, h1, h2, h3⟩, hf, ht⟩ := h
  exact ⟨⟨sp, c, css, f.heap h1 (by simp), ownsRow.fr h2 f (by simp), h3.keep f (by simp)⟩, hf.trans f, ht⟩

/-- An element more at the end. -/
theorem TS.addE {w wr w7 : World} {tb : Nat} {els : List ElD} {sp sp7 : Option Addr} {c c7 : Nat} {css : List (List Value)} {cs : List Value} {x : ElD} {X : Obj} (hfr : Fr (fun _ => False) w wr) (ht : w.heap.size ≤ tb)
    (h1 : wr.heap[tb]? = some (.cells #[.slice sp els.length c] 54 (0, 0))) (h2 : wr.ownsRow w.heap.size 57 9 (.slice sp els.length c) els.length css.flatten) (h3 : NE w.heap.size wr css els)
    (hc : IsEl w.heap.size wr cs x) (hk : kidB cs = none) (hown : w7.ownsRow w.heap.size 57 9 (.slice sp7 (els.length + 1) c7) (els.length + 1) (css.flatten ++ cs)) (hgrow : (wr.alloc X).drew.grownBy w7 (Value.slice sp els.length c).ownBlock) :
    TS w (w7.setCell ⟨tb, 0, none⟩ (.slice sp7 (els.length + 1) c7)) tb (els ++ [x]) := by
  have n2 := ownsRow.ne h2 h1 (by intro c; simp)
  have hown0 : ∀ j, (Value.slice sp els.length c).ownBlock = some j → ∃ cur, wr.heap[j]? = some (.cells cur 57 (0, 0)) := by
    intro j hj
    rcases h2.2 with ⟨h, _⟩ | ⟨g, cap, cur, h, _, hg, _⟩
    · rw [h] at hj; simp [Value.ownBlock] at hj
    · rw [h] at hj
      simp [Value.ownBlock] at hj
      subst hj
      exact ⟨_, hg⟩
  obtain ⟨T, hT⟩ : ∃ T : Nat → Prop, T = fun j => (Value.slice sp els.length c).ownBlock = some j ∨ j = tb := ⟨_, rfl⟩
  have hTT : ∀ j, T j → ∃ c t z, wr.heap[j]? = some (.cells c t z) ∧ t ≠ 9 ∧ t ≠ 38 ∧ t ≠ 3 := by
    intro j e
    rw [hT] at e
    rcases e with e | rfl
    · obtain ⟨cur, hcur⟩ := hown0 j e
      exact ⟨_, _, _, hcur, by decide, by decide, by decide⟩
    · exact ⟨_, _, _, h1, by decide, by decide, by decide⟩
  have t7 : Fr T wr w7 := (((Fr.refl T wr).alloc X).drew).grown hgrow (fun j e => by rw [hT]; exact .inl (.inl e))
  have t8 : Fr T wr (w7.setCell ⟨tb, 0, none⟩ (.slice sp7 (els.length + 1) c7)) := t7.setCell (p := ⟨tb, 0, none⟩) (.inl (by rw [hT]; exact .inr rfl)) _
  have b7 : w7.heap[tb]? = some (.cells #[.slice sp els.length c] 54 (0, 0)) := heapGrown hgrow (heapDrew (heapAlloc h1)) n2
  have n7 := ownsRow.ne hown b7 (by intro c; simp)
  have hl : (els ++ [x]).length = els.length + 1 := by simp
  refine ⟨⟨sp7, c7, css ++ [cs], ?_, ?_, (h3.snoc hc hk).keep t8 hTT⟩, ?_, ht⟩
  · rw [hl]; simpa using heapSet b7 0 (.slice sp7 (els.length + 1) c7)
  · rw [hl, List.flatten_append, List.flatten_cons, List.flatten_nil, List.append_nil]
    exact ownsRow.fr hown ((Fr.refl (fun j => j = tb) w7).setCell (p := ⟨tb, 0, none⟩) (.inl rfl) _) (fun j hj e => n7 (by subst e; exact hj.symm))
  · refine hfr.step t8 (fun j e => .inr ?_)
    rw [hT] at e
    rcases e with e | rfl
    · exact (h2.lt j e).1
    · exact ht

/-- A child more of the p-th element. -/
theorem TS.addK {w wr w7 : World} {tb p g : Nat} {els : List ElD} {c : Nat} {css : List (List Value)} {cs : List Value} {x : ElD} {X : Obj} {s s7 : Option Addr} {k k7 : Nat} {v : Int} (hfr : Fr (fun _ => False) w wr) (ht : w.heap.size ≤ tb)
    (h1 : wr.heap[tb]? = some (.cells #[.slice (some ⟨g, 0, none⟩) els.length c] 54 (0, 0))) (h2 : wr.ownsRow w.heap.size 57 9 (.slice (some ⟨g, 0, none⟩) els.length c) els.length css.flatten) (h3 : NE w.heap.size wr css els)
    (hcs : css[p]? = some cs) (hx : els[p]? = some x) (hk : cs[5]? = some (.slice s x.kids.length k)) (hkw : OwnsWin wr w.heap.size 3 1 (.slice s x.kids.length k) x.kids.length (x.kids.map (Value.int .i64)))
    (hown : OwnsWin w7 w.heap.size 3 1 (.slice s7 (x.kids.length + 1) k7) (x.kids.length + 1) (x.kids.map (Value.int .i64) ++ [.int .i64 v])) (hgrow : (wr.alloc X).grownBy w7 (Value.slice s x.kids.length k).ownBlock)
    (hloc : ∀ j, (Value.slice s7 (x.kids.length + 1) k7).ownBlock = some j → (Value.slice s x.kids.length k).ownBlock = some j ∨ (wr.alloc X).heap.size ≤ j) :
    TS w (w7.setCell ⟨g, p * 9 + 5, none⟩ (.slice s7 (x.kids.length + 1) k7)) tb (els.set p { x with kids := x.kids ++ [v] }) ∧ (w7.setCell ⟨g, p * 9 + 5, none⟩ (.slice s7 (x.kids.length + 1) k7)).heap[tb]? = some (.cells #[.slice (some ⟨g, 0, none⟩) els.length c] 54 (0, 0)) ∧ Fr (fun _ => False) w (w7.setCell ⟨g, p * 9 + 5, none⟩ (.slice s7 (x.kids.length + 1) k7)) ∧ Fr (fun j => (Value.slice s x.kids.length k).ownBlock = some j ∨ j = g) wr (w7.setCell ⟨g, p * 9 + 5, none⟩ (.slice s7 (x.kids.length + 1) k7)) := by
  have hkB : kidB cs = (Value.slice s x.kids.length k).ownBlock := by unfold kidB; rw [hk]; rfl
  obtain ⟨cur0, hgb⟩ : ∃ cur0, wr.heap[g]? = some (.cells cur0 57 (0, 0)) := by
    rcases h2.2 with ⟨h, _⟩ | ⟨g', cap, cur, h, _, hg, _⟩
    · cases h
    · cases h; exact ⟨_, hg⟩
  have hgt : g ≠ tb := by
    intro e
    subst e
    rw [hgb] at h1
    cases h1
  have nkt := hkw.ne h1 (by intro c; simp)
  have nkg := hkw.ne hgb (by intro c; simp)
  have hglt := h2.lt g rfl
  obtain ⟨T, hT⟩ : ∃ T : Nat → Prop, T = fun j => (Value.slice s x.kids.length k).ownBlock = some j ∨ j = g := ⟨_, rfl⟩
  have t7 : Fr T wr w7 := ((Fr.refl T wr).alloc X).grown hgrow (fun j e => by rw [hT]; exact .inl (.inl e))
  have t8 : Fr T wr (w7.setCell ⟨g, p * 9 + 5, none⟩ (.slice s7 (x.kids.length + 1) k7)) := t7.setCell (p := ⟨g, p * 9 + 5, none⟩) (.inl (by rw [hT]; exact .inr rfl)) _
  have hTt : ∀ j, T j → ∃ c t z, wr.heap[j]? = some (.cells c t z) ∧ t ≠ 9 ∧ t ≠ 38 := by
    intro j e
    rw [hT] at e
    rcases e with e | rfl
    · rcases hkw.2 with ⟨h, _⟩ | ⟨g', off', cap, cur, h, _, hg', _⟩
      · rw [h] at e; simp [Value.ownBlock] at e
      · rw [h] at e
        simp [Value.ownBlock] at e
        subst e
        exact ⟨_, _, _, hg', by decide, by decide⟩
    · exact ⟨_, _, _, hgb, by decide, by decide⟩
  have b8 : (w7.setCell ⟨g, p * 9 + 5, none⟩ (.slice s7 (x.kids.length + 1) k7)).heap[tb]? = some (.cells #[.slice (some ⟨g, 0, none⟩) els.length c] 54 (0, 0)) := t8.heap h1 (fun e => by
    rw [hT] at e
    rcases e with e | e
    · exact nkt e.symm
    · exact hgt e.symm)
  have fr8 : Fr (fun _ => False) w (w7.setCell ⟨g, p * 9 + 5, none⟩ (.slice s7 (x.kids.length + 1) k7)) := hfr.step t8 (fun j e => .inr (by
    rw [hT] at e
    rcases e with e | rfl
    · exact (hkw.lt j e).1
    · exact hglt.1))
  have hrow7 : w7.ownsRow w.heap.size 57 9 (.slice (some ⟨g, 0, none⟩) els.length c) els.length css.flatten := h2.kept (w' := w7) (row := (Value.slice s x.kids.length k).ownBlock) ⟨hgrow.os, hgrow.tape, hgrow.output, by have := hgrow.size; simp at this; omega, fun j hj hn => (hgrow.block j (by simp; omega) hn).trans (Below.heap_alloc _ _ _ hj)⟩ (.inr (by simpa [Value.ownBlock] using nkg))
  have hst := (hrow7.stored (p * 9 + 5) (.slice s7 (x.kids.length + 1) k7)).1
  rw [flat9_set css h3.all9 p 5 (by omega) cs hcs] at hst
  have hpl : p < css.length := (List.getElem?_eq_some_iff.1 hcs).1
  have hpe : p < els.length := (List.getElem?_eq_some_iff.1 hx).1
  have hll : (els.set p { x with kids := x.kids ++ [v] }).length = els.length := by simp
  -- the p-th's own cells
  have hcs5 : (cs.set 5 (.slice s7 (x.kids.length + 1) k7))[5]? = some (.slice s7 (x.kids.length + 1) k7) := by
    have : cs.length = 9 := h3.all9 cs (List.mem_of_getElem? hcs)
    rw [List.getElem?_set]
    simp [this]
  have hother : ∀ j cj gg, j ≠ p → css[j]? = some cj → kidB cj = some gg → ¬ T gg := by
    intro j cj gg hj hcj hg e
    rw [hT] at e
    rcases e with e | rfl
    · exact h3.dis p j cs cj gg (fun e => hj e.symm) hcs hcj (by rw [hkB]; exact e) hg
    · have hjl : j < css.length := (List.getElem?_eq_some_iff.1 hcj).1
      have hje : j < els.length := by rw [← h3.len]; exact hjl
      obtain ⟨s', k', h5, ho⟩ := (h3.el j cj els[j] hcj (List.getElem?_eq_getElem hje)).kid
      have : kidB cj = (Value.slice s' els[j].kids.length k').ownBlock := by unfold kidB; rw [h5]; rfl
      rw [this] at hg
      exact ho.ne hgb (by intro c; simp) hg.symm
  have hnewlt : ∀ j cj gg, j ≠ p → css[j]? = some cj → kidB cj = some gg → (Value.slice s7 (x.kids.length + 1) k7).ownBlock ≠ some gg := by
    intro j cj gg hj hcj hg e
    rcases hloc gg e with h | h
    · exact h3.dis p j cs cj gg (fun e => hj e.symm) hcs hcj (by rw [hkB]; exact h) hg
    · have hjl : j < css.length := (List.getElem?_eq_some_iff.1 hcj).1
      have hje : j < els.length := by rw [← h3.len]; exact hjl
      obtain ⟨s', k', h5, ho⟩ := (h3.el j cj els[j] hcj (List.getElem?_eq_getElem hje)).kid
      have h6 : kidB cj = (Value.slice s' els[j].kids.length k').ownBlock := by unfold kidB; rw [h5]; rfl
      rw [h6] at hg
      have := (ho.lt gg hg).2
      simp at h
      omega
  have n7g := hown.ne (t7.heap h1 (fun e => by
    rw [hT] at e
    rcases e with e | e
    · exact nkt e.symm
    · exact hgt e.symm)) (by intro c; simp)
  obtain ⟨cur7, hg7⟩ : ∃ cur7, w7.heap[g]? = some (.cells cur7 57 (0, 0)) := by
    rcases hrow7.2 with ⟨h, _⟩ | ⟨g', cap, cur, h, _, hg, _⟩
    · cases h
    · cases h; exact ⟨_, hg⟩
  have n7gg := hown.ne hg7 (by intro c; simp)
  refine ⟨⟨⟨some ⟨g, 0, none⟩, c, css.set p (cs.set 5 (.slice s7 (x.kids.length + 1) k7)), by rw [hll]; exact b8, by rw [hll]; exact hst, ⟨by simp [h3.len], ?_, ?_⟩⟩, fr8, ht⟩, b8, fr8, by rw [hT] at t8; exact t8⟩
  · intro j cj xj a b
    by_cases e : p = j
    · subst e
      rw [List.getElem?_set] at a b
      rw [if_pos rfl, if_pos hpl] at a
      rw [if_pos rfl, if_pos hpe] at b
      cases a
      cases b
      obtain ⟨sp', c', q', o', s', k', ecs, e1, e2, e3⟩ := h3.el p cs x hcs hx
      refine ⟨sp', c', q', o', s7, k7, ?_, e1.fr t8 (fun j hj e => ?_), e2.fr t8 (fun j hj e => ?_), ?_⟩
      · rw [ecs]
        simp [elC]
      · obtain ⟨c'', t, z, hk', h9, _⟩ := hTt j e
        exact e1.ne hk' (by intro c3 e'; cases e'; exact h9 rfl) hj.symm
      · obtain ⟨c'', t, z, hk', _, h38⟩ := hTt j e
        exact e2.ne hk' (by intro c3 e'; cases e'; exact h38 rfl) hj.symm
      · have hkl : (x.kids ++ [v]).length = x.kids.length + 1 := by simp
        show OwnsWin _ w.heap.size 3 1 (.slice s7 (x.kids ++ [v]).length k7) (x.kids ++ [v]).length ((x.kids ++ [v]).map (Value.int .i64))
        rw [hkl, List.map_append]
        exact hown.fr ((Fr.refl (fun j => j = g) w7).setCell (p := ⟨g, p * 9 + 5, none⟩) (.inl rfl) _) (fun j hj e => n7gg (by subst e; exact hj.symm))
    · rw [List.getElem?_set, if_neg e] at a b
      exact (h3.el j cj xj a b).keep t8 hTt (fun gg hg => hother j cj gg (fun h => e h.symm) a hg)
  · intro i j ci cj gg hij a b hg
    by_cases ei : p = i
    · subst ei
      rw [List.getElem?_set, if_neg hij] at b
      rw [List.getElem?_set, if_pos rfl, if_pos hpl] at a
      cases a
      have h6 : kidB (cs.set 5 (.slice s7 (x.kids.length + 1) k7)) = (Value.slice s7 (x.kids.length + 1) k7).ownBlock := by unfold kidB; rw [hcs5]; rfl
      rw [h6] at hg
      intro h7
      exact hnewlt j cj gg (fun h => hij h.symm) b h7 hg
    · rw [List.getElem?_set, if_neg ei] at a
      by_cases ej : p = j
      · subst ej
        rw [List.getElem?_set, if_pos rfl, if_pos hpl] at b
        cases b
        have h6 : kidB (cs.set 5 (.slice s7 (x.kids.length + 1) k7)) = (Value.slice s7 (x.kids.length + 1) k7).ownBlock := by unfold kidB; rw [hcs5]; rfl
        rw [h6]
        exact hnewlt i ci gg (fun h => ei h.symm) a hg
      · rw [List.getElem?_set, if_neg ej] at b
        exact h3.dis i j ci cj gg hij a b hg
end Go.Proofs.Ytdbhcogafhhlnaa
