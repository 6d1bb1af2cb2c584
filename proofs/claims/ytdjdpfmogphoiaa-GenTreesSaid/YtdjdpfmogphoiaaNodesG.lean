/- gen.Nodes: the list of nodes that it makes. -/
import Derived.Test.YtdjdpfmogphoiaaNodeW
import Derived.Test.YtdjdpfmogphoiaaPicks
import Derived.Shelf.RegionOpen
namespace Go.Proofs.Ytdjdpfmogphoiaa
open Go.RowKit Go.Shelf

attribute [local go_sem] Oper.semAt_some
attribute [-go_sem] Builtin.append_

/-- A node, as it is read: its five cells. -/
def IsNd (base : Nat) (w : World) (cs : List Value) (d : NodeD) : Prop :=
  ∃ sp c vA, cs = [.int .i64 d.par, .string d.tag, .string d.id, .slice sp d.cls.length c, vA] ∧ w.ownsRow base 9 1 (.slice sp d.cls.length c) d.cls.length (d.cls.map Value.string) ∧ IsAtt base w vA d.att

theorem IsNd.keep {base : Nat} {S : Nat → Prop} {w w' : World} {cs : List Value} {d : NodeD} (h : IsNd base w cs d) (f : Fr S w w') (hS : ∀ k, S k → ∃ c t z, w.heap[k]? = some (.cells c t z) ∧ t ≠ 9 ∧ t ≠ 60) : IsNd base w' cs d := by
  obtain ⟨sp, c, vA, e, h1, h2⟩ := h
  refine ⟨sp, c, vA, e, ownsRow.fr h1 f (fun j hj e => ?_), IsAtt.keep h2 (fun g a t hg => f.heap hg (fun e => ?_))⟩
  · obtain ⟨c', t, z, hk, h9, _⟩ := hS j e
    exact ownsRow.ne h1 hk (by intro c'' e'; cases e'; exact h9 rfl) hj.symm
  · obtain ⟨c', t', z, hk, _, h60⟩ := hS g e
    rw [hg] at hk
    cases hk
    exact h60 rfl

/-- Cells that read as nodes. -/
def NL (base : Nat) (w : World) (xs : List Value) (ds : List NodeD) : Prop :=
  ∃ css : List (List Value), xs = css.flatten ∧ css.length = ds.length ∧ ∀ (k : Nat) cs d, css[k]? = some cs → ds[k]? = some d → IsNd base w cs d

theorem NL.nil (base : Nat) (w : World) : NL base w [] [] := ⟨[], rfl, rfl, fun k cs d h => by simp at h⟩
theorem NL.keep {base : Nat} {S : Nat → Prop} {w w' : World} {xs : List Value} {ds : List NodeD} (h : NL base w xs ds) (f : Fr S w w') (hS : ∀ k, S k → ∃ c t z, w.heap[k]? = some (.cells c t z) ∧ t ≠ 9 ∧ t ≠ 60) : NL base w' xs ds := by
  obtain ⟨css, h1, h2, h3⟩ := h
  exact ⟨css, h1, h2, fun k cs d a b => (h3 k cs d a b).keep f hS⟩
theorem NL.snoc {base : Nat} {w : World} {xs cs : List Value} {ds : List NodeD} {d : NodeD} (h : NL base w xs ds) (hd : IsNd base w cs d) : NL base w (xs ++ cs) (ds ++ [d]) := by
  obtain ⟨css, h1, h2, h3⟩ := h
  refine ⟨css ++ [cs], by simp [h1], by simp [h2], fun k cs' d' a b => ?_⟩
  rcases Nat.lt_or_ge k css.length with hk | hk
  · rw [List.getElem?_append_left hk] at a
    rw [List.getElem?_append_left (by omega)] at b
    exact h3 k cs' d' a b
  · rw [List.getElem?_append_right hk] at a
    rw [List.getElem?_append_right (by omega)] at b
    rw [← h2] at b
    rcases Nat.eq_zero_or_pos (k - css.length) with e | e
    · rw [e] at a b
      simp at a b
      rw [← a, ← b]
      exact hd
    · rw [List.getElem?_eq_none (by simp; omega)] at a
      cases a

theorem flat5 (css : List (List Value)) (hl : ∀ cs ∈ css, cs.length = 5) (k j : Nat) (hj : j < 5) (cs : List Value) (hk : css[k]? = some cs) : css.flatten[k * 5 + j]? = cs[j]? := by
  induction css generalizing k with
  | nil => simp at hk
  | cons a r ih =>
    have ha : a.length = 5 := hl a (by simp)
    cases k with
    | zero =>
      simp at hk
      subst hk
      rw [List.flatten_cons, List.getElem?_append_left (by omega)]
      simp
    | succ k =>
      rw [List.flatten_cons, List.getElem?_append_right (by omega), show (k + 1) * 5 + j - a.length = k * 5 + j by omega]
      exact ih (fun cs h => hl cs (by simp [h])) k (by simpa using hk)

theorem NL.at {base : Nat} {w : World} {xs : List Value} {ds : List NodeD} (h : NL base w xs ds) (k : Nat) (hk : k < ds.length) : ∃ cs, IsNd base w cs ds[k] ∧ ∀ j, j < 5 → xs[k * 5 + j]? = cs[j]? := by
  obtain ⟨css, rfl, h2, h3⟩ := h
  have hk2 : k < css.length := by omega
  refine ⟨css[k], h3 k _ _ (by simp [hk2]) (by simp [hk]), fun j hj => flat5 css (fun cs hc => ?_) k j hj _ (by simp [hk2])⟩
  obtain ⟨i, hi, rfl⟩ := List.getElem_of_mem hc
  obtain ⟨sp, c, vA, e, _⟩ := h3 i css[i] (ds[i]'(by omega)) (by simp [hi]) (by simp)
  rw [e]
  rfl

/-- What has come makes these nodes, and leaves this state. -/
def gRun (s : Int) (l : List Nat) : List NodeD × Int := l.foldl (fun p i => (p.1 ++ [gNode p.2 i], gSt p.2 i)) ([], s)
theorem gRun_snoc (s : Int) (l : List Nat) (i : Nat) : gRun s (l ++ [i]) = ((gRun s l).1 ++ [gNode (gRun s l).2 i], gSt (gRun s l).2 i) := by
  unfold gRun
  rw [List.foldl_append]
  rfl
theorem gRun_len (s : Int) (l : List Nat) : (gRun s l).1.length = l.length := by
  rcases List.eq_nil_or_concat l with h | ⟨l', a, h⟩
  · subst h; rfl
  · rw [h, List.concat_eq_append, gRun_snoc]
    have := gRun_len s l'
    simp [this]
termination_by l.length
decreasing_by simp [h]

abbrev Nid := { k : Nat // k ≤ 4096 }

/-- Between two rounds. -/
structure PN (w : World) (s : Int) (pre : List Nid) (W : World) : Prop where
  lot : IsLot 49 W w.heap.size (gRun s (pre.map (·.1))).2
  box : Boxed W (w.heap.size + 1) 24 (.pointer (some ⟨w.heap.size, 0, none⟩))
  out : ∃ sp c xs, Boxed W (w.heap.size + 2) 30 (.slice sp pre.length c) ∧ W.ownsRow w.heap.size 47 5 (.slice sp pre.length c) pre.length xs ∧ NL w.heap.size W xs (gRun s (pre.map (·.1))).1
  below : Below w.heap.size w W
  big : w.heap.size + 3 < W.heap.size
  num : ∃ N, Boxed W (w.heap.size + 3) 3 (.int .i64 N)

theorem NL.kept {A B : World} {row : Option Nat} {C base : Nat} {xs : List Value} {ds : List NodeD} (h : NL base A xs ds) (hg : A.grownBy B row) (hr : ∀ r, row = some r → C ≤ r ∧ ∃ o : Obj, A.heap[r]? = some o ∧ o.isCells = false) : NL base B xs ds := by
  obtain ⟨css, h1, h2, h3⟩ := h
  refine ⟨css, h1, h2, fun k cs d a b => ?_⟩
  obtain ⟨sp, c, vA, e, r1, r2⟩ := h3 k cs d a b
  exact ⟨sp, c, vA, e, rowKept r1 hg hr, IsAtt.keep r2 (fun g a t hh => heapKept hh hg hr)⟩

theorem PN.own (w : World) (s : Int) (C : Nat) (hC : w.heap.size ≤ C) : OwnFrom C (PN w s) := by
  intro p A B row h hg hr
  obtain ⟨h1, h3, ⟨sp, c, xs, h4, h5, h5a⟩, h6, hbg, N, h8⟩ := h
  exact ⟨heapKept h1 hg hr, heapKept h3 hg hr, ⟨sp, c, xs, heapKept h4 hg hr, rowKept h5 hg hr, h5a.kept hg hr⟩, h6.grown hg h6.size (fun k e => by have := (hr k e).1; omega), Nat.lt_of_lt_of_le hbg hg.size, N, heapKept h8 hg hr⟩
end Go.Proofs.Ytdjdpfmogphoiaa
