/- Nodes of one's own, written: plain lemmas on memory. -/
import Derived.Test.YtdbhcogafhhlnaaDOrder
import Derived.Test.YtdbhcogafhhlnaaDChainW
namespace Go.Proofs.Ytdbhcogafhhlnaa
open Go.RowKit Go.Maps Go.ChangeShapes Go.WideShapes Go.ChangeAt Go.WideMaps Go.WideElems

/-- A node of one's own: its cells; its two rows. -/
def IsOw (base : Nat) (w : World) (cs : List Value) (d : NodeD) : Prop :=
  ∃ sp c q o, cs = [.int .i64 d.par, .string d.tag, .string d.id, .slice sp d.cls.length c, .slice q d.att.length o] ∧ OwnsWin w base 9 1 (.slice sp d.cls.length c) d.cls.length (d.cls.map Value.string) ∧ OwnsWin w base 38 2 (.slice q d.att.length o) d.att.length (attL d.att)
theorem IsOw.keep {base : Nat} {S : Nat → Prop} {w w' : World} {cs : List Value} {d : NodeD} (h : IsOw base w cs d) (f : Fr S w w') (hS : ∀ k, S k → ∃ c z, w.heap[k]? = some (.cells c 25 z)) : IsOw base w' cs d := by
  obtain ⟨sp, c, q, o, e, h1, h2⟩ := h
  refine ⟨sp, c, q, o, e, h1.fr f (fun j hj e => ?_), h2.fr f (fun j hj e => ?_)⟩
  · obtain ⟨c', z, hk⟩ := hS j e
    exact h1.ne hk (by intro c'' e'; cases e') hj.symm
  · obtain ⟨c', z, hk⟩ := hS j e
    exact h2.ne hk (by intro c'' e'; cases e') hj.symm
/-- The first nodes, copied. -/
structure NOw (base : Nat) (w : World) (css : List (List Value)) (ds : List NodeD) (k : Nat) : Prop where
  len : css.length = k
  el : ∀ (i : Nat) cs d, css[i]? = some cs → ds[i]? = some d → IsOw base w cs d
theorem NOw.keep {base : Nat} {S : Nat → Prop} {w w' : World} {css : List (List Value)} {ds : List NodeD} {k : Nat} (h : NOw base w css ds k) (f : Fr S w w') (hS : ∀ k, S k → ∃ c z, w.heap[k]? = some (.cells c 25 z)) : NOw base w' css ds k :=
  ⟨h.len, fun i cs d a b => (h.el i cs d a b).keep f hS⟩
theorem NOw.snoc {base : Nat} {w : World} {css : List (List Value)} {ds : List NodeD} {k : Nat} {cs : List Value} {d : NodeD} (h : NOw base w css ds k) (hd : ds[k]? = some d) (hc : IsOw base w cs d) : NOw base w (css ++ [cs]) ds (k + 1) := by
  have hl := h.len
  refine ⟨by simp [hl], fun i ci di a b => ?_⟩
  rcases Nat.lt_or_ge i css.length with h1 | h1
  · rw [List.getElem?_append_left h1] at a
    exact h.el i ci di a b
  · rw [List.getElem?_append_right h1] at a
    rcases Nat.eq_zero_or_pos (i - css.length) with e | e
    · rw [e] at a
      simp at a
      have : i = k := by omega
      subst this
      rw [hd] at b
      cases b
      rw [← a]
      exact hc
    · rw [List.getElem?_eq_none (by simp; omega)] at a
      cases a
theorem NOw.grow {base B n : Nat} {w w' : World} {X : Obj} {v : Value} {xs : List Value} {css : List (List Value)} {ds : List NodeD} {k : Nat} (h : NOw base w css ds k) (ho : OwnsWin w B 25 5 v n xs) (hg : (w.alloc X).grownBy w' v.ownBlock) : NOw base w' css ds k :=
  h.keep (((Fr.refl (fun j => v.ownBlock = some j) w).alloc X).grown hg (fun j e => .inl e)) (fun j e => by
    rcases ho.2 with ⟨h, _⟩ | ⟨g, off, cap, cur, h, _, hg, _⟩
    · rw [h] at e; simp [Value.ownBlock] at e
    · rw [h] at e
      simp [Value.ownBlock] at e
      subst e
      exact ⟨_, _, hg⟩)
theorem NOw.five {base : Nat} {w : World} {css : List (List Value)} {ds : List NodeD} (h : NOw base w css ds ds.length) : ∀ cs ∈ css, cs.length = 5 := by
  intro cs hm
  obtain ⟨i, hi, rfl⟩ := List.getElem_of_mem hm
  have hl := h.len
  obtain ⟨_, _, _, _, e, _⟩ := h.el i css[i] (ds[i]'(by omega)) (List.getElem?_eq_getElem hi) (List.getElem?_eq_getElem (by omega))
  rw [e]
  rfl
theorem NOw.rd {base B c : Nat} {w : World} {so : Option Addr} {css : List (List Value)} {ds : List NodeD} (h : NOw base w css ds ds.length) (ho : OwnsWin w B 25 5 (.slice so ds.length c) ds.length css.flatten) (hd : ∀ (k : Nat) d, ds[k]? = some d → d.cls.length * 16 ≤ 140737488351232 ∧ d.att.length * 32 ≤ 140737488351232 ∧ d.tag.size ≤ maxLen ∧ ∀ p ∈ d.att, p.1.size ≤ maxLen) : RdNs w so ds :=
  RdNs.win ho rfl h.len (fun k cs d a b => by
    obtain ⟨sp, c, q, o, e, h1, h2⟩ := h.el k cs d a b
    obtain ⟨d1, d2, d3, d4⟩ := hd k d b
    exact ⟨sp, c, q, o, e, ⟨Src.of_win h1, Src.of_win h2, d1, d2, d3, d4⟩⟩)

/-- Cells that may be written: a row of so many, in a block between B0 and B1. -/
def Shp (w : World) (B0 B1 e m : Nat) (sp : Option Addr) : Prop := ∀ j, j < m → ∃ g off cur, sp = some ⟨g, off, none⟩ ∧ B0 ≤ g ∧ g < B1 ∧ w.heap[g]? = some (.cells cur e (0, 0)) ∧ off + j < cur.size
theorem Shp.set {w : World} {B0 B1 e m : Nat} {sp : Option Addr} (h : Shp w B0 B1 e m sp) (b i : Nat) (v : Value) : Shp (w.setCell ⟨b, i, none⟩ v) B0 B1 e m sp := fun j hj => by
  obtain ⟨g, off, cur, e1, h1, h2, h3, h4⟩ := h j hj
  by_cases hb : g = b
  · subst hb
    exact ⟨g, off, _, e1, h1, h2, heapSet h3 i v, by simpa using h4⟩
  · exact ⟨g, off, cur, e1, h1, h2, (heapSetOther i v hb).trans h3, h4⟩
theorem Shp.of {w : World} {B0 e size n c : Nat} {sp : Option Addr} {xs : List Value} (h : OwnsWin w B0 e size (.slice sp n c) n xs) : Shp w B0 w.heap.size e (n * size) sp := fun j hj => by
  rcases h.2 with ⟨_, h0⟩ | ⟨g, off, cap, cur, hv, hb, hg, h1, h2, h3, h4⟩
  · rw [h0] at hj; omega
  · cases hv
    exact ⟨g, off, cur, rfl, hb, ltOf hg, hg, by have := Nat.mul_le_mul_right size h1; omega⟩
theorem Shp.fr {w w' : World} {B0 B1 e m : Nat} {sp : Option Addr} (h : Shp w B0 B1 e m sp) (f : Fr (fun _ => False) w w') : Shp w' B0 B1 e m sp := fun j hj => by
  obtain ⟨g, off, cur, e1, h1, h2, h3, h4⟩ := h j hj
  exact ⟨g, off, cur, e1, h1, h2, f.heap h3 (by simp), h4⟩
theorem Shp.at {w : World} {B0 B1 e m : Nat} {sp : Option Addr} (h : Shp w B0 B1 e m sp) (j : Nat) (hj : j < m) : ∃ g off cur v, sp = some ⟨g, off, none⟩ ∧ B0 ≤ g ∧ g < B1 ∧ w.heap[g]? = some (.cells cur e (0, 0)) ∧ w.cell? ⟨g, off + j, none⟩ = some v ∧ w.frozen? ⟨g, off + j, none⟩ = false := by
  obtain ⟨g, off, cur, e1, h1, h2, h3, h4⟩ := h j hj
  exact ⟨g, off, cur, _, e1, h1, h2, h3, by rw [cellOf h3, Array.getElem?_eq_getElem h4], frozenOf h3 _⟩

/-- The copied nodes, while they are written: the slices' heads stand; all cells may be written. -/
structure Mu (w : World) (B0 B1 : Nat) (so : Option Addr) (css : List (List Value)) (ds : List NodeD) : Prop where
  hd : ∀ (i : Nat) d, ds[i]? = some d → ∃ g off cur sp c q o, so = some ⟨g, off, none⟩ ∧ B0 ≤ g ∧ g < B1 ∧ w.heap[g]? = some (.cells cur 25 (0, 0)) ∧ off + i * 5 + 4 < cur.size ∧ css[i]? = some [.int .i64 d.par, .string d.tag, .string d.id, .slice sp d.cls.length c, .slice q d.att.length o] ∧
    cur[off + i * 5 + 3]? = some (.slice sp d.cls.length c) ∧ cur[off + i * 5 + 4]? = some (.slice q d.att.length o) ∧ d.cls.length ≤ c ∧ c ≤ maxLen ∧ d.att.length ≤ o ∧ o ≤ maxLen ∧ Shp w B0 B1 9 (d.cls.length * 1) sp ∧ Shp w B0 B1 38 (d.att.length * 2) q
theorem Mu.of {w : World} {B0 c : Nat} {so : Option Addr} {css : List (List Value)} {ds : List NodeD} (h : NOw B0 w css ds ds.length) (ho : OwnsWin w B0 25 5 (.slice so ds.length c) ds.length css.flatten) : Mu w B0 w.heap.size so css ds := ⟨fun i d hd => by
  have hi := (List.getElem?_eq_some_iff.1 hd).1
  have hl := h.len
  obtain ⟨cs, hcs⟩ : ∃ cs, css[i]? = some cs := ⟨css[i], List.getElem?_eq_getElem (by omega)⟩
  obtain ⟨sp, c1, q, o, e, h1, h2⟩ := h.el i cs d hcs hd
  rcases ho.2 with ⟨_, h0⟩ | ⟨g, off, cap, cur, hv, hb, hg, k1, k2, k3, k4⟩
  · omega
  · cases hv
    have a3 := k4 (i * 5 + 3) _ ((flat5 css h.five i 3 (by omega) cs hcs).trans (by rw [e]; rfl))
    have a4 := k4 (i * 5 + 4) _ ((flat5 css h.five i 4 (by omega) cs hcs).trans (by rw [e]; rfl))
    rw [← Nat.add_assoc] at a3 a4
    exact ⟨g, off, cur, sp, c1, q, o, rfl, hb, ltOf hg, hg, (Array.getElem?_eq_some_iff.1 a4).1, by rw [hcs, e], a3, a4, (h1.capLe rfl).1, (h1.capLe rfl).2, (h2.capLe rfl).1, (h2.capLe rfl).2, Shp.of h1, Shp.of h2⟩⟩
theorem Mu.fr {w w' : World} {B0 B1 : Nat} {so : Option Addr} {css : List (List Value)} {ds : List NodeD} (h : Mu w B0 B1 so css ds) (f : Fr (fun _ => False) w w') : Mu w' B0 B1 so css ds := ⟨fun i d hd => by
  obtain ⟨g, off, cur, sp, c, q, o, e, h1, h2, h3, h4, h5, h6, h7, h8, h9, h10, h11, h12, h13⟩ := h.hd i d hd
  exact ⟨g, off, cur, sp, c, q, o, e, h1, h2, f.heap h3 (by simp), h4, h5, h6, h7, h8, h9, h10, h11, h12.fr f, h13.fr f⟩⟩
/-- A store into a row of words or of pairs. -/
theorem Mu.setX {w : World} {B0 B1 : Nat} {so : Option Addr} {css : List (List Value)} {ds : List NodeD} (h : Mu w B0 B1 so css ds) {b e : Nat} {cur' : Array Value} (hb : w.heap[b]? = some (.cells cur' e (0, 0))) (he : e ≠ 25) (j : Nat) (v : Value) : Mu (w.setCell ⟨b, j, none⟩ v) B0 B1 so css ds := ⟨fun i d hd => by
  obtain ⟨g, off, cur, sp, c, q, o, e', h1, h2, h3, h4, h5, h6, h7, h8, h9, h10, h11, h12, h13⟩ := h.hd i d hd
  have hne : g ≠ b := by
    rintro rfl
    rw [h3] at hb
    cases hb
    exact he rfl
  exact ⟨g, off, cur, sp, c, q, o, e', h1, h2, (heapSetOther j v hne).trans h3, h4, h5, h6, h7, h8, h9, h10, h11, h12.set _ _ _, h13.set _ _ _⟩⟩
/-- A store into a node: not into its slices. -/
theorem Mu.setN {w : World} {B0 B1 : Nat} {g off : Nat} {css : List (List Value)} {ds : List NodeD} (h : Mu w B0 B1 (some ⟨g, off, none⟩) css ds) (k t : Nat) (ht : t < 3) (v : Value) : Mu (w.setCell ⟨g, off + k * 5 + t, none⟩ v) B0 B1 (some ⟨g, off, none⟩) css ds := ⟨fun i d hd => by
  obtain ⟨_, _, cur, sp, c, q, o, e', h1, h2, h3, h4, h5, h6, h7, h8, h9, h10, h11, h12, h13⟩ := h.hd i d hd
  cases e'
  refine ⟨g, off, _, sp, c, q, o, rfl, h1, h2, heapSet h3 _ v, by simpa using h4, h5, ?_, ?_, h8, h9, h10, h11, h12.set _ _ _, h13.set _ _ _⟩
  · rw [Array.getElem?_setIfInBounds_ne (by omega)]; exact h6
  · rw [Array.getElem?_setIfInBounds_ne (by omega)]; exact h7⟩

/-- The k-th node's cells, as the walk wants them. -/
theorem Mu.at_ {w : World} {B0 B1 : Nat} {so : Option Addr} {css : List (List Value)} {ds : List NodeD} (h : Mu w B0 B1 so css ds) {i : Nat} {d : NodeD} (hd : ds[i]? = some d) :
    ∃ g off sp c q o v0 v1, so = some ⟨g, off, none⟩ ∧ B0 ≤ g ∧ g < B1 ∧ css[i]? = some [.int .i64 d.par, .string d.tag, .string d.id, .slice sp d.cls.length c, .slice q d.att.length o] ∧ w.cell? ⟨g, off + i * 5, none⟩ = some v0 ∧ w.cell? ⟨g, off + i * 5 + 1, none⟩ = some v1 ∧
      w.cell? ⟨g, off + i * 5 + 3, none⟩ = some (.slice sp d.cls.length c) ∧ w.cell? ⟨g, off + i * 5 + 4, none⟩ = some (.slice q d.att.length o) ∧ (∀ j, w.frozen? ⟨g, j, none⟩ = false) ∧ d.cls.length ≤ c ∧ c ≤ maxLen ∧ d.att.length ≤ o ∧ o ≤ maxLen ∧ Shp w B0 B1 9 (d.cls.length * 1) sp ∧ Shp w B0 B1 38 (d.att.length * 2) q := by
  obtain ⟨g, off, cur, sp, c, q, o, e, h1, h2, h3, h4, h5, h6, h7, h8, h9, h10, h11, h12, h13⟩ := h.hd i d hd
  exact ⟨g, off, sp, c, q, o, _, _, e, h1, h2, h5, by rw [cellOf h3, Array.getElem?_eq_getElem (by omega)], by rw [cellOf h3, Array.getElem?_eq_getElem (by omega)], by rw [cellOf h3]; exact h6, by rw [cellOf h3]; exact h7, fun j => frozenOf h3 j, h8, h9, h10, h11, h12, h13⟩
theorem Mu.set0 {w : World} {B0 B1 : Nat} {g off : Nat} {css : List (List Value)} {ds : List NodeD} (h : Mu w B0 B1 (some ⟨g, off, none⟩) css ds) (k : Nat) (v : Value) : Mu (w.setCell ⟨g, off + k * 5, none⟩ v) B0 B1 (some ⟨g, off, none⟩) css ds := h.setN k 0 (by omega) v

/-- A tree stays where older blocks than its own are written. -/
theorem TS.older {w wa wb w' : World} {tb : Nat} {els : List ElD} {S : Nat → Prop} (h : TS wa wb tb els) (f : Fr S wb w') (hS : ∀ k, S k → k < wa.heap.size) (f0 : Fr (fun _ => False) w w') (hle : w.heap.size ≤ wa.heap.size) : TS w w' tb els := by
  obtain ⟨⟨sp, c, css, h1, h2, h3⟩, hf, ht⟩ := h
  refine ⟨⟨sp, c, css, f.heap h1 (fun e => by have := hS _ e; omega), ownsRow.lower (ownsRow.fr h2 f (fun j hj e => ?_)) hle, ?_⟩, f0, Nat.le_trans hle ht⟩
  · have := hS _ e
    have := ((OwnsWin.of_row h2).lt j hj).1
    omega
  · refine ⟨h3.len, fun k cs x a b => ?_, h3.dis⟩
    obtain ⟨sp, c, q, o, s, kk, e, o1, o2, o3⟩ := h3.el k cs x a b
    exact ⟨sp, c, q, o, s, kk, e, (o1.fr f (fun j hj e => by have := hS _ e; have := (o1.lt j hj).1; omega)).lower hle, (o2.fr f (fun j hj e => by have := hS _ e; have := (o2.lt j hj).1; omega)).lower hle, (o3.fr f (fun j hj e => by have := hS _ e; have := (o3.lt j hj).1; omega)).lower hle⟩
theorem RdI.old {w w' : World} {B : Nat} {S : Nat → Prop} {p : Option Addr} {l : List Int} (h : RdI w p l) (hB : ∀ g off, p = some ⟨g, off, none⟩ → B ≤ g) (f : Fr S w w') (hS : ∀ k, S k → k < B) : RdI w' p l := h.fr f (fun g off e k => by have := hB g off e; have := hS g k; omega)
end Go.Proofs.Ytdbhcogafhhlnaa
