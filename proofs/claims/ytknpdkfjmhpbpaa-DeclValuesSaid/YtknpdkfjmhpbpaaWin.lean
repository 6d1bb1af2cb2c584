/- A slice that is a window of a block: append and deletion keep it one. No condition. -/
import Derived.Test.YtknpdkfjmhpbpaaBase
import Derived.ArgAppend
import Derived.OwnWalk
import Derived.Maps.AppendAt
import Derived.RegionTactic
namespace Go.Proofs.Ytknpdkfjmhpbpaa
open Go.RowKit Go.Maps Go.ChangeShapes Go.WideShapes Go.ChangeAt Go.WideMaps Go.WideElems

theorem setCells_heap (b : Nat) : ∀ (vs : List Value) (o : Nat) (w : World) (c : Array Value) (t : TypeId) (fz : Nat × Nat), w.heap[b]? = some (.cells c t fz) →
    ∃ c' : Array Value, (w.setCells b o vs).heap[b]? = some (.cells c' t fz) ∧ c'.size = c.size ∧ ∀ i, c'[i]? = if o ≤ i ∧ i < o + vs.length ∧ i < c.size then vs[i - o]? else c[i]? := by
  intro vs
  induction vs with
  | nil => intro o w c t fz h; exact ⟨c, h, rfl, fun i => by rw [if_neg (by simp; omega)]⟩
  | cons v r ih =>
    intro o w c t fz h
    have h1 := heapSet h o v
    obtain ⟨c', h2, h3, h4⟩ := ih (o + 1) _ _ t fz h1
    refine ⟨c', h2, by simpa using h3, fun i => ?_⟩
    rw [h4 i]
    simp only [Array.size_setIfInBounds, List.length_cons]
    by_cases e : i = o
    · subst e
      rw [if_neg (by omega)]
      by_cases hl : i < c.size
      · rw [if_pos (by omega), Array.getElem?_setIfInBounds]
        simp [hl]
      · rw [if_neg (by omega)]
        rw [Array.getElem?_eq_none (by simp; omega), Array.getElem?_eq_none (by omega)]
    · by_cases hc : o + 1 ≤ i ∧ i < o + 1 + r.length ∧ i < c.size
      · rw [if_pos hc, if_pos (by omega), show i - o = (i - (o + 1)) + 1 by omega]
        simp
      · rw [if_neg hc, if_neg (by omega), Array.getElem?_setIfInBounds]
        simp [Ne.symm e]

theorem setCells_frame (b : Nat) : ∀ (vs : List Value) (o : Nat) (w : World), w.grownBy (w.setCells b o vs) (some b) ∧ (w.setCells b o vs).heap.size = w.heap.size := by
  intro vs
  induction vs with
  | nil => intro o w; exact ⟨⟨rfl, rfl, rfl, Nat.le_refl _, fun _ _ _ => rfl⟩, rfl⟩
  | cons v r ih =>
    intro o w
    obtain ⟨⟨h1, h2, h3, h4, h5⟩, h6⟩ := ih (o + 1) (w.setCell ⟨b, o, none⟩ v)
    have hs : (w.setCell ⟨b, o, none⟩ v).heap.size = w.heap.size := by simp [World.setCell]
    refine ⟨⟨h1, h2, h3, by rw [← hs]; exact h4, fun k hk hn => (h5 k (by rw [hs]; exact hk) hn).trans (heapSetOther o v (fun e => hn (by rw [e])))⟩, h6.trans hs⟩

/-- v is a window of a block from base on: its cells are xs; behind it spare ones. -/
def OwnsWin (w : World) (base : Nat) (e : TypeId) (size : Nat) (v : Value) (n : Nat) (xs : List Value) : Prop :=
  xs.length = n * size ∧ ((v = .slice none 0 0 ∧ n = 0) ∨
    ∃ g off cap cur, v = .slice (some ⟨g, off, none⟩) n cap ∧ base ≤ g ∧ w.heap[g]? = some (.cells cur e (0, 0)) ∧ n ≤ cap ∧ cap ≤ maxLen ∧ off + cap * size ≤ cur.size ∧
      ∀ (j : Nat) u, xs[j]? = some u → cur[off + j]? = some u)

theorem OwnsWin.nil (w : World) (base : Nat) (e : TypeId) (size : Nat) : OwnsWin w base e size (.slice none 0 0) 0 [] := ⟨by simp, .inl ⟨rfl, rfl⟩⟩

theorem OwnsWin.of_row {w : World} {base : Nat} {e : TypeId} {size : Nat} {v : Value} {n : Nat} {xs : List Value} (h : w.ownsRow base e size v n xs) : OwnsWin w base e size v n xs := by
  refine ⟨h.1, ?_⟩
  rcases h.2 with hn | ⟨g, cap, cur, rfl, hb, hg, h1, h2, h3, h4⟩
  · exact .inl hn
  · refine .inr ⟨g, 0, cap, cur, rfl, hb, hg, h1, h2, by omega, fun j u hj => ?_⟩
    rw [← h4, List.getElem?_take] at hj
    split at hj
    · rw [Nat.zero_add, ← Array.getElem?_toList]; exact hj
    · cases hj

section
variable {w w' : World} {base : Nat} {e : TypeId} {size : Nat} {v : Value} {n : Nat} {xs : List Value}

theorem OwnsWin.lower {base' : Nat} (h : OwnsWin w base' e size v n xs) (hb : base ≤ base') : OwnsWin w base e size v n xs := by
  refine ⟨h.1, ?_⟩
  rcases h.2 with hn | ⟨g, off, cap, cur, h1, h2, rest⟩
  · exact .inl hn
  · exact .inr ⟨g, off, cap, cur, h1, Nat.le_trans hb h2, rest⟩

theorem OwnsWin.fr {S : Nat → Prop} (h : OwnsWin w base e size v n xs) (f : Fr S w w') (hn : ∀ k, v.ownBlock = some k → ¬ S k) : OwnsWin w' base e size v n xs := by
  refine ⟨h.1, ?_⟩
  rcases h.2 with hz | ⟨g, off, cap, cur, rfl, hb, hgg, rest⟩
  · exact .inl hz
  · exact .inr ⟨g, off, cap, cur, rfl, hb, f.heap hgg (hn g (by simp [Value.ownBlock])), rest⟩

theorem OwnsWin.shape (h : OwnsWin w base e size v n xs) : ∃ sp sc, v = .slice sp n sc := by
  rcases h.2 with ⟨rfl, rfl⟩ | ⟨g, off, cap, cur, rfl, _⟩
  · exact ⟨_, _, rfl⟩
  · exact ⟨_, _, rfl⟩

theorem OwnsWin.lt (h : OwnsWin w base e size v n xs) : ∀ k, v.ownBlock = some k → base ≤ k ∧ k < w.heap.size := by
  intro k hk
  rcases h.2 with ⟨rfl, _⟩ | ⟨g, off, cap, cur, rfl, hb, hg, _⟩
  · simp [Value.ownBlock] at hk
  · simp [Value.ownBlock] at hk
    subst hk
    exact ⟨hb, ltOf hg⟩

theorem OwnsWin.ne (h : OwnsWin w base e size v n xs) {b : Nat} {o : Obj} (hb : w.heap[b]? = some o) (ho : ∀ c, o ≠ .cells c e (0, 0)) : some b ≠ v.ownBlock := by
  intro e1
  rcases h.2 with ⟨rfl, _⟩ | ⟨g, off, cap, cur, rfl, _, hg, _⟩
  · simp [Value.ownBlock] at e1
  · simp [Value.ownBlock] at e1
    subst e1
    rw [hb] at hg
    cases hg
    exact ho _ rfl

/-- The cells of a window that is not empty. -/
theorem OwnsWin.cells (h : OwnsWin w base e size v n xs) (hn : 0 < n) : ∃ g off cap, v = .slice (some ⟨g, off, none⟩) n cap ∧ n ≤ cap ∧ cap ≤ maxLen ∧ g < w.heap.size ∧ base ≤ g ∧
    (∀ (j : Nat) u, xs[j]? = some u → w.cell? ⟨g, off + j, none⟩ = some u) ∧ ∀ i, w.frozen? ⟨g, i, none⟩ = false := by
  rcases h.2 with ⟨_, h0⟩ | ⟨g, off, cap, cur, rfl, hb, hg, h1, h2, h3, h4⟩
  · omega
  · exact ⟨g, off, cap, rfl, h1, h2, ltOf hg, hb, fun j u hj => by rw [cellOf hg]; exact h4 j u hj, fun i => frozenOf hg i⟩

theorem OwnsWin.capLe (h : OwnsWin w base e size v n xs) {sp : Option Addr} {sc : Nat} (hv : v = .slice sp n sc) : n ≤ sc ∧ sc ≤ maxLen := by
  rcases h.2 with ⟨rfl, rfl⟩ | ⟨g, off, cap, cur, rfl, _, _, h1, h2, _⟩
  · cases hv; exact ⟨Nat.le_refl _, Nat.zero_le _⟩
  · cases hv; exact ⟨h1, h2⟩

/-- The first k of a window. -/
theorem OwnsWin.take {sp : Option Addr} {sc : Nat} (h : OwnsWin w base e size (.slice sp n sc) n xs) (k : Nat) (hk : k ≤ n) : OwnsWin w base e size (.slice sp k sc) k (xs.take (k * size)) := by
  have hl : (xs.take (k * size)).length = k * size := by
    rw [List.length_take, h.1]
    exact Nat.min_eq_left (Nat.mul_le_mul_right _ hk)
  refine ⟨hl, ?_⟩
  rcases h.2 with ⟨hv, h0⟩ | ⟨g, off, cap, cur, hv, hb, hg, h1, h2, h3, h4⟩
  · cases hv
    exact .inl ⟨by rw [show k = 0 by omega], by omega⟩
  · cases hv
    refine .inr ⟨g, off, sc, cur, rfl, hb, hg, by omega, h2, h3, fun j u hj => h4 j u ?_⟩
    rw [List.getElem?_take] at hj
    split at hj
    · exact hj
    · cases hj

/-- All of a window but its first k; a window with room behind them. -/
theorem OwnsWin.drop {g off cap : Nat} (h : OwnsWin w base e size (.slice (some ⟨g, off, none⟩) n cap) n xs) (k : Nat) (hk : k ≤ n) : OwnsWin w base e size (.slice (some ⟨g, off + k * size, none⟩) (n - k) (cap - k)) (n - k) (xs.drop (k * size)) := by
  have hl : (xs.drop (k * size)).length = (n - k) * size := by rw [List.length_drop, h.1, Nat.sub_mul]
  refine ⟨hl, ?_⟩
  rcases h.2 with ⟨hv, h0⟩ | ⟨g', off', cap', cur, hv, hb, hg, h1, h2, h3, h4⟩
  · cases hv
  · cases hv
    refine .inr ⟨g, off + k * size, cap - k, cur, rfl, hb, hg, by omega, by omega, ?_, fun j u hj => ?_⟩
    · rw [Nat.sub_mul]
      have := Nat.mul_le_mul_right size (show k ≤ cap by omega)
      omega
    · rw [List.getElem?_drop] at hj
      rw [show off + k * size + j = off + (k * size + j) by omega]
      exact h4 _ u hj

/-- .. none is left: at the old address. -/
theorem OwnsWin.dropAll {g off cap : Nat} (h : OwnsWin w base e size (.slice (some ⟨g, off, none⟩) n cap) n xs) : OwnsWin w base e size (.slice (some ⟨g, off, none⟩) 0 0) 0 [] := by
  refine ⟨by simp, ?_⟩
  rcases h.2 with ⟨hv, h0⟩ | ⟨g', off', cap', cur, hv, hb, hg, h1, h2, h3, h4⟩
  · cases hv
  · cases hv
    exact .inr ⟨g, off, 0, cur, rfl, hb, hg, Nat.le_refl _, Nat.zero_le _, by omega, fun j u hj => by simp at hj⟩
end

/-- Append onto a window, of cells that lie wherever. -/
theorem run_append_win {P : Program} (w : World) (base : Nat) (t ty e : TypeId) (i : TypeInfo) (z : Value) (size bytes : Nat) (ht : P.underlying t = some (.slice e)) (hi : P.info? e = some i) (hz : i.zero = some z)
    (hsize : i.size = size) (hby : i.bytes = bytes) (hzs : z.cells.size = size) (hsz : 0 < size)
    (v : Value) (n : Nat) (xs : List Value) (hown : OwnsWin w base e size v n xs)
    (a : Addr) (m c : Nat) (news : List Value) (hl : news.length = m * size) (hnews : ∀ j u, news[j]? = some u → w.cell? (a.add j) = some u) (h1 : ∀ u ∈ news, u.oneCell' = true)
    (h63 : n + m ≤ maxLen) (hbytes : (n + m) * bytes ≤ 140737488355328) (hbase : base ≤ w.heap.size) :
    ∃ sp sc w', (Builtin.append_ #[t, t] ty #[v, .slice (some a) m c]).run P w = .ok (.slice sp (n + m) sc) w' ∧ OwnsWin w' base e size (.slice sp (n + m) sc) (n + m) (xs ++ news) ∧ w.grownBy w' v.ownBlock ∧
      ∀ k, (Value.slice sp (n + m) sc).ownBlock = some k → v.ownBlock = some k ∨ w.heap.size ≤ k := by
  rcases hown.2 with ⟨rfl, rfl⟩ | ⟨g, off, cap, cur, rfl, hb, hg, hnc, hcm, hcs, hx⟩
  · have hx : xs = [] := List.eq_nil_of_length_eq_zero (by simpa using hown.1)
    subst hx
    obtain ⟨v', w', r1, r2, r3, _, r5⟩ := run_append_own_at (P := P) w base t ty e i z size bytes ht hi hz hsize hby hzs hsz _ 0 [] (World.ownsRow_nil _ _ _ _) a m c news hl hnews h1 h63 hbytes hbase
    obtain ⟨sp, sc, rfl⟩ := ownsRow.shape r2
    exact ⟨sp, sc, w', r1, OwnsWin.of_row r2, r3, fun k hk => by
      rcases r5 with r5 | r5
      · exact .inl (by rw [← r5]; exact hk)
      · rw [r5] at hk; cases hk; exact .inr (Nat.le_refl _)⟩
  · by_cases hroom : n + m ≤ cap
    · subst hsize
      have hfit : off + n * i.size + news.length ≤ cur.size := by
        have := Nat.mul_le_mul_right i.size hroom
        rw [Nat.add_mul] at this
        omega
      have hr := run_append_room_cells (P := P) w t ty e i ht hi g off n cap a m c news hl hnews h1 hroom (fun j hj => by rw [cellOf hg, Array.getElem?_eq_getElem (by omega)]; rfl) (fun j hj => frozenOf hg _)
      obtain ⟨cur', k1, k2, k3⟩ := setCells_heap g news (off + n * i.size) w cur e (0, 0) hg
      have hlen : (xs ++ news).length = (n + m) * i.size := by rw [List.length_append, hown.1, hl, Nat.add_mul]
      refine ⟨_, _, _, hr, ⟨hlen, .inr ⟨g, off, cap, cur', rfl, hb, k1, hroom, hcm, by omega, fun j u hj => ?_⟩⟩, (setCells_frame g news _ w).1, fun k hk => .inl hk⟩
      rw [k3]
      have hxl := hown.1
      rcases Nat.lt_or_ge j xs.length with hj1 | hj1
      · rw [if_neg (by omega)]
        rw [List.getElem?_append_left hj1] at hj
        exact hx j u hj
      · have hj2 : j - xs.length < news.length := by
          rw [List.getElem?_append_right hj1] at hj
          exact (List.getElem?_eq_some_iff.1 hj).1
        rw [if_pos (by omega), show off + j - (off + n * i.size) = j - xs.length by omega]
        rw [List.getElem?_append_right hj1] at hj
        exact hj
    · obtain ⟨v', w', r1, r2, r3⟩ := run_append_arg_grows (P := P) w t ty e i z size bytes ht hi hz hsize hby hzs hsz ⟨g, off, none⟩ n cap xs hown.1 (fun j u hj => by rw [addOf _ _ rfl, cellOf hg]; exact hx j u hj) a m c news hl hnews (by omega) h63 hbytes
      obtain ⟨sp, sc, rfl⟩ := ownsRow.shape r2
      refine ⟨sp, sc, w', r1, (OwnsWin.of_row r2).lower hbase, ⟨r3.os, r3.tape, r3.output, r3.size, fun k hk _ => r3.block k hk (by simp)⟩, fun k hk => .inr (r2.lt k hk).1⟩


/-- Cells that are to be appended: a slice, nil or not, that reads as these. -/
def SrcW (w : World) (size : Nat) (A : Option Addr) (m : Nat) (news : List Value) : Prop :=
  news.length = m * size ∧ (A = none → m = 0) ∧ ∀ ad, A = some ad → ∀ (j : Nat) u, news[j]? = some u → w.cell? (ad.add j) = some u

theorem SrcW.of_win {w : World} {base : Nat} {e : TypeId} {size : Nat} {sp : Option Addr} {sc n : Nat} {xs : List Value} (h : OwnsWin w base e size (.slice sp n sc) n xs) : SrcW w size sp n xs := by
  refine ⟨h.1, fun e => ?_, fun ad e j u hj => ?_⟩
  · rcases h.2 with ⟨_, h0⟩ | ⟨g, off, cap, cur, hv, _⟩
    · exact h0
    · subst e; cases hv
  · rcases h.2 with ⟨hv, h0⟩ | ⟨g, off, cap, cur, hv, hb, hg, _, _, _, h4⟩
    · subst e; cases hv
    · subst e
      cases hv
      rw [addOf _ _ rfl, cellOf hg]
      exact h4 j u hj

theorem SrcW.one {w : World} {b : Nat} {l : List Value} {T : TypeId} {fz : Nat × Nat} {size : Nat} (h : w.heap[b]? = some (.cells l.toArray T fz)) (hl : l.length = size) : SrcW w size (some ⟨b, 0, none⟩) 1 l := by
  refine ⟨by omega, (by intro e; cases e), fun ad e j u hj => ?_⟩
  cases e
  rw [addOf _ _ rfl, cellOf h]
  simpa using hj

/-- The end of a window as a source, whatever its capacity. -/
theorem SrcW.cut {w : World} {base : Nat} {e : TypeId} {size : Nat} {sp : Option Addr} {sc n : Nat} {xs : List Value} (h : OwnsWin w base e size (.slice sp n sc) n xs) (k : Nat) (hk : k ≤ n) :
    SrcW w size (if sc = k then sp else sp.map (·.add (k * size))) (n - k) (xs.drop (k * size)) := by
  have hl : (xs.drop (k * size)).length = (n - k) * size := by rw [List.length_drop, h.1, Nat.sub_mul]
  rcases h.2 with ⟨hv, h0⟩ | ⟨g, off, cap, cur, hv, hb, hg, h1, _, _, h4⟩
  · cases hv
    obtain rfl : k = 0 := by omega
    refine ⟨hl, fun _ => rfl, fun ad e => ?_⟩
    simp at e
  · cases hv
    by_cases e : sc = k
    · rw [if_pos e]
      refine ⟨hl, (by intro e; cases e), fun ad e2 j u hj => ?_⟩
      have hz : n - k = 0 := by omega
      rw [hz, Nat.zero_mul] at hl
      rw [List.eq_nil_of_length_eq_zero hl] at hj
      simp at hj
    · rw [if_neg e]
      refine ⟨hl, (by intro e; cases e), fun ad e2 j u hj => ?_⟩
      have e3 : ad = ⟨g, off + k * size, none⟩ := by
        have h9 := Option.some.inj e2
        simp only at h9
        rw [← h9]
        exact addOf _ _ rfl
      subst e3
      rw [addOf _ _ rfl, cellOf hg]
      rw [List.getElem?_drop] at hj
      rw [show off + k * size + j = off + (k * size + j) by omega]
      exact h4 _ u hj

theorem run_append_win_none {P : Program} (w : World) (base : Nat) (t ty e : TypeId) (i : TypeInfo) (size : Nat) (ht : P.underlying t = some (.slice e)) (hi : P.info? e = some i)
    (v : Value) (n : Nat) (xs : List Value) (hown : OwnsWin w base e size v n xs) (c : Nat) : (Builtin.append_ #[t, t] ty #[v, .slice none 0 c]).run P w = .ok v w := by
  rcases hown.2 with ⟨rfl, rfl⟩ | ⟨g, off, cap, cur, rfl, _, _, hnc, _⟩
  · simp [Builtin.append_, run_underlying ht, sizeOf, typeInfo, hi, Builtin.lenOf, Builtin.firstCells]
  · simp [Builtin.append_, run_underlying ht, sizeOf, typeInfo, hi, Builtin.lenOf, Builtin.firstCells, hnc, storeCells]

theorem run_append_src {P : Program} (w : World) (base : Nat) (t ty e : TypeId) (i : TypeInfo) (z : Value) (size bytes : Nat) (ht : P.underlying t = some (.slice e)) (hi : P.info? e = some i) (hz : i.zero = some z)
    (hsize : i.size = size) (hby : i.bytes = bytes) (hzs : z.cells.size = size) (hsz : 0 < size)
    (v : Value) (n : Nat) (xs : List Value) (hown : OwnsWin w base e size v n xs)
    (A : Option Addr) (m c : Nat) (news : List Value) (hsrc : SrcW w size A m news) (h1 : ∀ u ∈ news, u.oneCell' = true)
    (h63 : n + m ≤ maxLen) (hbytes : (n + m) * bytes ≤ 140737488355328) (hbase : base ≤ w.heap.size) :
    ∃ sp sc w', (Builtin.append_ #[t, t] ty #[v, .slice A m c]).run P w = .ok (.slice sp (n + m) sc) w' ∧ OwnsWin w' base e size (.slice sp (n + m) sc) (n + m) (xs ++ news) ∧ w.grownBy w' v.ownBlock ∧
      ∀ k, (Value.slice sp (n + m) sc).ownBlock = some k → v.ownBlock = some k ∨ w.heap.size ≤ k := by
  obtain ⟨hl, hnone, hsome⟩ := hsrc
  rcases A with _ | a
  · obtain rfl := hnone rfl
    have hn : news = [] := List.eq_nil_of_length_eq_zero (by simpa using hl)
    subst hn
    obtain ⟨sp, sc, rfl⟩ := hown.shape
    exact ⟨sp, sc, w, run_append_win_none w base t ty e i size ht hi _ n xs hown c, by simpa using hown, World.grownBy.refl w _, fun k hk => .inl hk⟩
  · exact run_append_win w base t ty e i z size bytes ht hi hz hsize hby hzs hsz v n xs hown a m c news hl (hsome a rfl) h1 h63 hbytes hbase

theorem wp_append_src {P : Program} {w : World} {o : Oper} {a : Act} {K : Act → World → Prop} {Q : Exit → Act → World → Prop} (s x : Operand) (t : TypeId)
    (ho : o.op = .call { callee := .builtin .append, args := #[s, x], argTypes := #[t, t] })
    (base : Nat) (e : TypeId) (i : TypeInfo) (z : Value) (size bytes : Nat) (ht : P.underlying t = some (.slice e)) (hi : P.info? e = some i) (hz : i.zero = some z)
    (hsize : i.size = size) (hby : i.bytes = bytes) (hzs : z.cells.size = size) (hsz : 0 < size)
    (v : Value) (n : Nat) (xs : List Value) (hs : a.eval s = v) (hown : OwnsWin w base e size v n xs)
    (A : Option Addr) (m c : Nat) (news : List Value) (hx : a.eval x = .slice A m c) (hsrc : SrcW w size A m news) (h1 : ∀ u ∈ news, u.oneCell' = true)
    (h63 : n + m ≤ maxLen) (hbytes : (n + m) * bytes ≤ 140737488355328) (hbase : base ≤ w.heap.size)
    (h : ∀ sp sc w', OwnsWin w' base e size (.slice sp (n + m) sc) (n + m) (xs ++ news) → w.grownBy w' v.ownBlock → (∀ k, (Value.slice sp (n + m) sc).ownBlock = some k → v.ownBlock = some k ∨ w.heap.size ≤ k) → K (a.put o.dst (.slice sp (n + m) sc)) w') : o.wp P a w K Q := by
  obtain ⟨sp, sc, w', hr, h2, h3, h5⟩ := run_append_src (P := P) w base t o.type e i z size bytes ht hi hz hsize hby hzs hsz v n xs hown A m c news hsrc h1 h63 hbytes hbase
  unfold Oper.wp execOp
  simp only [ho, resolve, invoke, builtin, Sem.run_bind, Sem.run_pure, Result.andThen_ok, List.map_toArray, List.map_cons, List.map_nil, hs, hx, hr]
  exact h _ _ _ h2 h3 h5

theorem wpList_append_src {P : Program} (w : World) {ops : Array Oper} {rest : List Oper} {o : Oper} {a : Act} {Q : Exit → Act → World → Prop} (hgd : o.guard = none) (s x : Operand) (t : TypeId)
    (ho : o.op = .call { callee := .builtin .append, args := #[s, x], argTypes := #[t, t] })
    (base : Nat) (e : TypeId) (i : TypeInfo) (z : Value) (size bytes : Nat) (ht : P.underlying t = some (.slice e)) (hi : P.info? e = some i) (hz : i.zero = some z)
    (hsize : i.size = size) (hby : i.bytes = bytes) (hzs : z.cells.size = size) (hsz : 0 < size)
    (v : Value) (n : Nat) (xs : List Value) (hs : a.eval s = v) (hown : OwnsWin w base e size v n xs)
    (A : Option Addr) (m c : Nat) (news : List Value) (hx : a.eval x = .slice A m c) (hsrc : SrcW w size A m news) (h1 : ∀ u ∈ news, u.oneCell' = true)
    (h63 : n + m ≤ maxLen) (hbytes : (n + m) * bytes ≤ 140737488355328) (hbase : base ≤ w.heap.size)
    (h : ∀ sp sc w', OwnsWin w' base e size (.slice sp (n + m) sc) (n + m) (xs ++ news) → w.grownBy w' v.ownBlock → (∀ k, (Value.slice sp (n + m) sc).ownBlock = some k → v.ownBlock = some k ∨ w.heap.size ≤ k) → wpList P ops Q rest (a.put o.dst (.slice sp (n + m) sc)) w') : wpList P ops Q (o :: rest) a w :=
  wpList_plain hgd fun _ hK => wp_append_src s x t ho base e i z size bytes ht hi hz hsize hby hzs hsz v n xs hs hown A m c news hx hsrc h1 h63 hbytes hbase fun sp sc w' h2 h3 h4 => hK _ _ (h sp sc w' h2 h3 h4)

theorem step_append_src {P : Program} {ops : Array Oper} {o : Oper} {a : Act} {w : World} {K : Act → World → Prop} {Q : Exit → Act → World → Prop} {E : Prop}
    (hgd : o.guard = none) (s x : Operand) (t : TypeId)
    (ho : o.op = .call { callee := .builtin .append, args := #[s, x], argTypes := #[t, t] })
    (base : Nat) (e : TypeId) (i : TypeInfo) (z : Value) (size bytes : Nat) (ht : P.underlying t = some (.slice e)) (hi : P.info? e = some i) (hz : i.zero = some z)
    (hsize : i.size = size) (hby : i.bytes = bytes) (hzs : z.cells.size = size) (hsz : 0 < size)
    (v : Value) (n : Nat) (xs : List Value) (hs : a.eval s = v) (hown : OwnsWin w base e size v n xs)
    (A : Option Addr) (m c : Nat) (news : List Value) (hx : a.eval x = .slice A m c) (hsrc : SrcW w size A m news) (h1 : ∀ u ∈ news, u.oneCell' = true)
    (h63 : n + m ≤ maxLen) (hbytes : (n + m) * bytes ≤ 140737488355328) (hbase : base ≤ w.heap.size)
    (h : ∀ sp sc w', OwnsWin w' base e size (.slice sp (n + m) sc) (n + m) (xs ++ news) → w.grownBy w' v.ownBlock → (∀ k, (Value.slice sp (n + m) sc).ownBlock = some k → v.ownBlock = some k ∨ w.heap.size ≤ k) → K (a.put o.dst (.slice sp (n + m) sc)) w') :
    if Region.wanted o (yielded ops a.tmps) = true then Oper.wp P o a w K Q else E := by
  have hw : Region.wanted o (yielded ops a.tmps) = true := by simp [Region.wanted, hgd]
  rw [if_pos hw]
  exact wp_append_src s x t ho base e i z size bytes ht hi hz hsize hby hzs hsz v n xs hs hown A m c news hx hsrc h1 h63 hbytes hbase h

end Go.Proofs.Ytknpdkfjmhpbpaa
