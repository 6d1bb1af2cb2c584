/- ClockRises: between its steps. -/
import Derived.Test.YtmfkomdfknflgaaAccs
import Derived.Test.YtmfkomdfknflgaaCaus
namespace Go.Proofs.Ytmfkomdfknflgaa
open Go.RowKit Go.Maps Go.ChangeShapes Go.WideShapes Go.ChangeAt Go.WideMaps Go.WideElems

/-- 16 numbers in a variable. -/
def Own16 (W : World) (ob : Nat) (f : Nat → Nat) : Prop := ∃ cur, W.heap[ob]? = some (.cells cur 31 (0, 0)) ∧ 16 ≤ cur.size ∧ ∀ j, j < 16 → cur[j]? = some (.int .i64 ((f j : Nat) : Int))
theorem Own16.fr {S : Nat → Prop} {W W' : World} {ob : Nat} {f : Nat → Nat} (h : Own16 W ob f) (F : Fr S W W') (hn : ¬ S ob) : Own16 W' ob f := by
  obtain ⟨cur, h1, h2⟩ := h
  exact ⟨cur, F.heap h1 hn, h2⟩
theorem Own16.set {W : World} {ob : Nat} {f : Nat → Nat} (h : Own16 W ob f) {i : Nat} (hi : i < 16) (x : Nat) : Own16 (W.setCell ⟨ob, i, none⟩ (.int .i64 ((x : Nat) : Int))) ob (upd f i x) := by
  obtain ⟨cur, h1, h2, h3⟩ := h
  refine ⟨_, heapSet h1 _ _, by simpa using h2, fun j hj => ?_⟩
  rw [Array.getElem?_setIfInBounds]
  by_cases e : i = j
  · subst e
    rw [if_pos rfl, if_pos (by omega), upd_same]
  · rw [if_neg e, upd_other _ _ (Ne.symm e), h3 j hj]
theorem Own16.cell {W : World} {ob : Nat} {f : Nat → Nat} (h : Own16 W ob f) {j : Nat} (hj : j < 16) : W.cell? ⟨ob, j, none⟩ = some (.int .i64 ((f j : Nat) : Int)) ∧ W.frozen? ⟨ob, j, none⟩ = false := by
  obtain ⟨cur, h1, _, h3⟩ := h
  exact ⟨by rw [cellOf h1]; exact h3 j hj, frozenOf h1 j⟩
theorem Own16.lt {W : World} {ob : Nat} {f : Nat → Nat} (h : Own16 W ob f) : ob < W.heap.size := by
  obtain ⟨cur, h1, _⟩ := h
  exact ltOf h1

/-- A slice's parts. -/
def sl3 (n : Nat) (x : Nat × Nat × Nat) : Value := sl x.1 x.2.1 n x.2.2
structure RisR (w W : World) (b n : Nat) (g : LG) (own : Nat → Nat) (ob : Nat) (v : Value) (ws : List (Nat × Nat × Nat)) (F : Nat → Nat → Nat) (R : Nat → Role) : Prop where
  lg : IsLog W b R g
  fr : Fr (fun _ => False) w W
  low : ∀ k, k < w.heap.size → R k = .no
  ow : Own16 W ob own
  obr : R ob = .no ∧ w.heap.size ≤ ob
  row : OwnsWin W w.heap.size 33 1 v ws.length (ws.map (sl3 n))
  own_ : ∀ k, v.ownBlock = some k → R k = .no ∧ k ≠ ob
  at_ : ∀ t x, ws[t]? = some x → Row W x.1 x.2.1 n (F t) ∧ R x.1 = .no ∧ v.ownBlock ≠ some x.1 ∧ x.1 ≠ ob ∧ n ≤ x.2.2 ∧ x.2.2 ≤ maxLen
def Ris (w W : World) (b n : Nat) (g : LG) (own : Nat → Nat) (ob : Nat) (v : Value) (ws : List (Nat × Nat × Nat)) (F : Nat → Nat → Nat) : Prop := ∃ R, RisR w W b n g own ob v ws F R
theorem Ris.fr0 {w W W' : World} {b n : Nat} {g : LG} {own : Nat → Nat} {ob : Nat} {v : Value} {ws : List (Nat × Nat × Nat)} {F : Nat → Nat → Nat} (h : Ris w W b n g own ob v ws F) (f : Fr (fun _ => False) W W') : Ris w W' b n g own ob v ws F := by
  obtain ⟨R, h⟩ := h
  exact ⟨R, h.lg.fr f (fun _ e => e.elim), h.fr.trans f, h.low, h.ow.fr f (by simp), h.obr, h.row.fr f (by simp), h.own_, fun t x hx => ⟨(h.at_ t x hx).1.fr f (by simp), (h.at_ t x hx).2⟩⟩
theorem Ris.frw {w W : World} {b n : Nat} {g : LG} {own : Nat → Nat} {ob : Nat} {v : Value} {ws : List (Nat × Nat × Nat)} {F : Nat → Nat → Nat} (h : Ris w W b n g own ob v ws F) : Fr (fun _ => False) w W := by obtain ⟨R, h⟩ := h; exact h.fr
/-- A round begins. -/
theorem Ris.nil {w W : World} {b n : Nat} {g : LG} {own : Nat → Nat} {ob : Nat} {v : Value} {ws : List (Nat × Nat × Nat)} {F : Nat → Nat → Nat} (h : Ris w W b n g own ob v ws F) : Ris w W b n g own ob (.slice none 0 0) [] g.C := by
  obtain ⟨R, h⟩ := h
  exact ⟨R, h.lg, h.fr, h.low, h.ow, h.obr, OwnsWin.nil _ _ _ _, fun k hk => by simp [Value.ownBlock] at hk, fun t x hx => by simp at hx⟩
/-- An access. -/
theorem Ris.act {w W : World} {b n : Nat} {g : LG} {own : Nat → Nat} {ob : Nat} {v : Value} {ws : List (Nat × Nat × Nat)} {F : Nat → Nat → Nat} (h : Ris w W b n g own ob v ws F) (hB : Bd g) (hL : g.L.length ≤ 100000) (a : Acc) (hz : InR a.cell) :
    Calls Try.prog 10 #[.pointer (some ⟨b, 0, none⟩), accV a.who a.cell a.wt a.at_] W fun e w' => e = .returned (.bool (DoB g a)) ∧ Ris w w' b n (DoG g a) own ob v ws F := by
  obtain ⟨R, h⟩ := h
  refine (do_all W b R g a h.lg hz (fun i _ => by have := hB.b1 i i; omega) hL).mono ?_
  rintro e w' ⟨he, R', h4, f, h6⟩
  have keep : ∀ k, k < W.heap.size → R k = .no → R' k = .no := fun k hk hr => (h6 k hk).trans hr
  refine ⟨he, R', h4, h.fr.step f (fun k hk => by
    by_cases e : k < w.heap.size
    · exact absurd (h.low k e) hk
    · exact .inr (by omega)), fun k hk => keep k (Nat.lt_of_lt_of_le hk h.fr.size) (h.low k hk), h.ow.fr f (fun e => e h.obr.1), ⟨keep _ h.ow.lt h.obr.1, h.obr.2⟩, h.row.fr f (fun k hk e => e (h.own_ k hk).1), fun k hk => ⟨keep k (h.row.lt k hk).2 (h.own_ k hk).1, (h.own_ k hk).2⟩, fun t x hx => ?_⟩
  obtain ⟨q1, q2, q3⟩ := h.at_ t x hx
  exact ⟨q1.fr f (fun e => e q2), keep _ q1.lt q2, q3⟩
/-- A number goes up. -/
theorem Ris.up {w W : World} {b n : Nat} {g : LG} {own : Nat → Nat} {ob : Nat} {v : Value} {ws : List (Nat × Nat × Nat)} {F : Nat → Nat → Nat} (h : Ris w W b n g own ob v ws F) {i : Nat} (hi : i < 16) (x : Nat) : Ris w (W.setCell ⟨ob, i, none⟩ (.int .i64 ((x : Nat) : Int))) b n g (upd own i x) ob v ws F := by
  obtain ⟨R, h⟩ := h
  have f : Fr (fun k => k = ob) W (W.setCell ⟨ob, i, none⟩ (.int .i64 ((x : Nat) : Int))) := (Fr.refl (fun k => k = ob) W).setCell (p := ⟨ob, i, none⟩) (.inl rfl) _
  refine ⟨R, h.lg.fr f (fun k hk => by rw [hk]; exact h.obr.1), h.fr.step f (fun k hk => .inr (by rw [hk]; exact h.obr.2)), h.low, h.ow.set hi x, h.obr, h.row.fr f (fun k hk e => (h.own_ k hk).2 e), h.own_, fun t y hy => ?_⟩
  obtain ⟨q1, q2, q3, q4, q5⟩ := h.at_ t y hy
  exact ⟨q1.fr f q4, q2, q3, q4, q5⟩
/-- One more clock is kept. -/
theorem Ris.keep {w W W1 W2 : World} {b n : Nat} {g : LG} {own : Nat → Nat} {ob : Nat} {v : Value} {ws : List (Nat × Nat × Nat)} {F : Nat → Nat → Nat} {x : Nat × Nat × Nat} {sp : Option Addr} {sc : Nat} {o : Obj} (h : Ris w W b n g own ob v ws F) (f1 : Fr (fun _ => False) W W1) (hx : W.heap.size ≤ x.1) (hr : Row W1 x.1 x.2.1 n (F ws.length)) (hc : n ≤ x.2.2 ∧ x.2.2 ≤ maxLen)
    (ho : OwnsWin W2 w.heap.size 33 1 (.slice sp (ws.length + 1) sc) (ws.length + 1) (ws.map (sl3 n) ++ [sl3 n x])) (hg : (W1.alloc o).grownBy W2 v.ownBlock) (hs : ∀ k, (Value.slice sp (ws.length + 1) sc).ownBlock = some k → v.ownBlock = some k ∨ (W1.alloc o).heap.size ≤ k) :
    Ris w W2 b n g own ob (.slice sp (ws.length + 1) sc) (ws ++ [x]) F := by
  obtain ⟨R, h⟩ := h
  have f : Fr (fun k => v.ownBlock = some k) W W2 := ((f1.mono (fun _ _ e => e.elim)).alloc o).grown hg (fun k e => .inl e)
  have fb : Fr (fun k => v.ownBlock = some k) W1 W2 := ((Fr.refl (fun k => v.ownBlock = some k) W1).alloc o).grown hg (fun k e => .inl e)
  have big : ∀ k, W.heap.size ≤ k → R k = .no := by
    obtain ⟨vc, vb, mb, vl, hl⟩ := h.lg
    exact hl.big
  have hlt := h.ow.lt
  have s1 := f1.size
  have hxl := hr.lt
  have nx : v.ownBlock ≠ some x.1 := fun e => by have := (h.row.lt _ e).2; omega
  refine ⟨R, h.lg.fr f (fun k hk => (h.own_ k hk).1), h.fr.step f (fun k hk => .inr (h.row.lt k hk).1), h.low, h.ow.fr f (fun e => (h.own_ _ e).2 rfl), h.obr, by rw [List.length_append, List.map_append]; exact ho, fun k hk => ?_, fun t y hy => ?_⟩
  · rcases hs k hk with e | e
    · exact h.own_ k e
    · simp at e
      exact ⟨big k (by omega), by omega⟩
  · have own2 : ∀ k, k < W1.heap.size → v.ownBlock ≠ some k → (Value.slice sp (ws.length + 1) sc).ownBlock ≠ some k := fun k hk hn e => by
      rcases hs k e with e2 | e2
      · exact hn e2
      · simp at e2; omega
    by_cases ht : t < ws.length
    · rw [List.getElem?_append_left ht] at hy
      obtain ⟨q1, q2, q3, q4, q5⟩ := h.at_ t y hy
      exact ⟨q1.fr f q3, q2, own2 _ (by have := q1.lt; omega) q3, q4, q5⟩
    · rw [List.getElem?_append_right (by omega)] at hy
      have hq : t - ws.length = 0 := by
        rcases Nat.eq_zero_or_pos (t - ws.length) with e2 | e2
        · exact e2
        · rw [List.getElem?_eq_none (by simp; omega)] at hy; cases hy
      rw [hq] at hy
      obtain rfl : x = y := by simpa using hy
      have : t = ws.length := by omega
      subst this
      exact ⟨hr.fr fb nx, big _ hx, own2 _ hxl nx, by omega, hc⟩

/-- No clock goes back. -/
theorem rises_pure {g : LG} (h : Cs g) (a : Acc) : (∀ t : Nat, (t : Int) ≠ a.who → (DoG g a).C t = g.C t) ∧ (∀ t v, g.C t v ≤ (DoG g a).C t v) ∧ (isB g.n a.who = true → ∀ j, (DoG g a).C j j = upd (fun j => g.C j j) a.who.toNat (g.C a.who.toNat a.who.toNat + 1) j) ∧ (isB g.n a.who = false → DoG g a = g) := by
  refine ⟨fun t ht => ?_, fun t v => ?_, fun hi j => ?_, fun hi => ?_⟩
  · unfold DoG
    split
    · rename_i hi
      obtain ⟨m, hm, _⟩ := isB_iff.1 hi
      show upd g.C a.who.toNat (clkN g a) t = _
      rw [upd_other _ _ (fun e => ht (by rw [hm] at e ⊢; rw [e]; rfl))]
    · rfl
  · unfold DoG
    split
    · show g.C t v ≤ upd g.C a.who.toNat (clkN g a) t v
      unfold upd
      split
      · rename_i e; rw [e]; exact clkN_le g a v
      · exact Nat.le_refl _
    · exact Nat.le_refl _
  · unfold DoG
    rw [if_pos hi]
    show upd g.C a.who.toNat (clkN g a) j j = _
    unfold upd
    by_cases e : j = a.who.toNat
    · rw [if_pos e, if_pos e, e]; exact clkN_own h a
    · rw [if_neg e, if_neg e]
  · unfold DoG
    rw [hi]
    rfl
end Go.Proofs.Ytmfkomdfknflgaa
