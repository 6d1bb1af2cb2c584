/- A log's memory: by roles of blocks. Plain lemmas. -/
import Derived.Test.YtmfkomdfknflgaaWin
import Derived.Test.YtmfkomdfknflgaaProg
import Derived.WalkSpells
import Derived.Lib.SliceRun
namespace Go.Proofs.Ytmfkomdfknflgaa
open Go.RowKit Go.Maps Go.ChangeShapes Go.WideShapes Go.ChangeAt Go.WideMaps Go.WideElems

/-- What a block is for. -/
inductive Role where
  | no | top | crow | brow | mp | lrow | fz
  | clk (i : Nat) | cel (z : Int) | cclk (z : Int) | tal (z : Int) (k : Nat)

def upd {α : Type} (f : Nat → α) (i : Nat) (x : α) : Nat → α := fun j => if j = i then x else f j
theorem upd_same {α : Type} (f : Nat → α) (i : Nat) (x : α) : upd f i x i = x := if_pos rfl
theorem upd_other {α : Type} (f : Nat → α) {i j : Nat} (x : α) (h : j ≠ i) : upd f i x j = f j := if_neg h

/-- A cell: its clock, and each worker's last access of each kind. -/
structure Cel where
  c : Nat → Nat
  t : Nat → Nat → Nat
/-- An access that was done. -/
structure Dn where
  who : Nat
  own : Nat
  base : Nat → Nat
/-- A log. -/
structure LG where
  n : Nat
  C : Nat → Nat → Nat
  B : Nat → Nat → Nat
  M : Int → Option Cel
  L : List Dn

/-- n numbers in a block, from a place on. -/
def Row (w : World) (b o n : Nat) (f : Nat → Nat) : Prop :=
  ∃ cur, w.heap[b]? = some (.cells cur 3 (0, 0)) ∧ o + n ≤ cur.size ∧ ∀ j, j < n → cur[o + j]? = some (.int .i64 ((f j : Nat) : Int))
theorem Row.fr {S : Nat → Prop} {w w' : World} {b o n : Nat} {f : Nat → Nat} (h : Row w b o n f) (g : Fr S w w') (hn : ¬ S b) : Row w' b o n f := by
  obtain ⟨cur, h1, h2⟩ := h
  exact ⟨cur, g.heap h1 hn, h2⟩
theorem Row.cell {w : World} {b o n : Nat} {f : Nat → Nat} (h : Row w b o n f) {j : Nat} (hj : j < n) : w.cell? ⟨b, o + j, none⟩ = some (.int .i64 ((f j : Nat) : Int)) := by
  obtain ⟨cur, h1, _, h3⟩ := h
  rw [cellOf h1]
  exact h3 j hj
theorem Row.cell0 {w : World} {b n : Nat} {f : Nat → Nat} (h : Row w b 0 n f) {j : Nat} (hj : j < n) : w.cell? ⟨b, j, none⟩ = some (.int .i64 ((f j : Nat) : Int)) := by
  have := h.cell hj
  rwa [Nat.zero_add] at this
theorem Row.frozen {w : World} {b o n : Nat} {f : Nat → Nat} (h : Row w b o n f) (j : Nat) : w.frozen? ⟨b, j, none⟩ = false := by
  obtain ⟨cur, h1, _⟩ := h
  exact frozenOf h1 j
theorem Row.lt {w : World} {b o n : Nat} {f : Nat → Nat} (h : Row w b o n f) : b < w.heap.size := by
  obtain ⟨cur, h1, _⟩ := h
  exact ltOf h1
theorem Row.set {w : World} {b n : Nat} {f : Nat → Nat} (h : Row w b 0 n f) {i : Nat} (hi : i < n) (x : Nat) : Row (w.setCell ⟨b, i, none⟩ (.int .i64 ((x : Nat) : Int))) b 0 n (upd f i x) := by
  obtain ⟨cur, h1, h2, h3⟩ := h
  refine ⟨_, heapSet h1 _ _, by simpa using h2, fun j hj => ?_⟩
  rw [Array.getElem?_setIfInBounds, Nat.zero_add]
  by_cases e : i = j
  · subst e
    rw [if_pos rfl, if_pos (by omega), upd_same]
  · rw [if_neg e, upd_other _ _ (Ne.symm e)]
    have := h3 j hj
    rwa [Nat.zero_add] at this
theorem Row.congr {w : World} {b o n : Nat} {f g : Nat → Nat} (h : Row w b o n f) (e : ∀ j, j < n → f j = g j) : Row w b o n g := by
  obtain ⟨cur, h1, h2, h3⟩ := h
  exact ⟨cur, h1, h2, fun j hj => by rw [h3 j hj, e j hj]⟩
/-- A block just made. -/
theorem Row.zero {w : World} {b n : Nat} {m : Nat} (hm : n ≤ m) (h : w.heap[b]? = some (.cells (Array.replicate m (.int .i64 0)) 3 (0, 0))) : Row w b 0 n (fun _ => 0) :=
  ⟨_, h, by simpa using hm, fun j hj => by rw [Array.getElem?_replicate, if_pos (by omega)]; rfl⟩
/-- The value of a slice of a block. -/
def sl (b o n c : Nat) : Value := .slice (some ⟨b, o, none⟩) n c
/-- Its numbers, as values. -/
def fV (n : Nat) (f : Nat → Nat) : List Value := (List.range n).map fun j => .int .i64 ((f j : Nat) : Int)
theorem fV_len (n : Nat) (f : Nat → Nat) : (fV n f).length = n := by simp [fV]
theorem fV_at {n : Nat} {f : Nat → Nat} {j : Nat} {u : Value} (h : (fV n f)[j]? = some u) : j < n ∧ u = .int .i64 ((f j : Nat) : Int) := by
  have hj : j < n := by have := (List.getElem?_eq_some_iff.1 h).1; rwa [fV_len] at this
  unfold fV at h
  rw [List.getElem?_map, List.getElem?_range hj] at h
  exact ⟨hj, (Option.some.inj h).symm⟩
theorem fV_get {n : Nat} {f : Nat → Nat} {j : Nat} (h : j < n) : (fV n f)[j]? = some (.int .i64 ((f j : Nat) : Int)) := by
  unfold fV
  rw [List.getElem?_map, List.getElem?_range h]
  rfl
theorem Row.src {w : World} {b o n : Nat} {f : Nat → Nat} (h : Row w b o n f) : Src w 1 (some ⟨b, o, none⟩) n (fV n f) :=
  ⟨(by rw [fV_len]; omega), (by intro e; cases e), fun ad e j u hj => by
    cases e
    obtain ⟨hj1, rfl⟩ := fV_at hj
    rw [addOf _ _ rfl]
    exact h.cell hj1⟩
theorem Row.of_win {w : World} {base n : Nat} {sp : Option Addr} {c : Nat} {f : Nat → Nat} (h : OwnsWin w base 3 1 (.slice sp n c) n (fV n f)) (hn : 0 < n) : ∃ b o, sp = some ⟨b, o, none⟩ ∧ base ≤ b ∧ Row w b o n f ∧ n ≤ c ∧ c ≤ maxLen := by
  rcases h.2 with ⟨_, h0⟩ | ⟨g, off, cap, cur, hv, hb, hg, h1, h2, h3, h4⟩
  · omega
  · cases hv
    exact ⟨g, off, rfl, hb, ⟨cur, hg, by omega, fun j hj => h4 j _ (fV_get hj)⟩, h1, h2⟩

/-- A row of n slices in a block of that role. -/
def Rw (w : World) (R : Nat → Role) (r : Role) (v : Value) (n : Nat) (f : Nat → Value) : Prop :=
  n = 0 ∨ ∃ b c cur, v = sl b 0 n c ∧ n ≤ c ∧ c ≤ maxLen ∧ R b = r ∧ w.heap[b]? = some (.cells cur 47 (0, 0)) ∧ n ≤ cur.size ∧ ∀ j, j < n → cur[j]? = some (f j)

def IsC (w : World) (R : Nat → Role) (g : LG) (v : Value) : Prop :=
  ∃ ck : Nat → Nat, Rw w R .crow v g.n (fun i => sl (ck i) 0 g.n g.n) ∧ ∀ i, i < g.n → R (ck i) = .clk i ∧ Row w (ck i) 0 g.n (g.C i)
def IsBs (w : World) (R : Nat → Role) (g : LG) (v : Value) : Prop :=
  ∃ bk bo bc : Nat → Nat, Rw w R .brow v g.n (fun i => sl (bk i) (bo i) g.n (bc i)) ∧ ∀ i, i < g.n → R (bk i) = .fz ∧ Row w (bk i) (bo i) g.n (g.B i) ∧ g.n ≤ bc i ∧ bc i ≤ maxLen

/-- How a pointer reads. -/
def ptrE : Value → Option (DataW Unit × List MemPlace)
  | .pointer none => some (.lit (.bool false), [])
  | .pointer (some ⟨b, 0, none⟩) => some (.lit (.int .i64 b), [])
  | _ => none
def nilD : DataW Unit := .lit (.bool false)

def IsCel (w : World) (R : Nat → Role) (n : Nat) (z : Int) (b : Nat) (x : Cel) : Prop :=
  R b = .cel z ∧ ∃ c0 co cc t0 t1 t2 t3, w.heap[b]? = some (.cells #[sl c0 co n cc, sl t0 0 n n, sl t1 0 n n, sl t2 0 n n, sl t3 0 n n] 55 (0, 0)) ∧ n ≤ cc ∧ cc ≤ maxLen ∧ R c0 = .cclk z ∧ Row w c0 co n x.c ∧
    (R t0 = .tal z 0 ∧ Row w t0 0 n (x.t 0)) ∧ (R t1 = .tal z 1 ∧ Row w t1 0 n (x.t 1)) ∧ (R t2 = .tal z 2 ∧ Row w t2 0 n (x.t 2)) ∧ (R t3 = .tal z 3 ∧ Row w t3 0 n (x.t 3))
def IsMC (w : World) (R : Nat → Role) (n m : Nat) (M : Int → Option Cel) (mb : Nat) (cb : Int → Nat) : Prop :=
  R mb = .mp ∧ ∃ D, w.ownsMap Try.prog 3 ptrE mb m D ∧ IsMap D ∧
    (∀ z, D.atKey (.int .i64 z) nilD = match M z with | none => nilD | some _ => .lit (.int .i64 (cb z : Nat))) ∧ ∀ z x, M z = some x → IsCel w R n z (cb z) x
def IsM (w : World) (R : Nat → Role) (g : LG) (mb : Nat) : Prop := ∃ m cb, m ≤ g.L.length ∧ IsMC w R g.n m g.M mb cb

def dv (n : Nat) (e : Dn × Nat × Nat × Nat) : List Value := [.int .i64 (e.1.who : Int), .int .i64 (e.1.own : Int), sl e.2.1 e.2.2.1 n e.2.2.2]
def IsL (w : World) (R : Nat → Role) (g : LG) (v : Value) : Prop :=
  ∃ E : List (Dn × Nat × Nat × Nat), E.map (·.1) = g.L ∧ OwnsWin w 0 61 3 v E.length (E.flatMap (dv g.n)) ∧ (∀ k, v.ownBlock = some k → R k = .lrow) ∧
    ∀ e ∈ E, R e.2.1 = .fz ∧ Row w e.2.1 e.2.2.1 g.n e.1.base ∧ g.n ≤ e.2.2.2 ∧ e.2.2.2 ≤ maxLen

/-- Block b of w is a log. -/
structure IsLogV (w : World) (b : Nat) (R : Nat → Role) (g : LG) (vc vb : Value) (mb : Nat) (vl : Value) : Prop where
  top : R b = .top
  blk : w.heap[b]? = some (.cells #[.int .i64 (g.n : Int), vc, vb, .map (some mb), vl] 46 (0, 0))
  c : IsC w R g vc
  bs : IsBs w R g vb
  m : IsM w R g mb
  l : IsL w R g vl
  big : ∀ k, w.heap.size ≤ k → R k = .no
  n64 : g.n ≤ 64
def IsLog (w : World) (b : Nat) (R : Nat → Role) (g : LG) : Prop := ∃ vc vb mb vl, IsLogV w b R g vc vb mb vl

/-- Rows of slices stay. -/
theorem Rw.fr {S : Nat → Prop} {w w' : World} {R : Nat → Role} {r : Role} {v : Value} {n : Nat} {f : Nat → Value} (h : Rw w R r v n f) (F : Fr S w w') (hS : ∀ k, S k → R k ≠ r) : Rw w' R r v n f := by
  rcases h with h | ⟨b, c, cur, e, h1, h2, h3, h4, h5⟩
  · exact .inl h
  · exact .inr ⟨b, c, cur, e, h1, h2, h3, F.heap h4 (fun hs => hS b hs h3), h5⟩
theorem IsC.fr {S : Nat → Prop} {w w' : World} {R : Nat → Role} {g : LG} {v : Value} (h : IsC w R g v) (F : Fr S w w') (hS : ∀ k, S k → R k ≠ .crow ∧ ∀ i, i < g.n → R k ≠ .clk i) : IsC w' R g v := by
  obtain ⟨ck, h1, h2⟩ := h
  exact ⟨ck, h1.fr F (fun k hk => (hS k hk).1), fun i hi => ⟨(h2 i hi).1, (h2 i hi).2.fr F (fun hs => (hS _ hs).2 i hi (h2 i hi).1)⟩⟩
theorem IsBs.fr {S : Nat → Prop} {w w' : World} {R : Nat → Role} {g : LG} {v : Value} (h : IsBs w R g v) (F : Fr S w w') (hS : ∀ k, S k → R k ≠ .brow ∧ R k ≠ .fz) : IsBs w' R g v := by
  obtain ⟨bk, bo, bc, h1, h2⟩ := h
  exact ⟨bk, bo, bc, h1.fr F (fun k hk => (hS k hk).1), fun i hi => ⟨(h2 i hi).1, (h2 i hi).2.1.fr F (fun hs => (hS _ hs).2 (h2 i hi).1), (h2 i hi).2.2⟩⟩
theorem IsCel.fr {S : Nat → Prop} {w w' : World} {R : Nat → Role} {n : Nat} {z : Int} {b : Nat} {x : Cel} (h : IsCel w R n z b x) (F : Fr S w w') (hS : ∀ k, S k → R k ≠ .cel z ∧ R k ≠ .cclk z ∧ ∀ i, R k ≠ .tal z i) : IsCel w' R n z b x := by
  obtain ⟨h0, c0, co, cc, t0, t1, t2, t3, h1, h2, h3, h4, h5, ⟨a0, a1⟩, ⟨b0, b1⟩, ⟨d0, d1⟩, ⟨e0, e1⟩⟩ := h
  exact ⟨h0, c0, co, cc, t0, t1, t2, t3, F.heap h1 (fun hs => (hS _ hs).1 h0), h2, h3, h4, h5.fr F (fun hs => (hS _ hs).2.1 h4),
    ⟨a0, a1.fr F (fun hs => (hS _ hs).2.2 _ a0)⟩, ⟨b0, b1.fr F (fun hs => (hS _ hs).2.2 _ b0)⟩, ⟨d0, d1.fr F (fun hs => (hS _ hs).2.2 _ d0)⟩, ⟨e0, e1.fr F (fun hs => (hS _ hs).2.2 _ e0)⟩⟩
theorem IsMC.fr {S : Nat → Prop} {w w' : World} {R : Nat → Role} {n m : Nat} {M : Int → Option Cel} {mb : Nat} {cb : Int → Nat} (h : IsMC w R n m M mb cb) (F : Fr S w w') (hS : ∀ k, S k → R k ≠ .mp ∧ ∀ z, R k ≠ .cel z ∧ R k ≠ .cclk z ∧ ∀ i, R k ≠ .tal z i) : IsMC w' R n m M mb cb := by
  obtain ⟨h0, D, h1, h2, h4, h5⟩ := h
  exact ⟨h0, D, ownsMap.fr h1 F (fun hs => (hS _ hs).1 h0), h2, h4, fun z x hx => (h5 z x hx).fr F (fun k hk => (hS k hk).2 z)⟩
theorem IsM.fr {S : Nat → Prop} {w w' : World} {R : Nat → Role} {g : LG} {mb : Nat} (h : IsM w R g mb) (F : Fr S w w') (hS : ∀ k, S k → R k ≠ .mp ∧ ∀ z, R k ≠ .cel z ∧ R k ≠ .cclk z ∧ ∀ i, R k ≠ .tal z i) : IsM w' R g mb := by
  obtain ⟨m, cb, h1, h2⟩ := h
  exact ⟨m, cb, h1, h2.fr F hS⟩
theorem IsL.fr {S : Nat → Prop} {w w' : World} {R : Nat → Role} {g : LG} {v : Value} (h : IsL w R g v) (F : Fr S w w') (hS : ∀ k, S k → R k ≠ .lrow ∧ R k ≠ .fz) : IsL w' R g v := by
  obtain ⟨E, h1, h2, h3, h4⟩ := h
  exact ⟨E, h1, h2.fr F (fun k hk hs => (hS k hs).1 (h3 k hk)), h3, fun e he => ⟨(h4 e he).1, (h4 e he).2.1.fr F (fun hs => (hS _ hs).2 (h4 e he).1), (h4 e he).2.2⟩⟩
/-- Roles of blocks to come do not matter. -/
theorem Rw.role {w : World} {R R' : Nat → Role} {r : Role} {v : Value} {n : Nat} {f : Nat → Value} (h : Rw w R r v n f) (hR : ∀ k, k < w.heap.size → R' k = R k) : Rw w R' r v n f := by
  rcases h with h | ⟨b, c, cur, e, h1, h2, h3, h4, h5⟩
  · exact .inl h
  · exact .inr ⟨b, c, cur, e, h1, h2, (hR b (ltOf h4)).trans h3, h4, h5⟩
theorem IsC.role {w : World} {R R' : Nat → Role} {g : LG} {v : Value} (h : IsC w R g v) (hR : ∀ k, k < w.heap.size → R' k = R k) : IsC w R' g v := by
  obtain ⟨ck, h1, h2⟩ := h
  exact ⟨ck, h1.role hR, fun i hi => ⟨(hR _ (h2 i hi).2.lt).trans (h2 i hi).1, (h2 i hi).2⟩⟩
theorem IsBs.role {w : World} {R R' : Nat → Role} {g : LG} {v : Value} (h : IsBs w R g v) (hR : ∀ k, k < w.heap.size → R' k = R k) : IsBs w R' g v := by
  obtain ⟨bk, bo, bc, h1, h2⟩ := h
  exact ⟨bk, bo, bc, h1.role hR, fun i hi => ⟨(hR _ (h2 i hi).2.1.lt).trans (h2 i hi).1, (h2 i hi).2⟩⟩
theorem IsCel.role {w : World} {R R' : Nat → Role} {n : Nat} {z : Int} {b : Nat} {x : Cel} (h : IsCel w R n z b x) (hR : ∀ k, k < w.heap.size → R' k = R k) : IsCel w R' n z b x := by
  obtain ⟨h0, c0, co, cc, t0, t1, t2, t3, h1, h2, h3, h4, h5, ⟨a0, a1⟩, ⟨b0, b1⟩, ⟨d0, d1⟩, ⟨e0, e1⟩⟩ := h
  exact ⟨(hR _ (ltOf h1)).trans h0, c0, co, cc, t0, t1, t2, t3, h1, h2, h3, (hR _ h5.lt).trans h4, h5, ⟨(hR _ a1.lt).trans a0, a1⟩, ⟨(hR _ b1.lt).trans b0, b1⟩, ⟨(hR _ d1.lt).trans d0, d1⟩, ⟨(hR _ e1.lt).trans e0, e1⟩⟩
theorem IsMC.role {w : World} {R R' : Nat → Role} {n m : Nat} {M : Int → Option Cel} {mb : Nat} {cb : Int → Nat} (h : IsMC w R n m M mb cb) (hR : ∀ k, k < w.heap.size → R' k = R k) : IsMC w R' n m M mb cb := by
  obtain ⟨h0, D, h1, h2, h4, h5⟩ := h
  exact ⟨(hR _ h1.lt).trans h0, D, h1, h2, h4, fun z x hx => (h5 z x hx).role hR⟩
theorem IsL.role {w : World} {R R' : Nat → Role} {g : LG} {v : Value} (h : IsL w R g v) (hR : ∀ k, k < w.heap.size → R' k = R k) : IsL w R' g v := by
  obtain ⟨E, h1, h2, h3, h4⟩ := h
  exact ⟨E, h1, h2, fun k hk => (hR _ (h2.lt k hk).2).trans (h3 k hk), fun e he => ⟨(hR _ (h4 e he).2.1.lt).trans (h4 e he).1, (h4 e he).2⟩⟩
/-- A log stays when nothing of it is written. -/
theorem IsLogV.fr {S : Nat → Prop} {w w' : World} {b : Nat} {R : Nat → Role} {g : LG} {vc vb : Value} {mb : Nat} {vl : Value} (h : IsLogV w b R g vc vb mb vl) (F : Fr S w w') (hS : ∀ k, S k → R k = .no) : IsLogV w' b R g vc vb mb vl :=
  ⟨h.top, F.heap h.blk (fun hs => by have := hS _ hs; rw [h.top] at this; cases this), h.c.fr F (fun k hk => by rw [hS k hk]; exact ⟨by simp, by simp⟩), h.bs.fr F (fun k hk => by rw [hS k hk]; simp), h.m.fr F (fun k hk => by rw [hS k hk]; simp), h.l.fr F (fun k hk => by rw [hS k hk]; simp),
    fun k hk => h.big k (Nat.le_trans F.size hk), h.n64⟩
theorem IsLog.fr {S : Nat → Prop} {w w' : World} {b : Nat} {R : Nat → Role} {g : LG} (h : IsLog w b R g) (F : Fr S w w') (hS : ∀ k, S k → R k = .no) : IsLog w' b R g := by
  obtain ⟨vc, vb, mb, vl, h⟩ := h
  exact ⟨vc, vb, mb, vl, h.fr F hS⟩
end Go.Proofs.Ytmfkomdfknflgaa
