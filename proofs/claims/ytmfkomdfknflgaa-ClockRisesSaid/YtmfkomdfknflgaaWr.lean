/- A log whose places are named: what a write makes of it. -/
import Derived.Test.YtmfkomdfknflgaaDo0
namespace Go.Proofs.Ytmfkomdfknflgaa
open Go.RowKit Go.Maps Go.ChangeShapes Go.WideShapes Go.ChangeAt Go.WideMaps Go.WideElems

/-- The places of a log. -/
structure LP where
  bc : Nat
  cc : Nat
  bb : Nat
  bd : Nat
  mb : Nat
  m : Nat
  ck : Nat → Nat
  cb : Int → Nat
  vl : Value

def BAt (w : World) (R : Nat → Role) (n : Nat) (v : Value) (f : Nat → Nat) : Prop := ∃ nb o c, v = sl nb o n c ∧ R nb = .fz ∧ Row w nb o n f ∧ n ≤ c ∧ c ≤ maxLen
theorem BAt.fr {S : Nat → Prop} {w w' : World} {R : Nat → Role} {n : Nat} {v : Value} {f : Nat → Nat} (h : BAt w R n v f) (F : Fr S w w') (hS : ∀ k, S k → R k ≠ .fz) : BAt w' R n v f := by
  obtain ⟨nb, o, c, e, h1, h2, h3⟩ := h
  exact ⟨nb, o, c, e, h1, h2.fr F (fun hs => hS _ hs h1), h3⟩
theorem BAt.role {w : World} {R R' : Nat → Role} {n : Nat} {v : Value} {f : Nat → Nat} (h : BAt w R n v f) (hR : ∀ k, k < w.heap.size → R k ≠ .no → R' k = R k) : BAt w R' n v f := by
  obtain ⟨nb, o, c, e, h1, h2, h3⟩ := h
  exact ⟨nb, o, c, e, (hR _ h2.lt (by rw [h1]; simp)).trans h1, h2, h3⟩

structure LogW (w : World) (b : Nat) (R : Nat → Role) (g : LG) (p : LP) : Prop where
  top : R b = .top
  blk : w.heap[b]? = some (.cells #[.int .i64 (g.n : Int), sl p.bc 0 g.n p.cc, sl p.bb 0 g.n p.bd, .map (some p.mb), p.vl] 46 (0, 0))
  cc : g.n ≤ p.cc ∧ p.cc ≤ maxLen
  bd : g.n ≤ p.bd ∧ p.bd ≤ maxLen
  c0 : R p.bc = .crow ∧ ∃ cur, w.heap[p.bc]? = some (.cells cur 47 (0, 0)) ∧ ∀ i, i < g.n → cur[i]? = some (sl (p.ck i) 0 g.n g.n)
  c1 : ∀ i, i < g.n → R (p.ck i) = .clk i ∧ Row w (p.ck i) 0 g.n (g.C i)
  b0 : R p.bb = .brow ∧ ∃ cur, w.heap[p.bb]? = some (.cells cur 47 (0, 0)) ∧ ∀ i, i < g.n → ∃ v, cur[i]? = some v ∧ BAt w R g.n v (g.B i)
  m : IsMC w R g.n p.m g.M p.mb p.cb
  l : IsL w R g p.vl
  big : ∀ k, w.heap.size ≤ k → R k = .no
  n64 : g.n ≤ 64
  n0 : 0 < g.n

theorem LogW.of {w : World} {b : Nat} {R : Nat → Role} {g : LG} (h : IsLog w b R g) (h0 : 0 < g.n) : ∃ p : LP, p.m ≤ g.L.length ∧ LogW w b R g p := by
  obtain ⟨vc, vb, mb, vl, h⟩ := h
  obtain ⟨ck, hc1, hc2⟩ := h.c
  obtain ⟨bk, bo, bc, hb1, hb2⟩ := h.bs
  obtain ⟨m, cb, hm1, hm2⟩ := h.m
  rcases hc1 with e | ⟨b1, c1, cur1, rfl, q1, q2, q3, q4, q5, q6⟩
  · omega
  rcases hb1 with e | ⟨b2, c2, cur2, rfl, r1, r2, r3, r4, r5, r6⟩
  · omega
  exact ⟨⟨b1, c1, b2, c2, mb, m, ck, cb, vl⟩, hm1, h.top, h.blk, ⟨q1, q2⟩, ⟨r1, r2⟩, ⟨q3, cur1, q4, q6⟩, hc2, ⟨r3, cur2, r4, fun i hi => ⟨_, r6 i hi, _, _, _, rfl, (hb2 i hi).1, (hb2 i hi).2.1, (hb2 i hi).2.2⟩⟩, hm2, h.l, h.big, h.n64, h0⟩
theorem LogW.log {w : World} {b : Nat} {R : Nat → Role} {g : LG} {p : LP} (h : LogW w b R g p) (hm : p.m ≤ g.L.length) : IsLog w b R g := by
  obtain ⟨q3, cur1, q4, q6⟩ := h.c0
  obtain ⟨r3, cur2, r4, r6⟩ := h.b0
  have hx : ∀ i, ∃ y : Nat × Nat × Nat, i < g.n → cur2[i]? = some (sl y.1 y.2.1 g.n y.2.2) ∧ R y.1 = .fz ∧ Row w y.1 y.2.1 g.n (g.B i) ∧ g.n ≤ y.2.2 ∧ y.2.2 ≤ maxLen := fun i => by
    by_cases hi : i < g.n
    · obtain ⟨v, e, nb, o, c, rfl, h1, h2, h3⟩ := r6 i hi
      exact ⟨(nb, o, c), fun _ => ⟨e, h1, h2, h3⟩⟩
    · exact ⟨(0, 0, 0), fun e => absurd e hi⟩
  obtain ⟨y, hy⟩ := Classical.axiomOfChoice hx
  have sz1 : g.n ≤ cur1.size := by
    have := (Array.getElem?_eq_some_iff.1 (q6 (g.n - 1) (by have := h.n0; omega))).1
    omega
  have sz2 : g.n ≤ cur2.size := by
    have := (Array.getElem?_eq_some_iff.1 (hy (g.n - 1) (by have := h.n0; omega)).1).1
    omega
  exact ⟨_, _, _, _, h.top, h.blk, ⟨p.ck, .inr ⟨_, _, _, rfl, h.cc.1, h.cc.2, q3, q4, sz1, q6⟩, h.c1⟩, ⟨fun i => (y i).1, fun i => (y i).2.1, fun i => (y i).2.2, .inr ⟨_, _, _, rfl, h.bd.1, h.bd.2, r3, r4, sz2, fun i hi => (hy i hi).1⟩, fun i hi => (hy i hi).2⟩,
    ⟨p.m, p.cb, hm, h.m⟩, h.l, h.big, h.n64⟩

theorem LogW.fr {S : Nat → Prop} {w w' : World} {b : Nat} {R : Nat → Role} {g : LG} {p : LP} (h : LogW w b R g p) (F : Fr S w w') (hS : ∀ k, S k → R k = .no) : LogW w' b R g p := by
  obtain ⟨q3, cur1, q4, q6⟩ := h.c0
  obtain ⟨r3, cur2, r4, r6⟩ := h.b0
  have ne : ∀ k r, R k = r → r ≠ .no → ¬ S k := fun k r h1 h2 hs => h2 (h1.symm.trans (hS k hs))
  exact ⟨h.top, F.heap h.blk (ne _ _ h.top (by simp)), h.cc, h.bd, ⟨q3, cur1, F.heap q4 (ne _ _ q3 (by simp)), q6⟩, fun i hi => ⟨(h.c1 i hi).1, (h.c1 i hi).2.fr F (ne _ _ (h.c1 i hi).1 (by simp))⟩,
    ⟨r3, cur2, F.heap r4 (ne _ _ r3 (by simp)), fun i hi => by obtain ⟨v, e, h1⟩ := r6 i hi; exact ⟨v, e, h1.fr F (fun k hk => by rw [hS k hk]; simp)⟩⟩,
    h.m.fr F (fun k hk => by rw [hS k hk]; simp), h.l.fr F (fun k hk => by rw [hS k hk]; simp), fun k hk => h.big k (Nat.le_trans F.size hk), h.n64, h.n0⟩

def Ext (w : World) (R R' : Nat → Role) : Prop := ∀ k, k < w.heap.size → R k ≠ .no → R' k = R k
theorem Ext.at_ {w : World} {R R' : Nat → Role} (h : Ext w R R') {k : Nat} {r : Role} (hk : k < w.heap.size) (e : R k = r) (hn : r ≠ .no) : R' k = r := (h k hk (by rw [e]; exact hn)).trans e
theorem IsCel.ext {w : World} {R R' : Nat → Role} {n : Nat} {z : Int} {b : Nat} {x : Cel} (h : IsCel w R n z b x) (hR : Ext w R R') : IsCel w R' n z b x := by
  obtain ⟨h0, c0, co, cc, t0, t1, t2, t3, h1, h2, h3, h4, h5, ⟨a0, a1⟩, ⟨b0, b1⟩, ⟨d0, d1⟩, ⟨e0, e1⟩⟩ := h
  exact ⟨hR.at_ (ltOf h1) h0 (by simp), c0, co, cc, t0, t1, t2, t3, h1, h2, h3, hR.at_ h5.lt h4 (by simp), h5, ⟨hR.at_ a1.lt a0 (by simp), a1⟩, ⟨hR.at_ b1.lt b0 (by simp), b1⟩, ⟨hR.at_ d1.lt d0 (by simp), d1⟩, ⟨hR.at_ e1.lt e0 (by simp), e1⟩⟩
theorem IsMC.ext {w : World} {R R' : Nat → Role} {n m : Nat} {M : Int → Option Cel} {mb : Nat} {cb : Int → Nat} (h : IsMC w R n m M mb cb) (hR : Ext w R R') : IsMC w R' n m M mb cb := by
  obtain ⟨h0, D, h1, h2, h4, h5⟩ := h
  exact ⟨hR.at_ h1.lt h0 (by simp), D, h1, h2, h4, fun z x hx => (h5 z x hx).ext hR⟩
theorem IsL.ext {w : World} {R R' : Nat → Role} {g : LG} {v : Value} (h : IsL w R g v) (hR : Ext w R R') : IsL w R' g v := by
  obtain ⟨E, h1, h2, h3, h4⟩ := h
  exact ⟨E, h1, h2, fun k hk => hR.at_ (h2.lt k hk).2 (h3 k hk) (by simp), fun e he => ⟨hR.at_ (h4 e he).2.1.lt (h4 e he).1 (by simp), (h4 e he).2⟩⟩
theorem LogW.ext {w : World} {b : Nat} {R R' : Nat → Role} {g : LG} {p : LP} (h : LogW w b R g p) (hR : Ext w R R') (hb : ∀ k, w.heap.size ≤ k → R' k = .no) : LogW w b R' g p := by
  obtain ⟨q3, cur1, q4, q6⟩ := h.c0
  obtain ⟨r3, cur2, r4, r6⟩ := h.b0
  exact ⟨hR.at_ (ltOf h.blk) h.top (by simp), h.blk, h.cc, h.bd, ⟨hR.at_ (ltOf q4) q3 (by simp), cur1, q4, q6⟩, fun i hi => ⟨hR.at_ (h.c1 i hi).2.lt (h.c1 i hi).1 (by simp), (h.c1 i hi).2⟩,
    ⟨hR.at_ (ltOf r4) r3 (by simp), cur2, r4, fun i hi => by obtain ⟨v, e, h1⟩ := r6 i hi; exact ⟨v, e, h1.role hR⟩⟩, h.m.ext hR, h.l.ext hR, hb, h.n64, h.n0⟩
theorem ext_upd {w : World} {R : Nat → Role} {nb : Nat} (r : Role) (h : R nb = .no) : Ext w R (upd R nb r) := fun k _ hn => upd_other _ _ (fun e => hn (by rw [e]; exact h))
theorem big_upd {w : World} {R : Nat → Role} {nb : Nat} (r : Role) (hb : ∀ k, w.heap.size ≤ k → R k = .no) (h : nb < w.heap.size) : ∀ k, w.heap.size ≤ k → upd R nb r k = .no := fun k hk => by rw [upd_other _ _ (by omega)]; exact hb k hk

/-- A base is laid. -/
theorem LogW.setB {w : World} {b : Nat} {R : Nat → Role} {g : LG} {p : LP} (h0 : LogW w b R g p) {i nb o c : Nat} (hi : i < g.n) {f : Nat → Nat} (hR : R nb = .no) (hr : Row w nb o g.n f) (hc : g.n ≤ c) (hm : c ≤ maxLen) :
    LogW (w.setCell ⟨p.bb, i, none⟩ (sl nb o g.n c)) b (upd R nb .fz) { g with B := upd g.B i f } p := by
  have h := h0.ext (ext_upd .fz hR) (big_upd .fz h0.big hr.lt)
  have hnb : upd R nb .fz nb = .fz := upd_same _ _ _
  generalize upd R nb .fz = R' at *
  have F : Fr (fun k => k = p.bb) w (w.setCell ⟨p.bb, i, none⟩ (sl nb o g.n c)) := (Fr.refl (fun k => k = p.bb) w).setCell (p := ⟨p.bb, i, none⟩) (.inl rfl) _
  obtain ⟨q3, cur1, q4, q6⟩ := h.c0
  obtain ⟨r3, cur2, r4, r6⟩ := h.b0
  have ne : ∀ k r, R' k = r → r ≠ .brow → ¬ (k = p.bb) := fun k r h1 h2 e => h2 (by rw [← h1, e, r3])
  have nS : ∀ k r, r ≠ .brow → k = p.bb → R' k ≠ r := fun k r h1 e e2 => h1 (by rw [← e2, e, r3])
  refine ⟨h.top, F.heap h.blk (ne _ _ h.top (by simp)), h.cc, h.bd, ⟨q3, cur1, F.heap q4 (ne _ _ q3 (by simp)), q6⟩, fun j hj => ⟨(h.c1 j hj).1, (h.c1 j hj).2.fr F (ne _ _ (h.c1 j hj).1 (by simp))⟩,
    ⟨r3, _, heapSet r4 _ _, fun j hj => ?_⟩,
    h.m.fr F (fun k hk => ⟨nS k _ (by simp) hk, fun z => ⟨nS k _ (by simp) hk, nS k _ (by simp) hk, fun i => nS k _ (by simp) hk⟩⟩), h.l.fr F (fun k hk => ⟨nS k _ (by simp) hk, nS k _ (by simp) hk⟩), fun k hk => h.big k (Nat.le_trans F.size hk), h.n64, h.n0⟩
  show ∃ v, _ ∧ BAt _ _ _ _ (upd g.B i f j)
  rw [Array.getElem?_setIfInBounds]
  by_cases e : j = i
  · subst e
    obtain ⟨v, e1, _⟩ := r6 j hj
    rw [if_pos rfl, if_pos (Array.getElem?_eq_some_iff.1 e1).1, upd_same]
    exact ⟨_, rfl, nb, o, c, rfl, hnb, hr.fr F (ne _ _ hnb (by simp)), hc, hm⟩
  · obtain ⟨v, e1, e2⟩ := r6 j hj
    rw [if_neg (Ne.symm e), upd_other _ _ e]
    exact ⟨v, e1, e2.fr F (fun k hk => nS k _ (by simp) hk)⟩

/-- One cell is written; others stay. -/
theorem LogW.setM {w w' : World} {b : Nat} {R : Nat → Role} {g : LG} {p : LP} (h : LogW w b R g p) {z : Int} {x y : Cel} (hx : g.M z = some x) {S : Nat → Prop} (F : Fr S w w') (hS : ∀ k, S k → R k = .cel z ∨ R k = .cclk z ∨ ∃ i, R k = .tal z i)
    (hy : IsCel w' R g.n z (p.cb z) y) : LogW w' b R { g with M := updM g.M z y } p := by
  obtain ⟨q3, cur1, q4, q6⟩ := h.c0
  obtain ⟨r3, cur2, r4, r6⟩ := h.b0
  have nS : ∀ k r, S k → (r ≠ .cel z ∧ r ≠ .cclk z ∧ ∀ i, r ≠ .tal z i) → R k ≠ r := fun k r hk hr e => by
    rcases hS k hk with h | h | ⟨i, h⟩
    · exact hr.1 (e.symm.trans h)
    · exact hr.2.1 (e.symm.trans h)
    · exact hr.2.2 i (e.symm.trans h)
  have ne : ∀ k r, R k = r → (r ≠ .cel z ∧ r ≠ .cclk z ∧ ∀ i, r ≠ .tal z i) → ¬ S k := fun k r h1 h2 e => nS k r e h2 h1
  obtain ⟨m0, D, m1, m2, m4, m5⟩ := h.m
  refine ⟨h.top, F.heap h.blk (ne _ _ h.top (by simp)), h.cc, h.bd, ⟨q3, cur1, F.heap q4 (ne _ _ q3 (by simp)), q6⟩, fun j hj => ⟨(h.c1 j hj).1, (h.c1 j hj).2.fr F (ne _ _ (h.c1 j hj).1 (by simp))⟩,
    ⟨r3, cur2, F.heap r4 (ne _ _ r3 (by simp)), fun i hi => by obtain ⟨v, e, h1⟩ := r6 i hi; exact ⟨v, e, h1.fr F (fun k hk => nS k _ hk (by simp))⟩⟩,
    ⟨m0, D, ownsMap.fr m1 F (ne _ _ m0 (by simp)), m2, fun u => ?_, fun u v hu => ?_⟩, h.l.fr F (fun k hk => ⟨nS k _ hk (by simp), nS k _ hk (by simp)⟩), fun k hk => h.big k (Nat.le_trans F.size hk), h.n64, h.n0⟩
  · rw [m4 u]
    show _ = match updM g.M z y u with | none => _ | some _ => _
    unfold updM
    by_cases e : u = z
    · subst e; rw [if_pos rfl, hx]
    · rw [if_neg e]; cases g.M u <;> rfl
  · have hu : updM g.M z y u = some v := hu
    unfold updM at hu
    by_cases e : u = z
    · subst e; rw [if_pos rfl] at hu; cases hu; exact hy
    · rw [if_neg e] at hu
      exact (m5 u v hu).fr F (fun k hk => ⟨nS k _ hk ⟨(by intro e2; cases e2; exact e rfl), by simp, by simp⟩, nS k _ hk ⟨by simp, (by intro e2; cases e2; exact e rfl), by simp⟩, fun i => nS k _ hk ⟨by simp, by simp, fun i e2 => by cases e2; exact e rfl⟩⟩)

/-- A worker's clock is written. -/
theorem LogW.setC {w w' : World} {b : Nat} {R : Nat → Role} {g : LG} {p : LP} (h : LogW w b R g p) {i : Nat} (hi : i < g.n) {f : Nat → Nat} (F : Fr (fun k => k = p.ck i) w w') (hr : Row w' (p.ck i) 0 g.n f) : LogW w' b R { g with C := upd g.C i f } p := by
  obtain ⟨q3, cur1, q4, q6⟩ := h.c0
  obtain ⟨r3, cur2, r4, r6⟩ := h.b0
  have hc := (h.c1 i hi).1
  have ne : ∀ k r, R k = r → r ≠ .clk i → ¬ (k = p.ck i) := fun k r h1 h2 e => h2 (by rw [← h1, e, hc])
  have nS : ∀ k r, r ≠ .clk i → k = p.ck i → R k ≠ r := fun k r h1 e e2 => h1 (by rw [← e2, e, hc])
  refine ⟨h.top, F.heap h.blk (ne _ _ h.top (by simp)), h.cc, h.bd, ⟨q3, cur1, F.heap q4 (ne _ _ q3 (by simp)), q6⟩, fun j hj => ⟨(h.c1 j hj).1, ?_⟩,
    ⟨r3, cur2, F.heap r4 (ne _ _ r3 (by simp)), fun i hi => by obtain ⟨v, e, h1⟩ := r6 i hi; exact ⟨v, e, h1.fr F (fun k hk => nS k _ (by simp) hk)⟩⟩,
    h.m.fr F (fun k hk => ⟨nS k _ (by simp) hk, fun z => ⟨nS k _ (by simp) hk, nS k _ (by simp) hk, fun i => nS k _ (by simp) hk⟩⟩), h.l.fr F (fun k hk => ⟨nS k _ (by simp) hk, nS k _ (by simp) hk⟩), fun k hk => h.big k (Nat.le_trans F.size hk), h.n64, h.n0⟩
  show Row w' (p.ck j) 0 g.n (upd g.C i f j)
  by_cases e : j = i
  · subst e; rw [upd_same]; exact hr
  · rw [upd_other _ _ e]
    exact (h.c1 j hj).2.fr F (ne _ _ (h.c1 j hj).1 (fun e2 => e (by cases e2; rfl)))

/-- A cell's parts. -/
structure CelP where
  c0 : Nat
  co : Nat
  cc : Nat
  t : Nat → Nat
structure CelW (w : World) (R : Nat → Role) (n : Nat) (z : Int) (b : Nat) (x : Cel) (q : CelP) : Prop where
  r : R b = .cel z
  blk : w.heap[b]? = some (.cells #[sl q.c0 q.co n q.cc, sl (q.t 0) 0 n n, sl (q.t 1) 0 n n, sl (q.t 2) 0 n n, sl (q.t 3) 0 n n] 55 (0, 0))
  cc : n ≤ q.cc ∧ q.cc ≤ maxLen
  c : R q.c0 = .cclk z ∧ Row w q.c0 q.co n x.c
  t : ∀ k, k < 4 → R (q.t k) = .tal z k ∧ Row w (q.t k) 0 n (x.t k)
theorem CelW.of {w : World} {R : Nat → Role} {n : Nat} {z : Int} {b : Nat} {x : Cel} (h : IsCel w R n z b x) : ∃ q, CelW w R n z b x q := by
  obtain ⟨h0, c0, co, cc, t0, t1, t2, t3, h1, h2, h3, h4, h5, a, b, c, d⟩ := h
  refine ⟨⟨c0, co, cc, tF t0 t1 t2 t3⟩, h0, h1, ⟨h2, h3⟩, ⟨h4, h5⟩, fun k hk => ?_⟩
  match k, hk with
  | 0, _ => exact a
  | 1, _ => exact b
  | 2, _ => exact c
  | 3, _ => exact d
theorem CelW.is {w : World} {R : Nat → Role} {n : Nat} {z : Int} {b : Nat} {x : Cel} {q : CelP} (h : CelW w R n z b x q) : IsCel w R n z b x :=
  ⟨h.r, _, _, _, _, _, _, _, h.blk, h.cc.1, h.cc.2, h.c.1, h.c.2, h.t 0 (by omega), h.t 1 (by omega), h.t 2 (by omega), h.t 3 (by omega)⟩
theorem LogW.cel {w : World} {b : Nat} {R : Nat → Role} {g : LG} {p : LP} (h : LogW w b R g p) {z : Int} {x : Cel} (hx : g.M z = some x) : IsCel w R g.n z (p.cb z) x := by
  obtain ⟨_, _, _, _, _, m5⟩ := h.m
  exact m5 z x hx
/-- A cell's clock is laid anew. -/
theorem LogW.setX {w : World} {b : Nat} {R : Nat → Role} {g : LG} {p : LP} (h0 : LogW w b R g p) {z : Int} {x : Cel} (hx : g.M z = some x) {nb o c : Nat} {f : Nat → Nat} (hR : R nb = .no) (hr : Row w nb o g.n f) (hc : g.n ≤ c) (hm : c ≤ maxLen) :
    LogW (w.setCell ⟨p.cb z, 0, none⟩ (sl nb o g.n c)) b (upd R nb (.cclk z)) { g with M := updM g.M z ⟨f, x.t⟩ } p := by
  have h := h0.ext (ext_upd (.cclk z) hR) (big_upd (.cclk z) h0.big hr.lt)
  have hnb : upd R nb (.cclk z) nb = .cclk z := upd_same _ _ _
  generalize upd R nb (.cclk z) = R' at *
  have F : Fr (fun k => k = p.cb z) w (w.setCell ⟨p.cb z, 0, none⟩ (sl nb o g.n c)) := (Fr.refl (fun k => k = p.cb z) w).setCell (p := ⟨p.cb z, 0, none⟩) (.inl rfl) _
  obtain ⟨q, hq⟩ := CelW.of (h.cel hx)
  have ne : ∀ k r, R' k = r → r ≠ .cel z → ¬ (k = p.cb z) := fun k r h1 h2 e => h2 (by rw [← h1, e, hq.r])
  refine h.setM hx F (fun k hk => .inl (by rw [hk]; exact hq.r)) (CelW.is (q := ⟨nb, o, c, q.t⟩) ⟨hq.r, ?_, ⟨hc, hm⟩, ⟨hnb, hr.fr F (ne _ _ hnb (by simp))⟩, fun k hk => ⟨(hq.t k hk).1, (hq.t k hk).2.fr F (ne _ _ (hq.t k hk).1 (by simp))⟩⟩)
  exact heapSet hq.blk _ _
/-- A tally is written. -/
theorem LogW.setT {w w' : World} {b : Nat} {R : Nat → Role} {g : LG} {p : LP} (h : LogW w b R g p) {z : Int} {x : Cel} (hx : g.M z = some x) {q : CelP} (hq : CelW w R g.n z (p.cb z) x q) {k : Nat} (hk : k < 4) {f : Nat → Nat} (F : Fr (fun j => j = q.t k) w w') (hr : Row w' (q.t k) 0 g.n f) :
    LogW w' b R { g with M := updM g.M z ⟨x.c, upd x.t k f⟩ } p := by
  have hc := (hq.t k hk).1
  have ne : ∀ j r, R j = r → r ≠ .tal z k → ¬ (j = q.t k) := fun j r h1 h2 e => h2 (by rw [← h1, e, hc])
  refine h.setM hx F (fun j hj => .inr (.inr ⟨k, by rw [hj]; exact hc⟩)) (CelW.is (q := q) ⟨hq.r, F.heap hq.blk (ne _ _ hq.r (by simp)), hq.cc, ⟨hq.c.1, hq.c.2.fr F (ne _ _ hq.c.1 (by simp))⟩, fun j hj => ⟨(hq.t j hj).1, ?_⟩⟩)
  show Row w' (q.t j) 0 g.n (upd x.t k f j)
  by_cases e : j = k
  · subst e; rw [upd_same]; exact hr
  · rw [upd_other _ _ e]
    exact (hq.t j hj).2.fr F (ne _ _ (hq.t j hj).1 (fun e2 => e (by cases e2; rfl)))
/-- Another record. -/
theorem LogW.addL {w w' : World} {b : Nat} {R : Nat → Role} {g : LG} {p : LP} (h : LogW w b R g p) {d : Dn} {v v' : Value} (hb : BAt w R g.n v d.base) {E : List (Dn × Nat × Nat × Nat)} (hE : E.map (·.1) = g.L)
    (hv : OwnsWin w 0 61 3 p.vl E.length (E.flatMap (dv g.n))) (hEb : ∀ e ∈ E, R e.2.1 = .fz ∧ Row w e.2.1 e.2.2.1 g.n e.1.base ∧ g.n ≤ e.2.2.2 ∧ e.2.2.2 ≤ maxLen) (hvr : ∀ k, p.vl.ownBlock = some k → R k = .lrow)
    (ho : OwnsWin w' 0 61 3 v' (E.length + 1) (E.flatMap (dv g.n) ++ [.int .i64 (d.who : Int), .int .i64 (d.own : Int), v])) (hg : w.grownBy w' p.vl.ownBlock)
    (hs : ∀ k, v'.ownBlock = some k → p.vl.ownBlock = some k ∨ w.heap.size ≤ k) :
    ∃ R', (∀ k, k < w.heap.size → R' k = R k) ∧ LogW (w'.setCell ⟨b, 4, none⟩ v') b R' { g with L := g.L ++ [d] } { p with vl := v' } := by
  obtain ⟨R', hR'⟩ : ∃ R' : Nat → Role, R' = fun k => if k < w.heap.size then R k else if v'.ownBlock = some k then .lrow else .no := ⟨_, rfl⟩
  have old : ∀ k, k < w.heap.size → R' k = R k := fun k hk => by rw [hR']; exact if_pos hk
  have hext : Ext w R R' := fun k hk _ => old k hk
  have own : ∀ k, v'.ownBlock = some k → R' k = .lrow := fun k hk => by
    by_cases hl : k < w.heap.size
    · rw [old k hl]
      rcases hs k hk with e | e
      · exact hvr k e
      · omega
    · rw [hR']; simp only; rw [if_neg hl, if_pos hk]
  have g1 : Fr (fun k => p.vl.ownBlock = some k ∨ k = b) w w' := (Fr.refl _ w).grown hg (fun k e => .inl (.inl e))
  have F := g1.setCell (p := ⟨b, 4, none⟩) (.inl (.inr rfl)) v'
  have htop : R' b = .top := (old b (ltOf h.blk)).trans h.top
  have hvr' : ∀ k, p.vl.ownBlock = some k → R' k = .lrow := fun k hk => (old k (hv.lt k hk).2).trans (hvr k hk)
  have hbl : w'.heap[b]? = some (.cells #[.int .i64 (g.n : Int), sl p.bc 0 g.n p.cc, sl p.bb 0 g.n p.bd, .map (some p.mb), p.vl] 46 (0, 0)) := heapGrown hg h.blk (fun e => by have := hvr' b e.symm; rw [htop] at this; cases this)
  have nS : ∀ k r, (p.vl.ownBlock = some k ∨ k = b) → (r ≠ .lrow ∧ r ≠ .top) → R' k ≠ r := fun k r hk hr e => by
    rcases hk with e2 | e2
    · exact hr.1 (e.symm.trans (hvr' k e2))
    · exact hr.2 (by rw [← e, e2, htop])
  have ne : ∀ k r, R' k = r → (r ≠ .lrow ∧ r ≠ .top) → ¬ (p.vl.ownBlock = some k ∨ k = b) := fun k r h1 h2 e => nS k r e h2 h1
  have big' : ∀ k, (w'.setCell ⟨b, 4, none⟩ v').heap.size ≤ k → R' k = .no := fun k hk => by
    have h1 := hg.size
    have h2 : (w'.setCell ⟨b, 4, none⟩ v').heap.size = w'.heap.size := by simp [World.setCell]
    rw [hR']; simp only
    rw [if_neg (by omega), if_neg (fun e => by have := (ho.lt k e).2; omega)]
  obtain ⟨q3, cur1, q4, q6⟩ := h.c0
  obtain ⟨r3, cur2, r4, r6⟩ := h.b0
  have q3 := hext.at_ (ltOf q4) q3 (by simp)
  have r3 := hext.at_ (ltOf r4) r3 (by simp)
  have hc1 : ∀ i, i < g.n → R' (p.ck i) = .clk i := fun i hi => hext.at_ (h.c1 i hi).2.lt (h.c1 i hi).1 (by simp)
  obtain ⟨nb, o, c, rfl, b1, b2, b3, b4⟩ := (hb.role hext).fr F (fun k hk => nS k _ hk (by simp))
  have ho' : OwnsWin (w'.setCell ⟨b, 4, none⟩ v') 0 61 3 v' (E.length + 1) (E.flatMap (dv g.n) ++ [.int .i64 (d.who : Int), .int .i64 (d.own : Int), sl nb o g.n c]) :=
    ho.fr ((Fr.refl (fun k => k = b) w').setCell (p := ⟨b, 4, none⟩) (.inl rfl) v') (fun k hk e => by have := own k hk; rw [e, htop] at this; cases this)
  refine ⟨R', old, htop, heapSet hbl 4 v', h.cc, h.bd, ⟨q3, cur1, F.heap q4 (ne _ _ q3 (by simp)), q6⟩, fun j hj => ⟨hc1 j hj, (h.c1 j hj).2.fr F (ne _ _ (hc1 j hj) (by simp))⟩,
    ⟨r3, cur2, F.heap r4 (ne _ _ r3 (by simp)), fun i hi => by obtain ⟨v, e, h1⟩ := r6 i hi; exact ⟨v, e, (h1.role hext).fr F (fun k hk => nS k _ hk (by simp))⟩⟩,
    (h.m.ext hext).fr F (fun k hk => ⟨nS k _ hk (by simp), fun z => ⟨nS k _ hk (by simp), nS k _ hk (by simp), fun i => nS k _ hk (by simp)⟩⟩),
    ⟨E ++ [(d, nb, o, c)], by rw [List.map_append, hE]; rfl, ?_, own, fun e he => ?_⟩, big', h.n64, h.n0⟩
  · rw [List.flatMap_append]
    have : (E ++ [(d, nb, o, c)]).length = E.length + 1 := by simp
    rw [this]
    simpa [dv] using ho'
  · rcases List.mem_append.1 he with he | he
    · obtain ⟨e1, e2, e3⟩ := hEb e he
      have e1' : R' e.2.1 = .fz := hext.at_ e2.lt e1 (by simp)
      exact ⟨e1', e2.fr F (ne _ _ e1' (by simp)), e3⟩
    · obtain rfl : e = (d, nb, o, c) := by simpa using he
      exact ⟨b1, b2, b3, b4⟩
end Go.Proofs.Ytmfkomdfknflgaa
