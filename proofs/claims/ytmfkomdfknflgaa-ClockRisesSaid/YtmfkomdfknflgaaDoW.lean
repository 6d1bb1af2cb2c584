/- Do: between its steps. -/
import Derived.Test.YtmfkomdfknflgaaWr
namespace Go.Proofs.Ytmfkomdfknflgaa
open Go.RowKit Go.Maps Go.ChangeShapes Go.WideShapes Go.ChangeAt Go.WideMaps Go.WideElems

structure DoS (w : World) (b : Nat) (R : Nat → Role) (BX : List (Nat × Obj)) (W : World) (R' : Nat → Role) (g : LG) (p : LP) : Prop where
  lg : LogW W b R' g p
  fr : Fr (fun k => R k ≠ .no) w W
  rl : ∀ k, k < w.heap.size → R' k = R k
  bx : ∀ y ∈ BX, W.heap[y.1]? = some y.2 ∧ R' y.1 = .no
theorem DoS.step {w W W' : World} {b : Nat} {R R1 R2 : Nat → Role} {BX : List (Nat × Obj)} {g1 g2 : LG} {p1 p2 : LP} {S : Nat → Prop} (h : DoS w b R BX W R1 g1 p1) (F : Fr S W W') (hS : ∀ k, S k → R1 k ≠ .no) (hl : LogW W' b R2 g2 p2) (hR : ∀ k, k < W.heap.size → R2 k = R1 k) : DoS w b R BX W' R2 g2 p2 :=
  ⟨hl, h.fr.step F (fun k hk => by
      by_cases e : k < w.heap.size
      · exact .inl (by rw [← h.rl k e]; exact hS k hk)
      · exact .inr (by omega)), fun k hk => (hR k (Nat.lt_of_lt_of_le hk h.fr.size)).trans (h.rl k hk),
    fun y hy => ⟨F.heap (h.bx y hy).1 (fun e => hS _ e (h.bx y hy).2), (hR _ (ltOf (h.bx y hy).1)).trans (h.bx y hy).2⟩⟩
theorem DoS.fr0 {w W W' : World} {b : Nat} {R R1 : Nat → Role} {BX : List (Nat × Obj)} {g : LG} {p : LP} (h : DoS w b R BX W R1 g p) (F : Fr (fun _ => False) W W') : DoS w b R BX W' R1 g p :=
  h.step F (fun _ e => e.elim) (h.lg.fr F (fun _ e => e.elim)) (fun _ _ => rfl)
theorem DoS.box {w W : World} {b : Nat} {R R1 : Nat → Role} {BX : List (Nat × Obj)} {g : LG} {p : LP} (h : DoS w b R BX W R1 g p) (o : Obj) : DoS w b R ((W.heap.size, o) :: BX) (W.alloc o) R1 g p := by
  have h2 := h.fr0 ((Fr.refl (fun _ => False) W).alloc o)
  refine ⟨h2.lg, h2.fr, h2.rl, fun y hy => ?_⟩
  rcases List.mem_cons.1 hy with rfl | hy
  · exact ⟨heapNew W o, h.lg.big _ (Nat.le_refl _)⟩
  · exact h2.bx y hy
/-- A box is written. -/
theorem DoS.put {w W : World} {b : Nat} {R R1 : Nat → Role} {BX : List (Nat × Obj)} {g : LG} {p : LP} {s : Nat} {c : Array Value} {t : TypeId} {i : Nat} {v : Value} (h : DoS w b R ((s, .cells c t (0, 0)) :: BX) W R1 g p) (hs : w.heap.size ≤ s) (hd : ∀ y ∈ BX, y.1 ≠ s) :
    DoS w b R ((s, .cells (c.setIfInBounds i v) t (0, 0)) :: BX) (W.setCell ⟨s, i, none⟩ v) R1 g p := by
  have h1 := h.bx _ (List.mem_cons_self ..)
  have F : Fr (fun k => k = s) W (W.setCell ⟨s, i, none⟩ v) := (Fr.refl (fun k => k = s) W).setCell (p := ⟨s, i, none⟩) (.inl rfl) v
  refine ⟨h.lg.fr F (fun k hk => by rw [hk]; exact h1.2), h.fr.step F (fun k hk => .inr (by omega)), h.rl, fun y hy => ?_⟩
  rcases List.mem_cons.1 hy with rfl | hy
  · exact ⟨heapSet h1.1 _ _, h1.2⟩
  · exact ⟨F.heap (h.bx y (List.mem_cons_of_mem _ hy)).1 (hd y hy), (h.bx y (List.mem_cons_of_mem _ hy)).2⟩

def AtQ (w : World) (b : Nat) (R : Nat → Role) (BX : List (Nat × Obj)) (g : LG) (p : LP) (z : Int) (W : World) (e : Ending) (W' : World) : Prop :=
  ∃ R2 p2, e = .returned (.pointer (some ⟨p2.cb z, 0, none⟩)) ∧ DoS w b R BX W' R2 { g with M := updM g.M z (celOf g z) } p2 ∧ p2.bc = p.bc ∧ p2.cc = p.cc ∧ p2.bb = p.bb ∧ p2.bd = p.bd ∧ p2.ck = p.ck ∧ p2.vl = p.vl ∧ p2.m = p.m + 1 ∧ Fr (fun k => k = p.mb) W W'
/-- at, between. -/
theorem DoS.at_ {w W : World} {b : Nat} {R R1 : Nat → Role} {BX : List (Nat × Obj)} {g : LG} {p : LP} (h : DoS w b R BX W R1 g p) {z : Int} (hz : -9223372036854775808 ≤ z ∧ z ≤ 9223372036854775807) (hm : p.m ≤ 1000000) :
    Calls Try.prog 21 #[.pointer (some ⟨b, 0, none⟩), .int .i64 z] W (AtQ w b R BX g p z W) := by
  have fin : ∀ e W', AtP W R1 g.n p.m g.M p.mb z e W' → AtQ w b R BX g p z W e W' := by
    rintro e W' ⟨R2, cb', rfl, h1, F, h3, h4⟩
    have hmb : R1 p.mb = .mp := h.lg.m.1
    have nS : ∀ k r, k = p.mb → r ≠ .mp → R1 k ≠ r := fun k r e hr e2 => hr (by rw [← e2, e, hmb])
    have ne : ∀ k r, R1 k = r → r ≠ .mp → ¬ (k = p.mb) := fun k r h1 h2 e => nS k r e h2 h1
    have hext : Ext W R1 R2 := fun k hk _ => h3 k hk
    refine ⟨R2, { p with cb := cb', m := p.m + 1 }, rfl, ?_, rfl, rfl, rfl, rfl, rfl, rfl, rfl, F⟩
    have L := h.lg
    obtain ⟨q3, cur1, q4, q6⟩ := L.c0
    obtain ⟨r3, cur2, r4, r6⟩ := L.b0
    have hl : LogW W' b R1 { g with M := g.M } p → True := fun _ => trivial
    refine h.step F (fun k hk => by rw [hk, hmb]; simp) (g2 := { g with M := updM g.M z (celOf g z) }) (p2 := { p with cb := cb', m := p.m + 1 }) ?_ h3
    have lt2 : ∀ k, k < W.heap.size → k < W'.heap.size := fun k hk => Nat.lt_of_lt_of_le hk F.size
    exact ⟨(h3 _ (ltOf L.blk)).trans L.top, F.heap L.blk (ne _ _ L.top (by simp)), L.cc, L.bd, ⟨(h3 _ (ltOf q4)).trans q3, cur1, F.heap q4 (ne _ _ q3 (by simp)), q6⟩, fun j hj => ⟨(h3 _ (L.c1 j hj).2.lt).trans (L.c1 j hj).1, (L.c1 j hj).2.fr F (ne _ _ (L.c1 j hj).1 (by simp))⟩,
      ⟨(h3 _ (ltOf r4)).trans r3, cur2, F.heap r4 (ne _ _ r3 (by simp)), fun i hi => by
        obtain ⟨v, e, h1⟩ := r6 i hi
        exact ⟨v, e, (h1.role hext).fr F (fun k hk => by rw [hk]; intro e2; have := h3 p.mb h.lg.m.2.choose_spec.1.lt; rw [e2, hmb] at this; cases this)⟩⟩,
      h1, (L.l.ext hext).fr F (fun k hk => by
        have := h3 p.mb h.lg.m.2.choose_spec.1.lt
        rw [hk, this, hmb]; simp), h4, L.n64, L.n0⟩
  have hb : b ≠ p.mb := fun e => by have h1 := h.lg.top; have h2 := h.lg.m.1; rw [e, h2] at h1; cases h1
  cases hx : g.M z with
  | none => exact (at_new W R1 b g.n p.m g.M p.mb p.cb _ _ _ z h.lg.blk h.lg.m h.lg.big hz hx h.lg.n64 hm hb).mono fin
  | some x => exact (at_old W R1 b g.n p.m g.M p.mb p.cb _ _ _ z x h.lg.blk h.lg.m h.lg.big hz hx).mono fin

theorem upd_upd {α : Type} (f : Nat → α) (i : Nat) (x y : α) : upd (upd f i x) i y = upd f i y := funext fun j => by unfold upd; by_cases e : j = i <;> simp [e]
theorem updM_updM (M : Int → Option Cel) (z : Int) (x y : Cel) : updM (updM M z x) z y = updM M z y := funext fun j => by unfold updM; by_cases e : j = z <;> simp [e]
theorem updM_same (M : Int → Option Cel) (z : Int) (x : Cel) : updM M z x z = some x := if_pos rfl

/-- Another's block is written. -/
theorem DoS.out {w W W' : World} {b s : Nat} {R R1 : Nat → Role} {BX BX' : List (Nat × Obj)} {g : LG} {p : LP} (h : DoS w b R BX W R1 g p) (F : Fr (fun k => k = s) W W') (hs : w.heap.size ≤ s) (hr : R1 s = .no) (hB : ∀ y ∈ BX', y ∈ BX ∧ y.1 ≠ s) : DoS w b R BX' W' R1 g p :=
  ⟨h.lg.fr F (fun k hk => by rw [hk]; exact hr), h.fr.step F (fun k hk => .inr (by omega)), h.rl, fun y hy => ⟨F.heap (h.bx y (hB y hy).1).1 (hB y hy).2, (h.bx y (hB y hy).1).2⟩⟩
theorem DoS.more {w W : World} {b : Nat} {R R1 : Nat → Role} {BX : List (Nat × Obj)} {g : LG} {p : LP} (h : DoS w b R BX W R1 g p) {s : Nat} {o : Obj} (hb : W.heap[s]? = some o) (hr : R1 s = .no) : DoS w b R ((s, o) :: BX) W R1 g p :=
  ⟨h.lg, h.fr, h.rl, fun y hy => by
    rcases List.mem_cons.1 hy with rfl | hy
    · exact ⟨hb, hr⟩
    · exact h.bx y hy⟩
theorem CelW.fr0 {w w' : World} {R : Nat → Role} {n : Nat} {z : Int} {b : Nat} {x : Cel} {q : CelP} (h : CelW w R n z b x q) (F : Fr (fun _ => False) w w') : CelW w' R n z b x q :=
  ⟨h.r, F.heap h.blk (by simp), h.cc, ⟨h.c.1, h.c.2.fr F (by simp)⟩, fun k hk => ⟨(h.t k hk).1, (h.t k hk).2.fr F (by simp)⟩⟩
theorem idxCel (q : CelP) (n : Nat) {k : Nat} (h : k < 4) : (#[sl q.c0 q.co n q.cc, sl (q.t 0) 0 n n, sl (q.t 1) 0 n n, sl (q.t 2) 0 n n, sl (q.t 3) 0 n n] : Array Value)[1 + k]? = some (sl (q.t k) 0 n n) := by
  match k, h with
  | 0, _ => rfl
  | 1, _ => rfl
  | 2, _ => rfl
  | 3, _ => rfl
/-- A base, laid: a clone of what was there. -/
theorem DoS.base {w W W6 : World} {b : Nat} {R R1 : Nat → Role} {BX : List (Nat × Obj)} {g : LG} {p : LP} (h : DoS w b R BX W R1 g p) {i nb o c : Nat} (hi : i < g.n) {f : Nat → Nat} (F6 : Fr (fun _ => False) W W6) (hnb : W.heap.size ≤ nb) (hr : Row W6 nb o g.n f) (hc : g.n ≤ c) (hm : c ≤ maxLen) :
    DoS w b R BX (W6.setCell ⟨p.bb, i, none⟩ (sl nb o g.n c)) (upd R1 nb .fz) { g with B := upd g.B i f } p := by
  have F : Fr (fun k => k = p.bb) W W6 := F6.mono (fun _ _ e => e.elim)
  refine h.step (S := fun k => k = p.bb) (F.setCell (p := ⟨p.bb, i, none⟩) (.inl rfl) _) (fun k hk => by rw [hk, h.lg.b0.1]; simp) ((h.lg.fr F6 (fun _ e => e.elim)).setB hi (h.lg.big _ hnb) hr hc hm) (fun k hk => upd_other _ _ (by omega))
/-- A cell's clock, laid anew. -/
theorem DoS.clk {w W W6 : World} {b : Nat} {R R1 : Nat → Role} {BX : List (Nat × Obj)} {g : LG} {p : LP} (h : DoS w b R BX W R1 g p) {z : Int} {x : Cel} (hx : g.M z = some x) {nb o c : Nat} {f : Nat → Nat} (F6 : Fr (fun _ => False) W W6) (hnb : W.heap.size ≤ nb) (hr : Row W6 nb o g.n f) (hc : g.n ≤ c) (hm : c ≤ maxLen) :
    DoS w b R BX (W6.setCell ⟨p.cb z, 0, none⟩ (sl nb o g.n c)) (upd R1 nb (.cclk z)) { g with M := updM g.M z ⟨f, x.t⟩ } p := by
  have F : Fr (fun k => k = p.cb z) W W6 := F6.mono (fun _ _ e => e.elim)
  refine h.step (S := fun k => k = p.cb z) (F.setCell (p := ⟨p.cb z, 0, none⟩) (.inl rfl) _) (fun k hk => by rw [hk, (h.lg.cel hx).1]; simp) ((h.lg.fr F6 (fun _ e => e.elim)).setX hx (h.lg.big _ hnb) hr hc hm) (fun k hk => upd_other _ _ (by omega))
/-- The clock of a worker is joined with a cell's. -/
theorem DoS.join {w W : World} {b : Nat} {R R1 : Nat → Role} {BX : List (Nat × Obj)} {g : LG} {p : LP} (h : DoS w b R BX W R1 g p) {i : Nat} (hi : i < g.n) {z : Int} {x : Cel} {q : CelP} (hq : CelW W R1 g.n z (p.cb z) x q) (c1 c2 : Nat) :
    ∀ W1, Fr (fun _ => False) W W1 → Calls Try.prog 22 #[.slice (some ⟨p.ck i, 0, none⟩) g.n c1, .slice (some ⟨q.c0, q.co, none⟩) g.n c2] W1 fun e w' => e = .returned (.tuple #[]) ∧ DoS w b R BX w' R1 { g with C := upd g.C i fun j => max (g.C i j) (x.c j) } p ∧ Fr (fun k => k = p.ck i) W w' := by
  intro W1 F1
  have h1 := h.fr0 F1
  have hck := h1.lg.c1 i hi
  have hne : q.c0 ≠ p.ck i := fun e => by have := hq.c.1; rw [e, hck.1] at this; cases this
  refine (join_any W1 (p.ck i) g.n c1 q.c0 q.co c2 (g.C i) x.c hck.2 (hq.c.2.fr F1 (by simp)) hne h.lg.n64).mono ?_
  rintro e w' ⟨rfl, hr, F⟩
  exact ⟨rfl, h1.step F (fun k hk => by rw [hk, hck.1]; simp) (h1.lg.setC hi F hr) (fun _ _ => rfl), (F1.mono (fun _ _ e => e.elim)).trans F⟩
/-- A tally is written. -/
theorem DoS.tal {w W : World} {b : Nat} {R R1 : Nat → Role} {BX : List (Nat × Obj)} {g : LG} {p : LP} (h : DoS w b R BX W R1 g p) {i : Nat} (hi : i < g.n) {z : Int} {x : Cel} (hx : g.M z = some x) {q : CelP} (hq : CelW W R1 g.n z (p.cb z) x q) {k : Nat} (hk : k < 4) (v : Nat) :
    DoS w b R BX (W.setCell ⟨q.t k, i, none⟩ (.int .i64 ((v : Nat) : Int))) R1 { g with M := updM g.M z ⟨x.c, upd x.t k (upd (x.t k) i v)⟩ } p := by
  have hr := (hq.t k hk).2.set hi v
  have F := (Fr.refl (fun j => j = q.t k) W).setCell (p := ⟨q.t k, i, none⟩) (.inl rfl) (.int .i64 ((v : Nat) : Int))
  exact h.step F (fun j hj => by rw [hj, (hq.t k hk).1]; simp) (h.lg.setT hx hq hk F hr) (fun _ _ => rfl)
/-- The end: what was deferred is taken. -/
theorem DoS.fin {w wc W9 : World} {b D : Nat} {R R3 R' : Nat → Role} {BX : List (Nat × Obj)} {g3 g5 : LG} {p2 p3 : LP} {S : Nat → Prop} (h : DoS w b R BX wc R3 g3 p2) (F : Fr S wc W9) (hS : ∀ k, S k → R3 k ≠ .no) (hl : LogW W9 b R' g5 p3) (hR : ∀ k, k < wc.heap.size → R' k = R3 k)
    (hm : p3.m ≤ g5.L.length) (hDr : R3 D = .no) (hDl : D < wc.heap.size) (hDw : w.heap.size ≤ D) :
    ∃ R', IsLog (W9.putObj D (.deferred none)) b R' g5 ∧ Fr (fun k => R k ≠ .no) w (W9.putObj D (.deferred none)) ∧ ∀ k, k < w.heap.size → R' k = R k := by
  have h2 := h.step F hS hl hR
  have FD : Fr (fun k => k = D) W9 (W9.putObj D (.deferred none)) := (Fr.refl (fun k => k = D) W9).putObj (.inl rfl) _
  exact ⟨R', (hl.fr FD (fun k hk => by rw [hk, hR D hDl]; exact hDr)).log hm, h2.fr.step FD (fun k hk => .inr (by omega)), h2.rl⟩
theorem okN_iN (g : LG) (i : Nat) (cell : Int) (wt at_ : Bool) : ((rvT (i : Int) wt at_ (celOf g cell) g.n 4).all fun y => decide (y.2 ≤ clkN g ⟨i, cell, wt, at_⟩ (iN g.n y.1))) = okN g ⟨i, cell, wt, at_⟩ := by
  unfold okN
  rw [Bool.eq_iff_iff]
  simp only [List.all_eq_true, decide_eq_true_eq]
  constructor
  · intro h y hy
    have := h y hy
    rwa [show iN g.n y.1 = y.1 from if_pos (rvT_mem _ _ _ _ _ _ y hy)] at this
  · intro h y hy
    rw [show iN g.n y.1 = y.1 from if_pos (rvT_mem _ _ _ _ _ _ y hy)]
    exact h y hy
end Go.Proofs.Ytmfkomdfknflgaa
