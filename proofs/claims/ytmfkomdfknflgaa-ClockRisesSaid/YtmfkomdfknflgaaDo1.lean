/- Do: the walk. -/
import Derived.Test.YtmfkomdfknflgaaDoW
import Derived.Test.YtmfkomdfknflgaaUntil
import Derived.Deep.RegionWith
import Derived.Deep.Cut
import Derived.Deep.CutRange
import Derived.Deep.RegionHeld3
import Derived.Deep.DeepCutAuto
namespace Go.Proofs.Ytmfkomdfknflgaa
open Go.RowKit Go.Maps Go.ChangeShapes Go.WideShapes Go.ChangeAt Go.WideMaps Go.WideElems

attribute [local go_sem] Oper.semAt_some

theorem grownBy_undrew {w w' : World} {row : Option Nat} (h : w.drew.grownBy w' row) : w.grownBy w' row := ⟨h.os, h.tape, h.output, h.size, h.block⟩
theorem isB_nat {n i : Nat} (h : i < n) : isB n (i : Int) = true := by unfold isB; simp; omega
def nP (Q : Act → World → Prop) : Exit → Act → World → Prop
  | .normal, a, w => Q a w
  | .ret, a, w => Q a w
  | _, _, _ => False
theorem wp_np {P : Program} {c : Code} {Q : Exit → Act → World → Prop} {a : Act} {w : World} (hn : ∀ a w, Q .ret a w → Q .normal a w) (h : c.wp P (nP fun a w => Q .ret a w) a w) : c.wp P Q a w :=
  wp_mono h fun e a w h => by
    cases e with
    | normal => exact hn a w h
    | ret => exact h
    | _ => exact False.elim h
set_option maxRecDepth 100000 in
set_option maxHeartbeats 4000000 in
theorem Do_any (w : World) (b : Nat) (R : Nat → Role) (g : LG) (i : Nat) (cell : Int) (wt at_ : Bool) (h : IsLog w b R g) (hi : i < g.n) (hz : -9223372036854775808 ≤ cell ∧ cell ≤ 9223372036854775807) (hc : g.C i i ≤ 1000000) (hL : g.L.length ≤ 100000) :
    Calls Try.prog 10 #[.pointer (some ⟨b, 0, none⟩), accV (i : Int) cell wt at_] w fun e w' => e = .returned (.bool (okN g ⟨i, cell, wt, at_⟩)) ∧ ∃ R', IsLog w' b R' (doN g ⟨i, cell, wt, at_⟩) ∧ Fr (fun k => R k ≠ .no) w w' ∧ (∀ k, k < w.heap.size → R' k = R k) := by
  obtain ⟨p, hpm, hlw⟩ := LogW.of h (by omega)
  have IS := Lib.hid (fun (W : World) (rest : List Value) (h : W.heap[b]? = some (.cells (Value.int .i64 (g.n : Int) :: rest).toArray 46 (0, 0))) => is_any W b g.n rest (0, 0) h (i : Int))
  rw [isB_nat hi] at IS
  unfold accV
  have D0 := Lib.hid (show DoS w b R [] w R g p from ⟨hlw, Fr.refl _ _, fun _ _ => rfl, fun y hy => by cases hy⟩)
  have D1 := Lib.hid (D0.out.box (.cells #[.int .i64 (i : Int), .int .i64 cell, .bool wt, .bool at_] 27))
  clear h D0
  have HB := Lib.hid D1.out.lg.blk
  obtain ⟨B1, hB1⟩ := D1.out.bx _ (List.mem_cons_self ..)
  have ba := cellOf B1 0
  simp at ba
  clear B1 hB1
  refine (callsIn_wide (n := 6)).1 ?_
  refine callsIn_of_wp_marks Try.func10 rfl trivial ?_ rfl
  refine wpIn_wide.2 ?_
  refine wp_np (fun _ _ h => h) ?_
  simp only [Try.ntmps10, List.size_toArray, List.length_cons, List.length_nil, Nat.reduceAdd, Nat.reduceSub, Array.replicate_succ, Array.replicate_zero, List.push_toArray, List.append_toArray, List.nil_append, List.cons_append]
  go_upto_region 3 with (go_at_call 20; refine Calls.mono (IS.out _ _ HB.out) ?_; rintro e w1 ⟨rfl, f1⟩; have D2 := Lib.hid (D1.out.fr0 f1); clear f1)
  go_cut [5, 6] from 15 to 26 (fun v5 v6 wx => ∃ (R2 : Nat → Role) (p2 : LP) (sc : Nat), v5 = .pointer (some ⟨sc, 0, none⟩) ∧ v6 = .pointer (some ⟨p2.cb cell, 0, none⟩) ∧ p2.m ≤ g.L.length + 1 ∧ w.heap.size < sc ∧
    Hid (DoS w b R [(sc, .cells #[sl (p2.ck i) 0 g.n g.n] 47), (w.heap.size, .cells #[.int .i64 (i : Int), .int .i64 cell, .bool wt, .bool at_] 27)] wx R2 { g with M := updM g.M cell (celOf g cell) } p2))
  case first =>
    obtain ⟨hcr, cur, hcur, hcv⟩ := D2.out.lg.c0
    have hcv := hcv i hi
    have kb1 := cellOf D2.out.lg.blk 1
    obtain ⟨B1, hB1⟩ := D2.out.bx _ (List.mem_cons_self ..)
    have ka0 := cellOf B1 0
    have ka1 := cellOf B1 1
    have kc := cellOf hcur i
    rw [hcv] at kc
    simp [sl] at kb1 ka0 ka1 kc
    have hm0 : p.m ≤ 1000000 := by omega
    have hcc := D2.out.lg.cc
    have hrm := D2.out.lg.m.1
    have n1 : b ≠ p.mb := fun e => by have h1 := D2.out.lg.top; rw [e, hrm] at h1; cases h1
    have n2 : w.heap.size ≠ p.mb := fun e => by have hB1 := hB1; simp only at hB1; rw [e, hrm] at hB1; cases hB1
    have n3 : p.bc ≠ p.mb := fun e => by rw [e, hrm] at hcr; cases hcr
    have L1 := ltOf D2.out.lg.blk
    have L2 := ltOf B1
    have L3 := ltOf hcur
    clear B1 hB1 hcr hcur hcv HB IS ba D1 hlw hrm
    have fo := (Fr.refl (fun _ => False) w1).alloc (.cells #[.slice none 0 0] 47)
    have kb1o := (fo.cell (p := ⟨b, 1, none⟩) L1 (by simp)).trans kb1
    have ka0o := (fo.cell (p := ⟨w.heap.size, 0, none⟩) L2 (by simp)).trans ka0
    have ka1o := (fo.cell (p := ⟨w.heap.size, 1, none⟩) L2 (by simp)).trans ka1
    have kco := (fo.cell (p := ⟨p.bc, i, none⟩) L3 (by simp)).trans kc
    have x1 := World.new_ne w1 _ kb1
    have x2 := World.new_ne w1 _ ka0
    have x3 := World.new_ne w1 _ kc
    clear fo
    go_region_held3 (fun w' => w'.cell? ⟨b, 1, none⟩ = some (.slice (some ⟨p.bc, 0, none⟩) g.n p.cc) ∧ w'.cell? ⟨w.heap.size, 0, none⟩ = some (.int .i64 (i : Int)) ∧ w'.cell? ⟨w.heap.size, 1, none⟩ = some (.int .i64 cell) ∧ w'.cell? ⟨p.bc, i, none⟩ = some (.slice (some ⟨p.ck i, 0, none⟩) g.n g.n))
      (first | exact ⟨kb1, ka0, ka1, kc⟩ | exact ⟨kb1o, ka0o, ka1o, kco⟩ | exact ⟨kb1', ka0', ka1', kc'⟩ | go_keep)
      (first
      | (go_at_call 21; refine ((D2.out.fr0 (by first | exact Fr.refl _ _ | exact (Fr.refl _ _).drew)).at_ hz hm0).mono ?_; rintro e w2 ⟨R2, p2, rfl, d3, -, -, -, -, e5, -, e7, f3⟩; have D3 := Lib.hid d3; have E5 := Lib.hid e5; have E7 := Lib.hid e7; have FF : Fr (fun k => k = p.mb) w1 w2 := (by first | exact f3 | exact (Fr.refl _ _).drew.trans f3 | exact ((Fr.refl _ _).alloc _).trans f3 | exact (((Fr.refl _ _).alloc _).drew).trans f3 | exact ((Fr.refl _ _).drew.alloc _).trans f3); have kb1' := (FF.cell (p := ⟨b, 1, none⟩) L1 n1).trans kb1; have ka0' := (FF.cell (p := ⟨w.heap.size, 0, none⟩) L2 n2).trans ka0; have ka1' := (FF.cell (p := ⟨w.heap.size, 1, none⟩) L2 n2).trans ka1; have kc' := (FF.cell (p := ⟨p.bc, i, none⟩) L3 n3).trans kc; have y1 := World.new_ne w2 _ kb1'; have y2 := World.new_ne w2 _ ka0'; have y3 := World.new_ne w2 _ kc'; clear d3 e5 e7 f3 FF)
      | (go_at_call 21; refine (((D2.out.box (.cells #[.slice none 0 0] 47)).fr0 (by first | exact Fr.refl _ _ | exact (Fr.refl _ _).drew)).at_ hz hm0).mono ?_; rintro e w2 ⟨R2, p2, rfl, d3, -, -, -, -, e5, -, e7, f3⟩; have D3 := Lib.hid d3; have E5 := Lib.hid e5; have E7 := Lib.hid e7; have hq := (d3.bx _ (List.mem_cons_self ..)).1; have q0 := cellOf hq 0; have q1 := frozenOf hq 0; clear hq; have FF : Fr (fun k => k = p.mb) w1 w2 := (by first | exact f3 | exact (Fr.refl _ _).drew.trans f3 | exact ((Fr.refl _ _).alloc _).trans f3 | exact (((Fr.refl _ _).alloc _).drew).trans f3 | exact ((Fr.refl _ _).drew.alloc _).trans f3); have kb1' := (FF.cell (p := ⟨b, 1, none⟩) L1 n1).trans kb1; have ka0' := (FF.cell (p := ⟨w.heap.size, 0, none⟩) L2 n2).trans ka0; have ka1' := (FF.cell (p := ⟨w.heap.size, 1, none⟩) L2 n2).trans ka1; have kc' := (FF.cell (p := ⟨p.bc, i, none⟩) L3 n3).trans kc; have y1 := World.new_ne w2 _ kb1'; have y2 := World.new_ne w2 _ ka0'; have y3 := World.new_ne w2 _ kc'; clear d3 e5 e7 f3 FF))
    all_goals go_wp2_with fail
    all_goals go_meet
    case rel =>
      have D4 := D3.out.box (.cells #[.slice (some ⟨p.ck i, 0, none⟩) g.n g.n] 47)
      refine ⟨R2, p2, _, rfl, rfl, by have := E7.out; omega, ltOf (D3.out.bx _ (List.mem_cons_self ..)).1, ?_⟩
      rw [E5.out]
      exact Lib.hid D4
    case rel =>
      have D4 := D3.out.put (i := 0) (v := .slice (some ⟨p.ck i, 0, none⟩) g.n g.n) (by have := D2.out.fr.size; exact this) (fun y hy => by
        rcases List.mem_cons.1 hy with rfl | hy
        · have := L2; simp only; omega
        · cases hy)
      refine ⟨R2, p2, _, rfl, rfl, by have := E7.out; omega, L2, ?_⟩
      rw [E5.out]
      exact Lib.hid D4
  case rest =>
    obtain ⟨R2, p2, sc, rfl, rfl, hm2, hsc, D3⟩ := hcut
    clear hlw hpm IS D1 HB ba D2
    obtain ⟨sa, hsa⟩ : ∃ sa, w.heap.size = sa := ⟨_, rfl⟩
    rw [hsa] at hsc D3 ⊢
    have HSA := Lib.hid hsa
    clear hsa
    -- the own number goes up
    go_upto_region 4 with fail
    go_cut [] from 27 to 33 (fun wx => Hid (DoS w b R [(sc, .cells #[sl (p2.ck i) 0 g.n g.n] 47), (sa, .cells #[.int .i64 (i : Int), .int .i64 cell, .bool wt, .bool at_] 27)] wx R2
      { g with C := upd g.C i (upd (g.C i) i (g.C i i + 1)), M := updM g.M cell (celOf g cell) } p2))
    case first =>
      have C3 := (D3.out.bx _ (List.mem_cons_self ..)).1
      have A3 := (D3.out.bx _ (List.mem_cons_of_mem _ (List.mem_cons_self ..))).1
      have kc := cellOf C3 0
      have ka := cellOf A3 0
      obtain ⟨hck, hrow⟩ := D3.out.lg.c1 i hi
      have kr := hrow.cell0 hi
      have kf := hrow.frozen i
      have F := (Fr.refl (fun k => k = p2.ck i) wc).setCell (p := ⟨p2.ck i, i, none⟩) (.inl rfl) (.int .i64 ((g.C i i + 1 : Nat) : Int))
      have D4 := Lib.hid (D3.out.step F (fun k hk => by rw [hk, hck]; simp) (D3.out.lg.setC hi F (hrow.set hi (g.C i i + 1))) (fun _ _ => rfl))
      simp [sl] at kc ka kr
      clear C3 A3 hck hrow F D3
      rw [show ((g.C i i + 1 : Nat) : Int) = (g.C i i : Int) + 1 by omega] at D4
      go_wp2_with fail
      go_meet
      exact D4
    case rest =>
      have D4 := hcut
      clear hcut D3
      have A4 := (D4.out.bx _ (List.mem_cons_of_mem _ (List.mem_cons_self ..))).1
      have kat := cellOf A4 3
      simp at kat
      clear A4
      go_upto_if 35 with fail
      clear kat
      go_cut [] from 36 to 57 (fun wx => ∃ R3 : Nat → Role, Hid (DoS w b R [(sc, .cells #[sl (p2.ck i) 0 g.n g.n] 47), (sa, .cells #[.int .i64 (i : Int), .int .i64 cell, .bool wt, .bool at_] 27)] wx R3
        { n := g.n, C := upd g.C i (clkN g ⟨i, cell, wt, at_⟩), B := basN g ⟨i, cell, wt, at_⟩, M := updM g.M cell ⟨if at_ && wt then clkN g ⟨i, cell, wt, at_⟩ else (celOf g cell).c, (celOf g cell).t⟩, L := g.L } p2))
      case first =>
        cases at_ with
        | false =>
          go_wp2_with fail
          go_meet
          exact ⟨R2, D4⟩
        | true =>
          -- the cell's clock is joined
          go_upto_region 6 with fail
          go_cut [] from 36 to 41 (fun wx => Hid (DoS w b R [(sc, .cells #[sl (p2.ck i) 0 g.n g.n] 47), (sa, .cells #[.int .i64 (i : Int), .int .i64 cell, .bool wt, .bool true] 27)] wx R2 { n := g.n, C := upd g.C i (clkN g ⟨i, cell, wt, true⟩), B := g.B, M := updM g.M cell (celOf g cell), L := g.L } p2))
          case first =>
            obtain ⟨q, hq⟩ := CelW.of (D4.out.lg.cel (updM_same _ _ _))
            have JN := Lib.hid (D4.out.join hi hq)
            have kc := cellOf (D4.out.bx _ (List.mem_cons_self ..)).1 0
            have kx := cellOf hq.blk 0
            simp [sl] at kc kx
            have n1 : sc ≠ p2.ck i := fun e => by have h1 := (D4.out.bx _ (List.mem_cons_self ..)).2; simp only at h1; rw [e, (D4.out.lg.c1 i hi).1] at h1; cases h1
            have n2 : p2.cb cell ≠ p2.ck i := fun e => by have h1 := hq.r; rw [e, (D4.out.lg.c1 i hi).1] at h1; cases h1
            clear hq
            go_region_held3 (fun w' => w'.cell? ⟨sc, 0, none⟩ = some (.slice (some ⟨p2.ck i, 0, none⟩) g.n g.n) ∧ w'.cell? ⟨p2.cb cell, 0, none⟩ = some (.slice (some ⟨q.c0, q.co, none⟩) g.n q.cc)) (first | exact ⟨kc, kx⟩ | exact ⟨kc5, kx5⟩ | go_keep)
              (first | (go_at_call 22; refine (JN.out _ _ _ (by first | exact Fr.refl _ _ | exact (Fr.refl _ _).drew)).mono ?_; rintro e w5 ⟨rfl, d5, f5⟩; have D5 := Lib.hid d5; have kc5 := (f5.cell (p := ⟨sc, 0, none⟩) (World.block_lt_of_cell? _ _ kc) n1).trans kc; have kx5 := (f5.cell (p := ⟨p2.cb cell, 0, none⟩) (World.block_lt_of_cell? _ _ kx) n2).trans kx; clear d5 f5))
            all_goals go_wp2_with fail
            all_goals go_meet
            case rel =>
              have := D5.out
              simp only [upd_same, upd_upd] at this
              exact Lib.hid this
          case rest =>
            have D5 := hcut
            clear hcut D4
            -- its base
            go_upto_region 7 with fail
            go_cut [] from 42 to 50 (fun wx => ∃ R3 : Nat → Role, Hid (DoS w b R [(sc, .cells #[sl (p2.ck i) 0 g.n g.n] 47), (sa, .cells #[.int .i64 (i : Int), .int .i64 cell, .bool wt, .bool true] 27)] wx R3 { n := g.n, C := upd g.C i (clkN g ⟨i, cell, wt, true⟩), B := basN g ⟨i, cell, wt, true⟩, M := updM g.M cell (celOf g cell), L := g.L } p2))
            case first =>
              have kc := cellOf (D5.out.bx _ (List.mem_cons_self ..)).1 0
              have ka := cellOf (D5.out.bx _ (List.mem_cons_of_mem _ (List.mem_cons_self ..))).1 0
              have kb := cellOf D5.out.lg.blk 2
              obtain ⟨hbr, cur, hcur, hcv⟩ := D5.out.lg.b0
              obtain ⟨v0, hv0, _⟩ := hcv i hi
              have kv := cellOf hcur i
              rw [hv0] at kv
              have HB := Lib.hid hcur
              have hrw := (D5.out.lg.c1 i hi).2
              rw [show ({ n := g.n, C := upd g.C i (clkN g ⟨i, cell, wt, true⟩), B := g.B, M := updM g.M cell (celOf g cell), L := g.L } : LG).C i = clkN g ⟨i, cell, wt, true⟩ from upd_same _ _ _] at hrw
              have CL := Lib.hid (show ∀ W, Fr (fun _ => False) wc W → Calls Try.prog 23 #[.slice (some ⟨p2.ck i, 0, none⟩) g.n g.n] W (NewR g.n (clkN g ⟨i, cell, wt, true⟩) W) from fun W f => clone_any _ _ _ _ _ W (hrw.fr f (by simp)) (by omega) D5.out.lg.n64)
              have hbd := D5.out.lg.bd
              simp [sl] at kc ka kb
              have n1 : sc ≠ p2.bb := fun e => by have h1 := (D5.out.bx _ (List.mem_cons_self ..)).2; simp only at h1; rw [e, hbr] at h1; cases h1
              have n2 : sa ≠ p2.bb := fun e => by have h1 := (D5.out.bx _ (List.mem_cons_of_mem _ (List.mem_cons_self ..))).2; simp only at h1; rw [e, hbr] at h1; cases h1
              have n3 : b ≠ p2.bb := fun e => by have h1 := D5.out.lg.top; rw [e, hbr] at h1; cases h1
              clear hcv hv0 hcur hrw hbr
              go_region_held3 (fun w' => w'.cell? ⟨sc, 0, none⟩ = some (.slice (some ⟨p2.ck i, 0, none⟩) g.n g.n) ∧ w'.cell? ⟨sa, 0, none⟩ = some (.int .i64 (i : Int)) ∧ w'.cell? ⟨b, 2, none⟩ = some (.slice (some ⟨p2.bb, 0, none⟩) g.n p2.bd)) (first | exact ⟨kc, ka, kb⟩ | exact ⟨kc', ka', kb'⟩ | exact ⟨kc2, ka2, kb2⟩ | go_keep)
                (first | (go_at_call 23; refine (CL.out _ (by first | exact Fr.refl _ _ | exact (Fr.refl _ _).drew)).mono ?_; rintro e w6 ⟨nb, o, c, rfl, h1, h2, h3, h4, f6⟩; have G6 := Lib.hid (show Fr (fun _ => False) wc w6 by first | exact f6 | exact (Fr.refl _ _).drew.trans f6); have kc' := (G6.out.cell (World.block_lt_of_cell? _ _ kc) (by simp)).trans kc; have ka' := (G6.out.cell (World.block_lt_of_cell? _ _ ka) (by simp)).trans ka; have kb' := (G6.out.cell (World.block_lt_of_cell? _ _ kb) (by simp)).trans kb; have kv' := (G6.out.cell (World.block_lt_of_cell? _ _ kv) (by simp)).trans kv; have kf' := frozenOf (G6.out.heap HB.out (by simp)) i; have DD := Lib.hid (D5.out.base hi G6.out (by exact h1) h2 h3 h4); have fS := (Fr.refl (fun k => k = p2.bb) w6).setCell (p := ⟨p2.bb, i, none⟩) (.inl rfl) (.slice (some ⟨nb, o, none⟩) g.n c); have kc2 := (fS.cell (World.block_lt_of_cell? _ _ kc') n1).trans kc'; have ka2 := (fS.cell (World.block_lt_of_cell? _ _ ka') n2).trans ka'; have kb2 := (fS.cell (World.block_lt_of_cell? _ _ kb') n3).trans kb'; clear f6 h1 h2 fS; unfold sl))
              all_goals go_wp2_with fail
              all_goals go_meet
              case rel => exact ⟨_, DD⟩
            case rest =>
              obtain ⟨R3, D6⟩ := hcut
              clear D5
              have kc := cellOf (D6.out.bx _ (List.mem_cons_self ..)).1 0
              have kw := cellOf (D6.out.bx _ (List.mem_cons_of_mem _ (List.mem_cons_self ..))).1 2
              simp [sl] at kc kw
              cases wt with
              | false =>
                go_wp2_with fail
                go_meet
                exact ⟨R3, D6⟩
              | true =>
                obtain ⟨q, hq⟩ := CelW.of (D6.out.lg.cel (updM_same _ _ _))
                have HQ := Lib.hid hq.blk
                have hrw := (D6.out.lg.c1 i hi).2
                rw [show ({ n := g.n, C := upd g.C i (clkN g ⟨i, cell, true, true⟩), B := basN g ⟨i, cell, true, true⟩, M := updM g.M cell (celOf g cell), L := g.L } : LG).C i = clkN g ⟨i, cell, true, true⟩ from upd_same _ _ _] at hrw
                have CL := Lib.hid (show Calls Try.prog 23 #[.slice (some ⟨p2.ck i, 0, none⟩) g.n g.n] wc (NewR g.n (clkN g ⟨i, cell, true, true⟩) wc) from clone_any _ _ _ _ _ wc hrw (by omega) D6.out.lg.n64)
                clear hq hrw
                go_wp2_with (go_at_call 23; refine CL.out.mono ?_; rintro e w7 ⟨nb, o, c, rfl, h1, h2, h3, h4, f7⟩; have kx := cellOf (f7.heap HQ.out (by simp)) 0; have kf := frozenOf (f7.heap HQ.out (by simp)) 0; simp at kx; have D7 := D6.out.clk (updM_same _ _ _) f7 h1 h2 h3 h4; have D8 := Lib.hid D7; clear D7 f7 h1 h2; unfold sl at kx D8 ⊢)
                go_meet
                have D9 := D8.out
                simp only [updM_updM] at D9
                exact ⟨_, Lib.hid D9⟩
      case rest =>
        obtain ⟨R3, D5⟩ := hcut
        clear D4
        have D6 := Lib.hid (((D5.out.box (.cells #[.bool true] 4)).box (.cells #[.pointer (some ⟨p2.cb cell, 0, none⟩)] 49)).box (.cells #[.int .i64 (i : Int), .int .i64 cell, .bool wt, .bool at_] 27))
        have A5 := (D5.out.bx _ (List.mem_cons_of_mem _ (List.mem_cons_self ..))).1
        have RV := Lib.hid (fun (W : World) (p : Addr) => rivals_any W p (i : Int) cell wt at_)
        unfold accV at RV
        have HS5 := ltOf A5
        have A6 := heapAlloc (o' := .cells #[.bool true] 4) A5
        have ka0 := cellOf A6 0
        have ka1 := cellOf A6 1
        have ka2 := cellOf A6 2
        have ka3 := cellOf A6 3
        simp at ka0 ka1 ka2 ka3
        clear A5 A6
        go_wp2_with (go_at_call 24; refine Calls.mono (RV.out _ _) ?_; rintro e w' ⟨rfl, rfl⟩)
        obtain ⟨okb, hokb⟩ : ∃ okb, wc.heap.size = okb := ⟨_, rfl⟩
        have D7 := D6.out
        simp only [hokb] at HS5
        simp only [World.size_alloc, hokb] at D7
        have D8 := Lib.hid D7
        clear D7 D6
        have hq1 : ((wc.alloc (.cells #[.bool true] 4)).alloc (.cells #[.pointer (some ⟨p2.cb cell, 0, none⟩)] 49)).heap.size = okb + 2 := by simp [hokb]
        simp only [hokb]
        clear hokb hq1 ka0 ka1 ka2 ka3
        generalize ((wc.alloc (.cells #[.bool true] 4)).alloc (.cells #[.pointer (some ⟨p2.cb cell, 0, none⟩)] 49)).alloc (.cells #[.int .i64 (i : Int), .int .i64 cell, .bool wt, .bool at_] 27) = wl at *
        clear D5
        have b2 := D8.out.bx _ (List.mem_cons_self ..)
        have b1 := D8.out.bx _ (List.mem_cons_of_mem _ (List.mem_cons_self ..))
        have b0 := D8.out.bx _ (List.mem_cons_of_mem _ (List.mem_cons_of_mem _ (List.mem_cons_self ..)))
        have bs := (D8.out.bx _ (List.mem_cons_of_mem _ (List.mem_cons_of_mem _ (List.mem_cons_of_mem _ (List.mem_cons_self ..))))).1
        have hcel := D8.out.lg.cel (updM_same _ _ _)
        have hbg := D8.out.lg.big
        have hrw := (D8.out.lg.c1 i hi)
        simp only [upd_same] at hrw hcel b0 b1 b2 bs
        have nck : okb ≠ p2.ck i := fun e => by have h1 := b0.2; rw [e, hrw.1] at h1; cases h1
        have nsc : okb ≠ sc := fun e => by have h1 := b0.1; rw [e, bs] at h1; cases h1
        have HRW := Lib.hid hrw.2
        have HBS := Lib.hid bs
        have hsk := cellOf bs 0
        simp [sl] at hsk
        have hlt0 := ltOf b2.1
        have hokb1 : sa < okb := HS5
        refine (wpIn_wide (n := 6)).1 ?_
        refine wpIn_rangeFunc_set rfl (by omega) (gf := 28) (lb := #[.pointer (some ⟨okb + 1, 0, none⟩), .pointer (some ⟨okb + 1 + 1, 0, none⟩)]) rfl trivial (enters_of Try.func28 (by kernel_rfl) rfl)
          (riv_stops R3 cell (okb + 1) (okb + 1 + 1) (p2.cb cell) (i : Int) cell wt at_ g.n _ D8.out.lg.n64 (6 - 1) (by omega)) (fun _ => rfl)
          (fun pre S W => (∀ k, S k ↔ k = okb) ∧ Hid (W.heap[okb]? = some (.cells #[.bool (pre.all fun y => decide (y.2 ≤ clkN g ⟨i, cell, wt, at_⟩ (iN g.n y.1)))] 4 (0, 0))) ∧ Hid (Fr (fun k => k = okb) wl W)) (fun _ _ _ _ => False) (fun k => k = okb)
          (fun W1 S f hS => ⟨f.heap b1.1 (by simp), f.heap b2.1 (by simp), hcel.fr f (fun _ e => e.elim), fun k hk => by
            rcases hS k hk with rfl | e
            · exact ⟨b0.2, by omega⟩
            · exact ⟨hbg k e, by omega⟩, fun k hk => hbg k (Nat.le_trans f.size hk)⟩)
          (fun pre S W1 W2 h f => ⟨h.1, Lib.hid (f.heap h.2.1.out (fun e => e.2 ((h.1 _).2 rfl))), Lib.hid (h.2.2.out.step f (fun k e => by rcases e.1 with e | e; exact e.elim; exact .inr e))⟩)
          (fun _ _ _ _ _ h _ => h) (fun pre S W1 h k hk => by rw [(h.1 k).1 hk]; exact ltOf h.2.1.out)
          ⟨fun _ => Iff.rfl, Lib.hid b0.1, Lib.hid (Fr.refl _ _)⟩
          (fun y => { tmps := #[.pointer (some ⟨b, 0, none⟩), .agg #[.int .i64 (i : Int), .int .i64 cell, .bool wt, .bool at_], undef, .pointer (some ⟨sa, 0, none⟩), .bool false, .pointer (some ⟨sc, 0, none⟩), .pointer (some ⟨p2.cb cell, 0, none⟩), .pointer (some ⟨okb, 0, none⟩), .int .i64 ((iN g.n y.1 : Nat) : Int), .int .i64 (y.2 : Int), .pointer (some ⟨b, 0, none⟩), .pointer (some ⟨sa, 0, none⟩), .int .i64 (i : Int), .bool true, .bool false, u15, u16, u17, u18, u19, u20, u21, u22, u23, u24, u25, u26, u27, u28, u29, u30, u31, u32, u33, .pointer (some ⟨sa, 3, none⟩), .bool at_, u36, u37, u38, u39, u40, u41, u42, u43, u44, u45, u46, u47, u48, u49, u50, u51, u52, u53, u54, u55, u56, u57, .pointer (some ⟨p2.cb cell, 0, none⟩), .agg #[.int .i64 (i : Int), .int .i64 cell, .bool wt, .bool at_], .func (.func 28) #[] #[.pointer (some ⟨okb + 1, 0, none⟩), .pointer (some ⟨okb + 1 + 1, 0, none⟩)], .int .i64 ((iN g.n y.1 : Nat) : Int), .int .i64 (y.2 : Int), undef, undef, undef, undef, undef, undef, undef, undef, undef, undef, undef, undef, undef, undef, undef, undef, undef, undef, undef, undef, undef, undef, undef, undef, undef, undef, undef, undef, undef, undef, undef, undef, undef, undef, undef, undef, undef, undef, undef, undef, undef, undef, undef, undef, undef, undef, undef], defers := [] }) ?assign ?body ?done ?stop
        case assign =>
          intro l x W K hK
          gi_wp2
          exact hK
        case body =>
          rintro l pre x S W ⟨hS, hok, hf⟩ hlen
          have hsk1 := (hf.out.cell (p := ⟨sc, 0, none⟩) (ltOf HBS.out) (Ne.symm nsc)).trans hsk
          have hr1 := HRW.out.fr hf.out (Ne.symm nck)
          have hx := iN_lt x.1 D8.out.lg.n0
          have x0 := hr1.cell0 hx
          have hx1 : (iN g.n x.1 : Int) < (g.n : Int) := by have : iN g.n x.1 < g.n := hx; omega
          have ok0 := cellOf hok.out 0
          have okf := frozenOf hok.out 0
          simp at ok0
          have HSS := Lib.hid hS
          have HOK := Lib.hid (heapSet hok.out 0 (.bool false))
          have HOF := Lib.hid ((Fr.refl (fun k => k = okb) W).setCell (p := ⟨okb, 0, none⟩) (.inl rfl) (.bool false))
          generalize hdx : iN g.n x.1 = dx at *
          clear hr1 hx
          have HDX := Lib.hid hdx
          clear hdx hS
          by_cases hle : x.2 ≤ clkN g ⟨i, cell, wt, at_⟩ dx
          · have q1 : decide (((clkN g ⟨i, cell, wt, at_⟩ dx : Nat) : Int) < ((x.2 : Nat) : Int)) = false := by simp; omega
            have q2 : decide (clkN g ⟨i, cell, wt, at_⟩ dx < x.2) = false := by simp; omega
            gi_wp2
            refine ⟨S, ⟨HSS.out, ?_, hf⟩, Fr.refl _ _, fun k hk => .inl hk⟩
            have := hok.out
            rw [List.all_append]
            simp only [List.all_cons, List.all_nil, Bool.and_true, HDX.out]
            rw [show decide (x.2 ≤ clkN g ⟨i, cell, wt, at_⟩ dx) = true from decide_eq_true hle, Bool.and_true]
            exact hok
          · have q1 : decide (((clkN g ⟨i, cell, wt, at_⟩ dx : Nat) : Int) < ((x.2 : Nat) : Int)) = true := by simp; omega
            have q2 : decide (clkN g ⟨i, cell, wt, at_⟩ dx < x.2) = true := by simp; omega
            gi_wp2
            refine ⟨S, ⟨HSS.out, ?_, Lib.hid (hf.out.trans HOF.out)⟩, HOF.out.mono (fun k _ e => (HSS.out k).2 e), fun k hk => .inl hk⟩
            rw [List.all_append]
            simp only [List.all_cons, List.all_nil, Bool.and_true, HDX.out]
            rw [show decide (x.2 ≤ clkN g ⟨i, cell, wt, at_⟩ dx) = false from decide_eq_false hle, Bool.and_false]
            exact HOK
        case stop =>
          rintro D c pre S W _ _ _ h _
          exact h.elim
        case done =>
          rintro D ys S W hD hSD rfl ⟨hS, hok, hf⟩ hK
          have hDl := hD
          have hnok : D ≠ okb := fun e => hSD ((hS D).2 e)
          have D9 := D8.out.out (BX' := [(sc, .cells #[sl (p2.ck i) 0 g.n g.n] 47), (sa, .cells #[.int .i64 (i : Int), .int .i64 cell, .bool wt, .bool at_] 27)]) hf.out (by have := HSA.out; omega) b0.2 (fun y hy => by
            rcases List.mem_cons.1 hy with rfl | hy
            · exact ⟨List.mem_cons_of_mem _ (List.mem_cons_of_mem _ (List.mem_cons_of_mem _ (List.mem_cons_self ..))), Ne.symm nsc⟩
            · rcases List.mem_cons.1 hy with rfl | hy
              · exact ⟨List.mem_cons_of_mem _ (List.mem_cons_of_mem _ (List.mem_cons_of_mem _ (List.mem_cons_of_mem _ (List.mem_cons_self ..)))), by simp only; omega⟩
              · cases hy)
          have D10 := Lib.hid ((D9.more hok.out b0.2).more hK (hbg D hD))
          have HD := Lib.hid hD
          have HNK := Lib.hid hnok
          have HSD := Lib.hid (show sa ≤ D by omega)
          clear D9 hf hok hS hSD hD hDl hnok hK b0 b1 b2 bs hcel hrw HRW HBS hsk hlt0 hbg D8
          go_upto_region 16 with fail
          -- the tally
          go_cut [] from 69 to 83 (fun wx => Hid (DoS w b R ((D, .deferred (some [])) :: (okb, .cells #[.bool ((rvT (i : Int) wt at_ (celOf g cell) g.n 4).all fun y => decide (y.2 ≤ clkN g ⟨i, cell, wt, at_⟩ (iN g.n y.1)))] 4 (0, 0)) :: [(sc, .cells #[sl (p2.ck i) 0 g.n g.n] 47), (sa, .cells #[.int .i64 (i : Int), .int .i64 cell, .bool wt, .bool at_] 27)]) wx R3 { n := g.n, C := upd g.C i (clkN g ⟨i, cell, wt, at_⟩), B := basN g ⟨i, cell, wt, at_⟩, M := updM g.M cell (celN g ⟨i, cell, wt, at_⟩), L := g.L } p2))
          case first =>
            obtain ⟨q, hq⟩ := CelW.of (D10.out.lg.cel (updM_same _ _ _))
            have HQ := Lib.hid hq
            obtain ⟨kk, hkk⟩ : ∃ kk, kindN wt at_ = kk := ⟨_, rfl⟩
            have hk4 : kk < 4 := by rw [← hkk]; cases wt <;> cases at_ <;> decide
            have KI := Lib.hid (fun W => kind_any W (i : Int) cell wt at_)
            rw [hkk] at KI
            unfold accV at KI
            have hbc := (D10.out.bx _ (List.mem_cons_of_mem _ (List.mem_cons_of_mem _ (List.mem_cons_self ..)))).1
            have hba := (D10.out.bx _ (List.mem_cons_of_mem _ (List.mem_cons_of_mem _ (List.mem_cons_of_mem _ (List.mem_cons_self ..))))).1
            have kc := cellOf hbc 0
            have ka0 := cellOf hba 0
            have ka1 := cellOf hba 1
            have ka2 := cellOf hba 2
            have ka3 := cellOf hba 3
            have kx := cellOf hq.blk (1 + kk)
            rw [idxCel q g.n hk4] at kx
            have hrw := (D10.out.lg.c1 i hi).2
            simp only [upd_same] at hrw
            have kr := hrw.cell0 hi
            have ht := (hq.t kk hk4)
            have kt := ht.2.cell0 hi
            have kf := ht.2.frozen i
            simp [sl] at kc ka0 ka1 ka2 ka3 kx
            have HT := Lib.hid ht
            have HBC := Lib.hid hbc
            have HBA := Lib.hid hba
            have hki : (0 : Int) ≤ (kk : Int) := by omega
            have hki4 : (kk : Int) < 4 := by omega
            have nT : ∀ k r, R3 k = r → r ≠ .tal cell kk → k ≠ q.t kk := fun k r h1 h2 e => h2 (by rw [← h1, e, ht.1])
            have m1 := nT _ _ (D10.out.bx _ (List.mem_cons_of_mem _ (List.mem_cons_of_mem _ (List.mem_cons_self ..)))).2 (by simp)
            have m2 := nT _ _ (D10.out.bx _ (List.mem_cons_of_mem _ (List.mem_cons_of_mem _ (List.mem_cons_of_mem _ (List.mem_cons_self ..))))).2 (by simp)
            have m3 := nT _ _ hq.r (by simp)
            have m4 := nT _ _ (D10.out.lg.c1 i hi).1 (by simp)
            simp only at m1 m2
            have y0 := World.block_lt_of_cell? _ _ ka0
            have yc := World.block_lt_of_cell? _ _ kc
            have yx := World.block_lt_of_cell? _ _ kx
            have yr := World.block_lt_of_cell? _ _ kr
            have yt := World.block_lt_of_cell? _ _ kt
            simp only at y0 yc yx yr yt
            generalize hcv : clkN g ⟨(i : Int), cell, wt, at_⟩ i = cv at *
            have HCV := Lib.hid hcv
            clear hbc hba hrw ht hq nT hcv
            go_region_held3 (fun w' => w'.cell? ⟨sa, 0, none⟩ = some (.int .i64 (i : Int)) ∧ w'.cell? ⟨sa, 1, none⟩ = some (.int .i64 cell) ∧ w'.cell? ⟨sa, 2, none⟩ = some (.bool wt) ∧ w'.cell? ⟨sa, 3, none⟩ = some (.bool at_) ∧ w'.cell? ⟨sc, 0, none⟩ = some (.slice (some ⟨p2.ck i, 0, none⟩) g.n g.n) ∧ w'.cell? ⟨p2.cb cell, 1 + kk, none⟩ = some (.slice (some ⟨q.t kk, 0, none⟩) g.n g.n) ∧ w'.cell? ⟨p2.ck i, i, none⟩ = some (.int .i64 (cv : Int)))
              (first | exact ⟨ka0, ka1, ka2, ka3, kc, kx, kr⟩ | exact ⟨ka0', ka1', ka2', ka3', kc', kx', kr'⟩ | exact ⟨ka02, ka12, ka22, ka32, kc2, kx2, kr2⟩ | go_keep)
              (first | (go_at_call 25; refine (KI.out _).mono ?_; rintro e w6 ⟨rfl, f6⟩; have G6 := Lib.hid (show Fr (fun _ => False) W w6 by first | exact f6 | exact (Fr.refl _ _).drew.trans f6); have ka0' := (G6.out.cell (p := ⟨sa, 0, none⟩) y0 (by simp)).trans ka0; have ka1' := (G6.out.cell (p := ⟨sa, 1, none⟩) y0 (by simp)).trans ka1; have ka2' := (G6.out.cell (p := ⟨sa, 2, none⟩) y0 (by simp)).trans ka2; have ka3' := (G6.out.cell (p := ⟨sa, 3, none⟩) y0 (by simp)).trans ka3; have kc' := (G6.out.cell (p := ⟨sc, 0, none⟩) yc (by simp)).trans kc; have kx' := (G6.out.cell (p := ⟨p2.cb cell, 1 + kk, none⟩) yx (by simp)).trans kx; have kr' := (G6.out.cell (p := ⟨p2.ck i, i, none⟩) yr (by simp)).trans kr; have kt' := (G6.out.cell (p := ⟨q.t kk, i, none⟩) yt (by simp)).trans kt; have kf' := (G6.out.frozen (p := ⟨q.t kk, i, none⟩) yt (by simp)).trans kf; have f9 := (Fr.refl (fun k => k = q.t kk) w6).setCell (p := ⟨q.t kk, i, none⟩) (.inl rfl) (.int .i64 (cv : Int)); have sz := G6.out.size; have ka02 := (f9.cell (p := ⟨sa, 0, none⟩) (Nat.lt_of_lt_of_le y0 sz) m2).trans ka0'; have ka12 := (f9.cell (p := ⟨sa, 1, none⟩) (Nat.lt_of_lt_of_le y0 sz) m2).trans ka1'; have ka22 := (f9.cell (p := ⟨sa, 2, none⟩) (Nat.lt_of_lt_of_le y0 sz) m2).trans ka2'; have ka32 := (f9.cell (p := ⟨sa, 3, none⟩) (Nat.lt_of_lt_of_le y0 sz) m2).trans ka3'; have kc2 := (f9.cell (p := ⟨sc, 0, none⟩) (Nat.lt_of_lt_of_le yc sz) m1).trans kc'; have kx2 := (f9.cell (p := ⟨p2.cb cell, 1 + kk, none⟩) (Nat.lt_of_lt_of_le yx sz) m3).trans kx'; have kr2 := (f9.cell (p := ⟨p2.ck i, i, none⟩) (Nat.lt_of_lt_of_le yr sz) m4).trans kr'; clear f6 f9))
            all_goals go_wp2_with fail
            all_goals go_meet
            case rel =>
              have DD := (D10.out.fr0 G6.out).tal hi (updM_same _ _ _) (HQ.out.fr0 G6.out) hk4 cv
              simp only [updM_updM] at DD
              subst hkk
              have e := HCV.out
              subst e
              exact Lib.hid DD
          case rest =>
            have D11 := hcut
            clear hcut D10
            obtain ⟨i61, hu0, hu1, hu2, hu3⟩ := info_parts info61
            obtain ⟨E, hE, hv, hvr, hEb⟩ := D11.out.lg.l
            obtain ⟨hbr, cur, hcur, hcv⟩ := D11.out.lg.b0
            obtain ⟨v0, hv0, hba0⟩ := hcv i hi
            obtain ⟨nb, o, c, rfl, q1, q2, q3, q4⟩ := hba0
            obtain ⟨sp, sk, hvl⟩ := hv.shape
            have hEl : E.length ≤ 100000 := by
              have := congrArg List.length hE
              rw [List.length_map] at this
              simp only at this
              omega
            have hbc := (D11.out.bx _ (List.mem_cons_of_mem _ (List.mem_cons_of_mem _ (List.mem_cons_self ..))))
            have hba := (D11.out.bx _ (List.mem_cons_of_mem _ (List.mem_cons_of_mem _ (List.mem_cons_of_mem _ (List.mem_cons_self ..)))))
            have kc := cellOf hbc.1 0
            have ka0 := cellOf hba.1 0
            have kb2 := cellOf D11.out.lg.blk 2
            have kb4 := cellOf D11.out.lg.blk 4
            have kv := cellOf hcur i
            rw [hv0] at kv
            have hrw := (D11.out.lg.c1 i hi)
            simp only [upd_same] at hrw
            have kr := hrw.2.cell0 hi
            simp [sl] at kc ka0 kb2 kb4 kv
            rw [hvl] at kb4
            have nV : ∀ k r, R3 k = r → r ≠ .lrow → (Value.slice sp E.length sk).ownBlock ≠ some k := fun k r h1 h2 e => by rw [← hvl] at e; exact h2 (h1.symm.trans (hvr k e))
            have n1 := nV _ _ hbc.2 (by simp)
            have n2 := nV _ _ hba.2 (by simp)
            have n3 := nV _ _ D11.out.lg.top (by simp)
            have n4 := nV _ _ hbr (by simp)
            have n5 := nV _ _ hrw.1 (by simp)
            have nB : ∀ k r, R3 k = r → r ≠ .top → k ≠ b := fun k r h1 h2 e => h2 (by rw [← h1, e, D11.out.lg.top])
            have t1 := nB _ _ hbc.2 (by simp)
            have t2 := nB _ _ hba.2 (by simp)
            have t4 := nB _ _ hbr (by simp)
            have t5 := nB _ _ hrw.1 (by simp)
            simp only at n1 n2 t1 t2
            have HBL := Lib.hid D11.out.lg.blk
            rw [hvl] at HBL
            have OW := Lib.hid hv
            rw [hvl] at OW
            have hbd := D11.out.lg.bd
            have KB : (Value.slice (some ⟨nb, o, none⟩) g.n c) = sl nb o g.n c := rfl
            generalize hcve : clkN g ⟨(i : Int), cell, wt, at_⟩ i = cv at *
            have y0 := World.block_lt_of_cell? _ _ ka0
            have yc := World.block_lt_of_cell? _ _ kc
            have yb := World.block_lt_of_cell? _ _ kb2
            have yv := World.block_lt_of_cell? _ _ kv
            have yr := World.block_lt_of_cell? _ _ kr
            simp only at y0 yc yb yv yr
            have fo := (Fr.refl (fun _ => False) wc).alloc (.cells #[.int .i64 (i : Int), .int .i64 (cv : Int), .slice (some ⟨nb, o, none⟩) g.n c] 61)
            have ka0o := (fo.cell (p := ⟨sa, 0, none⟩) y0 (by simp)).trans ka0
            have kco := (fo.cell (p := ⟨sc, 0, none⟩) yc (by simp)).trans kc
            have kb2o := (fo.cell (p := ⟨b, 2, none⟩) yb (by simp)).trans kb2
            have kb4o := (fo.cell (p := ⟨b, 4, none⟩) yb (by simp)).trans kb4
            have kvo := (fo.cell (p := ⟨p2.bb, i, none⟩) yv (by simp)).trans kv
            have kro := (fo.cell (p := ⟨p2.ck i, i, none⟩) yr (by simp)).trans kr
            have HCV := Lib.hid hcve
            have OWA := Lib.hid (OW.out.fr fo (by simp))
            have FO := Lib.hid fo
            have H1V := Lib.hid (show ∀ u ∈ [Value.int .i64 (i : Int), .int .i64 (cv : Int), .slice (some ⟨nb, o, none⟩) g.n c], u.oneCell' = true by simp [Value.oneCell'])
            have ADD := Lib.hid (fun (v' : Value) (w7 : World) ho hg hs => (D11.out.lg.fr FO.out (fun _ e => e.elim)).addL (d := ⟨i, cv, basN g ⟨(i : Int), cell, wt, at_⟩ i⟩) (v := sl nb o g.n c) (v' := v') (w' := w7) ⟨nb, o, c, rfl, q1, q2.fr FO.out (by simp), q3, q4⟩ hE (hv.fr FO.out (by simp)) (fun e he => ⟨(hEb e he).1, (hEb e he).2.1.fr FO.out (by simp), (hEb e he).2.2⟩) hvr ho hg hs)
            have HOB := Lib.hid (D11.out.bx _ (List.mem_cons_of_mem _ (List.mem_cons_self ..)))
            have HDB := Lib.hid (D11.out.bx _ (List.mem_cons_self ..))
            have u1 := nV _ _ HOB.out.2 (by simp)
            have u2 := nV _ _ HDB.out.2 (by simp)
            have u3 := nB _ _ HOB.out.2 (by simp)
            have u4 := nB _ _ HDB.out.2 (by simp)
            simp only at u1 u2 u3 u4
            rw [hvl] at ADD
            have HVR := Lib.hid (show ∀ k, ((Value.slice sp E.length sk).ownBlock = some k ∨ k = b) → R3 k ≠ .no from fun k e => by
              rcases e with e | e
              · rw [← hvl] at e; rw [hvr k e]; simp
              · rw [e, D11.out.lg.top]; simp)
            clear hE hv hvr hEb hbr hcur hcv hv0 q1 q2 q3 q4 hbc hba hrw nV nB fo hcve KB hvl
            go_upto_region 17 with fail
            obtain ⟨SS, hSS⟩ : ∃ SS : World → Prop, SS = (fun w' => w'.cell? ⟨sa, 0, none⟩ = some (.int .i64 (i : Int)) ∧ w'.cell? ⟨sc, 0, none⟩ = some (.slice (some ⟨p2.ck i, 0, none⟩) g.n g.n) ∧ w'.cell? ⟨b, 2, none⟩ = some (.slice (some ⟨p2.bb, 0, none⟩) g.n p2.bd) ∧ w'.cell? ⟨b, 4, none⟩ = some (.slice sp E.length sk) ∧ w'.cell? ⟨p2.bb, i, none⟩ = some (.slice (some ⟨nb, o, none⟩) g.n c) ∧ w'.cell? ⟨p2.ck i, i, none⟩ = some (.int .i64 (cv : Int))) := ⟨_, rfl⟩
            have S0 : SS { wc with drawn := wc.drawn + 1 } := by rw [hSS]; exact ⟨ka0, kc, kb2, kb4, kv, kr⟩
            refine UpTo.region (S := SS) (m := 25) (by kernel_rfl) ?_
            refine UpTo.take (i := 0) rfl (by kernel_rfl) (by kernel_rfl) (by kernel_rfl) (by kernel_rfl) (by kernel_rfl) (by kernel_rfl) (fun _ _ _ h => h) (by rfl) (v := ?v0) ?hy0 S0 ?_
            case hy0 => (intro w9 hw9; rw [hSS] at hw9; obtain ⟨z1, z2, z3, z4, z5, z6⟩ := hw9; go_simp; first | done | rfl)
            simp only [Act.put]
            refine UpTo.take (i := 1) rfl (by kernel_rfl) (by kernel_rfl) (by kernel_rfl) (by kernel_rfl) (by kernel_rfl) (by kernel_rfl) (fun _ _ _ h => h) (by rfl) (v := ?v1) ?hy1 S0 ?_
            case hy1 => (intro w9 hw9; rw [hSS] at hw9; obtain ⟨z1, z2, z3, z4, z5, z6⟩ := hw9; go_simp; first | done | rfl)
            simp only [Act.put]
            refine UpTo.take (i := 2) rfl (by kernel_rfl) (by kernel_rfl) (by kernel_rfl) (by kernel_rfl) (by kernel_rfl) (by kernel_rfl) (fun _ _ _ h => h) (by rfl) (v := ?v2) ?hy2 S0 ?_
            case hy2 => (intro w9 hw9; rw [hSS] at hw9; obtain ⟨z1, z2, z3, z4, z5, z6⟩ := hw9; go_simp; first | done | rfl)
            simp only [Act.put]
            refine UpTo.take (i := 3) rfl (by kernel_rfl) (by kernel_rfl) (by kernel_rfl) (by kernel_rfl) (by kernel_rfl) (by kernel_rfl) (fun _ _ _ h => h) (by rfl) (v := ?v3) ?hy3 S0 ?_
            case hy3 => (intro w9 hw9; rw [hSS] at hw9; obtain ⟨z1, z2, z3, z4, z5, z6⟩ := hw9; go_simp; first | done | rfl)
            simp only [Act.put]
            refine UpTo.take (i := 4) rfl (by kernel_rfl) (by kernel_rfl) (by kernel_rfl) (by kernel_rfl) (by kernel_rfl) (by kernel_rfl) (fun _ _ _ h => h) (by rfl) (v := ?v4) ?hy4 S0 ?_
            case hy4 => (intro w9 hw9; rw [hSS] at hw9; obtain ⟨z1, z2, z3, z4, z5, z6⟩ := hw9; go_simp; first | done | rfl)
            simp only [Act.put]
            refine UpTo.take (i := 5) rfl (by kernel_rfl) (by kernel_rfl) (by kernel_rfl) (by kernel_rfl) (by kernel_rfl) (by kernel_rfl) (fun _ _ _ h => h) (by rfl) (v := ?v5) ?hy5 S0 ?_
            case hy5 => (intro w9 hw9; rw [hSS] at hw9; obtain ⟨z1, z2, z3, z4, z5, z6⟩ := hw9; go_simp; first | done | rfl)
            simp only [Act.put]
            refine UpTo.take (i := 6) rfl (by kernel_rfl) (by kernel_rfl) (by kernel_rfl) (by kernel_rfl) (by kernel_rfl) (by kernel_rfl) (fun _ _ _ h => h) (by rfl) (v := ?v6) ?hy6 S0 ?_
            case hy6 => (intro w9 hw9; rw [hSS] at hw9; obtain ⟨z1, z2, z3, z4, z5, z6⟩ := hw9; go_simp; first | done | rfl)
            simp only [Act.put]
            refine UpTo.take (i := 7) rfl (by kernel_rfl) (by kernel_rfl) (by kernel_rfl) (by kernel_rfl) (by kernel_rfl) (by kernel_rfl) (fun _ _ _ h => h) (by rfl) (v := ?v7) ?hy7 S0 ?_
            case hy7 => (intro w9 hw9; rw [hSS] at hw9; obtain ⟨z1, z2, z3, z4, z5, z6⟩ := hw9; go_simp; first | done | rfl)
            simp only [Act.put]
            refine UpTo.take (i := 8) rfl (by kernel_rfl) (by kernel_rfl) (by kernel_rfl) (by kernel_rfl) (by kernel_rfl) (by kernel_rfl) (fun _ _ _ h => h) (by rfl) (v := ?v8) ?hy8 S0 ?_
            case hy8 => (intro w9 hw9; rw [hSS] at hw9; obtain ⟨z1, z2, z3, z4, z5, z6⟩ := hw9; go_simp; first | done | rfl)
            simp only [Act.put]
            refine UpTo.take (i := 9) rfl (by kernel_rfl) (by kernel_rfl) (by kernel_rfl) (by kernel_rfl) (by kernel_rfl) (by kernel_rfl) (fun _ _ _ h => h) (by rfl) (v := ?v9) ?hy9 S0 ?_
            case hy9 => (intro w9 hw9; rw [hSS] at hw9; obtain ⟨z1, z2, z3, z4, z5, z6⟩ := hw9; go_simp; first | done | rfl)
            simp only [Act.put]
            refine UpTo.take (i := 10) rfl (by kernel_rfl) (by kernel_rfl) (by kernel_rfl) (by kernel_rfl) (by kernel_rfl) (by kernel_rfl) (fun _ _ _ h => h) (by rfl) (v := ?v10) ?hy10 S0 ?_
            case hy10 => (intro w9 hw9; rw [hSS] at hw9; obtain ⟨z1, z2, z3, z4, z5, z6⟩ := hw9; go_simp; first | done | rfl)
            simp only [Act.put]
            refine UpTo.take (i := 11) rfl (by kernel_rfl) (by kernel_rfl) (by kernel_rfl) (by kernel_rfl) (by kernel_rfl) (by kernel_rfl) (fun _ _ _ h => h) (by rfl) (v := ?v11) ?hy11 S0 ?_
            case hy11 => (intro w9 hw9; rw [hSS] at hw9; obtain ⟨z1, z2, z3, z4, z5, z6⟩ := hw9; go_simp; first | done | rfl)
            simp only [Act.put]
            refine UpTo.take (i := 12) rfl (by kernel_rfl) (by kernel_rfl) (by kernel_rfl) (by kernel_rfl) (by kernel_rfl) (by kernel_rfl) (fun _ _ _ h => h) (by rfl) (v := ?v12) ?hy12 S0 ?_
            case hy12 => (intro w9 hw9; rw [hSS] at hw9; obtain ⟨z1, z2, z3, z4, z5, z6⟩ := hw9; go_simp; first | done | rfl)
            simp only [Act.put]
            refine UpTo.take (i := 13) rfl (by kernel_rfl) (by kernel_rfl) (by kernel_rfl) (by kernel_rfl) (by kernel_rfl) (by kernel_rfl) (fun _ _ _ h => h) (by rfl) (v := ?v13) ?hy13 S0 ?_
            case hy13 => (intro w9 hw9; rw [hSS] at hw9; obtain ⟨z1, z2, z3, z4, z5, z6⟩ := hw9; go_simp; first | done | rfl)
            simp only [Act.put]
            refine UpTo.take (i := 14) rfl (by kernel_rfl) (by kernel_rfl) (by kernel_rfl) (by kernel_rfl) (by kernel_rfl) (by kernel_rfl) (fun _ _ _ h => h) (by rfl) (v := ?v14) ?hy14 S0 ?_
            case hy14 => (intro w9 hw9; rw [hSS] at hw9; obtain ⟨z1, z2, z3, z4, z5, z6⟩ := hw9; go_simp; first | done | rfl)
            simp only [Act.put]
            refine UpTo.take (i := 15) rfl (by kernel_rfl) (by kernel_rfl) (by kernel_rfl) (by kernel_rfl) (by kernel_rfl) (by kernel_rfl) (fun _ _ _ h => h) (by rfl) (v := ?v15) ?hy15 S0 ?_
            case hy15 => (intro w9 hw9; rw [hSS] at hw9; obtain ⟨z1, z2, z3, z4, z5, z6⟩ := hw9; go_simp; first | done | rfl)
            simp only [Act.put]
            refine UpTo.take (i := 16) rfl (by kernel_rfl) (by kernel_rfl) (by kernel_rfl) (by kernel_rfl) (by kernel_rfl) (by kernel_rfl) (fun _ _ _ h => h) (by rfl) (v := ?v16) ?hy16 S0 ?_
            case hy16 => (intro w9 hw9; rw [hSS] at hw9; obtain ⟨z1, z2, z3, z4, z5, z6⟩ := hw9; go_simp; first | done | rfl)
            simp only [Act.put]
            refine UpTo.take (i := 17) rfl (by kernel_rfl) (by kernel_rfl) (by kernel_rfl) (by kernel_rfl) (by kernel_rfl) (by kernel_rfl) (fun _ _ _ h => h) (by rfl) (v := ?v17) ?hy17 S0 ?_
            case hy17 => (intro w9 hw9; rw [hSS] at hw9; obtain ⟨z1, z2, z3, z4, z5, z6⟩ := hw9; go_simp; first | done | rfl)
            simp only [Act.put]
            refine UpTo.take (i := 18) rfl (by kernel_rfl) (by kernel_rfl) (by kernel_rfl) (by kernel_rfl) (by kernel_rfl) (by kernel_rfl) (fun _ _ _ h => h) (by rfl) (v := ?v18) ?hy18 S0 ?_
            case hy18 => (intro w9 hw9; rw [hSS] at hw9; obtain ⟨z1, z2, z3, z4, z5, z6⟩ := hw9; go_simp; first | done | rfl)
            simp only [Act.put]
            refine UpTo.take (i := 19) rfl (by kernel_rfl) (by kernel_rfl) (by kernel_rfl) (by kernel_rfl) (by kernel_rfl) (by kernel_rfl) (fun _ _ _ h => h) (by rfl) (v := ?v19) ?hy19 S0 ?_
            case hy19 => (intro w9 hw9; rw [hSS] at hw9; obtain ⟨z1, z2, z3, z4, z5, z6⟩ := hw9; go_simp; first | done | rfl)
            simp only [Act.put]
            refine UpTo.take (i := 20) rfl (by kernel_rfl) (by kernel_rfl) (by kernel_rfl) (by kernel_rfl) (by kernel_rfl) (by kernel_rfl) (fun _ _ _ h => h) (by rfl) (v := ?v20) ?hy20 S0 ?_
            case hy20 => (intro w9 hw9; rw [hSS] at hw9; obtain ⟨z1, z2, z3, z4, z5, z6⟩ := hw9; go_simp; first | done | rfl)
            simp only [Act.put]
            have S1 : SS ((wc.alloc (.cells #[.int .i64 (i : Int), .int .i64 (cv : Int), .slice (some ⟨nb, o, none⟩) g.n c] 61)).drew) := by rw [hSS]; exact ⟨ka0o, kco, kb2o, kb4o, kvo, kro⟩
            refine UpTo.one (i := 21) rfl (by kernel_rfl) (by rfl) ?_
            refine op_k (fun K hK => ?_)
            go_simp
            refine hK _ _ ⟨fun _ => S1, ?_⟩
            clear hK K
            refine UpTo.one (i := 22) rfl (by kernel_rfl) (by rfl) ?_
            refine op_k (fun K hK => ?_)
            refine wp_append_src (.tmp 88) (.tmp 105) 44 rfl 0 61 i61 _ 3 40 Try.underlying44 hu0 hu1 hu2 hu3 rfl (by omega) (.slice sp E.length sk) E.length _ (by rfl) OWA.out (some ⟨wc.heap.size, 0, none⟩) 1 1 [.int .i64 (i : Int), .int .i64 (cv : Int), .slice (some ⟨nb, o, none⟩) g.n c] (by rfl) (Src.one (heapNew wc _) rfl) H1V.out (by unfold maxLen; omega) (by omega) (by omega) ?_
            intro sp7 c7 w7 hown7 hgrow70 hsh7; have hgrow7 := grownBy_undrew hgrow70; have AD := Lib.hid (ADD.out _ w7 hown7 hgrow7 hsh7); have F7 : Fr (fun k => (Value.slice sp E.length sk).ownBlock = some k) wc w7 := (FO.out.mono (fun _ _ e => e.elim)).grown hgrow7 (fun k e => .inl e); have hb7 := F7.heap HBL.out n3; have HB7 := Lib.hid hb7; have sz := F7.size; have k47 := cellOf hb7 4; have kf7 := frozenOf hb7 4; simp at k47; have ka07 := (F7.cell (p := ⟨sa, 0, none⟩) y0 n2).trans ka0; have kc7 := (F7.cell (p := ⟨sc, 0, none⟩) yc n1).trans kc; have kb27 := (F7.cell (p := ⟨b, 2, none⟩) yb n3).trans kb2; have kv7 := (F7.cell (p := ⟨p2.bb, i, none⟩) yv n4).trans kv; have kr7 := (F7.cell (p := ⟨p2.ck i, i, none⟩) yr n5).trans kr; have f9 := (Fr.refl (fun k => k = b) w7).setCell (p := ⟨b, 4, none⟩) (.inl rfl) (.slice sp7 (E.length + 1) c7); have ka09 := (f9.cell (p := ⟨sa, 0, none⟩) (Nat.lt_of_lt_of_le y0 sz) t2).trans ka07; have kc9 := (f9.cell (p := ⟨sc, 0, none⟩) (Nat.lt_of_lt_of_le yc sz) t1).trans kc7; have kv9 := (f9.cell (p := ⟨p2.bb, i, none⟩) (Nat.lt_of_lt_of_le yv sz) t4).trans kv7; have kr9 := (f9.cell (p := ⟨p2.ck i, i, none⟩) (Nat.lt_of_lt_of_le yr sz) t5).trans kr7; have kb29 := cellOf (heapSet hb7 4 (.slice sp7 (E.length + 1) c7)) 2; simp at kb29; have HO9 := Lib.hid (f9.heap (F7.heap HOB.out.1 u1) u3); have HD9 := Lib.hid (f9.heap (F7.heap HDB.out.1 u2) u4); have kok := cellOf HO9.out 0; simp at kok; have F9 := Lib.hid f9; have FF7 := Lib.hid F7; clear hown7 hgrow7 hgrow70 hsh7 F7 f9 hb7
            have S7 : SS w7 := by rw [hSS]; exact ⟨ka07, kc7, kb27, k47, kv7, kr7⟩
            refine hK _ _ ⟨fun _ => S7, ?_⟩
            clear hK K
            simp only [Act.put]
            refine UpTo.one (i := 23) rfl (by kernel_rfl) (by rfl) ?_
            refine op_k (fun K hK => ?_)
            go_simp
            refine hK _ _ ⟨fun _ => S7, ?_⟩
            clear hK K
            refine UpTo.one (i := 24) rfl (by kernel_rfl) (by rfl) ?_
            refine op_k (fun K hK => ?_)
            go_simp
            refine hK _ _ ⟨fun _ => S7, ?_⟩
            clear hK K
            refine UpTo.one (i := 25) rfl (by kernel_rfl) (by rfl) ?_
            refine op_k (fun K hK => ?_)
            go_simp
            refine hK _ _ ⟨fun h => absurd rfl h, ?_⟩
            clear hK K
            refine UpTo.done (by kernel_rfl) ?_
            all_goals go_wp2_with fail
            all_goals
              refine ⟨by simp, .inl ⟨_, _, rfl, run_takeDeferred HD9.out, ?_⟩⟩
              refine ⟨_, results_tmp rfl _ _ _, ?_, ?_⟩
              · rw [← okN_iN]; rfl
              · obtain ⟨R', hR', hl⟩ := AD.out
                rw [← HCV.out] at hl
                have hmm : p2.m ≤ (doN g ⟨(i : Int), cell, wt, at_⟩).L.length := by simp only [doN, List.length_append, List.length_cons, List.length_nil]; omega
                exact D11.out.fin (S := fun k => (Value.slice sp E.length sk).ownBlock = some k ∨ k = b) ((FF7.out.mono (fun _ _ e => .inl e)).setCell (p := ⟨b, 4, none⟩) (.inl (.inr rfl)) _) HVR.out hl (fun k hk => hR' k (by rw [World.size_alloc]; omega)) hmm HDB.out.2 (ltOf HDB.out.1) (by have := HSA.out; have := HSD.out; omega)
end Go.Proofs.Ytmfkomdfknflgaa
