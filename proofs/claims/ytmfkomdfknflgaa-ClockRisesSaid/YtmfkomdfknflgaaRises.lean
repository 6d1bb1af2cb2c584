/- ClockRises: the walk. -/
import Derived.Test.YtmfkomdfknflgaaSame
namespace Go.Proofs.Ytmfkomdfknflgaa
open Go.RowKit Go.Maps Go.ChangeShapes Go.WideShapes Go.ChangeAt Go.WideMaps Go.WideElems

theorem info33 : (Try.prog.info? 33).map (fun i => (i.zero, i.size, i.bytes)) = some (some (.slice none 0 0), 1, 24) := by kernel_rfl
theorem Ris.clk {w W : World} {b n : Nat} {g : LG} {own : Nat → Nat} {ob : Nat} {v : Value} {ws : List (Nat × Nat × Nat)} {F : Nat → Nat → Nat} (h : Ris w W b n g own ob v ws F) (hn : g.n = n) {t : Nat} (ht : t < n) :
    Calls Try.prog 11 #[.pointer (some ⟨b, 0, none⟩), .int .i64 (t : Int)] W fun e w' => ∃ nb o c, e = .returned (.slice (some ⟨nb, o, none⟩) n c) ∧ W.heap.size ≤ nb ∧ Row w' nb o n (g.C t) ∧ n ≤ c ∧ c ≤ maxLen ∧ Fr (fun _ => False) W w' := by
  obtain ⟨R, h⟩ := h
  refine (clock_any W b R g h.lg (t : Int)).mono ?_
  rintro e w' ⟨f, hc⟩
  rw [if_pos (by rw [hn]; exact isB_nat ht), hn] at hc
  obtain ⟨nb, o, c, rfl, h1, h2, h3, h4⟩ := hc
  exact ⟨nb, o, c, rfl, h1, h2, h3, h4, f⟩
/-- Between two rounds. -/
def RiS (w W : World) (b n ob t : Nat) : Prop := ∃ g, Bd g ∧ Cs g ∧ g.n = n ∧ g.L.length ≤ t ∧ Ris w W b n g (fun j => g.C j j) ob (.slice none 0 0) [] g.C
theorem RiS.start {w w2 : World} {b n : Nat} (l2 : LS w w2 b (newG n)) : RiS w (w2.alloc (.cells #[.int .i64 0, .int .i64 0, .int .i64 0, .int .i64 0, .int .i64 0, .int .i64 0, .int .i64 0, .int .i64 0, .int .i64 0, .int .i64 0, .int .i64 0, .int .i64 0, .int .i64 0, .int .i64 0, .int .i64 0, .int .i64 0] 31)) b n w2.heap.size 0 := by
  obtain ⟨R, h1, h2, h3⟩ := l2
  have hb : R w2.heap.size = .no := by
    obtain ⟨vc, vb, mb, vl, hl⟩ := h1
    exact hl.big _ (Nat.le_refl _)
  refine ⟨newG n, Bd.new n, Cs.new n, rfl, Nat.le_refl _, R, h1.fr ((Fr.refl (fun _ => False) w2).alloc _) (fun _ e => e.elim), h2.alloc _, h3, ⟨_, heapNew w2 _, by simp, fun j hj => ?_⟩, ⟨hb, h2.size⟩, OwnsWin.nil _ _ _ _, fun k hk => by simp [Value.ownBlock] at hk, fun t x hx => by simp at hx⟩
  have e : (#[.int .i64 0, .int .i64 0, .int .i64 0, .int .i64 0, .int .i64 0, .int .i64 0, .int .i64 0, .int .i64 0, .int .i64 0, .int .i64 0, .int .i64 0, .int .i64 0, .int .i64 0, .int .i64 0, .int .i64 0, .int .i64 0] : Array Value) = Array.replicate 16 (.int .i64 0) := rfl
  rw [e, Array.getElem?_replicate, if_pos hj]
  rfl
set_option maxRecDepth 100000 in
set_option maxHeartbeats 8000000 in
theorem rises_law (wk : Int) (l : List Acc) (p : Option Addr) (c : Nat) (w : World) (hl : RowR 4 AccR w (.slice p l.length c) l) :
    Calls Try.prog 5 #[.int .i64 wk, .slice p l.length c] w fun e w' => e = .returned (.bool true) ∧ Fr (fun _ => False) w w' := by
  have AL := Lib.hid (alive_any w)
  have HR := Lib.hid hl
  clear hl
  obtain ⟨i33, hu0, hu1, hu2, hu3⟩ := info_parts info33
  go_enter Try.func5, Try.ntmps5
  go_wp2_with fail
  rename_i KK aa
  refine AL.out.mono ?_
  rintro e w1 ⟨rfl, f1⟩
  have F1 := Lib.hid f1
  clear AL f1
  show KK _ _
  apply aa
  clear aa
  by_cases c0 : wk < 1
  · have d0 : decide (wk < 1) = true := by simpa using c0
    clear c0
    go_wp2_with fail
    go_ret
    exact ⟨rfl, F1.out⟩
  have d0 : decide (wk < 1) = false := by simpa using c0
  by_cases c1 : 16 < wk
  · have d1 : decide (16 < wk) = true := by simpa using c1
    clear c1
    go_wp2_with fail
    go_ret
    exact ⟨rfl, F1.out⟩
  have d1 : decide (16 < wk) = false := by simpa using c1
  by_cases c2 : 80 < l.length
  · have d2 : decide ((80 : Int) < (l.length : Int)) = true := by simp; omega
    clear c2
    go_wp2_with fail
    go_ret
    exact ⟨rfl, F1.out⟩
  have d2 : decide ((80 : Int) < (l.length : Int)) = false := by simp; omega
  obtain ⟨n, rfl⟩ := Int.eq_ofNat_of_zero_le (by omega : 0 ≤ wk)
  have hn : nW (n : Int) = n := by unfold nW; omega
  have P1 := Lib.hid (LS.new w w1 F1.out (n : Int))
  rw [hn] at P1
  clear hn
  go_wp2_with fail
  rename_i KK2 aa2
  refine P1.out.mono ?_
  rintro e w2 ⟨b, rfl, l2⟩
  have H0 := Lib.hid (RiS.start l2)
  have hn16 : n ≤ 16 := by omega
  have hll : l.length ≤ 80 := by omega
  clear l2 P1 F1 c0 c1 c2 d0 d1 d2
  show KK2 _ _
  apply aa2
  clear aa2
  obtain ⟨ob, hob⟩ : ∃ ob, w2.heap.size = ob := ⟨_, rfl⟩
  go_wp2_with fail
  rw [hob] at H0
  clear hob
  go_loopw [8] (fun q wr => ∃ (t : Nat), t ≤ l.length ∧ q = .int .i64 t ∧ Hid (RiS w wr b n ob t)) (fun q _ => l.length - (intOf q).toNat)
  case atStart => exact ⟨0, by omega, rfl, H0⟩
  case round =>
    obtain ⟨t, hk, rfl, hS⟩ := hrel
    clear H0
    by_cases hlt : t < l.length
    · obtain ⟨a, ha⟩ : ∃ a, l[t]? = some a := ⟨l[t], List.getElem?_eq_getElem hlt⟩
      obtain ⟨r1, r2, gg, off, rfl, hcl⟩ := acc_at HR.out ha
      have HCL := Lib.hid hcl
      obtain ⟨g, h2, h3, h4, h5, h1⟩ := hS.out
      have q1 : decide ((t : Int) < (l.length : Int)) = true := by simp; omega
      have HL := Lib.hid h1
      have HB := Lib.hid h2
      have HC := Lib.hid h3
      have HN := Lib.hid h4
      have HG := Lib.hid h5
      have HZ := Lib.hid r2
      clear hcl h1 h2 h3 h4 h5 ha r1 r2 hS
      obtain ⟨w3, rfl⟩ : ∃ w3 : World, w3 = wr := ⟨_, rfl⟩
      go_wp2_with fail
      go_loopw [9, 10] (fun v9 q wr => ∃ (k : Nat) (ws : List (Nat × Nat × Nat)), k ≤ n ∧ ws.length = k ∧ q = .int .i64 k ∧ Hid (Ris w wr b n g (fun j => g.C j j) ob v9 ws g.C)) (fun _ q _ => n - (intOf q).toNat)
      case atStart => exact ⟨0, [], by omega, rfl, rfl, HL⟩
      case round =>
        obtain ⟨k, ws, hkn, hwl, rfl, hR⟩ := hrel
        clear HL
        subst hwl
        obtain ⟨RR, hRR⟩ := hR.out
        obtain ⟨sp, sc, hv9⟩ := hRR.row.shape
        subst hv9
        have hgt := hRR.fr.size
        have HROW := Lib.hid hRR.row
        have HCAP := Lib.hid (hRR.row.capLe rfl)
        have HAT := Lib.hid (show ∀ t x, ws[t]? = some x → n ≤ x.2.2 ∧ x.2.2 ≤ maxLen from fun t x hx => (hRR.at_ t x hx).2.2.2.2)
        clear hRR
        by_cases hkl : ws.length < n
        · have q2 : decide ((ws.length : Int) < (n : Int)) = true := by simp; omega
          have CK := Lib.hid (hR.out.clk HN.out hkl)
          have KP := Lib.hid (fun W1 W2 x s7 c7 o f1 hx hr hc ho hg hs => Ris.keep (W1 := W1) (W2 := W2) (x := x) (sp := s7) (sc := c7) (o := o) hR.out f1 hx hr hc ho hg hs)
          clear HAT HCAP
          go_wp2_with (first
            | (go_at_call 11; refine CK.out.mono ?_; rintro e w5 ⟨nb, o, cc, rfl, h1, h2, h3, h4, f5⟩; have F5 := Lib.hid f5; have N1 := Lib.hid h1; have N2 := Lib.hid h2; have N3 := Lib.hid (And.intro h3 h4); have hsz5 := f5.size; have OW := Lib.hid (HROW.out.fr (f5.alloc (.cells #[.slice (some ⟨nb, o, none⟩) n cc] 33)) (by simp)); clear f5 h1 h2 h3 h4 CK)
            | (at_builtin; refine wpList_append_src _ rfl (.tmp 45) (.tmp 49) 32 rfl w.heap.size 33 i33 _ 1 24 Try.underlying32 hu0 hu1 hu2 hu3 rfl (by decide) (.slice sp ws.length sc) ws.length _ rfl OW.out (some ⟨_, 0, none⟩) 1 1 [.slice (some ⟨nb, o, none⟩) n cc] rfl (Src.one (heapNew _ _) rfl) (by simp [Value.oneCell']) (by unfold maxLen; omega) (by omega) (by rw [World.size_alloc]; omega) ?_; intro s7 c7 w7 hown hgrow hsh; have R7 := Lib.hid (KP.out _ w7 (nb, o, cc) s7 c7 _ F5.out N1.out N2.out N3.out hown hgrow hsh); clear hown hgrow hsh))
          go_roundw
          case rel => exact ⟨ws.length + 1, ws ++ [(nb, o, cc)], by omega, by simp, by first | rfl | go_num, R7⟩
          case measure => simp [intOf]; omega
        · have q2 : decide ((ws.length : Int) < (n : Int)) = false := by simp; omega
          obtain ⟨x0, x1, x2, x3⟩ := HCL.out wr hR.out.frw
          have hGL : g.L.length ≤ 100000 := by have := HG.out; omega
          have AC := Lib.hid (hR.out.act HB.out hGL a HZ.out)
          obtain ⟨pu1, pu2, pu3, pu4⟩ := rises_pure HC.out a
          have HB' := Lib.hid (HB.out.doG a)
          have HC' := Lib.hid (HC.out.doG a)
          have HN' := Lib.hid (show (DoG g a).n = n by rw [doG_n]; exact HN.out)
          have HG' := Lib.hid (show (DoG g a).L.length ≤ t + 1 by have := doG_len g a; have := HG.out; omega)
          unfold accV at AC
          clear HB HC HG hGL HROW
          generalize DoG g a = g' at *
          have PU1 := Lib.hid pu1
          have PU2 := Lib.hid pu2
          have PU3 := Lib.hid pu3
          have PU4 := Lib.hid pu4
          clear pu1 pu2 pu3 pu4
          go_wp2_with (go_at_call 10; refine AC.out.mono ?_; rintro e w5 ⟨rfl, l5⟩; have LL := Lib.hid l5; clear l5 AC)
          clear x0 x1 x2 x3 hR
          have hwn : n ≤ ws.length := by omega
          go_loopw [11] (fun q wr => ∃ (u : Nat), u ≤ n ∧ q = .int .i64 u ∧ Hid (Ris w wr b n g' (fun j => g.C j j) ob (.slice sp ws.length sc) ws g.C)) (fun q _ => n - (intOf q).toNat)
          case atStart => exact ⟨0, by omega, rfl, LL⟩
          case round =>
            obtain ⟨u, hun, rfl, hR⟩ := hrel
            clear LL
            by_cases hul : u < n
            · have q3 : decide ((u : Int) < (n : Int)) = true := by simp; omega
              have CK := Lib.hid (hR.out.clk HN'.out hul)
              have qlen : ((n : Int) != (n : Int)) = false := by simp
              obtain ⟨RR, hRR⟩ := hR.out
              obtain ⟨y, hy⟩ : ∃ y, ws[u]? = some y := ⟨_, List.getElem?_eq_getElem (by omega)⟩
              obtain ⟨yr, -, -, -, -⟩ := hRR.at_ u y hy
              obtain ⟨gw, ow, capw, hvw, -, -, hgw, -, hcellw, -⟩ := hRR.row.cells (by omega)
              cases hvw
              have yw := hcellw u (sl3 n y) (by rw [List.getElem?_map, hy]; rfl)
              obtain ⟨y1, y2, y3⟩ := y
              simp only [sl3, sl] at yw yr
              have YR := Lib.hid yr
              have YV := Lib.hid yw
              have hfw := hRR.fr
              have HFW := Lib.hid hfw
              have hu2 : (u : Int) < (ws.length : Int) := by omega
              clear hRR hcellw hy yr yw hfw
              by_cases hw : (u : Int) = a.who
              · have qw : ((u : Int) != a.who) = false := by simpa using hw
                clear hw
                go_wp2_with (go_at_call 11; refine CK.out.mono ?_; rintro e w6 ⟨nb, o, cc, rfl, h1, h2, h3, h4, f6⟩; have NR7 := Lib.hid h2; have x0 := (HCL.out w6 (HFW.out.trans f6)).1; have YR7 := Lib.hid (YR.out.fr f6 (by simp)); have YV7 := Lib.hid ((f6.cell (World.block_lt_of_cell? _ _ YV.out) (by simp)).trans YV.out); have RH7 := Lib.hid (hR.out.fr0 f6); clear h1 h2 h3 h4 f6 CK)
                clear x0 YR YV HFW hR
                go_loopw [13] (fun q wr => ∃ (r m : Nat), r ≤ n ∧ q = .int .i64 r ∧ wr = w6.drewN m) (fun q _ => n - (intOf q).toNat)
                case atStart => exact ⟨0, 0, by omega, rfl, rfl⟩
                case round =>
                  obtain ⟨r, m, hrn, rfl, rfl⟩ := hrel
                  by_cases hrl : r < n
                  · have HW := Lib.hid (show ∀ n, (w6.drewN m).drewN n = w6.drewN (m + n) from fun n => World.drewN_drewN _ _ _)
                    have n0 : (w6.drewN m).cell? ⟨nb, o + r, none⟩ = some (.int .i64 ((g'.C u r : Nat) : Int)) := NR7.out.cell hrl
                    have z0 : (w6.drewN m).cell? ⟨y1, y2 + r, none⟩ = some (.int .i64 ((g.C u r : Nat) : Int)) := YR7.out.cell hrl
                    have v0 : (w6.drewN m).cell? ⟨gw, ow + u, none⟩ = some (.slice (some ⟨y1, y2, none⟩) n y3) := YV7.out
                    have hle := PU2.out u r
                    have k1 : decide (((g'.C u r : Nat) : Int) < ((g.C u r : Nat) : Int)) = false := by simp; omega
                    have k2 : decide (g'.C u r < g.C u r) = false := by simp; omega
                    generalize g'.C u r = e1 at *
                    generalize g.C u r = e2 at *
                    generalize w6.drewN m = w9 at *
                    have j1 : (r : Int) < (n : Int) := by omega
                    have j2 : (u : Int) < (ws.length : Int) := by omega
                    go_wp2_with fail
                    go_quiet (fail)
                    go_wp2_with fail
                    go_roundw
                    case rel => exact ⟨r + 1, _, by omega, by go_num, HW.out _⟩
                    case measure => simp [intOf]; omega
                  · go_wp2_with fail
                    go_roundw
                    case rel => exact ⟨u + 1, by omega, by first | rfl | go_num, Lib.hid (RH7.out.fr0 ⟨rfl, rfl, rfl, Nat.le_refl _, fun _ _ _ => rfl⟩)⟩
                    case measure => simp [intOf]; omega
              · have qw : ((u : Int) != a.who) = true := by simpa using hw
                have hCu := PU1.out u hw
                clear hw
                go_wp2_with (first
                  | (go_at_call 11; refine CK.out.mono ?_; rintro e w6 ⟨nb, o, cc, rfl, h1, h2, h3, h4, f6⟩; have NR6 := Lib.hid h2; have x0 := (HCL.out w6 (HFW.out.trans f6)).1; have YR6 := Lib.hid (YR.out.fr f6 (by simp)); have yv6 := ((f6.cell (World.block_lt_of_cell? _ _ YV.out) (by simp)).trans YV.out); have RH6 := Lib.hid (hR.out.fr0 f6); have SR := Lib.hid (same_row w6 nb o cc y1 y2 y3 n (g.C u) (by rw [← hCu]; exact h2) YR6.out (by omega)); clear h1 h2 h3 h4 f6 CK hCu)
                  | (go_at_call 12; refine SR.out.mono ?_; rintro e w7 ⟨rfl, f7⟩; have NR7 := Lib.hid (NR6.out.fr f7 (by simp)); have YR7 := Lib.hid (YR6.out.fr f7 (by simp)); have YV7 := Lib.hid ((f7.cell (World.block_lt_of_cell? _ _ yv6) (by simp)).trans yv6); have RH7 := Lib.hid (RH6.out.fr0 f7); clear f7 SR NR6 YR6 RH6))
                clear x0 yv6 YR YV HFW hR
                go_loopw [13] (fun q wr => ∃ (r m : Nat), r ≤ n ∧ q = .int .i64 r ∧ wr = w7.drewN m) (fun q _ => n - (intOf q).toNat)
                case atStart => exact ⟨0, 0, by omega, rfl, rfl⟩
                case round =>
                  obtain ⟨r, m, hrn, rfl, rfl⟩ := hrel
                  by_cases hrl : r < n
                  · have HW := Lib.hid (show ∀ n, (w7.drewN m).drewN n = w7.drewN (m + n) from fun n => World.drewN_drewN _ _ _)
                    have n0 : (w7.drewN m).cell? ⟨nb, o + r, none⟩ = some (.int .i64 ((g'.C u r : Nat) : Int)) := NR7.out.cell hrl
                    have z0 : (w7.drewN m).cell? ⟨y1, y2 + r, none⟩ = some (.int .i64 ((g.C u r : Nat) : Int)) := YR7.out.cell hrl
                    have v0 : (w7.drewN m).cell? ⟨gw, ow + u, none⟩ = some (.slice (some ⟨y1, y2, none⟩) n y3) := YV7.out
                    have hle := PU2.out u r
                    have k1 : decide (((g'.C u r : Nat) : Int) < ((g.C u r : Nat) : Int)) = false := by simp; omega
                    have k2 : decide (g'.C u r < g.C u r) = false := by simp; omega
                    generalize g'.C u r = e1 at *
                    generalize g.C u r = e2 at *
                    generalize w7.drewN m = w9 at *
                    have j1 : (r : Int) < (n : Int) := by omega
                    have j2 : (u : Int) < (ws.length : Int) := by omega
                    go_wp2_with fail
                    go_quiet (fail)
                    go_wp2_with fail
                    go_roundw
                    case rel => exact ⟨r + 1, _, by omega, by go_num, HW.out _⟩
                    case measure => simp [intOf]; omega
                  · go_wp2_with fail
                    go_roundw
                    case rel => exact ⟨u + 1, by omega, by first | rfl | go_num, Lib.hid (RH7.out.fr0 ⟨rfl, rfl, rfl, Nat.le_refl _, fun _ _ _ => rfl⟩)⟩
                    case measure => simp [intOf]; omega
            · obtain rfl : u = n := by omega
              have q3 : decide ((u : Int) < (u : Int)) = false := by simp
              obtain ⟨x0, -⟩ := HCL.out wr hR.out.frw
              have isb : isB g.n a.who = (decide (0 ≤ a.who) && decide (a.who < (u : Int))) := by rw [HN.out]; rfl
              by_cases e0 : 0 ≤ a.who
              · by_cases e1 : a.who < (u : Int)
                · have d3 : decide (0 ≤ a.who) = true := by simpa using e0
                  have d4 : decide (a.who < (u : Int)) = true := by simpa using e1
                  have p3 := PU3.out (by rw [isb, d3, d4]; rfl)
                  obtain ⟨m, hm⟩ := Int.eq_ofNat_of_zero_le e0
                  have hmu : m < u := by omega
                  rw [hm] at p3 x0 d3 d4
                  have hb1 := HB'.out.b1 m m
                  have hb2 := HG'.out
                  have pm := p3 m
                  rw [show ((m : Nat) : Int).toNat = m from rfl, upd_same] at pm
                  have hown : (upd (fun j => g.C j j) m (g.C m m + 1)) = fun j => g'.C j j := funext fun j => (p3 j).symm
                  obtain ⟨RR, hRR⟩ := hR.out
                  obtain ⟨oc, of⟩ := hRR.ow.cell (j := m) (by omega)
                  have UP := Lib.hid (hR.out.up (i := m) (by omega) (g.C m m + 1))
                  rw [hown] at UP
                  have hcm : g.C m m ≤ 1000 := by omega
                  have hm16 : (m : Int) < 16 := by omega
                  have HCL2 := Lib.hid (fun W f => (HCL.out W f).1)
                  rw [hm] at HCL2
                  clear p3 hb1 hb2 hown hRR e0 e1 isb PU1 PU2 PU3 PU4 hR HCL HN
                  have PM := Lib.hid pm
                  clear pm
                  have u2 := (HCL2.out _ UP.out.frw)
                  have CK := Lib.hid (UP.out.clk HN'.out hmu)
                  generalize g.C m m = gm at *
                  rw [show ((gm + 1 : Nat) : Int) = (gm : Int) + 1 by omega] at UP CK u2
                  go_wp2_with (go_at_call 11; refine CK.out.mono ?_; rintro e w8 ⟨nb, o, cc, rfl, h1, h2, h3, h4, f8⟩; have RH8 := Lib.hid (UP.out.fr0 f8); have k0 := h2.cell hmu; have x8 := HCL2.out w8 RH8.out.frw; clear h1 h2 h3 h4 f8 CK)
                  obtain ⟨R8, hR8⟩ := RH8.out
                  obtain ⟨o8, -⟩ := hR8.ow.cell (j := m) (by omega)
                  have qe : ((g'.C m m : Int) != (g'.C m m : Int)) = false := by simp
                  clear hR8 UP u2 x0 oc of
                  generalize g'.C m m = e9 at *
                  have hm2 : (m : Int) < (u : Int) := by omega
                  have NN := Lib.hid RH8.out.nil
                  clear RH8
                  go_quiet (fail)
                  go_wp2_with fail
                  go_roundw
                  case rel => exact ⟨t + 1, by omega, by first | rfl | go_num, Lib.hid (by refine ⟨g', HB'.out, HC'.out, HN'.out, HG'.out, ?_⟩; exact NN.out.fr0 ⟨rfl, rfl, rfl, Nat.le_refl _, fun _ _ _ => rfl⟩)⟩
                  case measure => simp [intOf]; omega
                · have d3 : decide (0 ≤ a.who) = true := by simpa using e0
                  have d4 : decide (a.who < (u : Int)) = false := by simpa using e1
                  have hg := PU4.out (by rw [isb, d4, Bool.and_false])
                  clear e0 e1 isb
                  go_wp2_with fail
                  go_roundw
                  case rel => exact ⟨t + 1, by omega, by first | rfl | go_num, Lib.hid ⟨g', HB'.out, HC'.out, HN'.out, HG'.out, by have := hR.out.nil; rw [← hg] at this; exact this⟩⟩
                  case measure => simp [intOf]; omega
              · have d3 : decide (0 ≤ a.who) = false := by simpa using e0
                have hg := PU4.out (by rw [isb, d3, Bool.false_and])
                clear e0 isb
                go_wp2_with fail
                go_roundw
                case rel => exact ⟨t + 1, by omega, by first | rfl | go_num, Lib.hid ⟨g', HB'.out, HC'.out, HN'.out, HG'.out, by have := hR.out.nil; rw [← hg] at this; exact this⟩⟩
                case measure => simp [intOf]; omega
    · obtain rfl : t = l.length := by omega
      have q1 : decide ((l.length : Int) < (l.length : Int)) = false := by simp
      obtain ⟨g, _, _, _, _, h1⟩ := hS.out
      go_wp2_with fail
      go_ret
      exact ⟨rfl, h1.frw⟩
theorem clockRises_walk (wk : Int) (v : Value) (l : List Acc) (w : World) (_ : (Lit.int .i64 wk).wf = true) (hl : RowR 4 AccR w v l) :
    Calls Try.prog 5 #[.int .i64 wk, v] w fun e w' => e = .returned (.bool true) ∧ Below w.heap.size w w' := by
  obtain ⟨p, c, rfl, h⟩ := hl
  exact (rises_law wk l p c w ⟨p, c, rfl, h⟩).mono fun _ _ h => ⟨h.1, h.2.below (Nat.le_refl _) (by simp)⟩
end Go.Proofs.Ytmfkomdfknflgaa
