/- Wants: what a selector wants of ancestors. No condition but sizes. -/
import Derived.Test.YtfhojfndccelfaaSel
namespace Go.Proofs.Ytfhojfndccelfaa
open Go.RowKit Go.Shelf

attribute [local go_sem] Oper.semAt_some

/-- The marks stand. -/
structure MkS (w : World) (Ds : List Nat) (S : Nat → Prop) (W : World) : Prop where
  nd : Ds.Nodup
  at_ : ∀ D ∈ Ds, w.heap.size ≤ D ∧ ¬ S D ∧ W.heap[D]? = some (.deferred (some []))
theorem MkS.fr {w : World} {Ds : List Nat} {S T : Nat → Prop} {W W' : World} (h : MkS w Ds S W) (f : Fr T W W') (hT : ∀ D ∈ Ds, ¬ T D) : MkS w Ds S W' :=
  ⟨h.nd, fun D hD => ⟨(h.at_ D hD).1, (h.at_ D hD).2.1, f.heap (h.at_ D hD).2.2 (hT D hD)⟩⟩
/-- Between two rounds. -/
structure WS (w : World) (p : Option Addr) (c : Nat) (ps : List Prt) (i : Int) (acc : List Nat) (Ds : List Nat) (S : Nat → Prop) (W : World) : Prop where
  tot : acc ++ wG ps i.toNat = wA ps
  len : acc.length + 11 * i.toNat ≤ 660
  ow : OW w (w.heap.size + 1) acc S W
  mks : MkS w Ds S W
  bx : W.heap[w.heap.size]? = some (.cells #[.slice p ps.length c] 51 (0, 0))
  nb : ¬ S w.heap.size
/-- Within a round. -/
structure WR (w : World) (p : Option Addr) (c : Nat) (ps : List Prt) (acc : List Nat) (Ds : List Nat) (pre : List Nat) (S : Nat → Prop) (W : World) : Prop where
  ow : OW w (w.heap.size + 1) (acc ++ pre) S W
  mks : MkS w Ds S W
  bx : W.heap[w.heap.size]? = some (.cells #[.slice p ps.length c] 51 (0, 0))
  nb : ¬ S w.heap.size
theorem WR.keep {w : World} {p : Option Addr} {c : Nat} {ps : List Prt} {acc Ds pre : List Nat} {S : Nat → Prop} {W1 W2 : World} {B : Nat} (h : WR w p c ps acc Ds pre S W1) (hB : w.heap.size < B) (hD : ∀ D ∈ Ds, D < B) (f : Fr (fun k => (False ∨ B ≤ k) ∧ ¬ S k) W1 W2) : WR w p c ps acc Ds pre S W2 :=
  ⟨h.ow.keep (R := fun k => False ∨ B ≤ k) (fun k e => by rcases e with e | e; exact e.elim; omega) f, h.mks.fr f (fun D hd e => by have := hD D hd; rcases e.1 with e | e; exact e; omega), f.heap h.bx (fun e => by rcases e.1 with e | e; exact e; omega), h.nb⟩
theorem WR.next {w : World} {p : Option Addr} {c : Nat} {ps : List Prt} {acc Ds pre : List Nat} {S S' : Nat → Prop} {W1 W2 : World} {x : Nat} (h : WR w p c ps acc Ds pre S W1) (ho : OW w (w.heap.size + 1) (acc ++ pre ++ [x]) S' W2) (f : Fr S W1 W2) (hS : ∀ k, S' k → S k ∨ W1.heap.size ≤ k) : WR w p c ps acc Ds (pre ++ [x]) S' W2 :=
  ⟨by rw [← List.append_assoc]; exact ho, ⟨h.mks.nd, fun D hd => ⟨(h.mks.at_ D hd).1, fun e => by rcases hS D e with e | e; exact (h.mks.at_ D hd).2.1 e; have := ltOf (h.mks.at_ D hd).2.2; omega, f.heap (h.mks.at_ D hd).2.2 (h.mks.at_ D hd).2.1⟩⟩,
    f.heap h.bx h.nb, fun e => by rcases hS _ e with e | e; exact h.nb e; have := ltOf h.bx; omega⟩
theorem StrO.lift {S : Nat → Prop} {w W : World} {v : Value} {l : List ByteArray} (h : StrO (fun _ => False) w v l) (f : Fr (fun _ => False) w W) (hS : ∀ k, S k → w.heap.size ≤ k) : StrO S W v l := by
  obtain ⟨p, c, e, hm, h1⟩ := h
  refine ⟨p, c, e, hm, fun i x hx => ?_⟩
  obtain ⟨h0, g, off, hp, hg, hn, hcl⟩ := h1 i x hx
  exact ⟨h0, g, off, hp, Nat.lt_of_lt_of_le hg f.size, fun e => by have := hS g e; omega, (f.cell (p := ⟨g, off + i, none⟩) hg (by simp)).trans hcl⟩

set_option maxRecDepth 100000 in
set_option maxHeartbeats 4000000 in
theorem Wants_any (w : World) (p : Option Addr) (c : Nat) (ps : List Prt) (h : IsParts w (.slice p ps.length c) ps) (hok : PrtOk ps) :
    Calls Try.prog 19 #[.agg #[.slice p ps.length c]] w (NewN w (wA ps)) := by
  obtain ⟨i3, hb0, hb1, hb2, hb3⟩ := info_parts info3
  have hl := hok.1
  have HP := Lib.hid h
  have HOK := Lib.hid hok
  clear h hok
  refine (callsIn_wide (n := 6)).1 ?_
  refine callsIn_of_wp_marks Try.func19 rfl trivial ?_ rfl
  simp only [Try.ntmps19, List.size_toArray, List.length_cons, List.length_nil, Nat.reduceAdd, Nat.reduceSub, Array.replicate_succ, Array.replicate_zero, List.push_toArray, List.append_toArray, List.nil_append, List.cons_append]
  gi_wp2
  have hbO : ((w.alloc (.cells #[.slice p ps.length c] 51)).alloc (.cells #[.slice none 0 0] 31)).heap[w.heap.size + 1]? = some (.cells #[.slice none 0 0] 31 (0, 0)) := by
    have := heapNew (w.alloc (.cells #[.slice p ps.length c] 51)) (.cells #[.slice none 0 0] 31)
    rwa [World.size_alloc] at this
  have hW0 := Lib.hid (show WS w p c ps ((ps.length : Int) - 1) [] [] (fun k => k = w.heap.size + 1) ((w.alloc (.cells #[.slice p ps.length c] 51)).alloc (.cells #[.slice none 0 0] 31)) from
    ⟨by rw [List.nil_append]; unfold wA; congr 1; omega, by simp; omega, ⟨by omega, ⟨none, 0, hbO, OwnsWin.nil _ _ _ _, fun k => by simp [Value.ownBlock]⟩, ((Fr.refl _ w).alloc _).alloc _⟩, ⟨by simp, by simp⟩, heapAlloc (heapNew w _), by omega⟩)
  clear hbO
  generalize (w.alloc (.cells #[.slice p ps.length c] 51)).alloc (.cells #[.slice none 0 0] 31) = wl at *
  refine wpIn_loop_ghost_k (fun n a W => ∃ (i : Int) (acc : List Nat) (Ds : List Nat) (S : Nat → Prop) (u5 u6 u12 u13 u14 u15 u16 u17 u18 u19 u20 u21 u22 u23 u24 u25 u26 u27 u28 u29 u30 u31 u32 u33 u34 u35 u36 u37 u38 u39 u40 u41 : Value), a = { tmps := #[.agg #[.slice p ps.length c], .pointer (some ⟨w.heap.size, 0, none⟩), .slice none 0 0, .pointer (some ⟨w.heap.size + 1, 0, none⟩), .int .i64 i, u5, u6, undef, .pointer (some ⟨w.heap.size, 0, none⟩), .slice p ps.length c, .int .i64 ps.length, .int .i64 ((ps.length : Int) - 1), u12, u13, u14, u15, u16, u17, u18, u19, u20, u21, u22, u23, u24, u25, u26, u27, u28, u29, u30, u31, u32, u33, u34, u35, u36, u37, u38, u39, u40, u41, undef, undef, undef, undef, undef, undef], defers := Mk Ds } ∧ n = i.toNat ∧ -1 ≤ i ∧ i < ps.length ∧ Hid (WS w p c ps i acc Ds S W)) ((ps.length : Int) - 1).toNat ?start ?round
  case start => exact ⟨_, [], [], _, undef, undef, undef, undef, undef, undef, undef, undef, undef, undef, undef, undef, undef, undef, undef, undef, undef, undef, undef, undef, undef, undef, undef, undef, undef, undef, undef, undef, undef, undef, undef, undef, rfl, rfl, by omega, by omega, hW0⟩
  case round =>
    clear hW0
    rintro n a W ⟨i, acc, Ds, S, u5, u6, u12, u13, u14, u15, u16, u17, u18, u19, u20, u21, u22, u23, u24, u25, u26, u27, u28, u29, u30, u31, u32, u33, u34, u35, u36, u37, u38, u39, u40, u41, rfl, rfl, hi0, hi1, hS⟩ J K2 hJ hK2
    by_cases hpos : 0 < i
    · obtain ⟨j, rfl⟩ : ∃ j : Nat, i = (j : Int) + 1 := ⟨(i - 1).toNat, by omega⟩
      have hj1 : j + 1 < ps.length := by omega
      obtain ⟨x, hx⟩ : ∃ x, ps[j + 1]? = some x := ⟨ps[j + 1], List.getElem?_eq_getElem hj1⟩
      obtain ⟨y, hy⟩ : ∃ y, ps[j]? = some y := ⟨ps[j], List.getElem?_eq_getElem (by omega)⟩
      have fS := hS.out.ow.fr
      obtain ⟨g, off, pi, pc, pa, pp, ci, cc, na, ca, np, cp, rfl, -, hg, a0, -, -, -, -, -, -, -, -⟩ := part_at HP.out hx
      obtain ⟨_, _, qi, qc, qa, qp, di, dc, ma, da, mp, dp, e, -, -, -, b1, b2, b3, b4, b5, r1, r2, r3⟩ := part_at HP.out hy
      cases e
      have x0 := (fS.cell (p := ⟨g, off + (j + 1) * 6, none⟩) hg (by simp)).trans a0
      have y1 := (fS.cell (p := ⟨g, off + j * 6 + 1, none⟩) hg (by simp)).trans b1
      have y2 := (fS.cell (p := ⟨g, off + j * 6 + 1 + 1, none⟩) hg (by simp)).trans b2
      have y3 := (fS.cell (p := ⟨g, off + j * 6 + 1 + 2, none⟩) hg (by simp)).trans b3
      have y4 := (fS.cell (p := ⟨g, off + j * 6 + 1 + 3, none⟩) hg (by simp)).trans b4
      have y5 := (fS.cell (p := ⟨g, off + j * 6 + 1 + 4, none⟩) hg (by simp)).trans b5
      have hbx := cellOf hS.out.bx 0
      simp at hbx
      have HXY := Lib.hid (show wG ps ((j : Int) + 1).toNat = if x.comb = 1 ∨ x.comb = 2 then hsP y ++ wG ps j else [] by
        rw [show ((j : Int) + 1).toNat = j + 1 by omega]; simp only [wG, hx, hy])
      have HY := Lib.hid (hsP_len HOK.out (List.mem_of_getElem? hy))
      have HYO := Lib.hid (HOK.out.2 y (List.mem_of_getElem? hy))
      have HR := Lib.hid (And.intro r1 (And.intro r2 r3))
      have d0 : decide ((0 : Int) < (j : Int) + 1) = true := decide_eq_true (by omega)
      have y0 := True.intro
      clear fS a0 b1 b2 b3 b4 b5 r1 r2 r3 hx hy hpos pi pc pa pp ci cc na ca np cp hg
      have hi2 : (j : Int) + 1 < (ps.length : Int) := hi1
      by_cases hc1 : x.comb = 1
      · have q1 : (x.comb != 1) = false := by simp [hc1]
        have HC := Lib.hid (show x.comb = 1 ∨ x.comb = 2 from .inl hc1)
        clear hc1
        have hin : x.comb = 1 ∨ x.comb = 2 := HC.out
        have HX := Lib.hid (show wG ps ((j : Int) + 1).toNat = hsP y ++ wG ps j by rw [HXY.out, if_pos hin])
        clear hin
        gi_wp2_with ((refine ⟨trivial, ?_⟩; gi_at_call 38; refine (callsIn_wide.2 (hashes_any _ _ _ _ _ _ _ _)).mono ?_; rintro e w' ⟨rfl, rfl⟩))
        have b1 : ((((W.alloc (.cells #[.string y.tag, .slice qi y.ids.length di, .slice qc y.cls.length dc, .slice qa ma da, .slice qp mp dp] 73)).alloc (.cells #[.string y.tag] 9)).alloc (.cells #[.slice qi y.ids.length di] 41)).alloc (.cells #[.slice qc y.cls.length dc] 41)).heap[W.heap.size + 1]? = some (.cells #[.string y.tag] 9 (0, 0)) := by
          have := heapNew (W.alloc (.cells #[.string y.tag, .slice qi y.ids.length di, .slice qc y.cls.length dc, .slice qa ma da, .slice qp mp dp] 73)) (.cells #[.string y.tag] 9)
          rw [World.size_alloc] at this
          exact heapAlloc (heapAlloc this)
        have b2 : ((((W.alloc (.cells #[.string y.tag, .slice qi y.ids.length di, .slice qc y.cls.length dc, .slice qa ma da, .slice qp mp dp] 73)).alloc (.cells #[.string y.tag] 9)).alloc (.cells #[.slice qi y.ids.length di] 41)).alloc (.cells #[.slice qc y.cls.length dc] 41)).heap[W.heap.size + 1 + 1]? = some (.cells #[.slice qi y.ids.length di] 41 (0, 0)) := by
          have := heapNew ((W.alloc (.cells #[.string y.tag, .slice qi y.ids.length di, .slice qc y.cls.length dc, .slice qa ma da, .slice qp mp dp] 73)).alloc (.cells #[.string y.tag] 9)) (.cells #[.slice qi y.ids.length di] 41)
          rw [World.size_alloc, World.size_alloc] at this
          exact heapAlloc this
        have b3 : ((((W.alloc (.cells #[.string y.tag, .slice qi y.ids.length di, .slice qc y.cls.length dc, .slice qa ma da, .slice qp mp dp] 73)).alloc (.cells #[.string y.tag] 9)).alloc (.cells #[.slice qi y.ids.length di] 41)).alloc (.cells #[.slice qc y.cls.length dc] 41)).heap[W.heap.size + 1 + 1 + 1]? = some (.cells #[.slice qc y.cls.length dc] 41 (0, 0)) := by
          have := heapNew (((W.alloc (.cells #[.string y.tag, .slice qi y.ids.length di, .slice qc y.cls.length dc, .slice qa ma da, .slice qp mp dp] 73)).alloc (.cells #[.string y.tag] 9)).alloc (.cells #[.slice qi y.ids.length di] 41)) (.cells #[.slice qc y.cls.length dc] 41)
          rwa [World.size_alloc, World.size_alloc, World.size_alloc] at this
        have f0 : Fr (fun _ => False) W ((((W.alloc (.cells #[.string y.tag, .slice qi y.ids.length di, .slice qc y.cls.length dc, .slice qa ma da, .slice qp mp dp] 73)).alloc (.cells #[.string y.tag] 9)).alloc (.cells #[.slice qi y.ids.length di] 41)).alloc (.cells #[.slice qc y.cls.length dc] 41)) := ((((Fr.refl (fun _ => False) W).alloc _).alloc _).alloc _).alloc _
        generalize (((W.alloc (.cells #[.string y.tag, .slice qi y.ids.length di, .slice qc y.cls.length dc, .slice qa ma da, .slice qp mp dp] 73)).alloc (.cells #[.string y.tag] 9)).alloc (.cells #[.slice qi y.ids.length di] 41)).alloc (.cells #[.slice qc y.cls.length dc] 41) = wl at *
        have hl1 := ltOf b3
        have hlw := ltOf hS.out.bx
        have HDs := Lib.hid (show ∀ D ∈ Ds, D < wl.heap.size from fun D hD => by have := ltOf (hS.out.mks.at_ D hD).2.2; omega)
        have hri : StrO S wl (.slice qi y.ids.length di) y.ids := HR.out.1.lift (hS.out.ow.fr.trans f0) hS.out.ow.low
        have hrc : StrO S wl (.slice qc y.cls.length dc) y.cls := HR.out.2.1.lift (hS.out.ow.fr.trans f0) hS.out.ow.low
        have hlo : ∀ k, S k → k < W.heap.size := hS.out.ow.lt
        have hla : acc.length ≤ 660 := by have := hS.out.len; omega
        have h0 : WR w (some ⟨g, off, none⟩) c ps acc Ds [] S wl := ⟨by
            rw [List.append_nil]
            exact hS.out.ow.keep (R := fun k => W.heap.size ≤ k) (fun k e => by omega) (f0.mono (fun _ _ e => e.elim)), hS.out.mks.fr f0 (fun _ _ e => e), f0.heap hS.out.bx (by simp), hS.out.nb⟩
        refine wpIn_rangeFunc_set rfl (by omega) (gf := 43) (lb := #[.pointer (some ⟨W.heap.size + 1, 0, none⟩), .pointer (some ⟨W.heap.size + 1 + 1, 0, none⟩), .pointer (some ⟨W.heap.size + 1 + 1 + 1, 0, none⟩)]) rfl trivial (enters_of Try.func43 (by kernel_rfl) rfl)
          (hs_stops (W.heap.size + 1) (W.heap.size + 1 + 1) (W.heap.size + 1 + 1 + 1) y.tag (.slice qi y.ids.length di) (.slice qc y.cls.length dc) y.ids y.cls HR.out.2.2 (by have := HYO.out; omega) (by have := HYO.out; omega) (6 - 1) (by omega)) (fun _ => rfl)
          (WR w (some ⟨g, off, none⟩) c ps acc Ds) (fun _ _ _ _ => False) S
          (fun W1 S' f hS' => ⟨f.heap b1 (by simp), f.heap b2 (by simp), f.heap b3 (by simp), hri.step (f.mono (fun _ _ e => e.elim)) hS', hrc.step (f.mono (fun _ _ e => e.elim)) hS', fun k hk => by
            rcases hS' k hk with e | e
            · have := hlo k e; omega
            · omega⟩)
          (fun pre S W1 W2 h f => h.keep (by omega) HDs.out f)
          (fun _ _ _ _ _ h _ => h) (fun pre S W1 h => h.ow.lt)
          h0
          (fun z => { tmps := #[.agg #[.slice (some ⟨g, off, none⟩) ps.length c], .pointer (some ⟨w.heap.size, 0, none⟩), .slice none 0 0, .pointer (some ⟨w.heap.size + 1, 0, none⟩), .int .i64 ((j : Int) + 1), .int .i64 x.comb, .pointer (some ⟨W.heap.size, 0, none⟩), .int .i64 (z : Int), .pointer (some ⟨w.heap.size, 0, none⟩), .slice (some ⟨g, off, none⟩) ps.length c, .int .i64 ps.length, .int .i64 ((ps.length : Int) - 1), .int .i64 ((j : Int) + 1), .bool true, u14, u15, .pointer (some ⟨w.heap.size, 0, none⟩), .slice (some ⟨g, off, none⟩) ps.length c, .int .i64 ((j : Int) + 1), .pointer (some ⟨g, off + (j + 1) * 6, none⟩), .pointer (some ⟨g, off + (j + 1) * 6, none⟩), .int .i64 x.comb, .int .i64 x.comb, .bool false, .bool false, undef, undef, .bool false, .pointer (some ⟨w.heap.size, 0, none⟩), .slice (some ⟨g, off, none⟩) ps.length c, .int .i64 ((j : Int) + 1), .int .i64 (j : Int), .pointer (some ⟨g, off + j * 6, none⟩), .pointer (some ⟨g, off + j * 6 + 1, none⟩), .agg #[.string y.tag, .slice qi y.ids.length di, .slice qc y.cls.length dc, .slice qa ma da, .slice qp mp dp], .pointer (some ⟨W.heap.size, 0, none⟩), .string y.tag, .pointer (some ⟨W.heap.size, 1, none⟩), .slice qi y.ids.length di, .pointer (some ⟨W.heap.size, 2, none⟩), .slice qc y.cls.length dc, .func (.func 43) #[] #[.pointer (some ⟨W.heap.size + 1, 0, none⟩), .pointer (some ⟨W.heap.size + 1 + 1, 0, none⟩), .pointer (some ⟨W.heap.size + 1 + 1 + 1, 0, none⟩)], .int .i64 (z : Int), undef, undef, undef, undef, undef], defers := [] }) ?assign ?body ?done ?stop
        case assign =>
          intro l z W9 K9 hK9
          gi_wp2
          exact hK9
        case body =>
          clear h0 hri hrc hlo hS
          rintro l pre z S9 W9 hWR hlen
          have HWR := Lib.hid hWR
          obtain ⟨⟨hge, ⟨sp, c9, h1, h2, h3⟩, hf⟩, -, -, -⟩ := hWR
          have hlen2 : (acc ++ pre).length ≤ 20000 := by rw [List.length_append]; omega
          generalize hln : acc ++ pre = ln at *
          have c4 := cellOf h1 0
          have z4 := frozenOf h1 0
          simp at c4
          have nb := h2.ne h1 (by intro c; simp)
          have hsz := hf.size
          have H1 := Lib.hid h1
          have H3 := Lib.hid h3
          have HLN := Lib.hid hln
          clear h1 h3 hln
          gi_wp2_with (gi_at_builtin; refine wpListIn_append_src _ rfl (.tmp 43) (.tmp 45) 31 rfl w.heap.size 3 i3 _ 1 8 Try.underlying31 hb0 hb1 hb2 hb3 rfl (by decide) (.slice sp ln.length c9) ln.length _ rfl (h2.fr ((Fr.refl (fun _ => False) _).alloc _) (by simp)) (some ⟨_, 0, none⟩) 1 1 [.int .i64 (z : Int)] rfl (SrcW.one (heapNew _ _) rfl) (by simp [Value.oneCell']) (by unfold maxLen; omega) (by omega) (by rw [World.size_alloc]; omega) ?_; intro sp4 c4' w4 hown hgrow hsh; have hb4 := heapGrown hgrow (heapAlloc H1.out) nb; have r4c := cellOf hb4 0; have r4f := frozenOf hb4 0; simp at r4c; have HA := Lib.hid (OW.step hge hf H1.out h2 H3.out hown hgrow hsh); clear hown hgrow hsh hb4)
          obtain ⟨S', ho, ff, hS'⟩ := HA.out
          exact ⟨S', HWR.out.next (by rw [HLN.out]; exact ho) ff hS', ff, hS'⟩
        case done =>
          clear hri hrc hlo
          rintro D ys S9 W9 hD hSD rfl hWR hK
          have HN := Lib.hid (show WS w (some ⟨g, off, none⟩) c ps (j : Int) (acc ++ hsP y) (D :: Ds) S9 W9 from ⟨by
              have h := hS.out.tot; rw [HX.out, ← List.append_assoc] at h; exact h, by
              have h := hS.out.len; have h2 := HY.out; rw [List.length_append]; omega, hWR.ow, ⟨List.nodup_cons.2 ⟨fun e => by have := HDs.out D e; omega, hWR.mks.nd⟩, fun E hE => by
                rcases List.mem_cons.1 hE with rfl | hE
                · exact ⟨by omega, hSD, hK⟩
                · exact hWR.mks.at_ E hE⟩, hWR.bx, hWR.nb⟩)
          clear hWR hK hSD hD h0 b1 b2 b3 hS hbx y0
          gi_wp2
          exact ⟨(j : Int).toNat, by omega, hJ _ _ _ ⟨(j : Int), _, D :: Ds, S9, _, _, _, _, _, _, _, _, _, _, _, _, _, _, _, _, _, _, _, _, _, _, _, _, _, _, _, _, _, _, _, _, rfl, rfl, by omega, by omega, HN⟩⟩
        case stop =>
          rintro D c pre S9 W9 _ _ _ h _
          exact h.elim
      · have q1 : (x.comb != 1) = true := by simp [hc1]
        by_cases hc2 : x.comb = 2
        · have q2 : (x.comb != 2) = false := by simp [hc2]
          have HC := Lib.hid (show x.comb = 1 ∨ x.comb = 2 from .inr hc2)
          clear hc1 hc2
          have hin : x.comb = 1 ∨ x.comb = 2 := HC.out
          have HX := Lib.hid (show wG ps ((j : Int) + 1).toNat = hsP y ++ wG ps j by rw [HXY.out, if_pos hin])
          clear hin
          gi_wp2_with ((refine ⟨trivial, ?_⟩; gi_at_call 38; refine (callsIn_wide.2 (hashes_any _ _ _ _ _ _ _ _)).mono ?_; rintro e w' ⟨rfl, rfl⟩))
          have b1 : ((((W.alloc (.cells #[.string y.tag, .slice qi y.ids.length di, .slice qc y.cls.length dc, .slice qa ma da, .slice qp mp dp] 73)).alloc (.cells #[.string y.tag] 9)).alloc (.cells #[.slice qi y.ids.length di] 41)).alloc (.cells #[.slice qc y.cls.length dc] 41)).heap[W.heap.size + 1]? = some (.cells #[.string y.tag] 9 (0, 0)) := by
            have := heapNew (W.alloc (.cells #[.string y.tag, .slice qi y.ids.length di, .slice qc y.cls.length dc, .slice qa ma da, .slice qp mp dp] 73)) (.cells #[.string y.tag] 9)
            rw [World.size_alloc] at this
            exact heapAlloc (heapAlloc this)
          have b2 : ((((W.alloc (.cells #[.string y.tag, .slice qi y.ids.length di, .slice qc y.cls.length dc, .slice qa ma da, .slice qp mp dp] 73)).alloc (.cells #[.string y.tag] 9)).alloc (.cells #[.slice qi y.ids.length di] 41)).alloc (.cells #[.slice qc y.cls.length dc] 41)).heap[W.heap.size + 1 + 1]? = some (.cells #[.slice qi y.ids.length di] 41 (0, 0)) := by
            have := heapNew ((W.alloc (.cells #[.string y.tag, .slice qi y.ids.length di, .slice qc y.cls.length dc, .slice qa ma da, .slice qp mp dp] 73)).alloc (.cells #[.string y.tag] 9)) (.cells #[.slice qi y.ids.length di] 41)
            rw [World.size_alloc, World.size_alloc] at this
            exact heapAlloc this
          have b3 : ((((W.alloc (.cells #[.string y.tag, .slice qi y.ids.length di, .slice qc y.cls.length dc, .slice qa ma da, .slice qp mp dp] 73)).alloc (.cells #[.string y.tag] 9)).alloc (.cells #[.slice qi y.ids.length di] 41)).alloc (.cells #[.slice qc y.cls.length dc] 41)).heap[W.heap.size + 1 + 1 + 1]? = some (.cells #[.slice qc y.cls.length dc] 41 (0, 0)) := by
            have := heapNew (((W.alloc (.cells #[.string y.tag, .slice qi y.ids.length di, .slice qc y.cls.length dc, .slice qa ma da, .slice qp mp dp] 73)).alloc (.cells #[.string y.tag] 9)).alloc (.cells #[.slice qi y.ids.length di] 41)) (.cells #[.slice qc y.cls.length dc] 41)
            rwa [World.size_alloc, World.size_alloc, World.size_alloc] at this
          have f0 : Fr (fun _ => False) W ((((W.alloc (.cells #[.string y.tag, .slice qi y.ids.length di, .slice qc y.cls.length dc, .slice qa ma da, .slice qp mp dp] 73)).alloc (.cells #[.string y.tag] 9)).alloc (.cells #[.slice qi y.ids.length di] 41)).alloc (.cells #[.slice qc y.cls.length dc] 41)) := ((((Fr.refl (fun _ => False) W).alloc _).alloc _).alloc _).alloc _
          generalize (((W.alloc (.cells #[.string y.tag, .slice qi y.ids.length di, .slice qc y.cls.length dc, .slice qa ma da, .slice qp mp dp] 73)).alloc (.cells #[.string y.tag] 9)).alloc (.cells #[.slice qi y.ids.length di] 41)).alloc (.cells #[.slice qc y.cls.length dc] 41) = wl at *
          have hl1 := ltOf b3
          have hlw := ltOf hS.out.bx
          have HDs := Lib.hid (show ∀ D ∈ Ds, D < wl.heap.size from fun D hD => by have := ltOf (hS.out.mks.at_ D hD).2.2; omega)
          have hri : StrO S wl (.slice qi y.ids.length di) y.ids := HR.out.1.lift (hS.out.ow.fr.trans f0) hS.out.ow.low
          have hrc : StrO S wl (.slice qc y.cls.length dc) y.cls := HR.out.2.1.lift (hS.out.ow.fr.trans f0) hS.out.ow.low
          have hlo : ∀ k, S k → k < W.heap.size := hS.out.ow.lt
          have hla : acc.length ≤ 660 := by have := hS.out.len; omega
          have h0 : WR w (some ⟨g, off, none⟩) c ps acc Ds [] S wl := ⟨by
              rw [List.append_nil]
              exact hS.out.ow.keep (R := fun k => W.heap.size ≤ k) (fun k e => by omega) (f0.mono (fun _ _ e => e.elim)), hS.out.mks.fr f0 (fun _ _ e => e), f0.heap hS.out.bx (by simp), hS.out.nb⟩
          refine wpIn_rangeFunc_set rfl (by omega) (gf := 43) (lb := #[.pointer (some ⟨W.heap.size + 1, 0, none⟩), .pointer (some ⟨W.heap.size + 1 + 1, 0, none⟩), .pointer (some ⟨W.heap.size + 1 + 1 + 1, 0, none⟩)]) rfl trivial (enters_of Try.func43 (by kernel_rfl) rfl)
            (hs_stops (W.heap.size + 1) (W.heap.size + 1 + 1) (W.heap.size + 1 + 1 + 1) y.tag (.slice qi y.ids.length di) (.slice qc y.cls.length dc) y.ids y.cls HR.out.2.2 (by have := HYO.out; omega) (by have := HYO.out; omega) (6 - 1) (by omega)) (fun _ => rfl)
            (WR w (some ⟨g, off, none⟩) c ps acc Ds) (fun _ _ _ _ => False) S
            (fun W1 S' f hS' => ⟨f.heap b1 (by simp), f.heap b2 (by simp), f.heap b3 (by simp), hri.step (f.mono (fun _ _ e => e.elim)) hS', hrc.step (f.mono (fun _ _ e => e.elim)) hS', fun k hk => by
              rcases hS' k hk with e | e
              · have := hlo k e; omega
              · omega⟩)
            (fun pre S W1 W2 h f => h.keep (by omega) HDs.out f)
            (fun _ _ _ _ _ h _ => h) (fun pre S W1 h => h.ow.lt)
            h0
            (fun z => { tmps := #[.agg #[.slice (some ⟨g, off, none⟩) ps.length c], .pointer (some ⟨w.heap.size, 0, none⟩), .slice none 0 0, .pointer (some ⟨w.heap.size + 1, 0, none⟩), .int .i64 ((j : Int) + 1), .int .i64 x.comb, .pointer (some ⟨W.heap.size, 0, none⟩), .int .i64 (z : Int), .pointer (some ⟨w.heap.size, 0, none⟩), .slice (some ⟨g, off, none⟩) ps.length c, .int .i64 ps.length, .int .i64 ((ps.length : Int) - 1), .int .i64 ((j : Int) + 1), .bool true, u14, u15, .pointer (some ⟨w.heap.size, 0, none⟩), .slice (some ⟨g, off, none⟩) ps.length c, .int .i64 ((j : Int) + 1), .pointer (some ⟨g, off + (j + 1) * 6, none⟩), .pointer (some ⟨g, off + (j + 1) * 6, none⟩), .int .i64 x.comb, .int .i64 x.comb, .bool true, .bool true, .int .i64 x.comb, .bool false, .bool false, .pointer (some ⟨w.heap.size, 0, none⟩), .slice (some ⟨g, off, none⟩) ps.length c, .int .i64 ((j : Int) + 1), .int .i64 (j : Int), .pointer (some ⟨g, off + j * 6, none⟩), .pointer (some ⟨g, off + j * 6 + 1, none⟩), .agg #[.string y.tag, .slice qi y.ids.length di, .slice qc y.cls.length dc, .slice qa ma da, .slice qp mp dp], .pointer (some ⟨W.heap.size, 0, none⟩), .string y.tag, .pointer (some ⟨W.heap.size, 1, none⟩), .slice qi y.ids.length di, .pointer (some ⟨W.heap.size, 2, none⟩), .slice qc y.cls.length dc, .func (.func 43) #[] #[.pointer (some ⟨W.heap.size + 1, 0, none⟩), .pointer (some ⟨W.heap.size + 1 + 1, 0, none⟩), .pointer (some ⟨W.heap.size + 1 + 1 + 1, 0, none⟩)], .int .i64 (z : Int), undef, undef, undef, undef, undef], defers := [] }) ?assign ?body ?done ?stop
          case assign =>
            intro l z W9 K9 hK9
            gi_wp2
            exact hK9
          case body =>
            clear h0 hri hrc hlo hS
            rintro l pre z S9 W9 hWR hlen
            have HWR := Lib.hid hWR
            obtain ⟨⟨hge, ⟨sp, c9, h1, h2, h3⟩, hf⟩, -, -, -⟩ := hWR
            have hlen2 : (acc ++ pre).length ≤ 20000 := by rw [List.length_append]; omega
            generalize hln : acc ++ pre = ln at *
            have c4 := cellOf h1 0
            have z4 := frozenOf h1 0
            simp at c4
            have nb := h2.ne h1 (by intro c; simp)
            have hsz := hf.size
            have H1 := Lib.hid h1
            have H3 := Lib.hid h3
            have HLN := Lib.hid hln
            clear h1 h3 hln
            gi_wp2_with (gi_at_builtin; refine wpListIn_append_src _ rfl (.tmp 43) (.tmp 45) 31 rfl w.heap.size 3 i3 _ 1 8 Try.underlying31 hb0 hb1 hb2 hb3 rfl (by decide) (.slice sp ln.length c9) ln.length _ rfl (h2.fr ((Fr.refl (fun _ => False) _).alloc _) (by simp)) (some ⟨_, 0, none⟩) 1 1 [.int .i64 (z : Int)] rfl (SrcW.one (heapNew _ _) rfl) (by simp [Value.oneCell']) (by unfold maxLen; omega) (by omega) (by rw [World.size_alloc]; omega) ?_; intro sp4 c4' w4 hown hgrow hsh; have hb4 := heapGrown hgrow (heapAlloc H1.out) nb; have r4c := cellOf hb4 0; have r4f := frozenOf hb4 0; simp at r4c; have HA := Lib.hid (OW.step hge hf H1.out h2 H3.out hown hgrow hsh); clear hown hgrow hsh hb4)
            obtain ⟨S', ho, ff, hS'⟩ := HA.out
            exact ⟨S', HWR.out.next (by rw [HLN.out]; exact ho) ff hS', ff, hS'⟩
          case done =>
            clear hri hrc hlo
            rintro D ys S9 W9 hD hSD rfl hWR hK
            have HN := Lib.hid (show WS w (some ⟨g, off, none⟩) c ps (j : Int) (acc ++ hsP y) (D :: Ds) S9 W9 from ⟨by
                have h := hS.out.tot; rw [HX.out, ← List.append_assoc] at h; exact h, by
                have h := hS.out.len; have h2 := HY.out; rw [List.length_append]; omega, hWR.ow, ⟨List.nodup_cons.2 ⟨fun e => by have := HDs.out D e; omega, hWR.mks.nd⟩, fun E hE => by
                  rcases List.mem_cons.1 hE with rfl | hE
                  · exact ⟨by omega, hSD, hK⟩
                  · exact hWR.mks.at_ E hE⟩, hWR.bx, hWR.nb⟩)
            clear hWR hK hSD hD h0 b1 b2 b3 hS hbx y0
            gi_wp2
            exact ⟨(j : Int).toNat, by omega, hJ _ _ _ ⟨(j : Int), _, D :: Ds, S9, _, _, _, _, _, _, _, _, _, _, _, _, _, _, _, _, _, _, _, _, _, _, _, _, _, _, _, _, _, _, _, _, rfl, rfl, by omega, by omega, HN⟩⟩
          case stop =>
            rintro D c pre S9 W9 _ _ _ h _
            exact h.elim
        · have q2 : (x.comb != 2) = true := by simp [hc2]
          have HX := Lib.hid (show wG ps ((j : Int) + 1).toNat = [] by rw [HXY.out, if_neg (by omega)])
          clear hc1 hc2 HXY
          obtain ⟨hge, ⟨sp, c', h1, h2, h3⟩, hf⟩ := hS.out.ow
          have hacc : acc = wA ps := by have h := hS.out.tot; rw [HX.out, List.append_nil] at h; exact h
          subst hacc
          have hcb := cellOf h1 0
          simp at hcb
          have HM := Lib.hid hS.out.mks
          have H2 := Lib.hid h2
          have H3 := Lib.hid h3
          have HF := Lib.hid hf
          clear h1 h2 h3 hf hS HX
          gi_wp2
          exact leaves_marks Ds _ HM.out.nd (fun D hD => (HM.out.at_ D hD).2.2) (fun W' f => ⟨_, results_tmp rfl _ _ _, sp, c', rfl, H2.out.fr f (fun k a e => (HM.out.at_ k e).2.1 ((H3.out k).2 (.inr a))), HF.out.step f (fun k e => .inr (HM.out.at_ k e).1)⟩)
    · have d0 : decide ((0 : Int) < i) = false := by simpa using hpos
      have HX := Lib.hid (show wG ps i.toNat = [] by rw [show i.toNat = 0 by omega]; rfl)
      obtain ⟨hge, ⟨sp, c', h1, h2, h3⟩, hf⟩ := hS.out.ow
      have hacc : acc = wA ps := by have h := hS.out.tot; rw [HX.out, List.append_nil] at h; exact h
      subst hacc
      have hcb := cellOf h1 0
      simp at hcb
      have HM := Lib.hid hS.out.mks
      have H2 := Lib.hid h2
      have H3 := Lib.hid h3
      have HF := Lib.hid hf
      clear h1 h2 h3 hf hS HX
      clear hpos hJ hK2
      gi_wp2
      exact leaves_marks Ds _ HM.out.nd (fun D hD => (HM.out.at_ D hD).2.2) (fun W' f => ⟨_, results_tmp rfl _ _ _, sp, c', rfl, H2.out.fr f (fun k a e => (HM.out.at_ k e).2.1 ((H3.out k).2 (.inr a))), HF.out.step f (fun k e => .inr (HM.out.at_ k e).1)⟩)
end Go.Proofs.Ytfhojfndccelfaa
