/- The reference's Wants. No condition but sizes. -/
import Derived.Test.YtfhojfndccelfaaWants
namespace Go.Proofs.Ytfhojfndccelfaa
open Go.RowKit Go.Maps Go.ChangeShapes Go.WideShapes Go.ChangeAt Go.WideMaps Go.WideElems

/-- The row, beside a block that stands. -/
structure RK (w : World) (cb : Nat) (o : Obj) (l : List Nat) (v : Value) (W : World) : Prop where
  rw_ : RW w l v W
  cb : W.heap[cb]? = some o
theorem RK.step {w W w4 : World} {l : List Nat} {x : Nat} {sp sp' : Option Addr} {c c' : Nat} {Y : Obj} {cb : Nat} {cs : Array Value} (h : RK w cb (.cells cs 73 (0, 0)) l (.slice sp l.length c) W)
    (hown : OwnsWin w4 w.heap.size 3 1 (.slice sp' (l.length + 1) c') (l.length + 1) (iR l ++ [.int .i64 (x : Int)])) (hgrow : (W.alloc Y).grownBy w4 (Value.slice sp l.length c).ownBlock) :
    RK w cb (.cells cs 73 (0, 0)) (l ++ [x]) (.slice sp' (l.length + 1) c') w4 := by
  obtain ⟨⟨sp2, c2, e, h2⟩, hf⟩ := h.rw_
  cases e
  exact ⟨RW.step hf h2 hown hgrow, heapGrown hgrow (heapAlloc h.cb) (h2.ne h.cb (by intro c; simp))⟩
structure RS (ps : List Prt) (w1 : World) (j : Int) (acc : List Nat) (v : Value) (W : World) : Prop where
  tot : acc ++ wG ps j.toNat = wA ps
  len : acc.length + 11 * j.toNat ≤ 660
  rw_ : RW w1 acc v W

set_option maxRecDepth 100000 in
set_option maxHeartbeats 4000000 in
theorem RWants_any (w : World) (p : Option Addr) (c : Nat) (ps : List Prt) (h : IsParts w (.slice p ps.length c) ps) (hok : PrtOk ps) :
    Calls Try.prog 20 #[.agg #[.slice p ps.length c]] w (NewN w (wA ps)) := by
  obtain ⟨i3, hb0, hb1, hb2, hb3⟩ := info_parts info3
  have R1 := Lib.hid (fun (s : ByteArray) (w : World) (h : s.size ≤ maxLen) => RHash_any 1 s w h)
  have R2 := Lib.hid (fun (s : ByteArray) (w : World) (h : s.size ≤ maxLen) => RHash_any 2 s w h)
  have R3 := Lib.hid (fun (s : ByteArray) (w : World) (h : s.size ≤ maxLen) => RHash_any 3 s w h)
  have HB := Lib.hid (show (w.alloc (.cells #[.slice p ps.length c] 51)).heap[w.heap.size]? = some (.cells #[.slice p ps.length c] 51 (0, 0)) from heapNew _ _)
  have HF := Lib.hid ((Fr.refl (fun _ => False) w).alloc (.cells #[.slice p ps.length c] 51))
  have hl := hok.1
  have HP := Lib.hid h
  have HOK := Lib.hid hok
  clear h hok
  go_enter Try.func20, Try.ntmps20
  go_upto_region 2 with fail
  generalize w.alloc (.cells #[.slice p ps.length c] 51) = w1 at *
  have HK := Lib.hid (show ∀ wx v l, RW w1 l v wx → wx.cell? ⟨w.heap.size, 0, none⟩ = some (.slice p ps.length c) from fun wx v l h => by
    have := (h.fr.cell (p := ⟨w.heap.size, 0, none⟩) (ltOf HB.out) (by simp)).trans (cellOf HB.out 0)
    simpa using this)
  have hbx := cellOf HB.out 0
  simp at hbx
  clear HB
  go_wp2_with fail
  clear hbx
  go_loopw [3, 4] (fun v i wr => ∃ (j : Int) (acc : List Nat), i = .int .i64 j ∧ -1 ≤ j ∧ j < ps.length ∧ Hid (RS ps w1 j acc v wr)) (fun _ i _ => (intOf i).toNat)
  case atStart => exact ⟨_, [], by go_num, by omega, by omega, Lib.hid ⟨by rw [List.nil_append]; unfold wA; congr 1; omega, by simp; omega, RW.nil (Fr.refl _ _)⟩⟩
  case round =>
    obtain ⟨i, acc, rfl, hi0, hi1, hS⟩ := hrel
    have hbx := HK.out _ _ _ hS.out.rw_
    by_cases hpos : 0 < i
    · obtain ⟨j, rfl⟩ : ∃ j : Nat, i = (j : Int) + 1 := ⟨(i - 1).toNat, by omega⟩
      have hj1 : j + 1 < ps.length := by omega
      obtain ⟨x, hx⟩ : ∃ x, ps[j + 1]? = some x := ⟨ps[j + 1], List.getElem?_eq_getElem hj1⟩
      obtain ⟨y, hy⟩ : ∃ y, ps[j]? = some y := ⟨ps[j], List.getElem?_eq_getElem (by omega)⟩
      have fS := HF.out.trans hS.out.rw_.fr
      obtain ⟨g, off, pi, pc, pa, pp, ci, cc, na, ca, np, cp, rfl, -, hg, a0, -, -, -, -, -, -, -, -⟩ := part_at HP.out hx
      obtain ⟨_, _, qi, qc, qa, qp, di, dc, ma, da, mp, dp, e, -, -, -, b1, b2, b3, b4, b5, r1, r2, r3⟩ := part_at HP.out hy
      cases e
      have x0 := (fS.cell (p := ⟨g, off + (j + 1) * 6, none⟩) hg (by simp)).trans a0
      have y1 := (fS.cell (p := ⟨g, off + j * 6 + 1, none⟩) hg (by simp)).trans b1
      have y2 := (fS.cell (p := ⟨g, off + j * 6 + 1 + 1, none⟩) hg (by simp)).trans b2
      have y3 := (fS.cell (p := ⟨g, off + j * 6 + 1 + 2, none⟩) hg (by simp)).trans b3
      have y4 := (fS.cell (p := ⟨g, off + j * 6 + 1 + 3, none⟩) hg (by simp)).trans b4
      have y5 := (fS.cell (p := ⟨g, off + j * 6 + 1 + 4, none⟩) hg (by simp)).trans b5
      have HXY := Lib.hid (show wG ps ((j : Int) + 1).toNat = if x.comb = 1 ∨ x.comb = 2 then hsP y ++ wG ps j else [] by
        rw [show ((j : Int) + 1).toNat = j + 1 by omega]; simp only [wG, hx, hy])
      have HYO := Lib.hid (HOK.out.2 y (List.mem_of_getElem? hy))
      have HYT := Lib.hid r3
      have hid5 := (HOK.out.2 y (List.mem_of_getElem? hy)).1
      have hcl5 := (HOK.out.2 y (List.mem_of_getElem? hy)).2
      have HSI := Lib.hid (show ∀ wx v l, RW w1 l v wx → StrO (fun _ => False) wx (.slice qi y.ids.length di) y.ids from fun wx v l h => (r1.keep HF.out (fun _ _ e => e)).keep h.fr (fun _ _ e => e))
      have HSC := Lib.hid (show ∀ wx v l, RW w1 l v wx → StrO (fun _ => False) wx (.slice qc y.cls.length dc) y.cls from fun wx v l h => (r2.keep HF.out (fun _ _ e => e)).keep h.fr (fun _ _ e => e))
      have hla : acc.length ≤ 660 := by have := hS.out.len; omega
      have d0 : decide ((0 : Int) < (j : Int) + 1) = true := decide_eq_true (by omega)
      clear fS a0 b1 b2 b3 b4 b5 r1 r2 r3 hx hy hpos pi pc pa pp ci cc na ca np cp hg
      have hi2 : (j : Int) + 1 < (ps.length : Int) := hi1
      by_cases hc1 : x.comb = 1
      · have q1 : (x.comb != 1) = false := by simp [hc1]
        have HC := Lib.hid (show x.comb = 1 ∨ x.comb = 2 from .inl hc1)
        clear hc1
        have hin : x.comb = 1 ∨ x.comb = 2 := HC.out
        have HX := Lib.hid (show wG ps ((j : Int) + 1).toNat = hsP y ++ wG ps j by rw [HXY.out, if_pos hin])
        clear hin
        have HR0 := Lib.hid (show RK w1 wr.heap.size (.cells #[.string y.tag, .slice qi y.ids.length di, .slice qc y.cls.length dc, .slice qa ma da, .slice qp mp dp] 73 (0, 0)) acc _ (wr.alloc (.cells #[.string y.tag, .slice qi y.ids.length di, .slice qc y.cls.length dc, .slice qa ma da, .slice qp mp dp] 73)) from ⟨hS.out.rw_.fr0 ((Fr.refl _ _).alloc _), heapNew _ _⟩)
        go_upto_if 39 with fail
        generalize wr.alloc (.cells #[.string y.tag, .slice qi y.ids.length di, .slice qc y.cls.length dc, .slice qa ma da, .slice qp mp dp] 73) = wc at *
        generalize wr.heap.size = cb at *
        have hb := cellOf HR0.out.cb 0
        simp at hb
        go_cut [3] from 37 to 45 (fun v wx => Hid (RK w1 cb (.cells #[.string y.tag, .slice qi y.ids.length di, .slice qc y.cls.length dc, .slice qa ma da, .slice qp mp dp] 73 (0, 0)) (acc ++ if y.tag = ByteArray.empty then [] else [hN 1 y.tag]) v wx))
        case first =>
          by_cases hte : y.tag = ByteArray.empty
          · have q0 := isE hte
            have q3 : (!y.tag.toList.isEmpty) = false := by rw [q0]; rfl
            generalize y.tag.toList.isEmpty = be at *
            subst q0
            have HE := Lib.hid hte
            clear hte
            go_wp2_with fail
            go_meet
            exact Lib.hid (by rw [if_pos HE.out, List.append_nil]; exact HR0.out)
          · have q0 := isN hte
            generalize y.tag.toList.isEmpty = be at *
            subst q0
            have HE := Lib.hid hte
            clear hte
            obtain ⟨⟨sp, c9, rfl, hO⟩, hF⟩ := HR0.out.rw_
            have hO := Lib.hid hO
            have hF := Lib.hid hF
            have hR := HR0
            have hL := hla
            go_wp2_with (first
              | (go_at_call 22; refine (R1.out _ _ HYT.out).mono ?_; rintro e w' ⟨rfl, rfl⟩)
              | (at_builtin; refine wpList_append_src _ rfl (.tmp 40) (.tmp 44) 31 rfl w1.heap.size 3 i3 _ 1 8 Try.underlying31 hb0 hb1 hb2 hb3 rfl (by omega) (.slice sp acc.length c9) acc.length _ rfl (hO.out.fr ((Fr.refl (fun _ => False) _).alloc _) (by simp)) (some ⟨_, 0, none⟩) 1 1 [.int .i64 ((hN 1 y.tag : Nat) : Int)] rfl (SrcW.one (heapNew _ _) rfl) (by simp [Value.oneCell']) (by unfold maxLen; omega) (by omega) (by rw [World.size_alloc]; exact Nat.le_succ_of_le hF.out.size) ?_; intro s7 c7 w7 hown hgrow _; have R7 := Lib.hid (RK.step hR.out hown hgrow); clear hown hgrow))
            go_meet
            exact Lib.hid (by rw [if_neg HE.out]; exact R7.out)
        case rest =>
        have hn := l1 (y.tag = ByteArray.empty) (hN 1 y.tag)
        have HA := Lib.hid (show (acc ++ if y.tag = ByteArray.empty then [] else [hN 1 y.tag]) ++ (y.ids.map (hN 2) ++ (y.cls.map (hN 3) ++ wG ps j)) = acc ++ (hsP y ++ wG ps j) by unfold hsP hsL; simp only [List.append_assoc])
        have hn2 : (acc ++ if y.tag = ByteArray.empty then [] else [hN 1 y.tag]).length ≤ 700 := by rw [List.length_append]; omega
        have HLEN2 := Lib.hid (show (acc ++ if y.tag = ByteArray.empty then [] else [hN 1 y.tag]).length + 10 + 11 * j ≤ 660 by have := hS.out.len; rw [List.length_append]; omega)
        have HTOT := Lib.hid (show acc ++ (hsP y ++ wG ps j) = wA ps by have h := hS.out.tot; rw [HX.out] at h; exact h)
        generalize (acc ++ if y.tag = ByteArray.empty then [] else [hN 1 y.tag]) = l at *
        clear HR0 hb hn hS HX HXY
        go_wp2_with fail
        go_loopw [3, 7] (fun v i wx => ∃ (k : Nat), k ≤ y.ids.length ∧ i = .int .i64 k ∧ Hid (RK w1 cb (.cells #[.string y.tag, .slice qi y.ids.length di, .slice qc y.cls.length dc, .slice qa ma da, .slice qp mp dp] 73 (0, 0)) (l ++ (y.ids.take k).map (hN 2)) v wx)) (fun _ i _ => y.ids.length - (intOf i).toNat)
        case atStart => exact ⟨0, by omega, rfl, Lib.hid (by rw [List.take_zero, List.map_nil, List.append_nil]; exact hcut.out)⟩
        case round =>
          clear hcut
          obtain ⟨k, hk, rfl, hR⟩ := hrel
          have hb := cellOf hR.out.cb 1
          simp at hb
          by_cases hlt : k < y.ids.length
          · have d0 : decide ((k : Int) < (y.ids.length : Int)) = true := by simp; omega
            have hx := List.getElem?_eq_getElem hlt
            have HTk := Lib.hid (show l ++ (y.ids.take (k + 1)).map (hN 2) = (l ++ (y.ids.take k).map (hN 2)) ++ [hN 2 y.ids[k]] by rw [List.take_add_one, hx, Option.toList_some, List.map_append, List.map_cons, List.map_nil, List.append_assoc])
            have hL : (l ++ (y.ids.take k).map (hN 2)).length ≤ 2000 := by simp; omega
            generalize y.ids[k] = s0 at *
            generalize l ++ (y.ids.take k).map (hN 2) = l5 at *
            obtain ⟨p9, c9, e9, _, h9⟩ := HSI.out _ _ _ hR.out.rw_
            cases e9
            obtain ⟨hs9, g, off, rfl, hg, _, hc⟩ := h9 k s0 hx
            have HS9 := Lib.hid hs9
            obtain ⟨⟨sp, c9, rfl, hO⟩, hF⟩ := hR.out.rw_
            have hO := Lib.hid hO
            have hF := Lib.hid hF
            clear h9 hx hs9
            go_wp2_with (first
              | (go_at_call 22; refine (R2.out _ _ HS9.out).mono ?_; rintro e w' ⟨rfl, rfl⟩)
              | (at_builtin; refine wpList_append_src _ rfl (.tmp 53) (.tmp 60) 31 rfl w1.heap.size 3 i3 _ 1 8 Try.underlying31 hb0 hb1 hb2 hb3 rfl (by omega) (.slice sp l5.length c9) l5.length _ rfl (hO.out.fr ((Fr.refl (fun _ => False) _).alloc _) (by simp)) (some ⟨_, 0, none⟩) 1 1 [.int .i64 ((hN 2 s0 : Nat) : Int)] rfl (SrcW.one (heapNew _ _) rfl) (by simp [Value.oneCell']) (by unfold maxLen; omega) (by omega) (by rw [World.size_alloc]; exact Nat.le_succ_of_le hF.out.size) ?_; intro s7 c7 w7 hown hgrow _; have R7 := Lib.hid (RK.step hR.out hown hgrow); clear hown hgrow))
            go_roundw
            case rel => exact ⟨k + 1, by omega, by go_num, Lib.hid (by rw [HTk.out]; exact R7.out)⟩
            case measure => simp [intOf]; omega
          · obtain rfl : k = y.ids.length := by omega
            have d0 : decide ((y.ids.length : Int) < (y.ids.length : Int)) = false := by simp
            have hcut := Lib.hid (show RK w1 cb (.cells #[.string y.tag, .slice qi y.ids.length di, .slice qc y.cls.length dc, .slice qa ma da, .slice qp mp dp] 73 (0, 0)) (l ++ y.ids.map (hN 2)) _ _ from by have h := hR.out; rw [List.take_of_length_le (Nat.le_refl _)] at h; exact h)
            clear hR hlt hk
            have HA3 := HA
            have hn3 : (l ++ y.ids.map (hN 2)).length ≤ 1500 := by rw [List.length_append, List.length_map]; omega
            have HA := Lib.hid (show (l ++ y.ids.map (hN 2)) ++ (y.cls.map (hN 3) ++ wG ps j) = acc ++ (hsP y ++ wG ps j) by rw [← HA3.out, List.append_assoc])
            have HLEN := Lib.hid (show (l ++ y.ids.map (hN 2)).length + y.cls.length + 11 * j ≤ 660 by have h1 := HLEN2.out; have h2 := HYO.out; rw [List.length_append, List.length_map]; omega)
            clear HA3 HLEN2
            generalize l ++ y.ids.map (hN 2) = l at *
            go_wp2_with fail
            go_loopw [3, 8] (fun v i wx => ∃ (k : Nat), k ≤ y.cls.length ∧ i = .int .i64 k ∧ Hid (RK w1 cb (.cells #[.string y.tag, .slice qi y.ids.length di, .slice qc y.cls.length dc, .slice qa ma da, .slice qp mp dp] 73 (0, 0)) (l ++ (y.cls.take k).map (hN 3)) v wx)) (fun _ i _ => y.cls.length - (intOf i).toNat)
            case atStart => exact ⟨0, by omega, rfl, Lib.hid (by rw [List.take_zero, List.map_nil, List.append_nil]; exact hcut.out)⟩
            case round =>
              clear hcut
              obtain ⟨k, hk, rfl, hR⟩ := hrel
              have hb := cellOf hR.out.cb 2
              simp at hb
              by_cases hlt : k < y.cls.length
              · have d0 : decide ((k : Int) < (y.cls.length : Int)) = true := by simp; omega
                have hx := List.getElem?_eq_getElem hlt
                have HTk := Lib.hid (show l ++ (y.cls.take (k + 1)).map (hN 3) = (l ++ (y.cls.take k).map (hN 3)) ++ [hN 3 y.cls[k]] by rw [List.take_add_one, hx, Option.toList_some, List.map_append, List.map_cons, List.map_nil, List.append_assoc])
                have hL : (l ++ (y.cls.take k).map (hN 3)).length ≤ 2000 := by simp; omega
                generalize y.cls[k] = s0 at *
                generalize l ++ (y.cls.take k).map (hN 3) = l5 at *
                obtain ⟨p9, c9, e9, _, h9⟩ := HSC.out _ _ _ hR.out.rw_
                cases e9
                obtain ⟨hs9, g, off, rfl, hg, _, hc⟩ := h9 k s0 hx
                have HS9 := Lib.hid hs9
                obtain ⟨⟨sp, c9, rfl, hO⟩, hF⟩ := hR.out.rw_
                have hO := Lib.hid hO
                have hF := Lib.hid hF
                clear h9 hx hs9
                go_wp2_with (first
                  | (go_at_call 22; refine (R3.out _ _ HS9.out).mono ?_; rintro e w' ⟨rfl, rfl⟩)
                  | (at_builtin; refine wpList_append_src _ rfl (.tmp 69) (.tmp 76) 31 rfl w1.heap.size 3 i3 _ 1 8 Try.underlying31 hb0 hb1 hb2 hb3 rfl (by omega) (.slice sp l5.length c9) l5.length _ rfl (hO.out.fr ((Fr.refl (fun _ => False) _).alloc _) (by simp)) (some ⟨_, 0, none⟩) 1 1 [.int .i64 ((hN 3 s0 : Nat) : Int)] rfl (SrcW.one (heapNew _ _) rfl) (by simp [Value.oneCell']) (by unfold maxLen; omega) (by omega) (by rw [World.size_alloc]; exact Nat.le_succ_of_le hF.out.size) ?_; intro s7 c7 w7 hown hgrow _; have R7 := Lib.hid (RK.step hR.out hown hgrow); clear hown hgrow))
                go_roundw
                case rel => exact ⟨k + 1, by omega, by go_num, Lib.hid (by rw [HTk.out]; exact R7.out)⟩
                case measure => simp [intOf]; omega
              · obtain rfl : k = y.cls.length := by omega
                have d0 : decide ((y.cls.length : Int) < (y.cls.length : Int)) = false := by simp
                have hcut := Lib.hid (show RK w1 cb (.cells #[.string y.tag, .slice qi y.ids.length di, .slice qc y.cls.length dc, .slice qa ma da, .slice qp mp dp] 73 (0, 0)) (l ++ y.cls.map (hN 3)) _ _ from by have h := hR.out; rw [List.take_of_length_le (Nat.le_refl _)] at h; exact h)
                clear hR hlt hk
                go_wp2_with fail
                go_roundw
                case rel => exact ⟨(j : Int), _, by go_num, by omega, by omega, Lib.hid ⟨by rw [List.append_assoc]; exact HA.out.trans HTOT.out, by have := HLEN.out; rw [List.length_append, List.length_map, show ((j : Int)).toNat = j by omega]; omega, hcut.out.rw_⟩⟩
                case measure => simp [intOf]
      · have q1 : (x.comb != 1) = true := by simp [hc1]
        by_cases hc2 : x.comb = 2
        · have q2 : (x.comb != 2) = false := by simp [hc2]
          have HC := Lib.hid (show x.comb = 1 ∨ x.comb = 2 from .inr hc2)
          clear hc1 hc2
          have hin : x.comb = 1 ∨ x.comb = 2 := HC.out
          have HX := Lib.hid (show wG ps ((j : Int) + 1).toNat = hsP y ++ wG ps j by rw [HXY.out, if_pos hin])
          clear hin
          have HR0 := Lib.hid (show RK w1 wr.heap.size (.cells #[.string y.tag, .slice qi y.ids.length di, .slice qc y.cls.length dc, .slice qa ma da, .slice qp mp dp] 73 (0, 0)) acc _ (wr.alloc (.cells #[.string y.tag, .slice qi y.ids.length di, .slice qc y.cls.length dc, .slice qa ma da, .slice qp mp dp] 73)) from ⟨hS.out.rw_.fr0 ((Fr.refl _ _).alloc _), heapNew _ _⟩)
          go_upto_if 39 with fail
          generalize wr.alloc (.cells #[.string y.tag, .slice qi y.ids.length di, .slice qc y.cls.length dc, .slice qa ma da, .slice qp mp dp] 73) = wc at *
          generalize wr.heap.size = cb at *
          have hb := cellOf HR0.out.cb 0
          simp at hb
          go_cut [3] from 37 to 45 (fun v wx => Hid (RK w1 cb (.cells #[.string y.tag, .slice qi y.ids.length di, .slice qc y.cls.length dc, .slice qa ma da, .slice qp mp dp] 73 (0, 0)) (acc ++ if y.tag = ByteArray.empty then [] else [hN 1 y.tag]) v wx))
          case first =>
            by_cases hte : y.tag = ByteArray.empty
            · have q0 := isE hte
              have q3 : (!y.tag.toList.isEmpty) = false := by rw [q0]; rfl
              generalize y.tag.toList.isEmpty = be at *
              subst q0
              have HE := Lib.hid hte
              clear hte
              go_wp2_with fail
              go_meet
              exact Lib.hid (by rw [if_pos HE.out, List.append_nil]; exact HR0.out)
            · have q0 := isN hte
              generalize y.tag.toList.isEmpty = be at *
              subst q0
              have HE := Lib.hid hte
              clear hte
              obtain ⟨⟨sp, c9, rfl, hO⟩, hF⟩ := HR0.out.rw_
              have hO := Lib.hid hO
              have hF := Lib.hid hF
              have hR := HR0
              have hL := hla
              go_wp2_with (first
                | (go_at_call 22; refine (R1.out _ _ HYT.out).mono ?_; rintro e w' ⟨rfl, rfl⟩)
                | (at_builtin; refine wpList_append_src _ rfl (.tmp 40) (.tmp 44) 31 rfl w1.heap.size 3 i3 _ 1 8 Try.underlying31 hb0 hb1 hb2 hb3 rfl (by omega) (.slice sp acc.length c9) acc.length _ rfl (hO.out.fr ((Fr.refl (fun _ => False) _).alloc _) (by simp)) (some ⟨_, 0, none⟩) 1 1 [.int .i64 ((hN 1 y.tag : Nat) : Int)] rfl (SrcW.one (heapNew _ _) rfl) (by simp [Value.oneCell']) (by unfold maxLen; omega) (by omega) (by rw [World.size_alloc]; exact Nat.le_succ_of_le hF.out.size) ?_; intro s7 c7 w7 hown hgrow _; have R7 := Lib.hid (RK.step hR.out hown hgrow); clear hown hgrow))
              go_meet
              exact Lib.hid (by rw [if_neg HE.out]; exact R7.out)
          case rest =>
          have hn := l1 (y.tag = ByteArray.empty) (hN 1 y.tag)
          have HA := Lib.hid (show (acc ++ if y.tag = ByteArray.empty then [] else [hN 1 y.tag]) ++ (y.ids.map (hN 2) ++ (y.cls.map (hN 3) ++ wG ps j)) = acc ++ (hsP y ++ wG ps j) by unfold hsP hsL; simp only [List.append_assoc])
          have hn2 : (acc ++ if y.tag = ByteArray.empty then [] else [hN 1 y.tag]).length ≤ 700 := by rw [List.length_append]; omega
          have HLEN2 := Lib.hid (show (acc ++ if y.tag = ByteArray.empty then [] else [hN 1 y.tag]).length + 10 + 11 * j ≤ 660 by have := hS.out.len; rw [List.length_append]; omega)
          have HTOT := Lib.hid (show acc ++ (hsP y ++ wG ps j) = wA ps by have h := hS.out.tot; rw [HX.out] at h; exact h)
          generalize (acc ++ if y.tag = ByteArray.empty then [] else [hN 1 y.tag]) = l at *
          clear HR0 hb hn hS HX HXY
          go_wp2_with fail
          go_loopw [3, 7] (fun v i wx => ∃ (k : Nat), k ≤ y.ids.length ∧ i = .int .i64 k ∧ Hid (RK w1 cb (.cells #[.string y.tag, .slice qi y.ids.length di, .slice qc y.cls.length dc, .slice qa ma da, .slice qp mp dp] 73 (0, 0)) (l ++ (y.ids.take k).map (hN 2)) v wx)) (fun _ i _ => y.ids.length - (intOf i).toNat)
          case atStart => exact ⟨0, by omega, rfl, Lib.hid (by rw [List.take_zero, List.map_nil, List.append_nil]; exact hcut.out)⟩
          case round =>
            clear hcut
            obtain ⟨k, hk, rfl, hR⟩ := hrel
            have hb := cellOf hR.out.cb 1
            simp at hb
            by_cases hlt : k < y.ids.length
            · have d0 : decide ((k : Int) < (y.ids.length : Int)) = true := by simp; omega
              have hx := List.getElem?_eq_getElem hlt
              have HTk := Lib.hid (show l ++ (y.ids.take (k + 1)).map (hN 2) = (l ++ (y.ids.take k).map (hN 2)) ++ [hN 2 y.ids[k]] by rw [List.take_add_one, hx, Option.toList_some, List.map_append, List.map_cons, List.map_nil, List.append_assoc])
              have hL : (l ++ (y.ids.take k).map (hN 2)).length ≤ 2000 := by simp; omega
              generalize y.ids[k] = s0 at *
              generalize l ++ (y.ids.take k).map (hN 2) = l5 at *
              obtain ⟨p9, c9, e9, _, h9⟩ := HSI.out _ _ _ hR.out.rw_
              cases e9
              obtain ⟨hs9, g, off, rfl, hg, _, hc⟩ := h9 k s0 hx
              have HS9 := Lib.hid hs9
              obtain ⟨⟨sp, c9, rfl, hO⟩, hF⟩ := hR.out.rw_
              have hO := Lib.hid hO
              have hF := Lib.hid hF
              clear h9 hx hs9
              go_wp2_with (first
                | (go_at_call 22; refine (R2.out _ _ HS9.out).mono ?_; rintro e w' ⟨rfl, rfl⟩)
                | (at_builtin; refine wpList_append_src _ rfl (.tmp 53) (.tmp 60) 31 rfl w1.heap.size 3 i3 _ 1 8 Try.underlying31 hb0 hb1 hb2 hb3 rfl (by omega) (.slice sp l5.length c9) l5.length _ rfl (hO.out.fr ((Fr.refl (fun _ => False) _).alloc _) (by simp)) (some ⟨_, 0, none⟩) 1 1 [.int .i64 ((hN 2 s0 : Nat) : Int)] rfl (SrcW.one (heapNew _ _) rfl) (by simp [Value.oneCell']) (by unfold maxLen; omega) (by omega) (by rw [World.size_alloc]; exact Nat.le_succ_of_le hF.out.size) ?_; intro s7 c7 w7 hown hgrow _; have R7 := Lib.hid (RK.step hR.out hown hgrow); clear hown hgrow))
              go_roundw
              case rel => exact ⟨k + 1, by omega, by go_num, Lib.hid (by rw [HTk.out]; exact R7.out)⟩
              case measure => simp [intOf]; omega
            · obtain rfl : k = y.ids.length := by omega
              have d0 : decide ((y.ids.length : Int) < (y.ids.length : Int)) = false := by simp
              have hcut := Lib.hid (show RK w1 cb (.cells #[.string y.tag, .slice qi y.ids.length di, .slice qc y.cls.length dc, .slice qa ma da, .slice qp mp dp] 73 (0, 0)) (l ++ y.ids.map (hN 2)) _ _ from by have h := hR.out; rw [List.take_of_length_le (Nat.le_refl _)] at h; exact h)
              clear hR hlt hk
              have HA3 := HA
              have hn3 : (l ++ y.ids.map (hN 2)).length ≤ 1500 := by rw [List.length_append, List.length_map]; omega
              have HA := Lib.hid (show (l ++ y.ids.map (hN 2)) ++ (y.cls.map (hN 3) ++ wG ps j) = acc ++ (hsP y ++ wG ps j) by rw [← HA3.out, List.append_assoc])
              have HLEN := Lib.hid (show (l ++ y.ids.map (hN 2)).length + y.cls.length + 11 * j ≤ 660 by have h1 := HLEN2.out; have h2 := HYO.out; rw [List.length_append, List.length_map]; omega)
              clear HA3 HLEN2
              generalize l ++ y.ids.map (hN 2) = l at *
              go_wp2_with fail
              go_loopw [3, 8] (fun v i wx => ∃ (k : Nat), k ≤ y.cls.length ∧ i = .int .i64 k ∧ Hid (RK w1 cb (.cells #[.string y.tag, .slice qi y.ids.length di, .slice qc y.cls.length dc, .slice qa ma da, .slice qp mp dp] 73 (0, 0)) (l ++ (y.cls.take k).map (hN 3)) v wx)) (fun _ i _ => y.cls.length - (intOf i).toNat)
              case atStart => exact ⟨0, by omega, rfl, Lib.hid (by rw [List.take_zero, List.map_nil, List.append_nil]; exact hcut.out)⟩
              case round =>
                clear hcut
                obtain ⟨k, hk, rfl, hR⟩ := hrel
                have hb := cellOf hR.out.cb 2
                simp at hb
                by_cases hlt : k < y.cls.length
                · have d0 : decide ((k : Int) < (y.cls.length : Int)) = true := by simp; omega
                  have hx := List.getElem?_eq_getElem hlt
                  have HTk := Lib.hid (show l ++ (y.cls.take (k + 1)).map (hN 3) = (l ++ (y.cls.take k).map (hN 3)) ++ [hN 3 y.cls[k]] by rw [List.take_add_one, hx, Option.toList_some, List.map_append, List.map_cons, List.map_nil, List.append_assoc])
                  have hL : (l ++ (y.cls.take k).map (hN 3)).length ≤ 2000 := by simp; omega
                  generalize y.cls[k] = s0 at *
                  generalize l ++ (y.cls.take k).map (hN 3) = l5 at *
                  obtain ⟨p9, c9, e9, _, h9⟩ := HSC.out _ _ _ hR.out.rw_
                  cases e9
                  obtain ⟨hs9, g, off, rfl, hg, _, hc⟩ := h9 k s0 hx
                  have HS9 := Lib.hid hs9
                  obtain ⟨⟨sp, c9, rfl, hO⟩, hF⟩ := hR.out.rw_
                  have hO := Lib.hid hO
                  have hF := Lib.hid hF
                  clear h9 hx hs9
                  go_wp2_with (first
                    | (go_at_call 22; refine (R3.out _ _ HS9.out).mono ?_; rintro e w' ⟨rfl, rfl⟩)
                    | (at_builtin; refine wpList_append_src _ rfl (.tmp 69) (.tmp 76) 31 rfl w1.heap.size 3 i3 _ 1 8 Try.underlying31 hb0 hb1 hb2 hb3 rfl (by omega) (.slice sp l5.length c9) l5.length _ rfl (hO.out.fr ((Fr.refl (fun _ => False) _).alloc _) (by simp)) (some ⟨_, 0, none⟩) 1 1 [.int .i64 ((hN 3 s0 : Nat) : Int)] rfl (SrcW.one (heapNew _ _) rfl) (by simp [Value.oneCell']) (by unfold maxLen; omega) (by omega) (by rw [World.size_alloc]; exact Nat.le_succ_of_le hF.out.size) ?_; intro s7 c7 w7 hown hgrow _; have R7 := Lib.hid (RK.step hR.out hown hgrow); clear hown hgrow))
                  go_roundw
                  case rel => exact ⟨k + 1, by omega, by go_num, Lib.hid (by rw [HTk.out]; exact R7.out)⟩
                  case measure => simp [intOf]; omega
                · obtain rfl : k = y.cls.length := by omega
                  have d0 : decide ((y.cls.length : Int) < (y.cls.length : Int)) = false := by simp
                  have hcut := Lib.hid (show RK w1 cb (.cells #[.string y.tag, .slice qi y.ids.length di, .slice qc y.cls.length dc, .slice qa ma da, .slice qp mp dp] 73 (0, 0)) (l ++ y.cls.map (hN 3)) _ _ from by have h := hR.out; rw [List.take_of_length_le (Nat.le_refl _)] at h; exact h)
                  clear hR hlt hk
                  go_wp2_with fail
                  go_roundw
                  case rel => exact ⟨(j : Int), _, by go_num, by omega, by omega, Lib.hid ⟨by rw [List.append_assoc]; exact HA.out.trans HTOT.out, by have := HLEN.out; rw [List.length_append, List.length_map, show ((j : Int)).toNat = j by omega]; omega, hcut.out.rw_⟩⟩
                  case measure => simp [intOf]
        · have q2 : (x.comb != 2) = true := by simp [hc2]
          have HX := Lib.hid (show wG ps ((j : Int) + 1).toNat = [] by rw [HXY.out, if_neg (by omega)])
          clear hc1 hc2 HXY
          have hacc : acc = wA ps := by have h := hS.out.tot; rw [HX.out, List.append_nil] at h; exact h
          subst hacc
          obtain ⟨⟨sp, c9, rfl, hO⟩, hF⟩ := hS.out.rw_
          have hO := Lib.hid hO
          have hF := Lib.hid hF
          clear hS
          go_wp2_with fail
          go_ret
          exact ⟨sp, c9, rfl, hO.out.lower HF.out.size, HF.out.trans hF.out⟩
    · have d0 : decide ((0 : Int) < i) = false := by simpa using hpos
      have HX := Lib.hid (show wG ps i.toNat = [] by rw [show i.toNat = 0 by omega]; rfl)
      have hacc : acc = wA ps := by have h := hS.out.tot; rw [HX.out, List.append_nil] at h; exact h
      subst hacc
      obtain ⟨⟨sp, c9, rfl, hO⟩, hF⟩ := hS.out.rw_
      have hO := Lib.hid hO
      have hF := Lib.hid hF
      clear hS
      go_wp2_with fail
      go_ret
      exact ⟨sp, c9, rfl, hO.out.lower HF.out.size, HF.out.trans hF.out⟩
end Go.Proofs.Ytfhojfndccelfaa
