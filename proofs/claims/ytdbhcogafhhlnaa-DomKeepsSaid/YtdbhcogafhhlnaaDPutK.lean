/- put: an element that has a parent. -/
import Derived.Test.YtdbhcogafhhlnaaDPut
import Derived.BigQuiet
import Derived.Deep.QuietTactic
import Derived.Deep.RegionLaw
import Derived.Deep.Cut
import Derived.IntWalk
namespace Go.Proofs.Ytdbhcogafhhlnaa
open Go.RowKit Go.Maps Go.ChangeShapes Go.WideShapes Go.ChangeAt Go.WideMaps Go.WideElems

theorem info3d : (Try.prog.info? 3).map (fun i => (i.zero, i.size, i.bytes)) = some (some (.int .i64 0), 1, 8) := by kernel_rfl
theorem rowAt {w : World} {base n cT p : Nat} {spT : Option Addr} {css : List (List Value)} {cs : List Value} (h2 : w.ownsRow base 57 9 (.slice spT n cT) n css.flatten) (h9 : ∀ cs ∈ css, cs.length = 9) (hcs : css[p]? = some cs) :
    ∃ g cur, spT = some ⟨g, 0, none⟩ ∧ w.heap[g]? = some (.cells cur 57 (0, 0)) ∧ n ≤ cT ∧ cT ≤ maxLen ∧ ∀ j, j < 9 → cur[p * 9 + j]? = cs[j]? := by
  have hlen : cs.length = 9 := h9 cs (List.mem_of_getElem? hcs)
  rcases h2.2 with ⟨_, h0⟩ | ⟨g, cap, cur, e, hb, hg, h1, h3, h4, h5⟩
  · have := h2.1
    have hl : css.flatten[p * 9 + 0]? = cs[0]? := flat9 css h9 p 0 (by omega) cs hcs
    rw [List.getElem?_eq_none (by rw [this, h0]; omega), List.getElem?_eq_getElem (by omega)] at hl
    cases hl
  · cases e
    refine ⟨g, cur, rfl, hg, h1, h3, fun j hj => ?_⟩
    have hl := flat9 css h9 p j hj cs hcs
    rw [← hl, ← h5, List.getElem?_take, if_pos ?_, Array.getElem?_toList]
    have : (css.flatten)[p * 9 + j]? = cs[j]? := hl
    rw [List.getElem?_eq_getElem (by omega : j < cs.length)] at this
    have := (List.getElem?_eq_some_iff.1 this).1
    have h6 := h2.1
    omega

set_option maxHeartbeats 2000000 in
set_option maxRecDepth 100000 in
theorem put_deep (w wr : World) (tb : Nat) (els : List ElD) (d : NodeD) (sp : Option Addr) (c : Nat) (q : Option Addr) (o : Nat) (h : TS w wr tb els) (hd : RdNd wr d sp q) (n : Nat) (hnn : els.length = n) (hn : n ≤ 4096) (p : Nat) (x : ElD) (hx : els[p]? = some x) (hp : d.par = (p : Int)) (dv : Int) (hdv : x.dep = dv) (hx0 : 0 ≤ dv) (hx1 : dv ≤ 256) (kl : Nat) (hkl : x.kids.length = kl) (hdeep : 256 < dv + 1) :
    Calls Try.prog 33 #[.pointer (some ⟨tb, 0, none⟩), .agg #[.int .i64 d.par, .string d.tag, .string d.id, .slice sp d.cls.length c, .slice q d.att.length o]] wr fun e w' => e = .returned (.int .i64 11) ∧ Fr (fun _ => False) w w' := by
  have hpn : p < n := by rw [← hnn]; exact (List.getElem?_eq_some_iff.1 hx).1
  have HNN := Lib.hid hnn
  have HDV := Lib.hid hdv
  have HKL := Lib.hid hkl
  clear hnn hdv hkl
  have hA := (Fr.refl (fun _ => False) wr).alloc (.cells #[.int .i64 d.par, .string d.tag, .string d.id, .slice sp d.cls.length c, .slice q d.att.length o] 25)
  have hda := hd.fr hA
  have PL := Lib.hid (lowered_any d.par d.tag d.id d.cls d.att sp c q o _ hda.cls hda.att hda.hn hda.hm hda.ht hda.ha)
  have HNB := Lib.hid (heapNew wr (.cells #[.int .i64 d.par, .string d.tag, .string d.id, .slice sp d.cls.length c, .slice q d.att.length o] 25))
  have HA := Lib.hid hA
  have HTS := Lib.hid h
  have MK := Lib.hid (show ∀ w6 sp1 c1 sp2 c2 dep plc bef, OwnsWin w6 w.heap.size 9 1 (.slice sp1 d.cls.length c1) d.cls.length (d.cls.map Value.string) → OwnsWin w6 w.heap.size 38 2 (.slice sp2 d.att.length c2) d.att.length (attL (lowA d.att)) → IsEl w.heap.size w6 [.int .i64 d.par, .string (lowS d.tag), .string d.id, .slice sp1 d.cls.length c1, .slice sp2 d.att.length c2, .slice none 0 0, .int .i64 dep, .int .i64 plc, .int .i64 bef] ⟨d, [], dep, plc, bef⟩ from fun w6 sp1 c1 sp2 c2 dep plc bef a1 a2 => ⟨sp1, c1, sp2, c2, none, 0, rfl, a1, a2, OwnsWin.nil _ _ _ _⟩)
  have hwsz := h.fr.size
  have HX := Lib.hid hx
  clear hd hda hA h hx
  generalize hpar : d.par = par at *
  clear hpar
  subst hp
  generalize lowS d.tag = ltag at *
  generalize d.tag = tag at *
  generalize d.id = id at *
  go_enter Try.func33, Try.ntmps33
  go_wp2_with fail
  rename_i KK aa
  refine PL.out.mono ?_
  rintro e w2 ⟨⟨sp1, c1, sp2, c2, rfl, o1, o2⟩, f2⟩
  have F2 := Lib.hid (HA.out.trans f2)
  have T2 := Lib.hid (HTS.out.fr0 F2.out)
  have O1 := Lib.hid ((o1.lower (show w.heap.size ≤ _ from Nat.le_trans hwsz HA.out.size)))
  have O2 := Lib.hid ((o2.lower (show w.heap.size ≤ _ from Nat.le_trans hwsz HA.out.size)))
  have FA := Lib.hid ((Fr.refl (fun _ => False) w2).alloc (.cells #[.int .i64 (p : Int), .string ltag, .string id, .slice sp1 d.cls.length c1, .slice sp2 d.att.length c2, .slice none 0 0, .int .i64 0, .int .i64 1, .int .i64 (-1)] 57))
  have F3 := Lib.hid (T2.out.fr.trans FA.out)
  have HT := Lib.hid T2.out.ht
  have NB := Lib.hid (FA.out.heap (f2.heap HNB.out (by simp)) (by simp))
  have EB := Lib.hid (heapNew w2 (.cells #[.int .i64 (p : Int), .string ltag, .string id, .slice sp1 d.cls.length c1, .slice sp2 d.att.length c2, .slice none 0 0, .int .i64 0, .int .i64 1, .int .i64 (-1)] 57))
  have O1a := Lib.hid (O1.out.fr FA.out (by simp))
  have O2a := Lib.hid (O2.out.fr FA.out (by simp))
  have hnb : wr.heap.size < w2.heap.size := by have := ltOf (f2.heap HNB.out (by simp)); exact this
  obtain ⟨spT, cT, css, hblk, hrow, hNE⟩ := T2.out.body
  rw [HNN.out] at hblk hrow
  have hpc : p < css.length := by rw [hNE.len, HNN.out]; exact hpn
  obtain ⟨cs, hcs⟩ : ∃ cs, css[p]? = some cs := ⟨css[p], List.getElem?_eq_getElem hpc⟩
  obtain ⟨g, cur, rfl, hg, hcap1, hcap2, hcur⟩ := rowAt hrow hNE.all9 hcs
  have hge : g < w2.heap.size := ltOf hg
  have hweb : w.heap.size ≤ w2.heap.size := T2.out.fr.size
  have htb : tb < w2.heap.size := ltOf hblk
  have HB := Lib.hid (FA.out.heap hblk (by simp))
  have HR := Lib.hid (ownsRow.fr hrow FA.out (by simp))
  have HN := Lib.hid (hNE.keep FA.out (by simp))
  have HG := Lib.hid (FA.out.heap hg (by simp))
  have HCS := Lib.hid hcs
  have HCUR := Lib.hid hcur
  clear o1 o2 f2 PL O1 O2 HTS T2 F2 HNB hblk hrow hNE hcs hcur hg HA hpc
  obtain ⟨vC0, c0, vA0, o0, s, kk, hcse, -, -, hkw⟩ := HN.out.el p cs x HCS.out HX.out
  rw [HKL.out] at hkw hcse
  have HKW := Lib.hid hkw
  have HCSE := Lib.hid hcse
  clear hkw hcse
  have y5 := cellOf HG.out (p * 9 + 5)
  have y6 := cellOf HG.out (p * 9 + 6)
  rw [HCUR.out 5 (by omega), HCSE.out] at y5
  rw [HCUR.out 6 (by omega), HCSE.out] at y6
  have yz := frozenOf HG.out (p * 9 + 5)
  have a0 := cellOf NB.out 0
  have t0 := cellOf HB.out 0
  have tz := frozenOf HB.out 0
  have z6 := frozenOf EB.out 6
  have z7 := frozenOf EB.out 7
  have z8 := frozenOf EB.out 8
  simp [elC] at a0 t0 y5 y6
  rw [HDV.out] at y6
  have q0 : ((n : Int) == 0) = false := by rw [beq_eq_false_iff_ne]; omega
  have q1 : decide ((0 : Int) < (n : Int)) = true := by simp; omega
  have q1n : decide (0 < n) = true := by simp; omega
  have q1m : 0 < n := by omega
  have q3 : decide ((p : Int) < 0) = false := by simp
  have q4 : decide ((n : Int) ≤ (p : Int)) = false := by simp; omega
  have q5 : (p : Int) < (n : Int) := by omega
  show KK _ _
  apply aa
  have q6 : decide (256 < dv + 1) = true := by simpa using hdeep
  go_upto_region 6 with fail
  generalize hw3 : w2.alloc (.cells #[.int .i64 (p : Int), .string ltag, .string id, .slice sp1 d.cls.length c1, .slice sp2 d.att.length c2, .slice none 0 0, .int .i64 0, .int .i64 1, .int .i64 (-1)] 57) = w3 at *
  clear hw3
  generalize heb : w2.heap.size = eb at *
  clear heb
  have e0 := cellOf EB.out 0
  have e1 := cellOf EB.out 1
  have e2 := cellOf EB.out 2
  have e3 := cellOf EB.out 3
  have e4 := cellOf EB.out 4
  have e5 := cellOf EB.out 5
  have e6 := cellOf EB.out 6
  have e7 := cellOf EB.out 7
  have e8 := cellOf EB.out 8
  simp at e0 e1 e2 e3 e4 e5 e6 e7 e8
  go_quiet (fail)
  have fd : ∀ m, Fr (fun _ => False) w3 (w3.drewN m) := fun m => ⟨rfl, rfl, rfl, Nat.le_refl _, fun _ _ _ => rfl⟩
  go_wp2_with fail
  go_ret
  exact ⟨rfl, (F3.out.trans (fd _)).setCell (p := ⟨eb, 6, none⟩) (.inr hweb) _⟩

set_option maxHeartbeats 2000000 in
set_option maxRecDepth 100000 in
theorem put_kid (w wr : World) (tb : Nat) (els : List ElD) (d : NodeD) (sp : Option Addr) (c : Nat) (q : Option Addr) (o : Nat) (h : TS w wr tb els) (hd : RdNd wr d sp q) (n : Nat) (hnn : els.length = n) (hn : n ≤ 4096) (p : Nat) (x : ElD) (hx : els[p]? = some x) (hp : d.par = (p : Int)) (dv : Int) (hdv : x.dep = dv) (hx0 : 0 ≤ dv) (hx1 : dv ≤ 256) (kl : Nat) (hkl : x.kids.length = kl) (hdeep : dv + 1 ≤ 256) (hkl1 : kl ≤ 4096) (bef : Int) (hbef : bef = x.kids.getLastD (-1)) :
    Calls Try.prog 33 #[.pointer (some ⟨tb, 0, none⟩), .agg #[.int .i64 d.par, .string d.tag, .string d.id, .slice sp d.cls.length c, .slice q d.att.length o]] wr fun e w' => e = .returned (.int .i64 0) ∧ TS w w' tb (els.set p { x with kids := x.kids ++ [(n : Int)] } ++ [⟨d, [], dv + 1, (kl : Int) + 1, bef⟩]) := by
  have HBEF := Lib.hid hbef
  clear hbef
  have hpn : p < n := by rw [← hnn]; exact (List.getElem?_eq_some_iff.1 hx).1
  have HNN := Lib.hid hnn
  have HDV := Lib.hid hdv
  have HKL := Lib.hid hkl
  clear hnn hdv hkl
  have hA := (Fr.refl (fun _ => False) wr).alloc (.cells #[.int .i64 d.par, .string d.tag, .string d.id, .slice sp d.cls.length c, .slice q d.att.length o] 25)
  have hda := hd.fr hA
  have PL := Lib.hid (lowered_any d.par d.tag d.id d.cls d.att sp c q o _ hda.cls hda.att hda.hn hda.hm hda.ht hda.ha)
  have HNB := Lib.hid (heapNew wr (.cells #[.int .i64 d.par, .string d.tag, .string d.id, .slice sp d.cls.length c, .slice q d.att.length o] 25))
  have HA := Lib.hid hA
  have HTS := Lib.hid h
  have MK := Lib.hid (show ∀ w6 sp1 c1 sp2 c2 dep plc bef, OwnsWin w6 w.heap.size 9 1 (.slice sp1 d.cls.length c1) d.cls.length (d.cls.map Value.string) → OwnsWin w6 w.heap.size 38 2 (.slice sp2 d.att.length c2) d.att.length (attL (lowA d.att)) → IsEl w.heap.size w6 [.int .i64 d.par, .string (lowS d.tag), .string d.id, .slice sp1 d.cls.length c1, .slice sp2 d.att.length c2, .slice none 0 0, .int .i64 dep, .int .i64 plc, .int .i64 bef] ⟨d, [], dep, plc, bef⟩ from fun w6 sp1 c1 sp2 c2 dep plc bef a1 a2 => ⟨sp1, c1, sp2, c2, none, 0, rfl, a1, a2, OwnsWin.nil _ _ _ _⟩)
  have hwsz := h.fr.size
  have HX := Lib.hid hx
  clear hd hda hA h hx
  generalize hpar : d.par = par at *
  clear hpar
  subst hp
  generalize lowS d.tag = ltag at *
  generalize d.tag = tag at *
  generalize d.id = id at *
  go_enter Try.func33, Try.ntmps33
  go_wp2_with fail
  rename_i KK aa
  refine PL.out.mono ?_
  rintro e w2 ⟨⟨sp1, c1, sp2, c2, rfl, o1, o2⟩, f2⟩
  have F2 := Lib.hid (HA.out.trans f2)
  have T2 := Lib.hid (HTS.out.fr0 F2.out)
  have O1 := Lib.hid ((o1.lower (show w.heap.size ≤ _ from Nat.le_trans hwsz HA.out.size)))
  have O2 := Lib.hid ((o2.lower (show w.heap.size ≤ _ from Nat.le_trans hwsz HA.out.size)))
  have FA := Lib.hid ((Fr.refl (fun _ => False) w2).alloc (.cells #[.int .i64 (p : Int), .string ltag, .string id, .slice sp1 d.cls.length c1, .slice sp2 d.att.length c2, .slice none 0 0, .int .i64 0, .int .i64 1, .int .i64 (-1)] 57))
  have F3 := Lib.hid (T2.out.fr.trans FA.out)
  have HT := Lib.hid T2.out.ht
  have NB := Lib.hid (FA.out.heap (f2.heap HNB.out (by simp)) (by simp))
  have EB := Lib.hid (heapNew w2 (.cells #[.int .i64 (p : Int), .string ltag, .string id, .slice sp1 d.cls.length c1, .slice sp2 d.att.length c2, .slice none 0 0, .int .i64 0, .int .i64 1, .int .i64 (-1)] 57))
  have O1a := Lib.hid (O1.out.fr FA.out (by simp))
  have O2a := Lib.hid (O2.out.fr FA.out (by simp))
  have hnb : wr.heap.size < w2.heap.size := by have := ltOf (f2.heap HNB.out (by simp)); exact this
  obtain ⟨spT, cT, css, hblk, hrow, hNE⟩ := T2.out.body
  rw [HNN.out] at hblk hrow
  have hpc : p < css.length := by rw [hNE.len, HNN.out]; exact hpn
  obtain ⟨cs, hcs⟩ : ∃ cs, css[p]? = some cs := ⟨css[p], List.getElem?_eq_getElem hpc⟩
  obtain ⟨g, cur, rfl, hg, hcap1, hcap2, hcur⟩ := rowAt hrow hNE.all9 hcs
  have hge : g < w2.heap.size := ltOf hg
  have hweb : w.heap.size ≤ w2.heap.size := T2.out.fr.size
  have htb : tb < w2.heap.size := ltOf hblk
  have HB := Lib.hid (FA.out.heap hblk (by simp))
  have HR := Lib.hid (ownsRow.fr hrow FA.out (by simp))
  have HN := Lib.hid (hNE.keep FA.out (by simp))
  have HG := Lib.hid (FA.out.heap hg (by simp))
  have HCS := Lib.hid hcs
  have HCUR := Lib.hid hcur
  clear o1 o2 f2 PL O1 O2 HTS T2 F2 HNB hblk hrow hNE hcs hcur hg HA hpc
  obtain ⟨vC0, c0, vA0, o0, s, kk, hcse, -, -, hkw⟩ := HN.out.el p cs x HCS.out HX.out
  rw [HKL.out] at hkw hcse
  have HKW := Lib.hid hkw
  have HCSE := Lib.hid hcse
  clear hkw hcse
  have y5 := cellOf HG.out (p * 9 + 5)
  have y6 := cellOf HG.out (p * 9 + 6)
  rw [HCUR.out 5 (by omega), HCSE.out] at y5
  rw [HCUR.out 6 (by omega), HCSE.out] at y6
  have yz := frozenOf HG.out (p * 9 + 5)
  have a0 := cellOf NB.out 0
  have t0 := cellOf HB.out 0
  have tz := frozenOf HB.out 0
  have z6 := frozenOf EB.out 6
  have z7 := frozenOf EB.out 7
  have z8 := frozenOf EB.out 8
  simp [elC] at a0 t0 y5 y6
  rw [HDV.out] at y6
  have q0 : ((n : Int) == 0) = false := by rw [beq_eq_false_iff_ne]; omega
  have q1 : decide ((0 : Int) < (n : Int)) = true := by simp; omega
  have q1n : decide (0 < n) = true := by simp; omega
  have q1m : 0 < n := by omega
  have q3 : decide ((p : Int) < 0) = false := by simp
  have q4 : decide ((n : Int) ≤ (p : Int)) = false := by simp; omega
  have q5 : (p : Int) < (n : Int) := by omega
  show KK _ _
  apply aa
  have q6 : decide (256 < dv + 1) = false := by simp; omega
  go_upto_region 6 with fail
  generalize hw3 : w2.alloc (.cells #[.int .i64 (p : Int), .string ltag, .string id, .slice sp1 d.cls.length c1, .slice sp2 d.att.length c2, .slice none 0 0, .int .i64 0, .int .i64 1, .int .i64 (-1)] 57) = w3 at *
  clear hw3
  generalize heb : w2.heap.size = eb at *
  clear heb
  have e0 := cellOf EB.out 0
  have e1 := cellOf EB.out 1
  have e2 := cellOf EB.out 2
  have e3 := cellOf EB.out 3
  have e4 := cellOf EB.out 4
  have e5 := cellOf EB.out 5
  have e6 := cellOf EB.out 6
  have e7 := cellOf EB.out 7
  have e8 := cellOf EB.out 8
  simp at e0 e1 e2 e3 e4 e5 e6 e7 e8
  go_quiet (fail)
  have fd : ∀ m, Fr (fun _ => False) w3 (w3.drewN m) := fun m => ⟨rfl, rfl, rfl, Nat.le_refl _, fun _ _ _ => rfl⟩
  go_upto_region 10 with fail
  have F4 : Hid (Fr (fun j => j = eb) w3 ((w3.drewN nq).setCell ⟨eb, 6, none⟩ (.int .i64 (dv + 1)))) := Lib.hid (((Fr.refl (fun j => j = eb) w3).trans ((fd nq).mono (fun _ _ h => h.elim))).setCell (p := ⟨eb, 6, none⟩) (.inl rfl) _)
  have EB4 : Hid (((w3.drewN nq).setCell ⟨eb, 6, none⟩ (.int .i64 (dv + 1))).heap[eb]? = some (.cells #[.int .i64 (p : Int), .string ltag, .string id, .slice sp1 d.cls.length c1, .slice sp2 d.att.length c2, .slice none 0 0, .int .i64 (dv + 1), .int .i64 1, .int .i64 (-1)] 57)) := Lib.hid (by
    have hh := heapSet (w := w3.drewN nq) (show (w3.drewN nq).heap[eb]? = _ from EB.out) 6 (.int .i64 (dv + 1))
    simpa using hh)
  generalize hw4 : (w3.drewN nq).setCell ⟨eb, 6, none⟩ (.int .i64 (dv + 1)) = w4 at *
  clear hw4 fd e0 e1 e2 e3 e4 e5 e6 e7 e8 z6 z7 z8 t0 tz a0 y5 y6 yz
  have HB4 := Lib.hid (F4.out.heap HB.out (by omega))
  have HG4 := Lib.hid (F4.out.heap HG.out (by omega))
  have HR4 := Lib.hid (ownsRow.fr HR.out F4.out (fun j hj e => by simp [Value.ownBlock] at hj; omega))
  have sEB : ∀ k, k = eb → ∃ c t z, w3.heap[k]? = some (.cells c t z) ∧ t ≠ 9 ∧ t ≠ 38 ∧ t ≠ 3 := fun k hk => by subst hk; exact ⟨_, _, _, EB.out, by decide, by decide, by decide⟩
  have HN4 := Lib.hid (HN.out.keep F4.out sEB)
  have HKW4 := Lib.hid (HKW.out.fr F4.out (fun j hj e => by subst e; exact HKW.out.ne EB.out (by intro c; simp) hj.symm))
  have O14 := Lib.hid (O1a.out.fr F4.out (fun j hj e => by subst e; exact O1a.out.ne EB.out (by intro c; simp) hj.symm))
  have O24 := Lib.hid (O2a.out.fr F4.out (fun j hj e => by subst e; exact O2a.out.ne EB.out (by intro c; simp) hj.symm))
  have FF4 := Lib.hid (F3.out.step F4.out (fun j e => .inr (by subst e; exact hweb)))
  clear sEB F4 HB HG HR HN HKW O1a O2a F3 EB NB FA
  have y5 := cellOf HG4.out (p * 9 + 5)
  rw [HCUR.out 5 (by omega), HCSE.out] at y5
  have yz := frozenOf HG4.out (p * 9 + 5)
  have e7 := cellOf EB4.out 7
  have e8 := cellOf EB4.out 8
  have z7 := frozenOf EB4.out 7
  have z8 := frozenOf EB4.out 8
  simp [elC] at y5 e7 e8
  rcases Nat.eq_zero_or_pos kl with hk0 | hk0
  · have qk : decide ((0 : Int) < (kl : Int)) = false := by simp [hk0]
    have qkn : decide (0 < kl) = false := by simp [hk0]
    have HPL := Lib.hid (show (1 : Int) = (kl : Int) + 1 by omega)
    have HBF := Lib.hid (show (-1 : Int) = bef by rw [HBEF.out, List.eq_nil_of_length_eq_zero (HKL.out.trans hk0)]; rfl)
    have HMK := Lib.hid (show (⟨d, [], dv + 1, 1, -1⟩ : ElD) = ⟨d, [], dv + 1, (kl : Int) + 1, bef⟩ by rw [← HPL.out, ← HBF.out])
    clear hk0
    go_upto_region 13 with fail
    have n3 := HKW4.out.ne HG4.out (by intro c; simp)
    have nke := HKW4.out.ne EB4.out (by intro c; simp)
    have y5a := cellOf (heapAlloc (o' := .cells #[.int .i64 (n : Int)] 3) HG4.out) (p * 9 + 5)
    rw [HCUR.out 5 (by omega), HCSE.out] at y5a
    simp [elC] at y5a
    obtain ⟨i3, hb0, hb1, hb2, hb3⟩ := info_parts info3d
    have hW := FF4.out.size
    go_wp2_with (at_builtin; refine wpList_append_src _ rfl (.tmp 82) (.tmp 84) 34 rfl w.heap.size 3 i3 _ 1 8 Try.underlying34 hb0 hb1 hb2 hb3 rfl (by omega) (.slice s kl kk) kl _ rfl (HKW4.out.fr ((Fr.refl (fun _ => False) w4).alloc _) (by simp)) (some ⟨w4.heap.size, 0, none⟩) 1 1 [.int .i64 (n : Int)] rfl (Src.one (heapNew _ _) rfl) (by simp [Value.oneCell']) (by unfold maxLen; omega) (by omega) (by simp; omega) ?_; intro sp9 c9 w9 hown9 hgrow9 hloc9; have hg9 := heapGrown hgrow9 (heapAlloc HG4.out) n3; have k0 := cellOf hg9 (p * 9 + 5); have k1 := frozenOf hg9 (p * 9 + 5); rw [HCUR.out 5 (by omega), HCSE.out] at k0; simp [elC] at k0; have HO9 := Lib.hid hown9; have HGR9 := Lib.hid hgrow9; have HL9 := Lib.hid hloc9; clear hown9 hgrow9 hloc9 hg9)
    have T10 := TS.addK (s7 := sp9) (k7 := c9) (v := (n : Int)) FF4.out HT.out (by rw [HNN.out]; exact HB4.out) (by rw [HNN.out]; exact HR4.out) HN4.out HCS.out HX.out (by rw [HCSE.out, HKL.out]; rfl) (by rw [HKL.out]; exact HKW4.out) (by rw [HKL.out]; exact HO9.out) (by rw [HKL.out]; exact HGR9.out) (by rw [HKL.out]; exact HL9.out)
    rw [HKL.out, HNN.out] at T10
    generalize hels : els.set p { x with kids := x.kids ++ [(n : Int)] } = els2 at *
    have hl2 : els2.length = n := by rw [← hels, List.length_set]; exact HNN.out
    have HL2 := Lib.hid hl2
    have HELS := Lib.hid hels
    clear hels hl2
    generalize hw8 : w9.setCell ⟨g, p * 9 + 5, none⟩ (.slice sp9 (kl + 1) c9) = w8 at *
    clear hw8
    obtain ⟨T8, hb8, f8, g8⟩ := T10
    have EB8 := Lib.hid (g8.heap EB4.out (fun e => by rcases e with e | e; exact nke e.symm; omega))
    have dG : ∀ j (e9 : TypeId) n' sz v' xs', OwnsWin w4 w.heap.size e9 sz v' n' xs' → e9 ≠ 3 → e9 ≠ 57 → v'.ownBlock = some j → ¬ ((Value.slice s kl kk).ownBlock = some j ∨ j = g) := by
      intro j e9 n' sz v' xs' ho h3 h57 hj e
      rcases e with e | e
      · rcases HKW4.out.2 with ⟨h, _⟩ | ⟨g', off', cap, cur', h, _, hg', _⟩
        · rw [h] at e; simp [Value.ownBlock] at e
        · rw [h] at e
          simp [Value.ownBlock] at e
          subst e
          exact ho.ne hg' (by intro c e'; cases e'; exact h3 rfl) hj.symm
      · subst e
        exact ho.ne HG4.out (by intro c e'; cases e'; exact h57 rfl) hj.symm
    have O18 := O14.out.fr g8 (fun j hj => dG j 9 _ _ _ _ O14.out (by decide) (by decide) hj)
    have O28 := O24.out.fr g8 (fun j hj => dG j 38 _ _ _ _ O24.out (by decide) (by decide) hj)
    have IE := Lib.hid (MK.out _ _ _ _ _ (dv + 1) 1 (-1) O18 O28)
    clear dG O18 O28 g8 MK
    have HF8 := Lib.hid f8
    have HT8 := Lib.hid T8
    obtain ⟨sp8, cT8, css8, hb8, hrow8, hne8⟩ := T8.body
    rw [HL2.out] at hb8 hrow8
    have t0 := cellOf hb8 0
    have tz := frozenOf hb8 0
    have t0a := cellOf (heapAlloc (o' := .cells #[.int .i64 (p : Int), .string ltag, .string id, .slice sp1 d.cls.length c1, .slice sp2 d.att.length c2, .slice none 0 0, .int .i64 (dv + 1), .int .i64 1, .int .i64 (-1)] 57) hb8) 0
    have e0 := cellOf EB8.out 0
    have e1 := cellOf EB8.out 1
    have e2 := cellOf EB8.out 2
    have e3 := cellOf EB8.out 3
    have e4 := cellOf EB8.out 4
    have e5 := cellOf EB8.out 5
    have e6 := cellOf EB8.out 6
    have e7 := cellOf EB8.out 7
    have e8 := cellOf EB8.out 8
    simp at t0 t0a e0 e1 e2 e3 e4 e5 e6 e7 e8
    have HB8 := Lib.hid hb8
    have HR8 := Lib.hid hrow8
    have HN8 := Lib.hid hne8
    have n2 := ownsRow.ne hrow8 hb8 (by intro c; simp)
    have hF8 := f8.size
    clear hb8 hrow8 hne8 T8 f8 k0 k1 n3 nke y5 y5a yz HO9 HGR9 HL9 EB4 HB4 HG4 HR4 HN4 HKW4 O14 O24 FF4
    obtain ⟨i57, ha0, ha1, ha2, ha3⟩ := info_parts info57
    go_region_law (refine step_append_own rfl (.tmp 92) (.tmp 94) 52 rfl w.heap.size 57 i57 _ 9 136 Try.underlying52 ha0 ha1 ha2 ha3 rfl (by omega) (.slice sp8 n cT8) n css8.flatten rfl (ownsRow.fr HR8.out (((Fr.refl (fun _ => False) w8).alloc _).drew) (by simp)) ⟨w8.heap.size, 0, none⟩ 1 1 [.int .i64 (p : Int), .string ltag, .string id, .slice sp1 d.cls.length c1, .slice sp2 d.att.length c2, .slice none 0 0, .int .i64 (dv + 1), .int .i64 1, .int .i64 (-1)] rfl rfl (news_new w8 _ 57) (by simp [Value.oneCell']) (by unfold maxLen; omega) (by omega) (by simp; omega) ?_; intro sp7 c7 w7 hown7 hgrow7; have hb7 := heapGrown hgrow7 (heapDrew (heapAlloc HB8.out)) n2; have k0 := cellOf hb7 0; have k1 := frozenOf hb7 0; simp at k0; have HO7 := Lib.hid hown7; have HG7 := Lib.hid hgrow7; clear hb7 hown7 hgrow7)
    all_goals
      go_wp2_with fail
      go_ret
      have R := TS.addE (sp7 := sp7) (c7 := c7) HT8.out.fr HT8.out.ht (by rw [HL2.out]; exact HB8.out) (by rw [HL2.out]; exact HR8.out) HN8.out IE.out rfl (by rw [HL2.out]; exact HO7.out) (by rw [HL2.out]; exact HG7.out)
      rw [HL2.out, HMK.out, ← HELS.out] at R
      exact ⟨rfl, R⟩
  · obtain ⟨m, rfl⟩ : ∃ m, kl = m + 1 := ⟨kl - 1, by omega⟩
    have hlast : (x.kids.map (Value.int .i64))[m]? = some (.int .i64 bef) := by
      have hk := HKL.out
      have hml : m < x.kids.length := by omega
      rw [HBEF.out, List.getLastD_eq_getLast?, List.getLast?_eq_getElem?, hk]
      simp [List.getElem?_map, List.getElem?_eq_getElem hml]
    obtain ⟨g2, off, cap, hse, hk1, hk2, hk3, hk4, hkc, hkf⟩ := HKW4.out.cells (by omega)
    cases hse
    have yl := hkc m _ hlast
    have h2e : g2 ≠ eb := by
      intro e
      subst e
      exact HKW4.out.ne EB4.out (by intro c; simp) rfl
    have hgne : g ≠ eb := by omega
    have yla := (show ((w4.setCell ⟨eb, 7, none⟩ (.int .i64 ((m : Int) + 1 + 1))).cell? ⟨g2, off + m, none⟩) = _ from ((Fr.refl (fun j => j = eb) w4).setCell (p := ⟨eb, 7, none⟩) (.inl rfl) (.int .i64 ((m : Int) + 1 + 1))).cell (p := ⟨g2, off + m, none⟩) hk3 h2e).trans yl
    have y5b := (show ((w4.setCell ⟨eb, 7, none⟩ (.int .i64 ((m : Int) + 1 + 1))).cell? ⟨g, p * 9 + 5, none⟩) = _ from ((Fr.refl (fun j => j = eb) w4).setCell (p := ⟨eb, 7, none⟩) (.inl rfl) (.int .i64 ((m : Int) + 1 + 1))).cell (p := ⟨g, p * 9 + 5, none⟩) (ltOf HG4.out) hgne).trans y5
    have qk : decide ((0 : Int) < (m : Int) + 1) = true := decide_eq_true (by omega)
    have qw : IntKind.i64.wrap (m : Int) = (m : Int) := IntWalk.i64_in _ (by omega)
    have qw2 : IntKind.i64.wrap ((m : Int) + 1 + 1) = (m : Int) + 1 + 1 := IntWalk.i64_in _ (by omega)
    have HMK := Lib.hid (show (⟨d, [], dv + 1, (m : Int) + 1 + 1, bef⟩ : ElD) = ⟨d, [], dv + 1, ((m + 1 : Nat) : Int) + 1, bef⟩ by rw [show ((m : Int) + 1 + 1) = ((m + 1 : Nat) : Int) + 1 by omega])
    have qa : (0 : Int) ≤ (m : Int) := by omega
    have qb : (m : Int) < (m : Int) + 1 := by omega
    have qc : m < m + 1 := by omega
    clear hlast hkc hkf hk4
    go_upto_region 12 with fail
    go_region_law (fail)
    all_goals
      go_upto_region 13 with fail
      have F5 : Hid (Fr (fun j => j = eb) w4 (((w4.setCell ⟨eb, 7, none⟩ (.int .i64 ((m : Int) + 1 + 1))).setCell ⟨eb, 8, none⟩ (.int .i64 bef)).drew)) := Lib.hid ((((Fr.refl (fun j => j = eb) w4).setCell (p := ⟨eb, 7, none⟩) (.inl rfl) _).setCell (p := ⟨eb, 8, none⟩) (.inl rfl) _).drew)
      have EB5 : Hid ((((w4.setCell ⟨eb, 7, none⟩ (.int .i64 ((m : Int) + 1 + 1))).setCell ⟨eb, 8, none⟩ (.int .i64 bef)).drew).heap[eb]? = some (.cells #[.int .i64 (p : Int), .string ltag, .string id, .slice sp1 d.cls.length c1, .slice sp2 d.att.length c2, .slice none 0 0, .int .i64 (dv + 1), .int .i64 ((m : Int) + 1 + 1), .int .i64 bef] 57)) := Lib.hid (by
        have hh := heapDrew (heapSet (heapSet EB4.out 7 (.int .i64 ((m : Int) + 1 + 1))) 8 (.int .i64 bef))
        simpa using hh)
      generalize hw5 : ((w4.setCell ⟨eb, 7, none⟩ (.int .i64 ((m : Int) + 1 + 1))).setCell ⟨eb, 8, none⟩ (.int .i64 bef)).drew = w5 at *
      clear hw5 yla y5b yl e7 e8 z7 z8 y5 yz
      have HB5 := Lib.hid (F5.out.heap HB4.out (by omega))
      have HG5 := Lib.hid (F5.out.heap HG4.out (by omega))
      have HR5 := Lib.hid (ownsRow.fr HR4.out F5.out (fun j hj e => by simp [Value.ownBlock] at hj; omega))
      have sEB : ∀ k, k = eb → ∃ c t z, w4.heap[k]? = some (.cells c t z) ∧ t ≠ 9 ∧ t ≠ 38 ∧ t ≠ 3 := fun k hk => by subst hk; exact ⟨_, _, _, EB4.out, by decide, by decide, by decide⟩
      have HN5 := Lib.hid (HN4.out.keep F5.out sEB)
      have HKW5 := Lib.hid (HKW4.out.fr F5.out (fun j hj e => by subst e; exact HKW4.out.ne EB4.out (by intro c; simp) hj.symm))
      have O15 := Lib.hid (O14.out.fr F5.out (fun j hj e => by subst e; exact O14.out.ne EB4.out (by intro c; simp) hj.symm))
      have O25 := Lib.hid (O24.out.fr F5.out (fun j hj e => by subst e; exact O24.out.ne EB4.out (by intro c; simp) hj.symm))
      have FF5 := Lib.hid (FF4.out.step F5.out (fun j e => .inr (by subst e; exact hweb)))
      clear sEB F5 HB4 HG4 HR4 HN4 HKW4 O14 O24 FF4 EB4
      have y5 := cellOf HG5.out (p * 9 + 5)
      rw [HCUR.out 5 (by omega), HCSE.out] at y5
      have yz := frozenOf HG5.out (p * 9 + 5)
      simp [elC] at y5
      have n3 := HKW5.out.ne HG5.out (by intro c; simp)
      have nke := HKW5.out.ne EB5.out (by intro c; simp)
      have y5a := cellOf (heapAlloc (o' := .cells #[.int .i64 (n : Int)] 3) HG5.out) (p * 9 + 5)
      rw [HCUR.out 5 (by omega), HCSE.out] at y5a
      simp [elC] at y5a
      obtain ⟨i3, hb0, hb1, hb2, hb3⟩ := info_parts info3d
      have hW := FF5.out.size
      go_wp2_with (at_builtin; refine wpList_append_src _ rfl (.tmp 82) (.tmp 84) 34 rfl w.heap.size 3 i3 _ 1 8 Try.underlying34 hb0 hb1 hb2 hb3 rfl (by omega) (.slice (some ⟨g2, off, none⟩) (m + 1) kk) (m + 1) _ rfl (HKW5.out.fr ((Fr.refl (fun _ => False) w5).alloc _) (by simp)) (some ⟨w5.heap.size, 0, none⟩) 1 1 [.int .i64 (n : Int)] rfl (Src.one (heapNew _ _) rfl) (by simp [Value.oneCell']) (by unfold maxLen; omega) (by omega) (by simp; omega) ?_; intro sp9 c9 w9 hown9 hgrow9 hloc9; have hg9 := heapGrown hgrow9 (heapAlloc HG5.out) n3; have k0 := cellOf hg9 (p * 9 + 5); have k1 := frozenOf hg9 (p * 9 + 5); rw [HCUR.out 5 (by omega), HCSE.out] at k0; simp [elC] at k0; have HO9 := Lib.hid hown9; have HGR9 := Lib.hid hgrow9; have HL9 := Lib.hid hloc9; clear hown9 hgrow9 hloc9 hg9)
      have T10 := TS.addK (s7 := sp9) (k7 := c9) (v := (n : Int)) FF5.out HT.out (by rw [HNN.out]; exact HB5.out) (by rw [HNN.out]; exact HR5.out) HN5.out HCS.out HX.out (by rw [HCSE.out, HKL.out]; rfl) (by rw [HKL.out]; exact HKW5.out) (by rw [HKL.out]; exact HO9.out) (by rw [HKL.out]; exact HGR9.out) (by rw [HKL.out]; exact HL9.out)
      rw [HKL.out, HNN.out] at T10
      generalize hels : els.set p { x with kids := x.kids ++ [(n : Int)] } = els2 at *
      have hl2 : els2.length = n := by rw [← hels, List.length_set]; exact HNN.out
      have HL2 := Lib.hid hl2
      have HELS := Lib.hid hels
      clear hels hl2
      generalize hw8 : w9.setCell ⟨g, p * 9 + 5, none⟩ (.slice sp9 ((m + 1) + 1) c9) = w8 at *
      clear hw8
      obtain ⟨T8, hb8, f8, g8⟩ := T10
      have EB8 := Lib.hid (g8.heap EB5.out (fun e => by rcases e with e | e; exact nke e.symm; omega))
      have dG : ∀ j (e9 : TypeId) n' sz v' xs', OwnsWin w5 w.heap.size e9 sz v' n' xs' → e9 ≠ 3 → e9 ≠ 57 → v'.ownBlock = some j → ¬ ((Value.slice (some ⟨g2, off, none⟩) (m + 1) kk).ownBlock = some j ∨ j = g) := by
        intro j e9 n' sz v' xs' ho h3 h57 hj e
        rcases e with e | e
        · rcases HKW5.out.2 with ⟨h, _⟩ | ⟨g', off', cap, cur', h, _, hg', _⟩
          · rw [h] at e; simp [Value.ownBlock] at e
          · rw [h] at e
            simp [Value.ownBlock] at e
            subst e
            exact ho.ne hg' (by intro c e'; cases e'; exact h3 rfl) hj.symm
        · subst e
          exact ho.ne HG5.out (by intro c e'; cases e'; exact h57 rfl) hj.symm
      have O18 := O15.out.fr g8 (fun j hj => dG j 9 _ _ _ _ O15.out (by decide) (by decide) hj)
      have O28 := O25.out.fr g8 (fun j hj => dG j 38 _ _ _ _ O25.out (by decide) (by decide) hj)
      have IE := Lib.hid (MK.out _ _ _ _ _ (dv + 1) ((m : Int) + 1 + 1) bef O18 O28)
      clear dG O18 O28 g8 MK
      have HF8 := Lib.hid f8
      have HT8 := Lib.hid T8
      obtain ⟨sp8, cT8, css8, hb8, hrow8, hne8⟩ := T8.body
      rw [HL2.out] at hb8 hrow8
      have t0 := cellOf hb8 0
      have tz := frozenOf hb8 0
      have t0a := cellOf (heapAlloc (o' := .cells #[.int .i64 (p : Int), .string ltag, .string id, .slice sp1 d.cls.length c1, .slice sp2 d.att.length c2, .slice none 0 0, .int .i64 (dv + 1), .int .i64 ((m : Int) + 1 + 1), .int .i64 bef] 57) hb8) 0
      have e0 := cellOf EB8.out 0
      have e1 := cellOf EB8.out 1
      have e2 := cellOf EB8.out 2
      have e3 := cellOf EB8.out 3
      have e4 := cellOf EB8.out 4
      have e5 := cellOf EB8.out 5
      have e6 := cellOf EB8.out 6
      have e7 := cellOf EB8.out 7
      have e8 := cellOf EB8.out 8
      simp at t0 t0a e0 e1 e2 e3 e4 e5 e6 e7 e8
      have HB8 := Lib.hid hb8
      have HR8 := Lib.hid hrow8
      have HN8 := Lib.hid hne8
      have n2 := ownsRow.ne hrow8 hb8 (by intro c; simp)
      have hF8 := f8.size
      clear hb8 hrow8 hne8 T8 f8 k0 k1 n3 nke y5 y5a yz HO9 HGR9 HL9 EB5 HB5 HG5 HR5 HN5 HKW5 O15 O25 FF5
      obtain ⟨i57, ha0, ha1, ha2, ha3⟩ := info_parts info57
      go_region_law (refine step_append_own rfl (.tmp 92) (.tmp 94) 52 rfl w.heap.size 57 i57 _ 9 136 Try.underlying52 ha0 ha1 ha2 ha3 rfl (by omega) (.slice sp8 n cT8) n css8.flatten rfl (ownsRow.fr HR8.out (((Fr.refl (fun _ => False) w8).alloc _).drew) (by simp)) ⟨w8.heap.size, 0, none⟩ 1 1 [.int .i64 (p : Int), .string ltag, .string id, .slice sp1 d.cls.length c1, .slice sp2 d.att.length c2, .slice none 0 0, .int .i64 (dv + 1), .int .i64 ((m : Int) + 1 + 1), .int .i64 bef] rfl rfl (news_new w8 _ 57) (by simp [Value.oneCell']) (by unfold maxLen; omega) (by omega) (by simp; omega) ?_; intro sp7 c7 w7 hown7 hgrow7; have hb7 := heapGrown hgrow7 (heapDrew (heapAlloc HB8.out)) n2; have k0 := cellOf hb7 0; have k1 := frozenOf hb7 0; simp at k0; have HO7 := Lib.hid hown7; have HG7 := Lib.hid hgrow7; clear hb7 hown7 hgrow7)
      all_goals
        go_wp2_with fail
        go_ret
        have R := TS.addE (sp7 := sp7) (c7 := c7) HT8.out.fr HT8.out.ht (by rw [HL2.out]; exact HB8.out) (by rw [HL2.out]; exact HR8.out) HN8.out IE.out rfl (by rw [HL2.out]; exact HO7.out) (by rw [HL2.out]; exact HG7.out)
        rw [HL2.out, HMK.out, ← HELS.out] at R
        exact ⟨rfl, R⟩
end Go.Proofs.Ytdbhcogafhhlnaa
