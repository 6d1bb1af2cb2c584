/- put: an element is put into its place. -/
import Derived.Test.YtdbhcogafhhlnaaDTree
import Derived.BigQuiet
import Derived.Deep.QuietTactic
import Derived.Deep.RegionLaw
import Derived.Deep.Cut
import Derived.IntWalk
namespace Go.Proofs.Ytdbhcogafhhlnaa
open Go.RowKit Go.Maps Go.ChangeShapes Go.WideShapes Go.ChangeAt Go.WideMaps Go.WideElems

theorem step_append_own {P : Program} {ops : Array Oper} {o : Oper} {a : Act} {w : World} {K : Act → World → Prop} {Q : Exit → Act → World → Prop} {E : Prop}
    (hgd : o.guard = none) (s x : Operand) (t : TypeId)
    (ho : o.op = .call { callee := .builtin .append, args := #[s, x], argTypes := #[t, t] })
    (base : Nat) (e : TypeId) (i : TypeInfo) (z : Value) (size bytes : Nat) (ht : P.underlying t = some (.slice e)) (hi : P.info? e = some i) (hz : i.zero = some z)
    (hsize : i.size = size) (hby : i.bytes = bytes) (hzs : z.cells.size = size) (hsz : 0 < size)
    (v : Value) (n : Nat) (xs : List Value) (hs : a.eval s = v) (hown : w.ownsRow base e size v n xs)
    (ad : Addr) (m c : Nat) (news : List Value) (hx : a.eval x = .slice (some ad) m c) (hl : news.length = m * size) (hnews : ∀ j u, news[j]? = some u → w.cell? (ad.add j) = some u) (h1 : ∀ u ∈ news, u.oneCell' = true)
    (h63 : n + m ≤ maxLen) (hbytes : (n + m) * bytes ≤ 140737488355328) (hbase : base ≤ w.heap.size)
    (h : ∀ sp sc w', w'.ownsRow base e size (.slice sp (n + m) sc) (n + m) (xs ++ news) → w.grownBy w' v.ownBlock → K (a.put o.dst (.slice sp (n + m) sc)) w') :
    if Region.wanted o (yielded ops a.tmps) = true then Oper.wp P o a w K Q else E := by
  have hw : Region.wanted o (yielded ops a.tmps) = true := by simp [Region.wanted, hgd]
  rw [if_pos hw]
  obtain ⟨v', w', hr, h2, h3, h4, h5⟩ := run_append_own_at (P := P) w base t o.type e i z size bytes ht hi hz hsize hby hzs hsz v n xs hown ad m c news hl hnews h1 h63 hbytes hbase
  obtain ⟨sp, sc, rfl⟩ := ownsRow.shape h2
  unfold Oper.wp execOp
  simp only [ho, resolve, invoke, builtin, Sem.run_bind, Sem.run_pure, Result.andThen_ok, List.map_toArray, List.map_cons, List.map_nil, hs, hx, hr]
  exact h _ _ _ h2 h3

theorem info57 : (Try.prog.info? 57).map (fun i => (i.zero, i.size, i.bytes)) = some (some (.agg #[.int .i64 0, .string ⟨#[]⟩, .string ⟨#[]⟩, .slice none 0 0, .slice none 0 0, .slice none 0 0, .int .i64 0, .int .i64 0, .int .i64 0]), 9, 136) := by kernel_rfl
theorem news_new (w : World) (l : List Value) (t : TypeId) : ∀ j u, l[j]? = some u → (w.alloc (.cells l.toArray t)).cell? ((⟨w.heap.size, 0, none⟩ : Addr).add j) = some u := by
  intro j u hj
  rw [addOf _ _ rfl, cellOf (heapNew w (.cells l.toArray t))]
  simpa using hj
def badP (k : Nat) (p : Int) : Prop := (k = 0 ∧ p ≠ -1) ∨ (0 < k ∧ (p < 0 ∨ (k : Int) ≤ p))
instance (k : Nat) (p : Int) : Decidable (badP k p) := by unfold badP; infer_instance

/-- What a node that is handed in reads as. -/
structure RdNd (w : World) (d : NodeD) (sp : Option Addr) (q : Option Addr) : Prop where
  cls : Src w 1 sp d.cls.length (d.cls.map Value.string)
  att : Src w 2 q d.att.length (attL d.att)
  hn : d.cls.length * 16 ≤ 140737488351232
  hm : d.att.length * 32 ≤ 140737488351232
  ht : d.tag.size ≤ maxLen
  ha : ∀ p ∈ d.att, p.1.size ≤ maxLen
theorem RdNd.fr {w w' : World} {d : NodeD} {sp q : Option Addr} (h : RdNd w d sp q) (f : Fr (fun _ => False) w w') : RdNd w' d sp q := ⟨h.cls.fr f, h.att.fr f, h.hn, h.hm, h.ht, h.ha⟩

set_option maxHeartbeats 1000000 in
set_option maxRecDepth 100000 in
theorem put_bad (w wr : World) (tb : Nat) (els : List ElD) (d : NodeD) (sp : Option Addr) (c : Nat) (q : Option Addr) (o : Nat) (h : TS w wr tb els) (hd : RdNd wr d sp q) (hn : els.length ≤ 4096) (hb : badP els.length d.par) :
    Calls Try.prog 33 #[.pointer (some ⟨tb, 0, none⟩), .agg #[.int .i64 d.par, .string d.tag, .string d.id, .slice sp d.cls.length c, .slice q d.att.length o]] wr fun e w' => e = .returned (.int .i64 10) ∧ TS w w' tb els := by
  have hA := (Fr.refl (fun _ => False) wr).alloc (.cells #[.int .i64 d.par, .string d.tag, .string d.id, .slice sp d.cls.length c, .slice q d.att.length o] 25)
  have hda := hd.fr hA
  have PL := Lib.hid (lowered_any d.par d.tag d.id d.cls d.att sp c q o _ hda.cls hda.att hda.hn hda.hm hda.ht hda.ha)
  have HNB := Lib.hid (heapNew wr (.cells #[.int .i64 d.par, .string d.tag, .string d.id, .slice sp d.cls.length c, .slice q d.att.length o] 25))
  have HA := Lib.hid hA
  have HTS := Lib.hid h
  have MK := Lib.hid (show ∀ w6 sp1 c1 sp2 c2 dep plc bef, OwnsWin w6 w.heap.size 9 1 (.slice sp1 d.cls.length c1) d.cls.length (d.cls.map Value.string) → OwnsWin w6 w.heap.size 38 2 (.slice sp2 d.att.length c2) d.att.length (attL (lowA d.att)) → IsEl w.heap.size w6 [.int .i64 d.par, .string (lowS d.tag), .string d.id, .slice sp1 d.cls.length c1, .slice sp2 d.att.length c2, .slice none 0 0, .int .i64 dep, .int .i64 plc, .int .i64 bef] ⟨d, [], dep, plc, bef⟩ from fun w6 sp1 c1 sp2 c2 dep plc bef a1 a2 => ⟨sp1, c1, sp2, c2, none, 0, rfl, a1, a2, OwnsWin.nil _ _ _ _⟩)
  have hwsz := h.fr.size
  clear hd hda hA h
  generalize hpar : d.par = par at *
  have HPAR := Lib.hid hpar
  clear hpar
  generalize hlt : lowS d.tag = ltag at *
  have HLT := Lib.hid hlt
  clear hlt
  generalize d.tag = tag at *
  generalize d.id = id at *
  go_enter Try.func33, Try.ntmps33
  go_wp2_with fail
  rename_i KK aa
  refine PL.out.mono ?_
  rintro e w2 ⟨⟨sp1, c1, sp2, c2, rfl, o1, o2⟩, f2⟩
  have F2 := Lib.hid (HA.out.trans f2)
  have O1 := Lib.hid ((o1.lower (show w.heap.size ≤ _ from Nat.le_trans hwsz HA.out.size)))
  have O2 := Lib.hid ((o2.lower (show w.heap.size ≤ _ from Nat.le_trans hwsz HA.out.size)))
  have F3 := Lib.hid (F2.out.alloc (.cells #[.int .i64 par, .string ltag, .string id, .slice sp1 d.cls.length c1, .slice sp2 d.att.length c2, .slice none 0 0, .int .i64 0, .int .i64 1, .int .i64 (-1)] 57))
  have T3 := Lib.hid (HTS.out.fr0 F3.out)
  have FA := Lib.hid ((Fr.refl (fun _ => False) w2).alloc (.cells #[.int .i64 par, .string ltag, .string id, .slice sp1 d.cls.length c1, .slice sp2 d.att.length c2, .slice none 0 0, .int .i64 0, .int .i64 1, .int .i64 (-1)] 57))
  have NB := Lib.hid (FA.out.heap (f2.heap HNB.out (by simp)) (by simp))
  have EB := Lib.hid (heapNew w2 (.cells #[.int .i64 par, .string ltag, .string id, .slice sp1 d.cls.length c1, .slice sp2 d.att.length c2, .slice none 0 0, .int .i64 0, .int .i64 1, .int .i64 (-1)] 57))
  have O1a := Lib.hid (O1.out.fr FA.out (by simp))
  have O2a := Lib.hid (O2.out.fr FA.out (by simp))
  have hsz3 : wr.heap.size ≤ w2.heap.size := F2.out.size
  clear o1 o2 f2 PL O1 O2 HTS F2 FA HNB
  obtain ⟨spT, cT, css, hblk, hrow, hNE⟩ := T3.out.body
  have a0 := cellOf NB.out 0
  have t0 := cellOf hblk 0
  have tz := frozenOf hblk 0
  simp at a0 t0
  have HB := Lib.hid hblk
  have HR := Lib.hid hrow
  have HN := Lib.hid hNE
  clear hblk hrow hNE
  unfold badP at hb
  generalize hnn : els.length = n at *
  have HNN := Lib.hid hnn
  clear hnn
  rcases hb with ⟨h0, h1⟩ | ⟨h0, h1⟩
  · have q0 : ((n : Int) == 0) = true := by simp [h0]
    have q1 : (par != -1) = true := by simpa using h1
    clear h0
    show KK _ _
    apply aa
    go_wp2_with fail
    go_ret
    exact ⟨rfl, T3.out⟩
  · have q0 : ((n : Int) == 0) = false := by rw [beq_eq_false_iff_ne]; omega
    have q1 : decide ((0 : Int) < (n : Int)) = true := by simp; omega
    have q1' : (0 : Int) < (n : Int) := by omega
    by_cases h2 : par < 0
    · have q3 : decide (par < 0) = true := by simpa using h2
      show KK _ _
      apply aa
      go_wp2_with fail
      go_ret
      exact ⟨rfl, T3.out⟩
    · have q3 : decide (par < 0) = false := by simp; omega
      have q4 : decide ((n : Int) ≤ par) = true := by simp; omega
      show KK _ _
      apply aa
      go_wp2_with fail
      go_ret
      exact ⟨rfl, T3.out⟩

set_option maxHeartbeats 1000000 in
set_option maxRecDepth 100000 in
theorem put_root (w wr : World) (tb : Nat) (els : List ElD) (d : NodeD) (sp : Option Addr) (c : Nat) (q : Option Addr) (o : Nat) (h : TS w wr tb els) (hd : RdNd wr d sp q) (hn : els.length ≤ 4096) (h0 : els = []) (hp : d.par = -1) :
    Calls Try.prog 33 #[.pointer (some ⟨tb, 0, none⟩), .agg #[.int .i64 d.par, .string d.tag, .string d.id, .slice sp d.cls.length c, .slice q d.att.length o]] wr fun e w' => e = .returned (.int .i64 0) ∧ TS w w' tb [⟨d, [], 0, 1, -1⟩] := by
  have hA := (Fr.refl (fun _ => False) wr).alloc (.cells #[.int .i64 d.par, .string d.tag, .string d.id, .slice sp d.cls.length c, .slice q d.att.length o] 25)
  have hda := hd.fr hA
  have PL := Lib.hid (lowered_any d.par d.tag d.id d.cls d.att sp c q o _ hda.cls hda.att hda.hn hda.hm hda.ht hda.ha)
  have HNB := Lib.hid (heapNew wr (.cells #[.int .i64 d.par, .string d.tag, .string d.id, .slice sp d.cls.length c, .slice q d.att.length o] 25))
  have HA := Lib.hid hA
  have HTS := Lib.hid h
  have MK := Lib.hid (show ∀ w6 sp1 c1 sp2 c2 dep plc bef, OwnsWin w6 w.heap.size 9 1 (.slice sp1 d.cls.length c1) d.cls.length (d.cls.map Value.string) → OwnsWin w6 w.heap.size 38 2 (.slice sp2 d.att.length c2) d.att.length (attL (lowA d.att)) → IsEl w.heap.size w6 [.int .i64 d.par, .string (lowS d.tag), .string d.id, .slice sp1 d.cls.length c1, .slice sp2 d.att.length c2, .slice none 0 0, .int .i64 dep, .int .i64 plc, .int .i64 bef] ⟨d, [], dep, plc, bef⟩ from fun w6 sp1 c1 sp2 c2 dep plc bef a1 a2 => ⟨sp1, c1, sp2, c2, none, 0, rfl, a1, a2, OwnsWin.nil _ _ _ _⟩)
  have hwsz := h.fr.size
  clear hd hda hA h
  generalize hpar : d.par = par at *
  have HPAR := Lib.hid hpar
  clear hpar
  have HP := Lib.hid hp
  clear hp
  generalize hlt : lowS d.tag = ltag at *
  have HLT := Lib.hid hlt
  clear hlt
  generalize d.tag = tag at *
  generalize d.id = id at *
  go_enter Try.func33, Try.ntmps33
  go_wp2_with fail
  rename_i KK aa
  refine PL.out.mono ?_
  rintro e w2 ⟨⟨sp1, c1, sp2, c2, rfl, o1, o2⟩, f2⟩
  have F2 := Lib.hid (HA.out.trans f2)
  have O1 := Lib.hid ((o1.lower (show w.heap.size ≤ _ from Nat.le_trans hwsz HA.out.size)))
  have O2 := Lib.hid ((o2.lower (show w.heap.size ≤ _ from Nat.le_trans hwsz HA.out.size)))
  have F3 := Lib.hid (F2.out.alloc (.cells #[.int .i64 par, .string ltag, .string id, .slice sp1 d.cls.length c1, .slice sp2 d.att.length c2, .slice none 0 0, .int .i64 0, .int .i64 1, .int .i64 (-1)] 57))
  have T3 := Lib.hid (HTS.out.fr0 F3.out)
  have FA := Lib.hid ((Fr.refl (fun _ => False) w2).alloc (.cells #[.int .i64 par, .string ltag, .string id, .slice sp1 d.cls.length c1, .slice sp2 d.att.length c2, .slice none 0 0, .int .i64 0, .int .i64 1, .int .i64 (-1)] 57))
  have NB := Lib.hid (FA.out.heap (f2.heap HNB.out (by simp)) (by simp))
  have EB := Lib.hid (heapNew w2 (.cells #[.int .i64 par, .string ltag, .string id, .slice sp1 d.cls.length c1, .slice sp2 d.att.length c2, .slice none 0 0, .int .i64 0, .int .i64 1, .int .i64 (-1)] 57))
  have O1a := Lib.hid (O1.out.fr FA.out (by simp))
  have O2a := Lib.hid (O2.out.fr FA.out (by simp))
  have hsz3 : wr.heap.size ≤ w2.heap.size := F2.out.size
  clear o1 o2 f2 PL O1 O2 HTS F2 FA HNB
  obtain ⟨spT, cT, css, hblk, hrow, hNE⟩ := T3.out.body
  have a0 := cellOf NB.out 0
  have t0 := cellOf hblk 0
  have tz := frozenOf hblk 0
  simp at a0 t0
  have HB := Lib.hid hblk
  have HR := Lib.hid hrow
  have HN := Lib.hid hNE
  clear hblk hrow hNE
  generalize hnn : els.length = n at *
  have HNN := Lib.hid hnn
  have hn0 : n = 0 := by rw [← hnn, h0]; rfl
  clear hnn
  have H0 := Lib.hid h0
  have HN0 := Lib.hid hn0
  have q0 : ((n : Int) == 0) = true := by simp [hn0]
  have q2 : decide ((0 : Int) < (n : Int)) = false := by simp [hn0]
  have q2n : decide (0 < n) = false := by simp [hn0]
  clear h0 hn0
  have q1 : (par != -1) = false := by simp [HP.out]
  show KK _ _
  apply aa
  have IE := Lib.hid (MK.out _ _ _ _ _ 0 1 (-1) O1a.out O2a.out)
  clear MK O1a O2a
  go_upto_region 14 with fail
  generalize hw3 : w2.alloc (.cells #[.int .i64 par, .string ltag, .string id, .slice sp1 d.cls.length c1, .slice sp2 d.att.length c2, .slice none 0 0, .int .i64 0, .int .i64 1, .int .i64 (-1)] 57) = w3 at *
  clear hw3
  generalize heb : w2.heap.size = eb at *
  clear heb
  have e0 := cellOf EB.out 0
  have e1 := cellOf EB.out 1
  have e2 := cellOf EB.out 2
  have e3 := cellOf EB.out 3
  have e4 := cellOf EB.out 4
  have e5 := cellOf EB.out 5
  have e6 := cellOf EB.out 6
  have e7 := cellOf EB.out 7
  have e8 := cellOf EB.out 8
  simp at e0 e1 e2 e3 e4 e5 e6 e7 e8
  have t0a := cellOf (heapAlloc (o' := .cells #[.int .i64 par, .string ltag, .string id, .slice sp1 d.cls.length c1, .slice sp2 d.att.length c2, .slice none 0 0, .int .i64 0, .int .i64 1, .int .i64 (-1)] 57) HB.out) 0
  simp at t0a
  have n2 := ownsRow.ne HR.out HB.out (by intro c; simp)
  obtain ⟨i57, ha0, ha1, ha2, ha3⟩ := info_parts info57
  have hT := T3.out.ht
  have hF := T3.out.fr.size
  go_region_law (refine step_append_own rfl (.tmp 92) (.tmp 94) 52 rfl w.heap.size 57 i57 _ 9 136 Try.underlying52 ha0 ha1 ha2 ha3 rfl (by omega) (.slice spT n cT) n css.flatten rfl (ownsRow.fr HR.out (((Fr.refl (fun _ => False) w3).alloc _).drew) (by simp)) ⟨w3.heap.size, 0, none⟩ 1 1 [.int .i64 par, .string ltag, .string id, .slice sp1 d.cls.length c1, .slice sp2 d.att.length c2, .slice none 0 0, .int .i64 0, .int .i64 1, .int .i64 (-1)] rfl rfl (news_new w3 _ 57) (by simp [Value.oneCell']) (by unfold maxLen; omega) (by omega) (by simp; omega) ?_; intro sp7 c7 w7 hown7 hgrow7; have hb7 := heapGrown hgrow7 (heapDrew (heapAlloc HB.out)) n2; have k0 := cellOf hb7 0; have k1 := frozenOf hb7 0; simp at k0; have HO7 := Lib.hid hown7; have HG7 := Lib.hid hgrow7; clear hb7 hown7 hgrow7)
  all_goals
    go_wp2_with fail
    go_ret
    have R := TS.addE (sp7 := sp7) (c7 := c7) T3.out.fr T3.out.ht (by rw [HNN.out]; exact HB.out) (by rw [HNN.out]; exact HR.out) HN.out IE.out rfl (by rw [HNN.out]; exact HO7.out) (by rw [HNN.out]; exact HG7.out)
    rw [HNN.out, H0.out] at R
    exact ⟨rfl, R⟩
end Go.Proofs.Ytdbhcogafhhlnaa
