/- A node of the lot of seed 0. -/
import Derived.Test.YtdjdpfmogphoiaaGfn
import Derived.BigQuiet
import Derived.Deep.QuietTactic
import Derived.Deep.RegionLaw
namespace Go.Proofs.Ytdjdpfmogphoiaa
open Go.RowKit Go.Maps Go.ChangeShapes Go.WideShapes Go.ChangeAt Go.WideMaps Go.WideElems

theorem step_append_own {P : Program} {ops : Array Oper} {o : Oper} {a : Act} {w : World} {K : Act → World → Prop} {Q : Exit → Act → World → Prop} {E : Prop}
    (hgd : o.guard = none) (s x : Operand) (t : TypeId)
    (ho : o.op = .call { callee := .builtin .append, args := #[s, x], argTypes := #[t, t] })
    (base : Nat) (e : TypeId) (i : TypeInfo) (z : Value) (size bytes : Nat) (ht : P.underlying t = some (.slice e)) (hi : P.info? e = some i) (hz : i.zero = some z)
    (hsize : i.size = size) (hby : i.bytes = bytes) (hzs : z.cells.size = size) (hsz : 0 < size)
    (v : Value) (n : Nat) (xs : List Value) (hs : a.eval s = v) (hown : w.ownsRow base e size v n xs)
    (ad : Addr) (m c : Nat) (news : List Value) (hx : a.eval x = .slice (some ad) m c) (hl : news.length = m * size) (hnews : ∀ j u, news[j]? = some u → w.cell? (ad.add j) = some u) (h1 : ∀ u ∈ news, u.oneCell' = true)
    (h63 : n + m ≤ maxLen) (hbytes : (n + m) * bytes ≤ 140737488355328) (hbase : base ≤ w.heap.size)
    (h : ∀ sp sc w', w'.ownsRow base e size (.slice sp (n + m) sc) (n + m) (xs ++ news) → w.grownBy w' v.ownBlock → ((Value.slice sp (n + m) sc).ownBlock = v.ownBlock ∨ (Value.slice sp (n + m) sc).ownBlock = some w.heap.size) → K (a.put o.dst (.slice sp (n + m) sc)) w') :
    if Region.wanted o (yielded ops a.tmps) = true then Oper.wp P o a w K Q else E := by
  have hw : Region.wanted o (yielded ops a.tmps) = true := by simp [Region.wanted, hgd]
  rw [if_pos hw]
  obtain ⟨v', w', hr, h2, h3, h4, h5⟩ := run_append_own_at (P := P) w base t o.type e i z size bytes ht hi hz hsize hby hzs hsz v n xs hown ad m c news hl hnews h1 h63 hbytes hbase
  obtain ⟨sp, sc, rfl⟩ := ownsRow.shape h2
  unfold Oper.wp execOp
  simp only [ho, resolve, invoke, builtin, Sem.run_bind, Sem.run_pure, Result.andThen_ok, List.map_toArray, List.map_cons, List.map_nil, hs, hx, hr]
  exact h _ _ _ h2 h3 h5

theorem ownsRow_drew {w : World} {base e size : Nat} {v : Value} {n : Nat} {xs : List Value} (h : w.ownsRow base e size v n xs) : w.drew.ownsRow base e size v n xs := h

theorem cell_one (w : World) (x : Value) (t : TypeId) : ∀ j u, [x][j]? = some u → (w.alloc (.cells #[x] t)).cell? ((⟨w.heap.size, 0, none⟩ : Addr).add j) = some u := by
  intro j u hj
  match j, hj with
  | 0, hj =>
    simp at hj
    subst hj
    exact cellOf (heapNew w (.cells #[x] t)) 0

theorem one_str (b sb c : Nat) (l : List ByteArray) (s : Int) (T : TypeId) (w : World) (h : IsLot 49 w b s) (hn : sb ≠ b) (hl : w.heap[sb]? = some (.cells (l.map Value.string).toArray T (0, 0))) (h1 : 1 ≤ l.length) (h2 : l.length ≤ c) (h3 : c ≤ 2 ^ 63 - 1) :
    Calls Try.prog 24 #[.pointer (some ⟨b, 0, none⟩), .slice (some ⟨sb, 0, none⟩) l.length c] w fun e w' => ∃ t, e = .returned (.string t) ∧ l[(nxV s l.length).toNat]? = some t ∧ IsLot 49 w' b (nxS s) ∧ Fr (fun k => k = b) w w' := by
  have hi := nxV_in s l.length
  have hk : nxV s l.length < l.length := hi.2 (by omega)
  have hk2 : (nxV s l.length).toNat < l.length := by omega
  refine (one_any b sb 0 l.length c s (.string (l[(nxV s l.length).toNat])) w h hn (ltOf hl) h1 h2 h3 ?_).mono ?_
  · rw [Nat.zero_add, cellOf hl]
    simp [hk2]
  · rintro e w' ⟨rfl, k1, k2⟩
    exact ⟨_, rfl, by simp [hk2], k1, k2⟩

theorem nv0 : nxV 0 3 = 2 := by rw [nxV]; simp only [nxS_eq]; decide
theorem nv1 : nxV (nxS 0) 4 = 1 := by rw [nxV]; simp only [nxS_eq]; decide
theorem nv2 : nxV (nxS (nxS 0)) 3 = 2 := by rw [nxV]; simp only [nxS_eq]; decide
theorem nv5 : nxV (nxS (nxS (nxS (nxS (nxS 0))))) 3 = 1 := by rw [nxV]; simp only [nxS_eq]; decide

def Z47 : Obj := .cells #[.int .i64 0, .string ⟨#[]⟩, .string ⟨#[]⟩, .slice none 0 0, .slice none 0 0] 47
def N47 (t : ByteArray) (v : Value) : Obj := .cells #[.int .i64 (-1), .string t, .string ⟨#[]⟩, v, .slice none 0 0] 47

def stt : Nat → Int
  | 0 => nxS (nxS (nxS 0))
  | k + 1 => nxS (stt k)

/-- A node that is being made, k classes given. -/
structure NodeS (w : World) (b rb nb : Nat) (wr : World) (k : Nat) (sp : Option Addr) (c : Nat) : Prop where
  lot : IsLot 49 wr b (stt k)
  res : wr.heap[rb]? = some Z47
  node : wr.heap[nb]? = some (N47 ⟨#[99]⟩ (.slice sp k c))
  row : ∃ xs, wr.ownsRow w.heap.size 9 1 (.slice sp k c) k xs
  fr : Fr (fun k => k = b) w wr

theorem NodeS.step {w : World} {b rb nb : Nat} {wr : World} {k : Nat} {sp : Option Addr} {c : Nat} (h : NodeS w b rb nb wr k sp c) (hb : b < w.heap.size) (hrb : w.heap.size ≤ rb) (hnb : w.heap.size ≤ nb) (hn : nb ≠ rb) {A B : Obj} {w6 w7 : World} {sp' : Option Addr} {c' : Nat} {ys : List Value}
    (hl6 : IsLot 49 w6 b (nxS (stt k))) (f6 : Fr (fun k => k = b) ((wr.alloc A).drew) w6) (hown7 : w7.ownsRow w.heap.size 9 1 (.slice sp' (k + 1) c') (k + 1) ys) (hgrow : (w6.alloc B).grownBy w7 (Value.slice sp k c).ownBlock) :
    NodeS w b rb nb (w7.setCell ⟨nb, 3, none⟩ (.slice sp' (k + 1) c')) (k + 1) sp' c' := by
  obtain ⟨h1, h2, h3, ⟨xs, h4⟩, h5⟩ := h
  have n1 := ownsRow.ne h4 h2 (by intro c; simp [Z47])
  have n2 := ownsRow.ne h4 h3 (by intro c; simp [N47])
  have n3 := ownsRow.ne h4 h1 (by intro c; simp)
  have r6 := f6.heap (heapDrew (heapAlloc h2)) (by omega)
  have d6 := f6.heap (heapDrew (heapAlloc h3)) (by omega)
  have l7 := heapGrown hgrow (heapAlloc hl6) n3
  have r7 := heapGrown hgrow (heapAlloc r6) n1
  have d7 := heapGrown hgrow (heapAlloc d6) n2
  have f7 : Fr (fun k => k = b) w w7 := (((h5.alloc A).drew.trans f6).alloc B).grown hgrow (fun j e => .inr (h4.lt j e).1)
  have d8 := heapSet d7 3 (.slice sp' (k + 1) c')
  refine ⟨?_, ?_, ?_, ⟨ys, ?_⟩, f7.setCell (p := ⟨nb, 3, none⟩) (.inr hnb) _⟩
  · exact (heapSetOther 3 _ (by omega)).trans l7
  · exact (heapSetOther 3 _ (fun e => hn e.symm)).trans r7
  · simpa [N47] using d8
  · have n7 := ownsRow.ne hown7 d7 (by intro c; simp [N47])
    exact ownsRow.fr hown7 ((Fr.refl (fun j => j = nb) w7).setCell (p := ⟨nb, 3, none⟩) (.inl rfl) _) (fun j hj e => n7 (by rw [hj, e]))

theorem info9 : (Try.prog.info? 9).map (fun i => (i.zero, i.size, i.bytes)) = some (some (.string ⟨#[]⟩), 1, 16) := by kernel_rfl

set_option maxRecDepth 100000 in
set_option maxHeartbeats 4000000 in
theorem node0 (b : Nat) (w : World) (h : IsLot 49 w b 0) :
    Calls Try.prog 20 #[.pointer (some ⟨b, 0, none⟩), .int .i64 0] w fun e w' => (∃ v2 v3 v4, e = .returned (.agg #[.int .i64 (-1), .string ⟨#[99]⟩, v2, v3, v4]) ∧ ∀ u ∈ [v2, v3, v4], u.oneCell' = true) ∧ Fr (fun k => k = b) w w' := by
  have hb := ltOf h
  have P1 := Lib.hid (one_str b (w.heap.size + 1 + 1) 3 [⟨#[97]⟩, ⟨#[98]⟩, ⟨#[99]⟩] 0 9 (((w.alloc Z47).alloc (N47 ⟨#[]⟩ (.slice none 0 0))).alloc (.cells #[.string ⟨#[97]⟩, .string ⟨#[98]⟩, .string ⟨#[99]⟩] 9)) (heapAlloc (heapAlloc (heapAlloc h))) (by omega) (by
    have := heapNew ((w.alloc Z47).alloc (N47 ⟨#[]⟩ (.slice none 0 0))) (.cells #[.string ⟨#[97]⟩, .string ⟨#[98]⟩, .string ⟨#[99]⟩] 9)
    simpa using this) (by simp) (by simp) (by simp))
  have hR : (((w.alloc Z47).alloc (N47 ⟨#[]⟩ (.slice none 0 0))).alloc (.cells #[.string ⟨#[97]⟩, .string ⟨#[98]⟩, .string ⟨#[99]⟩] 9)).heap[w.heap.size]? = some Z47 := heapAlloc (heapAlloc (heapNew w Z47))
  have hN : (((w.alloc Z47).alloc (N47 ⟨#[]⟩ (.slice none 0 0))).alloc (.cells #[.string ⟨#[97]⟩, .string ⟨#[98]⟩, .string ⟨#[99]⟩] 9)).heap[w.heap.size + 1]? = some (N47 ⟨#[]⟩ (.slice none 0 0)) := by
    have := heapAlloc (o' := .cells #[.string ⟨#[97]⟩, .string ⟨#[98]⟩, .string ⟨#[99]⟩] 9) (heapNew (w.alloc Z47) (N47 ⟨#[]⟩ (.slice none 0 0)))
    simpa using this
  have f0 : Fr (fun k => k = b) w (((w.alloc Z47).alloc (N47 ⟨#[]⟩ (.slice none 0 0))).alloc (.cells #[.string ⟨#[97]⟩, .string ⟨#[98]⟩, .string ⟨#[99]⟩] 9)) := (((Fr.refl _ _).alloc _).alloc _).alloc _
  have HR := Lib.hid hR
  have HN := Lib.hid hN
  have F0 := Lib.hid f0
  clear hR hN f0
  unfold Z47 N47 at *
  go_enter Try.func20, Try.ntmps20
  go_wp2_with fail
  refine P1.out.mono ?_
  generalize ((w.alloc _).alloc _).alloc _ = w1 at *
  rintro e w2 ⟨t, rfl, ht, hl2, f2⟩
  simp only [List.length_cons, List.length_nil] at ht
  rw [show ((0 + 1 + 1 + 1 : Nat) : Int) = 3 from rfl, nv0] at ht
  obtain rfl : (⟨#[99]⟩ : ByteArray) = t := by simpa using ht
  have hR2 := f2.heap HR.out (by omega)
  have hN2 := f2.heap HN.out (by omega)
  have hs1 := F0.out.size
  have fw := F0.out.trans f2
  have HFW := Lib.hid fw
  have HR2 := Lib.hid hR2
  have HN2 := Lib.hid hN2
  have HL2 := Lib.hid hl2
  clear fw f2 hR2 hl2 HR HN F0 P1 h hs1 w1
  have hne : w.heap.size + 1 ≠ w.heap.size := by omega
  have hrbb : w.heap.size ≠ b := by omega
  have hnbb : w.heap.size + 1 ≠ b := by omega
  have hr1 : w.heap.size ≤ w.heap.size := Nat.le_refl _
  have hr2 : w.heap.size ≤ w.heap.size + 1 := by omega
  obtain ⟨rb, hrb⟩ : ∃ rb, rb = w.heap.size := ⟨_, rfl⟩
  obtain ⟨nb, hnb⟩ : ∃ nb, nb = w.heap.size + 1 := ⟨_, rfl⟩
  have c1 := cellOf hN2 1
  have z1 := frozenOf hN2 1
  simp at c1
  have L3 := Lib.hid (show IsLot 49 (w2.setCell ⟨w.heap.size + 1, 1, none⟩ (.string ⟨#[99]⟩)) b (nxS 0) from (heapSetOther 1 _ (by omega)).trans HL2.out)
  have N3 := Lib.hid (heapSet HN2.out 1 (.string ⟨#[99]⟩))
  have R3 := Lib.hid ((heapSetOther (w := w2) (b := w.heap.size + 1) 1 (.string ⟨#[99]⟩) (by omega)).trans HR2.out)
  have F3 := Lib.hid (HFW.out.setCell (p := ⟨w.heap.size + 1, 1, none⟩) (.inr (by simp)) (.string ⟨#[99]⟩))
  clear hN2 HN2 HR2 HL2 HFW
  have P2 := Lib.hid (Next_any b (nxS 0) 4 _ L3.out)
  rw [nv1] at P2
  go_wp2_with fail
  refine P2.out.mono ?_
  generalize w2.setCell ⟨w.heap.size + 1, 1, none⟩ (.string ⟨#[99]⟩) = w3 at *
  rintro e w4 ⟨rfl, hl4, f4⟩
  have L4 := Lib.hid hl4
  have N4 := Lib.hid (f4.heap N3.out (by omega))
  have R4 := Lib.hid (f4.heap R3.out (by omega))
  have F4 := Lib.hid (F3.out.trans f4)
  clear hl4 f4 N3 R3 F3 P2 L3 c1 z1
  have P3 := Lib.hid (Next_any b (nxS (nxS 0)) 3 _ L4.out)
  rw [nv2] at P3
  go_wp2_with fail
  refine P3.out.mono ?_
  rintro e w5 ⟨rfl, hl5, f5⟩
  have S0 := Lib.hid (show NodeS w b w.heap.size (w.heap.size + 1) w5 0 none 0 from ⟨hl5, f5.heap R4.out (by omega), f5.heap N4.out (by omega), ⟨[], World.ownsRow_nil _ _ _ _⟩, F4.out.trans f5⟩)
  clear hl5 f5 R4 N4 F4 L4 P3
  go_wp2_with fail
  go_loopw [31] (fun j wr => ∃ (k : Nat) (sp : Option Addr) (c : Nat), k ≤ 2 ∧ j = .int .i64 k ∧ Hid (NodeS w b w.heap.size (w.heap.size + 1) wr k sp c)) (fun j _ => 2 - (intOf j).toNat)
  case atStart => exact ⟨0, none, 0, by omega, rfl, S0.out⟩
  case round =>
    obtain ⟨k, sp, c, hk, rfl, hS⟩ := hrel
    clear S0
    by_cases hlt : k < 2
    · have c3 := cellOf hS.out.node 3
      have z3 := frozenOf hS.out.node 3
      have c3a := cellOf (heapAlloc (o' := .cells #[.string ⟨#[112]⟩, .string ⟨#[113]⟩, .string ⟨#[114]⟩, .string ⟨#[115]⟩] 9) hS.out.node) 3
      simp at c3 c3a
      obtain ⟨xs, hrow⟩ := hS.out.row
      have hrb := ownsRow.ne hrow hS.out.node (by intro c; simp [N47])
      have hrb2 := ownsRow.ne hrow hS.out.lot (by intro c; simp)
      have ND := Lib.hid (heapDrew (heapAlloc (o' := .cells #[.string ⟨#[112]⟩, .string ⟨#[113]⟩, .string ⟨#[114]⟩, .string ⟨#[115]⟩] 9) hS.out.node))
      have RW := Lib.hid (ownsRow.fr hrow ((Fr.refl (fun _ => False) wr).alloc (.cells #[.string ⟨#[112]⟩, .string ⟨#[113]⟩, .string ⟨#[114]⟩, .string ⟨#[115]⟩] 9)).drew (by simp))
      have H1 : ∀ t : ByteArray, ∀ u ∈ [Value.string t], u.oneCell' = true := by simp [Value.oneCell']
      have G1 : k + 1 ≤ maxLen := by unfold maxLen; omega
      have G2 : (k + 1) * 16 ≤ 140737488355328 := by omega
      have PO := Lib.hid (one_str b wr.heap.size 4 [⟨#[112]⟩, ⟨#[113]⟩, ⟨#[114]⟩, ⟨#[115]⟩] (stt k) 9 ((wr.alloc (.cells #[.string ⟨#[112]⟩, .string ⟨#[113]⟩, .string ⟨#[114]⟩, .string ⟨#[115]⟩] 9)).drew) (heapDrew (heapAlloc hS.out.lot)) (by have := ltOf hS.out.lot; omega) (heapDrew (heapNew wr (.cells #[.string ⟨#[112]⟩, .string ⟨#[113]⟩, .string ⟨#[114]⟩, .string ⟨#[115]⟩] 9))) (by simp) (by simp) (by simp))
      have I9 := Lib.hid (info_parts info9)
      obtain ⟨i0, hi, hz0, hz1, hz2⟩ := I9.out
      have HSZ := Lib.hid (show w.heap.size ≤ ((wr.alloc (.cells #[.string ⟨#[112]⟩, .string ⟨#[113]⟩, .string ⟨#[114]⟩, .string ⟨#[115]⟩] 9)).drew).heap.size from Nat.le_trans hS.out.fr.size (by show wr.heap.size ≤ (wr.alloc _).heap.size; simp))
      clear hrow
      go_wp2_with fail
      go_region_law (first
        | (go_simp; go_at_call 24; refine Calls.mono PO.out ?_; rintro e w6 ⟨t, rfl, _, hl6, f6⟩; have hn6 := f6.heap ND.out (by omega); have hc3 := cellOf hn6 3; have hc3a := cellOf (heapAlloc (o' := .cells #[.string t] 9) hn6) 3; simp at hc3 hc3a; have HL6 := Lib.hid hl6; have RW6 := Lib.hid (ownsRow.fr RW.out f6 (fun j hj e => hrb2 (by rw [hj, e]))); have N6 := Lib.hid hn6; have F6 := Lib.hid f6; have HZ6 := Lib.hid (Nat.le_trans HSZ.out f6.size); clear hl6 hn6 f6)
        | (refine step_append_own rfl _ _ 44 rfl w.heap.size 9 i0 _ 1 16 Try.underlying44 hi hz0 hz1 hz2 rfl (by omega) (.slice sp k c) _ _ rfl (ownsRow.fr RW6.out ((Fr.refl (fun _ => False) _).alloc _) (by simp)) ⟨w6.heap.size, 0, none⟩ 1 1 [.string t] rfl rfl (cell_one _ _ _) (H1 t) G1 G2 (by have := HZ6.out; simp; omega) ?_; intro sp' sc' w7 hown7 hgrow7 _; have hn7 := heapGrown hgrow7 (heapAlloc N6.out) hrb; have e3 := cellOf hn7 3; have y3 := frozenOf hn7 3; simp at e3; have HS7 := Lib.hid (hS.out.step hb hr1 hr2 hne HL6.out F6.out hown7 hgrow7); clear hn7 hown7 hgrow7))
      all_goals
        clear PO RW ND HSZ
        go_wp2_with fail
        go_roundw
        case rel => exact ⟨k + 1, sp', sc', by omega, by go_num, HS7.out⟩
        case measure => simp [intOf]; omega
    · have hke : k = 2 := by omega
      subst hke
      have P5 := Lib.hid (Next_any b (stt 2) 3 wr hS.out.lot)
      rw [show stt 2 = nxS (nxS (nxS (nxS (nxS 0)))) from rfl, nv5] at P5
      go_wp2_with fail
      refine P5.out.mono ?_
      rintro e w6 ⟨rfl, hl6, f6⟩
      have hn6 := f6.heap hS.out.node (by omega)
      have hr6 := f6.heap hS.out.res (by omega)
      have F6 := Lib.hid (hS.out.fr.trans f6)
      have c0 := cellOf hn6 0
      have c1 := cellOf hn6 1
      have c2 := cellOf hn6 2
      have c3 := cellOf hn6 3
      have c4 := cellOf hn6 4
      have d0 := cellOf hr6 0
      have d1 := cellOf hr6 1
      have d2 := cellOf hr6 2
      have d3 := cellOf hr6 3
      have d4 := cellOf hr6 4
      have y0 := frozenOf hr6 0
      have y1 := frozenOf hr6 1
      have y2 := frozenOf hr6 2
      have y3 := frozenOf hr6 3
      have y4 := frozenOf hr6 4
      simp at c0 c1 c2 c3 c4 d0 d1 d2 d3 d4
      have HR6 := Lib.hid hr6
      clear f6 hl6 hn6 hr6 P5 hS
      go_wp2_with fail
      have hr9 := heapSet (heapSet (heapSet (heapSet (heapSet HR6.out 0 (.int .i64 (-1))) 1 (.string ⟨#[99]⟩)) 2 (.string ⟨#[]⟩)) 3 (.slice sp 2 c)) 4 (.slice none 0 0)
      have F9 := ((((F6.out.setCell (p := ⟨w.heap.size, 0, none⟩) (.inr hr1) (.int .i64 (-1))).setCell (p := ⟨w.heap.size, 1, none⟩) (.inr hr1) (.string ⟨#[99]⟩)).setCell (p := ⟨w.heap.size, 2, none⟩) (.inr hr1) (.string ⟨#[]⟩)).setCell (p := ⟨w.heap.size, 3, none⟩) (.inr hr1) (.slice sp 2 c)).setCell (p := ⟨w.heap.size, 4, none⟩) (.inr hr1) (.slice none 0 0)
      clear c0 c1 c2 c3 c4 d0 d1 d2 d3 d4 y0 y1 y2 y3 y4
      generalize ((((w6.setCell { block := w.heap.size, off := 0 } (Value.int IntKind.i64 (-1))).setCell { block := w.heap.size, off := 1 } (Value.string ⟨#[99]⟩)).setCell { block := w.heap.size, off := 2 } (Value.string ⟨#[]⟩)).setCell { block := w.heap.size, off := 3 } (Value.slice sp 2 c)).setCell { block := w.heap.size, off := 4 } (Value.slice none 0 0) = w9 at *
      have d0 := cellOf hr9 0
      have d1 := cellOf hr9 1
      have d2 := cellOf hr9 2
      have d3 := cellOf hr9 3
      have d4 := cellOf hr9 4
      simp at d0 d1 d2 d3 d4
      refine bodyPost_ret (v := .agg #[.int .i64 (-1), .string ⟨#[99]⟩, .string ⟨#[]⟩, .slice sp 2 c, .slice none 0 0]) (by simp [results, Try.results20, go_sem, d0, d1, d2, d3, d4]) rfl ⟨⟨_, _, _, rfl, by simp [Value.oneCell']⟩, F9⟩
end Go.Proofs.Ytdjdpfmogphoiaa
