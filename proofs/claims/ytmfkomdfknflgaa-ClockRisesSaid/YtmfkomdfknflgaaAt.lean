/- at: a cell, made if it isn't there. -/
import Derived.Test.YtmfkomdfknflgaaJoin
import Derived.Deep.OwnRows
import Derived.Laws.OwnMore
namespace Go.Proofs.Ytmfkomdfknflgaa
open Go.RowKit Go.Maps Go.ChangeShapes Go.WideShapes Go.ChangeAt Go.WideMaps Go.WideElems

theorem ptrE_lit {v : Value} {ps : List MemPlace} {b : Nat} (h : ptrE v = some (.lit (.int .i64 (b : Int)), ps)) : v = .pointer (some ⟨b, 0, none⟩) := by
  unfold ptrE at h
  split at h
  · simp at h
  · rename_i b'
    simp at h
    have := h.1
    obtain rfl : b' = b := by omega
    rfl
  · cases h
theorem ptrE_nil {v : Value} {ps : List MemPlace} (h : ptrE v = some (nilD, ps)) : v = .pointer none := by
  unfold ptrE nilD at h
  split at h
  · rfl
  · simp at h
  · cases h
theorem key_int {z : Int} (h : -9223372036854775808 ≤ z ∧ z ≤ 9223372036854775807) : keyOf Try.prog 3 (.int .i64 z) = some (.int .i64 z) :=
  keyOf_int_mk Try.underlying3 (WalkArith.wf_i64 h)
theorem law3 : Keyed Try.prog 3 := int_keyed Try.underlying3
/-- What a lookup answers. -/
theorem look_none {w : World} {mb m : Nat} {D : DataW Unit} (h : w.ownsMap Try.prog 3 ptrE mb m D) {z : Int} (hz : -9223372036854775808 ≤ z ∧ z ≤ 9223372036854775807) (hD : D.atKey (.int .i64 z) nilD = nilD) :
    (Instr.lookup 42 (.map (some mb)) (.int .i64 z) false).run Try.prog w = .ok (.pointer none) w := by
  obtain ⟨v, ps, h1, h2⟩ := h.lookup law3 Try.underlying42 (z := .pointer none) (by kernel_rfl) (zd := nilD) (zp := []) rfl (key_int hz)
  rw [hD] at h2
  rw [ptrE_nil h2] at h1
  exact h1
theorem look_some {w : World} {mb m b : Nat} {D : DataW Unit} (h : w.ownsMap Try.prog 3 ptrE mb m D) {z : Int} (hz : -9223372036854775808 ≤ z ∧ z ≤ 9223372036854775807) (hD : D.atKey (.int .i64 z) nilD = .lit (.int .i64 (b : Int))) :
    (Instr.lookup 42 (.map (some mb)) (.int .i64 z) false).run Try.prog w = .ok (.pointer (some ⟨b, 0, none⟩)) w := by
  obtain ⟨v, ps, h1, h2⟩ := h.lookup law3 Try.underlying42 (z := .pointer none) (by kernel_rfl) (zd := nilD) (zp := []) rfl (key_int hz)
  rw [hD] at h2
  rw [ptrE_lit h2] at h1
  exact h1

def zCel : Cel := ⟨fun _ => 0, fun _ _ => 0⟩
def updM (M : Int → Option Cel) (z : Int) (x : Cel) : Int → Option Cel := fun y => if y = z then some x else M y
/-- What at leaves. -/
def AtP (w : World) (R : Nat → Role) (n m : Nat) (M : Int → Option Cel) (mb : Nat) (z : Int) (e : Ending) (w' : World) : Prop :=
  ∃ R' cb', e = .returned (.pointer (some ⟨cb' z, 0, none⟩)) ∧ IsMC w' R' n (m + 1) (updM M z ((M z).getD zCel)) mb cb' ∧ Fr (fun k => k = mb) w w' ∧ (∀ k, k < w.heap.size → R' k = R k) ∧ (∀ k, w'.heap.size ≤ k → R' k = .no)

theorem at_old (w : World) (R : Nat → Role) (b n m : Nat) (M : Int → Option Cel) (mb : Nat) (cb : Int → Nat) (vc vb vl : Value) (z : Int) (x : Cel)
    (ht : w.heap[b]? = some (.cells #[.int .i64 (n : Int), vc, vb, .map (some mb), vl] 46 (0, 0))) (h : IsMC w R n m M mb cb) (hbig : ∀ k, w.heap.size ≤ k → R k = .no)
    (hz : -9223372036854775808 ≤ z ∧ z ≤ 9223372036854775807) (hx : M z = some x) :
    Calls Try.prog 21 #[.pointer (some ⟨b, 0, none⟩), .int .i64 z] w (AtP w R n m M mb z) := by
  have c3 := cellOf ht 3
  simp at c3
  obtain ⟨h0, D, h1, h2, h4, h5⟩ := h
  have hD := h4 z
  rw [hx] at hD
  have k0 := look_some h1 hz hD
  have HF := Lib.hid (show AtP w R n m M mb z (.returned (.pointer (some ⟨cb z, 0, none⟩))) w from ⟨R, cb, rfl, ⟨h0, D, h1.mono (by omega), h2, fun y => by
      unfold updM
      by_cases e : y = z
      · subst e; rw [if_pos rfl]; exact hD
      · rw [if_neg e]; exact h4 y, fun y x' hy => by
      unfold updM at hy
      by_cases e : y = z
      · subst e
        rw [if_pos rfl, hx] at hy
        cases hy
        exact h5 _ _ hx
      · rw [if_neg e] at hy; exact h5 _ _ hy⟩, Fr.refl _ _, fun _ _ => rfl, hbig⟩)
  clear h0 h1 h2 h4 h5 hD hx hbig ht
  go_enter Try.func21, Try.ntmps21
  go_wp2_with fail
  go_ret
  exact HF.out

theorem made_row (w : World) (n : Nat) : Row (w.alloc (.cells (madeCells #[.int .i64 0] n) 3)) w.heap.size 0 n (fun _ => 0) := by
  refine ⟨_, heapNew w _, by rw [size_madeCells]; omega, fun j hj => ?_⟩
  rw [Nat.zero_add, ← Array.getElem?_toList, toList_madeCells_one, List.getElem?_replicate, if_pos hj]
  rfl
theorem mk47 (n : Nat) (hn : n ≤ 64) (w : World) : (Instr.makeSlice 47 (.int .i64 (n : Int)) (.int .i64 (n : Int))).run Try.prog w = .ok (.slice (some ⟨w.heap.size, 0, none⟩) n n) (w.alloc (.cells (madeCells #[.int .i64 0] n) 3)) :=
  Go.run_make_row' 47 3 (.int .i64 0) 8 Try.underlying47 info3 rfl .i64 .i64 n (by omega) (by omega) w
theorem mk33 (n : Nat) (hn : n ≤ 64) (w : World) : (Instr.makeSlice 33 (.int .i64 (n : Int)) (.int .i64 (n : Int))).run Try.prog w = .ok (.slice (some ⟨w.heap.size, 0, none⟩) n n) (w.alloc (.cells (madeCells #[.int .i64 0] n) 3)) :=
  Go.run_make_row' 33 3 (.int .i64 0) 8 Try.underlying33 info3 rfl .i64 .i64 n (by omega) (by omega) w

def tv (s n k j : Nat) : Value := if j < k then sl (s + 2 + j) 0 n n else .slice none 0 0
/-- A cell being made: k of its tallies are there. -/
structure AtS (w W : World) (n k : Nat) : Prop where
  sz : W.heap.size = w.heap.size + 2 + k
  fr : Fr (fun _ => False) w W
  c : Row W w.heap.size 0 n (fun _ => 0)
  blk : W.heap[w.heap.size + 1]? = some (.cells #[sl w.heap.size 0 n n, tv w.heap.size n k 0, tv w.heap.size n k 1, tv w.heap.size n k 2, tv w.heap.size n k 3] 55 (0, 0))
  t : ∀ j, j < k → Row W (w.heap.size + 2 + j) 0 n (fun _ => 0)
theorem AtS.start (w : World) (n : Nat) : AtS w ((w.alloc (.cells (madeCells #[.int .i64 0] n) 3)).alloc (.cells #[sl w.heap.size 0 n n, .slice none 0 0, .slice none 0 0, .slice none 0 0, .slice none 0 0] 55)) n 0 := by
  refine ⟨by simp, ((Fr.refl _ _).alloc _).alloc _, (made_row w n).fr ((Fr.refl (fun _ => False) _).alloc _) (by simp), ?_, by intro j hj; omega⟩
  have := heapNew (w.alloc (.cells (madeCells #[.int .i64 0] n) 3)) (.cells #[sl w.heap.size 0 n n, .slice none 0 0, .slice none 0 0, .slice none 0 0, .slice none 0 0] 55)
  rw [World.size_alloc] at this
  exact this
theorem AtS.next {w W : World} {n k : Nat} (h : AtS w W n k) (hk : k < 4) : AtS w ((W.alloc (.cells (madeCells #[.int .i64 0] n) 3)).setCell ⟨w.heap.size + 1, 1 + k, none⟩ (sl W.heap.size 0 n n)) n (k + 1) := by
  have h1 := h.sz
  have f1 : Fr (fun j => j = w.heap.size + 1) W ((W.alloc (.cells (madeCells #[.int .i64 0] n) 3)).setCell ⟨w.heap.size + 1, 1 + k, none⟩ (sl W.heap.size 0 n n)) := ((Fr.refl (fun j => j = w.heap.size + 1) W).alloc _).setCell (p := ⟨w.heap.size + 1, 1 + k, none⟩) (.inl rfl) _
  refine ⟨by simp [World.setCell, h1]; omega, (h.fr.alloc _).setCell (.inr (by simp)) _, h.c.fr f1 (by simp), ?_, fun j hj => ?_⟩
  · have := heapSet (heapAlloc (o' := .cells (madeCells #[.int .i64 0] n) 3) h.blk) (1 + k) (sl W.heap.size 0 n n)
    rw [h1] at this ⊢
    rw [this]
    match k, hk with
    | 0, _ => rfl
    | 1, _ => rfl
    | 2, _ => rfl
    | 3, _ => rfl
  · by_cases e : j = k
    · subst e
      have := (made_row W n).fr (S := fun j => j = w.heap.size + 1) ((Fr.refl (fun j => j = w.heap.size + 1) _).setCell (p := ⟨w.heap.size + 1, 1 + j, none⟩) (.inl rfl) (sl W.heap.size 0 n n)) (by omega)
      rw [h1] at this ⊢
      exact this
    · exact (h.t j (by omega)).fr f1 (by omega)

def rN (R : Nat → Role) (s : Nat) (z : Int) : Nat → Role := fun k => if k < s then R k else if k = s then .cclk z else if k = s + 1 then .cel z else if k < s + 6 then .tal z (k - (s + 2)) else .no
theorem AtS.drew {w W : World} {n k : Nat} (h : AtS w W n k) : AtS w W.drew n k := ⟨h.sz, h.fr.drew, h.c, h.blk, h.t⟩
def cN (cb : Int → Nat) (s : Nat) (z : Int) : Int → Nat := fun y => if y = z then s + 1 else cb y
theorem cN_same (cb : Int → Nat) (s : Nat) (z : Int) : cN cb s z z = s + 1 := if_pos rfl
theorem cN_other (cb : Int → Nat) (s : Nat) {y z : Int} (h : y ≠ z) : cN cb s z y = cb y := if_neg h
theorem at_fin {w W w1 : World} {R : Nat → Role} {n m : Nat} {M : Int → Option Cel} {mb : Nat} {cb : Int → Nat} {z : Int} {D : DataW Unit} (h : IsMC w R n m M mb cb) (hx : M z = none) (hn : n ≤ 64) (hS : AtS w W n 4)
    (hi : IsMap D) (ha : ∀ z, D.atKey (.int .i64 z) nilD = match M z with | none => nilD | some _ => .lit (.int .i64 (cb z : Nat)))
    (ho : w1.ownsMap Try.prog 3 ptrE mb (m + 1) (D.put (.int .i64 z) (.lit (.int .i64 ((w.heap.size + 1 : Nat) : Int))))) (hg : W.grownBy w1 (some mb)) :
    AtP w R n m M mb z (.returned (.pointer (some ⟨w.heap.size + 1, 0, none⟩))) w1 := by
  have F1 : Fr (fun k => k = mb) W w1 := (Fr.refl _ W).grown hg (fun k e => by cases e; exact .inl rfl)
  have F0 : Fr (fun k => k = mb) w w1 := (hS.fr.mono (fun _ _ h => h.elim)).trans F1
  have hmb : mb < w.heap.size := by obtain ⟨_, _, h1, _⟩ := h; exact h1.lt
  have hs1 : w.heap.size + 6 ≤ w1.heap.size := by have := F1.size; have := hS.sz; omega
  have old : ∀ k, k < w.heap.size → rN R w.heap.size z k = R k := fun k hk => by unfold rN; rw [if_pos hk]
  obtain ⟨h0, D0, h1, h2, h4, h5⟩ := h
  refine ⟨rN R w.heap.size z, cN cb w.heap.size z, by rw [cN_same], ⟨(old _ hmb).trans h0, _, ho, hi.put _ _, fun y => ?_, fun y x hy => ?_⟩, F0, old, fun k hk => ?_⟩
  · unfold updM
    by_cases e : y = z
    · subst e
      rw [if_pos rfl, atKey_put_same hi (by trivial), cN_same]
    · rw [if_neg e, atKey_put_other (fun e1 => e (by injection e1)), ha y]
      cases M y with
      | none => rfl
      | some x => simp only [cN_other _ _ e]
  · unfold updM at hy
    by_cases e : y = z
    · subst e
      rw [if_pos rfl, hx] at hy
      cases hy
      rw [cN_same]
      have ne : ∀ k, w.heap.size ≤ k → k ≠ mb := fun k hk => by omega
      have cr : ∀ j, j < 4 → rN R w.heap.size y (w.heap.size + 2 + j) = .tal y j := fun j hj => by
        unfold rN
        rw [if_neg (by omega), if_neg (by omega), if_neg (by omega), if_pos (by omega)]
        congr 1; omega
      have tr : ∀ j, j < 4 → Row w1 (w.heap.size + 2 + j) 0 n (zCel.t j) := fun j hj => (hS.t j hj).fr F1 (ne _ (by omega))
      refine ⟨by unfold rN; rw [if_neg (by omega), if_neg (by omega), if_pos rfl], w.heap.size, 0, n, w.heap.size + 2, w.heap.size + 3, w.heap.size + 4, w.heap.size + 5, ?_, Nat.le_refl _, by unfold maxLen; omega, by unfold rN; rw [if_neg (by omega), if_pos rfl], hS.c.fr F1 (ne _ (by omega)),
        ⟨cr 0 (by omega), tr 0 (by omega)⟩, ⟨cr 1 (by omega), tr 1 (by omega)⟩, ⟨cr 2 (by omega), tr 2 (by omega)⟩, ⟨cr 3 (by omega), tr 3 (by omega)⟩⟩
      exact F1.heap hS.blk (ne _ (by omega))
    · rw [if_neg e] at hy
      rw [cN_other _ _ e]
      have hc := h5 y x hy
      have hc1 := hc.fr F0 (fun k hk => by subst hk; rw [h0]; simp)
      obtain ⟨q0, c0, co, cc, t0, t1, t2, t3, q1, q2, q3, q4, q5, ⟨a0, a1⟩, ⟨b0, b1⟩, ⟨d0, d1⟩, ⟨e0, e1⟩⟩ := hc
      obtain ⟨-, c0', co', cc', t0', t1', t2', t3', q1', q2', q3', q4', q5', ⟨a0', a1'⟩, ⟨b0', b1'⟩, ⟨d0', d1'⟩, ⟨e0', e1'⟩⟩ := hc1
      have e9 := F0.heap q1 (fun e => by have := q0; rw [e, h0] at this; cases this)
      rw [q1'] at e9
      simp [sl] at e9
      obtain ⟨⟨⟨rfl, rfl⟩, rfl⟩, rfl, rfl, rfl, rfl⟩ := e9
      exact ⟨(old _ (ltOf q1)).trans q0, _, _, _, _, _, _, _, q1', q2', q3', (old _ q5.lt).trans q4, q5', ⟨(old _ a1.lt).trans a0, a1'⟩, ⟨(old _ b1.lt).trans b0, b1'⟩, ⟨(old _ d1.lt).trans d0, d1'⟩, ⟨(old _ e1.lt).trans e0, e1'⟩⟩
  · unfold rN
    rw [if_neg (by omega), if_neg (by omega), if_neg (by omega), if_neg (by omega)]

theorem at_new (w : World) (R : Nat → Role) (b n m : Nat) (M : Int → Option Cel) (mb : Nat) (cb : Int → Nat) (vc vb vl : Value) (z : Int)
    (ht : w.heap[b]? = some (.cells #[.int .i64 (n : Int), vc, vb, .map (some mb), vl] 46 (0, 0))) (h : IsMC w R n m M mb cb) (hbig : ∀ k, w.heap.size ≤ k → R k = .no)
    (hz : -9223372036854775808 ≤ z ∧ z ≤ 9223372036854775807) (hx : M z = none) (hn : n ≤ 64) (hm : m ≤ 1000000) (hb : b ≠ mb) :
    Calls Try.prog 21 #[.pointer (some ⟨b, 0, none⟩), .int .i64 z] w (AtP w R n m M mb z) := by
  have c3 := cellOf ht 3
  have c0 := cellOf ht 0
  simp at c3 c0
  have H := Lib.hid h
  have HT := Lib.hid ht
  obtain ⟨h0, D, h1, h2, h4, h5⟩ := h
  have hD := h4 z
  rw [hx] at hD
  have k0 := look_none h1 hz hD
  have HX := Lib.hid hx
  have HG := Lib.hid hbig
  clear h0 h1 h2 h4 h5 hD hx hbig ht
  go_enter Try.func21, Try.ntmps21
  have mk1 := mk47 n hn
  go_wp2_with fail
  go_loopw [6, 21] (fun _ i wr => ∃ (k : Nat), k ≤ 4 ∧ i = .int .i64 k ∧ Hid (AtS w wr n k)) (fun _ i _ => 4 - (intOf i).toNat)
  case atStart => exact ⟨0, by omega, rfl, Lib.hid (AtS.start w n)⟩
  case round =>
    obtain ⟨k, hk, rfl, hW⟩ := hrel
    have y0 := hW.out.fr.cell (p := ⟨b, 0, none⟩) (ltOf HT.out) (by simp)
    rw [c0] at y0
    have y3 := hW.out.fr.cell (p := ⟨b, 3, none⟩) (ltOf HT.out) (by simp)
    rw [c3] at y3
    have mk2 := mk33 n hn
    have hsz := Lib.hid hW.out.sz
    by_cases hlt : k < 4
    · have HN := Lib.hid (hW.out.next hlt)
      have hbk := heapAlloc (o' := .cells (madeCells #[.int .i64 0] n) 3) hW.out.blk
      have z0 := cellOf hbk (1 + k)
      have z1 := frozenOf hbk (1 + k)
      obtain ⟨v, hv⟩ : ∃ v, (#[sl w.heap.size 0 n n, tv w.heap.size n k 0, tv w.heap.size n k 1, tv w.heap.size n k 2, tv w.heap.size n k 3] : Array Value)[1 + k]? = some v := ⟨_, Array.getElem?_eq_getElem (by simp; omega)⟩
      rw [hv] at z0
      clear hv hbk
      go_wp2_with fail
      go_region
      go_wp2_with fail
      go_roundw
      case rel => exact ⟨k + 1, by omega, by first | rfl | go_num, Lib.hid (AtS.drew HN.out)⟩
      case measure => simp [intOf]; omega
    · obtain rfl : k = 4 := by omega
      have MS := Lib.hid (hW.out)
      have HM := Lib.hid (H.out.fr hW.out.fr (by simp))
      obtain ⟨_, D, ho, hi, ha, hc⟩ := HM.out
      have KY := key_int hz
      go_wp2_with (at_mapUpdate; refine wpList_mapUpdate_own _ rfl _ _ _ 42 rfl 3 49 law3 Try.underlying42 _ mb _ D rfl ho (by unfold maxLen; omega) _ _ _ rfl rfl KY (.lit (.int .i64 ((w.heap.size + 1 : Nat) : Int))) [] rfl ?_; intro w1 ho1 hg1; have FF := at_fin H.out HX.out hn MS.out hi ha ho1 hg1; have hb3 := (((Fr.refl (fun k => k = mb) _).grown hg1 (fun k e => by cases e; exact .inl rfl)).cell (p := ⟨b, 3, none⟩) (World.block_lt_of_cell? _ _ y3) hb).trans y3; have k1 := look_some ho1 hz (atKey_put_same hi (by trivial) _ _); have FH := Lib.hid FF; clear FF ho1 hg1)
      go_ret
      exact FH.out
end Go.Proofs.Ytmfkomdfknflgaa
