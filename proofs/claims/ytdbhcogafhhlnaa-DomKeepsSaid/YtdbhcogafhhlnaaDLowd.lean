/- dom's lowered: a node in memory of its own, its names lowered. -/
import Derived.Test.YtdbhcogafhhlnaaDCop
namespace Go.Proofs.Ytdbhcogafhhlnaa
open Go.RowKit Go.Maps Go.ChangeShapes Go.WideShapes Go.ChangeAt Go.WideMaps Go.WideElems

theorem OwnsWin.stored {w : World} {base : Nat} {e : TypeId} {size n g off cap : Nat} {xs : List Value} (h : OwnsWin w base e size (.slice (some ⟨g, off, none⟩) n cap) n xs) (j : Nat) (u : Value) :
    OwnsWin (w.setCell ⟨g, off + j, none⟩ u) base e size (.slice (some ⟨g, off, none⟩) n cap) n (xs.set j u) := by
  refine ⟨by rw [List.length_set]; exact h.1, ?_⟩
  rcases h.2 with ⟨hv, _⟩ | ⟨g', off', cap', cur, hv, hb, hg, h1, h2, h3, h4⟩
  · cases hv
  · cases hv
    refine .inr ⟨g, off, cap, _, rfl, hb, heapSet hg (off + j) u, h1, h2, by simpa using h3, fun i v hi => ?_⟩
    rw [Array.getElem?_setIfInBounds]
    by_cases e2 : j = i
    · subst e2
      have hj : j < xs.length := by
        have := (List.getElem?_eq_some_iff.1 hi).1
        simpa using this
      rw [List.getElem?_set] at hi
      simp [hj] at hi
      have hlt : off + j < cur.size := by
        have := h4 j xs[j] (List.getElem?_eq_getElem hj)
        exact (Array.getElem?_eq_some_iff.1 this).1
      simp [hlt, hi]
    · rw [List.getElem?_set, if_neg e2] at hi
      rw [if_neg (by omega)]
      exact h4 i v hi

theorem LD.all {w wr : World} {nb : Nat} {par : Int} {tag id : ByteArray} {vC vA : Value} (h : LD w wr nb par tag id vC vA) (vC' vA' : Value) :
    LD w (((((wr.setCell ⟨nb, 0, none⟩ (.int .i64 par)).setCell ⟨nb, 1, none⟩ (.string tag)).setCell ⟨nb, 2, none⟩ (.string id)).setCell ⟨nb, 3, none⟩ vC').setCell ⟨nb, 4, none⟩ vA') nb par tag id vC' vA' ∧
    Fr (fun j => j = nb) wr (((((wr.setCell ⟨nb, 0, none⟩ (.int .i64 par)).setCell ⟨nb, 1, none⟩ (.string tag)).setCell ⟨nb, 2, none⟩ (.string id)).setCell ⟨nb, 3, none⟩ vC').setCell ⟨nb, 4, none⟩ vA') := by
  have f : Fr (fun j => j = nb) wr (((((wr.setCell ⟨nb, 0, none⟩ (.int .i64 par)).setCell ⟨nb, 1, none⟩ (.string tag)).setCell ⟨nb, 2, none⟩ (.string id)).setCell ⟨nb, 3, none⟩ vC').setCell ⟨nb, 4, none⟩ vA') :=
    (((((Fr.refl (fun j => j = nb) wr).setCell (p := ⟨nb, 0, none⟩) (.inl rfl) _).setCell (p := ⟨nb, 1, none⟩) (.inl rfl) _).setCell (p := ⟨nb, 2, none⟩) (.inl rfl) _).setCell (p := ⟨nb, 3, none⟩) (.inl rfl) _).setCell (p := ⟨nb, 4, none⟩) (.inl rfl) _
  refine ⟨⟨?_, f.heap h.res (by omega), h.fr.step f (fun j e => .inr (by have := h.hn; omega)), h.hn⟩, f⟩
  simpa using heapSet (heapSet (heapSet (heapSet (heapSet h.node 0 (.int .i64 par)) 1 (.string tag)) 2 (.string id)) 3 vC') 4 vA'
theorem OwnsWin.frB {w w' : World} {base e size n b : Nat} {v : Value} {xs : List Value} {c : Array Value} {t : TypeId} {fz : Nat × Nat} (h : OwnsWin w base e size v n xs) (f : Fr (fun j => j = b) w w') (hb : w.heap[b]? = some (.cells c t fz)) (ht : t ≠ e) : OwnsWin w' base e size v n xs := by
  have n1 := h.ne hb (by intro c' e'; cases e'; exact ht rfl)
  exact h.fr f (fun j hj e => n1 (by subst e; exact hj.symm))

/-- The first k lowered. -/
def mixA (l : List (ByteArray × ByteArray)) (k : Nat) : List (ByteArray × ByteArray) := (lowA l).take k ++ l.drop k
theorem mixA_zero (l : List (ByteArray × ByteArray)) : mixA l 0 = l := by simp [mixA]
theorem mixA_all (l : List (ByteArray × ByteArray)) : mixA l l.length = lowA l := by
  unfold mixA
  rw [List.drop_length, List.append_nil, List.take_of_length_le (by rw [lowA_len]; exact Nat.le_refl _)]
theorem mixA_len (l : List (ByteArray × ByteArray)) (k : Nat) : (mixA l k).length = l.length := by unfold mixA; simp [lowA_len]; omega
theorem mixA_at (l : List (ByteArray × ByteArray)) (k : Nat) (hk : k < l.length) : (mixA l k)[k]? = l[k]? := by
  unfold mixA
  have h1 : ((lowA l).take k).length = k := by rw [List.length_take, lowA_len]; omega
  rw [List.getElem?_append_right (by omega), h1, Nat.sub_self, List.getElem?_drop, Nat.add_zero]
theorem mixA_succ (l : List (ByteArray × ByteArray)) (k : Nat) (a t : ByteArray) (h : l[k]? = some (a, t)) : mixA l (k + 1) = (mixA l k).set k (lowS a, t) := by
  have hk : k < l.length := (List.getElem?_eq_some_iff.1 h).1
  have h1 : ((lowA l).take k).length = k := by rw [List.length_take, lowA_len]; omega
  unfold mixA
  rw [List.set_append_right _ _ (by omega), h1, Nat.sub_self, List.take_add_one, List.append_assoc]
  congr 1
  rw [show (lowA l)[k]? = some (lowS a, t) by unfold lowA; rw [List.getElem?_map, h]; rfl]
  rw [List.drop_eq_getElem_cons hk]
  rfl
theorem attL_at (l : List (ByteArray × ByteArray)) (k : Nat) (a t : ByteArray) (h : l[k]? = some (a, t)) : (attL l)[k * 2]? = some (.string a) ∧ (attL l)[k * 2 + 1]? = some (.string t) := by
  induction l generalizing k with
  | nil => simp at h
  | cons p r ih =>
    cases k with
    | zero => simp at h; subst h; exact ⟨rfl, rfl⟩
    | succ k =>
      obtain ⟨x, y⟩ := ih k (by simpa using h)
      simp only [attL, List.flatMap_cons, List.cons_append, List.nil_append] at *
      rw [show (k + 1) * 2 = k * 2 + 1 + 1 by omega]
      exact ⟨by simpa using x, by simpa using y⟩
theorem attL_set (l : List (ByteArray × ByteArray)) (k : Nat) (a b t : ByteArray) (h : l[k]? = some (a, t)) : attL (l.set k (b, t)) = (attL l).set (k * 2) (.string b) := by
  induction l generalizing k with
  | nil => simp at h
  | cons p r ih =>
    cases k with
    | zero => simp at h; subst h; rfl
    | succ k =>
      have := ih k (by simpa using h)
      simp only [attL, List.flatMap_cons, List.cons_append, List.nil_append, List.set_cons_succ] at *
      rw [show (k + 1) * 2 = k * 2 + 1 + 1 by omega, List.set_cons_succ, List.set_cons_succ, this]

set_option maxHeartbeats 4000000 in
set_option maxRecDepth 100000 in
theorem lowered_any (par : Int) (tag id : ByteArray) (cls : List ByteArray) (att : List (ByteArray × ByteArray)) (sp : Option Addr) (c : Nat) (qA : Option Addr) (oA : Nat) (w : World)
    (hc : Src w 1 sp cls.length (cls.map Value.string)) (hA : Src w 2 qA att.length (attL att)) (hn : cls.length * 16 ≤ 140737488351232) (hm : att.length * 32 ≤ 140737488351232) (ht : tag.size ≤ maxLen) (ha : ∀ p ∈ att, p.1.size ≤ maxLen) :
    Calls Try.prog 41 #[.agg #[.int .i64 par, .string tag, .string id, .slice sp cls.length c, .slice qA att.length oA]] w fun e w' =>
      (∃ sp1 c1 sp2 c2, e = .returned (.agg #[.int .i64 par, .string (lowS tag), .string id, .slice sp1 cls.length c1, .slice sp2 att.length c2]) ∧
        OwnsWin w' w.heap.size 9 1 (.slice sp1 cls.length c1) cls.length (cls.map Value.string) ∧ OwnsWin w' w.heap.size 38 2 (.slice sp2 att.length c2) att.length (attL (lowA att))) ∧ Fr (fun _ => False) w w' := by
  have L0 := Lib.hid (LD.new w par tag id (.slice sp cls.length c) (.slice qA att.length oA))
  have PC := Lib.hid (copied_any par tag id cls att sp c qA oA _ (hc.fr L0.out.fr) (hA.fr L0.out.fr) hn hm)
  have P1 := Lib.hid (fun W => Lower_any tag W ht)
  have HA := Lib.hid ha
  clear hc hA ha
  generalize hlow : lowS tag = ltag at *
  have HLOW := Lib.hid hlow
  clear hlow
  go_enter Try.func41, Try.ntmps41
  go_wp2_with fail
  refine PC.out.mono ?_
  rintro e w2 ⟨⟨sp1, c1, sp2, c2, rfl, o1, o2⟩, f2⟩
  have hs0 : w.heap.size ≤ ((w.alloc (.cells #[.int .i64 par, .string tag, .string id, .slice sp cls.length c, .slice qA att.length oA] 25)).alloc ZN).heap.size := by simp; omega
  have L2 := Lib.hid (L0.out.fr' f2)
  have O1 := Lib.hid (o1.lower hs0)
  have O2 := Lib.hid (o2.lower hs0)
  have hcn := L2.out.node
  have b0 := cellOf hcn 0
  have b1 := cellOf hcn 1
  have b2 := cellOf hcn 2
  have b3 := cellOf hcn 3
  have b4 := cellOf hcn 4
  have z0 := frozenOf hcn 0
  have z1 := frozenOf hcn 1
  have z2 := frozenOf hcn 2
  have z3 := frozenOf hcn 3
  have z4 := frozenOf hcn 4
  simp at b0 b1 b2 b3 b4
  clear hcn o1 o2 f2 PC L0 hs0
  have LA := L2.out.all (.slice sp1 cls.length c1) (.slice sp2 att.length c2)
  have O1a := Lib.hid (O1.out.frB LA.2 L2.out.node (by decide))
  have O2a := Lib.hid (O2.out.frB LA.2 L2.out.node (by decide))
  have L3 := Lib.hid LA.1
  clear LA O1 O2
  go_wp2_with fail
  refine (P1.out _).mono ?_
  rintro e w4 ⟨rfl, f4⟩
  have L4 := Lib.hid (L3.out.fr' f4)
  have O1b := Lib.hid (O1a.out.fr f4 (by simp))
  have O2b := Lib.hid (O2a.out.fr f4 (by simp))
  clear f4 P1 L3 O1a O2a b0 b1 b2 b3 b4 z0 z1 z2 z3 z4 L2
  have hcn := L4.out.node
  have b1 := cellOf hcn 1
  have z1 := frozenOf hcn 1
  simp at b1
  have L5 := Lib.hid (L4.out.setTag ltag)
  have fs : Fr (fun j => j = w.heap.size) w4 (w4.setCell ⟨w.heap.size, 1, none⟩ (.string ltag)) := (Fr.refl (fun j => j = w.heap.size) w4).setCell (p := ⟨w.heap.size, 1, none⟩) (.inl rfl) _
  have O1c := Lib.hid (O1b.out.frB fs hcn (by decide))
  have O2c := Lib.hid (O2b.out.frB fs hcn (by decide))
  have c4 := cellOf L5.out.node 4
  simp at c4
  clear hcn fs O1b O2b L4
  have hcl := (O2c.out.capLe rfl)
  obtain ⟨hc1, hc2⟩ := hcl
  unfold maxLen at hc2
  go_wp2_with fail
  generalize w4.setCell ⟨w.heap.size, 1, none⟩ (.string ltag) = w5 at *
  go_loopw [13] (fun i wr => ∃ (k : Nat), k ≤ att.length ∧ i = .int .i64 k ∧ Hid (LD w wr w.heap.size par ltag id (.slice sp1 cls.length c1) (.slice sp2 att.length c2)) ∧
    Hid (OwnsWin wr w.heap.size 9 1 (.slice sp1 cls.length c1) cls.length (cls.map Value.string)) ∧ Hid (OwnsWin wr w.heap.size 38 2 (.slice sp2 att.length c2) att.length (attL (mixA att k)))) (fun i _ => att.length - (intOf i).toNat)
  case atStart => exact ⟨0, by omega, rfl, L5.out, O1c.out, by rw [mixA_zero]; exact O2c.out⟩
  case round =>
    obtain ⟨k, hk, rfl, hL, hC, hO⟩ := hrel
    clear L5 O1c O2c c4 b1 z1
    have c4 := cellOf hL.out.node 4
    simp at c4
    by_cases hlt : k < att.length
    · obtain ⟨⟨a, tx⟩, hx⟩ : ∃ p, att[k]? = some p := ⟨att[k], by simp [hlt]⟩
      have hmx : (mixA att k)[k]? = some (a, tx) := by rw [mixA_at att k hlt]; exact hx
      obtain ⟨g, off, cap, hv, _, _, hg, hgb, hcell, hfz⟩ := hO.out.cells (by omega)
      cases hv
      have x0 := hcell _ _ (attL_at _ k a tx hmx).1
      have has := HA.out _ (List.mem_of_getElem? hx)
      have PL := Lib.hid (fun W => Lower_any a W has)
      have HT := Lib.hid (show attL (mixA att (k + 1)) = (attL (mixA att k)).set (k * 2) (.string (lowS a)) by rw [mixA_succ att k a tx hx, attL_set _ k a _ tx hmx])
      generalize lowS a = la at *
      have n1 := hO.out.ne hL.out.node (by intro c; simp)
      have n2 := hO.out.ne (show wr.heap[w.heap.size + 1]? = some (.cells #[.int .i64 0, .string ⟨#[]⟩, .string ⟨#[]⟩, .slice none 0 0, .slice none 0 0] 25 (0, 0)) from hL.out.res) (by intro c; simp)
      simp only [Value.ownBlock, ne_eq, Option.some.injEq] at n1 n2
      have i1 : (k : Int) < (att.length : Int) := by omega
      have N1 := Lib.hid n1
      have N2 := Lib.hid n2
      have HG := Lib.hid hg
      have HGB := Lib.hid hgb
      have HFZ := Lib.hid hfz
      clear hcell hx hmx has n1 n2 hgb hfz
      go_wp2_with fail
      go_region_law (first
        | (go_simp; go_at_call 46; refine Calls.mono (PL.out _) ?_; rintro e w6 ⟨rfl, f6⟩; have F6 := Lib.hid ((Fr.refl (fun _ => False) wr).drew.trans f6); have d4 := cellOf (F6.out.heap hL.out.node (by simp)) 4; have y0 := (F6.out.cell (p := ⟨g, off + k * 2, none⟩) hg (by simp)).trans x0; have y1 := (F6.out.frozen (p := ⟨g, off + k * 2, none⟩) hg (by simp)).trans (HFZ.out _); simp at d4; clear f6))
      all_goals
        go_wp2_with fail
        go_roundw
        case rel =>
          have hs : Fr (fun j => j = g) w6 (w6.setCell ⟨g, off + k * 2, none⟩ (.string la)) := (Fr.refl (fun j => j = g) w6).setCell (p := ⟨g, off + k * 2, none⟩) (.inl rfl) _
          have O6 := hO.out.fr F6.out (by simp)
          have C6 := hC.out.fr F6.out (by simp)
          have hgn : ∀ j, (Value.slice sp1 cls.length c1).ownBlock = some j → ¬ j = g := by
            intro j hj e
            subst e
            rcases O6.2 with ⟨h, _⟩ | ⟨g', off', cap', cur', h, _, hg', _⟩
            · cases h
            · cases h
              exact C6.ne hg' (by intro c; simp) hj.symm
          refine ⟨k + 1, by omega, by go_num, ⟨(hs.heap (F6.out.heap hL.out.node (by simp)) (fun e => N1.out e)), (hs.heap (F6.out.heap hL.out.res (by simp)) (fun e => N2.out e)), (hL.out.fr.trans F6.out).setCell (p := ⟨g, off + k * 2, none⟩) (.inr HGB.out) _, hL.out.hn⟩, C6.fr hs hgn, ?_⟩
          rw [HT.out]
          exact O6.stored (k * 2) _
        case measure => simp [intOf]; omega
    · have hke : k = att.length := by omega
      subst hke
      have i1 : ¬ (att.length : Int) < (att.length : Int) := by omega
      have ln := hL.out.hn
      have hcn := hL.out.node
      have hcr := hL.out.res
      unfold ZN at hcr
      have b0 := cellOf hcn 0
      have b1 := cellOf hcn 1
      have b2 := cellOf hcn 2
      have b3 := cellOf hcn 3
      have b4 := cellOf hcn 4
      have r0 := cellOf hcr 0
      have r1 := cellOf hcr 1
      have r2 := cellOf hcr 2
      have r3 := cellOf hcr 3
      have r4 := cellOf hcr 4
      have y0 := frozenOf hcr 0
      have y1 := frozenOf hcr 1
      have y2 := frozenOf hcr 2
      have y3 := frozenOf hcr 3
      have y4 := frozenOf hcr 4
      simp at b0 b1 b2 b3 b4 r0 r1 r2 r3 r4
      have m1n := hC.out.ne hcr (by intro c; simp)
      have m2n := hO.out.ne hcr (by intro c; simp)
      clear hcn hcr c4
      go_wp2_with fail
      have M := hL.out.fin
      clear b0 b1 b2 b3 b4 r0 r1 r2 r3 r4 y0 y1 y2 y3 y4
      generalize ((((wr.setCell ⟨w.heap.size + 1, 0, none⟩ (.int .i64 par)).setCell ⟨w.heap.size + 1, 1, none⟩ (.string ltag)).setCell ⟨w.heap.size + 1, 2, none⟩ (.string id)).setCell ⟨w.heap.size + 1, 3, none⟩ (.slice sp1 cls.length c1)).setCell ⟨w.heap.size + 1, 4, none⟩ (.slice sp2 att.length c2) = wz at *
      obtain ⟨m1, m2⟩ := M
      have d0 := cellOf m1 0
      have d1 := cellOf m1 1
      have d2 := cellOf m1 2
      have d3 := cellOf m1 3
      have d4 := cellOf m1 4
      simp at d0 d1 d2 d3 d4
      show bodyPost Try.prog Try.f41 _ Exit.ret _ _
      refine bodyPost_ret (v := .agg #[.int .i64 par, .string ltag, .string id, .slice sp1 cls.length c1, .slice sp2 att.length c2]) (by simp [results, Try.results41, go_sem, d0, d1, d2, d3, d4]) rfl ?_
      have k2 := hO.out.fr m2 (fun j hj e => m2n (by subst e; exact hj.symm))
      rw [mixA_all] at k2
      exact ⟨⟨sp1, c1, sp2, c2, rfl, hC.out.fr m2 (fun j hj e => m1n (by subst e; exact hj.symm)), k2⟩, hL.out.fr.step m2 (fun j e => .inr (by omega))⟩
end Go.Proofs.Ytdbhcogafhhlnaa
