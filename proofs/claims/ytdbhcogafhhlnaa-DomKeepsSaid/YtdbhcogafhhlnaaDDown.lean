/- The iterator over an element and all below it: its contract. -/
import Derived.Test.YtdbhcogafhhlnaaRF
import Derived.Test.YtdbhcogafhhlnaaDRev
import Derived.Test.YtdbhcogafhhlnaaWinIn
import Derived.RangeFuncBox
import Derived.RangeFuncLeaves
import Derived.RangeFuncBound
import Derived.Shelf.Abstract
import Derived.OwnWalkIn
import Derived.TacticsInMore
import Derived.LoopNIn
import Derived.LoopIn
import Derived.Maps.AppendAt
import Derived.Shelf.RegionOpen
import Derived.Sort.LoopGhostIn
namespace Go.Proofs.Ytdbhcogafhhlnaa
open Go.RowKit Go.Shelf
open R (NewN iR Sep)

attribute [local go_sem] Oper.semAt_some

/-- An element's children, new. -/
theorem kidsD (w wr : World) (tb : Nat) (els : List ElD) (ds : List NodeD) (h : TS w wr tb els) (hv : VE ds ds.length els) (hb : ds.length ≤ 100000) (k : Nat) (hk : k < ds.length) :
    Calls Try.prog 14 #[.pointer (some ⟨tb, 0, none⟩), .int .i64 (k : Int)] wr (NewN wr (kidA ds k)) := by
  have hkl : k < els.length := by rw [hv.len]; exact hk
  have hx := List.getElem?_eq_getElem hkl
  have hke := eltAt_in hx
  obtain ⟨-, e2, -, -⟩ := hv.at_ k _ hx
  have hl := kidL_len ds (k : Int) ds.length
  have C := Children_any w wr tb els h (k : Int) (by rw [hke, e2]; omega)
  rw [hke, e2, R.kidL_lenA, R.iR_kids] at C
  exact C.mono fun _ _ ⟨⟨sp, c, he, ho⟩, f⟩ => ⟨sp, c, he, ho, f⟩

/-- Reverse, of whatever was made. -/
theorem RevN (wt : World) (B : Nat) (sp : Option Addr) (cap : Nat) (l : List Nat) (h : OwnsWin wt B 3 1 (.slice sp l.length cap) l.length (iR l)) (hb : l.length ≤ 100000) :
    Calls Try.prog 45 #[.slice sp l.length cap] wt fun e w' => e = .returned (.tuple #[]) ∧ OwnsWin w' B 3 1 (.slice sp l.length cap) l.length (iR l.reverse) ∧ Fr (fun k => (Value.slice sp l.length cap).ownBlock = some k) wt w' := by
  rcases Nat.eq_zero_or_pos l.length with h0 | h0
  · obtain rfl := List.eq_nil_of_length_eq_zero h0
    have H := Lib.hid h
    clear h
    go_enter Try.func45, Try.ntmps45
    go_wp2
    refine wp_loop_rounds 1 ?_
    rw [rounds_succ]
    go_wp2
    go_end0
    exact ⟨rfl, H.out, Fr.refl _ _⟩
  · obtain ⟨g, off, cap', hv, -⟩ := h.cells h0
    cases hv
    have := Reverse_any wt B g off cap (l.map fun (j : Nat) => (j : Int)) (by rw [List.length_map, List.map_map]; exact h) (by simpa using hb)
    rw [List.length_map, ← List.map_reverse, List.map_map] at this
    refine this.mono fun e w' ⟨he, ho, f⟩ => ⟨he, ho, f.mono fun k _ hk => by subst hk; rfl⟩

/-- Between two rounds: the tree stands; the box; what is to do, in a row of one's own, none of it the caller's. -/
structure DW (Wk : World) (B0 bt tb : Nat) (S : Nat → Prop) (wr : World) (st : Option Addr) (ct : Nat) (s : List Nat) : Prop where
  fr : Fr (fun _ => False) Wk wr
  box : wr.heap[bt]? = some (.cells #[.pointer (some ⟨tb, 0, none⟩)] 28 (0, 0))
  hb : bt < B0
  hS : ∀ k, S k → Wk.heap.size ≤ k ∧ k ≠ bt
  way : OwnsWin wr B0 3 1 (.slice st s.length ct) s.length (iR s)
  sep : ∀ k, (Value.slice st s.length ct).ownBlock = some k → ¬ S k
  big : B0 ≤ wr.heap.size
theorem DW.yielded {Wk : World} {B0 bt tb : Nat} {S S' : Nat → Prop} {wr w' : World} {st : Option Addr} {ct : Nat} {s : List Nat} (h : DW Wk B0 bt tb S wr st ct s) (f : Fr S wr w') (hS' : ∀ k, S' k → S k ∨ wr.heap.size ≤ k) : DW Wk B0 bt tb S' w' st ct s := by
  have hbl := ltOf h.box
  refine ⟨h.fr.step f (fun i e => .inr (h.hS i e).1), f.heap h.box (fun e => (h.hS bt e).2 rfl), h.hb, fun k hk => ?_, h.way.fr f (fun k a => h.sep k a), fun k a e => ?_, Nat.le_trans h.big f.size⟩
  · rcases hS' k hk with e | e
    · exact h.hS k e
    · exact ⟨by have := h.fr.size; omega, by omega⟩
  · rcases hS' k e with e | e
    · exact h.sep k a e
    · have := (h.way.lt k a).2; omega
theorem DW.fr0 {Wk : World} {B0 bt tb : Nat} {S : Nat → Prop} {wr w' : World} {st : Option Addr} {ct : Nat} {s : List Nat} (h : DW Wk B0 bt tb S wr st ct s) (f : Fr (fun _ => False) wr w') : DW Wk B0 bt tb S w' st ct s :=
  ⟨h.fr.trans f, f.heap h.box (by simp), h.hb, h.hS, h.way.fr f (by simp), h.sep, Nat.le_trans h.big f.size⟩
theorem DW.cut {Wk : World} {B0 bt tb e : Nat} {S : Nat → Prop} {wr : World} {st : Option Addr} {ct : Nat} {s : List Nat} (h : DW Wk B0 bt tb S wr st ct (s ++ [e])) : DW Wk B0 bt tb S wr st ct s := by
  refine ⟨h.fr, h.box, h.hb, h.hS, ?_, fun k a => h.sep k (by cases st with | none => simp [Value.ownBlock] at a | some ad => exact a), h.big⟩
  have := h.way
  rw [List.length_append] at this
  have := this.take s.length (by simp)
  have e1 : (iR (s ++ [e])).take (s.length * 1) = iR s := by unfold iR; simp
  rw [e1] at this
  exact this
theorem DW.last {Wk : World} {B0 bt tb e : Nat} {S : Nat → Prop} {wr : World} {st : Option Addr} {ct : Nat} {s : List Nat} (h : DW Wk B0 bt tb S wr st ct (s ++ [e])) : ∃ g off, st = some ⟨g, off, none⟩ ∧ (s ++ [e]).length ≤ ct ∧ ct ≤ maxLen ∧ wr.cell? ⟨g, off + s.length, none⟩ = some (.int .i64 (e : Int)) := by
  obtain ⟨g, off, cap, hv, h1, h2, hg, _, hcell, _⟩ := h.way.cells (by simp)
  cases hv
  exact ⟨g, off, rfl, h1, h2, hcell s.length _ (by simp [iR])⟩
/-- The children are laid upon the rest. -/
theorem DW.add {Wk : World} {B0 bt tb : Nat} {S : Nat → Prop} {wr w' : World} {st st' : Option Addr} {ct ct' : Nat} {s r : List Nat} (h : DW Wk B0 bt tb S wr st ct s) (hSl : ∀ k, S k → k < wr.heap.size) (hg : wr.grownBy w' (Value.slice st s.length ct).ownBlock)
    (o' : OwnsWin w' B0 3 1 (.slice st' (s.length + r.length) ct') (s.length + r.length) (iR s ++ iR r)) (h3 : ∀ k, (Value.slice st' (s.length + r.length) ct').ownBlock = some k → (Value.slice st s.length ct).ownBlock = some k ∨ wr.heap.size ≤ k) (hW : Wk.heap.size ≤ B0) :
    DW Wk B0 bt tb S w' st' ct' (s ++ r) := by
  have f : Fr (fun k => (Value.slice st s.length ct).ownBlock = some k) wr w' := (Fr.refl _ wr).grown hg (fun k hk => .inl hk)
  refine ⟨h.fr.step f (fun i e => .inr (by have := (h.way.lt i e).1; omega)), f.heap h.box (fun e => by have := (h.way.lt bt e).1; have := h.hb; omega), h.hb, h.hS, ?_, ?_, Nat.le_trans h.big f.size⟩
  · rw [List.length_append, show iR (s ++ r) = iR s ++ iR r by simp [iR]]
    exact o'
  · rw [List.length_append]
    intro k a e
    rcases h3 k a with b | b
    · exact h.sep k b e
    · have := hSl k e; omega

theorem DW.start {Wk W : World} {bt tb : Nat} {S : Nat → Prop} (hf : Fr (fun _ => False) Wk W) (hb : W.heap[bt]? = some (.cells #[.pointer (some ⟨tb, 0, none⟩)] 28 (0, 0))) (hS : ∀ k, S k → Wk.heap.size ≤ k ∧ k ≠ bt) (hSl : ∀ k, S k → k < W.heap.size) :
    DW Wk W.heap.size bt tb S (W.alloc (.cells #[.int .i64 0] 3)) (some ⟨W.heap.size, 0, none⟩) 1 [0] := by
  refine ⟨hf.alloc _, heapAlloc hb, ltOf hb, hS, ⟨rfl, .inr ⟨_, 0, 1, _, rfl, Nat.le_refl _, heapNew W _, Nat.le_refl _, by unfold maxLen; omega, by simp, fun j u hj => ?_⟩⟩, fun k a e => ?_, by simp⟩
  · cases j with
    | zero => simpa [iR] using hj
    | succ j => simp [iR] at hj
  · have := hSl k e
    simp [Value.ownBlock] at a
    omega

def IsAll (ds : List NodeD) (xs : List Nat) : Prop := xs = allN ds
def PreD (Wk : World) (bt bf tb : Nat) (W : World) (S : Nat → Prop) : Prop :=
  Fr (fun _ => False) Wk W ∧ W.heap[bt]? = some (.cells #[.pointer (some ⟨tb, 0, none⟩)] 28 (0, 0)) ∧ W.heap[bf]? = some (.cells #[.int .i64 0] 3 (0, 0)) ∧ ∀ k, S k → Wk.heap.size ≤ k ∧ k ≠ bt

set_option maxRecDepth 100000 in
set_option maxHeartbeats 4000000 in
theorem down_stops (w Wk : World) (tb bt bf : Nat) (els : List ElD) (ds : List NodeD) (hT : TS w Wk tb els) (hv : VE ds ds.length els) (hb : ds.length ≤ 100000) (h0 : 0 < ds.length) (n : Nat) (hn : 2 ≤ n) :
    SeqF Fence.wide n Try.prog 44 #[.pointer (some ⟨bf, 0, none⟩), .pointer (some ⟨bt, 0, none⟩)] (fun x : Nat => #[Value.int .i64 (x : Int)]) (fun _ => False) (PreD Wk bt bf tb) (IsAll ds) (fun _ => True) ds.length := by
  have hn1 : 1 ≤ n := by omega
  have hn2 : 1 ≤ n - 1 := by omega
  rintro l J Jx W S0 ⟨p1, p2, p3, p4⟩ hJ hJx hlt hY h00
  obtain ⟨i27, hb0, hb1, hb2, hb3⟩ := info_parts R.info3
  have HT := Lib.hid hT
  have HV := Lib.hid hv
  have HG := Lib.hid hv.good
  have HWk := p1.size
  have HD := Lib.hid (DW.start p1 p2 p4 (hlt _ _ _ h00))
  have HJ0 := Lib.hid (hJ [] S0 W (W.alloc (.cells #[.int .i64 0] 3)) h00 (((Fr.refl (fun _ => False) W).alloc _).mono (fun _ _ h => h.elim)))
  have HJ := Lib.hid hJ
  have HJX := Lib.hid hJx
  have HL := Lib.hid hlt
  have HY := Lib.hid hY
  have c3 := cellOf p3 0
  simp at c3
  clear hT hv p1 p2 p3 p4 hJ hJx hlt hY h00
  refine callsIn_of_wp Try.func44 rfl trivial ?_ rfl
  simp only [Try.ntmps44, List.size_toArray, List.length_cons, List.length_nil, Nat.reduceAdd, Nat.reduceSub, Array.replicate_succ, Array.replicate_zero, List.push_toArray, List.append_toArray, List.nil_append, List.cons_append]
  gi_wp2
  clear c3
  gi_loopg [4] (ds.length) (fun g vt wr => ∃ (o s : List Nat) (st : Option Addr) (ct : Nat) (S : Nat → Prop), g + o.length = ds.length ∧ vt = .slice st s.length ct ∧ Hid (allSt ds o.length = (o, s)) ∧ Hid (J o S wr) ∧ Hid (DW Wk W.heap.size bt tb S wr st ct s))
  case atStart => exact ⟨[], [0], _, 1, S0, rfl, rfl, rfl, HJ0.out, HD.out⟩
  case round =>
    obtain ⟨o, s, st, ct, S, hgk, rfl, hst, hJ1, hD⟩ := hrel
    clear HD HJ0
    have hI := allI HG.out h0 o.length
    rw [hst.out] at hI
    have hlen := hI.len
    have HI := Lib.hid hI
    clear hI
    rcases List.eq_nil_or_concat s with rfl | ⟨s, e, rfl⟩
    · have HE := Lib.hid (show o = allN ds by have := all_end HG.out h0 (k := o.length) (by rw [hst.out]) (by rw [hst.out]); rw [hst.out] at this; exact this)
      gi_wp2
      go_end0
      exact ⟨⟨_, rfl⟩, .inl ⟨o, HE.out, S, hJ1.out⟩⟩
    · rw [List.concat_eq_append] at hst hD HI hlen ⊢
      obtain ⟨g, off, rfl, hc1, hc2, y0⟩ := hD.out.last
      have hel : e < ds.length := HI.out.lt e (by simp)
      have HS := Lib.hid (show allSt ds (o.length + 1) = (o ++ [e], s ++ (kidA ds e).reverse) by rw [allSt_some (by rw [hst.out]), hst.out])
      have HI2 := Lib.hid (show (o ++ [e]).length + (s ++ (kidA ds e).reverse).length ≤ ds.length by have := (allI HG.out h0 (o.length + 1)).len; rw [HS.out] at this; exact this)
      have HD1 := Lib.hid hD.out.cut
      rw [List.length_append] at hc1 hlen
      unfold maxLen at hc2
      have hl1 : o.length + (s.length + 1) ≤ ds.length := hlen
      have hc3 : s.length + 1 ≤ ct := hc1
      have hs0 : (0 : Int) < (s.length : Int) + 1 := by omega
      have hs1 : (s.length : Int) < (s.length : Int) + 1 := by omega
      have hs2 : (s.length : Int) + 1 - 1 = (s.length : Int) := by omega
      obtain ⟨fn, tmps, assign, body, hy, hR9⟩ := HY.out o e S wr hJ1.out (by omega)
      have HR9 := Lib.hid hR9
      clear hc1 hlen hst hD hR9
      gi_wp2
      refine HR9.out.mono ?_
      rintro e' W3 (⟨rfl, S', hJ3, f3, hS3⟩ | ⟨rfl, S', hJx3⟩)
      · have HJ3 := Lib.hid hJ3
        have HD3 := Lib.hid (HD1.out.yielded f3 hS3)
        have z0 := cellOf HD3.out.box 0
        simp at z0
        have HC := Lib.hid (kidsD w W3 tb els ds (HT.out.fr0 HD3.out.fr) HV.out hb e hel)
        have hkl : (kidA ds e).length ≤ ds.length := kidN_len ds _ _
        have hln : s.length + (kidA ds e).length ≤ ds.length := by
          have := HI2.out
          simp at this
          omega
        clear hJ3 f3 hS3 HR9 y0
        gi_wp2_with (first
          | (refine ⟨trivial, ?_⟩; gi_at_call 14; refine (callsIn_wide.2 HC.out).mono ?_; rintro e' w4 ⟨sl, cl, rfl, ol, f4⟩; have HD4 := Lib.hid (HD3.out.fr0 f4); have HR4 := Lib.hid (RevN w4 W3.heap.size sl cl (kidA ds e) ol (by omega)); have HOL := Lib.hid ol; have F4 := Lib.hid f4; clear f4 ol)
          | (refine ⟨trivial, ?_⟩; gi_at_call 45; refine (callsIn_wide.2 HR4.out).mono ?_; rintro e' w5 ⟨rfl, o5, f5⟩; have HO5 := Lib.hid o5; have F5 := Lib.hid (F4.out.step f5 (fun i h => .inr (HOL.out.lt i h).1)); have HD5 := Lib.hid (HD3.out.fr0 F5.out); have HJ5 := Lib.hid (HJ.out _ _ _ _ HJ3.out (F5.out.mono (fun _ _ h => h.elim))); have HB5 := Lib.hid HD5.out.big; clear f5 o5)
          | (gi_at_builtin; refine wpListIn_append_src _ rfl (.tmp 31) (.tmp 32) 34 rfl W.heap.size 3 i27 _ 1 8 Try.underlying34 hb0 hb1 hb2 hb3 rfl (by omega) (.slice (some ⟨g, off, none⟩) s.length ct) s.length _ rfl HD5.out.way sl (kidA ds e).length cl (iR (kidA ds e).reverse) rfl (Src.of_win HO5.out) (by simp [iR, Value.oneCell']) (by unfold maxLen; omega) (by omega) HB5.out ?_; intro st6 ct6 w6 hown6 hgrow6 hsh6; have HJ6 := Lib.hid (HJ.out _ _ _ _ HJ5.out (((Fr.refl (fun k => (False ∨ W.heap.size ≤ k) ∧ ¬ S' k) _).grown hgrow6 (fun k hk => .inl ⟨.inr (HD5.out.way.lt k hk).1, HD5.out.sep k hk⟩)))); have HD6 := Lib.hid (HD5.out.add (r := (kidA ds e).reverse) (HL.out _ _ _ HJ5.out) hgrow6 (by rw [List.length_reverse]; exact hown6) (by rw [List.length_reverse]; exact hsh6) HWk); clear hown6 hgrow6 hsh6))
        gi_roundg (gk - 1)
        case rel => exact ⟨o ++ [e], s ++ (kidA ds e).reverse, st6, ct6, S', by simp; omega, by simp, by rw [List.length_append]; exact HS.out, HJ6.out, HD6.out⟩
        case measure => omega
      · gi_wp2
        refine bodyPost_ret (v := .tuple #[]) (results_none rfl _ _ _) rfl ?_
        exact ⟨⟨_, rfl⟩, .inr ⟨_, S', trivial, hJx3⟩⟩
end Go.Proofs.Ytdbhcogafhhlnaa
