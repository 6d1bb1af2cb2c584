/- The reference's All: the walk. -/
import Derived.Test.YtdbhcogafhhlnaaDRead3
import Derived.Test.YtdbhcogafhhlnaaDAll
namespace Go.Proofs.Ytdbhcogafhhlnaa.R
open Go.RowKit Go.Maps Go.ChangeShapes Go.WideShapes Go.ChangeAt Go.WideMaps Go.WideElems

/-- Two slices in unlike blocks. -/
def Sep (v u : Value) : Prop := ∀ k, v.ownBlock = some k → u.ownBlock ≠ some k
theorem Sep.symm {v u : Value} (h : Sep v u) : Sep u v := fun k a b => h k b a
theorem Sep.cut {v : Value} {sp : Option Addr} {n m c c' : Nat} (h : Sep v (.slice sp n c)) : Sep v (.slice sp m c') := fun k a b => h k a (by
  cases sp with
  | none => simp [Value.ownBlock] at b
  | some ad => exact b)
theorem Sep.new {w : World} {B B' e size n e' size' n' : Nat} {v u : Value} {xs ys : List Value} (h : OwnsWin w B e size v n xs) {w' : World} (hB : w.heap.size ≤ B') (h' : OwnsWin w' B' e' size' u n' ys) : Sep v u := fun k a b => by
  have := (h.lt k a).2
  have := (h'.lt k b).1
  omega
/-- Another row stays as it is where one grows. -/
theorem keepU {w1 w' : World} {X : Obj} {v v' u : Value} {Bu e size n : Nat} {xs : List Value} (hg : (w1.alloc X).grownBy w' v.ownBlock) (h3 : ∀ k, v'.ownBlock = some k → v.ownBlock = some k ∨ (w1.alloc X).heap.size ≤ k) (ou : OwnsWin w1 Bu e size u n xs) (hs : Sep v u) :
    OwnsWin w' Bu e size u n xs ∧ Sep v' u := by
  have f : Fr (fun k => v.ownBlock = some k) w1 w' := ((Fr.refl _ w1).alloc X).grown hg (fun k hk => .inl hk)
  refine ⟨ou.fr f (fun k a b => hs k b a), fun k a b => ?_⟩
  rcases h3 k a with h | h
  · exact hs k h b
  · have := (ou.lt k b).2
    simp at h
    omega

def iR (l : List Nat) : List Value := l.map fun (j : Nat) => Value.int .i64 (j : Int)

/-- What came, and what is to do: two rows of one's own. -/
structure TwoR (w0 wr : World) (so : Option Addr) (co : Nat) (st : Option Addr) (ct : Nat) (o s : List Nat) : Prop where
  oo : OwnsWin wr w0.heap.size 3 1 (.slice so o.length co) o.length (iR o)
  tt : OwnsWin wr w0.heap.size 3 1 (.slice st s.length ct) s.length (iR s)
  sep : Sep (.slice so o.length co) (.slice st s.length ct)
  fr : Fr (fun _ => False) w0 wr
theorem TwoR.fr0 {w0 wr w' : World} {so st : Option Addr} {co ct : Nat} {o s : List Nat} (h : TwoR w0 wr so co st ct o s) (f : Fr (fun _ => False) wr w') : TwoR w0 w' so co st ct o s :=
  ⟨h.oo.fr f (by simp), h.tt.fr f (by simp), h.sep, h.fr.trans f⟩
theorem TwoR.cut {w0 wr : World} {so st : Option Addr} {co ct e : Nat} {o s : List Nat} (h : TwoR w0 wr so co st ct o (s ++ [e])) : TwoR w0 wr so co st ct o s := by
  refine ⟨h.oo, ?_, h.sep.cut, h.fr⟩
  have := h.tt
  rw [List.length_append] at this
  have := this.take s.length (by simp)
  have e1 : (iR (s ++ [e])).take (s.length * 1) = iR s := by unfold iR; simp
  rw [e1] at this
  exact this
theorem TwoR.addO {w0 wr w1 w' : World} {X : Obj} {so st so' : Option Addr} {co ct co' e : Nat} {o s : List Nat} (h : TwoR w0 wr so co st ct o s) (f : Fr (fun _ => False) wr w1) (hg : (w1.alloc X).grownBy w' (Value.slice so o.length co).ownBlock)
    (o' : OwnsWin w' w0.heap.size 3 1 (.slice so' (o.length + 1) co') (o.length + 1) (iR o ++ [.int .i64 (e : Int)])) (h3 : ∀ k, (Value.slice so' (o.length + 1) co').ownBlock = some k → (Value.slice so o.length co).ownBlock = some k ∨ (w1.alloc X).heap.size ≤ k) :
    TwoR w0 w' so' co' st ct (o ++ [e]) s := by
  have h1 := h.fr0 f
  obtain ⟨a, b⟩ := keepU hg h3 h1.tt h1.sep
  refine ⟨?_, a, ?_, (h1.fr.alloc X).grown hg (fun k hk => .inr (h1.oo.lt k hk).1)⟩
  · rw [List.length_append, show iR (o ++ [e]) = iR o ++ [.int .i64 (e : Int)] by simp [iR]]
    exact o'
  · rw [List.length_append]
    exact b
theorem TwoR.addT {w0 wr w1 w' : World} {X : Obj} {so st st' : Option Addr} {co ct ct' e : Nat} {o s : List Nat} (h : TwoR w0 wr so co st ct o s) (f : Fr (fun _ => False) wr w1) (hg : (w1.alloc X).grownBy w' (Value.slice st s.length ct).ownBlock)
    (o' : OwnsWin w' w0.heap.size 3 1 (.slice st' (s.length + 1) ct') (s.length + 1) (iR s ++ [.int .i64 (e : Int)])) (h3 : ∀ k, (Value.slice st' (s.length + 1) ct').ownBlock = some k → (Value.slice st s.length ct).ownBlock = some k ∨ (w1.alloc X).heap.size ≤ k) :
    TwoR w0 w' so co st' ct' o (s ++ [e]) := by
  have h1 := h.fr0 f
  obtain ⟨a, b⟩ := keepU hg h3 h1.oo h1.sep.symm
  refine ⟨a, ?_, ?_, (h1.fr.alloc X).grown hg (fun k hk => .inr (h1.tt.lt k hk).1)⟩
  · rw [List.length_append, show iR (s ++ [e]) = iR s ++ [.int .i64 (e : Int)] by simp [iR]]
    exact o'
  · rw [List.length_append]
    exact b.symm
theorem TwoR.last {w0 wr : World} {so st : Option Addr} {co ct e : Nat} {o s : List Nat} (h : TwoR w0 wr so co st ct o (s ++ [e])) : ∃ g off, st = some ⟨g, off, none⟩ ∧ (s ++ [e]).length ≤ ct ∧ ct ≤ maxLen ∧ wr.cell? ⟨g, off + s.length, none⟩ = some (.int .i64 (e : Int)) := by
  obtain ⟨g, off, cap, hv, h1, h2, hg, _, hcell, _⟩ := h.tt.cells (by simp)
  cases hv
  exact ⟨g, off, rfl, h1, h2, hcell s.length _ (by simp [iR])⟩
theorem iR_kids (ds : List NodeD) (e : Nat) : (kidL ds (e : Int) ds.length).map (Value.int .i64) = iR (kidA ds e) := by
  unfold kidL iR kidA
  rw [List.map_map]
  rfl
theorem kidL_lenA (ds : List NodeD) (e : Nat) : (kidL ds (e : Int) ds.length).length = (kidA ds e).length := by unfold kidL kidA; simp
def NewN (w : World) (l : List Nat) (e : Ending) (w' : World) : Prop :=
  ∃ sp c, e = .returned (.slice sp l.length c) ∧ OwnsWin w' w.heap.size 3 1 (.slice sp l.length c) l.length (iR l) ∧ Fr (fun _ => False) w w'
theorem kids_any (wt : World) (tb : Nat) (ds : List NodeD) {spN spD : Option Addr} {cN cD : Nat} (h : RV wt tb ds spN cN spD cD) (hg : Good ds ds.length) (hb : ds.length ≤ 100000) (k : Nat) (hk : k < ds.length) :
    Calls Try.prog 27 #[.pointer (some ⟨tb, 0, none⟩), .int .i64 (k : Int)] wt (NewN wt (kidA ds k)) :=
  (Children_yes wt tb ds h hg hb k hk).mono fun _ _ ⟨sp, c, he, ho, f⟩ => by
    rw [kidL_lenA] at he ho
    rw [iR_kids] at ho
    exact ⟨sp, c, he, ho, f⟩
theorem NewL.of {w w' : World} {l : List Nat} {sp : Option Addr} {c : Nat} (o : OwnsWin w' w.heap.size 3 1 (.slice sp l.length c) l.length (iR l)) (f : Fr (fun _ => False) w w') : NewL w (l.map fun (j : Nat) => (j : Int)) (.returned (.slice sp l.length c)) w' :=
  ⟨sp, c, by rw [List.length_map], by rw [List.length_map, List.map_map]; exact o, f⟩
theorem TwoR.to {w0 wr : World} {so st : Option Addr} {co ct : Nat} {o o' s s' : List Nat} (h : TwoR w0 wr so co st ct o s) (ho : o = o') (hs : s = s') : TwoR w0 wr so co st ct o' s' := by subst ho; subst hs; exact h

set_option maxHeartbeats 4000000 in
set_option maxRecDepth 100000 in
theorem All_any (wt : World) (tb : Nat) (ds : List NodeD) {spN spD : Option Addr} {cN cD : Nat} (h : RV wt tb ds spN cN spD cD) (hg : Good ds ds.length) (hb : ds.length ≤ 100000) (h0 : 0 < ds.length) :
    Calls Try.prog 28 #[.pointer (some ⟨tb, 0, none⟩)] wt (NewL wt ((allN ds).map fun (j : Nat) => (j : Int))) := by
  have RVH := Lib.hid h
  have t0 := h.c0
  obtain ⟨i27, hb0, hb1, hb2, hb3⟩ := info_parts info3
  have HG := Lib.hid hg
  have q0 : ((ds.length : Int) == 0) = false := by rw [beq_eq_false_iff_ne]; omega
  have T0 := Lib.hid (show TwoR wt (wt.alloc (.cells #[.int .i64 0] 3)) none 0 (some ⟨wt.heap.size, 0, none⟩) 1 [] [0] from ⟨OwnsWin.nil _ _ _ _, ⟨rfl, .inr ⟨_, 0, 1, _, rfl, Nat.le_refl _, heapNew wt _, Nat.le_refl _, by unfold maxLen; omega, by simp, fun j u hj => by
    cases j with
    | zero => simpa [iR] using hj
    | succ j => simp [iR] at hj⟩⟩, fun k hk => by simp [Value.ownBlock] at hk, (Fr.refl _ wt).alloc _⟩)
  clear h hg
  go_enter Try.func28, Try.ntmps28
  go_wp2_with fail
  go_loopw [3, 4] (fun vo vt wr => ∃ (k : Nat) (so : Option Addr) (co : Nat) (st : Option Addr) (ct : Nat) (o s : List Nat), Hid (allSt ds k = (o, s)) ∧ o.length = k ∧ vo = .slice so o.length co ∧ vt = .slice st s.length ct ∧ Hid (TwoR wt wr so co st ct o s)) (fun vo _ _ => match vo with | .slice _ n _ => ds.length - n | _ => 0)
  case atStart => exact ⟨0, none, 0, _, 1, [], [0], rfl, rfl, rfl, rfl, T0.out⟩
  case round =>
    obtain ⟨_, so, co, st, ct, o, s, hst, rfl, rfl, rfl, hT⟩ := hrel
    clear T0
    obtain ⟨wo, rfl⟩ : ∃ wo : World, wo = wr := ⟨_, rfl⟩
    have hI := allI HG.out h0 o.length
    rw [hst.out] at hI
    have hlen := hI.len
    have HI := Lib.hid hI
    clear hI
    rcases List.eq_nil_or_concat s with rfl | ⟨s, e, rfl⟩
    · have HE := Lib.hid (show o = allN ds by have := all_end HG.out h0 (k := o.length) (by rw [hst.out]) (by rw [hst.out]); rw [hst.out] at this; exact this)
      go_wp2_with fail
      go_ret
      rw [← HE.out]
      exact NewL.of hT.out.oo hT.out.fr
    · rw [List.concat_eq_append] at hst hT HI hlen ⊢
      obtain ⟨g, off, rfl, hc1, hc2, y0⟩ := hT.out.last
      have hel : e < ds.length := HI.out.lt e (by simp)
      have hkl : (kidA ds e).length ≤ ds.length := kidN_len ds _ _
      have HS := Lib.hid (show allSt ds (o.length + 1) = (o ++ [e], s ++ (kidA ds e).reverse) by rw [allSt_some (by rw [hst.out]), hst.out])
      have HI2 := Lib.hid (show (o ++ [e]).length + (s ++ (kidA ds e).reverse).length ≤ ds.length by have := (allI HG.out h0 (o.length + 1)).len; rw [HS.out] at this; exact this)
      have HT1 := Lib.hid hT.out.cut
      have hWS := hT.out.fr.size
      rw [List.length_append] at hc1 hlen
      unfold maxLen at hc2
      have hl1 : o.length + (s.length + 1) ≤ ds.length := hlen
      have hc3 : s.length + 1 ≤ ct := hc1
      have hs0 : (0 : Int) < (s.length : Int) + 1 := by omega
      have hs1 : (s.length : Int) < (s.length : Int) + 1 := by omega
      have hs2 : (s.length : Int) + 1 - 1 = (s.length : Int) := by omega
      clear hc1 hlen hst hT
      have HC := Lib.hid (show ∀ W, Fr (fun _ => False) wt W → Calls Try.prog 27 #[.pointer (some ⟨tb, 0, none⟩), .int .i64 (e : Int)] W (NewN W (kidA ds e)) from fun W f => kids_any W tb ds (RVH.out.fr f) HG.out hb e hel)
      go_wp2_with (first
        | (at_builtin; refine wpList_append_src _ rfl (.tmp 33) (.tmp 35) 34 rfl wt.heap.size 3 i27 _ 1 8 Try.underlying34 hb0 hb1 hb2 hb3 rfl (by omega) (.slice so o.length co) o.length _ rfl (HT1.out.oo.fr ((Fr.refl (fun _ => False) _).alloc _) (by simp)) (some ⟨_, 0, none⟩) 1 1 [.int .i64 (e : Int)] rfl (Src.one (heapNew _ _) rfl) (by simp [Value.oneCell']) (by unfold maxLen; omega) (by omega) (by simp; omega) ?_; intro so2 co2 w2 hown2 hgrow2 hsh2; have HT2 := Lib.hid (HT1.out.addO (e := e) (Fr.refl _ _) hgrow2 hown2 hsh2); clear hown2 hgrow2 hsh2)
        | (go_at_call 27; refine Calls.mono (HC.out _ HT2.out.fr) ?_; rintro e' w3 ⟨sl, cl, rfl, ol, f3⟩; have HT3 := Lib.hid (HT2.out.fr0 f3); have OL3 := Lib.hid (ol.lower HT2.out.fr.size); have SL3 := Lib.hid (Sep.new HT2.out.tt (Nat.le_refl _) ol); clear f3 ol))
      have hWS3 := HT3.out.fr.size
      go_loopw [4, 7] (fun vt vi wr => ∃ (j : Nat) (z : Int) (st : Option Addr) (ct : Nat), j ≤ (kidA ds e).length ∧ z = (j : Int) - 1 ∧ vi = .int .i64 z ∧ vt = .slice st (s ++ ((kidA ds e).drop j).reverse).length ct ∧ Hid (TwoR wt wr so2 co2 st ct (o ++ [e]) (s ++ ((kidA ds e).drop j).reverse)) ∧ Hid (OwnsWin wr wt.heap.size 3 1 (.slice sl (kidA ds e).length cl) (kidA ds e).length (iR (kidA ds e))) ∧ Hid (Sep (.slice st (s ++ ((kidA ds e).drop j).reverse).length ct) (.slice sl (kidA ds e).length cl))) (fun _ vi _ => (intOf vi + 1).toNat)
      case atStart => exact ⟨(kidA ds e).length, _, some ⟨g, off, none⟩, ct, Nat.le_refl _, rfl, rfl, by rw [List.drop_length]; simp, by rw [List.drop_length]; exact HT3.out.to rfl (by simp), OL3.out, by rw [List.drop_length, List.reverse_nil, List.append_nil]; exact SL3.out⟩
      case round =>
        obtain ⟨j, z, st4, ct4, hj, hz, rfl, rfl, hT4, hO4, hS4⟩ := hrel
        clear HT3 OL3 SL3 HC HT1 HT2 hWS3
        obtain ⟨wp, rfl⟩ : ∃ wp : World, wp = wr := ⟨_, rfl⟩
        have hWS4 := hT4.out.fr.size
        rcases j with _ | q
        · obtain rfl : z = -1 := by omega
          clear hz
          have HSS := Lib.hid (show s ++ ((kidA ds e).drop 0).reverse = s ++ (kidA ds e).reverse by simp)
          rw [HSS.out] at hT4 hS4 ⊢
          go_wp2_with fail
          go_roundw
          case rel => exact ⟨o.length + 1, so2, co2, st4, ct4, o ++ [e], s ++ (kidA ds e).reverse, HS.out, by simp, by simp, rfl, hT4.out⟩
          case measure => simp; omega
        · obtain rfl : z = (q : Int) := by omega
          clear hz
          obtain ⟨x, hx⟩ : ∃ x, (kidA ds e)[q]? = some x := ⟨(kidA ds e)[q], List.getElem?_eq_getElem (by omega)⟩
          obtain ⟨gl, offl, cpl, hv, _, _, _, _, hcell, _⟩ := hO4.out.cells (by omega)
          cases hv
          have y1 := hcell q (.int .i64 (x : Int)) (by unfold iR; rw [List.getElem?_map, hx]; rfl)
          have HD := Lib.hid (show s ++ ((kidA ds e).drop q).reverse = (s ++ ((kidA ds e).drop (q + 1)).reverse) ++ [x] by
            rw [List.drop_eq_getElem_cons (by omega : q < (kidA ds e).length), List.reverse_cons, ← List.append_assoc]
            have := (List.getElem?_eq_some_iff.1 hx).2
            rw [this])
          have hln : (s ++ ((kidA ds e).drop (q + 1)).reverse).length + 1 ≤ ds.length := by
            have := HI2.out
            simp at this ⊢
            omega
          clear hcell hx
          generalize s ++ ((kidA ds e).drop (q + 1)).reverse = t at *
          have hq : (q : Int) < ((kidA ds e).length : Int) := by omega
          have hcl := (hO4.out.capLe rfl).2
          unfold maxLen at hcl
          go_wp2_with (at_builtin; refine wpList_append_src _ rfl (.tmp 47) (.tmp 52) 34 rfl wt.heap.size 3 i27 _ 1 8 Try.underlying34 hb0 hb1 hb2 hb3 rfl (by omega) (.slice st4 t.length ct4) t.length _ rfl (hT4.out.tt.fr ((Fr.refl (fun _ => False) _).alloc _) (by simp)) (some ⟨_, 0, none⟩) 1 1 [.int .i64 (x : Int)] rfl (Src.one (heapNew _ _) rfl) (by simp [Value.oneCell']) (by unfold maxLen; omega) (by omega) (by simp; omega) ?_; intro st5 ct5 w5 hown5 hgrow5 hsh5; have HT5 := Lib.hid (hT4.out.addT (e := x) (Fr.refl _ _) hgrow5 hown5 hsh5); have HU5 := Lib.hid (keepU hgrow5 hsh5 hO4.out hS4.out); clear hown5 hgrow5 hsh5)
          go_roundw
          case rel => exact ⟨q, (q : Int) - 1, st5, ct5, by omega, rfl, by first | rfl | go_num, by rw [HD.out]; simp, by rw [HD.out]; exact HT5.out, HU5.out.1, by rw [HD.out, List.length_append]; exact HU5.out.2⟩
          case measure => simp [intOf]
end Go.Proofs.Ytdbhcogafhhlnaa.R
