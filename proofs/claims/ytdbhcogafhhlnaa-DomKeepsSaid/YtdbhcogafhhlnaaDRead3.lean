/- The reference's tree, read: Children. -/
import Derived.Test.YtdbhcogafhhlnaaDRead2
namespace Go.Proofs.Ytdbhcogafhhlnaa.R
open Go.RowKit Go.Maps Go.ChangeShapes Go.WideShapes Go.ChangeAt Go.WideMaps Go.WideElems

/-- New whole numbers. -/
def NewL (w : World) (l : List Int) (e : Ending) (w' : World) : Prop :=
  ∃ sp c, e = .returned (.slice sp l.length c) ∧ OwnsWin w' w.heap.size 3 1 (.slice sp l.length c) l.length (l.map (Value.int .i64)) ∧ Fr (fun _ => False) w w'

/-- A number more at the end of a row of one's own. -/
theorem own_snoc {B : Nat} {w w1 w' : World} {X : Obj} {sp sp' : Option Addr} {c c' : Nat} {l : List Int} {x : Int} (f : Fr (fun _ => False) w w1) (hB : w.heap.size ≤ B) (o : OwnsWin w1 B 3 1 (.slice sp l.length c) l.length (l.map (Value.int .i64)))
    (hg : (w1.alloc X).grownBy w' (Value.slice sp l.length c).ownBlock) (o' : OwnsWin w' B 3 1 (.slice sp' (l.length + 1) c') (l.length + 1) (l.map (Value.int .i64) ++ [.int .i64 x])) :
    OwnsWin w' B 3 1 (.slice sp' (l ++ [x]).length c') (l ++ [x]).length ((l ++ [x]).map (Value.int .i64)) ∧ Fr (fun _ => False) w w' :=
  ⟨by rw [List.length_append, List.map_append]; exact o', (f.alloc X).grown hg (fun k hk => .inr (by have := (o.lt k hk).1; omega))⟩

set_option maxHeartbeats 4000000 in
set_option maxRecDepth 100000 in
theorem Children_yes (wt : World) (tb : Nat) (ds : List NodeD) {spN spD : Option Addr} {cN cD : Nat} (h : RV wt tb ds spN cN spD cD) (hg : Good ds ds.length) (hb : ds.length ≤ 100000) (k : Nat) (hk : k < ds.length) :
    Calls Try.prog 27 #[.pointer (some ⟨tb, 0, none⟩), .int .i64 (k : Int)] wt (NewL wt (kidL ds (k : Int) ds.length)) := by
  have RVH := Lib.hid h
  obtain ⟨g, off, _, _, _, _, rfl, hc1, hc2, -⟩ := h.nd k ds[k] (List.getElem?_eq_getElem hk)
  unfold maxLen at hc2
  have i1 : (k : Int) < (ds.length : Int) := by omega
  have K1 := Lib.hid (show kidL ds (k : Int) (k + 1) = [] by
    refine kidL_none fun j hj => ?_
    have := hg j (by omega)
    rcases Nat.eq_zero_or_pos j with e | e
    · rw [this.1 e]; omega
    · have := this.2 e; omega)
  obtain ⟨i27, hb0, hb1, hb2, hb3⟩ := info_parts info3
  clear h hg
  go_enter Try.func27, Try.ntmps27
  go_wp2
  go_loopw [5, 6] (fun out i wr => ∃ (c : Nat) (sp : Option Addr) (cc : Nat), k + 1 ≤ c ∧ c ≤ ds.length ∧ i = .int .i64 c ∧ out = .slice sp (kidL ds (k : Int) c).length cc ∧ Hid (OwnsWin wr wt.heap.size 3 1 (.slice sp (kidL ds (k : Int) c).length cc) (kidL ds (k : Int) c).length ((kidL ds (k : Int) c).map (Value.int .i64))) ∧ Hid (Fr (fun _ => False) wt wr)) (fun _ i _ => ds.length - (intOf i).toNat)
  case atStart => exact ⟨k + 1, none, 0, by omega, by omega, by go_num, by rw [K1.out]; rfl, by rw [K1.out]; exact OwnsWin.nil _ _ _ _, Fr.refl _ _⟩
  case round =>
    obtain ⟨c, sp, cc, hc0, hcn, rfl, rfl, hO, hF⟩ := hrel
    obtain ⟨wo, rfl⟩ : ∃ wo : World, wo = wr := ⟨_, rfl⟩
    have RV9 := Lib.hid (RVH.out.fr hF.out)
    have IS := Lib.hid (is_yes wo tb ds RV9.out k hk)
    have z0 := RV9.out.c0
    have hL := kidL_len ds (k : Int) c
    by_cases hlt : c < ds.length
    · obtain ⟨dc, hdc⟩ : ∃ dc, ds[c]? = some dc := ⟨ds[c], List.getElem?_eq_getElem hlt⟩
      obtain ⟨_, _, _, _, _, _, e, _, _, y0, -⟩ := RV9.out.nd c dc hdc
      cases e
      have HPA := Lib.hid (parN_at hdc)
      clear hdc
      generalize dc.par = pc at *
      have i2 : (c : Int) < (ds.length : Int) := by omega
      have q2 : decide ((c : Int) < (ds.length : Int)) = true := by simpa using hlt
      have q2n : decide (c < ds.length) = true := by simpa using hlt
      by_cases hpc : pc = (k : Int)
      · have HY := Lib.hid (kidL_yes (HPA.out.trans hpc))
        subst hpc
        have hWS := hF.out.size
        go_wp2_with (first
          | (go_at_call 40; refine IS.out.mono ?_; rintro e w' ⟨rfl, rfl⟩)
          | (at_builtin; refine wpList_append_src _ rfl (.tmp 33) (.tmp 35) 34 rfl wt.heap.size 3 i27 _ 1 8 Try.underlying34 hb0 hb1 hb2 hb3 rfl (by omega) (.slice sp (kidL ds (k : Int) c).length cc) (kidL ds (k : Int) c).length _ rfl (hO.out.fr ((Fr.refl (fun _ => False) _).alloc _) (by simp)) (some ⟨_, 0, none⟩) 1 1 [.int .i64 (c : Int)] rfl (Src.one (heapNew _ _) rfl) (by simp [Value.oneCell']) (by unfold maxLen; omega) (by omega) (by simp; omega) ?_; intro sp9 c9 w9 hown9 hgrow9 _; have HN := Lib.hid (own_snoc hF.out (Nat.le_refl _) hO.out hgrow9 hown9); clear hown9 hgrow9))
        go_roundw
        case rel => exact ⟨c + 1, sp9, c9, by omega, by omega, by go_num, by rw [HY.out]; simp, by rw [HY.out]; exact HN.out.1, HN.out.2⟩
        case measure => simp [intOf]; omega
      · have HY := Lib.hid (kidL_no (ds := ds) (k := c) (by rw [HPA.out]; exact hpc))
        have qn : (pc == (k : Int)) = false := by simpa using hpc
        go_wp2_with (go_at_call 40; refine IS.out.mono ?_; rintro e w' ⟨rfl, rfl⟩)
        go_roundw
        case rel => exact ⟨c + 1, sp, cc, by omega, by omega, by go_num, by rw [HY.out], by rw [HY.out]; exact hO.out, hF.out⟩
        case measure => simp [intOf]; omega
    · obtain rfl : c = ds.length := by omega
      have q2 : decide ((ds.length : Int) < (ds.length : Int)) = false := by simp
      go_wp2_with (go_at_call 40; refine IS.out.mono ?_; rintro e w' ⟨rfl, rfl⟩)
      go_ret
      exact ⟨sp, cc, rfl, hO.out, hF.out⟩
set_option maxHeartbeats 1000000 in
theorem Children_no (wr : World) (tb : Nat) (ds : List NodeD) {spN spD : Option Addr} {cN cD : Nat} (h : RV wr tb ds spN cN spD cD) (e : Int) (hk : e < 0 ∨ (ds.length : Int) ≤ e) :
    Calls Try.prog 27 #[.pointer (some ⟨tb, 0, none⟩), .int .i64 e] wr (NewL wr []) := by
  have IS := Lib.hid (is_no wr tb ds h e hk)
  clear h
  go_enter Try.func27, Try.ntmps27
  go_wp2
  refine wp_loop_rounds 1 ?_
  rw [rounds_succ]
  go_wp2_with (go_at_call 40; refine IS.out.mono ?_; rintro e w' ⟨rfl, rfl⟩)
  go_ret
  exact ⟨none, 0, rfl, OwnsWin.nil _ _ _ _, Fr.refl _ _⟩
end Go.Proofs.Ytdbhcogafhhlnaa.R
