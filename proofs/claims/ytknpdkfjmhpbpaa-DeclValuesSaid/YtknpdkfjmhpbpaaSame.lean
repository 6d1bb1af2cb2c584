/- SameTokens and SameRaws of equal rows; Big. No condition but sizes. -/
import Derived.Test.YtknpdkfjmhpbpaaRaws
import Derived.Test.YtknpdkfjmhpbpaaFrQ
namespace Go.Proofs.Ytknpdkfjmhpbpaa
open Go.RowKit Go.Maps Go.ChangeShapes Go.WideShapes Go.ChangeAt Go.WideMaps Go.WideElems

set_option maxRecDepth 100000 in
set_option maxHeartbeats 4000000 in
theorem sameT_any (p1 p2 : Option Addr) (c1 c2 : Nat) (ts : List Tok) (w : World) (h1 : RdT w p1 ts) (h2 : RdT w p2 ts) (hl : ts.length ≤ 100000) :
    Calls Try.prog 20 #[.slice p1 ts.length c1, .slice p2 ts.length c2] w fun e w' => e = .returned (.bool true) ∧ ∃ n, w' = w.drewN n := by
  have H1 := Lib.hid h1
  have H2 := Lib.hid h2
  clear h1 h2
  have qn : ((ts.length : Int) != (ts.length : Int)) = false := by simp
  go_enter Try.func20, Try.ntmps20
  go_wp2_with fail
  go_loopw [5] (fun i wr => ∃ (k m : Nat), k ≤ ts.length ∧ i = .int .i64 k ∧ wr = w.drewN m) (fun i _ => ts.length - (intOf i).toNat)
  case atStart => exact ⟨0, 0, by omega, rfl, rfl⟩
  case round =>
    obtain ⟨k, m, hk, rfl, rfl⟩ := hrel
    by_cases hlt : k < ts.length
    · have d0 : decide ((k : Int) < (ts.length : Int)) = true := decide_eq_true (by omega)
      obtain ⟨x, hx⟩ : ∃ x, ts[k]? = some x := ⟨ts[k], List.getElem?_eq_getElem hlt⟩
      have f0 : Fr (fun _ => False) w (w.drewN m) := ⟨rfl, rfl, rfl, Nat.le_refl _, fun _ _ _ => rfl⟩
      obtain ⟨_, b1, o1, rfl, _, x0, x1, x2, x3, x4⟩ := (H1.out.fr f0).at_ hx
      obtain ⟨_, b2, o2, rfl, _, y0, y1, y2, y3, y4⟩ := (H2.out.fr f0).at_ hx
      have HW := Lib.hid (show ∀ n, (w.drewN m).drewN n = w.drewN (m + n) from fun n => World.drewN_drewN _ _ _)
      clear hx f0
      have TE : (!(x.f0 == x.f0) || (!(x.f1.toList == x.f1.toList) || (!(x.f2 == x.f2) || (!(x.f3 == x.f3) || (!(x.f4 == x.f4)))))) = false := by simp
      generalize w.drewN m = w9 at *
      have i1 : (k : Int) < (ts.length : Int) := by omega
      go_wp2_with fail
      go_quiet (fail)
      go_wp2_with fail
      go_roundw
      case rel => exact ⟨k + 1, _, by omega, by go_num, HW.out _⟩
      case measure => simp [intOf]; omega
    · obtain rfl : k = ts.length := by omega
      have d0 : decide ((ts.length : Int) < (ts.length : Int)) = false := by simp
      go_wp2_with fail
      go_ret
      exact ⟨rfl, m, rfl⟩

/-- A row of raw rules, as it is read. -/
def RdRw (w : World) (p : Option Addr) (rs : List RawT) : Prop :=
  ∀ (i : Nat) x, rs[i]? = some x → ∃ g off p1 c1 p2 c2, p = some ⟨g, off, none⟩ ∧ g < w.heap.size ∧ w.cell? ⟨g, off + i * 2, none⟩ = some (.slice p1 x.f0.length c1) ∧ w.cell? ⟨g, off + i * 2 + 1, none⟩ = some (.slice p2 x.f1.length c2) ∧ RdT w p1 x.f0 ∧ RdT w p2 x.f1
theorem RdRw.fr {w w' : World} {p : Option Addr} {rs : List RawT} (h : RdRw w p rs) (f : Fr (fun _ => False) w w') : RdRw w' p rs := by
  intro i x hx
  obtain ⟨g, off, p1, c1, p2, c2, hp, hg, h1, h2, r1, r2⟩ := h i x hx
  exact ⟨g, off, p1, c1, p2, c2, hp, Nat.lt_of_lt_of_le hg f.size, (f.cell (p := ⟨g, off + i * 2, none⟩) hg (by simp)).trans h1, (f.cell (p := ⟨g, off + i * 2 + 1, none⟩) hg (by simp)).trans h2, r1.fr f, r2.fr f⟩
theorem RwR.rd {w W : World} {rs : List RawT} {v : Value} (h : RwR w rs v W) : ∃ sp c, v = .slice sp rs.length c ∧ RdRw W sp rs := by
  obtain ⟨⟨sp, c, ys, rfl, h1, h2⟩, _⟩ := h
  refine ⟨sp, c, rfl, fun i x hx => ?_⟩
  have hlt : i < rs.length := (List.getElem?_eq_some_iff.1 hx).1
  obtain ⟨a, b, e1, e2, o1, o2⟩ := h2.at_ hx
  obtain ⟨p1, c1, rfl, r1⟩ := o1.rd
  obtain ⟨p2, c2, rfl, r2⟩ := o2.rd
  obtain ⟨g, off, cap, hv, _, _, hg, _, hcell, _⟩ := h1.cells (by omega)
  cases hv
  exact ⟨g, off, p1, c1, p2, c2, rfl, hg, hcell _ _ e1, hcell _ _ e2, r1, r2⟩

set_option maxRecDepth 100000 in
set_option maxHeartbeats 4000000 in
theorem sameR_any (p1 p2 : Option Addr) (c1 c2 : Nat) (rs : List RawT) (w : World) (h1 : RdRw w p1 rs) (h2 : RdRw w p2 rs) (hl : rs.length ≤ 100000) (hs : ∀ x ∈ rs, x.f0.length ≤ 100000 ∧ x.f1.length ≤ 100000) :
    Calls Try.prog 17 #[.slice p1 rs.length c1, .slice p2 rs.length c2] w fun e w' => e = .returned (.bool true) ∧ Fr (fun _ => False) w w' := by
  have H1 := Lib.hid h1
  have H2 := Lib.hid h2
  have HZ := Lib.hid hs
  clear h1 h2 hs
  have qn : ((rs.length : Int) != (rs.length : Int)) = false := by simp
  go_enter Try.func17, Try.ntmps17
  go_wp2_with fail
  go_loopw [5] (fun i wr => ∃ (k : Nat), k ≤ rs.length ∧ i = .int .i64 k ∧ Hid (Fr (fun _ => False) w wr)) (fun i _ => rs.length - (intOf i).toNat)
  case atStart => exact ⟨0, by omega, rfl, Lib.hid (Fr.refl _ _)⟩
  case round =>
    obtain ⟨k, hk, rfl, hF⟩ := hrel
    by_cases hlt : k < rs.length
    · have d0 : decide ((k : Int) < (rs.length : Int)) = true := decide_eq_true (by omega)
      obtain ⟨x, hx⟩ : ∃ x, rs[k]? = some x := ⟨rs[k], List.getElem?_eq_getElem hlt⟩
      obtain ⟨b1, o1, a1, d1, a2, d2, rfl, _, x0, x1, r1, r2⟩ := (H1.out.fr hF.out) k x hx
      obtain ⟨b2, o2, a3, d3, a4, d4, rfl, _, y0, y1, r3, r4⟩ := (H2.out.fr hF.out) k x hx
      obtain ⟨z1, z2⟩ := HZ.out x (List.mem_of_getElem? hx)
      have P1 := Lib.hid (show ∀ W, Fr (fun _ => False) wr W → Calls Try.prog 20 #[.slice a1 x.f0.length d1, .slice a3 x.f0.length d3] W fun e w' => e = .returned (.bool true) ∧ Fr (fun _ => False) W w' from fun W f => (sameT_any _ _ _ _ _ W (r1.fr f) (r3.fr f) z1).mono fun e w' ⟨h, n, h2⟩ => ⟨h, by rw [h2]; exact ⟨rfl, rfl, rfl, Nat.le_refl _, fun _ _ _ => rfl⟩⟩)
      have P2 := Lib.hid (show ∀ W, Fr (fun _ => False) wr W → Calls Try.prog 20 #[.slice a2 x.f1.length d2, .slice a4 x.f1.length d4] W fun e w' => e = .returned (.bool true) ∧ Fr (fun _ => False) W w' from fun W f => (sameT_any _ _ _ _ _ W (r2.fr f) (r4.fr f) z2).mono fun e w' ⟨h, n, h2⟩ => ⟨h, by rw [h2]; exact ⟨rfl, rfl, rfl, Nat.le_refl _, fun _ _ _ => rfl⟩⟩)
      have i1 : (k : Int) < (rs.length : Int) := by omega
      have u0 := FrW.cell x0
      have u1 := FrW.cell x1
      have u2 := FrW.cell y0
      have u3 := FrW.cell y1
      clear hx r1 r2 r3 r4 x0 x1 y0 y1
      go_upto_region 6 with fail
      refine wp_region_fr (by kernel_rfl) (by kernel_rfl) ?_
      repeat (go_big_quiet_step (first
        | (go_at_call 20; with_reducible exact Calls.fr_of _ (P1.out _ (FrW.fr _)))
        | (go_at_call 20; with_reducible exact Calls.fr_of _ (P2.out _ (FrW.fr _)))))
      refine wpQuiet_nil ?_
      rintro _ ⟨nq, rfl⟩
      have GC := nq.fr
      go_wp2_with fail
      go_roundw
      case rel => exact ⟨k + 1, by omega, by go_num, Lib.hid (hF.out.trans GC)⟩
      case measure => simp [intOf]; omega
    · obtain rfl : k = rs.length := by omega
      have d0 : decide ((rs.length : Int) < (rs.length : Int)) = false := by simp
      go_wp2_with fail
      go_ret
      exact ⟨rfl, hF.out⟩

/-- Big: too many, or one that is too long. -/
theorem Big_any (p : Option Addr) (c : Nat) (ts : List Tok) (w : World) (h : RdT w p ts) (hl : ts.length ≤ 9223372036854775807) :
    Calls Try.prog 16 #[.slice p ts.length c] w fun e w' => ∃ b : Bool, e = .returned (.bool b) ∧ w' = w ∧ (b = false → ts.length ≤ 500 ∧ ∀ x ∈ ts, x.f1.size ≤ 300) := by
  have H1 := Lib.hid h
  clear h
  go_enter Try.func16, Try.ntmps16
  go_wp2_with fail
  go_loopw [3] (fun i wr => ∃ (k : Nat), k ≤ ts.length ∧ i = .int .i64 k ∧ wr = w ∧ ∀ j x, j < k → ts[j]? = some x → x.f1.size ≤ 300) (fun i _ => ts.length - (intOf i).toNat)
  case atStart => exact ⟨0, by omega, rfl, rfl, fun j x h => by omega⟩
  case round =>
    obtain ⟨k, hk, rfl, hw, hX⟩ := hrel
    have HX := Lib.hid hX
    clear hX
    subst hw
    by_cases hlt : k < ts.length
    · have d0 : decide ((k : Int) < (ts.length : Int)) = true := decide_eq_true (by omega)
      obtain ⟨x, hx⟩ : ∃ x, ts[k]? = some x := ⟨ts[k], List.getElem?_eq_getElem hlt⟩
      obtain ⟨hz, b1, o1, rfl, _, _, x1, _⟩ := H1.out.at_ hx
      have HXX := Lib.hid hx
      unfold maxLen at hz
      have i1 : (k : Int) < (ts.length : Int) := by omega
      clear hx
      by_cases hb : 300 < x.f1.size
      · have q1 : decide ((300 : Int) < (x.f1.size : Int)) = true := decide_eq_true (by omega)
        go_wp2_with fail
        go_ret
        exact ⟨true, rfl, rfl, by simp⟩
      · have q1 : decide ((300 : Int) < (x.f1.size : Int)) = false := decide_eq_false (by omega)
        go_wp2_with fail
        go_roundw
        case rel =>
          refine ⟨k + 1, by omega, by go_num, trivial, fun j y hj hy => ?_⟩
          rcases Nat.lt_or_ge j k with h | h
          · exact HX.out j y h hy
          · obtain rfl : j = k := by omega
            rw [HXX.out] at hy
            cases hy
            omega
        case measure => simp [intOf]; omega
    · obtain rfl : k = ts.length := by omega
      have d0 : decide ((ts.length : Int) < (ts.length : Int)) = false := by simp
      go_wp2_with fail
      go_ret
      refine ⟨_, rfl, rfl, fun h => ?_⟩
      have h2 : ¬ (500 : Int) < (ts.length : Int) := by simpa using h
      refine ⟨by omega, fun x hx => ?_⟩
      obtain ⟨j, hj⟩ := List.mem_iff_getElem?.1 hx
      exact HX.out j x (List.getElem?_eq_some_iff.1 hj).1 hj
end Go.Proofs.Ytknpdkfjmhpbpaa
