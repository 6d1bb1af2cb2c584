/- SameDecls of equal rows. No condition but sizes. -/
import Derived.Test.YtknpdkfjmhpbpaaDecs
import Derived.Test.YtknpdkfjmhpbpaaSame
namespace Go.Proofs.Ytknpdkfjmhpbpaa
open Go.RowKit Go.Maps Go.ChangeShapes Go.WideShapes Go.ChangeAt Go.WideMaps Go.WideElems

/-- A row of declarations, as it is read. -/
def RdDw (w : World) (p : Option Addr) (rs : List DeclT) : Prop :=
  ∀ (i : Nat) x, rs[i]? = some x → ∃ g off p1 c1, p = some ⟨g, off, none⟩ ∧ g < w.heap.size ∧ w.cell? ⟨g, off + i * 3, none⟩ = some (.string x.nm) ∧ w.cell? ⟨g, off + i * 3 + 1, none⟩ = some (.slice p1 x.val.length c1) ∧ w.cell? ⟨g, off + i * 3 + 2, none⟩ = some (.bool x.imp) ∧ RdT w p1 x.val
theorem RdDw.fr {w w' : World} {p : Option Addr} {rs : List DeclT} (h : RdDw w p rs) (f : Fr (fun _ => False) w w') : RdDw w' p rs := by
  intro i x hx
  obtain ⟨g, off, p1, c1, hp, hg, h1, h2, h3, r1⟩ := h i x hx
  exact ⟨g, off, p1, c1, hp, Nat.lt_of_lt_of_le hg f.size, (f.cell (p := ⟨g, off + i * 3, none⟩) hg (by simp)).trans h1, (f.cell (p := ⟨g, off + i * 3 + 1, none⟩) hg (by simp)).trans h2, (f.cell (p := ⟨g, off + i * 3 + 2, none⟩) hg (by simp)).trans h3, r1.fr f⟩
theorem RwD.rd {w W : World} {rs : List DeclT} {v : Value} (h : RwD w rs v W) : ∃ sp c, v = .slice sp rs.length c ∧ RdDw W sp rs := by
  obtain ⟨⟨sp, c, ys, rfl, h1, h2⟩, _⟩ := h
  refine ⟨sp, c, rfl, fun i x hx => ?_⟩
  have hlt : i < rs.length := (List.getElem?_eq_some_iff.1 hx).1
  obtain ⟨a, e1, e2, e3, o1⟩ := h2.at_ hx
  obtain ⟨p1, c1, rfl, r1⟩ := o1.rd
  obtain ⟨g, off, cap, hv, _, _, hg, _, hcell, _⟩ := h1.cells (by omega)
  cases hv
  exact ⟨g, off, p1, c1, rfl, hg, hcell _ _ e1, hcell _ _ e2, hcell _ _ e3, r1⟩

set_option maxRecDepth 100000 in
set_option maxHeartbeats 4000000 in
theorem sameD_any (p1 p2 : Option Addr) (c1 c2 : Nat) (rs : List DeclT) (w : World) (h1 : RdDw w p1 rs) (h2 : RdDw w p2 rs) (hl : rs.length ≤ 100000) (hs : ∀ x ∈ rs, x.val.length ≤ 100000) :
    Calls Try.prog 26 #[.slice p1 rs.length c1, .slice p2 rs.length c2] w fun e w' => e = .returned (.bool true) ∧ Fr (fun _ => False) w w' := by
  have H1 := Lib.hid h1
  have H2 := Lib.hid h2
  have HZ := Lib.hid hs
  clear h1 h2 hs
  have qn : ((rs.length : Int) != (rs.length : Int)) = false := by simp
  go_enter Try.func26, Try.ntmps26
  go_wp2_with fail
  go_loopw [5] (fun i wr => ∃ (k : Nat), k ≤ rs.length ∧ i = .int .i64 k ∧ Hid (Fr (fun _ => False) w wr)) (fun i _ => rs.length - (intOf i).toNat)
  case atStart => exact ⟨0, by omega, rfl, Lib.hid (Fr.refl _ _)⟩
  case round =>
    obtain ⟨k, hk, rfl, hF⟩ := hrel
    by_cases hlt : k < rs.length
    · have d0 : decide ((k : Int) < (rs.length : Int)) = true := decide_eq_true (by omega)
      obtain ⟨x, hx⟩ : ∃ x, rs[k]? = some x := ⟨rs[k], List.getElem?_eq_getElem hlt⟩
      obtain ⟨b1, o1, a1, d1, rfl, _, x0, x1, x2, r1⟩ := (H1.out.fr hF.out) k x hx
      obtain ⟨b2, o2, a3, d3, rfl, _, y0, y1, y2, r3⟩ := (H2.out.fr hF.out) k x hx
      have z1 := HZ.out x (List.mem_of_getElem? hx)
      have P1 := Lib.hid (show ∀ W, Fr (fun _ => False) wr W → Calls Try.prog 20 #[.slice a1 x.val.length d1, .slice a3 x.val.length d3] W fun e w' => e = .returned (.bool true) ∧ Fr (fun _ => False) W w' from fun W f => (sameT_any _ _ _ _ _ W (r1.fr f) (r3.fr f) z1).mono fun e w' ⟨h, n, h2⟩ => ⟨h, by rw [h2]; exact ⟨rfl, rfl, rfl, Nat.le_refl _, fun _ _ _ => rfl⟩⟩)
      have i1 : (k : Int) < (rs.length : Int) := by omega
      have u0 := FrW.cell x0
      have u1 := FrW.cell x1
      have u2 := FrW.cell x2
      have v0 := FrW.cell y0
      have v1 := FrW.cell y1
      have v2 := FrW.cell y2
      have e1 : (x.nm.toList != x.nm.toList) = false := by simp
      have e2 : (x.imp != x.imp) = false := by simp
      clear hx r1 r3 x0 x1 x2 y0 y1 y2
      go_upto_region 6 with fail
      refine wp_region_fr (by kernel_rfl) (by kernel_rfl) ?_
      repeat (go_big_quiet_step (first | (go_at_call 20; with_reducible exact Calls.fr_of _ (P1.out _ (FrW.fr _)))))
      refine wpQuiet_nil ?_
      rintro _ ⟨nq, rfl⟩
      have GC := nq.fr
      go_wp2_with fail
      go_roundw
      case rel => exact ⟨k + 1, by omega, by go_num, Lib.hid (hF.out.trans GC)⟩
      case measure => simp [intOf]; omega
    · obtain rfl : k = rs.length := by omega
      have d0 : decide ((rs.length : Int) < (rs.length : Int)) = false := by simp
      go_wp2_with fail
      go_ret
      exact ⟨rfl, hF.out⟩
end Go.Proofs.Ytknpdkfjmhpbpaa
