/- Ordered: what it answers. -/
import Derived.Test.YtmfkomdfknflgaaDo2
import Derived.Deep.Cut
import Derived.Deep.CutRange
import Derived.Deep.DeepCutAuto
import Derived.Deep.RegionHeld3
namespace Go.Proofs.Ytmfkomdfknflgaa
open Go.RowKit Go.Maps Go.ChangeShapes Go.WideShapes Go.ChangeAt Go.WideMaps Go.WideElems

theorem two_a (w : World) (o1 o2 : Obj) : ((w.alloc o1).alloc o2).heap[w.heap.size]? = some o1 := heapAlloc (heapNew w o1)
theorem two_b (w : World) (o1 o2 : Obj) : ((w.alloc o1).alloc o2).heap[w.heap.size + 1]? = some o2 := by
  have := heapNew (w.alloc o1) o2
  rwa [World.size_alloc] at this
theorem dv_len (n : Nat) (e : Dn × Nat × Nat × Nat) : (dv n e).length = 3 := rfl
theorem flat3 (n : Nat) : ∀ (E : List (Dn × Nat × Nat × Nat)) (i : Nat) (e : Dn × Nat × Nat × Nat) (r : Nat), E[i]? = some e → r < 3 → (E.flatMap (dv n))[i * 3 + r]? = (dv n e)[r]?
  | x :: l, 0, e, r, h, hr => by
    obtain rfl : x = e := by simpa using h
    rw [List.flatMap_cons, List.getElem?_append_left (by rw [dv_len]; omega)]
    congr 1; omega
  | x :: l, i + 1, e, r, h, hr => by
    rw [List.flatMap_cons, List.getElem?_append_right (by rw [dv_len]; omega), dv_len, show (i + 1) * 3 + r - 3 = i * 3 + r by omega]
    exact flat3 n l i e r (by simpa using h) hr

def ordB (g : LG) (i k : Int) : Bool :=
  if i < 0 ∨ (g.L.length : Int) ≤ k ∨ k ≤ i then false else
  match g.L[i.toNat]?, g.L[k.toNat]? with
  | some x, some y => decide (x.own ≤ kn y x.who)
  | _, _ => false
set_option maxHeartbeats 2000000 in
theorem ordered_any (w : World) (b : Nat) (R : Nat → Role) (g : LG) (h : IsLog w b R g) (hW : ∀ d ∈ g.L, d.who < g.n) (i k : Int) (hL : g.L.length ≤ 100000) :
    Calls Try.prog 13 #[.pointer (some ⟨b, 0, none⟩), .int .i64 i, .int .i64 k] w fun e w' => e = .returned (.bool (ordB g i k)) ∧ Fr (fun _ => False) w w' := by
  obtain ⟨vc, vb, mb, vl, hl⟩ := h
  obtain ⟨E, hE, hv, _, hEb⟩ := hl.l
  obtain ⟨sp, sk, rfl⟩ := hv.shape
  have k4 := cellOf hl.blk 4
  simp at k4
  have eL : g.L.length = E.length := by rw [← hE, List.length_map]
  unfold ordB
  rw [eL] at hL ⊢
  by_cases c1 : i < 0
  · have d1 : decide (i < 0) = true := by simpa using c1
    rw [if_pos (.inl c1)]
    clear hl hE hv hEb eL c1
    go_enter Try.func13, Try.ntmps13
    go_wp2_with fail
    go_ret
    exact ⟨rfl, Fr.refl _ _⟩
  have d1 : decide (i < 0) = false := by simpa using c1
  by_cases c2 : (E.length : Int) ≤ k
  · have d2 : decide ((E.length : Int) ≤ k) = true := by simpa using c2
    rw [if_pos (.inr (.inl c2))]
    clear hl hE hv hEb eL c1 c2
    go_enter Try.func13, Try.ntmps13
    go_wp2_with fail
    go_ret
    exact ⟨rfl, Fr.refl _ _⟩
  have d2 : decide ((E.length : Int) ≤ k) = false := by simpa using c2
  by_cases c3 : k ≤ i
  · have d3 : decide (k ≤ i) = true := by simpa using c3
    rw [if_pos (.inr (.inr c3))]
    clear hl hE hv hEb eL c1 c2 c3
    go_enter Try.func13, Try.ntmps13
    go_wp2_with fail
    go_ret
    exact ⟨rfl, Fr.refl _ _⟩
  have d3 : decide (k ≤ i) = false := by simpa using c3
  rw [if_neg (by omega)]
  obtain ⟨i, rfl⟩ := Int.eq_ofNat_of_zero_le (by omega : 0 ≤ i)
  obtain ⟨k, rfl⟩ := Int.eq_ofNat_of_zero_le (by omega : 0 ≤ k)
  simp only [Int.toNat_natCast]
  obtain ⟨x, hx⟩ : ∃ x, E[i]? = some x := ⟨_, List.getElem?_eq_getElem (by omega)⟩
  obtain ⟨y, hy⟩ : ∃ y, E[k]? = some y := ⟨_, List.getElem?_eq_getElem (by omega)⟩
  have hx' : g.L[i]? = some x.1 := by rw [← hE, List.getElem?_map, hx]; rfl
  have hy' : g.L[k]? = some y.1 := by rw [← hE, List.getElem?_map, hy]; rfl
  rw [hx', hy']
  simp only
  obtain ⟨gg, off, cap, hvv, _, _, _, _, hcell, _⟩ := hv.cells (by omega)
  cases hvv
  have a0 := hcell (i * 3 + 0) _ (flat3 g.n E i x 0 hx (by omega))
  have a1 := hcell (i * 3 + 1) _ (flat3 g.n E i x 1 hx (by omega))
  have a2 := hcell (i * 3 + 2) _ (flat3 g.n E i x 2 hx (by omega))
  have b0 := hcell (k * 3 + 0) _ (flat3 g.n E k y 0 hy (by omega))
  have b1 := hcell (k * 3 + 1) _ (flat3 g.n E k y 1 hy (by omega))
  have b2 := hcell (k * 3 + 2) _ (flat3 g.n E k y 2 hy (by omega))
  have hw := hW _ (List.mem_of_getElem? hx')
  have DA := Lib.hid (show ∀ W, Fr (fun _ => False) w W → Calls Try.prog 26 #[.agg #[.int .i64 (y.1.who : Int), .int .i64 (y.1.own : Int), sl y.2.1 y.2.2.1 g.n y.2.2.2], .int .i64 (x.1.who : Int)] W fun e w' => e = .returned (.int .i64 (kn y.1 x.1.who : Nat)) ∧ Fr (fun _ => False) W w' from fun W f => dat_any W g.n y.1 _ _ _ _ ((hEb y (List.mem_of_getElem? hy)).2.1.fr f (by simp)) hw)
  unfold sl at DA
  simp only [sl] at a0 a1 a2 b0 b1 b2
  rw [Nat.add_zero] at a0 b0
  rw [← Nat.add_assoc] at a1 a2 b1 b2
  have lt1 : (i : Int) < (E.length : Int) := by omega
  have lt2 : (k : Int) < (E.length : Int) := by omega
  have hcap := hv.capLe rfl
  have d4 : decide (E.length ≤ k) = false := by simp; omega
  have d5 : decide (k ≤ i) = false := by simp; omega
  have n0 := World.new_ne w _ a0
  have n1 := World.new_ne w _ k4
  obtain ⟨x1, xb, xo, xc⟩ := x
  obtain ⟨y1, yb, yo, yc⟩ := y
  simp only at a0 a1 a2 b0 b1 b2 hw DA hx' hy' ⊢
  clear hl hE hv hEb eL hx hy hx' hy' hcell c1 c2 c3 hW
  go_enter Try.func13, Try.ntmps13
  go_upto_region 3 with fail
  go_cut [7, 8] from 25 to 38 (fun v7 v8 wx => ∃ s7 s8 : Nat, v7 = .pointer (some ⟨s7, 0, none⟩) ∧ v8 = .pointer (some ⟨s8, 0, none⟩) ∧ Hid (wx.heap[s7]? = some (.cells #[.int .i64 (x1.who : Int), .int .i64 (x1.own : Int), .slice (some ⟨xb, xo, none⟩) g.n xc] 61 (0, 0))) ∧ Hid (wx.heap[s8]? = some (.cells #[.int .i64 (y1.who : Int), .int .i64 (y1.own : Int), .slice (some ⟨yb, yo, none⟩) g.n yc] 61 (0, 0))) ∧ Hid (Fr (fun _ => False) w wx))
  case first =>
    go_region_held3 (fun w' => w'.cell? ⟨b, 4, none⟩ = some (.slice (some ⟨gg, off, none⟩) E.length sk) ∧ w'.cell? ⟨gg, off + i * 3, none⟩ = some (.int .i64 (x1.who : Int)) ∧ w'.cell? ⟨gg, off + i * 3 + 1, none⟩ = some (.int .i64 (x1.own : Int)) ∧ w'.cell? ⟨gg, off + i * 3 + 2, none⟩ = some (.slice (some ⟨xb, xo, none⟩) g.n xc) ∧ w'.cell? ⟨gg, off + k * 3, none⟩ = some (.int .i64 (y1.who : Int)) ∧ w'.cell? ⟨gg, off + k * 3 + 1, none⟩ = some (.int .i64 (y1.own : Int)) ∧ w'.cell? ⟨gg, off + k * 3 + 2, none⟩ = some (.slice (some ⟨yb, yo, none⟩) g.n yc)) (first | exact ⟨k4, a0, a1, a2, b0, b1, b2⟩ | go_keep) (fail)
    all_goals go_wp2_with fail
    all_goals go_meet
    case rel => exact ⟨_, _, rfl, rfl, Lib.hid (two_a _ _ _), Lib.hid (two_b _ _ _), Lib.hid ((((Fr.refl _ _).alloc _).alloc _).drew)⟩
    case rel => exact ⟨_, _, rfl, rfl, Lib.hid (two_b _ _ _), Lib.hid (two_a _ _ _), Lib.hid ((((Fr.refl _ _).alloc _).alloc _).drew)⟩
  case rest =>
    obtain ⟨s7, s8, rfl, rfl, H7, H8, F⟩ := hcut
    have p0 := cellOf H7.out 0
    have p1 := cellOf H7.out 1
    have q0 := cellOf H8.out 0
    have q1 := cellOf H8.out 1
    have q2 := cellOf H8.out 2
    simp at p0 p1 q0 q1 q2
    have r7 := ltOf H7.out
    have r8 := ltOf H8.out
    clear a0 a1 a2 b0 b1 b2 k4 n0 n1
    go_upto_region 4 with fail
    go_region_held3 (fun w' => w'.cell? ⟨s7, 0, none⟩ = some (.int .i64 (x1.who : Int)) ∧ w'.cell? ⟨s7, 1, none⟩ = some (.int .i64 (x1.own : Int)) ∧ w'.cell? ⟨s8, 0, none⟩ = some (.int .i64 (y1.who : Int)) ∧ w'.cell? ⟨s8, 1, none⟩ = some (.int .i64 (y1.own : Int)) ∧ w'.cell? ⟨s8, 2, none⟩ = some (.slice (some ⟨yb, yo, none⟩) g.n yc)) (first | exact ⟨p0, p1, q0, q1, q2⟩ | exact ⟨p0', p1', q0', q1', q2'⟩ | go_keep)
      (first | (go_at_call 26; refine (DA.out _ (by first | exact F.out | exact F.out.drew)).mono ?_; rintro e w6 ⟨rfl, f6⟩; have G6 := Lib.hid (show Fr (fun _ => False) wc w6 by first | exact f6 | exact (Fr.refl _ _).drew.trans f6); have p0' := (G6.out.cell (p := ⟨s7, 0, none⟩) r7 (by simp)).trans p0; have p1' := (G6.out.cell (p := ⟨s7, 1, none⟩) r7 (by simp)).trans p1; have q0' := (G6.out.cell (p := ⟨s8, 0, none⟩) r8 (by simp)).trans q0; have q1' := (G6.out.cell (p := ⟨s8, 1, none⟩) r8 (by simp)).trans q1; have q2' := (G6.out.cell (p := ⟨s8, 2, none⟩) r8 (by simp)).trans q2; clear f6))
    all_goals go_wp2_with fail
    all_goals go_ret
    all_goals exact ⟨by first | rfl | simp, F.out.trans G6.out⟩
end Go.Proofs.Ytmfkomdfknflgaa
