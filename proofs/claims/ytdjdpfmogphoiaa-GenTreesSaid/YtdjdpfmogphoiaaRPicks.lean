/- The reference's Picks; Picks of workers that there are not. -/
import Derived.Test.YtdjdpfmogphoiaaPicksI
import Derived.Test.YtdjdpfmogphoiaaRNodes
import Derived.Test.YtdjdpfmogphoiaaRight
namespace Go.Proofs.Ytdjdpfmogphoiaa
open Go.RowKit Go.Maps Go.ChangeShapes Go.WideShapes Go.ChangeAt Go.WideMaps Go.WideElems

/-- Between two rounds. -/
structure RP (w wr : World) (b : Nat) (s wk : Int) (k : Nat) (sp : Option Addr) (c : Nat) : Prop where
  lot : IsLot 51 wr b (stp s k)
  row : wr.ownsRow w.heap.size 41 2 (.slice sp k c) k (PL s wk k)
  below : Below w.heap.size w wr
  hb : w.heap.size ≤ b

theorem RP.step {w wr w2 w4 : World} {b k : Nat} {s wk : Int} {sp sp' : Option Addr} {c c' : Nat} {X : Obj} (h : RP w wr b s wk k sp c) (l2 : IsLot 51 w2 b (nxS (nxS (stp s k)))) (f2 : Fr (fun j => j = b) wr w2)
    (hown : w4.ownsRow w.heap.size 41 2 (.slice sp' (k + 1) c') (k + 1) (PL s wk k ++ [.int .i64 (nxV (stp s k) wk), .int .i64 (nxV (nxS (stp s k)) wk)])) (hgrow : (w2.alloc X).grownBy w4 (Value.slice sp k c).ownBlock) : RP w w4 b s wk (k + 1) sp' c' := by
  have n1 := ownsRow.ne h.row h.lot (by intro c; simp)
  refine ⟨heapGrown hgrow (heapAlloc l2) n1, hown, h.below.trans ((f2.below h.below.size (fun j hj e => by have := h.hb; omega)).trans ?_), h.hb⟩
  have hs2 : w.heap.size ≤ w2.heap.size := Nat.le_trans h.below.size f2.size
  exact ((Below.refl _ w2).alloc hs2 X).grown hgrow (by simp; omega) (fun j e => (h.row.lt j e).1)

set_option maxHeartbeats 4000000 in
set_option maxRecDepth 100000 in
theorem rpicks_any (seed wk n : Int) (w : World) (hw1 : 1 ≤ wk) (hw2 : wk ≤ 64) (hn : n ≤ 300) :
    Calls Try.prog 18 #[.int .i64 seed, .int .i64 wk, .int .i64 n] w fun e w' => (∃ sp c, e = .returned (.slice sp n.toNat c) ∧ w'.ownsRow w.heap.size 41 2 (.slice sp n.toNat c) n.toNat (PL (seedS seed) wk n.toNat)) ∧ Below w.heap.size w w' := by
  have hN : n.toNat ≤ 300 := by omega
  have d1 : decide (wk < 1) = false := by simp; omega
  have d2 : decide (64 < wk) = false := by simp; omega
  have d3 : decide (1000000 < n) = false := by simp; omega
  go_enter Try.func18, Try.ntmps18
  go_wp2_with fail
  refine (RNew_any _ _).mono ?_
  rintro e w2 ⟨rfl, rfl⟩
  have L0 := Lib.hid (show RP w (w.alloc (.cells #[.int .i64 (seedS seed)] 51)) w.heap.size (seedS seed) wk 0 none 0 from ⟨heapNew w _, World.ownsRow_nil _ _ _ _, (Below.refl _ w).alloc (Nat.le_refl _) _, Nat.le_refl _⟩)
  generalize hs0 : seedS seed = s0 at *
  have HS0 := Lib.hid hs0
  clear hs0
  go_wp2_with fail
  go_loopw [9, 8] (fun i o wr => ∃ (k : Nat) (sp : Option Addr) (c : Nat), k ≤ n.toNat ∧ i = .int .i64 k ∧ o = .slice sp k c ∧ Hid (RP w wr w.heap.size s0 wk k sp c)) (fun i _ _ => n.toNat - (intOf i).toNat)
  case atStart => exact ⟨0, none, 0, by omega, rfl, rfl, L0.out⟩
  case round =>
    obtain ⟨k, spo, co, hk, rfl, rfl, hL⟩ := hrel
    clear L0
    by_cases hlt : k < n.toNat
    · have i1 : (k : Int) < n := by omega
      have hi4 : (k : Int) < 300 := by omega
      have P1 := Lib.hid (RNext_any w.heap.size _ wk wr hL.out.lot)
      have P2 := Lib.hid (fun w1 (h : IsLot 51 w1 w.heap.size (nxS (stp s0 k))) => RNext_any w.heap.size _ wk w1 h)
      obtain ⟨u, hu⟩ : ∃ u, u = nxV (stp s0 k) wk := ⟨_, rfl⟩
      obtain ⟨v, hv⟩ : ∃ v, v = nxV (nxS (stp s0 k)) wk := ⟨_, rfl⟩
      rw [← hu] at P1
      rw [← hv] at P2
      have HU := Lib.hid hu
      have HV := Lib.hid hv
      clear hu hv
      go_wp2_with fail
      refine P1.out.mono ?_
      rintro e w3 ⟨rfl, l1, f1⟩
      have P3 := Lib.hid (P2.out w3 l1)
      have F1 := Lib.hid f1
      clear P1 P2 l1 f1
      go_wp2_with fail
      refine P3.out.mono ?_
      rintro e w5 ⟨rfl, l2, f2⟩
      have L2 := Lib.hid l2
      have F2 := Lib.hid (F1.out.trans f2)
      have n1 := ownsRow.ne hL.out.row hL.out.lot (by intro c; simp)
      have HRow := Lib.hid (ownsRow.fr hL.out.row F2.out (fun j hj e => n1 (by subst e; exact hj.symm)))
      have HSZ : w.heap.size ≤ w5.heap.size := Nat.le_trans hL.out.below.size F2.out.size
      clear P3 l2 f2 F1 n1
      have I41 := Lib.hid (info_parts info41)
      obtain ⟨i0, hi0, hz0, hz1, hz2⟩ := I41.out
      go_wp2_with (at_builtin; refine wpList_append_own _ rfl (.tmp 33) (.tmp 37) 38 rfl w.heap.size 41 i0 _ 2 16 Try.underlying38 hi0 hz0 hz1 hz2 rfl (by omega) (.slice spo k co) k (PL s0 wk k) rfl (ownsRow.fr HRow.out ((Fr.refl (fun _ => False) w5).alloc _) (by simp)) ⟨w5.heap.size, 0, none⟩ 1 1 [.int .i64 u, .int .i64 v] rfl rfl (news_new w5 _ 41) (by simp [Value.oneCell']) (by unfold maxLen; omega) (by omega) (by simp; omega) ?_; intro v7 w7 hown7 hgrow7 _; obtain ⟨sp7, c7, rfl⟩ := ownsRow.shape hown7; have HO7 := Lib.hid hown7; have HG7 := Lib.hid hgrow7; clear hown7 hgrow7)
      go_roundw
      case rel =>
        refine ⟨k + 1, sp7, c7, by omega, by go_num, rfl, ?_⟩
        have h7 := HO7.out
        rw [HU.out, HV.out] at h7
        exact RP.step hL.out L2.out F2.out h7 HG7.out
      case measure => simp [intOf]; omega
    · have i1 : ¬ (k : Int) < n := by omega
      have hie : k = n.toNat := by omega
      subst hie
      go_wp2_with fail
      go_ret
      exact ⟨⟨spo, co, rfl, by rw [HS0.out]; exact hL.out.row⟩, hL.out.below⟩

theorem picks_no (seed wk n : Int) (w : World) (h : wk < 1 ∨ 64 < wk) : Calls Try.prog 17 #[.int .i64 seed, .int .i64 wk, .int .i64 n] w fun e w' => e = .returned (.slice none 0 0) ∧ Below w.heap.size w w' := by
  rcases h with h | h
  · have d1 : decide (wk < 1) = true := by simpa using h
    go_enter Try.func17, Try.ntmps17
    go_wp2_with fail
    go_ret
    exact ⟨rfl, (Below.refl _ w).alloc (Nat.le_refl _) _⟩
  · have d1 : decide (wk < 1) = false := by simp; omega
    have d2 : decide (64 < wk) = true := by simpa using h
    go_enter Try.func17, Try.ntmps17
    go_wp2_with fail
    go_ret
    exact ⟨rfl, (Below.refl _ w).alloc (Nat.le_refl _) _⟩

theorem rpicks_no (seed wk n : Int) (w : World) (h : wk < 1 ∨ 64 < wk) : Calls Try.prog 18 #[.int .i64 seed, .int .i64 wk, .int .i64 n] w fun e w' => e = .returned (.slice none 0 0) ∧ w = w' := by
  rcases h with h | h
  · have d1 : decide (wk < 1) = true := by simpa using h
    go_enter Try.func18, Try.ntmps18
    go_wp2_with fail
    go_ret
    exact ⟨rfl, rfl⟩
  · have d1 : decide (wk < 1) = false := by simp; omega
    have d2 : decide (64 < wk) = true := by simpa using h
    go_enter Try.func18, Try.ntmps18
    go_wp2_with fail
    go_ret
    exact ⟨rfl, rfl⟩

theorem frB {w w' : World} (hb : Below w.heap.size w w') : Fr (fun _ => False) w w' := ⟨hb.os, hb.tape, hb.output, hb.size, fun k hk _ => hb.block k hk⟩

theorem gRun_cls (s : Int) (l : List Nat) : ∀ d ∈ (gRun s l).1, d.cls.length ≤ 1000 := by
  rcases List.eq_nil_or_concat l with h | ⟨l', a, h⟩
  · subst h; intro d hd; cases hd
  · rw [h, List.concat_eq_append, gRun_snoc]
    have ih := gRun_cls s l'
    intro d hd
    rw [List.mem_append] at hd
    rcases hd with hd | hd
    · exact ih d hd
    · simp at hd
      subst hd
      show (clsL _ _).length ≤ 1000
      rw [clsL_len]
      unfold gN
      have := (nxV_in (gC (gRun s l').2 a) 3).2 (by omega)
      omega
termination_by l.length
decreasing_by simp [h]
end Go.Proofs.Ytdjdpfmogphoiaa
