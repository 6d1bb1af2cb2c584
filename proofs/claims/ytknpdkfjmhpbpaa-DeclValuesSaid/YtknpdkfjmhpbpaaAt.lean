/- At and inner. No condition but sizes. -/
import Derived.Test.YtknpdkfjmhpbpaaFind
namespace Go.Proofs.Ytknpdkfjmhpbpaa
open Go.RowKit Go.Maps Go.ChangeShapes Go.WideShapes Go.ChangeAt Go.WideMaps Go.WideElems

theorem skA_end (ts : List Tok) : skA ts (ts.length : Int) = (ts.length : Int) := by
  unfold skA
  rw [if_neg (by omega)]
theorem skA_fnd (ts : List Tok) (a b : Int) (i : Nat) : skA ts (fndV ts a b i : Int) = ((if fndV ts a b i < ts.length then skV ts (fndV ts a b i) else ts.length : Nat) : Int) := by
  have := fndV_le ts a b i
  by_cases h : fndV ts a b i < ts.length
  · rw [if_pos h, skA_in h]
  · rw [if_neg h, show fndV ts a b i = ts.length by omega, skA_end]

set_option maxRecDepth 100000 in
set_option maxHeartbeats 4000000 in
theorem At_any (w : World) (p : Option Addr) (c : Nat) (ts : List Tok) (i : Nat) (h : RdT w p ts) (hl : ts.length ≤ 100000) (hi : i ≤ ts.length) :
    Calls Try.prog 33 #[.slice p ts.length c, .int .i64 (i : Int)] w fun e w' => e = .returned (.int .i64 (atV ts i : Int)) ∧ Fr (fun _ => False) w w' := by
  have HP := Lib.hid h
  have FN := Lib.hid (Find_any w p c ts (i + 1) 12 14 h hl)
  rw [show ((i + 1 : Nat) : Int) = (i : Int) + 1 by omega] at FN
  have HE := Lib.hid (show skA ts (fndV ts 12 14 (i + 1) : Int) = (atV ts i : Int) by rw [skA_fnd]; rfl)
  generalize atV ts i = V at *
  clear h
  go_enter Try.func33, Try.ntmps33
  go_wp2_with fail
  refine FN.out.mono ?_
  rintro e w1 ⟨rfl, f1⟩
  have F1 := Lib.hid f1
  have SK := Lib.hid (Skip_any w1 p c ts (fndV ts 12 14 (i + 1)) (HP.out.fr f1) hl)
  rw [HE.out] at SK
  clear f1 FN HE
  go_wp2_with fail
  refine SK.out.mono ?_
  rintro e w2 ⟨rfl, f2⟩
  have F2 := Lib.hid f2
  clear f2 SK
  go_wp2_with fail
  go_ret
  exact ⟨rfl, F1.out.trans F2.out⟩

theorem RdT.cutA {w : World} {p : Option Addr} {ts : List Tok} (h : RdT w p ts) (i j : Nat) : RdT w (p.map fun x => x.add (i * 5)) ((ts.take j).drop i) := by
  intro k x hx
  rw [List.getElem?_drop, List.getElem?_take] at hx
  split at hx
  · obtain ⟨h0, g, off, hp, hg, hcl⟩ := h (i + k) x hx
    refine ⟨h0, g, off + i * 5, by rw [hp, Option.map_some, addOf _ _ rfl], hg, fun q u hq => ?_⟩
    have := hcl q u hq
    rw [show off + i * 5 + k * 5 + q = off + (i + k) * 5 + q by omega]
    exact this
  · cases hx
theorem cutLen {ts : List Tok} {i j : Nat} (hj : j ≤ ts.length) : ((ts.take j).drop i).length = j - i := by rw [List.length_drop, List.length_take]; omega
/-- A part of tokens, cloned. -/
theorem cloneA_any (w : World) (p : Option Addr) (c : Nat) (ts : List Tok) (i j : Nat) (L : List Tok) (hL : (ts.take j).drop i = L) (h : RdT w p ts) (hl : ts.length ≤ 100000) (hj : j ≤ ts.length) :
    Calls Try.prog 35 #[.slice (p.map fun x => x.add (i * 5)) (j - i) c] w fun e w' => ∃ v, e = .returned v ∧ NewT w L v w' := by
  subst hL
  have := clone_any (p.map fun x => x.add (i * 5)) c ((ts.take j).drop i) w (h.cutA i j) (by rw [cutLen hj]; omega)
  rwa [cutLen hj] at this
theorem cloneB_any (w : World) (p : Option Addr) (c : Nat) (ts : List Tok) (i j : Nat) (L : List Tok) (hL : (ts.take j).drop i = L) (hj : j ≤ ts.length) (hij : j ≤ i) :
    Calls Try.prog 35 #[.slice p (j - i) c] w fun e w' => ∃ v, e = .returned v ∧ NewT w L v w' := by
  subst hL
  have he : (ts.take j).drop i = [] := List.eq_nil_of_length_eq_zero (by rw [cutLen hj]; omega)
  have := clone_any p c [] w (RdT.nil _ _) (by simp)
  rw [he, show j - i = 0 by omega]
  exact this

set_option maxRecDepth 100000 in
set_option maxHeartbeats 4000000 in
theorem inner_any (w : World) (p : Option Addr) (c : Nat) (ts : List Tok) (i : Nat) (h : RdT w p ts) (hl : ts.length ≤ 100000) (hi : i < ts.length) (hc : ts.length ≤ c) (hcm : c ≤ maxLen) :
    Calls Try.prog 36 #[.slice p ts.length c, .int .i64 (i : Int)] w fun e w' => ∃ v, e = .returned v ∧ NewT w ((ts.take (fndV ts 15 15 (i + 1))).drop (i + 1)) v w' := by
  have HP := Lib.hid h
  have FN := Lib.hid (Find_any w p c ts (i + 1) 15 15 h hl)
  rw [show ((i + 1 : Nat) : Int) = (i : Int) + 1 by omega] at FN
  have hf1 := fndV_le ts 15 15 (i + 1)
  have hf2 := fndV_ge ts 15 15 (i + 1) (by omega)
  generalize fndV ts 15 15 (i + 1) = k at *
  unfold maxLen at hcm
  clear h
  obtain ⟨L, hL⟩ : ∃ L, (ts.take k).drop (i + 1) = L := ⟨_, rfl⟩
  rw [hL]
  have HLL := Lib.hid hL
  clear hL
  go_enter Try.func36, Try.ntmps36
  go_wp2_with fail
  refine FN.out.mono ?_
  rintro e w1 ⟨rfl, f1⟩
  have F1 := Lib.hid f1
  have HP1 := Lib.hid (HP.out.fr f1)
  clear f1 FN
  go_wp2_with fail
  all_goals first
    | with_reducible refine (cloneA_any _ _ _ ts (i + 1) k L HLL.out HP1.out hl hf1).mono ?_
    | with_reducible refine (cloneB_any _ _ _ ts (i + 1) k L HLL.out hf1 (by omega)).mono ?_
  all_goals
    rintro e w2 ⟨v, rfl, sp, c2, rfl, ho, f2⟩
    have HO := Lib.hid ho
    have F2 := Lib.hid f2
    clear ho f2
    go_wp2_with fail
    go_ret
    exact ⟨_, rfl, sp, c2, rfl, HO.out.lower F1.out.size, F1.out.trans F2.out⟩
end Go.Proofs.Ytknpdkfjmhpbpaa
