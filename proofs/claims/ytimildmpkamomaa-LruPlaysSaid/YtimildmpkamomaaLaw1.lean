/- SameInts, alive; what the laws lean on. -/
import Derived.Test.YtimildmpkamomaaKeys
import Derived.Test.YtimildmpkamomaaRows2
import Derived.Deep.Strs
namespace Go.Proofs.Ytimildmpkamomaa
open Go.RowKit Go.Maps Go.ChangeShapes Go.WideShapes Go.ChangeAt Go.WideMaps Go.WideElems

/-- Whole numbers, as they are read. -/
def RdI (w : World) (p : Option Addr) (l : List Int) : Prop :=
  ∀ (k : Nat) x, l[k]? = some x → ∃ g off, p = some ⟨g, off, none⟩ ∧ g < w.heap.size ∧ w.cell? ⟨g, off + k, none⟩ = some (.int .i64 x)
theorem RdI.fr {S : Nat → Prop} {w w' : World} {p : Option Addr} {l : List Int} (h : RdI w p l) (f : Fr S w w') (hn : ∀ g off, p = some ⟨g, off, none⟩ → ¬ S g) : RdI w' p l := fun k x hk => by
  obtain ⟨g, off, e, hg, hc⟩ := h k x hk
  exact ⟨g, off, e, Nat.lt_of_lt_of_le hg f.size, (f.cell (p := ⟨g, off + k, none⟩) hg (hn g off e)).trans hc⟩
theorem RdI.of {w : World} {base c : Nat} {sp : Option Addr} {l : List Int} (h : w.ownsRow base 3 1 (.slice sp l.length c) l.length (l.map (Value.int .i64))) : RdI w sp l := by
  intro k x hk
  have hlt : k < l.length := (List.getElem?_eq_some_iff.1 hk).1
  obtain ⟨g, off, cap, hv, _, _, hg, _, hcell, _⟩ := (OwnsWin.of_row h).cells (by omega)
  cases hv
  exact ⟨g, off, rfl, hg, hcell k _ (by rw [List.getElem?_map, hk]; rfl)⟩
theorem IsInts.rd {w : World} {v : Value} {l : List Int} (h : IsInts .i64 w v l) : ∃ p c, v = .slice p l.length c ∧ l.length ≤ c ∧ c ≤ maxLen ∧ RdI w p l := by
  obtain ⟨⟨p, c, rfl, h1, h2, h3⟩, _⟩ := h
  exact ⟨p, c, rfl, h1, h2, fun k x hk => h3 k x hk⟩

set_option maxHeartbeats 4000000 in
set_option maxRecDepth 100000 in
theorem sameInts_any (p1 p2 : Option Addr) (c1 c2 : Nat) (l : List Int) (w : World) (h1 : RdI w p1 l) (h2 : RdI w p2 l) (hn : l.length ≤ 100000) :
    Calls Try.prog 14 #[.slice p1 l.length c1, .slice p2 l.length c2] w fun e w' => e = .returned (.bool true) ∧ Fr (fun _ => False) w w' := by
  have H1 := Lib.hid h1
  have H2 := Lib.hid h2
  clear h1 h2
  have qn : ((l.length : Int) != (l.length : Int)) = false := by simp
  go_enter Try.func14, Try.ntmps14
  go_wp2_with fail
  go_loopw [5] (fun i wr => ∃ (k m : Nat), k ≤ l.length ∧ i = .int .i64 k ∧ wr = w.drewN m) (fun i _ => l.length - (intOf i).toNat)
  case atStart => exact ⟨0, 0, by omega, rfl, rfl⟩
  case round =>
    obtain ⟨k, m, hk, rfl, rfl⟩ := hrel
    by_cases hlt : k < l.length
    · obtain ⟨t, ht⟩ : ∃ t, l[k]? = some t := ⟨l[k], by simp [hlt]⟩
      obtain ⟨b1, o1, rfl, _, a0⟩ := H1.out k t ht
      obtain ⟨b2, o2, rfl, _, e0⟩ := H2.out k t ht
      have HW := Lib.hid (show ∀ n, (w.drewN m).drewN n = w.drewN (m + n) from fun n => World.drewN_drewN _ _ _)
      have x0 : (w.drewN m).cell? ⟨b1, o1 + k, none⟩ = some (.int .i64 t) := a0
      have y0 : (w.drewN m).cell? ⟨b2, o2 + k, none⟩ = some (.int .i64 t) := e0
      clear ht
      generalize w.drewN m = w9 at *
      have i1 : (k : Int) < (l.length : Int) := by omega
      go_wp2_with fail
      go_quiet (fail)
      go_wp2_with fail
      go_roundw
      case rel => exact ⟨k + 1, _, by omega, by go_num, HW.out _⟩
      case measure => simp [intOf]; omega
    · go_wp2_with fail
      go_ret
      exact ⟨rfl, ⟨rfl, rfl, rfl, Nat.le_refl _, fun _ _ _ => rfl⟩⟩

set_option maxRecDepth 100000 in
theorem alive_any (w : World) : Calls Try.prog 6 #[] w fun e w' => e = .returned (.bool true) ∧ Fr (fun _ => False) w w' := by
  have C1 : capS 1 = 1 := by decide
  have N1 := New_any 1 w
  rw [C1] at N1
  have K0 := IsCa.new 44 50 w 1
  have P1 := Lib.hid (Put_any w.heap.size _ 1 [] 1 5 _ K0 (by simp))
  have e1 : (rm [] 1 ++ [(1, 5)] : List Ent) = [(1, 5)] := rfl
  have e2 : (rm [(1, 5)] 2 ++ [(2, 6)] : List Ent) = [(1, 5), (2, 6)] := by decide
  rw [e1, if_pos (by decide), if_pos (by decide)] at P1
  have P2 := Lib.hid (fun S W (h : IsCa 44 50 W w.heap.size S 1 [(1, 5)]) => Put_any w.heap.size S 1 [(1, 5)] 2 6 W h (by simp))
  rw [e2, if_neg (by decide), if_neg (by decide)] at P2
  have FN := Lib.hid (show Fr (fun _ => False) w (w.alloc (.cells #[.int .i64 1, .slice none 0 0] 44)) from (Fr.refl _ w).alloc _)
  clear e1 e2 C1 K0
  have NN := Lib.hid N1
  clear N1
  go_enter Try.func6, Try.ntmps6
  go_wp2_with fail
  refine NN.out.mono ?_
  rintro e w1 ⟨rfl, rfl⟩
  go_wp2_with fail
  refine P1.out.mono ?_
  rintro e w2 ⟨rfl, f2, k2⟩
  have P3 := Lib.hid (P2.out _ _ k2)
  have F2 := Lib.hid (FN.out.step f2 (fun j e => .inr (by omega)))
  clear P1 P2 f2 k2
  go_wp2_with fail
  refine P3.out.mono ?_
  rintro e w3 ⟨rfl, f3, k3⟩
  have F3 := Lib.hid (F2.out.step f3 (fun j e => .inr (by
    rcases e with e | e
    · omega
    · have := FN.out.size; omega)))
  clear P3 f3 k3
  go_wp2_with fail
  go_ret
  exact ⟨rfl, F3.out⟩

/-- What a call reads as. -/
structure ActD where
  put : Bool
  k : Int
  v : Int
def ActR (_w : World) (cs : List Value) (d : ActD) : Prop := cs = [.bool d.put, .int .i64 d.k, .int .i64 d.v]

theorem acts_open {H : Type} {enc : TypeId × Value → H} {w : World} {v : Value} {d : DataW H} {ps : List MemPlace} {r : Reach} {b0 : Nat}
    (hval : Value.okWide Try.prog w r b0 22 v) (h : DataW.Trod enc Try.prog w 0 (fun _ => true) true 22 v d ps) : ∃ l, RowR 3 ActR w v l := by
  obtain ⟨a, n, c, rfl⟩ := okWide_slice Try.underlying22 hval
  obtain ⟨fuel, hf⟩ := h
  refine rowR_open Try.underlying22 (k := 3) (by kernel_rfl) (by omega) rfl (by simpa [Value.cells] using hf) (fun n cs y hl hy => ?_)
  obtain ⟨y0, y1, y2, m, _, _, h0, h1, h2⟩ := Go.Deep.trod_struct3 Try.underlying31 hy
  have e3 : Try.prog.cellsOf 3 = 1 := by kernel_rfl
  have e4 : Try.prog.cellsOf 4 = 1 := by kernel_rfl
  obtain ⟨c0, c1, c2, rfl⟩ : ∃ c0 c1 c2, cs = [c0, c1, c2] := by
    match cs, hl with
    | [c0, c1, c2], _ => exact ⟨c0, c1, c2, rfl⟩
  simp only [e3, e4, List.drop_zero, List.take_succ_cons, List.take_zero, List.drop_succ_cons] at h0 h1 h2
  obtain ⟨a0, ha0, _⟩ := DataW.trod_bool Try.underlying4 h0
  obtain ⟨a1, ha1, _, _⟩ := DataW.trod_int Try.underlying3 h1
  obtain ⟨a2, ha2, _, _⟩ := DataW.trod_int Try.underlying3 h2
  simp at ha0 ha1 ha2
  exact ⟨⟨a0, a1, a2⟩, by unfold ActR; rw [ha0, ha1, ha2]⟩
end Go.Proofs.Ytimildmpkamomaa
