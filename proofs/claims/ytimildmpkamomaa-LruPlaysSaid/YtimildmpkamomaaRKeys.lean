/- The reference's Keys. -/
import Derived.Test.YtimildmpkamomaaRop
namespace Go.Proofs.Ytimildmpkamomaa
open Go.RowKit Go.Maps Go.ChangeShapes Go.WideShapes Go.ChangeAt Go.WideMaps Go.WideElems

set_option maxHeartbeats 4000000 in
set_option maxRecDepth 100000 in
theorem RKeys_any (b : Nat) (S : Nat → Prop) (size : Int) (E : List Ent) (w : World) (h : IsCa 47 52 w b S size E) (hn : E.length ≤ 1500) :
    Calls Try.prog 15 #[.pointer (some ⟨b, 0, none⟩)] w fun e w' => (∃ sp c, e = .returned (.slice sp E.length c) ∧ w'.ownsRow w.heap.size 3 1 (.slice sp E.length c) E.length (kys E)) ∧ Below w.heap.size w w' := by
  obtain ⟨hlt, hSb, sp, sc, hb, hrow, hSr⟩ := h
  obtain ⟨hc1, hc2⟩ := hrow.capLe rfl
  unfold maxLen at hc2
  obtain ⟨i9, hi, hz0, hz1, hz2⟩ := info_parts info3
  have HR := Lib.hid hrow
  have HB := Lib.hid hb
  clear hb hrow hSr
  go_enter Try.func15, Try.ntmps15
  go_wp2_with fail
  go_loopw [3, 4] (fun o i wr => ∃ (j : Nat) (so : Option Addr) (co : Nat), j ≤ E.length ∧ i = .int .i64 j ∧ o = .slice so j co ∧ Hid (wr.ownsRow w.heap.size 3 1 (.slice so j co) j (kys (E.take j))) ∧ Hid (Below w.heap.size w wr)) (fun _ i _ => E.length - (intOf i).toNat)
  case atStart => exact ⟨0, none, 0, Nat.zero_le _, rfl, rfl, World.ownsRow_nil _ _ _ _, Below.refl _ _⟩
  case round =>
    obtain ⟨j, so, co, hj, rfl, rfl, hO, hbw⟩ := hrel
    have c1 := cellOf ((hbw.out.block b (ltOf HB.out)).trans HB.out) 1
    simp at c1
    by_cases hlt2 : j < E.length
    · obtain ⟨g, off, rfl, hg, x0, _⟩ := entAt HR.out (frB hbw.out) j hlt2
      have HT := Lib.hid (show kys (E.take (j + 1)) = kys (E.take j) ++ [.int .i64 E[j].1] by rw [List.take_add_one, List.getElem?_eq_getElem hlt2]; show kys (E.take j ++ [E[j]]) = _; unfold kys; rw [List.map_append]; rfl)
      have i1 : (j : Int) < (E.length : Int) := by omega
      have HSZ : w.heap.size ≤ wr.heap.size := hbw.out.size
      generalize E[j].1 = x at *
      go_wp2_with (at_builtin; refine wpList_append_own _ rfl (.tmp 14) (.tmp 23) 33 rfl w.heap.size 3 i9 _ 1 8 Try.underlying33 hi hz0 hz1 hz2 rfl (by omega) (.slice so j co) j _ rfl (ownsRow.fr hO.out ((Fr.refl (fun _ => False) wr).alloc _) (by simp)) ⟨wr.heap.size, 0, none⟩ 1 1 [.int .i64 x] rfl rfl (news_new wr _ 3) (by simp [Value.oneCell']) (by unfold maxLen; omega) (by omega) (by simp; omega) ?_; intro v7 w7 hown7 hgrow7 _; obtain ⟨sp7, c7, rfl⟩ := ownsRow.shape hown7; have HO7 := Lib.hid hown7; have HG7 := Lib.hid hgrow7; clear hown7 hgrow7)
      go_roundw
      case rel =>
        have hb7 : Below w.heap.size w w7 := (hbw.out.alloc HSZ _).grown HG7.out (by simp; omega) (fun j e => (hO.out.lt j e).1)
        exact ⟨j + 1, sp7, c7, by omega, by go_num, rfl, by rw [HT.out]; exact HO7.out, hb7⟩
      case measure => simp [intOf]; omega
    · have hje : j = E.length := by omega
      have i1 : ¬ (j : Int) < (E.length : Int) := by omega
      subst hje
      go_wp2_with fail
      go_ret
      have h9 := hO.out
      rw [List.take_length] at h9
      exact ⟨⟨so, co, rfl, h9⟩, hbw.out⟩
end Go.Proofs.Ytimildmpkamomaa
