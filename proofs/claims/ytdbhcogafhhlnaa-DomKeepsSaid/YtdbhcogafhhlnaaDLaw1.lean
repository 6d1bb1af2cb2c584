/- SameInts, alive. -/
import Derived.Test.YtdbhcogafhhlnaaDNode
import Derived.Deep.Strs
namespace Go.Proofs.Ytdbhcogafhhlnaa
open Go.RowKit Go.Maps Go.ChangeShapes Go.WideShapes Go.ChangeAt Go.WideMaps Go.WideElems

/-- Whole numbers, as they are read. -/
def RdI (w : World) (p : Option Addr) (l : List Int) : Prop :=
  ∀ (k : Nat) x, l[k]? = some x → ∃ g off, p = some ⟨g, off, none⟩ ∧ g < w.heap.size ∧ w.cell? ⟨g, off + k, none⟩ = some (.int .i64 x)
theorem RdI.fr {S : Nat → Prop} {w w' : World} {p : Option Addr} {l : List Int} (h : RdI w p l) (f : Fr S w w') (hn : ∀ g off, p = some ⟨g, off, none⟩ → ¬ S g) : RdI w' p l := fun k x hk => by
  obtain ⟨g, off, e, hg, hc⟩ := h k x hk
  exact ⟨g, off, e, Nat.lt_of_lt_of_le hg f.size, (f.cell (p := ⟨g, off + k, none⟩) hg (hn g off e)).trans hc⟩
theorem RdI.of {w : World} {base c : Nat} {sp : Option Addr} {l : List Int} (h : w.ownsRow base 3 1 (.slice sp l.length c) l.length (l.map (Value.int .i64))) : RdI w sp l := by
  intro k x hk
  have hlt : k < l.length := (List.getElem?_eq_some_iff.1 hk).1
  obtain ⟨g, off, cap, hv, _, _, hg, _, hcell, _⟩ := (OwnsWin.of_row h).cells (by omega)
  cases hv
  exact ⟨g, off, rfl, hg, hcell k _ (by rw [List.getElem?_map, hk]; rfl)⟩
set_option maxHeartbeats 4000000 in
set_option maxRecDepth 100000 in
theorem sameInts_any (p1 p2 : Option Addr) (c1 c2 : Nat) (l : List Int) (w : World) (h1 : RdI w p1 l) (h2 : RdI w p2 l) (hn : l.length ≤ 100000) :
    Calls Try.prog 26 #[.slice p1 l.length c1, .slice p2 l.length c2] w fun e w' => e = .returned (.bool true) ∧ Fr (fun _ => False) w w' := by
  have H1 := Lib.hid h1
  have H2 := Lib.hid h2
  clear h1 h2
  have qn : ((l.length : Int) != (l.length : Int)) = false := by simp
  go_enter Try.func26, Try.ntmps26
  go_wp2_with fail
  go_loopw [5] (fun i wr => ∃ (k m : Nat), k ≤ l.length ∧ i = .int .i64 k ∧ wr = w.drewN m) (fun i _ => l.length - (intOf i).toNat)
  case atStart => exact ⟨0, 0, by omega, rfl, rfl⟩
  case round =>
    obtain ⟨k, m, hk, rfl, rfl⟩ := hrel
    by_cases hlt : k < l.length
    · obtain ⟨t, ht⟩ : ∃ t, l[k]? = some t := ⟨l[k], by simp [hlt]⟩
      obtain ⟨b1, o1, rfl, _, a0⟩ := H1.out k t ht
      obtain ⟨b2, o2, rfl, _, e0⟩ := H2.out k t ht
      have HW := Lib.hid (show ∀ n, (w.drewN m).drewN n = w.drewN (m + n) from fun n => World.drewN_drewN _ _ _)
      have x0 : (w.drewN m).cell? ⟨b1, o1 + k, none⟩ = some (.int .i64 t) := a0
      have y0 : (w.drewN m).cell? ⟨b2, o2 + k, none⟩ = some (.int .i64 t) := e0
      clear ht
      generalize w.drewN m = w9 at *
      have i1 : (k : Int) < (l.length : Int) := by omega
      go_wp2_with fail
      go_quiet (fail)
      go_wp2_with fail
      go_roundw
      case rel => exact ⟨k + 1, _, by omega, by go_num, HW.out _⟩
      case measure => simp [intOf]; omega
    · go_wp2_with fail
      go_ret
      exact ⟨rfl, ⟨rfl, rfl, rfl, Nat.le_refl _, fun _ _ _ => rfl⟩⟩

theorem RdI.win {w : World} {base c : Nat} {sp : Option Addr} {l : List Int} (h : OwnsWin w base 3 1 (.slice sp l.length c) l.length (l.map (Value.int .i64))) : RdI w sp l := by
  intro k x hk
  have hlt : k < l.length := (List.getElem?_eq_some_iff.1 hk).1
  obtain ⟨g, off, cap, hv, _, _, hg, _, hcell, _⟩ := h.cells (by omega)
  cases hv
  exact ⟨g, off, rfl, hg, hcell k _ (by rw [List.getElem?_map, hk]; rfl)⟩

def nil0 (p : Int) : NodeD := ⟨p, ⟨#[]⟩, ⟨#[]⟩, [], []⟩
theorem Src.none (w : World) (size : Nat) : Src w size none 0 [] := ⟨by simp, fun _ => rfl, fun ad e => by cases e⟩
theorem RdNd.nil0 (w : World) (p : Int) : RdNd w (nil0 p) none none := ⟨Src.none w 1, Src.none w 2, Nat.zero_le _, Nat.zero_le _, Nat.zero_le _, fun p hp => (by cases hp)⟩

def ds0 : List NodeD := [nil0 (-1), nil0 0]
def els0 : List ElD := [⟨nil0 (-1), [1], 0, 1, -1⟩, ⟨nil0 0, [], 1, 1, -1⟩]
theorem new0 : newR ds0 = .inr els0 := by rfl

set_option maxHeartbeats 1000000 in
set_option maxRecDepth 100000 in
theorem alive_any (w : World) : Calls Try.prog 10 #[] w fun e w' => e = .returned (.bool true) ∧ Fr (fun _ => False) w w' := by
  have HB := heapNew w (.cells #[.int .i64 (-1), .string ⟨#[]⟩, .string ⟨#[]⟩, .slice none 0 0, .slice none 0 0, .int .i64 0, .string ⟨#[]⟩, .string ⟨#[]⟩, .slice none 0 0, .slice none 0 0] 25)
  have HF := Lib.hid ((Fr.refl (fun _ => False) w).alloc (.cells #[.int .i64 (-1), .string ⟨#[]⟩, .string ⟨#[]⟩, .slice none 0 0, .slice none 0 0, .int .i64 0, .string ⟨#[]⟩, .string ⟨#[]⟩, .slice none 0 0, .slice none 0 0] 25))
  have N := Lib.hid (New_any ds0 (some ⟨w.heap.size, 0, none⟩) 2 (w.alloc (.cells #[.int .i64 (-1), .string ⟨#[]⟩, .string ⟨#[]⟩, .slice none 0 0, .slice none 0 0, .int .i64 0, .string ⟨#[]⟩, .string ⟨#[]⟩, .slice none 0 0, .slice none 0 0] 25)) (fun k d hk => by
    match k, hk with
    | 0, hk =>
      cases hk
      exact ⟨w.heap.size, 0, none, 0, none, 0, rfl, ltOf HB, cellOf HB 0, cellOf HB 1, cellOf HB 2, cellOf HB 3, cellOf HB 4, RdNd.nil0 _ _⟩
    | 1, hk =>
      cases hk
      exact ⟨w.heap.size, 0, none, 0, none, 0, rfl, ltOf HB, cellOf HB 5, cellOf HB 6, cellOf HB 7, cellOf HB 8, cellOf HB 9, RdNd.nil0 _ _⟩
    | k + 2, hk => simp [ds0] at hk) (by simp [ds0]) (by unfold maxLen; omega))
  clear HB
  go_enter Try.func10, Try.ntmps10
  go_wp2_with fail
  refine N.out.mono ?_
  rintro e w1 ⟨f1, (⟨n, hn, -⟩ | ⟨els, tb, hn, rfl, hT, -, -⟩)⟩
  · rw [new0] at hn; cases hn
  rw [new0] at hn
  cases hn
  have F1 := Lib.hid (HF.out.trans f1)
  have L1 := Lib.hid (Len_any _ w1 tb els0 hT)
  have HT := Lib.hid hT
  have PN := Lib.hid (fun W => num_any W 0)
  clear N f1 hT HF
  go_wp2_with fail
  refine (PN.out _).mono ?_
  rintro e w2 ⟨rfl, rfl⟩
  go_wp2_with fail
  refine L1.out.mono ?_
  rintro e w3 ⟨rfl, f3⟩
  have F3 := Lib.hid (F1.out.trans f3)
  have C3 := Lib.hid (Children_any _ w3 tb els0 (HT.out.fr0 f3) 0 (by simp [els0, eltAt]))
  have hl0 : (els0.length : Int) = 2 := rfl
  rw [hl0]
  have he0 : (eltAt els0 0).kids = [1] := rfl
  rw [he0] at C3
  clear L1 f3 hl0 he0
  go_wp2_with fail
  refine C3.out.mono ?_
  rintro e w4 ⟨⟨sp, c, rfl, ho⟩, f4⟩
  have S4 := Lib.hid (show ∀ w5 p2 c2, Fr (fun _ => False) w4 w5 → RdI w5 p2 [1] → Calls Try.prog 26 #[.slice sp 1 c, .slice p2 1 c2] w5 fun e w' => e = .returned (.bool true) ∧ Fr (fun _ => False) w5 w' from fun w5 p2 c2 f h2 => sameInts_any sp p2 c c2 [1] w5 ((RdI.win (l := [1]) ho).fr f (by simp)) h2 (by simp))
  have F4 := Lib.hid (F3.out.trans f4)
  clear ho f4 C3
  have S5 := Lib.hid (S4.out (w4.alloc (.cells #[.int .i64 1] 3)) (some ⟨w4.heap.size, 0, none⟩) 1 ((Fr.refl _ w4).alloc _) (fun k x hk => by
    match k, hk with
    | 0, hk => cases hk; exact ⟨w4.heap.size, 0, rfl, ltOf (heapNew w4 _), cellOf (heapNew w4 _) 0⟩
    | k + 1, hk => simp at hk))
  go_wp2_with fail
  refine S5.out.mono ?_
  rintro e w6 ⟨rfl, f6⟩
  have F6 := Lib.hid ((F4.out.alloc _).trans f6)
  clear f6 S5 S4
  go_wp2_with fail
  go_ret
  exact ⟨rfl, F6.out⟩
end Go.Proofs.Ytdbhcogafhhlnaa
