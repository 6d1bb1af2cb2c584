/- Bytes: the walk; encoding, plain. -/
import Derived.Test.YtfgmhpdhgepalaaDoorRPts
namespace Go.Proofs.YtfgmhpdhgepalaaDoor
open Go.RowKit Go.Shelf Go.Maps Go.ChangeShapes Go.WideShapes Go.ChangeAt Go.WideMaps Go.WideElems

/-- The bytes of a number. -/
def enc (z : Int) : List Nat := (Lib.encodeRuneZ z).map Int.toNat
theorem enc_cells (z : Int) : Lib.runeCells z = bR (enc z) := by
  unfold Lib.runeCells bR enc
  rw [List.map_map]
  apply List.map_congr_left
  intro x hx
  have := Lib.encodeRuneZ_byte z x hx
  simp only [Function.comp_apply, Value.int.injEq, true_and]
  omega
theorem enc_len (z : Int) : 1 ≤ (enc z).length ∧ (enc z).length ≤ 4 := by simpa [enc] using Lib.encodeRuneZ_length z
theorem enc_byte (z : Int) : ∀ x ∈ enc z, x < 256 := by
  intro x hx
  obtain ⟨y, hy, rfl⟩ := List.mem_map.1 hx
  have := Lib.encodeRuneZ_byte z y hy
  omega
theorem enc_bad {z : Int} (h : z < 0 ∨ 1114111 < z) : enc 65533 = enc z := by
  unfold enc
  rw [Lib.encodeRuneZ_bad (r := z) (by omega), Lib.encodeRuneZ_three (by omega)]
  rfl
def encs (l : List Int) : List Nat := l.flatMap enc
theorem encs_snoc (l : List Int) (z : Int) : encs (l ++ [z]) = encs l ++ enc z := by simp [encs]
theorem encs_len (l : List Int) : (encs l).length ≤ 4 * l.length := by
  induction l with
  | nil => simp [encs]
  | cons z r ih =>
    have := (enc_len z).2
    have e : encs (z :: r) = enc z ++ encs r := by simp [encs]
    rw [e, List.length_append, List.length_cons]
    omega
theorem encs_byte (l : List Int) : ∀ x ∈ encs l, x < 256 := by
  intro x hx
  obtain ⟨z, _, h⟩ := List.mem_flatMap.1 hx
  exact enc_byte z x h
theorem bR_app (a b : List Nat) : bR (a ++ b) = bR a ++ bR b := by simp [bR]
theorem bR_len (a : List Nat) : (bR a).length = a.length := by simp [bR]

/-- Whole numbers, as they are read. -/
def RdI (w : World) (p : Option Addr) (l : List Int) : Prop :=
  ∀ (k : Nat) x, l[k]? = some x → ∃ g off, p = some ⟨g, off, none⟩ ∧ w.cell? ⟨g, off + k, none⟩ = some (.int .i64 x)
theorem RdI.fr {w w' : World} {p : Option Addr} {l : List Int} (h : RdI w p l) (f : Fr (fun _ => False) w w') : RdI w' p l := fun k x hk => by
  obtain ⟨g, off, e, hc⟩ := h k x hk
  exact ⟨g, off, e, cellFr0 f hc⟩
def zs (l : List Nat) : List Int := l.map fun (x : Nat) => (x : Int)
theorem RdN.ints {w : World} {p : Option Addr} {l : List Nat} (h : RdN w p l) : RdI w p (zs l) := fun k x hk => by
  unfold zs at hk
  rw [List.getElem?_map] at hk
  obtain ⟨y, hy, rfl⟩ := Option.map_eq_some_iff.1 hk
  exact h k y hy
def NewB (w : World) (l : List Nat) (e : Ending) (w' : World) : Prop :=
  ∃ sp c, e = .returned (.slice sp l.length c) ∧ OwnsWin w' w.heap.size 5 1 (.slice sp l.length c) l.length (bR l) ∧ Fr (fun _ => False) w w'

/-- What has been written. -/
def Wr (w wr : World) (v : Value) (bs : List Nat) : Prop := wr.ownsRow w.heap.size 5 1 v bs.length (bR bs) ∧ Fr (fun _ => False) w wr
theorem append_any {w wr : World} {v : Value} {bs : List Nat} (h : Wr w wr v bs) (z : Int) (h0 : -2147483648 ≤ z) (h1 : z ≤ 2147483647) (hl : bs.length ≤ 1000000) :
    Calls Tryd.prog 23 #[v, .int .i32 z] wr fun e w' => ∃ v', e = .returned v' ∧ Wr w w' v' (bs ++ enc z) := by
  refine (Tryd.utf8_AppendRune_plain w.heap.size v bs.length (bR bs) z h0 h1 wr h.1 (by omega) h.2.size).mono ?_
  rintro e w' ⟨v', rfl, ho, o, hg⟩
  refine ⟨v', rfl, ?_, (h.2.alloc o).ownGrown (OwnsWin.of_row (ownsRow.fr h.1 ((Fr.refl (fun _ => False) wr).alloc o) (by simp))) (Nat.le_refl _) hg⟩
  rw [List.length_append, bR_app, ← enc_cells, show (enc z).length = (Lib.runeCells z).length by rw [enc_cells, bR_len]]
  exact ho

set_option maxHeartbeats 4000000 in
set_option maxRecDepth 100000 in
theorem Bytes_any (w : World) (p : Option Addr) (c : Nat) (l : List Int) (hr : RdI w p l) (hw : ∀ z ∈ l, -9223372036854775808 ≤ z ∧ z ≤ 9223372036854775807) (hl : l.length ≤ 100000) :
    Calls Tryd.prog 19 #[.slice p l.length c] w (NewB w (encs l)) := by
  have HR := Lib.hid hr
  have HW := Lib.hid hw
  clear hr hw
  go_enter Tryd.func19, Tryd.ntmps19
  go_wp2_with fail
  go_loopw [3, 5, 8] (fun o _ i wr => ∃ (k : Nat), k ≤ l.length ∧ i = .int .i64 k ∧ Hid (Wr w wr o (encs (l.take k)))) (fun _ _ i _ => l.length - (intOf i).toNat)
  case atStart => exact ⟨0, by omega, rfl, ⟨⟨by simp [encs, bR], .inl ⟨rfl, by simp [encs]⟩⟩, Fr.refl _ _⟩⟩
  case round =>
    obtain ⟨k, hk, rfl, hW⟩ := hrel
    by_cases hlt : k < l.length
    · obtain ⟨z, hz⟩ : ∃ x, l[k]? = some x := ⟨l[k], List.getElem?_eq_getElem hlt⟩
      obtain ⟨g, off, rfl, x0⟩ := (HR.out.fr hW.out.2) k z hz
      obtain ⟨z1, z2⟩ := HW.out z (List.mem_of_getElem? hz)
      have hlen := encs_len (l.take k)
      rw [List.length_take] at hlen
      have HS := Lib.hid (show encs (l.take (k + 1)) = encs (l.take k) ++ enc z by rw [List.take_add_one, hz]; exact encs_snoc _ _)
      have q1 : (k : Int) < (l.length : Int) := by omega
      clear hz
      by_cases h0 : z < 0
      · have A := Lib.hid (append_any hW.out 65533 (by omega) (by omega) (by omega))
        rw [enc_bad (.inl h0), ← HS.out] at A
        clear hW
        go_wp2_with (go_at_call 23; refine Calls.mono A.out ?_; rintro e w2 ⟨v2, rfl, h2⟩; have H2 := Lib.hid h2; clear h2)
        go_roundw
        case rel => exact ⟨k + 1, by omega, by first | rfl | go_num, H2.out⟩
        case measure => simp [intOf]; omega
      · by_cases h1 : 1114111 < z
        · have A := Lib.hid (append_any hW.out 65533 (by omega) (by omega) (by omega))
          rw [enc_bad (.inr h1), ← HS.out] at A
          clear hW
          go_wp2_with (go_at_call 23; refine Calls.mono A.out ?_; rintro e w2 ⟨v2, rfl, h2⟩; have H2 := Lib.hid h2; clear h2)
          go_roundw
          case rel => exact ⟨k + 1, by omega, by first | rfl | go_num, H2.out⟩
          case measure => simp [intOf]; omega
        · have A := Lib.hid (append_any hW.out z (by omega) (by omega) (by omega))
          rw [← HS.out] at A
          clear hW
          go_wp2_with (go_at_call 23; refine Calls.mono A.out ?_; rintro e w2 ⟨v2, rfl, h2⟩; have H2 := Lib.hid h2; clear h2)
          go_roundw
          case rel => exact ⟨k + 1, by omega, by first | rfl | go_num, H2.out⟩
          case measure => simp [intOf]; omega
    · obtain rfl : k = l.length := by omega
      have q1 : ¬ ((l.length : Int) < (l.length : Int)) := by omega
      rw [List.take_length] at hW
      obtain ⟨sp, cc, hv⟩ := (OwnsWin.of_row hW.out.1).shape
      subst hv
      go_wp2_with fail
      go_ret
      exact ⟨sp, cc, rfl, OwnsWin.of_row hW.out.1, hW.out.2⟩
end Go.Proofs.YtfgmhpdhgepalaaDoor
