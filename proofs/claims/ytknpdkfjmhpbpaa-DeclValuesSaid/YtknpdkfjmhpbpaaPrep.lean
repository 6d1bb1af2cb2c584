/- Prepare, in the reference, of plain bytes. -/
import Derived.Test.YtknpdkfjmhpbpaaName
import Derived.Test.YtknpdkfjmhpbpaaSkip
namespace Go.Proofs.Ytknpdkfjmhpbpaa
open Go.RowKit Go.Maps Go.ChangeShapes Go.WideShapes Go.ChangeAt Go.WideMaps Go.WideElems

/-- Bytes as they are read. -/
def RdU (w : World) (p : Option Addr) (l : List Nat) : Prop := ∀ (k : Nat) x, l[k]? = some x → ∃ g off, p = some ⟨g, off, none⟩ ∧ g < w.heap.size ∧ w.cell? ⟨g, off + k, none⟩ = some (.int .u8 (x : Int))
theorem RdU.fr {w w' : World} {p : Option Addr} {l : List Nat} (h : RdU w p l) (f : Fr (fun _ => False) w w') : RdU w' p l := by
  intro k x hx
  obtain ⟨g, off, hp, hg, hc⟩ := h k x hx
  exact ⟨g, off, hp, Nat.lt_of_lt_of_le hg f.size, (f.cell (p := ⟨g, off + k, none⟩) hg (by simp)).trans hc⟩
theorem zl_snoc (l : List Nat) (x : Nat) : zl (l ++ [x]) = zl l ++ [(x : Int)] := by simp [zl]
theorem zl_len (l : List Nat) : (zl l).length = l.length := by simp [zl]
theorem zl_at {l : List Nat} {k x : Nat} (h : l[k]? = some x) : (zl l)[k]? = some (x : Int) := by unfold zl; rw [List.getElem?_map, h]; rfl
theorem take_at {l : List Nat} {k x : Nat} (h : l[k]? = some x) : l.take (k + 1) = l.take k ++ [x] := by rw [List.take_add_one, h]; rfl

set_option maxRecDepth 100000 in
set_option maxHeartbeats 4000000 in
theorem point_any (w : World) (g off n c x : Nat) (hc : w.cell? ⟨g, off, none⟩ = some (.int .u8 (x : Int))) (hx : x ≤ 127) (hn : 0 < n) :
    Calls Try.prog 66 #[.slice (some ⟨g, off, none⟩) n c] w fun e w' => e = .returned (.tuple #[.int .i64 (x : Int), .int .i64 1]) ∧ w' = w := by
  have q0 : decide ((x : Int) < (128 : Int)) = true := decide_eq_true (by omega)
  have qz : IntKind.i64.wrap (x : Int) = (x : Int) := IntWalk.i64_in _ (by omega)
  have i0 : (0 : Int) < (n : Int) := by omega
  go_enter Try.func66, Try.ntmps66
  go_wp2_with fail
  go_ret2
  exact ⟨rfl, rfl⟩

set_option maxRecDepth 100000 in
set_option maxHeartbeats 4000000 in
theorem Points_any (w : World) (p : Option Addr) (c : Nat) (l : List Nat) (h : RdU w p l) (ho : ∀ x ∈ l, x ≤ 127) (hl : l.length ≤ 100000) (hc : l.length ≤ c) :
    Calls Try.prog 53 #[.slice p l.length c] w fun e w' => ∃ v, e = .returned v ∧ IW w (zl l) v w' := by
  obtain ⟨i3, hb0, hb1, hb2, hb3⟩ := info_parts info3
  have H := Lib.hid h
  have HO := Lib.hid ho
  clear h ho
  go_enter Try.func53, Try.ntmps53
  go_wp2_with fail
  go_loopw [3, 4] (fun v iv wr => ∃ (k : Nat), iv = .int .i64 k ∧ k ≤ l.length ∧ Hid (IW w (zl (l.take k)) v wr)) (fun _ iv _ => l.length - (intOf iv).toNat)
  case atStart => exact ⟨0, rfl, by omega, Lib.hid (IW.nil (Fr.refl _ _))⟩
  case round =>
    obtain ⟨k, rfl, hk, hI⟩ := hrel
    obtain ⟨⟨sp, c9, rfl, hO⟩, hF⟩ := hI.out
    by_cases hlt : k < l.length
    · have d0 : decide ((k : Int) < (l.length : Int)) = true := decide_eq_true (by omega)
      obtain ⟨x, hx⟩ : ∃ x, l[k]? = some x := ⟨l[k], List.getElem?_eq_getElem hlt⟩
      obtain ⟨g, off, rfl, _, a0⟩ := (H.out.fr hF) k x hx
      have hx7 := HO.out x (List.mem_of_getElem? hx)
      have PT := Lib.hid (point_any wr g (off + k) (l.length - k) (c - k) x a0 hx7 (by omega))
      have HTK := Lib.hid (take_at hx)
      have HF := Lib.hid hF
      obtain ⟨n, hn⟩ : ∃ n, (zl (l.take k)).length = n := ⟨_, rfl⟩
      rw [hn] at hO ⊢
      have HO9 := Lib.hid hO
      have hn2 : n ≤ 100000 := by rw [← hn, zl_len, List.length_take]; omega
      clear hx hF hO hI a0
      go_wp2_with (first
        | (go_at_call 66; refine PT.out.mono ?_; rintro e w' ⟨rfl, rfl⟩)
        | (at_builtin; refine wpList_append_src _ rfl (.tmp 18) (.tmp 20) 39 rfl w.heap.size 3 i3 _ 1 8 Try.underlying39 hb0 hb1 hb2 hb3 rfl (by omega) (.slice sp n c9) n _ rfl (HO9.out.fr ((Fr.refl (fun _ => False) _).alloc _) (by simp)) (some ⟨_, 0, none⟩) 1 1 [.int .i64 (x : Int)] rfl (SrcW.one (heapNew _ _) rfl) (by simp [Value.oneCell']) (by unfold maxLen; omega) (by omega) (by rw [World.size_alloc]; exact Nat.le_succ_of_le HF.out.size) ?_; intro s7 c7 w7 hown hgrow _; have R7 := Lib.hid (iw_step hn HF.out HO9.out hown hgrow); clear hown hgrow))
      go_roundw
      case rel => exact ⟨k + 1, by go_num, by omega, Lib.hid (by rw [HTK.out, zl_snoc]; exact R7.out)⟩
      case measure => simp [intOf]; omega
    · obtain rfl : k = l.length := by omega
      have d0 : decide ((l.length : Int) < (l.length : Int)) = false := by simp
      have hI2 := Lib.hid (show IW w (zl l) (.slice sp (zl (l.take l.length)).length c9) wr from by have h := hI.out; rwa [List.take_of_length_le (Nat.le_refl _)] at h ⊢)
      clear hO hF hI
      generalize (zl (l.take l.length)).length = n at *
      go_wp2_with fail
      go_ret
      exact ⟨_, rfl, hI2.out⟩

set_option maxRecDepth 100000 in
set_option maxHeartbeats 4000000 in
theorem Prepare_any (w : World) (p : Option Addr) (c : Nat) (l : List Nat) (h : RdU w p l) (ho : Okl l) (hl : l.length ≤ 100000) (hc : l.length ≤ c) :
    Calls Try.prog 32 #[.slice p l.length c] w fun e w' => ∃ v, e = .returned v ∧ IW w (zl l) v w' := by
  obtain ⟨i3, hb0, hb1, hb2, hb3⟩ := info_parts info3
  have HO := Lib.hid ho
  have P := Lib.hid (Points_any w p c l h (fun x hx => by have := okZ_of (ho x hx); unfold okZ at this; omega) hl hc)
  clear h ho
  go_enter Try.func32, Try.ntmps32
  go_wp2_with (go_at_call 53; refine P.out.mono ?_; rintro e w1 ⟨v1, rfl, ⟨s1, c1, rfl, o1⟩, f1⟩; have O1 := Lib.hid (RdZ.win o1); have F1 := Lib.hid f1; clear o1 f1)
  go_loopw [4, 5] (fun v iv wr => ∃ (k : Nat), iv = .int .i64 k ∧ k ≤ l.length ∧ Hid (IW w1 (zl (l.take k)) v wr)) (fun _ iv _ => l.length - (intOf iv).toNat)
  case atStart => exact ⟨0, rfl, by omega, Lib.hid (IW.nil (Fr.refl _ _))⟩
  case round =>
    obtain ⟨k, rfl, hk, hI⟩ := hrel
    obtain ⟨⟨sp, c9, rfl, hO⟩, hF⟩ := hI.out
    rw [show (zl l).length = l.length from zl_len l]
    by_cases hlt : k < l.length
    · have d0 : decide ((k : Int) < (l.length : Int)) = true := decide_eq_true (by omega)
      obtain ⟨x, hx⟩ : ∃ x, l[k]? = some x := ⟨l[k], List.getElem?_eq_getElem hlt⟩
      obtain ⟨g, off, rfl, _, a0⟩ := (O1.out.fr hF) k _ (zl_at hx)
      have hok := okZ_of (HO.out x (List.mem_of_getElem? hx))
      have e13 : ((x : Int) == 13) = false := by rw [beq_eq_false_iff_ne]; unfold okZ at hok; omega
      have e12 : ((x : Int) == 12) = false := by rw [beq_eq_false_iff_ne]; unfold okZ at hok; omega
      have e00 : ((x : Int) == 0) = false := by rw [beq_eq_false_iff_ne]; unfold okZ at hok; omega
      have hk2 : (k : Int) < (l.length : Int) := by omega
      have HTK := Lib.hid (take_at hx)
      have HF := Lib.hid hF
      obtain ⟨n, hn⟩ : ∃ n, (zl (l.take k)).length = n := ⟨_, rfl⟩
      rw [hn] at hO ⊢
      have HO9 := Lib.hid hO
      have hn2 : n ≤ 100000 := by rw [← hn, zl_len, List.length_take]; omega
      clear hx hF hO hI hok
      go_wp2_with (at_builtin; refine wpList_append_src _ rfl (.tmp 14) (.tmp 19) 39 rfl w1.heap.size 3 i3 _ 1 8 Try.underlying39 hb0 hb1 hb2 hb3 rfl (by omega) (.slice sp n c9) n _ rfl (HO9.out.fr ((Fr.refl (fun _ => False) _).alloc _) (by simp)) (some ⟨_, 0, none⟩) 1 1 [.int .i64 (x : Int)] rfl (SrcW.one (heapNew _ _) rfl) (by simp [Value.oneCell']) (by unfold maxLen; omega) (by omega) (by rw [World.size_alloc]; exact Nat.le_succ_of_le HF.out.size) ?_; intro s7 c7 w7 hown hgrow _; have R7 := Lib.hid (iw_step hn HF.out HO9.out hown hgrow); clear hown hgrow)
      go_roundw
      case rel => exact ⟨k + 1, by go_num, by omega, Lib.hid (by rw [HTK.out, zl_snoc]; exact R7.out)⟩
      case measure => simp [intOf]; omega
    · obtain rfl : k = l.length := by omega
      have d0 : decide ((l.length : Int) < (l.length : Int)) = false := by simp
      have hI2 := Lib.hid (show IW w1 (zl l) (.slice sp (zl (l.take l.length)).length c9) wr from by have h := hI.out; rwa [List.take_of_length_le (Nat.le_refl _)] at h ⊢)
      clear hO hF hI
      generalize (zl (l.take l.length)).length = n at *
      go_wp2_with fail
      go_ret
      obtain ⟨⟨s2, c2, e2, o2⟩, f2⟩ := hI2.out
      exact ⟨_, rfl, ⟨s2, c2, e2, o2.lower F1.out.size⟩, F1.out.trans f2⟩
end Go.Proofs.Ytknpdkfjmhpbpaa
