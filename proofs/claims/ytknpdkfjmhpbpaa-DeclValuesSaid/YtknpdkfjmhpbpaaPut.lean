/- put and name, in the reference, of plain code points. -/
import Derived.Test.YtknpdkfjmhpbpaaRd
namespace Go.Proofs.Ytknpdkfjmhpbpaa
open Go.RowKit Go.Maps Go.ChangeShapes Go.WideShapes Go.ChangeAt Go.WideMaps Go.WideElems

theorem info5 : (Try.prog.info? 5).map (fun i => (i.zero, i.size, i.bytes)) = some (some (.int .u8 0), 1, 1) := by kernel_rfl

set_option maxRecDepth 100000 in
set_option maxHeartbeats 4000000 in
theorem put_any (w : World) (B n cap : Nat) (sp : Option Addr) (xs : List Value) (x : Nat) (h : OwnsWin w B 5 1 (.slice sp n cap) n xs) (hx : x ≤ 127) (hn : n ≤ 200000) (hB : B ≤ w.heap.size) :
    Calls Try.prog 64 #[.slice sp n cap, .int .i64 (x : Int)] w fun e w' => ∃ sp' c', e = .returned (.slice sp' (n + 1) c') ∧ OwnsWin w' B 5 1 (.slice sp' (n + 1) c') (n + 1) (xs ++ [.int .u8 (x : Int)]) ∧ Fr (fun k => (Value.slice sp n cap).ownBlock = some k) w w' := by
  obtain ⟨i5, hb0, hb1, hb2, hb3⟩ := info_parts info5
  have H := Lib.hid h
  clear h
  have RT := Lib.hid (right_any (x : Int) (by omega) (by omega))
  have q0 : decide ((x : Int) < (128 : Int)) = true := decide_eq_true (by omega)
  have qz : IntKind.u8.wrap (x : Int) = (x : Int) := by
    show (x : Int) % 256 = x
    omega
  go_enter Try.func64, Try.ntmps64
  go_wp2_with (first
    | (go_at_call 60; refine (RT.out _).mono ?_; rintro e w' ⟨rfl, rfl⟩)
    | (at_builtin; refine wpList_append_src _ rfl (.tmp 11) (.tmp 14) 29 rfl B 5 i5 _ 1 1 Try.underlying29 hb0 hb1 hb2 hb3 rfl (by omega) (.slice sp n cap) n xs rfl (H.out.fr ((Fr.refl (fun _ => False) _).alloc _) (by simp)) (some ⟨_, 0, none⟩) 1 1 [.int .u8 (x : Int)] rfl (SrcW.one (heapNew _ _) rfl) (by simp [Value.oneCell']) (by unfold maxLen; omega) (by omega) (by rw [World.size_alloc]; omega) ?_; intro s7 c7 w7 hown hgrow _; have O7 := Lib.hid hown; have G7 := Lib.hid hgrow; clear hown hgrow))
  go_ret
  exact ⟨s7, c7, rfl, O7.out, ((Fr.refl _ _).alloc _).grown G7.out (fun k e => .inl e)⟩
end Go.Proofs.Ytknpdkfjmhpbpaa
