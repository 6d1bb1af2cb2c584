/- alive, BloomOne and BloomFull: they return true, and write nothing that was there. -/
import Derived.Test.YtfhojfndccelfaaZero
namespace Go.Proofs.Ytfhojfndccelfaa
open Go.RowKit Go.Maps Go.ChangeShapes Go.WideShapes Go.ChangeAt Go.WideMaps Go.WideElems

theorem zc_in : In255 zc := fun _ => by unfold zc; omega

theorem fil_new (T : TypeId) (q : IntKind) (w : World) : IsFil T q (w.alloc (.cells (tab q zc) T)) w.heap.size zc := heapNew _ _

/-- A slice of one hash that the call has just made. -/
theorem src_one (w : World) (h : Int) (hw : (Lit.int .i64 h).wf = true) (b : Nat) (hb : b < w.heap.size) : Src (w.alloc (.cells #[.int .i64 h] 3)) (.slice (some ⟨w.heap.size, 0, none⟩) 1 1) [h] b := by
  refine ⟨⟨⟨some ⟨w.heap.size, 0, none⟩, 1, rfl, by simp, by unfold maxLen; decide, fun i x hx => ?_⟩, by simpa using hw⟩, fun g off n c e _ => ?_⟩
  · cases i with
    | zero =>
      simp at hx
      subst hx
      exact ⟨w.heap.size, 0, rfl, by simp, by rw [cellOf (heapNew _ _)]; simp⟩
    | succ i => simp at hx
  · simp at e
    omega

set_option maxRecDepth 100000 in
theorem alive_any (w : World) : Calls Try.prog 9 #[] w fun e w' => e = .returned (.bool true) ∧ Below w.heap.size w w' := by
  have z26 := zero26
  go_enter Try.func9, Try.ntmps9
  go_wp2_with fail
  clear z26
  have hf := fil_new 26 .u8 w
  have b1 : Below w.heap.size w (w.alloc (.cells (tab .u8 zc) 26)) := (Below.refl _ _).alloc (Nat.le_refl _) _
  refine (May_any _ zc 5 _ hf).mono ?_
  rintro e w' ⟨rfl, rfl⟩
  have hge : w.heap.size ≤ w.heap.size := Nat.le_refl _
  generalize w.alloc (.cells (tab .u8 zc) 26) = w1 at *
  rw [show mayB zc 5 = false by decide]
  go_wp2_with fail
  have hs := src_one w1 5 (by decide) _ hf.lt
  have hf2 : IsFil 26 .u8 (w1.alloc (.cells #[.int .i64 5] 3)) w.heap.size zc := heapAlloc hf
  have b2 : Below w.heap.size w (w1.alloc (.cells #[.int .i64 5] 3)) := b1.alloc b1.size _
  refine (Push_any _ zc _ [5] _ hf2 hs zc_in).mono ?_
  rintro e w3 ⟨rfl, f3, hf3⟩
  have b3 : Below w.heap.size w w3 := b2.trans (f3.below b2.size (fun k hk e => by omega))
  have H := Lib.hid (May_any _ (many up zc [5]) 5 w3 hf3)
  rw [show mayB (many up zc [5]) 5 = true by decide] at H
  clear hf hf2 hs f3 hf3
  go_wp2_with fail
  refine H.out.mono ?_
  rintro e w' ⟨rfl, rfl⟩
  go_wp2_with fail
  go_ret
  exact ⟨rfl, b3⟩

end Go.Proofs.Ytfhojfndccelfaa
