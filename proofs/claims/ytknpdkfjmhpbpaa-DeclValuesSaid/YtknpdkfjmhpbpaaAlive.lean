/- rules' alive: the example of the document. No condition. -/
import Derived.Test.YtknpdkfjmhpbpaaToks
import Derived.Test.YtknpdkfjmhpbpaaPrep
import Derived.Test.YtknpdkfjmhpbpaaParse
import Derived.Test.YtknpdkfjmhpbpaaSame
import Derived.Lib.SlBytesConst
namespace Go.Proofs.Ytknpdkfjmhpbpaa
open Go.RowKit Go.Maps Go.ChangeShapes Go.WideShapes Go.ChangeAt Go.WideMaps Go.WideElems

def tkA : List Tok := [⟨1, bOf [97], 0, false, 0⟩, ⟨9, ⟨#[]⟩, 0, false, 0⟩, ⟨14, ⟨#[]⟩, 0, false, 0⟩, ⟨9, ⟨#[]⟩, 0, false, 0⟩, ⟨1, bOf [98], 0, false, 0⟩, ⟨9, ⟨#[]⟩, 0, false, 0⟩, ⟨15, ⟨#[]⟩, 0, false, 0⟩]
theorem parA : parV tkA 0 = [⟨[⟨1, bOf [97], 0, false, 0⟩, ⟨9, ⟨#[]⟩, 0, false, 0⟩], [⟨9, ⟨#[]⟩, 0, false, 0⟩, ⟨1, bOf [98], 0, false, 0⟩, ⟨9, ⟨#[]⟩, 0, false, 0⟩]⟩] :=
  parV_block [⟨1, bOf [97], 0, false, 0⟩, ⟨9, ⟨#[]⟩, 0, false, 0⟩] [⟨9, ⟨#[]⟩, 0, false, 0⟩, ⟨1, bOf [98], 0, false, 0⟩, ⟨9, ⟨#[]⟩, 0, false, 0⟩] [⟨15, ⟨#[]⟩, 0, false, 0⟩] ⟨14, ⟨#[]⟩, 0, false, 0⟩ rfl (by unfold Flat; simp) (by unfold Flat; simp) (by simp) (by simp) (.inr ⟨_, rfl, rfl⟩)

set_option maxRecDepth 100000 in
set_option maxHeartbeats 4000000 in
theorem alive_any (w : World) : Calls Try.prog 15 #[] w fun e w' => e = .returned (.bool true) ∧ Fr (fun _ => False) w w' := by
  have hok : Okl [97, 32, 123, 32, 98, 32, 125] := by
    unfold Okl okC
    simp [letN]
  have HB := Lib.hid (show (w.alloc (.cells #[.int .u8 97, .int .u8 32, .int .u8 123, .int .u8 32, .int .u8 98, .int .u8 32, .int .u8 125] 5 (7, 8))).heap[w.heap.size]? = some (.cells #[.int .u8 97, .int .u8 32, .int .u8 123, .int .u8 32, .int .u8 98, .int .u8 32, .int .u8 125] 5 (7, 8)) from heapNew _ _)
  have HF := Lib.hid ((Fr.refl (fun _ => False) w).alloc (.cells #[.int .u8 97, .int .u8 32, .int .u8 123, .int .u8 32, .int .u8 98, .int .u8 32, .int .u8 125] 5 (7, 8)))
  have HOK := Lib.hid hok
  clear hok
  have HU := Lib.hid (show RdU (w.alloc (.cells #[.int .u8 97, .int .u8 32, .int .u8 123, .int .u8 32, .int .u8 98, .int .u8 32, .int .u8 125] 5 (7, 8))) (some ⟨w.heap.size, 0, none⟩) [97, 32, 123, 32, 98, 32, 125] from fun k x hx => by
    refine ⟨_, 0, rfl, ltOf HB.out, ?_⟩
    rw [cellOf HB.out]
    match k, hx with
    | 0, h => cases h; rfl
    | 1, h => cases h; rfl
    | 2, h => cases h; rfl
    | 3, h => cases h; rfl
    | 4, h => cases h; rfl
    | 5, h => cases h; rfl
    | 6, h => cases h; rfl)
  have kc := Lib.run_convert_bytes_const (P := Try.prog) w 29 5 #[.int .u8 97, .int .u8 32, .int .u8 123, .int .u8 32, .int .u8 98, .int .u8 32, .int .u8 125] 7 7 Try.underlying29 Try.underlying5
  clear HB
  go_enter Try.func15, Try.ntmps15
  go_wp2_with fail
  generalize w.alloc (.cells #[.int .u8 97, .int .u8 32, .int .u8 123, .int .u8 32, .int .u8 98, .int .u8 32, .int .u8 125] 5 (7, 8)) = w1 at *
  generalize w.heap.size = nb at *
  have PR := Lib.hid (Prepare_any w1 (some ⟨nb, 0, none⟩) 7 [97, 32, 123, 32, 98, 32, 125] HU.out HOK.out (by simp) (by simp))
  refine PR.out.mono ?_
  rintro e w2 ⟨v2, rfl, ⟨s2, c2, rfl, o2⟩, f2⟩
  have F2 := Lib.hid (HF.out.trans f2)
  have TK := Lib.hid (Tokens_any w2 s2 c2 [97, 32, 123, 32, 98, 32, 125] (RdZ.win o2) HOK.out (by simp))
  rw [tokS_alive] at TK
  clear o2 f2 PR HU
  go_wp2_with fail
  refine TK.out.mono ?_
  rintro e w3 ⟨v3, rfl, ⟨s3, c3, rfl, o3, f3⟩, -, hz3⟩
  have F3 := Lib.hid (F2.out.trans f3)
  have hcl := o3.capLe rfl
  have PA := Lib.hid (Parse_any w3 s3 c3 tkA (RdT.win o3 (fun x hx => by have := hz3 x hx; unfold maxLen; omega)) (by unfold tkA; simp) hcl.1 hcl.2)
  rw [parA] at PA
  clear o3 f3 hz3 TK hcl
  go_wp2_with fail
  refine PA.out.mono ?_
  rintro e w4 ⟨v4, rfl, h4⟩
  have F4 := Lib.hid (F3.out.trans h4.fr)
  obtain ⟨s4, c4, rfl, r4⟩ := h4.rd
  obtain ⟨g, off, p1, d1, p2, d2, rfl, hg, x0, x1, -, -⟩ := r4 0 _ rfl
  clear r4 h4 PA
  simp only [List.length_cons, List.length_nil, Nat.zero_mul, Nat.add_zero, Nat.zero_add, Nat.reduceAdd] at x0 x1 ⊢
  go_wp2_with fail
  go_ret
  exact ⟨rfl, F4.out⟩
end Go.Proofs.Ytknpdkfjmhpbpaa
