/- decl's alive: the example of the document. No condition. -/
import Derived.Test.YtknpdkfjmhpbpaaAlive
import Derived.Test.YtknpdkfjmhpbpaaDParse
import Derived.Test.YtknpdkfjmhpbpaaSDec
namespace Go.Proofs.Ytknpdkfjmhpbpaa
open Go.RowKit Go.Maps Go.ChangeShapes Go.WideShapes Go.ChangeAt Go.WideMaps Go.WideElems

def tkB : List Tok := [⟨1, bOf [67, 111, 108, 111, 114], 0, false, 0⟩, ⟨9, ⟨#[]⟩, 0, false, 0⟩, ⟨11, ⟨#[]⟩, 0, false, 0⟩, ⟨9, ⟨#[]⟩, 0, false, 0⟩, ⟨1, bOf [114, 101, 100], 0, false, 0⟩, ⟨9, ⟨#[]⟩, 0, false, 0⟩, ⟨10, ⟨#[]⟩, 0, false, 33⟩, ⟨1, bOf [105, 109, 112, 111, 114, 116, 97, 110, 116], 0, false, 0⟩]
def wsT : Tok := ⟨9, ⟨#[]⟩, 0, false, 0⟩
theorem tokS_B : tokS [67, 111, 108, 111, 114, 32, 58, 32, 114, 101, 100, 32, 33, 105, 109, 112, 111, 114, 116, 97, 110, 116] = tkB := by
  simp [tokS_cons, tokS_nil, letN, sgnN, wh, List.dropWhile, List.takeWhile, tkB]
theorem lowColor : lowS (bOf [67, 111, 108, 111, 114]) = ⟨#[99, 111, 108, 111, 114]⟩ := by rfl
theorem lowImp : lowS (bOf [105, 109, 112, 111, 114, 116, 97, 110, 116]) = impS := by rfl
theorem oneB : oneV tkB = some ⟨⟨#[99, 111, 108, 111, 114]⟩, [(⟨1, bOf [114, 101, 100], 0, false, 0⟩ : Tok)], true⟩ := by
  unfold tkB oneV lt1
  simp only [List.dropWhile, isW, if_true, decide_true, decide_false, Int.reduceEq]
  unfold trimT rt1 lt1
  simp only [List.dropWhile, isW, decide_true, decide_false, Int.reduceEq, List.reverse_cons, List.reverse_nil, List.nil_append, List.cons_append]
  unfold impV
  simp only [List.getLast?_cons_cons, List.getLast?_singleton, lowImp, List.dropLast_cons_cons, List.dropLast_singleton, and_self, if_true]
  unfold trimT rt1 lt1
  simp [List.dropWhile, isW, lowColor]
theorem decB : decV tkB 0 = [⟨⟨#[99, 111, 108, 111, 114]⟩, [(⟨1, bOf [114, 101, 100], 0, false, 0⟩ : Tok)], true⟩] := by
  have h1 : fndV tkB 12 12 0 = 8 := by
    rw [fndV_plain tkB 12 12 8 (Nat.le_refl _) 0 (Nat.zero_le _) ?_]
    · exact fndV_end tkB 12 12
    · intro m hm _ _
      have hm : m < 8 := hm
      match m, hm with
      | 0, _ => exact ⟨rfl, (show (1 : Int) ≠ 12 by decide), (show (1 : Int) ≠ 12 by decide)⟩
      | 1, _ => exact ⟨rfl, (show (9 : Int) ≠ 12 by decide), (show (9 : Int) ≠ 12 by decide)⟩
      | 2, _ => exact ⟨rfl, (show (11 : Int) ≠ 12 by decide), (show (11 : Int) ≠ 12 by decide)⟩
      | 3, _ => exact ⟨rfl, (show (9 : Int) ≠ 12 by decide), (show (9 : Int) ≠ 12 by decide)⟩
      | 4, _ => exact ⟨rfl, (show (1 : Int) ≠ 12 by decide), (show (1 : Int) ≠ 12 by decide)⟩
      | 5, _ => exact ⟨rfl, (show (9 : Int) ≠ 12 by decide), (show (9 : Int) ≠ 12 by decide)⟩
      | 6, _ => exact ⟨rfl, (show (10 : Int) ≠ 12 by decide), (show (10 : Int) ≠ 12 by decide)⟩
      | 7, _ => exact ⟨rfl, (show (1 : Int) ≠ 12 by decide), (show (1 : Int) ≠ 12 by decide)⟩
  rw [decV_at (show tkB[0]? = some _ from rfl), if_neg (by decide), if_neg (by decide), h1, show (tkB.take 8).drop 0 = tkB from rfl, oneB, show (8 : Nat) = tkB.length from rfl, decV_end]
  rfl

set_option maxRecDepth 100000 in
set_option maxHeartbeats 4000000 in
/-- The tokens of plain bytes. -/
theorem of_plain (w : World) (p : Option Addr) (c : Nat) (l : List Nat) (hu : RdU w p l) (hok : Okl l) (hl : l.length ≤ 2000) (hc : l.length ≤ c) :
    Calls Try.prog 29 #[.slice p l.length c] w fun e w' => ∃ v, e = .returned v ∧ NewT w (tokS l) v w' ∧ (∀ x ∈ tokS l, x.f1.size ≤ 100000) := by
  have PR := Lib.hid (Prepare_any w p c l hu hok (by omega) (by omega))
  have HOK := Lib.hid hok
  have hzl : (zl l).length = l.length := by simp [zl]
  clear hok hu
  go_enter Try.func29, Try.ntmps29
  go_wp2_with (first
    | (go_at_call 32; refine PR.out.mono ?_; rintro e w2 ⟨v2, rfl, ⟨s2, c2, hv, o2⟩, f2⟩; rw [hzl] at hv o2; subst hv; have F2 := Lib.hid f2; have TK := Lib.hid (Tokens_any w2 s2 c2 l (RdZ.win o2) HOK.out (by omega)); clear o2 f2)
    | (go_at_call 31; refine TK.out.mono ?_; rintro e w3 ⟨v3, rfl, ⟨s3, c3, rfl, o3, f3⟩, -, hz3⟩; have F3 := Lib.hid (F2.out.trans f3); have O3 := Lib.hid (o3.lower F2.out.size); have Z3 := Lib.hid hz3; clear o3 f3 hz3))
  go_ret
  exact ⟨_, rfl, ⟨s3, c3, rfl, O3.out, F3.out⟩, Z3.out⟩

set_option maxRecDepth 100000 in
set_option maxHeartbeats 4000000 in
theorem dalive_any (w : World) : Calls Try.prog 25 #[] w fun e w' => e = .returned (.bool true) ∧ Fr (fun _ => False) w w' := by
  have hok : Okl [67, 111, 108, 111, 114, 32, 58, 32, 114, 101, 100, 32, 33, 105, 109, 112, 111, 114, 116, 97, 110, 116] := by
    unfold Okl okC
    simp [letN]
  have HB := Lib.hid (show (w.alloc (.cells #[.int .u8 67, .int .u8 111, .int .u8 108, .int .u8 111, .int .u8 114, .int .u8 32, .int .u8 58, .int .u8 32, .int .u8 114, .int .u8 101, .int .u8 100, .int .u8 32, .int .u8 33, .int .u8 105, .int .u8 109, .int .u8 112, .int .u8 111, .int .u8 114, .int .u8 116, .int .u8 97, .int .u8 110, .int .u8 116] 5 (22, 23))).heap[w.heap.size]? = some (.cells #[.int .u8 67, .int .u8 111, .int .u8 108, .int .u8 111, .int .u8 114, .int .u8 32, .int .u8 58, .int .u8 32, .int .u8 114, .int .u8 101, .int .u8 100, .int .u8 32, .int .u8 33, .int .u8 105, .int .u8 109, .int .u8 112, .int .u8 111, .int .u8 114, .int .u8 116, .int .u8 97, .int .u8 110, .int .u8 116] 5 (22, 23)) from heapNew _ _)
  have HF := Lib.hid ((Fr.refl (fun _ => False) w).alloc (.cells #[.int .u8 67, .int .u8 111, .int .u8 108, .int .u8 111, .int .u8 114, .int .u8 32, .int .u8 58, .int .u8 32, .int .u8 114, .int .u8 101, .int .u8 100, .int .u8 32, .int .u8 33, .int .u8 105, .int .u8 109, .int .u8 112, .int .u8 111, .int .u8 114, .int .u8 116, .int .u8 97, .int .u8 110, .int .u8 116] 5 (22, 23)))
  have HU := Lib.hid (show RdU (w.alloc (.cells #[.int .u8 67, .int .u8 111, .int .u8 108, .int .u8 111, .int .u8 114, .int .u8 32, .int .u8 58, .int .u8 32, .int .u8 114, .int .u8 101, .int .u8 100, .int .u8 32, .int .u8 33, .int .u8 105, .int .u8 109, .int .u8 112, .int .u8 111, .int .u8 114, .int .u8 116, .int .u8 97, .int .u8 110, .int .u8 116] 5 (22, 23))) (some ⟨w.heap.size, 0, none⟩) [67, 111, 108, 111, 114, 32, 58, 32, 114, 101, 100, 32, 33, 105, 109, 112, 111, 114, 116, 97, 110, 116] from fun k x hx => by
    refine ⟨_, 0, rfl, ltOf HB.out, ?_⟩
    rw [cellOf HB.out]
    match k, hx with
    | 0, h => cases h; rfl
    | 1, h => cases h; rfl
    | 2, h => cases h; rfl
    | 3, h => cases h; rfl
    | 4, h => cases h; rfl
    | 5, h => cases h; rfl
    | 6, h => cases h; rfl
    | 7, h => cases h; rfl
    | 8, h => cases h; rfl
    | 9, h => cases h; rfl
    | 10, h => cases h; rfl
    | 11, h => cases h; rfl
    | 12, h => cases h; rfl
    | 13, h => cases h; rfl
    | 14, h => cases h; rfl
    | 15, h => cases h; rfl
    | 16, h => cases h; rfl
    | 17, h => cases h; rfl
    | 18, h => cases h; rfl
    | 19, h => cases h; rfl
    | 20, h => cases h; rfl
    | 21, h => cases h; rfl)
  have kc := Lib.run_convert_bytes_const (P := Try.prog) w 29 5 #[.int .u8 67, .int .u8 111, .int .u8 108, .int .u8 111, .int .u8 114, .int .u8 32, .int .u8 58, .int .u8 32, .int .u8 114, .int .u8 101, .int .u8 100, .int .u8 32, .int .u8 33, .int .u8 105, .int .u8 109, .int .u8 112, .int .u8 111, .int .u8 114, .int .u8 116, .int .u8 97, .int .u8 110, .int .u8 116] 22 22 Try.underlying29 Try.underlying5
  have OF := Lib.hid (of_plain (w.alloc (.cells #[.int .u8 67, .int .u8 111, .int .u8 108, .int .u8 111, .int .u8 114, .int .u8 32, .int .u8 58, .int .u8 32, .int .u8 114, .int .u8 101, .int .u8 100, .int .u8 32, .int .u8 33, .int .u8 105, .int .u8 109, .int .u8 112, .int .u8 111, .int .u8 114, .int .u8 116, .int .u8 97, .int .u8 110, .int .u8 116] 5 (22, 23))) (some ⟨w.heap.size, 0, none⟩) 22 [67, 111, 108, 111, 114, 32, 58, 32, 114, 101, 100, 32, 33, 105, 109, 112, 111, 114, 116, 97, 110, 116] HU.out hok (by simp) (by simp))
  rw [tokS_B] at OF
  clear HB HU hok
  go_enter Try.func25, Try.ntmps25
  go_wp2_with fail
  generalize w.alloc (.cells #[.int .u8 67, .int .u8 111, .int .u8 108, .int .u8 111, .int .u8 114, .int .u8 32, .int .u8 58, .int .u8 32, .int .u8 114, .int .u8 101, .int .u8 100, .int .u8 32, .int .u8 33, .int .u8 105, .int .u8 109, .int .u8 112, .int .u8 111, .int .u8 114, .int .u8 116, .int .u8 97, .int .u8 110, .int .u8 116] 5 (22, 23)) = w1 at *
  generalize w.heap.size = nb at *
  refine OF.out.mono ?_
  rintro e w3 ⟨v3, rfl, ⟨s3, c3, rfl, o3, f3⟩, hz3⟩
  have F3 := Lib.hid (HF.out.trans f3)
  have hcl := o3.capLe rfl
  have PA := Lib.hid (DParse_any w3 s3 c3 tkB (RdT.win o3 (fun x hx => by have := hz3 x hx; unfold maxLen; omega)) (by unfold tkB; simp) hcl.1 hcl.2)
  rw [decB] at PA
  clear o3 f3 hz3 OF hcl
  go_wp2_with fail
  refine PA.out.mono ?_
  rintro e w4 ⟨v4, rfl, h4⟩
  have F4 := Lib.hid (F3.out.trans h4.fr)
  obtain ⟨s4, c4, rfl, r4⟩ := h4.rd
  obtain ⟨g, off, p1, d1, rfl, hg, x0, x1, x2, -⟩ := r4 0 _ rfl
  clear r4 h4 PA
  simp only [List.length_cons, List.length_nil, Nat.zero_mul, Nat.add_zero, Nat.zero_add, Nat.reduceAdd] at x0 x1 x2 ⊢
  go_wp2_with fail
  go_ret
  exact ⟨rfl, F4.out⟩
end Go.Proofs.Ytknpdkfjmhpbpaa
