/- RulesSkip: the walk of the law. No condition. -/
import Derived.Test.YtknpdkfjmhpbpaaOpen
import Derived.Test.YtknpdkfjmhpbpaaRSkip
import Derived.Test.YtknpdkfjmhpbpaaFind
namespace Go.Proofs.Ytknpdkfjmhpbpaa
open Go.RowKit Go.Maps Go.ChangeShapes Go.WideShapes Go.ChangeAt Go.WideMaps Go.WideElems

set_option maxRecDepth 100000 in
set_option maxHeartbeats 4000000 in
theorem rulesSkip_walk (v : Value) (ts : List Tok) (i : Int) (w : World) (h : IsToks w v ts) (_hi : (Lit.int .i64 i).wf = true) :
    Calls Try.prog 5 #[v, .int .i64 i] w fun e w' => e = .returned (.bool true) ∧ Below w.heap.size w w' := by
  obtain ⟨p, c, rfl, h1, h2, h3⟩ := h
  refine Calls.mono (R := fun e w' => e = .returned (.bool true) ∧ Fr (fun _ => False) w w') ?_ (fun e w' ⟨he, f⟩ => ⟨he, f.below (Nat.le_refl _) (by simp)⟩)
  have H := Lib.hid h1
  unfold maxLen at h3
  clear h1
  go_enter Try.func5, Try.ntmps5
  go_wp2_with fail
  refine (alive_any _).mono ?_
  rintro e w1 ⟨rfl, f1⟩
  have F1 := Lib.hid f1
  clear f1
  go_wp2_with fail
  refine (Big_any p c ts w1 (H.out.fr F1.out) (by omega)).mono ?_
  rintro e w' ⟨b, rfl, rfl, hb⟩
  have HB := Lib.hid hb
  clear hb
  cases b with
  | true =>
    go_wp2_with fail
    go_ret
    exact ⟨rfl, F1.out⟩
  | false =>
    obtain ⟨hl, -⟩ := HB.out rfl
    have S1 := Lib.hid (Skip_any w' p c ts i (H.out.fr F1.out) (by omega))
    have S2 := Lib.hid (show ∀ W, Fr (fun _ => False) w' W → Calls Try.prog 23 #[.slice p ts.length c, .int .i64 i] W fun e w' => e = .returned (.int .i64 (skA ts i)) ∧ Fr (fun _ => False) W w' from fun W f => rSkip_any W p c ts i ((H.out.fr F1.out).fr f) (by omega))
    have HK := Lib.hid (show ¬ i < 0 → ¬ (ts.length : Int) ≤ i → i < skA ts i ∧ skA ts i ≤ ts.length from fun e1 e2 => by
      obtain ⟨n, rfl⟩ : ∃ n : Nat, i = n := ⟨i.toNat, by omega⟩
      have hn : n < ts.length := by omega
      rw [skA_in hn]
      have a := skV_lt ts n hn
      have b := skV_le ts n (by omega)
      omega)
    generalize skA ts i = k at *
    have q0 : (k == k) = true := by simp
    by_cases i0 : i < 0
    · have d0 : decide (i < (0 : Int)) = true := decide_eq_true i0
      clear HK
      go_wp2_with (first
        | (go_at_call 22; refine S1.out.mono ?_; rintro e w2 ⟨rfl, f2⟩; have F2 := Lib.hid f2; clear f2)
        | (go_at_call 23; refine (S2.out _ F2.out).mono ?_; rintro e w3 ⟨rfl, f3⟩; have F3 := Lib.hid (F2.out.trans f3); clear f3))
      go_ret
      exact ⟨rfl, F1.out.trans F3.out⟩
    · have d0 : decide (i < (0 : Int)) = false := decide_eq_false i0
      by_cases i1 : (ts.length : Int) ≤ i
      · have d1 : decide ((ts.length : Int) ≤ i) = true := decide_eq_true i1
        clear HK
        go_wp2_with (first
          | (go_at_call 22; refine S1.out.mono ?_; rintro e w2 ⟨rfl, f2⟩; have F2 := Lib.hid f2; clear f2)
          | (go_at_call 23; refine (S2.out _ F2.out).mono ?_; rintro e w3 ⟨rfl, f3⟩; have F3 := Lib.hid (F2.out.trans f3); clear f3))
        go_ret
        exact ⟨rfl, F1.out.trans F3.out⟩
      · have d1 : decide ((ts.length : Int) ≤ i) = false := decide_eq_false i1
        obtain ⟨k1, k2⟩ := HK.out i0 i1
        have d2 : decide (i < k) = true := decide_eq_true k1
        have d3 : decide (k ≤ (ts.length : Int)) = true := decide_eq_true k2
        clear HK k1 k2
        go_wp2_with (first
          | (go_at_call 22; refine S1.out.mono ?_; rintro e w2 ⟨rfl, f2⟩; have F2 := Lib.hid f2; clear f2)
          | (go_at_call 23; refine (S2.out _ F2.out).mono ?_; rintro e w3 ⟨rfl, f3⟩; have F3 := Lib.hid (F2.out.trans f3); clear f3))
        go_ret
        exact ⟨rfl, F1.out.trans F3.out⟩
end Go.Proofs.Ytknpdkfjmhpbpaa
