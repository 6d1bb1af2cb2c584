/- decl.marked: what makes a value important. No condition but sizes. -/
import Derived.Test.YtknpdkfjmhpbpaaTrim
import Derived.Test.YtknpdkfjmhpbpaaLow
namespace Go.Proofs.Ytknpdkfjmhpbpaa
open Go.RowKit Go.Maps Go.ChangeShapes Go.WideShapes Go.ChangeAt Go.WideMaps Go.WideElems

def impS : ByteArray := ⟨#[105, 109, 112, 111, 114, 116, 97, 110, 116]⟩
theorem impL : impS.toList = [105, 109, 112, 111, 114, 116, 97, 110, 116] := by rw [ByteArray.toList_eq]; rfl
/-- A value without what makes it important, and whether it is. -/
def impV (ts : List Tok) : List Tok × Bool :=
  match ts.getLast? with
  | some x => if x.f0 = 1 ∧ lowS x.f1 = impS then
      match (trimT ts.dropLast).getLast? with
      | some y => if y.f0 = 10 ∧ y.f4 = 33 then (trimT (trimT ts.dropLast).dropLast, true) else (ts, false)
      | none => (ts, false)
    else (ts, false)
  | none => (ts, false)
theorem lt1_len (ts : List Tok) : (lt1 ts).length ≤ ts.length := by
  unfold lt1
  induction ts with
  | nil => simp
  | cons x r ih =>
    rw [List.dropWhile_cons]
    split
    · simp; omega
    · exact Nat.le_refl _
theorem trimT_len (ts : List Tok) : (trimT ts).length ≤ ts.length := by
  have h1 := lt1_len ts
  have h2 := lt1_len (lt1 ts).reverse
  unfold trimT rt1
  unfold lt1 at h2 ⊢
  rw [List.length_reverse]
  rw [List.length_reverse] at h2
  unfold lt1 at h1
  omega
theorem trimT_nil : trimT [] = [] := rfl
theorem SlT.nil (w : World) : SlT w (.slice none 0 0) [] := ⟨none, 0, rfl, RdT.nil _ _, Nat.le_refl _, Nat.zero_le _⟩

set_option maxRecDepth 100000 in
set_option maxHeartbeats 4000000 in
theorem marked_any (w : World) (v : Value) (ts : List Tok) (h : SlT w v ts) (hl : ts.length ≤ 100000) :
    Calls Try.prog 58 #[v] w fun e w' => ∃ v', e = .returned (.tuple #[v', .bool (impV ts).2]) ∧ ((impV ts).2 = true → SlT w' v' (impV ts).1) ∧ Fr (fun _ => False) w w' := by
  obtain ⟨p, c, rfl, hR, hc, hm⟩ := h.ex
  have HR := Lib.hid hR
  have HCC := Lib.hid (And.intro hc hm)
  unfold maxLen at hm
  clear hR h
  rcases (show ts = [] ∨ ∃ r x, ts = r ++ [x] by rcases List.eq_nil_or_concat ts with h | ⟨r, x, h⟩; exact .inl h; exact .inr ⟨r, x, by rw [h, List.concat_eq_append]⟩) with rfl | ⟨r, x, rfl⟩
  · rw [show impV [] = ([], false) from rfl, List.length_nil]
    go_enter Try.func58, Try.ntmps58
    go_wp2_with fail
    go_ret2
    exact ⟨_, rfl, by simp, Fr.refl _ _⟩
  · obtain ⟨n, hn⟩ : ∃ n, r.length = n := ⟨_, rfl⟩
    have hn1 : (r ++ [x]).length = n + 1 := by simp [hn]
    rw [hn1] at hc hl HCC ⊢
    obtain ⟨hsz, g, off, hp, hg, a0, a1, a2, a3, a4⟩ := HR.out.at_ (i := n) (x := x) (by rw [List.getElem?_append_right (by omega), hn, Nat.sub_self]; rfl)
    subst hp
    have LW := Lib.hid (Lower_any x.f1 w hsz)
    have e1 : (r ++ [x]).getLast? = some x := by simp
    have e2 : (r ++ [x]).dropLast = r := by simp
    by_cases hn0 : n = 0
    · have hr0 : r = [] := List.eq_nil_of_length_eq_zero (by omega)
      subst hr0
      have hI : impV ([] ++ [x]) = ([] ++ [x], false) := by
        unfold impV
        rw [e1, e2]
        simp only [trimT_nil]
        split <;> rfl
      rw [hI]
      subst hn0
      have d0 : decide ((0 : Int) < (1 : Int)) = true := rfl
      go_enter Try.func58, Try.ntmps58
      go_wp2_with fail
      go_ret2
      exact ⟨_, rfl, by simp, Fr.refl _ _⟩
    have d0 : decide ((n : Int) < (1 : Int)) = false := decide_eq_false (by omega)
    by_cases hx : x.f0 = 1
    · have q1 : (x.f0 != 1) = false := by simp [hx]
      by_cases hS : lowS x.f1 = impS
      · have qs : ((lowS x.f1).toList == [105, 109, 112, 111, 114, 116, 97, 110, 116]) = true := by rw [← impL, strEq]; exact decide_eq_true hS
        have hI : impV (r ++ [x]) = match (trimT r).getLast? with
            | some y => if y.f0 = 10 ∧ y.f4 = 33 then (trimT (trimT r).dropLast, true) else (r ++ [x], false)
            | none => (r ++ [x], false) := by
          conv => lhs; unfold impV
          rw [e1, e2]
          simp only
          rw [if_pos ⟨hx, hS⟩]
        have TR := Lib.hid (show ∀ W, Fr (fun _ => False) w W → Calls Try.prog 57 #[.slice (some ⟨g, off, none⟩) n c] W fun e w' => ∃ v', e = .returned v' ∧ SlT w' v' (trimT r) ∧ Fr (fun _ => False) W w' from fun W f => trim57_any W _ r (SlT.init (HR.out.fr f) hn HCC.out.1 HCC.out.2) (by omega))
        have hul : (trimT r).length ≤ 100000 := by have := trimT_len r; omega
        rw [hI]
        have u1 : (n : Int) ≤ (c : Int) := by omega
        have u2 : n ≤ c := by omega
        generalize lowS x.f1 = ls at *
        generalize trimT r = U at *
        clear hx hS hI e1 e2
        rcases (show U = [] ∨ ∃ s y, U = s ++ [y] by rcases List.eq_nil_or_concat U with h | ⟨s, y, h⟩; exact .inl h; exact .inr ⟨s, y, by rw [h, List.concat_eq_append]⟩) with rfl | ⟨s, y, rfl⟩
        · rw [show (match ([] : List Tok).getLast? with
            | some y => if y.f0 = 10 ∧ y.f4 = 33 then (trimT ([] : List Tok).dropLast, true) else (r ++ [x], false)
            | none => (r ++ [x], false)) = (r ++ [x], false) from rfl]
          have d1 : decide ((-1 : Int) < (0 : Int)) = true := rfl
          go_enter Try.func58, Try.ntmps58
          go_wp2_with (first
            | (go_at_call 55; refine LW.out.mono ?_; rintro e w1 ⟨rfl, f1⟩; have F1 := Lib.hid f1; clear f1)
            | (go_at_call 57; with_reducible refine (TR.out _ F1.out).mono ?_; rintro e w2 ⟨v2, rfl, h2, f2⟩; have F2 := Lib.hid (F1.out.trans f2); obtain ⟨p2, c2, rfl, hR2, hc2, hm2⟩ := h2.ex; have HR2 := Lib.hid hR2; have HC2 := Lib.hid (And.intro hc2 hm2); rw [List.length_nil] at ⊢; clear f2 h2 hR2))
          go_ret2
          exact ⟨_, rfl, by simp, F2.out⟩
        · obtain ⟨m, hm⟩ : ∃ m, s.length = m := ⟨_, rfl⟩
          have hm1 : (s ++ [y]).length = m + 1 := by simp [hm]
          have e3 : (s ++ [y]).getLast? = some y := by simp
          have e4 : (s ++ [y]).dropLast = s := by simp
          rw [e3, e4]
          rw [hm1] at hul
          clear e3 e4
          have d1 : decide ((m : Int) < (0 : Int)) = false := decide_eq_false (by omega)
          by_cases h10 : y.f0 = 10
          · have q10 : (y.f0 != 10) = false := by simp [h10]
            by_cases h33 : y.f4 = 33
            · have q33 : (y.f4 != 33) = false := by simp [h33]
              simp only
              rw [if_pos ⟨h10, h33⟩]
              have HT2 := Lib.hid (show s.length ≤ 100000 by omega)
              generalize hTs : trimT s = Ts at *
              have HTs := Lib.hid hTs
              clear h10 h33 hTs
              go_enter Try.func58, Try.ntmps58
              go_wp2_with (first
                | (go_at_call 55; refine LW.out.mono ?_; rintro e w1 ⟨rfl, f1⟩; have F1 := Lib.hid f1; clear f1)
                | (go_at_call 57; with_reducible refine (TR.out _ F1.out).mono ?_; rintro e w2 ⟨v2, rfl, h2, f2⟩; have F2 := Lib.hid (F1.out.trans f2); obtain ⟨p2, c2, rfl, hR2, hc2, hm2⟩ := h2.ex; have HR2 := Lib.hid hR2; have HC2 := Lib.hid (And.intro hc2 hm2); obtain ⟨_, g2, o2, hp2, _, b0, b1, b2, b3, b4⟩ := HR2.out.at_ (i := m) (x := y) (by simp [← hm]); subst hp2; rw [hm1] at hc2 HC2 ⊢; have u3 : (m : Int) ≤ (c2 : Int) := (by omega); have u4 : m ≤ c2 := (by omega); unfold maxLen at hm2; clear f2 h2 hR2)
                | (go_at_call 57; refine (trim57_any _ _ s (SlT.init HR2.out hm HC2.out.1 HC2.out.2) HT2.out).mono ?_; rintro e w3 ⟨v3, rfl, h3, f3⟩; have F3 := Lib.hid (F2.out.trans f3); have H3 := Lib.hid h3; rw [HTs.out] at H3; clear h3 f3))
              go_ret2
              exact ⟨_, rfl, fun _ => H3.out, F3.out⟩
            · have q33 : (y.f4 != 33) = true := by simp [h33]
              simp only
              rw [if_neg (fun h => h33 h.2)]
              clear h10 h33
              go_enter Try.func58, Try.ntmps58
              go_wp2_with (first
                | (go_at_call 55; refine LW.out.mono ?_; rintro e w1 ⟨rfl, f1⟩; have F1 := Lib.hid f1; clear f1)
                | (go_at_call 57; with_reducible refine (TR.out _ F1.out).mono ?_; rintro e w2 ⟨v2, rfl, h2, f2⟩; have F2 := Lib.hid (F1.out.trans f2); obtain ⟨p2, c2, rfl, hR2, hc2, hm2⟩ := h2.ex; have HR2 := Lib.hid hR2; have HC2 := Lib.hid (And.intro hc2 hm2); obtain ⟨_, g2, o2, hp2, _, b0, b1, b2, b3, b4⟩ := HR2.out.at_ (i := m) (x := y) (by simp [← hm]); subst hp2; rw [hm1] at hc2 HC2 ⊢; have u3 : (m : Int) ≤ (c2 : Int) := (by omega); have u4 : m ≤ c2 := (by omega); unfold maxLen at hm2; clear f2 h2 hR2))
              go_ret2
              exact ⟨_, rfl, by simp, F2.out⟩
          · have q10 : (y.f0 != 10) = true := by simp [h10]
            simp only
            rw [if_neg (fun h => h10 h.1)]
            clear h10
            go_enter Try.func58, Try.ntmps58
            go_wp2_with (first
              | (go_at_call 55; refine LW.out.mono ?_; rintro e w1 ⟨rfl, f1⟩; have F1 := Lib.hid f1; clear f1)
              | (go_at_call 57; with_reducible refine (TR.out _ F1.out).mono ?_; rintro e w2 ⟨v2, rfl, h2, f2⟩; have F2 := Lib.hid (F1.out.trans f2); obtain ⟨p2, c2, rfl, hR2, hc2, hm2⟩ := h2.ex; have HR2 := Lib.hid hR2; have HC2 := Lib.hid (And.intro hc2 hm2); obtain ⟨_, g2, o2, hp2, _, b0, b1, b2, b3, b4⟩ := HR2.out.at_ (i := m) (x := y) (by simp [← hm]); subst hp2; rw [hm1] at hc2 HC2 ⊢; have u3 : (m : Int) ≤ (c2 : Int) := (by omega); have u4 : m ≤ c2 := (by omega); unfold maxLen at hm2; clear f2 h2 hR2))
            go_ret2
            exact ⟨_, rfl, by simp, F2.out⟩
      · have hI : impV (r ++ [x]) = (r ++ [x], false) := by
          unfold impV
          rw [e1]
          simp only
          rw [if_neg (fun h => hS h.2)]
        rw [hI]
        have qs : ((lowS x.f1).toList == [105, 109, 112, 111, 114, 116, 97, 110, 116]) = false := by rw [← impL, strEq]; exact decide_eq_false hS
        generalize lowS x.f1 = ls at *
        clear hx hS hI
        go_enter Try.func58, Try.ntmps58
        go_wp2_with (go_at_call 55; refine LW.out.mono ?_; rintro e w1 ⟨rfl, f1⟩; have F1 := Lib.hid f1; clear f1)
        go_ret2
        exact ⟨_, rfl, by simp, F1.out⟩
    · have q1 : (x.f0 != 1) = true := by simp [hx]
      have hI : impV (r ++ [x]) = (r ++ [x], false) := by
        unfold impV
        rw [e1]
        simp only
        rw [if_neg (fun h => hx h.1)]
      rw [hI]
      clear hx hI
      go_enter Try.func58, Try.ntmps58
      go_wp2_with fail
      go_ret2
      exact ⟨_, rfl, by simp, Fr.refl _ _⟩
end Go.Proofs.Ytknpdkfjmhpbpaa
