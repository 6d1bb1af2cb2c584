/- Tokens without white at both ends, in both packages. No condition but sizes. -/
import Derived.Test.YtknpdkfjmhpbpaaAt
namespace Go.Proofs.Ytknpdkfjmhpbpaa
open Go.RowKit Go.Maps Go.ChangeShapes Go.WideShapes Go.ChangeAt Go.WideMaps Go.WideElems

def isW (x : Tok) : Bool := decide (x.f0 = 9)
def lt1 (ts : List Tok) : List Tok := ts.dropWhile isW
def rt1 (ts : List Tok) : List Tok := (ts.reverse.dropWhile isW).reverse
def trimT (ts : List Tok) : List Tok := rt1 (lt1 ts)
theorem rt1_snoc_w {ts : List Tok} {x : Tok} (h : isW x = true) : rt1 (ts ++ [x]) = rt1 ts := by
  unfold rt1
  rw [List.reverse_append, List.reverse_singleton, List.singleton_append, List.dropWhile_cons_of_pos h]
theorem rt1_snoc_n {ts : List Tok} {x : Tok} (h : ¬ isW x = true) : rt1 (ts ++ [x]) = ts ++ [x] := by
  unfold rt1
  rw [List.reverse_append, List.reverse_singleton, List.singleton_append, List.dropWhile_cons_of_neg h]
  simp
/-- A slice of tokens, with its spare. -/
structure SlT (w : World) (v : Value) (ts : List Tok) : Prop where
  ex : ∃ p c, v = .slice p ts.length c ∧ RdT w p ts ∧ ts.length ≤ c ∧ c ≤ maxLen
theorem SlT.fr {w w' : World} {v : Value} {ts : List Tok} (h : SlT w v ts) (f : Fr (fun _ => False) w w') : SlT w' v ts := by
  obtain ⟨p, c, e, h1, h2, h3⟩ := h.ex
  exact ⟨p, c, e, h1.fr f, h2, h3⟩
theorem SlT.tail {w : World} {g off n c : Nat} {x : Tok} {r : List Tok} (h : RdT w (some ⟨g, off, none⟩) (x :: r)) (hn : r.length = n) (hc : n + 1 ≤ c) (hm : c ≤ maxLen) : SlT w (.slice (if c = 1 then some ⟨g, off, none⟩ else some ⟨g, off + 5, none⟩) n (c - 1)) r := by
  subst hn
  refine ⟨_, _, rfl, ?_, by omega, Nat.le_trans (Nat.sub_le _ _) hm⟩
  by_cases e : c = 1
  · rw [show r = [] from List.eq_nil_of_length_eq_zero (by omega)]
    exact RdT.nil _ _
  · rw [if_neg e]
    have := h.cutA 1 (x :: r).length
    rw [List.take_of_length_le (Nat.le_refl _), Option.map_some, addOf _ _ rfl] at this
    exact this
theorem SlT.init {w : World} {p : Option Addr} {n c : Nat} {x : Tok} {r : List Tok} (h : RdT w p (r ++ [x])) (hn : r.length = n) (hc : n + 1 ≤ c) (hm : c ≤ maxLen) : SlT w (.slice p n c) r := by
  subst hn
  refine ⟨p, c, rfl, fun i y hy => ?_, by omega, hm⟩
  exact h i y (by rw [List.getElem?_append_left (List.getElem?_eq_some_iff.1 hy).1]; exact hy)
def slLen (v : Value) : Nat := match v with | .slice _ n _ => n | _ => 0

set_option maxRecDepth 100000 in
theorem white56 (w : World) (x : Tok) : Calls Try.prog 56 #[.agg #[.int .i64 x.f0, .string x.f1, .int .i64 x.f2, .bool x.f3, .int .i64 x.f4]] w fun e w' => e = .returned (.bool (isW x)) ∧ Fr (fun _ => False) w w' := by
  have q9 : (x.f0 == 9) = isW x := by unfold isW; rw [Bool.eq_iff_iff]; simp
  have HB := heapNew w (.cells #[.int .i64 x.f0, .string x.f1, .int .i64 x.f2, .bool x.f3, .int .i64 x.f4] 35)
  have x0 := cellOf HB 0
  simp at x0
  clear HB
  go_enter Try.func56, Try.ntmps56
  go_wp2_with fail
  go_ret
  exact ⟨rfl, (Fr.refl _ _).alloc _⟩

set_option maxRecDepth 100000 in
set_option maxHeartbeats 4000000 in
theorem trim59_any (w : World) (v : Value) (ts : List Tok) (h : SlT w v ts) (hl : ts.length ≤ 100000) :
    Calls Try.prog 59 #[v] w fun e w' => ∃ v', e = .returned v' ∧ SlT w' v' (trimT ts) ∧ Fr (fun _ => False) w w' := by
  have HT := Lib.hid (show rt1 (lt1 ts) = trimT ts from rfl)
  generalize trimT ts = T at *
  have H0 := Lib.hid h
  clear h
  go_enter Try.func59, Try.ntmps59
  go_wp2_with fail
  go_loopw [0] (fun v wr => ∃ (us : List Tok), us.length ≤ ts.length ∧ Hid (Fr (fun _ => False) w wr) ∧ Hid (SlT w v us) ∧ Hid (lt1 us = lt1 ts)) (fun v _ => slLen v)
  case atStart => exact ⟨ts, Nat.le_refl _, Lib.hid (Fr.refl _ _), H0, Lib.hid rfl⟩
  case round =>
    clear H0
    obtain ⟨us, hus, hF, hS, hE⟩ := hrel
    obtain ⟨p, c, rfl, hR, hc, hm⟩ := hS.out.ex
    have HR := Lib.hid hR
    have HCC := Lib.hid (And.intro hc hm)
    unfold maxLen at hm
    clear hR
    cases us with
    | nil =>
      have d0 : decide ((0 : Int) < (0 : Int)) = false := by simp
      have HT0 := Lib.hid (show rt1 [] = T by rw [← HT.out, ← hE.out]; rfl)
      have HS0 := hS
      have HL0 := Lib.hid (show ([] : List Tok).length ≤ 100000 by simp)
      rw [List.length_nil] at HS0 ⊢
      clear hS hE HCC HR HT
      go_wp2_with fail
      go_loopw [0] (fun v wx => ∃ (us : List Tok), us.length ≤ 100000 ∧ Hid (Fr (fun _ => False) w wx) ∧ Hid (SlT w v us) ∧ Hid (rt1 us = T)) (fun v _ => slLen v)
      case atStart => exact ⟨_, HL0.out, hF, HS0, HT0⟩
      case round =>
        clear HS0 HT0 hF HL0
        obtain ⟨us, hus, hF, hS, hE⟩ := hrel
        obtain ⟨p, c, rfl, hR, hc, hm⟩ := hS.out.ex
        have HR := Lib.hid hR
        have HCC := Lib.hid (And.intro hc hm)
        unfold maxLen at hm
        clear hR
        rcases (show us = [] ∨ ∃ r x, us = r ++ [x] by rcases List.eq_nil_or_concat us with h | ⟨r, x, h⟩; exact .inl h; exact .inr ⟨r, x, by rw [h, List.concat_eq_append]⟩) with rfl | ⟨r, x, rfl⟩
        · have d0 : decide ((0 : Int) < (0 : Int)) = false := by simp
          have HE := Lib.hid (show ([] : List Tok) = T from hE.out)
          rw [List.length_nil] at hS ⊢
          go_wp2_with fail
          go_ret
          exact ⟨_, rfl, by rw [← HE.out]; exact hS.out.fr hF.out, hF.out⟩
        · obtain ⟨n, hn⟩ : ∃ n, r.length = n := ⟨_, rfl⟩
          have hn1 : (r ++ [x]).length = n + 1 := by simp [hn]
          rw [hn1] at hc hus HCC hS ⊢
          have d0 : decide ((0 : Int) < (n : Int) + 1) = true := decide_eq_true (by omega)
          obtain ⟨_, g, off, hp, hg, a0, a1, a2, a3, a4⟩ := (HR.out.fr hF.out).at_ (i := n) (x := x) (by rw [List.getElem?_append_right (by omega), hn, Nat.sub_self]; rfl)
          subst hp
          by_cases hx : x.f0 = 9
          · have q9 : (x.f0 == 9) = true := by simp [hx]
            have HT2 := Lib.hid (show rt1 r = T by rw [← hE.out, rt1_snoc_w (by unfold isW; exact decide_eq_true hx)])
            have HS2 := Lib.hid (SlT.init HR.out hn HCC.out.1 HCC.out.2)
            clear hx hE hS
            have u1 : (n : Int) ≤ (c : Int) := by omega
            have u2 : n ≤ c := by omega
            go_wp2_with fail
            go_roundw
            case rel => exact ⟨r, by omega, hF, HS2, HT2⟩
            case measure => show n < n + 1; omega
          · have q9 : (x.f0 == 9) = false := by simp [hx]
            have HT2 := Lib.hid (show r ++ [x] = T by rw [← hE.out, rt1_snoc_n (by unfold isW; simpa using hx)])
            clear hx hE
            go_wp2_with fail
            go_ret
            exact ⟨_, rfl, by rw [← HT2.out]; exact hS.out.fr hF.out, hF.out⟩
    | cons x r =>
      rw [List.length_cons] at hc hus HCC hS ⊢
      obtain ⟨n, hn⟩ : ∃ n, r.length = n := ⟨_, rfl⟩
      rw [hn] at hc hus HCC hS ⊢
      have d0 : decide ((0 : Int) < (n : Int) + 1) = true := decide_eq_true (by omega)
      obtain ⟨_, g, off, hp, hg, a0, a1, a2, a3, a4⟩ := (HR.out.fr hF.out).at_ (i := 0) (x := x) rfl
      subst hp
      rw [Nat.zero_mul, Nat.add_zero] at a0 a1 a2 a3 a4
      by_cases hx : x.f0 = 9
      · have q9 : (x.f0 == 9) = true := by simp [hx]
        have HE2 := Lib.hid (show lt1 r = lt1 ts by rw [← hE.out]; unfold lt1; rw [List.dropWhile_cons_of_pos (by unfold isW; exact decide_eq_true hx)])
        have HS2 := Lib.hid (SlT.tail HR.out hn HCC.out.1 HCC.out.2)
        clear hx hS hE
        go_wp2_with fail
        go_roundw
        case rel => exact ⟨r, by omega, hF, HS2, HE2⟩
        case measure => show n < n + 1; omega
      · have q9 : (x.f0 == 9) = false := by simp [hx]
        have HT0 := Lib.hid (show rt1 (x :: r) = T by
          rw [← HT.out, ← hE.out]; unfold lt1; rw [List.dropWhile_cons_of_neg (by unfold isW; simpa using hx)])
        have HS0 := hS
        have HL0 := Lib.hid (show (x :: r).length ≤ 100000 by rw [List.length_cons]; omega)
        clear hx hS hE HCC HR HT
        go_wp2_with fail
        go_loopw [0] (fun v wx => ∃ (us : List Tok), us.length ≤ 100000 ∧ Hid (Fr (fun _ => False) w wx) ∧ Hid (SlT w v us) ∧ Hid (rt1 us = T)) (fun v _ => slLen v)
        case atStart => exact ⟨_, HL0.out, hF, HS0, HT0⟩
        case round =>
          clear HS0 HT0 hF HL0
          obtain ⟨us, hus, hF, hS, hE⟩ := hrel
          obtain ⟨p, c, rfl, hR, hc, hm⟩ := hS.out.ex
          have HR := Lib.hid hR
          have HCC := Lib.hid (And.intro hc hm)
          unfold maxLen at hm
          clear hR
          rcases (show us = [] ∨ ∃ r x, us = r ++ [x] by rcases List.eq_nil_or_concat us with h | ⟨r, x, h⟩; exact .inl h; exact .inr ⟨r, x, by rw [h, List.concat_eq_append]⟩) with rfl | ⟨r, x, rfl⟩
          · have d0 : decide ((0 : Int) < (0 : Int)) = false := by simp
            have HE := Lib.hid (show ([] : List Tok) = T from hE.out)
            rw [List.length_nil] at hS ⊢
            go_wp2_with fail
            go_ret
            exact ⟨_, rfl, by rw [← HE.out]; exact hS.out.fr hF.out, hF.out⟩
          · obtain ⟨n, hn⟩ : ∃ n, r.length = n := ⟨_, rfl⟩
            have hn1 : (r ++ [x]).length = n + 1 := by simp [hn]
            rw [hn1] at hc hus HCC hS ⊢
            have d0 : decide ((0 : Int) < (n : Int) + 1) = true := decide_eq_true (by omega)
            obtain ⟨_, g, off, hp, hg, a0, a1, a2, a3, a4⟩ := (HR.out.fr hF.out).at_ (i := n) (x := x) (by rw [List.getElem?_append_right (by omega), hn, Nat.sub_self]; rfl)
            subst hp
            by_cases hx : x.f0 = 9
            · have q9 : (x.f0 == 9) = true := by simp [hx]
              have HT2 := Lib.hid (show rt1 r = T by rw [← hE.out, rt1_snoc_w (by unfold isW; exact decide_eq_true hx)])
              have HS2 := Lib.hid (SlT.init HR.out hn HCC.out.1 HCC.out.2)
              clear hx hE hS
              have u1 : (n : Int) ≤ (c : Int) := by omega
              have u2 : n ≤ c := by omega
              go_wp2_with fail
              go_roundw
              case rel => exact ⟨r, by omega, hF, HS2, HT2⟩
              case measure => show n < n + 1; omega
            · have q9 : (x.f0 == 9) = false := by simp [hx]
              have HT2 := Lib.hid (show r ++ [x] = T by rw [← hE.out, rt1_snoc_n (by unfold isW; simpa using hx)])
              clear hx hE
              go_wp2_with fail
              go_ret
              exact ⟨_, rfl, by rw [← HT2.out]; exact hS.out.fr hF.out, hF.out⟩

set_option maxRecDepth 100000 in
set_option maxHeartbeats 4000000 in
theorem trim57_any (w : World) (v : Value) (ts : List Tok) (h : SlT w v ts) (hl : ts.length ≤ 100000) :
    Calls Try.prog 57 #[v] w fun e w' => ∃ v', e = .returned v' ∧ SlT w' v' (trimT ts) ∧ Fr (fun _ => False) w w' := by
  have HT := Lib.hid (show rt1 (lt1 ts) = trimT ts from rfl)
  generalize trimT ts = T at *
  have H0 := Lib.hid h
  clear h
  go_enter Try.func57, Try.ntmps57
  go_wp2_with fail
  go_loopw [0] (fun v wr => ∃ (us : List Tok), us.length ≤ ts.length ∧ Hid (Fr (fun _ => False) w wr) ∧ Hid (SlT w v us) ∧ Hid (lt1 us = lt1 ts)) (fun v _ => slLen v)
  case atStart => exact ⟨ts, Nat.le_refl _, Lib.hid (Fr.refl _ _), H0, Lib.hid rfl⟩
  case round =>
    clear H0
    obtain ⟨us, hus, hF, hS, hE⟩ := hrel
    obtain ⟨p, c, rfl, hR, hc, hm⟩ := hS.out.ex
    have HR := Lib.hid hR
    have HCC := Lib.hid (And.intro hc hm)
    unfold maxLen at hm
    clear hR
    cases us with
    | nil =>
      have d0 : decide ((0 : Int) < (0 : Int)) = false := by simp
      have HT0 := Lib.hid (show rt1 [] = T by rw [← HT.out, ← hE.out]; rfl)
      have HS0 := hS
      have HL0 := Lib.hid (show ([] : List Tok).length ≤ 100000 by simp)
      rw [List.length_nil] at HS0 ⊢
      clear hS hE HCC HR HT
      go_wp2_with fail
      go_loopw [0] (fun v wx => ∃ (us : List Tok), us.length ≤ 100000 ∧ Hid (Fr (fun _ => False) w wx) ∧ Hid (SlT w v us) ∧ Hid (rt1 us = T)) (fun v _ => slLen v)
      case atStart => exact ⟨_, HL0.out, hF, HS0, HT0⟩
      case round =>
        clear HS0 HT0 hF HL0
        obtain ⟨us, hus, hF, hS, hE⟩ := hrel
        obtain ⟨p, c, rfl, hR, hc, hm⟩ := hS.out.ex
        have HR := Lib.hid hR
        have HCC := Lib.hid (And.intro hc hm)
        unfold maxLen at hm
        clear hR
        rcases (show us = [] ∨ ∃ r x, us = r ++ [x] by rcases List.eq_nil_or_concat us with h | ⟨r, x, h⟩; exact .inl h; exact .inr ⟨r, x, by rw [h, List.concat_eq_append]⟩) with rfl | ⟨r, x, rfl⟩
        · have d0 : decide ((0 : Int) < (0 : Int)) = false := by simp
          have HE := Lib.hid (show ([] : List Tok) = T from hE.out)
          rw [List.length_nil] at hS ⊢
          go_wp2_with fail
          go_ret
          exact ⟨_, rfl, by rw [← HE.out]; exact hS.out.fr hF.out, hF.out⟩
        · obtain ⟨n, hn⟩ : ∃ n, r.length = n := ⟨_, rfl⟩
          have hn1 : (r ++ [x]).length = n + 1 := by simp [hn]
          rw [hn1] at hc hus HCC hS ⊢
          have d0 : decide ((0 : Int) < (n : Int) + 1) = true := decide_eq_true (by omega)
          obtain ⟨_, g, off, hp, hg, a0, a1, a2, a3, a4⟩ := (HR.out.fr hF.out).at_ (i := n) (x := x) (by rw [List.getElem?_append_right (by omega), hn, Nat.sub_self]; rfl)
          subst hp
          by_cases hx : x.f0 = 9
          · have q9 : (x.f0 == 9) = true := by simp [hx]
            have HT2 := Lib.hid (show rt1 r = T by rw [← hE.out, rt1_snoc_w (by unfold isW; exact decide_eq_true hx)])
            have HS2 := Lib.hid (SlT.init HR.out hn HCC.out.1 HCC.out.2)
            have WH := Lib.hid (show ∀ W, Calls Try.prog 56 #[.agg #[.int .i64 x.f0, .string x.f1, .int .i64 x.f2, .bool x.f3, .int .i64 x.f4]] W fun e w' => e = .returned (.bool true) ∧ Fr (fun _ => False) W w' from fun W => by have := white56 W x; rwa [show isW x = true from decide_eq_true hx] at this)
            clear hx hE hS
            have u1 : (n : Int) ≤ (c : Int) := by omega
            have u2 : n ≤ c := by omega
            go_wp2_with (go_at_call 56; refine (WH.out _).mono ?_; rintro e w5 ⟨rfl, f5⟩; have G5 := Lib.hid (hF.out.trans f5); clear f5)
            go_roundw
            case rel => exact ⟨r, by omega, G5, HS2, HT2⟩
            case measure => show n < n + 1; omega
          · have q9 : (x.f0 == 9) = false := by simp [hx]
            have HT2 := Lib.hid (show r ++ [x] = T by rw [← hE.out, rt1_snoc_n (by unfold isW; simpa using hx)])
            have WH := Lib.hid (show ∀ W, Calls Try.prog 56 #[.agg #[.int .i64 x.f0, .string x.f1, .int .i64 x.f2, .bool x.f3, .int .i64 x.f4]] W fun e w' => e = .returned (.bool false) ∧ Fr (fun _ => False) W w' from fun W => by have := white56 W x; rwa [show isW x = false from decide_eq_false hx] at this)
            clear hx hE
            go_wp2_with (go_at_call 56; refine (WH.out _).mono ?_; rintro e w5 ⟨rfl, f5⟩; have G5 := Lib.hid (hF.out.trans f5); clear f5)
            go_ret
            exact ⟨_, rfl, by rw [← HT2.out]; exact hS.out.fr G5.out, G5.out⟩
    | cons x r =>
      rw [List.length_cons] at hc hus HCC hS ⊢
      obtain ⟨n, hn⟩ : ∃ n, r.length = n := ⟨_, rfl⟩
      rw [hn] at hc hus HCC hS ⊢
      have d0 : decide ((0 : Int) < (n : Int) + 1) = true := decide_eq_true (by omega)
      obtain ⟨_, g, off, hp, hg, a0, a1, a2, a3, a4⟩ := (HR.out.fr hF.out).at_ (i := 0) (x := x) rfl
      subst hp
      rw [Nat.zero_mul, Nat.add_zero] at a0 a1 a2 a3 a4
      by_cases hx : x.f0 = 9
      · have q9 : (x.f0 == 9) = true := by simp [hx]
        have HE2 := Lib.hid (show lt1 r = lt1 ts by rw [← hE.out]; unfold lt1; rw [List.dropWhile_cons_of_pos (by unfold isW; exact decide_eq_true hx)])
        have HS2 := Lib.hid (SlT.tail HR.out hn HCC.out.1 HCC.out.2)
        have WH := Lib.hid (show ∀ W, Calls Try.prog 56 #[.agg #[.int .i64 x.f0, .string x.f1, .int .i64 x.f2, .bool x.f3, .int .i64 x.f4]] W fun e w' => e = .returned (.bool true) ∧ Fr (fun _ => False) W w' from fun W => by have := white56 W x; rwa [show isW x = true from decide_eq_true hx] at this)
        clear hx hS hE
        go_wp2_with (go_at_call 56; refine (WH.out _).mono ?_; rintro e w5 ⟨rfl, f5⟩; have G5 := Lib.hid (hF.out.trans f5); clear f5)
        go_roundw
        case rel => exact ⟨r, by omega, G5, HS2, HE2⟩
        case measure => show n < n + 1; omega
      · have q9 : (x.f0 == 9) = false := by simp [hx]
        have HT0 := Lib.hid (show rt1 (x :: r) = T by
          rw [← HT.out, ← hE.out]; unfold lt1; rw [List.dropWhile_cons_of_neg (by unfold isW; simpa using hx)])
        have HS0 := hS
        have HL0 := Lib.hid (show (x :: r).length ≤ 100000 by rw [List.length_cons]; omega)
        have WH := Lib.hid (show ∀ W, Calls Try.prog 56 #[.agg #[.int .i64 x.f0, .string x.f1, .int .i64 x.f2, .bool x.f3, .int .i64 x.f4]] W fun e w' => e = .returned (.bool false) ∧ Fr (fun _ => False) W w' from fun W => by have := white56 W x; rwa [show isW x = false from decide_eq_false hx] at this)
        clear hx hS hE HCC HR HT
        go_wp2_with (go_at_call 56; refine (WH.out _).mono ?_; rintro e w5 ⟨rfl, f5⟩; have G5 := Lib.hid (hF.out.trans f5); clear f5)
        have hF := G5
        clear G5
        go_loopw [0] (fun v wx => ∃ (us : List Tok), us.length ≤ 100000 ∧ Hid (Fr (fun _ => False) w wx) ∧ Hid (SlT w v us) ∧ Hid (rt1 us = T)) (fun v _ => slLen v)
        case atStart => exact ⟨_, HL0.out, hF, HS0, HT0⟩
        case round =>
          clear HS0 HT0 hF HL0
          obtain ⟨us, hus, hF, hS, hE⟩ := hrel
          obtain ⟨p, c, rfl, hR, hc, hm⟩ := hS.out.ex
          have HR := Lib.hid hR
          have HCC := Lib.hid (And.intro hc hm)
          unfold maxLen at hm
          clear hR
          rcases (show us = [] ∨ ∃ r x, us = r ++ [x] by rcases List.eq_nil_or_concat us with h | ⟨r, x, h⟩; exact .inl h; exact .inr ⟨r, x, by rw [h, List.concat_eq_append]⟩) with rfl | ⟨r, x, rfl⟩
          · have d0 : decide ((0 : Int) < (0 : Int)) = false := by simp
            have HE := Lib.hid (show ([] : List Tok) = T from hE.out)
            rw [List.length_nil] at hS ⊢
            go_wp2_with fail
            go_ret
            exact ⟨_, rfl, by rw [← HE.out]; exact hS.out.fr hF.out, hF.out⟩
          · obtain ⟨n, hn⟩ : ∃ n, r.length = n := ⟨_, rfl⟩
            have hn1 : (r ++ [x]).length = n + 1 := by simp [hn]
            rw [hn1] at hc hus HCC hS ⊢
            have d0 : decide ((0 : Int) < (n : Int) + 1) = true := decide_eq_true (by omega)
            obtain ⟨_, g, off, hp, hg, a0, a1, a2, a3, a4⟩ := (HR.out.fr hF.out).at_ (i := n) (x := x) (by rw [List.getElem?_append_right (by omega), hn, Nat.sub_self]; rfl)
            subst hp
            by_cases hx : x.f0 = 9
            · have q9 : (x.f0 == 9) = true := by simp [hx]
              have HT2 := Lib.hid (show rt1 r = T by rw [← hE.out, rt1_snoc_w (by unfold isW; exact decide_eq_true hx)])
              have HS2 := Lib.hid (SlT.init HR.out hn HCC.out.1 HCC.out.2)
              have WH := Lib.hid (show ∀ W, Calls Try.prog 56 #[.agg #[.int .i64 x.f0, .string x.f1, .int .i64 x.f2, .bool x.f3, .int .i64 x.f4]] W fun e w' => e = .returned (.bool true) ∧ Fr (fun _ => False) W w' from fun W => by have := white56 W x; rwa [show isW x = true from decide_eq_true hx] at this)
              clear hx hE hS
              have u1 : (n : Int) ≤ (c : Int) := by omega
              have u2 : n ≤ c := by omega
              go_wp2_with (go_at_call 56; refine (WH.out _).mono ?_; rintro e w5 ⟨rfl, f5⟩; have G5 := Lib.hid (hF.out.trans f5); clear f5)
              go_roundw
              case rel => exact ⟨r, by omega, G5, HS2, HT2⟩
              case measure => show n < n + 1; omega
            · have q9 : (x.f0 == 9) = false := by simp [hx]
              have HT2 := Lib.hid (show r ++ [x] = T by rw [← hE.out, rt1_snoc_n (by unfold isW; simpa using hx)])
              have WH := Lib.hid (show ∀ W, Calls Try.prog 56 #[.agg #[.int .i64 x.f0, .string x.f1, .int .i64 x.f2, .bool x.f3, .int .i64 x.f4]] W fun e w' => e = .returned (.bool false) ∧ Fr (fun _ => False) W w' from fun W => by have := white56 W x; rwa [show isW x = false from decide_eq_false hx] at this)
              clear hx hE
              go_wp2_with (go_at_call 56; refine (WH.out _).mono ?_; rintro e w5 ⟨rfl, f5⟩; have G5 := Lib.hid (hF.out.trans f5); clear f5)
              go_ret
              exact ⟨_, rfl, by rw [← HT2.out]; exact hS.out.fr G5.out, G5.out⟩
end Go.Proofs.Ytknpdkfjmhpbpaa
