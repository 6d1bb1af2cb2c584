/- The reference's decl: the declaration of tokens. No condition but sizes. -/
import Derived.Test.YtknpdkfjmhpbpaaOne
namespace Go.Proofs.Ytknpdkfjmhpbpaa
open Go.RowKit Go.Maps Go.ChangeShapes Go.WideShapes Go.ChangeAt Go.WideMaps Go.WideElems

set_option maxRecDepth 100000 in
set_option maxHeartbeats 4000000 in
theorem rdecl_any (w : World) (v : Value) (ts : List Tok) (h : SlT w v ts) (hl : ts.length ≤ 100000) (hne : ts ≠ []) : Calls Try.prog 42 #[v] w fun e w' => ∃ v, e = .returned v ∧ DecV w (oneV ts) v w' ∧ Fr (fun _ => False) w w' := by
  obtain ⟨i35, ha0, ha1, ha2, ha3⟩ := info_parts info35
  obtain ⟨p, c, rfl, hR, hc, hm⟩ := h.ex
  have HR := Lib.hid hR
  have HCC := Lib.hid (And.intro hc hm)
  unfold maxLen at hm
  clear hR h
  have HB := heapNew w (.cells #[.string ⟨#[]⟩, .slice none 0 0, .bool false] 48)
  have F0 := Lib.hid ((Fr.refl (fun _ => False) w).alloc (.cells #[.string ⟨#[]⟩, .slice none 0 0, .bool false] 48))
  cases ts with
  | nil => exact absurd rfl hne
  | cons x r =>
    rw [List.length_cons] at hc hl HCC ⊢
    obtain ⟨n, hn⟩ : ∃ n, r.length = n := ⟨_, rfl⟩
    rw [hn] at hc hl HCC ⊢
    obtain ⟨hsz, g, off, rfl, hg, a0, a1, -, -, -⟩ := (HR.out.fr F0.out).at_ (i := 0) (x := x) rfl
    rw [Nat.zero_mul, Nat.add_zero] at a0 a1
    by_cases hx : x.f0 = 1
    · have q1 : (x.f0 != 1) = false := by simp [hx]
      have LW := Lib.hid (RLower_any x.f1 (w.alloc (.cells #[.string ⟨#[]⟩, .slice none 0 0, .bool false] 48)) hsz)
      have HO := Lib.hid (show oneV (x :: r) = match lt1 r with
          | y :: q => if y.f0 = 11 then some ⟨lowS x.f1, (impV (trimT q)).1, (impV (trimT q)).2⟩ else none
          | [] => none by
        conv => lhs; unfold oneV
        simp only
        rw [if_pos hx]
        rfl)
      generalize oneV (x :: r) = O at *
      generalize lowS x.f1 = nm at *
      clear hx
      go_enter Try.func42, Try.ntmps42
      go_upto_region 4 with (go_at_call 30; refine LW.out.mono ?_; rintro e w1 ⟨rfl, f1⟩; have F1 := Lib.hid (F0.out.trans f1); have HB1 := Lib.hid (f1.heap HB (by simp)); have HD := Lib.hid (heapNew w1 (.cells #[.string nm, .slice none 0 0, .bool false] 48)); have HB2 := Lib.hid (heapAlloc (o' := .cells #[.string nm, .slice none 0 0, .bool false] 48) HB1.out); clear f1)
      have FW := Lib.hid (F1.out.alloc (.cells #[.string nm, .slice none 0 0, .bool false] 48))
      have hbd := ltOf HB1.out
      clear LW HB F0 HB1 hg
      go_wp2_with fail

      all_goals (
        go_loopw [0] (fun v wr => ∃ (us : List Tok), us.length ≤ 100000 ∧ Hid (Fr (fun _ => False) (w1.alloc (.cells #[.string nm, .slice none 0 0, .bool false] 48)) wr) ∧ Hid (SlT w v us) ∧ Hid (lt1 us = lt1 r)) (fun v _ => slLen v)
        case atStart => exact ⟨r, by omega, Lib.hid (Fr.refl _ _), Lib.hid (by have := SlT.tail HR.out hn HCC.out.1 HCC.out.2; first | (rw [if_pos h] at this; subst h; exact this) | (rw [if_neg h] at this; exact this)), Lib.hid rfl⟩
        case round =>
          clear HR a0 a1
          obtain ⟨us, hus, hF, hS, hE⟩ := hrel
          obtain ⟨pu, cu, rfl, hRu, hcu, hmu⟩ := hS.out.ex
          have HRu := Lib.hid hRu
          have HCu := Lib.hid (And.intro hcu hmu)
          unfold maxLen at hmu
          clear hRu hS
          cases us with
          | nil =>
            have d0 : decide ((0 : Int) < (0 : Int)) = false := by simp
            rw [List.length_nil] at ⊢
            have HN := Lib.hid (show O = none by rw [HO.out, ← hE.out]; rfl)
            clear hE HRu
            have B0 := hF.out.heap HB2.out (by simp)
            have p0 := cellOf B0 0
            have p1 := cellOf B0 1
            have p2 := cellOf B0 2
            have t0 := frozenOf B0 0
            have t1 := frozenOf B0 1
            have t2 := frozenOf B0 2
            simp at p0 p1 p2
            clear B0
            go_wp2_with fail
            have Q0 := heapSet (heapSet (heapSet (hF.out.heap HB2.out (by simp)) 0 (.string ⟨#[]⟩)) 1 (.slice none 0 0)) 2 (.bool false)
            have z0 := cellOf Q0 0
            have z1 := cellOf Q0 1
            have z2 := cellOf Q0 2
            simp at z0 z1 z2
            have FQ := (((FW.out.trans hF.out).setCell (p := ⟨w.heap.size, 0, none⟩) (.inr (Nat.le_refl _)) (.string ⟨#[]⟩)).setCell (p := ⟨w.heap.size, 1, none⟩) (.inr (Nat.le_refl _)) (.slice none 0 0)).setCell (p := ⟨w.heap.size, 2, none⟩) (.inr (Nat.le_refl _)) (.bool false)
            refine bodyPost_ret (v := .tuple #[.agg #[.string ⟨#[]⟩, .slice none 0 0, .bool false], .bool false]) ?_ rfl ⟨_, rfl, ?_, FQ⟩
            · simp [results, Try.f42, go_sem, z0, z1, z2]
            · rw [HN.out]; exact rfl

          | cons y q =>
            rw [List.length_cons] at hcu hus HCu ⊢
            obtain ⟨m, hqn⟩ : ∃ m, q.length = m := ⟨_, rfl⟩
            rw [hqn] at hcu hus HCu ⊢
            have d0 : decide ((0 : Int) < (m : Int) + 1) = true := decide_eq_true (by omega)
            have dm : ((m : Int) + 1 == 0) = false := by rw [beq_eq_false_iff_ne]; omega
            obtain ⟨_, g', off', rfl, hg', b0, -, -, -, -⟩ := (HRu.out.fr (FW.out.trans hF.out)).at_ (i := 0) (x := y) rfl
            rw [Nat.zero_mul, Nat.add_zero] at b0
            by_cases h9 : y.f0 = 9
            · have q9 : (y.f0 == 9) = true := by simp [h9]
              have HE2 := Lib.hid (show lt1 q = lt1 r by rw [← hE.out]; unfold lt1; rw [List.dropWhile_cons_of_pos (by unfold isW; exact decide_eq_true h9)])
              have HS2 := Lib.hid (SlT.tail HRu.out hqn HCu.out.1 HCu.out.2)
              clear h9 hE
              go_wp2_with fail
              go_roundw
              case rel => exact ⟨q, by omega, hF, HS2, HE2⟩
              case measure => show m < m + 1; omega
            · have q9 : (y.f0 == 9) = false := by simp [h9]
              have HL := Lib.hid (show lt1 r = y :: q by rw [← hE.out]; unfold lt1; rw [List.dropWhile_cons_of_neg (by unfold isW; simpa using h9)])
              by_cases h11 : y.f0 = 11
              · have q11 : (y.f0 != 11) = false := by simp [h11]
                have HN := Lib.hid (show O = some ⟨nm, (impV (trimT q)).1, (impV (trimT q)).2⟩ by rw [HO.out, HL.out]; simp only; rw [if_pos h11])
                clear h11 h9 hE HL HO
                have ST0 := SlT.tail HRu.out hqn HCu.out.1 HCu.out.2
                by_cases hcu1 : cu = 1
                · rw [if_pos hcu1] at ST0
                  subst hcu1
                  have ST := Lib.hid (show SlT w (.slice (some ⟨g', off', none⟩) 0 0) q by have hm0 : m = 0 := (by omega); rw [hm0] at ST0; exact ST0)
                  clear ST0
                  have HQ := Lib.hid (show q.length ≤ 100000 by omega)
                  obtain ⟨U, hV⟩ : ∃ U, trimT q = U := ⟨_, rfl⟩
                  have HIL := Lib.hid (show U.length ≤ 100000 by have := trimT_len q; rw [hV] at this; omega)
                  rw [hV] at HN
                  go_upto_region 10 with (go_at_call 59; with_reducible refine (trim59_any _ _ q (ST.out.fr (FW.out.trans hF.out)) HQ.out).mono ?_; rintro e w6 ⟨v6, rfl, s6, f6⟩; have G6 := Lib.hid (hF.out.trans f6); rw [hV] at s6; obtain ⟨p6, k6, rfl, hr6, hc6, hm6⟩ := s6.ex; have R6 := Lib.hid hr6; have K6 := Lib.hid (And.intro hc6 hm6); clear f6 s6 hr6 hc6 hm6)
                  rcases (show U = [] ∨ ∃ r x, U = r ++ [x] by rcases List.eq_nil_or_concat U with h | ⟨r, x, h⟩; exact .inl h; exact .inr ⟨r, x, by rw [h, List.concat_eq_append]⟩) with hU0 | ⟨s, z, hUs⟩
                  · subst hU0
                    have HI := Lib.hid (show impV [] = (([] : List Tok), false) from rfl)
                    have dz : decide ((0 : Int) < (0 : Int)) = false := by simp
                    have HN := Lib.hid (show O = some ⟨nm, [], false⟩ by rw [HN.out, HI.out])
                    go_upto_region 17 with fail
                    have RR8 := R6.out
                    have HD8 := Lib.hid (G6.out.heap HD.out (by simp))
                    have HB8 := Lib.hid (G6.out.heap HB2.out (by simp))
                    have F8 := Lib.hid (FW.out.trans G6.out)
                    have R8 := Lib.hid RR8
                    have j0 := cellOf HD8.out 0
                    have j1 := cellOf HD8.out 1
                    have j2 := cellOf HD8.out 2
                    have k0 := frozenOf HD8.out 0
                    have k1 := frozenOf HD8.out 1
                    have k2 := frozenOf HD8.out 2
                    simp at j0 j1 j2
                    go_wp2_with (at_builtin; refine wpList_append_src _ rfl (.const (.slice none 0 0)) (.tmp 105) 22 rfl _ 35 i35 _ 5 48 Try.underlying22 ha0 ha1 ha2 ha3 rfl (by omega) (.slice none 0 0) 0 [] rfl (OwnsWin.nil _ _ _ _) _ 0 k6 (([] : List Value)) rfl (show SrcW _ 5 _ 0 (([] : List Value)) from R8.out.src) (tL_one_cell []) (by unfold maxLen; have := HIL.out; omega) (by have := HIL.out; omega) (Nat.le_refl _) ?_; intro s9 c9 w9 h9 g9 _; rw [Nat.zero_add, List.nil_append] at h9; rw [Nat.zero_add]; have O9 := Lib.hid h9; have f9 := (Fr.refl (fun _ => False) _).grown g9 (fun k e => by simp [Value.ownBlock] at e); have F9 := Lib.hid (F8.out.trans f9); have HD9 := f9.heap HD8.out (by simp); have HB9 := f9.heap HB8.out (by simp); have x0 := cellOf HD9 0; have x1 := cellOf HD9 1; have x2 := cellOf HD9 2; have y0 := frozenOf HD9 0; have y1 := frozenOf HD9 1; have y2 := frozenOf HD9 2; simp at x0 x1 x2; have HD10 := heapSet HD9 1 (.slice s9 0 c9); simp at HD10; have X0 := cellOf HD10 0; have X1 := cellOf HD10 1; have X2 := cellOf HD10 2; have Y0 := frozenOf HD10 0; have Y1 := frozenOf HD10 1; have Y2 := frozenOf HD10 2; simp at X0 X1 X2; have HB10 := (heapSetOther (w := w9) (b := w1.heap.size) 1 (.slice s9 0 c9) (Nat.ne_of_lt hbd)).trans HB9; have m0 := cellOf HB10 0; have m1 := cellOf HB10 1; have m2 := cellOf HB10 2; have n0 := frozenOf HB10 0; have n1 := frozenOf HB10 1; have n2 := frozenOf HB10 2; simp at m0 m1 m2; have HBX := Lib.hid HB10; clear h9 g9 f9 HD9 HB9 HD10 HB10)
                    have Q0 := heapSet (heapSet (heapSet HBX.out 0 (.string nm)) 1 (.slice s9 0 c9)) 2 (.bool false)
                    have z0 := cellOf Q0 0
                    have z1 := cellOf Q0 1
                    have z2 := cellOf Q0 2
                    simp at z0 z1 z2
                    have FQ := ((((F9.out.setCell (p := ⟨w1.heap.size, 1, none⟩) (.inr (Nat.le_of_lt hbd)) (.slice s9 0 c9))).setCell (p := ⟨w.heap.size, 0, none⟩) (.inr (Nat.le_refl _)) (.string nm)).setCell (p := ⟨w.heap.size, 1, none⟩) (.inr (Nat.le_refl _)) (.slice s9 0 c9)).setCell (p := ⟨w.heap.size, 2, none⟩) (.inr (Nat.le_refl _)) (.bool false)
                    have FS := ((((Fr.refl (fun k => k ≤ w1.heap.size) w9).setCell (p := ⟨w1.heap.size, 1, none⟩) (.inl (Nat.le_refl _)) (.slice s9 0 c9)).setCell (p := ⟨w.heap.size, 0, none⟩) (.inl (Nat.le_of_lt hbd)) (.string nm)).setCell (p := ⟨w.heap.size, 1, none⟩) (.inl (Nat.le_of_lt hbd)) (.slice s9 0 c9)).setCell (p := ⟨w.heap.size, 2, none⟩) (.inl (Nat.le_of_lt hbd)) (.bool false)
                    have hd8 := ltOf HD8.out
                    refine bodyPost_ret (v := .tuple #[.agg #[.string nm, .slice s9 0 c9, .bool false], .bool true]) ?_ rfl ⟨_, rfl, ?_, FQ⟩
                    · simp [results, Try.f42, go_sem, z0, z1, z2]
                    · rw [HN.out]
                      exact ⟨_, rfl, s9, c9, rfl, ((O9.out.fr FS (fun k hk => by have := (O9.out.lt _ hk).1; omega)).lower F8.out.size), FQ⟩

                  have e1 : U.getLast? = some z := by rw [hUs]; simp
                  have e2 : U.dropLast = s := by rw [hUs]; simp
                  obtain ⟨sn, hsn⟩ : ∃ sn, s.length = sn := ⟨_, rfl⟩
                  have hul : U.length = sn + 1 := by rw [hUs]; simp [hsn]
                  have hx := HIL.out
                  obtain ⟨zsz, zg, zoff, hp6, zlt, z0, z1, -, -, -⟩ := R6.out.at_ (i := sn) (x := z) (by rw [hUs, List.getElem?_append_right (by omega), hsn, Nat.sub_self]; rfl)
                  subst hp6
                  have dz : decide ((0 : Int) < (U.length : Int)) = true := decide_eq_true (by omega)
                  have sz0 : (U.length : Int) - 1 = (sn : Int) := by omega
                  have sz1 : (sn : Int) < (U.length : Int) := by omega
                  have HUL := Lib.hid hul
                  have HUs := Lib.hid hUs
                  clear hul hUs
                  by_cases hz1 : z.f0 = 1
                  · have qz : (z.f0 == 1) = true := by simp [hz1]
                    have LZ := Lib.hid (RLower_any z.f1 w6 zsz)
                    by_cases hS : lowS z.f1 = impS
                    · have qs : ((lowS z.f1).toList == [105, 109, 112, 111, 114, 116, 97, 110, 116]) = true := by rw [← impL, strEq]; exact decide_eq_true hS
                      have HI0 := Lib.hid (show impV U = match (trimT s).getLast? with
                          | some y => if y.f0 = 10 ∧ y.f4 = 33 then (trimT (trimT s).dropLast, true) else (U, false)
                          | none => (U, false) by
                        conv => lhs; unfold impV
                        rw [e1, e2]
                        simp only
                        rw [if_pos ⟨hz1, hS⟩]
                        rfl)
                      have K6' := K6.out
                      have hul := HUL.out
                      have hUs := HUs.out
                      have u1 : (sn : Int) ≤ (k6 : Int) := by omega
                      have u2 : sn ≤ k6 := by omega
                      have TR := Lib.hid (show ∀ W, Fr (fun _ => False) w6 W → Calls Try.prog 59 #[.slice (some ⟨zg, zoff, none⟩) sn k6] W fun e w' => ∃ v', e = .returned v' ∧ SlT w' v' (trimT s) ∧ Fr (fun _ => False) W w' from fun W f => trim59_any W _ s (SlT.init (x := z) (by rw [← hUs]; exact R6.out.fr f) hsn (by omega) K6'.2) (by omega))
                      have htl : (trimT s).length ≤ 100000 := by have := trimT_len s; omega
                      generalize lowS z.f1 = ls at *
                      generalize trimT s = T at *
                      clear hz1 hS e1 e2 hul hUs
                      go_upto_region 12 with (go_at_call 30; refine LZ.out.mono ?_; rintro e w7 ⟨rfl, f7⟩; have G7 := Lib.hid (G6.out.trans f7); have R7 := Lib.hid (R6.out.fr f7); have H67 := Lib.hid f7; clear f7)
                      go_upto_region 13 with (go_at_call 59; with_reducible refine (TR.out _ H67.out).mono ?_; rintro e w8 ⟨v8, rfl, s8, f8⟩; have G8 := Lib.hid (G7.out.trans f8); have RU8 := Lib.hid (R7.out.fr f8); obtain ⟨p8, k8, rfl, hr8, hc8, hm8⟩ := s8.ex; have RT8 := Lib.hid hr8; have K8 := Lib.hid (And.intro hc8 hm8); clear f8 s8 hr8 hc8 hm8)
                      clear TR LZ
                      rcases (show T = [] ∨ ∃ r x, T = r ++ [x] by rcases List.eq_nil_or_concat T with h | ⟨r, x, h⟩; exact .inl h; exact .inr ⟨r, x, by rw [h, List.concat_eq_append]⟩) with hT0 | ⟨s2, y2, hTs⟩
                      · subst hT0
                        have HI := Lib.hid (show impV U = (U, false) from HI0.out)
                        have dt : decide ((0 : Int) < (0 : Int)) = false := by simp
                        have HN := Lib.hid (show O = some ⟨nm, U, false⟩ by rw [HN.out, HI.out])
                        go_upto_region 17 with fail
                        have RR8 := RU8.out
                        have HD8 := Lib.hid (G8.out.heap HD.out (by simp))
                        have HB8 := Lib.hid (G8.out.heap HB2.out (by simp))
                        have F8 := Lib.hid (FW.out.trans G8.out)
                        have R8 := Lib.hid RR8
                        have j0 := cellOf HD8.out 0
                        have j1 := cellOf HD8.out 1
                        have j2 := cellOf HD8.out 2
                        have k0 := frozenOf HD8.out 0
                        have k1 := frozenOf HD8.out 1
                        have k2 := frozenOf HD8.out 2
                        simp at j0 j1 j2
                        go_wp2_with (at_builtin; refine wpList_append_src _ rfl (.const (.slice none 0 0)) (.tmp 105) 22 rfl _ 35 i35 _ 5 48 Try.underlying22 ha0 ha1 ha2 ha3 rfl (by omega) (.slice none 0 0) 0 [] rfl (OwnsWin.nil _ _ _ _) _ U.length k6 (tL U) rfl R8.out.src (tL_one_cell U) (by unfold maxLen; have := HIL.out; omega) (by have := HIL.out; omega) (Nat.le_refl _) ?_; intro s9 c9 w9 h9 g9 _; rw [Nat.zero_add, List.nil_append] at h9; rw [Nat.zero_add]; have O9 := Lib.hid h9; have f9 := (Fr.refl (fun _ => False) _).grown g9 (fun k e => by simp [Value.ownBlock] at e); have F9 := Lib.hid (F8.out.trans f9); have HD9 := f9.heap HD8.out (by simp); have HB9 := f9.heap HB8.out (by simp); have x0 := cellOf HD9 0; have x1 := cellOf HD9 1; have x2 := cellOf HD9 2; have y0 := frozenOf HD9 0; have y1 := frozenOf HD9 1; have y2 := frozenOf HD9 2; simp at x0 x1 x2; have HD10 := heapSet HD9 1 (.slice s9 U.length c9); simp at HD10; have X0 := cellOf HD10 0; have X1 := cellOf HD10 1; have X2 := cellOf HD10 2; have Y0 := frozenOf HD10 0; have Y1 := frozenOf HD10 1; have Y2 := frozenOf HD10 2; simp at X0 X1 X2; have HB10 := (heapSetOther (w := w9) (b := w1.heap.size) 1 (.slice s9 U.length c9) (Nat.ne_of_lt hbd)).trans HB9; have m0 := cellOf HB10 0; have m1 := cellOf HB10 1; have m2 := cellOf HB10 2; have n0 := frozenOf HB10 0; have n1 := frozenOf HB10 1; have n2 := frozenOf HB10 2; simp at m0 m1 m2; have HBX := Lib.hid HB10; clear h9 g9 f9 HD9 HB9 HD10 HB10)
                        have Q0 := heapSet (heapSet (heapSet HBX.out 0 (.string nm)) 1 (.slice s9 U.length c9)) 2 (.bool false)
                        have z0 := cellOf Q0 0
                        have z1 := cellOf Q0 1
                        have z2 := cellOf Q0 2
                        simp at z0 z1 z2
                        have FQ := ((((F9.out.setCell (p := ⟨w1.heap.size, 1, none⟩) (.inr (Nat.le_of_lt hbd)) (.slice s9 U.length c9))).setCell (p := ⟨w.heap.size, 0, none⟩) (.inr (Nat.le_refl _)) (.string nm)).setCell (p := ⟨w.heap.size, 1, none⟩) (.inr (Nat.le_refl _)) (.slice s9 U.length c9)).setCell (p := ⟨w.heap.size, 2, none⟩) (.inr (Nat.le_refl _)) (.bool false)
                        have FS := ((((Fr.refl (fun k => k ≤ w1.heap.size) w9).setCell (p := ⟨w1.heap.size, 1, none⟩) (.inl (Nat.le_refl _)) (.slice s9 U.length c9)).setCell (p := ⟨w.heap.size, 0, none⟩) (.inl (Nat.le_of_lt hbd)) (.string nm)).setCell (p := ⟨w.heap.size, 1, none⟩) (.inl (Nat.le_of_lt hbd)) (.slice s9 U.length c9)).setCell (p := ⟨w.heap.size, 2, none⟩) (.inl (Nat.le_of_lt hbd)) (.bool false)
                        have hd8 := ltOf HD8.out
                        refine bodyPost_ret (v := .tuple #[.agg #[.string nm, .slice s9 U.length c9, .bool false], .bool true]) ?_ rfl ⟨_, rfl, ?_, FQ⟩
                        · simp [results, Try.f42, go_sem, z0, z1, z2]
                        · rw [HN.out]
                          exact ⟨_, rfl, s9, c9, rfl, ((O9.out.fr FS (fun k hk => by have := (O9.out.lt _ hk).1; omega)).lower F8.out.size), FQ⟩

                      have e3 : T.getLast? = some y2 := by rw [hTs]; simp
                      have e4 : T.dropLast = s2 := by rw [hTs]; simp
                      obtain ⟨tn, htn⟩ : ∃ tn, s2.length = tn := ⟨_, rfl⟩
                      have htl2 : T.length = tn + 1 := by rw [hTs]; simp [htn]
                      obtain ⟨ysz, yg, yoff, hp8, ylt, y0_, -, -, -, y4_⟩ := RT8.out.at_ (i := tn) (x := y2) (by rw [hTs, List.getElem?_append_right (by omega), htn, Nat.sub_self]; rfl)
                      subst hp8
                      have dt : decide ((0 : Int) < (T.length : Int)) = true := decide_eq_true (by omega)
                      have st0 : (T.length : Int) - 1 = (tn : Int) := by omega
                      have st1_ : (tn : Int) < (T.length : Int) := by omega
                      have K8' := K8.out
                      have t1 : (tn : Int) ≤ (k8 : Int) := by omega
                      have t2 : tn ≤ k8 := by omega
                      have HS2 := Lib.hid (show ∀ W, RdT W (some ⟨yg, yoff, none⟩) T → SlT W (.slice (some ⟨yg, yoff, none⟩) tn k8) s2 from fun W h => SlT.init (x := y2) (by rw [← hTs]; exact h) htn (by omega) K8'.2)
                      have HL2 := Lib.hid (show s2.length ≤ 100000 by omega)
                      rw [e3, e4] at HI0
                      clear htl2 hTs e3 e4
                      by_cases h10 : y2.f0 = 10
                      · have q10 : (y2.f0 == 10) = true := by simp [h10]
                        by_cases h33 : y2.f4 = 33
                        · have q33 : (y2.f4 == 33) = true := by simp [h33]
                          have HI := Lib.hid (show impV U = (trimT s2, true) by rw [HI0.out]; simp only; rw [if_pos ⟨h10, h33⟩])
                          obtain ⟨U2, hU2⟩ : ∃ U2, trimT s2 = U2 := ⟨_, rfl⟩
                          have HIL2 := Lib.hid (show U2.length ≤ 100000 by have := trimT_len s2; rw [hU2] at this; have := HL2.out; omega)
                          have HU2 := Lib.hid hU2
                          rw [hU2] at HI
                          clear h10 h33 hU2
                          have HN := Lib.hid (show O = some ⟨nm, U2, true⟩ by rw [HN.out, HI.out])
                          have HD8 := Lib.hid (G8.out.heap HD.out (by simp))
                          have j0 := cellOf HD8.out 0
                          have j1 := cellOf HD8.out 1
                          have j2 := cellOf HD8.out 2
                          have k0 := frozenOf HD8.out 0
                          have k1 := frozenOf HD8.out 1
                          have k2 := frozenOf HD8.out 2
                          simp at j0 j1 j2
                          have HDS := Lib.hid (by have := heapSet HD8.out 2 (.bool true); simp at this; exact this)
                          have TS := Lib.hid (HS2.out _ (RdT.awayD HD8.out RT8.out 2 (.bool true)))
                          have FS8 := Lib.hid ((FW.out.trans G8.out).setCell (p := ⟨w1.heap.size, 2, none⟩) (.inr (Nat.le_of_lt hbd)) (.bool true))
                          have HBS := Lib.hid ((heapSetOther (w := w8) (b := w1.heap.size) 2 (.bool true) (Nat.ne_of_lt hbd)).trans (G8.out.heap HB2.out (by simp)))
                          go_upto_region 17 with (go_at_call 59; with_reducible refine (trim59_any _ _ s2 TS.out HL2.out).mono ?_; rintro e wA ⟨vA, rfl, sA, fA⟩; rw [HU2.out] at sA; obtain ⟨pA, kA, rfl, hrA, hcA, hmA⟩ := sA.ex; have R8 := Lib.hid hrA; have HD9_ := Lib.hid (fA.heap HDS.out (by simp)); have HB8 := Lib.hid (fA.heap HBS.out (by simp)); have F8 := Lib.hid (FS8.out.trans fA); clear fA sA hrA hcA hmA)
                          clear HD8 j0 j1 j2 k0 k1 k2
                          have HD8 := HD9_
                          have j0 := cellOf HD8.out 0
                          have j1 := cellOf HD8.out 1
                          have j2 := cellOf HD8.out 2
                          have k0 := frozenOf HD8.out 0
                          have k1 := frozenOf HD8.out 1
                          have k2 := frozenOf HD8.out 2
                          simp at j0 j1 j2
                          go_wp2_with (at_builtin; refine wpList_append_src _ rfl (.const (.slice none 0 0)) (.tmp 105) 22 rfl _ 35 i35 _ 5 48 Try.underlying22 ha0 ha1 ha2 ha3 rfl (by omega) (.slice none 0 0) 0 [] rfl (OwnsWin.nil _ _ _ _) _ U2.length kA (tL U2) rfl R8.out.src (tL_one_cell U2) (by unfold maxLen; have := HIL2.out; omega) (by have := HIL2.out; omega) (Nat.le_refl _) ?_; intro s9 c9 w9 h9 g9 _; rw [Nat.zero_add, List.nil_append] at h9; rw [Nat.zero_add]; have O9 := Lib.hid h9; have f9 := (Fr.refl (fun _ => False) _).grown g9 (fun k e => by simp [Value.ownBlock] at e); have F9 := Lib.hid (F8.out.trans f9); have HD9 := f9.heap HD8.out (by simp); have HB9 := f9.heap HB8.out (by simp); have x0 := cellOf HD9 0; have x1 := cellOf HD9 1; have x2 := cellOf HD9 2; have y0 := frozenOf HD9 0; have y1 := frozenOf HD9 1; have y2 := frozenOf HD9 2; simp at x0 x1 x2; have HD10 := heapSet HD9 1 (.slice s9 U2.length c9); simp at HD10; have X0 := cellOf HD10 0; have X1 := cellOf HD10 1; have X2 := cellOf HD10 2; have Y0 := frozenOf HD10 0; have Y1 := frozenOf HD10 1; have Y2 := frozenOf HD10 2; simp at X0 X1 X2; have HB10 := (heapSetOther (w := w9) (b := w1.heap.size) 1 (.slice s9 U2.length c9) (Nat.ne_of_lt hbd)).trans HB9; have m0 := cellOf HB10 0; have m1 := cellOf HB10 1; have m2 := cellOf HB10 2; have n0 := frozenOf HB10 0; have n1 := frozenOf HB10 1; have n2 := frozenOf HB10 2; simp at m0 m1 m2; have HBX := Lib.hid HB10; clear h9 g9 f9 HD9 HB9 HD10 HB10)
                          have Q0 := heapSet (heapSet (heapSet HBX.out 0 (.string nm)) 1 (.slice s9 U2.length c9)) 2 (.bool true)
                          have z0 := cellOf Q0 0
                          have z1 := cellOf Q0 1
                          have z2 := cellOf Q0 2
                          simp at z0 z1 z2
                          have FQ := ((((F9.out.setCell (p := ⟨w1.heap.size, 1, none⟩) (.inr (Nat.le_of_lt hbd)) (.slice s9 U2.length c9))).setCell (p := ⟨w.heap.size, 0, none⟩) (.inr (Nat.le_refl _)) (.string nm)).setCell (p := ⟨w.heap.size, 1, none⟩) (.inr (Nat.le_refl _)) (.slice s9 U2.length c9)).setCell (p := ⟨w.heap.size, 2, none⟩) (.inr (Nat.le_refl _)) (.bool true)
                          have FS := ((((Fr.refl (fun k => k ≤ w1.heap.size) w9).setCell (p := ⟨w1.heap.size, 1, none⟩) (.inl (Nat.le_refl _)) (.slice s9 U2.length c9)).setCell (p := ⟨w.heap.size, 0, none⟩) (.inl (Nat.le_of_lt hbd)) (.string nm)).setCell (p := ⟨w.heap.size, 1, none⟩) (.inl (Nat.le_of_lt hbd)) (.slice s9 U2.length c9)).setCell (p := ⟨w.heap.size, 2, none⟩) (.inl (Nat.le_of_lt hbd)) (.bool true)
                          have hd8 := ltOf HD8.out
                          refine bodyPost_ret (v := .tuple #[.agg #[.string nm, .slice s9 U2.length c9, .bool true], .bool true]) ?_ rfl ⟨_, rfl, ?_, FQ⟩
                          · simp [results, Try.f42, go_sem, z0, z1, z2]
                          · rw [HN.out]
                            exact ⟨_, rfl, s9, c9, rfl, ((O9.out.fr FS (fun k hk => by have := (O9.out.lt _ hk).1; omega)).lower F8.out.size), FQ⟩

                        · have q33 : (y2.f4 == 33) = false := by simp [h33]
                          have HI := Lib.hid (show impV U = (U, false) by rw [HI0.out]; simp only; rw [if_neg (fun h => h33 h.2)])
                          clear h10 h33
                          have HN := Lib.hid (show O = some ⟨nm, U, false⟩ by rw [HN.out, HI.out])
                          go_upto_region 17 with fail
                          have RR8 := RU8.out
                          have HD8 := Lib.hid (G8.out.heap HD.out (by simp))
                          have HB8 := Lib.hid (G8.out.heap HB2.out (by simp))
                          have F8 := Lib.hid (FW.out.trans G8.out)
                          have R8 := Lib.hid RR8
                          have j0 := cellOf HD8.out 0
                          have j1 := cellOf HD8.out 1
                          have j2 := cellOf HD8.out 2
                          have k0 := frozenOf HD8.out 0
                          have k1 := frozenOf HD8.out 1
                          have k2 := frozenOf HD8.out 2
                          simp at j0 j1 j2
                          go_wp2_with (at_builtin; refine wpList_append_src _ rfl (.const (.slice none 0 0)) (.tmp 105) 22 rfl _ 35 i35 _ 5 48 Try.underlying22 ha0 ha1 ha2 ha3 rfl (by omega) (.slice none 0 0) 0 [] rfl (OwnsWin.nil _ _ _ _) _ U.length k6 (tL U) rfl R8.out.src (tL_one_cell U) (by unfold maxLen; have := HIL.out; omega) (by have := HIL.out; omega) (Nat.le_refl _) ?_; intro s9 c9 w9 h9 g9 _; rw [Nat.zero_add, List.nil_append] at h9; rw [Nat.zero_add]; have O9 := Lib.hid h9; have f9 := (Fr.refl (fun _ => False) _).grown g9 (fun k e => by simp [Value.ownBlock] at e); have F9 := Lib.hid (F8.out.trans f9); have HD9 := f9.heap HD8.out (by simp); have HB9 := f9.heap HB8.out (by simp); have x0 := cellOf HD9 0; have x1 := cellOf HD9 1; have x2 := cellOf HD9 2; have y0 := frozenOf HD9 0; have y1 := frozenOf HD9 1; have y2 := frozenOf HD9 2; simp at x0 x1 x2; have HD10 := heapSet HD9 1 (.slice s9 U.length c9); simp at HD10; have X0 := cellOf HD10 0; have X1 := cellOf HD10 1; have X2 := cellOf HD10 2; have Y0 := frozenOf HD10 0; have Y1 := frozenOf HD10 1; have Y2 := frozenOf HD10 2; simp at X0 X1 X2; have HB10 := (heapSetOther (w := w9) (b := w1.heap.size) 1 (.slice s9 U.length c9) (Nat.ne_of_lt hbd)).trans HB9; have m0 := cellOf HB10 0; have m1 := cellOf HB10 1; have m2 := cellOf HB10 2; have n0 := frozenOf HB10 0; have n1 := frozenOf HB10 1; have n2 := frozenOf HB10 2; simp at m0 m1 m2; have HBX := Lib.hid HB10; clear h9 g9 f9 HD9 HB9 HD10 HB10)
                          have Q0 := heapSet (heapSet (heapSet HBX.out 0 (.string nm)) 1 (.slice s9 U.length c9)) 2 (.bool false)
                          have z0 := cellOf Q0 0
                          have z1 := cellOf Q0 1
                          have z2 := cellOf Q0 2
                          simp at z0 z1 z2
                          have FQ := ((((F9.out.setCell (p := ⟨w1.heap.size, 1, none⟩) (.inr (Nat.le_of_lt hbd)) (.slice s9 U.length c9))).setCell (p := ⟨w.heap.size, 0, none⟩) (.inr (Nat.le_refl _)) (.string nm)).setCell (p := ⟨w.heap.size, 1, none⟩) (.inr (Nat.le_refl _)) (.slice s9 U.length c9)).setCell (p := ⟨w.heap.size, 2, none⟩) (.inr (Nat.le_refl _)) (.bool false)
                          have FS := ((((Fr.refl (fun k => k ≤ w1.heap.size) w9).setCell (p := ⟨w1.heap.size, 1, none⟩) (.inl (Nat.le_refl _)) (.slice s9 U.length c9)).setCell (p := ⟨w.heap.size, 0, none⟩) (.inl (Nat.le_of_lt hbd)) (.string nm)).setCell (p := ⟨w.heap.size, 1, none⟩) (.inl (Nat.le_of_lt hbd)) (.slice s9 U.length c9)).setCell (p := ⟨w.heap.size, 2, none⟩) (.inl (Nat.le_of_lt hbd)) (.bool false)
                          have hd8 := ltOf HD8.out
                          refine bodyPost_ret (v := .tuple #[.agg #[.string nm, .slice s9 U.length c9, .bool false], .bool true]) ?_ rfl ⟨_, rfl, ?_, FQ⟩
                          · simp [results, Try.f42, go_sem, z0, z1, z2]
                          · rw [HN.out]
                            exact ⟨_, rfl, s9, c9, rfl, ((O9.out.fr FS (fun k hk => by have := (O9.out.lt _ hk).1; omega)).lower F8.out.size), FQ⟩

                      · have q10 : (y2.f0 == 10) = false := by simp [h10]
                        have HI := Lib.hid (show impV U = (U, false) by rw [HI0.out]; simp only; rw [if_neg (fun h => h10 h.1)])
                        clear h10
                        have HN := Lib.hid (show O = some ⟨nm, U, false⟩ by rw [HN.out, HI.out])
                        go_upto_region 17 with fail
                        have RR8 := RU8.out
                        have HD8 := Lib.hid (G8.out.heap HD.out (by simp))
                        have HB8 := Lib.hid (G8.out.heap HB2.out (by simp))
                        have F8 := Lib.hid (FW.out.trans G8.out)
                        have R8 := Lib.hid RR8
                        have j0 := cellOf HD8.out 0
                        have j1 := cellOf HD8.out 1
                        have j2 := cellOf HD8.out 2
                        have k0 := frozenOf HD8.out 0
                        have k1 := frozenOf HD8.out 1
                        have k2 := frozenOf HD8.out 2
                        simp at j0 j1 j2
                        go_wp2_with (at_builtin; refine wpList_append_src _ rfl (.const (.slice none 0 0)) (.tmp 105) 22 rfl _ 35 i35 _ 5 48 Try.underlying22 ha0 ha1 ha2 ha3 rfl (by omega) (.slice none 0 0) 0 [] rfl (OwnsWin.nil _ _ _ _) _ U.length k6 (tL U) rfl R8.out.src (tL_one_cell U) (by unfold maxLen; have := HIL.out; omega) (by have := HIL.out; omega) (Nat.le_refl _) ?_; intro s9 c9 w9 h9 g9 _; rw [Nat.zero_add, List.nil_append] at h9; rw [Nat.zero_add]; have O9 := Lib.hid h9; have f9 := (Fr.refl (fun _ => False) _).grown g9 (fun k e => by simp [Value.ownBlock] at e); have F9 := Lib.hid (F8.out.trans f9); have HD9 := f9.heap HD8.out (by simp); have HB9 := f9.heap HB8.out (by simp); have x0 := cellOf HD9 0; have x1 := cellOf HD9 1; have x2 := cellOf HD9 2; have y0 := frozenOf HD9 0; have y1 := frozenOf HD9 1; have y2 := frozenOf HD9 2; simp at x0 x1 x2; have HD10 := heapSet HD9 1 (.slice s9 U.length c9); simp at HD10; have X0 := cellOf HD10 0; have X1 := cellOf HD10 1; have X2 := cellOf HD10 2; have Y0 := frozenOf HD10 0; have Y1 := frozenOf HD10 1; have Y2 := frozenOf HD10 2; simp at X0 X1 X2; have HB10 := (heapSetOther (w := w9) (b := w1.heap.size) 1 (.slice s9 U.length c9) (Nat.ne_of_lt hbd)).trans HB9; have m0 := cellOf HB10 0; have m1 := cellOf HB10 1; have m2 := cellOf HB10 2; have n0 := frozenOf HB10 0; have n1 := frozenOf HB10 1; have n2 := frozenOf HB10 2; simp at m0 m1 m2; have HBX := Lib.hid HB10; clear h9 g9 f9 HD9 HB9 HD10 HB10)
                        have Q0 := heapSet (heapSet (heapSet HBX.out 0 (.string nm)) 1 (.slice s9 U.length c9)) 2 (.bool false)
                        have z0 := cellOf Q0 0
                        have z1 := cellOf Q0 1
                        have z2 := cellOf Q0 2
                        simp at z0 z1 z2
                        have FQ := ((((F9.out.setCell (p := ⟨w1.heap.size, 1, none⟩) (.inr (Nat.le_of_lt hbd)) (.slice s9 U.length c9))).setCell (p := ⟨w.heap.size, 0, none⟩) (.inr (Nat.le_refl _)) (.string nm)).setCell (p := ⟨w.heap.size, 1, none⟩) (.inr (Nat.le_refl _)) (.slice s9 U.length c9)).setCell (p := ⟨w.heap.size, 2, none⟩) (.inr (Nat.le_refl _)) (.bool false)
                        have FS := ((((Fr.refl (fun k => k ≤ w1.heap.size) w9).setCell (p := ⟨w1.heap.size, 1, none⟩) (.inl (Nat.le_refl _)) (.slice s9 U.length c9)).setCell (p := ⟨w.heap.size, 0, none⟩) (.inl (Nat.le_of_lt hbd)) (.string nm)).setCell (p := ⟨w.heap.size, 1, none⟩) (.inl (Nat.le_of_lt hbd)) (.slice s9 U.length c9)).setCell (p := ⟨w.heap.size, 2, none⟩) (.inl (Nat.le_of_lt hbd)) (.bool false)
                        have hd8 := ltOf HD8.out
                        refine bodyPost_ret (v := .tuple #[.agg #[.string nm, .slice s9 U.length c9, .bool false], .bool true]) ?_ rfl ⟨_, rfl, ?_, FQ⟩
                        · simp [results, Try.f42, go_sem, z0, z1, z2]
                        · rw [HN.out]
                          exact ⟨_, rfl, s9, c9, rfl, ((O9.out.fr FS (fun k hk => by have := (O9.out.lt _ hk).1; omega)).lower F8.out.size), FQ⟩

                    · have qs : ((lowS z.f1).toList == [105, 109, 112, 111, 114, 116, 97, 110, 116]) = false := by rw [← impL, strEq]; exact decide_eq_false hS
                      have HI := Lib.hid (show impV U = (U, false) by
                        unfold impV
                        rw [e1]
                        simp only
                        rw [if_neg (fun h => hS h.2)])
                      generalize lowS z.f1 = ls at *
                      clear hz1 hS e1 e2
                      have HN := Lib.hid (show O = some ⟨nm, U, false⟩ by rw [HN.out, HI.out])
                      go_upto_region 17 with (go_at_call 30; refine LZ.out.mono ?_; rintro e w7 ⟨rfl, f7⟩; have G7 := Lib.hid (G6.out.trans f7); have R7 := Lib.hid (R6.out.fr f7); clear f7)
                      have RR8 := R7.out
                      have HD8 := Lib.hid (G7.out.heap HD.out (by simp))
                      have HB8 := Lib.hid (G7.out.heap HB2.out (by simp))
                      have F8 := Lib.hid (FW.out.trans G7.out)
                      have R8 := Lib.hid RR8
                      have j0 := cellOf HD8.out 0
                      have j1 := cellOf HD8.out 1
                      have j2 := cellOf HD8.out 2
                      have k0 := frozenOf HD8.out 0
                      have k1 := frozenOf HD8.out 1
                      have k2 := frozenOf HD8.out 2
                      simp at j0 j1 j2
                      go_wp2_with (at_builtin; refine wpList_append_src _ rfl (.const (.slice none 0 0)) (.tmp 105) 22 rfl _ 35 i35 _ 5 48 Try.underlying22 ha0 ha1 ha2 ha3 rfl (by omega) (.slice none 0 0) 0 [] rfl (OwnsWin.nil _ _ _ _) _ U.length k6 (tL U) rfl R8.out.src (tL_one_cell U) (by unfold maxLen; have := HIL.out; omega) (by have := HIL.out; omega) (Nat.le_refl _) ?_; intro s9 c9 w9 h9 g9 _; rw [Nat.zero_add, List.nil_append] at h9; rw [Nat.zero_add]; have O9 := Lib.hid h9; have f9 := (Fr.refl (fun _ => False) _).grown g9 (fun k e => by simp [Value.ownBlock] at e); have F9 := Lib.hid (F8.out.trans f9); have HD9 := f9.heap HD8.out (by simp); have HB9 := f9.heap HB8.out (by simp); have x0 := cellOf HD9 0; have x1 := cellOf HD9 1; have x2 := cellOf HD9 2; have y0 := frozenOf HD9 0; have y1 := frozenOf HD9 1; have y2 := frozenOf HD9 2; simp at x0 x1 x2; have HD10 := heapSet HD9 1 (.slice s9 U.length c9); simp at HD10; have X0 := cellOf HD10 0; have X1 := cellOf HD10 1; have X2 := cellOf HD10 2; have Y0 := frozenOf HD10 0; have Y1 := frozenOf HD10 1; have Y2 := frozenOf HD10 2; simp at X0 X1 X2; have HB10 := (heapSetOther (w := w9) (b := w1.heap.size) 1 (.slice s9 U.length c9) (Nat.ne_of_lt hbd)).trans HB9; have m0 := cellOf HB10 0; have m1 := cellOf HB10 1; have m2 := cellOf HB10 2; have n0 := frozenOf HB10 0; have n1 := frozenOf HB10 1; have n2 := frozenOf HB10 2; simp at m0 m1 m2; have HBX := Lib.hid HB10; clear h9 g9 f9 HD9 HB9 HD10 HB10)
                      have Q0 := heapSet (heapSet (heapSet HBX.out 0 (.string nm)) 1 (.slice s9 U.length c9)) 2 (.bool false)
                      have z0 := cellOf Q0 0
                      have z1 := cellOf Q0 1
                      have z2 := cellOf Q0 2
                      simp at z0 z1 z2
                      have FQ := ((((F9.out.setCell (p := ⟨w1.heap.size, 1, none⟩) (.inr (Nat.le_of_lt hbd)) (.slice s9 U.length c9))).setCell (p := ⟨w.heap.size, 0, none⟩) (.inr (Nat.le_refl _)) (.string nm)).setCell (p := ⟨w.heap.size, 1, none⟩) (.inr (Nat.le_refl _)) (.slice s9 U.length c9)).setCell (p := ⟨w.heap.size, 2, none⟩) (.inr (Nat.le_refl _)) (.bool false)
                      have FS := ((((Fr.refl (fun k => k ≤ w1.heap.size) w9).setCell (p := ⟨w1.heap.size, 1, none⟩) (.inl (Nat.le_refl _)) (.slice s9 U.length c9)).setCell (p := ⟨w.heap.size, 0, none⟩) (.inl (Nat.le_of_lt hbd)) (.string nm)).setCell (p := ⟨w.heap.size, 1, none⟩) (.inl (Nat.le_of_lt hbd)) (.slice s9 U.length c9)).setCell (p := ⟨w.heap.size, 2, none⟩) (.inl (Nat.le_of_lt hbd)) (.bool false)
                      have hd8 := ltOf HD8.out
                      refine bodyPost_ret (v := .tuple #[.agg #[.string nm, .slice s9 U.length c9, .bool false], .bool true]) ?_ rfl ⟨_, rfl, ?_, FQ⟩
                      · simp [results, Try.f42, go_sem, z0, z1, z2]
                      · rw [HN.out]
                        exact ⟨_, rfl, s9, c9, rfl, ((O9.out.fr FS (fun k hk => by have := (O9.out.lt _ hk).1; omega)).lower F8.out.size), FQ⟩

                  · have qz : (z.f0 == 1) = false := by simp [hz1]
                    have HI := Lib.hid (show impV U = (U, false) by
                      unfold impV
                      rw [e1]
                      simp only
                      rw [if_neg (fun h => hz1 h.1)])
                    clear hz1 e1 e2
                    have HN := Lib.hid (show O = some ⟨nm, U, false⟩ by rw [HN.out, HI.out])
                    go_upto_region 17 with fail
                    have RR8 := R6.out
                    have HD8 := Lib.hid (G6.out.heap HD.out (by simp))
                    have HB8 := Lib.hid (G6.out.heap HB2.out (by simp))
                    have F8 := Lib.hid (FW.out.trans G6.out)
                    have R8 := Lib.hid RR8
                    have j0 := cellOf HD8.out 0
                    have j1 := cellOf HD8.out 1
                    have j2 := cellOf HD8.out 2
                    have k0 := frozenOf HD8.out 0
                    have k1 := frozenOf HD8.out 1
                    have k2 := frozenOf HD8.out 2
                    simp at j0 j1 j2
                    go_wp2_with (at_builtin; refine wpList_append_src _ rfl (.const (.slice none 0 0)) (.tmp 105) 22 rfl _ 35 i35 _ 5 48 Try.underlying22 ha0 ha1 ha2 ha3 rfl (by omega) (.slice none 0 0) 0 [] rfl (OwnsWin.nil _ _ _ _) _ U.length k6 (tL U) rfl R8.out.src (tL_one_cell U) (by unfold maxLen; have := HIL.out; omega) (by have := HIL.out; omega) (Nat.le_refl _) ?_; intro s9 c9 w9 h9 g9 _; rw [Nat.zero_add, List.nil_append] at h9; rw [Nat.zero_add]; have O9 := Lib.hid h9; have f9 := (Fr.refl (fun _ => False) _).grown g9 (fun k e => by simp [Value.ownBlock] at e); have F9 := Lib.hid (F8.out.trans f9); have HD9 := f9.heap HD8.out (by simp); have HB9 := f9.heap HB8.out (by simp); have x0 := cellOf HD9 0; have x1 := cellOf HD9 1; have x2 := cellOf HD9 2; have y0 := frozenOf HD9 0; have y1 := frozenOf HD9 1; have y2 := frozenOf HD9 2; simp at x0 x1 x2; have HD10 := heapSet HD9 1 (.slice s9 U.length c9); simp at HD10; have X0 := cellOf HD10 0; have X1 := cellOf HD10 1; have X2 := cellOf HD10 2; have Y0 := frozenOf HD10 0; have Y1 := frozenOf HD10 1; have Y2 := frozenOf HD10 2; simp at X0 X1 X2; have HB10 := (heapSetOther (w := w9) (b := w1.heap.size) 1 (.slice s9 U.length c9) (Nat.ne_of_lt hbd)).trans HB9; have m0 := cellOf HB10 0; have m1 := cellOf HB10 1; have m2 := cellOf HB10 2; have n0 := frozenOf HB10 0; have n1 := frozenOf HB10 1; have n2 := frozenOf HB10 2; simp at m0 m1 m2; have HBX := Lib.hid HB10; clear h9 g9 f9 HD9 HB9 HD10 HB10)
                    have Q0 := heapSet (heapSet (heapSet HBX.out 0 (.string nm)) 1 (.slice s9 U.length c9)) 2 (.bool false)
                    have z0 := cellOf Q0 0
                    have z1 := cellOf Q0 1
                    have z2 := cellOf Q0 2
                    simp at z0 z1 z2
                    have FQ := ((((F9.out.setCell (p := ⟨w1.heap.size, 1, none⟩) (.inr (Nat.le_of_lt hbd)) (.slice s9 U.length c9))).setCell (p := ⟨w.heap.size, 0, none⟩) (.inr (Nat.le_refl _)) (.string nm)).setCell (p := ⟨w.heap.size, 1, none⟩) (.inr (Nat.le_refl _)) (.slice s9 U.length c9)).setCell (p := ⟨w.heap.size, 2, none⟩) (.inr (Nat.le_refl _)) (.bool false)
                    have FS := ((((Fr.refl (fun k => k ≤ w1.heap.size) w9).setCell (p := ⟨w1.heap.size, 1, none⟩) (.inl (Nat.le_refl _)) (.slice s9 U.length c9)).setCell (p := ⟨w.heap.size, 0, none⟩) (.inl (Nat.le_of_lt hbd)) (.string nm)).setCell (p := ⟨w.heap.size, 1, none⟩) (.inl (Nat.le_of_lt hbd)) (.slice s9 U.length c9)).setCell (p := ⟨w.heap.size, 2, none⟩) (.inl (Nat.le_of_lt hbd)) (.bool false)
                    have hd8 := ltOf HD8.out
                    refine bodyPost_ret (v := .tuple #[.agg #[.string nm, .slice s9 U.length c9, .bool false], .bool true]) ?_ rfl ⟨_, rfl, ?_, FQ⟩
                    · simp [results, Try.f42, go_sem, z0, z1, z2]
                    · rw [HN.out]
                      exact ⟨_, rfl, s9, c9, rfl, ((O9.out.fr FS (fun k hk => by have := (O9.out.lt _ hk).1; omega)).lower F8.out.size), FQ⟩


                · rw [if_neg hcu1] at ST0
                  have ST := Lib.hid (show SlT w (.slice (some ⟨g', off' + 5, none⟩) m (cu - 1)) q from ST0)
                  clear ST0
                  have HQ := Lib.hid (show q.length ≤ 100000 by omega)
                  obtain ⟨U, hV⟩ : ∃ U, trimT q = U := ⟨_, rfl⟩
                  have HIL := Lib.hid (show U.length ≤ 100000 by have := trimT_len q; rw [hV] at this; omega)
                  rw [hV] at HN
                  go_upto_region 10 with (go_at_call 59; with_reducible refine (trim59_any _ _ q (ST.out.fr (FW.out.trans hF.out)) HQ.out).mono ?_; rintro e w6 ⟨v6, rfl, s6, f6⟩; have G6 := Lib.hid (hF.out.trans f6); rw [hV] at s6; obtain ⟨p6, k6, rfl, hr6, hc6, hm6⟩ := s6.ex; have R6 := Lib.hid hr6; have K6 := Lib.hid (And.intro hc6 hm6); clear f6 s6 hr6 hc6 hm6)
                  rcases (show U = [] ∨ ∃ r x, U = r ++ [x] by rcases List.eq_nil_or_concat U with h | ⟨r, x, h⟩; exact .inl h; exact .inr ⟨r, x, by rw [h, List.concat_eq_append]⟩) with hU0 | ⟨s, z, hUs⟩
                  · subst hU0
                    have HI := Lib.hid (show impV [] = (([] : List Tok), false) from rfl)
                    have dz : decide ((0 : Int) < (0 : Int)) = false := by simp
                    have HN := Lib.hid (show O = some ⟨nm, [], false⟩ by rw [HN.out, HI.out])
                    go_upto_region 17 with fail
                    have RR8 := R6.out
                    have HD8 := Lib.hid (G6.out.heap HD.out (by simp))
                    have HB8 := Lib.hid (G6.out.heap HB2.out (by simp))
                    have F8 := Lib.hid (FW.out.trans G6.out)
                    have R8 := Lib.hid RR8
                    have j0 := cellOf HD8.out 0
                    have j1 := cellOf HD8.out 1
                    have j2 := cellOf HD8.out 2
                    have k0 := frozenOf HD8.out 0
                    have k1 := frozenOf HD8.out 1
                    have k2 := frozenOf HD8.out 2
                    simp at j0 j1 j2
                    go_wp2_with (at_builtin; refine wpList_append_src _ rfl (.const (.slice none 0 0)) (.tmp 105) 22 rfl _ 35 i35 _ 5 48 Try.underlying22 ha0 ha1 ha2 ha3 rfl (by omega) (.slice none 0 0) 0 [] rfl (OwnsWin.nil _ _ _ _) _ 0 k6 (([] : List Value)) rfl (show SrcW _ 5 _ 0 (([] : List Value)) from R8.out.src) (tL_one_cell []) (by unfold maxLen; have := HIL.out; omega) (by have := HIL.out; omega) (Nat.le_refl _) ?_; intro s9 c9 w9 h9 g9 _; rw [Nat.zero_add, List.nil_append] at h9; rw [Nat.zero_add]; have O9 := Lib.hid h9; have f9 := (Fr.refl (fun _ => False) _).grown g9 (fun k e => by simp [Value.ownBlock] at e); have F9 := Lib.hid (F8.out.trans f9); have HD9 := f9.heap HD8.out (by simp); have HB9 := f9.heap HB8.out (by simp); have x0 := cellOf HD9 0; have x1 := cellOf HD9 1; have x2 := cellOf HD9 2; have y0 := frozenOf HD9 0; have y1 := frozenOf HD9 1; have y2 := frozenOf HD9 2; simp at x0 x1 x2; have HD10 := heapSet HD9 1 (.slice s9 0 c9); simp at HD10; have X0 := cellOf HD10 0; have X1 := cellOf HD10 1; have X2 := cellOf HD10 2; have Y0 := frozenOf HD10 0; have Y1 := frozenOf HD10 1; have Y2 := frozenOf HD10 2; simp at X0 X1 X2; have HB10 := (heapSetOther (w := w9) (b := w1.heap.size) 1 (.slice s9 0 c9) (Nat.ne_of_lt hbd)).trans HB9; have m0 := cellOf HB10 0; have m1 := cellOf HB10 1; have m2 := cellOf HB10 2; have n0 := frozenOf HB10 0; have n1 := frozenOf HB10 1; have n2 := frozenOf HB10 2; simp at m0 m1 m2; have HBX := Lib.hid HB10; clear h9 g9 f9 HD9 HB9 HD10 HB10)
                    have Q0 := heapSet (heapSet (heapSet HBX.out 0 (.string nm)) 1 (.slice s9 0 c9)) 2 (.bool false)
                    have z0 := cellOf Q0 0
                    have z1 := cellOf Q0 1
                    have z2 := cellOf Q0 2
                    simp at z0 z1 z2
                    have FQ := ((((F9.out.setCell (p := ⟨w1.heap.size, 1, none⟩) (.inr (Nat.le_of_lt hbd)) (.slice s9 0 c9))).setCell (p := ⟨w.heap.size, 0, none⟩) (.inr (Nat.le_refl _)) (.string nm)).setCell (p := ⟨w.heap.size, 1, none⟩) (.inr (Nat.le_refl _)) (.slice s9 0 c9)).setCell (p := ⟨w.heap.size, 2, none⟩) (.inr (Nat.le_refl _)) (.bool false)
                    have FS := ((((Fr.refl (fun k => k ≤ w1.heap.size) w9).setCell (p := ⟨w1.heap.size, 1, none⟩) (.inl (Nat.le_refl _)) (.slice s9 0 c9)).setCell (p := ⟨w.heap.size, 0, none⟩) (.inl (Nat.le_of_lt hbd)) (.string nm)).setCell (p := ⟨w.heap.size, 1, none⟩) (.inl (Nat.le_of_lt hbd)) (.slice s9 0 c9)).setCell (p := ⟨w.heap.size, 2, none⟩) (.inl (Nat.le_of_lt hbd)) (.bool false)
                    have hd8 := ltOf HD8.out
                    refine bodyPost_ret (v := .tuple #[.agg #[.string nm, .slice s9 0 c9, .bool false], .bool true]) ?_ rfl ⟨_, rfl, ?_, FQ⟩
                    · simp [results, Try.f42, go_sem, z0, z1, z2]
                    · rw [HN.out]
                      exact ⟨_, rfl, s9, c9, rfl, ((O9.out.fr FS (fun k hk => by have := (O9.out.lt _ hk).1; omega)).lower F8.out.size), FQ⟩

                  have e1 : U.getLast? = some z := by rw [hUs]; simp
                  have e2 : U.dropLast = s := by rw [hUs]; simp
                  obtain ⟨sn, hsn⟩ : ∃ sn, s.length = sn := ⟨_, rfl⟩
                  have hul : U.length = sn + 1 := by rw [hUs]; simp [hsn]
                  have hx := HIL.out
                  obtain ⟨zsz, zg, zoff, hp6, zlt, z0, z1, -, -, -⟩ := R6.out.at_ (i := sn) (x := z) (by rw [hUs, List.getElem?_append_right (by omega), hsn, Nat.sub_self]; rfl)
                  subst hp6
                  have dz : decide ((0 : Int) < (U.length : Int)) = true := decide_eq_true (by omega)
                  have sz0 : (U.length : Int) - 1 = (sn : Int) := by omega
                  have sz1 : (sn : Int) < (U.length : Int) := by omega
                  have HUL := Lib.hid hul
                  have HUs := Lib.hid hUs
                  clear hul hUs
                  by_cases hz1 : z.f0 = 1
                  · have qz : (z.f0 == 1) = true := by simp [hz1]
                    have LZ := Lib.hid (RLower_any z.f1 w6 zsz)
                    by_cases hS : lowS z.f1 = impS
                    · have qs : ((lowS z.f1).toList == [105, 109, 112, 111, 114, 116, 97, 110, 116]) = true := by rw [← impL, strEq]; exact decide_eq_true hS
                      have HI0 := Lib.hid (show impV U = match (trimT s).getLast? with
                          | some y => if y.f0 = 10 ∧ y.f4 = 33 then (trimT (trimT s).dropLast, true) else (U, false)
                          | none => (U, false) by
                        conv => lhs; unfold impV
                        rw [e1, e2]
                        simp only
                        rw [if_pos ⟨hz1, hS⟩]
                        rfl)
                      have K6' := K6.out
                      have hul := HUL.out
                      have hUs := HUs.out
                      have u1 : (sn : Int) ≤ (k6 : Int) := by omega
                      have u2 : sn ≤ k6 := by omega
                      have TR := Lib.hid (show ∀ W, Fr (fun _ => False) w6 W → Calls Try.prog 59 #[.slice (some ⟨zg, zoff, none⟩) sn k6] W fun e w' => ∃ v', e = .returned v' ∧ SlT w' v' (trimT s) ∧ Fr (fun _ => False) W w' from fun W f => trim59_any W _ s (SlT.init (x := z) (by rw [← hUs]; exact R6.out.fr f) hsn (by omega) K6'.2) (by omega))
                      have htl : (trimT s).length ≤ 100000 := by have := trimT_len s; omega
                      generalize lowS z.f1 = ls at *
                      generalize trimT s = T at *
                      clear hz1 hS e1 e2 hul hUs
                      go_upto_region 12 with (go_at_call 30; refine LZ.out.mono ?_; rintro e w7 ⟨rfl, f7⟩; have G7 := Lib.hid (G6.out.trans f7); have R7 := Lib.hid (R6.out.fr f7); have H67 := Lib.hid f7; clear f7)
                      go_upto_region 13 with (go_at_call 59; with_reducible refine (TR.out _ H67.out).mono ?_; rintro e w8 ⟨v8, rfl, s8, f8⟩; have G8 := Lib.hid (G7.out.trans f8); have RU8 := Lib.hid (R7.out.fr f8); obtain ⟨p8, k8, rfl, hr8, hc8, hm8⟩ := s8.ex; have RT8 := Lib.hid hr8; have K8 := Lib.hid (And.intro hc8 hm8); clear f8 s8 hr8 hc8 hm8)
                      clear TR LZ
                      rcases (show T = [] ∨ ∃ r x, T = r ++ [x] by rcases List.eq_nil_or_concat T with h | ⟨r, x, h⟩; exact .inl h; exact .inr ⟨r, x, by rw [h, List.concat_eq_append]⟩) with hT0 | ⟨s2, y2, hTs⟩
                      · subst hT0
                        have HI := Lib.hid (show impV U = (U, false) from HI0.out)
                        have dt : decide ((0 : Int) < (0 : Int)) = false := by simp
                        have HN := Lib.hid (show O = some ⟨nm, U, false⟩ by rw [HN.out, HI.out])
                        go_upto_region 17 with fail
                        have RR8 := RU8.out
                        have HD8 := Lib.hid (G8.out.heap HD.out (by simp))
                        have HB8 := Lib.hid (G8.out.heap HB2.out (by simp))
                        have F8 := Lib.hid (FW.out.trans G8.out)
                        have R8 := Lib.hid RR8
                        have j0 := cellOf HD8.out 0
                        have j1 := cellOf HD8.out 1
                        have j2 := cellOf HD8.out 2
                        have k0 := frozenOf HD8.out 0
                        have k1 := frozenOf HD8.out 1
                        have k2 := frozenOf HD8.out 2
                        simp at j0 j1 j2
                        go_wp2_with (at_builtin; refine wpList_append_src _ rfl (.const (.slice none 0 0)) (.tmp 105) 22 rfl _ 35 i35 _ 5 48 Try.underlying22 ha0 ha1 ha2 ha3 rfl (by omega) (.slice none 0 0) 0 [] rfl (OwnsWin.nil _ _ _ _) _ U.length k6 (tL U) rfl R8.out.src (tL_one_cell U) (by unfold maxLen; have := HIL.out; omega) (by have := HIL.out; omega) (Nat.le_refl _) ?_; intro s9 c9 w9 h9 g9 _; rw [Nat.zero_add, List.nil_append] at h9; rw [Nat.zero_add]; have O9 := Lib.hid h9; have f9 := (Fr.refl (fun _ => False) _).grown g9 (fun k e => by simp [Value.ownBlock] at e); have F9 := Lib.hid (F8.out.trans f9); have HD9 := f9.heap HD8.out (by simp); have HB9 := f9.heap HB8.out (by simp); have x0 := cellOf HD9 0; have x1 := cellOf HD9 1; have x2 := cellOf HD9 2; have y0 := frozenOf HD9 0; have y1 := frozenOf HD9 1; have y2 := frozenOf HD9 2; simp at x0 x1 x2; have HD10 := heapSet HD9 1 (.slice s9 U.length c9); simp at HD10; have X0 := cellOf HD10 0; have X1 := cellOf HD10 1; have X2 := cellOf HD10 2; have Y0 := frozenOf HD10 0; have Y1 := frozenOf HD10 1; have Y2 := frozenOf HD10 2; simp at X0 X1 X2; have HB10 := (heapSetOther (w := w9) (b := w1.heap.size) 1 (.slice s9 U.length c9) (Nat.ne_of_lt hbd)).trans HB9; have m0 := cellOf HB10 0; have m1 := cellOf HB10 1; have m2 := cellOf HB10 2; have n0 := frozenOf HB10 0; have n1 := frozenOf HB10 1; have n2 := frozenOf HB10 2; simp at m0 m1 m2; have HBX := Lib.hid HB10; clear h9 g9 f9 HD9 HB9 HD10 HB10)
                        have Q0 := heapSet (heapSet (heapSet HBX.out 0 (.string nm)) 1 (.slice s9 U.length c9)) 2 (.bool false)
                        have z0 := cellOf Q0 0
                        have z1 := cellOf Q0 1
                        have z2 := cellOf Q0 2
                        simp at z0 z1 z2
                        have FQ := ((((F9.out.setCell (p := ⟨w1.heap.size, 1, none⟩) (.inr (Nat.le_of_lt hbd)) (.slice s9 U.length c9))).setCell (p := ⟨w.heap.size, 0, none⟩) (.inr (Nat.le_refl _)) (.string nm)).setCell (p := ⟨w.heap.size, 1, none⟩) (.inr (Nat.le_refl _)) (.slice s9 U.length c9)).setCell (p := ⟨w.heap.size, 2, none⟩) (.inr (Nat.le_refl _)) (.bool false)
                        have FS := ((((Fr.refl (fun k => k ≤ w1.heap.size) w9).setCell (p := ⟨w1.heap.size, 1, none⟩) (.inl (Nat.le_refl _)) (.slice s9 U.length c9)).setCell (p := ⟨w.heap.size, 0, none⟩) (.inl (Nat.le_of_lt hbd)) (.string nm)).setCell (p := ⟨w.heap.size, 1, none⟩) (.inl (Nat.le_of_lt hbd)) (.slice s9 U.length c9)).setCell (p := ⟨w.heap.size, 2, none⟩) (.inl (Nat.le_of_lt hbd)) (.bool false)
                        have hd8 := ltOf HD8.out
                        refine bodyPost_ret (v := .tuple #[.agg #[.string nm, .slice s9 U.length c9, .bool false], .bool true]) ?_ rfl ⟨_, rfl, ?_, FQ⟩
                        · simp [results, Try.f42, go_sem, z0, z1, z2]
                        · rw [HN.out]
                          exact ⟨_, rfl, s9, c9, rfl, ((O9.out.fr FS (fun k hk => by have := (O9.out.lt _ hk).1; omega)).lower F8.out.size), FQ⟩

                      have e3 : T.getLast? = some y2 := by rw [hTs]; simp
                      have e4 : T.dropLast = s2 := by rw [hTs]; simp
                      obtain ⟨tn, htn⟩ : ∃ tn, s2.length = tn := ⟨_, rfl⟩
                      have htl2 : T.length = tn + 1 := by rw [hTs]; simp [htn]
                      obtain ⟨ysz, yg, yoff, hp8, ylt, y0_, -, -, -, y4_⟩ := RT8.out.at_ (i := tn) (x := y2) (by rw [hTs, List.getElem?_append_right (by omega), htn, Nat.sub_self]; rfl)
                      subst hp8
                      have dt : decide ((0 : Int) < (T.length : Int)) = true := decide_eq_true (by omega)
                      have st0 : (T.length : Int) - 1 = (tn : Int) := by omega
                      have st1_ : (tn : Int) < (T.length : Int) := by omega
                      have K8' := K8.out
                      have t1 : (tn : Int) ≤ (k8 : Int) := by omega
                      have t2 : tn ≤ k8 := by omega
                      have HS2 := Lib.hid (show ∀ W, RdT W (some ⟨yg, yoff, none⟩) T → SlT W (.slice (some ⟨yg, yoff, none⟩) tn k8) s2 from fun W h => SlT.init (x := y2) (by rw [← hTs]; exact h) htn (by omega) K8'.2)
                      have HL2 := Lib.hid (show s2.length ≤ 100000 by omega)
                      rw [e3, e4] at HI0
                      clear htl2 hTs e3 e4
                      by_cases h10 : y2.f0 = 10
                      · have q10 : (y2.f0 == 10) = true := by simp [h10]
                        by_cases h33 : y2.f4 = 33
                        · have q33 : (y2.f4 == 33) = true := by simp [h33]
                          have HI := Lib.hid (show impV U = (trimT s2, true) by rw [HI0.out]; simp only; rw [if_pos ⟨h10, h33⟩])
                          obtain ⟨U2, hU2⟩ : ∃ U2, trimT s2 = U2 := ⟨_, rfl⟩
                          have HIL2 := Lib.hid (show U2.length ≤ 100000 by have := trimT_len s2; rw [hU2] at this; have := HL2.out; omega)
                          have HU2 := Lib.hid hU2
                          rw [hU2] at HI
                          clear h10 h33 hU2
                          have HN := Lib.hid (show O = some ⟨nm, U2, true⟩ by rw [HN.out, HI.out])
                          have HD8 := Lib.hid (G8.out.heap HD.out (by simp))
                          have j0 := cellOf HD8.out 0
                          have j1 := cellOf HD8.out 1
                          have j2 := cellOf HD8.out 2
                          have k0 := frozenOf HD8.out 0
                          have k1 := frozenOf HD8.out 1
                          have k2 := frozenOf HD8.out 2
                          simp at j0 j1 j2
                          have HDS := Lib.hid (by have := heapSet HD8.out 2 (.bool true); simp at this; exact this)
                          have TS := Lib.hid (HS2.out _ (RdT.awayD HD8.out RT8.out 2 (.bool true)))
                          have FS8 := Lib.hid ((FW.out.trans G8.out).setCell (p := ⟨w1.heap.size, 2, none⟩) (.inr (Nat.le_of_lt hbd)) (.bool true))
                          have HBS := Lib.hid ((heapSetOther (w := w8) (b := w1.heap.size) 2 (.bool true) (Nat.ne_of_lt hbd)).trans (G8.out.heap HB2.out (by simp)))
                          go_upto_region 17 with (go_at_call 59; with_reducible refine (trim59_any _ _ s2 TS.out HL2.out).mono ?_; rintro e wA ⟨vA, rfl, sA, fA⟩; rw [HU2.out] at sA; obtain ⟨pA, kA, rfl, hrA, hcA, hmA⟩ := sA.ex; have R8 := Lib.hid hrA; have HD9_ := Lib.hid (fA.heap HDS.out (by simp)); have HB8 := Lib.hid (fA.heap HBS.out (by simp)); have F8 := Lib.hid (FS8.out.trans fA); clear fA sA hrA hcA hmA)
                          clear HD8 j0 j1 j2 k0 k1 k2
                          have HD8 := HD9_
                          have j0 := cellOf HD8.out 0
                          have j1 := cellOf HD8.out 1
                          have j2 := cellOf HD8.out 2
                          have k0 := frozenOf HD8.out 0
                          have k1 := frozenOf HD8.out 1
                          have k2 := frozenOf HD8.out 2
                          simp at j0 j1 j2
                          go_wp2_with (at_builtin; refine wpList_append_src _ rfl (.const (.slice none 0 0)) (.tmp 105) 22 rfl _ 35 i35 _ 5 48 Try.underlying22 ha0 ha1 ha2 ha3 rfl (by omega) (.slice none 0 0) 0 [] rfl (OwnsWin.nil _ _ _ _) _ U2.length kA (tL U2) rfl R8.out.src (tL_one_cell U2) (by unfold maxLen; have := HIL2.out; omega) (by have := HIL2.out; omega) (Nat.le_refl _) ?_; intro s9 c9 w9 h9 g9 _; rw [Nat.zero_add, List.nil_append] at h9; rw [Nat.zero_add]; have O9 := Lib.hid h9; have f9 := (Fr.refl (fun _ => False) _).grown g9 (fun k e => by simp [Value.ownBlock] at e); have F9 := Lib.hid (F8.out.trans f9); have HD9 := f9.heap HD8.out (by simp); have HB9 := f9.heap HB8.out (by simp); have x0 := cellOf HD9 0; have x1 := cellOf HD9 1; have x2 := cellOf HD9 2; have y0 := frozenOf HD9 0; have y1 := frozenOf HD9 1; have y2 := frozenOf HD9 2; simp at x0 x1 x2; have HD10 := heapSet HD9 1 (.slice s9 U2.length c9); simp at HD10; have X0 := cellOf HD10 0; have X1 := cellOf HD10 1; have X2 := cellOf HD10 2; have Y0 := frozenOf HD10 0; have Y1 := frozenOf HD10 1; have Y2 := frozenOf HD10 2; simp at X0 X1 X2; have HB10 := (heapSetOther (w := w9) (b := w1.heap.size) 1 (.slice s9 U2.length c9) (Nat.ne_of_lt hbd)).trans HB9; have m0 := cellOf HB10 0; have m1 := cellOf HB10 1; have m2 := cellOf HB10 2; have n0 := frozenOf HB10 0; have n1 := frozenOf HB10 1; have n2 := frozenOf HB10 2; simp at m0 m1 m2; have HBX := Lib.hid HB10; clear h9 g9 f9 HD9 HB9 HD10 HB10)
                          have Q0 := heapSet (heapSet (heapSet HBX.out 0 (.string nm)) 1 (.slice s9 U2.length c9)) 2 (.bool true)
                          have z0 := cellOf Q0 0
                          have z1 := cellOf Q0 1
                          have z2 := cellOf Q0 2
                          simp at z0 z1 z2
                          have FQ := ((((F9.out.setCell (p := ⟨w1.heap.size, 1, none⟩) (.inr (Nat.le_of_lt hbd)) (.slice s9 U2.length c9))).setCell (p := ⟨w.heap.size, 0, none⟩) (.inr (Nat.le_refl _)) (.string nm)).setCell (p := ⟨w.heap.size, 1, none⟩) (.inr (Nat.le_refl _)) (.slice s9 U2.length c9)).setCell (p := ⟨w.heap.size, 2, none⟩) (.inr (Nat.le_refl _)) (.bool true)
                          have FS := ((((Fr.refl (fun k => k ≤ w1.heap.size) w9).setCell (p := ⟨w1.heap.size, 1, none⟩) (.inl (Nat.le_refl _)) (.slice s9 U2.length c9)).setCell (p := ⟨w.heap.size, 0, none⟩) (.inl (Nat.le_of_lt hbd)) (.string nm)).setCell (p := ⟨w.heap.size, 1, none⟩) (.inl (Nat.le_of_lt hbd)) (.slice s9 U2.length c9)).setCell (p := ⟨w.heap.size, 2, none⟩) (.inl (Nat.le_of_lt hbd)) (.bool true)
                          have hd8 := ltOf HD8.out
                          refine bodyPost_ret (v := .tuple #[.agg #[.string nm, .slice s9 U2.length c9, .bool true], .bool true]) ?_ rfl ⟨_, rfl, ?_, FQ⟩
                          · simp [results, Try.f42, go_sem, z0, z1, z2]
                          · rw [HN.out]
                            exact ⟨_, rfl, s9, c9, rfl, ((O9.out.fr FS (fun k hk => by have := (O9.out.lt _ hk).1; omega)).lower F8.out.size), FQ⟩

                        · have q33 : (y2.f4 == 33) = false := by simp [h33]
                          have HI := Lib.hid (show impV U = (U, false) by rw [HI0.out]; simp only; rw [if_neg (fun h => h33 h.2)])
                          clear h10 h33
                          have HN := Lib.hid (show O = some ⟨nm, U, false⟩ by rw [HN.out, HI.out])
                          go_upto_region 17 with fail
                          have RR8 := RU8.out
                          have HD8 := Lib.hid (G8.out.heap HD.out (by simp))
                          have HB8 := Lib.hid (G8.out.heap HB2.out (by simp))
                          have F8 := Lib.hid (FW.out.trans G8.out)
                          have R8 := Lib.hid RR8
                          have j0 := cellOf HD8.out 0
                          have j1 := cellOf HD8.out 1
                          have j2 := cellOf HD8.out 2
                          have k0 := frozenOf HD8.out 0
                          have k1 := frozenOf HD8.out 1
                          have k2 := frozenOf HD8.out 2
                          simp at j0 j1 j2
                          go_wp2_with (at_builtin; refine wpList_append_src _ rfl (.const (.slice none 0 0)) (.tmp 105) 22 rfl _ 35 i35 _ 5 48 Try.underlying22 ha0 ha1 ha2 ha3 rfl (by omega) (.slice none 0 0) 0 [] rfl (OwnsWin.nil _ _ _ _) _ U.length k6 (tL U) rfl R8.out.src (tL_one_cell U) (by unfold maxLen; have := HIL.out; omega) (by have := HIL.out; omega) (Nat.le_refl _) ?_; intro s9 c9 w9 h9 g9 _; rw [Nat.zero_add, List.nil_append] at h9; rw [Nat.zero_add]; have O9 := Lib.hid h9; have f9 := (Fr.refl (fun _ => False) _).grown g9 (fun k e => by simp [Value.ownBlock] at e); have F9 := Lib.hid (F8.out.trans f9); have HD9 := f9.heap HD8.out (by simp); have HB9 := f9.heap HB8.out (by simp); have x0 := cellOf HD9 0; have x1 := cellOf HD9 1; have x2 := cellOf HD9 2; have y0 := frozenOf HD9 0; have y1 := frozenOf HD9 1; have y2 := frozenOf HD9 2; simp at x0 x1 x2; have HD10 := heapSet HD9 1 (.slice s9 U.length c9); simp at HD10; have X0 := cellOf HD10 0; have X1 := cellOf HD10 1; have X2 := cellOf HD10 2; have Y0 := frozenOf HD10 0; have Y1 := frozenOf HD10 1; have Y2 := frozenOf HD10 2; simp at X0 X1 X2; have HB10 := (heapSetOther (w := w9) (b := w1.heap.size) 1 (.slice s9 U.length c9) (Nat.ne_of_lt hbd)).trans HB9; have m0 := cellOf HB10 0; have m1 := cellOf HB10 1; have m2 := cellOf HB10 2; have n0 := frozenOf HB10 0; have n1 := frozenOf HB10 1; have n2 := frozenOf HB10 2; simp at m0 m1 m2; have HBX := Lib.hid HB10; clear h9 g9 f9 HD9 HB9 HD10 HB10)
                          have Q0 := heapSet (heapSet (heapSet HBX.out 0 (.string nm)) 1 (.slice s9 U.length c9)) 2 (.bool false)
                          have z0 := cellOf Q0 0
                          have z1 := cellOf Q0 1
                          have z2 := cellOf Q0 2
                          simp at z0 z1 z2
                          have FQ := ((((F9.out.setCell (p := ⟨w1.heap.size, 1, none⟩) (.inr (Nat.le_of_lt hbd)) (.slice s9 U.length c9))).setCell (p := ⟨w.heap.size, 0, none⟩) (.inr (Nat.le_refl _)) (.string nm)).setCell (p := ⟨w.heap.size, 1, none⟩) (.inr (Nat.le_refl _)) (.slice s9 U.length c9)).setCell (p := ⟨w.heap.size, 2, none⟩) (.inr (Nat.le_refl _)) (.bool false)
                          have FS := ((((Fr.refl (fun k => k ≤ w1.heap.size) w9).setCell (p := ⟨w1.heap.size, 1, none⟩) (.inl (Nat.le_refl _)) (.slice s9 U.length c9)).setCell (p := ⟨w.heap.size, 0, none⟩) (.inl (Nat.le_of_lt hbd)) (.string nm)).setCell (p := ⟨w.heap.size, 1, none⟩) (.inl (Nat.le_of_lt hbd)) (.slice s9 U.length c9)).setCell (p := ⟨w.heap.size, 2, none⟩) (.inl (Nat.le_of_lt hbd)) (.bool false)
                          have hd8 := ltOf HD8.out
                          refine bodyPost_ret (v := .tuple #[.agg #[.string nm, .slice s9 U.length c9, .bool false], .bool true]) ?_ rfl ⟨_, rfl, ?_, FQ⟩
                          · simp [results, Try.f42, go_sem, z0, z1, z2]
                          · rw [HN.out]
                            exact ⟨_, rfl, s9, c9, rfl, ((O9.out.fr FS (fun k hk => by have := (O9.out.lt _ hk).1; omega)).lower F8.out.size), FQ⟩

                      · have q10 : (y2.f0 == 10) = false := by simp [h10]
                        have HI := Lib.hid (show impV U = (U, false) by rw [HI0.out]; simp only; rw [if_neg (fun h => h10 h.1)])
                        clear h10
                        have HN := Lib.hid (show O = some ⟨nm, U, false⟩ by rw [HN.out, HI.out])
                        go_upto_region 17 with fail
                        have RR8 := RU8.out
                        have HD8 := Lib.hid (G8.out.heap HD.out (by simp))
                        have HB8 := Lib.hid (G8.out.heap HB2.out (by simp))
                        have F8 := Lib.hid (FW.out.trans G8.out)
                        have R8 := Lib.hid RR8
                        have j0 := cellOf HD8.out 0
                        have j1 := cellOf HD8.out 1
                        have j2 := cellOf HD8.out 2
                        have k0 := frozenOf HD8.out 0
                        have k1 := frozenOf HD8.out 1
                        have k2 := frozenOf HD8.out 2
                        simp at j0 j1 j2
                        go_wp2_with (at_builtin; refine wpList_append_src _ rfl (.const (.slice none 0 0)) (.tmp 105) 22 rfl _ 35 i35 _ 5 48 Try.underlying22 ha0 ha1 ha2 ha3 rfl (by omega) (.slice none 0 0) 0 [] rfl (OwnsWin.nil _ _ _ _) _ U.length k6 (tL U) rfl R8.out.src (tL_one_cell U) (by unfold maxLen; have := HIL.out; omega) (by have := HIL.out; omega) (Nat.le_refl _) ?_; intro s9 c9 w9 h9 g9 _; rw [Nat.zero_add, List.nil_append] at h9; rw [Nat.zero_add]; have O9 := Lib.hid h9; have f9 := (Fr.refl (fun _ => False) _).grown g9 (fun k e => by simp [Value.ownBlock] at e); have F9 := Lib.hid (F8.out.trans f9); have HD9 := f9.heap HD8.out (by simp); have HB9 := f9.heap HB8.out (by simp); have x0 := cellOf HD9 0; have x1 := cellOf HD9 1; have x2 := cellOf HD9 2; have y0 := frozenOf HD9 0; have y1 := frozenOf HD9 1; have y2 := frozenOf HD9 2; simp at x0 x1 x2; have HD10 := heapSet HD9 1 (.slice s9 U.length c9); simp at HD10; have X0 := cellOf HD10 0; have X1 := cellOf HD10 1; have X2 := cellOf HD10 2; have Y0 := frozenOf HD10 0; have Y1 := frozenOf HD10 1; have Y2 := frozenOf HD10 2; simp at X0 X1 X2; have HB10 := (heapSetOther (w := w9) (b := w1.heap.size) 1 (.slice s9 U.length c9) (Nat.ne_of_lt hbd)).trans HB9; have m0 := cellOf HB10 0; have m1 := cellOf HB10 1; have m2 := cellOf HB10 2; have n0 := frozenOf HB10 0; have n1 := frozenOf HB10 1; have n2 := frozenOf HB10 2; simp at m0 m1 m2; have HBX := Lib.hid HB10; clear h9 g9 f9 HD9 HB9 HD10 HB10)
                        have Q0 := heapSet (heapSet (heapSet HBX.out 0 (.string nm)) 1 (.slice s9 U.length c9)) 2 (.bool false)
                        have z0 := cellOf Q0 0
                        have z1 := cellOf Q0 1
                        have z2 := cellOf Q0 2
                        simp at z0 z1 z2
                        have FQ := ((((F9.out.setCell (p := ⟨w1.heap.size, 1, none⟩) (.inr (Nat.le_of_lt hbd)) (.slice s9 U.length c9))).setCell (p := ⟨w.heap.size, 0, none⟩) (.inr (Nat.le_refl _)) (.string nm)).setCell (p := ⟨w.heap.size, 1, none⟩) (.inr (Nat.le_refl _)) (.slice s9 U.length c9)).setCell (p := ⟨w.heap.size, 2, none⟩) (.inr (Nat.le_refl _)) (.bool false)
                        have FS := ((((Fr.refl (fun k => k ≤ w1.heap.size) w9).setCell (p := ⟨w1.heap.size, 1, none⟩) (.inl (Nat.le_refl _)) (.slice s9 U.length c9)).setCell (p := ⟨w.heap.size, 0, none⟩) (.inl (Nat.le_of_lt hbd)) (.string nm)).setCell (p := ⟨w.heap.size, 1, none⟩) (.inl (Nat.le_of_lt hbd)) (.slice s9 U.length c9)).setCell (p := ⟨w.heap.size, 2, none⟩) (.inl (Nat.le_of_lt hbd)) (.bool false)
                        have hd8 := ltOf HD8.out
                        refine bodyPost_ret (v := .tuple #[.agg #[.string nm, .slice s9 U.length c9, .bool false], .bool true]) ?_ rfl ⟨_, rfl, ?_, FQ⟩
                        · simp [results, Try.f42, go_sem, z0, z1, z2]
                        · rw [HN.out]
                          exact ⟨_, rfl, s9, c9, rfl, ((O9.out.fr FS (fun k hk => by have := (O9.out.lt _ hk).1; omega)).lower F8.out.size), FQ⟩

                    · have qs : ((lowS z.f1).toList == [105, 109, 112, 111, 114, 116, 97, 110, 116]) = false := by rw [← impL, strEq]; exact decide_eq_false hS
                      have HI := Lib.hid (show impV U = (U, false) by
                        unfold impV
                        rw [e1]
                        simp only
                        rw [if_neg (fun h => hS h.2)])
                      generalize lowS z.f1 = ls at *
                      clear hz1 hS e1 e2
                      have HN := Lib.hid (show O = some ⟨nm, U, false⟩ by rw [HN.out, HI.out])
                      go_upto_region 17 with (go_at_call 30; refine LZ.out.mono ?_; rintro e w7 ⟨rfl, f7⟩; have G7 := Lib.hid (G6.out.trans f7); have R7 := Lib.hid (R6.out.fr f7); clear f7)
                      have RR8 := R7.out
                      have HD8 := Lib.hid (G7.out.heap HD.out (by simp))
                      have HB8 := Lib.hid (G7.out.heap HB2.out (by simp))
                      have F8 := Lib.hid (FW.out.trans G7.out)
                      have R8 := Lib.hid RR8
                      have j0 := cellOf HD8.out 0
                      have j1 := cellOf HD8.out 1
                      have j2 := cellOf HD8.out 2
                      have k0 := frozenOf HD8.out 0
                      have k1 := frozenOf HD8.out 1
                      have k2 := frozenOf HD8.out 2
                      simp at j0 j1 j2
                      go_wp2_with (at_builtin; refine wpList_append_src _ rfl (.const (.slice none 0 0)) (.tmp 105) 22 rfl _ 35 i35 _ 5 48 Try.underlying22 ha0 ha1 ha2 ha3 rfl (by omega) (.slice none 0 0) 0 [] rfl (OwnsWin.nil _ _ _ _) _ U.length k6 (tL U) rfl R8.out.src (tL_one_cell U) (by unfold maxLen; have := HIL.out; omega) (by have := HIL.out; omega) (Nat.le_refl _) ?_; intro s9 c9 w9 h9 g9 _; rw [Nat.zero_add, List.nil_append] at h9; rw [Nat.zero_add]; have O9 := Lib.hid h9; have f9 := (Fr.refl (fun _ => False) _).grown g9 (fun k e => by simp [Value.ownBlock] at e); have F9 := Lib.hid (F8.out.trans f9); have HD9 := f9.heap HD8.out (by simp); have HB9 := f9.heap HB8.out (by simp); have x0 := cellOf HD9 0; have x1 := cellOf HD9 1; have x2 := cellOf HD9 2; have y0 := frozenOf HD9 0; have y1 := frozenOf HD9 1; have y2 := frozenOf HD9 2; simp at x0 x1 x2; have HD10 := heapSet HD9 1 (.slice s9 U.length c9); simp at HD10; have X0 := cellOf HD10 0; have X1 := cellOf HD10 1; have X2 := cellOf HD10 2; have Y0 := frozenOf HD10 0; have Y1 := frozenOf HD10 1; have Y2 := frozenOf HD10 2; simp at X0 X1 X2; have HB10 := (heapSetOther (w := w9) (b := w1.heap.size) 1 (.slice s9 U.length c9) (Nat.ne_of_lt hbd)).trans HB9; have m0 := cellOf HB10 0; have m1 := cellOf HB10 1; have m2 := cellOf HB10 2; have n0 := frozenOf HB10 0; have n1 := frozenOf HB10 1; have n2 := frozenOf HB10 2; simp at m0 m1 m2; have HBX := Lib.hid HB10; clear h9 g9 f9 HD9 HB9 HD10 HB10)
                      have Q0 := heapSet (heapSet (heapSet HBX.out 0 (.string nm)) 1 (.slice s9 U.length c9)) 2 (.bool false)
                      have z0 := cellOf Q0 0
                      have z1 := cellOf Q0 1
                      have z2 := cellOf Q0 2
                      simp at z0 z1 z2
                      have FQ := ((((F9.out.setCell (p := ⟨w1.heap.size, 1, none⟩) (.inr (Nat.le_of_lt hbd)) (.slice s9 U.length c9))).setCell (p := ⟨w.heap.size, 0, none⟩) (.inr (Nat.le_refl _)) (.string nm)).setCell (p := ⟨w.heap.size, 1, none⟩) (.inr (Nat.le_refl _)) (.slice s9 U.length c9)).setCell (p := ⟨w.heap.size, 2, none⟩) (.inr (Nat.le_refl _)) (.bool false)
                      have FS := ((((Fr.refl (fun k => k ≤ w1.heap.size) w9).setCell (p := ⟨w1.heap.size, 1, none⟩) (.inl (Nat.le_refl _)) (.slice s9 U.length c9)).setCell (p := ⟨w.heap.size, 0, none⟩) (.inl (Nat.le_of_lt hbd)) (.string nm)).setCell (p := ⟨w.heap.size, 1, none⟩) (.inl (Nat.le_of_lt hbd)) (.slice s9 U.length c9)).setCell (p := ⟨w.heap.size, 2, none⟩) (.inl (Nat.le_of_lt hbd)) (.bool false)
                      have hd8 := ltOf HD8.out
                      refine bodyPost_ret (v := .tuple #[.agg #[.string nm, .slice s9 U.length c9, .bool false], .bool true]) ?_ rfl ⟨_, rfl, ?_, FQ⟩
                      · simp [results, Try.f42, go_sem, z0, z1, z2]
                      · rw [HN.out]
                        exact ⟨_, rfl, s9, c9, rfl, ((O9.out.fr FS (fun k hk => by have := (O9.out.lt _ hk).1; omega)).lower F8.out.size), FQ⟩

                  · have qz : (z.f0 == 1) = false := by simp [hz1]
                    have HI := Lib.hid (show impV U = (U, false) by
                      unfold impV
                      rw [e1]
                      simp only
                      rw [if_neg (fun h => hz1 h.1)])
                    clear hz1 e1 e2
                    have HN := Lib.hid (show O = some ⟨nm, U, false⟩ by rw [HN.out, HI.out])
                    go_upto_region 17 with fail
                    have RR8 := R6.out
                    have HD8 := Lib.hid (G6.out.heap HD.out (by simp))
                    have HB8 := Lib.hid (G6.out.heap HB2.out (by simp))
                    have F8 := Lib.hid (FW.out.trans G6.out)
                    have R8 := Lib.hid RR8
                    have j0 := cellOf HD8.out 0
                    have j1 := cellOf HD8.out 1
                    have j2 := cellOf HD8.out 2
                    have k0 := frozenOf HD8.out 0
                    have k1 := frozenOf HD8.out 1
                    have k2 := frozenOf HD8.out 2
                    simp at j0 j1 j2
                    go_wp2_with (at_builtin; refine wpList_append_src _ rfl (.const (.slice none 0 0)) (.tmp 105) 22 rfl _ 35 i35 _ 5 48 Try.underlying22 ha0 ha1 ha2 ha3 rfl (by omega) (.slice none 0 0) 0 [] rfl (OwnsWin.nil _ _ _ _) _ U.length k6 (tL U) rfl R8.out.src (tL_one_cell U) (by unfold maxLen; have := HIL.out; omega) (by have := HIL.out; omega) (Nat.le_refl _) ?_; intro s9 c9 w9 h9 g9 _; rw [Nat.zero_add, List.nil_append] at h9; rw [Nat.zero_add]; have O9 := Lib.hid h9; have f9 := (Fr.refl (fun _ => False) _).grown g9 (fun k e => by simp [Value.ownBlock] at e); have F9 := Lib.hid (F8.out.trans f9); have HD9 := f9.heap HD8.out (by simp); have HB9 := f9.heap HB8.out (by simp); have x0 := cellOf HD9 0; have x1 := cellOf HD9 1; have x2 := cellOf HD9 2; have y0 := frozenOf HD9 0; have y1 := frozenOf HD9 1; have y2 := frozenOf HD9 2; simp at x0 x1 x2; have HD10 := heapSet HD9 1 (.slice s9 U.length c9); simp at HD10; have X0 := cellOf HD10 0; have X1 := cellOf HD10 1; have X2 := cellOf HD10 2; have Y0 := frozenOf HD10 0; have Y1 := frozenOf HD10 1; have Y2 := frozenOf HD10 2; simp at X0 X1 X2; have HB10 := (heapSetOther (w := w9) (b := w1.heap.size) 1 (.slice s9 U.length c9) (Nat.ne_of_lt hbd)).trans HB9; have m0 := cellOf HB10 0; have m1 := cellOf HB10 1; have m2 := cellOf HB10 2; have n0 := frozenOf HB10 0; have n1 := frozenOf HB10 1; have n2 := frozenOf HB10 2; simp at m0 m1 m2; have HBX := Lib.hid HB10; clear h9 g9 f9 HD9 HB9 HD10 HB10)
                    have Q0 := heapSet (heapSet (heapSet HBX.out 0 (.string nm)) 1 (.slice s9 U.length c9)) 2 (.bool false)
                    have z0 := cellOf Q0 0
                    have z1 := cellOf Q0 1
                    have z2 := cellOf Q0 2
                    simp at z0 z1 z2
                    have FQ := ((((F9.out.setCell (p := ⟨w1.heap.size, 1, none⟩) (.inr (Nat.le_of_lt hbd)) (.slice s9 U.length c9))).setCell (p := ⟨w.heap.size, 0, none⟩) (.inr (Nat.le_refl _)) (.string nm)).setCell (p := ⟨w.heap.size, 1, none⟩) (.inr (Nat.le_refl _)) (.slice s9 U.length c9)).setCell (p := ⟨w.heap.size, 2, none⟩) (.inr (Nat.le_refl _)) (.bool false)
                    have FS := ((((Fr.refl (fun k => k ≤ w1.heap.size) w9).setCell (p := ⟨w1.heap.size, 1, none⟩) (.inl (Nat.le_refl _)) (.slice s9 U.length c9)).setCell (p := ⟨w.heap.size, 0, none⟩) (.inl (Nat.le_of_lt hbd)) (.string nm)).setCell (p := ⟨w.heap.size, 1, none⟩) (.inl (Nat.le_of_lt hbd)) (.slice s9 U.length c9)).setCell (p := ⟨w.heap.size, 2, none⟩) (.inl (Nat.le_of_lt hbd)) (.bool false)
                    have hd8 := ltOf HD8.out
                    refine bodyPost_ret (v := .tuple #[.agg #[.string nm, .slice s9 U.length c9, .bool false], .bool true]) ?_ rfl ⟨_, rfl, ?_, FQ⟩
                    · simp [results, Try.f42, go_sem, z0, z1, z2]
                    · rw [HN.out]
                      exact ⟨_, rfl, s9, c9, rfl, ((O9.out.fr FS (fun k hk => by have := (O9.out.lt _ hk).1; omega)).lower F8.out.size), FQ⟩


              · have q11 : (y.f0 != 11) = true := by simp [h11]
                have HN := Lib.hid (show O = none by rw [HO.out, HL.out]; simp only; rw [if_neg h11])
                clear h11 h9 hE HL
                have B0 := hF.out.heap HB2.out (by simp)
                have p0 := cellOf B0 0
                have p1 := cellOf B0 1
                have p2 := cellOf B0 2
                have t0 := frozenOf B0 0
                have t1 := frozenOf B0 1
                have t2 := frozenOf B0 2
                simp at p0 p1 p2
                clear B0
                go_wp2_with fail
                have Q0 := heapSet (heapSet (heapSet (hF.out.heap HB2.out (by simp)) 0 (.string ⟨#[]⟩)) 1 (.slice none 0 0)) 2 (.bool false)
                have z0 := cellOf Q0 0
                have z1 := cellOf Q0 1
                have z2 := cellOf Q0 2
                simp at z0 z1 z2
                have FQ := (((FW.out.trans hF.out).setCell (p := ⟨w.heap.size, 0, none⟩) (.inr (Nat.le_refl _)) (.string ⟨#[]⟩)).setCell (p := ⟨w.heap.size, 1, none⟩) (.inr (Nat.le_refl _)) (.slice none 0 0)).setCell (p := ⟨w.heap.size, 2, none⟩) (.inr (Nat.le_refl _)) (.bool false)
                refine bodyPost_ret (v := .tuple #[.agg #[.string ⟨#[]⟩, .slice none 0 0, .bool false], .bool false]) ?_ rfl ⟨_, rfl, ?_, FQ⟩
                · simp [results, Try.f42, go_sem, z0, z1, z2]
                · rw [HN.out]; exact rfl)
    · have q1 : (x.f0 != 1) = true := by simp [hx]
      rw [show oneV (x :: r) = none by unfold oneV; simp only; rw [if_neg hx]]
      clear hx
      go_enter Try.func42, Try.ntmps42
      go_wp2_with fail
      refine bodyPost_ret (v := .tuple #[.agg #[.string ⟨#[]⟩, .slice none 0 0, .bool false], .bool false]) ?_ rfl ⟨_, rfl, rfl, F0.out⟩
      simp [results, Try.f42, go_sem]
end Go.Proofs.Ytknpdkfjmhpbpaa
