/- decl.one: the declaration of tokens. No condition but sizes. -/
import Derived.Test.YtknpdkfjmhpbpaaMarked
import Derived.Test.YtknpdkfjmhpbpaaRaws
namespace Go.Proofs.Ytknpdkfjmhpbpaa
open Go.RowKit Go.Maps Go.ChangeShapes Go.WideShapes Go.ChangeAt Go.WideMaps Go.WideElems

/-- A declaration. -/
structure DeclT where
  nm : ByteArray
  val : List Tok
  imp : Bool
def oneV (ts : List Tok) : Option DeclT :=
  match ts with
  | [] => none
  | x :: r => if x.f0 = 1 then
      match lt1 r with
      | y :: q => if y.f0 = 11 then some ⟨lowS x.f1, (impV (trimT q)).1, (impV (trimT q)).2⟩ else none
      | [] => none
    else none
/-- What one answers. -/
def DecV (w : World) (o : Option DeclT) (v : Value) (W : World) : Prop :=
  match o with
  | some D => ∃ u, v = .tuple #[.agg #[.string D.nm, u, .bool D.imp], .bool true] ∧ NewT w D.val u W
  | none => v = .tuple #[.agg #[.string ⟨#[]⟩, .slice none 0 0, .bool false], .bool false]

theorem info48 : (Try.prog.info? 48).map (fun i => (i.zero, i.size, i.bytes)) = some (some (.agg #[.string ⟨#[]⟩, .slice none 0 0, .bool false]), 3, 48) := by kernel_rfl

theorem impV_no (V : List Tok) : (impV V).2 = false → (impV V).1 = V := by
  unfold impV
  split
  · split
    · split
      · split <;> simp
      · simp
    · simp
  · simp
theorem impV_len (V : List Tok) : (impV V).1.length ≤ V.length := by
  have a : ∀ U : List Tok, (U.dropLast).length ≤ U.length := fun U => by
    have h3 : U.dropLast.length = U.length - 1 := List.length_dropLast
    omega
  unfold impV
  split
  · split
    · split
      · split
        · exact Nat.le_trans (trimT_len _) (Nat.le_trans (a _) (Nat.le_trans (trimT_len _) (a _)))
        · exact Nat.le_refl _
      · exact Nat.le_refl _
    · exact Nat.le_refl _
  · exact Nat.le_refl _
theorem RdT.awayD {w : World} {d : Nat} {nm : ByteArray} {p0 : Option Addr} {n0 c0 : Nat} {b : Bool} {p : Option Addr} {ts : List Tok} (HD : w.heap[d]? = some (.cells #[.string nm, .slice p0 n0 c0, .bool b] 48)) (h : RdT w p ts) (i : Nat) (u : Value) : RdT (w.setCell ⟨d, i, none⟩ u) p ts := by
  intro k x hx
  obtain ⟨h0, g, off, hp, hg, hc⟩ := h k x hx
  have hgd : g ≠ d := by
    rintro rfl
    have h1 := hc 0 _ rfl
    rw [cellOf HD] at h1
    generalize off + k * 5 + 0 = n at h1
    match n with
    | 0 => simp at h1
    | 1 => simp at h1
    | 2 => simp at h1
    | n + 3 => simp at h1
  have f : Fr (fun j => j = d) w (w.setCell ⟨d, i, none⟩ u) := (Fr.refl (fun j => j = d) w).setCell (p := ⟨d, i, none⟩) (.inl rfl) u
  exact ⟨h0, g, off, hp, Nat.lt_of_lt_of_le hg f.size, fun j u hj => (f.cell (p := ⟨g, off + k * 5 + j, none⟩) hg hgd).trans (hc j u hj)⟩
theorem SlT.dropC {w W : World} {g off n c k : Nat} {x : Tok} {r R : List Tok} (h : RdT w (some ⟨g, off, none⟩) (x :: r)) (hc : n + 1 ≤ c ∧ c ≤ maxLen) (hn : r.length = n) (hk : k < n + 1) (hR : (x :: r).drop (k + 1) = R) (f : Fr (fun _ => False) w W) : SlT W (.slice (some ⟨g, off + (k + 1) * 5, none⟩) (n - k) (c - (k + 1))) R := by
  subst hR
  have hl : ((x :: r).drop (k + 1)).length = n - k := by simp [hn]
  refine ⟨_, _, by rw [hl], ?_, by rw [hl]; omega, Nat.le_trans (Nat.sub_le _ _) hc.2⟩
  have := (h.fr f).cutA (k + 1) (x :: r).length
  rw [List.take_of_length_le (Nat.le_refl _), Option.map_some, addOf _ _ rfl] at this
  exact this

set_option maxRecDepth 100000 in
set_option maxHeartbeats 4000000 in
theorem one_any (w : World) (v : Value) (ts : List Tok) (h : SlT w v ts) (hl : ts.length ≤ 100000) : Calls Try.prog 41 #[v] w fun e w' => ∃ v, e = .returned v ∧ DecV w (oneV ts) v w' ∧ Fr (fun _ => False) w w' := by
  obtain ⟨p, c, rfl, hR, hc, hm⟩ := h.ex
  have HR := Lib.hid hR
  have HCC := Lib.hid (And.intro hc hm)
  unfold maxLen at hm
  clear hR h
  have HB := heapNew w (.cells #[.string ⟨#[]⟩, .slice none 0 0, .bool false] 48)
  have F0 := Lib.hid ((Fr.refl (fun _ => False) w).alloc (.cells #[.string ⟨#[]⟩, .slice none 0 0, .bool false] 48))
  cases ts with
  | nil =>
    rw [show oneV [] = none from rfl, List.length_nil]
    go_enter Try.func41, Try.ntmps41
    go_wp2_with fail
    refine bodyPost_ret (v := .tuple #[.agg #[.string ⟨#[]⟩, .slice none 0 0, .bool false], .bool false]) ?_ rfl ⟨_, rfl, rfl, F0.out⟩
    simp [results, Try.f41, go_sem]
  | cons x r =>
    rw [List.length_cons] at hc hl HCC ⊢
    obtain ⟨n, hn⟩ : ∃ n, r.length = n := ⟨_, rfl⟩
    rw [hn] at hc hl HCC ⊢
    have dn : ((n : Int) + 1 == 0) = false := by rw [beq_eq_false_iff_ne]; omega
    obtain ⟨hsz, g, off, rfl, hg, a0, a1, -, -, -⟩ := (HR.out.fr F0.out).at_ (i := 0) (x := x) rfl
    rw [Nat.zero_mul, Nat.add_zero] at a0 a1
    by_cases hx : x.f0 = 1
    · have q1 : (x.f0 != 1) = false := by simp [hx]
      have LW := Lib.hid (Lower_any x.f1 (w.alloc (.cells #[.string ⟨#[]⟩, .slice none 0 0, .bool false] 48)) hsz)
      have HO := Lib.hid (show oneV (x :: r) = match lt1 r with
          | y :: q => if y.f0 = 11 then some ⟨lowS x.f1, (impV (trimT q)).1, (impV (trimT q)).2⟩ else none
          | [] => none by
        conv => lhs; unfold oneV
        simp only
        rw [if_pos hx])
      generalize oneV (x :: r) = O at *
      generalize lowS x.f1 = nm at *
      clear hx
      go_enter Try.func41, Try.ntmps41
      go_upto_region 4 with (go_at_call 55; refine LW.out.mono ?_; rintro e w1 ⟨rfl, f1⟩; have F1 := Lib.hid (F0.out.trans f1); have HB1 := Lib.hid (f1.heap HB (by simp)); have HD := Lib.hid (heapNew w1 (.cells #[.string nm, .slice none 0 0, .bool false] 48)); have HB2 := Lib.hid (heapAlloc (o' := .cells #[.string nm, .slice none 0 0, .bool false] 48) HB1.out); clear f1)
      have FW := Lib.hid (F1.out.alloc (.cells #[.string nm, .slice none 0 0, .bool false] 48))
      have hbd := ltOf HB1.out
      clear a0 a1 LW HB F0 HB1 hg
      go_wp2_with fail
      go_loopw [5] (fun iv wr => ∃ (k : Nat), iv = .int .i64 k ∧ 1 ≤ k ∧ k ≤ n + 1 ∧ Hid (lt1 ((x :: r).drop k) = lt1 r) ∧ Hid (Fr (fun _ => False) (w1.alloc (.cells #[.string nm, .slice none 0 0, .bool false] 48)) wr)) (fun iv _ => n + 1 - (intOf iv).toNat)
      case atStart => exact ⟨1, rfl, by omega, by omega, Lib.hid rfl, Lib.hid (Fr.refl _ _)⟩
      case round =>
        obtain ⟨k, rfl, hk1, hk2, HE, hF⟩ := hrel
        by_cases hlt : k < n + 1
        · obtain ⟨y, hy⟩ : ∃ y, (x :: r)[k]? = some y := ⟨(x :: r)[k]'(by simp [hn]; exact hlt), List.getElem?_eq_getElem _⟩
          have hdr : (x :: r).drop k = y :: (x :: r).drop (k + 1) := by
            obtain ⟨h1, h2⟩ := List.getElem?_eq_some_iff.1 hy
            rw [List.drop_eq_getElem_cons h1, h2]
          obtain ⟨_, g', off', hp, hg', b0, b1, b2, b3, b4⟩ := (HR.out.fr (FW.out.trans hF.out)).at_ (i := k) (x := y) hy
          obtain ⟨rfl, rfl⟩ : g = g' ∧ off = off' := by cases hp; exact ⟨rfl, rfl⟩
          have Y0 := Lib.hid (show ∀ W, Fr (fun _ => False) wr W → W.cell? ⟨g, off + k * 5, none⟩ = some (.int .i64 y.f0) from fun W f => (f.cell (p := ⟨g, off + k * 5, none⟩) hg' (by simp)).trans b0)
          have dk : decide ((k : Int) < (n : Int) + 1) = true := decide_eq_true (by omega)
          by_cases h9 : y.f0 = 9
          · have WH := Lib.hid (show ∀ W, Calls Try.prog 56 #[.agg #[.int .i64 y.f0, .string y.f1, .int .i64 y.f2, .bool y.f3, .int .i64 y.f4]] W fun e w' => e = .returned (.bool true) ∧ Fr (fun _ => False) W w' from fun W => by have := white56 W y; rwa [show isW y = true from decide_eq_true h9] at this)
            have HE2 := Lib.hid (show lt1 ((x :: r).drop (k + 1)) = lt1 r by rw [← HE.out, hdr]; unfold lt1; rw [List.dropWhile_cons_of_pos (by unfold isW; exact decide_eq_true h9)])
            clear h9 hy hdr HE
            go_wp2_with (go_at_call 56; refine (WH.out _).mono ?_; rintro e w5 ⟨rfl, f5⟩; have G5 := Lib.hid (hF.out.trans f5); have c0 := Y0.out _ f5; have B0 := G5.out.heap HB2.out (by simp); have p0 := cellOf B0 0; have p1 := cellOf B0 1; have p2 := cellOf B0 2; have t0 := frozenOf B0 0; have t1 := frozenOf B0 1; have t2 := frozenOf B0 2; simp at p0 p1 p2; clear f5 B0)
            go_roundw
            case rel => exact ⟨k + 1, by go_num, by omega, by omega, HE2, G5⟩
            case measure => simp [intOf]; omega
          · have WH := Lib.hid (show ∀ W, Calls Try.prog 56 #[.agg #[.int .i64 y.f0, .string y.f1, .int .i64 y.f2, .bool y.f3, .int .i64 y.f4]] W fun e w' => e = .returned (.bool false) ∧ Fr (fun _ => False) W w' from fun W => by have := white56 W y; rwa [show isW y = false from decide_eq_false h9] at this)
            have HL := Lib.hid (show lt1 r = y :: (x :: r).drop (k + 1) by rw [← HE.out, hdr]; unfold lt1; rw [List.dropWhile_cons_of_neg (by unfold isW; simpa using h9)])
            have dk2 : decide ((n : Int) + 1 ≤ (k : Int)) = false := decide_eq_false (by omega)
            by_cases h11 : y.f0 = 11
            · have q11 : (y.f0 != 11) = false := by simp [h11]
              have HN := Lib.hid (show O = some ⟨nm, (impV (trimT ((x :: r).drop (k + 1)))).1, (impV (trimT ((x :: r).drop (k + 1)))).2⟩ by rw [HO.out, HL.out]; simp only; rw [if_pos h11])
              clear h11 h9 hy hdr HE HL HO
              obtain ⟨R5, hR5⟩ : ∃ R5, (x :: r).drop (k + 1) = R5 := ⟨_, rfl⟩
              have hl5 : R5.length = n - k := by rw [← hR5]; simp [hn]
              have HR5 := Lib.hid (show R5.length ≤ 100000 by omega)
              rw [hR5] at HN
              obtain ⟨V, hV⟩ : ∃ V, trimT R5 = V := ⟨_, rfl⟩
              have HV := Lib.hid (show V.length ≤ 100000 by have := trimT_len R5; rw [hV] at this; omega)
              rw [hV] at HN
              by_cases hck : c = k + 1
              · obtain rfl : n = k := by have := HCC.out.1; omega
                obtain rfl : R5 = [] := List.eq_nil_of_length_eq_zero (by omega)
                have SLD := Lib.hid (show ∀ W, Fr (fun _ => False) w W → SlT W (.slice (some ⟨g, off, none⟩) 0 0) [] from fun W f => ⟨_, 0, rfl, RdT.nil _ _, Nat.le_refl _, Nat.zero_le _⟩)
                subst hck
                go_upto_region 10 with (first | (go_at_call 56; refine (WH.out _).mono ?_; rintro e w5 ⟨rfl, f5⟩; have G5 := Lib.hid (hF.out.trans f5); have c0 := Y0.out _ f5; have B0 := G5.out.heap HB2.out (by simp); have p0 := cellOf B0 0; have p1 := cellOf B0 1; have p2 := cellOf B0 2; have t0 := frozenOf B0 0; have t1 := frozenOf B0 1; have t2 := frozenOf B0 2; simp at p0 p1 p2; clear f5 B0) | (go_at_call 57; refine (trim57_any _ _ [] (SLD.out _ (FW.out.trans G5.out)) HR5.out).mono ?_; rintro e w6 ⟨v6, rfl, s6, f6⟩; have G6 := Lib.hid (G5.out.trans f6); rw [hV] at s6; obtain ⟨p6, k6, rfl, hr6, hc6, hm6⟩ := s6.ex; have R6 := Lib.hid hr6; have K6 := Lib.hid (And.intro hc6 hm6); have HD6 := Lib.hid (G6.out.heap HD.out (by simp)); have e0 := cellOf HD6.out 0; have e1 := cellOf HD6.out 1; have e2 := cellOf HD6.out 2; have u0 := frozenOf HD6.out 0; have u1 := frozenOf HD6.out 1; have u2 := frozenOf HD6.out 2; simp at e0 e1 e2; clear f6 s6 hr6 hc6 hm6))
                have HD7 := heapSet HD6.out 1 (.slice p6 V.length k6)
                simp at HD7
                have HD7 := Lib.hid HD7
                have F7 := Lib.hid ((FW.out.trans G6.out).setCell (p := ⟨w1.heap.size, 1, none⟩) (.inr (Nat.le_of_lt hbd)) (.slice p6 V.length k6))
                have HB7 := Lib.hid ((heapSetOther (w := w6) (b := w1.heap.size) 1 (.slice p6 V.length k6) (Nat.ne_of_lt hbd)).trans (G6.out.heap HB2.out (by simp)))
                have S7 : SlT (w6.setCell ⟨w1.heap.size, 1, none⟩ (.slice p6 V.length k6)) (.slice p6 V.length k6) V := ⟨p6, k6, rfl, RdT.awayD HD6.out R6.out 1 _, K6.out⟩
                have R7 := Lib.hid (RdT.awayD HD6.out R6.out 1 (.slice p6 V.length k6))
                have MK := Lib.hid (marked_any _ _ V S7 HV.out)
                have HIM := Lib.hid (impV_no V)
                have HIL := Lib.hid (Nat.le_trans (impV_len V) HV.out)
                clear S7
                generalize (impV V).1 = U at *
                generalize (impV V).2 = b at *
                have g1 := cellOf HD7.out 1
                simp at g1
                cases b with
                | false =>
                  obtain rfl : U = V := HIM.out rfl
                  go_wp2_with (first
                    | (go_at_call 58; refine MK.out.mono ?_; rintro e w7 ⟨v7, rfl, -, f7⟩; have HD8 := Lib.hid (f7.heap HD7.out (by simp)); have HB8 := Lib.hid (f7.heap HB7.out (by simp)); have F8 := Lib.hid (F7.out.trans f7); have R8 := Lib.hid (R7.out.fr f7); have j0 := cellOf HD8.out 0; have j1 := cellOf HD8.out 1; have j2 := cellOf HD8.out 2; have k0 := frozenOf HD8.out 0; have k1 := frozenOf HD8.out 1; have k2 := frozenOf HD8.out 2; simp at j0 j1 j2; clear f7)
                    | (go_at_call 35; refine (clone_any _ _ U w7 R8.out HIL.out).mono ?_; rintro e w9 ⟨v9, rfl, s9, c9, rfl, h9, f9⟩; have O9 := Lib.hid h9; have F9 := Lib.hid (F8.out.trans f9); have HD9 := f9.heap HD8.out (by simp); have HB9 := f9.heap HB8.out (by simp); have x0 := cellOf HD9 0; have x1 := cellOf HD9 1; have x2 := cellOf HD9 2; have y0 := frozenOf HD9 0; have y1 := frozenOf HD9 1; have y2 := frozenOf HD9 2; simp at x0 x1 x2; have HD10 := heapSet HD9 1 (.slice s9 U.length c9); simp at HD10; have X0 := cellOf HD10 0; have X1 := cellOf HD10 1; have X2 := cellOf HD10 2; have Y0 := frozenOf HD10 0; have Y1 := frozenOf HD10 1; have Y2 := frozenOf HD10 2; simp at X0 X1 X2; have HB10 := (heapSetOther (w := w9) (b := w1.heap.size) 1 (.slice s9 U.length c9) (Nat.ne_of_lt hbd)).trans HB9; have m0 := cellOf HB10 0; have m1 := cellOf HB10 1; have m2 := cellOf HB10 2; have n0 := frozenOf HB10 0; have n1 := frozenOf HB10 1; have n2 := frozenOf HB10 2; simp at m0 m1 m2; have HBX := Lib.hid HB10; clear h9 f9 HD9 HB9 HD10 HB10))
                  have Q0 := heapSet (heapSet (heapSet HBX.out 0 (.string nm)) 1 (.slice s9 U.length c9)) 2 (.bool false)
                  have z0 := cellOf Q0 0
                  have z1 := cellOf Q0 1
                  have z2 := cellOf Q0 2
                  simp at z0 z1 z2
                  have FQ := ((((F9.out.setCell (p := ⟨w1.heap.size, 1, none⟩) (.inr (Nat.le_of_lt hbd)) (.slice s9 U.length c9))).setCell (p := ⟨w.heap.size, 0, none⟩) (.inr (Nat.le_refl _)) (.string nm)).setCell (p := ⟨w.heap.size, 1, none⟩) (.inr (Nat.le_refl _)) (.slice s9 U.length c9)).setCell (p := ⟨w.heap.size, 2, none⟩) (.inr (Nat.le_refl _)) (.bool false)
                  have FS := ((((Fr.refl (fun k => k ≤ w1.heap.size) w9).setCell (p := ⟨w1.heap.size, 1, none⟩) (.inl (Nat.le_refl _)) (.slice s9 U.length c9)).setCell (p := ⟨w.heap.size, 0, none⟩) (.inl (Nat.le_of_lt hbd)) (.string nm)).setCell (p := ⟨w.heap.size, 1, none⟩) (.inl (Nat.le_of_lt hbd)) (.slice s9 U.length c9)).setCell (p := ⟨w.heap.size, 2, none⟩) (.inl (Nat.le_of_lt hbd)) (.bool false)
                  have hd8 := ltOf HD8.out
                  refine bodyPost_ret (v := .tuple #[.agg #[.string nm, .slice s9 U.length c9, .bool false], .bool true]) ?_ rfl ⟨_, rfl, ?_, FQ⟩
                  · simp [results, Try.f41, go_sem, z0, z1, z2]
                  · rw [HN.out]
                    exact ⟨_, rfl, s9, c9, rfl, ((O9.out.fr FS (fun k hk => by have := (O9.out.lt _ hk).1; omega)).lower F8.out.size), FQ⟩

                | true =>
                  go_wp2_with (first
                    | (go_at_call 58; refine MK.out.mono ?_; rintro e w7 ⟨v7, rfl, h7, f7⟩; obtain ⟨p7, k7, rfl, hr7, hc7, hm7⟩ := (h7 rfl).ex; have HDa := f7.heap HD7.out (by simp); have j0 := cellOf HDa 0; have j1 := cellOf HDa 1; have j2 := cellOf HDa 2; have k0 := frozenOf HDa 0; have k1 := frozenOf HDa 1; have k2 := frozenOf HDa 2; simp at j0 j1 j2; have HDb := heapSet HDa 1 (.slice p7 U.length k7); simp at HDb; have J0 := cellOf HDb 0; have J1 := cellOf HDb 1; have J2 := cellOf HDb 2; have K0 := frozenOf HDb 0; have K1 := frozenOf HDb 1; have K2 := frozenOf HDb 2; simp at J0 J1 J2; have HDc := heapSet HDb 2 (.bool true); simp at HDc; have HD8 := Lib.hid HDc; have l0 := cellOf HDc 0; have l1 := cellOf HDc 1; have l2 := cellOf HDc 2; have q0 := frozenOf HDc 0; have q1_ := frozenOf HDc 1; have q2 := frozenOf HDc 2; simp at l0 l1 l2; have HB8 := Lib.hid ((heapSetOther (w := w7.setCell ⟨w1.heap.size, 1, none⟩ (.slice p7 U.length k7)) (b := w1.heap.size) 2 (.bool true) (Nat.ne_of_lt hbd)).trans ((heapSetOther (w := w7) (b := w1.heap.size) 1 (.slice p7 U.length k7) (Nat.ne_of_lt hbd)).trans (f7.heap HB7.out (by simp)))); have F8 := Lib.hid (((F7.out.trans f7).setCell (p := ⟨w1.heap.size, 1, none⟩) (.inr (Nat.le_of_lt hbd)) (.slice p7 U.length k7)).setCell (p := ⟨w1.heap.size, 2, none⟩) (.inr (Nat.le_of_lt hbd)) (.bool true)); have R8 := Lib.hid (RdT.awayD HDb (RdT.awayD HDa hr7 1 (.slice p7 U.length k7)) 2 (.bool true)); clear f7 h7 HDa HDb HDc hr7)
                    | (go_at_call 35; refine (clone_any _ _ U _ R8.out HIL.out).mono ?_; rintro e w9 ⟨v9, rfl, s9, c9, rfl, h9, f9⟩; have O9 := Lib.hid h9; have F9 := Lib.hid (F8.out.trans f9); have HD9 := f9.heap HD8.out (by simp); have HB9 := f9.heap HB8.out (by simp); have x0 := cellOf HD9 0; have x1 := cellOf HD9 1; have x2 := cellOf HD9 2; have y0 := frozenOf HD9 0; have y1 := frozenOf HD9 1; have y2 := frozenOf HD9 2; simp at x0 x1 x2; have HD10 := heapSet HD9 1 (.slice s9 U.length c9); simp at HD10; have X0 := cellOf HD10 0; have X1 := cellOf HD10 1; have X2 := cellOf HD10 2; have Y0 := frozenOf HD10 0; have Y1 := frozenOf HD10 1; have Y2 := frozenOf HD10 2; simp at X0 X1 X2; have HB10 := (heapSetOther (w := w9) (b := w1.heap.size) 1 (.slice s9 U.length c9) (Nat.ne_of_lt hbd)).trans HB9; have m0 := cellOf HB10 0; have m1 := cellOf HB10 1; have m2 := cellOf HB10 2; have n0 := frozenOf HB10 0; have n1 := frozenOf HB10 1; have n2 := frozenOf HB10 2; simp at m0 m1 m2; have HBX := Lib.hid HB10; clear h9 f9 HD9 HB9 HD10 HB10))
                  have Q0 := heapSet (heapSet (heapSet HBX.out 0 (.string nm)) 1 (.slice s9 U.length c9)) 2 (.bool true)
                  have z0 := cellOf Q0 0
                  have z1 := cellOf Q0 1
                  have z2 := cellOf Q0 2
                  simp at z0 z1 z2
                  have FQ := ((((F9.out.setCell (p := ⟨w1.heap.size, 1, none⟩) (.inr (Nat.le_of_lt hbd)) (.slice s9 U.length c9))).setCell (p := ⟨w.heap.size, 0, none⟩) (.inr (Nat.le_refl _)) (.string nm)).setCell (p := ⟨w.heap.size, 1, none⟩) (.inr (Nat.le_refl _)) (.slice s9 U.length c9)).setCell (p := ⟨w.heap.size, 2, none⟩) (.inr (Nat.le_refl _)) (.bool true)
                  have FS := ((((Fr.refl (fun k => k ≤ w1.heap.size) w9).setCell (p := ⟨w1.heap.size, 1, none⟩) (.inl (Nat.le_refl _)) (.slice s9 U.length c9)).setCell (p := ⟨w.heap.size, 0, none⟩) (.inl (Nat.le_of_lt hbd)) (.string nm)).setCell (p := ⟨w.heap.size, 1, none⟩) (.inl (Nat.le_of_lt hbd)) (.slice s9 U.length c9)).setCell (p := ⟨w.heap.size, 2, none⟩) (.inl (Nat.le_of_lt hbd)) (.bool true)
                  have hd8 := ltOf HD8.out
                  refine bodyPost_ret (v := .tuple #[.agg #[.string nm, .slice s9 U.length c9, .bool true], .bool true]) ?_ rfl ⟨_, rfl, ?_, FQ⟩
                  · simp [results, Try.f41, go_sem, z0, z1, z2]
                  · rw [HN.out]
                    exact ⟨_, rfl, s9, c9, rfl, ((O9.out.fr FS (fun k hk => by have := (O9.out.lt _ hk).1; omega)).lower F8.out.size), FQ⟩


              · have hk2 : (k : Int) + 1 ≤ (n : Int) + 1 := by omega
                have hk4 : (0 : Int) ≤ (k : Int) + 1 := by omega
                have hk5 : (k : Int) + 1 ≤ (c : Int) := by omega
                have hk3 : ((c : Int) == (k : Int) + 1) = false := by rw [beq_eq_false_iff_ne]; omega
                have SLD := Lib.hid (show ∀ W, Fr (fun _ => False) w W → SlT W (.slice (some ⟨g, off + (k + 1) * 5, none⟩) (n - k) (c - (k + 1))) R5 from fun W f => SlT.dropC HR.out HCC.out hn hlt hR5 f)
                go_upto_region 10 with (first | (go_at_call 56; refine (WH.out _).mono ?_; rintro e w5 ⟨rfl, f5⟩; have G5 := Lib.hid (hF.out.trans f5); have c0 := Y0.out _ f5; have B0 := G5.out.heap HB2.out (by simp); have p0 := cellOf B0 0; have p1 := cellOf B0 1; have p2 := cellOf B0 2; have t0 := frozenOf B0 0; have t1 := frozenOf B0 1; have t2 := frozenOf B0 2; simp at p0 p1 p2; clear f5 B0) | (go_at_call 57; refine (trim57_any _ _ R5 (SLD.out _ (FW.out.trans G5.out)) HR5.out).mono ?_; rintro e w6 ⟨v6, rfl, s6, f6⟩; have G6 := Lib.hid (G5.out.trans f6); rw [hV] at s6; obtain ⟨p6, k6, rfl, hr6, hc6, hm6⟩ := s6.ex; have R6 := Lib.hid hr6; have K6 := Lib.hid (And.intro hc6 hm6); have HD6 := Lib.hid (G6.out.heap HD.out (by simp)); have e0 := cellOf HD6.out 0; have e1 := cellOf HD6.out 1; have e2 := cellOf HD6.out 2; have u0 := frozenOf HD6.out 0; have u1 := frozenOf HD6.out 1; have u2 := frozenOf HD6.out 2; simp at e0 e1 e2; clear f6 s6 hr6 hc6 hm6))
                have HD7 := heapSet HD6.out 1 (.slice p6 V.length k6)
                simp at HD7
                have HD7 := Lib.hid HD7
                have F7 := Lib.hid ((FW.out.trans G6.out).setCell (p := ⟨w1.heap.size, 1, none⟩) (.inr (Nat.le_of_lt hbd)) (.slice p6 V.length k6))
                have HB7 := Lib.hid ((heapSetOther (w := w6) (b := w1.heap.size) 1 (.slice p6 V.length k6) (Nat.ne_of_lt hbd)).trans (G6.out.heap HB2.out (by simp)))
                have S7 : SlT (w6.setCell ⟨w1.heap.size, 1, none⟩ (.slice p6 V.length k6)) (.slice p6 V.length k6) V := ⟨p6, k6, rfl, RdT.awayD HD6.out R6.out 1 _, K6.out⟩
                have R7 := Lib.hid (RdT.awayD HD6.out R6.out 1 (.slice p6 V.length k6))
                have MK := Lib.hid (marked_any _ _ V S7 HV.out)
                have HIM := Lib.hid (impV_no V)
                have HIL := Lib.hid (Nat.le_trans (impV_len V) HV.out)
                clear S7
                generalize (impV V).1 = U at *
                generalize (impV V).2 = b at *
                have g1 := cellOf HD7.out 1
                simp at g1
                cases b with
                | false =>
                  obtain rfl : U = V := HIM.out rfl
                  go_wp2_with (first
                    | (go_at_call 58; refine MK.out.mono ?_; rintro e w7 ⟨v7, rfl, -, f7⟩; have HD8 := Lib.hid (f7.heap HD7.out (by simp)); have HB8 := Lib.hid (f7.heap HB7.out (by simp)); have F8 := Lib.hid (F7.out.trans f7); have R8 := Lib.hid (R7.out.fr f7); have j0 := cellOf HD8.out 0; have j1 := cellOf HD8.out 1; have j2 := cellOf HD8.out 2; have k0 := frozenOf HD8.out 0; have k1 := frozenOf HD8.out 1; have k2 := frozenOf HD8.out 2; simp at j0 j1 j2; clear f7)
                    | (go_at_call 35; refine (clone_any _ _ U w7 R8.out HIL.out).mono ?_; rintro e w9 ⟨v9, rfl, s9, c9, rfl, h9, f9⟩; have O9 := Lib.hid h9; have F9 := Lib.hid (F8.out.trans f9); have HD9 := f9.heap HD8.out (by simp); have HB9 := f9.heap HB8.out (by simp); have x0 := cellOf HD9 0; have x1 := cellOf HD9 1; have x2 := cellOf HD9 2; have y0 := frozenOf HD9 0; have y1 := frozenOf HD9 1; have y2 := frozenOf HD9 2; simp at x0 x1 x2; have HD10 := heapSet HD9 1 (.slice s9 U.length c9); simp at HD10; have X0 := cellOf HD10 0; have X1 := cellOf HD10 1; have X2 := cellOf HD10 2; have Y0 := frozenOf HD10 0; have Y1 := frozenOf HD10 1; have Y2 := frozenOf HD10 2; simp at X0 X1 X2; have HB10 := (heapSetOther (w := w9) (b := w1.heap.size) 1 (.slice s9 U.length c9) (Nat.ne_of_lt hbd)).trans HB9; have m0 := cellOf HB10 0; have m1 := cellOf HB10 1; have m2 := cellOf HB10 2; have n0 := frozenOf HB10 0; have n1 := frozenOf HB10 1; have n2 := frozenOf HB10 2; simp at m0 m1 m2; have HBX := Lib.hid HB10; clear h9 f9 HD9 HB9 HD10 HB10))
                  have Q0 := heapSet (heapSet (heapSet HBX.out 0 (.string nm)) 1 (.slice s9 U.length c9)) 2 (.bool false)
                  have z0 := cellOf Q0 0
                  have z1 := cellOf Q0 1
                  have z2 := cellOf Q0 2
                  simp at z0 z1 z2
                  have FQ := ((((F9.out.setCell (p := ⟨w1.heap.size, 1, none⟩) (.inr (Nat.le_of_lt hbd)) (.slice s9 U.length c9))).setCell (p := ⟨w.heap.size, 0, none⟩) (.inr (Nat.le_refl _)) (.string nm)).setCell (p := ⟨w.heap.size, 1, none⟩) (.inr (Nat.le_refl _)) (.slice s9 U.length c9)).setCell (p := ⟨w.heap.size, 2, none⟩) (.inr (Nat.le_refl _)) (.bool false)
                  have FS := ((((Fr.refl (fun k => k ≤ w1.heap.size) w9).setCell (p := ⟨w1.heap.size, 1, none⟩) (.inl (Nat.le_refl _)) (.slice s9 U.length c9)).setCell (p := ⟨w.heap.size, 0, none⟩) (.inl (Nat.le_of_lt hbd)) (.string nm)).setCell (p := ⟨w.heap.size, 1, none⟩) (.inl (Nat.le_of_lt hbd)) (.slice s9 U.length c9)).setCell (p := ⟨w.heap.size, 2, none⟩) (.inl (Nat.le_of_lt hbd)) (.bool false)
                  have hd8 := ltOf HD8.out
                  refine bodyPost_ret (v := .tuple #[.agg #[.string nm, .slice s9 U.length c9, .bool false], .bool true]) ?_ rfl ⟨_, rfl, ?_, FQ⟩
                  · simp [results, Try.f41, go_sem, z0, z1, z2]
                  · rw [HN.out]
                    exact ⟨_, rfl, s9, c9, rfl, ((O9.out.fr FS (fun k hk => by have := (O9.out.lt _ hk).1; omega)).lower F8.out.size), FQ⟩

                | true =>
                  go_wp2_with (first
                    | (go_at_call 58; refine MK.out.mono ?_; rintro e w7 ⟨v7, rfl, h7, f7⟩; obtain ⟨p7, k7, rfl, hr7, hc7, hm7⟩ := (h7 rfl).ex; have HDa := f7.heap HD7.out (by simp); have j0 := cellOf HDa 0; have j1 := cellOf HDa 1; have j2 := cellOf HDa 2; have k0 := frozenOf HDa 0; have k1 := frozenOf HDa 1; have k2 := frozenOf HDa 2; simp at j0 j1 j2; have HDb := heapSet HDa 1 (.slice p7 U.length k7); simp at HDb; have J0 := cellOf HDb 0; have J1 := cellOf HDb 1; have J2 := cellOf HDb 2; have K0 := frozenOf HDb 0; have K1 := frozenOf HDb 1; have K2 := frozenOf HDb 2; simp at J0 J1 J2; have HDc := heapSet HDb 2 (.bool true); simp at HDc; have HD8 := Lib.hid HDc; have l0 := cellOf HDc 0; have l1 := cellOf HDc 1; have l2 := cellOf HDc 2; have q0 := frozenOf HDc 0; have q1_ := frozenOf HDc 1; have q2 := frozenOf HDc 2; simp at l0 l1 l2; have HB8 := Lib.hid ((heapSetOther (w := w7.setCell ⟨w1.heap.size, 1, none⟩ (.slice p7 U.length k7)) (b := w1.heap.size) 2 (.bool true) (Nat.ne_of_lt hbd)).trans ((heapSetOther (w := w7) (b := w1.heap.size) 1 (.slice p7 U.length k7) (Nat.ne_of_lt hbd)).trans (f7.heap HB7.out (by simp)))); have F8 := Lib.hid (((F7.out.trans f7).setCell (p := ⟨w1.heap.size, 1, none⟩) (.inr (Nat.le_of_lt hbd)) (.slice p7 U.length k7)).setCell (p := ⟨w1.heap.size, 2, none⟩) (.inr (Nat.le_of_lt hbd)) (.bool true)); have R8 := Lib.hid (RdT.awayD HDb (RdT.awayD HDa hr7 1 (.slice p7 U.length k7)) 2 (.bool true)); clear f7 h7 HDa HDb HDc hr7)
                    | (go_at_call 35; refine (clone_any _ _ U _ R8.out HIL.out).mono ?_; rintro e w9 ⟨v9, rfl, s9, c9, rfl, h9, f9⟩; have O9 := Lib.hid h9; have F9 := Lib.hid (F8.out.trans f9); have HD9 := f9.heap HD8.out (by simp); have HB9 := f9.heap HB8.out (by simp); have x0 := cellOf HD9 0; have x1 := cellOf HD9 1; have x2 := cellOf HD9 2; have y0 := frozenOf HD9 0; have y1 := frozenOf HD9 1; have y2 := frozenOf HD9 2; simp at x0 x1 x2; have HD10 := heapSet HD9 1 (.slice s9 U.length c9); simp at HD10; have X0 := cellOf HD10 0; have X1 := cellOf HD10 1; have X2 := cellOf HD10 2; have Y0 := frozenOf HD10 0; have Y1 := frozenOf HD10 1; have Y2 := frozenOf HD10 2; simp at X0 X1 X2; have HB10 := (heapSetOther (w := w9) (b := w1.heap.size) 1 (.slice s9 U.length c9) (Nat.ne_of_lt hbd)).trans HB9; have m0 := cellOf HB10 0; have m1 := cellOf HB10 1; have m2 := cellOf HB10 2; have n0 := frozenOf HB10 0; have n1 := frozenOf HB10 1; have n2 := frozenOf HB10 2; simp at m0 m1 m2; have HBX := Lib.hid HB10; clear h9 f9 HD9 HB9 HD10 HB10))
                  have Q0 := heapSet (heapSet (heapSet HBX.out 0 (.string nm)) 1 (.slice s9 U.length c9)) 2 (.bool true)
                  have z0 := cellOf Q0 0
                  have z1 := cellOf Q0 1
                  have z2 := cellOf Q0 2
                  simp at z0 z1 z2
                  have FQ := ((((F9.out.setCell (p := ⟨w1.heap.size, 1, none⟩) (.inr (Nat.le_of_lt hbd)) (.slice s9 U.length c9))).setCell (p := ⟨w.heap.size, 0, none⟩) (.inr (Nat.le_refl _)) (.string nm)).setCell (p := ⟨w.heap.size, 1, none⟩) (.inr (Nat.le_refl _)) (.slice s9 U.length c9)).setCell (p := ⟨w.heap.size, 2, none⟩) (.inr (Nat.le_refl _)) (.bool true)
                  have FS := ((((Fr.refl (fun k => k ≤ w1.heap.size) w9).setCell (p := ⟨w1.heap.size, 1, none⟩) (.inl (Nat.le_refl _)) (.slice s9 U.length c9)).setCell (p := ⟨w.heap.size, 0, none⟩) (.inl (Nat.le_of_lt hbd)) (.string nm)).setCell (p := ⟨w.heap.size, 1, none⟩) (.inl (Nat.le_of_lt hbd)) (.slice s9 U.length c9)).setCell (p := ⟨w.heap.size, 2, none⟩) (.inl (Nat.le_of_lt hbd)) (.bool true)
                  have hd8 := ltOf HD8.out
                  refine bodyPost_ret (v := .tuple #[.agg #[.string nm, .slice s9 U.length c9, .bool true], .bool true]) ?_ rfl ⟨_, rfl, ?_, FQ⟩
                  · simp [results, Try.f41, go_sem, z0, z1, z2]
                  · rw [HN.out]
                    exact ⟨_, rfl, s9, c9, rfl, ((O9.out.fr FS (fun k hk => by have := (O9.out.lt _ hk).1; omega)).lower F8.out.size), FQ⟩


            · have q11 : (y.f0 != 11) = true := by simp [h11]
              have HN := Lib.hid (show O = none by rw [HO.out, HL.out]; simp only; rw [if_neg h11])
              clear h11 h9 hy hdr HE HL
              go_wp2_with (go_at_call 56; refine (WH.out _).mono ?_; rintro e w5 ⟨rfl, f5⟩; have G5 := Lib.hid (hF.out.trans f5); have c0 := Y0.out _ f5; have B0 := G5.out.heap HB2.out (by simp); have p0 := cellOf B0 0; have p1 := cellOf B0 1; have p2 := cellOf B0 2; have t0 := frozenOf B0 0; have t1 := frozenOf B0 1; have t2 := frozenOf B0 2; simp at p0 p1 p2; clear f5 B0)
              have Q0 := heapSet (heapSet (heapSet (G5.out.heap HB2.out (by simp)) 0 (.string ⟨#[]⟩)) 1 (.slice none 0 0)) 2 (.bool false)
              have z0 := cellOf Q0 0
              have z1 := cellOf Q0 1
              have z2 := cellOf Q0 2
              simp at z0 z1 z2
              have FQ := (((FW.out.trans G5.out).setCell (p := ⟨w.heap.size, 0, none⟩) (.inr (Nat.le_refl _)) (.string ⟨#[]⟩)).setCell (p := ⟨w.heap.size, 1, none⟩) (.inr (Nat.le_refl _)) (.slice none 0 0)).setCell (p := ⟨w.heap.size, 2, none⟩) (.inr (Nat.le_refl _)) (.bool false)
              refine bodyPost_ret (v := .tuple #[.agg #[.string ⟨#[]⟩, .slice none 0 0, .bool false], .bool false]) ?_ rfl ⟨_, rfl, ?_, FQ⟩
              · simp [results, Try.f41, go_sem, z0, z1, z2]
              · rw [HN.out]; exact rfl

        · obtain rfl : k = n + 1 := by omega
          have dk : decide (((n + 1 : Nat) : Int) < (n : Int) + 1) = false := decide_eq_false (by omega)
          have dk2 : decide ((n : Int) + 1 ≤ ((n + 1 : Nat) : Int)) = true := decide_eq_true (by omega)
          have HN := Lib.hid (show O = none by
            have h1 := HE.out
            rw [List.drop_eq_nil_of_le (by simp [hn])] at h1
            rw [HO.out, ← h1]
            rfl)
          clear HE
          have B0 := hF.out.heap HB2.out (by simp)
          have p0 := cellOf B0 0
          have p1 := cellOf B0 1
          have p2 := cellOf B0 2
          have t0 := frozenOf B0 0
          have t1 := frozenOf B0 1
          have t2 := frozenOf B0 2
          simp at p0 p1 p2
          clear B0
          go_wp2_with fail
          have Q0 := heapSet (heapSet (heapSet (hF.out.heap HB2.out (by simp)) 0 (.string ⟨#[]⟩)) 1 (.slice none 0 0)) 2 (.bool false)
          have z0 := cellOf Q0 0
          have z1 := cellOf Q0 1
          have z2 := cellOf Q0 2
          simp at z0 z1 z2
          have FQ := (((FW.out.trans hF.out).setCell (p := ⟨w.heap.size, 0, none⟩) (.inr (Nat.le_refl _)) (.string ⟨#[]⟩)).setCell (p := ⟨w.heap.size, 1, none⟩) (.inr (Nat.le_refl _)) (.slice none 0 0)).setCell (p := ⟨w.heap.size, 2, none⟩) (.inr (Nat.le_refl _)) (.bool false)
          refine bodyPost_ret (v := .tuple #[.agg #[.string ⟨#[]⟩, .slice none 0 0, .bool false], .bool false]) ?_ rfl ⟨_, rfl, ?_, FQ⟩
          · simp [results, Try.f41, go_sem, z0, z1, z2]
          · rw [HN.out]; exact rfl


    · have q1 : (x.f0 != 1) = true := by simp [hx]
      rw [show oneV (x :: r) = none by unfold oneV; simp only; rw [if_neg hx]]
      clear hx
      go_enter Try.func41, Try.ntmps41
      go_wp2_with fail
      refine bodyPost_ret (v := .tuple #[.agg #[.string ⟨#[]⟩, .slice none 0 0, .bool false], .bool false]) ?_ rfl ⟨_, rfl, rfl, F0.out⟩
      simp [results, Try.f41, go_sem]
end Go.Proofs.Ytknpdkfjmhpbpaa
