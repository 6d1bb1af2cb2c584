/- DeclValues: the walk of the law. No condition. -/
import Derived.Test.YtknpdkfjmhpbpaaDVal
import Derived.Test.YtknpdkfjmhpbpaaWDecl
namespace Go.Proofs.Ytknpdkfjmhpbpaa
set_option linter.unusedVariables false
set_option linter.unusedSimpArgs false
open Go.RowKit Go.Maps Go.ChangeShapes Go.WideShapes Go.ChangeAt Go.WideMaps Go.WideElems

theorem SrcW.lit {w : World} {b m : Nat} {l : List Value} {T : TypeId} {fz : Nat × Nat} {size : Nat} (h : w.heap[b]? = some (.cells l.toArray T fz)) (hl : l.length = m * size) : SrcW w size (some ⟨b, 0, none⟩) m l := by
  refine ⟨hl, (by intro e; cases e), fun ad e j u hj => ?_⟩
  cases e
  rw [addOf _ _ rfl, cellOf h]
  simpa using hj
/-- The row that the law makes, and its white token in block d. -/
structure TD (w : World) (d : Nat) (ts : List Tok) (v : Value) (W : World) : Prop where
  tw : TW w ts v W
  dn : ∀ k, v.ownBlock = some k → k ≠ d
  hd : W.heap[d]? = some (.cells #[.int .i64 9, .string ⟨#[]⟩, .int .i64 0, .bool false, .int .i64 0] 35)
theorem TD.cells {w : World} {d : Nat} {ts : List Tok} {v : Value} {W : World} (h : TD w d ts v W) : W.cell? ⟨d, 0, none⟩ = some (.int .i64 9) ∧ W.cell? ⟨d, 1, none⟩ = some (.string ⟨#[]⟩) ∧ W.cell? ⟨d, 2, none⟩ = some (.int .i64 0) ∧ W.cell? ⟨d, 3, none⟩ = some (.bool false) ∧ W.cell? ⟨d, 4, none⟩ = some (.int .i64 0) := by
  refine ⟨?_, ?_, ?_, ?_, ?_⟩ <;> rw [cellOf h.hd] <;> rfl
theorem TD.ap {w W X w4 : World} {d : Nat} {ts us : List Tok} {n m : Nat} {sp sp' : Option Addr} {c c' : Nat} (h : TD w d ts (.slice sp n c) W) (hn : ts.length = n) (hm : us.length = m) (hX : Fr (fun _ => False) W X)
    (hown : OwnsWin w4 w.heap.size 35 5 (.slice sp' (n + m) c') (n + m) (tL ts ++ tL us)) (hgrow : X.grownBy w4 (Value.slice sp n c).ownBlock)
    (h3 : ∀ k, (Value.slice sp' (n + m) c').ownBlock = some k → (Value.slice sp n c).ownBlock = some k ∨ X.heap.size ≤ k) : TD w d (ts ++ us) (.slice sp' (n + m) c') w4 := by
  have hdX := hX.heap h.hd (by simp)
  refine ⟨TW.ap hn hm h.tw.fr (h.tw.own hn) hX hown hgrow, fun k hk => ?_, heapGrown hgrow hdX (fun e => h.dn d e.symm rfl)⟩
  rcases h3 k hk with e | e
  · exact h.dn k e
  · have := ltOf hdX
    omega
theorem TD.first {w : World} (s : ByteArray) : TD w (w.heap.size + 1) [idT s] (.slice (some ⟨w.heap.size, 0, none⟩) 1 1) ((w.alloc (.cells #[.int .i64 1, .string s, .int .i64 0, .bool false, .int .i64 0] 35)).alloc (.cells #[.int .i64 9, .string ⟨#[]⟩, .int .i64 0, .bool false, .int .i64 0] 35)) := by
  refine ⟨⟨⟨_, _, rfl, by simp [tL_len], .inr ⟨_, 0, 1, _, rfl, Nat.le_refl _, heapAlloc (heapNew w _), Nat.le_refl _, by unfold maxLen; omega, by simp, fun j u hj => by simpa [tL, tV, idT] using hj⟩⟩, ((Fr.refl _ w).alloc _).alloc _⟩, fun k hk => ?_, ?_⟩
  · simp [Value.ownBlock] at hk
    omega
  · have := heapNew (w.alloc (.cells #[.int .i64 1, .string s, .int .i64 0, .bool false, .int .i64 0] 35)) (.cells #[.int .i64 9, .string ⟨#[]⟩, .int .i64 0, .bool false, .int .i64 0] 35)
    rwa [World.size_alloc] at this

theorem dv_sizes {s : ByteArray} {v : List Tok} (b h i : Bool) (hs : s.size ≤ maxLen) (hv : ∀ x ∈ v, x.f1.size ≤ maxLen) : ∀ x ∈ dvT s v b h i, x.f1.size ≤ maxLen := by
  have e : ∀ t : Tok, t = coT ∨ t = wsT ∨ t = baT ∨ t = imT → t.f1.size ≤ maxLen := by
    rintro t (rfl | rfl | rfl | rfl) <;> (unfold maxLen; decide)
  have okb : ∀ (b : Bool) (t : Tok), t ∈ bw b → t.f1.size ≤ maxLen := by
    intro b t ht
    cases b
    · cases ht
    · rw [List.mem_singleton.1 ht]; exact e _ (.inr (.inl rfl))
  intro t ht
  unfold dvT at ht
  simp only [List.mem_append, List.mem_cons, List.not_mem_nil, or_false] at ht
  rcases ht with ((((rfl | ht) | rfl | rfl) | ht) | ht) | ht
  · exact hs
  · exact okb _ _ ht
  · exact e _ (.inl rfl)
  · exact e _ (.inr (.inl rfl))
  · exact hv t ht
  · exact okb _ _ ht
  · cases i
    · cases ht
    · have : t = baT ∨ t = wsT ∨ t = imT ∨ t = wsT := by simpa [tl1] using ht
      rcases this with rfl | rfl | rfl | rfl
      · exact e _ (.inr (.inr (.inl rfl)))
      · exact e _ (.inr (.inl rfl))
      · exact e _ (.inr (.inr (.inr rfl)))
      · exact e _ (.inr (.inl rfl))
/-- What the law lets in, of the token at j. -/
def Okt (n j : Nat) (t : Tok) : Prop := (t.f0 ≠ 12 ∧ t.f0 ≠ 14 ∧ t.f0 ≠ 16 ∧ t.f0 ≠ 18 ∧ t.f0 ≠ 20) ∧ (j = 0 → t.f0 ≠ 9) ∧ (j = n - 1 → t.f0 ≠ 9 ∧ t.f0 ≠ 1)
theorem Okt.step {ts : List Tok} {n k : Nat} {t : Tok} (h : ∀ j t, j < k → ts[j]? = some t → Okt n j t) (ht : ts[k]? = some t) (h2 : Okt n k t) : ∀ j t, j < k + 1 → ts[j]? = some t → Okt n j t := by
  intro j u hj hu
  rcases Nat.lt_or_ge j k with e | e
  · exact h j u e hu
  · obtain rfl : j = k := by omega
    rw [ht] at hu
    cases hu
    exact h2
theorem okv_of {ts : List Tok} {n : Nat} (hn : ts.length = n) (h : ∀ j t, j < n → ts[j]? = some t → Okt n j t) : OkV ts := by
  refine ⟨fun t ht => ?_, fun t ht => ?_, fun t ht => ?_⟩
  · obtain ⟨j, hj⟩ := List.mem_iff_getElem?.1 ht
    exact (h j t (by have := (List.getElem?_eq_some_iff.1 hj).1; omega) hj).1
  · rw [List.head?_eq_getElem?] at ht
    exact (h 0 t (by have := (List.getElem?_eq_some_iff.1 ht).1; omega) ht).2.1 rfl
  · rw [List.getLast?_eq_getElem?] at ht
    exact (h _ t (by have := (List.getElem?_eq_some_iff.1 ht).1; omega) ht).2.2 (by rw [hn])

set_option maxRecDepth 100000 in
set_option maxHeartbeats 8000000 in
theorem declValues_walk (s : ByteArray) (v : Value) (ts : List Tok) (bb bh bi : Bool) (w : World) (hs : s.size ≤ maxLen) (h : IsToks w v ts) :
    Calls Try.prog 13 #[.string s, v, .bool bb, .bool bh, .bool bi] w fun e w' => e = .returned (.bool true) ∧ Below w.heap.size w w' := by
  obtain ⟨p, c, rfl, h1, h2, h3⟩ := h
  refine Calls.mono (R := fun e w' => e = .returned (.bool true) ∧ Fr (fun _ => False) w w') ?_ (fun e w' ⟨he, f⟩ => ⟨he, f.below (Nat.le_refl _) (by simp)⟩)
  obtain ⟨i35, ha0, ha1, ha2, ha3⟩ := info_parts info35
  have H := Lib.hid h1
  have HC := Lib.hid h3
  unfold maxLen at h3 hs
  clear h1
  obtain ⟨n, hn⟩ : ∃ n, ts.length = n := ⟨_, rfl⟩
  rw [hn] at h2 ⊢
  go_enter Try.func13, Try.ntmps13
  go_wp2_with fail
  refine (dalive_any _).mono ?_
  rintro e w1 ⟨rfl, f1⟩
  have F1 := Lib.hid f1
  clear f1
  by_cases hb1 : 100 < n
  · have b1 : decide ((100 : Int) < (n : Int)) = true := decide_eq_true (by omega)
    go_wp2_with fail
    go_ret
    exact ⟨rfl, F1.out⟩

  have b1 : decide ((100 : Int) < (n : Int)) = false := decide_eq_false (by omega)
  by_cases hb2 : 100 < s.size
  · have b2 : decide ((100 : Int) < (s.size : Int)) = true := decide_eq_true (by omega)
    go_wp2_with fail
    go_ret
    exact ⟨rfl, F1.out⟩

  have b2 : decide ((100 : Int) < (s.size : Int)) = false := decide_eq_false (by omega)
  go_wp2_with fail
  go_loopw [12] (fun iv wr => ∃ (k : Nat), k ≤ n ∧ iv = .int .i64 k ∧ wr = w1 ∧ Hid (∀ j t, j < k → ts[j]? = some t → Okt n j t)) (fun iv _ => n - (intOf iv).toNat)
  case atStart => exact ⟨0, by omega, rfl, rfl, Lib.hid (fun j t h => by omega)⟩
  case round =>
    obtain ⟨k, hk, rfl, hw, HX⟩ := hrel
    subst hw
    by_cases hlt : k < n
    · have d0 : decide ((k : Int) < (n : Int)) = true := decide_eq_true (by omega)
      obtain ⟨t, ht⟩ : ∃ t, ts[k]? = some t := ⟨ts[k]'(by omega), List.getElem?_eq_getElem _⟩
      obtain ⟨hz, b1, o1, rfl, _, x0, x1, -, -, -⟩ := (H.out.fr F1.out).at_ ht
      have HTT := Lib.hid ht
      unfold maxLen at hz
      have i1 : (k : Int) < (n : Int) := by omega
      clear ht
      by_cases h12 : t.f0 = 12
      · have q1 : (t.f0 == 12) = true := by simp [h12]
        go_wp2_with fail
        go_ret
        exact ⟨rfl, F1.out⟩

      have q1 : (t.f0 == 12) = false := by simp [h12]
      by_cases h14 : t.f0 = 14
      · have q2 : (t.f0 == 14) = true := by simp [h14]
        go_wp2_with fail
        go_ret
        exact ⟨rfl, F1.out⟩

      have q2 : (t.f0 == 14) = false := by simp [h14]
      by_cases h16 : t.f0 = 16
      · have q3 : (t.f0 == 16) = true := by simp [h16]
        go_wp2_with fail
        go_ret
        exact ⟨rfl, F1.out⟩

      have q3 : (t.f0 == 16) = false := by simp [h16]
      by_cases h18 : t.f0 = 18
      · have q4 : (t.f0 == 18) = true := by simp [h18]
        go_wp2_with fail
        go_ret
        exact ⟨rfl, F1.out⟩

      have q4 : (t.f0 == 18) = false := by simp [h18]
      by_cases h20 : t.f0 = 20
      · have q5 : (t.f0 == 20) = true := by simp [h20]
        go_wp2_with fail
        go_ret
        exact ⟨rfl, F1.out⟩

      have q5 : (t.f0 == 20) = false := by simp [h20]
      have s1 : (n : Int) - 1 = ((n - 1 : Nat) : Int) := by omega
      by_cases h9 : t.f0 = 9
      · have q6 : (t.f0 == 9) = true := by simp [h9]
        have q8 : (t.f0 == 1) = false := by simp [h9]
        by_cases hk0 : k = 0
        · have r0 : ((k : Int) == 0) = true := by simp [hk0]
          clear hk0
          go_wp2_with fail
          go_ret
          exact ⟨rfl, F1.out⟩

        have r0 : ((k : Int) == 0) = false := by rw [beq_eq_false_iff_ne]; omega
        by_cases hkn : k = n - 1
        · have r1 : ((k : Int) == ((n - 1 : Nat) : Int)) = true := by simp [hkn]
          clear hkn
          go_wp2_with fail
          go_ret
          exact ⟨rfl, F1.out⟩

        have r1 : ((k : Int) == ((n - 1 : Nat) : Int)) = false := by rw [beq_eq_false_iff_ne]; omega
        by_cases hs1 : 100 < t.f1.size
        · have r2 : decide ((100 : Int) < (t.f1.size : Int)) = true := decide_eq_true (by omega)
          go_wp2_with fail
          go_ret
          exact ⟨rfl, F1.out⟩

        have r2 : decide ((100 : Int) < (t.f1.size : Int)) = false := decide_eq_false (by omega)
        have HX2 := Lib.hid (show ∀ j t, j < k + 1 → ts[j]? = some t → Okt n j t from Okt.step HX.out HTT.out ⟨by simp [h12, h14, h16, h18, h20], by omega, fun h => by omega⟩)
        clear h9 h12 h14 h16 h18 h20 HX
        go_wp2_with fail
        go_roundw
        case rel => exact ⟨k + 1, by omega, by go_num, trivial, HX2⟩
        case measure => simp [intOf]; omega
      · have q6 : (t.f0 == 9) = false := by simp [h9]
        by_cases hkn : k = n - 1
        · have r1 : ((k : Int) == ((n - 1 : Nat) : Int)) = true := by simp [hkn]
          have HKN := Lib.hid hkn
          clear hkn
          by_cases h1 : t.f0 = 1
          · have q8 : (t.f0 == 1) = true := by simp [h1]
            go_wp2_with fail
            go_ret
            exact ⟨rfl, F1.out⟩

          have q8 : (t.f0 == 1) = false := by simp [h1]
          by_cases hs1 : 100 < t.f1.size
          · have r2 : decide ((100 : Int) < (t.f1.size : Int)) = true := decide_eq_true (by omega)
            go_wp2_with fail
            go_ret
            exact ⟨rfl, F1.out⟩

          have r2 : decide ((100 : Int) < (t.f1.size : Int)) = false := decide_eq_false (by omega)
          have HX2 := Lib.hid (show ∀ j t, j < k + 1 → ts[j]? = some t → Okt n j t from Okt.step HX.out HTT.out ⟨by simp [h12, h14, h16, h18, h20], fun _ => h9, fun _ => ⟨h9, h1⟩⟩)
          clear h9 h12 h14 h16 h18 h20 HX h1
          go_wp2_with fail
          go_roundw
          case rel => exact ⟨k + 1, by omega, by go_num, trivial, HX2⟩
          case measure => simp [intOf]; omega
        · have r1 : ((k : Int) == ((n - 1 : Nat) : Int)) = false := by rw [beq_eq_false_iff_ne]; omega
          by_cases hs1 : 100 < t.f1.size
          · have r2 : decide ((100 : Int) < (t.f1.size : Int)) = true := decide_eq_true (by omega)
            go_wp2_with fail
            go_ret
            exact ⟨rfl, F1.out⟩

          have r2 : decide ((100 : Int) < (t.f1.size : Int)) = false := decide_eq_false (by omega)
          have HX2 := Lib.hid (show ∀ j t, j < k + 1 → ts[j]? = some t → Okt n j t from Okt.step HX.out HTT.out ⟨by simp [h12, h14, h16, h18, h20], fun _ => h9, fun h => by omega⟩)
          clear h9 h12 h14 h16 h18 h20 HX
          go_wp2_with fail
          go_roundw
          case rel => exact ⟨k + 1, by omega, by go_num, trivial, HX2⟩
          case measure => simp [intOf]; omega
    · obtain rfl : k = n := by omega
      have d0 : decide ((k : Int) < (k : Int)) = false := by simp
      have HOV := Lib.hid (okv_of hn HX.out)
      clear HX
      have HZ := Lib.hid H.out.sizes
      have SV := Lib.hid (show ∀ W, Fr (fun _ => False) wr W → SrcW W 5 p k (tL ts) from fun W f => by have := ((H.out.fr F1.out).fr f).src; rw [hn] at this; exact this)
      go_upto_region 12 with fail
      have T1 := Lib.hid (TD.first (w := wr) s)
      have F2 := Lib.hid F1.out
      have hl1 : [idT s].length = 1 := rfl
      obtain ⟨e0, e1, e2, e3, e4⟩ := T1.out.cells
      generalize (wr.alloc (.cells #[.int .i64 1, .string s, .int .i64 0, .bool false, .int .i64 0] 35)).alloc (.cells #[.int .i64 9, .string ⟨#[]⟩, .int .i64 0, .bool false, .int .i64 0] 35) = w2 at *
      cases bb with
      | false =>
        cases bh with
        | false =>
          cases bi with
          | false =>
            have DD : ∀ l, l = dvT s ts false false false → decV l 0 = [⟨lowS s, ts, false⟩] := fun l e => by rw [e]; exact dec_dv s HOV.out _ _ _
            have DS : ∀ l, l = dvT s ts false false false → ∀ x ∈ l, x.f1.size ≤ maxLen := fun l e => by rw [e]; exact dv_sizes _ _ _ (by unfold maxLen; omega) HZ.out
            have DD := Lib.hid DD
            have DS := Lib.hid DS
            go_upto_region 21 with (first
              | (at_builtin; refine wpList_append_src _ rfl (.tmp 104) (.tmp 107) 22 rfl wr.heap.size 35 i35 _ 5 48 Try.underlying22 ha0 ha1 ha2 ha3 rfl (by omega) (.slice (some ⟨wr.heap.size, 0, none⟩) (1) 1) (1) (tL ([idT s])) rfl ((T1.out.tw.own hl1).fr ((Fr.refl (fun _ => False) _).alloc _) (by simp)) (some ⟨_, 0, none⟩) 2 _ ([.int .i64 11, .string ⟨#[]⟩, .int .i64 0, .bool false, .int .i64 0, .int .i64 9, .string ⟨#[]⟩, .int .i64 0, .bool false, .int .i64 0]) rfl (SrcW.lit (heapNew _ _) rfl) (by simp [Value.oneCell']) (by unfold maxLen; omega) (by omega) (by rw [World.size_alloc]; exact Nat.le_succ_of_le T1.out.tw.fr.size) ?_; intro s2 c2 w2_ hown hgrow h3; have T2 := Lib.hid (show TD wr (wr.heap.size + 1) ([idT s] ++ [coT, wsT]) (.slice s2 (1 + 2) c2) w2_ from TD.ap (us := [coT, wsT]) T1.out hl1 rfl ((Fr.refl _ _).alloc _) hown hgrow h3); have hl2 : ([idT s] ++ [coT, wsT]).length = 1 + 2 := (by simp only [List.length_append, List.length_cons, List.length_nil, hn] <;> omega); clear hown hgrow h3; clear e0 e1 e2 e3 e4; obtain ⟨e0, e1, e2, e3, e4⟩ := T2.out.cells)
              | (at_builtin; refine wpList_append_src _ rfl (.tmp 109) (.tmp 110) 22 rfl wr.heap.size 35 i35 _ 5 48 Try.underlying22 ha0 ha1 ha2 ha3 rfl (by omega) (.slice s2 (1 + 2) c2) (1 + 2) (tL ([idT s] ++ [coT, wsT])) rfl (T2.out.tw.own hl2) p k _ (tL ts) rfl (SV.out _ T2.out.tw.fr) (tL_one_cell _) (by unfold maxLen; omega) (by omega) T2.out.tw.fr.size ?_; intro s3 c3 w3_ hown hgrow h3; have T3 := Lib.hid (show TD wr (wr.heap.size + 1) ([idT s] ++ [coT, wsT] ++ ts) (.slice s3 (1 + 2 + k) c3) w3_ from TD.ap (us := ts) T2.out hl2 hn (Fr.refl _ _) hown hgrow h3); have hl3 : ([idT s] ++ [coT, wsT] ++ ts).length = 1 + 2 + k := (by simp only [List.length_append, List.length_cons, List.length_nil, hn] <;> omega); clear hown hgrow h3; clear e0 e1 e2 e3 e4; obtain ⟨e0, e1, e2, e3, e4⟩ := T3.out.cells)
              | (go_at_call 27; refine (dparse_own T3.out.tw hl3 (DS.out _ (by simp [dvT, bw, tl1])) (by omega)).mono ?_; rintro e w8 ⟨v8, rfl, h8⟩; rw [DD.out _ (by simp [dvT, bw, tl1])] at h8; have F8 := Lib.hid (F2.out.trans (Fr.trans (by have := T3.out.tw.fr; exact this) h8.fr)); obtain ⟨p8, c8, rfl, r8⟩ := h8.rd; have R8 := Lib.hid r8; clear h8 r8))
            obtain ⟨g8, o8, a8, d8, rfl, _, x0, x1, x2, r1⟩ := R8.out 0 _ rfl
            have P30 := Lib.hid (show ∀ W, Calls Try.prog 30 #[.string s] W fun e w' => e = .returned (.string (lowS s)) ∧ Fr (fun _ => False) W w' from fun W => RLower_any s W (by unfold maxLen; omega))
            have P20 := Lib.hid (show ∀ W, Fr (fun _ => False) w8 W → Calls Try.prog 20 #[.slice a8 k d8, .slice p k c] W fun e w' => e = .returned (.bool true) ∧ Fr (fun _ => False) W w' from fun W f => by
              have := (sameT_any a8 p d8 c ts W (r1.fr f) (H.out.fr (F8.out.trans f)) (by omega)).mono (R' := fun e w' => e = .returned (.bool true) ∧ Fr (fun _ => False) W w') fun e w' ⟨h, n, h2⟩ => ⟨h, by rw [h2]; exact ⟨rfl, rfl, rfl, Nat.le_refl _, fun _ _ _ => rfl⟩⟩
              rw [hn] at this
              exact this)
            simp only [List.length_cons, List.length_nil, Nat.zero_mul, Nat.add_zero, Nat.zero_add, hn] at x0 x1 x2 ⊢
            have u0 := FrW.cell x0
            have u1 := FrW.cell x1
            have u2 := FrW.cell x2
            have y1 : ((lowS s).toList == (lowS s).toList) = true := by simp
            clear x0 x1 x2 r1 e0 e1 e2 e3 e4
            refine wp_region_fr (by kernel_rfl) (by kernel_rfl) ?_
            repeat (go_big_quiet_step (first
              | (go_at_call 30; with_reducible exact Calls.fr_of _ (P30.out _))
              | (go_at_call 20; with_reducible exact Calls.fr_of _ (P20.out _ (FrW.fr _)))))
            refine wpQuiet_nil ?_
            rintro _ ⟨nq, rfl⟩
            have GC := nq.fr
            go_wp2_with fail
            go_ret
            exact ⟨rfl, F8.out.trans GC⟩
          | true =>
            have DD : ∀ l, l = dvT s ts false false true → decV l 0 = [⟨lowS s, ts, true⟩] := fun l e => by rw [e]; exact dec_dv s HOV.out _ _ _
            have DS : ∀ l, l = dvT s ts false false true → ∀ x ∈ l, x.f1.size ≤ maxLen := fun l e => by rw [e]; exact dv_sizes _ _ _ (by unfold maxLen; omega) HZ.out
            have DD := Lib.hid DD
            have DS := Lib.hid DS
            go_upto_region 21 with (first
              | (at_builtin; refine wpList_append_src _ rfl (.tmp 104) (.tmp 107) 22 rfl wr.heap.size 35 i35 _ 5 48 Try.underlying22 ha0 ha1 ha2 ha3 rfl (by omega) (.slice (some ⟨wr.heap.size, 0, none⟩) (1) 1) (1) (tL ([idT s])) rfl ((T1.out.tw.own hl1).fr ((Fr.refl (fun _ => False) _).alloc _) (by simp)) (some ⟨_, 0, none⟩) 2 _ ([.int .i64 11, .string ⟨#[]⟩, .int .i64 0, .bool false, .int .i64 0, .int .i64 9, .string ⟨#[]⟩, .int .i64 0, .bool false, .int .i64 0]) rfl (SrcW.lit (heapNew _ _) rfl) (by simp [Value.oneCell']) (by unfold maxLen; omega) (by omega) (by rw [World.size_alloc]; exact Nat.le_succ_of_le T1.out.tw.fr.size) ?_; intro s2 c2 w2_ hown hgrow h3; have T2 := Lib.hid (show TD wr (wr.heap.size + 1) ([idT s] ++ [coT, wsT]) (.slice s2 (1 + 2) c2) w2_ from TD.ap (us := [coT, wsT]) T1.out hl1 rfl ((Fr.refl _ _).alloc _) hown hgrow h3); have hl2 : ([idT s] ++ [coT, wsT]).length = 1 + 2 := (by simp only [List.length_append, List.length_cons, List.length_nil, hn] <;> omega); clear hown hgrow h3; clear e0 e1 e2 e3 e4; obtain ⟨e0, e1, e2, e3, e4⟩ := T2.out.cells)
              | (at_builtin; refine wpList_append_src _ rfl (.tmp 109) (.tmp 110) 22 rfl wr.heap.size 35 i35 _ 5 48 Try.underlying22 ha0 ha1 ha2 ha3 rfl (by omega) (.slice s2 (1 + 2) c2) (1 + 2) (tL ([idT s] ++ [coT, wsT])) rfl (T2.out.tw.own hl2) p k _ (tL ts) rfl (SV.out _ T2.out.tw.fr) (tL_one_cell _) (by unfold maxLen; omega) (by omega) T2.out.tw.fr.size ?_; intro s3 c3 w3_ hown hgrow h3; have T3 := Lib.hid (show TD wr (wr.heap.size + 1) ([idT s] ++ [coT, wsT] ++ ts) (.slice s3 (1 + 2 + k) c3) w3_ from TD.ap (us := ts) T2.out hl2 hn (Fr.refl _ _) hown hgrow h3); have hl3 : ([idT s] ++ [coT, wsT] ++ ts).length = 1 + 2 + k := (by simp only [List.length_append, List.length_cons, List.length_nil, hn] <;> omega); clear hown hgrow h3; clear e0 e1 e2 e3 e4; obtain ⟨e0, e1, e2, e3, e4⟩ := T3.out.cells)
              | (at_builtin; refine wpList_append_src _ rfl (.tmp 118) (.tmp 123) 22 rfl wr.heap.size 35 i35 _ 5 48 Try.underlying22 ha0 ha1 ha2 ha3 rfl (by omega) (.slice s3 (1 + 2 + k) c3) (1 + 2 + k) (tL ([idT s] ++ [coT, wsT] ++ ts)) rfl ((T3.out.tw.own hl3).fr ((Fr.refl (fun _ => False) _).alloc _) (by simp)) (some ⟨_, 0, none⟩) 4 _ ([.int .i64 10, .string ⟨#[]⟩, .int .i64 0, .bool false, .int .i64 33, .int .i64 9, .string ⟨#[]⟩, .int .i64 0, .bool false, .int .i64 0, .int .i64 1, .string ⟨#[73, 109, 112, 111, 114, 116, 97, 110, 84]⟩, .int .i64 0, .bool false, .int .i64 0, .int .i64 9, .string ⟨#[]⟩, .int .i64 0, .bool false, .int .i64 0]) rfl (SrcW.lit (heapNew _ _) rfl) (by simp [Value.oneCell']) (by unfold maxLen; omega) (by omega) (by rw [World.size_alloc]; exact Nat.le_succ_of_le T3.out.tw.fr.size) ?_; intro s4 c4 w4_ hown hgrow h3; have T4 := Lib.hid (show TD wr (wr.heap.size + 1) ([idT s] ++ [coT, wsT] ++ ts ++ [baT, wsT, imT, wsT]) (.slice s4 (1 + 2 + k + 4) c4) w4_ from TD.ap (us := [baT, wsT, imT, wsT]) T3.out hl3 rfl ((Fr.refl _ _).alloc _) hown hgrow h3); have hl4 : ([idT s] ++ [coT, wsT] ++ ts ++ [baT, wsT, imT, wsT]).length = 1 + 2 + k + 4 := (by simp only [List.length_append, List.length_cons, List.length_nil, hn] <;> omega); clear hown hgrow h3; clear e0 e1 e2 e3 e4; obtain ⟨e0, e1, e2, e3, e4⟩ := T4.out.cells)
              | (go_at_call 27; refine (dparse_own T4.out.tw hl4 (DS.out _ (by simp [dvT, bw, tl1])) (by omega)).mono ?_; rintro e w8 ⟨v8, rfl, h8⟩; rw [DD.out _ (by simp [dvT, bw, tl1])] at h8; have F8 := Lib.hid (F2.out.trans (Fr.trans (by have := T4.out.tw.fr; exact this) h8.fr)); obtain ⟨p8, c8, rfl, r8⟩ := h8.rd; have R8 := Lib.hid r8; clear h8 r8))
            obtain ⟨g8, o8, a8, d8, rfl, _, x0, x1, x2, r1⟩ := R8.out 0 _ rfl
            have P30 := Lib.hid (show ∀ W, Calls Try.prog 30 #[.string s] W fun e w' => e = .returned (.string (lowS s)) ∧ Fr (fun _ => False) W w' from fun W => RLower_any s W (by unfold maxLen; omega))
            have P20 := Lib.hid (show ∀ W, Fr (fun _ => False) w8 W → Calls Try.prog 20 #[.slice a8 k d8, .slice p k c] W fun e w' => e = .returned (.bool true) ∧ Fr (fun _ => False) W w' from fun W f => by
              have := (sameT_any a8 p d8 c ts W (r1.fr f) (H.out.fr (F8.out.trans f)) (by omega)).mono (R' := fun e w' => e = .returned (.bool true) ∧ Fr (fun _ => False) W w') fun e w' ⟨h, n, h2⟩ => ⟨h, by rw [h2]; exact ⟨rfl, rfl, rfl, Nat.le_refl _, fun _ _ _ => rfl⟩⟩
              rw [hn] at this
              exact this)
            simp only [List.length_cons, List.length_nil, Nat.zero_mul, Nat.add_zero, Nat.zero_add, hn] at x0 x1 x2 ⊢
            have u0 := FrW.cell x0
            have u1 := FrW.cell x1
            have u2 := FrW.cell x2
            have y1 : ((lowS s).toList == (lowS s).toList) = true := by simp
            clear x0 x1 x2 r1 e0 e1 e2 e3 e4
            refine wp_region_fr (by kernel_rfl) (by kernel_rfl) ?_
            repeat (go_big_quiet_step (first
              | (go_at_call 30; with_reducible exact Calls.fr_of _ (P30.out _))
              | (go_at_call 20; with_reducible exact Calls.fr_of _ (P20.out _ (FrW.fr _)))))
            refine wpQuiet_nil ?_
            rintro _ ⟨nq, rfl⟩
            have GC := nq.fr
            go_wp2_with fail
            go_ret
            exact ⟨rfl, F8.out.trans GC⟩
        | true =>
          cases bi with
          | false =>
            have DD : ∀ l, l = dvT s ts false true false → decV l 0 = [⟨lowS s, ts, false⟩] := fun l e => by rw [e]; exact dec_dv s HOV.out _ _ _
            have DS : ∀ l, l = dvT s ts false true false → ∀ x ∈ l, x.f1.size ≤ maxLen := fun l e => by rw [e]; exact dv_sizes _ _ _ (by unfold maxLen; omega) HZ.out
            have DD := Lib.hid DD
            have DS := Lib.hid DS
            go_upto_region 21 with (first
              | (at_builtin; refine wpList_append_src _ rfl (.tmp 104) (.tmp 107) 22 rfl wr.heap.size 35 i35 _ 5 48 Try.underlying22 ha0 ha1 ha2 ha3 rfl (by omega) (.slice (some ⟨wr.heap.size, 0, none⟩) (1) 1) (1) (tL ([idT s])) rfl ((T1.out.tw.own hl1).fr ((Fr.refl (fun _ => False) _).alloc _) (by simp)) (some ⟨_, 0, none⟩) 2 _ ([.int .i64 11, .string ⟨#[]⟩, .int .i64 0, .bool false, .int .i64 0, .int .i64 9, .string ⟨#[]⟩, .int .i64 0, .bool false, .int .i64 0]) rfl (SrcW.lit (heapNew _ _) rfl) (by simp [Value.oneCell']) (by unfold maxLen; omega) (by omega) (by rw [World.size_alloc]; exact Nat.le_succ_of_le T1.out.tw.fr.size) ?_; intro s2 c2 w2_ hown hgrow h3; have T2 := Lib.hid (show TD wr (wr.heap.size + 1) ([idT s] ++ [coT, wsT]) (.slice s2 (1 + 2) c2) w2_ from TD.ap (us := [coT, wsT]) T1.out hl1 rfl ((Fr.refl _ _).alloc _) hown hgrow h3); have hl2 : ([idT s] ++ [coT, wsT]).length = 1 + 2 := (by simp only [List.length_append, List.length_cons, List.length_nil, hn] <;> omega); clear hown hgrow h3; clear e0 e1 e2 e3 e4; obtain ⟨e0, e1, e2, e3, e4⟩ := T2.out.cells)
              | (at_builtin; refine wpList_append_src _ rfl (.tmp 109) (.tmp 110) 22 rfl wr.heap.size 35 i35 _ 5 48 Try.underlying22 ha0 ha1 ha2 ha3 rfl (by omega) (.slice s2 (1 + 2) c2) (1 + 2) (tL ([idT s] ++ [coT, wsT])) rfl (T2.out.tw.own hl2) p k _ (tL ts) rfl (SV.out _ T2.out.tw.fr) (tL_one_cell _) (by unfold maxLen; omega) (by omega) T2.out.tw.fr.size ?_; intro s3 c3 w3_ hown hgrow h3; have T3 := Lib.hid (show TD wr (wr.heap.size + 1) ([idT s] ++ [coT, wsT] ++ ts) (.slice s3 (1 + 2 + k) c3) w3_ from TD.ap (us := ts) T2.out hl2 hn (Fr.refl _ _) hown hgrow h3); have hl3 : ([idT s] ++ [coT, wsT] ++ ts).length = 1 + 2 + k := (by simp only [List.length_append, List.length_cons, List.length_nil, hn] <;> omega); clear hown hgrow h3; clear e0 e1 e2 e3 e4; obtain ⟨e0, e1, e2, e3, e4⟩ := T3.out.cells)
              | (at_builtin; refine wpList_append_src _ rfl (.tmp 113) (.tmp 115) 22 rfl wr.heap.size 35 i35 _ 5 48 Try.underlying22 ha0 ha1 ha2 ha3 rfl (by omega) (.slice s3 (1 + 2 + k) c3) (1 + 2 + k) (tL ([idT s] ++ [coT, wsT] ++ ts)) rfl ((T3.out.tw.own hl3).fr ((Fr.refl (fun _ => False) _).alloc _) (by simp)) (some ⟨_, 0, none⟩) 1 _ ([.int .i64 9, .string ⟨#[]⟩, .int .i64 0, .bool false, .int .i64 0]) rfl (SrcW.lit (heapNew _ _) rfl) (by simp [Value.oneCell']) (by unfold maxLen; omega) (by omega) (by rw [World.size_alloc]; exact Nat.le_succ_of_le T3.out.tw.fr.size) ?_; intro s4 c4 w4_ hown hgrow h3; have T4 := Lib.hid (show TD wr (wr.heap.size + 1) ([idT s] ++ [coT, wsT] ++ ts ++ [wsT]) (.slice s4 (1 + 2 + k + 1) c4) w4_ from TD.ap (us := [wsT]) T3.out hl3 rfl ((Fr.refl _ _).alloc _) hown hgrow h3); have hl4 : ([idT s] ++ [coT, wsT] ++ ts ++ [wsT]).length = 1 + 2 + k + 1 := (by simp only [List.length_append, List.length_cons, List.length_nil, hn] <;> omega); clear hown hgrow h3; clear e0 e1 e2 e3 e4; obtain ⟨e0, e1, e2, e3, e4⟩ := T4.out.cells)
              | (go_at_call 27; refine (dparse_own T4.out.tw hl4 (DS.out _ (by simp [dvT, bw, tl1])) (by omega)).mono ?_; rintro e w8 ⟨v8, rfl, h8⟩; rw [DD.out _ (by simp [dvT, bw, tl1])] at h8; have F8 := Lib.hid (F2.out.trans (Fr.trans (by have := T4.out.tw.fr; exact this) h8.fr)); obtain ⟨p8, c8, rfl, r8⟩ := h8.rd; have R8 := Lib.hid r8; clear h8 r8))
            obtain ⟨g8, o8, a8, d8, rfl, _, x0, x1, x2, r1⟩ := R8.out 0 _ rfl
            have P30 := Lib.hid (show ∀ W, Calls Try.prog 30 #[.string s] W fun e w' => e = .returned (.string (lowS s)) ∧ Fr (fun _ => False) W w' from fun W => RLower_any s W (by unfold maxLen; omega))
            have P20 := Lib.hid (show ∀ W, Fr (fun _ => False) w8 W → Calls Try.prog 20 #[.slice a8 k d8, .slice p k c] W fun e w' => e = .returned (.bool true) ∧ Fr (fun _ => False) W w' from fun W f => by
              have := (sameT_any a8 p d8 c ts W (r1.fr f) (H.out.fr (F8.out.trans f)) (by omega)).mono (R' := fun e w' => e = .returned (.bool true) ∧ Fr (fun _ => False) W w') fun e w' ⟨h, n, h2⟩ => ⟨h, by rw [h2]; exact ⟨rfl, rfl, rfl, Nat.le_refl _, fun _ _ _ => rfl⟩⟩
              rw [hn] at this
              exact this)
            simp only [List.length_cons, List.length_nil, Nat.zero_mul, Nat.add_zero, Nat.zero_add, hn] at x0 x1 x2 ⊢
            have u0 := FrW.cell x0
            have u1 := FrW.cell x1
            have u2 := FrW.cell x2
            have y1 : ((lowS s).toList == (lowS s).toList) = true := by simp
            clear x0 x1 x2 r1 e0 e1 e2 e3 e4
            refine wp_region_fr (by kernel_rfl) (by kernel_rfl) ?_
            repeat (go_big_quiet_step (first
              | (go_at_call 30; with_reducible exact Calls.fr_of _ (P30.out _))
              | (go_at_call 20; with_reducible exact Calls.fr_of _ (P20.out _ (FrW.fr _)))))
            refine wpQuiet_nil ?_
            rintro _ ⟨nq, rfl⟩
            have GC := nq.fr
            go_wp2_with fail
            go_ret
            exact ⟨rfl, F8.out.trans GC⟩
          | true =>
            have DD : ∀ l, l = dvT s ts false true true → decV l 0 = [⟨lowS s, ts, true⟩] := fun l e => by rw [e]; exact dec_dv s HOV.out _ _ _
            have DS : ∀ l, l = dvT s ts false true true → ∀ x ∈ l, x.f1.size ≤ maxLen := fun l e => by rw [e]; exact dv_sizes _ _ _ (by unfold maxLen; omega) HZ.out
            have DD := Lib.hid DD
            have DS := Lib.hid DS
            go_upto_region 21 with (first
              | (at_builtin; refine wpList_append_src _ rfl (.tmp 104) (.tmp 107) 22 rfl wr.heap.size 35 i35 _ 5 48 Try.underlying22 ha0 ha1 ha2 ha3 rfl (by omega) (.slice (some ⟨wr.heap.size, 0, none⟩) (1) 1) (1) (tL ([idT s])) rfl ((T1.out.tw.own hl1).fr ((Fr.refl (fun _ => False) _).alloc _) (by simp)) (some ⟨_, 0, none⟩) 2 _ ([.int .i64 11, .string ⟨#[]⟩, .int .i64 0, .bool false, .int .i64 0, .int .i64 9, .string ⟨#[]⟩, .int .i64 0, .bool false, .int .i64 0]) rfl (SrcW.lit (heapNew _ _) rfl) (by simp [Value.oneCell']) (by unfold maxLen; omega) (by omega) (by rw [World.size_alloc]; exact Nat.le_succ_of_le T1.out.tw.fr.size) ?_; intro s2 c2 w2_ hown hgrow h3; have T2 := Lib.hid (show TD wr (wr.heap.size + 1) ([idT s] ++ [coT, wsT]) (.slice s2 (1 + 2) c2) w2_ from TD.ap (us := [coT, wsT]) T1.out hl1 rfl ((Fr.refl _ _).alloc _) hown hgrow h3); have hl2 : ([idT s] ++ [coT, wsT]).length = 1 + 2 := (by simp only [List.length_append, List.length_cons, List.length_nil, hn] <;> omega); clear hown hgrow h3; clear e0 e1 e2 e3 e4; obtain ⟨e0, e1, e2, e3, e4⟩ := T2.out.cells)
              | (at_builtin; refine wpList_append_src _ rfl (.tmp 109) (.tmp 110) 22 rfl wr.heap.size 35 i35 _ 5 48 Try.underlying22 ha0 ha1 ha2 ha3 rfl (by omega) (.slice s2 (1 + 2) c2) (1 + 2) (tL ([idT s] ++ [coT, wsT])) rfl (T2.out.tw.own hl2) p k _ (tL ts) rfl (SV.out _ T2.out.tw.fr) (tL_one_cell _) (by unfold maxLen; omega) (by omega) T2.out.tw.fr.size ?_; intro s3 c3 w3_ hown hgrow h3; have T3 := Lib.hid (show TD wr (wr.heap.size + 1) ([idT s] ++ [coT, wsT] ++ ts) (.slice s3 (1 + 2 + k) c3) w3_ from TD.ap (us := ts) T2.out hl2 hn (Fr.refl _ _) hown hgrow h3); have hl3 : ([idT s] ++ [coT, wsT] ++ ts).length = 1 + 2 + k := (by simp only [List.length_append, List.length_cons, List.length_nil, hn] <;> omega); clear hown hgrow h3; clear e0 e1 e2 e3 e4; obtain ⟨e0, e1, e2, e3, e4⟩ := T3.out.cells)
              | (at_builtin; refine wpList_append_src _ rfl (.tmp 113) (.tmp 115) 22 rfl wr.heap.size 35 i35 _ 5 48 Try.underlying22 ha0 ha1 ha2 ha3 rfl (by omega) (.slice s3 (1 + 2 + k) c3) (1 + 2 + k) (tL ([idT s] ++ [coT, wsT] ++ ts)) rfl ((T3.out.tw.own hl3).fr ((Fr.refl (fun _ => False) _).alloc _) (by simp)) (some ⟨_, 0, none⟩) 1 _ ([.int .i64 9, .string ⟨#[]⟩, .int .i64 0, .bool false, .int .i64 0]) rfl (SrcW.lit (heapNew _ _) rfl) (by simp [Value.oneCell']) (by unfold maxLen; omega) (by omega) (by rw [World.size_alloc]; exact Nat.le_succ_of_le T3.out.tw.fr.size) ?_; intro s4 c4 w4_ hown hgrow h3; have T4 := Lib.hid (show TD wr (wr.heap.size + 1) ([idT s] ++ [coT, wsT] ++ ts ++ [wsT]) (.slice s4 (1 + 2 + k + 1) c4) w4_ from TD.ap (us := [wsT]) T3.out hl3 rfl ((Fr.refl _ _).alloc _) hown hgrow h3); have hl4 : ([idT s] ++ [coT, wsT] ++ ts ++ [wsT]).length = 1 + 2 + k + 1 := (by simp only [List.length_append, List.length_cons, List.length_nil, hn] <;> omega); clear hown hgrow h3; clear e0 e1 e2 e3 e4; obtain ⟨e0, e1, e2, e3, e4⟩ := T4.out.cells)
              | (at_builtin; refine wpList_append_src _ rfl (.tmp 118) (.tmp 123) 22 rfl wr.heap.size 35 i35 _ 5 48 Try.underlying22 ha0 ha1 ha2 ha3 rfl (by omega) (.slice s4 (1 + 2 + k + 1) c4) (1 + 2 + k + 1) (tL ([idT s] ++ [coT, wsT] ++ ts ++ [wsT])) rfl ((T4.out.tw.own hl4).fr ((Fr.refl (fun _ => False) _).alloc _) (by simp)) (some ⟨_, 0, none⟩) 4 _ ([.int .i64 10, .string ⟨#[]⟩, .int .i64 0, .bool false, .int .i64 33, .int .i64 9, .string ⟨#[]⟩, .int .i64 0, .bool false, .int .i64 0, .int .i64 1, .string ⟨#[73, 109, 112, 111, 114, 116, 97, 110, 84]⟩, .int .i64 0, .bool false, .int .i64 0, .int .i64 9, .string ⟨#[]⟩, .int .i64 0, .bool false, .int .i64 0]) rfl (SrcW.lit (heapNew _ _) rfl) (by simp [Value.oneCell']) (by unfold maxLen; omega) (by omega) (by rw [World.size_alloc]; exact Nat.le_succ_of_le T4.out.tw.fr.size) ?_; intro s5 c5 w5_ hown hgrow h3; have T5 := Lib.hid (show TD wr (wr.heap.size + 1) ([idT s] ++ [coT, wsT] ++ ts ++ [wsT] ++ [baT, wsT, imT, wsT]) (.slice s5 (1 + 2 + k + 1 + 4) c5) w5_ from TD.ap (us := [baT, wsT, imT, wsT]) T4.out hl4 rfl ((Fr.refl _ _).alloc _) hown hgrow h3); have hl5 : ([idT s] ++ [coT, wsT] ++ ts ++ [wsT] ++ [baT, wsT, imT, wsT]).length = 1 + 2 + k + 1 + 4 := (by simp only [List.length_append, List.length_cons, List.length_nil, hn] <;> omega); clear hown hgrow h3; clear e0 e1 e2 e3 e4; obtain ⟨e0, e1, e2, e3, e4⟩ := T5.out.cells)
              | (go_at_call 27; refine (dparse_own T5.out.tw hl5 (DS.out _ (by simp [dvT, bw, tl1])) (by omega)).mono ?_; rintro e w8 ⟨v8, rfl, h8⟩; rw [DD.out _ (by simp [dvT, bw, tl1])] at h8; have F8 := Lib.hid (F2.out.trans (Fr.trans (by have := T5.out.tw.fr; exact this) h8.fr)); obtain ⟨p8, c8, rfl, r8⟩ := h8.rd; have R8 := Lib.hid r8; clear h8 r8))
            obtain ⟨g8, o8, a8, d8, rfl, _, x0, x1, x2, r1⟩ := R8.out 0 _ rfl
            have P30 := Lib.hid (show ∀ W, Calls Try.prog 30 #[.string s] W fun e w' => e = .returned (.string (lowS s)) ∧ Fr (fun _ => False) W w' from fun W => RLower_any s W (by unfold maxLen; omega))
            have P20 := Lib.hid (show ∀ W, Fr (fun _ => False) w8 W → Calls Try.prog 20 #[.slice a8 k d8, .slice p k c] W fun e w' => e = .returned (.bool true) ∧ Fr (fun _ => False) W w' from fun W f => by
              have := (sameT_any a8 p d8 c ts W (r1.fr f) (H.out.fr (F8.out.trans f)) (by omega)).mono (R' := fun e w' => e = .returned (.bool true) ∧ Fr (fun _ => False) W w') fun e w' ⟨h, n, h2⟩ => ⟨h, by rw [h2]; exact ⟨rfl, rfl, rfl, Nat.le_refl _, fun _ _ _ => rfl⟩⟩
              rw [hn] at this
              exact this)
            simp only [List.length_cons, List.length_nil, Nat.zero_mul, Nat.add_zero, Nat.zero_add, hn] at x0 x1 x2 ⊢
            have u0 := FrW.cell x0
            have u1 := FrW.cell x1
            have u2 := FrW.cell x2
            have y1 : ((lowS s).toList == (lowS s).toList) = true := by simp
            clear x0 x1 x2 r1 e0 e1 e2 e3 e4
            refine wp_region_fr (by kernel_rfl) (by kernel_rfl) ?_
            repeat (go_big_quiet_step (first
              | (go_at_call 30; with_reducible exact Calls.fr_of _ (P30.out _))
              | (go_at_call 20; with_reducible exact Calls.fr_of _ (P20.out _ (FrW.fr _)))))
            refine wpQuiet_nil ?_
            rintro _ ⟨nq, rfl⟩
            have GC := nq.fr
            go_wp2_with fail
            go_ret
            exact ⟨rfl, F8.out.trans GC⟩
      | true =>
        cases bh with
        | false =>
          cases bi with
          | false =>
            have DD : ∀ l, l = dvT s ts true false false → decV l 0 = [⟨lowS s, ts, false⟩] := fun l e => by rw [e]; exact dec_dv s HOV.out _ _ _
            have DS : ∀ l, l = dvT s ts true false false → ∀ x ∈ l, x.f1.size ≤ maxLen := fun l e => by rw [e]; exact dv_sizes _ _ _ (by unfold maxLen; omega) HZ.out
            have DD := Lib.hid DD
            have DS := Lib.hid DS
            go_upto_region 21 with (first
              | (at_builtin; refine wpList_append_src _ rfl (.tmp 100) (.tmp 102) 22 rfl wr.heap.size 35 i35 _ 5 48 Try.underlying22 ha0 ha1 ha2 ha3 rfl (by omega) (.slice (some ⟨wr.heap.size, 0, none⟩) (1) 1) (1) (tL ([idT s])) rfl ((T1.out.tw.own hl1).fr ((Fr.refl (fun _ => False) _).alloc _) (by simp)) (some ⟨_, 0, none⟩) 1 _ ([.int .i64 9, .string ⟨#[]⟩, .int .i64 0, .bool false, .int .i64 0]) rfl (SrcW.lit (heapNew _ _) rfl) (by simp [Value.oneCell']) (by unfold maxLen; omega) (by omega) (by rw [World.size_alloc]; exact Nat.le_succ_of_le T1.out.tw.fr.size) ?_; intro s2 c2 w2_ hown hgrow h3; have T2 := Lib.hid (show TD wr (wr.heap.size + 1) ([idT s] ++ [wsT]) (.slice s2 (1 + 1) c2) w2_ from TD.ap (us := [wsT]) T1.out hl1 rfl ((Fr.refl _ _).alloc _) hown hgrow h3); have hl2 : ([idT s] ++ [wsT]).length = 1 + 1 := (by simp only [List.length_append, List.length_cons, List.length_nil, hn] <;> omega); clear hown hgrow h3; clear e0 e1 e2 e3 e4; obtain ⟨e0, e1, e2, e3, e4⟩ := T2.out.cells)
              | (at_builtin; refine wpList_append_src _ rfl (.tmp 104) (.tmp 107) 22 rfl wr.heap.size 35 i35 _ 5 48 Try.underlying22 ha0 ha1 ha2 ha3 rfl (by omega) (.slice s2 (1 + 1) c2) (1 + 1) (tL ([idT s] ++ [wsT])) rfl ((T2.out.tw.own hl2).fr ((Fr.refl (fun _ => False) _).alloc _) (by simp)) (some ⟨_, 0, none⟩) 2 _ ([.int .i64 11, .string ⟨#[]⟩, .int .i64 0, .bool false, .int .i64 0, .int .i64 9, .string ⟨#[]⟩, .int .i64 0, .bool false, .int .i64 0]) rfl (SrcW.lit (heapNew _ _) rfl) (by simp [Value.oneCell']) (by unfold maxLen; omega) (by omega) (by rw [World.size_alloc]; exact Nat.le_succ_of_le T2.out.tw.fr.size) ?_; intro s3 c3 w3_ hown hgrow h3; have T3 := Lib.hid (show TD wr (wr.heap.size + 1) ([idT s] ++ [wsT] ++ [coT, wsT]) (.slice s3 (1 + 1 + 2) c3) w3_ from TD.ap (us := [coT, wsT]) T2.out hl2 rfl ((Fr.refl _ _).alloc _) hown hgrow h3); have hl3 : ([idT s] ++ [wsT] ++ [coT, wsT]).length = 1 + 1 + 2 := (by simp only [List.length_append, List.length_cons, List.length_nil, hn] <;> omega); clear hown hgrow h3; clear e0 e1 e2 e3 e4; obtain ⟨e0, e1, e2, e3, e4⟩ := T3.out.cells)
              | (at_builtin; refine wpList_append_src _ rfl (.tmp 109) (.tmp 110) 22 rfl wr.heap.size 35 i35 _ 5 48 Try.underlying22 ha0 ha1 ha2 ha3 rfl (by omega) (.slice s3 (1 + 1 + 2) c3) (1 + 1 + 2) (tL ([idT s] ++ [wsT] ++ [coT, wsT])) rfl (T3.out.tw.own hl3) p k _ (tL ts) rfl (SV.out _ T3.out.tw.fr) (tL_one_cell _) (by unfold maxLen; omega) (by omega) T3.out.tw.fr.size ?_; intro s4 c4 w4_ hown hgrow h3; have T4 := Lib.hid (show TD wr (wr.heap.size + 1) ([idT s] ++ [wsT] ++ [coT, wsT] ++ ts) (.slice s4 (1 + 1 + 2 + k) c4) w4_ from TD.ap (us := ts) T3.out hl3 hn (Fr.refl _ _) hown hgrow h3); have hl4 : ([idT s] ++ [wsT] ++ [coT, wsT] ++ ts).length = 1 + 1 + 2 + k := (by simp only [List.length_append, List.length_cons, List.length_nil, hn] <;> omega); clear hown hgrow h3; clear e0 e1 e2 e3 e4; obtain ⟨e0, e1, e2, e3, e4⟩ := T4.out.cells)
              | (go_at_call 27; refine (dparse_own T4.out.tw hl4 (DS.out _ (by simp [dvT, bw, tl1])) (by omega)).mono ?_; rintro e w8 ⟨v8, rfl, h8⟩; rw [DD.out _ (by simp [dvT, bw, tl1])] at h8; have F8 := Lib.hid (F2.out.trans (Fr.trans (by have := T4.out.tw.fr; exact this) h8.fr)); obtain ⟨p8, c8, rfl, r8⟩ := h8.rd; have R8 := Lib.hid r8; clear h8 r8))
            obtain ⟨g8, o8, a8, d8, rfl, _, x0, x1, x2, r1⟩ := R8.out 0 _ rfl
            have P30 := Lib.hid (show ∀ W, Calls Try.prog 30 #[.string s] W fun e w' => e = .returned (.string (lowS s)) ∧ Fr (fun _ => False) W w' from fun W => RLower_any s W (by unfold maxLen; omega))
            have P20 := Lib.hid (show ∀ W, Fr (fun _ => False) w8 W → Calls Try.prog 20 #[.slice a8 k d8, .slice p k c] W fun e w' => e = .returned (.bool true) ∧ Fr (fun _ => False) W w' from fun W f => by
              have := (sameT_any a8 p d8 c ts W (r1.fr f) (H.out.fr (F8.out.trans f)) (by omega)).mono (R' := fun e w' => e = .returned (.bool true) ∧ Fr (fun _ => False) W w') fun e w' ⟨h, n, h2⟩ => ⟨h, by rw [h2]; exact ⟨rfl, rfl, rfl, Nat.le_refl _, fun _ _ _ => rfl⟩⟩
              rw [hn] at this
              exact this)
            simp only [List.length_cons, List.length_nil, Nat.zero_mul, Nat.add_zero, Nat.zero_add, hn] at x0 x1 x2 ⊢
            have u0 := FrW.cell x0
            have u1 := FrW.cell x1
            have u2 := FrW.cell x2
            have y1 : ((lowS s).toList == (lowS s).toList) = true := by simp
            clear x0 x1 x2 r1 e0 e1 e2 e3 e4
            refine wp_region_fr (by kernel_rfl) (by kernel_rfl) ?_
            repeat (go_big_quiet_step (first
              | (go_at_call 30; with_reducible exact Calls.fr_of _ (P30.out _))
              | (go_at_call 20; with_reducible exact Calls.fr_of _ (P20.out _ (FrW.fr _)))))
            refine wpQuiet_nil ?_
            rintro _ ⟨nq, rfl⟩
            have GC := nq.fr
            go_wp2_with fail
            go_ret
            exact ⟨rfl, F8.out.trans GC⟩
          | true =>
            have DD : ∀ l, l = dvT s ts true false true → decV l 0 = [⟨lowS s, ts, true⟩] := fun l e => by rw [e]; exact dec_dv s HOV.out _ _ _
            have DS : ∀ l, l = dvT s ts true false true → ∀ x ∈ l, x.f1.size ≤ maxLen := fun l e => by rw [e]; exact dv_sizes _ _ _ (by unfold maxLen; omega) HZ.out
            have DD := Lib.hid DD
            have DS := Lib.hid DS
            go_upto_region 21 with (first
              | (at_builtin; refine wpList_append_src _ rfl (.tmp 100) (.tmp 102) 22 rfl wr.heap.size 35 i35 _ 5 48 Try.underlying22 ha0 ha1 ha2 ha3 rfl (by omega) (.slice (some ⟨wr.heap.size, 0, none⟩) (1) 1) (1) (tL ([idT s])) rfl ((T1.out.tw.own hl1).fr ((Fr.refl (fun _ => False) _).alloc _) (by simp)) (some ⟨_, 0, none⟩) 1 _ ([.int .i64 9, .string ⟨#[]⟩, .int .i64 0, .bool false, .int .i64 0]) rfl (SrcW.lit (heapNew _ _) rfl) (by simp [Value.oneCell']) (by unfold maxLen; omega) (by omega) (by rw [World.size_alloc]; exact Nat.le_succ_of_le T1.out.tw.fr.size) ?_; intro s2 c2 w2_ hown hgrow h3; have T2 := Lib.hid (show TD wr (wr.heap.size + 1) ([idT s] ++ [wsT]) (.slice s2 (1 + 1) c2) w2_ from TD.ap (us := [wsT]) T1.out hl1 rfl ((Fr.refl _ _).alloc _) hown hgrow h3); have hl2 : ([idT s] ++ [wsT]).length = 1 + 1 := (by simp only [List.length_append, List.length_cons, List.length_nil, hn] <;> omega); clear hown hgrow h3; clear e0 e1 e2 e3 e4; obtain ⟨e0, e1, e2, e3, e4⟩ := T2.out.cells)
              | (at_builtin; refine wpList_append_src _ rfl (.tmp 104) (.tmp 107) 22 rfl wr.heap.size 35 i35 _ 5 48 Try.underlying22 ha0 ha1 ha2 ha3 rfl (by omega) (.slice s2 (1 + 1) c2) (1 + 1) (tL ([idT s] ++ [wsT])) rfl ((T2.out.tw.own hl2).fr ((Fr.refl (fun _ => False) _).alloc _) (by simp)) (some ⟨_, 0, none⟩) 2 _ ([.int .i64 11, .string ⟨#[]⟩, .int .i64 0, .bool false, .int .i64 0, .int .i64 9, .string ⟨#[]⟩, .int .i64 0, .bool false, .int .i64 0]) rfl (SrcW.lit (heapNew _ _) rfl) (by simp [Value.oneCell']) (by unfold maxLen; omega) (by omega) (by rw [World.size_alloc]; exact Nat.le_succ_of_le T2.out.tw.fr.size) ?_; intro s3 c3 w3_ hown hgrow h3; have T3 := Lib.hid (show TD wr (wr.heap.size + 1) ([idT s] ++ [wsT] ++ [coT, wsT]) (.slice s3 (1 + 1 + 2) c3) w3_ from TD.ap (us := [coT, wsT]) T2.out hl2 rfl ((Fr.refl _ _).alloc _) hown hgrow h3); have hl3 : ([idT s] ++ [wsT] ++ [coT, wsT]).length = 1 + 1 + 2 := (by simp only [List.length_append, List.length_cons, List.length_nil, hn] <;> omega); clear hown hgrow h3; clear e0 e1 e2 e3 e4; obtain ⟨e0, e1, e2, e3, e4⟩ := T3.out.cells)
              | (at_builtin; refine wpList_append_src _ rfl (.tmp 109) (.tmp 110) 22 rfl wr.heap.size 35 i35 _ 5 48 Try.underlying22 ha0 ha1 ha2 ha3 rfl (by omega) (.slice s3 (1 + 1 + 2) c3) (1 + 1 + 2) (tL ([idT s] ++ [wsT] ++ [coT, wsT])) rfl (T3.out.tw.own hl3) p k _ (tL ts) rfl (SV.out _ T3.out.tw.fr) (tL_one_cell _) (by unfold maxLen; omega) (by omega) T3.out.tw.fr.size ?_; intro s4 c4 w4_ hown hgrow h3; have T4 := Lib.hid (show TD wr (wr.heap.size + 1) ([idT s] ++ [wsT] ++ [coT, wsT] ++ ts) (.slice s4 (1 + 1 + 2 + k) c4) w4_ from TD.ap (us := ts) T3.out hl3 hn (Fr.refl _ _) hown hgrow h3); have hl4 : ([idT s] ++ [wsT] ++ [coT, wsT] ++ ts).length = 1 + 1 + 2 + k := (by simp only [List.length_append, List.length_cons, List.length_nil, hn] <;> omega); clear hown hgrow h3; clear e0 e1 e2 e3 e4; obtain ⟨e0, e1, e2, e3, e4⟩ := T4.out.cells)
              | (at_builtin; refine wpList_append_src _ rfl (.tmp 118) (.tmp 123) 22 rfl wr.heap.size 35 i35 _ 5 48 Try.underlying22 ha0 ha1 ha2 ha3 rfl (by omega) (.slice s4 (1 + 1 + 2 + k) c4) (1 + 1 + 2 + k) (tL ([idT s] ++ [wsT] ++ [coT, wsT] ++ ts)) rfl ((T4.out.tw.own hl4).fr ((Fr.refl (fun _ => False) _).alloc _) (by simp)) (some ⟨_, 0, none⟩) 4 _ ([.int .i64 10, .string ⟨#[]⟩, .int .i64 0, .bool false, .int .i64 33, .int .i64 9, .string ⟨#[]⟩, .int .i64 0, .bool false, .int .i64 0, .int .i64 1, .string ⟨#[73, 109, 112, 111, 114, 116, 97, 110, 84]⟩, .int .i64 0, .bool false, .int .i64 0, .int .i64 9, .string ⟨#[]⟩, .int .i64 0, .bool false, .int .i64 0]) rfl (SrcW.lit (heapNew _ _) rfl) (by simp [Value.oneCell']) (by unfold maxLen; omega) (by omega) (by rw [World.size_alloc]; exact Nat.le_succ_of_le T4.out.tw.fr.size) ?_; intro s5 c5 w5_ hown hgrow h3; have T5 := Lib.hid (show TD wr (wr.heap.size + 1) ([idT s] ++ [wsT] ++ [coT, wsT] ++ ts ++ [baT, wsT, imT, wsT]) (.slice s5 (1 + 1 + 2 + k + 4) c5) w5_ from TD.ap (us := [baT, wsT, imT, wsT]) T4.out hl4 rfl ((Fr.refl _ _).alloc _) hown hgrow h3); have hl5 : ([idT s] ++ [wsT] ++ [coT, wsT] ++ ts ++ [baT, wsT, imT, wsT]).length = 1 + 1 + 2 + k + 4 := (by simp only [List.length_append, List.length_cons, List.length_nil, hn] <;> omega); clear hown hgrow h3; clear e0 e1 e2 e3 e4; obtain ⟨e0, e1, e2, e3, e4⟩ := T5.out.cells)
              | (go_at_call 27; refine (dparse_own T5.out.tw hl5 (DS.out _ (by simp [dvT, bw, tl1])) (by omega)).mono ?_; rintro e w8 ⟨v8, rfl, h8⟩; rw [DD.out _ (by simp [dvT, bw, tl1])] at h8; have F8 := Lib.hid (F2.out.trans (Fr.trans (by have := T5.out.tw.fr; exact this) h8.fr)); obtain ⟨p8, c8, rfl, r8⟩ := h8.rd; have R8 := Lib.hid r8; clear h8 r8))
            obtain ⟨g8, o8, a8, d8, rfl, _, x0, x1, x2, r1⟩ := R8.out 0 _ rfl
            have P30 := Lib.hid (show ∀ W, Calls Try.prog 30 #[.string s] W fun e w' => e = .returned (.string (lowS s)) ∧ Fr (fun _ => False) W w' from fun W => RLower_any s W (by unfold maxLen; omega))
            have P20 := Lib.hid (show ∀ W, Fr (fun _ => False) w8 W → Calls Try.prog 20 #[.slice a8 k d8, .slice p k c] W fun e w' => e = .returned (.bool true) ∧ Fr (fun _ => False) W w' from fun W f => by
              have := (sameT_any a8 p d8 c ts W (r1.fr f) (H.out.fr (F8.out.trans f)) (by omega)).mono (R' := fun e w' => e = .returned (.bool true) ∧ Fr (fun _ => False) W w') fun e w' ⟨h, n, h2⟩ => ⟨h, by rw [h2]; exact ⟨rfl, rfl, rfl, Nat.le_refl _, fun _ _ _ => rfl⟩⟩
              rw [hn] at this
              exact this)
            simp only [List.length_cons, List.length_nil, Nat.zero_mul, Nat.add_zero, Nat.zero_add, hn] at x0 x1 x2 ⊢
            have u0 := FrW.cell x0
            have u1 := FrW.cell x1
            have u2 := FrW.cell x2
            have y1 : ((lowS s).toList == (lowS s).toList) = true := by simp
            clear x0 x1 x2 r1 e0 e1 e2 e3 e4
            refine wp_region_fr (by kernel_rfl) (by kernel_rfl) ?_
            repeat (go_big_quiet_step (first
              | (go_at_call 30; with_reducible exact Calls.fr_of _ (P30.out _))
              | (go_at_call 20; with_reducible exact Calls.fr_of _ (P20.out _ (FrW.fr _)))))
            refine wpQuiet_nil ?_
            rintro _ ⟨nq, rfl⟩
            have GC := nq.fr
            go_wp2_with fail
            go_ret
            exact ⟨rfl, F8.out.trans GC⟩
        | true =>
          cases bi with
          | false =>
            have DD : ∀ l, l = dvT s ts true true false → decV l 0 = [⟨lowS s, ts, false⟩] := fun l e => by rw [e]; exact dec_dv s HOV.out _ _ _
            have DS : ∀ l, l = dvT s ts true true false → ∀ x ∈ l, x.f1.size ≤ maxLen := fun l e => by rw [e]; exact dv_sizes _ _ _ (by unfold maxLen; omega) HZ.out
            have DD := Lib.hid DD
            have DS := Lib.hid DS
            go_upto_region 21 with (first
              | (at_builtin; refine wpList_append_src _ rfl (.tmp 100) (.tmp 102) 22 rfl wr.heap.size 35 i35 _ 5 48 Try.underlying22 ha0 ha1 ha2 ha3 rfl (by omega) (.slice (some ⟨wr.heap.size, 0, none⟩) (1) 1) (1) (tL ([idT s])) rfl ((T1.out.tw.own hl1).fr ((Fr.refl (fun _ => False) _).alloc _) (by simp)) (some ⟨_, 0, none⟩) 1 _ ([.int .i64 9, .string ⟨#[]⟩, .int .i64 0, .bool false, .int .i64 0]) rfl (SrcW.lit (heapNew _ _) rfl) (by simp [Value.oneCell']) (by unfold maxLen; omega) (by omega) (by rw [World.size_alloc]; exact Nat.le_succ_of_le T1.out.tw.fr.size) ?_; intro s2 c2 w2_ hown hgrow h3; have T2 := Lib.hid (show TD wr (wr.heap.size + 1) ([idT s] ++ [wsT]) (.slice s2 (1 + 1) c2) w2_ from TD.ap (us := [wsT]) T1.out hl1 rfl ((Fr.refl _ _).alloc _) hown hgrow h3); have hl2 : ([idT s] ++ [wsT]).length = 1 + 1 := (by simp only [List.length_append, List.length_cons, List.length_nil, hn] <;> omega); clear hown hgrow h3; clear e0 e1 e2 e3 e4; obtain ⟨e0, e1, e2, e3, e4⟩ := T2.out.cells)
              | (at_builtin; refine wpList_append_src _ rfl (.tmp 104) (.tmp 107) 22 rfl wr.heap.size 35 i35 _ 5 48 Try.underlying22 ha0 ha1 ha2 ha3 rfl (by omega) (.slice s2 (1 + 1) c2) (1 + 1) (tL ([idT s] ++ [wsT])) rfl ((T2.out.tw.own hl2).fr ((Fr.refl (fun _ => False) _).alloc _) (by simp)) (some ⟨_, 0, none⟩) 2 _ ([.int .i64 11, .string ⟨#[]⟩, .int .i64 0, .bool false, .int .i64 0, .int .i64 9, .string ⟨#[]⟩, .int .i64 0, .bool false, .int .i64 0]) rfl (SrcW.lit (heapNew _ _) rfl) (by simp [Value.oneCell']) (by unfold maxLen; omega) (by omega) (by rw [World.size_alloc]; exact Nat.le_succ_of_le T2.out.tw.fr.size) ?_; intro s3 c3 w3_ hown hgrow h3; have T3 := Lib.hid (show TD wr (wr.heap.size + 1) ([idT s] ++ [wsT] ++ [coT, wsT]) (.slice s3 (1 + 1 + 2) c3) w3_ from TD.ap (us := [coT, wsT]) T2.out hl2 rfl ((Fr.refl _ _).alloc _) hown hgrow h3); have hl3 : ([idT s] ++ [wsT] ++ [coT, wsT]).length = 1 + 1 + 2 := (by simp only [List.length_append, List.length_cons, List.length_nil, hn] <;> omega); clear hown hgrow h3; clear e0 e1 e2 e3 e4; obtain ⟨e0, e1, e2, e3, e4⟩ := T3.out.cells)
              | (at_builtin; refine wpList_append_src _ rfl (.tmp 109) (.tmp 110) 22 rfl wr.heap.size 35 i35 _ 5 48 Try.underlying22 ha0 ha1 ha2 ha3 rfl (by omega) (.slice s3 (1 + 1 + 2) c3) (1 + 1 + 2) (tL ([idT s] ++ [wsT] ++ [coT, wsT])) rfl (T3.out.tw.own hl3) p k _ (tL ts) rfl (SV.out _ T3.out.tw.fr) (tL_one_cell _) (by unfold maxLen; omega) (by omega) T3.out.tw.fr.size ?_; intro s4 c4 w4_ hown hgrow h3; have T4 := Lib.hid (show TD wr (wr.heap.size + 1) ([idT s] ++ [wsT] ++ [coT, wsT] ++ ts) (.slice s4 (1 + 1 + 2 + k) c4) w4_ from TD.ap (us := ts) T3.out hl3 hn (Fr.refl _ _) hown hgrow h3); have hl4 : ([idT s] ++ [wsT] ++ [coT, wsT] ++ ts).length = 1 + 1 + 2 + k := (by simp only [List.length_append, List.length_cons, List.length_nil, hn] <;> omega); clear hown hgrow h3; clear e0 e1 e2 e3 e4; obtain ⟨e0, e1, e2, e3, e4⟩ := T4.out.cells)
              | (at_builtin; refine wpList_append_src _ rfl (.tmp 113) (.tmp 115) 22 rfl wr.heap.size 35 i35 _ 5 48 Try.underlying22 ha0 ha1 ha2 ha3 rfl (by omega) (.slice s4 (1 + 1 + 2 + k) c4) (1 + 1 + 2 + k) (tL ([idT s] ++ [wsT] ++ [coT, wsT] ++ ts)) rfl ((T4.out.tw.own hl4).fr ((Fr.refl (fun _ => False) _).alloc _) (by simp)) (some ⟨_, 0, none⟩) 1 _ ([.int .i64 9, .string ⟨#[]⟩, .int .i64 0, .bool false, .int .i64 0]) rfl (SrcW.lit (heapNew _ _) rfl) (by simp [Value.oneCell']) (by unfold maxLen; omega) (by omega) (by rw [World.size_alloc]; exact Nat.le_succ_of_le T4.out.tw.fr.size) ?_; intro s5 c5 w5_ hown hgrow h3; have T5 := Lib.hid (show TD wr (wr.heap.size + 1) ([idT s] ++ [wsT] ++ [coT, wsT] ++ ts ++ [wsT]) (.slice s5 (1 + 1 + 2 + k + 1) c5) w5_ from TD.ap (us := [wsT]) T4.out hl4 rfl ((Fr.refl _ _).alloc _) hown hgrow h3); have hl5 : ([idT s] ++ [wsT] ++ [coT, wsT] ++ ts ++ [wsT]).length = 1 + 1 + 2 + k + 1 := (by simp only [List.length_append, List.length_cons, List.length_nil, hn] <;> omega); clear hown hgrow h3; clear e0 e1 e2 e3 e4; obtain ⟨e0, e1, e2, e3, e4⟩ := T5.out.cells)
              | (go_at_call 27; refine (dparse_own T5.out.tw hl5 (DS.out _ (by simp [dvT, bw, tl1])) (by omega)).mono ?_; rintro e w8 ⟨v8, rfl, h8⟩; rw [DD.out _ (by simp [dvT, bw, tl1])] at h8; have F8 := Lib.hid (F2.out.trans (Fr.trans (by have := T5.out.tw.fr; exact this) h8.fr)); obtain ⟨p8, c8, rfl, r8⟩ := h8.rd; have R8 := Lib.hid r8; clear h8 r8))
            obtain ⟨g8, o8, a8, d8, rfl, _, x0, x1, x2, r1⟩ := R8.out 0 _ rfl
            have P30 := Lib.hid (show ∀ W, Calls Try.prog 30 #[.string s] W fun e w' => e = .returned (.string (lowS s)) ∧ Fr (fun _ => False) W w' from fun W => RLower_any s W (by unfold maxLen; omega))
            have P20 := Lib.hid (show ∀ W, Fr (fun _ => False) w8 W → Calls Try.prog 20 #[.slice a8 k d8, .slice p k c] W fun e w' => e = .returned (.bool true) ∧ Fr (fun _ => False) W w' from fun W f => by
              have := (sameT_any a8 p d8 c ts W (r1.fr f) (H.out.fr (F8.out.trans f)) (by omega)).mono (R' := fun e w' => e = .returned (.bool true) ∧ Fr (fun _ => False) W w') fun e w' ⟨h, n, h2⟩ => ⟨h, by rw [h2]; exact ⟨rfl, rfl, rfl, Nat.le_refl _, fun _ _ _ => rfl⟩⟩
              rw [hn] at this
              exact this)
            simp only [List.length_cons, List.length_nil, Nat.zero_mul, Nat.add_zero, Nat.zero_add, hn] at x0 x1 x2 ⊢
            have u0 := FrW.cell x0
            have u1 := FrW.cell x1
            have u2 := FrW.cell x2
            have y1 : ((lowS s).toList == (lowS s).toList) = true := by simp
            clear x0 x1 x2 r1 e0 e1 e2 e3 e4
            refine wp_region_fr (by kernel_rfl) (by kernel_rfl) ?_
            repeat (go_big_quiet_step (first
              | (go_at_call 30; with_reducible exact Calls.fr_of _ (P30.out _))
              | (go_at_call 20; with_reducible exact Calls.fr_of _ (P20.out _ (FrW.fr _)))))
            refine wpQuiet_nil ?_
            rintro _ ⟨nq, rfl⟩
            have GC := nq.fr
            go_wp2_with fail
            go_ret
            exact ⟨rfl, F8.out.trans GC⟩
          | true =>
            have DD : ∀ l, l = dvT s ts true true true → decV l 0 = [⟨lowS s, ts, true⟩] := fun l e => by rw [e]; exact dec_dv s HOV.out _ _ _
            have DS : ∀ l, l = dvT s ts true true true → ∀ x ∈ l, x.f1.size ≤ maxLen := fun l e => by rw [e]; exact dv_sizes _ _ _ (by unfold maxLen; omega) HZ.out
            have DD := Lib.hid DD
            have DS := Lib.hid DS
            go_upto_region 21 with (first
              | (at_builtin; refine wpList_append_src _ rfl (.tmp 100) (.tmp 102) 22 rfl wr.heap.size 35 i35 _ 5 48 Try.underlying22 ha0 ha1 ha2 ha3 rfl (by omega) (.slice (some ⟨wr.heap.size, 0, none⟩) (1) 1) (1) (tL ([idT s])) rfl ((T1.out.tw.own hl1).fr ((Fr.refl (fun _ => False) _).alloc _) (by simp)) (some ⟨_, 0, none⟩) 1 _ ([.int .i64 9, .string ⟨#[]⟩, .int .i64 0, .bool false, .int .i64 0]) rfl (SrcW.lit (heapNew _ _) rfl) (by simp [Value.oneCell']) (by unfold maxLen; omega) (by omega) (by rw [World.size_alloc]; exact Nat.le_succ_of_le T1.out.tw.fr.size) ?_; intro s2 c2 w2_ hown hgrow h3; have T2 := Lib.hid (show TD wr (wr.heap.size + 1) ([idT s] ++ [wsT]) (.slice s2 (1 + 1) c2) w2_ from TD.ap (us := [wsT]) T1.out hl1 rfl ((Fr.refl _ _).alloc _) hown hgrow h3); have hl2 : ([idT s] ++ [wsT]).length = 1 + 1 := (by simp only [List.length_append, List.length_cons, List.length_nil, hn] <;> omega); clear hown hgrow h3; clear e0 e1 e2 e3 e4; obtain ⟨e0, e1, e2, e3, e4⟩ := T2.out.cells)
              | (at_builtin; refine wpList_append_src _ rfl (.tmp 104) (.tmp 107) 22 rfl wr.heap.size 35 i35 _ 5 48 Try.underlying22 ha0 ha1 ha2 ha3 rfl (by omega) (.slice s2 (1 + 1) c2) (1 + 1) (tL ([idT s] ++ [wsT])) rfl ((T2.out.tw.own hl2).fr ((Fr.refl (fun _ => False) _).alloc _) (by simp)) (some ⟨_, 0, none⟩) 2 _ ([.int .i64 11, .string ⟨#[]⟩, .int .i64 0, .bool false, .int .i64 0, .int .i64 9, .string ⟨#[]⟩, .int .i64 0, .bool false, .int .i64 0]) rfl (SrcW.lit (heapNew _ _) rfl) (by simp [Value.oneCell']) (by unfold maxLen; omega) (by omega) (by rw [World.size_alloc]; exact Nat.le_succ_of_le T2.out.tw.fr.size) ?_; intro s3 c3 w3_ hown hgrow h3; have T3 := Lib.hid (show TD wr (wr.heap.size + 1) ([idT s] ++ [wsT] ++ [coT, wsT]) (.slice s3 (1 + 1 + 2) c3) w3_ from TD.ap (us := [coT, wsT]) T2.out hl2 rfl ((Fr.refl _ _).alloc _) hown hgrow h3); have hl3 : ([idT s] ++ [wsT] ++ [coT, wsT]).length = 1 + 1 + 2 := (by simp only [List.length_append, List.length_cons, List.length_nil, hn] <;> omega); clear hown hgrow h3; clear e0 e1 e2 e3 e4; obtain ⟨e0, e1, e2, e3, e4⟩ := T3.out.cells)
              | (at_builtin; refine wpList_append_src _ rfl (.tmp 109) (.tmp 110) 22 rfl wr.heap.size 35 i35 _ 5 48 Try.underlying22 ha0 ha1 ha2 ha3 rfl (by omega) (.slice s3 (1 + 1 + 2) c3) (1 + 1 + 2) (tL ([idT s] ++ [wsT] ++ [coT, wsT])) rfl (T3.out.tw.own hl3) p k _ (tL ts) rfl (SV.out _ T3.out.tw.fr) (tL_one_cell _) (by unfold maxLen; omega) (by omega) T3.out.tw.fr.size ?_; intro s4 c4 w4_ hown hgrow h3; have T4 := Lib.hid (show TD wr (wr.heap.size + 1) ([idT s] ++ [wsT] ++ [coT, wsT] ++ ts) (.slice s4 (1 + 1 + 2 + k) c4) w4_ from TD.ap (us := ts) T3.out hl3 hn (Fr.refl _ _) hown hgrow h3); have hl4 : ([idT s] ++ [wsT] ++ [coT, wsT] ++ ts).length = 1 + 1 + 2 + k := (by simp only [List.length_append, List.length_cons, List.length_nil, hn] <;> omega); clear hown hgrow h3; clear e0 e1 e2 e3 e4; obtain ⟨e0, e1, e2, e3, e4⟩ := T4.out.cells)
              | (at_builtin; refine wpList_append_src _ rfl (.tmp 113) (.tmp 115) 22 rfl wr.heap.size 35 i35 _ 5 48 Try.underlying22 ha0 ha1 ha2 ha3 rfl (by omega) (.slice s4 (1 + 1 + 2 + k) c4) (1 + 1 + 2 + k) (tL ([idT s] ++ [wsT] ++ [coT, wsT] ++ ts)) rfl ((T4.out.tw.own hl4).fr ((Fr.refl (fun _ => False) _).alloc _) (by simp)) (some ⟨_, 0, none⟩) 1 _ ([.int .i64 9, .string ⟨#[]⟩, .int .i64 0, .bool false, .int .i64 0]) rfl (SrcW.lit (heapNew _ _) rfl) (by simp [Value.oneCell']) (by unfold maxLen; omega) (by omega) (by rw [World.size_alloc]; exact Nat.le_succ_of_le T4.out.tw.fr.size) ?_; intro s5 c5 w5_ hown hgrow h3; have T5 := Lib.hid (show TD wr (wr.heap.size + 1) ([idT s] ++ [wsT] ++ [coT, wsT] ++ ts ++ [wsT]) (.slice s5 (1 + 1 + 2 + k + 1) c5) w5_ from TD.ap (us := [wsT]) T4.out hl4 rfl ((Fr.refl _ _).alloc _) hown hgrow h3); have hl5 : ([idT s] ++ [wsT] ++ [coT, wsT] ++ ts ++ [wsT]).length = 1 + 1 + 2 + k + 1 := (by simp only [List.length_append, List.length_cons, List.length_nil, hn] <;> omega); clear hown hgrow h3; clear e0 e1 e2 e3 e4; obtain ⟨e0, e1, e2, e3, e4⟩ := T5.out.cells)
              | (at_builtin; refine wpList_append_src _ rfl (.tmp 118) (.tmp 123) 22 rfl wr.heap.size 35 i35 _ 5 48 Try.underlying22 ha0 ha1 ha2 ha3 rfl (by omega) (.slice s5 (1 + 1 + 2 + k + 1) c5) (1 + 1 + 2 + k + 1) (tL ([idT s] ++ [wsT] ++ [coT, wsT] ++ ts ++ [wsT])) rfl ((T5.out.tw.own hl5).fr ((Fr.refl (fun _ => False) _).alloc _) (by simp)) (some ⟨_, 0, none⟩) 4 _ ([.int .i64 10, .string ⟨#[]⟩, .int .i64 0, .bool false, .int .i64 33, .int .i64 9, .string ⟨#[]⟩, .int .i64 0, .bool false, .int .i64 0, .int .i64 1, .string ⟨#[73, 109, 112, 111, 114, 116, 97, 110, 84]⟩, .int .i64 0, .bool false, .int .i64 0, .int .i64 9, .string ⟨#[]⟩, .int .i64 0, .bool false, .int .i64 0]) rfl (SrcW.lit (heapNew _ _) rfl) (by simp [Value.oneCell']) (by unfold maxLen; omega) (by omega) (by rw [World.size_alloc]; exact Nat.le_succ_of_le T5.out.tw.fr.size) ?_; intro s6 c6 w6_ hown hgrow h3; have T6 := Lib.hid (show TD wr (wr.heap.size + 1) ([idT s] ++ [wsT] ++ [coT, wsT] ++ ts ++ [wsT] ++ [baT, wsT, imT, wsT]) (.slice s6 (1 + 1 + 2 + k + 1 + 4) c6) w6_ from TD.ap (us := [baT, wsT, imT, wsT]) T5.out hl5 rfl ((Fr.refl _ _).alloc _) hown hgrow h3); have hl6 : ([idT s] ++ [wsT] ++ [coT, wsT] ++ ts ++ [wsT] ++ [baT, wsT, imT, wsT]).length = 1 + 1 + 2 + k + 1 + 4 := (by simp only [List.length_append, List.length_cons, List.length_nil, hn] <;> omega); clear hown hgrow h3; clear e0 e1 e2 e3 e4; obtain ⟨e0, e1, e2, e3, e4⟩ := T6.out.cells)
              | (go_at_call 27; refine (dparse_own T6.out.tw hl6 (DS.out _ (by simp [dvT, bw, tl1])) (by omega)).mono ?_; rintro e w8 ⟨v8, rfl, h8⟩; rw [DD.out _ (by simp [dvT, bw, tl1])] at h8; have F8 := Lib.hid (F2.out.trans (Fr.trans (by have := T6.out.tw.fr; exact this) h8.fr)); obtain ⟨p8, c8, rfl, r8⟩ := h8.rd; have R8 := Lib.hid r8; clear h8 r8))
            obtain ⟨g8, o8, a8, d8, rfl, _, x0, x1, x2, r1⟩ := R8.out 0 _ rfl
            have P30 := Lib.hid (show ∀ W, Calls Try.prog 30 #[.string s] W fun e w' => e = .returned (.string (lowS s)) ∧ Fr (fun _ => False) W w' from fun W => RLower_any s W (by unfold maxLen; omega))
            have P20 := Lib.hid (show ∀ W, Fr (fun _ => False) w8 W → Calls Try.prog 20 #[.slice a8 k d8, .slice p k c] W fun e w' => e = .returned (.bool true) ∧ Fr (fun _ => False) W w' from fun W f => by
              have := (sameT_any a8 p d8 c ts W (r1.fr f) (H.out.fr (F8.out.trans f)) (by omega)).mono (R' := fun e w' => e = .returned (.bool true) ∧ Fr (fun _ => False) W w') fun e w' ⟨h, n, h2⟩ => ⟨h, by rw [h2]; exact ⟨rfl, rfl, rfl, Nat.le_refl _, fun _ _ _ => rfl⟩⟩
              rw [hn] at this
              exact this)
            simp only [List.length_cons, List.length_nil, Nat.zero_mul, Nat.add_zero, Nat.zero_add, hn] at x0 x1 x2 ⊢
            have u0 := FrW.cell x0
            have u1 := FrW.cell x1
            have u2 := FrW.cell x2
            have y1 : ((lowS s).toList == (lowS s).toList) = true := by simp
            clear x0 x1 x2 r1 e0 e1 e2 e3 e4
            refine wp_region_fr (by kernel_rfl) (by kernel_rfl) ?_
            repeat (go_big_quiet_step (first
              | (go_at_call 30; with_reducible exact Calls.fr_of _ (P30.out _))
              | (go_at_call 20; with_reducible exact Calls.fr_of _ (P20.out _ (FrW.fr _)))))
            refine wpQuiet_nil ?_
            rintro _ ⟨nq, rfl⟩
            have GC := nq.fr
            go_wp2_with fail
            go_ret
            exact ⟨rfl, F8.out.trans GC⟩

end Go.Proofs.Ytknpdkfjmhpbpaa
