/- RulesBlocks: the walk of the law. No condition. -/
import Derived.Test.YtknpdkfjmhpbpaaOpen
namespace Go.Proofs.Ytknpdkfjmhpbpaa
open Go.RowKit Go.Maps Go.ChangeShapes Go.WideShapes Go.ChangeAt Go.WideMaps Go.WideElems

/-- A row of tokens that a call makes, between two steps. -/
structure TW (w : World) (ts : List Tok) (v : Value) (W : World) : Prop where
  row : ∃ sp c, v = .slice sp ts.length c ∧ OwnsWin W w.heap.size 35 5 (.slice sp ts.length c) ts.length (tL ts)
  fr : Fr (fun _ => False) w W
theorem TW.ap {w W X w4 : World} {ts us : List Tok} {n m : Nat} {sp sp' : Option Addr} {c c' : Nat} (hn : ts.length = n) (hm : us.length = m) (hf : Fr (fun _ => False) w W) (h2 : OwnsWin W w.heap.size 35 5 (.slice sp n c) n (tL ts)) (hX : Fr (fun _ => False) W X)
    (hown : OwnsWin w4 w.heap.size 35 5 (.slice sp' (n + m) c') (n + m) (tL ts ++ tL us)) (hgrow : X.grownBy w4 (Value.slice sp n c).ownBlock) :
    TW w (ts ++ us) (.slice sp' (n + m) c') w4 := by
  have hl : (ts ++ us).length = n + m := by simp [hn, hm]
  refine ⟨⟨sp', c', by rw [hl], by rw [hl, tL_app]; exact hown⟩, (hf.trans hX).grown hgrow (fun k e => .inr (h2.lt k e).1)⟩

theorem TW.first {w w4 : World} {us : List Tok} {m : Nat} {sp' : Option Addr} {c' : Nat} (hm : us.length = m)
    (hown : OwnsWin w4 w.heap.size 35 5 (.slice sp' (0 + m) c') (0 + m) ([] ++ tL us)) (hgrow : w.grownBy w4 (Value.slice none 0 0).ownBlock) :
    TW w us (.slice sp' (0 + m) c') w4 := by
  subst hm
  rw [Nat.zero_add, List.nil_append] at hown
  rw [Nat.zero_add]
  exact ⟨⟨sp', c', rfl, hown⟩, (Fr.refl _ _).grown hgrow (fun k e => by simp [Value.ownBlock] at e)⟩
theorem TW.own {w W : World} {ts : List Tok} {n c : Nat} {sp : Option Addr} (h : TW w ts (.slice sp n c) W) (hn : ts.length = n) : OwnsWin W w.heap.size 35 5 (.slice sp n c) n (tL ts) := by
  obtain ⟨⟨sp', c', e, h1⟩, _⟩ := h
  subst hn
  cases e
  exact h1
theorem parse_own {w W : World} {ts : List Tok} {n c : Nat} {sp : Option Addr} (h : TW w ts (.slice sp n c) W) (hn : ts.length = n) (hz : ∀ x ∈ ts, x.f1.size ≤ maxLen) (hl : n ≤ 100000) : Calls Try.prog 18 #[.slice sp n c] W fun e w' => ∃ v, e = .returned v ∧ RwR W (parV ts 0) v w' := by
  have ho := h.own hn
  have hc := ho.capLe rfl
  subst hn
  exact Parse_any W sp c ts (RdT.win ho hz) hl hc.1 hc.2

set_option maxRecDepth 100000 in
set_option maxHeartbeats 8000000 in
theorem blocks_loops (pa pb : Option Addr) (a b : List Tok) (ca cb : Nat) (w : World) (h1 : RdT w pa a) (h2 : RdT w pb b) (a1 : a.length ≤ ca) (a2 : ca ≤ maxLen) (b1 : b.length ≤ cb) (b2 : cb ≤ maxLen) :
    Calls Try.prog 9 #[.slice pa a.length ca, .slice pb b.length cb] w fun e w' => e = .returned (.bool true) ∧ Fr (fun _ => False) w w' := by
  obtain ⟨i35, ha0, ha1, ha2, ha3⟩ := info_parts info35
  have HA := Lib.hid h1
  have HB := Lib.hid h2
  have HCA := Lib.hid (And.intro a1 a2)
  have HCB := Lib.hid (And.intro b1 b2)
  unfold maxLen at a2 b2
  clear h1 h2
  go_enter Try.func9, Try.ntmps9
  go_wp2_with fail
  refine (alive_any _).mono ?_
  rintro e w1 ⟨rfl, f1⟩
  have F1 := Lib.hid f1
  clear f1
  have BA := Lib.hid (Big_any pa ca a w1 (HA.out.fr F1.out) (by omega))
  have BB := Lib.hid (Big_any pb cb b w1 (HB.out.fr F1.out) (by omega))
  go_wp2_with fail
  refine BA.out.mono ?_
  rintro e w' ⟨ba, rfl, rfl, hba⟩
  have HBA := Lib.hid hba
  clear hba BA
  cases ba with
  | true =>
    go_wp2_with fail
    go_ret
    exact ⟨rfl, F1.out⟩
  | false =>
  obtain ⟨la, -⟩ := HBA.out rfl
  go_wp2_with fail
  refine BB.out.mono ?_
  rintro e w' ⟨bb, rfl, rfl, hbb⟩
  have HBB := Lib.hid hbb
  clear hbb BB
  cases bb with
  | true =>
    go_wp2_with fail
    go_ret
    exact ⟨rfl, F1.out⟩
  | false =>
  obtain ⟨lb, -⟩ := HBB.out rfl
  clear HBA HBB
  obtain ⟨w2, hw2⟩ : ∃ w2, w2 = w' := ⟨_, rfl⟩
  rw [← hw2] at F1
  go_wp2_with fail
  go_loopw [7] (fun i wr => ∃ (k : Nat), k ≤ a.length ∧ i = .int .i64 k ∧ wr = w2 ∧ Hid (∀ j x, j < k → a[j]? = some x → x.f0 ≠ 14 ∧ x.f0 ≠ 16 ∧ x.f0 ≠ 18 ∧ x.f0 ≠ 20 ∧ (j = 0 → x.f0 ≠ 2 ∧ x.f0 ≠ 9))) (fun i _ => a.length - (intOf i).toNat)
  case atStart => exact ⟨0, by omega, rfl, hw2.symm, Lib.hid (fun j x h => by omega)⟩
  case round =>
    clear hw2
    obtain ⟨k, hk, rfl, hw, HX⟩ := hrel
    subst hw
    by_cases hlt : k < a.length
    · have d0 : decide ((k : Int) < (a.length : Int)) = true := decide_eq_true (by omega)
      obtain ⟨x, hx⟩ : ∃ x, a[k]? = some x := ⟨a[k], List.getElem?_eq_getElem hlt⟩
      obtain ⟨g, off, rfl, x0⟩ := (HA.out.fr F1.out).kind hx
      have HXX := Lib.hid hx
      have i1 : (k : Int) < (a.length : Int) := by omega
      clear hx
      by_cases c14 : x.f0 = 14
      · have q14 : (x.f0 == 14) = true := by simp [c14]
        go_wp2_with fail
        go_ret
        exact ⟨rfl, F1.out⟩
      · have q14 : (x.f0 == 14) = false := by simp [c14]
        by_cases c16 : x.f0 = 16
        · have q16 : (x.f0 == 16) = true := by simp [c16]
          go_wp2_with fail
          go_ret
          exact ⟨rfl, F1.out⟩
        · have q16 : (x.f0 == 16) = false := by simp [c16]
          by_cases c18 : x.f0 = 18
          · have q18 : (x.f0 == 18) = true := by simp [c18]
            go_wp2_with fail
            go_ret
            exact ⟨rfl, F1.out⟩
          · have q18 : (x.f0 == 18) = false := by simp [c18]
            by_cases c20 : x.f0 = 20
            · have q20 : (x.f0 == 20) = true := by simp [c20]
              go_wp2_with fail
              go_ret
              exact ⟨rfl, F1.out⟩
            · have q20 : (x.f0 == 20) = false := by simp [c20]
              by_cases c2 : x.f0 = 2
              · have q2 : (x.f0 == 2) = true := by simp [c2]
                have q9 : (x.f0 == 9) = false := by simp [c2]
                by_cases k0 : k = 0
                · have qi : ((k : Int) == 0) = true := by simp [k0]
                  clear k0
                  go_wp2_with fail
                  go_ret
                  exact ⟨rfl, F1.out⟩
                · have qi : ((k : Int) == 0) = false := by simp [k0]
                  go_wp2_with fail
                  go_roundw
                  case rel =>
                    refine ⟨k + 1, by omega, by go_num, trivial, Lib.hid (fun j z hj hz => ?_)⟩
                    rcases Nat.lt_or_ge j k with h | h
                    · exact HX.out j z h hz
                    · obtain rfl : j = k := by omega
                      rw [HXX.out] at hz
                      cases hz
                      exact ⟨c14, c16, c18, c20, fun e => absurd e k0⟩
                  case measure => simp [intOf]; omega
              · have q2 : (x.f0 == 2) = false := by simp [c2]
                by_cases c9 : x.f0 = 9
                · have q9 : (x.f0 == 9) = true := by simp [c9]
                  by_cases k0 : k = 0
                  · have qi : ((k : Int) == 0) = true := by simp [k0]
                    clear k0
                    go_wp2_with fail
                    go_ret
                    exact ⟨rfl, F1.out⟩
                  · have qi : ((k : Int) == 0) = false := by simp [k0]
                    go_wp2_with fail
                    go_roundw
                    case rel =>
                      refine ⟨k + 1, by omega, by go_num, trivial, Lib.hid (fun j z hj hz => ?_)⟩
                      rcases Nat.lt_or_ge j k with h | h
                      · exact HX.out j z h hz
                      · obtain rfl : j = k := by omega
                        rw [HXX.out] at hz
                        cases hz
                        exact ⟨c14, c16, c18, c20, fun e => absurd e k0⟩
                    case measure => simp [intOf]; omega
                · have q9 : (x.f0 == 9) = false := by simp [c9]
                  go_wp2_with fail
                  go_roundw
                  case rel =>
                    refine ⟨k + 1, by omega, by go_num, trivial, Lib.hid (fun j z hj hz => ?_)⟩
                    rcases Nat.lt_or_ge j k with h | h
                    · exact HX.out j z h hz
                    · obtain rfl : j = k := by omega
                      rw [HXX.out] at hz
                      cases hz
                      exact ⟨c14, c16, c18, c20, fun _ => ⟨c2, c9⟩⟩
                  case measure => simp [intOf]; omega
    · obtain rfl : k = a.length := by omega
      have d0 : decide ((a.length : Int) < (a.length : Int)) = false := by simp
      have HFA := Lib.hid (show Flat a from fun t ht => by
        obtain ⟨j, hj⟩ := List.mem_iff_getElem?.1 ht
        obtain ⟨e1, e2, e3, e4, _⟩ := HX.out j t (List.getElem?_eq_some_iff.1 hj).1 hj
        exact ⟨e1, e2, e3, e4⟩)
      have HHA := Lib.hid (show ∀ t ∈ a.head?, t.f0 ≠ 2 ∧ t.f0 ≠ 9 from fun t ht => by
        cases a with
        | nil => simp at ht
        | cons y r =>
          simp at ht
          subst ht
          exact (HX.out 0 y (by simp) rfl).2.2.2.2 rfl)
      clear HX hk hlt
      obtain ⟨w3, hw3⟩ : ∃ w3, w3 = wr := ⟨_, rfl⟩
      rw [← hw3] at F1
      go_wp2_with fail
      go_loopw [9] (fun i wx => ∃ (k : Nat), k ≤ b.length ∧ i = .int .i64 k ∧ wx = w3 ∧ Hid (∀ j x, j < k → b[j]? = some x → x.f0 ≠ 14 ∧ x.f0 ≠ 16 ∧ x.f0 ≠ 18 ∧ x.f0 ≠ 20 ∧ x.f0 ≠ 15)) (fun i _ => b.length - (intOf i).toNat)
      case atStart => exact ⟨0, by omega, rfl, hw3.symm, Lib.hid (fun j x h => by omega)⟩
      case round =>
        clear hw3 d0
        obtain ⟨k, hk, rfl, hw, HX⟩ := hrel
        subst hw
        by_cases hlt : k < b.length
        · have d0 : decide ((k : Int) < (b.length : Int)) = true := decide_eq_true (by omega)
          obtain ⟨x, hx⟩ : ∃ x, b[k]? = some x := ⟨b[k], List.getElem?_eq_getElem hlt⟩
          obtain ⟨g, off, rfl, x0⟩ := (HB.out.fr F1.out).kind hx
          have HXX := Lib.hid hx
          have i1 : (k : Int) < (b.length : Int) := by omega
          clear hx
          by_cases c14 : x.f0 = 14
          · have q14 : (x.f0 == 14) = true := by simp [c14]
            go_wp2_with fail
            go_ret
            exact ⟨rfl, F1.out⟩
          · have q14 : (x.f0 == 14) = false := by simp [c14]
            by_cases c16 : x.f0 = 16
            · have q16 : (x.f0 == 16) = true := by simp [c16]
              go_wp2_with fail
              go_ret
              exact ⟨rfl, F1.out⟩
            · have q16 : (x.f0 == 16) = false := by simp [c16]
              by_cases c18 : x.f0 = 18
              · have q18 : (x.f0 == 18) = true := by simp [c18]
                go_wp2_with fail
                go_ret
                exact ⟨rfl, F1.out⟩
              · have q18 : (x.f0 == 18) = false := by simp [c18]
                by_cases c20 : x.f0 = 20
                · have q20 : (x.f0 == 20) = true := by simp [c20]
                  go_wp2_with fail
                  go_ret
                  exact ⟨rfl, F1.out⟩
                · have q20 : (x.f0 == 20) = false := by simp [c20]
                  by_cases c15 : x.f0 = 15
                  · have q15 : (x.f0 == 15) = true := by simp [c15]
                    go_wp2_with fail
                    go_ret
                    exact ⟨rfl, F1.out⟩
                  · have q15 : (x.f0 == 15) = false := by simp [c15]
                    go_wp2_with fail
                    go_roundw
                    case rel =>
                      refine ⟨k + 1, by omega, by go_num, trivial, Lib.hid (fun j z hj hz => ?_)⟩
                      rcases Nat.lt_or_ge j k with h | h
                      · exact HX.out j z h hz
                      · obtain rfl : j = k := by omega
                        rw [HXX.out] at hz
                        cases hz
                        exact ⟨c14, c16, c18, c20, c15⟩
                    case measure => simp [intOf]; omega
        · obtain rfl : k = b.length := by omega
          have d0 : decide ((b.length : Int) < (b.length : Int)) = false := by simp
          have HFB := Lib.hid (show Flat b from fun t ht => by
            obtain ⟨j, hj⟩ := List.mem_iff_getElem?.1 ht
            obtain ⟨e1, e2, e3, e4, _⟩ := HX.out j t (List.getElem?_eq_some_iff.1 hj).1 hj
            exact ⟨e1, e2, e3, e4⟩)
          have HHB := Lib.hid (show ∀ t ∈ b, t.f0 ≠ 15 from fun t ht => by
            obtain ⟨j, hj⟩ := List.mem_iff_getElem?.1 ht
            exact (HX.out j t (List.getElem?_eq_some_iff.1 hj).1 hj).2.2.2.2)
          clear HX hk hlt
          have P1 := Lib.hid (show parV ((a ++ [tk 14]) ++ b) 0 = [⟨a, b⟩] by
            have := parV_block a b [] (tk 14) rfl HFA.out HFB.out HHB.out HHA.out (.inl rfl)
            simpa using this)
          have P2 := Lib.hid (show parV (((a ++ [tk 14]) ++ b) ++ [tk 15]) 0 = [⟨a, b⟩] by
            have := parV_block a b [tk 15] (tk 14) rfl HFA.out HFB.out HHB.out HHA.out (.inr ⟨_, rfl, rfl⟩)
            simpa using this)
          have P3 := Lib.hid (parV_none a HFA.out HHA.out)
          have HZA := Lib.hid HA.out.sizes
          have HZB := Lib.hid HB.out.sizes
          clear HFA HFB HHA HHB
          have la2 : a.length ≤ 500 := la
          have lb2 : b.length ≤ 500 := lb
          obtain ⟨na, hna⟩ : ∃ na, a.length = na := ⟨_, rfl⟩
          obtain ⟨nb, hnb⟩ : ∃ nb, b.length = nb := ⟨_, rfl⟩
          have HZT := Lib.hid (show ∀ x ∈ (a ++ [tk 14]) ++ b, x.f1.size ≤ maxLen from fun x hx => by
            simp only [List.mem_append, List.mem_singleton] at hx
            rcases hx with (h | rfl) | h
            · exact HZA.out x h
            · exact Nat.zero_le _
            · exact HZB.out x h)
          have HZU := Lib.hid (show ∀ x ∈ ((a ++ [tk 14]) ++ b) ++ [tk 15], x.f1.size ≤ maxLen from fun x hx => by
            rcases List.mem_append.1 hx with h | h
            · exact HZT.out x h
            · rw [List.mem_singleton.1 h]; exact Nat.zero_le _)
          have SA := Lib.hid (show ∀ W, Fr (fun _ => False) wr W → SrcW W 5 pa na (tL a) from fun W f => by rw [← hna]; exact ((HA.out.fr F1.out).fr f).src)
          have SB := Lib.hid (show ∀ W, Fr (fun _ => False) wr W → SrcW W 5 pb nb (tL b) from fun W f => by rw [← hnb]; exact ((HB.out.fr F1.out).fr f).src)
          have hl3 : ((a ++ [tk 14]) ++ b).length = na + 1 + nb := by simp [hna, hnb]; omega
          have hl4 : (((a ++ [tk 14]) ++ b) ++ [tk 15]).length = na + 1 + nb + 1 := by rw [List.length_append, hl3]; rfl
          have PA := Lib.hid (show ∀ W, Fr (fun _ => False) wr W → Calls Try.prog 18 #[.slice pa na ca] W fun e w' => ∃ v, e = .returned v ∧ RwR W [] v w' from fun W f => by
            have := Parse_any W pa ca a ((HA.out.fr F1.out).fr f) (by omega) HCA.out.1 HCA.out.2
            rwa [P3.out, hna] at this)
          rw [hna, hnb]
          rw [hna] at la la2
          rw [hnb] at lb lb2
          clear d0 a1 a2 b1 b2
          go_upto_region 22 with (first
            | (at_builtin; refine wpList_append_src _ rfl (.const (.slice none 0 0)) (.tmp 98) 22 rfl wr.heap.size 35 i35 _ 5 48 Try.underlying22 ha0 ha1 ha2 ha3 rfl (by omega) (.slice none 0 0) 0 ([]) rfl (OwnsWin.nil _ _ _ _) (pa) na _ (tL a) rfl (SA.out _ (Fr.refl _ _)) (tL_one_cell a) (by unfold maxLen; omega) (by omega) (Nat.le_refl _) ?_; intro s1 c1 w1 hown hgrow _; have T1 := Lib.hid (TW.first hna hown hgrow); rw [Nat.zero_add] at T1 ⊢; clear hown hgrow)
            | (at_builtin; refine wpList_append_src _ rfl (.tmp 99) (.tmp 101) 22 rfl wr.heap.size 35 i35 _ 5 48 Try.underlying22 ha0 ha1 ha2 ha3 rfl (by omega) (.slice s1 na c1) na (tL a) rfl ((T1.out.own hna).fr ((Fr.refl (fun _ => False) _).alloc _) (by simp)) (some ⟨_, 0, none⟩) 1 _ ([.int .i64 14, .string ⟨#[]⟩, .int .i64 0, .bool false, .int .i64 0]) rfl (SrcW.one (heapNew _ _) rfl) (by simp [Value.oneCell']) (by unfold maxLen; omega) (by omega) (by rw [World.size_alloc]; exact Nat.le_succ_of_le T1.out.fr.size) ?_; intro s2 c2 w2 hown hgrow _; have T2 := Lib.hid (show TW wr (a ++ [tk 14]) (.slice s2 (na + 1) c2) w2 from TW.ap (us := [tk 14]) hna rfl T1.out.fr (T1.out.own hna) ((Fr.refl _ _).alloc _) hown hgrow); clear hown hgrow)
            | (at_builtin; refine wpList_append_src _ rfl (.tmp 103) (.tmp 104) 22 rfl wr.heap.size 35 i35 _ 5 48 Try.underlying22 ha0 ha1 ha2 ha3 rfl (by omega) (.slice s2 (na + 1) c2) (na + 1) (tL (a ++ [tk 14])) rfl (T2.out.own (by simp [hna])) (pb) nb _ (tL b) rfl (SB.out _ T2.out.fr) (tL_one_cell b) (by unfold maxLen; omega) (by omega) T2.out.fr.size ?_; intro s3 c3 w3 hown hgrow _; have T3 := Lib.hid (show TW wr ((a ++ [tk 14]) ++ b) (.slice s3 (na + 1 + nb) c3) w3 from TW.ap (us := b) (by simp [hna]) hnb T2.out.fr (T2.out.own (by simp [hna])) (Fr.refl _ _) hown hgrow); clear hown hgrow)
            | (go_at_call 18; with_reducible refine (parse_own T3.out hl3 HZT.out (by omega)).mono ?_; rintro e w4 ⟨v4, rfl, h4⟩; rw [P1.out] at h4; have F4 := Lib.hid (T3.out.fr.trans h4.fr); have O4 := Lib.hid ((T3.out.own hl3).fr h4.fr (by simp)); obtain ⟨r1, k1, rfl, hr1⟩ := h4.rd; have R1 := Lib.hid hr1; clear h4 hr1)
            | (at_builtin; refine wpList_append_src _ rfl (.const (.slice none 0 0)) (.tmp 108) 22 rfl w4.heap.size 35 i35 _ 5 48 Try.underlying22 ha0 ha1 ha2 ha3 rfl (by omega) (.slice none 0 0) 0 ([]) rfl (OwnsWin.nil _ _ _ _) (s3) (na + 1 + nb) _ (tL ((a ++ [tk 14]) ++ b)) rfl (SrcW.of_win O4.out) (tL_one_cell _) (by unfold maxLen; omega) (by omega) (Nat.le_refl _) ?_; intro s5 c5 w5 hown hgrow _; have T5 := Lib.hid (TW.first hl3 hown hgrow); rw [Nat.zero_add] at T5 ⊢; clear hown hgrow)
            | (at_builtin; refine wpList_append_src _ rfl (.tmp 109) (.tmp 111) 22 rfl w4.heap.size 35 i35 _ 5 48 Try.underlying22 ha0 ha1 ha2 ha3 rfl (by omega) (.slice s5 (na + 1 + nb) c5) (na + 1 + nb) (tL ((a ++ [tk 14]) ++ b)) rfl ((T5.out.own hl3).fr ((Fr.refl (fun _ => False) _).alloc _) (by simp)) (some ⟨_, 0, none⟩) 1 _ ([.int .i64 15, .string ⟨#[]⟩, .int .i64 0, .bool false, .int .i64 0]) rfl (SrcW.one (heapNew _ _) rfl) (by simp [Value.oneCell']) (by unfold maxLen; omega) (by omega) (by rw [World.size_alloc]; exact Nat.le_succ_of_le T5.out.fr.size) ?_; intro s6 c6 w6 hown hgrow _; have T6 := Lib.hid (show TW w4 (((a ++ [tk 14]) ++ b) ++ [tk 15]) (.slice s6 (na + 1 + nb + 1) c6) w6 from TW.ap (us := [tk 15]) hl3 rfl T5.out.fr (T5.out.own hl3) ((Fr.refl _ _).alloc _) hown hgrow); clear hown hgrow)
            | (go_at_call 18; with_reducible refine (parse_own T6.out hl4 HZU.out (by omega)).mono ?_; rintro e w7 ⟨v7, rfl, h7⟩; rw [P2.out] at h7; have F7 := Lib.hid (T6.out.fr.trans h7.fr); obtain ⟨r2, k2, rfl, hr2⟩ := h7.rd; have R2 := Lib.hid hr2; clear h7 hr2)
            | (go_at_call 18; with_reducible refine (PA.out _ (F4.out.trans F7.out)).mono ?_; rintro e w8 ⟨v8, rfl, h8⟩; have F8 := Lib.hid (F7.out.trans h8.fr); have H8 := Lib.hid h8.fr; obtain ⟨r3, k3, rfl, -⟩ := h8.rd; clear h8))
          obtain ⟨g0, o0, p1, d1, p2, d2, hp0, hg0, x0, x1, t1, t2⟩ := (R2.out.fr H8.out) 0 _ rfl
          subst hp0
          have FF := Lib.hid ((F1.out.trans F4.out).trans F8.out)
          have RR1 := Lib.hid (R1.out.fr F8.out)
          have RR2 := Lib.hid (R2.out.fr H8.out)
          have RA := Lib.hid (((HA.out.fr F1.out).fr F4.out).fr F8.out)
          have RB := Lib.hid (((HB.out.fr F1.out).fr F4.out).fr F8.out)
          simp only [Nat.zero_mul, Nat.add_zero] at x0 x1
          have X1 := Lib.hid (show ∀ W, Fr (fun _ => False) w8 W → W.cell? ⟨g0, o0 + 1, none⟩ = some (.slice p2 nb d2) from fun W f => by rw [← hnb]; exact (f.cell (p := ⟨g0, o0 + 1, none⟩) hg0 (by simp)).trans x1)
          have SM1 := Lib.hid (show Calls Try.prog 20 #[.slice p1 na d1, .slice pa na ca] w8 fun e w' => e = .returned (.bool true) ∧ ∃ n, w' = w8.drewN n by
            have := sameT_any p1 pa d1 ca a w8 t1 RA.out (by omega); rwa [hna] at this)
          have SM2 := Lib.hid (show ∀ W, Fr (fun _ => False) w8 W → Calls Try.prog 20 #[.slice p2 nb d2, .slice pb nb cb] W fun e w' => e = .returned (.bool true) ∧ ∃ n, w' = W.drewN n from fun W f => by
            have := sameT_any p2 pb d2 cb b W (t2.fr f) (RB.out.fr f) (by omega); rwa [hnb] at this)
          have SM3 := Lib.hid (show ∀ W, Fr (fun _ => False) w8 W → Calls Try.prog 17 #[.slice r1 1 k1, .slice (some ⟨g0, o0, none⟩) 1 k2] W fun e w' => e = .returned (.bool true) ∧ Fr (fun _ => False) W w' from fun W f =>
            sameR_any r1 (some ⟨g0, o0, none⟩) k1 k2 [⟨a, b⟩] W (RR1.out.fr f) (RR2.out.fr f) (by simp) (by simp; omega))
          rw [hna] at x0
          clear x1 t1 t2 hg0 SA SB PA R1 R2 RA RB RR1 RR2 T1 T2 T3 T5 T6 F4 F7 F8 H8 O4 HA HB F1
          go_wp2_with (first
            | (go_at_call 20; with_reducible refine SM1.out.mono ?_; rintro e wA ⟨rfl, nA, hwA⟩; have GA := Lib.hid (show Fr (fun _ => False) w8 wA from by rw [hwA]; exact ⟨rfl, rfl, rfl, Nat.le_refl _, fun _ _ _ => rfl⟩); clear hwA; have y1 := X1.out _ GA.out)
            | (go_at_call 20; with_reducible refine (SM2.out _ GA.out).mono ?_; rintro e wB ⟨rfl, nB, hwB⟩; have GB := Lib.hid (GA.out.trans (show Fr (fun _ => False) wA wB from by rw [hwB]; exact ⟨rfl, rfl, rfl, Nat.le_refl _, fun _ _ _ => rfl⟩)); clear hwB)
            | (go_at_call 17; with_reducible refine (SM3.out _ GB.out).mono ?_; rintro e wC ⟨rfl, fC⟩; have GC := Lib.hid (GB.out.trans fC); clear fC))
          go_ret
          exact ⟨rfl, FF.out.trans GC.out⟩

theorem rulesBlocks_walk (va : Value) (a : List Tok) (vb : Value) (b : List Tok) (w : World) (ha : IsToks w va a) (hb : IsToks w vb b) :
    Calls Try.prog 9 #[va, vb] w fun e w' => e = .returned (.bool true) ∧ Below w.heap.size w w' := by
  obtain ⟨pa, ca, rfl, a1, a2, a3⟩ := ha
  obtain ⟨pb, cb, rfl, b1, b2, b3⟩ := hb
  exact (blocks_loops pa pb a b ca cb w a1 b1 a2 a3 b2 b3).mono (fun e w' ⟨he, f⟩ => ⟨he, f.below (Nat.le_refl _) (by simp)⟩)
end Go.Proofs.Ytknpdkfjmhpbpaa
