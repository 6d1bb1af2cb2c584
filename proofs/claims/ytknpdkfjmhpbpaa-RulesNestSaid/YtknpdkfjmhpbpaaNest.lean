/- RulesNest: the walk of the law. No condition. -/
import Derived.Test.YtknpdkfjmhpbpaaBlocks
import Derived.Test.YtknpdkfjmhpbpaaFind
namespace Go.Proofs.Ytknpdkfjmhpbpaa
open Go.RowKit Go.Maps Go.ChangeShapes Go.WideShapes Go.ChangeAt Go.WideMaps Go.WideElems

theorem and3 (n : Int) : bits .and .i64 n 3 = n % 4 := by
  have h : (BitVec.ofInt 64 n &&& BitVec.ofInt 64 3).toNat = (n % ((2 ^ 64 : Nat) : Int)).toNat % 2 ^ 2 := by
    rw [BitVec.toNat_and, BitVec.toNat_ofInt, show (BitVec.ofInt 64 3).toNat = 2 ^ 2 - 1 by decide, Nat.and_two_pow_sub_one_eq_mod]
  show IntKind.i64.wrap ((BitVec.ofInt 64 n &&& BitVec.ofInt 64 3).toNat : Nat) = n % 4
  rw [h, IntKind.wrap_i64]
  omega
def q4 (n : Int) : Nat := (n % 4).toNat
theorem q4_eq (n : Int) : bits .and .i64 n 3 = (q4 n : Int) ∧ q4 n < 4 := by
  rw [and3]
  unfold q4
  omega
theorem SrcW.many {w : World} {b m : Nat} {l : List Value} {T : TypeId} {fz : Nat × Nat} {size : Nat} (h : w.heap[b]? = some (.cells l.toArray T fz)) (hl : l.length = m * size) : SrcW w size (some ⟨b, 0, none⟩) m l := by
  refine ⟨hl, (by intro e; cases e), fun ad e j u hj => ?_⟩
  cases e
  rw [addOf _ _ rfl, cellOf h]
  simpa using hj
theorem RdT.take {w : World} {p : Option Addr} {ts : List Tok} (h : RdT w p ts) (m : Nat) : RdT w p (ts.take m) := by
  intro i x hx
  rw [List.getElem?_take] at hx
  split at hx
  · exact h i x hx
  · cases hx
theorem tab4 {W : World} {b : Nat} {f : Nat → Int} (h : W.heap[b]? = some (.cells #[.int .i64 (f 0), .int .i64 (f 1), .int .i64 (f 2), .int .i64 (f 3)] 3 (0, 0))) {q : Nat} (hq : q < 4) : W.cell? ⟨b, q, none⟩ = some (.int .i64 (f q)) := by
  rw [cellOf h]
  match q, hq with
  | 0, _ => rfl
  | 1, _ => rfl
  | 2, _ => rfl
  | 3, _ => rfl
theorem sizesU : ∀ qs : List Nat, ∀ x ∈ ups qs, x.f1.size ≤ maxLen := by
  intro qs x hx
  unfold ups at hx
  obtain ⟨q, _, h⟩ := List.mem_flatMap.1 hx
  simp only [List.mem_cons, List.not_mem_nil, or_false] at h
  rcases h with rfl | rfl <;> exact Nat.zero_le _

set_option maxRecDepth 100000 in
set_option maxHeartbeats 8000000 in
theorem nest_any (pk pm : Option Addr) (ks : List Int) (more : List Tok) (ck cm : Nat) (w : World) (h1 : RdZ w pk ks) (hk9 : ks.length ≤ 9223372036854775807) (h2 : RdT w pm more) (m1 : more.length ≤ cm) (m2 : cm ≤ maxLen) :
    Calls Try.prog 8 #[.slice pk ks.length ck, .slice pm more.length cm] w fun e w' => e = .returned (.bool true) ∧ Fr (fun _ => False) w w' := by
  obtain ⟨i35, ha0, ha1, ha2, ha3⟩ := info_parts info35
  have HK := Lib.hid h1
  have HM := Lib.hid h2
  unfold maxLen at m2
  clear h1 h2
  go_enter Try.func8, Try.ntmps8
  go_wp2_with fail
  refine (alive_any _).mono ?_
  rintro e w1 ⟨rfl, f1⟩
  have F1 := Lib.hid f1
  clear f1
  have BA := Lib.hid (Big_any pm cm more w1 (HM.out.fr F1.out) (by omega))
  go_wp2_with fail
  refine BA.out.mono ?_
  rintro e w' ⟨ba, rfl, rfl, hba⟩
  have HBA := Lib.hid hba
  clear hba BA
  cases ba with
  | true =>
    go_wp2_with fail
    go_ret
    exact ⟨rfl, F1.out⟩
  | false =>
  obtain ⟨lm, -⟩ := HBA.out rfl
  by_cases c1 : ks.length < 1
  · have q1 : decide ((ks.length : Int) < (1 : Int)) = true := decide_eq_true (by omega)
    go_wp2_with fail
    go_ret
    exact ⟨rfl, F1.out⟩
  have q1 : decide ((ks.length : Int) < (1 : Int)) = false := decide_eq_false (by omega)
  by_cases c2 : 30 < ks.length
  · have q2 : decide ((30 : Int) < (ks.length : Int)) = true := decide_eq_true (by omega)
    go_wp2_with fail
    go_ret
    exact ⟨rfl, F1.out⟩
  have q2 : decide ((30 : Int) < (ks.length : Int)) = false := decide_eq_false (by omega)
  have O0 := Lib.hid (show (w'.alloc (.cells #[.int .i64 14, .int .i64 16, .int .i64 18, .int .i64 20] 3)).heap[w'.heap.size]? = some (.cells #[.int .i64 14, .int .i64 16, .int .i64 18, .int .i64 20] 3 (0, 0)) from heapNew _ _)
  have O1 := Lib.hid (heapAlloc (o' := .cells #[.int .i64 15, .int .i64 17, .int .i64 19, .int .i64 17] 3) O0.out)
  have S1 := Lib.hid (show ((w'.alloc (.cells #[.int .i64 14, .int .i64 16, .int .i64 18, .int .i64 20] 3)).alloc (.cells #[.int .i64 15, .int .i64 17, .int .i64 19, .int .i64 17] 3)).heap[w'.heap.size + 1]? = some (.cells #[.int .i64 15, .int .i64 17, .int .i64 19, .int .i64 17] 3 (0, 0)) from by
    have := heapNew (w'.alloc (.cells #[.int .i64 14, .int .i64 16, .int .i64 18, .int .i64 20] 3)) (.cells #[.int .i64 15, .int .i64 17, .int .i64 19, .int .i64 17] 3)
    rwa [World.size_alloc] at this)
  have FB := Lib.hid ((F1.out.alloc (.cells #[.int .i64 14, .int .i64 16, .int .i64 18, .int .i64 20] 3)).alloc (.cells #[.int .i64 15, .int .i64 17, .int .i64 19, .int .i64 17] 3))
  go_upto_region 7 with fail
  generalize (w'.alloc (.cells #[.int .i64 14, .int .i64 16, .int .i64 18, .int .i64 20] 3)).alloc (.cells #[.int .i64 15, .int .i64 17, .int .i64 19, .int .i64 17] 3) = wb at *
  generalize w'.heap.size = ob at *
  clear O0 F1 HBA
  obtain ⟨L, hL⟩ : ∃ L, ks.length = L := ⟨_, rfl⟩
  rw [hL] at q1 q2 c1 c2 ⊢
  go_wp2_with fail
  go_loopw [9, 10] (fun v iv wr => ∃ (k : Nat), k ≤ L ∧ iv = .int .i64 k ∧ Hid (TW wb (ups ((ks.take k).map q4)) v wr)) (fun _ iv _ => L - (intOf iv).toNat)
  case atStart => exact ⟨0, by omega, rfl, Lib.hid ⟨⟨none, 0, rfl, OwnsWin.nil _ _ _ _⟩, Fr.refl _ _⟩⟩
  case round =>
    obtain ⟨k, hk, rfl, hT⟩ := hrel
    by_cases hlt : k < L
    · have d0 : decide ((k : Int) < (L : Int)) = true := decide_eq_true (by omega)
      obtain ⟨z, hz⟩ : ∃ z, ks[k]? = some z := ⟨ks[k], List.getElem?_eq_getElem (by omega)⟩
      obtain ⟨g, off, rfl, hg, a0⟩ := (HK.out.fr (FB.out.trans hT.out.fr)) k z hz
      obtain ⟨hq, hq4⟩ := q4_eq z
      have HTK := Lib.hid (show ups ((ks.take (k + 1)).map q4) = ups ((ks.take k).map q4) ++ [tk (opn (q4 z)), tk 12] by
        rw [List.take_add_one, hz, Option.toList_some, List.map_append, ups_app]; rfl)
      have o0 := tab4 (f := opn) (hT.out.fr.heap O1.out (by simp)) hq4
      have i1 : (k : Int) < (L : Int) := by omega
      generalize q4 z = q at *
      have i2 : (q : Int) < 4 := by omega
      obtain ⟨⟨sp, c9, rfl, hO⟩, hF⟩ := hT.out
      obtain ⟨n, hn⟩ : ∃ n, (ups ((ks.take k).map q4)).length = n := ⟨_, rfl⟩
      have hn2 : n ≤ 60 := by rw [← hn, ups_len, List.length_map, List.length_take]; omega
      rw [hn] at hO ⊢
      have HO := Lib.hid hO
      have HF := Lib.hid hF
      generalize ups ((ks.take k).map q4) = ts at *
      clear hz hg hT hO hF
      generalize opn q = oq at *
      go_wp2_with (at_builtin; refine wpList_append_src _ rfl (.tmp 42) (.tmp 53) 22 rfl wb.heap.size 35 i35 _ 5 48 Try.underlying22 ha0 ha1 ha2 ha3 rfl (by omega) (.slice sp n c9) n (tL ts) rfl (HO.out.fr ((Fr.refl (fun _ => False) _).alloc _) (by simp)) (some ⟨_, 0, none⟩) 2 2 [.int .i64 oq, .string ⟨#[]⟩, .int .i64 0, .bool false, .int .i64 0, .int .i64 12, .string ⟨#[]⟩, .int .i64 0, .bool false, .int .i64 0] rfl (SrcW.many (heapNew _ _) rfl) (by simp [Value.oneCell']) (by unfold maxLen; omega) (by omega) (by rw [World.size_alloc]; exact Nat.le_succ_of_le HF.out.size) ?_; intro s2 c2 w2 hown hgrow _; have T2 := Lib.hid (show TW wb (ts ++ [tk oq, tk 12]) (.slice s2 (n + 2) c2) w2 from TW.ap (us := [tk oq, tk 12]) hn rfl HF.out HO.out ((Fr.refl _ _).alloc _) hown hgrow); clear hown hgrow)
      go_roundw
      case rel => exact ⟨k + 1, by omega, by go_num, by rw [HTK.out]; exact T2⟩
      case measure => simp [intOf]; omega
    · obtain rfl : k = L := by omega
      have d0 : decide ((k : Int) < (k : Int)) = false := by simp
      have HT := Lib.hid (show TW wb (ups (ks.map q4)) _ wr from by have h := hT.out; rw [List.take_of_length_le (by omega)] at h; exact h)
      obtain ⟨⟨sp, c9, rfl, hO⟩, hF⟩ := HT.out
      obtain ⟨M, hM⟩ : ∃ M, (ups (ks.map q4)).length = M := ⟨_, rfl⟩
      have HM2 := Lib.hid (show M = 2 * k by rw [← hM, ups_len, List.length_map, hL])
      have hM3 : M ≤ 60 := by have := HM2.out; omega
      rw [hM] at HT ⊢
      have hqk : (ks.map q4).length = k := by rw [List.length_map, hL]
      have HLT := Lib.hid (show ∀ j, ((ks.drop j).reverse.map fun x => tk (sht (q4 x))).length = k - j from fun j => by rw [List.length_map, List.length_reverse, List.length_drop, hL])
      clear hT hO hF hlt hk
      have HDN := Lib.hid (show ups (ks.map q4) ++ ((ks.drop 0).reverse.map fun x => tk (sht (q4 x))) = ups (ks.map q4) ++ downs (ks.map q4) by
        unfold downs
        rw [List.drop_zero, ← List.map_reverse, List.map_map]
        rfl)
      have HMQ := Lib.hid hM
      generalize hqs : ks.map q4 = qs at *
      clear hqs
      go_wp2_with fail
      go_loopw [9, 12] (fun v iv wx => ∃ (j : Nat) (zi : Int), j ≤ k ∧ zi + 1 = (j : Int) ∧ iv = .int .i64 zi ∧ Hid (TW wb (ups qs ++ ((ks.drop j).reverse.map fun x => tk (sht (q4 x)))) v wx)) (fun _ iv _ => (intOf iv + 1).toNat)
      case atStart => exact ⟨k, _, by omega, by omega, rfl, Lib.hid (by rw [List.drop_eq_nil_of_le (by omega), List.reverse_nil, List.map_nil, List.append_nil]; exact HT.out)⟩
      case round =>
        clear HT d0
        obtain ⟨j, zi, hj, hzi, rfl, hT⟩ := hrel
        obtain ⟨⟨sp, c9, rfl, hO⟩, hF⟩ := hT.out
        obtain ⟨n, hn⟩ : ∃ n, (ups qs ++ ((ks.drop j).reverse.map fun x => tk (sht (q4 x)))).length = n := ⟨_, rfl⟩
        have HN2 := Lib.hid (show n = 3 * k - j by have := HM2.out; rw [← hn, List.length_append, hM, HLT.out]; omega)
        have hn2 : n ≤ 90 := by have := HN2.out; omega
        have hMn : M ≤ n := by have := HN2.out; have := HM2.out; omega
        rw [hn] at hO ⊢
        have HO := Lib.hid hO
        have HF := Lib.hid hF
        clear hO hF
        cases j with
        | succ j =>
          have d0 : decide ((0 : Int) ≤ (j : Int)) = true := decide_eq_true (by omega)
          obtain ⟨z, hz⟩ : ∃ z, ks[j]? = some z := ⟨ks[j], List.getElem?_eq_getElem (by omega)⟩
          obtain ⟨g, off, rfl, hg, a0⟩ := (HK.out.fr (FB.out.trans HF.out)) j z hz
          obtain ⟨hq, hq4⟩ := q4_eq z
          have HDJ := Lib.hid (show ups qs ++ ((ks.drop j).reverse.map fun x => tk (sht (q4 x))) = (ups qs ++ ((ks.drop (j + 1)).reverse.map fun x => tk (sht (q4 x)))) ++ [tk (sht (q4 z))] by
            obtain ⟨hlt, e⟩ := List.getElem?_eq_some_iff.1 hz
            rw [show (ks.drop j).reverse = (ks.drop (j + 1)).reverse ++ [z] by rw [List.drop_eq_getElem_cons hlt, List.reverse_cons, e], List.map_append, List.append_assoc]; rfl)
          have o0 := tab4 (f := sht) (HF.out.heap S1.out (by simp)) hq4
          have i1 : (j : Int) < (k : Int) := by omega
          obtain rfl : zi = (j : Int) := by omega
          generalize q4 z = q at *
          have i2 : (q : Int) < 4 := by omega
          generalize ups qs ++ ((ks.drop (j + 1)).reverse.map fun x => tk (sht (q4 x))) = ts at *
          clear hz hg hT
          generalize sht q = sq at *
          go_wp2_with (at_builtin; refine wpList_append_src _ rfl (.tmp 64) (.tmp 74) 22 rfl wb.heap.size 35 i35 _ 5 48 Try.underlying22 ha0 ha1 ha2 ha3 rfl (by omega) (.slice sp n c9) n (tL ts) rfl (HO.out.fr ((Fr.refl (fun _ => False) _).alloc _) (by simp)) (some ⟨_, 0, none⟩) 1 1 [.int .i64 sq, .string ⟨#[]⟩, .int .i64 0, .bool false, .int .i64 0] rfl (SrcW.one (heapNew _ _) rfl) (by simp [Value.oneCell']) (by unfold maxLen; omega) (by omega) (by rw [World.size_alloc]; exact Nat.le_succ_of_le HF.out.size) ?_; intro s2 c2 w2 hown hgrow _; have T2 := Lib.hid (show TW wb (ts ++ [tk sq]) (.slice s2 (n + 1) c2) w2 from TW.ap (us := [tk sq]) hn rfl HF.out HO.out ((Fr.refl _ _).alloc _) hown hgrow); clear hown hgrow)
          go_roundw
          case rel => exact ⟨j, (j : Int) - 1, by omega, by omega, by go_num, by rw [HDJ.out]; exact T2⟩
          case measure => first | (simp [intOf]; done) | (simp [intOf]; omega)
        | zero =>
          have d0 : decide ((0 : Int) ≤ (-1 : Int)) = false := rfl
          obtain rfl : zi = -1 := by omega
          have HNN := Lib.hid (show n = 3 * k by have := HN2.out; omega)
          clear HN2
          have HDT := Lib.hid (show TW wb (ups qs ++ downs qs) (.slice sp n c9) wr by rw [← HDN.out, ← hn]; exact hT.out)
          have hnT : (ups qs ++ downs qs).length = n := by rw [← HDN.out]; exact hn
          clear hT hn HDN HLT HO HF
          obtain ⟨nm, hnm⟩ : ∃ nm, more.length = nm := ⟨_, rfl⟩
          rw [hnm] at lm m1 ⊢
          have SM := Lib.hid (show ∀ W, Fr (fun _ => False) wb W → SrcW W 5 pm nm (tL more) from fun W f => by rw [← hnm]; exact ((HM.out.fr FB.out).fr f).src)
          have HZ := Lib.hid (show ∀ x ∈ (ups qs ++ downs qs) ++ more, x.f1.size ≤ maxLen from fun x hx => by
            rcases List.mem_append.1 hx with h | h
            · rcases List.mem_append.1 h with h | h
              · exact sizesU qs x h
              · obtain ⟨q, _, rfl⟩ := List.mem_map.1 h; exact Nat.zero_le _
            · exact HM.out.sizes x h)
          obtain ⟨wt, hwt⟩ : ∃ wt, wt = wr := ⟨_, rfl⟩
          rw [← hwt] at HDT
          have HW := Lib.hid (show Fr (fun _ => False) wt wr by rw [hwt]; exact Fr.refl _ _)
          have SD := Lib.hid (show SrcW wr 5 sp n (tL (ups qs ++ downs qs)) by rw [← hwt]; exact SrcW.of_win (HDT.out.own hnT))
          clear hwt
          go_upto_region 18 with (first
            | (at_builtin; refine wpList_append_src _ rfl (.const (.slice none 0 0)) (.tmp 76) 22 rfl wr.heap.size 35 i35 _ 5 48 Try.underlying22 ha0 ha1 ha2 ha3 rfl (by omega) (.slice none 0 0) 0 [] rfl (OwnsWin.nil _ _ _ _) sp n _ (tL (ups qs ++ downs qs)) rfl SD.out (tL_one_cell _) (by unfold maxLen; omega) (by omega) (Nat.le_refl _) ?_; intro s3 c3 w3 hown hgrow _; have T3 := Lib.hid (TW.first hnT hown hgrow); rw [Nat.zero_add] at T3 ⊢; clear hown hgrow)
            | (at_builtin; refine wpList_append_src _ rfl (.tmp 77) (.tmp 78) 22 rfl wr.heap.size 35 i35 _ 5 48 Try.underlying22 ha0 ha1 ha2 ha3 rfl (by omega) (.slice s3 n c3) n (tL (ups qs ++ downs qs)) rfl (T3.out.own hnT) pm nm _ (tL more) rfl (SM.out _ ((HDT.out.fr.trans HW.out).trans T3.out.fr)) (tL_one_cell _) (by unfold maxLen; omega) (by omega) T3.out.fr.size ?_; intro s4 c4 w4 hown hgrow _; have T4 := Lib.hid (show TW wr ((ups qs ++ downs qs) ++ more) (.slice s4 (n + nm) c4) w4 from TW.ap (us := more) hnT hnm T3.out.fr (T3.out.own hnT) (Fr.refl _ _) hown hgrow); clear hown hgrow))
          have hnA : ((ups qs ++ downs qs) ++ more).length = n + nm := by rw [List.length_append, hnT, hnm]
          have hO4 := T4.out.own hnA
          have hcap := (hO4.capLe rfl).1
          have hcm := (hO4.capLe rfl).2
          unfold maxLen at hcm
          have RA := Lib.hid (RdT.win hO4 HZ.out)
          have RU := Lib.hid (show RdT w4 s4 (ups qs) from by
            have h := RA.out.take M
            rw [List.append_assoc, ← hM, List.take_left' rfl] at h
            exact h)
          have FZ := Lib.hid ((FB.out.trans (HDT.out.fr.trans HW.out)).trans T4.out.fr)
          have SKA := Lib.hid (show ∀ (i : Nat), i < k → ∀ W, Fr (fun _ => False) w4 W → Calls Try.prog 22 #[.slice s4 (n + nm) c4, .int .i64 (2 * (i : Int))] W fun e w' => e = .returned (.int .i64 ((n : Int) - (i : Int))) ∧ Fr (fun _ => False) W w' from fun i hi W f => by
            have h := Skip_any W s4 c4 ((ups qs ++ downs qs) ++ more) (2 * (i : Int)) (RA.out.fr f) (by rw [hnA]; omega)
            have hnn := HNN.out
            rw [hnA, show (2 * (i : Int)) = ((2 * i : Nat) : Int) by omega, skA_in (by rw [hnA]; omega), nest_end qs more i (by omega), show ((3 * qs.length - i : Nat) : Int) = (n : Int) - (i : Int) by omega] at h
            rwa [show ((2 * i : Nat) : Int) = 2 * (i : Int) by omega] at h)
          have SKB := Lib.hid (show ∀ (i : Nat), i < k → ∀ W, Fr (fun _ => False) w4 W → Calls Try.prog 22 #[.slice s4 M c4, .int .i64 (2 * (i : Int))] W fun e w' => e = .returned (.int .i64 (M : Int)) ∧ Fr (fun _ => False) W w' from fun i hi W f => by
            have h := Skip_any W s4 c4 (ups qs) (2 * (i : Int)) (RU.out.fr f) (by rw [hM]; omega)
            have hM2 := HM2.out
            rw [hM, show (2 * (i : Int)) = ((2 * i : Nat) : Int) by omega, skA_in (by rw [hM]; omega), nest_open qs i (by omega), show ((2 * qs.length : Nat) : Int) = (M : Int) by omega] at h
            rwa [show ((2 * i : Nat) : Int) = 2 * (i : Int) by omega] at h)
          have SKC := Lib.hid (show ∀ W, Fr (fun _ => False) w4 W → Calls Try.prog 22 #[.slice s4 (n + nm) c4, .int .i64 1] W fun e w' => e = .returned (.int .i64 2) ∧ Fr (fun _ => False) W w' from fun W f => by
            have h := Skip_any W s4 c4 ((ups qs ++ downs qs) ++ more) 1 (RA.out.fr f) (by rw [hnA]; omega)
            have hnn := HNN.out
            have h1 : skV ((ups qs ++ downs qs) ++ more) 1 = 2 := by
              cases qs with
              | nil => simp at hqk; omega
              | cons q qs => exact skV_one _ 1 (by rw [hnA]; omega) (by show cl 12 = 0; decide)
            rw [hnA, show (1 : Int) = ((1 : Nat) : Int) from rfl, skA_in (by rw [hnA]; omega), h1] at h
            exact h)
          clear RA RU hO4 T3 T4 SD HDT HW SM HZ hnT hnA HMQ
          go_wp2_with fail
          go_loopw [14] (fun iv wx => ∃ (i : Nat), i ≤ k ∧ iv = .int .i64 i ∧ Hid (Fr (fun _ => False) w4 wx)) (fun iv _ => k - (intOf iv).toNat)
          case atStart => exact ⟨0, by omega, rfl, Lib.hid (Fr.refl _ _)⟩
          case round =>
            obtain ⟨i, hi, rfl, hF⟩ := hrel
            by_cases hlt : i < k
            · have d1 : decide ((i : Int) < (k : Int)) = true := decide_eq_true (by omega)
              have qa : ((n : Int) - (i : Int) != (n : Int) - (i : Int)) = false := by simp
              have qb : ((M : Int) != (M : Int)) = false := by simp
              have u1 : (M : Int) ≤ (c4 : Int) := by omega
              have u2 : M ≤ c4 := by omega
              go_wp2_with (first
                | (go_at_call 22; with_reducible refine (SKA.out i hlt _ hF.out).mono ?_; rintro e wA ⟨rfl, fA⟩; have GA := Lib.hid (hF.out.trans fA); clear fA)
                | (go_at_call 22; with_reducible refine (SKB.out i hlt _ GA.out).mono ?_; rintro e wB ⟨rfl, fB⟩; have GB := Lib.hid (GA.out.trans fB); clear fB))
              go_roundw
              case rel => exact ⟨i + 1, by omega, by go_num, GB⟩
              case measure => simp [intOf]; omega
            · obtain rfl : i = k := by omega
              have d1 : decide ((i : Int) < (i : Int)) = false := by simp
              go_wp2_with (go_at_call 22; with_reducible refine (SKC.out _ hF.out).mono ?_; rintro e wC ⟨rfl, fC⟩; have GC := Lib.hid (hF.out.trans fC); clear fC)
              go_ret
              exact ⟨rfl, FZ.out.trans GC.out⟩

theorem rulesNest_walk (v1 : Value) (ks : List Int) (v2 : Value) (more : List Tok) (w : World) (h1 : IsInts .i64 w v1 ks) (h2 : IsToks w v2 more) :
    Calls Try.prog 8 #[v1, v2] w fun e w' => e = .returned (.bool true) ∧ Below w.heap.size w w' := by
  obtain ⟨⟨p, c, rfl, k1, k2, k3⟩, _⟩ := h1
  obtain ⟨pm, cm, rfl, m1, m2, m3⟩ := h2
  unfold maxLen at k2
  exact (nest_any p pm ks more c cm w (fun i x hx => k3 i x hx) (by omega) m1 m2 m3).mono (fun e w' ⟨he, f⟩ => ⟨he, f.below (Nat.le_refl _) (by simp)⟩)
end Go.Proofs.Ytknpdkfjmhpbpaa
