/- Tokens, in the reference, of plain code points. -/
import Derived.Test.YtknpdkfjmhpbpaaName
import Derived.Deep.LoopGhost
namespace Go.Proofs.Ytknpdkfjmhpbpaa
open Go.RowKit Go.Maps Go.ChangeShapes Go.WideShapes Go.ChangeAt Go.WideMaps Go.WideElems

/-- Between two rounds. -/
structure TKs (w : World) (rb : Nat) (p : Option Addr) (c : Nat) (l : List Nat) (k : Nat) (acc : List Tok) (v : Value) (W : World) : Prop where
  row : ∃ sp cap, v = .slice sp acc.length cap ∧ OwnsWin W w.heap.size 35 5 (.slice sp acc.length cap) acc.length (tL acc)
  rd : Rd W rb p c l k
  fr : Fr (fun _ => False) w W
  rge : w.heap.size ≤ rb
  pg : ∀ g off, p = some ⟨g, off, none⟩ → l ≠ [] → g < w.heap.size
  eq : acc ++ tokS (l.drop k) = tokS l
  kle : k ≤ l.length
  ale : acc.length ≤ k
  siz : ∀ x ∈ acc, x.f1.size ≤ 100000
theorem TKs.snoc {w wr W1 w7 : World} {rb : Nat} {p sp s7 : Option Addr} {c c9 c7 n k k' : Nat} {l : List Nat} {acc : List Tok} {x : Tok} {Y : Obj} (h : TKs w rb p c l k acc (.slice sp n c9) wr) (hn : acc.length = n) (F1 : Fr (fun j => j = rb) wr W1) (R1 : Rd W1 rb p c l k')
    (heq : tokS (l.drop k) = x :: tokS (l.drop k')) (hk : k < k') (hk' : k' ≤ l.length) (hsz : x.f1.size ≤ 100000)
    (hown : OwnsWin w7 w.heap.size 35 5 (.slice s7 (n + 1) c7) (n + 1) (tL acc ++ tV x)) (hgrow : (W1.alloc Y).grownBy w7 (Value.slice sp n c9).ownBlock) : TKs w rb p c l k' (acc ++ [x]) (.slice s7 (n + 1) c7) w7 := by
  obtain ⟨⟨sp', c', e, hO⟩, hR, hF, h1, h2, h3, h4, h5, h6⟩ := h
  rw [hn] at e hO
  cases e
  have hl : (acc ++ [x]).length = n + 1 := by simp [hn]
  have g : Fr (fun j => (Value.slice sp n c9).ownBlock = some j) W1 w7 := ((Fr.refl _ W1).alloc Y).grown hgrow (fun k e => .inl e)
  have hne := hO.ne hR.b (by intro c; simp)
  refine ⟨⟨s7, c7, by rw [hl], by rw [hl, tL_app, tL_one]; exact hown⟩, R1.step g (fun e => hne e.symm) (fun g' off hp hnl e => by have := (hO.lt _ e).1; have := h2 g' off hp hnl; omega),
    (hF.step F1 (fun i e => .inr (by omega))).step g (fun i e => .inr (hO.lt _ e).1), h1, h2, by rw [List.append_assoc, List.singleton_append, ← heq]; exact h3, hk', by rw [hl]; omega, fun y hy => ?_⟩
  rcases List.mem_append.1 hy with hy | hy
  · exact h6 y hy
  · rw [List.mem_singleton.1 hy]; exact hsz
theorem TKs.own1 {w wr W1 : World} {rb : Nat} {p sp : Option Addr} {c c9 n k : Nat} {l : List Nat} {acc : List Tok} (h : TKs w rb p c l k acc (.slice sp n c9) wr) (hn : acc.length = n) (F1 : Fr (fun j => j = rb) wr W1) : OwnsWin W1 w.heap.size 35 5 (.slice sp n c9) n (tL acc) ∧ Fr (fun _ => False) w W1 := by
  obtain ⟨⟨sp', c', e, hO⟩, hR, hF, h1, -⟩ := h
  rw [hn] at e hO
  cases e
  have hne := hO.ne hR.b (by intro c; simp)
  exact ⟨hO.fr F1 (fun j e1 e2 => hne (by rw [e1, e2])), hF.step F1 (fun i e => .inr (by omega))⟩
theorem bOf_size (l : List Nat) : (bOf l).size = l.length := by simp [bOf, ByteArray.size]
theorem tw_len {α : Type} (p : α → Bool) : ∀ l : List α, (l.takeWhile p).length ≤ l.length
  | [] => by simp
  | x :: r => by
    rw [List.takeWhile_cons]
    split
    · have := tw_len p r; simp; omega
    · simp
theorem drop_tw (p : Nat → Bool) : ∀ l : List Nat, l.drop (l.takeWhile p).length = l.dropWhile p
  | [] => rfl
  | x :: r => by
    by_cases h : p x = true
    · rw [List.takeWhile_cons_of_pos h, List.dropWhile_cons_of_pos h, List.length_cons, List.drop_succ_cons]
      exact drop_tw p r
    · rw [List.takeWhile_cons_of_neg h, List.dropWhile_cons_of_neg h]
      rfl

set_option maxRecDepth 100000 in
set_option maxHeartbeats 8000000 in
theorem Tokens_any (w : World) (p : Option Addr) (c : Nat) (l : List Nat) (h : RdZ w p (zl l)) (ho : Okl l) (hl : l.length ≤ 100000) :
    Calls Try.prog 31 #[.slice p l.length c] w fun e w' => ∃ v, e = .returned v ∧ NewT w (tokS l) v w' ∧ (tokS l).length ≤ l.length ∧ ∀ x ∈ tokS l, x.f1.size ≤ 100000 := by
  obtain ⟨i35, ha0, ha1, ha2, ha3⟩ := info_parts info35
  have HO := Lib.hid ho
  have HPG := Lib.hid (show ∀ g off, p = some ⟨g, off, none⟩ → l ≠ [] → g < w.heap.size from fun g off hp hn => by
    cases l with
    | nil => exact absurd rfl hn
    | cons x r =>
      obtain ⟨g', off', hp', hg, _⟩ := h 0 (x : Int) rfl
      rw [hp] at hp'
      cases hp'
      exact hg)
  have H0 := Lib.hid (show Rd (w.alloc (.cells #[.slice p l.length c, .int .i64 0] 63)) w.heap.size p c l 0 from ⟨heapNew _ _, h.fr ((Fr.refl _ w).alloc _), fun g off hp hn => by have := HPG.out g off hp hn; omega⟩)
  have hF0 := Lib.hid ((Fr.refl (fun _ => False) w).alloc (.cells #[.slice p l.length c, .int .i64 0] 63))
  clear h ho
  go_enter Try.func31, Try.ntmps31
  go_upto_region 2 with fail
  generalize w.alloc (.cells #[.slice p l.length c, .int .i64 0] 63) = wa at *
  have HT0 := Lib.hid (show TKs w w.heap.size p c l 0 [] (.slice none 0 0) wa from ⟨⟨none, 0, rfl, OwnsWin.nil _ _ _ _⟩, H0.out, hF0.out, Nat.le_refl _, HPG.out, rfl, by omega, by simp, by simp⟩)
  obtain ⟨rb, hrb⟩ : ∃ rb, w.heap.size = rb := ⟨_, rfl⟩
  rw [show TKs w w.heap.size p c l 0 [] (.slice none 0 0) wa = TKs w rb p c l 0 [] (.slice none 0 0) wa by rw [hrb]] at HT0
  rw [hrb]
  clear H0 hF0
  go_wp2_with fail
  go_loopw [4] (fun v wr => ∃ (k : Nat) (acc : List Tok), Hid (TKs w rb p c l k acc v wr)) (fun v _ => l.length - lenOf v)
  case atStart => exact ⟨0, [], HT0⟩
  case round =>
    clear HT0
    obtain ⟨k, acc, h1⟩ := hrel
    have hkl := h1.out.kle
    have hal := h1.out.ale
    obtain ⟨sp, c9, hv, -⟩ := h1.out.row
    obtain ⟨n, hn⟩ : ∃ n, acc.length = n := ⟨_, rfl⟩
    rw [hn] at hv hal
    subst hv
    have SE := Lib.hid (show ∀ W, Fr (fun _ => False) wr W → Calls Try.prog 43 #[.pointer (some ⟨rb, 0, none⟩), .int .i64 0] W fun e w' => e = .returned (.int .i64 (seeV l k)) ∧ Fr (fun _ => False) W w' from fun W f => see0_any W rb p c l k (h1.out.rd.fr f) HO.out (by omega))
    have G0 : Fr (fun _ => False) wr wr := Fr.refl _ _
    by_cases hlt : k < l.length
    · obtain ⟨x, hx⟩ : ∃ x, l[k]? = some x := ⟨l[k], List.getElem?_eq_getElem hlt⟩
      rw [seeV_some hx] at SE
      have hok := okZ_of (HO.out x (List.mem_of_getElem? hx))
      have NU := Lib.hid (show ∀ W, Fr (fun _ => False) wr W → Calls Try.prog 44 #[.pointer (some ⟨rb, 0, none⟩)] W fun e w' => e = .returned (.bool false) ∧ Fr (fun _ => False) W w' from fun W f => number_any W rb p c l k (h1.out.rd.fr f) HO.out (by omega))
      have BE := Lib.hid (show ∀ W, Fr (fun _ => False) wr W → Calls Try.prog 45 #[.pointer (some ⟨rb, 0, none⟩), .int .i64 0] W fun e w' => e = .returned (.bool (letZ (x : Int))) ∧ Fr (fun _ => False) W w' from fun W f => by
        have := begins0_any W rb p c l k (h1.out.rd.fr f) HO.out (by omega); rwa [seeV_some hx] at this)
      have WH := Lib.hid (white_any (x : Int) hok)
      have SG := Lib.hid (sign_any (x : Int) hok)
      have e1 : ((x : Int) == 47) = false := by rw [beq_eq_false_iff_ne]; unfold okZ at hok; omega
      have e2 : ((x : Int) == 34) = false := by rw [beq_eq_false_iff_ne]; unfold okZ at hok; omega
      have e3 : ((x : Int) == 39) = false := by rw [beq_eq_false_iff_ne]; unfold okZ at hok; omega
      have e4 : ((x : Int) == 35) = false := by rw [beq_eq_false_iff_ne]; unfold okZ at hok; omega
      have e5 : ((x : Int) == 64) = false := by rw [beq_eq_false_iff_ne]; unfold okZ at hok; omega
      have hge : decide ((0 : Int) ≤ (x : Int)) = true := decide_eq_true (by omega)
      have HD := Lib.hid (drop_at hx)
      have qk : IntKind.i64.wrap ((k : Int) + 1) = (k : Int) + 1 := IntWalk.i64_in _ (by omega)
      by_cases hw : x = 32
      · subst hw
        have WH := Lib.hid (show ∀ W, Calls Try.prog 46 #[.int .i64 32] W fun e w' => e = .returned (.bool true) ∧ w' = W from fun W => white_any 32 (by unfold okZ; omega) W)
        have hwx : wh 32 = true := rfl
        have HEQ0 := Lib.hid (show tokS (l.drop k) = ⟨9, ⟨#[]⟩, 0, false, 0⟩ :: tokS ((l.drop k).dropWhile wh) by rw [dw_at hx hwx, HD.out, tokS_cons, if_pos rfl])
        have HNE := Lib.hid (show ∀ k2, whZ (seeV l k2) = false → k2 ≠ k from fun k2 e1 e2 => by rw [e2, seeV_some hx, whZ_of, hwx] at e1; cases e1)
        clear hx hok hwx
        go_wp2_with (first
  | (go_at_call 43; refine (SE.out _ (by assumption)).mono ?_; rintro e w1 ⟨rfl, f1⟩; have G1 := Fr.trans (by assumption) f1; have HG := Lib.hid G1; clear f1)
  | (go_at_call 44; refine (NU.out _ (by assumption)).mono ?_; rintro e w2 ⟨rfl, f2⟩; have G2 := Fr.trans (by assumption) f2; have HG := Lib.hid G2; clear f2)
  | (go_at_call 45; refine (BE.out _ (by assumption)).mono ?_; rintro e w3 ⟨rfl, f3⟩; have G3 := Fr.trans (by assumption) f3; have HG := Lib.hid G3; have b1 := cellOf (h1.out.rd.fr G3).b 1; have z1 := frozenOf (h1.out.rd.fr G3).b 1; simp at b1; clear f3)
  | (go_at_call 46; refine (WH.out _).mono ?_; rintro e w' ⟨rfl, rfl⟩)
  | (go_at_call 52; refine (SG.out _).mono ?_; rintro e w' ⟨rfl, rfl⟩))
        have HSZ := Lib.hid (show (⟨#[]⟩ : ByteArray).size ≤ 100000 by decide)
        have HR0 := Lib.hid (h1.out.rd.fr HG.out)
        have HF0 := Lib.hid (show Fr (fun j => j = rb) wr w' from HG.out.mono (fun _ _ e => e.elim))
        obtain ⟨w0, rfl⟩ : ∃ w0 : World, w0 = wr := ⟨_, rfl⟩
        clear G0 G1 G2 G3 b1 z1 SE NU BE WH SG HG
        go_loopg [86] (l.length - k) (fun gk _ wx => ∃ k2, gk = l.length - k2 ∧ k ≤ k2 ∧ k2 ≤ l.length ∧ Hid (Rd wx rb p c l k2) ∧ Hid (Fr (fun j => j = rb) w0 wx) ∧ Hid ((l.drop k2).dropWhile wh = (l.drop k).dropWhile wh))
        case atStart => exact ⟨k, rfl, by omega, by omega, HR0, HF0, Lib.hid rfl⟩
        case round =>
          clear HR0 HF0
          obtain ⟨k2, rfl, hk1, hk3, HRx, HFx, HDW⟩ := hrel
          have SE := Lib.hid (see0_any wr rb p c l k2 HRx.out HO.out (by omega))
          have WH := Lib.hid (white_any (seeV l k2) (seeV_ok HO.out k2))
          by_cases hwz : whZ (seeV l k2) = true
          · rw [hwz] at WH
            obtain ⟨y, hy⟩ : ∃ y, l[k2]? = some y := by
              cases hy : l[k2]? with
              | some y => exact ⟨y, rfl⟩
              | none => rw [show seeV l k2 = -1 by unfold seeV; rw [hy]] at hwz; cases hwz
            rw [seeV_some hy, whZ_of] at hwz
            have hk4 := (List.getElem?_eq_some_iff.1 hy).1
            have HDW2 := Lib.hid (show (l.drop (k2 + 1)).dropWhile wh = (l.drop k).dropWhile wh by rw [← dw_at hy hwz]; exact HDW.out)
            have qk2 : IntKind.i64.wrap ((k2 : Int) + 1) = (k2 : Int) + 1 := IntWalk.i64_in _ (by omega)
            clear hy hwz HDW
            go_wp2_with (first
              | (go_at_call 43; refine SE.out.mono ?_; rintro e w5 ⟨rfl, f5⟩; have HR5 := Lib.hid (HRx.out.fr f5); have b5 := cellOf HR5.out.b 1; have z5 := frozenOf HR5.out.b 1; simp at b5; have HF5 := Lib.hid (HFx.out.trans (f5.mono (fun _ _ e => e.elim))); clear f5)
              | (go_at_call 46; refine (WH.out _).mono ?_; rintro e w' ⟨rfl, rfl⟩))
            go_roundg (l.length - (k2 + 1))
            case rel =>
              obtain ⟨R4, f4⟩ := HR5.out.set ((k2 : Int) + 1) (k2 + 1) (by omega)
              exact ⟨k2 + 1, rfl, by omega, by omega, Lib.hid R4, Lib.hid (HF5.out.trans f4), HDW2⟩
            case measure => omega
          · have hwf : whZ (seeV l k2) = false := by simpa using hwz
            rw [hwf] at WH
            have hne := HNE.out k2 hwf
            have HEQ := Lib.hid (show tokS (l.drop k) = ⟨9, ⟨#[]⟩, 0, false, 0⟩ :: tokS (l.drop k2) by
              rw [HEQ0.out, ← HDW.out, (dw_stop (p := wh) (k := k2) (fun c' hc' => by rw [seeV_some hc', whZ_of] at hwf; exact hwf)).1])
            clear hwz hwf HEQ0 HDW
            go_wp2_with (first
  | (go_at_call 43; refine SE.out.mono ?_; rintro e w5 ⟨rfl, f5⟩; have HR1 := Lib.hid (HRx.out.fr f5); have HF1 := Lib.hid (HFx.out.trans (f5.mono (fun _ _ e => e.elim))); have HOW := Lib.hid (h1.out.own1 hn HF1.out).1; have HFW := Lib.hid (h1.out.own1 hn HF1.out).2; clear f5)
  | (go_at_call 46; refine (WH.out _).mono ?_; rintro e w' ⟨rfl, rfl⟩)
  | (at_builtin; refine wpList_append_src _ rfl (.tmp 94) (.tmp 96) 22 rfl w.heap.size 35 i35 _ 5 48 Try.underlying22 ha0 ha1 ha2 ha3 rfl (by omega) (.slice sp n c9) n (tL acc) rfl (HOW.out.fr ((Fr.refl (fun _ => False) _).alloc _) (by simp)) (some ⟨_, 0, none⟩) 1 1 [.int .i64 9, .string ⟨#[]⟩, .int .i64 0, .bool false, .int .i64 0] rfl (SrcW.one (heapNew _ _) rfl) (by simp [Value.oneCell']) (by unfold maxLen; omega) (by omega) (by rw [World.size_alloc]; exact Nat.le_succ_of_le HFW.out.size) ?_; intro s7 c7 w7 hown hgrow _; have R7 := Lib.hid (TKs.snoc (x := ⟨9, ⟨#[]⟩, 0, false, 0⟩) h1.out hn HF1.out HR1.out HEQ.out (by omega) (by omega) (HSZ.out) hown hgrow); clear hown hgrow))
            go_roundw
            case rel => exact ⟨_, _, R7⟩
            case measure => show l.length - (n + 1) < l.length - n; omega
      · have hwz : whZ (x : Int) = false := by rw [whZ_of]; unfold wh; exact decide_eq_false hw
        rw [hwz] at WH
        by_cases hlet : letN x = true
        · rw [show letZ (x : Int) = true by rw [letZ_of, hlet]] at BE
          have hT := tw_at (p := letN) hx hlet
          have hT2 := drop_tw letN (l.drop k)
          have hT3 := tw_len letN (l.drop k)
          rw [List.drop_drop] at hT2
          rw [List.length_drop] at hT3
          have HEQ0 := Lib.hid (show tokS (l.drop k) = ⟨1, bOf ((l.drop k).takeWhile letN), 0, false, 0⟩ :: tokS (l.drop (k + ((l.drop k).takeWhile letN).length)) by
            rw [hT2, dw_at hx hlet, hT, HD.out, tokS_cons, if_neg hw, if_pos hlet])
          have hT4 : 0 < ((l.drop k).takeWhile letN).length := by rw [hT]; simp
          have NM := Lib.hid (show ∀ W, Fr (fun _ => False) wr W → Calls Try.prog 50 #[.pointer (some ⟨rb, 0, none⟩)] W fun e w' => e = .returned (.string (bOf ((l.drop k).takeWhile letN))) ∧ Rd w' rb p c l (k + ((l.drop k).takeWhile letN).length) ∧ Fr (fun j => j = rb) W w' from fun W f => name_any W rb p c l k (h1.out.rd.fr f) HO.out hl hkl)
          have HSZ := Lib.hid (show (bOf ((l.drop k).takeWhile letN)).size ≤ 100000 by rw [bOf_size]; omega)
          generalize (l.drop k).takeWhile letN = T at *
          obtain ⟨k2, hk2⟩ : ∃ k2, k + T.length = k2 := ⟨_, rfl⟩
          rw [hk2] at HEQ0 NM
          have HEQ := HEQ0
          have hz := seeV_ok HO.out k2
          have q40 : (seeV l k2 == 40) = false := by rw [beq_eq_false_iff_ne]; unfold okZ at hz; omega
          clear hx hok hw hwz hlet hT hT2 hz HEQ0
          go_upto_region 33 with (first
  | (go_at_call 43; refine (SE.out _ (by assumption)).mono ?_; rintro e w1 ⟨rfl, f1⟩; have G1 := Fr.trans (by assumption) f1; have HG := Lib.hid G1; clear f1)
  | (go_at_call 44; refine (NU.out _ (by assumption)).mono ?_; rintro e w2 ⟨rfl, f2⟩; have G2 := Fr.trans (by assumption) f2; have HG := Lib.hid G2; clear f2)
  | (go_at_call 45; refine (BE.out _ (by assumption)).mono ?_; rintro e w3 ⟨rfl, f3⟩; have G3 := Fr.trans (by assumption) f3; have HG := Lib.hid G3; have b1 := cellOf (h1.out.rd.fr G3).b 1; have z1 := frozenOf (h1.out.rd.fr G3).b 1; simp at b1; clear f3)
  | (go_at_call 46; refine (WH.out _).mono ?_; rintro e w' ⟨rfl, rfl⟩)
  | (go_at_call 52; refine (SG.out _).mono ?_; rintro e w' ⟨rfl, rfl⟩))
          go_wp2_with (first
  | (go_at_call 50; refine (NM.out _ HG.out).mono ?_; rintro e w5 ⟨rfl, R5, f5⟩; have HR5 := Lib.hid R5; have HF5 := Lib.hid ((HG.out.mono (fun _ _ e => e.elim)).trans f5); clear R5 f5)
  | (go_at_call 43; refine (see0_any _ rb p c l k2 HR5.out HO.out (by omega)).mono ?_; rintro e w6 ⟨rfl, f6⟩; have HR1 := Lib.hid (HR5.out.fr f6); have HF1 := Lib.hid (HF5.out.trans (f6.mono (fun _ _ e => e.elim))); have HOW := Lib.hid (h1.out.own1 hn HF1.out).1; have HFW := Lib.hid (h1.out.own1 hn HF1.out).2; clear f6)
  | (at_builtin; refine wpList_append_src _ rfl (.tmp 185) (.tmp 188) 22 rfl w.heap.size 35 i35 _ 5 48 Try.underlying22 ha0 ha1 ha2 ha3 rfl (by omega) (.slice sp n c9) n (tL acc) rfl (HOW.out.fr ((Fr.refl (fun _ => False) _).alloc _) (by simp)) (some ⟨_, 0, none⟩) 1 1 [.int .i64 1, .string (bOf T), .int .i64 0, .bool false, .int .i64 0] rfl (SrcW.one (heapNew _ _) rfl) (by simp [Value.oneCell']) (by unfold maxLen; omega) (by omega) (by rw [World.size_alloc]; exact Nat.le_succ_of_le HFW.out.size) ?_; intro s7 c7 w7 hown hgrow _; have R7 := Lib.hid (TKs.snoc (x := ⟨1, bOf T, 0, false, 0⟩) h1.out hn HF1.out HR1.out HEQ.out (by omega) (by omega) (HSZ.out) hown hgrow); clear hown hgrow))
          go_roundw
          case rel => exact ⟨_, _, R7⟩
          case measure => show l.length - (n + 1) < l.length - n; omega
        · rw [show letZ (x : Int) = false by rw [letZ_of]; simpa using hlet] at BE
          have HSZ := Lib.hid (show (⟨#[]⟩ : ByteArray).size ≤ 100000 by decide)
          by_cases hs : 0 < sgnN x
          · have HEQ := Lib.hid (show tokS (l.drop k) = ⟨sgnN x, ⟨#[]⟩, 0, false, 0⟩ :: tokS (l.drop (k + 1)) by rw [HD.out, tokS_cons, if_neg hw, if_neg hlet, if_pos hs])
            rw [sgnZ_of] at SG
            have q6 : decide ((0 : Int) < sgnN x) = true := decide_eq_true hs
            generalize sgnN x = sg at *
            clear hx hok hw hwz hlet hs
            go_upto_region 39 with (first
  | (go_at_call 43; refine (SE.out _ (by assumption)).mono ?_; rintro e w1 ⟨rfl, f1⟩; have G1 := Fr.trans (by assumption) f1; have HG := Lib.hid G1; clear f1)
  | (go_at_call 44; refine (NU.out _ (by assumption)).mono ?_; rintro e w2 ⟨rfl, f2⟩; have G2 := Fr.trans (by assumption) f2; have HG := Lib.hid G2; clear f2)
  | (go_at_call 45; refine (BE.out _ (by assumption)).mono ?_; rintro e w3 ⟨rfl, f3⟩; have G3 := Fr.trans (by assumption) f3; have HG := Lib.hid G3; have b1 := cellOf (h1.out.rd.fr G3).b 1; have z1 := frozenOf (h1.out.rd.fr G3).b 1; simp at b1; clear f3)
  | (go_at_call 46; refine (WH.out _).mono ?_; rintro e w' ⟨rfl, rfl⟩)
  | (go_at_call 52; refine (SG.out _).mono ?_; rintro e w' ⟨rfl, rfl⟩))
            obtain ⟨R4, f4⟩ := (h1.out.rd.fr HG.out).set ((k : Int) + 1) (k + 1) (by omega)
            have HF1 := Lib.hid ((HG.out.mono (fun _ _ e => e.elim)).trans f4)
            have HR1 := Lib.hid R4
            obtain ⟨ow, fw⟩ := h1.out.own1 hn HF1.out
            have HOW := Lib.hid ow
            have HFW := Lib.hid fw
            clear R4 f4 ow fw
            go_upto_region 40 with fail
            generalize w'.setCell ⟨rb, 1, none⟩ (.int .i64 ((k : Int) + 1)) = wz at *
            go_wp2_with (first
  | (go_at_call 43; refine (SE.out _ (by assumption)).mono ?_; rintro e w1 ⟨rfl, f1⟩; have G1 := Fr.trans (by assumption) f1; have HG := Lib.hid G1; clear f1)
  | (go_at_call 44; refine (NU.out _ (by assumption)).mono ?_; rintro e w2 ⟨rfl, f2⟩; have G2 := Fr.trans (by assumption) f2; have HG := Lib.hid G2; clear f2)
  | (go_at_call 45; refine (BE.out _ (by assumption)).mono ?_; rintro e w3 ⟨rfl, f3⟩; have G3 := Fr.trans (by assumption) f3; have HG := Lib.hid G3; have b1 := cellOf (h1.out.rd.fr G3).b 1; have z1 := frozenOf (h1.out.rd.fr G3).b 1; simp at b1; clear f3)
  | (go_at_call 46; refine (WH.out _).mono ?_; rintro e w' ⟨rfl, rfl⟩)
  | (go_at_call 52; refine (SG.out _).mono ?_; rintro e w' ⟨rfl, rfl⟩)
  | (at_builtin; refine wpList_append_src _ rfl (.tmp 201) (.tmp 205) 22 rfl w.heap.size 35 i35 _ 5 48 Try.underlying22 ha0 ha1 ha2 ha3 rfl (by omega) (.slice sp n c9) n (tL acc) rfl (HOW.out.fr ((Fr.refl (fun _ => False) _).alloc _) (by simp)) (some ⟨_, 0, none⟩) 1 1 [.int .i64 sg, .string ⟨#[]⟩, .int .i64 0, .bool false, .int .i64 0] rfl (SrcW.one (heapNew _ _) rfl) (by simp [Value.oneCell']) (by unfold maxLen; omega) (by omega) (by rw [World.size_alloc]; exact Nat.le_succ_of_le HFW.out.size) ?_; intro s7 c7 w7 hown hgrow _; have R7 := Lib.hid (TKs.snoc (x := ⟨sg, ⟨#[]⟩, 0, false, 0⟩) h1.out hn HF1.out HR1.out HEQ.out (by omega) (by omega) (HSZ.out) hown hgrow); clear hown hgrow))
            go_roundw
            case rel => exact ⟨_, _, R7⟩
            case measure => show l.length - (n + 1) < l.length - n; omega
          · have HEQ := Lib.hid (show tokS (l.drop k) = ⟨10, ⟨#[]⟩, 0, false, (x : Int)⟩ :: tokS (l.drop (k + 1)) by rw [HD.out, tokS_cons, if_neg hw, if_neg hlet, if_neg hs])
            rw [sgnZ_of] at SG
            have q6 : decide ((0 : Int) < sgnN x) = false := decide_eq_false hs
            generalize sgnN x = sg at *
            clear hx hok hw hwz hlet hs
            go_upto_region 7 with (first
  | (go_at_call 43; refine (SE.out _ (by assumption)).mono ?_; rintro e w1 ⟨rfl, f1⟩; have G1 := Fr.trans (by assumption) f1; have HG := Lib.hid G1; clear f1)
  | (go_at_call 44; refine (NU.out _ (by assumption)).mono ?_; rintro e w2 ⟨rfl, f2⟩; have G2 := Fr.trans (by assumption) f2; have HG := Lib.hid G2; clear f2)
  | (go_at_call 45; refine (BE.out _ (by assumption)).mono ?_; rintro e w3 ⟨rfl, f3⟩; have G3 := Fr.trans (by assumption) f3; have HG := Lib.hid G3; have b1 := cellOf (h1.out.rd.fr G3).b 1; have z1 := frozenOf (h1.out.rd.fr G3).b 1; simp at b1; clear f3)
  | (go_at_call 46; refine (WH.out _).mono ?_; rintro e w' ⟨rfl, rfl⟩)
  | (go_at_call 52; refine (SG.out _).mono ?_; rintro e w' ⟨rfl, rfl⟩))
            obtain ⟨R4, f4⟩ := (h1.out.rd.fr HG.out).set ((k : Int) + 1) (k + 1) (by omega)
            have HF1 := Lib.hid ((HG.out.mono (fun _ _ e => e.elim)).trans f4)
            have HR1 := Lib.hid R4
            obtain ⟨ow, fw⟩ := h1.out.own1 hn HF1.out
            have HOW := Lib.hid ow
            have HFW := Lib.hid fw
            clear R4 f4 ow fw
            go_upto_region 8 with fail
            generalize w'.setCell ⟨rb, 1, none⟩ (.int .i64 ((k : Int) + 1)) = wz at *
            go_wp2_with (first
  | (go_at_call 43; refine (SE.out _ (by assumption)).mono ?_; rintro e w1 ⟨rfl, f1⟩; have G1 := Fr.trans (by assumption) f1; have HG := Lib.hid G1; clear f1)
  | (go_at_call 44; refine (NU.out _ (by assumption)).mono ?_; rintro e w2 ⟨rfl, f2⟩; have G2 := Fr.trans (by assumption) f2; have HG := Lib.hid G2; clear f2)
  | (go_at_call 45; refine (BE.out _ (by assumption)).mono ?_; rintro e w3 ⟨rfl, f3⟩; have G3 := Fr.trans (by assumption) f3; have HG := Lib.hid G3; have b1 := cellOf (h1.out.rd.fr G3).b 1; have z1 := frozenOf (h1.out.rd.fr G3).b 1; simp at b1; clear f3)
  | (go_at_call 46; refine (WH.out _).mono ?_; rintro e w' ⟨rfl, rfl⟩)
  | (go_at_call 52; refine (SG.out _).mono ?_; rintro e w' ⟨rfl, rfl⟩)
  | (at_builtin; refine wpList_append_src _ rfl (.tmp 32) (.tmp 35) 22 rfl w.heap.size 35 i35 _ 5 48 Try.underlying22 ha0 ha1 ha2 ha3 rfl (by omega) (.slice sp n c9) n (tL acc) rfl (HOW.out.fr ((Fr.refl (fun _ => False) _).alloc _) (by simp)) (some ⟨_, 0, none⟩) 1 1 [.int .i64 10, .string ⟨#[]⟩, .int .i64 0, .bool false, .int .i64 (x : Int)] rfl (SrcW.one (heapNew _ _) rfl) (by simp [Value.oneCell']) (by unfold maxLen; omega) (by omega) (by rw [World.size_alloc]; exact Nat.le_succ_of_le HFW.out.size) ?_; intro s7 c7 w7 hown hgrow _; have R7 := Lib.hid (TKs.snoc (x := ⟨10, ⟨#[]⟩, 0, false, (x : Int)⟩) h1.out hn HF1.out HR1.out HEQ.out (by omega) (by omega) (HSZ.out) hown hgrow); clear hown hgrow))
            go_roundw
            case rel => exact ⟨_, _, R7⟩
            case measure => show l.length - (n + 1) < l.length - n; omega
    · obtain rfl : k = l.length := by omega
      rw [seeV_none (Nat.le_refl _)] at SE
      have hq : decide ((0 : Int) ≤ (-1 : Int)) = false := rfl
      have HE := Lib.hid (show acc = tokS l by have h := h1.out.eq; rw [List.drop_eq_nil_of_le (Nat.le_refl _), tokS_nil, List.append_nil] at h; exact h)
      go_wp2_with (first
  | (go_at_call 43; refine (SE.out _ (by assumption)).mono ?_; rintro e w1 ⟨rfl, f1⟩; have G1 := Fr.trans (by assumption) f1; have HG := Lib.hid G1; clear f1)
  | (go_at_call 44; refine (NU.out _ (by assumption)).mono ?_; rintro e w2 ⟨rfl, f2⟩; have G2 := Fr.trans (by assumption) f2; have HG := Lib.hid G2; clear f2)
  | (go_at_call 45; refine (BE.out _ (by assumption)).mono ?_; rintro e w3 ⟨rfl, f3⟩; have G3 := Fr.trans (by assumption) f3; have HG := Lib.hid G3; have b1 := cellOf (h1.out.rd.fr G3).b 1; have z1 := frozenOf (h1.out.rd.fr G3).b 1; simp at b1; clear f3)
  | (go_at_call 46; refine (WH.out _).mono ?_; rintro e w' ⟨rfl, rfl⟩)
  | (go_at_call 52; refine (SG.out _).mono ?_; rintro e w' ⟨rfl, rfl⟩))
      go_ret
      obtain ⟨⟨s2, c2, e2, o2⟩, -, f2, -, -, -, -, -, z2⟩ := h1.out
      rw [hn] at e2 o2
      cases e2
      have hn2 : (tokS l).length = n := by rw [← HE.out]; exact hn
      refine ⟨_, rfl, ⟨sp, c9, by rw [hn2]; rfl, ?_, f2.trans HG.out⟩, by omega, by rw [← HE.out]; exact z2⟩
      rw [hn2, ← HE.out]
      exact o2.fr HG.out (by simp)
end Go.Proofs.Ytknpdkfjmhpbpaa
