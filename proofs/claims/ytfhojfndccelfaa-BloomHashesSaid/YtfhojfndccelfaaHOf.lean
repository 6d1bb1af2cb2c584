/- HashesOf: the reference's hashes of a node; SameInts, of equal rows. No condition but sizes. -/
import Derived.Test.YtfhojfndccelfaaOf
import Derived.Deep.Cut
import Derived.Deep.CutRange
import Derived.Deep.DeepCutAuto
namespace Go.Proofs.Ytfhojfndccelfaa
open Go.RowKit Go.Maps Go.ChangeShapes Go.WideShapes Go.ChangeAt Go.WideMaps Go.WideElems

/-- A row as it is read. -/
def RdN (w : World) (p : Option Addr) (l : List Nat) : Prop :=
  ∀ (k : Nat) x, l[k]? = some x → ∃ g off, p = some ⟨g, off, none⟩ ∧ w.cell? ⟨g, off + k, none⟩ = some (.int .i64 (x : Int))
theorem RdN.win {w : World} {base e n c : Nat} {sp : Option Addr} {l : List Nat} (h : OwnsWin w base e 1 (.slice sp n c) n (iR l)) : RdN w sp l := by
  intro k x hk
  have hlt : k < l.length := (List.getElem?_eq_some_iff.1 hk).1
  have hn : 0 < n := by
    have := h.1
    unfold iR at this
    simp at this
    omega
  obtain ⟨g, off, cap, hv, _, _, hg, _, hcell, _⟩ := h.cells hn
  cases hv
  exact ⟨g, off, rfl, hcell k _ (by unfold iR; rw [List.getElem?_map, hk]; rfl)⟩

set_option maxHeartbeats 4000000 in
set_option maxRecDepth 100000 in
theorem same_any (p1 p2 : Option Addr) (c1 c2 : Nat) (l : List Nat) (w : World) (h1 : RdN w p1 l) (h2 : RdN w p2 l) (hn : l.length ≤ 100000) :
    Calls Try.prog 18 #[.slice p1 l.length c1, .slice p2 l.length c2] w fun e w' => e = .returned (.bool true) ∧ Fr (fun _ => False) w w' := by
  have H1 := Lib.hid h1
  have H2 := Lib.hid h2
  clear h1 h2
  have qn : ((l.length : Int) != (l.length : Int)) = false := by simp
  go_enter Try.func18, Try.ntmps18
  go_wp2_with fail
  go_loopw [5] (fun i wr => ∃ (k m : Nat), k ≤ l.length ∧ i = .int .i64 k ∧ wr = w.drewN m) (fun i _ => l.length - (intOf i).toNat)
  case atStart => exact ⟨0, 0, by omega, rfl, rfl⟩
  case round =>
    obtain ⟨k, m, hk, rfl, rfl⟩ := hrel
    by_cases hlt : k < l.length
    · obtain ⟨t, ht⟩ : ∃ t, l[k]? = some t := ⟨l[k], by simp [hlt]⟩
      obtain ⟨b1, o1, rfl, a0⟩ := H1.out k _ ht
      obtain ⟨b2, o2, rfl, e0⟩ := H2.out k _ ht
      have HW := Lib.hid (show ∀ n, (w.drewN m).drewN n = w.drewN (m + n) from fun n => World.drewN_drewN _ _ _)
      have x0 : (w.drewN m).cell? ⟨b1, o1 + k, none⟩ = some (.int .i64 (t : Int)) := a0
      have y0 : (w.drewN m).cell? ⟨b2, o2 + k, none⟩ = some (.int .i64 (t : Int)) := e0
      clear ht
      generalize w.drewN m = w9 at *
      have i1 : (k : Int) < (l.length : Int) := by omega
      go_wp2_with fail
      go_quiet (fail)
      go_wp2_with fail
      go_roundw
      case rel => exact ⟨k + 1, _, by omega, by go_num, HW.out _⟩
      case measure => simp [intOf]; omega
    · go_wp2_with fail
      go_ret
      exact ⟨rfl, ⟨rfl, rfl, rfl, Nat.le_refl _, fun _ _ _ => rfl⟩⟩

/-- A new row that the call has, between two steps. -/
structure RW (w : World) (l : List Nat) (v : Value) (W : World) : Prop where
  row : ∃ sp c, v = .slice sp l.length c ∧ OwnsWin W w.heap.size 3 1 (.slice sp l.length c) l.length (iR l)
  fr : Fr (fun _ => False) w W
theorem RW.nil {w W : World} (f : Fr (fun _ => False) w W) : RW w [] (.slice none 0 0) W := ⟨⟨none, 0, rfl, OwnsWin.nil _ _ _ _⟩, f⟩
theorem RW.fr0 {w W W' : World} {l : List Nat} {v : Value} (h : RW w l v W) (f : Fr (fun _ => False) W W') : RW w l v W' := by
  obtain ⟨⟨sp, c, e, h1⟩, h2⟩ := h
  exact ⟨⟨sp, c, e, h1.fr f (by simp)⟩, h2.trans f⟩
theorem RW.step {w W w4 : World} {l : List Nat} {x : Nat} {sp sp' : Option Addr} {c c' : Nat} {Y : Obj} (hf : Fr (fun _ => False) w W) (h2 : OwnsWin W w.heap.size 3 1 (.slice sp l.length c) l.length (iR l))
    (hown : OwnsWin w4 w.heap.size 3 1 (.slice sp' (l.length + 1) c') (l.length + 1) (iR l ++ [.int .i64 (x : Int)])) (hgrow : (W.alloc Y).grownBy w4 (Value.slice sp l.length c).ownBlock) :
    RW w (l ++ [x]) (.slice sp' (l.length + 1) c') w4 := by
  have hl : (l ++ [x]).length = l.length + 1 := by simp
  refine ⟨⟨sp', c', by rw [hl], ?_⟩, ((hf.alloc Y).grown hgrow (fun k e => .inr (h2.lt k e).1))⟩
  rw [hl, show iR (l ++ [x]) = iR l ++ [.int .i64 (x : Int)] by simp [iR]]
  exact hown

theorem l1 (p : Prop) [Decidable p] (x : Nat) : (if p then [] else [x]).length ≤ 1 := by split <;> simp
theorem isE {s : ByteArray} (h : s = ByteArray.empty) : s.toList.isEmpty = true := by rw [ByteArray.toList_eq, h]; rfl
theorem isN {s : ByteArray} (h : ¬ s = ByteArray.empty) : s.toList.isEmpty = false := by
  rw [ByteArray.toList_eq, Bool.eq_false_iff]
  intro e
  apply h
  apply ByteArray.ext
  simpa using e

set_option maxRecDepth 100000 in
set_option maxHeartbeats 4000000 in
theorem HOf_any (w : World) (par : Int) (tag id : ByteArray) (pc pa : Option Addr) (cls : List ByteArray) (cc na ca : Nat) (hc : StrO (fun _ => False) w (.slice pc cls.length cc) cls) (ht : tag.size ≤ maxLen) (hid : id.size ≤ maxLen) (hl : cls.length ≤ 1000) :
    Calls Try.prog 24 #[.agg #[.int .i64 par, .string tag, .string id, .slice pc cls.length cc, .slice pa na ca]] w (NewN w (hsL tag (if id = ByteArray.empty then [] else [id]) cls)) := by
  obtain ⟨i3, hb0, hb1, hb2, hb3⟩ := info_parts info3
  have R1 := Lib.hid (fun (s : ByteArray) (w : World) (h : s.size ≤ maxLen) => RHash_any 1 s w h)
  have R2 := Lib.hid (fun (s : ByteArray) (w : World) (h : s.size ≤ maxLen) => RHash_any 2 s w h)
  have R3 := Lib.hid (fun (s : ByteArray) (w : World) (h : s.size ≤ maxLen) => RHash_any 3 s w h)
  have HB := Lib.hid (show (w.alloc (.cells #[.int .i64 par, .string tag, .string id, .slice pc cls.length cc, .slice pa na ca] 44)).heap[w.heap.size]? = some (.cells #[.int .i64 par, .string tag, .string id, .slice pc cls.length cc, .slice pa na ca] 44 (0, 0)) from heapNew _ _)
  have HF := Lib.hid ((Fr.refl (fun _ => False) w).alloc (.cells #[.int .i64 par, .string tag, .string id, .slice pc cls.length cc, .slice pa na ca] 44))
  have HC := Lib.hid hc
  have HT := Lib.hid ht
  have HI := Lib.hid hid
  clear hc ht hid
  obtain ⟨LL, hLL⟩ : ∃ LL, hsL tag (if id = ByteArray.empty then [] else [id]) cls = LL := ⟨_, rfl⟩
  rw [hLL]
  have HX := Lib.hid (show LL = (if tag = ByteArray.empty then [] else [hN 1 tag]) ++ (if id = ByteArray.empty then [] else [hN 2 id]) ++ cls.map (hN 3) by rw [← hLL]; unfold hsL; by_cases h : id = ByteArray.empty <;> simp [h])
  clear hLL
  go_enter Try.func24, Try.ntmps24
  go_upto_region 2 with fail
  generalize w.alloc (.cells #[.int .i64 par, .string tag, .string id, .slice pc cls.length cc, .slice pa na ca] 44) = w1 at *
  have hb := cellOf HB.out 1
  simp at hb
  go_upto_if 7 with fail
  go_cut [3] from 5 to 13 (fun v wx => Hid (RW w1 (if tag = ByteArray.empty then [] else [hN 1 tag]) v wx))
  case first =>
    by_cases hte : tag = ByteArray.empty
    · have q0 := isE hte
      generalize tag.toList.isEmpty = be at *
      subst q0
      have HE := Lib.hid hte
      clear hte
      go_wp2_with fail
      go_meet
      exact Lib.hid (by rw [if_pos HE.out]; exact RW.nil (Fr.refl _ _))
    · have q0 := isN hte
      generalize tag.toList.isEmpty = be at *
      subst q0
      have HE := Lib.hid hte
      clear hte
      have hO := Lib.hid (show OwnsWin w1 w1.heap.size 3 1 (.slice none 0 0) 0 (iR []) from OwnsWin.nil _ _ _ _)
      have hF := Lib.hid (Fr.refl (fun _ => False) w1)
      go_wp2_with (first
      | (go_at_call 22; refine (R1.out _ _ HT.out).mono ?_; rintro e w' ⟨rfl, rfl⟩)
      | (at_builtin; refine wpList_append_src _ rfl (.tmp 8) (.tmp 12) 31 rfl w'.heap.size 3 i3 _ 1 8 Try.underlying31 hb0 hb1 hb2 hb3 rfl (by omega) (.slice none 0 0) 0 _ rfl (hO.out.fr ((Fr.refl (fun _ => False) _).alloc _) (by simp)) (some ⟨_, 0, none⟩) 1 1 [.int .i64 ((hN 1 tag : Nat) : Int)] rfl (SrcW.one (heapNew _ _) rfl) (by simp [Value.oneCell']) (by unfold maxLen; omega) (by omega) (by rw [World.size_alloc]; exact Nat.le_succ_of_le hF.out.size) ?_; intro s7 c7 w7 hown hgrow _; have R7 := Lib.hid (RW.step (l := []) hF.out hO.out hown hgrow); clear hown hgrow))
      go_meet
      exact Lib.hid (by rw [if_neg HE.out]; exact R7.out)
  case rest =>
  have hn := l1 (tag = ByteArray.empty) (hN 1 tag)
  generalize (if tag = ByteArray.empty then [] else [hN 1 tag]) = l at *
  obtain ⟨⟨sp, c, rfl, hO⟩, hF⟩ := hcut.out
  have HC1 := hcut
  clear hcut
  have hb := (hF.cell (p := ⟨w.heap.size, 2, none⟩) (ltOf HB.out) (by simp)).trans (cellOf HB.out 2)
  simp at hb
  have hO := Lib.hid hO
  have hF := Lib.hid hF
  go_upto_if 16 with fail
  go_cut [3] from 14 to 22 (fun v wx => Hid (RW w1 (l ++ if id = ByteArray.empty then [] else [hN 2 id]) v wx))
  case first =>
    by_cases hte : id = ByteArray.empty
    · have q0 := isE hte
      generalize id.toList.isEmpty = be at *
      subst q0
      have HE := Lib.hid hte
      clear hte
      go_wp2_with fail
      go_meet
      exact Lib.hid (by rw [if_pos HE.out, List.append_nil]; exact HC1.out)
    · have q0 := isN hte
      generalize id.toList.isEmpty = be at *
      subst q0
      have HE := Lib.hid hte
      clear hte
      go_wp2_with (first
      | (go_at_call 22; refine (R2.out _ _ HI.out).mono ?_; rintro e w' ⟨rfl, rfl⟩)
      | (at_builtin; refine wpList_append_src _ rfl (.tmp 17) (.tmp 21) 31 rfl w1.heap.size 3 i3 _ 1 8 Try.underlying31 hb0 hb1 hb2 hb3 rfl (by omega) (.slice sp l.length c) l.length _ rfl (hO.out.fr ((Fr.refl (fun _ => False) _).alloc _) (by simp)) (some ⟨_, 0, none⟩) 1 1 [.int .i64 ((hN 2 id : Nat) : Int)] rfl (SrcW.one (heapNew _ _) rfl) (by simp [Value.oneCell']) (by unfold maxLen; omega) (by omega) (by rw [World.size_alloc]; exact Nat.le_succ_of_le hF.out.size) ?_; intro s7 c7 w7 hown hgrow _; have R7 := Lib.hid (RW.step hF.out hO.out hown hgrow); clear hown hgrow))
      go_meet
      exact Lib.hid (by rw [if_neg HE.out]; exact R7.out)
  case rest =>
  have hn2 : (l ++ if id = ByteArray.empty then [] else [hN 2 id]).length ≤ 2 := by have := l1 (id = ByteArray.empty) (hN 2 id); rw [List.length_append]; omega
  generalize (l ++ if id = ByteArray.empty then [] else [hN 2 id]) = l2 at *
  clear hO hF hb HC1 hn
  have HK := Lib.hid (show ∀ wx v l, RW w1 l v wx → wx.cell? ⟨w.heap.size, 3, none⟩ = some (.slice pc cls.length cc) from fun wx v l h => by
    have := (h.fr.cell (p := ⟨w.heap.size, 3, none⟩) (ltOf HB.out) (by simp)).trans (cellOf HB.out 3)
    simpa using this)
  have HS := Lib.hid (show ∀ wx v l, RW w1 l v wx → StrO (fun _ => False) wx (.slice pc cls.length cc) cls from fun wx v l h => (HC.out.step HF.out (fun _ e => e.elim)).step h.fr (fun _ e => e.elim))
  clear HB
  go_wp2_with fail
  go_loopw [3, 4] (fun v i wr => ∃ (k : Nat), k ≤ cls.length ∧ i = .int .i64 k ∧ Hid (RW w1 (l2 ++ (cls.take k).map (hN 3)) v wr)) (fun _ i _ => cls.length - (intOf i).toNat)
  case atStart => exact ⟨0, by omega, rfl, Lib.hid (by rw [List.take_zero, List.map_nil, List.append_nil]; exact hcut.out)⟩
  case round =>
    clear hcut
    obtain ⟨k, hk, rfl, hR⟩ := hrel
    have hb := HK.out _ _ _ hR.out
    by_cases hlt : k < cls.length
    · have d0 : decide ((k : Int) < (cls.length : Int)) = true := by simp; omega
      have hx := List.getElem?_eq_getElem hlt
      have HTk := Lib.hid (show l2 ++ (cls.take (k + 1)).map (hN 3) = (l2 ++ (cls.take k).map (hN 3)) ++ [hN 3 cls[k]] by rw [List.take_add_one, hx, Option.toList_some, List.map_append, List.map_cons, List.map_nil, List.append_assoc])
      have hL : (l2 ++ (cls.take k).map (hN 3)).length ≤ 2000 := by simp; omega
      generalize cls[k] = s0 at *
      generalize l2 ++ (cls.take k).map (hN 3) = l at *
      obtain ⟨p9, c9, e9, _, h9⟩ := HS.out _ _ _ hR.out
      cases e9
      obtain ⟨hs9, g, off, rfl, hg, _, hc⟩ := h9 k s0 hx
      have HS9 := Lib.hid hs9
      obtain ⟨⟨sp, c, rfl, hO⟩, hF⟩ := hR.out
      have hO := Lib.hid hO
      have hF := Lib.hid hF
      clear h9 hx hs9 hR
      go_wp2_with (first
      | (go_at_call 22; refine (R3.out _ _ HS9.out).mono ?_; rintro e w' ⟨rfl, rfl⟩)
      | (at_builtin; refine wpList_append_src _ rfl (.tmp 30) (.tmp 37) 31 rfl w1.heap.size 3 i3 _ 1 8 Try.underlying31 hb0 hb1 hb2 hb3 rfl (by omega) (.slice sp l.length c) l.length _ rfl (hO.out.fr ((Fr.refl (fun _ => False) _).alloc _) (by simp)) (some ⟨_, 0, none⟩) 1 1 [.int .i64 ((hN 3 s0 : Nat) : Int)] rfl (SrcW.one (heapNew _ _) rfl) (by simp [Value.oneCell']) (by unfold maxLen; omega) (by omega) (by rw [World.size_alloc]; exact Nat.le_succ_of_le hF.out.size) ?_; intro s7 c7 w7 hown hgrow _; have R7 := Lib.hid (RW.step hF.out hO.out hown hgrow); clear hown hgrow))
      go_roundw
      case rel => exact ⟨k + 1, by omega, by go_num, Lib.hid (by rw [HTk.out]; exact R7.out)⟩
      case measure => simp [intOf]; omega
    · obtain rfl : k = cls.length := by omega
      have d0 : decide ((cls.length : Int) < (cls.length : Int)) = false := by simp
      obtain ⟨⟨sp, c, rfl, hO⟩, hF⟩ := hR.out
      rw [List.take_of_length_le (Nat.le_refl _), ← HX.out] at hO
      have hE : (l2 ++ (cls.take cls.length).map (hN 3)).length = LL.length := by rw [List.take_of_length_le (Nat.le_refl _), ← HX.out]
      rw [hE]
      have hO := Lib.hid hO
      have hF := Lib.hid hF
      clear hR
      go_wp2_with fail
      go_ret
      exact ⟨sp, c, rfl, hO.out.lower HF.out.size, HF.out.trans hF.out⟩
end Go.Proofs.Ytfhojfndccelfaa
