/- TextParts: what is read in parts; the walk. -/
import Derived.Test.YtfgmhpdhgepalaaDoorKeeps
namespace Go.Proofs.YtfgmhpdhgepalaaDoor
open Go.RowKit Go.Shelf Go.Lib Go.Maps Go.ChangeShapes Go.WideShapes Go.ChangeAt Go.WideMaps Go.WideElems

theorem dec_app {a : List Nat} (b : List Nat) (hne : a ≠ []) (hl : ∀ x, a.getLast? = some x → x < 128) : dec (a ++ b) = dec a := by
  match a, hne, hl with
  | [x], _, hl =>
    have := hl x rfl
    simp [dec, decodeN, this]
  | [x, y], _, hl =>
    have h1 := hl y rfl
    have : ¬ y / 64 = 2 := by omega
    simp [dec, decodeN, this]
  | [x, y, z], _, hl =>
    have h1 := hl z rfl
    have : ¬ z / 64 = 2 := by omega
    simp [dec, decodeN, this]
  | x :: y :: z :: u :: r, _, _ =>
    have k1 : 1 < r.length + b.length + 1 + 1 + 1 + 1 := by omega
    have k2 : 2 < r.length + b.length + 1 + 1 + 1 + 1 := by omega
    have k3 : 3 < r.length + b.length + 1 + 1 + 1 + 1 := by omega
    have j1 : 1 < r.length + 1 + 1 + 1 + 1 := by omega
    have j2 : 2 < r.length + 1 + 1 + 1 + 1 := by omega
    have j3 : 3 < r.length + 1 + 1 + 1 + 1 := by omega
    simp only [dec, decodeN, List.cons_append, List.length_cons, List.length_append, List.getD_cons_zero, List.getD_cons_succ, k1, k2, k3, j1, j2, j3]
theorem pts_app (a b : List Nat) (hl : ∀ x, a.getLast? = some x → x < 128) : pts (a ++ b) = pts a ++ pts b := by
  generalize hn : a.length = n
  induction n using Nat.strongRecOn generalizing a with
  | _ n ih =>
    by_cases h : a = []
    · subst h; simp [pts_nil]
    · have h1 := dec_ge1 a
      have h2 := dec_len h
      rw [pts_cons (by simp [h]), pts_cons h, dec_app b h hl, List.drop_append_of_le_length h2, List.cons_append]
      congr 1
      refine ih (a.drop (dec a).2).length (by rw [List.length_drop]; omega) _ (fun x hx => hl x ?_) rfl
      rw [List.getLast?_drop] at hx
      split at hx
      · cases hx
      · exact hx

theorem info5 : (Tryd.prog.info? 5).map (fun i => (i.zero, i.size, i.bytes)) = some (some (.int .u8 0), 1, 1) := by kernel_rfl
def bR (l : List Nat) : List Value := l.map fun (j : Nat) => Value.int .u8 (j : Int)
theorem RdB.src {w : World} {p : Option Addr} {l : List Nat} (h : RdB w p l) : Src w 1 p l.length (bR l) := by
  refine ⟨by simp [bR], fun e => ?_, fun ad e j u hj => ?_⟩
  · cases l with
    | nil => rfl
    | cons x r =>
      obtain ⟨g, off, e2, _⟩ := h 0 x rfl
      rw [e] at e2; cases e2
  · unfold bR at hj
    rw [List.getElem?_map] at hj
    cases hx : l[j]? with
    | none => rw [hx] at hj; cases hj
    | some x =>
      rw [hx] at hj
      cases hj
      obtain ⟨g, off, e2, hc⟩ := h j x hx
      rw [e] at e2
      cases e2
      rw [addOf _ _ rfl]
      exact hc
theorem RdB.win {w : World} {base c : Nat} {sp : Option Addr} {l : List Nat} (h : OwnsWin w base 5 1 (.slice sp l.length c) l.length (bR l)) : RdB w sp l := by
  intro k x hk
  have hlt : k < l.length := (List.getElem?_eq_some_iff.1 hk).1
  obtain ⟨g, off, cap, hv, _, _, hg, _, hcell, _⟩ := h.cells (by omega)
  cases hv
  exact ⟨g, off, rfl, hcell k _ (by unfold bR; rw [List.getElem?_map, hk]; rfl)⟩
theorem bR_cell (l : List Nat) : ∀ u ∈ bR l, u.oneCell' = true := by
  intro u hu
  obtain ⟨j, _, rfl⟩ := List.mem_map.1 hu
  rfl
theorem iR_cell (l : List Nat) : ∀ u ∈ iR l, u.oneCell' = true := by
  intro u hu
  obtain ⟨j, _, rfl⟩ := List.mem_map.1 hu
  rfl
theorem NewN.fr {w w' : World} {l : List Nat} {e : Ending} (h : NewN w l e w') : Fr (fun _ => False) w w' := by
  obtain ⟨_, _, _, _, f⟩ := h; exact f
theorem Fr.ownGrown {w0 w w' : World} {base e n : Nat} {size : Nat} {v : Value} {xs : List Value} (f : Fr (fun _ => False) w0 w) (h : OwnsWin w base e size v n xs) (hb : w0.heap.size ≤ base) (hg : w.grownBy w' v.ownBlock) : Fr (fun _ => False) w0 w' :=
  f.grown hg fun k hk => .inr (by have := (h.lt k hk).1; omega)

set_option maxHeartbeats 4000000 in
set_option maxRecDepth 100000 in
theorem parts_any (a b : List Nat) (p q : Option Addr) (c d : Nat) (w : World) (hT : Tabs w) (hba : ∀ x ∈ a, x < 256) (hbb : ∀ x ∈ b, x < 256) (hra : RdB w p a) (hrb : RdB w q b) (hca : a.length ≤ c) (hma : c ≤ maxLen) (hcb : b.length ≤ d) (hmb : d ≤ maxLen) :
    Calls Tryd.prog 4 #[.slice p a.length c, .slice q b.length d] w fun e w' => e = .returned (.bool true) ∧ Fr (fun _ => False) w w' := by
  have AL := Lib.hid (alive_any w hT)
  have HT := Lib.hid hT
  have HBa := Lib.hid hba
  have HBb := Lib.hid hbb
  have HRa := Lib.hid hra
  have HRb := Lib.hid hrb
  obtain ⟨i3, ib0, ib1, ib2, ib3⟩ := info_parts info3
  obtain ⟨i5, jb0, jb1, jb2, jb3⟩ := info_parts info5
  clear hT hba hbb hra hrb
  go_enter Tryd.func4, Tryd.ntmps4
  go_wp2_with fail
  rename_i KK aa
  refine AL.out.mono ?_
  rintro e w1 ⟨rfl, f1⟩
  have F1 := Lib.hid f1
  clear AL f1
  show KK _ _
  apply aa
  by_cases hA : 1000 < a.length
  · have d1 : decide ((1000 : Int) < (a.length : Int)) = true := by simp; omega
    go_wp2_with fail
    go_ret
    exact ⟨rfl, F1.out⟩
  have d1 : decide ((1000 : Int) < (a.length : Int)) = false := by simp; omega
  by_cases hB : 1000 < b.length
  · have d2 : decide ((1000 : Int) < (b.length : Int)) = true := by simp; omega
    go_wp2_with fail
    go_ret
    exact ⟨rfl, F1.out⟩
  have d2 : decide ((1000 : Int) < (b.length : Int)) = false := by simp; omega
  obtain ⟨xc, hxc⟩ : ∃ xc, xc = pts a ++ pts b := ⟨_, rfl⟩
  have PA := Lib.hid (show ∀ W, Fr (fun _ => False) w W → Calls Tryd.prog 13 #[.slice p a.length c] W (NewN W (pts a)) from fun W f => Points_any W p c a (tabs_fr HT.out f) HBa.out (HRa.out.fr f) hca hma (by omega))
  have PB := Lib.hid (show ∀ W, Fr (fun _ => False) w W → Calls Tryd.prog 13 #[.slice q b.length d] W (NewN W (pts b)) from fun W f => Points_any W q d b (tabs_fr HT.out f) HBb.out (HRb.out.fr f) hcb hmb (by omega))
  have PD := Lib.hid (show ∀ W s1 k1 s2 k2, OwnsWin W w.heap.size 3 1 (.slice s1 ((pts a).length + (pts b).length) k1) ((pts a).length + (pts b).length) (iR (pts a) ++ iR (pts b)) → OwnsWin W w.heap.size 3 1 (.slice s2 xc.length k2) xc.length (iR xc) → Calls Tryd.prog 12 #[.slice s1 ((pts a).length + (pts b).length) k1, .slice s2 xc.length k2] W (fun e w' => e = .returned (.bool true) ∧ Fr (fun _ => False) W w') from fun W s1 k1 s2 k2 h1 h2 => by
    have e : (pts a ++ pts b).length = (pts a).length + (pts b).length := List.length_append
    have e2 : iR (pts a ++ pts b) = iR (pts a) ++ iR (pts b) := by simp [iR]
    have l1 := pts_len a
    have l2 := pts_len b
    rw [hxc] at h2 ⊢
    have S := sameInts_any s1 s2 k1 k2 (pts a ++ pts b) W (RdN.win (base := w.heap.size) (by rw [e, e2]; exact h1)) (RdN.win (base := w.heap.size) (by exact h2)) (by omega)
    rw [e] at S
    rw [e]
    exact S)
  have SA := Lib.hid (show ∀ W, Fr (fun _ => False) w W → Src W 1 p a.length (bR a) from fun W f => (HRa.out.fr f).src)
  have SB := Lib.hid (show ∀ W, Fr (fun _ => False) w W → Src W 1 q b.length (bR b) from fun W f => (HRb.out.fr f).src)
  have l1 := pts_len a
  have l2 := pts_len b
  by_cases hC : a = []
  · have HL := Lib.hid (show ∀ x, a.getLast? = some x → x < 128 by rw [hC]; simp)
    have d3 : ¬ (0 < a.length) := by rw [hC]; simp
    clear hC
    have PC := Lib.hid (show ∀ W s k, Fr (fun _ => False) w W → OwnsWin W w.heap.size 5 1 (.slice s (a.length + b.length) k) (a.length + b.length) (bR a ++ bR b) → Calls Tryd.prog 13 #[.slice s (a.length + b.length) k] W (NewN W xc) from fun W s k f h => by
      have e : (a ++ b).length = a.length + b.length := List.length_append
      have e2 : bR (a ++ b) = bR a ++ bR b := by simp [bR]
      obtain ⟨c1, c2⟩ := h.capLe rfl
      have P := Points_any W s k (a ++ b) (tabs_fr HT.out f) (fun x hx => (List.mem_append.1 hx).elim (HBa.out x) (HBb.out x)) (RdB.win (by rw [e, e2]; exact h)) (by omega) c2 (by omega)
      rw [e, pts_app a b HL.out, ← hxc] at P
      exact P)
    clear HRa HRb HBa HBb HT
    have s1' : (pts a).length ≤ 1000 := by omega
    have s2' : (pts b).length ≤ 1000 := by omega
    clear l1 l2 hxc
    generalize pts a = xa at PA PC PD s1'
    generalize pts b = xb at PB PC PD s2'
    go_wp2_with fail
    rename_i KK3 aa3
    refine (PA.out _ F1.out).mono ?_
    rintro e w2 ⟨s1, k1, rfl, o1, f2⟩
    have F2 := Lib.hid (F1.out.trans f2)
    have O1 := Lib.hid (o1.lower F1.out.size)
    clear o1 f2
    show KK3 _ _
    apply aa3
    clear aa3
    go_wp2_with fail
    rename_i KK4 aa4
    refine (PB.out _ F2.out).mono ?_
    rintro e w3 ⟨s2, k2, rfl, o2, f3⟩
    have F3 := Lib.hid (F2.out.trans f3)
    have O2 := Lib.hid (o2.lower F2.out.size)
    have O1' := Lib.hid (O1.out.fr f3 (by simp))
    clear o2 f3 O1
    show KK4 _ _
    apply aa4
    clear aa4
    go_wp2_with (first
      | (at_builtin; refine wpList_append_src _ rfl (.tmp 40) (.tmp 41) 25 rfl w.heap.size 3 i3 _ 1 8 Tryd.underlying25 ib0 ib1 ib2 ib3 rfl (by decide) (.slice s1 xa.length k1) xa.length _ rfl O1'.out s2 xb.length k2 _ rfl (Src.of_win O2.out) (iR_cell _) (by unfold maxLen; omega) (by omega) F3.out.size ?_; intro s4 c4 w4 hown hgrow hsh; have F4 := Lib.hid (F3.out.ownGrown O1'.out (Nat.le_refl _) hgrow); have O4 := Lib.hid hown; clear hown hgrow hsh O1' O2 F3)
      | (at_builtin; refine wpList_append_src _ rfl (.const (.slice none 0 0)) (.tmp 43) 22 rfl w.heap.size 5 i5 _ 1 1 Tryd.underlying22 jb0 jb1 jb2 jb3 rfl (by decide) (.slice none 0 0) 0 _ rfl (OwnsWin.nil _ _ _ _) _ a.length c _ rfl (SA.out _ F4.out) (bR_cell _) (by unfold maxLen; omega) (by omega) F4.out.size ?_; intro s5 c5 w5 hown hgrow hsh; have F45 := Lib.hid ((Fr.refl (fun _ => False) w4).grown hgrow (by simp [Value.ownBlock])); rw [Nat.zero_add, List.nil_append] at hown; rw [Nat.zero_add] at hsh ⊢; have O5 := Lib.hid hown; have B5 := Lib.hid (show ∀ k, (Value.slice s5 a.length c5).ownBlock = some k → w4.heap.size ≤ k from fun k hk => (hsh k hk).elim (fun e => by simp [Value.ownBlock] at e) id); clear hown hgrow hsh)
      | (at_builtin; refine wpList_append_src _ rfl (.tmp 44) (.tmp 45) 22 rfl w.heap.size 5 i5 _ 1 1 Tryd.underlying22 jb0 jb1 jb2 jb3 rfl (by decide) (.slice s5 a.length c5) a.length _ rfl O5.out q b.length d _ rfl (SB.out _ (F4.out.trans F45.out)) (bR_cell _) (by unfold maxLen; omega) (by omega) (F4.out.trans F45.out).size ?_; intro s6 c6 w6 hown hgrow hsh; have F46 := Lib.hid (F45.out.grown hgrow (fun k hk => .inr (B5.out k hk))); have O6 := Lib.hid hown; have O4' := Lib.hid (O4.out.fr F46.out (by simp)); have F6 := Lib.hid (F4.out.trans F46.out); clear hown hgrow hsh O4 O5 B5 F45 F46 F4)
      | (go_at_call 13; refine Calls.mono (PC.out _ _ _ F6.out O6.out) ?_; rintro e w7 ⟨s7, k7, rfl, o7, f7⟩; have F7 := Lib.hid (F6.out.trans f7); have O7 := Lib.hid (o7.lower F6.out.size); have O47 := Lib.hid (O4'.out.fr f7 (by simp)); clear o7 f7 O4')
      | (go_at_call 12; refine Calls.mono (PD.out _ _ _ _ _ O47.out O7.out) ?_; rintro e w8 ⟨rfl, f8⟩; have F8 := Lib.hid (F7.out.trans f8); clear f8))
    go_ret
    exact ⟨rfl, F8.out⟩
  obtain ⟨m, hm⟩ : ∃ m, a.length = m + 1 := ⟨a.length - 1, by have := List.length_pos_iff.2 hC; omega⟩
  obtain ⟨x, hx⟩ : ∃ x, a[m]? = some x := ⟨a[m]'(by omega), List.getElem?_eq_getElem (by omega)⟩
  have hlast : a.getLast? = some x := by rw [List.getLast?_eq_getElem?, hm]; exact hx
  obtain ⟨g, off, rfl, hcell⟩ := (HRa.out.fr F1.out) m x hx
  clear HRa
  have HL0 := Lib.hid hlast
  have d3 : decide ((0 : Int) < (a.length : Int)) = true := by simp; omega
  have e3 : (a.length : Int) - 1 = (m : Int) := by omega
  have hml : m < a.length := by omega
  have hml' : (m : Int) < (a.length : Int) := by omega
  clear hx hlast hC hm
  by_cases hD : 127 < x
  · have d4 : decide ((127 : Int) < (x : Int)) = true := by simp; omega
    go_wp2_with fail
    go_ret
    exact ⟨rfl, F1.out⟩
  have d4 : decide ((127 : Int) < (x : Int)) = false := by simp; omega
  have HL := Lib.hid (show ∀ y, a.getLast? = some y → y < 128 from fun y hy => by rw [HL0.out] at hy; cases hy; omega)
  clear HL0
  have PC := Lib.hid (show ∀ W s k, Fr (fun _ => False) w W → OwnsWin W w.heap.size 5 1 (.slice s (a.length + b.length) k) (a.length + b.length) (bR a ++ bR b) → Calls Tryd.prog 13 #[.slice s (a.length + b.length) k] W (NewN W xc) from fun W s k f h => by
    have e : (a ++ b).length = a.length + b.length := List.length_append
    have e2 : bR (a ++ b) = bR a ++ bR b := by simp [bR]
    obtain ⟨c1, c2⟩ := h.capLe rfl
    have P := Points_any W s k (a ++ b) (tabs_fr HT.out f) (fun x hx => (List.mem_append.1 hx).elim (HBa.out x) (HBb.out x)) (RdB.win (by rw [e, e2]; exact h)) (by omega) c2 (by omega)
    rw [e, pts_app a b HL.out, ← hxc] at P
    exact P)
  clear HRb HBa HBb HT
  have s1' : (pts a).length ≤ 1000 := by omega
  have s2' : (pts b).length ≤ 1000 := by omega
  clear l1 l2 hxc
  generalize pts a = xa at PA PC PD s1'
  generalize pts b = xb at PB PC PD s2'
  go_wp2_with fail
  rename_i KK3 aa3
  refine (PA.out _ F1.out).mono ?_
  rintro e w2 ⟨s1, k1, rfl, o1, f2⟩
  have F2 := Lib.hid (F1.out.trans f2)
  have O1 := Lib.hid (o1.lower F1.out.size)
  clear o1 f2
  show KK3 _ _
  apply aa3
  clear aa3
  go_wp2_with fail
  rename_i KK4 aa4
  refine (PB.out _ F2.out).mono ?_
  rintro e w3 ⟨s2, k2, rfl, o2, f3⟩
  have F3 := Lib.hid (F2.out.trans f3)
  have O2 := Lib.hid (o2.lower F2.out.size)
  have O1' := Lib.hid (O1.out.fr f3 (by simp))
  clear o2 f3 O1
  show KK4 _ _
  apply aa4
  clear aa4
  go_wp2_with (first
    | (at_builtin; refine wpList_append_src _ rfl (.tmp 40) (.tmp 41) 25 rfl w.heap.size 3 i3 _ 1 8 Tryd.underlying25 ib0 ib1 ib2 ib3 rfl (by decide) (.slice s1 xa.length k1) xa.length _ rfl O1'.out s2 xb.length k2 _ rfl (Src.of_win O2.out) (iR_cell _) (by unfold maxLen; omega) (by omega) F3.out.size ?_; intro s4 c4 w4 hown hgrow hsh; have F4 := Lib.hid (F3.out.ownGrown O1'.out (Nat.le_refl _) hgrow); have O4 := Lib.hid hown; clear hown hgrow hsh O1' O2 F3)
    | (at_builtin; refine wpList_append_src _ rfl (.const (.slice none 0 0)) (.tmp 43) 22 rfl w.heap.size 5 i5 _ 1 1 Tryd.underlying22 jb0 jb1 jb2 jb3 rfl (by decide) (.slice none 0 0) 0 _ rfl (OwnsWin.nil _ _ _ _) _ a.length c _ rfl (SA.out _ F4.out) (bR_cell _) (by unfold maxLen; omega) (by omega) F4.out.size ?_; intro s5 c5 w5 hown hgrow hsh; have F45 := Lib.hid ((Fr.refl (fun _ => False) w4).grown hgrow (by simp [Value.ownBlock])); rw [Nat.zero_add, List.nil_append] at hown; rw [Nat.zero_add] at hsh ⊢; have O5 := Lib.hid hown; have B5 := Lib.hid (show ∀ k, (Value.slice s5 a.length c5).ownBlock = some k → w4.heap.size ≤ k from fun k hk => (hsh k hk).elim (fun e => by simp [Value.ownBlock] at e) id); clear hown hgrow hsh)
    | (at_builtin; refine wpList_append_src _ rfl (.tmp 44) (.tmp 45) 22 rfl w.heap.size 5 i5 _ 1 1 Tryd.underlying22 jb0 jb1 jb2 jb3 rfl (by decide) (.slice s5 a.length c5) a.length _ rfl O5.out q b.length d _ rfl (SB.out _ (F4.out.trans F45.out)) (bR_cell _) (by unfold maxLen; omega) (by omega) (F4.out.trans F45.out).size ?_; intro s6 c6 w6 hown hgrow hsh; have F46 := Lib.hid (F45.out.grown hgrow (fun k hk => .inr (B5.out k hk))); have O6 := Lib.hid hown; have O4' := Lib.hid (O4.out.fr F46.out (by simp)); have F6 := Lib.hid (F4.out.trans F46.out); clear hown hgrow hsh O4 O5 B5 F45 F46 F4)
    | (go_at_call 13; refine Calls.mono (PC.out _ _ _ F6.out O6.out) ?_; rintro e w7 ⟨s7, k7, rfl, o7, f7⟩; have F7 := Lib.hid (F6.out.trans f7); have O7 := Lib.hid (o7.lower F6.out.size); have O47 := Lib.hid (O4'.out.fr f7 (by simp)); clear o7 f7 O4')
    | (go_at_call 12; refine Calls.mono (PD.out _ _ _ _ _ O47.out O7.out) ?_; rintro e w8 ⟨rfl, f8⟩; have F8 := Lib.hid (F7.out.trans f8); clear f8))
  go_ret
  exact ⟨rfl, F8.out⟩
theorem textParts_walk (v : Value) (l : List Nat) (v' : Value) (l' : List Nat) (w : World) (hT : Tabs w) (h : IsB w v l) (h' : IsB w v' l') : Calls Tryd.prog 4 #[v, v'] w fun e w' => e = .returned (.bool true) ∧ Below w.heap.size w w' := by
  obtain ⟨p, c, rfl, h1, h2, h3, h4⟩ := h
  obtain ⟨q, d, rfl, k1, k2, k3, k4⟩ := h'
  exact (parts_any l l' p q c d w hT h4 k4 h3 k3 h1 h2 k1 k2).mono fun _ _ h => ⟨h.1, h.2.below (Nat.le_refl _) (by simp)⟩
end Go.Proofs.YtfgmhpdhgepalaaDoor
