/- DomChain: the walk. -/
import Derived.Test.YtdbhcogafhhlnaaDChain
import Derived.Test.YtdbhcogafhhlnaaDLong
import Derived.Test.YtdbhcogafhhlnaaDNd
import Derived.OwnWalk
import Derived.Deep.Cut
import Derived.IntWalk
namespace Go.Proofs.Ytdbhcogafhhlnaa
open Go.RowKit Go.Maps Go.ChangeShapes Go.WideShapes Go.ChangeAt Go.WideMaps Go.WideElems

theorem info25c : (Try.prog.info? 25).map (fun i => (i.zero, i.size, i.bytes)) = some (some (.agg #[.int .i64 0, .string ⟨#[]⟩, .string ⟨#[]⟩, .slice none 0 0, .slice none 0 0]), 5, 88) := by kernel_rfl

theorem ownsRow.lower {w : World} {base base' e size n : Nat} {v : Value} {xs : List Value} (h : w.ownsRow base' e size v n xs) (hb : base ≤ base') : w.ownsRow base e size v n xs := by
  refine ⟨h.1, ?_⟩
  rcases h.2 with hz | ⟨g, cap, cur, rfl, h1, rest⟩
  · exact .inl hz
  · exact .inr ⟨g, cap, cur, rfl, Nat.le_trans hb h1, rest⟩
theorem NE.lower {base base' : Nat} {w : World} {css : List (List Value)} {els : List ElD} (h : NE base' w css els) (hb : base ≤ base') : NE base w css els := by
  refine ⟨h.len, fun k cs x a b => ?_, h.dis⟩
  obtain ⟨sp, c, q, o, s, kk, e, h1, h2, h3⟩ := h.el k cs x a b
  exact ⟨sp, c, q, o, s, kk, e, h1.lower hb, h2.lower hb, h3.lower hb⟩
theorem TS.rebase {w wa wb w' : World} {tb : Nat} {els : List ElD} {S : Nat → Prop} (h : TS wa wb tb els) (f0 : Fr (fun _ => False) w w') (hle : w.heap.size ≤ wa.heap.size) (f : Fr S wb w')
    (hS : ∀ k, S k → ∃ c t z, wb.heap[k]? = some (.cells c t z) ∧ t ≠ 9 ∧ t ≠ 38 ∧ t ≠ 3 ∧ t ≠ 54 ∧ t ≠ 57) : TS w w' tb els := by
  obtain ⟨⟨sp, c, css, h1, h2, h3⟩, hf, ht⟩ := h
  refine ⟨⟨sp, c, css, f.heap h1 (fun e => ?_), ownsRow.lower (ownsRow.fr h2 f (fun j hj e => ?_)) hle, (h3.keep f (fun k e => ?_)).lower hle⟩, f0, Nat.le_trans hle ht⟩
  · obtain ⟨c', t, z, hk, _, _, _, h54, _⟩ := hS _ e
    rw [h1] at hk
    cases hk
    exact h54 rfl
  · obtain ⟨c', t, z, hk, _, _, _, _, h57⟩ := hS _ e
    exact ownsRow.ne h2 hk (by intro c'' e'; cases e'; exact h57 rfl) hj.symm
  · obtain ⟨c', t, z, hk, h9, h38, h3', _, _⟩ := hS _ e
    exact ⟨c', t, z, hk, h9, h38, h3'⟩

/-- A node's cells. -/
def CsOf (w : World) (cs : List Value) (d : NodeD) : Prop := ∃ sp c q o, cs = [.int .i64 d.par, .string d.tag, .string d.id, .slice sp d.cls.length c, .slice q d.att.length o] ∧ RdNd w d sp q
theorem flat5 (css : List (List Value)) (hl : ∀ cs ∈ css, cs.length = 5) (k j : Nat) (hj : j < 5) (cs : List Value) (hk : css[k]? = some cs) : css.flatten[k * 5 + j]? = cs[j]? := by
  induction css generalizing k with
  | nil => simp at hk
  | cons a r ih =>
    have ha : a.length = 5 := hl a (by simp)
    cases k with
    | zero =>
      simp at hk
      subst hk
      rw [List.flatten_cons, List.getElem?_append_left (by omega)]
      simp
    | succ k =>
      rw [List.flatten_cons, List.getElem?_append_right (by omega), show (k + 1) * 5 + j - a.length = k * 5 + j by omega]
      exact ih (fun cs h => hl cs (by simp [h])) k (by simpa using hk)
theorem RdNs.win {w : World} {base n c : Nat} {s : Option Addr} {ds : List NodeD} {css : List (List Value)} (h : OwnsWin w base 25 5 (.slice s n c) n css.flatten) (hn : ds.length = n) (hl : css.length = n) (hc : ∀ (k : Nat) cs d, css[k]? = some cs → ds[k]? = some d → CsOf w cs d) : RdNs w s ds := by
  intro k d hk
  have hkn : k < n := by rw [← hn]; exact (List.getElem?_eq_some_iff.1 hk).1
  obtain ⟨g, off, cap, hv, _, _, hg, _, hcell, _⟩ := h.cells (by omega)
  cases hv
  have h5 : ∀ cs ∈ css, cs.length = 5 := by
    intro cs hm
    obtain ⟨i, hi, rfl⟩ := List.getElem_of_mem hm
    obtain ⟨_, _, _, _, e, _⟩ := hc i css[i] (ds[i]'(by omega)) (List.getElem?_eq_getElem hi) (List.getElem?_eq_getElem (by omega))
    rw [e]; rfl
  obtain ⟨cs, hcs⟩ : ∃ cs, css[k]? = some cs := ⟨css[k], List.getElem?_eq_getElem (by omega)⟩
  obtain ⟨sp, c1, q, o, e, hr⟩ := hc k cs d hcs hk
  have at_ : ∀ j u, j < 5 → cs[j]? = some u → w.cell? ⟨g, off + k * 5 + j, none⟩ = some u := by
    intro j u hj hu
    rw [Nat.add_assoc]
    exact hcell _ _ ((flat5 css h5 k j hj cs hcs).trans hu)
  subst e
  exact ⟨g, off, sp, c1, q, o, rfl, hg, at_ 0 _ (by omega) rfl, at_ 1 _ (by omega) rfl, at_ 2 _ (by omega) rfl, at_ 3 _ (by omega) rfl, at_ 4 _ (by omega) rfl, hr⟩

def nilC (p : Int) : List Value := [.int .i64 p, .string ⟨#[]⟩, .string ⟨#[]⟩, .slice none 0 0, .slice none 0 0]
def chC (n : Nat) : List (List Value) := (List.range' 0 n).map fun j : Nat => nilC ((j : Int) - 1)
theorem chC_snoc (n : Nat) : (chC (n + 1)).flatten = (chC n).flatten ++ nilC ((n : Int) - 1) := by
  unfold chC
  rw [List.range'_concat, List.map_append, List.flatten_append]
  simp
theorem chC_len (n : Nat) : (chC n).length = n := by simp [chC]
theorem ch_cs (w : World) (n : Nat) : ∀ (k : Nat) cs d, (chC n)[k]? = some cs → (chD 0 n)[k]? = some d → CsOf w cs d := by
  intro k cs d h1 h2
  unfold chC at h1
  unfold chD at h2
  rw [List.getElem?_map] at h1 h2
  cases hr : (List.range' 0 n)[k]? with
  | none => rw [hr] at h1; cases h1
  | some j =>
    rw [hr] at h1 h2
    cases h1
    cases h2
    exact ⟨none, 0, none, 0, rfl, RdNd.nil0 _ _⟩

set_option maxHeartbeats 1000000 in
set_option maxRecDepth 100000 in
theorem chain_any (n : Int) (d : NodeD) (sp : Option Addr) (c : Nat) (q : Option Addr) (o : Nat) (w : World) (hd : RdNd w d sp q) :
    Calls Try.prog 3 #[.int .i64 n, .agg #[.int .i64 d.par, .string d.tag, .string d.id, .slice sp d.cls.length c, .slice q d.att.length o]] w fun e w' => e = .returned (.bool true) ∧ Fr (fun _ => False) w w' := by
  have HD := Lib.hid hd
  have F0 := Lib.hid ((Fr.refl (fun _ => False) w).alloc (.cells #[.int .i64 d.par, .string d.tag, .string d.id, .slice sp d.cls.length c, .slice q d.att.length o] 25))
  have M0 := Lib.hid (heapNew w (.cells #[.int .i64 d.par, .string d.tag, .string d.id, .slice sp d.cls.length c, .slice q d.att.length o] 25))
  have AL := Lib.hid (alive_any (w.alloc (.cells #[.int .i64 d.par, .string d.tag, .string d.id, .slice sp d.cls.length c, .slice q d.att.length o] 25)))
  clear hd
  go_enter Try.func3, Try.ntmps3
  go_wp2_with fail
  rename_i KK aa
  refine AL.out.mono ?_
  rintro e w1 ⟨rfl, f1⟩
  have F1 := Lib.hid (F0.out.trans f1)
  have M1 := Lib.hid (f1.heap M0.out (by simp))
  clear AL f1 F0 M0
  show KK _ _
  apply aa
  by_cases c0 : n < 1
  · have d0 : decide (n < 1) = true := decide_eq_true c0
    go_wp2_with fail
    go_ret
    exact ⟨rfl, F1.out⟩
  have d0 : decide (n < 1) = false := decide_eq_false c0
  by_cases c1 : 300 < n
  · have d1 : decide (300 < n) = true := decide_eq_true c1
    go_wp2_with fail
    go_ret
    exact ⟨rfl, F1.out⟩
  have d1 : decide (300 < n) = false := decide_eq_false c1
  obtain ⟨m, rfl⟩ : ∃ m : Nat, n = (m : Int) + 1 := ⟨(n - 1).toNat, by omega⟩
  have hm3 : m ≤ 299 := by omega
  have hlt1 : w.heap.size < w1.heap.size := ltOf M1.out
  clear c0 d0 c1 d1
  go_wp2_with fail
  go_loopw [6, 7] (fun l i wr => ∃ (k : Nat) (s : Option Addr) (cc : Nat), k ≤ m + 1 ∧ i = .int .i64 k ∧ l = .slice s k cc ∧ Hid (OwnsWin wr (w.heap.size + 1) 25 5 (.slice s k cc) k (chC k).flatten) ∧ Hid (Fr (fun _ => False) w wr) ∧ Hid (wr.heap[w.heap.size]? = some (.cells #[.int .i64 d.par, .string d.tag, .string d.id, .slice sp d.cls.length c, .slice q d.att.length o] 25)) ∧ w.heap.size < wr.heap.size) (fun _ i _ => m + 1 - (intOf i).toNat)
  case atStart => exact ⟨0, none, 0, by omega, rfl, rfl, OwnsWin.nil _ _ _ _, F1.out, M1.out, hlt1⟩
  case round =>
    obtain ⟨k, s, cc, hk, rfl, rfl, hO, hF, hM, hlt⟩ := hrel
    clear F1 M1 hlt1
    obtain ⟨wo, rfl⟩ : ∃ wo : World, wo = wr := ⟨_, rfl⟩
    by_cases hkk : k < m + 1
    · have hki : (k : Int) < (m : Int) + 1 := by omega
      have qw : IntKind.i64.wrap ((k : Int) - 1) = (k : Int) - 1 := IntWalk.i64_in _ (by omega)
      have nm := hO.out.lt
      have HNM := Lib.hid (show some w.heap.size ≠ (Value.slice s k cc).ownBlock from fun e => by have := (nm _ e.symm).1; omega)
      clear nm
      obtain ⟨i25, ha0, ha1, ha2, ha3⟩ := info_parts info25c
      go_wp2_with (at_builtin; refine wpList_append_src _ rfl (.tmp 29) (.tmp 33) 27 rfl (w.heap.size + 1) 25 i25 _ 5 88 Try.underlying27 ha0 ha1 ha2 ha3 rfl (by omega) (.slice s k cc) k _ rfl (hO.out.fr ((Fr.refl (fun _ => False) wo).alloc _) (by simp)) (some ⟨wo.heap.size, 0, none⟩) 1 1 [.int .i64 ((k : Int) - 1), .string ⟨#[]⟩, .string ⟨#[]⟩, .slice none 0 0, .slice none 0 0] rfl (Src.one (heapNew _ _) rfl) (by simp [Value.oneCell']) (by unfold maxLen; omega) (by omega) (by simp; omega) ?_; intro s7 c7 w7 hown7 hgrow7 hloc7; have HO7 := Lib.hid (show OwnsWin w7 (w.heap.size + 1) 25 5 (.slice s7 (k + 1) c7) (k + 1) (chC (k + 1)).flatten from by rw [chC_snoc]; exact hown7); have HM7 := Lib.hid (heapGrown hgrow7 (heapAlloc hM.out) HNM.out); have HF7 := Lib.hid ((hF.out.alloc (.cells #[.int .i64 ((k : Int) - 1), .string ⟨#[]⟩, .string ⟨#[]⟩, .slice none 0 0, .slice none 0 0] 25)).grown hgrow7 (fun j e => .inr (by have := (hO.out.lt j e).1; omega))); have hlt7 : w.heap.size < w7.heap.size := ltOf HM7.out; clear hown7 hgrow7 hloc7)
      all_goals
        go_roundw
        case rel => exact ⟨k + 1, s7, c7, by omega, by go_num, by go_num, HO7.out, HF7.out, HM7.out, hlt7⟩
        case measure => simp [intOf]; omega
    · have hke : k = m + 1 := by omega
      subst hke
      clear hk hkk
      have hkf : decide ((m : Int) + 1 < (m : Int) + 1) = false := by simp
      obtain ⟨hc1, hc2⟩ := hO.out.capLe rfl
      have N0 := New_any (chD 0 (m + 1)) s cc wo (RdNs.win hO.out (chD_len _ _) (chC_len _) (ch_cs wo (m + 1))) (by rw [chD_len]; exact hc1) hc2
      rw [chD_len] at N0
      have N0 := Lib.hid N0
      go_wp2_with fail
      refine N0.out.mono ?_
      rintro e w7 ⟨f7, hN⟩
      have F7 := Lib.hid (hF.out.trans f7)
      have M7 := Lib.hid (f7.heap hM.out (by simp))
      have hsz7 : wo.heap.size ≤ w7.heap.size := f7.size
      have O7 := Lib.hid (hO.out.fr f7 (by simp))
      clear N0 f7
      by_cases c2 : 257 < m + 1
      · have d2 : decide ((257 : Int) < (m : Int) + 1) = true := decide_eq_true (by omega)
        have PN := Lib.hid (fun W => num_any W 11)
        rw [ch_deep (m + 1) c2 (by omega)] at hN
        rcases hN with ⟨n, hn, rfl⟩ | ⟨els, tb, hn, -⟩
        · cases hn
          go_wp2_with fail
          refine (PN.out _).mono ?_
          rintro e w8 ⟨rfl, rfl⟩
          go_wp2_with fail
          go_ret
          exact ⟨rfl, F7.out⟩
        · cases hn
      · have d2 : decide ((257 : Int) < (m : Int) + 1) = false := decide_eq_false (by omega)
        rw [ch_new (m + 1) (by omega)] at hN
        rcases hN with ⟨n, hn, rfl⟩ | ⟨els, tb, hn, rfl, hT, -, -⟩
        · cases hn
        cases hn
        have HT := Lib.hid hT
        have a0 := cellOf M7.out 0
        have a1 := frozenOf M7.out 0
        simp at a0
        clear hT
        have S7 := Lib.hid (Fr.refl (fun j => j = w.heap.size) w7)
        have M8 := Lib.hid (show (w7.setCell ⟨w.heap.size, 0, none⟩ (.int .i64 ((m : Int) + 1))).heap[w.heap.size]? = some (.cells #[.int .i64 ((m : Int) + 1), .string d.tag, .string d.id, .slice sp d.cls.length c, .slice q d.att.length o] 25) from by simpa using heapSet M7.out 0 (.int .i64 ((m : Int) + 1)))
        have F8 := Lib.hid (F7.out.setCell (p := ⟨w.heap.size, 0, none⟩) (.inr (Nat.le_refl _)) (.int .i64 ((m : Int) + 1)))
        have G8 := Lib.hid ((Fr.refl (fun j => j = w.heap.size) w7).setCell (p := ⟨w.heap.size, 0, none⟩) (.inl rfl) (.int .i64 ((m : Int) + 1)))
        have T8 := Lib.hid (HT.out.rebase F8.out (Nat.le_of_lt hlt) G8.out (fun j e => ⟨_, _, _, (by subst e; exact M7.out), by decide, by decide, by decide, by decide, by decide⟩))
        have O8 := Lib.hid (O7.out.fr G8.out (fun j hj e => by have := (O7.out.lt j hj).1; omega))
        clear S7 G8 HT F7 O7 M7
        go_upto_region 13 with fail
        generalize w7.setCell ⟨w.heap.size, 0, none⟩ (.int .i64 ((m : Int) + 1)) = w8 at *
        have b0 := cellOf M8.out 0
        have b1 := cellOf M8.out 1
        have b2 := cellOf M8.out 2
        have b3 := cellOf M8.out 3
        have b4 := cellOf M8.out 4
        simp at b0 b1 b2 b3 b4
        obtain ⟨i25, ha0, ha1, ha2, ha3⟩ := info_parts info25c
        have h8 := F8.out.size
        have hlt8 : w.heap.size < w8.heap.size := ltOf M8.out
        clear a0 a1
        go_wp2_with (at_builtin; refine wpList_append_src _ rfl (.tmp 52) (.tmp 54) 27 rfl (w.heap.size + 1) 25 i25 _ 5 88 Try.underlying27 ha0 ha1 ha2 ha3 rfl (by omega) (.slice s (m + 1) cc) (m + 1) _ rfl (O8.out.fr ((Fr.refl (fun _ => False) w8).alloc _) (by simp)) (some ⟨w8.heap.size, 0, none⟩) 1 1 [.int .i64 ((m : Int) + 1), .string d.tag, .string d.id, .slice sp d.cls.length c, .slice q d.att.length o] rfl (Src.one (heapNew _ _) rfl) (by simp [Value.oneCell']) (by unfold maxLen; omega) (by omega) (by simp; omega) ?_; intro s9 c9 w9 hown9 hgrow9 hloc9; have HO9 := Lib.hid hown9; have HG9 := Lib.hid hgrow9; clear hown9 hgrow9 hloc9)
        have F9 := Lib.hid ((F8.out.alloc (.cells #[.int .i64 ((m : Int) + 1), .string d.tag, .string d.id, .slice sp d.cls.length c, .slice q d.att.length o] 25)).grown HG9.out (fun j e => .inr (by have := (O8.out.lt j e).1; omega)))
        have T9 := Lib.hid (T8.out.rebase F9.out (Nat.le_refl _) (((Fr.refl (fun j => (Value.slice s (m + 1) cc).ownBlock = some j) w8).alloc (.cells #[.int .i64 ((m : Int) + 1), .string d.tag, .string d.id, .slice sp d.cls.length c, .slice q d.att.length o] 25)).grown HG9.out (fun j e => .inl e)) (fun j e => by
          rcases O8.out.2 with ⟨h, _⟩ | ⟨g', off', cap, cur, h, _, hg', _⟩
          · rw [h] at e; simp [Value.ownBlock] at e
          · rw [h] at e
            simp [Value.ownBlock] at e
            subst e
            exact ⟨_, _, _, hg', by decide, by decide, by decide, by decide, by decide⟩))
        have R9 : RdNd w9 ⟨(m : Int) + 1, d.tag, d.id, d.cls, d.att⟩ sp q := by
          have h := HD.out.fr F9.out
          exact ⟨h.cls, h.att, h.hn, h.hm, h.ht, h.ha⟩
        have O9 : OwnsWin w9 (w.heap.size + 1) 25 5 (.slice s9 (m + 1 + 1) c9) (m + 1 + 1) (chC (m + 1) ++ [([.int .i64 ((m : Int) + 1), .string d.tag, .string d.id, .slice sp d.cls.length c, .slice q d.att.length o] : List Value)]).flatten := by
          rw [List.flatten_append]
          simpa using HO9.out
        obtain ⟨hc3, hc4⟩ := O9.capLe rfl
        have N9 := New_any (chD 0 (m + 1) ++ [⟨(m : Int) + 1, d.tag, d.id, d.cls, d.att⟩]) s9 c9 w9 (RdNs.win O9 (by simp [chD_len]) (by simp [chC_len]) (fun k cs d' h1 h2 => by
          rcases Nat.lt_or_ge k (m + 1) with h | h
          · rw [List.getElem?_append_left (by rw [chC_len]; exact h)] at h1
            rw [List.getElem?_append_left (by rw [chD_len]; exact h)] at h2
            exact ch_cs w9 (m + 1) k cs d' h1 h2
          · rw [List.getElem?_append_right (by rw [chC_len]; exact h), chC_len] at h1
            rw [List.getElem?_append_right (by rw [chD_len]; exact h), chD_len] at h2
            rcases Nat.eq_zero_or_pos (k - (m + 1)) with e | e
            · rw [e] at h1 h2
              simp at h1 h2
              subst h1
              subst h2
              exact ⟨sp, c, q, o, rfl, R9⟩
            · rw [List.getElem?_eq_none (by simp; omega)] at h1
              cases h1)) (by simp [chD_len]; omega) hc4
        have hll : (chD 0 (m + 1) ++ [(⟨(m : Int) + 1, d.tag, d.id, d.cls, d.att⟩ : NodeD)]).length = m + 1 + 1 := by simp [chD_len]
        rw [hll] at N9
        have N9 := Lib.hid N9
        clear R9 O9 HO9 HG9 T8 F8 O8 M8 b0 b1 b2 b3 b4 hll
        refine N9.out.mono ?_
        rintro e w10 ⟨f10, hN⟩
        rw [ch_more (m + 1) (by omega) (by omega) _ (by show (m : Int) + 1 = ((m + 1 : Nat) : Int); omega)] at hN
        rcases hN with ⟨n, hn, rfl⟩ | ⟨els, tb', hn, -⟩
        · cases hn
          have F10 := Lib.hid (F9.out.trans f10)
          have T10 := Lib.hid (T9.out.fr0 f10)
          have P0 := Lib.hid (fun W => num_any W 0)
          have P10 := Lib.hid (fun W => num_any W 10)
          have D10 := Depth_any w w10 tb _ T10.out (m : Int)
          rw [(ch_dep m).1] at D10
          have D10 := Lib.hid D10
          clear f10 N9 F9 T9
          go_wp2_with fail
          refine (P0.out _).mono ?_
          rintro e w11 ⟨rfl, rfl⟩
          go_wp2_with fail
          refine D10.out.mono ?_
          rintro e w12 ⟨rfl, f12⟩
          have F12 := Lib.hid (F10.out.trans f12)
          have C12 := Children_any w w12 tb _ (T10.out.fr0 f12) (m : Int) (by rw [(ch_dep m).2]; simp)
          rw [(ch_dep m).2] at C12
          have C12 := Lib.hid C12
          clear f12 D10 F10 T10
          go_wp2_with fail
          refine C12.out.mono ?_
          rintro e w13 ⟨⟨sp2, c2', rfl, -⟩, f13⟩
          have F13 := Lib.hid (F12.out.trans f13)
          clear f13 C12 F12
          go_wp2_with fail
          refine (P10.out _).mono ?_
          rintro e w14 ⟨rfl, rfl⟩
          go_wp2_with fail
          go_ret
          exact ⟨rfl, F13.out⟩
        · cases hn

theorem domChain_walk (n : Int) (v : Value) (d : NodeD) (w : World) (_ : (Lit.int .i64 n).wf = true) (h : IsNode w v d) : Calls Try.prog 3 #[.int .i64 n, v] w fun e w' => e = .returned (.bool true) ∧ Below w.heap.size w w' := by
  obtain ⟨sp, c, q, o, rfl, hd⟩ := h
  exact (chain_any n d sp c q o w hd).mono fun _ _ h => ⟨h.1, h.2.below (Nat.le_refl _) (by simp)⟩
end Go.Proofs.Ytdbhcogafhhlnaa
