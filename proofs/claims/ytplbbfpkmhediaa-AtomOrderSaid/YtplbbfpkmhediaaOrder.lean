/- AtomOrder: it returns true, and writes nothing that was there. -/
import Derived.Test.YtplbbfpkmhediaaPlays
namespace Go.Proofs.Ytplbbfpkmhediaa
open Go.RowKit Go.Maps Go.ChangeShapes Go.WideShapes Go.ChangeAt Go.WideMaps Go.WideElems

/-- A slice of names of the call's own. -/
structure OwnStrs (w : World) (v : Value) (S : Nat → Prop) (xs : List ByteArray) : Prop where
  lt : ∀ k, S k → k < w.heap.size
  row : w.ownsRow 0 9 1 v xs.length (strsV xs)
  mem : ∀ k, v.ownBlock = some k → S k

theorem OwnStrs.fr {S T : Nat → Prop} {w w' : World} {v : Value} {xs : List ByteArray} (h : OwnStrs w v S xs) (f : Fr T w w') (hd : ∀ k, S k → ¬ T k) : OwnStrs w' v S xs :=
  ⟨fun k hk => Nat.lt_of_lt_of_le (h.lt k hk) f.size, ownsRow.fr h.row f (fun k hk => hd k (h.mem k hk)), h.mem⟩

theorem OwnStrs.drewN {w : World} {v : Value} {S : Nat → Prop} {xs : List ByteArray} (h : OwnStrs w v S xs) (n : Nat) : OwnStrs (w.drewN n) v S xs := ⟨h.lt, h.row, h.mem⟩

theorem OwnStrs.cells {w : World} {v : Value} {S : Nat → Prop} {xs : List ByteArray} (h : OwnStrs w v S xs) : ∃ sp sc, v = .slice sp xs.length sc ∧
    ∀ k, k < xs.length → ∃ g, sp = some ⟨g, 0, none⟩ ∧ w.cell? ⟨g, k, none⟩ = some (.string (xs.getD k ByteArray.empty)) := by
  obtain ⟨sp, sc, rfl⟩ := ownsRow.shape h.row
  refine ⟨sp, sc, rfl, fun k hk => ?_⟩
  have h2 := h.row
  rcases h2.2 with ⟨e, h0⟩ | ⟨g, cap, cur, e, _⟩
  · omega
  · cases e
    refine ⟨g, rfl, ?_⟩
    rw [h2.cellAt k (by omega)]
    simp [strsV, hk]

theorem at_of {xs : List ByteArray} {s : ByteArray} {k : Nat} (hn : xs.Nodup) (hk : k < xs.length) (h : xs.getD k ByteArray.empty = s) : s ∈ xs ∧ xs.idxOf s = k := by
  have e : xs[k] = s := by rw [List.getD_eq_getElem?_getD, List.getElem?_eq_getElem hk] at h; exact h
  subst e
  exact ⟨List.getElem_mem hk, hn.idxOf_getElem k hk⟩

theorem ins_nodup {xs : List ByteArray} (h : xs.Nodup) (s : ByteArray) : (ins xs s).Nodup := by
  unfold ins
  split
  · exact h
  · rename_i hs
    rw [List.nodup_append]
    refine ⟨h, by simp, ?_⟩
    intro a ha b hb e
    simp at hb
    subst hb; subst e
    exact hs ha

/-- The table and the slice of what was seen, between two rounds. -/
structure Two (w w' : World) (bt : Nat) (v : Value) (xs : List ByteArray) : Prop where
  body : ∃ (St Sv : Nat → Prop), IsTab w' bt St xs ∧ OwnStrs w' v Sv xs ∧ (∀ j, St j → ¬ Sv j) ∧ (∀ j, St j → w.heap.size ≤ j) ∧ (∀ j, Sv j → w.heap.size ≤ j)
  nodup : xs.Nodup
  below : Below w.heap.size w w'

theorem Two.drewN {w w' : World} {bt : Nat} {v : Value} {xs : List ByteArray} (h : Two w w' bt v xs) (n : Nat) : Two w (w'.drewN n) bt v xs := by
  obtain ⟨⟨St, Sv, ht, hv, d, g1, g2⟩, hn, hb⟩ := h
  exact ⟨⟨St, Sv, ht.drewN n, hv.drewN n, d, g1, g2⟩, hn, ⟨hb.os, hb.tape, hb.output, hb.size, hb.block⟩⟩

/-- t.Of of a name that was seen. -/
theorem Two.old {w w' : World} {bt : Nat} {v : Value} {xs : List ByteArray} (h : Two w w' bt v xs) (s : ByteArray) (hs : s.size ≤ maxLen) (hn : xs.length ≤ 1000) (hin : s ∈ xs) :
    Calls Try.prog 7 #[.pointer (some ⟨bt, 0, none⟩), .string s] w' fun e w2 => e = .returned (.tuple #[.int .i64 (xs.idxOf s : Nat), .bool true]) ∧ Two w w2 bt v xs := by
  obtain ⟨⟨St, Sv, ht, hv, d, g1, g2⟩, hnd, hb⟩ := h
  refine (Of_any bt St xs s w' ht hs hn).mono ?_
  rintro e w2 ⟨rfl, f, h2⟩
  have e1 : ins xs s = xs := by simp [ins, hin]
  rw [e1] at h2 ⊢
  exact ⟨rfl, ⟨⟨_, Sv, h2, hv.fr f (fun j hj hk => d j hk hj), Gr.disj d hv.lt, Gr.ge g1 hb.size, g2⟩, hnd, hb.trans (f.below hb.size (fun j hj hS => by have := g1 j hS; omega))⟩⟩

/-- t.Of of a new name: behind it the slice wants the name. -/
structure TwoN (w w' : World) (bt : Nat) (v : Value) (xs : List ByteArray) (s : ByteArray) : Prop where
  body : ∃ (St Sv : Nat → Prop), IsTab w' bt St (xs ++ [s]) ∧ OwnStrs w' v Sv xs ∧ (∀ j, St j → ¬ Sv j) ∧ (∀ j, St j → w.heap.size ≤ j) ∧ (∀ j, Sv j → w.heap.size ≤ j)
  nodup : (xs ++ [s]).Nodup
  below : Below w.heap.size w w'

theorem Two.fresh {w w' : World} {bt : Nat} {v : Value} {xs : List ByteArray} (h : Two w w' bt v xs) (s : ByteArray) (hs : s.size ≤ maxLen) (hn : xs.length ≤ 1000) (hin : s ∉ xs) :
    Calls Try.prog 7 #[.pointer (some ⟨bt, 0, none⟩), .string s] w' fun e w2 => e = .returned (.tuple #[.int .i64 (xs.length : Nat), .bool true]) ∧ TwoN w w2 bt v xs s := by
  obtain ⟨⟨St, Sv, ht, hv, d, g1, g2⟩, hnd, hb⟩ := h
  refine (Of_any bt St xs s w' ht hs hn).mono ?_
  rintro e w2 ⟨rfl, f, h2⟩
  have e1 : ins xs s = xs ++ [s] := by simp [ins, hin]
  have hnd2 := ins_nodup hnd s
  rw [e1] at h2 hnd2 ⊢
  rw [idxOf_snoc_new hin]
  exact ⟨rfl, ⟨⟨_, Sv, h2, hv.fr f (fun j hj hk => d j hk hj), Gr.disj d hv.lt, Gr.ge g1 hb.size, g2⟩, hnd2, hb.trans (f.below hb.size (fun j hj hS => by have := g1 j hS; omega))⟩⟩

/-- What the append leaves. -/
theorem TwoN.appended {w w1 w2 : World} {bt : Nat} {v v' : Value} {xs : List ByteArray} {s : ByteArray} (h : TwoN w w1 bt v xs s)
    (hown : w2.ownsRow 0 9 1 v' (xs.length + 1) (strsV xs ++ [.string s])) (hg : (w1.alloc (.cells #[.string s] 9)).grownBy w2 v.ownBlock) (hloc : v'.ownBlock = v.ownBlock ∨ v'.ownBlock = some (w1.alloc (.cells #[.string s] 9)).heap.size) : Two w w2 bt v' (xs ++ [s]) := by
  obtain ⟨⟨St, Sv, ht, hv, d, g1, g2⟩, hnd, hb⟩ := h
  have f : Fr Sv w1 w2 := ((Fr.refl Sv w1).alloc _).grown hg (fun k e => .inl (hv.mem k e))
  have hb2 := hb.trans (f.below hb.size (fun j hj hS => by have := g2 j hS; omega))
  refine ⟨⟨St, Gr Sv w1 w2, ht.fr f d, ⟨Gr.lt hv.lt f.size, by simpa [strsV] using hown, fun k hk => ?_⟩, fun j hj hk => Gr.disj (fun k a b => d k b a) ht.lt j hk hj, g1, Gr.ge g2 hb.size⟩, hnd, hb2⟩
  have hlt := (hown.lt k hk).2
  rcases hloc with h | h
  · exact .inl (hv.mem k (by rw [← h]; exact hk))
  · rw [h] at hk
    simp at hk
    exact .inr ⟨by omega, hlt⟩

theorem Two.tab {w w' : World} {bt : Nat} {v : Value} {xs : List ByteArray} (h : Two w w' bt v xs) : ∃ S, IsTab w' bt S xs := by
  obtain ⟨⟨St, Sv, ht, _⟩, _⟩ := h
  exact ⟨_, ht⟩
theorem Two.sl {w w' : World} {bt : Nat} {v : Value} {xs : List ByteArray} (h : Two w w' bt v xs) : ∃ S, OwnStrs w' v S xs := by
  obtain ⟨⟨St, Sv, ht, hv, _⟩, _⟩ := h
  exact ⟨_, hv⟩

def At (xs : List ByteArray) (s : ByteArray) (k : Nat) (z : Int) : Prop :=
  (z = -1 ∧ ∀ j, j < k → xs.getD j ByteArray.empty ≠ s) ∨ (s ∈ xs ∧ z = (xs.idxOf s : Nat))

theorem drewNN (w : World) (a b : Nat) : (w.drewN a).drewN b = w.drewN (a + b) := World.drewN_drewN w a b

set_option maxHeartbeats 1000000 in
set_option maxRecDepth 100000 in
theorem order_any (v : Value) (l : List ByteArray) (w : World) (hl : IsStrs w v l) :
    Calls Try.prog 5 #[v] w fun e w' => e = .returned (.bool true) ∧ Below w.heap.size w w' := by
  obtain ⟨⟨p, c, rfl, h1, h2, h3⟩, h4⟩ := hl
  unfold maxLen at h2
  have H3 := Lib.hid h3
  have H4 := Lib.hid h4
  clear h3 h4
  by_cases hb1 : 80 < l.length
  · go_enter Try.func5, Try.ntmps5
    go_wp2_with fail
    refine (alive_any _).mono ?_
    rintro e w1 ⟨rfl, b1⟩
    go_wp2_with fail
    go_ret
    exact ⟨rfl, b1⟩
  · obtain ⟨i0, hi, hz0, hz1, hz2⟩ := info_parts info9
    go_enter Try.func5, Try.ntmps5
    go_wp2_with fail
    refine (alive_any _).mono ?_
    rintro e w1 ⟨rfl, b1⟩
    go_wp2_with fail
    have T0 : Two w (w1.alloc (.cells #[.map none, .slice none 0 0] 28)) w1.heap.size (.slice none 0 0) [] := ⟨⟨_, fun _ => False, IsTab.new w1, ⟨by simp, World.ownsRow_nil _ _ _ _, fun k hk => by simp [Value.ownBlock] at hk⟩, by simp, fun j hj => by subst hj; exact b1.size, by simp⟩, by simp, b1.alloc b1.size _⟩
    generalize w1.alloc (.cells #[.map none, .slice none 0 0] 28) = w2 at *
    generalize w1.heap.size = bt at *
    clear b1
    go_loopw [6, 5] (fun i v wr => ∃ (k : Nat) (xs : List ByteArray), k ≤ l.length ∧ i = .int .i64 k ∧ Two w wr bt v xs ∧ xs.length ≤ k) (fun i _ _ => l.length - (intOf i).toNat)
    case atStart => exact ⟨0, [], Nat.zero_le _, rfl, T0, Nat.le_refl _⟩
    case round =>
      obtain ⟨k, xs, hk, rfl, T, hx⟩ := hrel
      clear T0
      obtain ⟨Sv, hsl⟩ := T.sl
      obtain ⟨sp, sc, rfl, hcs⟩ := hsl.cells
      have Hcs := Lib.hid hcs
      clear hcs hsl
      by_cases hlt : k < l.length
      · obtain ⟨s, hs⟩ : ∃ s, l[k]? = some s := ⟨l[k], by simp [hlt]⟩
        obtain ⟨g, off, rfl, hg, hc⟩ := H3.out k s hs
        have hss : s.size ≤ maxLen := H4.out s (List.mem_of_getElem? hs)
        clear hs
        have Hg := Lib.hid hc
        clear hc
        have c1 := (T.below.cell (p := ⟨g, off + k, none⟩) hg).trans Hg.out
        obtain ⟨wo, rfl⟩ : ∃ wo : World, wo = wr := ⟨_, rfl⟩
        go_wp2_with fail
        go_loopw [7, 8] (fun z j wi => ∃ (m q : Nat) (zi : Int), q ≤ xs.length ∧ j = .int .i64 q ∧ z = .int .i64 zi ∧ Hid (At xs s q zi) ∧ wi = wo.drewN m) (fun _ j _ => xs.length - (intOf j).toNat)
        case atStart => exact ⟨0, 0, -1, Nat.zero_le _, rfl, rfl, .inl ⟨rfl, fun j hj => by omega⟩, rfl⟩
        case round =>
          obtain ⟨m, q, zi, hq, rfl, rfl, hat, rfl⟩ := hrel
          by_cases hql : q < xs.length
          · obtain ⟨g3, rfl, hg3⟩ := Hcs.out q hql
            generalize hnm : xs.getD q ByteArray.empty = nm at hg3
            have Hnm := Lib.hid hnm
            clear hnm
            by_cases he : nm = s
            · have h5 : (nm.toList == s.toList) = true := by rw [strEq]; simpa using he
              have Hhe := Lib.hid he
              clear he
              have hq0 : (q : Int) < (xs.length : Int) := by omega
              have hk0 : (k : Int) < (l.length : Int) := by omega
              go_wp2_with fail
              go_quiet (fail)
              go_wp2_with fail
              go_roundw
              case rel =>
                obtain ⟨r1, r2⟩ := at_of T.nodup hql (Hnm.out.trans Hhe.out)
                exact ⟨_, q + 1, q, by omega, by go_num, rfl, .inr ⟨r1, by rw [r2]⟩, by first | rfl | exact drewNN _ _ _⟩
              case measure => simp [intOf]; omega
            · have h5 : (nm.toList == s.toList) = false := by rw [strEq]; simpa using he
              have Hhe := Lib.hid he
              clear he
              have hq0 : (q : Int) < (xs.length : Int) := by omega
              have hk0 : (k : Int) < (l.length : Int) := by omega
              go_wp2_with fail
              go_quiet (fail)
              go_wp2_with fail
              go_roundw
              case rel =>
                refine ⟨_, q + 1, zi, by omega, by go_num, rfl, ?_, by first | rfl | exact drewNN _ _ _⟩
                rcases hat.out with ⟨r1, r2⟩ | r
                · refine .inl ⟨r1, fun j hj => ?_⟩
                  by_cases hjq : j = q
                  · subst hjq; rw [Hnm.out]; exact Hhe.out
                  · exact r2 j (by omega)
                · exact .inr r
              case measure => simp [intOf]; omega
          · have hqe : q = xs.length := by omega
            subst hqe
            have T2 := T.drewN m
            have c2 := (T2.below.cell (p := ⟨g, off + k, none⟩) hg).trans Hg.out
            generalize wo.drewN m = w3 at *
            obtain ⟨St, tt⟩ := T2.tab
            have MF := Lib.hid (Find_any bt St xs s w3 tt hss)
            clear tt T c1
            rcases hat.out with ⟨rfl, hno⟩ | ⟨hin, rfl⟩
            · have hni : s ∉ xs := fnd_no hno
              have MO := Lib.hid (T2.fresh s hss (by omega) hni)
              have hdec := Lib.hid (show decide (s ∈ xs) = false by simpa using hni)
              clear hno hat
              go_wp2_with fail
              refine MF.out.mono ?_
              rintro e w4 ⟨rfl, rfl⟩
              rw [hdec.out]
              clear hni
              go_wp2_with fail
              refine MO.out.mono ?_
              rintro e w5 ⟨rfl, T5⟩
              have c5 := (T5.below.cell (p := ⟨g, off + k, none⟩) hg).trans Hg.out
              have hrow : ∃ Sv, OwnStrs w5 (.slice sp xs.length sc) Sv xs := by
                obtain ⟨⟨_, Sv, _, h, _⟩, _⟩ := T5
                exact ⟨Sv, h⟩
              obtain ⟨Sv, hrow⟩ := hrow
              go_wp2_with (first
                | (at_builtin; refine wpList_append_own_at _ rfl _ _ 22 rfl 0 9 i0 (.string ByteArray.empty) 1 16 Try.underlying22 hi hz0 hz1 hz2 rfl (by decide) (.slice sp xs.length sc) _ _ rfl (hrow.row.alloc _) ⟨w5.heap.size, 0, none⟩ 1 1 [.string s] rfl rfl (cell_one_new _ _ _) (by simp [Value.oneCell']) (by unfold maxLen; omega) (by omega) (by omega) ?_; intro v' w6 hown6 hgrow6 _ hloc; obtain ⟨sp', sc', rfl⟩ := ownsRow.shape hown6; have T6 := T5.appended hown6 hgrow6 hloc; clear hown6 hgrow6 hloc)
                | go_in)
              go_roundw
              case rel => exact ⟨k + 1, xs ++ [s], by omega, by go_num, T6, by simp; omega⟩
              case measure => simp [intOf]; omega
            · have MO := Lib.hid (T2.old s hss (by omega) hin)
              have hdec := Lib.hid (show decide (s ∈ xs) = true by simpa using hin)
              clear hat hin
              generalize xs.idxOf s = n3 at *
              go_wp2_with fail
              refine MF.out.mono ?_
              rintro e w4 ⟨rfl, rfl⟩
              rw [hdec.out]
              go_wp2_with fail
              refine MO.out.mono ?_
              rintro e w5 ⟨rfl, T5⟩
              go_wp2_with fail
              go_roundw
              case rel => exact ⟨k + 1, xs, by omega, by go_num, T5, by omega⟩
              case measure => simp [intOf]; omega
      · obtain ⟨wo, rfl⟩ : ∃ wo : World, wo = wr := ⟨_, rfl⟩
        obtain ⟨St, tt⟩ := T.tab
        have ML := Lib.hid (Len_any bt St xs wo tt)
        have MN := Lib.hid (fun q hq => Name_yes bt St xs q wo tt hq (by omega))
        clear tt
        go_wp2_with fail
        go_loop [13] (fun j => ∃ q : Nat, q ≤ xs.length ∧ j = .int .i64 q) (fun j => xs.length - (intOf j).toNat)
        case atStart => exact ⟨0, Nat.zero_le _, rfl⟩
        case round =>
          obtain ⟨q, hq, rfl⟩ := hrel
          by_cases hql : q < xs.length
          · obtain ⟨g3, rfl, hg3⟩ := Hcs.out q hql
            have MQ := Lib.hid (MN.out q hql)
            generalize xs.getD q ByteArray.empty = nm at *
            have h5 : (nm.toList == nm.toList) = true := by rw [strEq]; simp
            go_wp2_with fail
            refine MQ.out.mono ?_
            rintro e w4 ⟨rfl, rfl⟩
            go_wp2_with fail
            go_round
            case rel => exact ⟨q + 1, by omega, by go_num⟩
            case measure => simp [intOf]; omega
          · go_wp2_with fail
            refine ML.out.mono ?_
            rintro e w4 ⟨rfl, rfl⟩
            go_wp2_with fail
            go_ret
            exact ⟨rfl, T.below⟩

end Go.Proofs.Ytplbbfpkmhediaa
