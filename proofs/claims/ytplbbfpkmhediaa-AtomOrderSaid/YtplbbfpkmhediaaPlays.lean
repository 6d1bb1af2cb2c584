/- AtomPlays: it returns true, and writes nothing that was there. -/
import Derived.Test.YtplbbfpkmhediaaEach
import Derived.Test.YtplbbfpkmhediaaBools
namespace Go.Proofs.Ytplbbfpkmhediaa
open Go.RowKit Go.Maps Go.ChangeShapes Go.WideShapes Go.ChangeAt Go.WideMaps Go.WideElems

theorem ix_get {xs : List ByteArray} {s : ByteArray} (h : s ∈ xs) : xs.getD (xs.idxOf s) ByteArray.empty = s := by
  have h1 := List.getElem_idxOf (ix_lt h)
  rw [List.getD_eq_getElem?_getD, List.getElem?_eq_getElem (ix_lt h), h1]; rfl

theorem Len_quiet (b : Nat) (S : Nat → Prop) (xs : List ByteArray) (w : World) (ht : IsTab w b S xs) :
    Calls Try.prog 12 #[.pointer (some ⟨b, 0, none⟩)] w fun e w' => e = .returned (.int .i64 (xs.length : Nat)) ∧ w' = w :=
  (Len_any b S xs w ht).mono fun _ _ ⟨h1, h2⟩ => ⟨h1, h2.symm⟩

theorem IsTab.drewN {w : World} {b : Nat} {S : Nat → Prop} {xs : List ByteArray} (ht : IsTab w b S xs) (n : Nat) : IsTab (w.drewN n) b S xs := by
  obtain ⟨hl, hm, mv, sp, sc, h1, h2, h3, h4⟩ := ht
  exact ⟨hl, hm, mv, sp, sc, h1, h2, h3, h4⟩

def nO : ByteArray := ⟨#[111, 116, 104, 101, 114]⟩

/-- The three tables between two rounds. -/
structure Three (w w' : World) (bt bo br : Nat) (xs : List ByteArray) : Prop where
  body : ∃ (St So Sr : Nat → Prop) (os : List ByteArray), IsTab w' bt St xs ∧ IsTab w' bo So os ∧ IsRef w' br Sr xs ∧ (∀ j, St j → ¬ So j) ∧ (∀ j, St j → ¬ Sr j) ∧ (∀ j, So j → ¬ Sr j) ∧
    (∀ j, St j → w.heap.size ≤ j) ∧ (∀ j, So j → w.heap.size ≤ j) ∧ (∀ j, Sr j → w.heap.size ≤ j) ∧ (os = [] ∨ os = [nO])
  below : Below w.heap.size w w'

/-- o.Of of one name. -/
theorem Three.other {w w' : World} {bt bo br : Nat} {xs : List ByteArray} (h : Three w w' bt bo br xs) :
    Calls Try.prog 7 #[.pointer (some ⟨bo, 0, none⟩), .string nO] w' fun e w2 => (∃ n : Nat, e = .returned (.tuple #[.int .i64 n, .bool true])) ∧ Three w w2 bt bo br xs := by
  obtain ⟨⟨St, So, Sr, os, ht, ho, hr, d1, d2, d3, g1, g2, g3, hos⟩, hb⟩ := h
  refine (Of_any bo So os nO w' ho (by decide) (by rcases hos with rfl | rfl <;> simp)).mono ?_
  rintro e w2 ⟨rfl, f, h2⟩
  refine ⟨⟨_, rfl⟩, ⟨St, Gr So w' w2, Sr, ins os nO, ht.fr f d1, h2, hr.fr f (fun j hj hk => d3 j hk hj), fun j hj hk => Gr.disj (fun k h1 h3 => d1 k h3 h1) ht.lt j hk hj, d2, fun j hj hk => Gr.disj d3 hr.lt j hj hk, g1, Gr.ge g2 hb.size, g3, ?_⟩, hb.trans (f.below hb.size (fun j hj hS => by have := g2 j hS; omega))⟩
  rcases hos with rfl | rfl <;> simp [ins]

/-- t.Of, r.Of of a name. -/
theorem Three.tof {w w' : World} {bt bo br : Nat} {xs : List ByteArray} (h : Three w w' bt bo br xs) (s : ByteArray) (hs : s.size ≤ maxLen) (hn : xs.length ≤ 1000) :
    Calls Try.prog 7 #[.pointer (some ⟨bt, 0, none⟩), .string s] w' fun e w2 => e = .returned (.tuple #[.int .i64 ((ins xs s).idxOf s : Nat), .bool true]) ∧
      Below w.heap.size w w2 ∧ Calls Try.prog 10 #[.pointer (some ⟨br, 0, none⟩), .string s] w2 fun e w3 => e = .returned (.tuple #[.int .i64 ((ins xs s).idxOf s : Nat), .bool true]) ∧ Three w w3 bt bo br (ins xs s) := by
  obtain ⟨⟨St, So, Sr, os, ht, ho, hr, d1, d2, d3, g1, g2, g3, hos⟩, hb⟩ := h
  refine (Of_any bt St xs s w' ht hs hn).mono ?_
  rintro e w2 ⟨rfl, f, h2⟩
  have b2 := hb.trans (f.below hb.size (fun j hj hS => by have := g1 j hS; omega))
  refine ⟨rfl, b2, ?_⟩
  have ho2 := ho.fr f (fun j hj hk => d1 j hk hj)
  have hr2 := hr.fr f (fun j hj hk => d2 j hk hj)
  have d1' := Gr.disj (w' := w2) d1 ho.lt
  have d2' := Gr.disj (w' := w2) d2 hr.lt
  have g1' := Gr.ge (w' := w2) g1 hb.size
  generalize Gr St w' w2 = St2 at *
  refine (ROf_any br Sr xs s w2 hr2 hn).mono ?_
  rintro e w3 ⟨rfl, f3, h3⟩
  refine ⟨rfl, ⟨St2, So, Gr Sr w2 w3, os, h2.fr f3 d2', ho2.fr f3 d3, h3, d1', fun j hj hk => Gr.disj (fun k h1 h4 => d2' k h4 h1) h2.lt j hk hj, fun j hj hk => Gr.disj (fun k h1 h4 => d3 k h4 h1) ho2.lt j hk hj, g1', g2, Gr.ge g3 b2.size, hos⟩, b2.trans (f3.below b2.size (fun j hj hS => by have := g3 j hS; omega))⟩

theorem Three.tab {w w' : World} {bt bo br : Nat} {xs : List ByteArray} (h : Three w w' bt bo br xs) : ∃ S, IsTab w' bt S xs := by
  obtain ⟨⟨St, So, Sr, os, ht, _⟩, hb⟩ := h
  exact ⟨_, ht⟩
theorem Three.ref {w w' : World} {bt bo br : Nat} {xs : List ByteArray} (h : Three w w' bt bo br xs) : ∃ S, IsRef w' br S xs := by
  obtain ⟨⟨St, So, Sr, os, ht, ho, hr, _⟩, hb⟩ := h
  exact ⟨_, hr⟩

theorem Three.new (w w0 : World) (hb : Below w.heap.size w w0) : Three w (((w0.alloc (.cells #[.map none, .slice none 0 0] 28)).alloc (.cells #[.map none, .slice none 0 0] 28)).alloc (.cells #[.slice none 0 0] 35)) w0.heap.size (w0.heap.size + 1) (w0.heap.size + 2) [] := by
  have t0 := IsTab.new w0
  generalize hw1 : w0.alloc (.cells #[.map none, .slice none 0 0] 28) = w1 at *
  have e1 : w1.heap.size = w0.heap.size + 1 := by rw [← hw1]; simp
  have t1 := IsTab.new w1
  have f1 : Fr (fun _ => False) w1 (w1.alloc (.cells #[.map none, .slice none 0 0] 28)) := (Fr.refl _ _).alloc _
  have t0' := t0.fr f1 (by simp)
  have bb : Below w.heap.size w w1 := by rw [← hw1]; exact hb.alloc hb.size _
  have bb2 : Below w.heap.size w (w1.alloc (.cells #[.map none, .slice none 0 0] 28)) := bb.alloc bb.size _
  generalize hw2 : w1.alloc (.cells #[.map none, .slice none 0 0] 28) = w2 at *
  have e2 : w2.heap.size = w0.heap.size + 2 := by rw [← hw2]; simp; omega
  have t2 := IsRef.new w2
  have f2 : Fr (fun _ => False) w2 (w2.alloc (.cells #[.slice none 0 0] 35)) := (Fr.refl _ _).alloc _
  have hs := hb.size
  rw [e1] at t1
  rw [e2] at t2
  refine ⟨⟨fun j => j = w0.heap.size, fun j => j = w0.heap.size + 1, fun j => j = w0.heap.size + 2, [], t0'.fr f2 (by simp), t1.fr f2 (by simp), t2, fun j hj hk => ?_, fun j hj hk => ?_, fun j hj hk => ?_, fun j hj => ?_, fun j hj => ?_, fun j hj => ?_, .inl rfl⟩, bb2.alloc bb2.size _⟩
  all_goals (simp only at hj; try simp only at hk)
  all_goals omega

theorem IsRef.drewN {w : World} {b : Nat} {S : Nat → Prop} {xs : List ByteArray} (ht : IsRef w b S xs) (n : Nat) : IsRef (w.drewN n) b S xs := by
  obtain ⟨hl, hm, sp, sc, h1, h2, h3⟩ := ht
  exact ⟨hl, hm, sp, sc, h1, h2, h3⟩

theorem Three.drewN {w w' : World} {bt bo br : Nat} {xs : List ByteArray} (h : Three w w' bt bo br xs) (n : Nat) : Three w (w'.drewN n) bt bo br xs := by
  obtain ⟨⟨St, So, Sr, os, ht, ho, hr, d1, d2, d3, g1, g2, g3, hos⟩, hb⟩ := h
  exact ⟨⟨St, So, Sr, os, ht.drewN n, ho.drewN n, hr.drewN n, d1, d2, d3, g1, g2, g3, hos⟩, ⟨hb.os, hb.tape, hb.output, hb.size, hb.block⟩⟩

theorem eqNe (n : Int) : (n != n) = false := by simp

set_option maxHeartbeats 1000000 in
set_option maxRecDepth 100000 in
theorem plays_any (v : Value) (l : List ByteArray) (u : Value) (f : List Bool) (w : World) (hl : IsStrs w v l) (hf : IsBools w u f) :
    Calls Try.prog 4 #[v, u] w fun e w' => e = .returned (.bool true) ∧ Below w.heap.size w w' := by
  obtain ⟨⟨p, c, rfl, h1, h2, h3⟩, h4⟩ := hl
  obtain ⟨p2, c2, rfl, j1, j2, j3⟩ := hf
  unfold maxLen at h2 j2
  have H3 := Lib.hid h3
  have H4 := Lib.hid h4
  have J3 := Lib.hid j3
  clear h3 h4 j3
  by_cases hbig : 100 < l.length ∨ f.length < l.length
  · by_cases hb1 : 100 < l.length
    · clear hbig
      go_enter Try.func4, Try.ntmps4
      go_wp2_with fail
      refine (alive_any _).mono ?_
      rintro e w1 ⟨rfl, b1⟩
      go_wp2_with fail
      go_ret
      exact ⟨rfl, b1⟩
    · have hb2 : f.length < l.length := by omega
      clear hbig
      go_enter Try.func4, Try.ntmps4
      go_wp2_with fail
      refine (alive_any _).mono ?_
      rintro e w1 ⟨rfl, b1⟩
      go_wp2_with fail
      go_ret
      exact ⟨rfl, b1⟩
  · have hb1 : ¬ 100 < l.length := by omega
    have hb2 : ¬ f.length < l.length := by omega
    clear hbig
    go_enter Try.func4, Try.ntmps4
    go_wp2_with fail
    refine (alive_any _).mono ?_
    rintro e w1 ⟨rfl, b1⟩
    go_wp2_with fail
    have T0 := Three.new w w1 b1
    have hwc : ((w1.alloc (.cells #[.map none, .slice none 0 0] 28)).alloc (.cells #[.map none, .slice none 0 0] 28)).alloc (.cells #[.slice none 0 0] 35) = ((w1.alloc (.cells #[.map none, .slice none 0 0] 28)).alloc (.cells #[.map none, .slice none 0 0] 28)).alloc (.cells #[.slice none 0 0] 35) := rfl
    clear hwc
    rw [show w1.heap.size + 2 = w1.heap.size + 1 + 1 from rfl] at T0
    generalize ((w1.alloc (.cells #[.map none, .slice none 0 0] 28)).alloc (.cells #[.map none, .slice none 0 0] 28)).alloc (.cells #[.slice none 0 0] 35) = w2 at *
    generalize w1.heap.size + 1 + 1 = br at *
    generalize w1.heap.size + 1 = bo at *
    generalize w1.heap.size = bt at *
    clear b1
    go_loopw [9] (fun i wr => ∃ (k : Nat) (xs : List ByteArray), k ≤ l.length ∧ i = .int .i64 k ∧ Three w wr bt bo br xs ∧ xs.length ≤ k) (fun i _ => l.length - (intOf i).toNat)
    case atStart => exact ⟨0, [], Nat.zero_le _, rfl, T0, Nat.le_refl _⟩
    case round =>
      obtain ⟨k, xs, hk, rfl, T, hx⟩ := hrel
      clear T0
      by_cases hlt : k < l.length
      · obtain ⟨s, hs⟩ : ∃ s, l[k]? = some s := ⟨l[k], by simp [hlt]⟩
        obtain ⟨g, off, rfl, hg, hc⟩ := H3.out k s hs
        have hss : s.size ≤ maxLen := H4.out s (List.mem_of_getElem? hs)
        obtain ⟨t, ht⟩ : ∃ t, f[k]? = some t := ⟨f[k]'(by omega), by simp⟩
        obtain ⟨g2, off2, rfl, hg2, hc2⟩ := J3.out k t ht
        clear hs ht
        have Hg := Lib.hid hc
        have Hg2 := Lib.hid hc2
        clear hc hc2
        go_wp2_with fail
        refine T.other.mono ?_
        rintro e w3 ⟨⟨n, rfl⟩, T3⟩
        have c3 := (T3.below.cell (p := ⟨g, off + k, none⟩) hg).trans Hg.out
        have d3 := (T3.below.cell (p := ⟨g2, off2 + k, none⟩) hg2).trans Hg2.out
        clear T
        cases t
        · obtain ⟨S, tt⟩ := T3.tab
          obtain ⟨Sr, tr⟩ := T3.ref
          go_wp2_with fail
          refine (T3.tof s hss (by omega)).mono ?_
          rintro e w4 ⟨rfl, b4, h4⟩
          have c4 := (b4.cell (p := ⟨g, off + k, none⟩) hg).trans Hg.out
          clear tt tr
          have hl3 := len_ins xs s
          have m3 := mem_ins xs s
          have M4 := Lib.hid h4
          clear h4 c3 d3 T3
          generalize ins xs s = x3 at *
          go_wp2_with fail
          refine M4.out.mono ?_
          rintro e w5 ⟨rfl, T5⟩
          obtain ⟨S, tt⟩ := T5.tab
          obtain ⟨Sr, tr⟩ := T5.ref
          have c5 := (T5.below.cell (p := ⟨g, off + k, none⟩) hg).trans Hg.out
          have hget := Lib.hid (ix_get m3)
          have hix := ix_lt m3
          clear M4 c4 b4
          have ML := Lib.hid (fun n => Len_quiet bt S x3 (w5.drewN n) (tt.drewN n))
          have MN := Lib.hid (Name_yes bt S x3 (x3.idxOf s) w5 tt hix (by omega))
          generalize x3.idxOf s = n3 at *
          go_wp2_with fail
          refine MN.out.mono ?_
          rintro e w6 ⟨rfl, rfl⟩
          rw [hget.out]
          have q1 : (s.toList == s.toList) = true := by rw [strEq]; simp
          go_wp2_with fail
          obtain ⟨sp, sc, c0, _⟩ := tr.cells
          clear tt tr MN
          go_quiet ((go_at_call 12; exact Calls.quiet_of_same (ML.out _)))
          go_wp2_with fail
          go_roundw
          case rel => exact ⟨k + 1, x3, by omega, by go_num, T5.drewN _, by omega⟩
          case measure => simp [intOf]; omega
        · obtain ⟨S, tt⟩ := T3.tab
          obtain ⟨Sr, tr⟩ := T3.ref
          obtain ⟨sp, sc, c0, _⟩ := tr.cells
          have MF := Lib.hid (Find_any bt S xs s w3 tt hss)
          have MR := Lib.hid (RFind_any br Sr xs s w3 tr (by omega))
          have ML := Lib.hid (fun n => Len_quiet bt S xs (w3.drewN n) (tt.drewN n))
          clear tt tr
          go_wp2_with fail
          refine MF.out.mono ?_
          rintro e w4 ⟨rfl, rfl⟩
          go_wp2_with fail
          refine MR.out.mono ?_
          rintro e w5 ⟨rfl, rfl⟩
          generalize fnd xs s = n3 at *
          generalize decide (s ∈ xs) = b3 at *
          have q1 : (b3 != b3) = false := by cases b3 <;> rfl
          clear MF MR
          go_wp2_with fail
          go_quiet ((go_at_call 12; exact Calls.quiet_of_same (ML.out _)))
          go_wp2_with fail
          go_roundw
          case rel => exact ⟨k + 1, xs, by omega, by go_num, T3.drewN _, by omega⟩
          case measure => simp [intOf]; omega
      · obtain ⟨S, tt⟩ := T.tab
        have M1 := Lib.hid (Name_no bt S xs (-1) wr tt (by omega) (by omega))
        have M2 := Lib.hid (Name_no bt S xs xs.length wr tt (by omega) (by omega))
        have M3 := Lib.hid (Len_any bt S xs wr tt)
        clear tt
        go_wp2_with fail
        refine M1.out.mono ?_
        rintro e w4 ⟨rfl, rfl⟩
        go_wp2_with fail
        refine M3.out.mono ?_
        rintro e w5 ⟨rfl, rfl⟩
        go_wp2_with fail
        refine M2.out.mono ?_
        rintro e w6 ⟨rfl, rfl⟩
        go_wp2_with fail
        go_ret
        exact ⟨rfl, T.below⟩

end Go.Proofs.Ytplbbfpkmhediaa
