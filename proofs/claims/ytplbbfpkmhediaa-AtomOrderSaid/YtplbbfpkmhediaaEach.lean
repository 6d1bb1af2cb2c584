/- AtomEach: it returns true, and writes nothing that was there. -/
import Derived.Test.YtplbbfpkmhediaaLaw1
namespace Go.Proofs.Ytplbbfpkmhediaa
open Go.RowKit Go.Maps Go.ChangeShapes Go.WideShapes Go.ChangeAt Go.WideMaps Go.WideElems

theorem mem_ins (xs : List ByteArray) (s : ByteArray) : s ∈ ins xs s := by
  unfold ins; split <;> simp_all
theorem mem_ins_of {xs : List ByteArray} {s t : ByteArray} (h : t ∈ xs) : t ∈ ins xs s := by
  unfold ins; split <;> simp_all
theorem ix_ins {xs : List ByteArray} {s t : ByteArray} (h : t ∈ xs) : (ins xs s).idxOf t = xs.idxOf t := by
  unfold ins; split
  · rfl
  · exact idxOf_snoc_mem h
theorem len_ins (xs : List ByteArray) (s : ByteArray) : (ins xs s).length ≤ xs.length + 1 := by
  unfold ins; split <;> simp
theorem ix_lt {xs : List ByteArray} {s : ByteArray} (h : s ∈ xs) : xs.idxOf s < xs.length := List.idxOf_lt_length_of_mem h
theorem ix_inj {xs : List ByteArray} {a b : ByteArray} (h : a ∈ xs) (e : xs.idxOf a = xs.idxOf b) (hb : b ∈ xs) : a = b := by
  have h1 := List.getElem_idxOf (ix_lt h)
  have h2 := List.getElem_idxOf (ix_lt hb)
  simp only [← e] at h2
  rw [← h1, h2]

set_option maxHeartbeats 400000 in
theorem each_any (a b : ByteArray) (v : Value) (l : List ByteArray) (w : World) (ha : a.size ≤ maxLen) (hb : b.size ≤ maxLen) (hl : IsStrs w v l) :
    Calls Try.prog 3 #[.string a, .string b, v] w fun e w' => e = .returned (.bool true) ∧ Below w.heap.size w w' := by
  obtain ⟨⟨p, c, rfl, h1, h2, h3⟩, h4⟩ := hl
  unfold maxLen at h2
  have H3 := Lib.hid h3
  have H4 := Lib.hid h4
  clear h3 h4
  by_cases hbig : 60 < l.length
  · go_enter Try.func3, Try.ntmps3
    go_wp2_with fail
    refine (alive_any _).mono ?_
    rintro e w1 ⟨rfl, b1⟩
    go_wp2_with fail
    go_ret
    exact ⟨rfl, b1⟩
  · go_enter Try.func3, Try.ntmps3
    go_wp2_with fail
    refine (alive_any _).mono ?_
    rintro e w1 ⟨rfl, b1⟩
    go_wp2_with fail
    have t0 := IsTab.new w1
    have b2 : Below w.heap.size w (w1.alloc (.cells #[.map none, .slice none 0 0] 28)) := b1.alloc b1.size _
    obtain ⟨bt, hbt⟩ : ∃ bt, bt = w1.heap.size := ⟨_, rfl⟩
    rw [← hbt] at t0 ⊢
    have hge : w.heap.size ≤ bt := by rw [hbt]; exact b1.size
    clear hbt b1
    generalize w1.alloc (.cells #[.map none, .slice none 0 0] 28) = w2 at *
    go_loopw [9] (fun i wr => ∃ (k : Nat) (S : Nat → Prop) (xs : List ByteArray), k ≤ l.length ∧ i = .int .i64 k ∧ IsTab wr bt S xs ∧ (∀ j, S j → w.heap.size ≤ j) ∧ xs.length ≤ k ∧ Below w.heap.size w wr) (fun i _ => l.length - (intOf i).toNat)
    case atStart => exact ⟨0, _, [], Nat.zero_le _, rfl, t0, fun j hj => by subst hj; exact hge, Nat.le_refl _, b2⟩
    case round =>
      obtain ⟨k, S, xs, hk, rfl, ht, hS, hx, bw⟩ := hrel
      clear t0 b2
      by_cases hlt : k < l.length
      · obtain ⟨s, hs⟩ : ∃ s, l[k]? = some s := ⟨l[k], by simp [hlt]⟩
        obtain ⟨g, off, rfl, hg, hc⟩ := H3.out k s hs
        have hc2 := (bw.cell (p := ⟨g, off + k, none⟩) hg).trans hc
        have hss : s.size ≤ maxLen := H4.out s (List.mem_of_getElem? hs)
        clear hc hs
        go_wp2_with fail
        refine (Of_any bt S xs s _ ht hss (by omega)).mono ?_
        rintro e w3 ⟨rfl, f3, t3⟩
        go_wp2_with fail
        have b3 := bw.trans (f3.below bw.size (fun j hj hS' => by have := hS j hS'; omega))
        have hsz := bw.size
        go_roundw
        case rel => exact ⟨k + 1, _, _, by omega, by go_num, t3, Gr.ge hS hsz, by have := len_ins xs s; omega, b3⟩
        case measure => simp [intOf]; omega
      · have hsz := bw.size
        go_wp2_with fail
        refine (Of_any bt S xs a _ ht ha (by omega)).mono ?_
        rintro e w3 ⟨rfl, f3, t3⟩
        have b3 := bw.trans (f3.below bw.size (fun j hj hS' => by have := hS j hS'; omega))
        have hl3 := len_ins xs a
        have m3 := mem_ins xs a
        have S3 := Gr.ge (w' := w3) hS hsz
        generalize ins xs a = x3 at *
        generalize Gr S _ w3 = Q3 at *
        go_wp2_with fail
        refine (Of_any bt _ x3 b _ t3 hb (by omega)).mono ?_
        rintro e w4 ⟨rfl, f4, t4⟩
        have b4 := b3.trans (f4.below b3.size (fun j hj hS' => by have := S3 j hS'; omega))
        have hl4 := len_ins x3 b
        have m4 := mem_ins_of (s := b) m3
        have m4b := mem_ins x3 b
        have e4 := ix_ins (s := b) m3
        have S4 := Gr.ge (w' := w4) S3 b3.size
        have e5 := ix_ins (s := a) m4
        generalize ins x3 b = x4 at *
        generalize Gr Q3 _ w4 = Q4 at *
        have Hx := Lib.hid (show (x4.idxOf a = x4.idxOf b ↔ a = b) from ⟨fun h => ix_inj m4 h m4b, fun h => by rw [h]⟩)
        rw [← e4]
        have E5 := Lib.hid e5
        clear e5 e4 m4 m4b m3
        go_wp2_with fail
        refine (Of_any bt _ x4 a _ t4 ha (by omega)).mono ?_
        rintro e w5 ⟨rfl, f5, t5⟩
        have b5 := b4.trans (f5.below b4.size (fun j hj hS' => by have := S4 j hS'; omega))
        rw [E5.out]
        clear t5 t4 t3 f5 f4 f3 ht
        by_cases hab : a = b
        · have q1 : (a.toList == b.toList) = true := by rw [strEq]; simpa using hab
          have q2 := Hx.out.2 hab
          rw [← q2]
          generalize x4.idxOf a = n at *
          clear hab q2
          go_wp2_with fail
          go_ret
          exact ⟨rfl, b5⟩
        · have q1 : (a.toList == b.toList) = false := by rw [strEq]; simpa using hab
          have q2 : ¬ x4.idxOf a = x4.idxOf b := fun h => hab (Hx.out.1 h)
          generalize x4.idxOf a = n at *
          generalize x4.idxOf b = m at *
          have q3 : ((n : Int) == (m : Int)) = false := by rw [beq_eq_false_iff_ne]; omega
          clear hab q2
          go_wp2_with fail
          go_ret
          exact ⟨rfl, b5⟩

end Go.Proofs.Ytplbbfpkmhediaa
