/- hashes: the hashes of names, one by one. No condition but the texts' sizes. -/
import Derived.Test.YtfhojfndccelfaaHash
import Derived.Test.YtfhojfndccelfaaRF
import Derived.RangeFuncBox
import Derived.RangeFuncLeaves
import Derived.RangeFuncBound
import Derived.Shelf.Abstract
import Derived.OwnWalkIn
import Derived.TacticsInMore
import Derived.LoopNIn
import Derived.LoopIn
import Derived.Shelf.RegionOpen
import Derived.Sort.LoopGhostIn
namespace Go.Proofs.Ytfhojfndccelfaa
open Go.RowKit Go.Shelf

attribute [local go_sem] Oper.semAt_some

/-- A slice of texts that reads as l, none of its cells in a block of S. -/
def StrO (S : Nat → Prop) (w : World) (v : Value) (l : List ByteArray) : Prop :=
  ∃ p c, v = .slice p l.length c ∧ l.length ≤ maxLen ∧ ∀ i x, l[i]? = some x → x.size ≤ maxLen ∧ ∃ g off, p = some ⟨g, off, none⟩ ∧ g < w.heap.size ∧ ¬ S g ∧ w.cell? ⟨g, off + i, none⟩ = some (.string x)
theorem StrO.step {S S' : Nat → Prop} {w w' : World} {v : Value} {l : List ByteArray} (h : StrO S w v l) (f : Fr S w w') (hS : ∀ k, S' k → S k ∨ w.heap.size ≤ k) : StrO S' w' v l := by
  obtain ⟨p, c, e, hm, h1⟩ := h
  refine ⟨p, c, e, hm, fun i x hx => ?_⟩
  obtain ⟨h0, g, off, hp, hg, hn, hc⟩ := h1 i x hx
  exact ⟨h0, g, off, hp, Nat.lt_of_lt_of_le hg f.size, fun e => by rcases hS g e with e | e; exact hn e; omega, (f.cell (p := ⟨g, off + i, none⟩) hg hn).trans hc⟩
theorem StrO.keep {S T : Nat → Prop} {w w' : World} {v : Value} {l : List ByteArray} (h : StrO S w v l) (f : Fr T w w') (hT : ∀ k, k < w.heap.size → T k → S k) : StrO S w' v l := by
  obtain ⟨p, c, e, hm, h1⟩ := h
  refine ⟨p, c, e, hm, fun i x hx => ?_⟩
  obtain ⟨h0, g, off, hp, hg, hn, hc⟩ := h1 i x hx
  exact ⟨h0, g, off, hp, Nat.lt_of_lt_of_le hg f.size, hn, (f.cell (p := ⟨g, off + i, none⟩) hg (fun e => hn (hT g hg e))).trans hc⟩
theorem StrO.of {S : Nat → Prop} {w : World} {v : Value} {l : List ByteArray} (h : IsStrs w v l) (hS : ∀ k, S k → w.heap.size ≤ k) : StrO S w v l := by
  obtain ⟨⟨p, c, e, h1, h2, h3⟩, h4⟩ := h
  refine ⟨p, c, e, by omega, fun i x hx => ⟨h4 x (List.mem_of_getElem? hx), ?_⟩⟩
  obtain ⟨g, off, hp, hg, hc⟩ := h3 i x hx
  exact ⟨g, off, hp, hg, fun e => by have := hS g e; omega, hc⟩

/-- The hashes of a tag, of ids and of classes. -/
def hsL (tag : ByteArray) (ids cls : List ByteArray) : List Nat := (if tag = ByteArray.empty then [] else [hN 1 tag]) ++ ids.map (hN 2) ++ cls.map (hN 3)
theorem hsL_len (tag : ByteArray) (ids cls : List ByteArray) : (hsL tag ids cls).length ≤ 1 + ids.length + cls.length := by
  unfold hsL
  split <;> simp <;> omega

/-- What the iterator reads. -/
structure HsS (bx bi bc : Nat) (tag : ByteArray) (vi vc : Value) (ids cls : List ByteArray) (W : World) (S : Nat → Prop) : Prop where
  x : W.heap[bx]? = some (.cells #[.string tag] 9 (0, 0))
  i : W.heap[bi]? = some (.cells #[vi] 41 (0, 0))
  c : W.heap[bc]? = some (.cells #[vc] 41 (0, 0))
  ri : StrO S W vi ids
  rc : StrO S W vc cls
  s : ∀ k, S k → k ≠ bx ∧ k ≠ bi ∧ k ≠ bc
theorem HsS.step {bx bi bc : Nat} {tag : ByteArray} {vi vc : Value} {ids cls : List ByteArray} {W W' : World} {S S' : Nat → Prop} (h : HsS bx bi bc tag vi vc ids cls W S) (f : Fr S W W') (hS : ∀ k, S' k → S k ∨ W.heap.size ≤ k) : HsS bx bi bc tag vi vc ids cls W' S' :=
  ⟨f.heap h.x (fun e => (h.s _ e).1 rfl), f.heap h.i (fun e => (h.s _ e).2.1 rfl), f.heap h.c (fun e => (h.s _ e).2.2 rfl), h.ri.step f hS, h.rc.step f hS,
    fun k hk => by
      rcases hS k hk with e | e
      · exact h.s k e
      · have a := ltOf h.x
        have b := ltOf h.i
        have c := ltOf h.c
        exact ⟨by omega, by omega, by omega⟩⟩
theorem HsS.fr0 {bx bi bc : Nat} {tag : ByteArray} {vi vc : Value} {ids cls : List ByteArray} {W W' : World} {S : Nat → Prop} (h : HsS bx bi bc tag vi vc ids cls W S) (f : Fr (fun _ => False) W W') : HsS bx bi bc tag vi vc ids cls W' S :=
  h.step (f.mono (fun _ _ e => e.elim)) (fun _ e => .inl e)

theorem hashes_any (w : World) (tag : ByteArray) (pi pc : Option Addr) (ni nc ci cc : Nat) :
    Calls Try.prog 38 #[.string tag, .slice pi ni ci, .slice pc nc cc] w fun e w' => e = .returned (.func (.func 43) #[] #[.pointer (some ⟨w.heap.size, 0, none⟩), .pointer (some ⟨w.heap.size + 1, 0, none⟩), .pointer (some ⟨w.heap.size + 1 + 1, 0, none⟩)]) ∧
      w' = ((w.alloc (.cells #[.string tag] 9)).alloc (.cells #[.slice pi ni ci] 41)).alloc (.cells #[.slice pc nc cc] 41) := by
  go_enter Try.func38, Try.ntmps38
  go_wp2
  go_ret
  exact ⟨rfl, rfl⟩

set_option maxRecDepth 100000 in
set_option maxHeartbeats 4000000 in
theorem hs_stops (bx bi bc : Nat) (tag : ByteArray) (vi vc : Value) (ids cls : List ByteArray) (ht : tag.size ≤ maxLen) (h1 : ids.length ≤ 1000) (h2 : cls.length ≤ 1000) (nn : Nat) (hnn : 2 ≤ nn) :
    SeqF Fence.wide nn Try.prog 43 #[.pointer (some ⟨bx, 0, none⟩), .pointer (some ⟨bi, 0, none⟩), .pointer (some ⟨bc, 0, none⟩)] (fun y : Nat => #[Value.int .i64 (y : Int)]) (fun _ => False)
      (fun W S => HsS bx bi bc tag vi vc ids cls W S) (fun xs => xs = hsL tag ids cls) (fun _ => True) 10000 := by
  have hn1 : 1 ≤ nn := by omega
  have hn2 : 1 ≤ nn - 1 := by omega
  rintro l J Jx W S0 hP hJ hJx hlt hY h00
  have HR := Lib.hid hP
  have HJ0 := Lib.hid h00
  have HY := Lib.hid hY
  have HJ := Lib.hid hJ
  have HA1 := Lib.hid (fun (s : ByteArray) (w : World) (h : s.size ≤ maxLen) => Hash_any 1 s w h)
  have HA2 := Lib.hid (fun (s : ByteArray) (w : World) (h : s.size ≤ maxLen) => Hash_any 2 s w h)
  have HA3 := Lib.hid (fun (s : ByteArray) (w : World) (h : s.size ≤ maxLen) => Hash_any 3 s w h)
  have x0 := cellOf hP.x 0
  have x1 := cellOf hP.i 0
  have x2 := cellOf hP.c 0
  simp at x0 x1 x2
  clear hP hJ hJx hlt hY h00
  refine callsIn_of_wp Try.func43 rfl trivial ?_ rfl
  simp only [Try.ntmps43, List.size_toArray, List.length_cons, List.length_nil, Nat.reduceAdd, Nat.reduceSub, Array.replicate_succ, Array.replicate_zero, List.push_toArray, List.append_toArray, List.nil_append, List.cons_append]
  obtain ⟨pi, ci, ei, _, _⟩ := HR.out.ri
  obtain ⟨pc, cc, ec, _, _⟩ := HR.out.rc
  subst ei ec
  by_cases htag : tag = ByteArray.empty
  · have q0 : tag.toList.isEmpty = true := by rw [ByteArray.toList_eq, htag]; rfl
    have HTAG := Lib.hid htag
    clear htag
    gi_wp2
    refine ⟨trivial, ?_⟩
    gi_wp2
    refine ⟨fun _ h => (by cases h), ?_⟩
    gi_wp2
    gi_loopw [20] (fun i wr => ∃ (k : Nat) (S : Nat → Prop), k ≤ ids.length ∧ i = .int .i64 k ∧ Hid (J (([] : List Nat) ++ (ids.take k).map (hN 2)) S wr) ∧ Hid (HsS bx bi bc tag (.slice pi ids.length ci) (.slice pc cls.length cc) ids cls wr S)) (fun i _ => ids.length - (intOf i).toNat)
    case atStart => exact ⟨0, _, by omega, rfl, Lib.hid (by rw [List.take_zero, List.map_nil, List.append_nil]; exact HJ0.out), HR⟩
    case round =>
      clear HJ0 HR x0 x1 x2
      obtain ⟨k, S, hk, rfl, hJ, hS⟩ := hrel
      by_cases hlt : k < ids.length
      · have d0 : decide ((k : Int) < (ids.length : Int)) = true := by simp; omega
        have hx := List.getElem?_eq_getElem hlt
        have HT := Lib.hid (show (ids.take (k + 1)).map (hN 2) = (ids.take k).map (hN 2) ++ [hN 2 ids[k]] by rw [List.take_add_one, hx, Option.toList_some, List.map_append, List.map_cons, List.map_nil])
        have HL := Lib.hid (show (([] : List Nat) ++ (ids.take k).map (hN 2)).length < 10000 from by simp; omega)
        generalize ids[k] = s0 at *
        obtain ⟨p9, c9, e9, _, h9⟩ := hS.out.ri
        cases e9
        obtain ⟨hs9, g, off, rfl, hg, _, hc⟩ := h9 k s0 hx
        have y1 := hg
        clear h9 hx hg
        gi_wp2
        refine ⟨trivial, callsIn_wide.2 ((HA2.out _ _ hs9).mono ?_)⟩
        rintro e w3 ⟨rfl, f3⟩
        have HJ3 := Lib.hid (HJ.out _ _ _ _ hJ.out (f3.mono (fun _ _ e => e.elim)))
        have HS3 := Lib.hid (hS.out.fr0 f3)
        clear f3 hc y1 hJ hS
        obtain ⟨fn, tmps, assign, body, hy, hR9⟩ := HY.out _ (hN 2 s0) S w3 HJ3.out HL.out
        have HR9 := Lib.hid hR9
        clear hR9
        gi_wp2
        refine HR9.out.mono ?_
        rintro e' W3 (⟨rfl, S', hJ4, f4, hS4⟩ | ⟨rfl, S', hJx4⟩)
        · have HJ4 := Lib.hid hJ4
          have HS4 := Lib.hid (HS3.out.step f4 hS4)
          clear hJ4 f4 hS4 HR9
          gi_wp2
          go_roundw
          case rel => exact ⟨k + 1, S', by omega, by go_num, Lib.hid (by rw [HT.out, ← List.append_assoc]; exact HJ4.out), HS4⟩
          case measure => simp [intOf]; omega
        · gi_wp2
          refine bodyPost_ret (v := .tuple #[]) (results_none rfl _ _ _) rfl ?_
          exact ⟨⟨_, rfl⟩, .inr ⟨_, S', trivial, hJx4⟩⟩
      · obtain rfl : k = ids.length := by omega
        have d0 : decide ((ids.length : Int) < (ids.length : Int)) = false := by simp
        have HJ0 := Lib.hid (show J (([] : List Nat) ++ ids.map (hN 2)) S wr from by have h := hJ.out; rw [List.take_of_length_le (Nat.le_refl _)] at h; exact h)
        have HR := hS
        clear hJ hS
        have x2 := cellOf HR.out.c 0
        have x0 := True.intro
        have x1 := True.intro
        simp at x2
        gi_wp2
        gi_loopw [32] (fun i wr => ∃ (k : Nat) (S : Nat → Prop), k ≤ cls.length ∧ i = .int .i64 k ∧ Hid (J ((([] : List Nat) ++ ids.map (hN 2)) ++ (cls.take k).map (hN 3)) S wr) ∧ Hid (HsS bx bi bc tag (.slice pi ids.length ci) (.slice pc cls.length cc) ids cls wr S)) (fun i _ => cls.length - (intOf i).toNat)
        case atStart => exact ⟨0, _, by omega, rfl, Lib.hid (by rw [List.take_zero, List.map_nil, List.append_nil]; exact HJ0.out), HR⟩
        case round =>
          clear HJ0 HR x0 x1 x2
          obtain ⟨k, S, hk, rfl, hJ, hS⟩ := hrel
          by_cases hlt : k < cls.length
          · have d0 : decide ((k : Int) < (cls.length : Int)) = true := by simp; omega
            have hx := List.getElem?_eq_getElem hlt
            have HT := Lib.hid (show (cls.take (k + 1)).map (hN 3) = (cls.take k).map (hN 3) ++ [hN 3 cls[k]] by rw [List.take_add_one, hx, Option.toList_some, List.map_append, List.map_cons, List.map_nil])
            have HL := Lib.hid (show ((([] : List Nat) ++ ids.map (hN 2)) ++ (cls.take k).map (hN 3)).length < 10000 from by simp; omega)
            generalize cls[k] = s0 at *
            obtain ⟨p9, c9, e9, _, h9⟩ := hS.out.rc
            cases e9
            obtain ⟨hs9, g, off, rfl, hg, _, hc⟩ := h9 k s0 hx
            have y1 := hg
            clear h9 hx hg
            gi_wp2
            refine ⟨trivial, callsIn_wide.2 ((HA3.out _ _ hs9).mono ?_)⟩
            rintro e w3 ⟨rfl, f3⟩
            have HJ3 := Lib.hid (HJ.out _ _ _ _ hJ.out (f3.mono (fun _ _ e => e.elim)))
            have HS3 := Lib.hid (hS.out.fr0 f3)
            clear f3 hc y1 hJ hS
            obtain ⟨fn, tmps, assign, body, hy, hR9⟩ := HY.out _ (hN 3 s0) S w3 HJ3.out HL.out
            have HR9 := Lib.hid hR9
            clear hR9
            gi_wp2
            refine HR9.out.mono ?_
            rintro e' W3 (⟨rfl, S', hJ4, f4, hS4⟩ | ⟨rfl, S', hJx4⟩)
            · have HJ4 := Lib.hid hJ4
              have HS4 := Lib.hid (HS3.out.step f4 hS4)
              clear hJ4 f4 hS4 HR9
              gi_wp2
              go_roundw
              case rel => exact ⟨k + 1, S', by omega, by go_num, Lib.hid (by rw [HT.out, ← List.append_assoc]; exact HJ4.out), HS4⟩
              case measure => simp [intOf]; omega
            · gi_wp2
              refine bodyPost_ret (v := .tuple #[]) (results_none rfl _ _ _) rfl ?_
              exact ⟨⟨_, rfl⟩, .inr ⟨_, S', trivial, hJx4⟩⟩
          · obtain rfl : k = cls.length := by omega
            have d0 : decide ((cls.length : Int) < (cls.length : Int)) = false := by simp
            have HJ9 := Lib.hid (show J ((([] : List Nat) ++ ids.map (hN 2)) ++ cls.map (hN 3)) S wr from by have h := hJ.out; rw [List.take_of_length_le (Nat.le_refl _)] at h; exact h)
            gi_wp2
            go_end0
            exact ⟨⟨_, rfl⟩, .inl ⟨_, S, by unfold hsL; simp [HTAG.out], HJ9.out⟩⟩
  · have q0 : tag.toList.isEmpty = false := by
      rw [ByteArray.toList_eq]
      rw [Bool.eq_false_iff]
      intro h
      apply htag
      apply ByteArray.ext
      simpa using h
    have HTAG := Lib.hid htag
    have HT := Lib.hid ht
    clear htag ht
    gi_wp2
    refine ⟨trivial, callsIn_wide.2 ((HA1.out _ _ HT.out).mono ?_)⟩
    rintro e w3 ⟨rfl, f3⟩
    have HJ3 := Lib.hid (HJ.out _ _ _ _ HJ0.out (f3.mono (fun _ _ e => e.elim)))
    have HS3 := Lib.hid (HR.out.fr0 f3)
    clear f3 HJ0 HR x0 x1 x2
    obtain ⟨fn, tmps, assign, body, hy, hR9⟩ := HY.out _ (hN 1 tag) S0 w3 HJ3.out (by simp)
    have HR9 := Lib.hid hR9
    clear hR9
    gi_wp2
    refine HR9.out.mono ?_
    rintro e' W3 (⟨rfl, S', hJ4, f4, hS4⟩ | ⟨rfl, S', hJx4⟩)
    · have HJ0 := Lib.hid hJ4
      have HR := Lib.hid (HS3.out.step f4 hS4)
      clear hJ4 f4 hS4 HR9
      have x1 := cellOf HR.out.i 0
      have x2 := cellOf HR.out.c 0
      have x0 := True.intro
      simp at x1 x2
      gi_wp2
      gi_loopw [20] (fun i wr => ∃ (k : Nat) (S : Nat → Prop), k ≤ ids.length ∧ i = .int .i64 k ∧ Hid (J ([hN 1 tag] ++ (ids.take k).map (hN 2)) S wr) ∧ Hid (HsS bx bi bc tag (.slice pi ids.length ci) (.slice pc cls.length cc) ids cls wr S)) (fun i _ => ids.length - (intOf i).toNat)
      case atStart => exact ⟨0, _, by omega, rfl, Lib.hid (by rw [List.take_zero, List.map_nil, List.append_nil]; exact HJ0.out), HR⟩
      case round =>
        clear HJ0 HR x0 x1 x2
        obtain ⟨k, S, hk, rfl, hJ, hS⟩ := hrel
        by_cases hlt : k < ids.length
        · have d0 : decide ((k : Int) < (ids.length : Int)) = true := by simp; omega
          have hx := List.getElem?_eq_getElem hlt
          have HT := Lib.hid (show (ids.take (k + 1)).map (hN 2) = (ids.take k).map (hN 2) ++ [hN 2 ids[k]] by rw [List.take_add_one, hx, Option.toList_some, List.map_append, List.map_cons, List.map_nil])
          have HL := Lib.hid (show ([hN 1 tag] ++ (ids.take k).map (hN 2)).length < 10000 from by simp; omega)
          generalize ids[k] = s0 at *
          obtain ⟨p9, c9, e9, _, h9⟩ := hS.out.ri
          cases e9
          obtain ⟨hs9, g, off, rfl, hg, _, hc⟩ := h9 k s0 hx
          have y1 := hg
          clear h9 hx hg
          gi_wp2
          refine ⟨trivial, callsIn_wide.2 ((HA2.out _ _ hs9).mono ?_)⟩
          rintro e w3 ⟨rfl, f3⟩
          have HJ3 := Lib.hid (HJ.out _ _ _ _ hJ.out (f3.mono (fun _ _ e => e.elim)))
          have HS3 := Lib.hid (hS.out.fr0 f3)
          clear f3 hc y1 hJ hS
          obtain ⟨fn, tmps, assign, body, hy, hR9⟩ := HY.out _ (hN 2 s0) S w3 HJ3.out HL.out
          have HR9 := Lib.hid hR9
          clear hR9
          gi_wp2
          refine HR9.out.mono ?_
          rintro e' W3 (⟨rfl, S', hJ4, f4, hS4⟩ | ⟨rfl, S', hJx4⟩)
          · have HJ4 := Lib.hid hJ4
            have HS4 := Lib.hid (HS3.out.step f4 hS4)
            clear hJ4 f4 hS4 HR9
            gi_wp2
            go_roundw
            case rel => exact ⟨k + 1, S', by omega, by go_num, Lib.hid (by rw [HT.out, ← List.append_assoc]; exact HJ4.out), HS4⟩
            case measure => simp [intOf]; omega
          · gi_wp2
            refine bodyPost_ret (v := .tuple #[]) (results_none rfl _ _ _) rfl ?_
            exact ⟨⟨_, rfl⟩, .inr ⟨_, S', trivial, hJx4⟩⟩
        · obtain rfl : k = ids.length := by omega
          have d0 : decide ((ids.length : Int) < (ids.length : Int)) = false := by simp
          have HJ0 := Lib.hid (show J ([hN 1 tag] ++ ids.map (hN 2)) S wr from by have h := hJ.out; rw [List.take_of_length_le (Nat.le_refl _)] at h; exact h)
          have HR := hS
          clear hJ hS
          have x2 := cellOf HR.out.c 0
          have x0 := True.intro
          have x1 := True.intro
          simp at x2
          gi_wp2
          gi_loopw [32] (fun i wr => ∃ (k : Nat) (S : Nat → Prop), k ≤ cls.length ∧ i = .int .i64 k ∧ Hid (J (([hN 1 tag] ++ ids.map (hN 2)) ++ (cls.take k).map (hN 3)) S wr) ∧ Hid (HsS bx bi bc tag (.slice pi ids.length ci) (.slice pc cls.length cc) ids cls wr S)) (fun i _ => cls.length - (intOf i).toNat)
          case atStart => exact ⟨0, _, by omega, rfl, Lib.hid (by rw [List.take_zero, List.map_nil, List.append_nil]; exact HJ0.out), HR⟩
          case round =>
            clear HJ0 HR x0 x1 x2
            obtain ⟨k, S, hk, rfl, hJ, hS⟩ := hrel
            by_cases hlt : k < cls.length
            · have d0 : decide ((k : Int) < (cls.length : Int)) = true := by simp; omega
              have hx := List.getElem?_eq_getElem hlt
              have HT := Lib.hid (show (cls.take (k + 1)).map (hN 3) = (cls.take k).map (hN 3) ++ [hN 3 cls[k]] by rw [List.take_add_one, hx, Option.toList_some, List.map_append, List.map_cons, List.map_nil])
              have HL := Lib.hid (show (([hN 1 tag] ++ ids.map (hN 2)) ++ (cls.take k).map (hN 3)).length < 10000 from by simp; omega)
              generalize cls[k] = s0 at *
              obtain ⟨p9, c9, e9, _, h9⟩ := hS.out.rc
              cases e9
              obtain ⟨hs9, g, off, rfl, hg, _, hc⟩ := h9 k s0 hx
              have y1 := hg
              clear h9 hx hg
              gi_wp2
              refine ⟨trivial, callsIn_wide.2 ((HA3.out _ _ hs9).mono ?_)⟩
              rintro e w3 ⟨rfl, f3⟩
              have HJ3 := Lib.hid (HJ.out _ _ _ _ hJ.out (f3.mono (fun _ _ e => e.elim)))
              have HS3 := Lib.hid (hS.out.fr0 f3)
              clear f3 hc y1 hJ hS
              obtain ⟨fn, tmps, assign, body, hy, hR9⟩ := HY.out _ (hN 3 s0) S w3 HJ3.out HL.out
              have HR9 := Lib.hid hR9
              clear hR9
              gi_wp2
              refine HR9.out.mono ?_
              rintro e' W3 (⟨rfl, S', hJ4, f4, hS4⟩ | ⟨rfl, S', hJx4⟩)
              · have HJ4 := Lib.hid hJ4
                have HS4 := Lib.hid (HS3.out.step f4 hS4)
                clear hJ4 f4 hS4 HR9
                gi_wp2
                go_roundw
                case rel => exact ⟨k + 1, S', by omega, by go_num, Lib.hid (by rw [HT.out, ← List.append_assoc]; exact HJ4.out), HS4⟩
                case measure => simp [intOf]; omega
              · gi_wp2
                refine bodyPost_ret (v := .tuple #[]) (results_none rfl _ _ _) rfl ?_
                exact ⟨⟨_, rfl⟩, .inr ⟨_, S', trivial, hJx4⟩⟩
            · obtain rfl : k = cls.length := by omega
              have d0 : decide ((cls.length : Int) < (cls.length : Int)) = false := by simp
              have HJ9 := Lib.hid (show J (([hN 1 tag] ++ ids.map (hN 2)) ++ cls.map (hN 3)) S wr from by have h := hJ.out; rw [List.take_of_length_le (Nat.le_refl _)] at h; exact h)
              gi_wp2
              go_end0
              exact ⟨⟨_, rfl⟩, .inl ⟨_, S, by unfold hsL; simp [HTAG.out], HJ9.out⟩⟩
    · gi_wp2
      refine bodyPost_ret (v := .tuple #[]) (results_none rfl _ _ _) rfl ?_
      exact ⟨⟨_, rfl⟩, .inr ⟨_, S', trivial, hJx4⟩⟩
end Go.Proofs.Ytfhojfndccelfaa
