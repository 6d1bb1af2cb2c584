/- gen.Picks at every number. -/
import Derived.Test.YtdjdpfmogphoiaaPicks
namespace Go.Proofs.Ytdjdpfmogphoiaa
open Go.RowKit Go.Shelf

attribute [local go_sem] Oper.semAt_some

set_option maxRecDepth 100000 in
set_option maxHeartbeats 4000000 in
theorem picksI_any (seed wk : Int) (n : Int) (w : World) (hw1 : 1 ≤ wk) (hw2 : wk ≤ 64) (hn : n ≤ 300) :
    Calls Try.prog 17 #[.int .i64 seed, .int .i64 wk, .int .i64 n] w fun e w' => (∃ sp c, e = .returned (.slice sp n.toNat c) ∧ w'.ownsRow w.heap.size 41 2 (.slice sp n.toNat c) n.toNat (PL (seedS seed) wk n.toNat)) ∧ Below w.heap.size w w' := by
  have hlt6 : n < 1000000 := by omega
  refine (callsIn_wide (n := 5)).1 ?_
  refine callsIn_of_wp_marks Try.func17 rfl trivial ?_ rfl
  simp only [Try.ntmps17, List.size_toArray, List.length_cons, List.length_nil, Nat.reduceAdd, Nat.reduceSub, Array.replicate_succ, Array.replicate_zero, List.push_toArray, List.append_toArray, List.nil_append, List.cons_append]
  have d1 : decide (wk < 1) = false := by simp; omega
  have d2 : decide (64 < wk) = false := by simp; omega
  gi_wp2_with (first
    | (refine ⟨trivial, ?_⟩; gi_at_call 8; refine (callsIn_wide.2 (New_any _ _)).mono ?_; rintro e w' ⟨rfl, rfl⟩)
    | (refine ⟨trivial, ?_⟩; gi_at_call 19; refine (some_in Fence.wide _ trivial rfl _ _).mono ?_; rintro e w' ⟨rfl, rfl⟩))
  have bW : Boxed (((((w.alloc (.cells #[.int .i64 wk] 3)).alloc (.cells #[.int .i64 (seedS seed)] 49)).alloc (.cells #[.pointer (some ⟨w.heap.size + 1, 0, none⟩)] 24)).alloc (.cells #[.slice none 0 0] 38)).alloc (.cells #[.int .i64 n] 3)) w.heap.size 3 (.int .i64 wk) := ((((Boxed.new w _ _).alloc _).alloc _).alloc _).alloc _
  have bL : IsLot 49 (((((w.alloc (.cells #[.int .i64 wk] 3)).alloc (.cells #[.int .i64 (seedS seed)] 49)).alloc (.cells #[.pointer (some ⟨w.heap.size + 1, 0, none⟩)] 24)).alloc (.cells #[.slice none 0 0] 38)).alloc (.cells #[.int .i64 n] 3)) (w.heap.size + 1) (seedS seed) := by
    have := Boxed.new (w.alloc (.cells #[.int .i64 wk] 3)) 49 (.int .i64 (seedS seed))
    rw [World.size_alloc] at this
    exact ((this.alloc _).alloc _).alloc _
  have bB : Boxed (((((w.alloc (.cells #[.int .i64 wk] 3)).alloc (.cells #[.int .i64 (seedS seed)] 49)).alloc (.cells #[.pointer (some ⟨w.heap.size + 1, 0, none⟩)] 24)).alloc (.cells #[.slice none 0 0] 38)).alloc (.cells #[.int .i64 n] 3)) (w.heap.size + 2) 24 (.pointer (some ⟨w.heap.size + 1, 0, none⟩)) := by
    have := Boxed.new ((w.alloc (.cells #[.int .i64 wk] 3)).alloc (.cells #[.int .i64 (seedS seed)] 49)) 24 (.pointer (some ⟨w.heap.size + 1, 0, none⟩))
    rw [World.size_alloc, World.size_alloc] at this
    exact (this.alloc _).alloc _
  have bO : Boxed (((((w.alloc (.cells #[.int .i64 wk] 3)).alloc (.cells #[.int .i64 (seedS seed)] 49)).alloc (.cells #[.pointer (some ⟨w.heap.size + 1, 0, none⟩)] 24)).alloc (.cells #[.slice none 0 0] 38)).alloc (.cells #[.int .i64 n] 3)) (w.heap.size + 3) 38 (.slice none 0 0) := by
    have := Boxed.new (((w.alloc (.cells #[.int .i64 wk] 3)).alloc (.cells #[.int .i64 (seedS seed)] 49)).alloc (.cells #[.pointer (some ⟨w.heap.size + 1, 0, none⟩)] 24)) 38 (.slice none 0 0)
    rw [World.size_alloc, World.size_alloc, World.size_alloc] at this
    exact this.alloc _
  have bN : Boxed (((((w.alloc (.cells #[.int .i64 wk] 3)).alloc (.cells #[.int .i64 (seedS seed)] 49)).alloc (.cells #[.pointer (some ⟨w.heap.size + 1, 0, none⟩)] 24)).alloc (.cells #[.slice none 0 0] 38)).alloc (.cells #[.int .i64 n] 3)) (w.heap.size + 1 + 1 + 1 + 1) 3 (.int .i64 n) := by
    have := Boxed.new ((((w.alloc (.cells #[.int .i64 wk] 3)).alloc (.cells #[.int .i64 (seedS seed)] 49)).alloc (.cells #[.pointer (some ⟨w.heap.size + 1, 0, none⟩)] 24)).alloc (.cells #[.slice none 0 0] 38)) 3 (.int .i64 n)
    rw [World.size_alloc, World.size_alloc, World.size_alloc, World.size_alloc] at this
    exact this
  have hB0 : Below w.heap.size w (((((w.alloc (.cells #[.int .i64 wk] 3)).alloc (.cells #[.int .i64 (seedS seed)] 49)).alloc (.cells #[.pointer (some ⟨w.heap.size + 1, 0, none⟩)] 24)).alloc (.cells #[.slice none 0 0] 38)).alloc (.cells #[.int .i64 n] 3)) := (((((Below.refl _ w).alloc (Nat.le_refl _) _).alloc (by simp) _).alloc (by simp; omega) _).alloc (by simp; omega) _).alloc (by simp; omega) _
  generalize hw0 : (((((w.alloc (.cells #[.int .i64 wk] 3)).alloc (.cells #[.int .i64 (seedS seed)] 49)).alloc (.cells #[.pointer (some ⟨w.heap.size + 1, 0, none⟩)] 24)).alloc (.cells #[.slice none 0 0] 38)).alloc (.cells #[.int .i64 n] 3)) = w0 at *
  have hlt := bN.lt
  refine wpIn_rangeFunc_ownG rfl (by omega) (gf := 23) (lb := #[.pointer (some ⟨w.heap.size + 1 + 1 + 1 + 1, 0, none⟩)]) rfl trivial (enters_of Try.func23 (by kernel_rfl) rfl)
    (some_stops Fence.wide 4 trivial rfl (by omega) (w.heap.size + 1 + 1 + 1 + 1) n (fun k : Nat => (k : Int)) (List.range n.toNat) (by simp) (by omega) (by
      intro i x hi
      rw [List.getElem?_eq_some_iff] at hi
      obtain ⟨_, hi⟩ := hi
      simp at hi
      omega) w0 hlt bN) Kp1.t (Kp1.b hlt) (Below.refl _ _) (fun _ => rfl)
    (PK w (seedS seed) wk) (fun _ _ _ => False) (PK.own w _ _ _ hB0.size) (fun _ _ _ _ _ hs _ _ => hs)
    ⟨bL, bW, bB, ⟨none, 0, bO, World.ownsRow_nil _ _ _ _⟩, hB0, hlt, n, bN⟩
    (fun x => { tmps := #[Value.int IntKind.i64 seed, Value.int IntKind.i64 wk, Value.int IntKind.i64 n, undef,
          Value.pointer (some { block := w.heap.size, off := 0 }), undef, Value.slice none 0 0,
          Value.pointer (some { block := w.heap.size + 1 + 1, off := 0 }),
          Value.pointer (some { block := w.heap.size + 1 + 1 + 1, off := 0 }), undef, Value.int IntKind.i64 wk,
          Value.bool false, Value.bool false, Value.int IntKind.i64 wk, Value.bool false, Value.bool false,
          Value.int IntKind.i64 seed, Value.pointer (some { block := w.heap.size + 1, off := 0 }),
          Value.int IntKind.i64 n, Value.int IntKind.i64 n,
          Value.func (Fn.func 23) #[] #[Value.pointer (some { block := w.heap.size + 1 + 1 + 1 + 1, off := 0 })], .int .i64 x,
          undef, undef, undef, undef, undef, undef, undef, undef, undef, undef, undef, undef, undef], defers := [] }) ?assign ?body ?done ?stop
  case assign =>
    intro l x W K hK
    gi_wp2
    exact hK
  case body =>
    rintro l pre x W hP hlt1
    have hP' := hP
    obtain ⟨h1, h2, h3, ⟨sp, c, h4, h5⟩, h6, h7, _⟩ := hP'
    have hpl : pre.length < 300 := by simp at hlt1; omega
    have c2 := h2.cell
    have c3 := h3.cell
    gi_wp2
    refine ⟨trivial, ?_⟩
    refine (CallsIn.inRound l (callsIn_wide.2 (Next_any _ _ wk W h1))).mono ?_
    rintro e w1 ⟨rfl, l1, f1⟩
    have k2 : Boxed w1 w.heap.size 3 (.int .i64 wk) := f1.heap h2 (by omega)
    have k3 : Boxed w1 (w.heap.size + 2) 24 (.pointer (some ⟨w.heap.size + 1, 0, none⟩)) := f1.heap h3 (by omega)
    have k4 : Boxed w1 (w.heap.size + 3) 38 (.slice sp pre.length c) := f1.heap h4 (by omega)
    have n5 := ownsRow.ne h5 h1 (by intro c; simp)
    have k5 := ownsRow.fr h5 f1 (fun j hj e => n5 (by subst e; exact hj.symm))
    clear c2 c3
    have a2 := (k2.alloc (.cells #[.int .i64 (nxV (stp (seedS seed) pre.length) wk), .int .i64 0] 41)).cell
    have a3 := (k3.alloc (.cells #[.int .i64 (nxV (stp (seedS seed) pre.length) wk), .int .i64 0] 41)).cell
    gi_wp2
    refine ⟨trivial, ?_⟩
    refine (CallsIn.inRound l (callsIn_wide.2 (Next_any _ _ wk _ (show IsLot 49 (w1.alloc (.cells #[.int .i64 (nxV (stp (seedS seed) pre.length) wk), .int .i64 0] 41)) (w.heap.size + 1) _ from heapAlloc l1)))).mono ?_
    rintro e w2 ⟨rfl, l2, f2⟩
    have hL1 : w.heap.size + 1 < w1.heap.size := ltOf l1
    have kp : w2.heap[w1.heap.size]? = some (.cells #[.int .i64 (nxV (stp (seedS seed) pre.length) wk), .int .i64 0] 41 (0, 0)) := f2.heap (heapNew w1 _) (by omega)
    have m4 : Boxed w2 (w.heap.size + 3) 38 (.slice sp pre.length c) := f2.heap (heapAlloc k4) (by omega)
    have k5a := ownsRow.fr k5 ((Fr.refl (fun _ => False) w1).alloc (.cells #[.int .i64 (nxV (stp (seedS seed) pre.length) wk), .int .i64 0] 41)) (by simp)
    have m5 := ownsRow.fr k5a f2 (fun j hj e => n5 (by subst e; exact hj.symm))
    clear a2 a3
    have hp3 : w.heap.size + 3 < w1.heap.size := k4.lt
    have e0 := cellOf kp 1
    have z0 := frozenOf kp 1
    simp at e0
    have kq := heapSet kp 1 (.int .i64 (nxV (nxS (stp (seedS seed) pre.length)) wk))
    have q4 : Boxed (w2.setCell ⟨w1.heap.size, 1, none⟩ (.int .i64 (nxV (nxS (stp (seedS seed) pre.length)) wk))) (w.heap.size + 3) 38 (.slice sp pre.length c) := (heapSetOther 1 _ (by omega)).trans m4
    have n6 := fun (h : (Value.slice sp pre.length c).ownBlock = some w1.heap.size) => (by have := (k5.lt _ h).2; omega : False)
    have q5 := ownsRow.fr m5 ((Fr.refl (fun j => j = w1.heap.size) w2).setCell (p := ⟨w1.heap.size, 1, none⟩) (.inl rfl) (.int .i64 (nxV (nxS (stp (seedS seed) pre.length)) wk))) (fun j hj e => n6 (by subst e; exact hj))
    have g0 := cellOf kq 0
    have g1 := cellOf kq 1
    have g4 := q4.cell
    simp at g0 g1
    obtain ⟨i0, hi, hz0, hz1, hz2⟩ := info_parts info41
    have nb := ownsRow.ne q5 q4 (by intro c; simp)
    have hsz : w.heap.size ≤ (w2.setCell ⟨w1.heap.size, 1, none⟩ (.int .i64 (nxV (nxS (stp (seedS seed) pre.length)) wk))).heap.size := by have := q4.lt; omega
    have HN := news_new (w2.setCell ⟨w1.heap.size, 1, none⟩ (.int .i64 (nxV (nxS (stp (seedS seed) pre.length)) wk))) [.int .i64 (nxV (stp (seedS seed) pre.length) wk), .int .i64 (nxV (nxS (stp (seedS seed) pre.length)) wk)] 41
    rw [show (w2.setCell ⟨w1.heap.size, 1, none⟩ (.int .i64 (nxV (nxS (stp (seedS seed) pre.length)) wk))).heap.size = w2.heap.size by simp [World.setCell]] at HN
    gi_wp2_with (gi_at_builtin; refine wpListIn_append_own _ rfl _ _ 38 rfl w.heap.size 41 i0 _ 2 16 Try.underlying38 hi hz0 hz1 hz2 rfl (by decide) _ _ _ rfl (ownsRow.fr q5 ((Fr.refl (fun _ => False) _).alloc _) (by simp)) ⟨w2.heap.size, 0, none⟩ 1 1 [.int .i64 (nxV (stp (seedS seed) pre.length) wk), .int .i64 (nxV (nxS (stp (seedS seed) pre.length)) wk)] rfl rfl HN (by simp [Value.oneCell']) (by unfold maxLen; omega) (by omega) (by rw [World.size_alloc]; omega) ?_; intro v' w4 hown hgrow _; obtain ⟨g', cap', rfl⟩ := ownsRow_succ hown; have r4 : Boxed w4 (w.heap.size + 3) 38 (.slice sp pre.length c) := heapGrown hgrow (heapAlloc q4) nb; have r4c := r4.cell; have r4f := r4.frozen)
    exact PK.step hP h5 h4 f1 l2 f2 _ hown hgrow
  case done =>
    rintro D ys W hD rfl ⟨h1, h2, h3, ⟨sp, c, h4, h5⟩, h6, h7, _⟩ hK
    have hc := h4.cell
    rw [List.length_range] at h5 hc
    gi_wp2
    refine ⟨by simp, .inl ⟨_, _, rfl, run_takeDeferred hK, ?_⟩⟩
    exact ⟨_, results_tmp rfl _ _ _, ⟨sp, c, rfl, ownsRow_putObj h5 _ hK rfl⟩, h6.trans (belowK_b (w := w) (Nat.le_refl _) W D _ _ (by have := hB0.size; omega) hK rfl rfl)⟩
  case stop =>
    rintro D c pre W _ _ h _
    exact h.elim
end Go.Proofs.Ytdjdpfmogphoiaa
