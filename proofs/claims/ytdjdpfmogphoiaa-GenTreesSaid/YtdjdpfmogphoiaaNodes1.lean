/- One node of seed 0, and that the package is alive. -/
import Derived.Test.YtdjdpfmogphoiaaIter
import Derived.Test.YtdjdpfmogphoiaaNode
import Derived.Shelf.RegionOpen
namespace Go.Proofs.Ytdjdpfmogphoiaa
open Go.RowKit Go.Shelf

attribute [local go_sem] Oper.semAt_some
attribute [-go_sem] Builtin.append_

theorem Fr.keeps {S : Nat → Prop} {W W' : World} {B : Nat} (f : Fr S W W') (hS : ∀ k, S k → k < B) : KeepsFrom B W W' :=
  ⟨f.size, fun k _ hB hk _ => f.heap hk (fun e => by have := hS k e; omega)⟩
theorem frOfGrown {A B : World} {row : Option Nat} (hg : A.grownBy B row) : Fr (fun k => row = some k) A B := (Fr.refl _ A).grown hg (fun _ e => .inl e)
theorem heapKept {A B : World} {row : Option Nat} {C k : Nat} {c : Array Value} {t : TypeId} {fz : Nat × Nat} (h : A.heap[k]? = some (.cells c t fz)) (hg : A.grownBy B row) (hr : ∀ r, row = some r → C ≤ r ∧ ∃ o : Obj, A.heap[r]? = some o ∧ o.isCells = false) : B.heap[k]? = some (.cells c t fz) :=
  (frOfGrown hg).heap h (fun e => by
    obtain ⟨_, o, ho, hc⟩ := hr k e
    rw [h] at ho
    cases ho
    simp [Obj.isCells] at hc)
theorem rowKept {A B : World} {row : Option Nat} {C base e size n : Nat} {v : Value} {xs : List Value} (h : A.ownsRow base e size v n xs) (hg : A.grownBy B row) (hr : ∀ r, row = some r → C ≤ r ∧ ∃ o : Obj, A.heap[r]? = some o ∧ o.isCells = false) : B.ownsRow base e size v n xs :=
  ownsRow.fr h (frOfGrown hg) (fun k hk e => by
    obtain ⟨_, o, ho, hc⟩ := hr k e
    exact ownsRow.ne h ho (fun c => by rintro rfl; simp [Obj.isCells] at hc) hk.symm)

theorem seed0 : seedS 0 = 0 := by unfold seedS; rw [i64_and32]; decide

/-- Between two rounds. -/
structure N1 (w : World) (pre : List Unit) (W : World) : Prop where
  lot : pre = [] → IsLot 49 W w.heap.size 0
  box : Boxed W (w.heap.size + 1) 24 (.pointer (some ⟨w.heap.size, 0, none⟩))
  out : ∃ sp c xs, Boxed W (w.heap.size + 2) 30 (.slice sp pre.length c) ∧ W.ownsRow w.heap.size 47 5 (.slice sp pre.length c) pre.length xs ∧ (pre = [] → sp = none ∧ c = 0 ∧ xs = []) ∧ (pre.length = 1 → ∃ v2 v3 v4, xs = [.int .i64 (-1), .string ⟨#[99]⟩, v2, v3, v4])
  below : Below w.heap.size w W
  big : w.heap.size + 3 < W.heap.size

theorem N1.own (w : World) (C : Nat) (hC : w.heap.size ≤ C) : OwnFrom C (N1 w) := by
  intro s A B row h hg hr
  obtain ⟨h1, h2, ⟨sp, c, xs, h3, h4, h5⟩, h6, hbg⟩ := h
  exact ⟨fun e => heapKept (h1 e) hg hr, heapKept h2 hg hr, ⟨sp, c, xs, heapKept h3 hg hr, rowKept h4 hg hr, h5⟩, h6.grown hg h6.size (fun k e => by have := (hr k e).1; omega), Nat.lt_of_lt_of_le hbg hg.size⟩

theorem news_new (w : World) (l : List Value) (t : TypeId) : ∀ j u, l[j]? = some u → (w.alloc (.cells l.toArray t)).cell? ((⟨w.heap.size, 0, none⟩ : Addr).add j) = some u := by
  intro j u hj
  rw [addOf _ _ rfl, cellOf (heapNew w (.cells l.toArray t))]
  simpa using hj

theorem info47 : (Try.prog.info? 47).map (fun i => (i.zero, i.size, i.bytes)) = some (some (.agg #[.int .i64 0, .string ⟨#[]⟩, .string ⟨#[]⟩, .slice none 0 0, .slice none 0 0]), 5, 88) := by kernel_rfl

/-- The append of the first node. -/
theorem node_append (w6 : World) (base : Nat) (hb : base ≤ w6.heap.size) (v2 v3 v4 : Value) (hv : ∀ u ∈ [v2, v3, v4], u.oneCell' = true) :
    ∃ sp c w7, (Builtin.append_ #[30, 30] 30 #[.slice none 0 0, .slice (some ⟨w6.heap.size, 0, none⟩) 1 1]).run Try.prog (w6.alloc (.cells #[.int .i64 (-1), .string ⟨#[99]⟩, v2, v3, v4] 47)) = .ok (.slice sp 1 c) w7 ∧
      w7.ownsRow base 47 5 (.slice sp 1 c) 1 [.int .i64 (-1), .string ⟨#[99]⟩, v2, v3, v4] ∧ (w6.alloc (.cells #[.int .i64 (-1), .string ⟨#[99]⟩, v2, v3, v4] 47)).grownBy w7 none := by
  obtain ⟨i0, hi, hz0, hz1, hz2⟩ := info_parts info47
  obtain ⟨v', w', h1, h2, h3, _, _⟩ := run_append_own_at (P := Try.prog) (w := w6.alloc (.cells #[.int .i64 (-1), .string ⟨#[99]⟩, v2, v3, v4] 47)) base 30 30 47 i0 _ 5 88 Try.underlying30 hi hz0 hz1 hz2 rfl (by omega) (.slice none 0 0) 0 [] (World.ownsRow_nil _ _ _ _) ⟨w6.heap.size, 0, none⟩ 1 1 [.int .i64 (-1), .string ⟨#[99]⟩, v2, v3, v4] rfl (news_new w6 _ 47) (by
    intro u hu
    simp only [List.mem_cons, List.not_mem_nil, or_false] at hu
    rcases hu with rfl | rfl | hu
    · rfl
    · rfl
    · exact hv u (by simpa using hu)) (by decide) (by decide) (by simp; omega)
  obtain ⟨sp, c, rfl⟩ := ownsRow.shape h2
  exact ⟨sp, c, w', h1, h2, h3⟩

/-- What a round leaves. -/
theorem N1.step {w W w6 w7 : World} {B : Nat} {sp : Option Addr} {c : Nat} {v2 v3 v4 : Value} {X : Obj} (h2 : Boxed W (w.heap.size + 1) 24 (.pointer (some ⟨w.heap.size, 0, none⟩))) (h7 : Below w.heap.size w W) (h8 : w.heap.size + 3 < W.heap.size) (hB : w.heap.size + 3 < B)
    (f6 : Fr (fun k => k = w.heap.size) W.drew w6) (hgrow : (w6.alloc X).grownBy w7 none) (k4 : Boxed w7 (w.heap.size + 2) 30 (.slice none 0 0)) (hown : w7.ownsRow w.heap.size 47 5 (.slice sp 1 c) 1 [.int .i64 (-1), .string ⟨#[99]⟩, v2, v3, v4]) :
    KeepsFrom B W (w7.setCell ⟨w.heap.size + 2, 0, none⟩ (.slice sp 1 c)) ∧ Kp1 (w.heap.size + 1 + 1 + 1) W (w7.setCell ⟨w.heap.size + 2, 0, none⟩ (.slice sp 1 c)) ∧ N1 w ([] ++ [()]) (w7.setCell ⟨w.heap.size + 2, 0, none⟩ (.slice sp 1 c)) := by
  have f7 : Fr (fun k => k = w.heap.size ∨ k = w.heap.size + 2) W w7 := ((((Fr.refl _ W).drew.trans (f6.mono (fun _ _ e => .inl e))).alloc X).grown hgrow (fun k e => by cases e))
  have f9 := f7.setCell (p := ⟨w.heap.size + 2, 0, none⟩) (.inl (.inr rfl)) (.slice sp 1 c)
  have n7 := ownsRow.ne hown k4 (by intro c; simp)
  refine ⟨f9.keeps (fun k e => by omega), f9.block _ (by omega) (by omega), ⟨by simp, f9.heap h2 (by omega), ⟨sp, c, _, k4.set _, ?_, by simp, fun _ => ⟨v2, v3, v4, rfl⟩⟩, h7.trans (f9.below h7.size (fun k hk e => by omega)), Nat.lt_of_lt_of_le h8 f9.size⟩⟩
  exact ownsRow.fr hown ((Fr.refl (fun j => j = w.heap.size + 2) w7).setCell (p := ⟨w.heap.size + 2, 0, none⟩) (.inl rfl) _) (fun j hj e => n7 (by subst e; exact hj.symm))

set_option maxRecDepth 100000 in
set_option maxHeartbeats 4000000 in
theorem nodes1 (w : World) : Calls Try.prog 12 #[.int .i64 0, .int .i64 1] w fun e w' => (∃ sp c v2 v3 v4, e = .returned (.slice sp 1 c) ∧ w'.ownsRow w.heap.size 47 5 (.slice sp 1 c) 1 [.int .i64 (-1), .string ⟨#[99]⟩, v2, v3, v4]) ∧ Below w.heap.size w w' := by
  have NW := New_any 0 w
  rw [seed0] at NW
  refine (callsIn_wide (n := 5)).1 ?_
  refine callsIn_of_wp_marks Try.func12 rfl trivial ?_ rfl
  simp only [Try.ntmps12, List.size_toArray, List.length_cons, List.length_nil, Nat.reduceAdd, Nat.reduceSub, Array.replicate_succ, Array.replicate_zero, List.push_toArray, List.append_toArray, List.nil_append, List.cons_append]
  gi_wp2_with (first
    | (refine ⟨trivial, ?_⟩; gi_at_call 8; refine (callsIn_wide.2 NW).mono ?_; rintro e w' ⟨rfl, rfl⟩)
    | (refine ⟨trivial, ?_⟩; gi_at_call 19; refine (some_in Fence.wide _ trivial rfl _ _).mono ?_; rintro e w' ⟨rfl, rfl⟩))
  have bL : IsLot 49 ((((w.alloc (.cells #[.int .i64 0] 49)).alloc (.cells #[.pointer (some ⟨w.heap.size, 0, none⟩)] 24)).alloc (.cells #[.slice none 0 0] 30)).alloc (.cells #[.int .i64 1] 3)) w.heap.size 0 := heapAlloc (heapAlloc (heapAlloc (heapNew _ _)))
  have bB : Boxed ((((w.alloc (.cells #[.int .i64 0] 49)).alloc (.cells #[.pointer (some ⟨w.heap.size, 0, none⟩)] 24)).alloc (.cells #[.slice none 0 0] 30)).alloc (.cells #[.int .i64 1] 3)) (w.heap.size + 1) 24 (.pointer (some ⟨w.heap.size, 0, none⟩)) := by
    have := Boxed.new (w.alloc (.cells #[.int .i64 0] 49)) 24 (.pointer (some ⟨w.heap.size, 0, none⟩))
    rw [World.size_alloc] at this
    exact (this.alloc _).alloc _
  have bO : Boxed ((((w.alloc (.cells #[.int .i64 0] 49)).alloc (.cells #[.pointer (some ⟨w.heap.size, 0, none⟩)] 24)).alloc (.cells #[.slice none 0 0] 30)).alloc (.cells #[.int .i64 1] 3)) (w.heap.size + 2) 30 (.slice none 0 0) := by
    have := Boxed.new ((w.alloc (.cells #[.int .i64 0] 49)).alloc (.cells #[.pointer (some ⟨w.heap.size, 0, none⟩)] 24)) 30 (.slice none 0 0)
    rw [World.size_alloc, World.size_alloc] at this
    exact this.alloc _
  have bN : Boxed ((((w.alloc (.cells #[.int .i64 0] 49)).alloc (.cells #[.pointer (some ⟨w.heap.size, 0, none⟩)] 24)).alloc (.cells #[.slice none 0 0] 30)).alloc (.cells #[.int .i64 1] 3)) (w.heap.size + 1 + 1 + 1) 3 (.int .i64 1) := by
    have := Boxed.new (((w.alloc (.cells #[.int .i64 0] 49)).alloc (.cells #[.pointer (some ⟨w.heap.size, 0, none⟩)] 24)).alloc (.cells #[.slice none 0 0] 30)) 3 (.int .i64 1)
    rw [World.size_alloc, World.size_alloc, World.size_alloc] at this
    exact this
  have hB0 : Below w.heap.size w ((((w.alloc (.cells #[.int .i64 0] 49)).alloc (.cells #[.pointer (some ⟨w.heap.size, 0, none⟩)] 24)).alloc (.cells #[.slice none 0 0] 30)).alloc (.cells #[.int .i64 1] 3)) := ((((Below.refl _ w).alloc (Nat.le_refl _) _).alloc (by simp) _).alloc (by simp; omega) _).alloc (by simp; omega) _
  generalize hw0 : ((((w.alloc (.cells #[.int .i64 0] 49)).alloc (.cells #[.pointer (some ⟨w.heap.size, 0, none⟩)] 24)).alloc (.cells #[.slice none 0 0] 30)).alloc (.cells #[.int .i64 1] 3)) = w0 at *
  have hlt := bN.lt
  refine wpIn_rangeFunc_ownG rfl (by omega) (gf := 23) (lb := #[.pointer (some ⟨w.heap.size + 1 + 1 + 1, 0, none⟩)]) rfl trivial (enters_of Try.func23 (by kernel_rfl) rfl)
    (some_stops Fence.wide 4 trivial rfl (by omega) (w.heap.size + 1 + 1 + 1) 1 (fun _ : Unit => 0) [()] rfl (by omega) (by
      intro i x hi
      match i, hi with
      | 0, _ => rfl
      | i + 1, hi => simp at hi) w0 hlt bN) Kp1.t (Kp1.b hlt) (Below.refl _ _) (fun _ => rfl)
    (N1 w) (fun _ _ _ => False) (N1.own w _ hB0.size) (fun _ _ _ _ _ hs _ _ => hs)
    ⟨fun _ => bL, bB, ⟨none, 0, [], bO, World.ownsRow_nil _ _ _ _, fun _ => ⟨rfl, rfl, rfl⟩, by simp⟩, hB0, hlt⟩
    (fun x => { tmps := #[Value.int IntKind.i64 0, Value.int IntKind.i64 1, undef, undef, Value.slice none 0 0, Value.pointer (some { block := w.heap.size + 1, off := 0 }), Value.pointer (some { block := w.heap.size + 1 + 1, off := 0 }), .int .i64 0, Value.int IntKind.i64 0,
          Value.pointer (some { block := w.heap.size, off := 0 }), Value.int IntKind.i64 1, Value.int IntKind.i64 1,
          Value.func (Fn.func 23) #[] #[Value.pointer (some { block := w.heap.size + 1 + 1 + 1, off := 0 })], .int .i64 0,
          undef, undef, undef, undef, undef, undef, undef], defers := [] }) ?assign ?body ?done ?stop
  case assign =>
    intro l x W K hK
    gi_wp2
    exact hK
  case body =>
    rintro l pre x W ⟨h1, h2, ⟨sp, c, xs, h3, h4, h5, h6⟩, h7, h8⟩ hlt1
    obtain rfl : pre = [] := by cases pre with | nil => rfl | cons a b => simp at hlt1
    obtain ⟨rfl, rfl, rfl⟩ := h5 rfl
    have hL := h1 rfl
    have c0 := h2.cell
    have c1 := h3.cell
    have z1 := h3.frozen
    have ND := node0 w.heap.size
    have hm : Try.prog.follows .mixedOrders = true := by kernel_rfl
    gi_wp2
    gi_region_with_o (refine ⟨trivial, ?_⟩; gi_at_call 20; refine (CallsIn.inRound l (callsIn_wide.2 (ND _ ?_))).mono ?_; exact hL; rintro e w6 ⟨⟨v2, v3, v4, rfl, hv⟩, f6⟩; have k3 : Boxed w6 (w.heap.size + 2) 30 (.slice none 0 0) := f6.heap h3 (by omega); have c2 := k3.cell; have c3 := (k3.alloc (.cells #[.int .i64 (-1), .string ⟨#[99]⟩, v2, v3, v4] 47)).cell; obtain ⟨sp, c, w7, hrun, hown, hgrow⟩ := node_append w6 w.heap.size (Nat.le_trans h7.size f6.size) v2 v3 v4 hv; have k4 : Boxed w7 (w.heap.size + 2) 30 (.slice none 0 0) := heapGrown hgrow (k3.alloc _) (by simp); have c4 := k4.cell; have z4 := k4.frozen)
    all_goals
      gi_wp2
      exact N1.step h2 h7 h8 hlt f6 hgrow k4 hown
  case done =>
    rintro D ys W hD rfl ⟨_, _, ⟨sp, c, xs, h3, h4, _, h6⟩, h7, h8⟩ hK
    obtain ⟨v2, v3, v4, rfl⟩ := h6 rfl
    have hc := h3.cell
    gi_wp2
    refine ⟨by simp, .inl ⟨_, _, rfl, run_takeDeferred hK, ?_⟩⟩
    exact ⟨_, results_tmp rfl _ _ _, ⟨sp, c, v2, v3, v4, rfl, ownsRow_putObj h4 _ hK rfl⟩, h7.trans (belowK_b (w := w) (Nat.le_refl _) W D _ _ (by have := hB0.size; omega) hK rfl rfl)⟩
  case stop =>
    rintro D c pre W _ _ h _
    exact h.elim
end Go.Proofs.Ytdjdpfmogphoiaa
