/- Keys: the list of a cache's keys, from the first one on. -/
import Derived.Test.YtimildmpkamomaaItr
import Derived.Shelf.RegionOpen
namespace Go.Proofs.Ytimildmpkamomaa
open Go.RowKit Go.Shelf

attribute [local go_sem] Oper.semAt_some

theorem info3 : (Try.prog.info? 3).map (fun i => (i.zero, i.size, i.bytes)) = some (some (.int .i64 0), 1, 8) := by kernel_rfl
def kys (E : List Ent) : List Value := E.map fun p => .int .i64 p.1
theorem news_new (w : World) (l : List Value) (t : TypeId) : ∀ j u, l[j]? = some u → (w.alloc (.cells l.toArray t)).cell? ((⟨w.heap.size, 0, none⟩ : Addr).add j) = some u := by
  intro j u hj
  rw [addOf _ _ rfl, cellOf (heapNew w (.cells l.toArray t))]
  simpa using hj

/-- Between two rounds. -/
structure KY (w : World) (b : Nat) (pre : List Ent) (W : World) : Prop where
  box : Boxed W (w.heap.size + 1) 56 (.pointer (some ⟨b, 1, none⟩))
  out : ∃ sp c, Boxed W w.heap.size 33 (.slice sp pre.length c) ∧ W.ownsRow w.heap.size 3 1 (.slice sp pre.length c) pre.length (kys pre)
  below : Below w.heap.size w W
  big : w.heap.size + 1 < W.heap.size

theorem KY.own (w : World) (b C : Nat) (hC : w.heap.size ≤ C) : OwnFrom C (KY w b) := by
  intro s A B row h hg hr
  obtain ⟨h1, ⟨sp, c, h3, h4⟩, h6, hbg⟩ := h
  exact ⟨heapKept h1 hg hr, ⟨sp, c, heapKept h3 hg hr, rowKept h4 hg hr⟩, h6.grown hg h6.size (fun k e => by have := (hr k e).1; omega), Nat.lt_of_lt_of_le hbg hg.size⟩

/-- What a round leaves. -/
theorem KY.step {w W w4 : World} {b : Nat} {pre : List Ent} {x : Ent} {B : Nat} {sp sp' : Option Addr} {c c' : Nat} {Y : Obj} (h : KY w b pre W) (h5 : W.ownsRow w.heap.size 3 1 (.slice sp pre.length c) pre.length (kys pre)) (h4 : Boxed W w.heap.size 33 (.slice sp pre.length c))
    (hown : w4.ownsRow w.heap.size 3 1 (.slice sp' (pre.length + 1) c') (pre.length + 1) (kys pre ++ [.int .i64 x.1])) (hgrow : (W.alloc Y).grownBy w4 (Value.slice sp pre.length c).ownBlock) :
    KeepsFrom B W (w4.setCell ⟨w.heap.size, 0, none⟩ (.slice sp' (pre.length + 1) c')) ∧ KpB w (w.heap.size + 1) W (w4.setCell ⟨w.heap.size, 0, none⟩ (.slice sp' (pre.length + 1) c')) ∧ KY w b (pre ++ [x]) (w4.setCell ⟨w.heap.size, 0, none⟩ (.slice sp' (pre.length + 1) c')) := by
  obtain ⟨h1, _, h6, h7⟩ := h
  have n1 := ownsRow.ne h5 h1 (by intro c; simp)
  have n4 := ownsRow.ne h5 h4 (by intro c; simp)
  obtain ⟨S, hS⟩ : ∃ S : Nat → Prop, S = fun k => k = w.heap.size ∨ (Value.slice sp pre.length c).ownBlock = some k := ⟨_, rfl⟩
  have g4 : Fr S W w4 := ((Fr.refl S W).alloc Y).grown hgrow (fun k e => by rw [hS]; exact .inl (.inr e))
  have g5 : Fr S W (w4.setCell ⟨w.heap.size, 0, none⟩ (.slice sp' (pre.length + 1) c')) := g4.setCell (p := ⟨w.heap.size, 0, none⟩) (.inl (by rw [hS]; exact .inl rfl)) _
  have b4 : Boxed w4 w.heap.size 33 (.slice sp pre.length c) := heapGrown hgrow (heapAlloc h4) n4
  have n7 := ownsRow.ne hown b4 (by intro c; simp)
  have hnS : ∀ k, k < w.heap.size → ¬ S k := by
    intro k hk e
    rw [hS] at e
    rcases e with e | e
    · omega
    · have := (h5.lt k e).1; omega
  have hnB : ¬ S (w.heap.size + 1) := by
    intro e
    rw [hS] at e
    rcases e with e | e
    · omega
    · exact n1 e.symm
  have hl : (pre ++ [x]).length = pre.length + 1 := by simp
  refine ⟨g5.keeps (fun k e => ?_), ⟨fun k hk => g5.block _ (by omega) (hnS k hk), g5.block _ h7 hnB⟩, ⟨g5.heap h1 hnB, ⟨sp', c', ?_, ?_⟩, h6.trans (g5.below h6.size hnS), Nat.lt_of_lt_of_le h7 g5.size⟩⟩
  · rw [hS] at e
    rcases e with rfl | e
    · exact ⟨_, _, _, h4⟩
    · rcases h5.2 with ⟨h, _⟩ | ⟨g, cap, cur, h, _, hg, _⟩
      · rw [h] at e; simp [Value.ownBlock] at e
      · rw [h] at e
        simp [Value.ownBlock] at e
        subst e
        exact ⟨_, _, _, hg⟩
  · rw [hl]; exact b4.set _
  · rw [hl, show kys (pre ++ [x]) = kys pre ++ [.int .i64 x.1] by simp [kys]]
    exact ownsRow.fr hown ((Fr.refl (fun j => j = w.heap.size) w4).setCell (p := ⟨w.heap.size, 0, none⟩) (.inl rfl) _) (fun j hj e => n7 (by subst e; exact hj.symm))

set_option maxRecDepth 100000 in
set_option maxHeartbeats 4000000 in
theorem Keys_any (b : Nat) (S : Nat → Prop) (size : Int) (E : List Ent) (w : World) (h : IsCa 44 50 w b S size E) (hn : E.length ≤ 1500) :
    Calls Try.prog 13 #[.pointer (some ⟨b, 0, none⟩)] w fun e w' => (∃ sp c, e = .returned (.slice sp E.length c) ∧ w'.ownsRow w.heap.size 3 1 (.slice sp E.length c) E.length (kys E.reverse)) ∧ Below w.heap.size w w' := by
  refine (callsIn_wide (n := 5)).1 ?_
  refine callsIn_of_wp_marks Try.func13 rfl trivial ?_ rfl
  simp only [Try.ntmps13, List.size_toArray, List.length_cons, List.length_nil, Nat.reduceAdd, Nat.reduceSub, Array.replicate_succ, Array.replicate_zero, List.push_toArray, List.append_toArray, List.nil_append, List.cons_append]
  gi_wp2_with ((refine ⟨trivial, ?_⟩; gi_at_call 20; refine (each_in Fence.wide _ trivial rfl _ _).mono ?_; rintro e w' ⟨rfl, rfl⟩))
  have bO : Boxed ((w.alloc (.cells #[.slice none 0 0] 33)).alloc (.cells #[.pointer (some ⟨b, 1, none⟩)] 56)) w.heap.size 33 (.slice none 0 0) := (Boxed.new w _ _).alloc _
  have bB : Boxed ((w.alloc (.cells #[.slice none 0 0] 33)).alloc (.cells #[.pointer (some ⟨b, 1, none⟩)] 56)) (w.heap.size + 1) 56 (.pointer (some ⟨b, 1, none⟩)) := by
    have := Boxed.new (w.alloc (.cells #[.slice none 0 0] 33)) 56 (.pointer (some ⟨b, 1, none⟩))
    rw [World.size_alloc] at this
    exact this
  have hB0 : Below w.heap.size w ((w.alloc (.cells #[.slice none 0 0] 33)).alloc (.cells #[.pointer (some ⟨b, 1, none⟩)] 56)) := ((Below.refl _ w).alloc (Nat.le_refl _) _).alloc (by simp) _
  generalize hw0 : ((w.alloc (.cells #[.slice none 0 0] 33)).alloc (.cells #[.pointer (some ⟨b, 1, none⟩)] 56)) = w0 at *
  have hlt := bB.lt
  have hKC := Lib.hid hB0
  refine wpIn_rangeFunc_ownH rfl (by omega) (gf := 21) (lb := #[.pointer (some ⟨w.heap.size + 1, 0, none⟩)]) rfl trivial (enters_of Try.func21 (by kernel_rfl) rfl)
    (each_stops Fence.wide 4 trivial rfl (by omega) (w.heap.size + 1) b size E w w0 (by omega) ⟨bB, fun k hk => hB0.block k hk, ⟨S, h⟩⟩ hB0.size) KpB.t (KpB.b hlt hB0.size) (Below.refl _ _) (fun _ => rfl)
    (KY w b) (fun _ _ _ => False) (KY.own w b _ hB0.size) (fun _ _ _ _ _ hs _ _ => hs)
    ⟨bB, ⟨none, 0, bO, World.ownsRow_nil _ _ _ _⟩, hB0, hlt⟩
    (fun x a' W => ∃ hh, w.heap.size + 1 < hh ∧ W.heap[hh]? = some (.cells #[.int .i64 x.1, .int .i64 x.2] 50 (0, 0)) ∧ a' = { tmps := #[.pointer (some ⟨b, 0, none⟩), undef, .slice none 0 0, .pointer (some ⟨w.heap.size, 0, none⟩), .pointer (some ⟨hh, 0, none⟩), .pointer (some ⟨b, 0, none⟩), .pointer (some ⟨b, 0, none⟩), .pointer (some ⟨b, 1, none⟩), .func (.func 21) #[] #[.pointer (some ⟨w.heap.size + 1, 0, none⟩)], .agg #[.int .i64 x.1, .int .i64 x.2], undef, undef, undef, undef, undef, undef], defers := [] }) ?hAx ?assign ?body ?done ?stop
  case hAx =>
    rintro x a' s A B row ⟨hh, h1, h2, h3⟩ hg hr
    exact ⟨hh, h1, heapKept h2 hg hr, h3⟩
  case assign =>
    rintro l pre x W K ⟨h1, ⟨sp, c, h4, h5⟩, h6, h7⟩ hK
    gi_wp2
    have fa := (Fr.refl (fun _ => False) W).alloc (.cells #[.int .i64 x.1, .int .i64 x.2] 50)
    refine hK _ _ (fa.keeps (by simp)) ⟨fun k hk => fa.block k (by omega) (by simp), fa.block _ h7 (by simp)⟩ ⟨heapAlloc h1, ⟨sp, c, heapAlloc h4, h5.alloc _⟩, h6.alloc h6.size _, by simp; omega⟩ ⟨W.heap.size, h7, heapNew W _, rfl⟩
  case body =>
    rintro l pre x a' W hl hlo hP ⟨hh, hhl, hx, rfl⟩ hlt1
    have hP' := hP
    obtain ⟨h1, ⟨sp, c, h4, h5⟩, h6, h7⟩ := hP'
    have c4 := h4.cell
    have z4 := h4.frozen
    have x0 := cellOf hx 0
    simp at x0
    obtain ⟨i0, hi, hz0, hz1, hz2⟩ := info_parts info3
    have nb := ownsRow.ne h5 h4 (by intro c; simp)
    have hsz : w.heap.size ≤ W.heap.size := h6.size
    have HN := news_new W [.int .i64 x.1] 3
    have hpl : pre.length < 2000 := by omega
    gi_wp2_with (gi_at_builtin; refine wpListIn_append_own _ rfl _ _ 33 rfl w.heap.size 3 i0 _ 1 8 Try.underlying33 hi hz0 hz1 hz2 rfl (by decide) _ _ _ rfl (ownsRow.fr h5 ((Fr.refl (fun _ => False) _).alloc _) (by simp)) ⟨W.heap.size, 0, none⟩ 1 1 [.int .i64 x.1] rfl rfl HN (by simp [Value.oneCell']) (by unfold maxLen; omega) (by omega) (by rw [World.size_alloc]; omega) ?_; intro v' w4 hown hgrow _; obtain ⟨g', cap', rfl⟩ := ownsRow_succ hown; have r4 : Boxed w4 w.heap.size 33 (.slice sp pre.length c) := heapGrown hgrow (heapAlloc h4) nb; have r4c := r4.cell; have r4f := r4.frozen)
    exact KY.step hP h5 h4 hown hgrow
  case done =>
    rintro D ys W hD rfl ⟨h1, ⟨sp, c, h4, h5⟩, h6, h7⟩ hK
    have hc := h4.cell
    rw [List.length_reverse] at h5 hc
    gi_wp2
    refine ⟨by simp, .inl ⟨_, _, rfl, run_takeDeferred hK, ?_⟩⟩
    exact ⟨_, results_tmp rfl _ _ _, ⟨sp, c, rfl, ownsRow_putObj h5 _ hK rfl⟩, h6.trans (belowK_b (w := w) (Nat.le_refl _) W D _ _ (by have := hB0.size; omega) hK rfl rfl)⟩
  case stop =>
    rintro D c pre W _ _ h _
    exact h.elim
end Go.Proofs.Ytimildmpkamomaa
