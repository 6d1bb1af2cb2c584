/- Points: the walk. -/
import Derived.Test.YtfgmhpdhgepalaaDoorEach
namespace Go.Proofs.YtfgmhpdhgepalaaDoor
open Go.RowKit Go.Shelf

attribute [local go_sem] Oper.semAt_some

theorem info3 : (Tryd.prog.info? 3).map (fun i => (i.zero, i.size, i.bytes)) = some (some (.int .i64 0), 1, 8) := by kernel_rfl
def iR (l : List Nat) : List Value := l.map fun (j : Nat) => Value.int .i64 (j : Int)
def NewN (w : World) (l : List Nat) (e : Ending) (w' : World) : Prop :=
  ∃ sp c, e = .returned (.slice sp l.length c) ∧ OwnsWin w' w.heap.size 3 1 (.slice sp l.length c) l.length (iR l) ∧ Fr (fun _ => False) w w'

/-- A box that holds a row of one's own; these are the caller's blocks (and T). -/
structure AW (w : World) (T : Nat → Prop) (l : List Nat) (S : Nat → Prop) (W : World) : Prop where
  box : ∃ sp c, W.heap[w.heap.size]? = some (.cells #[.slice sp l.length c] 25 (0, 0)) ∧ OwnsWin W w.heap.size 3 1 (.slice sp l.length c) l.length (iR l) ∧ (∀ k, T k → (Value.slice sp l.length c).ownBlock ≠ some k) ∧ ∀ k, S k ↔ (k = w.heap.size ∨ T k ∨ (Value.slice sp l.length c).ownBlock = some k)
  fr : Fr (fun _ => False) w W
  tl : ∀ k, T k → w.heap.size < k ∧ k < W.heap.size

theorem AW.keep {w : World} {T : Nat → Prop} {l : List Nat} {S : Nat → Prop} {W1 W2 : World} {R : Nat → Prop} (h : AW w T l S W1) (hR : ∀ k, R k → w.heap.size ≤ k) (f : Fr (fun k => R k ∧ ¬ S k) W1 W2) : AW w T l S W2 := by
  obtain ⟨⟨sp, c, h1, h2, hd, h3⟩, hf, ht⟩ := h
  exact ⟨⟨sp, c, f.heap h1 (fun e => e.2 ((h3 _).2 (.inl rfl))), h2.fr f (fun k a e => e.2 ((h3 _).2 (.inr (.inr a)))), hd, h3⟩, hf.step f (fun i e => .inr (hR i e.1)), fun k hk => ⟨(ht k hk).1, Nat.lt_of_lt_of_le (ht k hk).2 f.size⟩⟩
theorem AW.lt {w : World} {T : Nat → Prop} {l : List Nat} {S : Nat → Prop} {W : World} (h : AW w T l S W) : ∀ k, S k → k < W.heap.size := by
  obtain ⟨⟨sp, c, h1, h2, hd, h3⟩, hf, ht⟩ := h
  intro k hk
  rcases (h3 k).1 hk with rfl | e | e
  · exact ltOf h1
  · exact (ht k e).2
  · exact (h2.lt k e).2
theorem AW.ge {w : World} {T : Nat → Prop} {l : List Nat} {S : Nat → Prop} {W : World} (h : AW w T l S W) : ∀ k, S k → w.heap.size ≤ k := by
  obtain ⟨⟨sp, c, h1, h2, hd, h3⟩, hf, ht⟩ := h
  intro k hk
  rcases (h3 k).1 hk with rfl | e | e
  · exact Nat.le_refl _
  · exact Nat.le_of_lt (ht k e).1
  · exact (h2.lt k e).1
/-- One of T's blocks is written. -/
theorem AW.setT {w W : World} {T : Nat → Prop} {l : List Nat} {S : Nat → Prop} (h : AW w T l S W) {b : Nat} (hb : T b) (v : Value) : AW w T l S (W.setCell ⟨b, 0, none⟩ v) ∧ Fr S W (W.setCell ⟨b, 0, none⟩ v) := by
  obtain ⟨⟨sp, c, h1, h2, hd, h3⟩, hf, ht⟩ := h
  have hS : S b := (h3 b).2 (.inr (.inl hb))
  have f : Fr (fun k => k = b) W (W.setCell ⟨b, 0, none⟩ v) := (Fr.refl (fun k => k = b) W).setCell (p := ⟨b, 0, none⟩) (.inl rfl) v
  exact ⟨⟨⟨sp, c, f.heap h1 (fun e => by have := (ht b hb).1; omega), h2.fr f (fun k a e => hd b hb (by subst e; exact a)), hd, h3⟩, hf.setCell (.inr (Nat.le_of_lt (ht b hb).1)) v, fun k hk => ⟨(ht k hk).1, Nat.lt_of_lt_of_le (ht k hk).2 f.size⟩⟩, (Fr.refl S W).setCell (p := ⟨b, 0, none⟩) (.inl hS) v⟩
theorem AW.step {w W w4 : World} {T : Nat → Prop} {l : List Nat} {S : Nat → Prop} {x : Nat} {sp sp' : Option Addr} {c c' : Nat} {Y : Obj} (hf : Fr (fun _ => False) w W) (ht : ∀ k, T k → w.heap.size < k ∧ k < W.heap.size) (h1 : W.heap[w.heap.size]? = some (.cells #[.slice sp l.length c] 25 (0, 0))) (h2 : OwnsWin W w.heap.size 3 1 (.slice sp l.length c) l.length (iR l))
    (hd : ∀ k, T k → (Value.slice sp l.length c).ownBlock ≠ some k) (h3 : ∀ k, S k ↔ (k = w.heap.size ∨ T k ∨ (Value.slice sp l.length c).ownBlock = some k))
    (hown : OwnsWin w4 w.heap.size 3 1 (.slice sp' (l.length + 1) c') (l.length + 1) (iR l ++ [.int .i64 (x : Int)])) (hgrow : (W.alloc Y).grownBy w4 (Value.slice sp l.length c).ownBlock)
    (hsh : ∀ k, (Value.slice sp' (l.length + 1) c').ownBlock = some k → (Value.slice sp l.length c).ownBlock = some k ∨ (W.alloc Y).heap.size ≤ k) :
    ∃ S', AW w T (l ++ [x]) S' (w4.setCell ⟨w.heap.size, 0, none⟩ (.slice sp' (l.length + 1) c')) ∧ Fr S W (w4.setCell ⟨w.heap.size, 0, none⟩ (.slice sp' (l.length + 1) c')) ∧ ∀ k, S' k → S k ∨ W.heap.size ≤ k := by
  have n2 := h2.ne h1 (by intro c; simp)
  have g4 : Fr S W w4 := ((Fr.refl S W).alloc Y).grown hgrow (fun k e => .inl ((h3 k).2 (.inr (.inr e))))
  have b4 : w4.heap[w.heap.size]? = some (.cells #[.slice sp l.length c] 25 (0, 0)) := heapGrown hgrow (heapAlloc h1) n2
  have n7 := hown.ne b4 (by intro c; simp)
  have f5 : Fr (fun k => k = w.heap.size) w4 (w4.setCell ⟨w.heap.size, 0, none⟩ (.slice sp' (l.length + 1) c')) := (Fr.refl (fun k => k = w.heap.size) w4).setCell (p := ⟨w.heap.size, 0, none⟩) (.inl rfl) _
  have g5 := g4.setCell (p := ⟨w.heap.size, 0, none⟩) (.inl ((h3 _).2 (.inl rfl))) (.slice sp' (l.length + 1) c')
  have hl : (l ++ [x]).length = l.length + 1 := by simp
  refine ⟨fun k => k = w.heap.size ∨ T k ∨ (Value.slice sp' (l.length + 1) c').ownBlock = some k, ⟨⟨sp', c', ?_, ?_, ?_, ?_⟩, hf.step g5 (fun i e => ?_), fun k hk => ⟨(ht k hk).1, Nat.lt_of_lt_of_le (ht k hk).2 g5.size⟩⟩, g5, fun k hk => ?_⟩
  · rw [hl]; simpa using heapSet b4 0 (.slice sp' (l.length + 1) c')
  · rw [hl, show iR (l ++ [x]) = iR l ++ [.int .i64 (x : Int)] by simp [iR]]
    exact hown.fr f5 (fun k a e => n7 (by subst e; exact a.symm))
  · rw [hl]
    intro k hk e
    rcases hsh k e with e | e
    · exact hd k hk e
    · have := (ht k hk).2; simp at e; omega
  · rw [hl]; exact fun k => Iff.rfl
  · rcases (h3 i).1 e with rfl | e | e
    · exact .inr (Nat.le_refl _)
    · exact .inr (Nat.le_of_lt (ht i e).1)
    · exact .inr (h2.lt i e).1
  · rcases hk with e | e | e
    · exact .inl ((h3 k).2 (.inl e))
    · exact .inl ((h3 k).2 (.inr (.inl e)))
    · rcases hsh k e with e | e
      · exact .inl ((h3 k).2 (.inr (.inr e)))
      · simp at e; exact .inr (by omega)

set_option maxRecDepth 100000 in
set_option maxHeartbeats 4000000 in
theorem Points_any (w : World) (p : Option Addr) (c : Nat) (l : List Nat) (hT : Tabs w) (hb : ∀ x ∈ l, x < 256) (hr : RdB w p l) (hc : l.length ≤ c) (hm : c ≤ maxLen) (hl : l.length ≤ 100000) :
    Calls Tryd.prog 13 #[.slice p l.length c] w (NewN w (pts l)) := by
  have HB := Lib.hid hb
  have HR := Lib.hid hr
  have HT := Lib.hid hT
  clear hb hr hT
  obtain ⟨i27, hb0, hb1, hb2, hb3⟩ := info_parts info3
  refine (callsIn_wide (n := 6)).1 ?_
  refine callsIn_of_wp_marks Tryd.func13 rfl trivial ?_ rfl
  simp only [Tryd.ntmps13, List.size_toArray, List.length_cons, List.length_nil, Nat.reduceAdd, Nat.reduceSub, Array.replicate_succ, Array.replicate_zero, List.push_toArray, List.append_toArray, List.nil_append, List.cons_append]
  gi_wp2_with ((refine ⟨trivial, ?_⟩; gi_at_call 21; refine (callsIn_wide.2 (each_in _ _ _ _)).mono ?_; rintro e w' ⟨rfl, rfl⟩))
  have bO := heapAlloc (o' := .cells #[.slice p l.length c] 22) (heapNew w (.cells #[.slice none 0 0] 25))
  have bT : ((w.alloc (.cells #[.slice none 0 0] 25)).alloc (.cells #[.slice p l.length c] 22)).heap[w.heap.size + 1]? = some (.cells #[.slice p l.length c] 22 (0, 0)) := by
    have := heapNew (w.alloc (.cells #[.slice none 0 0] 25)) (.cells #[.slice p l.length c] 22)
    rwa [World.size_alloc] at this
  have f0 := ((Fr.refl (fun _ => False) w).alloc (.cells #[.slice none 0 0] 25)).alloc (.cells #[.slice p l.length c] 22)
  generalize ((w.alloc (.cells #[.slice none 0 0] 25)).alloc (.cells #[.slice p l.length c] 22)) = wl at *
  have hl1 := ltOf bT
  refine wpIn_rangeFunc_set rfl (by omega) (gf := 25) (lb := #[.pointer (some ⟨w.heap.size + 1, 0, none⟩)]) rfl trivial (enters_of Tryd.func25 (by kernel_rfl) rfl)
    (each_stops w (w.heap.size + 1) p c l HT.out HB.out HR.out hc hm (by omega) (6 - 1) (by omega)) (fun _ => rfl)
    (AW w (fun _ => False)) (fun _ _ _ _ => False) (fun k => k = w.heap.size)
    (fun W1 S f hS => ⟨f0.trans f, f.heap bT (by simp), fun k hk => by rcases hS k hk with e | e <;> omega⟩)
    (fun pre S W1 W2 h f => h.keep (R := fun k => k = w.heap.size + 1 ∨ wl.heap.size ≤ k) (fun k e => by omega) f)
    (fun _ _ _ _ _ h _ => h) (fun pre S W1 h => h.lt)
    ⟨⟨none, 0, bO, OwnsWin.nil _ _ _ _, fun k h => h.elim, fun k => by simp [Value.ownBlock]⟩, f0, fun k h => h.elim⟩
    (fun x => { tmps := #[.slice p l.length c, undef, .slice none 0 0, .pointer (some ⟨w.heap.size, 0, none⟩), .int .i64 (x : Int), .slice p l.length c, .func (.func 25) #[] #[.pointer (some ⟨w.heap.size + 1, 0, none⟩)], .int .i64 (x : Int), undef, undef, undef, undef, undef], defers := [] }) ?assign ?body ?done ?stop
  case assign =>
    intro l x W K hK
    gi_wp2
    exact hK
  case body =>
    rintro l pre x S W ⟨⟨sp, c, h1, h2, hd, h3⟩, hf, ht⟩ hlen
    have c4 := cellOf h1 0
    have z4 := frozenOf h1 0
    simp at c4
    have nb := h2.ne h1 (by intro c; simp)
    have hsz := hf.size
    have H1 := Lib.hid h1
    have H3 := Lib.hid h3
    have HD := Lib.hid hd
    have HTL := Lib.hid ht
    clear h1 h3 hd ht
    gi_wp2_with (gi_at_builtin; refine wpListIn_append_src _ rfl (.tmp 8) (.tmp 10) 25 rfl w.heap.size 3 i27 _ 1 8 Tryd.underlying25 hb0 hb1 hb2 hb3 rfl (by decide) (.slice sp pre.length c) pre.length _ rfl (h2.fr ((Fr.refl (fun _ => False) _).alloc _) (by simp)) (some ⟨_, 0, none⟩) 1 1 [.int .i64 (x : Int)] rfl (Src.one (heapNew _ _) rfl) (by simp [Value.oneCell']) (by unfold maxLen; omega) (by omega) (by rw [World.size_alloc]; omega) ?_; intro sp4 c4' w4 hown hgrow hsh; have hb4 := heapGrown hgrow (heapAlloc H1.out) nb; have r4c := cellOf hb4 0; have r4f := frozenOf hb4 0; simp at r4c; have HA := Lib.hid (AW.step hf HTL.out H1.out h2 HD.out H3.out hown hgrow hsh); clear hown hgrow hsh hb4)
    exact HA.out
  case done =>
    rintro D ys S W hD hSD rfl ⟨⟨sp, c, h1, h2, hd, h3⟩, hf, ht⟩ hK
    have hc := cellOf h1 0
    simp at hc
    gi_wp2
    refine ⟨by simp, .inl ⟨_, _, rfl, run_takeDeferred hK, ?_⟩⟩
    have fK : Fr (fun k => k = D) W (W.putObj D (.deferred none)) := (Fr.refl (fun k => k = D) W).putObj (.inl rfl) _
    refine ⟨_, results_tmp rfl _ _ _, sp, c, rfl, h2.fr fK (fun k a e => hSD ((h3 D).2 (.inr (.inr (by subst e; exact a))))), hf.step fK (fun i e => .inr (by omega))⟩
  case stop =>
    rintro D c pre S W _ _ _ h _
    exact h.elim
end Go.Proofs.YtfgmhpdhgepalaaDoor
