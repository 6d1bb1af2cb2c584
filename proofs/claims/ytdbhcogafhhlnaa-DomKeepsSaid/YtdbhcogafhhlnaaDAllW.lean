/- All: the walk. -/
import Derived.Test.YtdbhcogafhhlnaaDDown
namespace Go.Proofs.Ytdbhcogafhhlnaa
open Go.RowKit Go.Shelf
open R (NewN iR Sep)

attribute [local go_sem] Oper.semAt_some

theorem down_in (p : Addr) (v : Int) (w : World) :
    Calls Try.prog 38 #[.pointer (some p), .int .i64 v] w fun e w' => e = .returned (.func (.func 44) #[] #[.pointer (some ⟨w.heap.size + 1, 0, none⟩), .pointer (some ⟨w.heap.size, 0, none⟩)]) ∧ w' = (w.alloc (.cells #[.pointer (some p)] 28)).alloc (.cells #[.int .i64 v] 3) := by
  go_enter Try.func38, Try.ntmps38
  go_wp2
  go_ret
  exact ⟨rfl, rfl⟩

/-- Between two rounds: the box of what came, and its row; these are the caller's blocks. -/
structure AW (w : World) (pre : List Nat) (S : Nat → Prop) (W : World) : Prop where
  box : ∃ sp c, W.heap[w.heap.size]? = some (.cells #[.slice sp pre.length c] 34 (0, 0)) ∧ OwnsWin W w.heap.size 3 1 (.slice sp pre.length c) pre.length (iR pre) ∧ ∀ k, S k ↔ (k = w.heap.size ∨ (Value.slice sp pre.length c).ownBlock = some k)
  fr : Fr (fun _ => False) w W

theorem AW.keep {w : World} {pre : List Nat} {S : Nat → Prop} {W1 W2 : World} {R : Nat → Prop} (h : AW w pre S W1) (hR : ∀ k, R k → w.heap.size ≤ k) (f : Fr (fun k => R k ∧ ¬ S k) W1 W2) : AW w pre S W2 := by
  obtain ⟨⟨sp, c, h1, h2, h3⟩, hf⟩ := h
  exact ⟨⟨sp, c, f.heap h1 (fun e => e.2 ((h3 _).2 (.inl rfl))), h2.fr f (fun k a e => e.2 ((h3 _).2 (.inr a))), h3⟩, hf.step f (fun i e => .inr (hR i e.1))⟩
theorem AW.lt {w : World} {pre : List Nat} {S : Nat → Prop} {W : World} (h : AW w pre S W) : ∀ k, S k → k < W.heap.size := by
  obtain ⟨⟨sp, c, h1, h2, h3⟩, hf⟩ := h
  intro k hk
  rcases (h3 k).1 hk with rfl | e
  · exact ltOf h1
  · exact (h2.lt k e).2
theorem AW.step {w W w4 : World} {pre : List Nat} {S : Nat → Prop} {x : Nat} {sp sp' : Option Addr} {c c' : Nat} {Y : Obj} (hf : Fr (fun _ => False) w W) (h1 : W.heap[w.heap.size]? = some (.cells #[.slice sp pre.length c] 34 (0, 0))) (h2 : OwnsWin W w.heap.size 3 1 (.slice sp pre.length c) pre.length (iR pre))
    (h3 : ∀ k, S k ↔ (k = w.heap.size ∨ (Value.slice sp pre.length c).ownBlock = some k))
    (hown : OwnsWin w4 w.heap.size 3 1 (.slice sp' (pre.length + 1) c') (pre.length + 1) (iR pre ++ [.int .i64 (x : Int)])) (hgrow : (W.alloc Y).grownBy w4 (Value.slice sp pre.length c).ownBlock)
    (hsh : ∀ k, (Value.slice sp' (pre.length + 1) c').ownBlock = some k → (Value.slice sp pre.length c).ownBlock = some k ∨ (W.alloc Y).heap.size ≤ k) :
    ∃ S', AW w (pre ++ [x]) S' (w4.setCell ⟨w.heap.size, 0, none⟩ (.slice sp' (pre.length + 1) c')) ∧ Fr S W (w4.setCell ⟨w.heap.size, 0, none⟩ (.slice sp' (pre.length + 1) c')) ∧ ∀ k, S' k → S k ∨ W.heap.size ≤ k := by
  have n2 := h2.ne h1 (by intro c; simp)
  have g4 : Fr S W w4 := ((Fr.refl S W).alloc Y).grown hgrow (fun k e => .inl ((h3 k).2 (.inr e)))
  have b4 : w4.heap[w.heap.size]? = some (.cells #[.slice sp pre.length c] 34 (0, 0)) := heapGrown hgrow (heapAlloc h1) n2
  have n7 := hown.ne b4 (by intro c; simp)
  have f5 : Fr (fun k => k = w.heap.size) w4 (w4.setCell ⟨w.heap.size, 0, none⟩ (.slice sp' (pre.length + 1) c')) := (Fr.refl (fun k => k = w.heap.size) w4).setCell (p := ⟨w.heap.size, 0, none⟩) (.inl rfl) _
  have g5 := g4.setCell (p := ⟨w.heap.size, 0, none⟩) (.inl ((h3 _).2 (.inl rfl))) (.slice sp' (pre.length + 1) c')
  have hl : (pre ++ [x]).length = pre.length + 1 := by simp
  refine ⟨fun k => k = w.heap.size ∨ (Value.slice sp' (pre.length + 1) c').ownBlock = some k, ⟨⟨sp', c', ?_, ?_, ?_⟩, hf.step g5 (fun i e => ?_)⟩, g5, fun k hk => ?_⟩
  · rw [hl]; simpa using heapSet b4 0 (.slice sp' (pre.length + 1) c')
  · rw [hl, show iR (pre ++ [x]) = iR pre ++ [.int .i64 (x : Int)] by simp [iR]]
    exact hown.fr f5 (fun k a e => n7 (by subst e; exact a.symm))
  · rw [hl]; exact fun k => Iff.rfl
  · rcases (h3 i).1 e with rfl | e
    · exact .inr (Nat.le_refl _)
    · exact .inr (h2.lt i e).1
  · rcases hk with e | e
    · exact .inl ((h3 k).2 (.inl e))
    · rcases hsh k e with e | e
      · exact .inl ((h3 k).2 (.inr e))
      · simp at e; exact .inr (by omega)

set_option maxRecDepth 100000 in
set_option maxHeartbeats 4000000 in
theorem All_any (w0 w : World) (tb : Nat) (els : List ElD) (ds : List NodeD) (hT : TS w0 w tb els) (hv : VE ds ds.length els) (hb : ds.length ≤ 100000) (h0 : 0 < ds.length) :
    Calls Try.prog 23 #[.pointer (some ⟨tb, 0, none⟩)] w (NewN w (allN ds)) := by
  have HT := Lib.hid hT
  obtain ⟨spT, cT, css, hblk, -, -⟩ := hT.body
  have t0 := cellOf hblk 0
  simp at t0
  have q0 : ((els.length : Int) == 0) = false := by rw [beq_eq_false_iff_ne, hv.len]; omega
  have HV := Lib.hid hv
  clear hT hblk hv
  obtain ⟨i27, hb0, hb1, hb2, hb3⟩ := info_parts R.info3
  refine (callsIn_wide (n := 6)).1 ?_
  refine callsIn_of_wp_marks Try.func23 rfl trivial ?_ rfl
  simp only [Try.ntmps23, List.size_toArray, List.length_cons, List.length_nil, Nat.reduceAdd, Nat.reduceSub, Array.replicate_succ, Array.replicate_zero, List.push_toArray, List.append_toArray, List.nil_append, List.cons_append]
  gi_wp2_with ((refine ⟨trivial, ?_⟩; gi_at_call 38; refine (callsIn_wide.2 (down_in _ _ _)).mono ?_; rintro e w' ⟨rfl, rfl⟩))
  have bO : ((w.alloc (.cells #[.slice none 0 0] 34)).alloc (.cells #[.pointer (some ⟨tb, 0, none⟩)] 28)).heap[w.heap.size]? = some (.cells #[.slice none 0 0] 34 (0, 0)) := heapAlloc (heapNew w _)
  have bT : ((w.alloc (.cells #[.slice none 0 0] 34)).alloc (.cells #[.pointer (some ⟨tb, 0, none⟩)] 28)).heap[w.heap.size + 1]? = some (.cells #[.pointer (some ⟨tb, 0, none⟩)] 28 (0, 0)) := by
    have := heapNew (w.alloc (.cells #[.slice none 0 0] 34)) (.cells #[.pointer (some ⟨tb, 0, none⟩)] 28)
    rwa [World.size_alloc] at this
  have bF : (((w.alloc (.cells #[.slice none 0 0] 34)).alloc (.cells #[.pointer (some ⟨tb, 0, none⟩)] 28)).alloc (.cells #[.int .i64 0] 3)).heap[w.heap.size + 1 + 1]? = some (.cells #[.int .i64 0] 3 (0, 0)) := by
    have := heapNew ((w.alloc (.cells #[.slice none 0 0] 34)).alloc (.cells #[.pointer (some ⟨tb, 0, none⟩)] 28)) (.cells #[.int .i64 0] 3)
    rwa [World.size_alloc, World.size_alloc] at this
  have bO := heapAlloc (o' := .cells #[.int .i64 0] 3) bO
  have bT := heapAlloc (o' := .cells #[.int .i64 0] 3) bT
  have f0 := (((Fr.refl (fun _ => False) w).alloc (.cells #[.slice none 0 0] 34)).alloc (.cells #[.pointer (some ⟨tb, 0, none⟩)] 28)).alloc (.cells #[.int .i64 0] 3)
  generalize (((w.alloc (.cells #[.slice none 0 0] 34)).alloc (.cells #[.pointer (some ⟨tb, 0, none⟩)] 28)).alloc (.cells #[.int .i64 0] 3)) = wl at *
  have hl1 := ltOf bF
  refine wpIn_rangeFunc_set rfl (by omega) (gf := 44) (lb := #[.pointer (some ⟨w.heap.size + 1 + 1, 0, none⟩), .pointer (some ⟨w.heap.size + 1, 0, none⟩)]) rfl trivial (enters_of Try.func44 (by kernel_rfl) rfl)
    (down_stops w0 w tb (w.heap.size + 1) (w.heap.size + 1 + 1) els ds HT.out HV.out hb h0 (6 - 1) (by omega)) (fun _ => rfl)
    (AW w) (fun _ _ _ _ => False) (fun k => k = w.heap.size)
    (fun W1 S f hS => ⟨f0.trans f, f.heap bT (by simp), f.heap bF (by simp), fun k hk => by rcases hS k hk with e | e <;> omega⟩)
    (fun pre S W1 W2 h f => h.keep (R := fun k => False ∨ wl.heap.size ≤ k) (fun k e => by rcases e with e | e; exact e.elim; omega) f)
    (fun _ _ _ _ _ h _ => h) (fun pre S W1 h => h.lt)
    ⟨⟨none, 0, bO, OwnsWin.nil _ _ _ _, fun k => by simp [Value.ownBlock]⟩, f0⟩
    (fun x => { tmps := #[.pointer (some ⟨tb, 0, none⟩), undef, .slice none 0 0, .pointer (some ⟨w.heap.size, 0, none⟩), .int .i64 (x : Int), .pointer (some ⟨tb, 0, none⟩), .pointer (some ⟨tb, 0, none⟩), .pointer (some ⟨tb, 0, none⟩), .slice spT els.length cT, .int .i64 els.length, .bool false, .pointer (some ⟨tb, 0, none⟩), .func (.func 44) #[] #[.pointer (some ⟨w.heap.size + 1 + 1, 0, none⟩), .pointer (some ⟨w.heap.size + 1, 0, none⟩)], .int .i64 (x : Int), undef, undef, undef, undef, undef], defers := [] }) ?assign ?body ?done ?stop
  case assign =>
    intro l x W K hK
    gi_wp2
    exact hK
  case body =>
    rintro l pre x S W ⟨⟨sp, c, h1, h2, h3⟩, hf⟩ hlen
    have c4 := cellOf h1 0
    have z4 := frozenOf h1 0
    simp at c4
    have nb := h2.ne h1 (by intro c; simp)
    have hsz := hf.size
    have H1 := Lib.hid h1
    have H3 := Lib.hid h3
    clear h1 h3
    gi_wp2_with (gi_at_builtin; refine wpListIn_append_src _ rfl (.tmp 14) (.tmp 16) 34 rfl w.heap.size 3 i27 _ 1 8 Try.underlying34 hb0 hb1 hb2 hb3 rfl (by decide) (.slice sp pre.length c) pre.length _ rfl (h2.fr ((Fr.refl (fun _ => False) _).alloc _) (by simp)) (some ⟨_, 0, none⟩) 1 1 [.int .i64 (x : Int)] rfl (Src.one (heapNew _ _) rfl) (by simp [Value.oneCell']) (by unfold maxLen; omega) (by omega) (by rw [World.size_alloc]; omega) ?_; intro sp4 c4' w4 hown hgrow hsh; have hb4 := heapGrown hgrow (heapAlloc H1.out) nb; have r4c := cellOf hb4 0; have r4f := frozenOf hb4 0; simp at r4c; have HA := Lib.hid (AW.step hf H1.out h2 H3.out hown hgrow hsh); clear hown hgrow hsh hb4)
    exact HA.out
  case done =>
    rintro D ys S W hD hSD rfl ⟨⟨sp, c, h1, h2, h3⟩, hf⟩ hK
    have hc := cellOf h1 0
    simp at hc
    gi_wp2
    refine ⟨by simp, .inl ⟨_, _, rfl, run_takeDeferred hK, ?_⟩⟩
    have fK : Fr (fun k => k = D) W (W.putObj D (.deferred none)) := (Fr.refl (fun k => k = D) W).putObj (.inl rfl) _
    refine ⟨_, results_tmp rfl _ _ _, sp, c, rfl, h2.fr fK (fun k a e => hSD ((h3 D).2 (.inr (by subst e; exact a)))), hf.step fK (fun i e => .inr (by omega))⟩
  case stop =>
    rintro D c pre S W _ _ _ h _
    exact h.elim
end Go.Proofs.Ytdbhcogafhhlnaa
