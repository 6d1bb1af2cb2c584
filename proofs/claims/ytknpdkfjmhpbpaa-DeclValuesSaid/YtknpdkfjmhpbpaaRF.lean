/- A range over a function, by sets of blocks: the iterator may keep memory of its own, cells too, and write it between two rounds; the body writes its own blocks. No condition. -/
import Derived.Test.YtknpdkfjmhpbpaaBase
import Derived.RangeFuncWrites
import Derived.RangeFuncNested
namespace Go.Proofs.Ytknpdkfjmhpbpaa
open Go.RowKit

theorem Fr.putObj {S : Nat → Prop} {a b : World} (h : Fr S a b) {l : Nat} (hl : S l ∨ a.heap.size ≤ l) (o : Obj) : Fr S a (b.putObj l o) :=
  h.grown (grownBy_putObj' b l o) (fun k e => by cases e; exact hl)

/-- What an iterator owes: between two rounds it writes R0's blocks and new ones alone, and none of S, the caller's. -/
def SeqF {α : Type} (F : Fence) (n : Nat) (P : Program) (g : Nat) (lb : Array Value) (encs : α → Array Value) (R0 : Nat → Prop) (Pre : World → (Nat → Prop) → Prop) (St Sp : List α → Prop) (N : Nat) : Prop :=
  ∀ (l : Nat) (J Jx : List α → (Nat → Prop) → World → Prop) (W : World) (S0 : Nat → Prop), Pre W S0 →
    (∀ pre S W1 W2, J pre S W1 → Fr (fun k => (R0 k ∨ W.heap.size ≤ k) ∧ ¬ S k) W1 W2 → J pre S W2) →
    (∀ pre S W1 W2, Jx pre S W1 → Fr (fun k => (R0 k ∨ W.heap.size ≤ k) ∧ ¬ S k) W1 W2 → Jx pre S W2) →
    (∀ pre S W1, J pre S W1 → ∀ k, S k → k < W1.heap.size) →
    (∀ pre x S W1, J pre S W1 → pre.length < N → YieldAt F (n - 1) P l (encs x) W1 fun e W' =>
      (e = .returned (.bool true) ∧ ∃ S', J (pre ++ [x]) S' W' ∧ Fr S W1 W' ∧ ∀ k, S' k → S k ∨ W1.heap.size ≤ k) ∨
      (e = .returned (.bool false) ∧ ∃ S', Jx (pre ++ [x]) S' W')) →
    J [] S0 W →
    CallsIn F n P g (#[.func (.yield l) #[] #[]] ++ lb) W fun e W' => (∃ v, e = .returned v) ∧ ((∃ xs S, St xs ∧ J xs S W') ∨ (∃ pre S, Sp pre ∧ Jx pre S W'))

/-- How the body of a round may be left. -/
def setPost {α : Type} (I : List α → (Nat → Prop) → World → Prop) (Ix : Code → List α → (Nat → Prop) → World → Prop) (xs : List α) (S : Nat → Prop) (W : World) : Exit → Act → World → Prop
  | .normal, _, W' => ∃ S', I xs S' W' ∧ Fr S W W' ∧ ∀ k, S' k → S k ∨ W.heap.size ≤ k
  | .ret, _, W' => ∃ S', Ix .ret xs S' W' ∧ Fr S W W' ∧ ∀ k, S' k → S k ∨ W.heap.size ≤ k
  | .exit id, _, W' => ∃ S', Ix (.exit id) xs S' W' ∧ Fr S W W' ∧ ∀ k, S' k → S k ∨ W.heap.size ≤ k
  | .goto t, _, W' => ∃ S', Ix (.goto t) xs S' W' ∧ Fr S W W' ∧ ∀ k, S' k → S k ∨ W.heap.size ≤ k
  | .panic _, _, _ => False
  | .outgrown, _, _ => False

theorem wpIn_rangeFunc_set {F : Fence} {n : Nat} {P : Program} {α : Type} {g : Operand} {ps : Array Tmp} {assign body : Code} {Q : Exit → Act → World → Prop} {a : Act} {w : World}
    (hro : F.round = none) (h1 : 1 ≤ n) {gf : Nat} {lb : Array Value} (hg : a.eval g = .func (.func gf) #[] lb) (hFg : F.fn gf) (eg : ∀ args w, (callFunc gf args).run P w = .ok (.enter gf args) w)
    {encs : α → Array Value} {R0 : Nat → Prop} {Pre : World → (Nat → Prop) → Prop} {St Sp : List α → Prop} {N : Nat} (hseq : SeqF F (n - 1) P gf lb encs R0 Pre St Sp N) (hps : ∀ x, (encs x).size = ps.size)
    (I : List α → (Nat → Prop) → World → Prop) (Ix : Code → List α → (Nat → Prop) → World → Prop) (S0 : Nat → Prop)
    (hPre : ∀ W1 S, Fr (fun _ => False) w W1 → (∀ k, S k → S0 k ∨ w.heap.size ≤ k) → Pre W1 S)
    (hI : ∀ pre S W1 W2, I pre S W1 → Fr (fun k => (R0 k ∨ w.heap.size ≤ k) ∧ ¬ S k) W1 W2 → I pre S W2)
    (hIx : ∀ c pre S W1 W2, Ix c pre S W1 → Fr (fun k => (R0 k ∨ w.heap.size ≤ k) ∧ ¬ S k) W1 W2 → Ix c pre S W2)
    (hlt : ∀ pre S W1, I pre S W1 → ∀ k, S k → k < W1.heap.size) (h0 : I [] S0 w) (a₁ : α → Act)
    (hassign : ∀ (l : Nat) (x : α) (W : World) (K : Act → World → Prop), K (a₁ x) W →
      assign.wpIn (F.inRound l) (n - 1 - 1) P (Exit.then K (fun _ _ _ => False)) { tmps := (ps.zip (encs x)).foldl (fun t (p, v) => t.setIfInBounds p v) a.tmps, defers := [] } W)
    (hbody : ∀ (l : Nat) (pre : List α) (x : α) (S : Nat → Prop) (W : World), I pre S W → pre.length < N → body.wpIn (F.inRound l) (n - 1 - 1) P (setPost I Ix (pre ++ [x]) S W) (a₁ x) W)
    (hdone : ∀ (D : Nat) (xs : List α) (S : Nat → Prop) (W : World), w.heap.size ≤ D → ¬ S D → St xs → I xs S W → W.heap[D]? = some (.deferred (some [])) → Q .normal { a with defers := { target := .collected D, args := #[] } :: a.defers } W)
    (hstop : ∀ (D : Nat) (c : Code) (pre : List α) (S : Nat → Prop) (W : World), w.heap.size ≤ D → ¬ S D → Sp pre → Ix c pre S W → W.heap[D]? = some (.deferred (some [])) → c.wpIn F n P Q { a with defers := { target := .collected D, args := #[] } :: a.defers } W) :
    (Code.rangeFunc g ps assign body).wpIn F n P Q a w := by
  refine wpIn_rangeFunc ?_
  intro fn hfn
  rw [hro]
  obtain ⟨rec, hrec⟩ : ∃ rec : LoopState → Option Code → Loop, rec = fun st pe => { state := st, pending := pe, fn, tmps := a.tmps, params := ps, assign, body, defers := w.heap.size } := ⟨_, rfl⟩
  obtain ⟨W1, hW1⟩ : ∃ W1, (w.alloc (.deferred (some []))).alloc (.loop (rec .ready none)) = W1 := ⟨_, rfl⟩
  have hL1 : W1.heap[w.heap.size + 1]? = some (.loop (rec .ready none)) := by
    rw [← hW1]; have := World.alloc_heap_new (w.alloc (.deferred (some []))) (.loop (rec .ready none)); rwa [World.size_alloc] at this
  have hK1 : W1.heap[w.heap.size]? = some (.deferred (some [])) := by
    rw [← hW1]; exact (Below.heap_alloc _ _ _ (by simp)).trans (World.alloc_heap_new w _)
  have hf1 : Fr (fun _ => False) w W1 := by rw [← hW1]; exact ((Fr.refl _ w).alloc _).alloc _
  have hs1 : W1.heap.size = w.heap.size + 2 := by rw [← hW1]; simp
  have hn0 : ∀ k, S0 k → k < w.heap.size := hlt [] S0 w h0
  have hI1 : I [] S0 W1 := hI [] S0 w W1 h0 (hf1.mono (fun _ _ h => h.elim))
  refine ⟨w.heap.size + 1, [{ target := .collected w.heap.size, args := #[] }], W1, { target := .fn (.func gf) lb, args := #[.func (.yield (w.heap.size + 1)) #[] #[]] }, W1, gf,
    #[.func (.yield (w.heap.size + 1)) #[] #[]] ++ lb, W1, ?_, ?_, ?_, ?_, fun _ => h1, ?_⟩
  · rw [← hW1, hrec]; exact run_enterLoop_outer _ _ _ _ _
  · simp only [resolve, hg]
    simp [go_sem]
  · intro f' hf'; simp [Target.leads] at hf'; subst hf'; exact hFg
  · simp [invoke, go_sem, eg]
  · have keepD : ∀ {T : Nat → Prop} {A B : World} {k : Nat} {o : Obj}, Fr T A B → A.heap[k]? = some o → ¬ T k → B.heap[k]? = some o := fun h ho hn => h.heap ho hn
    refine (hseq (w.heap.size + 1)
      (fun pre S' W => ∃ S, (∀ k, S' k ↔ (S k ∨ k = w.heap.size ∨ k = w.heap.size + 1)) ∧ I pre S W ∧ ¬ S w.heap.size ∧ ¬ S (w.heap.size + 1) ∧ W.heap[w.heap.size + 1]? = some (.loop (rec .ready none)) ∧ W.heap[w.heap.size]? = some (.deferred (some [])))
      (fun pre S' W => ∃ c S, (∀ k, S' k ↔ (S k ∨ k = w.heap.size ∨ k = w.heap.size + 1)) ∧ Ix c pre S W ∧ ¬ S w.heap.size ∧ ¬ S (w.heap.size + 1) ∧ W.heap[w.heap.size + 1]? = some (.loop (rec .done (some c))) ∧ W.heap[w.heap.size]? = some (.deferred (some [])))
      W1 (fun k => S0 k ∨ k = w.heap.size ∨ k = w.heap.size + 1) (hPre W1 _ hf1 (fun k hk => by rcases hk with h | h | h; exact .inl h; exact .inr (by omega); exact .inr (by omega)))
      ?_ ?_ ?_ ?_ ⟨S0, fun _ => Iff.rfl, hI1, fun h => by have := hn0 _ h; omega, fun h => by have := hn0 _ h; omega, hL1, hK1⟩).mono ?_
    · rintro pre S' A B ⟨S, hS, hi, nd, nl, hl, hk⟩ f
      exact ⟨S, hS, hI pre S A B hi (f.mono (fun k _ h => ⟨h.1.imp id (fun h => by omega), fun e => h.2 ((hS k).2 (.inl e))⟩)), nd, nl,
        keepD f hl (fun h => h.2 ((hS _).2 (.inr (.inr rfl)))), keepD f hk (fun h => h.2 ((hS _).2 (.inr (.inl rfl))))⟩
    · rintro pre S' A B ⟨c, S, hS, hi, nd, nl, hl, hk⟩ f
      exact ⟨c, S, hS, hIx c pre S A B hi (f.mono (fun k _ h => ⟨h.1.imp id (fun h => by omega), fun e => h.2 ((hS k).2 (.inl e))⟩)), nd, nl,
        keepD f hl (fun h => h.2 ((hS _).2 (.inr (.inr rfl)))), keepD f hk (fun h => h.2 ((hS _).2 (.inr (.inl rfl))))⟩
    · rintro pre S' A ⟨S, hS, hi, nd, nl, hl, hk⟩ k hk'
      rcases (hS k).1 hk' with h | rfl | rfl
      · exact hlt pre S A hi k h
      · exact ltOf hk
      · exact ltOf hl
    · -- one round
      rintro pre x S' W ⟨S, hS, hi, nd, nl, hl, hk⟩ hlen
      have hltW : w.heap.size + 1 < W.heap.size := ltOf hl
      have hy := run_yield (P := P) (args := encs x) hl (by rw [hrec]; exact hps x)
      rw [hrec] at hy
      refine ⟨fn, _, assign, body, hy, roundIn_of_wpIn hfn (hassign _ x W _ ⟨_, run_beginRound hl (by rw [hrec]), ?_⟩)⟩
      obtain ⟨W2, hW2⟩ : ∃ W2, W.putObj (w.heap.size + 1) (.loop { rec .ready none with state := .busy }) = W2 := ⟨_, rfl⟩
      rw [hW2]
      have hl2 : W2.heap[w.heap.size + 1]? = some (.loop { rec .ready none with state := .busy }) := by rw [← hW2]; exact World.putObj_heap_same hltW
      have hk2 : W2.heap[w.heap.size]? = some (.deferred (some [])) := by rw [← hW2]; exact (World.putObj_heap_other (by omega)).trans hk
      have f2 : Fr (fun k => k = w.heap.size + 1) W W2 := by rw [← hW2]; exact (Fr.refl (fun k => k = w.heap.size + 1) W).putObj (.inl rfl) _
      have hs2 : W2.heap.size = W.heap.size := by rw [← hW2]; simp [World.putObj]
      have hi2 : I pre S W2 := hI pre S W W2 hi (f2.mono (fun k _ e => ⟨.inr (by omega), by rw [e]; exact nl⟩))
      refine wpIn_mono (hbody _ pre x S W2 hi2 hlen) ?_
      have fin : ∀ (jump : Option Code) (T : Nat → Prop) (W3 : World), Fr S W2 W3 → (∀ k, T k → S k ∨ W2.heap.size ≤ k) →
          (Instr.endRound (w.heap.size + 1) jump).run P W3 = .ok (.bool jump.isNone) (W3.putObj (w.heap.size + 1) (.loop (rec (if jump.isNone then .ready else .done) jump))) ∧
          (W3.putObj (w.heap.size + 1) (.loop (rec (if jump.isNone then .ready else .done) jump))).heap[w.heap.size + 1]? = some (.loop (rec (if jump.isNone then .ready else .done) jump)) ∧
          (W3.putObj (w.heap.size + 1) (.loop (rec (if jump.isNone then .ready else .done) jump))).heap[w.heap.size]? = some (.deferred (some [])) ∧ ¬ T w.heap.size ∧ ¬ T (w.heap.size + 1) ∧
          Fr (fun k => (R0 k ∨ w.heap.size ≤ k) ∧ ¬ T k) W3 (W3.putObj (w.heap.size + 1) (.loop (rec (if jump.isNone then .ready else .done) jump))) ∧
          Fr S' W (W3.putObj (w.heap.size + 1) (.loop (rec (if jump.isNone then .ready else .done) jump))) := fun jump T W3 f3 hT => by
        have hl3 := keepD f3 hl2 nl
        have hk3 := keepD f3 hk2 nd
        have nd3 : ¬ T w.heap.size := fun h => by rcases hT _ h with h | h; exact nd h; omega
        have nl3 : ¬ T (w.heap.size + 1) := fun h => by rcases hT _ h with h | h; exact nl h; omega
        have := run_endRound (P := P) jump hl3
        rw [hrec] at this ⊢
        refine ⟨this, World.putObj_heap_same (ltOf hl3), (World.putObj_heap_other (by omega)).trans hk3, nd3, nl3, (Fr.refl _ W3).putObj (.inl ⟨.inr (by omega), nl3⟩) _, ?_⟩
        have fs : Fr S' W W3 := (f2.mono (fun k _ e => (hS k).2 (.inr (.inr e)))).trans (f3.mono (fun k _ e => (hS k).2 (.inl e)))
        exact fs.putObj (.inl ((hS _).2 (.inr (.inr rfl)))) _
      have up : ∀ (T : Nat → Prop), (∀ k, T k → S k ∨ W2.heap.size ≤ k) → ∀ k, (T k ∨ k = w.heap.size ∨ k = w.heap.size + 1) → S' k ∨ W.heap.size ≤ k := fun T hT k hk => by
        rcases hk with h | h | h
        · rcases hT k h with h | h
          · exact .inl ((hS k).2 (.inl h))
          · exact .inr (by omega)
        · exact .inl ((hS k).2 (.inr (.inl h)))
        · exact .inl ((hS k).2 (.inr (.inr h)))
      rintro e a3 W3 hp
      cases e with
      | normal =>
        obtain ⟨T, hi3, f3, hT⟩ := hp
        obtain ⟨hr, hl4, hk4, nd3, nl3, f4, f5⟩ := fin none T W3 f3 hT
        exact ⟨_, _, hr, .inl ⟨rfl, fun k => T k ∨ k = w.heap.size ∨ k = w.heap.size + 1, ⟨T, fun _ => Iff.rfl, hI _ _ _ _ hi3 f4, nd3, nl3, hl4, hk4⟩, f5, up T hT⟩⟩
      | ret =>
        obtain ⟨T, hi3, f3, hT⟩ := hp
        obtain ⟨hr, hl4, hk4, nd3, nl3, f4, f5⟩ := fin (some .ret) T W3 f3 hT
        exact ⟨_, _, hr, .inr ⟨rfl, fun k => T k ∨ k = w.heap.size ∨ k = w.heap.size + 1, ⟨.ret, T, fun _ => Iff.rfl, hIx _ _ _ _ _ hi3 f4, nd3, nl3, hl4, hk4⟩⟩⟩
      | exit id =>
        obtain ⟨T, hi3, f3, hT⟩ := hp
        obtain ⟨hr, hl4, hk4, nd3, nl3, f4, f5⟩ := fin (some (.exit id)) T W3 f3 hT
        exact ⟨_, _, hr, .inr ⟨rfl, fun k => T k ∨ k = w.heap.size ∨ k = w.heap.size + 1, ⟨.exit id, T, fun _ => Iff.rfl, hIx _ _ _ _ _ hi3 f4, nd3, nl3, hl4, hk4⟩⟩⟩
      | goto t =>
        obtain ⟨T, hi3, f3, hT⟩ := hp
        obtain ⟨hr, hl4, hk4, nd3, nl3, f4, f5⟩ := fin (some (.goto t)) T W3 f3 hT
        exact ⟨_, _, hr, .inr ⟨rfl, fun k => T k ∨ k = w.heap.size ∨ k = w.heap.size + 1, ⟨.goto t, T, fun _ => Iff.rfl, hIx _ _ _ _ _ hi3 f4, nd3, nl3, hl4, hk4⟩⟩⟩
      | panic ch => exact hp.elim
      | outgrown => exact hp.elim
    · -- behind the iterator
      rintro e W2 ⟨⟨v, rfl⟩, (⟨xs, S', hS, S, hS', hi, nd, nl, hl, hk⟩ | ⟨pre, S', hSp, c, S, hS', hi, nd, nl, hl, hk⟩)⟩
      · exact ⟨none, _, by have := run_endLoop (P := P) hl (by rw [hrec]; simp); rw [hrec] at this; exact this, hdone _ xs S _ (Nat.le_refl _) nd hS (hI _ _ _ _ hi ((Fr.refl _ W2).putObj (.inl ⟨.inr (by omega), nl⟩) _)) ((World.putObj_heap_other (by omega)).trans hk)⟩
      · exact ⟨some c, _, by have := run_endLoop (P := P) hl (by rw [hrec]; simp); rw [hrec] at this; exact this, hstop _ c pre S _ (Nat.le_refl _) nd hSp (hIx _ _ _ _ _ hi ((Fr.refl _ W2).putObj (.inl ⟨.inr (by omega), nl⟩) _)) ((World.putObj_heap_other (by omega)).trans hk)⟩
end Go.Proofs.Ytknpdkfjmhpbpaa
