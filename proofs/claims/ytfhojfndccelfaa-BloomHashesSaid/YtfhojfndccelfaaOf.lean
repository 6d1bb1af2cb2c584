/- Of: the hashes of a node; SameInts, of equal rows. No condition but sizes. -/
import Derived.Test.YtfhojfndccelfaaHit
import Derived.Test.YtfhojfndccelfaaWinIn
import Derived.Deep.QuietTactic
import Derived.BigQuiet
namespace Go.Proofs.Ytfhojfndccelfaa
open Go.RowKit Go.Shelf

attribute [local go_sem] Oper.semAt_some

theorem info3 : (Try.prog.info? 3).map (fun i => (i.zero, i.size, i.bytes)) = some (some (.int .i64 0), 1, 8) := by kernel_rfl
def iR (l : List Nat) : List Value := l.map fun n : Nat => Value.int .i64 (n : Int)

/-- A new row of these numbers; nothing else is written. -/
def NewN (w : World) (l : List Nat) (e : Ending) (W : World) : Prop :=
  ∃ sp c, e = .returned (.slice sp l.length c) ∧ OwnsWin W w.heap.size 3 1 (.slice sp l.length c) l.length (iR l) ∧ Fr (fun _ => False) w W

/-- Between two rounds: the box of what came, and its row; these are the caller's blocks. -/
structure OW (w : World) (ob : Nat) (pre : List Nat) (S : Nat → Prop) (W : World) : Prop where
  ge : w.heap.size ≤ ob
  box : ∃ sp c, W.heap[ob]? = some (.cells #[.slice sp pre.length c] 31 (0, 0)) ∧ OwnsWin W w.heap.size 3 1 (.slice sp pre.length c) pre.length (iR pre) ∧ ∀ k, S k ↔ (k = ob ∨ (Value.slice sp pre.length c).ownBlock = some k)
  fr : Fr (fun _ => False) w W

theorem OW.keep {w : World} {ob : Nat} {pre : List Nat} {S : Nat → Prop} {W1 W2 : World} {R : Nat → Prop} (h : OW w ob pre S W1) (hR : ∀ k, R k → w.heap.size ≤ k) (f : Fr (fun k => R k ∧ ¬ S k) W1 W2) : OW w ob pre S W2 := by
  obtain ⟨hg, ⟨sp, c, h1, h2, h3⟩, hf⟩ := h
  exact ⟨hg, ⟨sp, c, f.heap h1 (fun e => e.2 ((h3 _).2 (.inl rfl))), h2.fr f (fun k a e => e.2 ((h3 _).2 (.inr a))), h3⟩, hf.step f (fun i e => .inr (hR i e.1))⟩
theorem OW.lt {w : World} {ob : Nat} {pre : List Nat} {S : Nat → Prop} {W : World} (h : OW w ob pre S W) : ∀ k, S k → k < W.heap.size := by
  obtain ⟨hg, ⟨sp, c, h1, h2, h3⟩, hf⟩ := h
  intro k hk
  rcases (h3 k).1 hk with rfl | e
  · exact ltOf h1
  · exact (h2.lt k e).2
theorem OW.low {w : World} {ob : Nat} {pre : List Nat} {S : Nat → Prop} {W : World} (h : OW w ob pre S W) : ∀ k, S k → w.heap.size ≤ k := by
  obtain ⟨hg, ⟨sp, c, h1, h2, h3⟩, hf⟩ := h
  intro k hk
  rcases (h3 k).1 hk with rfl | e
  · exact hg
  · exact (h2.lt k e).1
theorem OW.step {w W w4 : World} {ob : Nat} {pre : List Nat} {S : Nat → Prop} {x : Nat} {sp sp' : Option Addr} {c c' : Nat} {Y : Obj} (hg : w.heap.size ≤ ob) (hf : Fr (fun _ => False) w W) (h1 : W.heap[ob]? = some (.cells #[.slice sp pre.length c] 31 (0, 0))) (h2 : OwnsWin W w.heap.size 3 1 (.slice sp pre.length c) pre.length (iR pre))
    (h3 : ∀ k, S k ↔ (k = ob ∨ (Value.slice sp pre.length c).ownBlock = some k))
    (hown : OwnsWin w4 w.heap.size 3 1 (.slice sp' (pre.length + 1) c') (pre.length + 1) (iR pre ++ [.int .i64 (x : Int)])) (hgrow : (W.alloc Y).grownBy w4 (Value.slice sp pre.length c).ownBlock)
    (hsh : ∀ k, (Value.slice sp' (pre.length + 1) c').ownBlock = some k → (Value.slice sp pre.length c).ownBlock = some k ∨ (W.alloc Y).heap.size ≤ k) :
    ∃ S', OW w ob (pre ++ [x]) S' (w4.setCell ⟨ob, 0, none⟩ (.slice sp' (pre.length + 1) c')) ∧ Fr S W (w4.setCell ⟨ob, 0, none⟩ (.slice sp' (pre.length + 1) c')) ∧ ∀ k, S' k → S k ∨ W.heap.size ≤ k := by
  have n2 := h2.ne h1 (by intro c; simp)
  have g4 : Fr S W w4 := ((Fr.refl S W).alloc Y).grown hgrow (fun k e => .inl ((h3 k).2 (.inr e)))
  have b4 : w4.heap[ob]? = some (.cells #[.slice sp pre.length c] 31 (0, 0)) := heapGrown hgrow (heapAlloc h1) n2
  have n7 := hown.ne b4 (by intro c; simp)
  have f5 : Fr (fun k => k = ob) w4 (w4.setCell ⟨ob, 0, none⟩ (.slice sp' (pre.length + 1) c')) := (Fr.refl (fun k => k = ob) w4).setCell (p := ⟨ob, 0, none⟩) (.inl rfl) _
  have g5 := g4.setCell (p := ⟨ob, 0, none⟩) (.inl ((h3 _).2 (.inl rfl))) (.slice sp' (pre.length + 1) c')
  have hl : (pre ++ [x]).length = pre.length + 1 := by simp
  refine ⟨fun k => k = ob ∨ (Value.slice sp' (pre.length + 1) c').ownBlock = some k, ⟨hg, ⟨sp', c', ?_, ?_, ?_⟩, hf.step g5 (fun i e => ?_)⟩, g5, fun k hk => ?_⟩
  · rw [hl]; simpa using heapSet b4 0 (.slice sp' (pre.length + 1) c')
  · rw [hl, show iR (pre ++ [x]) = iR pre ++ [.int .i64 (x : Int)] by simp [iR]]
    exact hown.fr f5 (fun k a e => n7 (by subst e; exact a.symm))
  · rw [hl]; exact fun k => Iff.rfl
  · rcases (h3 i).1 e with rfl | e
    · exact .inr hg
    · exact .inr (h2.lt i e).1
  · rcases hk with e | e
    · exact .inl ((h3 k).2 (.inl e))
    · rcases hsh k e with e | e
      · exact .inl ((h3 k).2 (.inr e))
      · simp at e; exact .inr (by omega)

set_option maxRecDepth 100000 in
set_option maxHeartbeats 4000000 in
theorem Of_any (w : World) (par : Int) (tag id : ByteArray) (pc pa : Option Addr) (cls : List ByteArray) (cc na ca : Nat) (hc : StrO (fun _ => False) w (.slice pc cls.length cc) cls) (ht : tag.size ≤ maxLen) (hid : id.size ≤ maxLen) (hl : cls.length ≤ 1000) :
    Calls Try.prog 23 #[.agg #[.int .i64 par, .string tag, .string id, .slice pc cls.length cc, .slice pa na ca]] w (NewN w (hsL tag (if id = ByteArray.empty then [] else [id]) cls)) := by
  obtain ⟨i3, hb0, hb1, hb2, hb3⟩ := info_parts info3
  refine (callsIn_wide (n := 6)).1 ?_
  refine callsIn_of_wp_marks Try.func23 rfl trivial ?_ rfl
  simp only [Try.ntmps23, List.size_toArray, List.length_cons, List.length_nil, Nat.reduceAdd, Nat.reduceSub, Array.replicate_succ, Array.replicate_zero, List.push_toArray, List.append_toArray, List.nil_append, List.cons_append]
  by_cases hidE : id = ByteArray.empty
  · have q0 : id.toList.isEmpty = true := by rw [ByteArray.toList_eq, hidE]; rfl
    rw [if_pos hidE]
    clear hidE
    gi_wp2_with ((refine ⟨trivial, ?_⟩; gi_at_call 38; refine (callsIn_wide.2 (hashes_any _ _ _ _ _ _ _ _)).mono ?_; rintro e w' ⟨rfl, rfl⟩))
    have bO : (((((w.alloc (.cells #[.int .i64 par, .string tag, .string id, .slice pc cls.length cc, .slice pa na ca] 44)).alloc (.cells #[.slice none 0 0] 31)).alloc (.cells #[.string tag] 9)).alloc (.cells #[.slice none 0 0] 41)).alloc (.cells #[.slice pc cls.length cc] 41)).heap[w.heap.size + 1]? = some (.cells #[.slice none 0 0] 31 (0, 0)) := by
      have := heapNew (w.alloc (.cells #[.int .i64 par, .string tag, .string id, .slice pc cls.length cc, .slice pa na ca] 44)) (.cells #[.slice none 0 0] 31)
      rw [World.size_alloc] at this
      exact heapAlloc (heapAlloc (heapAlloc this))
    have b1 : (((((w.alloc (.cells #[.int .i64 par, .string tag, .string id, .slice pc cls.length cc, .slice pa na ca] 44)).alloc (.cells #[.slice none 0 0] 31)).alloc (.cells #[.string tag] 9)).alloc (.cells #[.slice none 0 0] 41)).alloc (.cells #[.slice pc cls.length cc] 41)).heap[w.heap.size + 1 + 1]? = some (.cells #[.string tag] 9 (0, 0)) := by
      have := heapNew ((w.alloc (.cells #[.int .i64 par, .string tag, .string id, .slice pc cls.length cc, .slice pa na ca] 44)).alloc (.cells #[.slice none 0 0] 31)) (.cells #[.string tag] 9)
      rw [World.size_alloc, World.size_alloc] at this
      exact heapAlloc (heapAlloc this)
    have b2 : (((((w.alloc (.cells #[.int .i64 par, .string tag, .string id, .slice pc cls.length cc, .slice pa na ca] 44)).alloc (.cells #[.slice none 0 0] 31)).alloc (.cells #[.string tag] 9)).alloc (.cells #[.slice none 0 0] 41)).alloc (.cells #[.slice pc cls.length cc] 41)).heap[w.heap.size + 1 + 1 + 1]? = some (.cells #[.slice none 0 0] 41 (0, 0)) := by
      have := heapNew (((w.alloc (.cells #[.int .i64 par, .string tag, .string id, .slice pc cls.length cc, .slice pa na ca] 44)).alloc (.cells #[.slice none 0 0] 31)).alloc (.cells #[.string tag] 9)) (.cells #[.slice none 0 0] 41)
      rw [World.size_alloc, World.size_alloc, World.size_alloc] at this
      exact heapAlloc this
    have b3 : (((((w.alloc (.cells #[.int .i64 par, .string tag, .string id, .slice pc cls.length cc, .slice pa na ca] 44)).alloc (.cells #[.slice none 0 0] 31)).alloc (.cells #[.string tag] 9)).alloc (.cells #[.slice none 0 0] 41)).alloc (.cells #[.slice pc cls.length cc] 41)).heap[w.heap.size + 1 + 1 + 1 + 1]? = some (.cells #[.slice pc cls.length cc] 41 (0, 0)) := by
      have := heapNew ((((w.alloc (.cells #[.int .i64 par, .string tag, .string id, .slice pc cls.length cc, .slice pa na ca] 44)).alloc (.cells #[.slice none 0 0] 31)).alloc (.cells #[.string tag] 9)).alloc (.cells #[.slice none 0 0] 41)) (.cells #[.slice pc cls.length cc] 41)
      rwa [World.size_alloc, World.size_alloc, World.size_alloc, World.size_alloc] at this
    have f0 : Fr (fun _ => False) w (((((w.alloc (.cells #[.int .i64 par, .string tag, .string id, .slice pc cls.length cc, .slice pa na ca] 44)).alloc (.cells #[.slice none 0 0] 31)).alloc (.cells #[.string tag] 9)).alloc (.cells #[.slice none 0 0] 41)).alloc (.cells #[.slice pc cls.length cc] 41)) := (((((Fr.refl (fun _ => False) w).alloc _).alloc _).alloc _).alloc _).alloc _
    have hri : StrO (fun k => k = w.heap.size + 1) (((((w.alloc (.cells #[.int .i64 par, .string tag, .string id, .slice pc cls.length cc, .slice pa na ca] 44)).alloc (.cells #[.slice none 0 0] 31)).alloc (.cells #[.string tag] 9)).alloc (.cells #[.slice none 0 0] 41)).alloc (.cells #[.slice pc cls.length cc] 41)) (.slice none 0 0) ([] : List ByteArray) := ⟨none, 0, rfl, by simp, fun i x hx => by simp at hx⟩
    have hrc : StrO (fun k => k = w.heap.size + 1) (((((w.alloc (.cells #[.int .i64 par, .string tag, .string id, .slice pc cls.length cc, .slice pa na ca] 44)).alloc (.cells #[.slice none 0 0] 31)).alloc (.cells #[.string tag] 9)).alloc (.cells #[.slice none 0 0] 41)).alloc (.cells #[.slice pc cls.length cc] 41)) (.slice pc cls.length cc) cls := by
      obtain ⟨p, c, e, hm, h1⟩ := hc
      refine ⟨p, c, e, hm, fun i x hx => ?_⟩
      obtain ⟨h0, g, off, hp, hg, hn, hcl⟩ := h1 i x hx
      exact ⟨h0, g, off, hp, Nat.lt_of_lt_of_le hg f0.size, by omega, (f0.cell (p := ⟨g, off + i, none⟩) hg (by simp)).trans hcl⟩
    generalize ((((w.alloc (.cells #[.int .i64 par, .string tag, .string id, .slice pc cls.length cc, .slice pa na ca] 44)).alloc (.cells #[.slice none 0 0] 31)).alloc (.cells #[.string tag] 9)).alloc (.cells #[.slice none 0 0] 41)).alloc (.cells #[.slice pc cls.length cc] 41) = wl at *
    have hl1 := ltOf b3
    refine wpIn_rangeFunc_set rfl (by omega) (gf := 43) (lb := #[.pointer (some ⟨w.heap.size + 1 + 1, 0, none⟩), .pointer (some ⟨w.heap.size + 1 + 1 + 1, 0, none⟩), .pointer (some ⟨w.heap.size + 1 + 1 + 1 + 1, 0, none⟩)]) rfl trivial (enters_of Try.func43 (by kernel_rfl) rfl)
      (hs_stops (w.heap.size + 1 + 1) (w.heap.size + 1 + 1 + 1) (w.heap.size + 1 + 1 + 1 + 1) tag (.slice none 0 0) (.slice pc cls.length cc) ([] : List ByteArray) cls ht (by simp) hl (6 - 1) (by omega)) (fun _ => rfl)
      (OW w (w.heap.size + 1)) (fun _ _ _ _ => False) (fun k => k = w.heap.size + 1)
      (fun W1 S f hS => ⟨f.heap b1 (by simp), f.heap b2 (by simp), f.heap b3 (by simp), hri.step (f.mono (fun _ _ e => e.elim)) hS, hrc.step (f.mono (fun _ _ e => e.elim)) hS, fun k hk => by rcases hS k hk with e | e <;> omega⟩)
      (fun pre S W1 W2 h f => h.keep (R := fun k => False ∨ wl.heap.size ≤ k) (fun k e => by rcases e with e | e; exact e.elim; omega) f)
      (fun _ _ _ _ _ h _ => h) (fun pre S W1 h => h.lt)
      ⟨by omega, ⟨none, 0, bO, OwnsWin.nil _ _ _ _, fun k => by simp [Value.ownBlock]⟩, f0⟩
      (fun x => { tmps := #[.agg #[.int .i64 par, .string tag, .string id, .slice pc cls.length cc, .slice pa na ca], .pointer (some ⟨w.heap.size, 0, none⟩), .slice none 0 0, .slice none 0 0, .pointer (some ⟨w.heap.size + 1, 0, none⟩), .int .i64 (x : Int), .pointer (some ⟨w.heap.size, 2, none⟩), .string id, .bool false, undef, undef, undef, .pointer (some ⟨w.heap.size, 1, none⟩), .string tag, .slice none 0 0, .pointer (some ⟨w.heap.size, 3, none⟩), .slice pc cls.length cc, .func (.func 43) #[] #[.pointer (some ⟨w.heap.size + 1 + 1, 0, none⟩), .pointer (some ⟨w.heap.size + 1 + 1 + 1, 0, none⟩), .pointer (some ⟨w.heap.size + 1 + 1 + 1 + 1, 0, none⟩)], .int .i64 (x : Int), undef, undef, undef, undef, undef], defers := [] }) ?assign ?body ?done ?stop
    case assign =>
      intro l x W K hK
      gi_wp2
      exact hK
    case body =>
      rintro l pre x S W ⟨hge, ⟨sp, c, h1, h2, h3⟩, hf⟩ hlen
      have c4 := cellOf h1 0
      have z4 := frozenOf h1 0
      simp at c4
      have nb := h2.ne h1 (by intro c; simp)
      have hsz := hf.size
      have H1 := Lib.hid h1
      have H3 := Lib.hid h3
      clear h1 h3
      gi_wp2_with (gi_at_builtin; refine wpListIn_append_src _ rfl (.tmp 19) (.tmp 21) 31 rfl w.heap.size 3 i3 _ 1 8 Try.underlying31 hb0 hb1 hb2 hb3 rfl (by decide) (.slice sp pre.length c) pre.length _ rfl (h2.fr ((Fr.refl (fun _ => False) _).alloc _) (by simp)) (some ⟨_, 0, none⟩) 1 1 [.int .i64 (x : Int)] rfl (SrcW.one (heapNew _ _) rfl) (by simp [Value.oneCell']) (by unfold maxLen; omega) (by omega) (by rw [World.size_alloc]; omega) ?_; intro sp4 c4' w4 hown hgrow hsh; have hb4 := heapGrown hgrow (heapAlloc H1.out) nb; have r4c := cellOf hb4 0; have r4f := frozenOf hb4 0; simp at r4c; have HA := Lib.hid (OW.step hge hf H1.out h2 H3.out hown hgrow hsh); clear hown hgrow hsh hb4)
      exact HA.out
    case done =>
      rintro D ys S W hD hSD rfl ⟨hge, ⟨sp, c, h1, h2, h3⟩, hf⟩ hK
      have hc := cellOf h1 0
      simp at hc
      gi_wp2
      refine ⟨by simp, .inl ⟨_, _, rfl, run_takeDeferred hK, ?_⟩⟩
      have fK : Fr (fun k => k = D) W (W.putObj D (.deferred none)) := (Fr.refl (fun k => k = D) W).putObj (.inl rfl) _
      refine ⟨_, results_tmp rfl _ _ _, sp, c, rfl, h2.fr fK (fun k a e => hSD ((h3 D).2 (.inr (by subst e; exact a)))), hf.step fK (fun i e => .inr (by omega))⟩
    case stop =>
      rintro D c pre S W _ _ _ h _
      exact h.elim
  · have q0 : id.toList.isEmpty = false := by
      rw [ByteArray.toList_eq]
      rw [Bool.eq_false_iff]
      intro h
      apply hidE
      apply ByteArray.ext
      simpa using h
    rw [if_neg hidE]
    clear hidE
    gi_wp2_with ((refine ⟨trivial, ?_⟩; gi_at_call 38; refine (callsIn_wide.2 (hashes_any _ _ _ _ _ _ _ _)).mono ?_; rintro e w' ⟨rfl, rfl⟩))
    have bO : ((((((w.alloc (.cells #[.int .i64 par, .string tag, .string id, .slice pc cls.length cc, .slice pa na ca] 44)).alloc (.cells #[.slice none 0 0] 31)).alloc (.cells #[.string id] 9)).alloc (.cells #[.string tag] 9)).alloc (.cells #[.slice (some ⟨w.heap.size + 1 + 1, 0, none⟩) 1 1] 41)).alloc (.cells #[.slice pc cls.length cc] 41)).heap[w.heap.size + 1]? = some (.cells #[.slice none 0 0] 31 (0, 0)) := by
      have := heapNew (w.alloc (.cells #[.int .i64 par, .string tag, .string id, .slice pc cls.length cc, .slice pa na ca] 44)) (.cells #[.slice none 0 0] 31)
      rw [World.size_alloc] at this
      exact heapAlloc (heapAlloc (heapAlloc (heapAlloc this)))
    have b1 : ((((((w.alloc (.cells #[.int .i64 par, .string tag, .string id, .slice pc cls.length cc, .slice pa na ca] 44)).alloc (.cells #[.slice none 0 0] 31)).alloc (.cells #[.string id] 9)).alloc (.cells #[.string tag] 9)).alloc (.cells #[.slice (some ⟨w.heap.size + 1 + 1, 0, none⟩) 1 1] 41)).alloc (.cells #[.slice pc cls.length cc] 41)).heap[w.heap.size + 1 + 1 + 1]? = some (.cells #[.string tag] 9 (0, 0)) := by
      have := heapNew (((w.alloc (.cells #[.int .i64 par, .string tag, .string id, .slice pc cls.length cc, .slice pa na ca] 44)).alloc (.cells #[.slice none 0 0] 31)).alloc (.cells #[.string id] 9)) (.cells #[.string tag] 9)
      rw [World.size_alloc, World.size_alloc, World.size_alloc] at this
      exact heapAlloc (heapAlloc this)
    have b2 : ((((((w.alloc (.cells #[.int .i64 par, .string tag, .string id, .slice pc cls.length cc, .slice pa na ca] 44)).alloc (.cells #[.slice none 0 0] 31)).alloc (.cells #[.string id] 9)).alloc (.cells #[.string tag] 9)).alloc (.cells #[.slice (some ⟨w.heap.size + 1 + 1, 0, none⟩) 1 1] 41)).alloc (.cells #[.slice pc cls.length cc] 41)).heap[w.heap.size + 1 + 1 + 1 + 1]? = some (.cells #[.slice (some ⟨w.heap.size + 1 + 1, 0, none⟩) 1 1] 41 (0, 0)) := by
      have := heapNew ((((w.alloc (.cells #[.int .i64 par, .string tag, .string id, .slice pc cls.length cc, .slice pa na ca] 44)).alloc (.cells #[.slice none 0 0] 31)).alloc (.cells #[.string id] 9)).alloc (.cells #[.string tag] 9)) (.cells #[.slice (some ⟨w.heap.size + 1 + 1, 0, none⟩) 1 1] 41)
      rw [World.size_alloc, World.size_alloc, World.size_alloc, World.size_alloc] at this
      exact heapAlloc this
    have b3 : ((((((w.alloc (.cells #[.int .i64 par, .string tag, .string id, .slice pc cls.length cc, .slice pa na ca] 44)).alloc (.cells #[.slice none 0 0] 31)).alloc (.cells #[.string id] 9)).alloc (.cells #[.string tag] 9)).alloc (.cells #[.slice (some ⟨w.heap.size + 1 + 1, 0, none⟩) 1 1] 41)).alloc (.cells #[.slice pc cls.length cc] 41)).heap[w.heap.size + 1 + 1 + 1 + 1 + 1]? = some (.cells #[.slice pc cls.length cc] 41 (0, 0)) := by
      have := heapNew (((((w.alloc (.cells #[.int .i64 par, .string tag, .string id, .slice pc cls.length cc, .slice pa na ca] 44)).alloc (.cells #[.slice none 0 0] 31)).alloc (.cells #[.string id] 9)).alloc (.cells #[.string tag] 9)).alloc (.cells #[.slice (some ⟨w.heap.size + 1 + 1, 0, none⟩) 1 1] 41)) (.cells #[.slice pc cls.length cc] 41)
      rwa [World.size_alloc, World.size_alloc, World.size_alloc, World.size_alloc, World.size_alloc] at this
    have f0 : Fr (fun _ => False) w ((((((w.alloc (.cells #[.int .i64 par, .string tag, .string id, .slice pc cls.length cc, .slice pa na ca] 44)).alloc (.cells #[.slice none 0 0] 31)).alloc (.cells #[.string id] 9)).alloc (.cells #[.string tag] 9)).alloc (.cells #[.slice (some ⟨w.heap.size + 1 + 1, 0, none⟩) 1 1] 41)).alloc (.cells #[.slice pc cls.length cc] 41)) := ((((((Fr.refl (fun _ => False) w).alloc _).alloc _).alloc _).alloc _).alloc _).alloc _
    have hri : StrO (fun k => k = w.heap.size + 1) ((((((w.alloc (.cells #[.int .i64 par, .string tag, .string id, .slice pc cls.length cc, .slice pa na ca] 44)).alloc (.cells #[.slice none 0 0] 31)).alloc (.cells #[.string id] 9)).alloc (.cells #[.string tag] 9)).alloc (.cells #[.slice (some ⟨w.heap.size + 1 + 1, 0, none⟩) 1 1] 41)).alloc (.cells #[.slice pc cls.length cc] 41)) (.slice (some ⟨w.heap.size + 1 + 1, 0, none⟩) 1 1) [id] := ⟨some ⟨w.heap.size + 1 + 1, 0, none⟩, 1, rfl, by unfold maxLen; simp, fun i x hx => by
      have h0 : i = 0 ∧ x = id := by
        cases i with
        | zero => simp at hx; exact ⟨rfl, hx.symm⟩
        | succ i => simp at hx
      obtain ⟨rfl, rfl⟩ := h0
      have hx2 := heapNew ((w.alloc (.cells #[.int .i64 par, .string tag, .string x, .slice pc cls.length cc, .slice pa na ca] 44)).alloc (.cells #[.slice none 0 0] 31)) (.cells #[.string x] 9)
      rw [World.size_alloc, World.size_alloc] at hx2
      have hx3 := heapAlloc (o' := .cells #[.slice pc cls.length cc] 41) (heapAlloc (o' := .cells #[.slice (some ⟨w.heap.size + 1 + 1, 0, none⟩) 1 1] 41) (heapAlloc (o' := .cells #[.string tag] 9) hx2))
      exact ⟨hid, _, 0, rfl, ltOf hx3, by omega, by rw [cellOf hx3]; rfl⟩⟩
    have hrc : StrO (fun k => k = w.heap.size + 1) ((((((w.alloc (.cells #[.int .i64 par, .string tag, .string id, .slice pc cls.length cc, .slice pa na ca] 44)).alloc (.cells #[.slice none 0 0] 31)).alloc (.cells #[.string id] 9)).alloc (.cells #[.string tag] 9)).alloc (.cells #[.slice (some ⟨w.heap.size + 1 + 1, 0, none⟩) 1 1] 41)).alloc (.cells #[.slice pc cls.length cc] 41)) (.slice pc cls.length cc) cls := by
      obtain ⟨p, c, e, hm, h1⟩ := hc
      refine ⟨p, c, e, hm, fun i x hx => ?_⟩
      obtain ⟨h0, g, off, hp, hg, hn, hcl⟩ := h1 i x hx
      exact ⟨h0, g, off, hp, Nat.lt_of_lt_of_le hg f0.size, by omega, (f0.cell (p := ⟨g, off + i, none⟩) hg (by simp)).trans hcl⟩
    generalize (((((w.alloc (.cells #[.int .i64 par, .string tag, .string id, .slice pc cls.length cc, .slice pa na ca] 44)).alloc (.cells #[.slice none 0 0] 31)).alloc (.cells #[.string id] 9)).alloc (.cells #[.string tag] 9)).alloc (.cells #[.slice (some ⟨w.heap.size + 1 + 1, 0, none⟩) 1 1] 41)).alloc (.cells #[.slice pc cls.length cc] 41) = wl at *
    have hl1 := ltOf b3
    refine wpIn_rangeFunc_set rfl (by omega) (gf := 43) (lb := #[.pointer (some ⟨w.heap.size + 1 + 1 + 1, 0, none⟩), .pointer (some ⟨w.heap.size + 1 + 1 + 1 + 1, 0, none⟩), .pointer (some ⟨w.heap.size + 1 + 1 + 1 + 1 + 1, 0, none⟩)]) rfl trivial (enters_of Try.func43 (by kernel_rfl) rfl)
      (hs_stops (w.heap.size + 1 + 1 + 1) (w.heap.size + 1 + 1 + 1 + 1) (w.heap.size + 1 + 1 + 1 + 1 + 1) tag (.slice (some ⟨w.heap.size + 1 + 1, 0, none⟩) 1 1) (.slice pc cls.length cc) [id] cls ht (by simp) hl (6 - 1) (by omega)) (fun _ => rfl)
      (OW w (w.heap.size + 1)) (fun _ _ _ _ => False) (fun k => k = w.heap.size + 1)
      (fun W1 S f hS => ⟨f.heap b1 (by simp), f.heap b2 (by simp), f.heap b3 (by simp), hri.step (f.mono (fun _ _ e => e.elim)) hS, hrc.step (f.mono (fun _ _ e => e.elim)) hS, fun k hk => by rcases hS k hk with e | e <;> omega⟩)
      (fun pre S W1 W2 h f => h.keep (R := fun k => False ∨ wl.heap.size ≤ k) (fun k e => by rcases e with e | e; exact e.elim; omega) f)
      (fun _ _ _ _ _ h _ => h) (fun pre S W1 h => h.lt)
      ⟨by omega, ⟨none, 0, bO, OwnsWin.nil _ _ _ _, fun k => by simp [Value.ownBlock]⟩, f0⟩
      (fun x => { tmps := #[.agg #[.int .i64 par, .string tag, .string id, .slice pc cls.length cc, .slice pa na ca], .pointer (some ⟨w.heap.size, 0, none⟩), .slice none 0 0, .slice (some ⟨w.heap.size + 1 + 1, 0, none⟩) 1 1, .pointer (some ⟨w.heap.size + 1, 0, none⟩), .int .i64 (x : Int), .pointer (some ⟨w.heap.size, 2, none⟩), .string id, .bool true, .pointer (some ⟨w.heap.size, 2, none⟩), .string id, .slice (some ⟨w.heap.size + 1 + 1, 0, none⟩) 1 1, .pointer (some ⟨w.heap.size, 1, none⟩), .string tag, .slice (some ⟨w.heap.size + 1 + 1, 0, none⟩) 1 1, .pointer (some ⟨w.heap.size, 3, none⟩), .slice pc cls.length cc, .func (.func 43) #[] #[.pointer (some ⟨w.heap.size + 1 + 1 + 1, 0, none⟩), .pointer (some ⟨w.heap.size + 1 + 1 + 1 + 1, 0, none⟩), .pointer (some ⟨w.heap.size + 1 + 1 + 1 + 1 + 1, 0, none⟩)], .int .i64 (x : Int), undef, undef, undef, undef, undef], defers := [] }) ?assign ?body ?done ?stop
    case assign =>
      intro l x W K hK
      gi_wp2
      exact hK
    case body =>
      rintro l pre x S W ⟨hge, ⟨sp, c, h1, h2, h3⟩, hf⟩ hlen
      have c4 := cellOf h1 0
      have z4 := frozenOf h1 0
      simp at c4
      have nb := h2.ne h1 (by intro c; simp)
      have hsz := hf.size
      have H1 := Lib.hid h1
      have H3 := Lib.hid h3
      clear h1 h3
      gi_wp2_with (gi_at_builtin; refine wpListIn_append_src _ rfl (.tmp 19) (.tmp 21) 31 rfl w.heap.size 3 i3 _ 1 8 Try.underlying31 hb0 hb1 hb2 hb3 rfl (by decide) (.slice sp pre.length c) pre.length _ rfl (h2.fr ((Fr.refl (fun _ => False) _).alloc _) (by simp)) (some ⟨_, 0, none⟩) 1 1 [.int .i64 (x : Int)] rfl (SrcW.one (heapNew _ _) rfl) (by simp [Value.oneCell']) (by unfold maxLen; omega) (by omega) (by rw [World.size_alloc]; omega) ?_; intro sp4 c4' w4 hown hgrow hsh; have hb4 := heapGrown hgrow (heapAlloc H1.out) nb; have r4c := cellOf hb4 0; have r4f := frozenOf hb4 0; simp at r4c; have HA := Lib.hid (OW.step hge hf H1.out h2 H3.out hown hgrow hsh); clear hown hgrow hsh hb4)
      exact HA.out
    case done =>
      rintro D ys S W hD hSD rfl ⟨hge, ⟨sp, c, h1, h2, h3⟩, hf⟩ hK
      have hc := cellOf h1 0
      simp at hc
      gi_wp2
      refine ⟨by simp, .inl ⟨_, _, rfl, run_takeDeferred hK, ?_⟩⟩
      have fK : Fr (fun k => k = D) W (W.putObj D (.deferred none)) := (Fr.refl (fun k => k = D) W).putObj (.inl rfl) _
      refine ⟨_, results_tmp rfl _ _ _, sp, c, rfl, h2.fr fK (fun k a e => hSD ((h3 D).2 (.inr (by subst e; exact a)))), hf.step fK (fun i e => .inr (by omega))⟩
    case stop =>
      rintro D c pre S W _ _ _ h _
      exact h.elim
end Go.Proofs.Ytfhojfndccelfaa
