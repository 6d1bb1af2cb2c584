/- Prepare: the walk. -/
import Derived.Test.YtfgmhpdhgepalaaDoorPoints
namespace Go.Proofs.YtfgmhpdhgepalaaDoor
open Go.RowKit Go.Shelf

attribute [local go_sem] Oper.semAt_some

/-- One code point more, prepared: what came, and the last one. -/
def prS (s : List Nat × Nat) (x : Nat) : List Nat × Nat :=
  (if x = 10 ∧ s.2 = 13 then s.1 else if x = 13 ∨ x = 12 then s.1 ++ [10] else if x = 0 then s.1 ++ [65533] else s.1 ++ [x], x)
def prepS (l : List Nat) : List Nat × Nat := l.foldl prS ([], 0)
def prep (l : List Nat) : List Nat := (prepS (pts l)).1
theorem prepS_snoc (l : List Nat) (x : Nat) : prepS (l ++ [x]) = prS (prepS l) x := by unfold prepS; rw [List.foldl_append]; rfl
theorem prS_len (s : List Nat × Nat) (x : Nat) : (prS s x).1.length ≤ s.1.length + 1 := by
  unfold prS
  simp only
  split
  · omega
  split
  · simp
  split <;> simp
theorem prepF_len : ∀ (l : List Nat) (s : List Nat × Nat), (l.foldl prS s).1.length ≤ s.1.length + l.length
  | [], s => by simp
  | x :: r, s => by
    have h1 := prepF_len r (prS s x)
    have h2 := prS_len s x
    simp only [List.foldl_cons, List.length_cons]
    omega
theorem prepS_len (l : List Nat) : (prepS l).1.length ≤ l.length := by have := prepF_len l ([], 0); simpa [prepS] using this

theorem AW.stepT {w W w4 : World} {T : Nat → Prop} {l : List Nat} {sp : Option Addr} {c : Nat} {Y : Obj} {v : Value} (ht : ∀ k, T k → w.heap.size < k ∧ k < W.heap.size) (hd : ∀ k, T k → (Value.slice sp l.length c).ownBlock ≠ some k) (hgrow : (W.alloc Y).grownBy w4 (Value.slice sp l.length c).ownBlock) {k : Nat} (hk : T k) :
    (w4.setCell ⟨w.heap.size, 0, none⟩ v).heap[k]? = W.heap[k]? := by
  have h1 := (ht k hk).1
  have h2 := (ht k hk).2
  rw [heapSetOther 0 v (by omega)]
  exact (hgrow.block k (by simp; omega) (fun e => hd k hk e.symm)).trans (Below.heap_alloc _ _ _ h2)

/-- Between two rounds of Prepare. -/
def PW (w : World) (pre : List Nat) (S : Nat → Prop) (W : World) : Prop := AW w (fun k => k = w.heap.size + 1) (prepS pre).1 S W ∧ W.heap[w.heap.size + 1]? = some (.cells #[.int .i64 ((prepS pre).2 : Int)] 3 (0, 0))
theorem PW.keep {w : World} {pre : List Nat} {S : Nat → Prop} {W1 W2 : World} {R : Nat → Prop} (h : PW w pre S W1) (hR : ∀ k, R k → w.heap.size ≤ k) (f : Fr (fun k => R k ∧ ¬ S k) W1 W2) : PW w pre S W2 := by
  refine ⟨h.1.keep hR f, f.heap h.2 (fun e => e.2 ?_)⟩
  obtain ⟨⟨sp, c, h1, h2, hd, h3⟩, hf, ht⟩ := h.1
  exact (h3 _).2 (.inr (.inl rfl))
/-- The round's end: the last code point is kept. -/
theorem PW.fin {w W W1 : World} {pre : List Nat} {x : Nat} {S S1 : Nat → Prop} (hA : AW w (fun k => k = w.heap.size + 1) (prS (prepS pre) x).1 S1 W1) (hf : Fr S W W1) (hS : ∀ k, S1 k → S k ∨ W.heap.size ≤ k) (hST : S (w.heap.size + 1)) {v : Value} (hb : W1.heap[w.heap.size + 1]? = some (.cells #[v] 3 (0, 0))) :
    ∃ S', PW w (pre ++ [x]) S' (W1.setCell ⟨w.heap.size + 1, 0, none⟩ (.int .i64 (x : Int))) ∧ Fr S W (W1.setCell ⟨w.heap.size + 1, 0, none⟩ (.int .i64 (x : Int))) ∧ ∀ k, S' k → S k ∨ W.heap.size ≤ k := by
  obtain ⟨a, b⟩ := hA.setT (b := w.heap.size + 1) rfl (.int .i64 (x : Int))
  refine ⟨S1, ⟨?_, ?_⟩, hf.setCell (.inl hST) _, hS⟩
  · rw [prepS_snoc]; exact a
  · rw [prepS_snoc]; simpa [prS] using heapSet hb 0 (.int .i64 (x : Int))

set_option maxRecDepth 100000 in
set_option maxHeartbeats 4000000 in
theorem Prepare_any (w : World) (p : Option Addr) (c : Nat) (l : List Nat) (hT : Tabs w) (hb : ∀ x ∈ l, x < 256) (hr : RdB w p l) (hc : l.length ≤ c) (hm : c ≤ maxLen) (hl : l.length ≤ 100000) :
    Calls Tryd.prog 15 #[.slice p l.length c] w (NewN w (prep l)) := by
  have HB := Lib.hid hb
  have HR := Lib.hid hr
  have HT := Lib.hid hT
  clear hb hr hT
  obtain ⟨i27, hb0, hb1, hb2, hb3⟩ := info_parts info3
  refine (callsIn_wide (n := 6)).1 ?_
  refine callsIn_of_wp_marks Tryd.func15 rfl trivial ?_ rfl
  simp only [Tryd.ntmps15, List.size_toArray, List.length_cons, List.length_nil, Nat.reduceAdd, Nat.reduceSub, Array.replicate_succ, Array.replicate_zero, List.push_toArray, List.append_toArray, List.nil_append, List.cons_append]
  gi_wp2_with ((refine ⟨trivial, ?_⟩; gi_at_call 21; refine (callsIn_wide.2 (each_in _ _ _ _)).mono ?_; rintro e w' ⟨rfl, rfl⟩))
  have bO := heapAlloc (o' := .cells #[.slice p l.length c] 22) (heapAlloc (o' := .cells #[.int .i64 0] 3) (heapNew w (.cells #[.slice none 0 0] 25)))
  have bL : (((w.alloc (.cells #[.slice none 0 0] 25)).alloc (.cells #[.int .i64 0] 3)).alloc (.cells #[.slice p l.length c] 22)).heap[w.heap.size + 1]? = some (.cells #[.int .i64 0] 3 (0, 0)) := by
    have := heapNew (w.alloc (.cells #[.slice none 0 0] 25)) (.cells #[.int .i64 0] 3)
    rw [World.size_alloc] at this
    exact heapAlloc this
  have bT : (((w.alloc (.cells #[.slice none 0 0] 25)).alloc (.cells #[.int .i64 0] 3)).alloc (.cells #[.slice p l.length c] 22)).heap[w.heap.size + 1 + 1]? = some (.cells #[.slice p l.length c] 22 (0, 0)) := by
    have := heapNew ((w.alloc (.cells #[.slice none 0 0] 25)).alloc (.cells #[.int .i64 0] 3)) (.cells #[.slice p l.length c] 22)
    rwa [World.size_alloc, World.size_alloc] at this
  have f0 := (((Fr.refl (fun _ => False) w).alloc (.cells #[.slice none 0 0] 25)).alloc (.cells #[.int .i64 0] 3)).alloc (.cells #[.slice p l.length c] 22)
  generalize (((w.alloc (.cells #[.slice none 0 0] 25)).alloc (.cells #[.int .i64 0] 3)).alloc (.cells #[.slice p l.length c] 22)) = wl at *
  have hl1 := ltOf bT
  refine wpIn_rangeFunc_set rfl (by omega) (gf := 25) (lb := #[.pointer (some ⟨w.heap.size + 1 + 1, 0, none⟩)]) rfl trivial (enters_of Tryd.func25 (by kernel_rfl) rfl)
    (each_stops w (w.heap.size + 1 + 1) p c l HT.out HB.out HR.out hc hm (by omega) (6 - 1) (by omega)) (fun _ => rfl)
    (PW w) (fun _ _ _ _ => False) (fun k => k = w.heap.size ∨ k = w.heap.size + 1)
    (fun W1 S f hS => ⟨f0.trans f, f.heap bT (by simp), fun k hk => by rcases hS k hk with e | e <;> omega⟩)
    (fun pre S W1 W2 h f => h.keep (R := fun k => k = w.heap.size + 1 + 1 ∨ wl.heap.size ≤ k) (fun k e => by omega) f)
    (fun _ _ _ _ _ h _ => h) (fun pre S W1 h => h.1.lt)
    ⟨⟨⟨none, 0, bO, OwnsWin.nil _ _ _ _, fun k _ h => by simp [Value.ownBlock] at h, fun k => by simp [Value.ownBlock]⟩, f0, fun k h => by omega⟩, bL⟩
    (fun x => { tmps := #[.slice p l.length c, undef, .slice none 0 0, .pointer (some ⟨w.heap.size, 0, none⟩), .pointer (some ⟨w.heap.size + 1, 0, none⟩), .int .i64 (x : Int), .slice p l.length c, .func (.func 25) #[] #[.pointer (some ⟨w.heap.size + 1 + 1, 0, none⟩)], .int .i64 (x : Int), undef, undef, undef, undef, undef, undef, undef, undef, undef, undef, undef, undef, undef, undef, undef, undef, undef, undef, undef, undef, undef, undef, undef, undef, undef, undef, undef, undef, undef], defers := [] }) ?assign ?body ?done ?stop
  case assign =>
    intro l x W K hK
    gi_wp2
    exact hK
  case body =>
    rintro l pre x S W ⟨hA, hLB⟩ hlen
    obtain ⟨⟨sp, c, h1, h2, hd, h3⟩, hf, ht⟩ := id hA
    have hpl := prepS_len pre
    have c4 := cellOf h1 0
    have z4 := frozenOf h1 0
    have c5 := cellOf hLB 0
    have z5 := frozenOf hLB 0
    simp at c4 c5
    have nb := h2.ne h1 (by intro c; simp)
    have hsz := hf.size
    have H1 := Lib.hid h1
    have HLB := Lib.hid hLB
    have H3 := Lib.hid h3
    have HD := Lib.hid hd
    have HTL := Lib.hid ht
    have HAA := Lib.hid hA
    have HST : S (w.heap.size + 1) := (h3 _).2 (.inr (.inl rfl))
    have HSH := Lib.hid HST
    have PS := Lib.hid (show prS (prepS pre) x = prS (prepS pre) x from rfl)
    clear h1 h3 hd ht hA hLB HST PS
    obtain ⟨o, ho⟩ : ∃ o, o = (prepS pre).1 := ⟨_, rfl⟩
    obtain ⟨la, hla⟩ : ∃ la, la = (prepS pre).2 := ⟨_, rfl⟩
    have HO := Lib.hid ho
    have HLA := Lib.hid hla
    rw [← ho] at h2 c4 nb H1 H3 HD HAA hpl
    rw [← hla] at c5 HLB
    clear ho hla
    by_cases k1 : x = 10 ∧ la = 13
    · obtain ⟨rfl, rfl⟩ := k1
      have HV := Lib.hid (show (prS (prepS pre) 10).1 = o by unfold prS; simp only; rw [← HLA.out, if_pos (by simp), HO.out])
      gi_wp2
      refine PW.fin (by rw [HV.out]; exact HAA.out) (Fr.refl _ _) (fun k h => .inl h) HSH.out HLB.out
    · have HV1 := Lib.hid k1
      have kb : (((x : Int) == 10) = false) ∨ (((x : Int) == 10) = true ∧ ((la : Int) == 13) = false) := by
        rcases Classical.em (x = 10) with e | e
        · exact .inr ⟨by simp [e], by rw [beq_eq_false_iff_ne]; intro e2; exact k1 ⟨e, by omega⟩⟩
        · exact .inl (by rw [beq_eq_false_iff_ne]; omega)
      clear k1
      by_cases k2 : x = 13 ∨ x = 12
      · have HV := Lib.hid (show (prS (prepS pre) x).1 = o ++ [10] by unfold prS; simp only; rw [← HLA.out, if_neg HV1.out, if_pos k2, HO.out])
        have kc : ((x : Int) == 10) = false := by rw [beq_eq_false_iff_ne]; omega
        have kd : (((x : Int) == 13) = true) ∨ (((x : Int) == 13) = false ∧ ((x : Int) == 12) = true) := by
          rcases k2 with e | e
          · exact .inl (by simp [e])
          · exact .inr ⟨by simp [e], by simp [e]⟩
        clear kb k2
        rcases kd with kd | ⟨kd, ke⟩
        all_goals
          gi_wp2_with (gi_at_builtin; refine wpListIn_append_src _ rfl (.tmp 27) (.tmp 28) 25 rfl w.heap.size 3 i27 _ 1 8 Tryd.underlying25 hb0 hb1 hb2 hb3 rfl (by decide) (.slice sp o.length c) o.length _ rfl (h2.fr ((Fr.refl (fun _ => False) _).alloc _) (by simp)) (some ⟨_, 0, none⟩) 1 1 [.int .i64 10] rfl (Src.one (heapNew _ _) rfl) (by simp [Value.oneCell']) (by unfold maxLen; omega) (by omega) (by rw [World.size_alloc]; omega) ?_; intro sp4 c4' w4 hown hgrow hsh; have hb4 := heapGrown hgrow (heapAlloc H1.out) nb; have r4c := cellOf hb4 0; have r4f := frozenOf hb4 0; simp at r4c; have HA := Lib.hid (AW.step (x := 10) hf HTL.out H1.out h2 HD.out H3.out hown hgrow hsh); have HL5 := Lib.hid ((AW.stepT (w := w) (v := .slice sp4 (o.length + 1) c4') HTL.out HD.out hgrow rfl).trans HLB.out); have l5c := cellOf HL5.out 0; have l5f := frozenOf HL5.out 0; simp at l5c; clear hown hgrow hsh hb4)
          obtain ⟨S1, a1, a2, a3⟩ := HA.out
          exact PW.fin (by rw [HV.out]; exact a1) a2 a3 HSH.out HL5.out
      · have kd : ((x : Int) == 13) = false := by rw [beq_eq_false_iff_ne]; omega
        have ke : ((x : Int) == 12) = false := by rw [beq_eq_false_iff_ne]; omega
        by_cases k3 : x = 0
        · subst k3
          have HV := Lib.hid (show (prS (prepS pre) 0).1 = o ++ [65533] by unfold prS; simp only; rw [← HLA.out, if_neg HV1.out, if_neg k2, if_pos trivial, HO.out])
          clear k2 kd ke
          rcases kb with kb | ⟨kb, kb2⟩
          all_goals
            gi_wp2_with (gi_at_builtin; refine wpListIn_append_src _ rfl (.tmp 33) (.tmp 34) 25 rfl w.heap.size 3 i27 _ 1 8 Tryd.underlying25 hb0 hb1 hb2 hb3 rfl (by decide) (.slice sp o.length c) o.length _ rfl (h2.fr ((Fr.refl (fun _ => False) _).alloc _) (by simp)) (some ⟨_, 0, none⟩) 1 1 [.int .i64 65533] rfl (Src.one (heapNew _ _) rfl) (by simp [Value.oneCell']) (by unfold maxLen; omega) (by omega) (by rw [World.size_alloc]; omega) ?_; intro sp4 c4' w4 hown hgrow hsh; have hb4 := heapGrown hgrow (heapAlloc H1.out) nb; have r4c := cellOf hb4 0; have r4f := frozenOf hb4 0; simp at r4c; have HA := Lib.hid (AW.step (x := 65533) hf HTL.out H1.out h2 HD.out H3.out hown hgrow hsh); have HL5 := Lib.hid ((AW.stepT (w := w) (v := .slice sp4 (o.length + 1) c4') HTL.out HD.out hgrow rfl).trans HLB.out); have l5c := cellOf HL5.out 0; have l5f := frozenOf HL5.out 0; simp at l5c; clear hown hgrow hsh hb4)
            obtain ⟨S1, a1, a2, a3⟩ := HA.out
            exact PW.fin (by rw [HV.out]; exact a1) a2 a3 HSH.out HL5.out
        · have kf : ((x : Int) == 0) = false := by rw [beq_eq_false_iff_ne]; omega
          have HV := Lib.hid (show (prS (prepS pre) x).1 = o ++ [x] by unfold prS; simp only; rw [← HLA.out, if_neg HV1.out, if_neg k2, if_neg k3, HO.out])
          clear k2 k3
          rcases kb with kb | ⟨kb, kb2⟩
          all_goals
            gi_wp2_with (gi_at_builtin; refine wpListIn_append_src _ rfl (.tmp 9) (.tmp 11) 25 rfl w.heap.size 3 i27 _ 1 8 Tryd.underlying25 hb0 hb1 hb2 hb3 rfl (by decide) (.slice sp o.length c) o.length _ rfl (h2.fr ((Fr.refl (fun _ => False) _).alloc _) (by simp)) (some ⟨_, 0, none⟩) 1 1 [.int .i64 (x : Int)] rfl (Src.one (heapNew _ _) rfl) (by simp [Value.oneCell']) (by unfold maxLen; omega) (by omega) (by rw [World.size_alloc]; omega) ?_; intro sp4 c4' w4 hown hgrow hsh; have hb4 := heapGrown hgrow (heapAlloc H1.out) nb; have r4c := cellOf hb4 0; have r4f := frozenOf hb4 0; simp at r4c; have HA := Lib.hid (AW.step (x := x) hf HTL.out H1.out h2 HD.out H3.out hown hgrow hsh); have HL5 := Lib.hid ((AW.stepT (w := w) (v := .slice sp4 (o.length + 1) c4') HTL.out HD.out hgrow rfl).trans HLB.out); have l5c := cellOf HL5.out 0; have l5f := frozenOf HL5.out 0; simp at l5c; clear hown hgrow hsh hb4)
            obtain ⟨S1, a1, a2, a3⟩ := HA.out
            exact PW.fin (by rw [HV.out]; exact a1) a2 a3 HSH.out HL5.out
  case done =>
    rintro D ys S W hD hSD rfl ⟨⟨⟨sp, c, h1, h2, hd, h3⟩, hf, ht⟩, -⟩ hK
    have hc := cellOf h1 0
    simp at hc
    unfold prep
    gi_wp2
    refine ⟨by simp, .inl ⟨_, _, rfl, run_takeDeferred hK, ?_⟩⟩
    have fK : Fr (fun k => k = D) W (W.putObj D (.deferred none)) := (Fr.refl (fun k => k = D) W).putObj (.inl rfl) _
    refine ⟨_, results_tmp rfl _ _ _, sp, c, rfl, h2.fr fK (fun k a e => hSD ((h3 D).2 (.inr (.inr (by subst e; exact a))))), hf.step fK (fun i e => .inr (by omega))⟩
  case stop =>
    rintro D c pre S W _ _ _ h _
    exact h.elim
end Go.Proofs.YtfgmhpdhgepalaaDoor
