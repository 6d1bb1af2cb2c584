/- gen.Nodes: the walk. -/
import Derived.Test.YtdjdpfmogphoiaaNodesG
namespace Go.Proofs.Ytdjdpfmogphoiaa
open Go.RowKit Go.Shelf

attribute [local go_sem] Oper.semAt_some
attribute [-go_sem] Builtin.append_

theorem rowLower {w : World} {base base' e size n : Nat} {v : Value} {xs : List Value} (h : w.ownsRow base' e size v n xs) (hb : base ≤ base') : w.ownsRow base e size v n xs := by
  refine ⟨h.1, ?_⟩
  rcases h.2 with h | ⟨g, cap, cur, h1, h2, h3⟩
  · exact .inl h
  · exact .inr ⟨g, cap, cur, h1, Nat.le_trans hb h2, h3⟩
theorem IsAtt.lower {w : World} {base base' : Nat} {v : Value} {l : List (ByteArray × ByteArray)} (h : IsAtt base' w v l) (hb : base ≤ base') : IsAtt base w v l := by
  rcases h with h | ⟨a, t, g, h1, h2, h3, h4⟩
  · exact .inl h
  · exact .inr ⟨a, t, g, h1, h2, Nat.le_trans hb h3, h4⟩
theorem IsAtt.one {w : World} {base : Nat} {v : Value} {l : List (ByteArray × ByteArray)} (h : IsAtt base w v l) : v.oneCell' = true := by
  rcases h with ⟨_, rfl⟩ | ⟨a, t, g, _, rfl, _⟩ <;> rfl

/-- The append of a node more. -/
theorem nodes_append (w6 : World) (base : Nat) (hb : base ≤ w6.heap.size) (sp0 : Option Addr) (n c0 : Nat) (xs : List Value) (hrow : w6.ownsRow base 47 5 (.slice sp0 n c0) n xs) (hn : n ≤ 5000) (v0 v1 v2 v3 v4 : Value) (hv : ∀ u ∈ [v0, v1, v2, v3, v4], u.oneCell' = true) :
    ∃ sp c w7, (Builtin.append_ #[30, 30] 30 #[.slice sp0 n c0, .slice (some ⟨w6.heap.size, 0, none⟩) 1 1]).run Try.prog (w6.alloc (.cells #[v0, v1, v2, v3, v4] 47)) = .ok (.slice sp (n + 1) c) w7 ∧
      w7.ownsRow base 47 5 (.slice sp (n + 1) c) (n + 1) (xs ++ [v0, v1, v2, v3, v4]) ∧ (w6.alloc (.cells #[v0, v1, v2, v3, v4] 47)).grownBy w7 (Value.slice sp0 n c0).ownBlock := by
  obtain ⟨i0, hi, hz0, hz1, hz2⟩ := info_parts info47
  obtain ⟨v', w', h1, h2, h3, _, _⟩ := run_append_own_at (P := Try.prog) (w := w6.alloc (.cells #[v0, v1, v2, v3, v4] 47)) base 30 30 47 i0 _ 5 88 Try.underlying30 hi hz0 hz1 hz2 rfl (by omega) (.slice sp0 n c0) n xs (ownsRow.fr hrow ((Fr.refl (fun _ => False) w6).alloc _) (by simp)) ⟨w6.heap.size, 0, none⟩ 1 1 [v0, v1, v2, v3, v4] rfl (news_new w6 _ 47) hv (by unfold maxLen; omega) (by omega) (by simp; omega)
  obtain ⟨sp, c, rfl⟩ := ownsRow.shape h2
  exact ⟨sp, c, w', h1, h2, h3⟩

/-- What a round leaves. -/
theorem PN.step {w W w6 w7 : World} {s : Int} {pre : List Nid} {x : Nid} {B : Nat} {sp0 sp : Option Addr} {c0 c : Nat} {xs cs : List Value} {X : Obj} (h : PN w s pre W) (h4 : Boxed W (w.heap.size + 2) 30 (.slice sp0 pre.length c0)) (h5 : W.ownsRow w.heap.size 47 5 (.slice sp0 pre.length c0) pre.length xs) (h5a : NL w.heap.size W xs (gRun s (pre.map (·.1))).1)
    (hl6 : IsLot 49 w6 w.heap.size (gSt (gRun s (pre.map (·.1))).2 x.1)) (f6 : Fr (fun k => k = w.heap.size) W.drew w6) (hd : IsNd w.heap.size w6 cs (gNode (gRun s (pre.map (·.1))).2 x.1))
    (hown : w7.ownsRow w.heap.size 47 5 (.slice sp (pre.length + 1) c) (pre.length + 1) (xs ++ cs)) (hgrow : (w6.alloc X).grownBy w7 (Value.slice sp0 pre.length c0).ownBlock) :
    KeepsFrom B W (w7.setCell ⟨w.heap.size + 2, 0, none⟩ (.slice sp (pre.length + 1) c)) ∧ Kp1 (w.heap.size + 1 + 1 + 1) W (w7.setCell ⟨w.heap.size + 2, 0, none⟩ (.slice sp (pre.length + 1) c)) ∧ PN w s (pre ++ [x]) (w7.setCell ⟨w.heap.size + 2, 0, none⟩ (.slice sp (pre.length + 1) c)) := by
  obtain ⟨h1, h3, _, h6, h7, N, h8⟩ := h
  have n1 := ownsRow.ne h5 h1 (by intro c; simp)
  have n3 := ownsRow.ne h5 h3 (by intro c; simp)
  have n4 := ownsRow.ne h5 h4 (by intro c; simp)
  have n8 := ownsRow.ne h5 h8 (by intro c; simp)
  have hown0 : ∀ j, (Value.slice sp0 pre.length c0).ownBlock = some j → ∃ cur, W.heap[j]? = some (.cells cur 47 (0, 0)) := by
    intro j hj
    rcases h5.2 with ⟨h, _⟩ | ⟨g, cap, cur, h, _, hg, _⟩
    · rw [h] at hj; simp [Value.ownBlock] at hj
    · rw [h] at hj
      simp [Value.ownBlock] at hj
      subst hj
      exact ⟨_, hg⟩
  obtain ⟨S, hS⟩ : ∃ S : Nat → Prop, S = fun k => k = w.heap.size ∨ k = w.heap.size + 2 ∨ (Value.slice sp0 pre.length c0).ownBlock = some k := ⟨_, rfl⟩
  have hST : ∀ k, S k → ∃ c t z, W.heap[k]? = some (.cells c t z) ∧ t ≠ 9 ∧ t ≠ 60 := by
    intro k e
    rw [hS] at e
    rcases e with rfl | rfl | e
    · exact ⟨_, _, _, h1, by decide, by decide⟩
    · exact ⟨_, _, _, h4, by decide, by decide⟩
    · obtain ⟨cur, hc⟩ := hown0 k e
      exact ⟨_, _, _, hc, by decide, by decide⟩
  have g1 : Fr S W w6 := ((Fr.refl S W).drew).step f6 (fun k e => by rw [hS]; exact .inl (.inl e))
  have g4 : Fr S W w7 := (g1.alloc X).grown hgrow (fun k e => by rw [hS]; exact .inl (.inr (.inr e)))
  have g5 : Fr S W (w7.setCell ⟨w.heap.size + 2, 0, none⟩ (.slice sp (pre.length + 1) c)) := g4.setCell (p := ⟨w.heap.size + 2, 0, none⟩) (.inl (by rw [hS]; exact .inr (.inl rfl))) _
  have b6 : Boxed w6 (w.heap.size + 2) 30 (.slice sp0 pre.length c0) := f6.heap (heapDrew h4) (by omega)
  have b7 : Boxed w7 (w.heap.size + 2) 30 (.slice sp0 pre.length c0) := heapGrown hgrow (heapAlloc b6) n4
  have n7 := ownsRow.ne hown b7 (by intro c; simp)
  have hrow6 := ownsRow.fr (ownsRow_drew h5) f6 (fun j hj e => n1 (by subst e; exact hj.symm))
  -- the last steps' frame, for the new node
  obtain ⟨T, hT⟩ : ∃ T : Nat → Prop, T = fun k => k = w.heap.size + 2 ∨ (Value.slice sp0 pre.length c0).ownBlock = some k := ⟨_, rfl⟩
  have t7 : Fr T w6 (w7.setCell ⟨w.heap.size + 2, 0, none⟩ (.slice sp (pre.length + 1) c)) := (((Fr.refl T w6).alloc X).grown hgrow (fun k e => by rw [hT]; exact .inl (.inr e))).setCell (p := ⟨w.heap.size + 2, 0, none⟩) (.inl (by rw [hT]; exact .inl rfl)) _
  have hTT : ∀ k, T k → ∃ c t z, w6.heap[k]? = some (.cells c t z) ∧ t ≠ 9 ∧ t ≠ 60 := by
    intro k e
    rw [hT] at e
    rcases e with rfl | e
    · exact ⟨_, _, _, b6, by decide, by decide⟩
    · rcases hrow6.2 with ⟨h, _⟩ | ⟨g, cap, cur, h, _, hg, _⟩
      · rw [h] at e; simp [Value.ownBlock] at e
      · rw [h] at e
        simp [Value.ownBlock] at e
        subst e
        exact ⟨_, _, _, hg, by decide, by decide⟩
  have hmap : (pre ++ [x]).map (·.1) = pre.map (·.1) ++ [x.1] := by simp
  have hl : (pre ++ [x]).length = pre.length + 1 := by simp
  refine ⟨g5.keeps2 (fun k e => by obtain ⟨c', t, z, hh, _⟩ := hST k e; exact ⟨c', t, z, hh⟩), g5.block _ (by omega) (fun e => ?_), ⟨?_, g5.heap h3 (fun e => ?_), ⟨sp, c, xs ++ cs, ?_, ?_, ?_⟩, h6.trans (g5.below h6.size (fun k hk e => ?_)), Nat.lt_of_lt_of_le h7 g5.size, N, g5.heap h8 (fun e => ?_)⟩⟩
  · rw [hS] at e
    rcases e with e | e | e
    · omega
    · omega
    · exact n8 e.symm
  · rw [hmap, gRun_snoc]
    have l7 : IsLot 49 w7 w.heap.size (gSt (gRun s (pre.map (·.1))).2 x.1) := heapGrown hgrow (heapAlloc hl6) n1
    exact (heapSetOther 0 _ (by omega)).trans l7
  · rw [hS] at e
    rcases e with e | e | e
    · omega
    · omega
    · exact n3 e.symm
  · rw [hl]; exact b7.set _
  · rw [hl]
    exact ownsRow.fr hown ((Fr.refl (fun j => j = w.heap.size + 2) w7).setCell (p := ⟨w.heap.size + 2, 0, none⟩) (.inl rfl) _) (fun j hj e => n7 (by subst e; exact hj.symm))
  · rw [hmap, gRun_snoc]
    exact (h5a.keep g5 hST).snoc (hd.keep t7 hTT)
  · rw [hS] at e
    rcases e with e | e | e
    · omega
    · omega
    · have := (h5.lt k e).1; omega
  · rw [hS] at e
    rcases e with e | e | e
    · omega
    · omega
    · exact n8 e.symm

/-- The numbers from 0 on, each with its bound. -/
def nids (n : Nat) : List Nid := (List.range n).map fun k => ⟨min k 4096, Nat.min_le_right _ _⟩
theorem nids_len (n : Nat) : (nids n).length = n := by simp [nids]
theorem nids_val (n : Nat) (h : n ≤ 4096) : (nids n).map (·.1) = List.range n := by
  unfold nids
  rw [List.map_map]
  refine (List.map_congr_left (fun k hk => ?_)).trans (List.map_id _)
  have := List.mem_range.1 hk
  simp only [Function.comp_apply, id_eq]
  omega
theorem nids_at (n : Nat) (h : n ≤ 4096) (i : Nat) (x : Nid) (hx : (nids n)[i]? = some x) : ((x.1 : Nat) : Int) = i := by
  have h1 : ((nids n).map (·.1))[i]? = some x.1 := by rw [List.getElem?_map, hx]; rfl
  rw [nids_val n h, List.getElem?_eq_some_iff] at h1
  obtain ⟨_, h1⟩ := h1
  simp at h1
  omega

set_option maxRecDepth 100000 in
set_option maxHeartbeats 4000000 in
theorem nodes_any (seed n : Int) (w : World) (hn : n ≤ 300) : Calls Try.prog 12 #[.int .i64 seed, .int .i64 n] w fun e w' =>
    (∃ sp c xs, e = .returned (.slice sp n.toNat c) ∧ w'.ownsRow w.heap.size 47 5 (.slice sp n.toNat c) n.toNat xs ∧ NL w.heap.size w' xs (gRun (seedS seed) (List.range n.toNat)).1) ∧ Below w.heap.size w w' := by
  have hN : n.toNat ≤ 300 := by omega
  refine (callsIn_wide (n := 5)).1 ?_
  refine callsIn_of_wp_marks Try.func12 rfl trivial ?_ rfl
  simp only [Try.ntmps12, List.size_toArray, List.length_cons, List.length_nil, Nat.reduceAdd, Nat.reduceSub, Array.replicate_succ, Array.replicate_zero, List.push_toArray, List.append_toArray, List.nil_append, List.cons_append]
  have hlt4 : n < 4096 := by omega
  gi_wp2_with (first
    | (refine ⟨trivial, ?_⟩; gi_at_call 8; refine (callsIn_wide.2 (New_any _ _)).mono ?_; rintro e w' ⟨rfl, rfl⟩)
    | (refine ⟨trivial, ?_⟩; gi_at_call 19; refine (some_in Fence.wide _ trivial rfl _ _).mono ?_; rintro e w' ⟨rfl, rfl⟩))
  have bL : IsLot 49 ((((w.alloc (.cells #[.int .i64 (seedS seed)] 49)).alloc (.cells #[.pointer (some ⟨w.heap.size, 0, none⟩)] 24)).alloc (.cells #[.slice none 0 0] 30)).alloc (.cells #[.int .i64 n] 3)) w.heap.size (seedS seed) := heapAlloc (heapAlloc (heapAlloc (heapNew _ _)))
  have bB : Boxed ((((w.alloc (.cells #[.int .i64 (seedS seed)] 49)).alloc (.cells #[.pointer (some ⟨w.heap.size, 0, none⟩)] 24)).alloc (.cells #[.slice none 0 0] 30)).alloc (.cells #[.int .i64 n] 3)) (w.heap.size + 1) 24 (.pointer (some ⟨w.heap.size, 0, none⟩)) := by
    have := Boxed.new (w.alloc (.cells #[.int .i64 (seedS seed)] 49)) 24 (.pointer (some ⟨w.heap.size, 0, none⟩))
    rw [World.size_alloc] at this
    exact (this.alloc _).alloc _
  have bO : Boxed ((((w.alloc (.cells #[.int .i64 (seedS seed)] 49)).alloc (.cells #[.pointer (some ⟨w.heap.size, 0, none⟩)] 24)).alloc (.cells #[.slice none 0 0] 30)).alloc (.cells #[.int .i64 n] 3)) (w.heap.size + 2) 30 (.slice none 0 0) := by
    have := Boxed.new ((w.alloc (.cells #[.int .i64 (seedS seed)] 49)).alloc (.cells #[.pointer (some ⟨w.heap.size, 0, none⟩)] 24)) 30 (.slice none 0 0)
    rw [World.size_alloc, World.size_alloc] at this
    exact this.alloc _
  have bN : Boxed ((((w.alloc (.cells #[.int .i64 (seedS seed)] 49)).alloc (.cells #[.pointer (some ⟨w.heap.size, 0, none⟩)] 24)).alloc (.cells #[.slice none 0 0] 30)).alloc (.cells #[.int .i64 n] 3)) (w.heap.size + 1 + 1 + 1) 3 (.int .i64 n) := by
    have := Boxed.new (((w.alloc (.cells #[.int .i64 (seedS seed)] 49)).alloc (.cells #[.pointer (some ⟨w.heap.size, 0, none⟩)] 24)).alloc (.cells #[.slice none 0 0] 30)) 3 (.int .i64 n)
    rw [World.size_alloc, World.size_alloc, World.size_alloc] at this
    exact this
  have hB0 : Below w.heap.size w ((((w.alloc (.cells #[.int .i64 (seedS seed)] 49)).alloc (.cells #[.pointer (some ⟨w.heap.size, 0, none⟩)] 24)).alloc (.cells #[.slice none 0 0] 30)).alloc (.cells #[.int .i64 n] 3)) := ((((Below.refl _ w).alloc (Nat.le_refl _) _).alloc (by simp) _).alloc (by simp; omega) _).alloc (by simp; omega) _
  generalize hw0 : ((((w.alloc (.cells #[.int .i64 (seedS seed)] 49)).alloc (.cells #[.pointer (some ⟨w.heap.size, 0, none⟩)] 24)).alloc (.cells #[.slice none 0 0] 30)).alloc (.cells #[.int .i64 n] 3)) = w0 at *
  have hlt := bN.lt
  refine wpIn_rangeFunc_ownG rfl (by omega) (gf := 23) (lb := #[.pointer (some ⟨w.heap.size + 1 + 1 + 1, 0, none⟩)]) rfl trivial (enters_of Try.func23 (by kernel_rfl) rfl)
    (some_stops Fence.wide 4 trivial rfl (by omega) (w.heap.size + 1 + 1 + 1) n (fun k : Nid => (k.1 : Int)) (nids n.toNat) (nids_len _) (by omega) (nids_at _ (by omega)) w0 hlt bN) Kp1.t (Kp1.b hlt) (Below.refl _ _) (fun _ => rfl)
    (PN w (seedS seed)) (fun _ _ _ => False) (PN.own w _ _ hB0.size) (fun _ _ _ _ _ hs _ _ => hs)
    ⟨bL, bB, ⟨none, 0, [], bO, World.ownsRow_nil _ _ _ _, NL.nil _ _⟩, hB0, hlt, n, bN⟩
    (fun x => { tmps := #[Value.int IntKind.i64 seed, Value.int IntKind.i64 n, undef, undef, Value.slice none 0 0, Value.pointer (some { block := w.heap.size + 1, off := 0 }), Value.pointer (some { block := w.heap.size + 1 + 1, off := 0 }), .int .i64 x.1, Value.int IntKind.i64 seed,
          Value.pointer (some { block := w.heap.size, off := 0 }), Value.int IntKind.i64 n, Value.int IntKind.i64 n,
          Value.func (Fn.func 23) #[] #[Value.pointer (some { block := w.heap.size + 1 + 1 + 1, off := 0 })], .int .i64 x.1,
          undef, undef, undef, undef, undef, undef, undef], defers := [] }) ?assign ?body ?done ?stop
  case assign =>
    intro l x W K hK
    gi_wp2
    exact hK
  case body =>
    rintro l pre x W hP hlt1
    rw [nids_len] at hlt1
    have hP' := hP
    obtain ⟨h1, h3, ⟨sp0, c0, xs, h4, h5, h5a⟩, h6, h7, _⟩ := hP'
    have d0 := h3.cell
    have d1 := h4.cell
    have z1 := h4.frozen
    have n1 := ownsRow.ne h5 h1 (by intro c; simp)
    have n4 := ownsRow.ne h5 h4 (by intro c; simp)
    have hpl : pre.length ≤ 5000 := by omega
    obtain ⟨st, hst⟩ : ∃ st, st = (gRun (seedS seed) (pre.map (·.1))).2 := ⟨_, rfl⟩
    obtain ⟨nd, hnd⟩ : ∃ nd, nd = gNode st x.1 := ⟨_, rfl⟩
    have ND : ∀ W, IsLot 49 W w.heap.size st → Calls Try.prog 20 #[.pointer (some ⟨w.heap.size, 0, none⟩), .int .i64 x.1] W fun e w' =>
      ∃ sp c vA, e = .returned (.agg #[.int .i64 nd.par, .string nd.tag, .string nd.id, .slice sp nd.cls.length c, vA]) ∧
        w'.ownsRow W.heap.size 9 1 (.slice sp nd.cls.length c) nd.cls.length (nd.cls.map Value.string) ∧ IsAtt W.heap.size w' vA nd.att ∧ IsLot 49 w' w.heap.size (gSt st x.1) ∧ Fr (fun k => k = w.heap.size) W w' := by
      rw [hnd]
      exact fun W h => node_any w.heap.size st x.1 x.2 W h
    rw [← hst] at h1
    have hm : Try.prog.follows .mixedOrders = true := by kernel_rfl
    have HP := Lib.hid hP
    have HST := Lib.hid hst
    have HND := Lib.hid hnd
    have H5A := Lib.hid h5a
    clear hP hst hnd h5a
    gi_wp2
    gi_region_with_o (refine ⟨trivial, ?_⟩; gi_at_call 20; refine (CallsIn.inRound l (callsIn_wide.2 (ND _ ?_))).mono ?_; exact h1; rintro e w6 ⟨sp1, c1, vA, rfl, nr, na, hl6, f6⟩; have k3 : Boxed w6 (w.heap.size + 2) 30 (.slice sp0 pre.length c0) := f6.heap h4 (by omega); have d2 := k3.cell; have d3 := (k3.alloc (.cells #[.int .i64 nd.par, .string nd.tag, .string nd.id, .slice sp1 nd.cls.length c1, vA] 47)).cell; have hr6 := ownsRow.fr (ownsRow_drew h5) f6 (fun j hj e => n1 (by subst e; exact hj.symm)); obtain ⟨sp, c, w7, hrun, hown, hgrow⟩ := nodes_append w6 w.heap.size (Nat.le_trans h6.size f6.size) sp0 pre.length c0 xs hr6 hpl (.int .i64 nd.par) (.string nd.tag) (.string nd.id) (.slice sp1 nd.cls.length c1) vA (by have := na.one; simp [Value.oneCell'] at this ⊢; exact this); have k4 : Boxed w7 (w.heap.size + 2) 30 (.slice sp0 pre.length c0) := heapGrown hgrow (k3.alloc _) n4; have d4 := k4.cell; have z4 := k4.frozen)
    all_goals
      gi_wp2
      have hst := HST.out
      have hnd := HND.out
      subst hst
      subst hnd
      exact PN.step HP.out h4 h5 H5A.out hl6 f6 ⟨sp1, c1, vA, rfl, rowLower nr h6.size, na.lower h6.size⟩ hown hgrow
  case done =>
    rintro D ys W hD rfl ⟨h1, h3, ⟨sp, c, xs, h4, h5, h5a⟩, h6, h7, _⟩ hK
    have hc := h4.cell
    rw [nids_len] at h5 hc
    rw [nids_val _ (by omega)] at h5a
    gi_wp2
    refine ⟨by simp, .inl ⟨_, _, rfl, run_takeDeferred hK, ?_⟩⟩
    exact ⟨_, results_tmp rfl _ _ _, ⟨sp, c, xs, rfl, ownsRow_putObj h5 _ hK rfl, h5a.kept (grownBy_putObj' W D (.deferred none)) (fun r e => by cases e; exact ⟨hD, _, hK, rfl⟩)⟩, h6.trans (belowK_b (w := w) (Nat.le_refl _) W D _ _ (by have := hB0.size; omega) hK rfl rfl)⟩
  case stop =>
    rintro D c pre W _ _ h _
    exact h.elim
end Go.Proofs.Ytdjdpfmogphoiaa
