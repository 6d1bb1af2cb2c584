/- The contracts of New, of the store and of the reference. -/
import Derived.Test.YtpjijcpbmljanaaSto
namespace Go.Proofs.Ytpjijcpbmljanaa
open Go.RowKit Go.Maps Go.ChangeShapes Go.WideShapes Go.ChangeAt Go.WideMaps Go.WideElems

theorem info50 : (Try.prog.info? 50).map (fun i => (i.zero, i.size, i.bytes)) = some (some (.agg (itemL (fun _ => 0, 0)).toArray), 9, 72) := by kernel_rfl
theorem info52 : (Try.prog.info? 52).map (fun i => (i.zero, i.size, i.bytes)) = some (some (.agg (itemL (fun _ => 0, 0)).toArray), 9, 72) := by kernel_rfl

/-- Block b holds a store of these structs; all of it lies in S. -/
structure IsSto (w : World) (b : Nat) (S : Nat → Prop) (L : List ((Nat → Int) × Int)) (live : Int) : Prop where
  lt : ∀ k, S k → k < w.heap.size
  mem : S b
  body : ∃ sp sc, w.heap[b]? = some (.cells #[.slice sp L.length sc, .int .i64 live] 26 (0, 0)) ∧ w.ownsRow 0 50 9 (.slice sp L.length sc) L.length (flat L) ∧
    (∀ k, (Value.slice sp L.length sc).ownBlock = some k → S k)

/-- .. the reference's. -/
structure IsRef (w : World) (b : Nat) (S : Nat → Prop) (L : List ((Nat → Int) × Int)) : Prop where
  lt : ∀ k, S k → k < w.heap.size
  mem : S b
  body : ∃ sp sc, w.heap[b]? = some (.cells #[.slice sp L.length sc] 30 (0, 0)) ∧ w.ownsRow 0 52 9 (.slice sp L.length sc) L.length (flat L) ∧
    (∀ k, (Value.slice sp L.length sc).ownBlock = some k → S k)

theorem IsSto.fr {S T : Nat → Prop} {w w' : World} {b : Nat} {L : List ((Nat → Int) × Int)} {live : Int} (h : IsSto w b S L live) (f : Fr T w w') (hd : ∀ k, S k → ¬ T k) : IsSto w' b S L live := by
  obtain ⟨hl, hm, sp, sc, h1, h2, h3⟩ := h
  exact ⟨fun k hk => Nat.lt_of_lt_of_le (hl k hk) f.size, hm, sp, sc, f.heap h1 (hd b hm), ownsRow.fr h2 f (fun k hk => hd k (h3 k hk)), h3⟩
theorem IsRef.fr {S T : Nat → Prop} {w w' : World} {b : Nat} {L : List ((Nat → Int) × Int)} (h : IsRef w b S L) (f : Fr T w w') (hd : ∀ k, S k → ¬ T k) : IsRef w' b S L := by
  obtain ⟨hl, hm, sp, sc, h1, h2, h3⟩ := h
  exact ⟨fun k hk => Nat.lt_of_lt_of_le (hl k hk) f.size, hm, sp, sc, f.heap h1 (hd b hm), ownsRow.fr h2 f (fun k hk => hd k (h3 k hk)), h3⟩

theorem IsSto.new (w : World) : IsSto (w.alloc (.cells #[.slice none 0 0, .int .i64 0] 26)) w.heap.size (fun k => k = w.heap.size) [] 0 :=
  ⟨fun k hk => by subst hk; simp, rfl, none, 0, heapNew _ _, World.ownsRow_nil _ _ _ _, fun k hk => by simp [Value.ownBlock] at hk⟩
theorem IsRef.new (w : World) : IsRef (w.alloc (.cells #[.slice none 0 0] 30)) w.heap.size (fun k => k = w.heap.size) [] :=
  ⟨fun k hk => by subst hk; simp, rfl, none, 0, heapNew _ _, World.ownsRow_nil _ _ _ _, fun k hk => by simp [Value.ownBlock] at hk⟩

/-- What is to be appended lies in the second new block. -/
theorem item_new (w : World) (A : Array Value) (T1 T2 : TypeId) (l : List Value) : ∀ j u, l[j]? = some u → (((w.alloc (.cells A T1)).alloc (.cells l.toArray T2)).drew).cell? ((⟨w.heap.size + 1, 0, none⟩ : Addr).add j) = some u := by
  intro j u hj
  rw [addOf _ _ rfl]
  have h := heapNew (w.alloc (.cells A T1)) (.cells l.toArray T2)
  rw [World.size_alloc] at h
  show ((w.alloc (.cells A T1)).alloc (.cells l.toArray T2)).cell? _ = _
  rw [cellOf h]
  simpa using hj

/-- What New leaves. -/
theorem new_end (w w3 : World) (b : Nat) (S : Nat → Prop) (L : List ((Nat → Int) × Int)) (x : Nat → Int) (A B : Obj) (live : Int) (sp : Option Addr) (sc : Nat) (sp' : Option Addr) (sc' : Nat)
    (hlt : ∀ k, S k → k < w.heap.size) (hSb : S b) (hSr : ∀ k, (Value.slice sp L.length sc).ownBlock = some k → S k)
    (hb3 : w3.heap[b]? = some (.cells #[.slice sp L.length sc, .int .i64 live] 26 (0, 0)))
    (hown3 : w3.ownsRow 0 50 9 (.slice sp' (L.length + 1) sc') (L.length + 1) (flat L ++ itemL (x, 1)))
    (hgrow3 : (((w.alloc A).alloc B).drew).grownBy w3 (Value.slice sp L.length sc).ownBlock)
    (hloc : (Value.slice sp' (L.length + 1) sc').ownBlock = (Value.slice sp L.length sc).ownBlock ∨ (Value.slice sp' (L.length + 1) sc').ownBlock = some (((w.alloc A).alloc B).drew).heap.size) :
    Fr S w ((w3.setCell ⟨b, 0, none⟩ (.slice sp' (L.length + 1) sc')).setCell ⟨b, 1, none⟩ (.int .i64 (live + 1))) ∧
    IsSto ((w3.setCell ⟨b, 0, none⟩ (.slice sp' (L.length + 1) sc')).setCell ⟨b, 1, none⟩ (.int .i64 (live + 1))) b (Gr S w ((w3.setCell ⟨b, 0, none⟩ (.slice sp' (L.length + 1) sc')).setCell ⟨b, 1, none⟩ (.int .i64 (live + 1)))) (L ++ [(x, 1)]) (live + 1) ∧ True := by
  have f3 : Fr S w w3 := ((((Fr.refl S w).alloc A).alloc B).drew).grown hgrow3 (fun k e => .inl (hSr k e))
  have f4 := (f3.setCell (p := ⟨b, 0, none⟩) (.inl hSb) (.slice sp' (L.length + 1) sc')).setCell (p := ⟨b, 1, none⟩) (.inl hSb) (.int .i64 (live + 1))
  have hb4 := heapSet (heapSet hb3 0 (.slice sp' (L.length + 1) sc')) 1 (.int .i64 (live + 1))
  have hne : some b ≠ (Value.slice sp' (L.length + 1) sc').ownBlock := ownsRow.ne hown3 hb3 (by intro c; simp)
  have hln : (L ++ [(x, (1 : Int))]).length = L.length + 1 := by simp
  have fb : Fr (fun k => k = b) w3 ((w3.setCell ⟨b, 0, none⟩ (.slice sp' (L.length + 1) sc')).setCell ⟨b, 1, none⟩ (.int .i64 (live + 1))) := ((Fr.refl (fun k => k = b) w3).setCell (p := ⟨b, 0, none⟩) (.inl rfl) _).setCell (p := ⟨b, 1, none⟩) (.inl rfl) _
  refine ⟨f4, ⟨Gr.lt hlt f4.size, .inl hSb, sp', sc', ?_, ?_, ?_⟩, trivial⟩
  · rw [hln]; simpa using hb4
  · rw [hln, flat_append]
    exact ownsRow.fr hown3 fb (fun k hk e => hne (by rw [hk, e]))
  · intro k hk
    rw [hln] at hk
    have hlt3 := (hown3.lt k hk).2
    rcases hloc with h | h
    · exact .inl (hSr k (by rw [← h]; exact hk))
    · have hk' := hk
      rw [h] at hk'
      have e : k = w.heap.size + 1 + 1 := by
        have : ((w.alloc A).alloc B).drew.heap.size = w.heap.size + 1 + 1 := by show ((w.alloc A).alloc B).heap.size = _; simp
        rw [this] at hk'; simpa using hk'.symm
      refine .inr ⟨by omega, ?_⟩
      simpa [World.setCell] using hlt3

set_option maxHeartbeats 1000000 in
set_option maxRecDepth 100000 in
theorem New_any (b : Nat) (S : Nat → Prop) (L : List ((Nat → Int) × Int)) (live : Int) (x : Nat → Int) (w : World) (h : IsSto w b S L live) (hn : L.length ≤ 1000) (h0 : -1000 ≤ live) (h1 : live ≤ 1000) :
    Calls Try.prog 7 #[.pointer (some ⟨b, 0, none⟩), .agg (stL x).toArray] w fun e w' => e = .returned (.int .i64 (L.length : Nat)) ∧ Fr S w w' ∧ IsSto w' b (Gr S w w') (L ++ [(x, 1)]) (live + 1) := by
  obtain ⟨hlt, hSb, sp, sc, hb, hrow, hSr⟩ := h
  obtain ⟨i0, hi, hz0, hz1, hz2⟩ := info_parts info50
  have hrb : some b ≠ (Value.slice sp L.length sc).ownBlock := ownsRow.ne hrow hb (by intro c; simp)
  have c0 := cellOf hb 0
  have f0 := frozenOf hb 0
  have c1 := cellOf hb 1
  have f1 := frozenOf hb 1
  have hbl := ltOf hb
  simp at c0 c1
  have HB := Lib.hid hb
  have HR := Lib.hid hrow
  clear hb hrow
  have H1 : ∀ u ∈ itemL (x, 1), u.oneCell' = true := by simp [itemL, stL, Value.oneCell']
  have G1 : L.length + 1 ≤ maxLen := by unfold maxLen; omega
  have G2 : (L.length + 1) * 72 ≤ 140737488355328 := by omega
  have HN := fun (A : Array Value) T1 T2 => item_new w A T1 T2 (itemL (x, 1))
  unfold stL
  go_enter Try.func7, Try.ntmps7
  go_wp2_with fail
  go_region_law (refine step_append_own rfl _ _ 24 rfl 0 50 i0 _ 9 72 Try.underlying24 hi hz0 hz1 hz2 rfl (by omega) (.slice sp L.length sc) _ _ rfl (ownsRow_drew ((HR.out.alloc _).alloc _)) ⟨w.heap.size + 1, 0, none⟩ 1 1 (itemL (x, 1)) rfl rfl (HN _ _ _) H1 G1 G2 (Nat.zero_le _) ?_; intro sp' sc' w3 hown3 hgrow3 hloc; have hb3 := heapGrown hgrow3 (heapDrew (heapAlloc (heapAlloc HB.out))) hrb; clear c0 f0 c1 f1; have c0 := cellOf hb3 0; have c1 := cellOf hb3 1; have f0 := frozenOf hb3 0; have f1 := frozenOf hb3 1; simp at c0 c1; have HB3 := Lib.hid hb3; have HO3 := Lib.hid hown3; have HG3 := Lib.hid hgrow3; have HL3 := Lib.hid hloc; clear hb3 hown3 hgrow3 hloc)
  all_goals
    go_wp2
    go_ret
    obtain ⟨k1, k2, k3⟩ := new_end w w3 b S L x _ _ live sp sc sp' sc' hlt hSb hSr HB3.out HO3.out HG3.out HL3.out
    exact ⟨rfl, k1, k2⟩

/-- What the reference's New leaves. -/
theorem rnew_end (w w3 : World) (b : Nat) (S : Nat → Prop) (L : List ((Nat → Int) × Int)) (x : Nat → Int) (A B : Obj) (sp : Option Addr) (sc : Nat) (sp' : Option Addr) (sc' : Nat)
    (hlt : ∀ k, S k → k < w.heap.size) (hSb : S b) (hSr : ∀ k, (Value.slice sp L.length sc).ownBlock = some k → S k)
    (hb3 : w3.heap[b]? = some (.cells #[.slice sp L.length sc] 30 (0, 0)))
    (hown3 : w3.ownsRow 0 52 9 (.slice sp' (L.length + 1) sc') (L.length + 1) (flat L ++ itemL (x, 1)))
    (hgrow3 : (((w.alloc A).alloc B).drew).grownBy w3 (Value.slice sp L.length sc).ownBlock)
    (hloc : (Value.slice sp' (L.length + 1) sc').ownBlock = (Value.slice sp L.length sc).ownBlock ∨ (Value.slice sp' (L.length + 1) sc').ownBlock = some (((w.alloc A).alloc B).drew).heap.size) :
    Fr S w (w3.setCell ⟨b, 0, none⟩ (.slice sp' (L.length + 1) sc')) ∧
    IsRef (w3.setCell ⟨b, 0, none⟩ (.slice sp' (L.length + 1) sc')) b (Gr S w (w3.setCell ⟨b, 0, none⟩ (.slice sp' (L.length + 1) sc'))) (L ++ [(x, 1)]) ∧ True := by
  have f3 : Fr S w w3 := ((((Fr.refl S w).alloc A).alloc B).drew).grown hgrow3 (fun k e => .inl (hSr k e))
  have f4 := f3.setCell (p := ⟨b, 0, none⟩) (.inl hSb) (.slice sp' (L.length + 1) sc')
  have hb4 := heapSet hb3 0 (.slice sp' (L.length + 1) sc')
  have hne : some b ≠ (Value.slice sp' (L.length + 1) sc').ownBlock := ownsRow.ne hown3 hb3 (by intro c; simp)
  have hln : (L ++ [(x, (1 : Int))]).length = L.length + 1 := by simp
  have fb : Fr (fun k => k = b) w3 (w3.setCell ⟨b, 0, none⟩ (.slice sp' (L.length + 1) sc')) := (Fr.refl (fun k => k = b) w3).setCell (p := ⟨b, 0, none⟩) (.inl rfl) _
  refine ⟨f4, ⟨Gr.lt hlt f4.size, .inl hSb, sp', sc', ?_, ?_, ?_⟩, trivial⟩
  · rw [hln]; simpa using hb4
  · rw [hln, flat_append]
    exact ownsRow.fr hown3 fb (fun k hk e => hne (by rw [hk, e]))
  · intro k hk
    rw [hln] at hk
    have hlt3 := (hown3.lt k hk).2
    rcases hloc with h | h
    · exact .inl (hSr k (by rw [← h]; exact hk))
    · have hk' := hk
      rw [h] at hk'
      have e : k = w.heap.size + 1 + 1 := by
        have : ((w.alloc A).alloc B).drew.heap.size = w.heap.size + 1 + 1 := by show ((w.alloc A).alloc B).heap.size = _; simp
        rw [this] at hk'; simpa using hk'.symm
      refine .inr ⟨by omega, ?_⟩
      simpa [World.setCell] using hlt3

set_option maxHeartbeats 1000000 in
set_option maxRecDepth 100000 in
theorem RNew_any (b : Nat) (S : Nat → Prop) (L : List ((Nat → Int) × Int)) (x : Nat → Int) (w : World) (h : IsRef w b S L) (hn : L.length ≤ 1000) :
    Calls Try.prog 8 #[.pointer (some ⟨b, 0, none⟩), .agg (stL x).toArray] w fun e w' => e = .returned (.int .i64 (L.length : Nat)) ∧ Fr S w w' ∧ IsRef w' b (Gr S w w') (L ++ [(x, 1)]) := by
  obtain ⟨hlt, hSb, sp, sc, hb, hrow, hSr⟩ := h
  obtain ⟨i0, hi, hz0, hz1, hz2⟩ := info_parts info52
  have hrb : some b ≠ (Value.slice sp L.length sc).ownBlock := ownsRow.ne hrow hb (by intro c; simp)
  have c0 := cellOf hb 0
  have f0 := frozenOf hb 0
  have hbl := ltOf hb
  simp at c0
  have HB := Lib.hid hb
  have HR := Lib.hid hrow
  clear hb hrow
  have H1 : ∀ u ∈ itemL (x, 1), u.oneCell' = true := by simp [itemL, stL, Value.oneCell']
  have G1 : L.length + 1 ≤ maxLen := by unfold maxLen; omega
  have G2 : (L.length + 1) * 72 ≤ 140737488355328 := by omega
  have HN := fun (A : Array Value) T1 T2 => item_new w A T1 T2 (itemL (x, 1))
  unfold stL
  go_enter Try.func8, Try.ntmps8
  go_wp2_with fail
  go_region_law (refine step_append_own rfl _ _ 28 rfl 0 52 i0 _ 9 72 Try.underlying28 hi hz0 hz1 hz2 rfl (by omega) (.slice sp L.length sc) _ _ rfl (ownsRow_drew ((HR.out.alloc _).alloc _)) ⟨w.heap.size + 1, 0, none⟩ 1 1 (itemL (x, 1)) rfl rfl (HN _ _ _) H1 G1 G2 (Nat.zero_le _) ?_; intro sp' sc' w3 hown3 hgrow3 hloc; have hb3 := heapGrown hgrow3 (heapDrew (heapAlloc (heapAlloc HB.out))) hrb; clear c0 f0; have c0 := cellOf hb3 0; have f0 := frozenOf hb3 0; simp at c0; have HB3 := Lib.hid hb3; have HO3 := Lib.hid hown3; have HG3 := Lib.hid hgrow3; have HL3 := Lib.hid hloc; clear hb3 hown3 hgrow3 hloc)
  all_goals
    go_wp2
    go_ret
    obtain ⟨k1, k2, k3⟩ := rnew_end w w3 b S L x _ _ sp sc sp' sc' hlt hSb hSr HB3.out HO3.out HG3.out HL3.out
    exact ⟨rfl, k1, k2⟩

end Go.Proofs.Ytpjijcpbmljanaa
