/- Things and Find: the first thing that begins so. No condition but sizes. -/
import Derived.Test.YtknpdkfjmhpbpaaRSkip
import Derived.Test.YtknpdkfjmhpbpaaRF
import Derived.Sort.BigQuietIn
import Derived.RangeFuncCalls
import Derived.AtR
import Derived.RangeFuncNested
import Derived.RangeFuncBound
import Derived.RangeFuncLeaves
import Derived.RangeFuncBox
import Derived.Shelf.Abstract
import Derived.Shelf.RegionOpen
import Derived.OwnWalkIn
import Derived.TacticsInMore
import Derived.LoopNIn
import Derived.LoopIn
import Derived.Sort.LoopGhostIn
namespace Go.Proofs.Ytknpdkfjmhpbpaa
open Go.RowKit Go.Shelf

attribute [local go_sem] Oper.semAt_some

theorem opIn_round {F : Fence} {l n : Nat} {P : Program} {o : Oper} {a : Act} {w : World} {K : Act → World → Prop} {Q : Exit → Act → World → Prop} (hro : F.round = none) (hd : ∀ c, o.op ≠ .defer c) (h : o.wpIn F n P a w K Q) : o.wpIn (F.inRound l) n P a w K Q := by
  refine ⟨h.1, ?_⟩
  have h2 := h.2
  rw [hro, Oper.semAt_none] at h2
  rw [Fence.inRound_round, Oper.semAt_eq _ _ _ hd]
  exact h2
theorem anyIn_round {F : Fence} {l n : Nat} {P : Program} {md : Region.Mode} {ops : Array Oper} {Q : Exit → Act → World → Prop} (hro : F.round = none) (hd : ∀ (i : Nat) (o : Oper), ops[i]? = some o → ∀ c, o.op ≠ .defer c) :
    ∀ (fuel : Nat) (listed : Array Bool) (a : Act) (w : World), wpAnyIn F n P md ops Q fuel listed a w → wpAnyIn (F.inRound l) n P md ops Q fuel listed a w
  | 0, _, _, _, h => h
  | fuel + 1, listed, a, w, h => ⟨h.1, fun i hi => by
    have h2 := wpOpIn_mono (fun a w => anyIn_round (l := l) hro hd fuel (listed.setIfInBounds i true) a w) (h.2 i hi)
    unfold wpOpIn at h2 ⊢
    split
    · rename_i ho
      simp only [ho] at h2
      exact h2
    · rename_i o ho
      simp only [ho] at h2
      split
      · rename_i hw
        simp only [hw, if_true] at h2
        exact opIn_round hro (hd i o ho) h2
      · rename_i hw
        simp only [hw] at h2
        exact h2⟩
/-- A region that draws its order and only reads, within a round: one walk serves. -/
theorem quiet_round {F : Fence} {n r : Nat} {P : Program} {id : Nat} {Q : Exit → Act → World → Prop} {a : Act} {w : World} {l : List Oper} (hro : F.round = none) (hd : (l.all fun o => match o.op with | .defer _ => false | _ => true) = true) (hm : P.follows .mixedOrders = true) (hB : Region.lexB .any l.toArray = true)
    (h : wpQuietIn F n P l.toArray (fun w' => ∃ n, w' = w.drewN n) (fun a' => ∀ w', (∃ n, w' = w.drewN n) → Q .normal a' w') l a) : (Code.region id l.toArray true).wpIn (F.inRound r) n P Q a w := by
  simp only [Region.lexB, Bool.and_eq_true] at hB
  refine wpIn_region_any hm (anyIn_round hro ?_ _ _ _ _ (wpAnyIn_of_quiet (C := fun w' => ∃ n, w' = w.drewN n) (Q := fun a' => ∀ w', (∃ n, w' = w.drewN n) → Q .normal a' w') hro (fun _ w' hw' h => h w' hw') _ _ _ _ ⟨1, rfl⟩ ?_))
  · intro i o ho c hc
    have h1 := List.all_eq_true.1 hd o (by simpa using List.mem_of_getElem? (by simpa using ho))
    rw [hc] at h1
    cases h1
  · have := wpAnyQIn_lex (F := F) (n := n) (C := fun w' => ∃ n, w' = w.drewN n) (md := .any) hB.1 l 0 (Array.replicate l.toArray.size false) a (by simp) (by simpa using hB.2) h
    simpa using this

/-- What the iterator reads. -/
structure ThS (bf bt i0 : Nat) (p : Option Addr) (c : Nat) (ts : List Tok) (W : World) (S : Nat → Prop) : Prop where
  f : W.heap[bf]? = some (.cells #[.int .i64 (i0 : Int)] 3 (0, 0))
  t : W.heap[bt]? = some (.cells #[.slice p ts.length c] 22 (0, 0))
  r : RdT W p ts
  s : ∀ k, S k → k ≠ bf ∧ k ≠ bt ∧ ∀ g off, p = some ⟨g, off, none⟩ → ts ≠ [] → g < W.heap.size ∧ k ≠ g
theorem RdT.lt {w : World} {p : Option Addr} {ts : List Tok} (h : RdT w p ts) (hn : ts ≠ []) {g off : Nat} (hp : p = some ⟨g, off, none⟩) : g < w.heap.size := by
  cases ts with
  | nil => exact absurd rfl hn
  | cons x ts =>
    obtain ⟨_, g', off', hp', hg, _⟩ := h 0 x rfl
    rw [hp] at hp'
    cases hp'
    exact hg
theorem ThS.step {bf bt i0 : Nat} {p : Option Addr} {c : Nat} {ts : List Tok} {W W' : World} {S S' : Nat → Prop} (h : ThS bf bt i0 p c ts W S) (f : Fr S W W') (hS : ∀ k, S' k → S k ∨ W.heap.size ≤ k) : ThS bf bt i0 p c ts W' S' := by
  refine ⟨f.heap h.f (fun e => (h.s _ e).1 rfl), f.heap h.t (fun e => (h.s _ e).2.1 rfl), ?_, fun k hk => ?_⟩
  · cases ts with
    | nil => exact RdT.nil _ _
    | cons x ts => exact h.r.step f (fun g off hp e => ((h.s _ e).2.2 g off hp (by simp)).2 rfl)
  · have a := ltOf h.f
    have b := ltOf h.t
    have hs := f.size
    rcases hS k hk with e | e
    · exact ⟨(h.s k e).1, (h.s k e).2.1, fun g off hp hn => ⟨by have := ((h.s k e).2.2 g off hp hn).1; omega, ((h.s k e).2.2 g off hp hn).2⟩⟩
    · refine ⟨by omega, by omega, fun g off hp hn => ?_⟩
      have := h.r.lt hn hp
      exact ⟨by omega, by omega⟩
theorem ThS.fr0 {bf bt i0 : Nat} {p : Option Addr} {c : Nat} {ts : List Tok} {W W' : World} {S : Nat → Prop} (h : ThS bf bt i0 p c ts W S) (f : Fr (fun _ => False) W W') : ThS bf bt i0 p c ts W' S :=
  h.step (f.mono (fun _ _ e => e.elim)) (fun _ e => .inl e)

theorem things_any (w : World) (p : Option Addr) (n c : Nat) (i : Int) :
    Calls Try.prog 54 #[.slice p n c, .int .i64 i] w fun e w' => e = .returned (.func (.func 67) #[] #[.pointer (some ⟨w.heap.size + 1, 0, none⟩), .pointer (some ⟨w.heap.size, 0, none⟩)]) ∧
      w' = (w.alloc (.cells #[.slice p n c] 22)).alloc (.cells #[.int .i64 i] 3) := by
  go_enter Try.func54, Try.ntmps54
  go_wp2
  go_ret
  exact ⟨rfl, rfl⟩

theorem skA_in {ts : List Tok} {k : Nat} (h : k < ts.length) : skA ts (k : Int) = (skV ts k : Int) := by
  unfold skA
  rw [if_pos (by omega), show (k : Int).toNat = k by omega]

set_option maxRecDepth 100000 in
set_option maxHeartbeats 4000000 in
theorem th_stops (bf bt i0 : Nat) (p : Option Addr) (c : Nat) (ts : List Tok) (hl : ts.length ≤ 100000) (nn : Nat) (hnn : 2 ≤ nn) :
    SeqF Fence.wide nn Try.prog 67 #[.pointer (some ⟨bf, 0, none⟩), .pointer (some ⟨bt, 0, none⟩)] (fun y : { q : Nat // q < ts.length } => #[Value.int .i64 (y.1 : Int), Value.int .i64 (skV ts y.1 : Int)]) (fun _ => False)
      (fun W S => ThS bf bt i0 p c ts W S) (fun xs => ∃ j, Chn ts i0 xs j ∧ ts.length ≤ j) (fun pre => ∃ j, Chn ts i0 pre j) 200000 := by
  have hn1 : 1 ≤ nn := by omega
  have hn2 : 1 ≤ nn - 1 := by omega
  rintro l J Jx W S0 hP hJ hJx hlt hY h00
  have HR := Lib.hid hP
  have HJ0 := Lib.hid h00
  have HY := Lib.hid hY
  have HJ := Lib.hid hJ
  have x0 := cellOf hP.f 0
  simp at x0
  clear hP hJ hJx hlt hY h00
  refine callsIn_of_wp Try.func67 rfl trivial ?_ rfl
  simp only [Try.ntmps67, List.size_toArray, List.length_cons, List.length_nil, Nat.reduceAdd, Nat.reduceSub, Array.replicate_succ, Array.replicate_zero, List.push_toArray, List.append_toArray, List.nil_append, List.cons_append]
  gi_wp2
  gi_loopw [4] (fun i wr => ∃ (k : Nat) (pre : List { q : Nat // q < ts.length }) (S : Nat → Prop), i = .int .i64 k ∧ Hid (Chn ts i0 pre k) ∧ Hid (J pre S wr) ∧ Hid (ThS bf bt i0 p c ts wr S)) (fun i _ => ts.length - (intOf i).toNat)
  case atStart => exact ⟨i0, [], S0, rfl, Lib.hid rfl, HJ0, HR⟩
  case round =>
    clear HJ0 HR x0
    obtain ⟨k, pre, S, rfl, hch, hJ, hS⟩ := hrel
    have hb := cellOf hS.out.t 0
    simp at hb
    by_cases hlt : k < ts.length
    · have d0 : decide ((k : Int) < (ts.length : Int)) = true := decide_eq_true (by omega)
      have SK := Lib.hid (show Calls Try.prog 22 #[.slice p ts.length c, .int .i64 (k : Int)] wr fun e w' => e = .returned (.int .i64 (skV ts k : Int)) ∧ Fr (fun _ => False) wr w' from by
        have := Skip_any wr p c ts k hS.out.r hl; rwa [skA_in hlt] at this)
      have HCH := Lib.hid (hch.out.snoc hlt)
      have HL := Lib.hid (show pre.length < 200000 by have := hch.out.len; omega)
      have hv1 := skV_lt ts k hlt
      have hv2 := skV_le ts k (by omega)
      gi_wp2
      refine ⟨trivial, callsIn_wide.2 (SK.out.mono ?_)⟩
      rintro e w3 ⟨rfl, f3⟩
      have HJ3 := Lib.hid (HJ.out _ _ _ _ hJ.out (f3.mono (fun _ _ e => e.elim)))
      have HS3 := Lib.hid (hS.out.fr0 f3)
      clear f3 hJ hS hb SK
      obtain ⟨fn, tmps, assign, body, hy, hR9⟩ := HY.out _ ⟨k, hlt⟩ S w3 HJ3.out HL.out
      have HR9 := Lib.hid hR9
      clear hR9
      gi_wp2
      refine HR9.out.mono ?_
      rintro e' W3 (⟨rfl, S', hJ4, f4, hS4⟩ | ⟨rfl, S', hJx4⟩)
      · have HJ4 := Lib.hid hJ4
        have HS4 := Lib.hid (HS3.out.step f4 hS4)
        clear hJ4 f4 hS4 HR9
        gi_wp2
        go_roundw
        case rel => exact ⟨skV ts k, _, S', rfl, HCH, HJ4, HS4⟩
        case measure => simp [intOf]; omega
      · gi_wp2
        refine bodyPost_ret (v := .tuple #[]) (results_none rfl _ _ _) rfl ?_
        exact ⟨⟨_, rfl⟩, .inr ⟨_, S', ⟨_, HCH.out⟩, hJx4⟩⟩
    · have d0 : decide ((k : Int) < (ts.length : Int)) = false := decide_eq_false (by omega)
      gi_wp2
      go_end0
      exact ⟨⟨_, rfl⟩, .inl ⟨_, S, ⟨k, hch.out, by omega⟩, hJ.out⟩⟩

theorem Fr.drewN {S : Nat → Prop} {w W : World} (f : Fr S w W) (n : Nat) : Fr S w (W.drewN n) := ⟨f.os, f.tape, f.output, f.size, f.block⟩

/-- Find's boxes. -/
structure FS (w : World) (p : Option Addr) (c : Nat) (ts : List Tok) (a2 a3 : Int) (z : Int) (W : World) : Prop where
  t : W.heap[w.heap.size]? = some (.cells #[.slice p ts.length c] 22 (0, 0))
  a : W.heap[w.heap.size + 1]? = some (.cells #[.int .i64 a2] 3 (0, 0))
  b : W.heap[w.heap.size + 1 + 1]? = some (.cells #[.int .i64 a3] 3 (0, 0))
  r : W.heap[w.heap.size + 1 + 1 + 1]? = some (.cells #[.int .i64 z] 3 (0, 0))
  fr : Fr (fun _ => False) w W
theorem FS.step {w : World} {p : Option Addr} {c : Nat} {ts : List Tok} {a2 a3 z : Int} {W W' : World} {T : Nat → Prop} (h : FS w p c ts a2 a3 z W) (f : Fr T W W') (hT : ∀ k, T k → w.heap.size + 1 + 1 + 1 < k) : FS w p c ts a2 a3 z W' :=
  ⟨f.heap h.t (fun e => by have := hT _ e; omega), f.heap h.a (fun e => by have := hT _ e; omega), f.heap h.b (fun e => by have := hT _ e; omega), f.heap h.r (fun e => by have := hT _ e; omega), h.fr.step f (fun i e => .inr (by have := hT _ e; omega))⟩

theorem fs_set {w : World} {p : Option Addr} {c : Nat} {ts : List Tok} {a2 a3 z : Int} {W : World} (h : FS w p c ts a2 a3 z W) (y : Int) : FS w p c ts a2 a3 y (W.setCell ⟨w.heap.size + 1 + 1 + 1, 0, none⟩ (.int .i64 y)) := by
  have f1 : Fr (fun k => k = w.heap.size + 1 + 1 + 1) W (W.setCell ⟨w.heap.size + 1 + 1 + 1, 0, none⟩ (.int .i64 y)) := (Fr.refl (fun k => k = w.heap.size + 1 + 1 + 1) W).setCell (p := ⟨w.heap.size + 1 + 1 + 1, 0, none⟩) (.inl rfl) _
  have hb' := heapSet h.r 0 (.int .i64 y)
  exact ⟨f1.heap h.t (fun e => by omega), f1.heap h.a (fun e => by omega), f1.heap h.b (fun e => by omega), by simpa using hb', h.fr.step f1 (fun i e => .inr (by omega))⟩

set_option maxRecDepth 100000 in
set_option maxHeartbeats 4000000 in
theorem Find_any (w : World) (p : Option Addr) (c : Nat) (ts : List Tok) (i0 : Nat) (a2 a3 : Int) (h : RdT w p ts) (hl : ts.length ≤ 100000) :
    Calls Try.prog 34 #[.slice p ts.length c, .int .i64 (i0 : Int), .int .i64 a2, .int .i64 a3] w fun e w' => e = .returned (.int .i64 (fndV ts a2 a3 i0 : Int)) ∧ Fr (fun _ => False) w w' := by
  have HC := Lib.hid h
  clear h
  refine (callsIn_wide (n := 6)).1 ?_
  refine callsIn_of_wp_marks Try.func34 rfl trivial ?_ rfl
  simp only [Try.ntmps34, List.size_toArray, List.length_cons, List.length_nil, Nat.reduceAdd, Nat.reduceSub, Array.replicate_succ, Array.replicate_zero, List.push_toArray, List.append_toArray, List.nil_append, List.cons_append]
  gi_wp2_with (refine ⟨trivial, ?_⟩; gi_at_call 54; refine (callsIn_wide.2 (things_any _ _ _ _ _)).mono ?_; rintro e w' ⟨rfl, rfl⟩)
  have b0 : ((((((w.alloc (.cells #[.slice p ts.length c] 22)).alloc (.cells #[.int .i64 a2] 3)).alloc (.cells #[.int .i64 a3] 3)).alloc (.cells #[.int .i64 0] 3)).alloc (.cells #[.slice p ts.length c] 22)).alloc (.cells #[.int .i64 (i0 : Int)] 3)).heap[w.heap.size]? = some (.cells #[.slice p ts.length c] 22 (0, 0)) :=
    heapAlloc (heapAlloc (heapAlloc (heapAlloc (heapAlloc (heapNew w _)))))
  have b1 : ((((((w.alloc (.cells #[.slice p ts.length c] 22)).alloc (.cells #[.int .i64 a2] 3)).alloc (.cells #[.int .i64 a3] 3)).alloc (.cells #[.int .i64 0] 3)).alloc (.cells #[.slice p ts.length c] 22)).alloc (.cells #[.int .i64 (i0 : Int)] 3)).heap[w.heap.size + 1]? = some (.cells #[.int .i64 a2] 3 (0, 0)) := by
    have := heapNew (w.alloc (.cells #[.slice p ts.length c] 22)) (.cells #[.int .i64 a2] 3)
    rw [World.size_alloc] at this
    exact heapAlloc (heapAlloc (heapAlloc (heapAlloc this)))
  have b2 : ((((((w.alloc (.cells #[.slice p ts.length c] 22)).alloc (.cells #[.int .i64 a2] 3)).alloc (.cells #[.int .i64 a3] 3)).alloc (.cells #[.int .i64 0] 3)).alloc (.cells #[.slice p ts.length c] 22)).alloc (.cells #[.int .i64 (i0 : Int)] 3)).heap[w.heap.size + 1 + 1]? = some (.cells #[.int .i64 a3] 3 (0, 0)) := by
    have := heapNew ((w.alloc (.cells #[.slice p ts.length c] 22)).alloc (.cells #[.int .i64 a2] 3)) (.cells #[.int .i64 a3] 3)
    rw [World.size_alloc, World.size_alloc] at this
    exact heapAlloc (heapAlloc (heapAlloc this))
  have b3 : ((((((w.alloc (.cells #[.slice p ts.length c] 22)).alloc (.cells #[.int .i64 a2] 3)).alloc (.cells #[.int .i64 a3] 3)).alloc (.cells #[.int .i64 0] 3)).alloc (.cells #[.slice p ts.length c] 22)).alloc (.cells #[.int .i64 (i0 : Int)] 3)).heap[w.heap.size + 1 + 1 + 1]? = some (.cells #[.int .i64 0] 3 (0, 0)) := by
    have := heapNew (((w.alloc (.cells #[.slice p ts.length c] 22)).alloc (.cells #[.int .i64 a2] 3)).alloc (.cells #[.int .i64 a3] 3)) (.cells #[.int .i64 0] 3)
    rw [World.size_alloc, World.size_alloc, World.size_alloc] at this
    exact heapAlloc (heapAlloc this)
  have b4 : ((((((w.alloc (.cells #[.slice p ts.length c] 22)).alloc (.cells #[.int .i64 a2] 3)).alloc (.cells #[.int .i64 a3] 3)).alloc (.cells #[.int .i64 0] 3)).alloc (.cells #[.slice p ts.length c] 22)).alloc (.cells #[.int .i64 (i0 : Int)] 3)).heap[w.heap.size + 1 + 1 + 1 + 1]? = some (.cells #[.slice p ts.length c] 22 (0, 0)) := by
    have := heapNew ((((w.alloc (.cells #[.slice p ts.length c] 22)).alloc (.cells #[.int .i64 a2] 3)).alloc (.cells #[.int .i64 a3] 3)).alloc (.cells #[.int .i64 0] 3)) (.cells #[.slice p ts.length c] 22)
    rw [World.size_alloc, World.size_alloc, World.size_alloc, World.size_alloc] at this
    exact heapAlloc this
  have b5 : ((((((w.alloc (.cells #[.slice p ts.length c] 22)).alloc (.cells #[.int .i64 a2] 3)).alloc (.cells #[.int .i64 a3] 3)).alloc (.cells #[.int .i64 0] 3)).alloc (.cells #[.slice p ts.length c] 22)).alloc (.cells #[.int .i64 (i0 : Int)] 3)).heap[w.heap.size + 1 + 1 + 1 + 1 + 1]? = some (.cells #[.int .i64 (i0 : Int)] 3 (0, 0)) := by
    have := heapNew (((((w.alloc (.cells #[.slice p ts.length c] 22)).alloc (.cells #[.int .i64 a2] 3)).alloc (.cells #[.int .i64 a3] 3)).alloc (.cells #[.int .i64 0] 3)).alloc (.cells #[.slice p ts.length c] 22)) (.cells #[.int .i64 (i0 : Int)] 3)
    rw [World.size_alloc, World.size_alloc, World.size_alloc, World.size_alloc, World.size_alloc] at this
    exact this
  have f0 : Fr (fun _ => False) w ((((((w.alloc (.cells #[.slice p ts.length c] 22)).alloc (.cells #[.int .i64 a2] 3)).alloc (.cells #[.int .i64 a3] 3)).alloc (.cells #[.int .i64 0] 3)).alloc (.cells #[.slice p ts.length c] 22)).alloc (.cells #[.int .i64 (i0 : Int)] 3)) := ((((((Fr.refl _ w).alloc _).alloc _).alloc _).alloc _).alloc _).alloc _
  generalize ((((((w.alloc (.cells #[.slice p ts.length c] 22)).alloc (.cells #[.int .i64 a2] 3)).alloc (.cells #[.int .i64 a3] 3)).alloc (.cells #[.int .i64 0] 3)).alloc (.cells #[.slice p ts.length c] 22)).alloc (.cells #[.int .i64 (i0 : Int)] 3)) = wl at *
  have hl1 := ltOf b5
  have hF0 : FS w p c ts a2 a3 0 wl := ⟨b0, b1, b2, b3, f0⟩
  have hR0 := HC.out.fr f0
  have hm : Try.prog.follows .mixedOrders = true := by kernel_rfl
  have hplt : ∀ g off, p = some ⟨g, off, none⟩ → ts ≠ [] → g < w.heap.size := fun g off hp hn => HC.out.lt hn hp
  clear b0 b1 b2 b3 f0
  refine wpIn_rangeFunc_set rfl (by omega) (gf := 67) (lb := #[.pointer (some ⟨w.heap.size + 1 + 1 + 1 + 1 + 1, 0, none⟩), .pointer (some ⟨w.heap.size + 1 + 1 + 1 + 1, 0, none⟩)]) rfl trivial (enters_of Try.func67 (by kernel_rfl) rfl)
    (th_stops (w.heap.size + 1 + 1 + 1 + 1 + 1) (w.heap.size + 1 + 1 + 1 + 1) i0 p c ts hl (6 - 1) (by omega)) (fun _ => rfl)
    (fun pre S W => (∀ k, S k ↔ k = w.heap.size + 1 + 1 + 1) ∧ (∀ y ∈ pre, ¬ hit ts a2 a3 y) ∧ Hid (FS w p c ts a2 a3 0 W))
    (fun cd pre S W => (∀ k, S k ↔ k = w.heap.size + 1 + 1 + 1) ∧ cd = .ret ∧ ∃ pre' x, pre = pre' ++ [x] ∧ (∀ y ∈ pre', ¬ hit ts a2 a3 y) ∧ hit ts a2 a3 x ∧ Hid (FS w p c ts a2 a3 (x.1 : Int) W)) (fun k => k = w.heap.size + 1 + 1 + 1)
    (fun W1 S f hS => ⟨f.heap b5 (by simp), f.heap b4 (by simp), hR0.fr f, fun k hk => by
      have hs := f.size
      rcases hS k hk with e | e
      · exact ⟨by omega, by omega, fun g off hp hn => by have := hplt g off hp hn; exact ⟨by omega, by omega⟩⟩
      · exact ⟨by omega, by omega, fun g off hp hn => by have := hplt g off hp hn; exact ⟨by omega, by omega⟩⟩⟩)
    (fun pre S W1 W2 h f => ⟨h.1, h.2.1, Lib.hid (h.2.2.out.step f (fun k e => by rcases e.1 with e1 | e1; exact e1.elim; omega))⟩)
    (fun cd pre S W1 W2 h f => ⟨h.1, h.2.1, by
      obtain ⟨pre', x, h1, h2, h3, h4⟩ := h.2.2
      exact ⟨pre', x, h1, h2, h3, Lib.hid (h4.out.step f (fun k e => by rcases e.1 with e1 | e1; exact e1.elim; omega))⟩⟩)
    (fun pre S W1 h k hk => by have := ltOf h.2.2.out.r; rw [(h.1 k).1 hk]; exact this)
    ⟨fun _ => Iff.rfl, by simp, Lib.hid hF0⟩
    (fun x => { tmps := #[.slice p ts.length c, .int .i64 (i0 : Int), .int .i64 a2, .int .i64 a3, .pointer (some ⟨w.heap.size, 0, none⟩), undef, .pointer (some ⟨w.heap.size + 1, 0, none⟩), .pointer (some ⟨w.heap.size + 1 + 1, 0, none⟩), .pointer (some ⟨w.heap.size + 1 + 1 + 1, 0, none⟩), .int .i64 (x.1 : Int), .slice p ts.length c, .int .i64 (i0 : Int),
      .func (.func 67) #[] #[.pointer (some ⟨w.heap.size + 1 + 1 + 1 + 1 + 1, 0, none⟩), .pointer (some ⟨w.heap.size + 1 + 1 + 1 + 1, 0, none⟩)], .int .i64 (x.1 : Int), .int .i64 (skV ts x.1 : Int), undef, undef, undef, undef, undef, undef, undef, undef, undef, undef, undef, undef, undef, undef, undef, undef, undef, undef, undef], defers := [] }) ?assign ?body ?done ?stop
  case assign =>
    intro l x W K hK
    gi_wp2
    exact hK
  case body =>
    rintro l pre x S W ⟨hS, hn, hF⟩ hlen
    have hx := x.2
    have hRW := HC.out.fr hF.out.fr
    obtain ⟨g, off, rfl, e0⟩ := hRW.kind (List.getElem?_eq_getElem hx)
    have HI := Lib.hid (show hit ts a2 a3 x ↔ ((ts[x.1]'hx).f0 = a2 ∨ (ts[x.1]'hx).f0 = a3) from Iff.rfl)
    generalize (ts[x.1]'hx).f0 = f at *
    have k0 := cellOf hF.out.t 0
    have k1 := cellOf hF.out.a 0
    have k2 := cellOf hF.out.b 0
    have k3 := cellOf hF.out.r 0
    have z3 := frozenOf hF.out.r 0
    simp at k0 k1 k2 k3
    have i1 : (x.1 : Int) < (ts.length : Int) := by omega
    have HN := Lib.hid hn
    have HS := Lib.hid hS
    have HRW := Lib.hid hRW
    clear hn hS hRW hF0 hR0 hplt b4 b5
    by_cases t1 : f = a2
    · have q1 : (f == a2) = true := beq_iff_eq.2 t1
      have HT := Lib.hid t1
      clear t1
      gi_wp2
      refine quiet_round (F := Fence.wide) rfl (by kernel_rfl) (by kernel_rfl) (by kernel_rfl) ?_
      repeat (gi_big_quiet_step (fail))
      refine wpQuietIn_nil ?_
      intro _ hw'
      obtain ⟨nq, hw''⟩ := hw'
      subst hw''
      all_goals
        gi_wp2
        exact ⟨S, ⟨HS.out, rfl, pre, x, rfl, HN.out, HI.out.2 (.inl HT.out), Lib.hid (fs_set (hF.out.step ((Fr.refl (fun _ => False) W).drewN nq) (fun _ e => e.elim)) _)⟩, ((Fr.refl _ W).drewN nq).setCell (p := ⟨w.heap.size + 1 + 1 + 1, 0, none⟩) (.inl ((HS.out _).2 rfl)) _, fun _ e => .inl e⟩
    · have q1 : (f == a2) = false := beq_eq_false_iff_ne.2 t1
      have HT := Lib.hid t1
      clear t1
      by_cases t2 : f = a3
      · have q2 : (f == a3) = true := beq_iff_eq.2 t2
        have HT2 := Lib.hid t2
        clear t2
        gi_wp2
        refine quiet_round (F := Fence.wide) rfl (by kernel_rfl) (by kernel_rfl) (by kernel_rfl) ?_
        repeat (gi_big_quiet_step (fail))
        refine wpQuietIn_nil ?_
        intro _ hw'
        obtain ⟨nq, hw''⟩ := hw'
        subst hw''
        all_goals
          gi_wp2
          exact ⟨S, ⟨HS.out, rfl, pre, x, rfl, HN.out, HI.out.2 (.inr HT2.out), Lib.hid (fs_set (hF.out.step ((Fr.refl (fun _ => False) W).drewN nq) (fun _ e => e.elim)) _)⟩, ((Fr.refl _ W).drewN nq).setCell (p := ⟨w.heap.size + 1 + 1 + 1, 0, none⟩) (.inl ((HS.out _).2 rfl)) _, fun _ e => .inl e⟩
      · have q2 : (f == a3) = false := beq_eq_false_iff_ne.2 t2
        have HT2 := Lib.hid t2
        clear t2
        gi_wp2
        refine quiet_round (F := Fence.wide) rfl (by kernel_rfl) (by kernel_rfl) (by kernel_rfl) ?_
        repeat (gi_big_quiet_step (fail))
        refine wpQuietIn_nil ?_
        intro _ hw'
        obtain ⟨nq, hw''⟩ := hw'
        subst hw''
        all_goals
          gi_wp2
          exact ⟨S, ⟨HS.out, fun y hy => (List.mem_append.1 hy).elim (HN.out y) (fun e => by simp at e; subst e; exact fun hh => (HI.out.1 hh).elim HT.out HT2.out), Lib.hid (hF.out.step ((Fr.refl (fun _ => False) W).drewN nq) (fun _ e => e.elim))⟩, (Fr.refl _ _).drewN nq, fun _ e => .inl e⟩
  case done =>
    rintro D ys S W hD hSD ⟨j, hch, hj⟩ ⟨hS, hn, hF⟩ hK
    have hr := Lib.hid (find_none ts a2 a3 ys i0 j hch hj hn)
    have k0 := cellOf hF.out.t 0
    have k3 := cellOf hF.out.r 0
    have z3 := frozenOf hF.out.r 0
    simp at k0 k3
    clear hn hF0 hR0
    gi_wp2
    have hDr : D ≠ w.heap.size + 1 + 1 + 1 := by omega
    have f1 : Fr (fun k => k = w.heap.size + 1 + 1 + 1) W (W.setCell ⟨w.heap.size + 1 + 1 + 1, 0, none⟩ (.int .i64 (ts.length : Int))) := (Fr.refl (fun k => k = w.heap.size + 1 + 1 + 1) W).setCell (p := ⟨w.heap.size + 1 + 1 + 1, 0, none⟩) (.inl rfl) _
    have hK' := f1.heap hK (fun e => hDr e)
    have hb' := heapSet hF.out.r 0 (.int .i64 (ts.length : Int))
    refine ⟨by simp, .inl ⟨_, _, rfl, run_takeDeferred hK', ?_⟩⟩
    have f2 : Fr (fun k => k = D) _ ((W.setCell ⟨w.heap.size + 1 + 1 + 1, 0, none⟩ (.int .i64 (ts.length : Int))).putObj D (.deferred none)) := (Fr.refl (fun k => k = D) _).putObj (.inl rfl) _
    have hc5 := cellOf (f2.heap hb' (fun e => hDr e.symm)) 0
    simp at hc5
    refine ⟨.int .i64 (ts.length : Int), ?_, by rw [hr.out], (hF.out.fr.step f1 (fun i e => .inr (by omega))).step f2 (fun i e => .inr (by omega))⟩
    simp [results, Try.f34, go_sem, hc5]
  case stop =>
    rintro D cd pre S W hD hSD ⟨j, hch⟩ ⟨hS, rfl, pre', x, rfl, hn, hx, hF⟩ hK
    have hr := Lib.hid (find_hit ts a2 a3 pre' x i0 j hch hn hx)
    have hb' := hF.out.r
    clear hn hF0 hR0
    gi_wp2
    have hDr : D ≠ w.heap.size + 1 + 1 + 1 := by omega
    refine ⟨by simp, .inl ⟨_, _, rfl, run_takeDeferred hK, ?_⟩⟩
    have f2 : Fr (fun k => k = D) W (W.putObj D (.deferred none)) := (Fr.refl (fun k => k = D) _).putObj (.inl rfl) _
    have hc5 := cellOf (f2.heap hb' (fun e => hDr e.symm)) 0
    simp at hc5
    refine ⟨.int .i64 (x.1 : Int), ?_, by rw [hr.out], hF.out.fr.step f2 (fun i e => .inr (by omega))⟩
    simp [results, Try.f34, go_sem, hc5]
end Go.Proofs.Ytknpdkfjmhpbpaa
