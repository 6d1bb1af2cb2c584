-- Written by wip/xprint.py, gen2.py and squeeze.py of this session, over the printer of the kit; not that printer's own output.
import Derived.Test.YtoemgjlkjnkdbaaPSx0
import Derived.Test.YtoemgjlkjnkdbaaPSx1
import Derived.Sort.BigQuietIn
import Derived.RangeFuncCalls
import Derived.AtR
import Derived.RangeFuncNested
import Derived.RangeFuncBound
import Derived.RangeFuncLeaves
import Derived.RangeFuncBox
import Derived.Shelf.Abstract
import Derived.Shelf.RegionOpen
import Derived.OwnWalkIn
import Derived.TacticsInMore
import Derived.LoopNIn
import Derived.LoopIn
import Derived.Lib.Hide
namespace Go.Proofs.Ytoemgjlkjnkdbaa.PS
open Go.RowKit Go.Proofs.YtoemgjlkjnkdbaaW.PrintWords Go.Proofs.YtoemgjlkjnkdbaaW.PrintLast
open Go.Proofs.YtoemgjlkjnkdbaaW.PrintWords renaming pw_below_drewN → bN
open Option renaming bind_eq_some_iff → oB
open Option.some renaming inj → oI
set_option linter.unusedVariables false
set_option linter.unusedSimpArgs false

def rules_Find.l0 : Nat → List (S35) → Int → Int → Int → Option (Int)
 | 0, _, _, _, _ => none
 | k + 1, x0, x2, x3, x5 => if x5 < (x0.length : Int) then ((rules_Skip.f k x0 x5).bind fun t114 => (if 0 ≤ x5 then (if ((rd_T35 x0 x5).f0) = x2 then (some x5) else (if ((rd_T35 x0 x5).f0) = x3 then (some x5) else (rules_Find.l0 k x0 x2 x3 t114))) else (none))) else (some (x0.length : Int))
def rules_Find.f (k : Nat) (l0 : List (S35)) (a1 : Int) (a2 : Int) (a3 : Int) : Option (Int) := if ([] : List (S35)).length + l0.length < 2932031007402 then (rules_Find.l0 k l0 a2 a3 a1) else (none)
attribute [local go_sem] Oper.semAt_some
/-- What closes a kind; 0: nothing. -/
def cl (k : Int) : Int := if k = 14 then 15 else if k = 16 ∨ k = 20 then 17 else if k = 18 then 19 else 0
/-- What is open behind a token. -/
def st1 (o : List Int) (k : Int) : List Int := if o.getLast? = some k then o.dropLast else if cl k = 0 then o else o ++ [cl k]
/-- How many tokens the thing has that begins so. -/
def skN : List S35 → List Int → Nat
 | [], _ => 0
 | t :: ts, o => if st1 o t.f0 = [] then 1 else 1 + skN ts (st1 o t.f0)
theorem skN_le : ∀ (ts : List S35) (o : List Int), skN ts o ≤ ts.length
 | [], _ => Nat.le_refl _
 | t :: ts, o => by
  have := skN_le ts (st1 o t.f0)
  simp only [skN, List.length_cons]
  split <;> omega
theorem skN_pos (t : S35) (ts : List S35) (o : List Int) : 1 ≤ skN (t :: ts) o := by simp only [skN]; split <;> omega
theorem closing_f (k : Nat) (a : Int) : rules_closing.f (k + 1) a = some (cl a) := by
 unfold rules_closing.f cl
 by_cases h : a = 14
 ·rw [if_pos h, if_pos h]
 ·rw [if_neg h, if_neg h]
  by_cases h2 : a = 16
  ·rw [if_pos h2, if_pos (.inl h2)]; simp [rules_closing.j0, h2]
  ·rw [if_neg h2]
   by_cases h3 : a = 20
   ·rw [if_pos (.inr h3)]; simp [rules_closing.j0, h3]
   ·rw [if_neg (by simp [h2, h3])]
    simp only [rules_closing.j0]
    rw [if_neg (by simpa using h3)]
    split <;> rfl
theorem rdT (x0 : List S35) (i : Nat) (h : i < x0.length) : rd_T35 x0 (i : Int) = x0[i] := by
 simp [rd_T35, h]
theorem w64 (n : Int) (h1 : -9223372036854775808 ≤ n) (h2 : n ≤ 9223372036854775807) : wrap64 n = n := by unfold wrap64; omega
theorem skip_l0 (x0 : List S35) (hb : x0.length < 2932031007402) : ∀ (d i : Nat) (o : List Int) (k : Nat), x0.length - i = d → i ≤ x0.length → o.length ≤ i → 2 * d + 2 ≤ k →
  rules_Skip.l0 k x0 i o = some ((i + skN (x0.drop i) o : Nat) : Int) := by
 intro d
 induction d with
 | zero =>
  intro i o k hd hi ho hk; obtain ⟨k, rfl⟩ : ∃ m, k = m + 1 := ⟨k - 1, by omega⟩
  simp only [rules_Skip.l0]
  rw [if_neg (by omega), List.drop_eq_nil_of_le (by omega)]
  simp [skN]
 | succ d ih =>
  intro i o k hd hi ho hk; obtain ⟨k, rfl⟩ : ∃ m, k = m + 3 := ⟨k - 3, by omega⟩
  have hlt : i < x0.length := by omega
  have hw : wrap64 ((i : Int) + 1) = ((i + 1 : Nat) : Int) := by rw [w64 _ (by omega) (by omega)]; omega
  have fin : ∀ o', o' = st1 o x0[i].f0 → o'.length ≤ i + 1 → (if (o'.length : Int) = 0 then some (wrap64 ((i : Int) + 1)) else rules_Skip.l0 (k + 1) x0 (wrap64 ((i : Int) + 1)) o') = some ((i + skN (x0.drop i) o : Nat) : Int) := by
   intro o' ho' hl; rw [List.drop_eq_getElem_cons hlt]
   simp only [skN]
   rw [← ho', hw]
   by_cases h : o' = []
   ·rw [if_pos (by rw [h]; rfl), if_pos h]
   ·rw [if_neg (by have := List.length_pos_iff.2 h; omega), if_neg h, ih (i + 1) o' (k + 1) (by omega) (by omega) hl (by omega)]
    congr 2
    omega
  have hj : ∀ b : Bool, b = decide (o.getLast? = some x0[i].f0) → rules_Skip.j2 (k + 2) x0 i o o.length b = some ((i + skN (x0.drop i) o : Nat) : Int) := by
   intro b hbb
   simp only [rules_Skip.j2]
   cases b with
   | true =>
    have hl : o.getLast? = some x0[i].f0 := by simpa using hbb.symm
    have hne : o ≠ [] := by rintro rfl; simp at hl
    have hp := List.length_pos_iff.2 hne
    have hw2 : wrap64 ((o.length : Int) - 1) = ((o.length - 1 : Nat) : Int) := by rw [w64 _ (by omega) (by omega)]; omega
    rw [if_pos rfl, hw2, if_pos (by omega), if_pos (by omega), Option.bind_some]
    refine fin _ ?_ ?_
    ·unfold st1
     rw [if_pos hl, List.dropLast_eq_take]
     simp
    ·simp; omega
   | false =>
    have hl : ¬ o.getLast? = some x0[i].f0 := by simpa using hbb.symm
    rw [if_neg (by simp), if_pos (by omega), if_pos (by omega), rdT _ _ hlt, closing_f, Option.bind_some]
    by_cases hc : cl x0[i].f0 = 0
    ·rw [if_pos hc]
     refine fin _ ?_ (by omega)
     unfold st1
     rw [if_neg hl, if_pos hc]
    ·rw [if_neg hc, if_pos (by omega), Option.bind_some]
     refine fin _ ?_ (by simp; omega)
     unfold st1
     rw [if_neg hl, if_neg hc]
  show rules_Skip.l0 (k + 2 + 1) x0 i o = _
  simp only [rules_Skip.l0]
  rw [if_pos (by omega)]
  by_cases hne : o = []
  ·subst hne; rw [if_neg (by simp)]
   exact hj false (by simp)
  ·have hp := List.length_pos_iff.2 hne
   have hw2 : wrap64 ((o.length : Int) - 1) = ((o.length - 1 : Nat) : Int) := by rw [w64 _ (by omega) (by omega)]; omega
   rw [if_pos (by omega), if_pos (by omega), hw2, if_pos (by omega), if_pos (by omega)]
   refine hj _ ?_
   rw [rdT _ _ hlt, List.getLast?_eq_getElem?]; obtain ⟨z, hz⟩ : ∃ z, o[o.length - 1]? = some z := ⟨o[o.length - 1]'(by omega), List.getElem?_eq_getElem (by omega)⟩
   have hr : rd o ((o.length - 1 : Nat) : Int) = z := by
    unfold rd
    rw [Int.toNat_natCast, List.getD_eq_getElem?_getD, hz]
    rfl
   rw [hz, hr]
   by_cases h : x0[i].f0 = z
   ·rw [beq_iff_eq.2 h, decide_eq_true (by rw [h])]
   ·rw [beq_eq_false_iff_ne.2 h, decide_eq_false (fun e => h (oI e).symm)]
/-- Where the thing ends that begins at a token. -/
def skV (x0 : List S35) (i : Nat) : Nat := i + skN (x0.drop i) []
theorem skV_le (x0 : List S35) (i : Nat) (h : i ≤ x0.length) : skV x0 i ≤ x0.length := by
 have := skN_le (x0.drop i) []
 simp at this
 unfold skV
 omega
theorem skV_lt (x0 : List S35) (i : Nat) (h : i < x0.length) : i < skV x0 i := by
 unfold skV
 rw [List.drop_eq_getElem_cons h]; have := skN_pos x0[i] (x0.drop (i + 1)) []
 omega
theorem skip_f (x0 : List S35) (hb : x0.length < 2932031007402) (i k : Nat) (hi : i < x0.length) (hk : 2 * x0.length + 3 ≤ k) : rules_Skip.f k x0 i = some (skV x0 i : Int) := by
 obtain ⟨k, rfl⟩ : ∃ m, k = m + 1 := ⟨k - 1, by omega⟩
 unfold rules_Skip.f
 rw [if_neg (by omega), decide_eq_false (by omega)]
 simp only [rules_Skip.j0]
 rw [if_neg (by simp), skip_l0 x0 hb (x0.length - i) i [] k rfl (by omega) (by simp) (by omega)]
 rfl
theorem opIn_round {F : Fence} {l n : Nat} {P : Program} {o : Oper} {a : Act} {w : World} {K : Act → World → Prop} {Q : Exit → Act → World → Prop} (hro : F.round = none) (hd : ∀ c, o.op ≠ .defer c) (h : o.wpIn F n P a w K Q) : o.wpIn (F.inRound l) n P a w K Q := by
 refine ⟨h.1, ?_⟩
 have h2 := h.2; rw [hro, Oper.semAt_none] at h2; rw [Fence.inRound_round, Oper.semAt_eq _ _ _ hd]
 exact h2
theorem anyIn_round {F : Fence} {l n : Nat} {P : Program} {md : Region.Mode} {ops : Array Oper} {Q : Exit → Act → World → Prop} (hro : F.round = none) (hd : ∀ (i : Nat) (o : Oper), ops[i]? = some o → ∀ c, o.op ≠ .defer c) :
  ∀ (fuel : Nat) (listed : Array Bool) (a : Act) (w : World), wpAnyIn F n P md ops Q fuel listed a w → wpAnyIn (F.inRound l) n P md ops Q fuel listed a w
 | 0, _, _, _, h => h
 | fuel + 1, listed, a, w, h => ⟨h.1, fun i hi => by
  have h2 := wpOpIn_mono (fun a w => anyIn_round (l := l) hro hd fuel (listed.setIfInBounds i true) a w) (h.2 i hi)
  unfold wpOpIn at h2 ⊢
  split
  ·rename_i ho
   simp only [ho] at h2
   exact h2
  ·rename_i o ho
   simp only [ho] at h2
   split
   ·rename_i hw
    simp only [hw, if_true] at h2
    exact opIn_round hro (hd i o ho) h2
   ·rename_i hw
    simp only [hw] at h2
    exact h2⟩
/-- A region that draws its order and only reads, within a round: one walk serves. -/
theorem quiet_round {F : Fence} {n r : Nat} {P : Program} {id : Nat} {Q : Exit → Act → World → Prop} {a : Act} {w : World} {l : List Oper} (hro : F.round = none) (hd : (l.all fun o => match o.op with | .defer _ => false | _ => true) = true) (hm : P.follows .mixedOrders = true) (hB : Region.lexB .any l.toArray = true)
  (h : wpQuietIn F n P l.toArray (fun w' => ∃ n, w' = w.drewN n) (fun a' => ∀ w', (∃ n, w' = w.drewN n) → Q .normal a' w') l a) : (Code.region id l.toArray true).wpIn (F.inRound r) n P Q a w := by
 simp only [Region.lexB, Bool.and_eq_true] at hB
 refine wpIn_region_any hm (anyIn_round hro ?_ _ _ _ _ (wpAnyIn_of_quiet (C := fun w' => ∃ n, w' = w.drewN n) (Q := fun a' => ∀ w', (∃ n, w' = w.drewN n) → Q .normal a' w') hro (fun _ w' hw' h => h w' hw') _ _ _ _ ⟨1, rfl⟩ ?_))
 ·intro i o ho c hc; have h1 := List.all_eq_true.1 hd o (by simpa using List.mem_of_getElem? (by simpa using ho)); rw [hc] at h1
  cases h1
 ·have := wpAnyQIn_lex (F := F) (n := n) (C := fun w' => ∃ n, w' = w.drewN n) (md := .any) hB.1 l 0 (Array.replicate l.toArray.size false) a (by simp) (by simpa using hB.2) h
  simpa using this
/-- The things that begin at i, one behind the other; j: behind the last. -/
def Chn (x0 : List S35) : Nat → List { p : Nat // p < x0.length } → Nat → Prop
 | i, [], j => i = j
 | i, p :: ps, j => p.1 = i ∧ Chn x0 (skV x0 i) ps j
theorem Chn.snoc {x0 : List S35} : ∀ {i : Nat} {ps : List { p : Nat // p < x0.length }} {j : Nat} (h : Chn x0 i ps j) (hj : j < x0.length), Chn x0 i (ps ++ [⟨j, hj⟩]) (skV x0 j)
 | i, [], j, h, hj => by
  obtain rfl : i = j := h
  exact ⟨rfl, rfl⟩
 | i, p :: ps, j, h, hj => ⟨h.1, Chn.snoc h.2 hj⟩
theorem Chn.len {x0 : List S35} : ∀ {i : Nat} {ps : List { p : Nat // p < x0.length }} {j : Nat} (h : Chn x0 i ps j), i + ps.length ≤ j
 | i, [], j, h => by
  obtain rfl : i = j := h
  simp
 | i, p :: ps, j, h => by
  obtain ⟨rfl, h2⟩ := h; have := Chn.len h2; have := skV_lt x0 p.1 p.2
  simp
  omega
theorem skip_ev (x0 : List S35) (hb : x0.length < 2932031007402) (i k : Nat) (hi : i < x0.length) (t : Int) (h : rules_Skip.f k x0 i = some t) : t = skV x0 i := by
 have h1 := at_rounds (g := fun k => rules_Skip.f k x0 i) (fun k => rules_Skip.mono x0 i k) (Nat.le_max_left k (2 * x0.length + 3)) h; have h2 := skip_f x0 hb i (max k (2 * x0.length + 3)) hi (Nat.le_max_right _ _)
 exact oI (h1.symm.trans h2)
/-- Does a thing begin so? -/
def hit (x0 : List S35) (a2 a3 : Int) (p : { p : Nat // p < x0.length }) : Prop := x0[p.1].f0 = a2 ∨ x0[p.1].f0 = a3
theorem find_step (x0 : List S35) (hb : x0.length < 2932031007402) (a2 a3 : Int) (k i : Nat) (r : Int) (hi : i < x0.length) (h : rules_Find.l0 k x0 a2 a3 i = some r) :
  (hit x0 a2 a3 ⟨i, hi⟩ ∧ r = i) ∨ (¬ hit x0 a2 a3 ⟨i, hi⟩ ∧ ∃ k', rules_Find.l0 k' x0 a2 a3 (skV x0 i) = some r) := by
 cases k with
 | zero => simp [rules_Find.l0] at h
 | succ k =>
  simp only [rules_Find.l0] at h
  rw [if_pos (by omega)] at h; obtain ⟨t, ht, h⟩ := oB.1 h; obtain rfl := skip_ev x0 hb i k hi t ht; rw [if_pos (by omega), rdT _ _ hi] at h
  by_cases c1 : x0[i].f0 = a2
  ·rw [if_pos c1] at h
   exact .inl ⟨.inl c1, (oI h).symm⟩
  ·rw [if_neg c1] at h
   by_cases c2 : x0[i].f0 = a3
   ·rw [if_pos c2] at h
    exact .inl ⟨.inr c2, (oI h).symm⟩
   ·rw [if_neg c2] at h
    exact .inr ⟨fun e => e.elim c1 c2, k, h⟩
theorem find_end (x0 : List S35) (a2 a3 : Int) (k i : Nat) (r : Int) (hi : x0.length ≤ i) (h : rules_Find.l0 k x0 a2 a3 i = some r) : r = x0.length := by
 cases k with
 | zero => simp [rules_Find.l0] at h
 | succ k =>
  simp only [rules_Find.l0] at h
  rw [if_neg (by omega)] at h
  exact (oI h).symm
theorem find_none (x0 : List S35) (hb : x0.length < 2932031007402) (a2 a3 r : Int) : ∀ (ys : List { p : Nat // p < x0.length }) (i j k : Nat), rules_Find.l0 k x0 a2 a3 i = some r → Chn x0 i ys j → x0.length ≤ j → (∀ y ∈ ys, ¬ hit x0 a2 a3 y) → r = x0.length
 | [], i, j, k, h, hc, hj, hn => by
  obtain rfl : i = j := hc
  exact find_end x0 a2 a3 k i r hj h
 | p :: ps, i, j, k, h, hc, hj, hn => by
  obtain ⟨rfl, h2⟩ := hc; rcases find_step x0 hb a2 a3 k p.1 r p.2 h with ⟨h3, _⟩ | ⟨_, k', h3⟩
  ·exact absurd h3 (hn p (by simp))
  ·exact find_none x0 hb a2 a3 r ps _ j k' h3 h2 hj (fun y hy => hn y (by simp [hy]))
theorem find_hit (x0 : List S35) (hb : x0.length < 2932031007402) (a2 a3 r : Int) : ∀ (ys : List { p : Nat // p < x0.length }) (x : { p : Nat // p < x0.length }) (i j k : Nat), rules_Find.l0 k x0 a2 a3 i = some r → Chn x0 i (ys ++ [x]) j → (∀ y ∈ ys, ¬ hit x0 a2 a3 y) → hit x0 a2 a3 x → r = x.1
 | [], x, i, j, k, h, hc, hn, hx => by
  obtain ⟨rfl, h2⟩ := hc; rcases find_step x0 hb a2 a3 k x.1 r x.2 h with ⟨_, h3⟩ | ⟨h3, _⟩
  ·exact h3
  ·exact absurd hx h3
 | p :: ps, x, i, j, k, h, hc, hn, hx => by
  obtain ⟨rfl, h2⟩ := hc; rcases find_step x0 hb a2 a3 k p.1 r p.2 h with ⟨h3, _⟩ | ⟨_, k', h3⟩
  ·exact absurd h3 (hn p (by simp))
  ·exact find_hit x0 hb a2 a3 r ps x _ j k' h3 h2 (fun y hy => hn y (by simp [hy])) hx

theorem grownOfBelow {A B : World} (h : Below A.heap.size A B) : A.grownBy B none := ⟨h.os, h.tape, h.output, h.size, fun k hk _ => h.block k hk⟩

set_option maxRecDepth 100000 in
set_option maxHeartbeats 1000000 in
theorem things1_in (l0 : List S35) (hb : l0.length < 2932031007402) (A0 : Option Addr) (c0 : Nat) (hc0 : l0.length ≤ c0) (w0 : World) (hr0 : Kd.C k35 w0 A0 l0.length l0) (n n₁ Bt Bf i0 : Nat) (hn : 1 ≤ n)
  (hn1 : w0.heap.size ≤ n₁) (hBt : Bt < n₁) (hBf : Bf < n₁) (l : Nat) (J Jx : List { p : Nat // p < l0.length } → World → Prop) (hJ : ∀ s A B, J s A → A.grownBy B none → J s B)
  (hY : ∀ pre x W, J pre W → pre.length < l0.length → YieldAt Fence.wide (n - 1) Try.prog l #[.int .i64 (x.1 : Int), .int .i64 (skV l0 x.1 : Int)] W fun e W' =>
   (e = .returned (.bool true) ∧ J (pre ++ [x]) W' ∧ Below n₁ W W') ∨ (e = .returned (.bool false) ∧ Jx (pre ++ [x]) W'))
  (W : World) (hW1 : n₁ ≤ W.heap.size) (hB : Below w0.heap.size w0 W) (b1 : Boxed W Bt 22 (.slice A0 l0.length c0)) (b2 : Boxed W Bf 3 (.int .i64 (i0 : Int))) (h0 : J [] W) :
  CallsIn Fence.wide n Try.prog 49 #[.func (.yield l) #[] #[], .pointer (some ⟨Bf, 0, none⟩), .pointer (some ⟨Bt, 0, none⟩)] W fun e W' => (∃ v, e = .returned v) ∧
   ((∃ ys, (∃ j, Chn l0 i0 ys j ∧ l0.length ≤ j) ∧ J ys W') ∨ (∃ pre, (∃ j, Chn l0 i0 pre j) ∧ Jx pre W')) := by
 refine callsIn_of_wp Try.func49 rfl trivial ?_ rfl
 simp only [Try.ntmps49, List.size_toArray, List.length_cons, List.length_nil, Nat.reduceAdd, Nat.reduceSub, Array.replicate_succ, Array.replicate_zero, List.push_toArray, List.append_toArray, List.nil_append, List.cons_append]
 have cf := b2.cell; have HB1 := Lib.hid b1; have HB2 := Lib.hid b2; have HC := Lib.hid hr0; have HJ := Lib.hid hJ; clear b1 b2 hr0 hJ
 gi_wp2
 gi_loopw [4] (fun i wr => ∃ (k : Nat) (pre : List { p : Nat // p < l0.length }), i = .int .i64 (k : Int) ∧ Chn l0 i0 pre k ∧ n₁ ≤ wr.heap.size ∧ Hid (Below w0.heap.size w0 wr) ∧ Boxed wr Bt 22 (.slice A0 l0.length c0) ∧ J pre wr) (fun i _ => l0.length - (intOf i).toNat)
 case atStart => exact ⟨i0, [], rfl, rfl, hW1, hB, HB1.out, h0⟩
 case round =>
  obtain ⟨k, pre, rfl, hch, hsz, hbl, hbt, hJs⟩ := hrel; clear cf HB1 HB2 hW1 hB h0; have hc := hbt.cell
  by_cases hlt : k < l0.length
  ·have hlt2 : (k : Int) < (l0.length : Int) := by omega
   have hlt3 : decide ((k : Int) < (l0.length : Int)) = true := decide_eq_true hlt2; have HSK := Lib.hid (rules_Skip.calls (2 * l0.length + 3) A0 c0 l0 k (skV l0 k) wr (Kd.C_below HC.out hbl.out) hc0 (skip_f l0 hb k _ hlt (Nat.le_refl _))); have HBT := Lib.hid hbt; have hch2 := Lib.hid (hch.snoc hlt)
   have hlen : pre.length < l0.length := by have := hch.len; omega
   have hvle := skV_le l0 k (by omega); have hvlt := skV_lt l0 k hlt; clear hbt hch
   gi_wp2_with (refine ⟨trivial, ?_⟩; gi_at_call 17; refine (callsIn_wide.2 HSK.out).mono ?_; rintro e w2 ⟨rfl, hb2⟩; obtain ⟨fn, tmps, assign, body, hy, hR⟩ := hY pre ⟨k, hlt⟩ w2 (HJ.out pre wr w2 hJs (grownOfBelow hb2)) hlen)
   refine hR.mono ?_
   rintro e W3 (⟨rfl, hJ3, hk3⟩ | ⟨rfl, hJx3⟩)
   ·gi_wp2
    go_roundw
    case rel => exact ⟨skV l0 k, _, rfl, hch2.out, Nat.le_trans hsz (Nat.le_trans hb2.size hk3.size), (hbl.out.trans (hb2.mono (Nat.le_trans hn1 hsz))).trans (hk3.mono hn1), ((hk3.block _ hBt).trans (hb2.block _ (by omega))).trans HBT.out, hJ3⟩
    case measure => simp [intOf]; omega
   ·gi_wp2
    refine bodyPost_ret (results_none rfl _ _ _) rfl ?_
    exact ⟨⟨_, rfl⟩, .inr ⟨_, ⟨_, hch2.out⟩, hJx3⟩⟩
  ·have hge : ¬ (k : Int) < (l0.length : Int) := by omega
   have hlt3 : decide ((k : Int) < (l0.length : Int)) = false := decide_eq_false hge
   gi_wp2
   go_end0
   exact ⟨⟨_, rfl⟩, .inl ⟨_, ⟨k, hch, by omega⟩, hJs⟩⟩
set_option maxHeartbeats 1000000 in
theorem things_in (F : Fence) (n : Nat) (h_41 : F.fn 41) (hro : F.round = none) (v : Value) (a : Int) (hv : v.oneCell' = true) (w : World) :
  CallsIn F n Try.prog 41 #[v, .int .i64 a] w fun e w' => e = .returned (.func (.func 49) #[] #[.pointer (some ⟨w.heap.size + 1, 0, none⟩), .pointer (some ⟨w.heap.size, 0, none⟩)]) ∧ w' = (w.alloc (.cells #[v] 22)).alloc (.cells #[.int .i64 a] 3) := by
 refine callsIn_of_wp Try.func41 rfl h_41 ?_ hro
 simp only [Try.ntmps41, List.size_toArray, List.length_cons, List.length_nil, Nat.reduceAdd, Nat.reduceSub, Array.replicate_succ, Array.replicate_zero, List.push_toArray, List.append_toArray, List.nil_append, List.cons_append]
 gi_wp2
 go_ret
 exact ⟨rfl, rfl⟩
theorem things_stops (l0 : List S35) (hb : l0.length < 2932031007402) (A0 : Option Addr) (c0 : Nat) (hc0 : l0.length ≤ c0) (w0 : World) (hr0 : Kd.C k35 w0 A0 l0.length l0) (Bt Bf i0 : Nat)
  (w : World) (hB : Below w0.heap.size w0 w) (b1 : Boxed w Bt 22 (.slice A0 l0.length c0)) (b2 : Boxed w Bf 3 (.int .i64 (i0 : Int))) :
  SeqStopsK Fence.wide 4 Try.prog 49 #[.pointer (some ⟨Bf, 0, none⟩), .pointer (some ⟨Bt, 0, none⟩)] (fun x : { p : Nat // p < l0.length } => #[.int .i64 (x.1 : Int), .int .i64 (skV l0 x.1 : Int)]) (Below w.heap.size)
   (fun ys => ∃ j, Chn l0 i0 ys j ∧ l0.length ≤ j) (fun pre => ∃ j, Chn l0 i0 pre j) l0.length w := fun l J Jx W hW hJ hJx hY h0 =>
 things1_in l0 hb A0 c0 hc0 w0 hr0 4 w.heap.size Bt Bf i0 (by omega) hB.size b1.lt b2.lt l J Jx (fun s A B h hg => hJ s A B none h hg (fun r e => by cases e)) hY W hW.size (hB.trans (hW.mono hB.size)) ((hW.block _ b1.lt).trans b1) ((hW.block _ b2.lt).trans b2) h0
theorem keepsDrewN (W : World) (n : Nat) : KeepsOthers W (W.drewN n) := ⟨Nat.le_refl _, fun _ _ h _ => h⟩
theorem boxKept {A B : World} {row : Option Nat} {C b : Nat} {t : TypeId} {v : Value} (h : Boxed A b t v) (hg : A.grownBy B row) (hr : ∀ r, row = some r → C ≤ r ∧ ∃ o : Obj, A.heap[r]? = some o ∧ o.isCells = false) : Boxed B b t v :=
 h.kept hg (fun e => by
  obtain ⟨_, o, ho, hc⟩ := hr b e.symm; rw [show A.heap[b]? = _ from h] at ho
  cases ho
  cases hc)
set_option maxRecDepth 100000 in
set_option maxHeartbeats 4000000 in
theorem find_in (k : Nat) (A0 : Option Addr) (c0 : Nat) (l0 : List S35) (i0 : Nat) (a2 a3 r : Int) (w : World) (hr0 : Kd.C k35 w A0 l0.length l0) (hc0 : l0.length ≤ c0) (hb : l0.length < 2932031007402) (h : rules_Find.l0 k l0 a2 a3 i0 = some r) :
  Calls Try.prog 23 #[.slice A0 l0.length c0, .int .i64 i0, .int .i64 a2, .int .i64 a3] w fun e w' => e = .returned (.int .i64 r) ∧ Below w.heap.size w w' := by
 have HH := Lib.hid h; have HC := Lib.hid hr0; clear h hr0
 refine (callsIn_wide (n := 5)).1 ?_
 refine callsIn_of_wp_marks Try.func23 rfl trivial ?_ rfl
 simp only [Try.ntmps23, List.size_toArray, List.length_cons, List.length_nil, Nat.reduceAdd, Nat.reduceSub, Array.replicate_succ, Array.replicate_zero, List.push_toArray, List.append_toArray, List.nil_append, List.cons_append]
 gi_wp2_with (refine ⟨trivial, ?_⟩; gi_at_call 41; refine (things_in Fence.wide _ trivial rfl _ _ rfl _).mono ?_; rintro e w' ⟨rfl, rfl⟩)
 have bt : Boxed ((((((w.alloc (.cells #[.slice A0 l0.length c0] 22)).alloc (.cells #[.int .i64 a2] 3)).alloc (.cells #[.int .i64 a3] 3)).alloc (.cells #[.int .i64 0] 3)).alloc (.cells #[.slice A0 l0.length c0] 22)).alloc (.cells #[.int .i64 i0] 3)) w.heap.size 22 (.slice A0 l0.length c0) :=
  (((((Boxed.new w 22 (.slice A0 l0.length c0)).alloc _).alloc _).alloc _).alloc _).alloc _
 have b2 : Boxed ((((((w.alloc (.cells #[.slice A0 l0.length c0] 22)).alloc (.cells #[.int .i64 a2] 3)).alloc (.cells #[.int .i64 a3] 3)).alloc (.cells #[.int .i64 0] 3)).alloc (.cells #[.slice A0 l0.length c0] 22)).alloc (.cells #[.int .i64 i0] 3)) (w.heap.size + 1) 3 (.int .i64 a2) := by
  have := Boxed.new (w.alloc (.cells #[.slice A0 l0.length c0] 22)) 3 (.int .i64 a2); rw [World.size_alloc] at this
  exact (((this.alloc _).alloc _).alloc _).alloc _
 have b3 : Boxed ((((((w.alloc (.cells #[.slice A0 l0.length c0] 22)).alloc (.cells #[.int .i64 a2] 3)).alloc (.cells #[.int .i64 a3] 3)).alloc (.cells #[.int .i64 0] 3)).alloc (.cells #[.slice A0 l0.length c0] 22)).alloc (.cells #[.int .i64 i0] 3)) (w.heap.size + 1 + 1) 3 (.int .i64 a3) := by
  have := Boxed.new ((w.alloc (.cells #[.slice A0 l0.length c0] 22)).alloc (.cells #[.int .i64 a2] 3)) 3 (.int .i64 a3); rw [World.size_alloc, World.size_alloc] at this
  exact ((this.alloc _).alloc _).alloc _
 have b4 : Boxed ((((((w.alloc (.cells #[.slice A0 l0.length c0] 22)).alloc (.cells #[.int .i64 a2] 3)).alloc (.cells #[.int .i64 a3] 3)).alloc (.cells #[.int .i64 0] 3)).alloc (.cells #[.slice A0 l0.length c0] 22)).alloc (.cells #[.int .i64 i0] 3)) (w.heap.size + 1 + 1 + 1) 3 (.int .i64 0) := by
  have := Boxed.new (((w.alloc (.cells #[.slice A0 l0.length c0] 22)).alloc (.cells #[.int .i64 a2] 3)).alloc (.cells #[.int .i64 a3] 3)) 3 (.int .i64 0); rw [World.size_alloc, World.size_alloc, World.size_alloc] at this
  exact (this.alloc _).alloc _
 have b5 : Boxed ((((((w.alloc (.cells #[.slice A0 l0.length c0] 22)).alloc (.cells #[.int .i64 a2] 3)).alloc (.cells #[.int .i64 a3] 3)).alloc (.cells #[.int .i64 0] 3)).alloc (.cells #[.slice A0 l0.length c0] 22)).alloc (.cells #[.int .i64 i0] 3)) (w.heap.size + 1 + 1 + 1 + 1) 22 (.slice A0 l0.length c0) := by
  have := Boxed.new ((((w.alloc (.cells #[.slice A0 l0.length c0] 22)).alloc (.cells #[.int .i64 a2] 3)).alloc (.cells #[.int .i64 a3] 3)).alloc (.cells #[.int .i64 0] 3)) 22 (.slice A0 l0.length c0); rw [World.size_alloc, World.size_alloc, World.size_alloc, World.size_alloc] at this
  exact this.alloc _
 have b6 : Boxed ((((((w.alloc (.cells #[.slice A0 l0.length c0] 22)).alloc (.cells #[.int .i64 a2] 3)).alloc (.cells #[.int .i64 a3] 3)).alloc (.cells #[.int .i64 0] 3)).alloc (.cells #[.slice A0 l0.length c0] 22)).alloc (.cells #[.int .i64 i0] 3)) (w.heap.size + 1 + 1 + 1 + 1 + 1) 3 (.int .i64 i0) := by
  have := Boxed.new (((((w.alloc (.cells #[.slice A0 l0.length c0] 22)).alloc (.cells #[.int .i64 a2] 3)).alloc (.cells #[.int .i64 a3] 3)).alloc (.cells #[.int .i64 0] 3)).alloc (.cells #[.slice A0 l0.length c0] 22)) 3 (.int .i64 i0); rw [World.size_alloc, World.size_alloc, World.size_alloc, World.size_alloc, World.size_alloc] at this
  exact this
 have hB0 : Below w.heap.size w ((((((w.alloc (.cells #[.slice A0 l0.length c0] 22)).alloc (.cells #[.int .i64 a2] 3)).alloc (.cells #[.int .i64 a3] 3)).alloc (.cells #[.int .i64 0] 3)).alloc (.cells #[.slice A0 l0.length c0] 22)).alloc (.cells #[.int .i64 i0] 3)) :=
  ((((((Below.refl _ w).alloc (Nat.le_refl _) _).alloc (by simp) _).alloc (by simp; omega) _).alloc (by simp; omega) _).alloc (by simp; omega) _).alloc (by simp; omega) _
 generalize hw0 : ((((((w.alloc (.cells #[.slice A0 l0.length c0] 22)).alloc (.cells #[.int .i64 a2] 3)).alloc (.cells #[.int .i64 a3] 3)).alloc (.cells #[.int .i64 0] 3)).alloc (.cells #[.slice A0 l0.length c0] 22)).alloc (.cells #[.int .i64 i0] 3)) = w1 at *
 have hlt := b6.lt; clear hw0
 refine wpIn_rangeFunc_ownG rfl (by omega) (gf := 49) (lb := #[.pointer (some ⟨w.heap.size + 1 + 1 + 1 + 1 + 1, 0, none⟩), .pointer (some ⟨w.heap.size + 1 + 1 + 1 + 1, 0, none⟩)]) rfl trivial (enters_of Try.func49 (by kernel_rfl) rfl)
  (things_stops l0 hb A0 c0 hc0 w HC.out (w.heap.size + 1 + 1 + 1 + 1) (w.heap.size + 1 + 1 + 1 + 1 + 1) i0 w1 hB0 b5 b6) belowK_t (belowK_b (Nat.le_refl _)) (Below.refl _ _) (fun _ => rfl)
  (fun pre W => (∀ y ∈ pre, ¬ hit l0 a2 a3 y) ∧ Boxed W w.heap.size 22 (.slice A0 l0.length c0) ∧ Boxed W (w.heap.size + 1) 3 (.int .i64 a2) ∧ Boxed W (w.heap.size + 1 + 1) 3 (.int .i64 a3) ∧ Boxed W (w.heap.size + 1 + 1 + 1) 3 (.int .i64 0) ∧ Below w.heap.size w W)
  (fun c pre W => c = .ret ∧ (∃ pre' x, pre = pre' ++ [x] ∧ (∀ y ∈ pre', ¬ hit l0 a2 a3 y) ∧ hit l0 a2 a3 x ∧ Boxed W (w.heap.size + 1 + 1 + 1) 3 (.int .i64 (x.1 : Int))) ∧ Below w.heap.size w W)
  (fun s A B row hs hg hr => ⟨hs.1, boxKept hs.2.1 hg hr, boxKept hs.2.2.1 hg hr, boxKept hs.2.2.2.1 hg hr, boxKept hs.2.2.2.2.1 hg hr, hs.2.2.2.2.2.grown hg hs.2.2.2.2.2.size (fun k e => by have := (hr k e).1; omega)⟩)
  (fun c s A B row hs hg hr => ⟨hs.1, by obtain ⟨pre', x, h1, h2, h3, h4⟩ := hs.2.1; exact ⟨pre', x, h1, h2, h3, boxKept h4 hg hr⟩, hs.2.2.grown hg hs.2.2.size (fun k e => by have := (hr k e).1; omega)⟩)
  ⟨by simp, bt, b2, b3, b4, hB0⟩
  (fun x => { tmps := #[Value.slice A0 l0.length c0, Value.int IntKind.i64 ↑i0, Value.int IntKind.i64 a2, Value.int IntKind.i64 a3,
     Value.pointer (some { block := w.heap.size, off := 0 }), undef,
     Value.pointer (some { block := w.heap.size + 1, off := 0 }),
     Value.pointer (some { block := w.heap.size + 1 + 1, off := 0 }),
     Value.pointer (some { block := w.heap.size + 1 + 1 + 1, off := 0 }), .int .i64 (x.1 : Int), Value.slice A0 l0.length c0,
     Value.int IntKind.i64 ↑i0,
     Value.func (Fn.func 49) #[]
      #[Value.pointer (some { block := w.heap.size + 1 + 1 + 1 + 1 + 1, off := 0 }),
       Value.pointer (some { block := w.heap.size + 1 + 1 + 1 + 1, off := 0 })],
     .int .i64 (x.1 : Int), .int .i64 (skV l0 x.1 : Int), undef, undef, undef, undef, undef, undef, undef, undef, undef, undef, undef, undef, undef,
     undef, undef, undef, undef, undef, undef], defers := [] }) ?assign ?body ?done ?stop
 case assign =>
  intro l x W K hK
  gi_wp2
  exact hK
 case body =>
  rintro l pre x W ⟨hn, q0, q1, q2, q3, hB⟩ hlt1
  have hx := x.2; obtain ⟨ad, rfl, e0, -⟩ := at_T35 (Kd.C_below HC.out hB) (x.1 : Int) (by omega) (by omega); rw [rdT _ _ hx] at e0
  simp only [Int.toNat_natCast] at e0
  have HI := Lib.hid (show hit l0 a2 a3 x ↔ ((l0[x.1]'hx).f0 = a2 ∨ (l0[x.1]'hx).f0 = a3) from Iff.rfl)
  have hm : Try.prog.follows .mixedOrders = true := by kernel_rfl
  generalize (l0[x.1]'hx).f0 = f at *
  have k0 := q0.cell; have k1 := q1.cell; have k2 := q2.cell; have k3 := q3.cell; have z3 := q3.frozen
  have i1 : (x.1 : Int) < (l0.length : Int) := by omega
  have Q0 := Lib.hid q0; have Q1 := Lib.hid q1; have Q2 := Lib.hid q2; have Q3 := Lib.hid q3; have HN := Lib.hid hn; clear q0 q1 q2 q3 hn
  by_cases t1 : f = a2
  ·have b1 : (f == a2) = true := beq_iff_eq.2 t1; have HT := Lib.hid t1; clear t1
   gi_wp2
   refine quiet_round (F := Fence.wide) rfl (by kernel_rfl) (by kernel_rfl) (by kernel_rfl) ?_
   repeat (gi_big_quiet_step (fail))
   refine wpQuietIn_nil ?_
   intro _ hw'; obtain ⟨nq, hw''⟩ := hw'; subst hw''
   all_goals
    gi_wp2
    exact ⟨((keepsDrewN W nq).trans (KeepsOthers.setCell _ _ _)).from _, rfl, ⟨pre, x, rfl, HN.out, HI.out.2 (.inl HT.out), Q3.out.set _⟩, (bN hB nq).setCell (p := ⟨w.heap.size + 1 + 1 + 1, 0, none⟩) (by simp; omega) _⟩
  ·have b1 : (f == a2) = false := beq_eq_false_iff_ne.2 t1; have HT := Lib.hid t1; clear t1
   by_cases t2 : f = a3
   ·have b2 : (f == a3) = true := beq_iff_eq.2 t2; have HT2 := Lib.hid t2; clear t2
    gi_wp2
    refine quiet_round (F := Fence.wide) rfl (by kernel_rfl) (by kernel_rfl) (by kernel_rfl) ?_
    repeat (gi_big_quiet_step (fail))
    refine wpQuietIn_nil ?_
    intro _ hw'; obtain ⟨nq, hw''⟩ := hw'; subst hw''
    all_goals
     gi_wp2
     exact ⟨((keepsDrewN W nq).trans (KeepsOthers.setCell _ _ _)).from _, rfl, ⟨pre, x, rfl, HN.out, HI.out.2 (.inr HT2.out), Q3.out.set _⟩, (bN hB nq).setCell (p := ⟨w.heap.size + 1 + 1 + 1, 0, none⟩) (by simp; omega) _⟩
   ·have b2 : (f == a3) = false := beq_eq_false_iff_ne.2 t2; have HT2 := Lib.hid t2; clear t2
    gi_wp2
    refine quiet_round (F := Fence.wide) rfl (by kernel_rfl) (by kernel_rfl) (by kernel_rfl) ?_
    repeat (gi_big_quiet_step (fail))
    refine wpQuietIn_nil ?_
    intro _ hw'; obtain ⟨nq, hw''⟩ := hw'; subst hw''
    all_goals
     gi_wp2
     exact ⟨(keepsDrewN W nq).from _, bN (Below.refl _ _) nq, ⟨fun y hy => (List.mem_append.1 hy).elim (HN.out y) (fun e => by simp at e; subst e; exact fun hh => (HI.out.1 hh).elim HT.out HT2.out), Q0.out, Q1.out, Q2.out, Q3.out, bN hB nq⟩⟩
 case done =>
  rintro D ys W hD ⟨j, hch, hj⟩ ⟨hn, q0, q1, q2, q3, hB⟩ hK
  have hr := find_none l0 hb a2 a3 r ys i0 j k HH.out hch hj hn; have k0 := q0.cell; have k3 := q3.cell; have z3 := q3.frozen
  gi_wp2
  have hK' := (KeepsOthers.setCell W ⟨w.heap.size + 1 + 1 + 1, 0, none⟩ (.int .i64 (l0.length : Int))).same D _ hK rfl
  refine ⟨by simp, .inl ⟨_, _, rfl, run_takeDeferred hK', ?_⟩⟩
  have hc5 := cell_kept (q3.set (.int .i64 (l0.length : Int))).cell (grownBy_putObj' _ D (.deferred none)) (fun r e => by cases e; exact ⟨_, hK', rfl⟩)
  refine ⟨.int .i64 (l0.length : Int), ?_, by rw [hr], (hB.setCell (p := ⟨w.heap.size + 1 + 1 + 1, 0, none⟩) (by simp; omega) _).trans (belowK_b (w := w) (Nat.le_refl _) _ D _ _ (by omega) hK' rfl rfl)⟩
  simp [results, Try.f23, go_sem, hc5]
 case stop =>
  rintro D c pre W hD ⟨j, hch⟩ ⟨rfl, ⟨pre', x, rfl, hn, hx, q3⟩, hB⟩ hK
  have hr := find_hit l0 hb a2 a3 r pre' x i0 j k HH.out hch hn hx
  gi_wp2
  refine ⟨by simp, .inl ⟨_, _, rfl, run_takeDeferred hK, ?_⟩⟩
  have hc5 := cell_kept q3.cell (grownBy_putObj' _ D (.deferred none)) (fun r e => by cases e; exact ⟨_, hK, rfl⟩)
  refine ⟨.int .i64 (x.1 : Int), ?_, by rw [hr], hB.trans (belowK_b (w := w) (Nat.le_refl _) W D _ _ (by omega) hK rfl rfl)⟩
  simp [results, Try.f23, go_sem, hc5]
set_option maxHeartbeats 8000000 in
set_option maxRecDepth 100000 in
theorem rules_Find.calls (k : Nat) (A0 : Option Addr) (c0 : Nat) (l0 : List (S35)) (a1 : Int) (a2 : Int) (a3 : Int) (r : Int) (w : World) (hr0 : Kd.C k35 w A0 l0.length l0) (hc0 : l0.length ≤ c0) (h : rules_Find.f k l0 a1 a2 a3 = some r) :
  Calls Try.prog 23 #[.slice A0 l0.length c0, .int .i64 a1, .int .i64 a2, .int .i64 a3] w fun e w' => e = .returned (.int .i64 r) ∧ Below w.heap.size w w' := by
 unfold rules_Find.f at h
 by_cases hb : ([] : List S35).length + l0.length < 2932031007402
 ·rw [if_pos hb] at h
  simp only [List.length_nil, Nat.zero_add] at hb
  by_cases h1 : 0 ≤ a1
  ·obtain ⟨i0, rfl⟩ := Int.eq_ofNat_of_zero_le h1
   exact find_in k A0 c0 l0 i0 a2 a3 r w hr0 hc0 hb h
  ·exfalso
   cases k with
   | zero => simp [rules_Find.l0] at h
   | succ k =>
    simp only [rules_Find.l0] at h
    rw [if_pos (by omega)] at h; obtain ⟨t, _, h⟩ := oB.1 h; rw [if_neg h1] at h
    cases h
 ·rw [if_neg hb] at h
  cases h


end Go.Proofs.Ytoemgjlkjnkdbaa.PS
