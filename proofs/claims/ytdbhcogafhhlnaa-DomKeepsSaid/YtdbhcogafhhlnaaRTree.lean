/- The reference's New: what a tree is. As gen's seat has it. -/
import Derived.Test.YtdbhcogafhhlnaaRLowd
import Derived.Test.YtdbhcogafhhlnaaDTree
import Derived.Deep.RegionLaw
namespace Go.Proofs.Ytdbhcogafhhlnaa.R
open Go.RowKit Go.Maps Go.ChangeShapes Go.WideShapes Go.ChangeAt Go.WideMaps Go.WideElems

theorem info3 : (Try.prog.info? 3).map (fun i => (i.zero, i.size, i.bytes)) = some (some (.int .i64 0), 1, 8) := by kernel_rfl
theorem info25t : (Try.prog.info? 25).map (fun i => (i.zero, i.size, i.bytes)) = some (some (.agg #[.int .i64 0, .string ⟨#[]⟩, .string ⟨#[]⟩, .slice none 0 0, .slice none 0 0]), 5, 88) := by kernel_rfl

/-- How deep each of the first k stands. -/
def dps (ds : List NodeD) : Nat → List Int
  | 0 => []
  | k + 1 => dps ds k ++ [if k = 0 then 0 else (dps ds k).getD ((ds[k]?.map NodeD.par).getD 0).toNat 0 + 1]
def dpAt (ds : List NodeD) (k : Nat) : Int := if k = 0 then 0 else (dps ds k).getD ((ds[k]?.map NodeD.par).getD 0).toNat 0 + 1
theorem dps_succ (ds : List NodeD) (k : Nat) : dps ds (k + 1) = dps ds k ++ [dpAt ds k] := rfl
theorem dps_len (ds : List NodeD) (k : Nat) : (dps ds k).length = k := by
  induction k with
  | zero => rfl
  | succ k ih => simp [dps, ih]
def badP (k : Nat) (p : Int) : Prop := (k = 0 ∧ p ≠ -1) ∨ (0 < k ∧ (p < 0 ∨ (k : Int) ≤ p))
instance (k : Nat) (p : Int) : Decidable (badP k p) := by unfold badP; infer_instance
/-- What is wrong with the k-th node: 0: nothing. -/
def stepE (ds : List NodeD) (k : Nat) : Int := if badP k ((ds[k]?.map NodeD.par).getD 0) then 10 else if 256 < dpAt ds k then 11 else 0
def errFrom (ds : List NodeD) : Nat → Nat → Int
  | 0, _ => 0
  | n + 1, k => if stepE ds k = 0 then errFrom ds n (k + 1) else stepE ds k
/-- What New answers. -/
def errN (ds : List NodeD) : Int := if 4096 < ds.length then 3 else errFrom ds ds.length 0

theorem errFrom_skip (ds : List NodeD) (n k : Nat) (h : stepE ds k = 0) : errFrom ds (n + 1) k = errFrom ds n (k + 1) := by
  show (if stepE ds k = 0 then _ else _) = _
  rw [if_pos h]
theorem errFrom_stop (ds : List NodeD) (n k : Nat) (h : stepE ds k ≠ 0) : errFrom ds (n + 1) k = stepE ds k := by
  show (if stepE ds k = 0 then _ else _) = _
  rw [if_neg h]

/-- A lowered node's cells. -/
def IsLo (base : Nat) (w : World) (cs : List Value) (d : NodeD) : Prop :=
  ∃ sp c q o, cs = [.int .i64 d.par, .string (lowS d.tag), .string d.id, .slice sp d.cls.length c, .slice q d.att.length o] ∧ OwnsWin w base 9 1 (.slice sp d.cls.length c) d.cls.length (d.cls.map Value.string) ∧ OwnsWin w base 38 2 (.slice q d.att.length o) d.att.length (attL (lowA d.att))

theorem IsLo.keep {base : Nat} {S : Nat → Prop} {w w' : World} {cs : List Value} {d : NodeD} (h : IsLo base w cs d) (f : Fr S w w') (hS : ∀ k, S k → ∃ c t z, w.heap[k]? = some (.cells c t z) ∧ t ≠ 9 ∧ t ≠ 38) : IsLo base w' cs d := by
  obtain ⟨sp, c, q, o, e, h1, h2⟩ := h
  refine ⟨sp, c, q, o, e, h1.fr f (fun j hj e => ?_), h2.fr f (fun j hj e => ?_)⟩
  · obtain ⟨c', t, z, hk, h9, _⟩ := hS j e
    exact h1.ne hk (by intro c'' e'; cases e'; exact h9 rfl) hj.symm
  · obtain ⟨c', t, z, hk, _, h38⟩ := hS j e
    exact h2.ne hk (by intro c'' e'; cases e'; exact h38 rfl) hj.symm

def NLo (base : Nat) (w : World) (xs : List Value) (ds : List NodeD) : Prop :=
  ∃ css : List (List Value), xs = css.flatten ∧ css.length = ds.length ∧ ∀ (k : Nat) cs d, css[k]? = some cs → ds[k]? = some d → IsLo base w cs d
theorem NLo.nil (base : Nat) (w : World) : NLo base w [] [] := ⟨[], rfl, rfl, fun k cs d h => by simp at h⟩
theorem NLo.keep {base : Nat} {S : Nat → Prop} {w w' : World} {xs : List Value} {ds : List NodeD} (h : NLo base w xs ds) (f : Fr S w w') (hS : ∀ k, S k → ∃ c t z, w.heap[k]? = some (.cells c t z) ∧ t ≠ 9 ∧ t ≠ 38) : NLo base w' xs ds := by
  obtain ⟨css, h1, h2, h3⟩ := h
  exact ⟨css, h1, h2, fun k cs d a b => (h3 k cs d a b).keep f hS⟩
theorem NLo.snoc {base : Nat} {w : World} {xs cs : List Value} {ds : List NodeD} {d : NodeD} (h : NLo base w xs ds) (hd : IsLo base w cs d) : NLo base w (xs ++ cs) (ds ++ [d]) := by
  obtain ⟨css, h1, h2, h3⟩ := h
  refine ⟨css ++ [cs], by simp [h1], by simp [h2], fun k cs' d' a b => ?_⟩
  rcases Nat.lt_or_ge k css.length with hk | hk
  · rw [List.getElem?_append_left hk] at a
    rw [List.getElem?_append_left (by omega)] at b
    exact h3 k cs' d' a b
  · rw [List.getElem?_append_right hk] at a
    rw [List.getElem?_append_right (by omega)] at b
    rw [← h2] at b
    rcases Nat.eq_zero_or_pos (k - css.length) with e | e
    · rw [e] at a b
      simp at a b
      rw [← a, ← b]
      exact hd
    · rw [List.getElem?_eq_none (by simp; omega)] at a
      cases a

/-- Nodes, as they are read, wherever they lie. -/
def RdNs (w : World) (p : Option Addr) (ds : List NodeD) : Prop :=
  ∀ k d, ds[k]? = some d → ∃ b off sp c q o, p = some ⟨b, off, none⟩ ∧ b < w.heap.size ∧ w.cell? ⟨b, off + k * 5, none⟩ = some (.int .i64 d.par) ∧ w.cell? ⟨b, off + k * 5 + 1, none⟩ = some (.string d.tag) ∧ w.cell? ⟨b, off + k * 5 + 2, none⟩ = some (.string d.id) ∧
    w.cell? ⟨b, off + k * 5 + 3, none⟩ = some (.slice sp d.cls.length c) ∧ w.cell? ⟨b, off + k * 5 + 4, none⟩ = some (.slice q d.att.length o) ∧ RdW w sp d.cls ∧ RdA w q d.att ∧
    (sp = none → d.cls.length = 0) ∧ d.cls.length * 16 ≤ 140737488351232 ∧ d.att.length * 32 ≤ 140737488351232 ∧ d.att.length ≤ o ∧ o ≤ maxLen ∧ d.tag.size ≤ maxLen ∧ ∀ p ∈ d.att, p.1.size ≤ maxLen
theorem RdNs.fr {w w' : World} {p : Option Addr} {ds : List NodeD} (h : RdNs w p ds) (f : Fr (fun _ => False) w w') : RdNs w' p ds := fun k d hk => by
  obtain ⟨b, off, sp, c, q, o, e, hb, h0, h1, h2, h3, h4, h5, h6, h7⟩ := h k d hk
  exact ⟨b, off, sp, c, q, o, e, Nat.lt_of_lt_of_le hb f.size, cellFr' f h0, cellFr' f h1, cellFr' f h2, cellFr' f h3, cellFr' f h4, h5.fr f, h6.fr f, h7⟩

/-- Block tb is a tree of the first k nodes, kd of whose depths are told. -/
structure TS (w wr : World) (tb : Nat) (ds : List NodeD) (k kd : Nat) : Prop where
  body : ∃ spN cN spD cD xs, wr.heap[tb]? = some (.cells #[.slice spN k cN, .slice spD kd cD] 63 (0, 0)) ∧ OwnsWin wr w.heap.size 25 5 (.slice spN k cN) k xs ∧ NLo w.heap.size wr xs (ds.take k) ∧
    OwnsWin wr w.heap.size 3 1 (.slice spD kd cD) kd ((dps ds kd).map (Value.int .i64))
  fr : Fr (fun _ => False) w wr
  ht : w.heap.size ≤ tb

theorem TS.new (w : World) (ds : List NodeD) : TS w (w.alloc (.cells #[.slice none 0 0, .slice none 0 0] 63)) w.heap.size ds 0 0 :=
  ⟨⟨none, 0, none, 0, [], heapNew w _, OwnsWin.nil _ _ _ _, NLo.nil _ _, OwnsWin.nil _ _ _ _⟩, (Fr.refl _ w).alloc _, Nat.le_refl _⟩

/-- A node more. -/
theorem TS.addN {w wr w6 w7 : World} {tb k kd : Nat} {ds : List NodeD} {spN spD sp7 : Option Addr} {cN cD c7 : Nat} {xs cs : List Value} {X : Obj} {d : NodeD} (hfr : Fr (fun _ => False) w wr) (ht : w.heap.size ≤ tb)
    (h1 : wr.heap[tb]? = some (.cells #[.slice spN k cN, .slice spD kd cD] 63 (0, 0))) (h2 : OwnsWin wr w.heap.size 25 5 (.slice spN k cN) k xs) (h3 : NLo w.heap.size wr xs (ds.take k)) (h4 : OwnsWin wr w.heap.size 3 1 (.slice spD kd cD) kd ((dps ds kd).map (Value.int .i64)))
    (hd : ds[k]? = some d) (f6 : Fr (fun _ => False) wr w6) (hc : IsLo w.heap.size w6 cs d) (hown : OwnsWin w7 w.heap.size 25 5 (.slice sp7 (k + 1) c7) (k + 1) (xs ++ cs)) (hgrow : (w6.alloc X).grownBy w7 (Value.slice spN k cN).ownBlock) :
    TS w (w7.setCell ⟨tb, 0, none⟩ (.slice sp7 (k + 1) c7)) tb ds (k + 1) kd := by
  have n2 := h2.ne h1 (by intro c; simp)
  have n4 := h4.ne h1 (by intro c; simp)
  have hown0 : ∀ j, (Value.slice spN k cN).ownBlock = some j → ∃ cur, w6.heap[j]? = some (.cells cur 25 (0, 0)) := by
    intro j hj
    rcases h2.2 with ⟨h, _⟩ | ⟨g, off, cap, cur, h, _, hg, _⟩
    · rw [h] at hj; simp [Value.ownBlock] at hj
    · rw [h] at hj
      simp [Value.ownBlock] at hj
      subst hj
      exact ⟨_, f6.heap hg (by simp)⟩
  obtain ⟨T, hT⟩ : ∃ T : Nat → Prop, T = fun j => (Value.slice spN k cN).ownBlock = some j ∨ j = tb := ⟨_, rfl⟩
  have b6 := f6.heap h1 (by simp)
  have hTT : ∀ j, T j → ∃ c t z, w6.heap[j]? = some (.cells c t z) ∧ t ≠ 9 ∧ t ≠ 38 := by
    intro j e
    rw [hT] at e
    rcases e with e | rfl
    · obtain ⟨cur, hcur⟩ := hown0 j e
      exact ⟨_, _, _, hcur, by decide, by decide⟩
    · exact ⟨_, _, _, b6, by decide, by decide⟩
  have t7 : Fr T w6 w7 := ((Fr.refl T w6).alloc X).grown hgrow (fun j e => by rw [hT]; exact .inl (.inl e))
  have t8 : Fr T w6 (w7.setCell ⟨tb, 0, none⟩ (.slice sp7 (k + 1) c7)) := t7.setCell (p := ⟨tb, 0, none⟩) (.inl (by rw [hT]; exact .inr rfl)) _
  have b7 : w7.heap[tb]? = some (.cells #[.slice spN k cN, .slice spD kd cD] 63 (0, 0)) := heapGrown hgrow (heapAlloc b6) n2
  have n7 := hown.ne b7 (by intro c; simp)
  have h36 : NLo w.heap.size w6 xs (ds.take k) := h3.keep f6 (by simp)
  refine ⟨⟨sp7, c7, spD, cD, xs ++ cs, by simpa using heapSet b7 0 (.slice sp7 (k + 1) c7), ?_, ?_, ?_⟩, ?_, ht⟩
  · exact hown.fr ((Fr.refl (fun j => j = tb) w7).setCell (p := ⟨tb, 0, none⟩) (.inl rfl) _) (fun j hj e => n7 (by subst e; exact hj.symm))
  · rw [List.take_add_one, hd]
    exact (h36.keep t8 hTT).snoc (hc.keep t8 hTT)
  · refine (h4.fr f6 (by simp)).fr t8 (fun j hj e => ?_)
    rw [hT] at e
    rcases e with e | rfl
    · obtain ⟨cur, hcur⟩ := hown0 j e
      exact (h4.fr f6 (by simp)).ne hcur (by intro c; simp) hj.symm
    · exact n4 hj.symm
  · refine (hfr.trans f6).step t8 (fun j e => .inr ?_)
    rw [hT] at e
    rcases e with e | rfl
    · exact (h2.lt j e).1
    · exact ht

/-- A depth more. -/
theorem TS.addD {w wr w7 : World} {tb k kd : Nat} {ds : List NodeD} {spN spD sp7 : Option Addr} {cN cD c7 : Nat} {xs : List Value} {X : Obj} {v : Int} (hfr : Fr (fun _ => False) w wr) (ht : w.heap.size ≤ tb)
    (h1 : wr.heap[tb]? = some (.cells #[.slice spN k cN, .slice spD kd cD] 63 (0, 0))) (h2 : OwnsWin wr w.heap.size 25 5 (.slice spN k cN) k xs) (h3 : NLo w.heap.size wr xs (ds.take k)) (h4 : OwnsWin wr w.heap.size 3 1 (.slice spD kd cD) kd ((dps ds kd).map (Value.int .i64)))
    (hv : v = dpAt ds kd) (hown : OwnsWin w7 w.heap.size 3 1 (.slice sp7 (kd + 1) c7) (kd + 1) ((dps ds kd).map (Value.int .i64) ++ [.int .i64 v])) (hgrow : (wr.alloc X).grownBy w7 (Value.slice spD kd cD).ownBlock) :
    TS w (w7.setCell ⟨tb, 1, none⟩ (.slice sp7 (kd + 1) c7)) tb ds k (kd + 1) := by
  have n2 := h2.ne h1 (by intro c; simp)
  have n4 := h4.ne h1 (by intro c; simp)
  have hown0 : ∀ j, (Value.slice spD kd cD).ownBlock = some j → ∃ cur, wr.heap[j]? = some (.cells cur 3 (0, 0)) := by
    intro j hj
    rcases h4.2 with ⟨h, _⟩ | ⟨g, off, cap, cur, h, _, hg, _⟩
    · rw [h] at hj; simp [Value.ownBlock] at hj
    · rw [h] at hj
      simp [Value.ownBlock] at hj
      subst hj
      exact ⟨_, hg⟩
  obtain ⟨T, hT⟩ : ∃ T : Nat → Prop, T = fun j => (Value.slice spD kd cD).ownBlock = some j ∨ j = tb := ⟨_, rfl⟩
  have hTT : ∀ j, T j → ∃ c t z, wr.heap[j]? = some (.cells c t z) ∧ t ≠ 9 ∧ t ≠ 38 := by
    intro j e
    rw [hT] at e
    rcases e with e | rfl
    · obtain ⟨cur, hcur⟩ := hown0 j e
      exact ⟨_, _, _, hcur, by decide, by decide⟩
    · exact ⟨_, _, _, h1, by decide, by decide⟩
  have t7 : Fr T wr w7 := ((Fr.refl T wr).alloc X).grown hgrow (fun j e => by rw [hT]; exact .inl (.inl e))
  have t8 : Fr T wr (w7.setCell ⟨tb, 1, none⟩ (.slice sp7 (kd + 1) c7)) := t7.setCell (p := ⟨tb, 1, none⟩) (.inl (by rw [hT]; exact .inr rfl)) _
  have b7 : w7.heap[tb]? = some (.cells #[.slice spN k cN, .slice spD kd cD] 63 (0, 0)) := heapGrown hgrow (heapAlloc h1) n4
  have n7 := hown.ne b7 (by intro c; simp)
  refine ⟨⟨spN, cN, sp7, c7, xs, by simpa using heapSet b7 1 (.slice sp7 (kd + 1) c7), ?_, h3.keep t8 hTT, ?_⟩, ?_, ht⟩
  · refine h2.fr t8 (fun j hj e => ?_)
    rw [hT] at e
    rcases e with e | rfl
    · obtain ⟨cur, hcur⟩ := hown0 j e
      exact h2.ne hcur (by intro c; simp) hj.symm
    · exact n2 hj.symm
  · rw [dps_succ, List.map_append, ← hv]
    exact hown.fr ((Fr.refl (fun j => j = tb) w7).setCell (p := ⟨tb, 1, none⟩) (.inl rfl) _) (fun j hj e => n7 (by subst e; exact hj.symm))
  · refine hfr.step t8 (fun j e => .inr ?_)
    rw [hT] at e
    rcases e with e | rfl
    · exact (h4.lt j e).1
    · exact ht
end Go.Proofs.Ytdbhcogafhhlnaa.R
