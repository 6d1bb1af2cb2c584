/- Clock: what is ahead of what: plain. -/
import Derived.Test.YtmfkomdfknflgaaLaw0
import Derived.Test.YtmfkomdfknflgaaOrd
namespace Go.Proofs.Ytmfkomdfknflgaa

/-- Who knows of an access knows what it knew. -/
structure Cs (g : LG) : Prop where
  a1 : ∀ d, d ∈ g.L → ∀ i, d.own ≤ g.C i d.who → ∀ v, kn d v ≤ g.C i v
  a2 : ∀ d, d ∈ g.L → ∀ z, d.own ≤ (celOf g z).c d.who → ∀ v, kn d v ≤ (celOf g z).c v
  a3 : ∀ d, d ∈ g.L → ∀ e, e ∈ g.L → d.own ≤ kn e d.who → ∀ v, kn d v ≤ kn e v
  b1 : ∀ i v, g.C i v ≤ g.C v v
  b2 : ∀ z v, (celOf g z).c v ≤ g.C v v
  b3 : ∀ e, e ∈ g.L → ∀ v, kn e v ≤ g.C v v
  c : ∀ d, d ∈ g.L → 1 ≤ d.own
  e : ∀ a v, v ≠ a → g.B a v = g.C a v
  inc : ∀ (p q : Nat) (d e : Dn), p < q → g.L[p]? = some d → g.L[q]? = some e → d.who = e.who → d.own < e.own
theorem Cs.new (n : Nat) : Cs (newG n) :=
  ⟨fun d h => (by cases h), fun d h => (by cases h), fun d h => (by cases h), fun _ _ => Nat.le_refl _, fun _ _ => Nat.le_refl _, fun d h => (by cases h), fun d h => (by cases h), fun _ _ _ => rfl, fun p q d e _ h => (by simp [newG] at h)⟩
theorem kn_self (d : Dn) : kn d d.who = d.own := if_pos rfl
/-- The worker's clock behind the access, number by number. -/
theorem clkN_le (g : LG) (a : Acc) (v : Nat) : g.C a.who.toNat v ≤ clkN g a v := by
  have h1 : g.C a.who.toNat v ≤ upd (g.C a.who.toNat) a.who.toNat (g.C a.who.toNat a.who.toNat + 1) v := by
    unfold upd
    split
    · rename_i e; subst e; omega
    · exact Nat.le_refl _
  unfold clkN
  cases a.at_ with
  | true => exact Nat.le_trans h1 (Nat.le_max_left _ _)
  | false => exact h1
theorem clkN_own {g : LG} (h : Cs g) (a : Acc) : clkN g a a.who.toNat = g.C a.who.toNat a.who.toNat + 1 := by
  unfold clkN
  cases a.at_ with
  | true =>
    show max (upd _ _ _ _) _ = _
    rw [upd_same]
    have := h.b2 a.cell a.who.toNat
    exact Nat.max_eq_left (by omega)
  | false => exact upd_same _ _ _
theorem clkN_other {g : LG} (a : Acc) {v : Nat} (hv : v ≠ a.who.toNat) : clkN g a v = if a.at_ then max (g.C a.who.toNat v) ((celOf g a.cell).c v) else g.C a.who.toNat v := by
  unfold clkN
  cases a.at_ with
  | true =>
    show max (upd _ _ _ _) _ = max _ _
    rw [upd_other _ _ hv]
  | false => exact upd_other _ _ hv
theorem Cs.do_ {g : LG} (h : Cs g) (a : Acc) : Cs (doN g a) := by
  obtain ⟨i, hi⟩ : ∃ i, a.who.toNat = i := ⟨_, rfl⟩
  obtain ⟨N, hN⟩ : ∃ N : Dn, N = ⟨i, clkN g a i, basN g a i⟩ := ⟨_, rfl⟩
  have own := clkN_own h a
  have le := clkN_le g a
  have oth := fun v => clkN_other (g := g) a (v := v)
  rw [hi] at own le
  have hL : (doN g a).L = g.L ++ [N] := by rw [hN, ← hi]; rfl
  have hC : ∀ j, (doN g a).C j = if j = i then clkN g a else g.C j := fun j => by rw [← hi]; rfl
  have hB : ∀ j, (doN g a).B j = if a.at_ then (if j = i then clkN g a else g.B j) else g.B j := fun j => by
    show basN g a j = _
    unfold basN
    rw [hi]
    cases a.at_ <;> rfl
  have hX : ∀ z, (celOf (doN g a) z).c = (celOf g z).c ∨ (celOf (doN g a) z).c = clkN g a := fun z => by
    rw [celOf_do]
    split
    · rename_i e
      subst e
      unfold celN
      simp only
      split
      · exact .inr rfl
      · exact .inl rfl
    · exact .inl rfl
  have kN : ∀ v, kn N v = clkN g a v := fun v => by
    rw [hN]
    unfold kn
    simp only
    by_cases e : v = i
    · rw [if_pos e, e]
    · rw [if_neg e]
      show basN g a i v = _
      unfold basN
      rw [hi]
      have ho := oth v (by rw [hi]; exact e)
      rw [ho, hi]
      cases ha : a.at_ with
      | true =>
        simp only [if_true]
        rw [upd_same]
        have := oth v (by rw [hi]; exact e)
        rw [ha, hi] at this
        simpa using this
      | false =>
        simp only [Bool.false_eq_true, if_false]
        exact h.e i v e
  have wN : N.who = i := by rw [hN]
  have oN : N.own = g.C i i + 1 := by rw [hN]; exact own
  have b' : ∀ v, g.C v v ≤ (doN g a).C v v := fun v => by
    rw [hC]
    split
    · rename_i e; subst e; exact le v
    · exact Nat.le_refl _
  have nb : ∀ v, clkN g a v ≤ (doN g a).C v v := fun v => by
    by_cases e : v = i
    · rw [hC, if_pos e]; exact Nat.le_refl _
    · rw [hC, if_neg e, oth v (by rw [hi]; exact e), hi]
      split
      · exact Nat.max_le.2 ⟨h.b1 i v, h.b2 a.cell v⟩
      · exact h.b1 i v
  -- what is known of an elder access
  have old : ∀ d, d ∈ g.L → d.own ≤ clkN g a d.who → ∀ v, kn d v ≤ clkN g a v := fun d hd ho v => by
    by_cases e : d.who = i
    · have h1 := h.b3 d hd d.who
      rw [kn_self, e] at h1
      exact Nat.le_trans (h.a1 d hd i (by rw [e]; exact h1) v) (le v)
    · have h2 := oth d.who (by rw [hi]; exact e)
      rw [hi] at h2
      rw [h2] at ho
      cases ha : a.at_ with
      | false =>
        rw [ha] at ho
        exact Nat.le_trans (h.a1 d hd i (by simpa using ho) v) (le v)
      | true =>
        rw [ha] at ho
        simp only [if_true] at ho
        rcases Nat.le_total (g.C i d.who) ((celOf g a.cell).c d.who) with q | q
        · rw [Nat.max_eq_right q] at ho
          have h3 := h.a2 d hd a.cell ho v
          refine Nat.le_trans h3 ?_
          unfold clkN
          rw [ha]
          exact Nat.le_max_right _ _
        · rw [Nat.max_eq_left q] at ho
          exact Nat.le_trans (h.a1 d hd i ho v) (le v)
  have young : ∀ (V : Nat → Nat), (∀ v, V v ≤ g.C v v) → N.own ≤ V N.who → False := fun V hV h1 => by
    have := hV i
    rw [wN, oN] at h1
    omega
  refine ⟨fun d hd j ho => ?_, fun d hd z ho => ?_, fun d hd e he ho => ?_, fun j v => ?_, fun z v => ?_, fun e he v => ?_, fun d hd => ?_, fun j v hv => ?_, fun p q d e hpq hp hq hw => ?_⟩
  · rw [hL] at hd
    rw [hC] at ho ⊢
    rcases List.mem_append.1 hd with hd1 | hd1
    · split at ho
      · rename_i e; rw [if_pos e]; exact old d hd1 ho
      · rename_i e; rw [if_neg e]; exact h.a1 d hd1 j ho
    · obtain rfl := List.mem_singleton.1 hd1
      split at ho
      · rename_i e; rw [if_pos e]; exact fun v => Nat.le_of_eq (kN v)
      · exact (young _ (h.b1 j) ho).elim
  · rw [hL] at hd
    rcases hX z with q | q
    · rw [q] at ho ⊢
      rcases List.mem_append.1 hd with hd1 | hd1
      · exact h.a2 d hd1 z ho
      · obtain rfl := List.mem_singleton.1 hd1
        exact (young _ (h.b2 z) ho).elim
    · rw [q] at ho ⊢
      rcases List.mem_append.1 hd with hd1 | hd1
      · exact old d hd1 ho
      · obtain rfl := List.mem_singleton.1 hd1
        exact fun v => Nat.le_of_eq (kN v)
  · rw [hL] at hd he
    rcases List.mem_append.1 hd with hd1 | hd1
    · rcases List.mem_append.1 he with he1 | he1
      · exact h.a3 d hd1 e he1 ho
      · obtain rfl := List.mem_singleton.1 he1
        rw [kN] at ho
        intro v
        rw [kN]
        exact old d hd1 ho v
    · obtain rfl := List.mem_singleton.1 hd1
      rcases List.mem_append.1 he with he1 | he1
      · exact (young _ (h.b3 e he1) ho).elim
      · obtain rfl := List.mem_singleton.1 he1
        exact fun v => Nat.le_refl _
  · rw [hC j]
    split
    · exact nb v
    · exact Nat.le_trans (h.b1 j v) (b' v)
  · rcases hX z with q | q
    · rw [q]; exact Nat.le_trans (h.b2 z v) (b' v)
    · rw [q]; exact nb v
  · rw [hL] at he
    rcases List.mem_append.1 he with he1 | he1
    · exact Nat.le_trans (h.b3 e he1 v) (b' v)
    · obtain rfl := List.mem_singleton.1 he1
      rw [kN]; exact nb v
  · rw [hL] at hd
    rcases List.mem_append.1 hd with hd1 | hd1
    · exact h.c d hd1
    · obtain rfl := List.mem_singleton.1 hd1
      rw [oN]; omega
  · rw [hB, hC]
    cases ha : a.at_ with
    | true =>
      simp only [if_true]
      split
      · rfl
      · exact h.e j v hv
    | false =>
      simp only [Bool.false_eq_true, if_false]
      split
      · rename_i e
        have h2 := oth v (by rw [hi, ← e]; exact hv)
        rw [hi, ha] at h2
        simp only [Bool.false_eq_true, if_false] at h2
        rw [h2, e]
        exact h.e i v (by rw [← e]; exact hv)
      · exact h.e j v hv
  · rw [hL] at hp hq
    by_cases q1 : q < g.L.length
    · rw [List.getElem?_append_left q1] at hq
      rw [List.getElem?_append_left (by omega)] at hp
      exact h.inc p q d e hpq hp hq hw
    · rw [List.getElem?_append_right (by omega)] at hq
      have hqe : q - g.L.length = 0 := by
        rcases Nat.eq_zero_or_pos (q - g.L.length) with e2 | e2
        · exact e2
        · rw [List.getElem?_eq_none (by simp; omega)] at hq; cases hq
      rw [hqe] at hq
      obtain rfl : N = e := by simpa using hq
      rw [List.getElem?_append_left (by omega)] at hp
      have h1 := h.b3 d (List.mem_of_getElem? hp) d.who
      rw [kn_self, hw, wN] at h1
      rw [oN]
      omega
theorem Cs.doG {g : LG} (h : Cs g) (a : Acc) : Cs (DoG g a) := by
  unfold DoG
  split
  · exact h.do_ a
  · exact h
theorem ordB_iff {g : LG} {i k : Nat} {x y : Dn} (hx : g.L[i]? = some x) (hy : g.L[k]? = some y) : ordB g i k = true ↔ i < k ∧ x.own ≤ kn y x.who := by
  have hk := (List.getElem?_eq_some_iff.1 hy).1
  unfold ordB
  by_cases e : k ≤ i
  · rw [if_pos (.inr (.inr (by omega)))]
    constructor
    · intro h; cases h
    · intro h; omega
  · rw [if_neg (by omega)]
    simp only [Int.toNat_natCast, hx, hy, decide_eq_true_eq]
    constructor
    · intro h; exact ⟨by omega, h⟩
    · intro h; exact h.2
/-- Three accesses. -/
theorem orders_pure {g : LG} (h : Cs g) {i j k : Nat} (hi : i < g.L.length) (hj : j < g.L.length) (hk : k < g.L.length) :
    (ordB g i j = true → ordB g j k = true → ordB g i k = true) ∧ (∀ x y, g.L[i]? = some x → g.L[j]? = some y → x.who = y.who → i < j → ordB g i j = true) ∧ (¬ i < j → ordB g i j = false) := by
  obtain ⟨x, hx⟩ : ∃ x, g.L[i]? = some x := ⟨_, List.getElem?_eq_getElem hi⟩
  obtain ⟨y, hy⟩ : ∃ y, g.L[j]? = some y := ⟨_, List.getElem?_eq_getElem hj⟩
  obtain ⟨z, hz⟩ : ∃ z, g.L[k]? = some z := ⟨_, List.getElem?_eq_getElem hk⟩
  have mx := List.mem_of_getElem? hx
  have my := List.mem_of_getElem? hy
  have mz := List.mem_of_getElem? hz
  refine ⟨fun h1 h2 => ?_, fun x' y' hx' hy' hw hij => ?_, fun hn => ?_⟩
  · rw [ordB_iff hx hy] at h1
    rw [ordB_iff hy hz] at h2
    rw [ordB_iff hx hz]
    exact ⟨by omega, Nat.le_trans h1.2 (h.a3 y my z mz h2.2 x.who)⟩
  · rw [hx] at hx'; cases hx'
    rw [hy] at hy'; cases hy'
    rw [ordB_iff hx hy]
    have := h.inc i j x y hij hx hy hw
    refine ⟨hij, ?_⟩
    rw [hw, kn_self]
    omega
  · cases e : ordB g i j with
    | false => rfl
    | true => rw [ordB_iff hx hy] at e; omega
end Go.Proofs.Ytmfkomdfknflgaa
