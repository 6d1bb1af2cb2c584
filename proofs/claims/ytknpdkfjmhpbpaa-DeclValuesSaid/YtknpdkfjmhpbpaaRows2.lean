/- What slices of structs that came in read as. -/
import Derived.Test.YtknpdkfjmhpbpaaBase
import Derived.Deep.Slices
import Derived.ChangeSame
namespace Go.Proofs.Ytknpdkfjmhpbpaa
open Go.RowKit Go.Maps Go.ChangeShapes Go.WideShapes Go.ChangeAt Go.WideMaps Go.WideElems

/-- A slice whose elements, k cells each, read as the list tells. -/
def RowR {α : Type} (k : Nat) (R : World → List Value → α → Prop) (w : World) (v : Value) (l : List α) : Prop :=
  ∃ p c, v = .slice p l.length c ∧ l.length ≤ c ∧ c ≤ maxLen ∧ ∀ i x, l[i]? = some x → ∃ g off cs, p = some ⟨g, off, none⟩ ∧ g < w.heap.size ∧ cs.length = k ∧
    (∀ j, j < k → w.cell? ⟨g, off + i * k + j, none⟩ = cs[j]?) ∧ R w cs x

theorem RowR.below {α : Type} {k : Nat} {R : World → List Value → α → Prop} {w w' : World} {v : Value} {l : List α} (h : RowR k R w v l) (hb : Below w.heap.size w w') (hR : ∀ cs x, R w cs x → R w' cs x) : RowR k R w' v l := by
  obtain ⟨p, c, e, h1, h2, h3⟩ := h
  refine ⟨p, c, e, h1, h2, fun i x hx => ?_⟩
  obtain ⟨g, off, cs, hp, hg, hl, hc, hr⟩ := h3 i x hx
  exact ⟨g, off, cs, hp, Nat.lt_of_lt_of_le hg hb.size, hl, fun j hj => (hb.cell (p := ⟨g, off + i * k + j, none⟩) hg).trans (hc j hj), hR cs x hr⟩

theorem choose_list {α : Type} {n : Nat} {p : Nat → α → Prop} (h : ∀ i, i < n → ∃ x, p i x) : ∃ l : List α, l.length = n ∧ ∀ i x, l[i]? = some x → p i x := by
  induction n with
  | zero => exact ⟨[], rfl, fun i x hx => by simp at hx⟩
  | succ n ih =>
    obtain ⟨l, hl, hp⟩ := ih (fun i hi => h i (by omega))
    obtain ⟨x, hx⟩ := h n (by omega)
    refine ⟨l ++ [x], by simp [hl], fun i y hy => ?_⟩
    rcases Nat.lt_or_ge i n with hi | hi
    · rw [List.getElem?_append_left (by omega)] at hy
      exact hp i y hy
    · rw [List.getElem?_append_right (by omega)] at hy
      have : i - l.length = 0 := by
        rcases Nat.eq_zero_or_pos (i - l.length) with e | e
        · exact e
        · rw [List.getElem?_eq_none (by simp; omega)] at hy; cases hy
      rw [this] at hy
      simp at hy
      subst hy
      obtain rfl : i = n := by omega
      exact hx

/-- A slice of whatever elements, opened by its elements' own opening. -/
theorem rowR_open {H : Type} {enc : TypeId × Value → H} {P : Program} {t e : TypeId} {w : World} {α : Type} {R : World → List Value → α → Prop} {k n : Nat} {v : Value} {a : Option Addr} {len cap : Nat} {y : DataW H × List MemPlace} (ht : P.underlying t = some (.slice e)) (hc : P.cellsOf e = k) (hk : 0 < k) (hv : v = .slice a len cap)
    (h : DataW.trod enc P w 0 (fun _ => true) true n t [v] = some y)
    (hel : ∀ n cs y, cs.length = k → DataW.trod enc P w 0 (fun _ => true) true n e cs = some y → ∃ x, R w cs x) : ∃ l, RowR k R w v l := by
  subst hv
  rcases Go.Deep.open_slice ht h with ⟨hcs, _⟩ | ⟨x, l, c', m, n', D, Pl, hcs, _, hl, hm, hmm, _, hx⟩
  · simp at hcs
    obtain ⟨rfl, rfl, rfl⟩ := hcs
    exact ⟨[], none, 0, rfl, Nat.le_refl _, Nat.zero_le _, fun i x h => by simp at h⟩
  · simp at hcs
    obtain ⟨rfl, rfl, rfl⟩ := hcs
    simp only [if_true] at hmm
    subst hmm
    obtain ⟨L, hL, hp⟩ := choose_list (n := len) (p := fun i z => ∃ cs, cs.length = k ∧ 0 ≤ x.block ∧ (∀ j, j < k → w.cell? ((x.add (i * k)).add j) = cs[j]?) ∧ R w cs z) (fun i hi => by
      obtain ⟨cs', q1, q2⟩ := hx i (by omega)
      rw [hc] at q1
      obtain ⟨r1, r2, r3⟩ := World.cells?_some q1
      obtain ⟨z, hz⟩ := hel n' cs' _ r2 q2
      exact ⟨z, cs', r2, Nat.zero_le _, r3, hz⟩)
    refine ⟨L, some x, m, by rw [hL], by omega, hm, fun i z hz => ?_⟩
    obtain ⟨cs, s1, _, s2, s3⟩ := hp i z hz
    have hc0 := s2 0 hk
    have hlt : ∃ u, cs[0]? = some u := ⟨cs[0], by simp⟩
    obtain ⟨u, hu⟩ := hlt
    rw [hu] at hc0
    have hb := World.block_lt_of_cell? w _ hc0
    have hs : x.spot = none := by
      have hi : i < L.length := (List.getElem?_eq_some_iff.1 hz).1
      obtain ⟨cs0, t1, _, t2, _⟩ := hp 0 L[0] (List.getElem?_eq_getElem (by omega))
      have t3 := t2 0 hk
      rw [List.getElem?_eq_getElem (by omega)] at t3
      simpa [Addr.add] using World.cell?_spot t3
    rw [addOf x _ hs] at hb s2
    obtain ⟨b, o, sp⟩ := x
    simp only at hs
    subst hs
    refine ⟨b, o, cs, rfl, ?_, s1, fun j hj => ?_, s3⟩
    · rw [addOf _ _ rfl] at hb; exact hb
    · have := s2 j hj
      rw [addOf _ _ rfl] at this
      exact this

end Go.Proofs.Ytknpdkfjmhpbpaa
