/- What a slice of tokens that came in reads as. -/
import Derived.Test.YtoemgjlkjnkdbaaPSx0
import Derived.Deep.Slices
import Derived.ChangeSame
import Derived.OpenShut
import Derived.ChangeOld
import Derived.ShutString
import Derived.Deep.Fields
import Derived.ProofKit
import Derived.WalkKit
namespace Go.Proofs.Ytoemgjlkjnkdbaa.PS
open Go.RowKit Go.ChangeShapes Go.WideShapes Go.ChangeAt Go.Proofs.YtoemgjlkjnkdbaaW.PrintWords

theorem choose_list {α : Type} {n : Nat} {p : Nat → α → Prop} (h : ∀ i, i < n → ∃ x, p i x) : ∃ l : List α, l.length = n ∧ ∀ i x, l[i]? = some x → p i x := by
  induction n with
  | zero => exact ⟨[], rfl, fun i x hx => by simp at hx⟩
  | succ n ih =>
    obtain ⟨l, hl, hp⟩ := ih (fun i hi => h i (by omega))
    obtain ⟨x, hx⟩ := h n (by omega)
    refine ⟨l ++ [x], by simp [hl], fun i y hy => ?_⟩
    rcases Nat.lt_or_ge i n with hi | hi
    · rw [List.getElem?_append_left (by omega)] at hy
      exact hp i y hy
    · rw [List.getElem?_append_right (by omega)] at hy
      have : i - l.length = 0 := by
        rcases Nat.eq_zero_or_pos (i - l.length) with e | e
        · exact e
        · rw [List.getElem?_eq_none (by simp; omega)] at hy; cases hy
      rw [this] at hy
      simp at hy
      subst hy
      obtain rfl : i = n := by omega
      exact hx

/-- A slice of whatever elements, opened by its elements' own opening. -/
theorem kd_open {α : Type} {d : Kd α} {H : Type} {enc : TypeId × Value → H} {P : Program} {t e : TypeId} {w : World} {r : Reach} {b0 : Nat} {v : Value} {D : DataW H} {ps : List MemPlace} (ht : P.underlying t = some (.slice e)) (hc : P.cellsOf e = d.sz)
    (hval : Value.okWide P w r b0 t v) (h : DataW.Trod enc P w 0 (fun _ => true) true t v D ps)
    (hel : ∀ n cs y, cs.length = d.sz → DataW.trod enc P w 0 (fun _ => true) true n e cs = some y → ∃ x, d.K w x cs) : ∃ (A : Option Addr) (c : Nat) (l : List α), v = .slice A l.length c ∧ l.length ≤ c ∧ l.length ≤ maxLen ∧ d.C w A l.length l := by
  obtain ⟨a, n, c, rfl⟩ := okWide_slice ht hval
  obtain ⟨fuel, hf⟩ := h
  rcases Go.Deep.open_slice ht (by simpa [Value.cells] using hf) with ⟨hcs, _⟩ | ⟨x, l, c', m, n', D', Pl, hcs, _, hl, hm, hmm, _, hx⟩
  · simp at hcs
    obtain ⟨rfl, rfl, rfl⟩ := hcs
    exact ⟨none, 0, [], rfl, Nat.le_refl _, Nat.zero_le _, rfl, by simp, fun h => by simp at h⟩
  · simp at hcs
    obtain ⟨rfl, rfl, rfl⟩ := hcs
    simp only [if_true] at hmm
    subst hmm
    obtain ⟨L, hL, hp⟩ := choose_list (n := n) (p := fun i z => ∃ cs, cs.length = d.sz ∧ (∀ j, j < d.sz → w.cell? ((x.add (i * d.sz)).add j) = cs[j]?) ∧ d.K w z cs) (fun i hi => by
      obtain ⟨cs', q1, q2⟩ := hx i (by omega)
      rw [hc] at q1
      obtain ⟨r1, r2, r3⟩ := World.cells?_some q1
      obtain ⟨z, hz⟩ := hel n' cs' _ r2 q2
      exact ⟨z, cs', r2, r3, hz⟩)
    refine ⟨some x, m, L, by rw [hL], by omega, by omega, rfl, by have := hm; unfold maxLen at this; omega, fun _ => ⟨x, rfl, fun i z hz => ?_⟩⟩
    obtain ⟨cs, s1, s2, s3⟩ := hp i z hz
    refine ⟨cs, s1, s3, fun j u hu => ?_⟩
    have hj : j < d.sz := by rw [← s1]; exact (List.getElem?_eq_some_iff.1 hu).1
    have := s2 j hj
    rw [hu, Go.Deep.add_add] at this
    exact this

section
variable {H : Type} {enc : TypeId × Value → H} {P : Program} {w : World} {base : Nat} {spare : Nat → Bool} {held : Bool}
theorem trod_fields5 {t : TypeId} {f0 f1 f2 f3 f4 : Field} {fuel : Nat} {cs : List Value} {x : DataW H × List MemPlace} (ht : P.underlying t = some (.struct #[f0, f1, f2, f3, f4])) (hone : Go.Deep.oneCellFields P #[f0, f1, f2, f3, f4] = true) (h5 : cs.length = 5) (h : DataW.trod enc P w base spare held fuel t cs = some x) :
    ∃ (v0 v1 v2 v3 v4 : Value) (y0 y1 y2 y3 y4 : DataW H × List MemPlace) (n : Nat), cs = [v0, v1, v2, v3, v4] ∧ DataW.trod enc P w base spare held n f0.type [v0] = some y0 ∧ DataW.trod enc P w base spare held n f1.type [v1] = some y1 ∧ DataW.trod enc P w base spare held n f2.type [v2] = some y2 ∧ DataW.trod enc P w base spare held n f3.type [v3] = some y3 ∧ DataW.trod enc P w base spare held n f4.type [v4] = some y4 := by
  obtain ⟨xs, n, _, _, _, hlen, hg⟩ := DataW.trod_struct ht h
  match cs, h5 with
  | [c0, c1, c2, c3, c4], _ =>
    obtain ⟨o0, k0⟩ := Go.Deep.hone_of hone 0 f0 rfl
    obtain ⟨o1, k1⟩ := Go.Deep.hone_of hone 1 f1 rfl
    obtain ⟨o2, k2⟩ := Go.Deep.hone_of hone 2 f2 rfl
    obtain ⟨o3, k3⟩ := Go.Deep.hone_of hone 3 f3 rfl
    obtain ⟨o4, k4⟩ := Go.Deep.hone_of hone 4 f4 rfl
    match xs, hlen with
    | [y0, y1, y2, y3, y4], _ =>
      exact ⟨c0, c1, c2, c3, c4, y0, y1, y2, y3, y4, n, rfl, by simpa [o0, k0] using hg 0 f0 rfl, by simpa [o1, k1] using hg 1 f1 rfl, by simpa [o2, k2] using hg 2 f2 rfl, by simpa [o3, k3] using hg 3 f3 rfl, by simpa [o4, k4] using hg 4 f4 rfl⟩
end
theorem tok_el {H : Type} {enc : TypeId × Value → H} {w : World} (n : Nat) (cs : List Value) (y : DataW H × List MemPlace) (h5 : cs.length = 5) (h : DataW.trod enc Try.prog w 0 (fun _ => true) true n 35 cs = some y) : ∃ x, k35.K w x cs := by
  obtain ⟨v0, v1, v2, v3, v4, y0, y1, y2, y3, y4, m, rfl, h0, h1, h2, h3, h4⟩ := trod_fields5 Try.underlying35 (by kernel_rfl) h5 h
  obtain ⟨a0, e0, _⟩ := DataW.trod_int Try.underlying3 h0
  obtain ⟨a1, e1, _⟩ := DataW.trod_string Try.underlying9 h1
  obtain ⟨a2, e2, _⟩ := DataW.trod_int Try.underlying3 h2
  obtain ⟨a3, e3, _⟩ := DataW.trod_bool Try.underlying4 h3
  obtain ⟨a4, e4, _⟩ := DataW.trod_int Try.underlying3 h4
  simp at e0 e1 e2 e3 e4
  subst e0 e1 e2 e3 e4
  exact ⟨⟨a0, a1, a2, a3, a4⟩, k35_mk w _⟩
/-- A slice of tokens that came in. -/
def IsToks (w : World) (v : Value) (l : List S35) : Prop := ∃ A c, v = .slice A l.length c ∧ l.length ≤ c ∧ l.length ≤ maxLen ∧ k35.C w A l.length l
theorem toks_open {H : Type} {enc : TypeId × Value → H} {w : World} {v : Value} {d : DataW H} {ps : List MemPlace} {r : Reach} {b0 : Nat}
    (hval : Value.okWide Try.prog w r b0 22 v) (h : DataW.Trod enc Try.prog w 0 (fun _ => true) true 22 v d ps) : ∃ l, IsToks w v l := by
  obtain ⟨A, c, l, h1, h2, h3, h4⟩ := kd_open (d := k35) Try.underlying22 (by kernel_rfl) hval h (fun n cs y hl hy => tok_el n cs y hl hy)
  exact ⟨l, A, c, h1, h2, h3, h4⟩
end Go.Proofs.Ytoemgjlkjnkdbaa.PS
