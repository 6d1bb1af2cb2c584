/- Tokens that are handed in, opened. No condition. -/
import Derived.Test.YtknpdkfjmhpbpaaAlive
namespace Go.Proofs.Ytknpdkfjmhpbpaa
open Go.RowKit Go.Maps Go.ChangeShapes Go.WideShapes Go.ChangeAt Go.WideMaps Go.WideElems

/-- A slice that reads as tokens. -/
def IsToks (w : World) (v : Value) (ts : List Tok) : Prop := ∃ p c, v = .slice p ts.length c ∧ RdT w p ts ∧ ts.length ≤ c ∧ c ≤ maxLen
section
variable {H : Type} {enc : TypeId × Value → H} {w : World}
theorem fld {P : Program} {n : Nat} {fs : Array Field} {xs : List (DataW H × List MemPlace)} {cs : List Value} (hf : ∀ (i : Nat) (f : Field), fs[i]? = some f → DataW.trod enc P w 0 (fun _ => true) true n f.type ((cs.drop f.offset).take (P.cellsOf f.type)) = xs[i]?) (hs : xs.length = fs.size) (i t o c : Nat) (h : ∃ f, fs[i]? = some f ∧ f.type = t ∧ f.offset = o) (hc : P.cellsOf t = c) :
    ∃ y, DataW.trod enc P w 0 (fun _ => true) true n t ((cs.drop o).take c) = some y := by
  obtain ⟨f, h, rfl, rfl⟩ := h
  subst hc
  have hi : i < fs.size := (Array.getElem?_eq_some_iff.1 h).1
  exact ⟨xs[i], (hf i f h).trans (List.getElem?_eq_getElem (by omega))⟩
def TokR (_w : World) (cs : List Value) (x : Tok) : Prop := cs = tV x ∧ x.f1.size ≤ maxLen
set_option maxRecDepth 100000 in
theorem toks_open {v : Value} {d : DataW H} {ps : List MemPlace} {r : Reach} {b0 : Nat}
    (hval : Value.okWide Try.prog w r b0 22 v) (h : DataW.Trod enc Try.prog w 0 (fun _ => true) true 22 v d ps) : ∃ ts, IsToks w v ts := by
  have e3 : Try.prog.cellsOf 3 = 1 := by kernel_rfl
  have e4 : Try.prog.cellsOf 4 = 1 := by kernel_rfl
  have e9 : Try.prog.cellsOf 9 = 1 := by kernel_rfl
  obtain ⟨a, n, c, rfl⟩ := okWide_slice Try.underlying22 hval
  obtain ⟨fuel, hf⟩ := h
  have q : ∃ l, RowR 5 TokR w (.slice a n c) l := rowR_open Try.underlying22 (k := 5) (by kernel_rfl) (by omega) rfl (by simpa [Value.cells] using hf) (fun n cs y hl hy => by
    obtain ⟨c0, c1, c2, c3, c4, rfl⟩ : ∃ c0 c1 c2 c3 c4, cs = [c0, c1, c2, c3, c4] := by
      match cs, hl with
      | [c0, c1, c2, c3, c4], _ => exact ⟨c0, c1, c2, c3, c4, rfl⟩
    obtain ⟨xs, m, _, _, _, hs, hf1⟩ := DataW.trod_struct Try.underlying35 hy
    obtain ⟨y0, h0⟩ := fld hf1 hs 0 3 0 1 ⟨_, rfl, rfl, rfl⟩ e3
    obtain ⟨y1, h1⟩ := fld hf1 hs 1 9 1 1 ⟨_, rfl, rfl, rfl⟩ e9
    obtain ⟨y2, h2⟩ := fld hf1 hs 2 3 2 1 ⟨_, rfl, rfl, rfl⟩ e3
    obtain ⟨y3, h3⟩ := fld hf1 hs 3 4 3 1 ⟨_, rfl, rfl, rfl⟩ e4
    obtain ⟨y4, h4⟩ := fld hf1 hs 4 3 4 1 ⟨_, rfl, rfl, rfl⟩ e3
    simp only [List.drop_zero, List.take_succ_cons, List.take_zero, List.drop_succ_cons] at h0 h1 h2 h3 h4
    obtain ⟨a0, ha0, _⟩ := DataW.trod_int Try.underlying3 h0
    obtain ⟨a1, ha1, _, z1⟩ := DataW.trod_string Try.underlying9 h1
    obtain ⟨a2, ha2, _⟩ := DataW.trod_int Try.underlying3 h2
    obtain ⟨a3, ha3, _⟩ := DataW.trod_bool Try.underlying4 h3
    obtain ⟨a4, ha4, _⟩ := DataW.trod_int Try.underlying3 h4
    simp at ha0 ha1 ha2 ha3 ha4
    exact ⟨⟨a0, a1, a2, a3, a4⟩, by unfold tV; rw [ha0, ha1, ha2, ha3, ha4], z1⟩)
  obtain ⟨l, p, c', e, h1, h2, h3⟩ := q
  refine ⟨l, p, c', e, fun i x hx => ?_, h1, h2⟩
  obtain ⟨g, off, cs, hp, hg, hl, hc, rfl, hz⟩ := h3 i x hx
  refine ⟨hz, g, off, hp, hg, fun j u hj => ?_⟩
  rw [hc j (by rw [← hl]; exact (List.getElem?_eq_some_iff.1 hj).1)]
  exact hj
end
theorem IsToks.fr {w w' : World} {v : Value} {ts : List Tok} (h : IsToks w v ts) (f : Fr (fun _ => False) w w') : IsToks w' v ts := by
  obtain ⟨p, c, e, h1, h2, h3⟩ := h
  exact ⟨p, c, e, h1.fr f, h2, h3⟩
end Go.Proofs.Ytknpdkfjmhpbpaa
