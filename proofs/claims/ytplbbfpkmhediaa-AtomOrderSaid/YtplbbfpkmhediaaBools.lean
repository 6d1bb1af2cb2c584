/- What a slice of bools that came in reads as. -/
import Derived.Test.YtplbbfpkmhediaaBase
import Derived.Deep.Grids
namespace Go.Proofs.Ytplbbfpkmhediaa
open Go.RowKit Go.Maps Go.ChangeShapes Go.WideShapes Go.ChangeAt Go.WideMaps Go.WideElems

theorem bools_open {H : Type} {enc : TypeId × Value → H} {P : Program} {t e : TypeId} {w : World} {v : Value} {d : DataW H} {ps : List MemPlace} {r : Reach} {b0 : Nat} (ht : P.underlying t = some (.slice e)) (he : P.underlying e = some .bool) (hc : P.cellsOf e = 1)
    (hval : Value.okWide P w r b0 t v) (h : DataW.Trod enc P w 0 (fun _ => true) true t v d ps) : ∃ l, IsBools w v l := by
  obtain ⟨a, n, c, rfl⟩ := okWide_slice ht hval
  obtain ⟨fuel, hf⟩ := h
  rcases Go.Deep.open_bools ht he hc hf with ⟨hcs, _⟩ | ⟨x, l, c', B, hcs, _, hl, hm, _, hcell⟩
  · simp [Value.cells] at hcs
    obtain ⟨rfl, rfl, rfl⟩ := hcs
    exact ⟨[], rowOf_nil _ _⟩
  · simp [Value.cells] at hcs
    obtain ⟨rfl, rfl, rfl⟩ := hcs
    exact ⟨((List.range c).map B).take n, rowOf_open false ((List.range c).map B) hl hm (by simp) (fun i hi => by
      have hi' : i < c := by simpa using hi
      rw [hcell i hi']
      simp [List.getD, hi'])⟩

end Go.Proofs.Ytplbbfpkmhediaa
