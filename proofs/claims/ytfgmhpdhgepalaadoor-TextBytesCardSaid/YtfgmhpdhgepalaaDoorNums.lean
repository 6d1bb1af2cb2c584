/- A row of numbers that is handed in. -/
import Derived.Test.YtfgmhpdhgepalaaDoorBytes
namespace Go.Proofs.YtfgmhpdhgepalaaDoor
open Go.RowKit Go.Shelf Go.Maps Go.ChangeShapes Go.WideShapes Go.ChangeAt Go.WideMaps Go.WideElems

def IsI (w : World) (v : Value) (l : List Int) : Prop := ∃ p c, v = .slice p l.length c ∧ l.length ≤ c ∧ c ≤ maxLen ∧ RdI w p l ∧ ∀ z ∈ l, -9223372036854775808 ≤ z ∧ z ≤ 9223372036854775807
theorem nums_open {H : Type} {enc : TypeId × Value → H} {w : World} {v : Value} {d : DataW H} {ps : List MemPlace} {r : Reach} {b0 : Nat} (hval : Value.okWide Tryd.prog w r b0 25 v) (h : DataW.Trod enc Tryd.prog w 0 (fun _ => true) true 25 v d ps) : ∃ l, IsI w v l := by
  obtain ⟨l, ⟨p, c, rfl, h1, h2, h3⟩, h4⟩ := ints_open (q := .i64) Tryd.underlying25 Tryd.underlying3 (by kernel_rfl) hval h
  exact ⟨l, p, c, rfl, h1, h2, fun k x hk => (by obtain ⟨g, off, e, _, hc⟩ := h3 k x hk; exact ⟨g, off, e, hc⟩), fun z hz => by simpa [Lit.wf, IntKind.min, IntKind.max, IntKind.signed, IntKind.bits] using h4 z hz⟩
end Go.Proofs.YtfgmhpdhgepalaaDoor
