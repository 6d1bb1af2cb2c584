/- RulesSkip: the walk, out of the printed contract and the plain law. -/
import Derived.Test.YtoemgjlkjnkdbaaTK
import Derived.Test.YtoemgjlkjnkdbaaP5b
namespace Go.Proofs.Ytoemgjlkjnkdbaa
open Go.RowKit PS
theorem rulesSkip_walk (v : Value) (l : List S35) (i : Int) (w : World) (h : IsToks w v l) (_ : (Lit.int .i64 i).wf = true) : Calls Try.prog 5 #[v, .int .i64 i] w fun e w' => e = .returned (.bool true) ∧ Below w.heap.size w w' := by
  obtain ⟨A, c, rfl, h1, h2, h3⟩ := h
  obtain ⟨k, hk⟩ := (RulesSkip_pure l i (by unfold maxLen at h2; omega)).rounds
  exact v_RulesSkip.calls k A c l i true w h3 h1 hk
end Go.Proofs.Ytoemgjlkjnkdbaa
