/- The package is alive. -/
import Derived.Test.YtdjdpfmogphoiaaNodes1
import Derived.Test.YtdjdpfmogphoiaaRows2
import Derived.Deep.QuietTactic
import Derived.Deep.RegionWith
namespace Go.Proofs.Ytdjdpfmogphoiaa
open Go.RowKit Go.Maps Go.ChangeShapes Go.WideShapes Go.ChangeAt Go.WideMaps Go.WideElems

theorem ownsRow.first {w : World} {base e size n : Nat} {v : Value} {xs : List Value} (h : w.ownsRow base e size v n xs) (hn : 0 < n) : ∃ g c, v = .slice (some ⟨g, 0, none⟩) n c ∧ ∀ j u, xs[j]? = some u → w.cell? ⟨g, j, none⟩ = some u := by
  rcases h.2 with ⟨_, rfl⟩ | ⟨g, cap, cur, rfl, _⟩
  · omega
  · refine ⟨g, cap, rfl, fun j u hj => ?_⟩
    have := World.ownsRow.cells h rfl j u hj
    rw [addOf _ _ rfl, Nat.zero_add] at this
    exact this

set_option maxRecDepth 100000 in
theorem alive_any (w : World) : Calls Try.prog 7 #[] w fun e w' => e = .returned (.bool true) ∧ Below w.heap.size w w' := by
  go_enter Try.func7, Try.ntmps7
  go_wp2_with fail
  refine (nodes1 w).mono ?_
  rintro e w' ⟨⟨sp, c, v2, v3, v4, rfl, hrow⟩, hb⟩
  obtain ⟨g, c', e2, hc⟩ := ownsRow.first hrow (by omega)
  cases e2
  have c0 := hc 0 _ rfl
  have c1 := hc 1 _ rfl
  go_wp2_with fail
  go_ret
  exact ⟨rfl, hb⟩
end Go.Proofs.Ytdjdpfmogphoiaa
