/- What the rows lay says what the contract of DecodeRune asks. -/
import Derived.Test.YtfgmhpdhgepalaaDoorEach
import Derived.Test.YtfgmhpdhgepalaaDoorRows
import Derived.Lib.LaidU8
namespace Go.Proofs.YtfgmhpdhgepalaaDoor
open Go.RowKit Go.Shelf Go.Lib
set_option maxRecDepth 100000

theorem first_eq : Go.Pinned.utf8First = firstData := by kernel_rfl
theorem accept_eq : (Rows.laid_unicode_utf8_acceptRanges : DataW Unit) = acceptData := by kernel_rfl

theorem tabs_of_reads {w : World} (h3 : VarReads Tryd.prog w "unicode/utf8.first" firstData) (h4 : VarReads Tryd.prog w "unicode/utf8.acceptRanges" acceptData) : Tabs w := by
  have n3 : Tryd.prog.globalNamed "unicode/utf8.first" = some 0 := by kernel_rfl
  have n4 : Tryd.prog.globalNamed "unicode/utf8.acceptRanges" = some 1 := by kernel_rfl
  have y3 : (Tryd.prog.globals[0]?).map (·.type) = some 45 := by kernel_rfl
  have y4 : (Tryd.prog.globals[1]?).map (·.type) = some 48 := by kernel_rfl
  have c5 : Tryd.prog.cellsOf 5 = 1 := by kernel_rfl
  have c45 : Tryd.prog.cellsOf 45 = 256 := by kernel_rfl
  have c47 : Tryd.prog.cellsOf 47 = 2 := by kernel_rfl
  refine ⟨fun c hc => ?_, fun i hi => ?_⟩
  · obtain ⟨g, t, cs, fuel, p, hg, hty, hvar, hd⟩ := h3
    obtain rfl := Option.some.inj (n3.symm.trans hg)
    obtain rfl := Option.some.inj (y3.symm.trans hty)
    have hcs := cells_of_tab Tryd.underlying45 Tryd.underlying5 c5 c45 hd
    have := World.var?_cell hg hvar c
    refine (show _ = _ from this).trans ?_
    rw [← Array.getElem?_toList, hcs]
    simp [firstTab, hc]
  · obtain ⟨g, t, cs, fuel, p, hg, hty, hvar, hd⟩ := h4
    obtain rfl := Option.some.inj (n4.symm.trans hg)
    obtain rfl := Option.some.inj (y4.symm.trans hty)
    obtain ⟨fuel', d, q, hdi, he⟩ := array_elem Tryd.underlying48 hd i hi
    simp only [List.getElem?_map, List.getElem?_range hi, Option.map_some, Option.some.injEq] at hdi
    subst hdi
    rw [c47] at he
    have hcs := ints_of_struct Tryd.underlying47 (fun j f hj => by
      match j, hj with
      | 0, hj => simp at hj; subst hj; exact ⟨Tryd.underlying5, rfl, c5⟩
      | 1, hj => simp at hj; subst hj; exact ⟨Tryd.underlying5, rfl, c5⟩
      | j + 2, hj => simp at hj) (by rw [c47]; rfl) he
    have e0 := congrArg (·[0]?) hcs
    have e1 := congrArg (·[1]?) hcs
    simp only [List.getElem?_take, List.getElem?_drop] at e0 e1
    constructor
    · refine (show _ = _ from World.var?_cell hg hvar (2 * i)).trans ?_
      rw [← Array.getElem?_toList]
      simpa [Nat.mul_comm] using e0
    · refine (show _ = _ from World.var?_cell hg hvar (2 * i + 1)).trans ?_
      rw [← Array.getElem?_toList]
      simpa [Nat.mul_comm] using e1

theorem tabs_of_laid {l : List (String × DataW Unit)} {w : World} (e : l = [("unicode/utf8.acceptRanges", Rows.laid_unicode_utf8_acceptRanges), ("unicode/utf8.first", Rows.laid_unicode_utf8_first)]) (h : laidMet Tryd.prog l w) : Tabs w := by
  subst e
  refine tabs_of_reads ?_ ?_
  · have := laidMet.reads h (n := "unicode/utf8.first") (d := Rows.laid_unicode_utf8_first) (by simp)
    exact (show Rows.laid_unicode_utf8_first = firstData from first_eq) ▸ this
  · have := laidMet.reads h (n := "unicode/utf8.acceptRanges") (d := Rows.laid_unicode_utf8_acceptRanges) (by simp)
    exact accept_eq ▸ this
end Go.Proofs.YtfgmhpdhgepalaaDoor
