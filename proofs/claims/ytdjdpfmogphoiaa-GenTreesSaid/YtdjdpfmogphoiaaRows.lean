/-
  No cell of these rows narrows 'for every input' (looked for: loops, veiled, ifaces, maps, wideKeys, modest, calm, conditions, laid).
  DERIVED. THE GIVEN ROWS OF THIS SEAT. 4 by the template 'for every input the law returns true; each argument reads behind the call as it read before'; 0 by the template 'total and deterministic' (their statements: YtdjdpfmogphoiaaTotals.lean).
  GIVEN WITH THE SEED: the statements are not yours to turn. If you find one false, say at which input.
  Laid BY PROGRAM, IN A SANDBOX (cutbox-rows.mjs): the forced cells as the released guide's own fill.sh prints them over the translation 9661fbd33e616cba… (all of the seat's roots in one cut). By AI agents, Wed Nov 11 2026. No macro, syntax, notation, axiom, sorry.
-/
import Derived.Test.YtdjdpfmogphoiaaChecked
import GoSem.Claim
import GoSem.ClaimJoined
import GoSem.ClaimMapViews
import Derived.JoinedTies
import Derived.KernelRfl
namespace Go.Proofs.Ytdjdpfmogphoiaa
/- THE CELL 'sum', in the pinned program and in every row, IS THE sha256 OF THE DUMP (.gsa) THAT YtdjdpfmogphoiaaProg.lean LOADS. Nothing in Lean hashes anything: it is a label: what it is worth is what the hold of that sum in a sandbox is worth. -/
noncomputable def Try.pinned : Pinned := { name := "ytdjdpfmogphoiaa", sum := "9661fbd33e616cba2c15cf49ed41674023a2bd0c0657981e4003cb751bf027eb", checked := Try.checked }
namespace Rows
def none {H : Type} : Left H := { results := [], args := [] }

/-- 'tapestrierlaw26.GenLots': WHATEVER THE INPUT: true; the input reads as it did. -/
def genLotsSpec : ChangeSpec := { name := "genLots", fn := fun _ => fun
  | [d1, d2] => { results := [.lit (.bool true)], args := [d1, d2] }
  | _ => none }
def genLotsRow : OpenClaim := { program := "ytdjdpfmogphoiaa", sum := "9661fbd33e616cba2c15cf49ed41674023a2bd0c0657981e4003cb751bf027eb", func := "tapestrier/tapestrierlaw26.GenLots", spec := "genLots", unfollowed := true, recurses := true, apart := false }
def GenLotsSaid : Prop := genLotsRow.holds Try.pinned (OpenSpec.ofChange genLotsSpec)

/-- ITS FALSE NEIGHBOUR: 'it returns false'. Refute it at one input. -/
def genLotsWrong : ChangeSpec := { name := "genLots", fn := fun _ => fun
  | [d1, d2] => { results := [.lit (.bool false)], args := [d1, d2] }
  | _ => none }
def GenLotsWrongFalsely : Prop := genLotsRow.holds Try.pinned (OpenSpec.ofChange genLotsWrong)

/-- 'tapestrierlaw26.GenTrees': WHATEVER THE INPUT: true; the input reads as it did. -/
def genTreesSpec : ChangeSpec := { name := "genTrees", fn := fun _ => fun
  | [d1, d2, d3] => { results := [.lit (.bool true)], args := [d1, d2, d3] }
  | _ => none }
def genTreesRow : OpenClaim := { program := "ytdjdpfmogphoiaa", sum := "9661fbd33e616cba2c15cf49ed41674023a2bd0c0657981e4003cb751bf027eb", func := "tapestrier/tapestrierlaw26.GenTrees", spec := "genTrees", unfollowed := true, recurses := true, apart := false }
def GenTreesSaid : Prop := genTreesRow.holds Try.pinned (OpenSpec.ofChange genTreesSpec)

/-- ITS FALSE NEIGHBOUR: 'it returns false'. Refute it at one input. -/
def genTreesWrong : ChangeSpec := { name := "genTrees", fn := fun _ => fun
  | [d1, d2, d3] => { results := [.lit (.bool false)], args := [d1, d2, d3] }
  | _ => none }
def GenTreesWrongFalsely : Prop := genTreesRow.holds Try.pinned (OpenSpec.ofChange genTreesWrong)

/-- 'tapestrierlaw26.GenMakes': WHATEVER THE INPUT: true; the input reads as it did. -/
def genMakesSpec : ChangeSpec := { name := "genMakes", fn := fun _ => fun
  | [d1, d2, d3] => { results := [.lit (.bool true)], args := [d1, d2, d3] }
  | _ => none }
def genMakesRow : OpenClaim := { program := "ytdjdpfmogphoiaa", sum := "9661fbd33e616cba2c15cf49ed41674023a2bd0c0657981e4003cb751bf027eb", func := "tapestrier/tapestrierlaw26.GenMakes", spec := "genMakes", unfollowed := true, recurses := true, apart := false }
def GenMakesSaid : Prop := genMakesRow.holds Try.pinned (OpenSpec.ofChange genMakesSpec)

/-- ITS FALSE NEIGHBOUR: 'it returns false'. Refute it at one input. -/
def genMakesWrong : ChangeSpec := { name := "genMakes", fn := fun _ => fun
  | [d1, d2, d3] => { results := [.lit (.bool false)], args := [d1, d2, d3] }
  | _ => none }
def GenMakesWrongFalsely : Prop := genMakesRow.holds Try.pinned (OpenSpec.ofChange genMakesWrong)

/-- 'tapestrierlaw26.GenRight': WHATEVER THE INPUT: true; the input reads as it did. -/
def genRightSpec : ChangeSpec := { name := "genRight", fn := fun _ => fun
  | [d1, d2, d3, d4] => { results := [.lit (.bool true)], args := [d1, d2, d3, d4] }
  | _ => none }
def genRightRow : OpenClaim := { program := "ytdjdpfmogphoiaa", sum := "9661fbd33e616cba2c15cf49ed41674023a2bd0c0657981e4003cb751bf027eb", func := "tapestrier/tapestrierlaw26.GenRight", spec := "genRight", unfollowed := true, recurses := true, apart := false }
def GenRightSaid : Prop := genRightRow.holds Try.pinned (OpenSpec.ofChange genRightSpec)

/-- ITS FALSE NEIGHBOUR: 'it returns false'. Refute it at one input. -/
def genRightWrong : ChangeSpec := { name := "genRight", fn := fun _ => fun
  | [d1, d2, d3, d4] => { results := [.lit (.bool false)], args := [d1, d2, d3, d4] }
  | _ => none }
def GenRightWrongFalsely : Prop := genRightRow.holds Try.pinned (OpenSpec.ofChange genRightWrong)

/- THE SECOND FORM. 'bulk': how many values and letters a reading holds, each counted each time it is reached (what is shared counts as often as it is met; a slice's spare places count too). A statement '..UptoSaid' is the law's where the arguments, and the package variables that the reading takes, are together of bulk at most 1048576: NARROWER than '..Said'. Prove '..Said' where nothing that the law and all that it calls make is longer than what came in: it says more and counts as full. Else prove '..UptoSaid'. A law counts once. -/
mutual
def uptoBulk {H : Type} : DataW H → Nat
  | .lit (.string bytes) => bytes.length + 1
  | .lit _ => 1
  | .nil => 1
  | .ptr d => uptoBulk d + 1
  | .slice elems spare => uptoBulkAll elems + uptoBulkAll spare + 1
  | .agg parts => uptoBulkAll parts + 1
  | .iface _ d => uptoBulk d + 1
  | .map entries => uptoBulkEntries entries + 1
  | .held _ => 1
def uptoBulkAll {H : Type} : List (DataW H) → Nat
  | [] => 0
  | d :: r => uptoBulk d + uptoBulkAll r
def uptoBulkEntries {H : Type} : List (Lit × DataW H) → Nat
  | [] => 0
  | x :: r => uptoBulkEntry x + uptoBulkEntries r
def uptoBulkEntry {H : Type} : Lit × DataW H → Nat
  | (.string bytes, d) => bytes.length + uptoBulk d + 1
  | (_, d) => uptoBulk d + 1
 end
def uptoSmall : (H : Type) → List (DataW H) → Bool := fun _ ds => decide (uptoBulkAll ds ≤ 1048576)
def OpenSpec.upto (s : _root_.Go.ChangeSpec) : _root_.Go.OpenSpec := { _root_.Go.OpenSpec.ofChange s with cond := some uptoSmall }

/-- 'tapestrierlaw26.GenLots', WHERE WHAT IT READS IS OF BULK AT MOST 1048576: true; the input reads as it did. -/
def genLotsUptoRow : OpenClaim := { program := "ytdjdpfmogphoiaa", sum := "9661fbd33e616cba2c15cf49ed41674023a2bd0c0657981e4003cb751bf027eb", func := "tapestrier/tapestrierlaw26.GenLots", spec := "genLots", unfollowed := true, recurses := true, apart := false, narrowed := true }
def GenLotsUptoSaid : Prop := genLotsUptoRow.holds Try.pinned (OpenSpec.upto genLotsSpec)

/-- 'tapestrierlaw26.GenTrees', WHERE WHAT IT READS IS OF BULK AT MOST 1048576: true; the input reads as it did. -/
def genTreesUptoRow : OpenClaim := { program := "ytdjdpfmogphoiaa", sum := "9661fbd33e616cba2c15cf49ed41674023a2bd0c0657981e4003cb751bf027eb", func := "tapestrier/tapestrierlaw26.GenTrees", spec := "genTrees", unfollowed := true, recurses := true, apart := false, narrowed := true }
def GenTreesUptoSaid : Prop := genTreesUptoRow.holds Try.pinned (OpenSpec.upto genTreesSpec)

/-- 'tapestrierlaw26.GenMakes', WHERE WHAT IT READS IS OF BULK AT MOST 1048576: true; the input reads as it did. -/
def genMakesUptoRow : OpenClaim := { program := "ytdjdpfmogphoiaa", sum := "9661fbd33e616cba2c15cf49ed41674023a2bd0c0657981e4003cb751bf027eb", func := "tapestrier/tapestrierlaw26.GenMakes", spec := "genMakes", unfollowed := true, recurses := true, apart := false, narrowed := true }
def GenMakesUptoSaid : Prop := genMakesUptoRow.holds Try.pinned (OpenSpec.upto genMakesSpec)

/-- 'tapestrierlaw26.GenRight', WHERE WHAT IT READS IS OF BULK AT MOST 1048576: true; the input reads as it did. -/
def genRightUptoRow : OpenClaim := { program := "ytdjdpfmogphoiaa", sum := "9661fbd33e616cba2c15cf49ed41674023a2bd0c0657981e4003cb751bf027eb", func := "tapestrier/tapestrierlaw26.GenRight", spec := "genRight", unfollowed := true, recurses := true, apart := false, narrowed := true }
def GenRightUptoSaid : Prop := genRightUptoRow.holds Try.pinned (OpenSpec.upto genRightSpec)

end Rows
end Go.Proofs.Ytdjdpfmogphoiaa
