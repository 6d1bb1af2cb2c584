/-
  No cell of these rows narrows 'for every input' (looked for: loops, veiled, ifaces, maps, wideKeys, modest, calm, conditions, laid).
  DERIVED. THE GIVEN ROWS OF THIS SEAT. 5 by the template 'for every input the law returns true; each argument reads behind the call as it read before'; 0 by the template 'total and deterministic' (their statements: YtmfkomdfknflgaaTotals.lean).
  GIVEN WITH THE SEED: the statements are not yours to turn. If you find one false, say at which input.
  Laid BY PROGRAM, IN A SANDBOX (cutbox-rows.mjs): the forced cells as the released guide's own fill.sh prints them over the translation fe77feb9a9d2811f… (all of the seat's roots in one cut). By AI agents, Wed Nov 11 2026. No macro, syntax, notation, axiom, sorry.
-/
import Derived.Test.YtmfkomdfknflgaaChecked
import GoSem.Claim
import GoSem.ClaimJoined
import GoSem.ClaimMapViews
import Derived.JoinedTies
import Derived.KernelRfl
namespace Go.Proofs.Ytmfkomdfknflgaa
/- THE CELL 'sum', in the pinned program and in every row, IS THE sha256 OF THE DUMP (.gsa) THAT YtmfkomdfknflgaaProg.lean LOADS. Nothing in Lean hashes anything: it is a label: what it is worth is what the hold of that sum in a sandbox is worth. -/
noncomputable def Try.pinned : Pinned := { name := "ytmfkomdfknflgaa", sum := "fe77feb9a9d2811f3f35c9146bd160c1eacb535e73d5e48e6ab5673ed3b52d42", checked := Try.checked }
namespace Rows
def none {H : Type} : Left H := { results := [], args := [] }

/-- 'tapestrierlaw21.ClockPass': WHATEVER THE INPUT: true; the input reads as it did. -/
def clockPassSpec : ChangeSpec := { name := "clockPass", fn := fun _ => fun
  | [d1, d2, d3, d4, d5, d6] => { results := [.lit (.bool true)], args := [d1, d2, d3, d4, d5, d6] }
  | _ => none }
def clockPassRow : OpenClaim := { program := "ytmfkomdfknflgaa", sum := "fe77feb9a9d2811f3f35c9146bd160c1eacb535e73d5e48e6ab5673ed3b52d42", func := "tapestrier/tapestrierlaw21.ClockPass", spec := "clockPass", unfollowed := true, recurses := true, apart := false }
def ClockPassSaid : Prop := clockPassRow.holds Try.pinned (OpenSpec.ofChange clockPassSpec)

/-- ITS FALSE NEIGHBOUR: 'it returns false'. Refute it at one input. -/
def clockPassWrong : ChangeSpec := { name := "clockPass", fn := fun _ => fun
  | [d1, d2, d3, d4, d5, d6] => { results := [.lit (.bool false)], args := [d1, d2, d3, d4, d5, d6] }
  | _ => none }
def ClockPassWrongFalsely : Prop := clockPassRow.holds Try.pinned (OpenSpec.ofChange clockPassWrong)

/-- 'tapestrierlaw21.ClockPlain': WHATEVER THE INPUT: true; the input reads as it did. -/
def clockPlainSpec : ChangeSpec := { name := "clockPlain", fn := fun _ => fun
  | [d1, d2, d3] => { results := [.lit (.bool true)], args := [d1, d2, d3] }
  | _ => none }
def clockPlainRow : OpenClaim := { program := "ytmfkomdfknflgaa", sum := "fe77feb9a9d2811f3f35c9146bd160c1eacb535e73d5e48e6ab5673ed3b52d42", func := "tapestrier/tapestrierlaw21.ClockPlain", spec := "clockPlain", unfollowed := true, recurses := true, apart := false }
def ClockPlainSaid : Prop := clockPlainRow.holds Try.pinned (OpenSpec.ofChange clockPlainSpec)

/-- ITS FALSE NEIGHBOUR: 'it returns false'. Refute it at one input. -/
def clockPlainWrong : ChangeSpec := { name := "clockPlain", fn := fun _ => fun
  | [d1, d2, d3] => { results := [.lit (.bool false)], args := [d1, d2, d3] }
  | _ => none }
def ClockPlainWrongFalsely : Prop := clockPlainRow.holds Try.pinned (OpenSpec.ofChange clockPlainWrong)

/-- 'tapestrierlaw21.ClockRises': WHATEVER THE INPUT: true; the input reads as it did. -/
def clockRisesSpec : ChangeSpec := { name := "clockRises", fn := fun _ => fun
  | [d1, d2] => { results := [.lit (.bool true)], args := [d1, d2] }
  | _ => none }
def clockRisesRow : OpenClaim := { program := "ytmfkomdfknflgaa", sum := "fe77feb9a9d2811f3f35c9146bd160c1eacb535e73d5e48e6ab5673ed3b52d42", func := "tapestrier/tapestrierlaw21.ClockRises", spec := "clockRises", unfollowed := true, recurses := true, apart := false }
def ClockRisesSaid : Prop := clockRisesRow.holds Try.pinned (OpenSpec.ofChange clockRisesSpec)

/-- ITS FALSE NEIGHBOUR: 'it returns false'. Refute it at one input. -/
def clockRisesWrong : ChangeSpec := { name := "clockRises", fn := fun _ => fun
  | [d1, d2] => { results := [.lit (.bool false)], args := [d1, d2] }
  | _ => none }
def ClockRisesWrongFalsely : Prop := clockRisesRow.holds Try.pinned (OpenSpec.ofChange clockRisesWrong)

/-- 'tapestrierlaw21.ClockOrders': WHATEVER THE INPUT: true; the input reads as it did. -/
def clockOrdersSpec : ChangeSpec := { name := "clockOrders", fn := fun _ => fun
  | [d1, d2, d3, d4, d5] => { results := [.lit (.bool true)], args := [d1, d2, d3, d4, d5] }
  | _ => none }
def clockOrdersRow : OpenClaim := { program := "ytmfkomdfknflgaa", sum := "fe77feb9a9d2811f3f35c9146bd160c1eacb535e73d5e48e6ab5673ed3b52d42", func := "tapestrier/tapestrierlaw21.ClockOrders", spec := "clockOrders", unfollowed := true, recurses := true, apart := false }
def ClockOrdersSaid : Prop := clockOrdersRow.holds Try.pinned (OpenSpec.ofChange clockOrdersSpec)

/-- ITS FALSE NEIGHBOUR: 'it returns false'. Refute it at one input. -/
def clockOrdersWrong : ChangeSpec := { name := "clockOrders", fn := fun _ => fun
  | [d1, d2, d3, d4, d5] => { results := [.lit (.bool false)], args := [d1, d2, d3, d4, d5] }
  | _ => none }
def ClockOrdersWrongFalsely : Prop := clockOrdersRow.holds Try.pinned (OpenSpec.ofChange clockOrdersWrong)

/-- 'tapestrierlaw21.ClockPlays': WHATEVER THE INPUT: true; the input reads as it did. -/
def clockPlaysSpec : ChangeSpec := { name := "clockPlays", fn := fun _ => fun
  | [d1, d2] => { results := [.lit (.bool true)], args := [d1, d2] }
  | _ => none }
def clockPlaysRow : OpenClaim := { program := "ytmfkomdfknflgaa", sum := "fe77feb9a9d2811f3f35c9146bd160c1eacb535e73d5e48e6ab5673ed3b52d42", func := "tapestrier/tapestrierlaw21.ClockPlays", spec := "clockPlays", unfollowed := true, recurses := true, apart := false }
def ClockPlaysSaid : Prop := clockPlaysRow.holds Try.pinned (OpenSpec.ofChange clockPlaysSpec)

/-- ITS FALSE NEIGHBOUR: 'it returns false'. Refute it at one input. -/
def clockPlaysWrong : ChangeSpec := { name := "clockPlays", fn := fun _ => fun
  | [d1, d2] => { results := [.lit (.bool false)], args := [d1, d2] }
  | _ => none }
def ClockPlaysWrongFalsely : Prop := clockPlaysRow.holds Try.pinned (OpenSpec.ofChange clockPlaysWrong)

/- THE SECOND FORM. 'bulk': how many values and letters a reading holds, each counted each time it is reached (what is shared counts as often as it is met; a slice's spare places count too). A statement '..UptoSaid' is the law's where the arguments, and the package variables that the reading takes, are together of bulk at most 1048576: NARROWER than '..Said'. Prove '..Said' where nothing that the law and all that it calls make is longer than what came in: it says more and counts as full. Else prove '..UptoSaid'. A law counts once. -/
mutual
def uptoBulk {H : Type} : DataW H → Nat
  | .lit (.string bytes) => bytes.length + 1
  | .lit _ => 1
  | .nil => 1
  | .ptr d => uptoBulk d + 1
  | .slice elems spare => uptoBulkAll elems + uptoBulkAll spare + 1
  | .agg parts => uptoBulkAll parts + 1
  | .iface _ d => uptoBulk d + 1
  | .map entries => uptoBulkEntries entries + 1
  | .held _ => 1
def uptoBulkAll {H : Type} : List (DataW H) → Nat
  | [] => 0
  | d :: r => uptoBulk d + uptoBulkAll r
def uptoBulkEntries {H : Type} : List (Lit × DataW H) → Nat
  | [] => 0
  | x :: r => uptoBulkEntry x + uptoBulkEntries r
def uptoBulkEntry {H : Type} : Lit × DataW H → Nat
  | (.string bytes, d) => bytes.length + uptoBulk d + 1
  | (_, d) => uptoBulk d + 1
 end
def uptoSmall : (H : Type) → List (DataW H) → Bool := fun _ ds => decide (uptoBulkAll ds ≤ 1048576)
def OpenSpec.upto (s : _root_.Go.ChangeSpec) : _root_.Go.OpenSpec := { _root_.Go.OpenSpec.ofChange s with cond := some uptoSmall }

/-- 'tapestrierlaw21.ClockPass', WHERE WHAT IT READS IS OF BULK AT MOST 1048576: true; the input reads as it did. -/
def clockPassUptoRow : OpenClaim := { program := "ytmfkomdfknflgaa", sum := "fe77feb9a9d2811f3f35c9146bd160c1eacb535e73d5e48e6ab5673ed3b52d42", func := "tapestrier/tapestrierlaw21.ClockPass", spec := "clockPass", unfollowed := true, recurses := true, apart := false, narrowed := true }
def ClockPassUptoSaid : Prop := clockPassUptoRow.holds Try.pinned (OpenSpec.upto clockPassSpec)

/-- 'tapestrierlaw21.ClockPlain', WHERE WHAT IT READS IS OF BULK AT MOST 1048576: true; the input reads as it did. -/
def clockPlainUptoRow : OpenClaim := { program := "ytmfkomdfknflgaa", sum := "fe77feb9a9d2811f3f35c9146bd160c1eacb535e73d5e48e6ab5673ed3b52d42", func := "tapestrier/tapestrierlaw21.ClockPlain", spec := "clockPlain", unfollowed := true, recurses := true, apart := false, narrowed := true }
def ClockPlainUptoSaid : Prop := clockPlainUptoRow.holds Try.pinned (OpenSpec.upto clockPlainSpec)

/-- 'tapestrierlaw21.ClockRises', WHERE WHAT IT READS IS OF BULK AT MOST 1048576: true; the input reads as it did. -/
def clockRisesUptoRow : OpenClaim := { program := "ytmfkomdfknflgaa", sum := "fe77feb9a9d2811f3f35c9146bd160c1eacb535e73d5e48e6ab5673ed3b52d42", func := "tapestrier/tapestrierlaw21.ClockRises", spec := "clockRises", unfollowed := true, recurses := true, apart := false, narrowed := true }
def ClockRisesUptoSaid : Prop := clockRisesUptoRow.holds Try.pinned (OpenSpec.upto clockRisesSpec)

/-- 'tapestrierlaw21.ClockOrders', WHERE WHAT IT READS IS OF BULK AT MOST 1048576: true; the input reads as it did. -/
def clockOrdersUptoRow : OpenClaim := { program := "ytmfkomdfknflgaa", sum := "fe77feb9a9d2811f3f35c9146bd160c1eacb535e73d5e48e6ab5673ed3b52d42", func := "tapestrier/tapestrierlaw21.ClockOrders", spec := "clockOrders", unfollowed := true, recurses := true, apart := false, narrowed := true }
def ClockOrdersUptoSaid : Prop := clockOrdersUptoRow.holds Try.pinned (OpenSpec.upto clockOrdersSpec)

/-- 'tapestrierlaw21.ClockPlays', WHERE WHAT IT READS IS OF BULK AT MOST 1048576: true; the input reads as it did. -/
def clockPlaysUptoRow : OpenClaim := { program := "ytmfkomdfknflgaa", sum := "fe77feb9a9d2811f3f35c9146bd160c1eacb535e73d5e48e6ab5673ed3b52d42", func := "tapestrier/tapestrierlaw21.ClockPlays", spec := "clockPlays", unfollowed := true, recurses := true, apart := false, narrowed := true }
def ClockPlaysUptoSaid : Prop := clockPlaysUptoRow.holds Try.pinned (OpenSpec.upto clockPlaysSpec)

end Rows
end Go.Proofs.Ytmfkomdfknflgaa
