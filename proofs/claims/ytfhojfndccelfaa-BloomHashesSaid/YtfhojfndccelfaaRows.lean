/-
  NARROWER THAN 'FOR EVERY INPUT', by the rows' own cells (each row's printed sentence says how): BloomHashes: loops · BloomDenies: loops.
  DERIVED. THE GIVEN ROWS OF THIS SEAT. 6 by the template 'for every input the law returns true; each argument reads behind the call as it read before'; 0 by the template 'total and deterministic' (their statements: YtfhojfndccelfaaTotals.lean).
  GIVEN WITH THE SEED: the statements are not yours to turn. If you find one false, say at which input.
  Laid BY PROGRAM, IN A SANDBOX (cutbox-rows.mjs): the forced cells as the released guide's own fill.sh prints them over the translation 8a3b953ae5c2a73a… (all of the seat's roots in one cut). By AI agents, Wed Nov 11 2026. No macro, syntax, notation, axiom, sorry.
-/
import Derived.Test.YtfhojfndccelfaaChecked
import GoSem.Claim
import GoSem.ClaimJoined
import GoSem.ClaimMapViews
import Derived.JoinedTies
import Derived.KernelRfl
namespace Go.Proofs.Ytfhojfndccelfaa
/- THE CELL 'sum', in the pinned program and in every row, IS THE sha256 OF THE DUMP (.gsa) THAT YtfhojfndccelfaaProg.lean LOADS. Nothing in Lean hashes anything: it is a label: what it is worth is what the hold of that sum in a sandbox is worth. -/
noncomputable def Try.pinned : Pinned := { name := "ytfhojfndccelfaa", sum := "8a3b953ae5c2a73ab11ca162c2737d2dd74727191a141a180c4ea37c628d65dd", checked := Try.checked }
namespace Rows
def none {H : Type} : Left H := { results := [], args := [] }

/-- 'tapestrierlaw13.BloomPlays': WHATEVER THE INPUT: true; the input reads as it did. -/
def bloomPlaysSpec : ChangeSpec := { name := "bloomPlays", fn := fun _ => fun
  | [d1, d2] => { results := [.lit (.bool true)], args := [d1, d2] }
  | _ => none }
def bloomPlaysRow : OpenClaim := { program := "ytfhojfndccelfaa", sum := "8a3b953ae5c2a73ab11ca162c2737d2dd74727191a141a180c4ea37c628d65dd", func := "tapestrier/tapestrierlaw13.BloomPlays", spec := "bloomPlays", unfollowed := true, recurses := true, apart := false }
def BloomPlaysSaid : Prop := bloomPlaysRow.holds Try.pinned (OpenSpec.ofChange bloomPlaysSpec)

/-- ITS FALSE NEIGHBOUR: 'it returns false'. Refute it at one input. -/
def bloomPlaysWrong : ChangeSpec := { name := "bloomPlays", fn := fun _ => fun
  | [d1, d2] => { results := [.lit (.bool false)], args := [d1, d2] }
  | _ => none }
def BloomPlaysWrongFalsely : Prop := bloomPlaysRow.holds Try.pinned (OpenSpec.ofChange bloomPlaysWrong)

/-- 'tapestrierlaw13.BloomKeeps': WHATEVER THE INPUT: true; the input reads as it did. -/
def bloomKeepsSpec : ChangeSpec := { name := "bloomKeeps", fn := fun _ => fun
  | [d1, d2, d3] => { results := [.lit (.bool true)], args := [d1, d2, d3] }
  | _ => none }
def bloomKeepsRow : OpenClaim := { program := "ytfhojfndccelfaa", sum := "8a3b953ae5c2a73ab11ca162c2737d2dd74727191a141a180c4ea37c628d65dd", func := "tapestrier/tapestrierlaw13.BloomKeeps", spec := "bloomKeeps", unfollowed := true, recurses := true, apart := false }
def BloomKeepsSaid : Prop := bloomKeepsRow.holds Try.pinned (OpenSpec.ofChange bloomKeepsSpec)

/-- ITS FALSE NEIGHBOUR: 'it returns false'. Refute it at one input. -/
def bloomKeepsWrong : ChangeSpec := { name := "bloomKeeps", fn := fun _ => fun
  | [d1, d2, d3] => { results := [.lit (.bool false)], args := [d1, d2, d3] }
  | _ => none }
def BloomKeepsWrongFalsely : Prop := bloomKeepsRow.holds Try.pinned (OpenSpec.ofChange bloomKeepsWrong)

/-- 'tapestrierlaw13.BloomOne': WHATEVER THE INPUT: true; the input reads as it did. -/
def bloomOneSpec : ChangeSpec := { name := "bloomOne", fn := fun _ => fun
  | [d] => { results := [.lit (.bool true)], args := [d] }
  | _ => none }
def bloomOneRow : OpenClaim := { program := "ytfhojfndccelfaa", sum := "8a3b953ae5c2a73ab11ca162c2737d2dd74727191a141a180c4ea37c628d65dd", func := "tapestrier/tapestrierlaw13.BloomOne", spec := "bloomOne", unfollowed := true, recurses := true, apart := false }
def BloomOneSaid : Prop := bloomOneRow.holds Try.pinned (OpenSpec.ofChange bloomOneSpec)

/-- ITS FALSE NEIGHBOUR: 'it returns false'. Refute it at one input. -/
def bloomOneWrong : ChangeSpec := { name := "bloomOne", fn := fun _ => fun
  | [d] => { results := [.lit (.bool false)], args := [d] }
  | _ => none }
def BloomOneWrongFalsely : Prop := bloomOneRow.holds Try.pinned (OpenSpec.ofChange bloomOneWrong)

/-- 'tapestrierlaw13.BloomFull': WHATEVER THE INPUT: true; the input reads as it did. -/
def bloomFullSpec : ChangeSpec := { name := "bloomFull", fn := fun _ => fun
  | [d1, d2, d3] => { results := [.lit (.bool true)], args := [d1, d2, d3] }
  | _ => none }
def bloomFullRow : OpenClaim := { program := "ytfhojfndccelfaa", sum := "8a3b953ae5c2a73ab11ca162c2737d2dd74727191a141a180c4ea37c628d65dd", func := "tapestrier/tapestrierlaw13.BloomFull", spec := "bloomFull", unfollowed := true, recurses := true, apart := false }
def BloomFullSaid : Prop := bloomFullRow.holds Try.pinned (OpenSpec.ofChange bloomFullSpec)

/-- ITS FALSE NEIGHBOUR: 'it returns false'. Refute it at one input. -/
def bloomFullWrong : ChangeSpec := { name := "bloomFull", fn := fun _ => fun
  | [d1, d2, d3] => { results := [.lit (.bool false)], args := [d1, d2, d3] }
  | _ => none }
def BloomFullWrongFalsely : Prop := bloomFullRow.holds Try.pinned (OpenSpec.ofChange bloomFullWrong)

/-- 'tapestrierlaw13.BloomHashes': WHATEVER THE INPUT: true; the input reads as it did. -/
def bloomHashesSpec : ChangeSpec := { name := "bloomHashes", fn := fun _ => fun
  | [d1, d2, d3, d4] => { results := [.lit (.bool true)], args := [d1, d2, d3, d4] }
  | _ => none }
def bloomHashesRow : OpenClaim := { program := "ytfhojfndccelfaa", sum := "8a3b953ae5c2a73ab11ca162c2737d2dd74727191a141a180c4ea37c628d65dd", func := "tapestrier/tapestrierlaw13.BloomHashes", spec := "bloomHashes", unfollowed := true, recurses := true, loops := true, apart := false }
def BloomHashesSaid : Prop := bloomHashesRow.holds Try.pinned (OpenSpec.ofChange bloomHashesSpec)

/-- ITS FALSE NEIGHBOUR: 'it returns false'. Refute it at one input. -/
def bloomHashesWrong : ChangeSpec := { name := "bloomHashes", fn := fun _ => fun
  | [d1, d2, d3, d4] => { results := [.lit (.bool false)], args := [d1, d2, d3, d4] }
  | _ => none }
def BloomHashesWrongFalsely : Prop := bloomHashesRow.holds Try.pinned (OpenSpec.ofChange bloomHashesWrong)

/-- 'tapestrierlaw13.BloomDenies': WHATEVER THE INPUT: true; the input reads as it did. -/
def bloomDeniesSpec : ChangeSpec := { name := "bloomDenies", fn := fun _ => fun
  | [d1, d2] => { results := [.lit (.bool true)], args := [d1, d2] }
  | _ => none }
def bloomDeniesRow : OpenClaim := { program := "ytfhojfndccelfaa", sum := "8a3b953ae5c2a73ab11ca162c2737d2dd74727191a141a180c4ea37c628d65dd", func := "tapestrier/tapestrierlaw13.BloomDenies", spec := "bloomDenies", unfollowed := true, recurses := true, loops := true, apart := false }
def BloomDeniesSaid : Prop := bloomDeniesRow.holds Try.pinned (OpenSpec.ofChange bloomDeniesSpec)

/-- ITS FALSE NEIGHBOUR: 'it returns false'. Refute it at one input. -/
def bloomDeniesWrong : ChangeSpec := { name := "bloomDenies", fn := fun _ => fun
  | [d1, d2] => { results := [.lit (.bool false)], args := [d1, d2] }
  | _ => none }
def BloomDeniesWrongFalsely : Prop := bloomDeniesRow.holds Try.pinned (OpenSpec.ofChange bloomDeniesWrong)

/- THE SECOND FORM. 'bulk': how many values and letters a reading holds, each counted each time it is reached (what is shared counts as often as it is met; a slice's spare places count too). A statement '..UptoSaid' is the law's where the arguments, and the package variables that the reading takes, are together of bulk at most 1048576: NARROWER than '..Said'. Prove '..Said' where nothing that the law and all that it calls make is longer than what came in: it says more and counts as full. Else prove '..UptoSaid'. A law counts once. -/
mutual
def uptoBulk {H : Type} : DataW H → Nat
  | .lit (.string bytes) => bytes.length + 1
  | .lit _ => 1
  | .nil => 1
  | .ptr d => uptoBulk d + 1
  | .slice elems spare => uptoBulkAll elems + uptoBulkAll spare + 1
  | .agg parts => uptoBulkAll parts + 1
  | .iface _ d => uptoBulk d + 1
  | .map entries => uptoBulkEntries entries + 1
  | .held _ => 1
def uptoBulkAll {H : Type} : List (DataW H) → Nat
  | [] => 0
  | d :: r => uptoBulk d + uptoBulkAll r
def uptoBulkEntries {H : Type} : List (Lit × DataW H) → Nat
  | [] => 0
  | x :: r => uptoBulkEntry x + uptoBulkEntries r
def uptoBulkEntry {H : Type} : Lit × DataW H → Nat
  | (.string bytes, d) => bytes.length + uptoBulk d + 1
  | (_, d) => uptoBulk d + 1
 end
def uptoSmall : (H : Type) → List (DataW H) → Bool := fun _ ds => decide (uptoBulkAll ds ≤ 1048576)
def OpenSpec.upto (s : _root_.Go.ChangeSpec) : _root_.Go.OpenSpec := { _root_.Go.OpenSpec.ofChange s with cond := some uptoSmall }

/-- 'tapestrierlaw13.BloomPlays', WHERE WHAT IT READS IS OF BULK AT MOST 1048576: true; the input reads as it did. -/
def bloomPlaysUptoRow : OpenClaim := { program := "ytfhojfndccelfaa", sum := "8a3b953ae5c2a73ab11ca162c2737d2dd74727191a141a180c4ea37c628d65dd", func := "tapestrier/tapestrierlaw13.BloomPlays", spec := "bloomPlays", unfollowed := true, recurses := true, apart := false, narrowed := true }
def BloomPlaysUptoSaid : Prop := bloomPlaysUptoRow.holds Try.pinned (OpenSpec.upto bloomPlaysSpec)

/-- 'tapestrierlaw13.BloomKeeps', WHERE WHAT IT READS IS OF BULK AT MOST 1048576: true; the input reads as it did. -/
def bloomKeepsUptoRow : OpenClaim := { program := "ytfhojfndccelfaa", sum := "8a3b953ae5c2a73ab11ca162c2737d2dd74727191a141a180c4ea37c628d65dd", func := "tapestrier/tapestrierlaw13.BloomKeeps", spec := "bloomKeeps", unfollowed := true, recurses := true, apart := false, narrowed := true }
def BloomKeepsUptoSaid : Prop := bloomKeepsUptoRow.holds Try.pinned (OpenSpec.upto bloomKeepsSpec)

/-- 'tapestrierlaw13.BloomOne', WHERE WHAT IT READS IS OF BULK AT MOST 1048576: true; the input reads as it did. -/
def bloomOneUptoRow : OpenClaim := { program := "ytfhojfndccelfaa", sum := "8a3b953ae5c2a73ab11ca162c2737d2dd74727191a141a180c4ea37c628d65dd", func := "tapestrier/tapestrierlaw13.BloomOne", spec := "bloomOne", unfollowed := true, recurses := true, apart := false, narrowed := true }
def BloomOneUptoSaid : Prop := bloomOneUptoRow.holds Try.pinned (OpenSpec.upto bloomOneSpec)

/-- 'tapestrierlaw13.BloomFull', WHERE WHAT IT READS IS OF BULK AT MOST 1048576: true; the input reads as it did. -/
def bloomFullUptoRow : OpenClaim := { program := "ytfhojfndccelfaa", sum := "8a3b953ae5c2a73ab11ca162c2737d2dd74727191a141a180c4ea37c628d65dd", func := "tapestrier/tapestrierlaw13.BloomFull", spec := "bloomFull", unfollowed := true, recurses := true, apart := false, narrowed := true }
def BloomFullUptoSaid : Prop := bloomFullUptoRow.holds Try.pinned (OpenSpec.upto bloomFullSpec)

/-- 'tapestrierlaw13.BloomHashes', WHERE WHAT IT READS IS OF BULK AT MOST 1048576: true; the input reads as it did. -/
def bloomHashesUptoRow : OpenClaim := { program := "ytfhojfndccelfaa", sum := "8a3b953ae5c2a73ab11ca162c2737d2dd74727191a141a180c4ea37c628d65dd", func := "tapestrier/tapestrierlaw13.BloomHashes", spec := "bloomHashes", unfollowed := true, recurses := true, loops := true, apart := false, narrowed := true }
def BloomHashesUptoSaid : Prop := bloomHashesUptoRow.holds Try.pinned (OpenSpec.upto bloomHashesSpec)

/-- 'tapestrierlaw13.BloomDenies', WHERE WHAT IT READS IS OF BULK AT MOST 1048576: true; the input reads as it did. -/
def bloomDeniesUptoRow : OpenClaim := { program := "ytfhojfndccelfaa", sum := "8a3b953ae5c2a73ab11ca162c2737d2dd74727191a141a180c4ea37c628d65dd", func := "tapestrier/tapestrierlaw13.BloomDenies", spec := "bloomDenies", unfollowed := true, recurses := true, loops := true, apart := false, narrowed := true }
def BloomDeniesUptoSaid : Prop := bloomDeniesUptoRow.holds Try.pinned (OpenSpec.upto bloomDeniesSpec)

end Rows
end Go.Proofs.Ytfhojfndccelfaa
