/-
  No cell of these rows narrows 'for every input' (looked for: loops, veiled, ifaces, maps, wideKeys, modest, calm, conditions, laid).
  DERIVED. THE GIVEN ROWS OF THIS SEAT. 7 by the template 'for every input the law returns true; each argument reads behind the call as it read before'; 0 by the template 'total and deterministic' (their statements: YtdbhcogafhhlnaaTotals.lean).
  GIVEN WITH THE SEED: the statements are not yours to turn. If you find one false, say at which input.
  Laid BY PROGRAM, IN A SANDBOX (cutbox-rows.mjs): the forced cells as the released guide's own fill.sh prints them over the translation 85d346ec295261d3… (all of the seat's roots in one cut). By AI agents, Wed Nov 11 2026. No macro, syntax, notation, axiom, sorry.
-/
import Derived.Test.YtdbhcogafhhlnaaChecked
import GoSem.Claim
import GoSem.ClaimJoined
import GoSem.ClaimMapViews
import Derived.JoinedTies
import Derived.KernelRfl
namespace Go.Proofs.Ytdbhcogafhhlnaa
/- THE CELL 'sum', in the pinned program and in every row, IS THE sha256 OF THE DUMP (.gsa) THAT YtdbhcogafhhlnaaProg.lean LOADS. Nothing in Lean hashes anything: it is a label: what it is worth is what the hold of that sum in a sandbox is worth. -/
noncomputable def Try.pinned : Pinned := { name := "ytdbhcogafhhlnaa", sum := "85d346ec295261d3c784aa35ad1337cbc9064f7d8c50bea36b7ffbd92f943578", checked := Try.checked }
namespace Rows
def none {H : Type} : Left H := { results := [], args := [] }

/-- 'tapestrierlaw9.DomChain': WHATEVER THE INPUT: true; the input reads as it did. -/
def domChainSpec : ChangeSpec := { name := "domChain", fn := fun _ => fun
  | [d1, d2] => { results := [.lit (.bool true)], args := [d1, d2] }
  | _ => none }
def domChainRow : OpenClaim := { program := "ytdbhcogafhhlnaa", sum := "85d346ec295261d3c784aa35ad1337cbc9064f7d8c50bea36b7ffbd92f943578", func := "tapestrier/tapestrierlaw9.DomChain", spec := "domChain", apart := false }
def DomChainSaid : Prop := domChainRow.holds Try.pinned (OpenSpec.ofChange domChainSpec)

/-- ITS FALSE NEIGHBOUR: 'it returns false'. Refute it at one input. -/
def domChainWrong : ChangeSpec := { name := "domChain", fn := fun _ => fun
  | [d1, d2] => { results := [.lit (.bool false)], args := [d1, d2] }
  | _ => none }
def DomChainWrongFalsely : Prop := domChainRow.holds Try.pinned (OpenSpec.ofChange domChainWrong)

/-- 'tapestrierlaw9.DomNames': WHATEVER THE INPUT: true; the input reads as it did. -/
def domNamesSpec : ChangeSpec := { name := "domNames", fn := fun _ => fun
  | [d1, d2, d3, d4, d5] => { results := [.lit (.bool true)], args := [d1, d2, d3, d4, d5] }
  | _ => none }
def domNamesRow : OpenClaim := { program := "ytdbhcogafhhlnaa", sum := "85d346ec295261d3c784aa35ad1337cbc9064f7d8c50bea36b7ffbd92f943578", func := "tapestrier/tapestrierlaw9.DomNames", spec := "domNames", apart := false }
def DomNamesSaid : Prop := domNamesRow.holds Try.pinned (OpenSpec.ofChange domNamesSpec)

/-- ITS FALSE NEIGHBOUR: 'it returns false'. Refute it at one input. -/
def domNamesWrong : ChangeSpec := { name := "domNames", fn := fun _ => fun
  | [d1, d2, d3, d4, d5] => { results := [.lit (.bool false)], args := [d1, d2, d3, d4, d5] }
  | _ => none }
def DomNamesWrongFalsely : Prop := domNamesRow.holds Try.pinned (OpenSpec.ofChange domNamesWrong)

/-- 'tapestrierlaw9.DomLong': WHATEVER THE INPUT: true; the input reads as it did. -/
def domLongSpec : ChangeSpec := { name := "domLong", fn := fun _ => fun
  | [d] => { results := [.lit (.bool true)], args := [d] }
  | _ => none }
def domLongRow : OpenClaim := { program := "ytdbhcogafhhlnaa", sum := "85d346ec295261d3c784aa35ad1337cbc9064f7d8c50bea36b7ffbd92f943578", func := "tapestrier/tapestrierlaw9.DomLong", spec := "domLong", apart := false }
def DomLongSaid : Prop := domLongRow.holds Try.pinned (OpenSpec.ofChange domLongSpec)

/-- ITS FALSE NEIGHBOUR: 'it returns false'. Refute it at one input. -/
def domLongWrong : ChangeSpec := { name := "domLong", fn := fun _ => fun
  | [d] => { results := [.lit (.bool false)], args := [d] }
  | _ => none }
def DomLongWrongFalsely : Prop := domLongRow.holds Try.pinned (OpenSpec.ofChange domLongWrong)

/-- 'tapestrierlaw9.DomCounts': WHATEVER THE INPUT: true; the input reads as it did. -/
def domCountsSpec : ChangeSpec := { name := "domCounts", fn := fun _ => fun
  | [d] => { results := [.lit (.bool true)], args := [d] }
  | _ => none }
def domCountsRow : OpenClaim := { program := "ytdbhcogafhhlnaa", sum := "85d346ec295261d3c784aa35ad1337cbc9064f7d8c50bea36b7ffbd92f943578", func := "tapestrier/tapestrierlaw9.DomCounts", spec := "domCounts", apart := false }
def DomCountsSaid : Prop := domCountsRow.holds Try.pinned (OpenSpec.ofChange domCountsSpec)

/-- ITS FALSE NEIGHBOUR: 'it returns false'. Refute it at one input. -/
def domCountsWrong : ChangeSpec := { name := "domCounts", fn := fun _ => fun
  | [d] => { results := [.lit (.bool false)], args := [d] }
  | _ => none }
def DomCountsWrongFalsely : Prop := domCountsRow.holds Try.pinned (OpenSpec.ofChange domCountsWrong)

/-- 'tapestrierlaw9.DomKeeps': WHATEVER THE INPUT: true; the input reads as it did. -/
def domKeepsSpec : ChangeSpec := { name := "domKeeps", fn := fun _ => fun
  | [d1, d2] => { results := [.lit (.bool true)], args := [d1, d2] }
  | _ => none }
def domKeepsRow : OpenClaim := { program := "ytdbhcogafhhlnaa", sum := "85d346ec295261d3c784aa35ad1337cbc9064f7d8c50bea36b7ffbd92f943578", func := "tapestrier/tapestrierlaw9.DomKeeps", spec := "domKeeps", unfollowed := true, recurses := true, apart := false }
def DomKeepsSaid : Prop := domKeepsRow.holds Try.pinned (OpenSpec.ofChange domKeepsSpec)

/-- ITS FALSE NEIGHBOUR: 'it returns false'. Refute it at one input. -/
def domKeepsWrong : ChangeSpec := { name := "domKeeps", fn := fun _ => fun
  | [d1, d2] => { results := [.lit (.bool false)], args := [d1, d2] }
  | _ => none }
def DomKeepsWrongFalsely : Prop := domKeepsRow.holds Try.pinned (OpenSpec.ofChange domKeepsWrong)

/-- 'tapestrierlaw9.DomOrder': WHATEVER THE INPUT: true; the input reads as it did. -/
def domOrderSpec : ChangeSpec := { name := "domOrder", fn := fun _ => fun
  | [d] => { results := [.lit (.bool true)], args := [d] }
  | _ => none }
def domOrderRow : OpenClaim := { program := "ytdbhcogafhhlnaa", sum := "85d346ec295261d3c784aa35ad1337cbc9064f7d8c50bea36b7ffbd92f943578", func := "tapestrier/tapestrierlaw9.DomOrder", spec := "domOrder", unfollowed := true, recurses := true, apart := false }
def DomOrderSaid : Prop := domOrderRow.holds Try.pinned (OpenSpec.ofChange domOrderSpec)

/-- ITS FALSE NEIGHBOUR: 'it returns false'. Refute it at one input. -/
def domOrderWrong : ChangeSpec := { name := "domOrder", fn := fun _ => fun
  | [d] => { results := [.lit (.bool false)], args := [d] }
  | _ => none }
def DomOrderWrongFalsely : Prop := domOrderRow.holds Try.pinned (OpenSpec.ofChange domOrderWrong)

/-- 'tapestrierlaw9.DomTells': WHATEVER THE INPUT: true; the input reads as it did. -/
def domTellsSpec : ChangeSpec := { name := "domTells", fn := fun _ => fun
  | [d1, d2] => { results := [.lit (.bool true)], args := [d1, d2] }
  | _ => none }
def domTellsRow : OpenClaim := { program := "ytdbhcogafhhlnaa", sum := "85d346ec295261d3c784aa35ad1337cbc9064f7d8c50bea36b7ffbd92f943578", func := "tapestrier/tapestrierlaw9.DomTells", spec := "domTells", unfollowed := true, recurses := true, apart := false }
def DomTellsSaid : Prop := domTellsRow.holds Try.pinned (OpenSpec.ofChange domTellsSpec)

/-- ITS FALSE NEIGHBOUR: 'it returns false'. Refute it at one input. -/
def domTellsWrong : ChangeSpec := { name := "domTells", fn := fun _ => fun
  | [d1, d2] => { results := [.lit (.bool false)], args := [d1, d2] }
  | _ => none }
def DomTellsWrongFalsely : Prop := domTellsRow.holds Try.pinned (OpenSpec.ofChange domTellsWrong)

/- THE SECOND FORM. 'bulk': how many values and letters a reading holds, each counted each time it is reached (what is shared counts as often as it is met; a slice's spare places count too). A statement '..UptoSaid' is the law's where the arguments, and the package variables that the reading takes, are together of bulk at most 1048576: NARROWER than '..Said'. Prove '..Said' where nothing that the law and all that it calls make is longer than what came in: it says more and counts as full. Else prove '..UptoSaid'. A law counts once. -/
mutual
def uptoBulk {H : Type} : DataW H → Nat
  | .lit (.string bytes) => bytes.length + 1
  | .lit _ => 1
  | .nil => 1
  | .ptr d => uptoBulk d + 1
  | .slice elems spare => uptoBulkAll elems + uptoBulkAll spare + 1
  | .agg parts => uptoBulkAll parts + 1
  | .iface _ d => uptoBulk d + 1
  | .map entries => uptoBulkEntries entries + 1
  | .held _ => 1
def uptoBulkAll {H : Type} : List (DataW H) → Nat
  | [] => 0
  | d :: r => uptoBulk d + uptoBulkAll r
def uptoBulkEntries {H : Type} : List (Lit × DataW H) → Nat
  | [] => 0
  | x :: r => uptoBulkEntry x + uptoBulkEntries r
def uptoBulkEntry {H : Type} : Lit × DataW H → Nat
  | (.string bytes, d) => bytes.length + uptoBulk d + 1
  | (_, d) => uptoBulk d + 1
 end
def uptoSmall : (H : Type) → List (DataW H) → Bool := fun _ ds => decide (uptoBulkAll ds ≤ 1048576)
def OpenSpec.upto (s : _root_.Go.ChangeSpec) : _root_.Go.OpenSpec := { _root_.Go.OpenSpec.ofChange s with cond := some uptoSmall }

/-- 'tapestrierlaw9.DomChain', WHERE WHAT IT READS IS OF BULK AT MOST 1048576: true; the input reads as it did. -/
def domChainUptoRow : OpenClaim := { program := "ytdbhcogafhhlnaa", sum := "85d346ec295261d3c784aa35ad1337cbc9064f7d8c50bea36b7ffbd92f943578", func := "tapestrier/tapestrierlaw9.DomChain", spec := "domChain", apart := false, narrowed := true }
def DomChainUptoSaid : Prop := domChainUptoRow.holds Try.pinned (OpenSpec.upto domChainSpec)

/-- 'tapestrierlaw9.DomNames', WHERE WHAT IT READS IS OF BULK AT MOST 1048576: true; the input reads as it did. -/
def domNamesUptoRow : OpenClaim := { program := "ytdbhcogafhhlnaa", sum := "85d346ec295261d3c784aa35ad1337cbc9064f7d8c50bea36b7ffbd92f943578", func := "tapestrier/tapestrierlaw9.DomNames", spec := "domNames", apart := false, narrowed := true }
def DomNamesUptoSaid : Prop := domNamesUptoRow.holds Try.pinned (OpenSpec.upto domNamesSpec)

/-- 'tapestrierlaw9.DomLong', WHERE WHAT IT READS IS OF BULK AT MOST 1048576: true; the input reads as it did. -/
def domLongUptoRow : OpenClaim := { program := "ytdbhcogafhhlnaa", sum := "85d346ec295261d3c784aa35ad1337cbc9064f7d8c50bea36b7ffbd92f943578", func := "tapestrier/tapestrierlaw9.DomLong", spec := "domLong", apart := false, narrowed := true }
def DomLongUptoSaid : Prop := domLongUptoRow.holds Try.pinned (OpenSpec.upto domLongSpec)

/-- 'tapestrierlaw9.DomCounts', WHERE WHAT IT READS IS OF BULK AT MOST 1048576: true; the input reads as it did. -/
def domCountsUptoRow : OpenClaim := { program := "ytdbhcogafhhlnaa", sum := "85d346ec295261d3c784aa35ad1337cbc9064f7d8c50bea36b7ffbd92f943578", func := "tapestrier/tapestrierlaw9.DomCounts", spec := "domCounts", apart := false, narrowed := true }
def DomCountsUptoSaid : Prop := domCountsUptoRow.holds Try.pinned (OpenSpec.upto domCountsSpec)

/-- 'tapestrierlaw9.DomKeeps', WHERE WHAT IT READS IS OF BULK AT MOST 1048576: true; the input reads as it did. -/
def domKeepsUptoRow : OpenClaim := { program := "ytdbhcogafhhlnaa", sum := "85d346ec295261d3c784aa35ad1337cbc9064f7d8c50bea36b7ffbd92f943578", func := "tapestrier/tapestrierlaw9.DomKeeps", spec := "domKeeps", unfollowed := true, recurses := true, apart := false, narrowed := true }
def DomKeepsUptoSaid : Prop := domKeepsUptoRow.holds Try.pinned (OpenSpec.upto domKeepsSpec)

/-- 'tapestrierlaw9.DomOrder', WHERE WHAT IT READS IS OF BULK AT MOST 1048576: true; the input reads as it did. -/
def domOrderUptoRow : OpenClaim := { program := "ytdbhcogafhhlnaa", sum := "85d346ec295261d3c784aa35ad1337cbc9064f7d8c50bea36b7ffbd92f943578", func := "tapestrier/tapestrierlaw9.DomOrder", spec := "domOrder", unfollowed := true, recurses := true, apart := false, narrowed := true }
def DomOrderUptoSaid : Prop := domOrderUptoRow.holds Try.pinned (OpenSpec.upto domOrderSpec)

/-- 'tapestrierlaw9.DomTells', WHERE WHAT IT READS IS OF BULK AT MOST 1048576: true; the input reads as it did. -/
def domTellsUptoRow : OpenClaim := { program := "ytdbhcogafhhlnaa", sum := "85d346ec295261d3c784aa35ad1337cbc9064f7d8c50bea36b7ffbd92f943578", func := "tapestrier/tapestrierlaw9.DomTells", spec := "domTells", unfollowed := true, recurses := true, apart := false, narrowed := true }
def DomTellsUptoSaid : Prop := domTellsUptoRow.holds Try.pinned (OpenSpec.upto domTellsSpec)

end Rows
end Go.Proofs.Ytdbhcogafhhlnaa
