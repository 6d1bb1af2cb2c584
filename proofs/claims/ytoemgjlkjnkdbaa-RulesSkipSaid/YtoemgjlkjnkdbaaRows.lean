/-
  No cell of these rows narrows 'for every input' (looked for: loops, veiled, ifaces, maps, wideKeys, modest, calm, conditions, laid).
  DERIVED. THE GIVEN ROWS OF THIS SEAT. 7 by the template 'for every input the law returns true; each argument reads behind the call as it read before'; 0 by the template 'total and deterministic' (their statements: YtoemgjlkjnkdbaaTotals.lean).
  GIVEN WITH THE SEED: the statements are not yours to turn. If you find one false, say at which input.
  Laid BY PROGRAM, IN A SANDBOX (cutbox-rows.mjs): the forced cells as the released guide's own fill.sh prints them over the translation 4f79319ac54c46ad… (all of the seat's roots in one cut). By AI agents, Wed Nov 11 2026. No macro, syntax, notation, axiom, sorry.
-/
import Derived.Test.YtoemgjlkjnkdbaaChecked
import GoSem.Claim
import GoSem.ClaimJoined
import GoSem.ClaimMapViews
import Derived.JoinedTies
import Derived.KernelRfl
namespace Go.Proofs.Ytoemgjlkjnkdbaa
/- THE CELL 'sum', in the pinned program and in every row, IS THE sha256 OF THE DUMP (.gsa) THAT YtoemgjlkjnkdbaaProg.lean LOADS. Nothing in Lean hashes anything: it is a label: what it is worth is what the hold of that sum in a sandbox is worth. -/
noncomputable def Try.pinned : Pinned := { name := "ytoemgjlkjnkdbaa", sum := "4f79319ac54c46ad4b1a2b962cec02ed795c67d82646843f2d8578bdbb195939", checked := Try.checked }
namespace Rows
def none {H : Type} : Left H := { results := [], args := [] }

/-- 'tapestrierlaw5.RulesParse': WHATEVER THE INPUT: true; the input reads as it did. -/
def rulesParseSpec : ChangeSpec := { name := "rulesParse", fn := fun _ => fun
  | [d] => { results := [.lit (.bool true)], args := [d] }
  | _ => none }
def rulesParseRow : OpenClaim := { program := "ytoemgjlkjnkdbaa", sum := "4f79319ac54c46ad4b1a2b962cec02ed795c67d82646843f2d8578bdbb195939", func := "tapestrier/tapestrierlaw5.RulesParse", spec := "rulesParse", unfollowed := true, recurses := true, apart := false }
def RulesParseSaid : Prop := rulesParseRow.holds Try.pinned (OpenSpec.ofChange rulesParseSpec)

/-- ITS FALSE NEIGHBOUR: 'it returns false'. Refute it at one input. -/
def rulesParseWrong : ChangeSpec := { name := "rulesParse", fn := fun _ => fun
  | [d] => { results := [.lit (.bool false)], args := [d] }
  | _ => none }
def RulesParseWrongFalsely : Prop := rulesParseRow.holds Try.pinned (OpenSpec.ofChange rulesParseWrong)

/-- 'tapestrierlaw5.RulesBytes': WHATEVER THE INPUT: true; the input reads as it did. -/
def rulesBytesSpec : ChangeSpec := { name := "rulesBytes", fn := fun _ => fun
  | [d] => { results := [.lit (.bool true)], args := [d] }
  | _ => none }
def rulesBytesRow : OpenClaim := { program := "ytoemgjlkjnkdbaa", sum := "4f79319ac54c46ad4b1a2b962cec02ed795c67d82646843f2d8578bdbb195939", func := "tapestrier/tapestrierlaw5.RulesBytes", spec := "rulesBytes", unfollowed := true, recurses := true, apart := false }
def RulesBytesSaid : Prop := rulesBytesRow.holds Try.pinned (OpenSpec.ofChange rulesBytesSpec)

/-- ITS FALSE NEIGHBOUR: 'it returns false'. Refute it at one input. -/
def rulesBytesWrong : ChangeSpec := { name := "rulesBytes", fn := fun _ => fun
  | [d] => { results := [.lit (.bool false)], args := [d] }
  | _ => none }
def RulesBytesWrongFalsely : Prop := rulesBytesRow.holds Try.pinned (OpenSpec.ofChange rulesBytesWrong)

/-- 'tapestrierlaw5.RulesSkip': WHATEVER THE INPUT: true; the input reads as it did. -/
def rulesSkipSpec : ChangeSpec := { name := "rulesSkip", fn := fun _ => fun
  | [d1, d2] => { results := [.lit (.bool true)], args := [d1, d2] }
  | _ => none }
def rulesSkipRow : OpenClaim := { program := "ytoemgjlkjnkdbaa", sum := "4f79319ac54c46ad4b1a2b962cec02ed795c67d82646843f2d8578bdbb195939", func := "tapestrier/tapestrierlaw5.RulesSkip", spec := "rulesSkip", unfollowed := true, recurses := true, apart := false }
def RulesSkipSaid : Prop := rulesSkipRow.holds Try.pinned (OpenSpec.ofChange rulesSkipSpec)

/-- ITS FALSE NEIGHBOUR: 'it returns false'. Refute it at one input. -/
def rulesSkipWrong : ChangeSpec := { name := "rulesSkip", fn := fun _ => fun
  | [d1, d2] => { results := [.lit (.bool false)], args := [d1, d2] }
  | _ => none }
def RulesSkipWrongFalsely : Prop := rulesSkipRow.holds Try.pinned (OpenSpec.ofChange rulesSkipWrong)

/-- 'tapestrierlaw5.RulesParts': WHATEVER THE INPUT: true; the input reads as it did. -/
def rulesPartsSpec : ChangeSpec := { name := "rulesParts", fn := fun _ => fun
  | [d1, d2] => { results := [.lit (.bool true)], args := [d1, d2] }
  | _ => none }
def rulesPartsRow : OpenClaim := { program := "ytoemgjlkjnkdbaa", sum := "4f79319ac54c46ad4b1a2b962cec02ed795c67d82646843f2d8578bdbb195939", func := "tapestrier/tapestrierlaw5.RulesParts", spec := "rulesParts", unfollowed := true, recurses := true, apart := false }
def RulesPartsSaid : Prop := rulesPartsRow.holds Try.pinned (OpenSpec.ofChange rulesPartsSpec)

/-- ITS FALSE NEIGHBOUR: 'it returns false'. Refute it at one input. -/
def rulesPartsWrong : ChangeSpec := { name := "rulesParts", fn := fun _ => fun
  | [d1, d2] => { results := [.lit (.bool false)], args := [d1, d2] }
  | _ => none }
def RulesPartsWrongFalsely : Prop := rulesPartsRow.holds Try.pinned (OpenSpec.ofChange rulesPartsWrong)

/-- 'tapestrierlaw5.RulesMany': WHATEVER THE INPUT: true; the input reads as it did. -/
def rulesManySpec : ChangeSpec := { name := "rulesMany", fn := fun _ => fun
  | [d1, d2] => { results := [.lit (.bool true)], args := [d1, d2] }
  | _ => none }
def rulesManyRow : OpenClaim := { program := "ytoemgjlkjnkdbaa", sum := "4f79319ac54c46ad4b1a2b962cec02ed795c67d82646843f2d8578bdbb195939", func := "tapestrier/tapestrierlaw5.RulesMany", spec := "rulesMany", unfollowed := true, recurses := true, apart := false }
def RulesManySaid : Prop := rulesManyRow.holds Try.pinned (OpenSpec.ofChange rulesManySpec)

/-- ITS FALSE NEIGHBOUR: 'it returns false'. Refute it at one input. -/
def rulesManyWrong : ChangeSpec := { name := "rulesMany", fn := fun _ => fun
  | [d1, d2] => { results := [.lit (.bool false)], args := [d1, d2] }
  | _ => none }
def RulesManyWrongFalsely : Prop := rulesManyRow.holds Try.pinned (OpenSpec.ofChange rulesManyWrong)

/-- 'tapestrierlaw5.RulesNest': WHATEVER THE INPUT: true; the input reads as it did. -/
def rulesNestSpec : ChangeSpec := { name := "rulesNest", fn := fun _ => fun
  | [d1, d2] => { results := [.lit (.bool true)], args := [d1, d2] }
  | _ => none }
def rulesNestRow : OpenClaim := { program := "ytoemgjlkjnkdbaa", sum := "4f79319ac54c46ad4b1a2b962cec02ed795c67d82646843f2d8578bdbb195939", func := "tapestrier/tapestrierlaw5.RulesNest", spec := "rulesNest", unfollowed := true, recurses := true, apart := false }
def RulesNestSaid : Prop := rulesNestRow.holds Try.pinned (OpenSpec.ofChange rulesNestSpec)

/-- ITS FALSE NEIGHBOUR: 'it returns false'. Refute it at one input. -/
def rulesNestWrong : ChangeSpec := { name := "rulesNest", fn := fun _ => fun
  | [d1, d2] => { results := [.lit (.bool false)], args := [d1, d2] }
  | _ => none }
def RulesNestWrongFalsely : Prop := rulesNestRow.holds Try.pinned (OpenSpec.ofChange rulesNestWrong)

/-- 'tapestrierlaw5.RulesBlocks': WHATEVER THE INPUT: true; the input reads as it did. -/
def rulesBlocksSpec : ChangeSpec := { name := "rulesBlocks", fn := fun _ => fun
  | [d1, d2] => { results := [.lit (.bool true)], args := [d1, d2] }
  | _ => none }
def rulesBlocksRow : OpenClaim := { program := "ytoemgjlkjnkdbaa", sum := "4f79319ac54c46ad4b1a2b962cec02ed795c67d82646843f2d8578bdbb195939", func := "tapestrier/tapestrierlaw5.RulesBlocks", spec := "rulesBlocks", unfollowed := true, recurses := true, apart := false }
def RulesBlocksSaid : Prop := rulesBlocksRow.holds Try.pinned (OpenSpec.ofChange rulesBlocksSpec)

/-- ITS FALSE NEIGHBOUR: 'it returns false'. Refute it at one input. -/
def rulesBlocksWrong : ChangeSpec := { name := "rulesBlocks", fn := fun _ => fun
  | [d1, d2] => { results := [.lit (.bool false)], args := [d1, d2] }
  | _ => none }
def RulesBlocksWrongFalsely : Prop := rulesBlocksRow.holds Try.pinned (OpenSpec.ofChange rulesBlocksWrong)

/- THE SECOND FORM. 'bulk': how many values and letters a reading holds, each counted each time it is reached (what is shared counts as often as it is met; a slice's spare places count too). A statement '..UptoSaid' is the law's where the arguments, and the package variables that the reading takes, are together of bulk at most 1048576: NARROWER than '..Said'. Prove '..Said' where nothing that the law and all that it calls make is longer than what came in: it says more and counts as full. Else prove '..UptoSaid'. A law counts once. -/
mutual
def uptoBulk {H : Type} : DataW H → Nat
  | .lit (.string bytes) => bytes.length + 1
  | .lit _ => 1
  | .nil => 1
  | .ptr d => uptoBulk d + 1
  | .slice elems spare => uptoBulkAll elems + uptoBulkAll spare + 1
  | .agg parts => uptoBulkAll parts + 1
  | .iface _ d => uptoBulk d + 1
  | .map entries => uptoBulkEntries entries + 1
  | .held _ => 1
def uptoBulkAll {H : Type} : List (DataW H) → Nat
  | [] => 0
  | d :: r => uptoBulk d + uptoBulkAll r
def uptoBulkEntries {H : Type} : List (Lit × DataW H) → Nat
  | [] => 0
  | x :: r => uptoBulkEntry x + uptoBulkEntries r
def uptoBulkEntry {H : Type} : Lit × DataW H → Nat
  | (.string bytes, d) => bytes.length + uptoBulk d + 1
  | (_, d) => uptoBulk d + 1
 end
def uptoSmall : (H : Type) → List (DataW H) → Bool := fun _ ds => decide (uptoBulkAll ds ≤ 1048576)
def OpenSpec.upto (s : _root_.Go.ChangeSpec) : _root_.Go.OpenSpec := { _root_.Go.OpenSpec.ofChange s with cond := some uptoSmall }

/-- 'tapestrierlaw5.RulesParse', WHERE WHAT IT READS IS OF BULK AT MOST 1048576: true; the input reads as it did. -/
def rulesParseUptoRow : OpenClaim := { program := "ytoemgjlkjnkdbaa", sum := "4f79319ac54c46ad4b1a2b962cec02ed795c67d82646843f2d8578bdbb195939", func := "tapestrier/tapestrierlaw5.RulesParse", spec := "rulesParse", unfollowed := true, recurses := true, apart := false, narrowed := true }
def RulesParseUptoSaid : Prop := rulesParseUptoRow.holds Try.pinned (OpenSpec.upto rulesParseSpec)

/-- 'tapestrierlaw5.RulesBytes', WHERE WHAT IT READS IS OF BULK AT MOST 1048576: true; the input reads as it did. -/
def rulesBytesUptoRow : OpenClaim := { program := "ytoemgjlkjnkdbaa", sum := "4f79319ac54c46ad4b1a2b962cec02ed795c67d82646843f2d8578bdbb195939", func := "tapestrier/tapestrierlaw5.RulesBytes", spec := "rulesBytes", unfollowed := true, recurses := true, apart := false, narrowed := true }
def RulesBytesUptoSaid : Prop := rulesBytesUptoRow.holds Try.pinned (OpenSpec.upto rulesBytesSpec)

/-- 'tapestrierlaw5.RulesSkip', WHERE WHAT IT READS IS OF BULK AT MOST 1048576: true; the input reads as it did. -/
def rulesSkipUptoRow : OpenClaim := { program := "ytoemgjlkjnkdbaa", sum := "4f79319ac54c46ad4b1a2b962cec02ed795c67d82646843f2d8578bdbb195939", func := "tapestrier/tapestrierlaw5.RulesSkip", spec := "rulesSkip", unfollowed := true, recurses := true, apart := false, narrowed := true }
def RulesSkipUptoSaid : Prop := rulesSkipUptoRow.holds Try.pinned (OpenSpec.upto rulesSkipSpec)

/-- 'tapestrierlaw5.RulesParts', WHERE WHAT IT READS IS OF BULK AT MOST 1048576: true; the input reads as it did. -/
def rulesPartsUptoRow : OpenClaim := { program := "ytoemgjlkjnkdbaa", sum := "4f79319ac54c46ad4b1a2b962cec02ed795c67d82646843f2d8578bdbb195939", func := "tapestrier/tapestrierlaw5.RulesParts", spec := "rulesParts", unfollowed := true, recurses := true, apart := false, narrowed := true }
def RulesPartsUptoSaid : Prop := rulesPartsUptoRow.holds Try.pinned (OpenSpec.upto rulesPartsSpec)

/-- 'tapestrierlaw5.RulesMany', WHERE WHAT IT READS IS OF BULK AT MOST 1048576: true; the input reads as it did. -/
def rulesManyUptoRow : OpenClaim := { program := "ytoemgjlkjnkdbaa", sum := "4f79319ac54c46ad4b1a2b962cec02ed795c67d82646843f2d8578bdbb195939", func := "tapestrier/tapestrierlaw5.RulesMany", spec := "rulesMany", unfollowed := true, recurses := true, apart := false, narrowed := true }
def RulesManyUptoSaid : Prop := rulesManyUptoRow.holds Try.pinned (OpenSpec.upto rulesManySpec)

/-- 'tapestrierlaw5.RulesNest', WHERE WHAT IT READS IS OF BULK AT MOST 1048576: true; the input reads as it did. -/
def rulesNestUptoRow : OpenClaim := { program := "ytoemgjlkjnkdbaa", sum := "4f79319ac54c46ad4b1a2b962cec02ed795c67d82646843f2d8578bdbb195939", func := "tapestrier/tapestrierlaw5.RulesNest", spec := "rulesNest", unfollowed := true, recurses := true, apart := false, narrowed := true }
def RulesNestUptoSaid : Prop := rulesNestUptoRow.holds Try.pinned (OpenSpec.upto rulesNestSpec)

/-- 'tapestrierlaw5.RulesBlocks', WHERE WHAT IT READS IS OF BULK AT MOST 1048576: true; the input reads as it did. -/
def rulesBlocksUptoRow : OpenClaim := { program := "ytoemgjlkjnkdbaa", sum := "4f79319ac54c46ad4b1a2b962cec02ed795c67d82646843f2d8578bdbb195939", func := "tapestrier/tapestrierlaw5.RulesBlocks", spec := "rulesBlocks", unfollowed := true, recurses := true, apart := false, narrowed := true }
def RulesBlocksUptoSaid : Prop := rulesBlocksUptoRow.holds Try.pinned (OpenSpec.upto rulesBlocksSpec)

end Rows
end Go.Proofs.Ytoemgjlkjnkdbaa
