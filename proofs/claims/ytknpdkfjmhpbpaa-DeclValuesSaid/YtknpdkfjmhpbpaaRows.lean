/-
  No cell of these rows narrows 'for every input' (looked for: loops, veiled, ifaces, maps, wideKeys, modest, calm, conditions, laid).
  DERIVED. THE GIVEN ROWS OF THIS SEAT. 12 by the template 'for every input the law returns true; each argument reads behind the call as it read before'; 0 by the template 'total and deterministic' (their statements: YtknpdkfjmhpbpaaTotals.lean).
  GIVEN WITH THE SEED: the statements are not yours to turn. If you find one false, say at which input.
  Laid BY PROGRAM, IN A SANDBOX (cutbox-rows.mjs): the forced cells as the released guide's own fill.sh prints them over the translation 839c1460eb74250e… (all of the seat's roots in one cut). By AI agents, Wed Nov 11 2026. No macro, syntax, notation, axiom, sorry.
-/
import Derived.Test.YtknpdkfjmhpbpaaChecked
import GoSem.Claim
import GoSem.ClaimJoined
import GoSem.ClaimMapViews
import Derived.JoinedTies
import Derived.KernelRfl
namespace Go.Proofs.Ytknpdkfjmhpbpaa
/- THE CELL 'sum', in the pinned program and in every row, IS THE sha256 OF THE DUMP (.gsa) THAT YtknpdkfjmhpbpaaProg.lean LOADS. Nothing in Lean hashes anything: it is a label: what it is worth is what the hold of that sum in a sandbox is worth. -/
noncomputable def Try.pinned : Pinned := { name := "ytknpdkfjmhpbpaa", sum := "839c1460eb74250e41e24873e74a7e9cf5223815311d7583843faab5e294edcf", checked := Try.checked }
namespace Rows
def none {H : Type} : Left H := { results := [], args := [] }

/-- 'tapestrierlaw5.RulesParse': WHATEVER THE INPUT: true; the input reads as it did. -/
def rulesParseSpec : ChangeSpec := { name := "rulesParse", fn := fun _ => fun
  | [d] => { results := [.lit (.bool true)], args := [d] }
  | _ => none }
def rulesParseRow : OpenClaim := { program := "ytknpdkfjmhpbpaa", sum := "839c1460eb74250e41e24873e74a7e9cf5223815311d7583843faab5e294edcf", func := "tapestrier/tapestrierlaw5.RulesParse", spec := "rulesParse", unfollowed := true, recurses := true, apart := false }
def RulesParseSaid : Prop := rulesParseRow.holds Try.pinned (OpenSpec.ofChange rulesParseSpec)

/-- ITS FALSE NEIGHBOUR: 'it returns false'. Refute it at one input. -/
def rulesParseWrong : ChangeSpec := { name := "rulesParse", fn := fun _ => fun
  | [d] => { results := [.lit (.bool false)], args := [d] }
  | _ => none }
def RulesParseWrongFalsely : Prop := rulesParseRow.holds Try.pinned (OpenSpec.ofChange rulesParseWrong)

/-- 'tapestrierlaw5.RulesBytes': WHATEVER THE INPUT: true; the input reads as it did. -/
def rulesBytesSpec : ChangeSpec := { name := "rulesBytes", fn := fun _ => fun
  | [d] => { results := [.lit (.bool true)], args := [d] }
  | _ => none }
def rulesBytesRow : OpenClaim := { program := "ytknpdkfjmhpbpaa", sum := "839c1460eb74250e41e24873e74a7e9cf5223815311d7583843faab5e294edcf", func := "tapestrier/tapestrierlaw5.RulesBytes", spec := "rulesBytes", unfollowed := true, recurses := true, apart := false }
def RulesBytesSaid : Prop := rulesBytesRow.holds Try.pinned (OpenSpec.ofChange rulesBytesSpec)

/-- ITS FALSE NEIGHBOUR: 'it returns false'. Refute it at one input. -/
def rulesBytesWrong : ChangeSpec := { name := "rulesBytes", fn := fun _ => fun
  | [d] => { results := [.lit (.bool false)], args := [d] }
  | _ => none }
def RulesBytesWrongFalsely : Prop := rulesBytesRow.holds Try.pinned (OpenSpec.ofChange rulesBytesWrong)

/-- 'tapestrierlaw5.RulesSkip': WHATEVER THE INPUT: true; the input reads as it did. -/
def rulesSkipSpec : ChangeSpec := { name := "rulesSkip", fn := fun _ => fun
  | [d1, d2] => { results := [.lit (.bool true)], args := [d1, d2] }
  | _ => none }
def rulesSkipRow : OpenClaim := { program := "ytknpdkfjmhpbpaa", sum := "839c1460eb74250e41e24873e74a7e9cf5223815311d7583843faab5e294edcf", func := "tapestrier/tapestrierlaw5.RulesSkip", spec := "rulesSkip", unfollowed := true, recurses := true, apart := false }
def RulesSkipSaid : Prop := rulesSkipRow.holds Try.pinned (OpenSpec.ofChange rulesSkipSpec)

/-- ITS FALSE NEIGHBOUR: 'it returns false'. Refute it at one input. -/
def rulesSkipWrong : ChangeSpec := { name := "rulesSkip", fn := fun _ => fun
  | [d1, d2] => { results := [.lit (.bool false)], args := [d1, d2] }
  | _ => none }
def RulesSkipWrongFalsely : Prop := rulesSkipRow.holds Try.pinned (OpenSpec.ofChange rulesSkipWrong)

/-- 'tapestrierlaw5.RulesParts': WHATEVER THE INPUT: true; the input reads as it did. -/
def rulesPartsSpec : ChangeSpec := { name := "rulesParts", fn := fun _ => fun
  | [d1, d2] => { results := [.lit (.bool true)], args := [d1, d2] }
  | _ => none }
def rulesPartsRow : OpenClaim := { program := "ytknpdkfjmhpbpaa", sum := "839c1460eb74250e41e24873e74a7e9cf5223815311d7583843faab5e294edcf", func := "tapestrier/tapestrierlaw5.RulesParts", spec := "rulesParts", unfollowed := true, recurses := true, apart := false }
def RulesPartsSaid : Prop := rulesPartsRow.holds Try.pinned (OpenSpec.ofChange rulesPartsSpec)

/-- ITS FALSE NEIGHBOUR: 'it returns false'. Refute it at one input. -/
def rulesPartsWrong : ChangeSpec := { name := "rulesParts", fn := fun _ => fun
  | [d1, d2] => { results := [.lit (.bool false)], args := [d1, d2] }
  | _ => none }
def RulesPartsWrongFalsely : Prop := rulesPartsRow.holds Try.pinned (OpenSpec.ofChange rulesPartsWrong)

/-- 'tapestrierlaw5.RulesMany': WHATEVER THE INPUT: true; the input reads as it did. -/
def rulesManySpec : ChangeSpec := { name := "rulesMany", fn := fun _ => fun
  | [d1, d2] => { results := [.lit (.bool true)], args := [d1, d2] }
  | _ => none }
def rulesManyRow : OpenClaim := { program := "ytknpdkfjmhpbpaa", sum := "839c1460eb74250e41e24873e74a7e9cf5223815311d7583843faab5e294edcf", func := "tapestrier/tapestrierlaw5.RulesMany", spec := "rulesMany", unfollowed := true, recurses := true, apart := false }
def RulesManySaid : Prop := rulesManyRow.holds Try.pinned (OpenSpec.ofChange rulesManySpec)

/-- ITS FALSE NEIGHBOUR: 'it returns false'. Refute it at one input. -/
def rulesManyWrong : ChangeSpec := { name := "rulesMany", fn := fun _ => fun
  | [d1, d2] => { results := [.lit (.bool false)], args := [d1, d2] }
  | _ => none }
def RulesManyWrongFalsely : Prop := rulesManyRow.holds Try.pinned (OpenSpec.ofChange rulesManyWrong)

/-- 'tapestrierlaw5.RulesNest': WHATEVER THE INPUT: true; the input reads as it did. -/
def rulesNestSpec : ChangeSpec := { name := "rulesNest", fn := fun _ => fun
  | [d1, d2] => { results := [.lit (.bool true)], args := [d1, d2] }
  | _ => none }
def rulesNestRow : OpenClaim := { program := "ytknpdkfjmhpbpaa", sum := "839c1460eb74250e41e24873e74a7e9cf5223815311d7583843faab5e294edcf", func := "tapestrier/tapestrierlaw5.RulesNest", spec := "rulesNest", unfollowed := true, recurses := true, apart := false }
def RulesNestSaid : Prop := rulesNestRow.holds Try.pinned (OpenSpec.ofChange rulesNestSpec)

/-- ITS FALSE NEIGHBOUR: 'it returns false'. Refute it at one input. -/
def rulesNestWrong : ChangeSpec := { name := "rulesNest", fn := fun _ => fun
  | [d1, d2] => { results := [.lit (.bool false)], args := [d1, d2] }
  | _ => none }
def RulesNestWrongFalsely : Prop := rulesNestRow.holds Try.pinned (OpenSpec.ofChange rulesNestWrong)

/-- 'tapestrierlaw5.RulesBlocks': WHATEVER THE INPUT: true; the input reads as it did. -/
def rulesBlocksSpec : ChangeSpec := { name := "rulesBlocks", fn := fun _ => fun
  | [d1, d2] => { results := [.lit (.bool true)], args := [d1, d2] }
  | _ => none }
def rulesBlocksRow : OpenClaim := { program := "ytknpdkfjmhpbpaa", sum := "839c1460eb74250e41e24873e74a7e9cf5223815311d7583843faab5e294edcf", func := "tapestrier/tapestrierlaw5.RulesBlocks", spec := "rulesBlocks", unfollowed := true, recurses := true, apart := false }
def RulesBlocksSaid : Prop := rulesBlocksRow.holds Try.pinned (OpenSpec.ofChange rulesBlocksSpec)

/-- ITS FALSE NEIGHBOUR: 'it returns false'. Refute it at one input. -/
def rulesBlocksWrong : ChangeSpec := { name := "rulesBlocks", fn := fun _ => fun
  | [d1, d2] => { results := [.lit (.bool false)], args := [d1, d2] }
  | _ => none }
def RulesBlocksWrongFalsely : Prop := rulesBlocksRow.holds Try.pinned (OpenSpec.ofChange rulesBlocksWrong)

/-- 'tapestrierlaw6.DeclParse': WHATEVER THE INPUT: true; the input reads as it did. -/
def declParseSpec : ChangeSpec := { name := "declParse", fn := fun _ => fun
  | [d] => { results := [.lit (.bool true)], args := [d] }
  | _ => none }
def declParseRow : OpenClaim := { program := "ytknpdkfjmhpbpaa", sum := "839c1460eb74250e41e24873e74a7e9cf5223815311d7583843faab5e294edcf", func := "tapestrier/tapestrierlaw6.DeclParse", spec := "declParse", unfollowed := true, recurses := true, apart := false }
def DeclParseSaid : Prop := declParseRow.holds Try.pinned (OpenSpec.ofChange declParseSpec)

/-- ITS FALSE NEIGHBOUR: 'it returns false'. Refute it at one input. -/
def declParseWrong : ChangeSpec := { name := "declParse", fn := fun _ => fun
  | [d] => { results := [.lit (.bool false)], args := [d] }
  | _ => none }
def DeclParseWrongFalsely : Prop := declParseRow.holds Try.pinned (OpenSpec.ofChange declParseWrong)

/-- 'tapestrierlaw6.DeclBytes': WHATEVER THE INPUT: true; the input reads as it did. -/
def declBytesSpec : ChangeSpec := { name := "declBytes", fn := fun _ => fun
  | [d] => { results := [.lit (.bool true)], args := [d] }
  | _ => none }
def declBytesRow : OpenClaim := { program := "ytknpdkfjmhpbpaa", sum := "839c1460eb74250e41e24873e74a7e9cf5223815311d7583843faab5e294edcf", func := "tapestrier/tapestrierlaw6.DeclBytes", spec := "declBytes", unfollowed := true, recurses := true, apart := false }
def DeclBytesSaid : Prop := declBytesRow.holds Try.pinned (OpenSpec.ofChange declBytesSpec)

/-- ITS FALSE NEIGHBOUR: 'it returns false'. Refute it at one input. -/
def declBytesWrong : ChangeSpec := { name := "declBytes", fn := fun _ => fun
  | [d] => { results := [.lit (.bool false)], args := [d] }
  | _ => none }
def DeclBytesWrongFalsely : Prop := declBytesRow.holds Try.pinned (OpenSpec.ofChange declBytesWrong)

/-- 'tapestrierlaw6.DeclMany': WHATEVER THE INPUT: true; the input reads as it did. -/
def declManySpec : ChangeSpec := { name := "declMany", fn := fun _ => fun
  | [d1, d2, d3] => { results := [.lit (.bool true)], args := [d1, d2, d3] }
  | _ => none }
def declManyRow : OpenClaim := { program := "ytknpdkfjmhpbpaa", sum := "839c1460eb74250e41e24873e74a7e9cf5223815311d7583843faab5e294edcf", func := "tapestrier/tapestrierlaw6.DeclMany", spec := "declMany", unfollowed := true, recurses := true, apart := false }
def DeclManySaid : Prop := declManyRow.holds Try.pinned (OpenSpec.ofChange declManySpec)

/-- ITS FALSE NEIGHBOUR: 'it returns false'. Refute it at one input. -/
def declManyWrong : ChangeSpec := { name := "declMany", fn := fun _ => fun
  | [d1, d2, d3] => { results := [.lit (.bool false)], args := [d1, d2, d3] }
  | _ => none }
def DeclManyWrongFalsely : Prop := declManyRow.holds Try.pinned (OpenSpec.ofChange declManyWrong)

/-- 'tapestrierlaw6.DeclValues': WHATEVER THE INPUT: true; the input reads as it did. -/
def declValuesSpec : ChangeSpec := { name := "declValues", fn := fun _ => fun
  | [d1, d2, d3, d4, d5] => { results := [.lit (.bool true)], args := [d1, d2, d3, d4, d5] }
  | _ => none }
def declValuesRow : OpenClaim := { program := "ytknpdkfjmhpbpaa", sum := "839c1460eb74250e41e24873e74a7e9cf5223815311d7583843faab5e294edcf", func := "tapestrier/tapestrierlaw6.DeclValues", spec := "declValues", unfollowed := true, recurses := true, apart := false }
def DeclValuesSaid : Prop := declValuesRow.holds Try.pinned (OpenSpec.ofChange declValuesSpec)

/-- ITS FALSE NEIGHBOUR: 'it returns false'. Refute it at one input. -/
def declValuesWrong : ChangeSpec := { name := "declValues", fn := fun _ => fun
  | [d1, d2, d3, d4, d5] => { results := [.lit (.bool false)], args := [d1, d2, d3, d4, d5] }
  | _ => none }
def DeclValuesWrongFalsely : Prop := declValuesRow.holds Try.pinned (OpenSpec.ofChange declValuesWrong)

/-- 'tapestrierlaw6.DeclParts': WHATEVER THE INPUT: true; the input reads as it did. -/
def declPartsSpec : ChangeSpec := { name := "declParts", fn := fun _ => fun
  | [d1, d2] => { results := [.lit (.bool true)], args := [d1, d2] }
  | _ => none }
def declPartsRow : OpenClaim := { program := "ytknpdkfjmhpbpaa", sum := "839c1460eb74250e41e24873e74a7e9cf5223815311d7583843faab5e294edcf", func := "tapestrier/tapestrierlaw6.DeclParts", spec := "declParts", unfollowed := true, recurses := true, apart := false }
def DeclPartsSaid : Prop := declPartsRow.holds Try.pinned (OpenSpec.ofChange declPartsSpec)

/-- ITS FALSE NEIGHBOUR: 'it returns false'. Refute it at one input. -/
def declPartsWrong : ChangeSpec := { name := "declParts", fn := fun _ => fun
  | [d1, d2] => { results := [.lit (.bool false)], args := [d1, d2] }
  | _ => none }
def DeclPartsWrongFalsely : Prop := declPartsRow.holds Try.pinned (OpenSpec.ofChange declPartsWrong)

/- THE SECOND FORM. 'bulk': how many values and letters a reading holds, each counted each time it is reached (what is shared counts as often as it is met; a slice's spare places count too). A statement '..UptoSaid' is the law's where the arguments, and the package variables that the reading takes, are together of bulk at most 1048576: NARROWER than '..Said'. Prove '..Said' where nothing that the law and all that it calls make is longer than what came in: it says more and counts as full. Else prove '..UptoSaid'. A law counts once. -/
mutual
def uptoBulk {H : Type} : DataW H → Nat
  | .lit (.string bytes) => bytes.length + 1
  | .lit _ => 1
  | .nil => 1
  | .ptr d => uptoBulk d + 1
  | .slice elems spare => uptoBulkAll elems + uptoBulkAll spare + 1
  | .agg parts => uptoBulkAll parts + 1
  | .iface _ d => uptoBulk d + 1
  | .map entries => uptoBulkEntries entries + 1
  | .held _ => 1
def uptoBulkAll {H : Type} : List (DataW H) → Nat
  | [] => 0
  | d :: r => uptoBulk d + uptoBulkAll r
def uptoBulkEntries {H : Type} : List (Lit × DataW H) → Nat
  | [] => 0
  | x :: r => uptoBulkEntry x + uptoBulkEntries r
def uptoBulkEntry {H : Type} : Lit × DataW H → Nat
  | (.string bytes, d) => bytes.length + uptoBulk d + 1
  | (_, d) => uptoBulk d + 1
 end
def uptoSmall : (H : Type) → List (DataW H) → Bool := fun _ ds => decide (uptoBulkAll ds ≤ 1048576)
def OpenSpec.upto (s : _root_.Go.ChangeSpec) : _root_.Go.OpenSpec := { _root_.Go.OpenSpec.ofChange s with cond := some uptoSmall }

/-- 'tapestrierlaw5.RulesParse', WHERE WHAT IT READS IS OF BULK AT MOST 1048576: true; the input reads as it did. -/
def rulesParseUptoRow : OpenClaim := { program := "ytknpdkfjmhpbpaa", sum := "839c1460eb74250e41e24873e74a7e9cf5223815311d7583843faab5e294edcf", func := "tapestrier/tapestrierlaw5.RulesParse", spec := "rulesParse", unfollowed := true, recurses := true, apart := false, narrowed := true }
def RulesParseUptoSaid : Prop := rulesParseUptoRow.holds Try.pinned (OpenSpec.upto rulesParseSpec)

/-- 'tapestrierlaw5.RulesBytes', WHERE WHAT IT READS IS OF BULK AT MOST 1048576: true; the input reads as it did. -/
def rulesBytesUptoRow : OpenClaim := { program := "ytknpdkfjmhpbpaa", sum := "839c1460eb74250e41e24873e74a7e9cf5223815311d7583843faab5e294edcf", func := "tapestrier/tapestrierlaw5.RulesBytes", spec := "rulesBytes", unfollowed := true, recurses := true, apart := false, narrowed := true }
def RulesBytesUptoSaid : Prop := rulesBytesUptoRow.holds Try.pinned (OpenSpec.upto rulesBytesSpec)

/-- 'tapestrierlaw5.RulesSkip', WHERE WHAT IT READS IS OF BULK AT MOST 1048576: true; the input reads as it did. -/
def rulesSkipUptoRow : OpenClaim := { program := "ytknpdkfjmhpbpaa", sum := "839c1460eb74250e41e24873e74a7e9cf5223815311d7583843faab5e294edcf", func := "tapestrier/tapestrierlaw5.RulesSkip", spec := "rulesSkip", unfollowed := true, recurses := true, apart := false, narrowed := true }
def RulesSkipUptoSaid : Prop := rulesSkipUptoRow.holds Try.pinned (OpenSpec.upto rulesSkipSpec)

/-- 'tapestrierlaw5.RulesParts', WHERE WHAT IT READS IS OF BULK AT MOST 1048576: true; the input reads as it did. -/
def rulesPartsUptoRow : OpenClaim := { program := "ytknpdkfjmhpbpaa", sum := "839c1460eb74250e41e24873e74a7e9cf5223815311d7583843faab5e294edcf", func := "tapestrier/tapestrierlaw5.RulesParts", spec := "rulesParts", unfollowed := true, recurses := true, apart := false, narrowed := true }
def RulesPartsUptoSaid : Prop := rulesPartsUptoRow.holds Try.pinned (OpenSpec.upto rulesPartsSpec)

/-- 'tapestrierlaw5.RulesMany', WHERE WHAT IT READS IS OF BULK AT MOST 1048576: true; the input reads as it did. -/
def rulesManyUptoRow : OpenClaim := { program := "ytknpdkfjmhpbpaa", sum := "839c1460eb74250e41e24873e74a7e9cf5223815311d7583843faab5e294edcf", func := "tapestrier/tapestrierlaw5.RulesMany", spec := "rulesMany", unfollowed := true, recurses := true, apart := false, narrowed := true }
def RulesManyUptoSaid : Prop := rulesManyUptoRow.holds Try.pinned (OpenSpec.upto rulesManySpec)

/-- 'tapestrierlaw5.RulesNest', WHERE WHAT IT READS IS OF BULK AT MOST 1048576: true; the input reads as it did. -/
def rulesNestUptoRow : OpenClaim := { program := "ytknpdkfjmhpbpaa", sum := "839c1460eb74250e41e24873e74a7e9cf5223815311d7583843faab5e294edcf", func := "tapestrier/tapestrierlaw5.RulesNest", spec := "rulesNest", unfollowed := true, recurses := true, apart := false, narrowed := true }
def RulesNestUptoSaid : Prop := rulesNestUptoRow.holds Try.pinned (OpenSpec.upto rulesNestSpec)

/-- 'tapestrierlaw5.RulesBlocks', WHERE WHAT IT READS IS OF BULK AT MOST 1048576: true; the input reads as it did. -/
def rulesBlocksUptoRow : OpenClaim := { program := "ytknpdkfjmhpbpaa", sum := "839c1460eb74250e41e24873e74a7e9cf5223815311d7583843faab5e294edcf", func := "tapestrier/tapestrierlaw5.RulesBlocks", spec := "rulesBlocks", unfollowed := true, recurses := true, apart := false, narrowed := true }
def RulesBlocksUptoSaid : Prop := rulesBlocksUptoRow.holds Try.pinned (OpenSpec.upto rulesBlocksSpec)

/-- 'tapestrierlaw6.DeclParse', WHERE WHAT IT READS IS OF BULK AT MOST 1048576: true; the input reads as it did. -/
def declParseUptoRow : OpenClaim := { program := "ytknpdkfjmhpbpaa", sum := "839c1460eb74250e41e24873e74a7e9cf5223815311d7583843faab5e294edcf", func := "tapestrier/tapestrierlaw6.DeclParse", spec := "declParse", unfollowed := true, recurses := true, apart := false, narrowed := true }
def DeclParseUptoSaid : Prop := declParseUptoRow.holds Try.pinned (OpenSpec.upto declParseSpec)

/-- 'tapestrierlaw6.DeclBytes', WHERE WHAT IT READS IS OF BULK AT MOST 1048576: true; the input reads as it did. -/
def declBytesUptoRow : OpenClaim := { program := "ytknpdkfjmhpbpaa", sum := "839c1460eb74250e41e24873e74a7e9cf5223815311d7583843faab5e294edcf", func := "tapestrier/tapestrierlaw6.DeclBytes", spec := "declBytes", unfollowed := true, recurses := true, apart := false, narrowed := true }
def DeclBytesUptoSaid : Prop := declBytesUptoRow.holds Try.pinned (OpenSpec.upto declBytesSpec)

/-- 'tapestrierlaw6.DeclMany', WHERE WHAT IT READS IS OF BULK AT MOST 1048576: true; the input reads as it did. -/
def declManyUptoRow : OpenClaim := { program := "ytknpdkfjmhpbpaa", sum := "839c1460eb74250e41e24873e74a7e9cf5223815311d7583843faab5e294edcf", func := "tapestrier/tapestrierlaw6.DeclMany", spec := "declMany", unfollowed := true, recurses := true, apart := false, narrowed := true }
def DeclManyUptoSaid : Prop := declManyUptoRow.holds Try.pinned (OpenSpec.upto declManySpec)

/-- 'tapestrierlaw6.DeclValues', WHERE WHAT IT READS IS OF BULK AT MOST 1048576: true; the input reads as it did. -/
def declValuesUptoRow : OpenClaim := { program := "ytknpdkfjmhpbpaa", sum := "839c1460eb74250e41e24873e74a7e9cf5223815311d7583843faab5e294edcf", func := "tapestrier/tapestrierlaw6.DeclValues", spec := "declValues", unfollowed := true, recurses := true, apart := false, narrowed := true }
def DeclValuesUptoSaid : Prop := declValuesUptoRow.holds Try.pinned (OpenSpec.upto declValuesSpec)

/-- 'tapestrierlaw6.DeclParts', WHERE WHAT IT READS IS OF BULK AT MOST 1048576: true; the input reads as it did. -/
def declPartsUptoRow : OpenClaim := { program := "ytknpdkfjmhpbpaa", sum := "839c1460eb74250e41e24873e74a7e9cf5223815311d7583843faab5e294edcf", func := "tapestrier/tapestrierlaw6.DeclParts", spec := "declParts", unfollowed := true, recurses := true, apart := false, narrowed := true }
def DeclPartsUptoSaid : Prop := declPartsUptoRow.holds Try.pinned (OpenSpec.upto declPartsSpec)

end Rows
end Go.Proofs.Ytknpdkfjmhpbpaa
