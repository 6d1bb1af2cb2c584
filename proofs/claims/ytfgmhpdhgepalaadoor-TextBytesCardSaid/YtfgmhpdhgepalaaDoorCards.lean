/-
  DERIVED. GIVEN WITH THE SEED: THE CARDS: each row of YtfgmhpdhgepalaaDoorRows.lean that lists a variable, with what it lists TIED to the program's text (the seventh form; the later family's looks); each row that meets fmt, with fmt's text TOLD by the authors' own Lean function (tested against real Go, not proved from fmt's source: count such statements apart). THE CARD IS WHAT COUNTS. Prove the row's statement (the work); the ties are given (YtfgmhpdhgepalaaDoorTie.lean); close each card by the builder's one call (the guide's Derived/Test/ToyasCard.lean, 'card_holds'). Laid BY PROGRAM, IN A SANDBOX (cutbox-door.mjs). By AI agents, Wed Nov 11 2026. No macro, syntax, notation, axiom, sorry.
-/
import Derived.Test.YtfgmhpdhgepalaaDoorRows
import GoSem.ClaimSeven
namespace Go.Proofs.YtfgmhpdhgepalaaDoor
namespace Rows

/-- THE TIED CARD OF 'tapestrierlaw1.TextPoints'. -/
def textPointsCard : Claim7 := { stood := { row := textPointsRow, standIns := [], harness := (true, "c6af463782957546fa3f7bc0b289bc798f8e8ce411228835595a3a1291276845"), looks := false }, kinds := [], alts := [], laidByText := true, laidKinds := [.data, .pinned], laidTests := true, laidLooks := .later }
def TextPointsCardSaid : Prop := Claim7.holds Tryd.pinned (.plain (OpenSpec.ofChange textPointsSpec)) textPointsCard

/-- THE TIED CARD OF 'tapestrierlaw1.TextParts'. -/
def textPartsCard : Claim7 := { stood := { row := textPartsRow, standIns := [], harness := (true, "c6af463782957546fa3f7bc0b289bc798f8e8ce411228835595a3a1291276845"), looks := false }, kinds := [], alts := [], laidByText := true, laidKinds := [.data, .pinned], laidTests := true, laidLooks := .later }
def TextPartsCardSaid : Prop := Claim7.holds Tryd.pinned (.plain (OpenSpec.ofChange textPartsSpec)) textPartsCard

/-- THE TIED CARD OF 'tapestrierlaw1.TextKeeps'. -/
def textKeepsCard : Claim7 := { stood := { row := textKeepsRow, standIns := [], harness := (true, "c6af463782957546fa3f7bc0b289bc798f8e8ce411228835595a3a1291276845"), looks := false }, kinds := [], alts := [], laidByText := true, laidKinds := [.data, .pinned], laidTests := true, laidLooks := .later }
def TextKeepsCardSaid : Prop := Claim7.holds Tryd.pinned (.plain (OpenSpec.ofChange textKeepsSpec)) textKeepsCard

/-- THE TIED CARD OF 'tapestrierlaw1.TextLower'. -/
def textLowerCard : Claim7 := { stood := { row := textLowerRow, standIns := [], harness := (true, "c6af463782957546fa3f7bc0b289bc798f8e8ce411228835595a3a1291276845"), looks := false }, kinds := [], alts := [], laidByText := true, laidKinds := [.data, .pinned], laidTests := true, laidLooks := .later }
def TextLowerCardSaid : Prop := Claim7.holds Tryd.pinned (.plain (OpenSpec.ofChange textLowerSpec)) textLowerCard

/-- THE TIED CARD OF 'tapestrierlaw1.TextLines'. -/
def textLinesCard : Claim7 := { stood := { row := textLinesRow, standIns := [], harness := (true, "c6af463782957546fa3f7bc0b289bc798f8e8ce411228835595a3a1291276845"), looks := false }, kinds := [], alts := [], laidByText := true, laidKinds := [.data, .pinned], laidTests := true, laidLooks := .later }
def TextLinesCardSaid : Prop := Claim7.holds Tryd.pinned (.plain (OpenSpec.ofChange textLinesSpec)) textLinesCard

/-- THE TIED CARD OF 'tapestrierlaw1.TextEnds'. -/
def textEndsCard : Claim7 := { stood := { row := textEndsRow, standIns := [], harness := (true, "c6af463782957546fa3f7bc0b289bc798f8e8ce411228835595a3a1291276845"), looks := false }, kinds := [], alts := [], laidByText := true, laidKinds := [.data, .pinned], laidTests := true, laidLooks := .later }
def TextEndsCardSaid : Prop := Claim7.holds Tryd.pinned (.plain (OpenSpec.ofChange textEndsSpec)) textEndsCard

/-- THE TIED CARD OF 'tapestrierlaw1.TextBytes'. -/
def textBytesCard : Claim7 := { stood := { row := textBytesRow, standIns := [], harness := (true, "c6af463782957546fa3f7bc0b289bc798f8e8ce411228835595a3a1291276845"), looks := false }, kinds := [], alts := [], laidByText := true, laidKinds := [.data, .pinned], laidTests := true, laidLooks := .later }
def TextBytesCardSaid : Prop := Claim7.holds Tryd.pinned (.plain (OpenSpec.ofChange textBytesSpec)) textBytesCard

/-- THE TIED CARD OF 'tapestrierlaw1.TextOne'. -/
def textOneCard : Claim7 := { stood := { row := textOneRow, standIns := [], harness := (true, "c6af463782957546fa3f7bc0b289bc798f8e8ce411228835595a3a1291276845"), looks := false }, kinds := [], alts := [], laidByText := true, laidKinds := [.data, .pinned], laidTests := true, laidLooks := .later }
def TextOneCardSaid : Prop := Claim7.holds Tryd.pinned (.plain (OpenSpec.ofChange textOneSpec)) textOneCard

/-- THE SECOND FORM's CARD OF 'tapestrierlaw1.TextPoints'. -/
def textPointsUptoCard : Claim7 := { stood := { row := textPointsUptoRow, standIns := [], harness := (true, "c6af463782957546fa3f7bc0b289bc798f8e8ce411228835595a3a1291276845"), looks := false }, kinds := [], alts := [], laidByText := true, laidKinds := [.data, .pinned], laidTests := true, laidLooks := .later }
def TextPointsUptoCardSaid : Prop := Claim7.holds Tryd.pinned (.plain (OpenSpec.upto textPointsSpec)) textPointsUptoCard

/-- THE SECOND FORM's CARD OF 'tapestrierlaw1.TextParts'. -/
def textPartsUptoCard : Claim7 := { stood := { row := textPartsUptoRow, standIns := [], harness := (true, "c6af463782957546fa3f7bc0b289bc798f8e8ce411228835595a3a1291276845"), looks := false }, kinds := [], alts := [], laidByText := true, laidKinds := [.data, .pinned], laidTests := true, laidLooks := .later }
def TextPartsUptoCardSaid : Prop := Claim7.holds Tryd.pinned (.plain (OpenSpec.upto textPartsSpec)) textPartsUptoCard

/-- THE SECOND FORM's CARD OF 'tapestrierlaw1.TextKeeps'. -/
def textKeepsUptoCard : Claim7 := { stood := { row := textKeepsUptoRow, standIns := [], harness := (true, "c6af463782957546fa3f7bc0b289bc798f8e8ce411228835595a3a1291276845"), looks := false }, kinds := [], alts := [], laidByText := true, laidKinds := [.data, .pinned], laidTests := true, laidLooks := .later }
def TextKeepsUptoCardSaid : Prop := Claim7.holds Tryd.pinned (.plain (OpenSpec.upto textKeepsSpec)) textKeepsUptoCard

/-- THE SECOND FORM's CARD OF 'tapestrierlaw1.TextLower'. -/
def textLowerUptoCard : Claim7 := { stood := { row := textLowerUptoRow, standIns := [], harness := (true, "c6af463782957546fa3f7bc0b289bc798f8e8ce411228835595a3a1291276845"), looks := false }, kinds := [], alts := [], laidByText := true, laidKinds := [.data, .pinned], laidTests := true, laidLooks := .later }
def TextLowerUptoCardSaid : Prop := Claim7.holds Tryd.pinned (.plain (OpenSpec.upto textLowerSpec)) textLowerUptoCard

/-- THE SECOND FORM's CARD OF 'tapestrierlaw1.TextLines'. -/
def textLinesUptoCard : Claim7 := { stood := { row := textLinesUptoRow, standIns := [], harness := (true, "c6af463782957546fa3f7bc0b289bc798f8e8ce411228835595a3a1291276845"), looks := false }, kinds := [], alts := [], laidByText := true, laidKinds := [.data, .pinned], laidTests := true, laidLooks := .later }
def TextLinesUptoCardSaid : Prop := Claim7.holds Tryd.pinned (.plain (OpenSpec.upto textLinesSpec)) textLinesUptoCard

/-- THE SECOND FORM's CARD OF 'tapestrierlaw1.TextEnds'. -/
def textEndsUptoCard : Claim7 := { stood := { row := textEndsUptoRow, standIns := [], harness := (true, "c6af463782957546fa3f7bc0b289bc798f8e8ce411228835595a3a1291276845"), looks := false }, kinds := [], alts := [], laidByText := true, laidKinds := [.data, .pinned], laidTests := true, laidLooks := .later }
def TextEndsUptoCardSaid : Prop := Claim7.holds Tryd.pinned (.plain (OpenSpec.upto textEndsSpec)) textEndsUptoCard

/-- THE SECOND FORM's CARD OF 'tapestrierlaw1.TextBytes'. -/
def textBytesUptoCard : Claim7 := { stood := { row := textBytesUptoRow, standIns := [], harness := (true, "c6af463782957546fa3f7bc0b289bc798f8e8ce411228835595a3a1291276845"), looks := false }, kinds := [], alts := [], laidByText := true, laidKinds := [.data, .pinned], laidTests := true, laidLooks := .later }
def TextBytesUptoCardSaid : Prop := Claim7.holds Tryd.pinned (.plain (OpenSpec.upto textBytesSpec)) textBytesUptoCard

/-- THE SECOND FORM's CARD OF 'tapestrierlaw1.TextOne'. -/
def textOneUptoCard : Claim7 := { stood := { row := textOneUptoRow, standIns := [], harness := (true, "c6af463782957546fa3f7bc0b289bc798f8e8ce411228835595a3a1291276845"), looks := false }, kinds := [], alts := [], laidByText := true, laidKinds := [.data, .pinned], laidTests := true, laidLooks := .later }
def TextOneUptoCardSaid : Prop := Claim7.holds Tryd.pinned (.plain (OpenSpec.upto textOneSpec)) textOneUptoCard
end Rows
end Go.Proofs.YtfgmhpdhgepalaaDoor
