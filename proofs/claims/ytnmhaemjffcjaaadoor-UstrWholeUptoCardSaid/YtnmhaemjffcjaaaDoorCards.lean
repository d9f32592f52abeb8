/-
  DERIVED. GIVEN WITH THE SEED: THE CARDS: each row of YtnmhaemjffcjaaaDoorRows.lean that lists a variable, with what it lists TIED to the program's text (the seventh form; the later family's looks); each row that meets fmt, with fmt's text TOLD by the authors' own Lean function (tested against real Go, not proved from fmt's source: count such statements apart). THE CARD IS WHAT COUNTS. Prove the row's statement (the work); the ties are given (YtnmhaemjffcjaaaDoorTie.lean); close each card by the builder's one call (the guide's Derived/Test/ToyasCard.lean, 'card_holds'). Laid BY PROGRAM, IN A SANDBOX (cutbox-door.mjs). By AI agents, Wed Nov 11 2026. No macro, syntax, notation, axiom, sorry.
-/
import Derived.Test.YtnmhaemjffcjaaaDoorRows
import GoSem.ClaimSeven
namespace Go.Proofs.YtnmhaemjffcjaaaDoor
namespace Rows

/-- THE TIED CARD OF 'quilllaw01.UstrDecodes'. -/
def ustrDecodesCard : Claim7 := { stood := { row := ustrDecodesRow, standIns := [], harness := (true, "5faaabba4f3abcc7f5a597d04a108c18e0120da20ee1d318382435de303f6b9f"), looks := false }, kinds := [], alts := [], laidByText := true, laidKinds := [.data, .pinned], laidTests := true, laidLooks := .later }
def UstrDecodesCardSaid : Prop := Claim7.holds Tryd.pinned (.plain (OpenSpec.ofChange ustrDecodesSpec)) ustrDecodesCard

/-- THE TIED CARD OF 'quilllaw01.UstrEncodes'. -/
def ustrEncodesCard : Claim7 := { stood := { row := ustrEncodesRow, standIns := [], harness := (true, "5faaabba4f3abcc7f5a597d04a108c18e0120da20ee1d318382435de303f6b9f"), looks := false }, kinds := [], alts := [], laidByText := true, laidKinds := [.data, .pinned], laidTests := true, laidLooks := .later }
def UstrEncodesCardSaid : Prop := Claim7.holds Tryd.pinned (.plain (OpenSpec.ofChange ustrEncodesSpec)) ustrEncodesCard

/-- THE TIED CARD OF 'quilllaw01.UstrBack'. -/
def ustrBackCard : Claim7 := { stood := { row := ustrBackRow, standIns := [], harness := (true, "5faaabba4f3abcc7f5a597d04a108c18e0120da20ee1d318382435de303f6b9f"), looks := false }, kinds := [], alts := [], laidByText := true, laidKinds := [.data, .pinned], laidTests := true, laidLooks := .later }
def UstrBackCardSaid : Prop := Claim7.holds Tryd.pinned (.plain (OpenSpec.ofChange ustrBackSpec)) ustrBackCard

/-- THE TIED CARD OF 'quilllaw01.UstrParts'. -/
def ustrPartsCard : Claim7 := { stood := { row := ustrPartsRow, standIns := [], harness := (true, "5faaabba4f3abcc7f5a597d04a108c18e0120da20ee1d318382435de303f6b9f"), looks := false }, kinds := [], alts := [], laidByText := true, laidKinds := [.data, .pinned], laidTests := true, laidLooks := .later }
def UstrPartsCardSaid : Prop := Claim7.holds Tryd.pinned (.plain (OpenSpec.ofChange ustrPartsSpec)) ustrPartsCard

/-- THE TIED CARD OF 'quilllaw01.UstrClasses'. -/
def ustrClassesCard : Claim7 := { stood := { row := ustrClassesRow, standIns := [], harness := (true, "5faaabba4f3abcc7f5a597d04a108c18e0120da20ee1d318382435de303f6b9f"), looks := false }, kinds := [], alts := [], laidByText := true, laidKinds := [.data, .pinned], laidTests := true, laidLooks := .later }
def UstrClassesCardSaid : Prop := Claim7.holds Tryd.pinned (.plain (OpenSpec.ofChange ustrClassesSpec)) ustrClassesCard

/-- THE TIED CARD OF 'quilllaw01.UstrUnits'. -/
def ustrUnitsCard : Claim7 := { stood := { row := ustrUnitsRow, standIns := [], harness := (true, "5faaabba4f3abcc7f5a597d04a108c18e0120da20ee1d318382435de303f6b9f"), looks := false }, kinds := [], alts := [], laidByText := true, laidKinds := [.data, .pinned], laidTests := true, laidLooks := .later }
def UstrUnitsCardSaid : Prop := Claim7.holds Tryd.pinned (.plain (OpenSpec.ofChange ustrUnitsSpec)) ustrUnitsCard

/-- THE TIED CARD OF 'quilllaw01.UstrLetters'. -/
def ustrLettersCard : Claim7 := { stood := { row := ustrLettersRow, standIns := [], harness := (true, "5faaabba4f3abcc7f5a597d04a108c18e0120da20ee1d318382435de303f6b9f"), looks := false }, kinds := [], alts := [], laidByText := true, laidKinds := [.data, .pinned], laidTests := true, laidLooks := .later }
def UstrLettersCardSaid : Prop := Claim7.holds Tryd.pinned (.plain (OpenSpec.ofChange ustrLettersSpec)) ustrLettersCard

/-- THE TIED CARD OF 'quilllaw01.UstrPlaces'. -/
def ustrPlacesCard : Claim7 := { stood := { row := ustrPlacesRow, standIns := [], harness := (true, "5faaabba4f3abcc7f5a597d04a108c18e0120da20ee1d318382435de303f6b9f"), looks := false }, kinds := [], alts := [], laidByText := true, laidKinds := [.data, .pinned], laidTests := true, laidLooks := .later }
def UstrPlacesCardSaid : Prop := Claim7.holds Tryd.pinned (.plain (OpenSpec.ofChange ustrPlacesSpec)) ustrPlacesCard

/-- THE TIED CARD OF 'quilllaw01.UstrRepeats'. -/
def ustrRepeatsCard : Claim7 := { stood := { row := ustrRepeatsRow, standIns := [], harness := (true, "5faaabba4f3abcc7f5a597d04a108c18e0120da20ee1d318382435de303f6b9f"), looks := false }, kinds := [], alts := [], laidByText := true, laidKinds := [.data, .pinned], laidTests := true, laidLooks := .later }
def UstrRepeatsCardSaid : Prop := Claim7.holds Tryd.pinned (.plain (OpenSpec.ofChange ustrRepeatsSpec)) ustrRepeatsCard

/-- THE TIED CARD OF 'quilllaw01.UstrSplits'. -/
def ustrSplitsCard : Claim7 := { stood := { row := ustrSplitsRow, standIns := [], harness := (true, "5faaabba4f3abcc7f5a597d04a108c18e0120da20ee1d318382435de303f6b9f"), looks := false }, kinds := [], alts := [], laidByText := true, laidKinds := [.data, .pinned], laidTests := true, laidLooks := .later }
def UstrSplitsCardSaid : Prop := Claim7.holds Tryd.pinned (.plain (OpenSpec.ofChange ustrSplitsSpec)) ustrSplitsCard

/-- THE TIED CARD OF 'quilllaw01.UstrWhole'. -/
def ustrWholeCard : Claim7 := { stood := { row := ustrWholeRow, standIns := [], harness := (true, "5faaabba4f3abcc7f5a597d04a108c18e0120da20ee1d318382435de303f6b9f"), looks := false }, kinds := [], alts := [], laidByText := true, laidKinds := [.data, .pinned], laidTests := true, laidLooks := .later }
def UstrWholeCardSaid : Prop := Claim7.holds Tryd.pinned (.plain (OpenSpec.ofChange ustrWholeSpec)) ustrWholeCard

/-- THE SECOND FORM's CARD OF 'quilllaw01.UstrDecodes'. -/
def ustrDecodesUptoCard : Claim7 := { stood := { row := ustrDecodesUptoRow, standIns := [], harness := (true, "5faaabba4f3abcc7f5a597d04a108c18e0120da20ee1d318382435de303f6b9f"), looks := false }, kinds := [], alts := [], laidByText := true, laidKinds := [.data, .pinned], laidTests := true, laidLooks := .later }
def UstrDecodesUptoCardSaid : Prop := Claim7.holds Tryd.pinned (.plain (OpenSpec.upto ustrDecodesSpec)) ustrDecodesUptoCard

/-- THE SECOND FORM's CARD OF 'quilllaw01.UstrEncodes'. -/
def ustrEncodesUptoCard : Claim7 := { stood := { row := ustrEncodesUptoRow, standIns := [], harness := (true, "5faaabba4f3abcc7f5a597d04a108c18e0120da20ee1d318382435de303f6b9f"), looks := false }, kinds := [], alts := [], laidByText := true, laidKinds := [.data, .pinned], laidTests := true, laidLooks := .later }
def UstrEncodesUptoCardSaid : Prop := Claim7.holds Tryd.pinned (.plain (OpenSpec.upto ustrEncodesSpec)) ustrEncodesUptoCard

/-- THE SECOND FORM's CARD OF 'quilllaw01.UstrBack'. -/
def ustrBackUptoCard : Claim7 := { stood := { row := ustrBackUptoRow, standIns := [], harness := (true, "5faaabba4f3abcc7f5a597d04a108c18e0120da20ee1d318382435de303f6b9f"), looks := false }, kinds := [], alts := [], laidByText := true, laidKinds := [.data, .pinned], laidTests := true, laidLooks := .later }
def UstrBackUptoCardSaid : Prop := Claim7.holds Tryd.pinned (.plain (OpenSpec.upto ustrBackSpec)) ustrBackUptoCard

/-- THE SECOND FORM's CARD OF 'quilllaw01.UstrParts'. -/
def ustrPartsUptoCard : Claim7 := { stood := { row := ustrPartsUptoRow, standIns := [], harness := (true, "5faaabba4f3abcc7f5a597d04a108c18e0120da20ee1d318382435de303f6b9f"), looks := false }, kinds := [], alts := [], laidByText := true, laidKinds := [.data, .pinned], laidTests := true, laidLooks := .later }
def UstrPartsUptoCardSaid : Prop := Claim7.holds Tryd.pinned (.plain (OpenSpec.upto ustrPartsSpec)) ustrPartsUptoCard

/-- THE SECOND FORM's CARD OF 'quilllaw01.UstrClasses'. -/
def ustrClassesUptoCard : Claim7 := { stood := { row := ustrClassesUptoRow, standIns := [], harness := (true, "5faaabba4f3abcc7f5a597d04a108c18e0120da20ee1d318382435de303f6b9f"), looks := false }, kinds := [], alts := [], laidByText := true, laidKinds := [.data, .pinned], laidTests := true, laidLooks := .later }
def UstrClassesUptoCardSaid : Prop := Claim7.holds Tryd.pinned (.plain (OpenSpec.upto ustrClassesSpec)) ustrClassesUptoCard

/-- THE SECOND FORM's CARD OF 'quilllaw01.UstrUnits'. -/
def ustrUnitsUptoCard : Claim7 := { stood := { row := ustrUnitsUptoRow, standIns := [], harness := (true, "5faaabba4f3abcc7f5a597d04a108c18e0120da20ee1d318382435de303f6b9f"), looks := false }, kinds := [], alts := [], laidByText := true, laidKinds := [.data, .pinned], laidTests := true, laidLooks := .later }
def UstrUnitsUptoCardSaid : Prop := Claim7.holds Tryd.pinned (.plain (OpenSpec.upto ustrUnitsSpec)) ustrUnitsUptoCard

/-- THE SECOND FORM's CARD OF 'quilllaw01.UstrLetters'. -/
def ustrLettersUptoCard : Claim7 := { stood := { row := ustrLettersUptoRow, standIns := [], harness := (true, "5faaabba4f3abcc7f5a597d04a108c18e0120da20ee1d318382435de303f6b9f"), looks := false }, kinds := [], alts := [], laidByText := true, laidKinds := [.data, .pinned], laidTests := true, laidLooks := .later }
def UstrLettersUptoCardSaid : Prop := Claim7.holds Tryd.pinned (.plain (OpenSpec.upto ustrLettersSpec)) ustrLettersUptoCard

/-- THE SECOND FORM's CARD OF 'quilllaw01.UstrPlaces'. -/
def ustrPlacesUptoCard : Claim7 := { stood := { row := ustrPlacesUptoRow, standIns := [], harness := (true, "5faaabba4f3abcc7f5a597d04a108c18e0120da20ee1d318382435de303f6b9f"), looks := false }, kinds := [], alts := [], laidByText := true, laidKinds := [.data, .pinned], laidTests := true, laidLooks := .later }
def UstrPlacesUptoCardSaid : Prop := Claim7.holds Tryd.pinned (.plain (OpenSpec.upto ustrPlacesSpec)) ustrPlacesUptoCard

/-- THE SECOND FORM's CARD OF 'quilllaw01.UstrRepeats'. -/
def ustrRepeatsUptoCard : Claim7 := { stood := { row := ustrRepeatsUptoRow, standIns := [], harness := (true, "5faaabba4f3abcc7f5a597d04a108c18e0120da20ee1d318382435de303f6b9f"), looks := false }, kinds := [], alts := [], laidByText := true, laidKinds := [.data, .pinned], laidTests := true, laidLooks := .later }
def UstrRepeatsUptoCardSaid : Prop := Claim7.holds Tryd.pinned (.plain (OpenSpec.upto ustrRepeatsSpec)) ustrRepeatsUptoCard

/-- THE SECOND FORM's CARD OF 'quilllaw01.UstrSplits'. -/
def ustrSplitsUptoCard : Claim7 := { stood := { row := ustrSplitsUptoRow, standIns := [], harness := (true, "5faaabba4f3abcc7f5a597d04a108c18e0120da20ee1d318382435de303f6b9f"), looks := false }, kinds := [], alts := [], laidByText := true, laidKinds := [.data, .pinned], laidTests := true, laidLooks := .later }
def UstrSplitsUptoCardSaid : Prop := Claim7.holds Tryd.pinned (.plain (OpenSpec.upto ustrSplitsSpec)) ustrSplitsUptoCard

/-- THE SECOND FORM's CARD OF 'quilllaw01.UstrWhole'. -/
def ustrWholeUptoCard : Claim7 := { stood := { row := ustrWholeUptoRow, standIns := [], harness := (true, "5faaabba4f3abcc7f5a597d04a108c18e0120da20ee1d318382435de303f6b9f"), looks := false }, kinds := [], alts := [], laidByText := true, laidKinds := [.data, .pinned], laidTests := true, laidLooks := .later }
def UstrWholeUptoCardSaid : Prop := Claim7.holds Tryd.pinned (.plain (OpenSpec.upto ustrWholeSpec)) ustrWholeUptoCard
end Rows
end Go.Proofs.YtnmhaemjffcjaaaDoor
