/-
  DERIVED. GIVEN WITH THE SEED: THE CARDS: each row of YtipiambcccfhmaaGreatDoorRows.lean that lists a variable, with what it lists TIED to the program's text (the seventh form; the later family's looks); each row that meets fmt, with fmt's text TOLD by the authors' own Lean function (tested against real Go, not proved from fmt's source: count such statements apart). THE CARD IS WHAT COUNTS. Prove the row's statement (the work); the ties are given (YtipiambcccfhmaaGreatDoorTie.lean); close each card by the builder's one call (the guide's Derived/Test/ToyasCard.lean, 'card_holds'). Laid BY PROGRAM, IN A SANDBOX (cutbox-door.mjs). By AI agents, Wed Nov 11 2026. No macro, syntax, notation, axiom, sorry.
-/
import Derived.Test.YtipiambcccfhmaaGreatDoorRows
import GoSem.ClaimSeven
namespace Go.Proofs.YtipiambcccfhmaaGreatDoor
namespace Rows

/-- THE TIED CARD OF 'quilllaw07.AstSizes'. -/
def astSizesCard : Claim7 := { stood := { row := astSizesRow, standIns := [], harness := (true, "6e15dc22245ea6be354b6a42980da6e984e3f2bf631c5c0f06bf0359295947b0"), looks := true }, kinds := [], alts := [], laidByText := true, laidKinds := [.data, .data, .data, .data, .data, .sentinel, .sentinel, .pinned, .pinned, .pinned], laidTests := true, laidLooks := .later }
def AstSizesCardSaid : Prop := Claim7.holds Tryz.pinned (.plain (OpenSpec.ofChange astSizesSpec)) astSizesCard

/-- THE TIED CARD OF 'quilllaw07.AstSame'. -/
def astSameCard : Claim7 := { stood := { row := astSameRow, standIns := [], harness := (true, "6e15dc22245ea6be354b6a42980da6e984e3f2bf631c5c0f06bf0359295947b0"), looks := true }, kinds := [], alts := [], laidByText := true, laidKinds := [.data, .data, .data, .data, .data, .sentinel, .sentinel, .pinned, .pinned, .pinned], laidTests := true, laidLooks := .later }
def AstSameCardSaid : Prop := Claim7.holds Tryz.pinned (.plain (OpenSpec.ofChange astSameSpec)) astSameCard

/-- THE TIED CARD OF 'quilllaw07.AstPlaces'. -/
def astPlacesCard : Claim7 := { stood := { row := astPlacesRow, standIns := [], harness := (true, "6e15dc22245ea6be354b6a42980da6e984e3f2bf631c5c0f06bf0359295947b0"), looks := true }, kinds := [], alts := [], laidByText := true, laidKinds := [.data, .data, .data, .data, .data, .sentinel, .sentinel, .pinned, .pinned, .pinned], laidTests := true, laidLooks := .later }
def AstPlacesCardSaid : Prop := Claim7.holds Tryz.pinned (.plain (OpenSpec.ofChange astPlacesSpec)) astPlacesCard

/-- THE SECOND FORM's CARD OF 'quilllaw07.AstSizes'. -/
def astSizesUptoCard : Claim7 := { stood := { row := astSizesUptoRow, standIns := [], harness := (true, "6e15dc22245ea6be354b6a42980da6e984e3f2bf631c5c0f06bf0359295947b0"), looks := true }, kinds := [], alts := [], laidByText := true, laidKinds := [.data, .data, .data, .data, .data, .sentinel, .sentinel, .pinned, .pinned, .pinned], laidTests := true, laidLooks := .later }
def AstSizesUptoCardSaid : Prop := Claim7.holds Tryz.pinned (.plain (OpenSpec.upto astSizesSpec)) astSizesUptoCard

/-- THE SECOND FORM's CARD OF 'quilllaw07.AstSame'. -/
def astSameUptoCard : Claim7 := { stood := { row := astSameUptoRow, standIns := [], harness := (true, "6e15dc22245ea6be354b6a42980da6e984e3f2bf631c5c0f06bf0359295947b0"), looks := true }, kinds := [], alts := [], laidByText := true, laidKinds := [.data, .data, .data, .data, .data, .sentinel, .sentinel, .pinned, .pinned, .pinned], laidTests := true, laidLooks := .later }
def AstSameUptoCardSaid : Prop := Claim7.holds Tryz.pinned (.plain (OpenSpec.upto astSameSpec)) astSameUptoCard

/-- THE SECOND FORM's CARD OF 'quilllaw07.AstPlaces'. -/
def astPlacesUptoCard : Claim7 := { stood := { row := astPlacesUptoRow, standIns := [], harness := (true, "6e15dc22245ea6be354b6a42980da6e984e3f2bf631c5c0f06bf0359295947b0"), looks := true }, kinds := [], alts := [], laidByText := true, laidKinds := [.data, .data, .data, .data, .data, .sentinel, .sentinel, .pinned, .pinned, .pinned], laidTests := true, laidLooks := .later }
def AstPlacesUptoCardSaid : Prop := Claim7.holds Tryz.pinned (.plain (OpenSpec.upto astPlacesSpec)) astPlacesUptoCard
end Rows
end Go.Proofs.YtipiambcccfhmaaGreatDoor
