/-
  DERIVED. GIVEN WITH THE SEED: THE CARDS: each row of YtbmadhdeikoecaaDoorRows.lean that lists a variable, with what it lists TIED to the program's text (the seventh form; the later family's looks); each row that meets fmt, with fmt's text TOLD by the authors' own Lean function (tested against real Go, not proved from fmt's source: count such statements apart). THE CARD IS WHAT COUNTS. Prove the row's statement (the work); the ties are given (YtbmadhdeikoecaaDoorTie.lean); close each card by the builder's one call (the guide's Derived/Test/ToyasCard.lean, 'card_holds'). Laid BY PROGRAM, IN A SANDBOX (cutbox-door.mjs). By AI agents, Wed Nov 11 2026. No macro, syntax, notation, axiom, sorry.
-/
import Derived.Test.YtbmadhdeikoecaaDoorRows
import GoSem.ClaimSeven
namespace Go.Proofs.YtbmadhdeikoecaaDoor
namespace Rows

/-- THE TIED CARD OF 'quilllaw02.BignumFloats'. -/
def bignumFloatsCard : Claim7 := { stood := { row := bignumFloatsRow, standIns := [], harness := (true, "2dbbcfdb71f4a9eba5f746f3e658a9ec924b6d89cdf1f5d579312880ef5a1fb6"), looks := false }, kinds := [], alts := [], laidByText := true, laidKinds := [.data], laidTests := true, laidLooks := .later }
def BignumFloatsCardSaid : Prop := Claim7.holds Tryd.pinned (.plain (OpenSpec.ofChange bignumFloatsSpec)) bignumFloatsCard

/-- THE TIED CARD OF 'quilllaw02.BignumBack'. -/
def bignumBackCard : Claim7 := { stood := { row := bignumBackRow, standIns := [], harness := (true, "2dbbcfdb71f4a9eba5f746f3e658a9ec924b6d89cdf1f5d579312880ef5a1fb6"), looks := false }, kinds := [], alts := [], laidByText := true, laidKinds := [.data], laidTests := true, laidLooks := .later }
def BignumBackCardSaid : Prop := Claim7.holds Tryd.pinned (.plain (OpenSpec.ofChange bignumBackSpec)) bignumBackCard

/-- THE SECOND FORM's CARD OF 'quilllaw02.BignumFloats'. -/
def bignumFloatsUptoCard : Claim7 := { stood := { row := bignumFloatsUptoRow, standIns := [], harness := (true, "2dbbcfdb71f4a9eba5f746f3e658a9ec924b6d89cdf1f5d579312880ef5a1fb6"), looks := false }, kinds := [], alts := [], laidByText := true, laidKinds := [.data], laidTests := true, laidLooks := .later }
def BignumFloatsUptoCardSaid : Prop := Claim7.holds Tryd.pinned (.plain (OpenSpec.upto bignumFloatsSpec)) bignumFloatsUptoCard

/-- THE SECOND FORM's CARD OF 'quilllaw02.BignumBack'. -/
def bignumBackUptoCard : Claim7 := { stood := { row := bignumBackUptoRow, standIns := [], harness := (true, "2dbbcfdb71f4a9eba5f746f3e658a9ec924b6d89cdf1f5d579312880ef5a1fb6"), looks := false }, kinds := [], alts := [], laidByText := true, laidKinds := [.data], laidTests := true, laidLooks := .later }
def BignumBackUptoCardSaid : Prop := Claim7.holds Tryd.pinned (.plain (OpenSpec.upto bignumBackSpec)) bignumBackUptoCard
end Rows
end Go.Proofs.YtbmadhdeikoecaaDoor
