/- Contracts of the program's functions, and the plain law behind them. No condition beyond those in each statement. -/
import Derived.Test.YtnmhaemjffcjaaaDoorProg
import Derived.Test.YtnmhaemjffcjaaaDoorEvAll2
set_option linter.unusedSimpArgs false
set_option linter.unusedVariables false
set_option linter.unusedSectionVars false
/- Texts: the table's beginning; Go's tables of UTF-8. -/
set_option maxRecDepth 100000
namespace Go.Proofs.Us
open Go Go.Ev

/-- what the first byte of a code point tells -/
def firsts : List Int := List.replicate 128 240 ++ (List.replicate 66 241 ++ (List.replicate 30 2 ++ ([19] ++ (List.replicate 12 3 ++ ([35] ++ (List.replicate 2 3 ++ ([52] ++ (List.replicate 3 4 ++ ([68] ++ List.replicate 11 241)))))))))
def lows : List Int := [128, 160, 128, 144, 128, 0, 0, 0, 0, 0, 0, 0, 0, 0, 0, 0]
def highs : List Int := [191, 191, 159, 191, 143, 0, 0, 0, 0, 0, 0, 0, 0, 0, 0, 0]

instance : Globs := ⟨[(0, 1, .ints .u8 firsts), (1, 2, .fn 16 fun i => .agg [.v (.int .u8 (lows.getD i 0)), .v (.int .u8 (highs.getD i 0))])]⟩

theorem hm : Tryd.prog.follows .mixedOrders = true := by kernel_rfl

theorem sok0 : SigsOK Tryd.prog [] := fun f sig h => by cases h

def SG0 : SGT := []

end Go.Proofs.Us
