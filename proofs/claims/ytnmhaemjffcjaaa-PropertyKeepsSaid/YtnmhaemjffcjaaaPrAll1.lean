/- Contracts of the program's functions, and the plain law behind them. No condition beyond those in each statement. -/
import Derived.Test.YtnmhaemjffcjaaaProg
import Derived.Test.YtnmhaemjffcjaaaEvAll2
set_option linter.unusedSimpArgs false
set_option linter.unusedVariables false
set_option linter.unusedSectionVars false
/- Property: the table's beginning. -/
set_option maxRecDepth 100000
namespace Go.Proofs.Pr
open Go Go.Ev

theorem hm : Try.prog.follows .mixedOrders = true := by kernel_rfl

theorem sok0 : SigsOK Try.prog [] := fun f sig h => by cases h

def SG0 : SGT := []

end Go.Proofs.Pr
