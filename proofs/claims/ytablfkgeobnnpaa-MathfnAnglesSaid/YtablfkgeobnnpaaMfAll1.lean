/- Contracts of the program's functions, and the plain law behind them. No condition beyond those in each statement. -/
import Derived.Test.YtablfkgeobnnpaaProg
import Derived.Test.YtablfkgeobnnpaaEvAll3
set_option linter.unusedSimpArgs false
set_option linter.unusedVariables false
set_option linter.unusedSectionVars false
/- Functions of mathematics: the beginning. -/
set_option maxRecDepth 100000
namespace Go.Proofs.Mf
open Go Go.Ev

instance : Globs := ⟨[]⟩
theorem hm : Try.prog.follows .mixedOrders = true := by kernel_rfl
theorem sok0 : SigsOK Try.prog [] := fun f sig h => by cases h

end Go.Proofs.Mf
