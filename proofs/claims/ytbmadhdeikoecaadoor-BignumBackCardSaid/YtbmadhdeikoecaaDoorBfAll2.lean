/- Contracts of the program's functions, and the plain law behind them. No condition beyond those in each statement. -/
import Derived.Test.YtbmadhdeikoecaaDoorBdAll2
import Derived.Test.YtbmadhdeikoecaaDoorBdAll3
set_option linter.unusedSimpArgs false
set_option linter.unusedVariables false
set_option linter.unusedSectionVars false
/- Bignum: floats. -/
set_option maxRecDepth 100000
namespace Go.Proofs.Bf
open Go Go.Ev
theorem hm : Tryd.prog.follows .mixedOrders = true := Bd.hm
theorem sok0 : SigsOK Tryd.prog [] := Bd.sok0
end Go.Proofs.Bf
