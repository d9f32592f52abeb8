/- Contracts of the program's functions, and the plain law behind them. No condition beyond those in each statement. -/
import Derived.Test.YthceebioiinhiaaNuAll2
import Derived.Test.YthceebioiinhiaaEvAll5
set_option linter.unusedSimpArgs false
set_option linter.unusedVariables false
set_option linter.unusedSectionVars false
/- Numbers: a float's bits; the table's beginning. -/
set_option maxRecDepth 100000
namespace Go.Proofs.Nu
open Go Go.Ev

theorem bits_c (x : Nat) : PureTo Try.prog 59 [.v (.float .f64 x)] (.v (.int .u64 x)) := bits_pure Try.func59 (by kernel_rfl) (by kernel_rfl) (by kernel_rfl) (by kernel_rfl) x
theorem frombits_c (x : Int) : PureTo Try.prog 60 [.v (.int .u64 x)] (.v (.float .f64 x.toNat)) := frombits_pure Try.func60 (by kernel_rfl) (by kernel_rfl) (by kernel_rfl) (by kernel_rfl) x

def sigOf : List AV → Option (AV × List Prop)
  | [.v (.int .u64 n)] => some (.v (.float .f64 n.toNat), [])
  | _ => none

def SN0 : SGT := (59, .p sigBits) :: (60, .p sigOf) :: []
theorem soN0 : SigsOK Try.prog SN0 := by
  refine sigs_cons (sigs_cons sok0 ?_) (sigBits_ok bits_c)
  intro ys r c h hc
  unfold sigOf at h
  split at h
  · cases h; exact frombits_c _
  · cases h

end Go.Proofs.Nu
