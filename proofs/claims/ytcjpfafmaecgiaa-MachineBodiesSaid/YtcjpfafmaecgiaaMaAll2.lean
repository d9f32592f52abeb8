/- Contracts of the program's functions, and the plain law behind them. No condition beyond those in each statement. -/
import Derived.Test.YtcjpfafmaecgiaaMaAll1
import Derived.Test.YtcjpfafmaecgiaaEvAll5
set_option linter.unusedSimpArgs false
set_option linter.unusedVariables false
set_option linter.unusedSectionVars false
/- Machine: walks, written by the tool. -/
set_option maxRecDepth 100000
namespace Go.Proofs.Ma
open Go Go.Ev

theorem isNaN_ev (x : Nat) (h : AllP []) : PureTo Try.prog 48 [.v (.float .f64 x)] (AV.v (.bool !feq FloatKind.f64 x x)) :=
  evFnM_pure hm soM0 (fn := Try.f48) rfl rfl (ti := false) (m := Mode.same) (hs := []) (c := _) (by kernel_rfl) (by kernel_rfl) h
def isNaN (x : Nat) : Bool := !feq FloatKind.f64 x x
theorem isNaN_pure (x : Nat) : PureTo Try.prog 48 [.v (.float .f64 x)] (AV.v (.bool (isNaN x))) := isNaN_ev x trivial
end Go.Proofs.Ma

/- Machine: table with math.IsNaN. -/
set_option maxRecDepth 100000
namespace Go.Proofs.Ma
open Go Go.Ev
def sigNaN : List AV → Option (AV × List Prop)
  | [.v (.float .f64 a)] => some (.v (.bool (isNaN a)), [])
  | _ => none
def SM2 : SGT := (48, .p sigNaN) :: SM0
theorem soM2 : SigsOK Try.prog SM2 := by
  refine sigs_cons soM0 ?_
  intro ys r c h hc
  unfold sigNaN at h
  split at h
  · cases h; exact isNaN_pure _
  · cases h
end Go.Proofs.Ma
