/- Contracts of the program's functions, and the plain law behind them. No condition beyond those in each statement. -/
import Derived.Test.YtcjpfafmaecgiaaMaAll2
set_option linter.unusedSimpArgs false
set_option linter.unusedVariables false
set_option linter.unusedSectionVars false
/- Machine: walks, written by the tool. -/
set_option maxRecDepth 100000
namespace Go.Proofs.Ma
open Go Go.Ev

theorem may_ev (x : Nat) (h : AllP []) : PureTo Try.prog 30 [.v (.float .f64 x)] (AV.v (.bool (bif bif !isNaN x then fgt FloatKind.f64 x 0 || feq FloatKind.f64 x 0 else false then flt FloatKind.f64 x 4607182418800017408 else false))) :=
  evFnM_pure hm soM2 (fn := Try.f30) rfl rfl (ti := false) (m := Mode.same) (hs := [MHint.ops 1 [] [(3, 3), (7, 3)]]) (c := _) (by kernel_rfl) (by kernel_rfl) h
def may (x : Nat) : Bool := bif bif !isNaN x then fgt FloatKind.f64 x 0 || feq FloatKind.f64 x 0 else false then flt FloatKind.f64 x 4607182418800017408 else false
theorem may_pure (x : Nat) : PureTo Try.prog 30 [.v (.float .f64 x)] (AV.v (.bool (may x))) := may_ev x trivial
end Go.Proofs.Ma

/- Machine: table with may. -/
set_option maxRecDepth 100000
namespace Go.Proofs.Ma
open Go Go.Ev
def sigMay : List AV → Option (AV × List Prop)
  | [.v (.float .f64 a)] => some (.v (.bool (may a)), [])
  | _ => none
def SM3 : SGT := (30, .p sigMay) :: SM2
theorem soM3 : SigsOK Try.prog SM3 := by
  refine sigs_cons soM2 ?_
  intro ys r c h hc
  unfold sigMay at h
  split at h
  · cases h; exact may_pure _
  · cases h
end Go.Proofs.Ma

/- Machine: walks, written by the tool. -/
set_option maxRecDepth 100000
namespace Go.Proofs.Ma
open Go Go.Ev

theorem mayNot_ev (x : Nat) (h : AllP []) : PureTo Try.prog 29 [.v (.float .f64 x)] (AV.v (.bool !may x)) :=
  evFnM_pure hm soM3 (fn := Try.f29) rfl rfl (ti := false) (m := Mode.same) (hs := []) (c := _) (by kernel_rfl) (by kernel_rfl) h
def mayNot (x : Nat) : Bool := !may x
theorem mayNot_pure (x : Nat) : PureTo Try.prog 29 [.v (.float .f64 x)] (AV.v (.bool (mayNot x))) := mayNot_ev x trivial
end Go.Proofs.Ma

/- Machine: table with the closure of may. -/
set_option maxRecDepth 100000
namespace Go.Proofs.Ma
open Go Go.Ev
def sigMayNot : List AV → Option (AV × List Prop)
  | [.v (.float .f64 a)] => some (.v (.bool (mayNot a)), [])
  | _ => none
def SM4 : SGT := (29, .p sigMayNot) :: SM3
theorem soM4 : SigsOK Try.prog SM4 := by
  refine sigs_cons soM3 ?_
  intro ys r c h hc
  unfold sigMayNot at h
  split at h
  · cases h; exact mayNot_pure _
  · cases h
end Go.Proofs.Ma
