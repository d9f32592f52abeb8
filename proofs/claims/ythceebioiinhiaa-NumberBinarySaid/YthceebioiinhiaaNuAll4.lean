/- Contracts of the program's functions, and the plain law behind them. No condition beyond those in each statement. -/
import Derived.Test.YthceebioiinhiaaNuAll3
import Derived.Test.YthceebioiinhiaaEvAll6
set_option linter.unusedSimpArgs false
set_option linter.unusedVariables false
set_option linter.unusedSectionVars false
/- Numbers: walks, written by the tool. -/
set_option maxRecDepth 100000
namespace Go.Proofs.Nu
open Go Go.Ev

theorem isNaN_ev (x : Nat) (h : AllP []) : PureTo Try.prog 16 [.fl .f64 x] (AV.v (.bool !feq FloatKind.f64 x x)) :=
  evFnM_pure hm soN0 (fn := Try.f16) rfl rfl (ti := false) (m := Mode.same) (hs := []) (c := _) (by kernel_rfl) (by kernel_rfl) h
def isNaN (x : Nat) : Bool := !feq FloatKind.f64 x x
theorem isNaN_pure (x : Nat) : PureTo Try.prog 16 [.fl .f64 x] (AV.v (.bool (isNaN x))) := isNaN_ev x trivial
theorem abs_ev (x : Nat) (h : AllP []) : PureTo Try.prog 18 [.v (.float .f64 x)] (AV.v (.float FloatKind.f64 (bitsOf BinOp.andNot IntKind.u64 (↑x : Int) (9223372036854775808 : Int)).toNat)) :=
  evFnM_pure hm soN0 (fn := Try.f18) rfl rfl (ti := false) (m := Mode.same) (hs := []) (c := _) (by kernel_rfl) (by kernel_rfl) h
def abs (x : Nat) : Nat := (bitsOf BinOp.andNot IntKind.u64 (↑x : Int) (9223372036854775808 : Int)).toNat
theorem abs_pure (x : Nat) : PureTo Try.prog 18 [.v (.float .f64 x)] (AV.v (.float FloatKind.f64 (abs x))) := abs_ev x trivial
theorem sgn_ev (x : Nat) (h : AllP []) : PureTo Try.prog 19 [.v (.float .f64 x)] (AV.v (.bool (decide (IntKind.i64.wrap (↑x : Int) < (0 : Int))))) :=
  evFnM_pure hm soN0 (fn := Try.f19) rfl rfl (ti := false) (m := Mode.same) (hs := []) (c := _) (by kernel_rfl) (by kernel_rfl) h
def sgn (x : Nat) : Bool := decide (IntKind.i64.wrap (↑x : Int) < (0 : Int))
theorem sgn_pure (x : Nat) : PureTo Try.prog 19 [.v (.float .f64 x)] (AV.v (.bool (sgn x))) := sgn_ev x trivial
theorem cs_ev (x y : Nat) (h : AllP []) : PureTo Try.prog 64 [.v (.float .f64 x), .v (.float .f64 y)] (AV.v (.float FloatKind.f64 (bitsOf BinOp.or IntKind.u64 (bitsOf BinOp.andNot IntKind.u64 (↑x : Int) (9223372036854775808 : Int)) (bitsOf BinOp.and IntKind.u64 (↑y : Int) (9223372036854775808 : Int))).toNat)) :=
  evFnM_pure hm soN0 (fn := Try.f64) rfl rfl (ti := false) (m := Mode.same) (hs := []) (c := _) (by kernel_rfl) (by kernel_rfl) h
def cs (x y : Nat) : Nat := (bitsOf BinOp.or IntKind.u64 (bitsOf BinOp.andNot IntKind.u64 (↑x : Int) (9223372036854775808 : Int)) (bitsOf BinOp.and IntKind.u64 (↑y : Int) (9223372036854775808 : Int))).toNat
theorem cs_pure (x y : Nat) : PureTo Try.prog 64 [.v (.float .f64 x), .v (.float .f64 y)] (AV.v (.float FloatKind.f64 (cs x y))) := cs_ev x y trivial
theorem inf_ev (s : Int) (h : AllP []) : PureTo Try.prog 70 [.v (.int .i64 s)] (AV.v (.float FloatKind.f64 (bif decide (s ≥ (0 : Int)) then (9218868437227405312 : Int) else (18442240474082181120 : Int)).toNat)) :=
  evFnM_pure hm soN0 (fn := Try.f70) rfl rfl (ti := false) (m := Mode.same) (hs := [MHint.br, MHint.join { slots := [(3, Mode.mix)], keys := [] }]) (c := _) (by kernel_rfl) (by kernel_rfl) h
def inf (s : Int) : Nat := (bif decide (s ≥ (0 : Int)) then (9218868437227405312 : Int) else (18442240474082181120 : Int)).toNat
theorem inf_pure (s : Int) : PureTo Try.prog 70 [.v (.int .i64 s)] (AV.v (.float FloatKind.f64 (inf s))) := inf_ev s trivial
-- 1 paths
theorem nan1  (h : AllP []) : PureTo Try.prog 72 [] (AV.v (.float FloatKind.f64 9221120237041090560)) :=
  evFn_pure hm soN0 (fn := Try.f72) rfl rfl (ti := false) (hs := []) (c := _) (by kernel_rfl) h
-- 1 paths
theorem nanm1  (h : AllP []) : PureTo Try.prog 85 [] (AV.v (.float FloatKind.f64 9221120237041090561)) :=
  evFn_pure hm soN0 (fn := Try.f85) rfl rfl (ti := false) (hs := []) (c := _) (by kernel_rfl) h
end Go.Proofs.Nu
