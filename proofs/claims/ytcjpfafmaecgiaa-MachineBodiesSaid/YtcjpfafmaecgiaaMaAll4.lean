/- Contracts of the program's functions, and the plain law behind them. No condition beyond those in each statement. -/
import Derived.Test.YtcjpfafmaecgiaaMaAll3
import Derived.Test.YtcjpfafmaecgiaaEvAll6
set_option linter.unusedSimpArgs false
set_option linter.unusedVariables false
set_option linter.unusedSectionVars false
/- Machine: walks, written by the tool. -/
set_option maxRecDepth 100000
namespace Go.Proofs.Ma
open Go Go.Ev
def idxS0 (l : List Nat) (x0 : Int) : AS := { n := 19, fr := [(0, AV.sl 1 (Seq.fn l.length fun (i : Nat) => AV.v (.float FloatKind.f64 (l.getD i 0))) false), (1, AV.fnv (Fn.func 29) [] []), (7, AV.v (.int .i64 (↑l.length : Int))), (8, AV.v (.int .i64 x0))], hp := [], nx := 0 }
def idxX0 (l : List Nat)  : AS := { n := 19, fr := [], hp := [], nx := 0 }
def idxX0_1 (l : List Nat) (x1 : Int) : AS := { n := 19, fr := [(4, AV.v (.int .i64 x1))], hp := [], nx := 0 }
-- 1 paths
theorem clone1 (l : List Nat) (h : AllP [0 < l.length, 1 ≤ l.length, l.length * 8 ≤ 140737488355328, l.length = l.length, 0 ≤ l.length, ∀ (i : Nat), i < l.length → (AV.v (.float FloatKind.f64 (l.getD i 0))).cells.all plain1 = true]) : PureTo Try.prog 31 [.sl 1 (.fn l.length fun i => .v (.float .f64 (l.getD i 0))) false] (AV.sl 1 (Seq.fn l.length fun (i : Nat) => AV.v (.float FloatKind.f64 (l.getD i 0))) false) :=
  evFn_pure hm soM4 (fn := Try.f31) rfl rfl (ti := false) (hs := []) (c := _) (by kernel_rfl) h
-- 3 paths
theorem idxL0_1 (l : List Nat) (x0 : Int) (h : AllP [decide (x0 < (↑l.length : Int)) = true, (0 : Int) ≤ x0 ∧ x0 < (↑l.length : Int), mayNot (l.getD x0.toNat 0) = true]) : To Try.prog (loopAt Try.f47 0) ({ n := 19, fr := [(0, AV.sl 1 (Seq.fn l.length fun (i : Nat) => AV.v (.float FloatKind.f64 (l.getD i 0))) false), (1, AV.fnv (Fn.func 29) [] []), (7, AV.v (.int .i64 (↑l.length : Int))), (8, AV.v (.int .i64 x0))], hp := [], nx := 0 }) (Exit.ret) { n := 19, fr := [(4, AV.v (.int .i64 x0))], hp := [], nx := 0 } :=
  evW_to hm soM4 (hs := [CHint.ops 2 [(0, Hint.b true)], CHint.ops 4 [(5, Hint.b true)]]) (slots := [4]) (keys := []) (nx := 0) (c := _) (by kernel_rfl) h
theorem idxL0_2 (l : List Nat) (x0 : Int) (h : AllP [decide (x0 < (↑l.length : Int)) = true, (0 : Int) ≤ x0 ∧ x0 < (↑l.length : Int), mayNot (l.getD x0.toNat 0) = false, inR IntKind.i64 (x0 + (1 : Int))]) : To Try.prog (loopAt Try.f47 0) ({ n := 19, fr := [(0, AV.sl 1 (Seq.fn l.length fun (i : Nat) => AV.v (.float FloatKind.f64 (l.getD i 0))) false), (1, AV.fnv (Fn.func 29) [] []), (7, AV.v (.int .i64 (↑l.length : Int))), (8, AV.v (.int .i64 x0))], hp := [], nx := 0 }) (.normal) { n := 19, fr := [(0, AV.sl 1 (Seq.fn l.length fun (i : Nat) => AV.v (.float FloatKind.f64 (l.getD i 0))) false), (1, AV.fnv (Fn.func 29) [] []), (7, AV.v (.int .i64 (↑l.length : Int))), (8, AV.v (.int .i64 (x0 + (1 : Int))))], hp := [], nx := 0 } :=
  evW_to hm soM4 (hs := [CHint.ops 2 [(0, Hint.b true)], CHint.ops 4 [(5, Hint.b false)]]) (slots := [0, 1, 7, 8]) (keys := []) (nx := 0) (c := _) (by kernel_rfl) h
theorem idxL0_3 (l : List Nat) (x0 : Int) (h : AllP [decide (x0 < (↑l.length : Int)) = false]) : To Try.prog (loopAt Try.f47 0) ({ n := 19, fr := [(0, AV.sl 1 (Seq.fn l.length fun (i : Nat) => AV.v (.float FloatKind.f64 (l.getD i 0))) false), (1, AV.fnv (Fn.func 29) [] []), (7, AV.v (.int .i64 (↑l.length : Int))), (8, AV.v (.int .i64 x0))], hp := [], nx := 0 }) (Exit.exit 0) { n := 19, fr := [], hp := [], nx := 0 } :=
  evW_to hm soM4 (hs := [CHint.ops 2 [(0, Hint.b false)]]) (slots := []) (keys := []) (nx := 0) (c := _) (by kernel_rfl) h
-- 2 paths
theorem idxF1 (l : List Nat) (x1 : Int) (h : AllP [LoopTo Try.prog (loopAt Try.f47 0) { n := 19, fr := [(0, AV.sl 1 (Seq.fn l.length fun (i : Nat) => AV.v (.float FloatKind.f64 (l.getD i 0))) false), (1, AV.fnv (Fn.func 29) [] []), (7, AV.v (.int .i64 (↑l.length : Int))), (8, AV.v (.int .i64 (0 : Int)))], hp := [], nx := 0 } (Exit.exit 0) { n := 19, fr := [], hp := [], nx := 0 }]) : PureTo Try.prog 47 [.sl 1 (.fn l.length fun i => .v (.float .f64 (l.getD i 0))) false, .fnv (.func 29) [] []] (AV.v (.int .i64 (-1 : Int))) :=
  evFn_pure hm soM4 (fn := Try.f47) rfl rfl (ti := false) (hs := [CHint.loop [0, 1, 7, 8] [] 0 (Exit.exit 0) { n := 19, fr := [], hp := [], nx := 0 }]) (c := _) (by kernel_rfl) h
theorem idxF2 (l : List Nat) (x1 : Int) (h : AllP [LoopTo Try.prog (loopAt Try.f47 0) { n := 19, fr := [(0, AV.sl 1 (Seq.fn l.length fun (i : Nat) => AV.v (.float FloatKind.f64 (l.getD i 0))) false), (1, AV.fnv (Fn.func 29) [] []), (7, AV.v (.int .i64 (↑l.length : Int))), (8, AV.v (.int .i64 (0 : Int)))], hp := [], nx := 0 } Exit.ret { n := 19, fr := [(4, AV.v (.int .i64 x1))], hp := [], nx := 0 }]) : PureTo Try.prog 47 [.sl 1 (.fn l.length fun i => .v (.float .f64 (l.getD i 0))) false, .fnv (.func 29) [] []] (AV.v (.int .i64 x1)) :=
  evFn_pure hm soM4 (fn := Try.f47) rfl rfl (ti := false) (hs := [CHint.loop [0, 1, 7, 8] [] 0 Exit.ret { n := 19, fr := [(4, AV.v (.int .i64 x1))], hp := [], nx := 0 }]) (c := _) (by kernel_rfl) h
end Go.Proofs.Ma
