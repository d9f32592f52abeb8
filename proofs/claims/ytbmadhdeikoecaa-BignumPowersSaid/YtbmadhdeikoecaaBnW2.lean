/- Bignum: walks, written by the tool. -/
import Derived.Test.YtbmadhdeikoecaaBnB
set_option maxRecDepth 100000
namespace Go.Proofs.Bn
open Go Go.Ev
-- 2 paths
theorem longF1 (a : List Int) (ta : Bool) (h : AllP [a.length < lim, decide ((↑(norm a).length : Int) > 1024) = true]) : PureTo Try.prog 65 [.sl 1 (.ints .u32 a) ta] (AV.v (Value.bool true)) :=
  evFn_pure hm sok1 (fn := Try.f65) rfl rfl (ti := false) (hs := [CHint.ops 1 [(4, Hint.b true)]]) (c := _) (by kernel_rfl) h
theorem longF2 (a : List Int) (ta : Bool) (h : AllP [a.length < lim, decide ((↑(norm a).length : Int) > 1024) = false]) : PureTo Try.prog 65 [.sl 1 (.ints .u32 a) ta] (AV.v (Value.bool false)) :=
  evFn_pure hm sok1 (fn := Try.f65) rfl rfl (ti := false) (hs := [CHint.ops 1 [(4, Hint.b false)]]) (c := _) (by kernel_rfl) h
-- 2 paths
theorem toldF1 (a : List Int) (ta : Bool) (h : AllP [a.length < lim, decide ((↑(norm a).length : Int) > 1024) = true]) : PureTo Try.prog 48 [.sl 1 (.ints .u32 a) ta] (AV.tup [AV.sl 1 (Seq.ints IntKind.u32 []) true, AV.v (Value.int IntKind.i64 3)]) :=
  evFn_pure hm sok1 (fn := Try.f48) rfl rfl (ti := true) (hs := [CHint.ops 2 [(2, Hint.b true)]]) (c := _) (by kernel_rfl) h
theorem toldF2 (a : List Int) (ta : Bool) (h : AllP [a.length < lim, decide ((↑(norm a).length : Int) > 1024) = false]) : PureTo Try.prog 48 [.sl 1 (.ints .u32 a) ta] (AV.tup [AV.sl 1 (Seq.ints IntKind.u32 (norm a)) true, AV.v (Value.int IntKind.i64 0)]) :=
  evFn_pure hm sok1 (fn := Try.f48) rfl rfl (ti := true) (hs := [CHint.ops 2 [(2, Hint.b false)]]) (c := _) (by kernel_rfl) h
-- 2 paths
theorem LongF1 (a : List Int) (ta : Bool) (h : AllP [a.length ≤ lim4, decide ((↑(norm a).length : Int) > 1024) = true]) : PureTo Try.prog 41 [.sl 1 (.ints .u32 a) ta] (AV.v (Value.bool true)) :=
  evFn_pure hm sok1 (fn := Try.f41) rfl rfl (ti := false) (hs := [CHint.ops 1 [(4, Hint.b true)]]) (c := _) (by kernel_rfl) h
theorem LongF2 (a : List Int) (ta : Bool) (h : AllP [a.length ≤ lim4, decide ((↑(norm a).length : Int) > 1024) = false]) : PureTo Try.prog 41 [.sl 1 (.ints .u32 a) ta] (AV.v (Value.bool false)) :=
  evFn_pure hm sok1 (fn := Try.f41) rfl rfl (ti := false) (hs := [CHint.ops 1 [(4, Hint.b false)]]) (c := _) (by kernel_rfl) h
end Go.Proofs.Bn
