/- Bignum: walks, written by the tool. -/
import Derived.Test.YtbmadhdeikoecaaBnD
set_option maxRecDepth 100000
namespace Go.Proofs.Bn
open Go Go.Ev
-- 1 paths
theorem coF1 (a : List Int) (ta : Bool) (h : AllP [a.length < lim]) : PureTo Try.prog 64 [.sl 1 (.avs [.sl 1 (.ints .u32 a) ta]) true, .fnv (.func 65) [] []] (AV.v (Value.bool (decide (at1 a ≥ (0 : Int))))) :=
  evFn_pure hm sok3 (fn := Try.f64) rfl rfl (ti := false) (hs := []) (c := _) (by kernel_rfl) h
-- 1 paths
theorem coG1 (a b : List Int) (ta tb : Bool) (h : AllP [a.length < lim, b.length < lim]) : PureTo Try.prog 64 [.sl 1 (.avs [.sl 1 (.ints .u32 a) ta, .sl 1 (.ints .u32 b) tb]) true, .fnv (.func 65) [] []] (AV.v (Value.bool (decide (at2 a b ≥ (0 : Int))))) :=
  evFn_pure hm sok3 (fn := Try.f64) rfl rfl (ti := false) (hs := []) (c := _) (by kernel_rfl) h
end Go.Proofs.Bn
