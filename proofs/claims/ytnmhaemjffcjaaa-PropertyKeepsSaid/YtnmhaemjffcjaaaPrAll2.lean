/- Contracts of the program's functions, and the plain law behind them. No condition beyond those in each statement. -/
import Derived.Test.YtnmhaemjffcjaaaPrAll1
import Derived.Test.YtnmhaemjffcjaaaEvAll3
set_option linter.unusedSimpArgs false
set_option linter.unusedVariables false
set_option linter.unusedSectionVars false
/- Property: the bits of floats. -/
set_option maxRecDepth 100000
namespace Go.Proofs.Pr
open Go Go.Ev

theorem bits_34 (x : Nat) : PureTo Try.prog 34 [.v (.float .f64 x)] (.v (.int .u64 x)) := bits_pure Try.func34 (by kernel_rfl) (by kernel_rfl) (by kernel_rfl) (by kernel_rfl) x
theorem bits_43 (x : Int) : PureTo Try.prog 43 [.v (.int .u64 x)] (.v (.float .f64 x.toNat)) := frombits_pure Try.func43 (by kernel_rfl) (by kernel_rfl) (by kernel_rfl) (by kernel_rfl) x

def sigBits : List AV → Option (AV × List Prop)
  | [.v (.float .f64 x)] => some (.v (.int .u64 x), [])
  | _ => none
def sigFrom : List AV → Option (AV × List Prop)
  | [.v (.int .u64 x)] => some (.v (.float .f64 x.toNat), [])
  | _ => none

def SG1 : SGT := [(34, .p sigBits), (43, .p sigFrom)]

theorem sok1 : SigsOK Try.prog SG1 := by
  refine sigs_cons (sigs_cons sok0 ?_) ?_
  · intro ys r c h hc
    unfold sigFrom at h
    split at h
    · cases h; exact bits_43 _
    · cases h
  · intro ys r c h hc
    unfold sigBits at h
    split at h
    · cases h; exact bits_34 _
    · cases h

end Go.Proofs.Pr

/- Property: walks, written by the tool. -/
set_option maxRecDepth 100000
namespace Go.Proofs.Pr
open Go Go.Ev

-- 2 paths
theorem isnan1 (x : Nat) (h : AllP [(!Op.floatEq FloatKind.f64 x x) = true]) : PureTo Try.prog 39 [.v (.float .f64 x)] (AV.v (.bool true)) :=
  evFn_pure hm sok1 (fn := Try.f39) rfl rfl (ti := false) (hs := [CHint.ops 1 [(2, Hint.b true)]]) (c := _) (by kernel_rfl) h
theorem isnan2 (x : Nat) (h : AllP [(!Op.floatEq FloatKind.f64 x x) = false]) : PureTo Try.prog 39 [.v (.float .f64 x)] (AV.v (.bool false)) :=
  evFn_pure hm sok1 (fn := Try.f39) rfl rfl (ti := false) (hs := [CHint.ops 1 [(2, Hint.b false)]]) (c := _) (by kernel_rfl) h
-- 2 paths
theorem signbit1 (x : Nat) (h : AllP [decide (IntKind.i64.wrap (↑x : Int) < (0 : Int)) = true]) : PureTo Try.prog 44 [.v (.float .f64 x)] (AV.v (.bool true)) :=
  evFn_pure hm sok1 (fn := Try.f44) rfl rfl (ti := false) (hs := [CHint.ops 1 [(3, Hint.b true)]]) (c := _) (by kernel_rfl) h
theorem signbit2 (x : Nat) (h : AllP [decide (IntKind.i64.wrap (↑x : Int) < (0 : Int)) = false]) : PureTo Try.prog 44 [.v (.float .f64 x)] (AV.v (.bool false)) :=
  evFn_pure hm sok1 (fn := Try.f44) rfl rfl (ti := false) (hs := [CHint.ops 1 [(3, Hint.b false)]]) (c := _) (by kernel_rfl) h
end Go.Proofs.Pr

/- Property: values; floats that are the same. -/
set_option maxRecDepth 100000
namespace Go.Proofs.Pr
open Go Go.Ev

/-- a value of the program -/
structure Val where
  k : Int
  b : Bool
  x : Nat
  s : ByteArray
  o : Int

def Val.cells (v : Val) : List AV := [.v (.int .i64 v.k), .v (.bool v.b), .v (.float .f64 v.x), .v (.string v.s), .v (.int .i64 v.o)]

/-- a property of the program -/
structure PropV where
  has : Int
  val : Val
  get : Val
  set : Val
  w : Bool
  e : Bool
  c : Bool

def PropV.cells (p : PropV) : List AV := .v (.int .i64 p.has) :: (p.val.cells ++ (p.get.cells ++ (p.set.cells ++ [.v (.bool p.w), .v (.bool p.e), .v (.bool p.c)])))

def isnan (x : Nat) : Bool := !Op.floatEq .f64 x x
def sgn (x : Nat) : Bool := decide (IntKind.i64.wrap (x : Int) < 0)

theorem isnan_pure (x : Nat) : PureTo Try.prog 39 [.v (.float .f64 x)] (.v (.bool (isnan x))) := by
  cases h : isnan x
  · exact isnan2 x ⟨h, trivial⟩
  · exact isnan1 x ⟨h, trivial⟩

theorem signbit_pure (x : Nat) : PureTo Try.prog 44 [.v (.float .f64 x)] (.v (.bool (sgn x))) := by
  cases h : sgn x
  · exact signbit2 x ⟨h, trivial⟩
  · exact signbit1 x ⟨h, trivial⟩

def sigNan : List AV → Option (AV × List Prop)
  | [.v (.float .f64 x)] => some (.v (.bool (isnan x)), [])
  | _ => none
def sigSgn : List AV → Option (AV × List Prop)
  | [.v (.float .f64 x)] => some (.v (.bool (sgn x)), [])
  | _ => none

def SG2 : SGT := (39, .p sigNan) :: (44, .p sigSgn) :: SG1

theorem sok2 : SigsOK Try.prog SG2 := by
  refine sigs_cons (sigs_cons sok1 ?_) ?_
  · intro ys r c h hc
    unfold sigSgn at h
    split at h
    · cases h; exact signbit_pure _
    · cases h
  · intro ys r c h hc
    unfold sigNan at h
    split at h
    · cases h; exact isnan_pure _
    · cases h

end Go.Proofs.Pr

/- Property: walks, written by the tool. -/
set_option maxRecDepth 100000
namespace Go.Proofs.Pr
open Go Go.Ev

-- 11 paths
theorem nsame1 (x y : Nat) (h : AllP [isnan x = true, isnan x = true, isnan y = true]) : PureTo Try.prog 41 [.v (.float .f64 x), .v (.float .f64 y)] (AV.v (.bool true)) :=
  evFn_pure hm sok2 (fn := Try.f41) rfl rfl (ti := false) (hs := [CHint.ops 1 [(1, Hint.b true)], CHint.ops 2 [(1, Hint.b true), (4, Hint.b true)]]) (c := _) (by kernel_rfl) h
theorem nsame2 (x y : Nat) (h : AllP [isnan x = true, isnan x = true, isnan y = false]) : PureTo Try.prog 41 [.v (.float .f64 x), .v (.float .f64 y)] (AV.v (.bool false)) :=
  evFn_pure hm sok2 (fn := Try.f41) rfl rfl (ti := false) (hs := [CHint.ops 1 [(1, Hint.b true)], CHint.ops 2 [(1, Hint.b true), (4, Hint.b false)]]) (c := _) (by kernel_rfl) h
theorem nsame3 (x y : Nat) (h : AllP [isnan x = true, isnan x = false]) : PureTo Try.prog 41 [.v (.float .f64 x), .v (.float .f64 y)] (AV.v (.bool false)) :=
  evFn_pure hm sok2 (fn := Try.f41) rfl rfl (ti := false) (hs := [CHint.ops 1 [(1, Hint.b true)], CHint.ops 2 [(1, Hint.b false)]]) (c := _) (by kernel_rfl) h
theorem nsame4 (x y : Nat) (h : AllP [isnan x = false, isnan y = true, isnan x = true, isnan y = true]) : PureTo Try.prog 41 [.v (.float .f64 x), .v (.float .f64 y)] (AV.v (.bool true)) :=
  evFn_pure hm sok2 (fn := Try.f41) rfl rfl (ti := false) (hs := [CHint.ops 1 [(1, Hint.b false), (4, Hint.b true)], CHint.ops 2 [(1, Hint.b true), (4, Hint.b true)]]) (c := _) (by kernel_rfl) h
theorem nsame5 (x y : Nat) (h : AllP [isnan x = false, isnan y = true, isnan x = true, isnan y = false]) : PureTo Try.prog 41 [.v (.float .f64 x), .v (.float .f64 y)] (AV.v (.bool false)) :=
  evFn_pure hm sok2 (fn := Try.f41) rfl rfl (ti := false) (hs := [CHint.ops 1 [(1, Hint.b false), (4, Hint.b true)], CHint.ops 2 [(1, Hint.b true), (4, Hint.b false)]]) (c := _) (by kernel_rfl) h
theorem nsame6 (x y : Nat) (h : AllP [isnan x = false, isnan y = true, isnan x = false]) : PureTo Try.prog 41 [.v (.float .f64 x), .v (.float .f64 y)] (AV.v (.bool false)) :=
  evFn_pure hm sok2 (fn := Try.f41) rfl rfl (ti := false) (hs := [CHint.ops 1 [(1, Hint.b false), (4, Hint.b true)], CHint.ops 2 [(1, Hint.b false)]]) (c := _) (by kernel_rfl) h
theorem nsame7 (x y : Nat) (h : AllP [isnan x = false, isnan y = false, Op.floatEq FloatKind.f64 x y = true, sgn x = true, sgn y = true]) : PureTo Try.prog 41 [.v (.float .f64 x), .v (.float .f64 y)] (AV.v (.bool true)) :=
  evFn_pure hm sok2 (fn := Try.f41) rfl rfl (ti := false) (hs := [CHint.ops 1 [(1, Hint.b false), (4, Hint.b false)], CHint.ops 3 [(2, Hint.b true), (5, Hint.b true), (7, Hint.b true)]]) (c := _) (by kernel_rfl) h
theorem nsame8 (x y : Nat) (h : AllP [isnan x = false, isnan y = false, Op.floatEq FloatKind.f64 x y = true, sgn x = true, sgn y = false]) : PureTo Try.prog 41 [.v (.float .f64 x), .v (.float .f64 y)] (AV.v (.bool false)) :=
  evFn_pure hm sok2 (fn := Try.f41) rfl rfl (ti := false) (hs := [CHint.ops 1 [(1, Hint.b false), (4, Hint.b false)], CHint.ops 3 [(2, Hint.b true), (5, Hint.b true), (7, Hint.b false)]]) (c := _) (by kernel_rfl) h
theorem nsame9 (x y : Nat) (h : AllP [isnan x = false, isnan y = false, Op.floatEq FloatKind.f64 x y = true, sgn x = false, sgn y = true]) : PureTo Try.prog 41 [.v (.float .f64 x), .v (.float .f64 y)] (AV.v (.bool false)) :=
  evFn_pure hm sok2 (fn := Try.f41) rfl rfl (ti := false) (hs := [CHint.ops 1 [(1, Hint.b false), (4, Hint.b false)], CHint.ops 3 [(2, Hint.b true), (5, Hint.b false), (7, Hint.b true)]]) (c := _) (by kernel_rfl) h
theorem nsame10 (x y : Nat) (h : AllP [isnan x = false, isnan y = false, Op.floatEq FloatKind.f64 x y = true, sgn x = false, sgn y = false]) : PureTo Try.prog 41 [.v (.float .f64 x), .v (.float .f64 y)] (AV.v (.bool true)) :=
  evFn_pure hm sok2 (fn := Try.f41) rfl rfl (ti := false) (hs := [CHint.ops 1 [(1, Hint.b false), (4, Hint.b false)], CHint.ops 3 [(2, Hint.b true), (5, Hint.b false), (7, Hint.b false)]]) (c := _) (by kernel_rfl) h
theorem nsame11 (x y : Nat) (h : AllP [isnan x = false, isnan y = false, Op.floatEq FloatKind.f64 x y = false]) : PureTo Try.prog 41 [.v (.float .f64 x), .v (.float .f64 y)] (AV.v (.bool false)) :=
  evFn_pure hm sok2 (fn := Try.f41) rfl rfl (ti := false) (hs := [CHint.ops 1 [(1, Hint.b false), (4, Hint.b false)], CHint.ops 3 [(2, Hint.b false)]]) (c := _) (by kernel_rfl) h
-- 11 paths
theorem rnsame1 (x y : Nat) (h : AllP [isnan x = true, isnan y = true]) : PureTo Try.prog 42 [.v (.float .f64 x), .v (.float .f64 y)] (AV.v (.bool true)) :=
  evFn_pure hm sok2 (fn := Try.f42) rfl rfl (ti := false) (hs := [CHint.ops 1 [(1, Hint.b true), (4, Hint.b true)]]) (c := _) (by kernel_rfl) h
theorem rnsame2 (x y : Nat) (h : AllP [isnan x = true, isnan y = false, Op.floatEq FloatKind.f64 x y = true, sgn x = true, sgn y = true]) : PureTo Try.prog 42 [.v (.float .f64 x), .v (.float .f64 y)] (AV.v (.bool true)) :=
  evFn_pure hm sok2 (fn := Try.f42) rfl rfl (ti := false) (hs := [CHint.ops 1 [(1, Hint.b true), (4, Hint.b false)], CHint.ops 3 [(2, Hint.b true), (5, Hint.b true), (7, Hint.b true)]]) (c := _) (by kernel_rfl) h
theorem rnsame3 (x y : Nat) (h : AllP [isnan x = true, isnan y = false, Op.floatEq FloatKind.f64 x y = true, sgn x = true, sgn y = false]) : PureTo Try.prog 42 [.v (.float .f64 x), .v (.float .f64 y)] (AV.v (.bool false)) :=
  evFn_pure hm sok2 (fn := Try.f42) rfl rfl (ti := false) (hs := [CHint.ops 1 [(1, Hint.b true), (4, Hint.b false)], CHint.ops 3 [(2, Hint.b true), (5, Hint.b true), (7, Hint.b false)]]) (c := _) (by kernel_rfl) h
theorem rnsame4 (x y : Nat) (h : AllP [isnan x = true, isnan y = false, Op.floatEq FloatKind.f64 x y = true, sgn x = false, sgn y = true]) : PureTo Try.prog 42 [.v (.float .f64 x), .v (.float .f64 y)] (AV.v (.bool false)) :=
  evFn_pure hm sok2 (fn := Try.f42) rfl rfl (ti := false) (hs := [CHint.ops 1 [(1, Hint.b true), (4, Hint.b false)], CHint.ops 3 [(2, Hint.b true), (5, Hint.b false), (7, Hint.b true)]]) (c := _) (by kernel_rfl) h
theorem rnsame5 (x y : Nat) (h : AllP [isnan x = true, isnan y = false, Op.floatEq FloatKind.f64 x y = true, sgn x = false, sgn y = false]) : PureTo Try.prog 42 [.v (.float .f64 x), .v (.float .f64 y)] (AV.v (.bool true)) :=
  evFn_pure hm sok2 (fn := Try.f42) rfl rfl (ti := false) (hs := [CHint.ops 1 [(1, Hint.b true), (4, Hint.b false)], CHint.ops 3 [(2, Hint.b true), (5, Hint.b false), (7, Hint.b false)]]) (c := _) (by kernel_rfl) h
theorem rnsame6 (x y : Nat) (h : AllP [isnan x = true, isnan y = false, Op.floatEq FloatKind.f64 x y = false]) : PureTo Try.prog 42 [.v (.float .f64 x), .v (.float .f64 y)] (AV.v (.bool false)) :=
  evFn_pure hm sok2 (fn := Try.f42) rfl rfl (ti := false) (hs := [CHint.ops 1 [(1, Hint.b true), (4, Hint.b false)], CHint.ops 3 [(2, Hint.b false)]]) (c := _) (by kernel_rfl) h
theorem rnsame7 (x y : Nat) (h : AllP [isnan x = false, Op.floatEq FloatKind.f64 x y = true, sgn x = true, sgn y = true]) : PureTo Try.prog 42 [.v (.float .f64 x), .v (.float .f64 y)] (AV.v (.bool true)) :=
  evFn_pure hm sok2 (fn := Try.f42) rfl rfl (ti := false) (hs := [CHint.ops 1 [(1, Hint.b false)], CHint.ops 3 [(2, Hint.b true), (5, Hint.b true), (7, Hint.b true)]]) (c := _) (by kernel_rfl) h
theorem rnsame8 (x y : Nat) (h : AllP [isnan x = false, Op.floatEq FloatKind.f64 x y = true, sgn x = true, sgn y = false]) : PureTo Try.prog 42 [.v (.float .f64 x), .v (.float .f64 y)] (AV.v (.bool false)) :=
  evFn_pure hm sok2 (fn := Try.f42) rfl rfl (ti := false) (hs := [CHint.ops 1 [(1, Hint.b false)], CHint.ops 3 [(2, Hint.b true), (5, Hint.b true), (7, Hint.b false)]]) (c := _) (by kernel_rfl) h
theorem rnsame9 (x y : Nat) (h : AllP [isnan x = false, Op.floatEq FloatKind.f64 x y = true, sgn x = false, sgn y = true]) : PureTo Try.prog 42 [.v (.float .f64 x), .v (.float .f64 y)] (AV.v (.bool false)) :=
  evFn_pure hm sok2 (fn := Try.f42) rfl rfl (ti := false) (hs := [CHint.ops 1 [(1, Hint.b false)], CHint.ops 3 [(2, Hint.b true), (5, Hint.b false), (7, Hint.b true)]]) (c := _) (by kernel_rfl) h
theorem rnsame10 (x y : Nat) (h : AllP [isnan x = false, Op.floatEq FloatKind.f64 x y = true, sgn x = false, sgn y = false]) : PureTo Try.prog 42 [.v (.float .f64 x), .v (.float .f64 y)] (AV.v (.bool true)) :=
  evFn_pure hm sok2 (fn := Try.f42) rfl rfl (ti := false) (hs := [CHint.ops 1 [(1, Hint.b false)], CHint.ops 3 [(2, Hint.b true), (5, Hint.b false), (7, Hint.b false)]]) (c := _) (by kernel_rfl) h
theorem rnsame11 (x y : Nat) (h : AllP [isnan x = false, Op.floatEq FloatKind.f64 x y = false]) : PureTo Try.prog 42 [.v (.float .f64 x), .v (.float .f64 y)] (AV.v (.bool false)) :=
  evFn_pure hm sok2 (fn := Try.f42) rfl rfl (ti := false) (hs := [CHint.ops 1 [(1, Hint.b false)], CHint.ops 3 [(2, Hint.b false)]]) (c := _) (by kernel_rfl) h
-- 1 paths
theorem rnan1  (h : AllP []) : PureTo Try.prog 40 [] (AV.v (.float FloatKind.f64 9221120237041090560)) :=
  evFn_pure hm sok2 (fn := Try.f40) rfl rfl (ti := false) (hs := []) (c := _) (by kernel_rfl) h
-- 34 paths
theorem check1 (v : Val) (h : AllP [(v.k == (0 : Int)) = true, ((↑v.x : Int) != (0 : Int)) = true]) : PureTo Try.prog 32 [.agg v.cells] (AV.v (.int .i64 (1 : Int))) :=
  evFn_pure hm sok2 (fn := Try.f32) rfl rfl (ti := false) (hs := [CHint.ops 4 [(0, Hint.b true)], CHint.ops 20 [(3, Hint.b true)]]) (c := _) (by kernel_rfl) h
theorem check2 (v : Val) (h : AllP [(v.k == (0 : Int)) = true, ((↑v.x : Int) != (0 : Int)) = false, v.b = true]) : PureTo Try.prog 32 [.agg v.cells] (AV.v (.int .i64 (1 : Int))) :=
  evFn_pure hm sok2 (fn := Try.f32) rfl rfl (ti := false) (hs := [CHint.ops 4 [(0, Hint.b true)], CHint.ops 20 [(3, Hint.b false), (7, Hint.b true)]]) (c := _) (by kernel_rfl) h
theorem check3 (v : Val) (h : AllP [(v.k == (0 : Int)) = true, ((↑v.x : Int) != (0 : Int)) = false, v.b = false, (!v.s.toList == (ByteArray.mk #[]).toList) = true]) : PureTo Try.prog 32 [.agg v.cells] (AV.v (.int .i64 (1 : Int))) :=
  evFn_pure hm sok2 (fn := Try.f32) rfl rfl (ti := false) (hs := [CHint.ops 4 [(0, Hint.b true)], CHint.ops 20 [(3, Hint.b false), (7, Hint.b false), (11, Hint.b true)]]) (c := _) (by kernel_rfl) h
theorem check4 (v : Val) (h : AllP [(v.k == (0 : Int)) = true, ((↑v.x : Int) != (0 : Int)) = false, v.b = false, (!v.s.toList == (ByteArray.mk #[]).toList) = false, (v.o != (0 : Int)) = true]) : PureTo Try.prog 32 [.agg v.cells] (AV.v (.int .i64 (1 : Int))) :=
  evFn_pure hm sok2 (fn := Try.f32) rfl rfl (ti := false) (hs := [CHint.ops 4 [(0, Hint.b true)], CHint.ops 20 [(3, Hint.b false), (7, Hint.b false), (11, Hint.b false), (16, Hint.b true)]]) (c := _) (by kernel_rfl) h
theorem check5 (v : Val) (h : AllP [(v.k == (0 : Int)) = true, ((↑v.x : Int) != (0 : Int)) = false, v.b = false, (!v.s.toList == (ByteArray.mk #[]).toList) = false, (v.o != (0 : Int)) = false]) : PureTo Try.prog 32 [.agg v.cells] (AV.v (.int .i64 (0 : Int))) :=
  evFn_pure hm sok2 (fn := Try.f32) rfl rfl (ti := false) (hs := [CHint.ops 4 [(0, Hint.b true)], CHint.ops 20 [(3, Hint.b false), (7, Hint.b false), (11, Hint.b false), (16, Hint.b false)]]) (c := _) (by kernel_rfl) h
theorem check6 (v : Val) (h : AllP [(v.k == (0 : Int)) = false, (v.k == (1 : Int)) = true, ((↑v.x : Int) != (0 : Int)) = true]) : PureTo Try.prog 32 [.agg v.cells] (AV.v (.int .i64 (1 : Int))) :=
  evFn_pure hm sok2 (fn := Try.f32) rfl rfl (ti := false) (hs := [CHint.ops 4 [(0, Hint.b false)], CHint.ops 5 [(0, Hint.b true)], CHint.ops 20 [(3, Hint.b true)]]) (c := _) (by kernel_rfl) h
theorem check7 (v : Val) (h : AllP [(v.k == (0 : Int)) = false, (v.k == (1 : Int)) = true, ((↑v.x : Int) != (0 : Int)) = false, v.b = true]) : PureTo Try.prog 32 [.agg v.cells] (AV.v (.int .i64 (1 : Int))) :=
  evFn_pure hm sok2 (fn := Try.f32) rfl rfl (ti := false) (hs := [CHint.ops 4 [(0, Hint.b false)], CHint.ops 5 [(0, Hint.b true)], CHint.ops 20 [(3, Hint.b false), (7, Hint.b true)]]) (c := _) (by kernel_rfl) h
theorem check8 (v : Val) (h : AllP [(v.k == (0 : Int)) = false, (v.k == (1 : Int)) = true, ((↑v.x : Int) != (0 : Int)) = false, v.b = false, (!v.s.toList == (ByteArray.mk #[]).toList) = true]) : PureTo Try.prog 32 [.agg v.cells] (AV.v (.int .i64 (1 : Int))) :=
  evFn_pure hm sok2 (fn := Try.f32) rfl rfl (ti := false) (hs := [CHint.ops 4 [(0, Hint.b false)], CHint.ops 5 [(0, Hint.b true)], CHint.ops 20 [(3, Hint.b false), (7, Hint.b false), (11, Hint.b true)]]) (c := _) (by kernel_rfl) h
theorem check9 (v : Val) (h : AllP [(v.k == (0 : Int)) = false, (v.k == (1 : Int)) = true, ((↑v.x : Int) != (0 : Int)) = false, v.b = false, (!v.s.toList == (ByteArray.mk #[]).toList) = false, (v.o != (0 : Int)) = true]) : PureTo Try.prog 32 [.agg v.cells] (AV.v (.int .i64 (1 : Int))) :=
  evFn_pure hm sok2 (fn := Try.f32) rfl rfl (ti := false) (hs := [CHint.ops 4 [(0, Hint.b false)], CHint.ops 5 [(0, Hint.b true)], CHint.ops 20 [(3, Hint.b false), (7, Hint.b false), (11, Hint.b false), (16, Hint.b true)]]) (c := _) (by kernel_rfl) h
theorem check10 (v : Val) (h : AllP [(v.k == (0 : Int)) = false, (v.k == (1 : Int)) = true, ((↑v.x : Int) != (0 : Int)) = false, v.b = false, (!v.s.toList == (ByteArray.mk #[]).toList) = false, (v.o != (0 : Int)) = false]) : PureTo Try.prog 32 [.agg v.cells] (AV.v (.int .i64 (0 : Int))) :=
  evFn_pure hm sok2 (fn := Try.f32) rfl rfl (ti := false) (hs := [CHint.ops 4 [(0, Hint.b false)], CHint.ops 5 [(0, Hint.b true)], CHint.ops 20 [(3, Hint.b false), (7, Hint.b false), (11, Hint.b false), (16, Hint.b false)]]) (c := _) (by kernel_rfl) h
theorem check11 (v : Val) (h : AllP [(v.k == (0 : Int)) = false, (v.k == (1 : Int)) = false, (v.k == (2 : Int)) = true, ((↑v.x : Int) != (0 : Int)) = true]) : PureTo Try.prog 32 [.agg v.cells] (AV.v (.int .i64 (1 : Int))) :=
  evFn_pure hm sok2 (fn := Try.f32) rfl rfl (ti := false) (hs := [CHint.ops 4 [(0, Hint.b false)], CHint.ops 5 [(0, Hint.b false)], CHint.ops 6 [(0, Hint.b true)], CHint.ops 20 [(3, Hint.b true)]]) (c := _) (by kernel_rfl) h
theorem check12 (v : Val) (h : AllP [(v.k == (0 : Int)) = false, (v.k == (1 : Int)) = false, (v.k == (2 : Int)) = true, ((↑v.x : Int) != (0 : Int)) = false, (!v.s.toList == (ByteArray.mk #[]).toList) = true]) : PureTo Try.prog 32 [.agg v.cells] (AV.v (.int .i64 (1 : Int))) :=
  evFn_pure hm sok2 (fn := Try.f32) rfl rfl (ti := false) (hs := [CHint.ops 4 [(0, Hint.b false)], CHint.ops 5 [(0, Hint.b false)], CHint.ops 6 [(0, Hint.b true)], CHint.ops 20 [(3, Hint.b false), (11, Hint.b true)]]) (c := _) (by kernel_rfl) h
theorem check13 (v : Val) (h : AllP [(v.k == (0 : Int)) = false, (v.k == (1 : Int)) = false, (v.k == (2 : Int)) = true, ((↑v.x : Int) != (0 : Int)) = false, (!v.s.toList == (ByteArray.mk #[]).toList) = false, (v.o != (0 : Int)) = true]) : PureTo Try.prog 32 [.agg v.cells] (AV.v (.int .i64 (1 : Int))) :=
  evFn_pure hm sok2 (fn := Try.f32) rfl rfl (ti := false) (hs := [CHint.ops 4 [(0, Hint.b false)], CHint.ops 5 [(0, Hint.b false)], CHint.ops 6 [(0, Hint.b true)], CHint.ops 20 [(3, Hint.b false), (11, Hint.b false), (16, Hint.b true)]]) (c := _) (by kernel_rfl) h
theorem check14 (v : Val) (h : AllP [(v.k == (0 : Int)) = false, (v.k == (1 : Int)) = false, (v.k == (2 : Int)) = true, ((↑v.x : Int) != (0 : Int)) = false, (!v.s.toList == (ByteArray.mk #[]).toList) = false, (v.o != (0 : Int)) = false]) : PureTo Try.prog 32 [.agg v.cells] (AV.v (.int .i64 (0 : Int))) :=
  evFn_pure hm sok2 (fn := Try.f32) rfl rfl (ti := false) (hs := [CHint.ops 4 [(0, Hint.b false)], CHint.ops 5 [(0, Hint.b false)], CHint.ops 6 [(0, Hint.b true)], CHint.ops 20 [(3, Hint.b false), (11, Hint.b false), (16, Hint.b false)]]) (c := _) (by kernel_rfl) h
theorem check15 (v : Val) (h : AllP [(v.k == (0 : Int)) = false, (v.k == (1 : Int)) = false, (v.k == (2 : Int)) = false, (v.k == (3 : Int)) = true, isnan v.x = true, ((↑v.x : Int) != (9221120237041090560 : Int)) = true]) : PureTo Try.prog 32 [.agg v.cells] (AV.v (.int .i64 (1 : Int))) :=
  evFn_pure hm sok2 (fn := Try.f32) rfl rfl (ti := false) (hs := [CHint.ops 4 [(0, Hint.b false)], CHint.ops 5 [(0, Hint.b false)], CHint.ops 6 [(0, Hint.b false)], CHint.ops 8 [(0, Hint.b true)], CHint.ops 9 [(2, Hint.b true), (7, Hint.b true)]]) (c := _) (by kernel_rfl) h
theorem check16 (v : Val) (h : AllP [(v.k == (0 : Int)) = false, (v.k == (1 : Int)) = false, (v.k == (2 : Int)) = false, (v.k == (3 : Int)) = true, isnan v.x = true, ((↑v.x : Int) != (9221120237041090560 : Int)) = false, v.b = true]) : PureTo Try.prog 32 [.agg v.cells] (AV.v (.int .i64 (1 : Int))) :=
  evFn_pure hm sok2 (fn := Try.f32) rfl rfl (ti := false) (hs := [CHint.ops 4 [(0, Hint.b false)], CHint.ops 5 [(0, Hint.b false)], CHint.ops 6 [(0, Hint.b false)], CHint.ops 8 [(0, Hint.b true)], CHint.ops 9 [(2, Hint.b true), (7, Hint.b false)], CHint.ops 20 [(7, Hint.b true)]]) (c := _) (by kernel_rfl) h
theorem check17 (v : Val) (h : AllP [(v.k == (0 : Int)) = false, (v.k == (1 : Int)) = false, (v.k == (2 : Int)) = false, (v.k == (3 : Int)) = true, isnan v.x = true, ((↑v.x : Int) != (9221120237041090560 : Int)) = false, v.b = false, (!v.s.toList == (ByteArray.mk #[]).toList) = true]) : PureTo Try.prog 32 [.agg v.cells] (AV.v (.int .i64 (1 : Int))) :=
  evFn_pure hm sok2 (fn := Try.f32) rfl rfl (ti := false) (hs := [CHint.ops 4 [(0, Hint.b false)], CHint.ops 5 [(0, Hint.b false)], CHint.ops 6 [(0, Hint.b false)], CHint.ops 8 [(0, Hint.b true)], CHint.ops 9 [(2, Hint.b true), (7, Hint.b false)], CHint.ops 20 [(7, Hint.b false), (11, Hint.b true)]]) (c := _) (by kernel_rfl) h
theorem check18 (v : Val) (h : AllP [(v.k == (0 : Int)) = false, (v.k == (1 : Int)) = false, (v.k == (2 : Int)) = false, (v.k == (3 : Int)) = true, isnan v.x = true, ((↑v.x : Int) != (9221120237041090560 : Int)) = false, v.b = false, (!v.s.toList == (ByteArray.mk #[]).toList) = false, (v.o != (0 : Int)) = true]) : PureTo Try.prog 32 [.agg v.cells] (AV.v (.int .i64 (1 : Int))) :=
  evFn_pure hm sok2 (fn := Try.f32) rfl rfl (ti := false) (hs := [CHint.ops 4 [(0, Hint.b false)], CHint.ops 5 [(0, Hint.b false)], CHint.ops 6 [(0, Hint.b false)], CHint.ops 8 [(0, Hint.b true)], CHint.ops 9 [(2, Hint.b true), (7, Hint.b false)], CHint.ops 20 [(7, Hint.b false), (11, Hint.b false), (16, Hint.b true)]]) (c := _) (by kernel_rfl) h
theorem check19 (v : Val) (h : AllP [(v.k == (0 : Int)) = false, (v.k == (1 : Int)) = false, (v.k == (2 : Int)) = false, (v.k == (3 : Int)) = true, isnan v.x = true, ((↑v.x : Int) != (9221120237041090560 : Int)) = false, v.b = false, (!v.s.toList == (ByteArray.mk #[]).toList) = false, (v.o != (0 : Int)) = false]) : PureTo Try.prog 32 [.agg v.cells] (AV.v (.int .i64 (0 : Int))) :=
  evFn_pure hm sok2 (fn := Try.f32) rfl rfl (ti := false) (hs := [CHint.ops 4 [(0, Hint.b false)], CHint.ops 5 [(0, Hint.b false)], CHint.ops 6 [(0, Hint.b false)], CHint.ops 8 [(0, Hint.b true)], CHint.ops 9 [(2, Hint.b true), (7, Hint.b false)], CHint.ops 20 [(7, Hint.b false), (11, Hint.b false), (16, Hint.b false)]]) (c := _) (by kernel_rfl) h
theorem check20 (v : Val) (h : AllP [(v.k == (0 : Int)) = false, (v.k == (1 : Int)) = false, (v.k == (2 : Int)) = false, (v.k == (3 : Int)) = true, isnan v.x = false, v.b = true]) : PureTo Try.prog 32 [.agg v.cells] (AV.v (.int .i64 (1 : Int))) :=
  evFn_pure hm sok2 (fn := Try.f32) rfl rfl (ti := false) (hs := [CHint.ops 4 [(0, Hint.b false)], CHint.ops 5 [(0, Hint.b false)], CHint.ops 6 [(0, Hint.b false)], CHint.ops 8 [(0, Hint.b true)], CHint.ops 9 [(2, Hint.b false)], CHint.ops 20 [(7, Hint.b true)]]) (c := _) (by kernel_rfl) h
theorem check21 (v : Val) (h : AllP [(v.k == (0 : Int)) = false, (v.k == (1 : Int)) = false, (v.k == (2 : Int)) = false, (v.k == (3 : Int)) = true, isnan v.x = false, v.b = false, (!v.s.toList == (ByteArray.mk #[]).toList) = true]) : PureTo Try.prog 32 [.agg v.cells] (AV.v (.int .i64 (1 : Int))) :=
  evFn_pure hm sok2 (fn := Try.f32) rfl rfl (ti := false) (hs := [CHint.ops 4 [(0, Hint.b false)], CHint.ops 5 [(0, Hint.b false)], CHint.ops 6 [(0, Hint.b false)], CHint.ops 8 [(0, Hint.b true)], CHint.ops 9 [(2, Hint.b false)], CHint.ops 20 [(7, Hint.b false), (11, Hint.b true)]]) (c := _) (by kernel_rfl) h
theorem check22 (v : Val) (h : AllP [(v.k == (0 : Int)) = false, (v.k == (1 : Int)) = false, (v.k == (2 : Int)) = false, (v.k == (3 : Int)) = true, isnan v.x = false, v.b = false, (!v.s.toList == (ByteArray.mk #[]).toList) = false, (v.o != (0 : Int)) = true]) : PureTo Try.prog 32 [.agg v.cells] (AV.v (.int .i64 (1 : Int))) :=
  evFn_pure hm sok2 (fn := Try.f32) rfl rfl (ti := false) (hs := [CHint.ops 4 [(0, Hint.b false)], CHint.ops 5 [(0, Hint.b false)], CHint.ops 6 [(0, Hint.b false)], CHint.ops 8 [(0, Hint.b true)], CHint.ops 9 [(2, Hint.b false)], CHint.ops 20 [(7, Hint.b false), (11, Hint.b false), (16, Hint.b true)]]) (c := _) (by kernel_rfl) h
theorem check23 (v : Val) (h : AllP [(v.k == (0 : Int)) = false, (v.k == (1 : Int)) = false, (v.k == (2 : Int)) = false, (v.k == (3 : Int)) = true, isnan v.x = false, v.b = false, (!v.s.toList == (ByteArray.mk #[]).toList) = false, (v.o != (0 : Int)) = false]) : PureTo Try.prog 32 [.agg v.cells] (AV.v (.int .i64 (0 : Int))) :=
  evFn_pure hm sok2 (fn := Try.f32) rfl rfl (ti := false) (hs := [CHint.ops 4 [(0, Hint.b false)], CHint.ops 5 [(0, Hint.b false)], CHint.ops 6 [(0, Hint.b false)], CHint.ops 8 [(0, Hint.b true)], CHint.ops 9 [(2, Hint.b false)], CHint.ops 20 [(7, Hint.b false), (11, Hint.b false), (16, Hint.b false)]]) (c := _) (by kernel_rfl) h
theorem check24 (v : Val) (h : AllP [(v.k == (0 : Int)) = false, (v.k == (1 : Int)) = false, (v.k == (2 : Int)) = false, (v.k == (3 : Int)) = false, (v.k == (4 : Int)) = true, (2 : Int) ≠ (0 : Int), ((↑v.s.size : Int).tmod (2 : Int) == (1 : Int)) = true]) : PureTo Try.prog 32 [.agg v.cells] (AV.v (.int .i64 (1 : Int))) :=
  evFn_pure hm sok2 (fn := Try.f32) rfl rfl (ti := false) (hs := [CHint.ops 4 [(0, Hint.b false)], CHint.ops 5 [(0, Hint.b false)], CHint.ops 6 [(0, Hint.b false)], CHint.ops 8 [(0, Hint.b false)], CHint.ops 12 [(0, Hint.b true)], CHint.ops 13 [(4, Hint.b true)]]) (c := _) (by kernel_rfl) h
theorem check25 (v : Val) (h : AllP [(v.k == (0 : Int)) = false, (v.k == (1 : Int)) = false, (v.k == (2 : Int)) = false, (v.k == (3 : Int)) = false, (v.k == (4 : Int)) = true, (2 : Int) ≠ (0 : Int), ((↑v.s.size : Int).tmod (2 : Int) == (1 : Int)) = false, ((↑v.x : Int) != (0 : Int)) = true]) : PureTo Try.prog 32 [.agg v.cells] (AV.v (.int .i64 (1 : Int))) :=
  evFn_pure hm sok2 (fn := Try.f32) rfl rfl (ti := false) (hs := [CHint.ops 4 [(0, Hint.b false)], CHint.ops 5 [(0, Hint.b false)], CHint.ops 6 [(0, Hint.b false)], CHint.ops 8 [(0, Hint.b false)], CHint.ops 12 [(0, Hint.b true)], CHint.ops 13 [(4, Hint.b false)], CHint.ops 20 [(3, Hint.b true)]]) (c := _) (by kernel_rfl) h
theorem check26 (v : Val) (h : AllP [(v.k == (0 : Int)) = false, (v.k == (1 : Int)) = false, (v.k == (2 : Int)) = false, (v.k == (3 : Int)) = false, (v.k == (4 : Int)) = true, (2 : Int) ≠ (0 : Int), ((↑v.s.size : Int).tmod (2 : Int) == (1 : Int)) = false, ((↑v.x : Int) != (0 : Int)) = false, v.b = true]) : PureTo Try.prog 32 [.agg v.cells] (AV.v (.int .i64 (1 : Int))) :=
  evFn_pure hm sok2 (fn := Try.f32) rfl rfl (ti := false) (hs := [CHint.ops 4 [(0, Hint.b false)], CHint.ops 5 [(0, Hint.b false)], CHint.ops 6 [(0, Hint.b false)], CHint.ops 8 [(0, Hint.b false)], CHint.ops 12 [(0, Hint.b true)], CHint.ops 13 [(4, Hint.b false)], CHint.ops 20 [(3, Hint.b false), (7, Hint.b true)]]) (c := _) (by kernel_rfl) h
theorem check27 (v : Val) (h : AllP [(v.k == (0 : Int)) = false, (v.k == (1 : Int)) = false, (v.k == (2 : Int)) = false, (v.k == (3 : Int)) = false, (v.k == (4 : Int)) = true, (2 : Int) ≠ (0 : Int), ((↑v.s.size : Int).tmod (2 : Int) == (1 : Int)) = false, ((↑v.x : Int) != (0 : Int)) = false, v.b = false, (v.o != (0 : Int)) = true]) : PureTo Try.prog 32 [.agg v.cells] (AV.v (.int .i64 (1 : Int))) :=
  evFn_pure hm sok2 (fn := Try.f32) rfl rfl (ti := false) (hs := [CHint.ops 4 [(0, Hint.b false)], CHint.ops 5 [(0, Hint.b false)], CHint.ops 6 [(0, Hint.b false)], CHint.ops 8 [(0, Hint.b false)], CHint.ops 12 [(0, Hint.b true)], CHint.ops 13 [(4, Hint.b false)], CHint.ops 20 [(3, Hint.b false), (7, Hint.b false), (16, Hint.b true)]]) (c := _) (by kernel_rfl) h
theorem check28 (v : Val) (h : AllP [(v.k == (0 : Int)) = false, (v.k == (1 : Int)) = false, (v.k == (2 : Int)) = false, (v.k == (3 : Int)) = false, (v.k == (4 : Int)) = true, (2 : Int) ≠ (0 : Int), ((↑v.s.size : Int).tmod (2 : Int) == (1 : Int)) = false, ((↑v.x : Int) != (0 : Int)) = false, v.b = false, (v.o != (0 : Int)) = false]) : PureTo Try.prog 32 [.agg v.cells] (AV.v (.int .i64 (0 : Int))) :=
  evFn_pure hm sok2 (fn := Try.f32) rfl rfl (ti := false) (hs := [CHint.ops 4 [(0, Hint.b false)], CHint.ops 5 [(0, Hint.b false)], CHint.ops 6 [(0, Hint.b false)], CHint.ops 8 [(0, Hint.b false)], CHint.ops 12 [(0, Hint.b true)], CHint.ops 13 [(4, Hint.b false)], CHint.ops 20 [(3, Hint.b false), (7, Hint.b false), (16, Hint.b false)]]) (c := _) (by kernel_rfl) h
theorem check29 (v : Val) (h : AllP [(v.k == (0 : Int)) = false, (v.k == (1 : Int)) = false, (v.k == (2 : Int)) = false, (v.k == (3 : Int)) = false, (v.k == (4 : Int)) = false, (v.k == (5 : Int)) = true, decide (v.o < (0 : Int)) = true]) : PureTo Try.prog 32 [.agg v.cells] (AV.v (.int .i64 (1 : Int))) :=
  evFn_pure hm sok2 (fn := Try.f32) rfl rfl (ti := false) (hs := [CHint.ops 4 [(0, Hint.b false)], CHint.ops 5 [(0, Hint.b false)], CHint.ops 6 [(0, Hint.b false)], CHint.ops 8 [(0, Hint.b false)], CHint.ops 12 [(0, Hint.b false)], CHint.ops 16 [(0, Hint.b true)], CHint.ops 17 [(2, Hint.b true)]]) (c := _) (by kernel_rfl) h
theorem check30 (v : Val) (h : AllP [(v.k == (0 : Int)) = false, (v.k == (1 : Int)) = false, (v.k == (2 : Int)) = false, (v.k == (3 : Int)) = false, (v.k == (4 : Int)) = false, (v.k == (5 : Int)) = true, decide (v.o < (0 : Int)) = false, ((↑v.x : Int) != (0 : Int)) = true]) : PureTo Try.prog 32 [.agg v.cells] (AV.v (.int .i64 (1 : Int))) :=
  evFn_pure hm sok2 (fn := Try.f32) rfl rfl (ti := false) (hs := [CHint.ops 4 [(0, Hint.b false)], CHint.ops 5 [(0, Hint.b false)], CHint.ops 6 [(0, Hint.b false)], CHint.ops 8 [(0, Hint.b false)], CHint.ops 12 [(0, Hint.b false)], CHint.ops 16 [(0, Hint.b true)], CHint.ops 17 [(2, Hint.b false)], CHint.ops 20 [(3, Hint.b true)]]) (c := _) (by kernel_rfl) h
theorem check31 (v : Val) (h : AllP [(v.k == (0 : Int)) = false, (v.k == (1 : Int)) = false, (v.k == (2 : Int)) = false, (v.k == (3 : Int)) = false, (v.k == (4 : Int)) = false, (v.k == (5 : Int)) = true, decide (v.o < (0 : Int)) = false, ((↑v.x : Int) != (0 : Int)) = false, v.b = true]) : PureTo Try.prog 32 [.agg v.cells] (AV.v (.int .i64 (1 : Int))) :=
  evFn_pure hm sok2 (fn := Try.f32) rfl rfl (ti := false) (hs := [CHint.ops 4 [(0, Hint.b false)], CHint.ops 5 [(0, Hint.b false)], CHint.ops 6 [(0, Hint.b false)], CHint.ops 8 [(0, Hint.b false)], CHint.ops 12 [(0, Hint.b false)], CHint.ops 16 [(0, Hint.b true)], CHint.ops 17 [(2, Hint.b false)], CHint.ops 20 [(3, Hint.b false), (7, Hint.b true)]]) (c := _) (by kernel_rfl) h
theorem check32 (v : Val) (h : AllP [(v.k == (0 : Int)) = false, (v.k == (1 : Int)) = false, (v.k == (2 : Int)) = false, (v.k == (3 : Int)) = false, (v.k == (4 : Int)) = false, (v.k == (5 : Int)) = true, decide (v.o < (0 : Int)) = false, ((↑v.x : Int) != (0 : Int)) = false, v.b = false, (!v.s.toList == (ByteArray.mk #[]).toList) = true]) : PureTo Try.prog 32 [.agg v.cells] (AV.v (.int .i64 (1 : Int))) :=
  evFn_pure hm sok2 (fn := Try.f32) rfl rfl (ti := false) (hs := [CHint.ops 4 [(0, Hint.b false)], CHint.ops 5 [(0, Hint.b false)], CHint.ops 6 [(0, Hint.b false)], CHint.ops 8 [(0, Hint.b false)], CHint.ops 12 [(0, Hint.b false)], CHint.ops 16 [(0, Hint.b true)], CHint.ops 17 [(2, Hint.b false)], CHint.ops 20 [(3, Hint.b false), (7, Hint.b false), (11, Hint.b true)]]) (c := _) (by kernel_rfl) h
theorem check33 (v : Val) (h : AllP [(v.k == (0 : Int)) = false, (v.k == (1 : Int)) = false, (v.k == (2 : Int)) = false, (v.k == (3 : Int)) = false, (v.k == (4 : Int)) = false, (v.k == (5 : Int)) = true, decide (v.o < (0 : Int)) = false, ((↑v.x : Int) != (0 : Int)) = false, v.b = false, (!v.s.toList == (ByteArray.mk #[]).toList) = false]) : PureTo Try.prog 32 [.agg v.cells] (AV.v (.int .i64 (0 : Int))) :=
  evFn_pure hm sok2 (fn := Try.f32) rfl rfl (ti := false) (hs := [CHint.ops 4 [(0, Hint.b false)], CHint.ops 5 [(0, Hint.b false)], CHint.ops 6 [(0, Hint.b false)], CHint.ops 8 [(0, Hint.b false)], CHint.ops 12 [(0, Hint.b false)], CHint.ops 16 [(0, Hint.b true)], CHint.ops 17 [(2, Hint.b false)], CHint.ops 20 [(3, Hint.b false), (7, Hint.b false), (11, Hint.b false)]]) (c := _) (by kernel_rfl) h
theorem check34 (v : Val) (h : AllP [(v.k == (0 : Int)) = false, (v.k == (1 : Int)) = false, (v.k == (2 : Int)) = false, (v.k == (3 : Int)) = false, (v.k == (4 : Int)) = false, (v.k == (5 : Int)) = false]) : PureTo Try.prog 32 [.agg v.cells] (AV.v (.int .i64 (1 : Int))) :=
  evFn_pure hm sok2 (fn := Try.f32) rfl rfl (ti := false) (hs := [CHint.ops 4 [(0, Hint.b false)], CHint.ops 5 [(0, Hint.b false)], CHint.ops 6 [(0, Hint.b false)], CHint.ops 8 [(0, Hint.b false)], CHint.ops 12 [(0, Hint.b false)], CHint.ops 16 [(0, Hint.b false)]]) (c := _) (by kernel_rfl) h
-- 4 paths
theorem alike1 (v u : Val) (h : AllP [(v.b == u.b) = true, (v.s.toList == u.s.toList) = true, (v.o == u.o) = true]) : PureTo Try.prog 37 [.agg v.cells, .agg u.cells] (AV.v (.bool true)) :=
  evFn_pure hm sok2 (fn := Try.f37) rfl rfl (ti := false) (hs := [CHint.ops 1 [(4, Hint.b true), (10, Hint.b true), (17, Hint.b true)]]) (c := _) (by kernel_rfl) h
theorem alike2 (v u : Val) (h : AllP [(v.b == u.b) = true, (v.s.toList == u.s.toList) = true, (v.o == u.o) = false]) : PureTo Try.prog 37 [.agg v.cells, .agg u.cells] (AV.v (.bool false)) :=
  evFn_pure hm sok2 (fn := Try.f37) rfl rfl (ti := false) (hs := [CHint.ops 1 [(4, Hint.b true), (10, Hint.b true), (17, Hint.b false)]]) (c := _) (by kernel_rfl) h
theorem alike3 (v u : Val) (h : AllP [(v.b == u.b) = true, (v.s.toList == u.s.toList) = false]) : PureTo Try.prog 37 [.agg v.cells, .agg u.cells] (AV.v (.bool false)) :=
  evFn_pure hm sok2 (fn := Try.f37) rfl rfl (ti := false) (hs := [CHint.ops 1 [(4, Hint.b true), (10, Hint.b false)]]) (c := _) (by kernel_rfl) h
theorem alike4 (v u : Val) (h : AllP [(v.b == u.b) = false]) : PureTo Try.prog 37 [.agg v.cells, .agg u.cells] (AV.v (.bool false)) :=
  evFn_pure hm sok2 (fn := Try.f37) rfl rfl (ti := false) (hs := [CHint.ops 1 [(4, Hint.b false)]]) (c := _) (by kernel_rfl) h
-- 3 paths
theorem equal1 (v u : Val) (h : AllP [((↑v.x : Int) == (↑u.x : Int)) = true, (v.k == u.k && (v.b == u.b && (Op.floatEq FloatKind.f64 0 0 && (v.s.toList == u.s.toList && (v.o == u.o && true))))) = true]) : PureTo Try.prog 30 [.agg v.cells, .agg u.cells] (AV.v (.bool true)) :=
  evFn_pure hm sok2 (fn := Try.f30) rfl rfl (ti := false) (hs := [CHint.ops 1 [(6, Hint.b true)], CHint.ops 3 [(4, Hint.b true)]]) (c := _) (by kernel_rfl) h
theorem equal2 (v u : Val) (h : AllP [((↑v.x : Int) == (↑u.x : Int)) = true, (v.k == u.k && (v.b == u.b && (Op.floatEq FloatKind.f64 0 0 && (v.s.toList == u.s.toList && (v.o == u.o && true))))) = false]) : PureTo Try.prog 30 [.agg v.cells, .agg u.cells] (AV.v (.bool false)) :=
  evFn_pure hm sok2 (fn := Try.f30) rfl rfl (ti := false) (hs := [CHint.ops 1 [(6, Hint.b true)], CHint.ops 3 [(4, Hint.b false)]]) (c := _) (by kernel_rfl) h
theorem equal3 (v u : Val) (h : AllP [((↑v.x : Int) == (↑u.x : Int)) = false]) : PureTo Try.prog 30 [.agg v.cells, .agg u.cells] (AV.v (.bool false)) :=
  evFn_pure hm sok2 (fn := Try.f30) rfl rfl (ti := false) (hs := [CHint.ops 1 [(6, Hint.b false)]]) (c := _) (by kernel_rfl) h
-- 2 paths
theorem has1 (p : PropV) (n : Int) (h : AllP [(bitsOf BinOp.and IntKind.i64 p.has n != (0 : Int)) = true]) : PureTo Try.prog 27 [.agg p.cells, .v (.int .i64 n)] (AV.v (.bool true)) :=
  evFn_pure hm sok2 (fn := Try.f27) rfl rfl (ti := false) (hs := [CHint.ops 1 [(4, Hint.b true)]]) (c := _) (by kernel_rfl) h
theorem has2 (p : PropV) (n : Int) (h : AllP [(bitsOf BinOp.and IntKind.i64 p.has n != (0 : Int)) = false]) : PureTo Try.prog 27 [.agg p.cells, .v (.int .i64 n)] (AV.v (.bool false)) :=
  evFn_pure hm sok2 (fn := Try.f27) rfl rfl (ti := false) (hs := [CHint.ops 1 [(4, Hint.b false)]]) (c := _) (by kernel_rfl) h
-- 2 paths
theorem rhas1 (p : PropV) (n : Int) (h : AllP [(bitsOf BinOp.and IntKind.i64 p.has n != (0 : Int)) = true]) : PureTo Try.prog 21 [.agg p.cells, .v (.int .i64 n)] (AV.v (.bool true)) :=
  evFn_pure hm sok2 (fn := Try.f21) rfl rfl (ti := false) (hs := [CHint.ops 1 [(4, Hint.b true)]]) (c := _) (by kernel_rfl) h
theorem rhas2 (p : PropV) (n : Int) (h : AllP [(bitsOf BinOp.and IntKind.i64 p.has n != (0 : Int)) = false]) : PureTo Try.prog 21 [.agg p.cells, .v (.int .i64 n)] (AV.v (.bool false)) :=
  evFn_pure hm sok2 (fn := Try.f21) rfl rfl (ti := false) (hs := [CHint.ops 1 [(4, Hint.b false)]]) (c := _) (by kernel_rfl) h
end Go.Proofs.Pr

/- Property: contracts of values' functions, written by tree.py. -/
set_option maxRecDepth 100000
namespace Go.Proofs.Pr
open Go Go.Ev

def nsame (x y : Nat) : Bool := bif isnan x then (bif isnan y then (true) else (false)) else (bif isnan y then (false) else (bif Op.floatEq FloatKind.f64 x y then (bif sgn x then (bif sgn y then (true) else (false)) else (bif sgn y then (false) else (true))) else (false)))

theorem nsame_pure (x y : Nat) : PureTo Try.prog 41 [.v (.float .f64 x), .v (.float .f64 y)] (.v (.bool (nsame x y))) := by
  unfold nsame
  cases h1 : isnan x with
  | true =>
    cases h2 : isnan y with
    | true =>
      exact nsame1 x y ⟨h1, h1, h2, trivial⟩
    | false =>
      exact nsame2 x y ⟨h1, h1, h2, trivial⟩
  | false =>
    cases h3 : isnan y with
    | true =>
      exact nsame6 x y ⟨h1, h3, h1, trivial⟩
    | false =>
      cases h4 : Op.floatEq FloatKind.f64 x y with
      | true =>
        cases h5 : sgn x with
        | true =>
          cases h6 : sgn y with
          | true =>
            exact nsame7 x y ⟨h1, h3, h4, h5, h6, trivial⟩
          | false =>
            exact nsame8 x y ⟨h1, h3, h4, h5, h6, trivial⟩
        | false =>
          cases h7 : sgn y with
          | true =>
            exact nsame9 x y ⟨h1, h3, h4, h5, h7, trivial⟩
          | false =>
            exact nsame10 x y ⟨h1, h3, h4, h5, h7, trivial⟩
      | false =>
        exact nsame11 x y ⟨h1, h3, h4, trivial⟩

def rnsame (x y : Nat) : Bool := bif isnan x then (bif isnan y then (true) else (bif Op.floatEq FloatKind.f64 x y then (bif sgn x then (bif sgn y then (true) else (false)) else (bif sgn y then (false) else (true))) else (false))) else (bif Op.floatEq FloatKind.f64 x y then (bif sgn x then (bif sgn y then (true) else (false)) else (bif sgn y then (false) else (true))) else (false))

theorem rnsame_pure (x y : Nat) : PureTo Try.prog 42 [.v (.float .f64 x), .v (.float .f64 y)] (.v (.bool (rnsame x y))) := by
  unfold rnsame
  cases h1 : isnan x with
  | true =>
    cases h2 : isnan y with
    | true =>
      exact rnsame1 x y ⟨h1, h2, trivial⟩
    | false =>
      cases h3 : Op.floatEq FloatKind.f64 x y with
      | true =>
        cases h4 : sgn x with
        | true =>
          cases h5 : sgn y with
          | true =>
            exact rnsame2 x y ⟨h1, h2, h3, h4, h5, trivial⟩
          | false =>
            exact rnsame3 x y ⟨h1, h2, h3, h4, h5, trivial⟩
        | false =>
          cases h6 : sgn y with
          | true =>
            exact rnsame4 x y ⟨h1, h2, h3, h4, h6, trivial⟩
          | false =>
            exact rnsame5 x y ⟨h1, h2, h3, h4, h6, trivial⟩
      | false =>
        exact rnsame6 x y ⟨h1, h2, h3, trivial⟩
  | false =>
    cases h7 : Op.floatEq FloatKind.f64 x y with
    | true =>
      cases h8 : sgn x with
      | true =>
        cases h9 : sgn y with
        | true =>
          exact rnsame7 x y ⟨h1, h7, h8, h9, trivial⟩
        | false =>
          exact rnsame8 x y ⟨h1, h7, h8, h9, trivial⟩
      | false =>
        cases h10 : sgn y with
        | true =>
          exact rnsame9 x y ⟨h1, h7, h8, h10, trivial⟩
        | false =>
          exact rnsame10 x y ⟨h1, h7, h8, h10, trivial⟩
    | false =>
      exact rnsame11 x y ⟨h1, h7, trivial⟩

def check (v : Val) : Int := bif (v.k == (0 : Int)) then (bif ((↑v.x : Int) != (0 : Int)) then ((1 : Int)) else (bif v.b then ((1 : Int)) else (bif (!v.s.toList == (ByteArray.mk #[]).toList) then ((1 : Int)) else (bif (v.o != (0 : Int)) then ((1 : Int)) else ((0 : Int)))))) else (bif (v.k == (1 : Int)) then (bif ((↑v.x : Int) != (0 : Int)) then ((1 : Int)) else (bif v.b then ((1 : Int)) else (bif (!v.s.toList == (ByteArray.mk #[]).toList) then ((1 : Int)) else (bif (v.o != (0 : Int)) then ((1 : Int)) else ((0 : Int)))))) else (bif (v.k == (2 : Int)) then (bif ((↑v.x : Int) != (0 : Int)) then ((1 : Int)) else (bif (!v.s.toList == (ByteArray.mk #[]).toList) then ((1 : Int)) else (bif (v.o != (0 : Int)) then ((1 : Int)) else ((0 : Int))))) else (bif (v.k == (3 : Int)) then (bif isnan v.x then (bif ((↑v.x : Int) != (9221120237041090560 : Int)) then ((1 : Int)) else (bif v.b then ((1 : Int)) else (bif (!v.s.toList == (ByteArray.mk #[]).toList) then ((1 : Int)) else (bif (v.o != (0 : Int)) then ((1 : Int)) else ((0 : Int)))))) else (bif v.b then ((1 : Int)) else (bif (!v.s.toList == (ByteArray.mk #[]).toList) then ((1 : Int)) else (bif (v.o != (0 : Int)) then ((1 : Int)) else ((0 : Int)))))) else (bif (v.k == (4 : Int)) then (bif ((↑v.s.size : Int).tmod (2 : Int) == (1 : Int)) then ((1 : Int)) else (bif ((↑v.x : Int) != (0 : Int)) then ((1 : Int)) else (bif v.b then ((1 : Int)) else (bif (v.o != (0 : Int)) then ((1 : Int)) else ((0 : Int)))))) else (bif (v.k == (5 : Int)) then (bif decide (v.o < (0 : Int)) then ((1 : Int)) else (bif ((↑v.x : Int) != (0 : Int)) then ((1 : Int)) else (bif v.b then ((1 : Int)) else (bif (!v.s.toList == (ByteArray.mk #[]).toList) then ((1 : Int)) else ((0 : Int)))))) else ((1 : Int)))))))

theorem check_pure (v : Val) : PureTo Try.prog 32 [.agg v.cells] (.v (.int .i64 (check v))) := by
  unfold check
  cases h1 : (v.k == (0 : Int)) with
  | true =>
    cases h2 : ((↑v.x : Int) != (0 : Int)) with
    | true =>
      exact check1 v ⟨h1, h2, trivial⟩
    | false =>
      cases h3 : v.b with
      | true =>
        exact check2 v ⟨h1, h2, h3, trivial⟩
      | false =>
        cases h4 : (!v.s.toList == (ByteArray.mk #[]).toList) with
        | true =>
          exact check3 v ⟨h1, h2, h3, h4, trivial⟩
        | false =>
          cases h5 : (v.o != (0 : Int)) with
          | true =>
            exact check4 v ⟨h1, h2, h3, h4, h5, trivial⟩
          | false =>
            exact check5 v ⟨h1, h2, h3, h4, h5, trivial⟩
  | false =>
    cases h6 : (v.k == (1 : Int)) with
    | true =>
      cases h7 : ((↑v.x : Int) != (0 : Int)) with
      | true =>
        exact check6 v ⟨h1, h6, h7, trivial⟩
      | false =>
        cases h8 : v.b with
        | true =>
          exact check7 v ⟨h1, h6, h7, h8, trivial⟩
        | false =>
          cases h9 : (!v.s.toList == (ByteArray.mk #[]).toList) with
          | true =>
            exact check8 v ⟨h1, h6, h7, h8, h9, trivial⟩
          | false =>
            cases h10 : (v.o != (0 : Int)) with
            | true =>
              exact check9 v ⟨h1, h6, h7, h8, h9, h10, trivial⟩
            | false =>
              exact check10 v ⟨h1, h6, h7, h8, h9, h10, trivial⟩
    | false =>
      cases h11 : (v.k == (2 : Int)) with
      | true =>
        cases h12 : ((↑v.x : Int) != (0 : Int)) with
        | true =>
          exact check11 v ⟨h1, h6, h11, h12, trivial⟩
        | false =>
          cases h13 : (!v.s.toList == (ByteArray.mk #[]).toList) with
          | true =>
            exact check12 v ⟨h1, h6, h11, h12, h13, trivial⟩
          | false =>
            cases h14 : (v.o != (0 : Int)) with
            | true =>
              exact check13 v ⟨h1, h6, h11, h12, h13, h14, trivial⟩
            | false =>
              exact check14 v ⟨h1, h6, h11, h12, h13, h14, trivial⟩
      | false =>
        cases h15 : (v.k == (3 : Int)) with
        | true =>
          cases h16 : isnan v.x with
          | true =>
            cases h17 : ((↑v.x : Int) != (9221120237041090560 : Int)) with
            | true =>
              exact check15 v ⟨h1, h6, h11, h15, h16, h17, trivial⟩
            | false =>
              cases h18 : v.b with
              | true =>
                exact check16 v ⟨h1, h6, h11, h15, h16, h17, h18, trivial⟩
              | false =>
                cases h19 : (!v.s.toList == (ByteArray.mk #[]).toList) with
                | true =>
                  exact check17 v ⟨h1, h6, h11, h15, h16, h17, h18, h19, trivial⟩
                | false =>
                  cases h20 : (v.o != (0 : Int)) with
                  | true =>
                    exact check18 v ⟨h1, h6, h11, h15, h16, h17, h18, h19, h20, trivial⟩
                  | false =>
                    exact check19 v ⟨h1, h6, h11, h15, h16, h17, h18, h19, h20, trivial⟩
          | false =>
            cases h21 : v.b with
            | true =>
              exact check20 v ⟨h1, h6, h11, h15, h16, h21, trivial⟩
            | false =>
              cases h22 : (!v.s.toList == (ByteArray.mk #[]).toList) with
              | true =>
                exact check21 v ⟨h1, h6, h11, h15, h16, h21, h22, trivial⟩
              | false =>
                cases h23 : (v.o != (0 : Int)) with
                | true =>
                  exact check22 v ⟨h1, h6, h11, h15, h16, h21, h22, h23, trivial⟩
                | false =>
                  exact check23 v ⟨h1, h6, h11, h15, h16, h21, h22, h23, trivial⟩
        | false =>
          cases h24 : (v.k == (4 : Int)) with
          | true =>
            cases h25 : ((↑v.s.size : Int).tmod (2 : Int) == (1 : Int)) with
            | true =>
              exact check24 v ⟨h1, h6, h11, h15, h24, (by first | exact trivial | decide | omega), h25, trivial⟩
            | false =>
              cases h26 : ((↑v.x : Int) != (0 : Int)) with
              | true =>
                exact check25 v ⟨h1, h6, h11, h15, h24, (by first | exact trivial | decide | omega), h25, h26, trivial⟩
              | false =>
                cases h27 : v.b with
                | true =>
                  exact check26 v ⟨h1, h6, h11, h15, h24, (by first | exact trivial | decide | omega), h25, h26, h27, trivial⟩
                | false =>
                  cases h28 : (v.o != (0 : Int)) with
                  | true =>
                    exact check27 v ⟨h1, h6, h11, h15, h24, (by first | exact trivial | decide | omega), h25, h26, h27, h28, trivial⟩
                  | false =>
                    exact check28 v ⟨h1, h6, h11, h15, h24, (by first | exact trivial | decide | omega), h25, h26, h27, h28, trivial⟩
          | false =>
            cases h29 : (v.k == (5 : Int)) with
            | true =>
              cases h30 : decide (v.o < (0 : Int)) with
              | true =>
                exact check29 v ⟨h1, h6, h11, h15, h24, h29, h30, trivial⟩
              | false =>
                cases h31 : ((↑v.x : Int) != (0 : Int)) with
                | true =>
                  exact check30 v ⟨h1, h6, h11, h15, h24, h29, h30, h31, trivial⟩
                | false =>
                  cases h32 : v.b with
                  | true =>
                    exact check31 v ⟨h1, h6, h11, h15, h24, h29, h30, h31, h32, trivial⟩
                  | false =>
                    cases h33 : (!v.s.toList == (ByteArray.mk #[]).toList) with
                    | true =>
                      exact check32 v ⟨h1, h6, h11, h15, h24, h29, h30, h31, h32, h33, trivial⟩
                    | false =>
                      exact check33 v ⟨h1, h6, h11, h15, h24, h29, h30, h31, h32, h33, trivial⟩
            | false =>
              exact check34 v ⟨h1, h6, h11, h15, h24, h29, trivial⟩

def alike (v u : Val) : Bool := bif (v.b == u.b) then (bif (v.s.toList == u.s.toList) then (bif (v.o == u.o) then (true) else (false)) else (false)) else (false)

theorem alike_pure (v u : Val) : PureTo Try.prog 37 [.agg v.cells, .agg u.cells] (.v (.bool (alike v u))) := by
  unfold alike
  cases h1 : (v.b == u.b) with
  | true =>
    cases h2 : (v.s.toList == u.s.toList) with
    | true =>
      cases h3 : (v.o == u.o) with
      | true =>
        exact alike1 v u ⟨h1, h2, h3, trivial⟩
      | false =>
        exact alike2 v u ⟨h1, h2, h3, trivial⟩
    | false =>
      exact alike3 v u ⟨h1, h2, trivial⟩
  | false =>
    exact alike4 v u ⟨h1, trivial⟩

def equal (v u : Val) : Bool := bif ((↑v.x : Int) == (↑u.x : Int)) then (bif (v.k == u.k && (v.b == u.b && (Op.floatEq FloatKind.f64 0 0 && (v.s.toList == u.s.toList && (v.o == u.o && true))))) then (true) else (false)) else (false)

theorem equal_pure (v u : Val) : PureTo Try.prog 30 [.agg v.cells, .agg u.cells] (.v (.bool (equal v u))) := by
  unfold equal
  cases h1 : ((↑v.x : Int) == (↑u.x : Int)) with
  | true =>
    cases h2 : (v.k == u.k && (v.b == u.b && (Op.floatEq FloatKind.f64 0 0 && (v.s.toList == u.s.toList && (v.o == u.o && true))))) with
    | true =>
      exact equal1 v u ⟨h1, h2, trivial⟩
    | false =>
      exact equal2 v u ⟨h1, h2, trivial⟩
  | false =>
    exact equal3 v u ⟨h1, trivial⟩

def has (p : PropV) (n : Int) : Bool := bif (bitsOf BinOp.and IntKind.i64 p.has n != (0 : Int)) then (true) else (false)

theorem has_pure (p : PropV) (n : Int) : PureTo Try.prog 27 [.agg p.cells, .v (.int .i64 n)] (.v (.bool (has p n))) := by
  unfold has
  cases h1 : (bitsOf BinOp.and IntKind.i64 p.has n != (0 : Int)) with
  | true =>
    exact has1 p n ⟨h1, trivial⟩
  | false =>
    exact has2 p n ⟨h1, trivial⟩

def rhas (p : PropV) (n : Int) : Bool := bif (bitsOf BinOp.and IntKind.i64 p.has n != (0 : Int)) then (true) else (false)

theorem rhas_pure (p : PropV) (n : Int) : PureTo Try.prog 21 [.agg p.cells, .v (.int .i64 n)] (.v (.bool (rhas p n))) := by
  unfold rhas
  cases h1 : (bitsOf BinOp.and IntKind.i64 p.has n != (0 : Int)) with
  | true =>
    exact rhas1 p n ⟨h1, trivial⟩
  | false =>
    exact rhas2 p n ⟨h1, trivial⟩

end Go.Proofs.Pr

/- Property: contracts over values and properties, in the table. -/
set_option maxRecDepth 100000
namespace Go.Proofs.Pr
open Go Go.Ev

def asVal : List AV → Option Val
  | [.v (.int .i64 k), .v (.bool b), .v (.float .f64 x), .v (.string s), .v (.int .i64 o)] => some ⟨k, b, x, s, o⟩
  | _ => none

theorem asVal_eq {c : List AV} {v : Val} (h : asVal c = some v) : c = v.cells := by
  unfold asVal at h
  split at h
  · cases h; rfl
  · cases h

def asProp : List AV → Option PropV
  | .v (.int .i64 h) :: r => match asVal (r.take 5), asVal ((r.drop 5).take 5), asVal ((r.drop 10).take 5), r.drop 15 with
    | some a, some b, some c, [.v (.bool w), .v (.bool e), .v (.bool cc)] => some ⟨h, a, b, c, w, e, cc⟩
    | _, _, _, _ => none
  | _ => none

theorem asProp_eq {c : List AV} {p : PropV} (h : asProp c = some p) : c = p.cells := by
  unfold asProp at h
  split at h
  · next n r =>
    split at h
    · next a b d w e cc h1 h2 h3 h4 =>
      cases h
      show _ :: r = _ :: (a.cells ++ (b.cells ++ (d.cells ++ [.v (.bool w), .v (.bool e), .v (.bool cc)])))
      rw [← asVal_eq h1, ← asVal_eq h2, ← asVal_eq h3, ← h4]
      congr 1
      rw [show r.drop 15 = (r.drop 10).drop 5 by rw [List.drop_drop], List.take_append_drop, show r.drop 10 = (r.drop 5).drop 5 by rw [List.drop_drop], List.take_append_drop, List.take_append_drop]
    · cases h
  · cases h

def sigFF (f : Nat → Nat → AV) : List AV → Option (AV × List Prop)
  | [.v (.float .f64 x), .v (.float .f64 y)] => some (f x y, [])
  | _ => none
def sigV (f : Val → AV) : List AV → Option (AV × List Prop)
  | [.agg c] => match asVal c with
    | some v => some (f v, [])
    | none => none
  | _ => none
def sigVV (f : Val → Val → AV) : List AV → Option (AV × List Prop)
  | [.agg c, .agg d] => match asVal c, asVal d with
    | some v, some u => some (f v u, [])
    | _, _ => none
  | _ => none
def sigP (f : PropV → AV) : List AV → Option (AV × List Prop)
  | [.agg c] => match asProp c with
    | some v => some (f v, [])
    | none => none
  | _ => none
def sigPP (f : PropV → PropV → AV) : List AV → Option (AV × List Prop)
  | [.agg c, .agg d] => match asProp c, asProp d with
    | some v, some u => some (f v u, [])
    | _, _ => none
  | _ => none
def sigPI (f : PropV → Int → AV) : List AV → Option (AV × List Prop)
  | [.agg c, .v (.int .i64 n)] => match asProp c with
    | some v => some (f v n, [])
    | none => none
  | _ => none

theorem sigFF_ok {P : Program} {i : FuncId} {f : Nat → Nat → AV} (h : ∀ x y, PureTo P i [.v (.float .f64 x), .v (.float .f64 y)] (f x y)) : ∀ ys r c, sigFF f ys = some (r, c) → AllP c → PureTo P i ys r := by
  intro ys r c hs _
  unfold sigFF at hs
  split at hs
  · cases hs; exact h _ _
  · cases hs
theorem sigV_ok {P : Program} {i : FuncId} {f : Val → AV} (h : ∀ v : Val, PureTo P i [.agg v.cells] (f v)) : ∀ ys r c, sigV f ys = some (r, c) → AllP c → PureTo P i ys r := by
  intro ys r c hs _
  unfold sigV at hs
  split at hs
  · split at hs
    · next hv => cases hs; rw [asVal_eq hv]; exact h _
    · cases hs
  · cases hs
theorem sigVV_ok {P : Program} {i : FuncId} {f : Val → Val → AV} (h : ∀ v u : Val, PureTo P i [.agg v.cells, .agg u.cells] (f v u)) : ∀ ys r c, sigVV f ys = some (r, c) → AllP c → PureTo P i ys r := by
  intro ys r c hs _
  unfold sigVV at hs
  split at hs
  · split at hs
    · next hv hu => cases hs; rw [asVal_eq hv, asVal_eq hu]; exact h _ _
    · cases hs
  · cases hs
theorem sigP_ok {P : Program} {i : FuncId} {f : PropV → AV} (h : ∀ v : PropV, PureTo P i [.agg v.cells] (f v)) : ∀ ys r c, sigP f ys = some (r, c) → AllP c → PureTo P i ys r := by
  intro ys r c hs _
  unfold sigP at hs
  split at hs
  · split at hs
    · next hv => cases hs; rw [asProp_eq hv]; exact h _
    · cases hs
  · cases hs
theorem sigPP_ok {P : Program} {i : FuncId} {f : PropV → PropV → AV} (h : ∀ v u : PropV, PureTo P i [.agg v.cells, .agg u.cells] (f v u)) : ∀ ys r c, sigPP f ys = some (r, c) → AllP c → PureTo P i ys r := by
  intro ys r c hs _
  unfold sigPP at hs
  split at hs
  · split at hs
    · next hv hu => cases hs; rw [asProp_eq hv, asProp_eq hu]; exact h _ _
    · cases hs
  · cases hs
theorem sigPI_ok {P : Program} {i : FuncId} {f : PropV → Int → AV} (h : ∀ (v : PropV) (n : Int), PureTo P i [.agg v.cells, .v (.int .i64 n)] (f v n)) : ∀ ys r c, sigPI f ys = some (r, c) → AllP c → PureTo P i ys r := by
  intro ys r c hs _
  unfold sigPI at hs
  split at hs
  · split at hs
    · next hv => cases hs; rw [asProp_eq hv]; exact h _ _
    · cases hs
  · cases hs

def SG3 : SGT := (41, .p (sigFF fun x y => .v (.bool (nsame x y)))) :: (42, .p (sigFF fun x y => .v (.bool (rnsame x y)))) :: (32, .p (sigV fun v => .v (.int .i64 (check v)))) ::
  (37, .p (sigVV fun v u => .v (.bool (alike v u)))) :: (30, .p (sigVV fun v u => .v (.bool (equal v u)))) :: (27, .p (sigPI fun p n => .v (.bool (has p n)))) :: (21, .p (sigPI fun p n => .v (.bool (rhas p n)))) ::
  (40, .p fun | [] => some (.v (.float .f64 9221120237041090560), []) | _ => none) :: SG2

theorem sok3 : SigsOK Try.prog SG3 := by
  refine sigs_cons (sigs_cons (sigs_cons (sigs_cons (sigs_cons (sigs_cons (sigs_cons (sigs_cons sok2 ?_) (sigPI_ok rhas_pure)) (sigPI_ok has_pure)) (sigVV_ok equal_pure)) (sigVV_ok alike_pure)) (sigV_ok check_pure)) (sigFF_ok rnsame_pure)) (sigFF_ok nsame_pure)
  intro ys r c h hc
  split at h
  · cases h; exact rnan1 trivial
  · cases h

end Go.Proofs.Pr

/- Property: walks, written by the tool. -/
set_option maxRecDepth 100000
namespace Go.Proofs.Pr
open Go Go.Ev

-- 2 paths
theorem number1 (x : Nat) (h : AllP [isnan x = true]) : PureTo Try.prog 35 [.v (.float .f64 x)] (AV.agg [AV.v (.int .i64 (3 : Int)), AV.v (.bool false), AV.v (.float FloatKind.f64 9221120237041090560), AV.v (.string (ByteArray.mk #[])), AV.v (.int .i64 (0 : Int))]) :=
  evFn_pure hm sok3 (fn := Try.f35) rfl rfl (ti := false) (hs := [CHint.ops 1 [(1, Hint.b true)]]) (c := _) (by kernel_rfl) h
theorem number2 (x : Nat) (h : AllP [isnan x = false]) : PureTo Try.prog 35 [.v (.float .f64 x)] (AV.agg [AV.v (.int .i64 (3 : Int)), AV.v (.bool false), AV.v (.float FloatKind.f64 x), AV.v (.string (ByteArray.mk #[])), AV.v (.int .i64 (0 : Int))]) :=
  evFn_pure hm sok3 (fn := Try.f35) rfl rfl (ti := false) (hs := [CHint.ops 1 [(1, Hint.b false)]]) (c := _) (by kernel_rfl) h
-- 6 paths
theorem vsame1 (v u : Val) (h : AllP [(v.k == (3 : Int)) = true, (u.k == (3 : Int)) = true, nsame v.x u.x = true]) : PureTo Try.prog 36 [.agg v.cells, .agg u.cells] (AV.v (.bool true)) :=
  evFn_pure hm sok3 (fn := Try.f36) rfl rfl (ti := false) (hs := [CHint.ops 1 [(2, Hint.b true), (6, Hint.b true)], CHint.ops 2 [(4, Hint.b true)]]) (c := _) (by kernel_rfl) h
theorem vsame2 (v u : Val) (h : AllP [(v.k == (3 : Int)) = true, (u.k == (3 : Int)) = true, nsame v.x u.x = false]) : PureTo Try.prog 36 [.agg v.cells, .agg u.cells] (AV.v (.bool false)) :=
  evFn_pure hm sok3 (fn := Try.f36) rfl rfl (ti := false) (hs := [CHint.ops 1 [(2, Hint.b true), (6, Hint.b true)], CHint.ops 2 [(4, Hint.b false)]]) (c := _) (by kernel_rfl) h
theorem vsame3 (v u : Val) (h : AllP [(v.k == (3 : Int)) = true, (u.k == (3 : Int)) = false, (v.k == u.k && (v.b == u.b && (Op.floatEq FloatKind.f64 v.x u.x && (v.s.toList == u.s.toList && (v.o == u.o && true))))) = true]) : PureTo Try.prog 36 [.agg v.cells, .agg u.cells] (AV.v (.bool true)) :=
  evFn_pure hm sok3 (fn := Try.f36) rfl rfl (ti := false) (hs := [CHint.ops 1 [(2, Hint.b true), (6, Hint.b false)], CHint.ops 3 [(2, Hint.b true)]]) (c := _) (by kernel_rfl) h
theorem vsame4 (v u : Val) (h : AllP [(v.k == (3 : Int)) = true, (u.k == (3 : Int)) = false, (v.k == u.k && (v.b == u.b && (Op.floatEq FloatKind.f64 v.x u.x && (v.s.toList == u.s.toList && (v.o == u.o && true))))) = false]) : PureTo Try.prog 36 [.agg v.cells, .agg u.cells] (AV.v (.bool false)) :=
  evFn_pure hm sok3 (fn := Try.f36) rfl rfl (ti := false) (hs := [CHint.ops 1 [(2, Hint.b true), (6, Hint.b false)], CHint.ops 3 [(2, Hint.b false)]]) (c := _) (by kernel_rfl) h
theorem vsame5 (v u : Val) (h : AllP [(v.k == (3 : Int)) = false, (v.k == u.k && (v.b == u.b && (Op.floatEq FloatKind.f64 v.x u.x && (v.s.toList == u.s.toList && (v.o == u.o && true))))) = true]) : PureTo Try.prog 36 [.agg v.cells, .agg u.cells] (AV.v (.bool true)) :=
  evFn_pure hm sok3 (fn := Try.f36) rfl rfl (ti := false) (hs := [CHint.ops 1 [(2, Hint.b false)], CHint.ops 3 [(2, Hint.b true)]]) (c := _) (by kernel_rfl) h
theorem vsame6 (v u : Val) (h : AllP [(v.k == (3 : Int)) = false, (v.k == u.k && (v.b == u.b && (Op.floatEq FloatKind.f64 v.x u.x && (v.s.toList == u.s.toList && (v.o == u.o && true))))) = false]) : PureTo Try.prog 36 [.agg v.cells, .agg u.cells] (AV.v (.bool false)) :=
  evFn_pure hm sok3 (fn := Try.f36) rfl rfl (ti := false) (hs := [CHint.ops 1 [(2, Hint.b false)], CHint.ops 3 [(2, Hint.b false)]]) (c := _) (by kernel_rfl) h
-- 4 paths
theorem rvsame1 (v u : Val) (h : AllP [(v.k == u.k) = true, alike v u = true, rnsame v.x u.x = true]) : PureTo Try.prog 38 [.agg v.cells, .agg u.cells] (AV.v (.bool true)) :=
  evFn_pure hm sok3 (fn := Try.f38) rfl rfl (ti := false) (hs := [CHint.ops 1 [(4, Hint.b true), (8, Hint.b true), (15, Hint.b true)]]) (c := _) (by kernel_rfl) h
theorem rvsame2 (v u : Val) (h : AllP [(v.k == u.k) = true, alike v u = true, rnsame v.x u.x = false]) : PureTo Try.prog 38 [.agg v.cells, .agg u.cells] (AV.v (.bool false)) :=
  evFn_pure hm sok3 (fn := Try.f38) rfl rfl (ti := false) (hs := [CHint.ops 1 [(4, Hint.b true), (8, Hint.b true), (15, Hint.b false)]]) (c := _) (by kernel_rfl) h
theorem rvsame3 (v u : Val) (h : AllP [(v.k == u.k) = true, alike v u = false]) : PureTo Try.prog 38 [.agg v.cells, .agg u.cells] (AV.v (.bool false)) :=
  evFn_pure hm sok3 (fn := Try.f38) rfl rfl (ti := false) (hs := [CHint.ops 1 [(4, Hint.b true), (8, Hint.b false)]]) (c := _) (by kernel_rfl) h
theorem rvsame4 (v u : Val) (h : AllP [(v.k == u.k) = false]) : PureTo Try.prog 38 [.agg v.cells, .agg u.cells] (AV.v (.bool false)) :=
  evFn_pure hm sok3 (fn := Try.f38) rfl rfl (ti := false) (hs := [CHint.ops 1 [(4, Hint.b false)]]) (c := _) (by kernel_rfl) h
-- 4 paths
theorem rbits1 (v u : Val) (h : AllP [(v.k == u.k) = true, alike v u = true, ((↑v.x : Int) == (↑u.x : Int)) = true]) : PureTo Try.prog 28 [.agg v.cells, .agg u.cells] (AV.v (.bool true)) :=
  evFn_pure hm sok3 (fn := Try.f28) rfl rfl (ti := false) (hs := [CHint.ops 1 [(4, Hint.b true), (8, Hint.b true), (17, Hint.b true)]]) (c := _) (by kernel_rfl) h
theorem rbits2 (v u : Val) (h : AllP [(v.k == u.k) = true, alike v u = true, ((↑v.x : Int) == (↑u.x : Int)) = false]) : PureTo Try.prog 28 [.agg v.cells, .agg u.cells] (AV.v (.bool false)) :=
  evFn_pure hm sok3 (fn := Try.f28) rfl rfl (ti := false) (hs := [CHint.ops 1 [(4, Hint.b true), (8, Hint.b true), (17, Hint.b false)]]) (c := _) (by kernel_rfl) h
theorem rbits3 (v u : Val) (h : AllP [(v.k == u.k) = true, alike v u = false]) : PureTo Try.prog 28 [.agg v.cells, .agg u.cells] (AV.v (.bool false)) :=
  evFn_pure hm sok3 (fn := Try.f28) rfl rfl (ti := false) (hs := [CHint.ops 1 [(4, Hint.b true), (8, Hint.b false)]]) (c := _) (by kernel_rfl) h
theorem rbits4 (v u : Val) (h : AllP [(v.k == u.k) = false]) : PureTo Try.prog 28 [.agg v.cells, .agg u.cells] (AV.v (.bool false)) :=
  evFn_pure hm sok3 (fn := Try.f28) rfl rfl (ti := false) (hs := [CHint.ops 1 [(4, Hint.b false)]]) (c := _) (by kernel_rfl) h
-- 3 paths
theorem zero1 (v : Val) (h : AllP [(v.k == (0 : Int)) = true, (check v == (0 : Int)) = true]) : PureTo Try.prog 31 [.agg v.cells] (AV.v (.bool true)) :=
  evFn_pure hm sok3 (fn := Try.f31) rfl rfl (ti := false) (hs := [CHint.ops 1 [(2, Hint.b true), (6, Hint.b true)]]) (c := _) (by kernel_rfl) h
theorem zero2 (v : Val) (h : AllP [(v.k == (0 : Int)) = true, (check v == (0 : Int)) = false]) : PureTo Try.prog 31 [.agg v.cells] (AV.v (.bool false)) :=
  evFn_pure hm sok3 (fn := Try.f31) rfl rfl (ti := false) (hs := [CHint.ops 1 [(2, Hint.b true), (6, Hint.b false)]]) (c := _) (by kernel_rfl) h
theorem zero3 (v : Val) (h : AllP [(v.k == (0 : Int)) = false]) : PureTo Try.prog 31 [.agg v.cells] (AV.v (.bool false)) :=
  evFn_pure hm sok3 (fn := Try.f31) rfl rfl (ti := false) (hs := [CHint.ops 1 [(2, Hint.b false)]]) (c := _) (by kernel_rfl) h
-- 4 paths
theorem call1 (v : Val) (h : AllP [(check v == (0 : Int)) = true, (v.k == (0 : Int)) = true]) : PureTo Try.prog 33 [.agg v.cells] (AV.v (.bool true)) :=
  evFn_pure hm sok3 (fn := Try.f33) rfl rfl (ti := false) (hs := [CHint.ops 1 [(2, Hint.b true), (6, Hint.b true)]]) (c := _) (by kernel_rfl) h
theorem call2 (v : Val) (h : AllP [(check v == (0 : Int)) = true, (v.k == (0 : Int)) = false, (v.k == (5 : Int)) = true]) : PureTo Try.prog 33 [.agg v.cells] (AV.v (.bool true)) :=
  evFn_pure hm sok3 (fn := Try.f33) rfl rfl (ti := false) (hs := [CHint.ops 1 [(2, Hint.b true), (6, Hint.b false), (10, Hint.b true)]]) (c := _) (by kernel_rfl) h
theorem call3 (v : Val) (h : AllP [(check v == (0 : Int)) = true, (v.k == (0 : Int)) = false, (v.k == (5 : Int)) = false]) : PureTo Try.prog 33 [.agg v.cells] (AV.v (.bool false)) :=
  evFn_pure hm sok3 (fn := Try.f33) rfl rfl (ti := false) (hs := [CHint.ops 1 [(2, Hint.b true), (6, Hint.b false), (10, Hint.b false)]]) (c := _) (by kernel_rfl) h
theorem call4 (v : Val) (h : AllP [(check v == (0 : Int)) = false]) : PureTo Try.prog 33 [.agg v.cells] (AV.v (.bool false)) :=
  evFn_pure hm sok3 (fn := Try.f33) rfl rfl (ti := false) (hs := [CHint.ops 1 [(2, Hint.b false)]]) (c := _) (by kernel_rfl) h
-- 2 paths
theorem accessor1 (p : PropV) (h : AllP [has p (6 : Int) = true]) : PureTo Try.prog 16 [.agg p.cells] (AV.v (.bool true)) :=
  evFn_pure hm sok3 (fn := Try.f16) rfl rfl (ti := false) (hs := [CHint.ops 1 [(1, Hint.b true)]]) (c := _) (by kernel_rfl) h
theorem accessor2 (p : PropV) (h : AllP [has p (6 : Int) = false]) : PureTo Try.prog 16 [.agg p.cells] (AV.v (.bool false)) :=
  evFn_pure hm sok3 (fn := Try.f16) rfl rfl (ti := false) (hs := [CHint.ops 1 [(1, Hint.b false)]]) (c := _) (by kernel_rfl) h
-- 2 paths
theorem data1 (p : PropV) (h : AllP [has p (9 : Int) = true]) : PureTo Try.prog 18 [.agg p.cells] (AV.v (.bool true)) :=
  evFn_pure hm sok3 (fn := Try.f18) rfl rfl (ti := false) (hs := [CHint.ops 1 [(1, Hint.b true)]]) (c := _) (by kernel_rfl) h
theorem data2 (p : PropV) (h : AllP [has p (9 : Int) = false]) : PureTo Try.prog 18 [.agg p.cells] (AV.v (.bool false)) :=
  evFn_pure hm sok3 (fn := Try.f18) rfl rfl (ti := false) (hs := [CHint.ops 1 [(1, Hint.b false)]]) (c := _) (by kernel_rfl) h
-- 2 paths
theorem raccessor1 (p : PropV) (h : AllP [rhas p (6 : Int) = true]) : PureTo Try.prog 17 [.agg p.cells] (AV.v (.bool true)) :=
  evFn_pure hm sok3 (fn := Try.f17) rfl rfl (ti := false) (hs := [CHint.ops 1 [(1, Hint.b true)]]) (c := _) (by kernel_rfl) h
theorem raccessor2 (p : PropV) (h : AllP [rhas p (6 : Int) = false]) : PureTo Try.prog 17 [.agg p.cells] (AV.v (.bool false)) :=
  evFn_pure hm sok3 (fn := Try.f17) rfl rfl (ti := false) (hs := [CHint.ops 1 [(1, Hint.b false)]]) (c := _) (by kernel_rfl) h
-- 2 paths
theorem rdata1 (p : PropV) (h : AllP [rhas p (9 : Int) = true]) : PureTo Try.prog 19 [.agg p.cells] (AV.v (.bool true)) :=
  evFn_pure hm sok3 (fn := Try.f19) rfl rfl (ti := false) (hs := [CHint.ops 1 [(1, Hint.b true)]]) (c := _) (by kernel_rfl) h
theorem rdata2 (p : PropV) (h : AllP [rhas p (9 : Int) = false]) : PureTo Try.prog 19 [.agg p.cells] (AV.v (.bool false)) :=
  evFn_pure hm sok3 (fn := Try.f19) rfl rfl (ti := false) (hs := [CHint.ops 1 [(1, Hint.b false)]]) (c := _) (by kernel_rfl) h
end Go.Proofs.Pr

/- Property: contracts of values' functions, continued. -/
set_option maxRecDepth 100000
namespace Go.Proofs.Pr
open Go Go.Ev

def vsame (v u : Val) : Bool := bif (v.k == (3 : Int)) then (bif (u.k == (3 : Int)) then (bif nsame v.x u.x then (true) else (false)) else (bif (v.k == u.k && (v.b == u.b && (Op.floatEq FloatKind.f64 v.x u.x && (v.s.toList == u.s.toList && (v.o == u.o && true))))) then (true) else (false))) else (bif (v.k == u.k && (v.b == u.b && (Op.floatEq FloatKind.f64 v.x u.x && (v.s.toList == u.s.toList && (v.o == u.o && true))))) then (true) else (false))

theorem vsame_pure (v u : Val) : PureTo Try.prog 36 [.agg v.cells, .agg u.cells] (.v (.bool (vsame v u))) := by
  unfold vsame
  cases h1 : (v.k == (3 : Int)) with
  | true =>
    cases h2 : (u.k == (3 : Int)) with
    | true =>
      cases h3 : nsame v.x u.x with
      | true =>
        exact vsame1 v u ⟨h1, h2, h3, trivial⟩
      | false =>
        exact vsame2 v u ⟨h1, h2, h3, trivial⟩
    | false =>
      cases h4 : (v.k == u.k && (v.b == u.b && (Op.floatEq FloatKind.f64 v.x u.x && (v.s.toList == u.s.toList && (v.o == u.o && true))))) with
      | true =>
        exact vsame3 v u ⟨h1, h2, h4, trivial⟩
      | false =>
        exact vsame4 v u ⟨h1, h2, h4, trivial⟩
  | false =>
    cases h5 : (v.k == u.k && (v.b == u.b && (Op.floatEq FloatKind.f64 v.x u.x && (v.s.toList == u.s.toList && (v.o == u.o && true))))) with
    | true =>
      exact vsame5 v u ⟨h1, h5, trivial⟩
    | false =>
      exact vsame6 v u ⟨h1, h5, trivial⟩

def rvsame (v u : Val) : Bool := bif (v.k == u.k) then (bif alike v u then (bif rnsame v.x u.x then (true) else (false)) else (false)) else (false)

theorem rvsame_pure (v u : Val) : PureTo Try.prog 38 [.agg v.cells, .agg u.cells] (.v (.bool (rvsame v u))) := by
  unfold rvsame
  cases h1 : (v.k == u.k) with
  | true =>
    cases h2 : alike v u with
    | true =>
      cases h3 : rnsame v.x u.x with
      | true =>
        exact rvsame1 v u ⟨h1, h2, h3, trivial⟩
      | false =>
        exact rvsame2 v u ⟨h1, h2, h3, trivial⟩
    | false =>
      exact rvsame3 v u ⟨h1, h2, trivial⟩
  | false =>
    exact rvsame4 v u ⟨h1, trivial⟩

def rbits (v u : Val) : Bool := bif (v.k == u.k) then (bif alike v u then (bif ((↑v.x : Int) == (↑u.x : Int)) then (true) else (false)) else (false)) else (false)

theorem rbits_pure (v u : Val) : PureTo Try.prog 28 [.agg v.cells, .agg u.cells] (.v (.bool (rbits v u))) := by
  unfold rbits
  cases h1 : (v.k == u.k) with
  | true =>
    cases h2 : alike v u with
    | true =>
      cases h3 : ((↑v.x : Int) == (↑u.x : Int)) with
      | true =>
        exact rbits1 v u ⟨h1, h2, h3, trivial⟩
      | false =>
        exact rbits2 v u ⟨h1, h2, h3, trivial⟩
    | false =>
      exact rbits3 v u ⟨h1, h2, trivial⟩
  | false =>
    exact rbits4 v u ⟨h1, trivial⟩

def zero (v : Val) : Bool := bif (v.k == (0 : Int)) then (bif (check v == (0 : Int)) then (true) else (false)) else (false)

theorem zero_pure (v : Val) : PureTo Try.prog 31 [.agg v.cells] (.v (.bool (zero v))) := by
  unfold zero
  cases h1 : (v.k == (0 : Int)) with
  | true =>
    cases h2 : (check v == (0 : Int)) with
    | true =>
      exact zero1 v ⟨h1, h2, trivial⟩
    | false =>
      exact zero2 v ⟨h1, h2, trivial⟩
  | false =>
    exact zero3 v ⟨h1, trivial⟩

def accessor (p : PropV) : Bool := bif has p (6 : Int) then (true) else (false)

theorem accessor_pure (p : PropV) : PureTo Try.prog 16 [.agg p.cells] (.v (.bool (accessor p))) := by
  unfold accessor
  cases h1 : has p (6 : Int) with
  | true =>
    exact accessor1 p ⟨h1, trivial⟩
  | false =>
    exact accessor2 p ⟨h1, trivial⟩

def data (p : PropV) : Bool := bif has p (9 : Int) then (true) else (false)

theorem data_pure (p : PropV) : PureTo Try.prog 18 [.agg p.cells] (.v (.bool (data p))) := by
  unfold data
  cases h1 : has p (9 : Int) with
  | true =>
    exact data1 p ⟨h1, trivial⟩
  | false =>
    exact data2 p ⟨h1, trivial⟩

def raccessor (p : PropV) : Bool := bif rhas p (6 : Int) then (true) else (false)

theorem raccessor_pure (p : PropV) : PureTo Try.prog 17 [.agg p.cells] (.v (.bool (raccessor p))) := by
  unfold raccessor
  cases h1 : rhas p (6 : Int) with
  | true =>
    exact raccessor1 p ⟨h1, trivial⟩
  | false =>
    exact raccessor2 p ⟨h1, trivial⟩

def rdata (p : PropV) : Bool := bif rhas p (9 : Int) then (true) else (false)

theorem rdata_pure (p : PropV) : PureTo Try.prog 19 [.agg p.cells] (.v (.bool (rdata p))) := by
  unfold rdata
  cases h1 : rhas p (9 : Int) with
  | true =>
    exact rdata1 p ⟨h1, trivial⟩
  | false =>
    exact rdata2 p ⟨h1, trivial⟩

def call (v : Val) : Bool := bif (check v == (0 : Int)) then (bif (v.k == (0 : Int)) then (true) else (bif (v.k == (5 : Int)) then (true) else (false))) else (false)

theorem call_pure (v : Val) : PureTo Try.prog 33 [.agg v.cells] (.v (.bool (call v))) := by
  unfold call
  cases h1 : (check v == (0 : Int)) with
  | true =>
    cases h2 : (v.k == (0 : Int)) with
    | true =>
      exact call1 v ⟨h1, h2, trivial⟩
    | false =>
      cases h3 : (v.k == (5 : Int)) with
      | true =>
        exact call2 v ⟨h1, h2, h3, trivial⟩
      | false =>
        exact call3 v ⟨h1, h2, h3, trivial⟩
  | false =>
    exact call4 v ⟨h1, trivial⟩


def told (x : Nat) : Nat := bif isnan x then 9221120237041090560 else x

theorem number_pure (x : Nat) : PureTo Try.prog 35 [.v (.float .f64 x)] (.agg [.v (.int .i64 3), .v (.bool false), .v (.float .f64 (told x)), .v (.string (ByteArray.mk #[])), .v (.int .i64 0)]) := by
  unfold told
  cases h : isnan x with
  | true => exact number1 x ⟨h, trivial⟩
  | false => exact number2 x ⟨h, trivial⟩

end Go.Proofs.Pr

/- Property: contracts over values, in the table. -/
set_option maxRecDepth 100000
namespace Go.Proofs.Pr
open Go Go.Ev

def sigNumber : List AV → Option (AV × List Prop)
  | [.v (.float .f64 x)] => some (.agg [.v (.int .i64 3), .v (.bool false), .v (.float .f64 (told x)), .v (.string (ByteArray.mk #[])), .v (.int .i64 0)], [])
  | _ => none

def SG4 : SGT := (36, .p (sigVV fun v u => .v (.bool (vsame v u)))) :: (38, .p (sigVV fun v u => .v (.bool (rvsame v u)))) :: (28, .p (sigVV fun v u => .v (.bool (rbits v u)))) ::
  (31, .p (sigV fun v => .v (.bool (zero v)))) :: (33, .p (sigV fun v => .v (.bool (call v)))) :: (16, .p (sigP fun p => .v (.bool (accessor p)))) :: (18, .p (sigP fun p => .v (.bool (data p)))) ::
  (17, .p (sigP fun p => .v (.bool (raccessor p)))) :: (19, .p (sigP fun p => .v (.bool (rdata p)))) :: (35, .p sigNumber) :: SG3

theorem sok4 : SigsOK Try.prog SG4 := by
  refine sigs_cons (sigs_cons (sigs_cons (sigs_cons (sigs_cons (sigs_cons (sigs_cons (sigs_cons (sigs_cons (sigs_cons sok3 ?_) (sigP_ok rdata_pure)) (sigP_ok raccessor_pure)) (sigP_ok data_pure)) (sigP_ok accessor_pure)) (sigV_ok call_pure)) (sigV_ok zero_pure)) (sigVV_ok rbits_pure)) (sigVV_ok rvsame_pure)) (sigVV_ok vsame_pure)
  intro ys r c h hc
  unfold sigNumber at h
  split at h
  · cases h; exact number_pure _
  · cases h

end Go.Proofs.Pr
