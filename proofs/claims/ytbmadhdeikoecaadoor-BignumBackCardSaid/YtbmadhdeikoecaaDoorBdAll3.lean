/- Contracts of the program's functions, and the plain law behind them. No condition beyond those in each statement. -/
import Derived.Test.YtbmadhdeikoecaaDoorBdAll2
set_option linter.unusedSimpArgs false
set_option linter.unusedVariables false
set_option linter.unusedSectionVars false
/- Contracts of functions, taken over from another seat; no condition beyond those in each statement. -/
set_option maxRecDepth 100000
namespace Go.Proofs.Bd
open Go Go.Ev Bn

theorem digitF9 (c : Int) (h : AllP [decide (c ≥ (48 : Int)) = false, decide (c ≥ (97 : Int)) = true, decide (c ≤ (122 : Int)) = true, inR IntKind.i64 ((c - (97 : Int)) % (256 : Int)), inR IntKind.i64 ((c - (97 : Int)) % (256 : Int) + (10 : Int))]) : PureTo Tryd.prog 34 [.v (.int .u8 c)] (AV.v (.int .i64 ((c - (97 : Int)) % (256 : Int) + (10 : Int)))) :=
  evFn_pure hm sok14 (fn := Tryd.f34) rfl rfl (ti := false) (hs := [CHint.ops 1 [(1, Hint.b false)], CHint.ops 3 [(1, Hint.b true), (4, Hint.b true)], CHint.ops 4 [(1, Hint.wrap)]]) (c := _) (by kernel_rfl) h

theorem digitF10 (c : Int) (h : AllP [decide (c ≥ (48 : Int)) = false, decide (c ≥ (97 : Int)) = true, decide (c ≤ (122 : Int)) = false, decide (c ≥ (65 : Int)) = true, decide (c ≤ (90 : Int)) = true, inR IntKind.i64 ((c - (65 : Int)) % (256 : Int)), inR IntKind.i64 ((c - (65 : Int)) % (256 : Int) + (10 : Int))]) : PureTo Tryd.prog 34 [.v (.int .u8 c)] (AV.v (.int .i64 ((c - (65 : Int)) % (256 : Int) + (10 : Int)))) :=
  evFn_pure hm sok14 (fn := Tryd.f34) rfl rfl (ti := false) (hs := [CHint.ops 1 [(1, Hint.b false)], CHint.ops 3 [(1, Hint.b true), (4, Hint.b false)], CHint.ops 5 [(1, Hint.b true), (4, Hint.b true)], CHint.ops 6 [(1, Hint.wrap)]]) (c := _) (by kernel_rfl) h

theorem digitF11 (c : Int) (h : AllP [decide (c ≥ (48 : Int)) = false, decide (c ≥ (97 : Int)) = true, decide (c ≤ (122 : Int)) = false, decide (c ≥ (65 : Int)) = true, decide (c ≤ (90 : Int)) = false]) : PureTo Tryd.prog 34 [.v (.int .u8 c)] (AV.v (.int .i64 (99 : Int))) :=
  evFn_pure hm sok14 (fn := Tryd.f34) rfl rfl (ti := false) (hs := [CHint.ops 1 [(1, Hint.b false)], CHint.ops 3 [(1, Hint.b true), (4, Hint.b false)], CHint.ops 5 [(1, Hint.b true), (4, Hint.b false)]]) (c := _) (by kernel_rfl) h

theorem digitF12 (c : Int) (h : AllP [decide (c ≥ (48 : Int)) = false, decide (c ≥ (97 : Int)) = true, decide (c ≤ (122 : Int)) = false, decide (c ≥ (65 : Int)) = false]) : PureTo Tryd.prog 34 [.v (.int .u8 c)] (AV.v (.int .i64 (99 : Int))) :=
  evFn_pure hm sok14 (fn := Tryd.f34) rfl rfl (ti := false) (hs := [CHint.ops 1 [(1, Hint.b false)], CHint.ops 3 [(1, Hint.b true), (4, Hint.b false)], CHint.ops 5 [(1, Hint.b false)]]) (c := _) (by kernel_rfl) h

theorem digitF13 (c : Int) (h : AllP [decide (c ≥ (48 : Int)) = false, decide (c ≥ (97 : Int)) = false, decide (c ≥ (65 : Int)) = true, decide (c ≤ (90 : Int)) = true, inR IntKind.i64 ((c - (65 : Int)) % (256 : Int)), inR IntKind.i64 ((c - (65 : Int)) % (256 : Int) + (10 : Int))]) : PureTo Tryd.prog 34 [.v (.int .u8 c)] (AV.v (.int .i64 ((c - (65 : Int)) % (256 : Int) + (10 : Int)))) :=
  evFn_pure hm sok14 (fn := Tryd.f34) rfl rfl (ti := false) (hs := [CHint.ops 1 [(1, Hint.b false)], CHint.ops 3 [(1, Hint.b false)], CHint.ops 5 [(1, Hint.b true), (4, Hint.b true)], CHint.ops 6 [(1, Hint.wrap)]]) (c := _) (by kernel_rfl) h

theorem digitF14 (c : Int) (h : AllP [decide (c ≥ (48 : Int)) = false, decide (c ≥ (97 : Int)) = false, decide (c ≥ (65 : Int)) = true, decide (c ≤ (90 : Int)) = false]) : PureTo Tryd.prog 34 [.v (.int .u8 c)] (AV.v (.int .i64 (99 : Int))) :=
  evFn_pure hm sok14 (fn := Tryd.f34) rfl rfl (ti := false) (hs := [CHint.ops 1 [(1, Hint.b false)], CHint.ops 3 [(1, Hint.b false)], CHint.ops 5 [(1, Hint.b true), (4, Hint.b false)]]) (c := _) (by kernel_rfl) h

theorem digitF15 (c : Int) (h : AllP [decide (c ≥ (48 : Int)) = false, decide (c ≥ (97 : Int)) = false, decide (c ≥ (65 : Int)) = false]) : PureTo Tryd.prog 34 [.v (.int .u8 c)] (AV.v (.int .i64 (99 : Int))) :=
  evFn_pure hm sok14 (fn := Tryd.f34) rfl rfl (ti := false) (hs := [CHint.ops 1 [(1, Hint.b false)], CHint.ops 3 [(1, Hint.b false)], CHint.ops 5 [(1, Hint.b false)]]) (c := _) (by kernel_rfl) h
-- 15 paths

theorem smallL0_1 (a : List Int) (ta : Bool) (d : Int) (x0 : Int) (x1 : Int) (l0 : List Int) (n0 : Nat) (n1 : Nat) (h : AllP [decide (x1 ≥ (0 : Int)) = true, (0 : Int) ≤ (32 : Int), inR IntKind.u64 (x0 * (4294967296 : Int)), (0 : Int) ≤ x1 ∧ x1 < (↑a.length : Int), inR IntKind.u64 (a.getD x1.toNat (0 : Int)), inR IntKind.u64 d, d ≠ (0 : Int), inR IntKind.u64 ((bitsOf BinOp.or IntKind.u64 (x0 * (4294967296 : Int)) (a.getD x1.toNat (0 : Int))).tdiv d), (0 : Int) ≤ x1 ∧ x1 < (↑n1 : Int), n1 = l0.length, inR IntKind.u64 d, d ≠ (0 : Int), inR IntKind.i64 (x1 - (1 : Int))]) : To Tryd.prog (loopAt Tryd.f32 0) ({ n := 44, fr := [(0, AV.sl 1 (.ints .u32 a) ta), (1, AV.v (.int .u32 d)), (6, AV.row 4 0 n1 n1 false), (7, AV.v (.int .u64 x0)), (8, AV.v (.int .i64 x1))], hp := [(4, AObj.row 54 1 (.ints .u32 l0) n0)], nx := 5 }) (.normal) { n := 44, fr := [(0, AV.sl 1 (.ints .u32 a) ta), (1, AV.v (.int .u32 d)), (6, AV.row 4 0 n1 n1 false), (7, AV.v (.int .u64 ((bitsOf BinOp.or IntKind.u64 (x0 * (4294967296 : Int)) (a.getD x1.toNat (0 : Int))).tmod d))), (8, AV.v (.int .i64 (x1 - (1 : Int))))], hp := [(4, AObj.row 54 1 (.ints .u32 (l0.set (ixPlus 0 x1.toNat) ((bitsOf BinOp.or IntKind.u64 (x0 * (4294967296 : Int)) (a.getD x1.toNat (0 : Int))).tdiv d % (4294967296 : Int)))) l0.length)], nx := 5 } :=
  evW_to hm sok14 (hs := [CHint.ops 4 [(1, Hint.b true)]]) (slots := [0, 1, 6, 7, 8]) (keys := [4]) (nx := 5) (c := _) (by kernel_rfl) h

theorem smallL0_2 (a : List Int) (ta : Bool) (d : Int) (x0 : Int) (x1 : Int) (l0 : List Int) (n0 : Nat) (n1 : Nat) (h : AllP [decide (x1 ≥ (0 : Int)) = false]) : To Tryd.prog (loopAt Tryd.f32 0) ({ n := 44, fr := [(0, AV.sl 1 (.ints .u32 a) ta), (1, AV.v (.int .u32 d)), (6, AV.row 4 0 n1 n1 false), (7, AV.v (.int .u64 x0)), (8, AV.v (.int .i64 x1))], hp := [(4, AObj.row 54 1 (.ints .u32 l0) n0)], nx := 5 }) (Exit.exit 0) { n := 44, fr := [(6, AV.row 4 0 n1 n1 false), (7, AV.v (.int .u64 x0))], hp := [(4, AObj.row 54 1 (.ints .u32 l0) n0)], nx := 5 } :=
  evW_to hm sok14 (hs := [CHint.ops 4 [(1, Hint.b false)]]) (slots := [6, 7]) (keys := [4]) (nx := 5) (c := _) (by kernel_rfl) h
-- 1 paths

theorem smallF1 (a : List Int) (ta : Bool) (d : Int) (x2 : Int) (l1 : List Int) (n2 : Nat) (n3 : Nat) (h : AllP [(0 : Int) ≤ (↑a.length : Int) ∧ (↑a.length : Int) ≤ (↑a.length : Int), (↑a.length : Int) * (4 : Int) ≤ (281474976710656 : Int) ∧ (↑a.length : Int) ≤ (9223372036854775807 : Int), inR IntKind.i64 ((↑a.length : Int) - (1 : Int)), LoopTo Tryd.prog (loopAt Tryd.f32 0) { n := 44, fr := [(0, AV.sl 1 (.ints .u32 a) ta), (1, AV.v (.int .u32 d)), (6, AV.row 4 0 (↑a.length : Int).toNat (↑a.length : Int).toNat false), (7, AV.v (.int .u64 (0 : Int))), (8, AV.v (.int .i64 ((↑a.length : Int) - (1 : Int))))], hp := [(4, AObj.row 54 1 (.ints .u32 (List.replicate (↑a.length : Int).toNat (0 : Int))) 0)], nx := 5 } (Exit.exit 0) { n := 44, fr := [(6, AV.row 4 0 n3 n3 false), (7, AV.v (.int .u64 x2))], hp := [(4, AObj.row 54 1 (.ints .u32 l1) n2)], nx := 5 }, n3 = l1.length, n2 ≤ n3, l1.length < lim]) : PureTo Tryd.prog 32 [.sl 1 (.ints .u32 a) ta, .v (.int .u32 d)] (AV.tup [AV.sl 1 (.ints .u32 (norm l1)) false, AV.v (.int .u32 (x2 % (4294967296 : Int)))]) :=
  evFn_pure hm sok14 (fn := Tryd.f32) rfl rfl (ti := false) (hs := [CHint.loop [0, 1, 6, 7, 8] [4] 5 (Exit.exit 0) { n := 44, fr := [(6, AV.row 4 0 n3 n3 false), (7, AV.v (.int .u64 x2))], hp := [(4, AObj.row (54 : TypeId) 1 (.ints .u32 l1) n2)], nx := 5 }]) (c := _) (by kernel_rfl) h
-- 2 paths

theorem revL0_1 (l : List Int) (fl n : Nat) (t : Bool) (x0 : Int) (x1 : Int) (l0 : List Int) (n0 : Nat) (h : AllP [decide (x0 < x1) = true, (0 : Int) ≤ x1 ∧ x1 < (↑n : Int), n0 ≤ n, (0 : Int) ≤ x0 ∧ x0 < (↑n : Int), n0 ≤ n, (0 : Int) ≤ x0 ∧ x0 < (↑n : Int), n = l0.length, (0 : Int) ≤ x1 ∧ x1 < (↑n : Int), n = (l0.set (ixPlus 0 x0.toNat) (l0.getD (ixPlus 0 x1.toNat) (0 : Int))).length, inR IntKind.i64 (x0 + (1 : Int)), inR IntKind.i64 (x1 - (1 : Int))]) : To Tryd.prog (loopAt Tryd.f33 0) ({ n := 28, fr := [(0, AV.row 4294967296 0 n n t), (2, AV.v (.int .i64 x0)), (3, AV.v (.int .i64 x1))], hp := [(4294967296, AObj.row 5 1 (.ints .u8 l0) n0)], nx := 0 }) (.normal) { n := 28, fr := [(0, AV.row 4294967296 0 n n t), (2, AV.v (.int .i64 (x0 + (1 : Int)))), (3, AV.v (.int .i64 (x1 - (1 : Int))))], hp := [(4294967296, AObj.row 5 1 (.ints .u8 ((l0.set (ixPlus 0 x0.toNat) (l0.getD (ixPlus 0 x1.toNat) (0 : Int))).set (ixPlus 0 x1.toNat) (l0.getD (ixPlus 0 x0.toNat) (0 : Int)))) (l0.set (ixPlus 0 x0.toNat) (l0.getD (ixPlus 0 x1.toNat) (0 : Int))).length)], nx := 0 } :=
  evW_to hm sok14 (hs := [CHint.ops 1 [(2, Hint.b true)]]) (slots := [0, 2, 3]) (keys := [4294967296]) (nx := 0) (c := _) (by kernel_rfl) h

theorem revL0_2 (l : List Int) (fl n : Nat) (t : Bool) (x0 : Int) (x1 : Int) (l0 : List Int) (n0 : Nat) (h : AllP [decide (x0 < x1) = false]) : To Tryd.prog (loopAt Tryd.f33 0) ({ n := 28, fr := [(0, AV.row 4294967296 0 n n t), (2, AV.v (.int .i64 x0)), (3, AV.v (.int .i64 x1))], hp := [(4294967296, AObj.row 5 1 (.ints .u8 l0) n0)], nx := 0 }) (Exit.exit 0) { n := 28, fr := [], hp := [(4294967296, AObj.row 5 1 (.ints .u8 l0) n0)], nx := 0 } :=
  evW_to hm sok14 (hs := [CHint.ops 1 [(2, Hint.b false)]]) (slots := []) (keys := [4294967296]) (nx := 0) (c := _) (by kernel_rfl) h
-- 1 paths

theorem revF1 (l : List Int) (fl n : Nat) (t : Bool) (l1 : List Int) (n1 : Nat) (h : AllP [inR IntKind.i64 ((↑n : Int) - (1 : Int)), LoopTo Tryd.prog (loopAt Tryd.f33 0) { n := 28, fr := [(0, AV.row 4294967296 0 n n t), (2, AV.v (.int .i64 (0 : Int))), (3, AV.v (.int .i64 ((↑n : Int) - (1 : Int))))], hp := [(4294967296, AObj.row 5 1 (.ints .u8 l) fl)], nx := 0 } (Exit.exit 0) { n := 28, fr := [], hp := [(4294967296, AObj.row 5 1 (.ints .u8 l1) n1)], nx := 0 }]) : SharedTo Tryd.prog 33 [.row 5 1 (.ints .u8 l) fl] [.row rsv 0 n n t] (AV.tup []) [AObj.row 5 1 (.ints .u8 l1) n1] :=
  evFn_shared hm sok14 (fn := Tryd.f33) rfl rfl (ti := false) (ex := []) (hs := [CHint.loop [0, 2, 3] [4294967296] 0 (Exit.exit 0) { n := 28, fr := [], hp := [(4294967296, AObj.row (5 : TypeId) 1 (.ints .u8 l1) n1)], nx := 0 }]) (c := _) (by kernel_rfl) h

/-- a byte's worth as a digit -/
def dg (c : Int) : Int := if 48 ≤ c ∧ c ≤ 57 then c - 48 else if 97 ≤ c ∧ c ≤ 122 then c - 87 else if 65 ≤ c ∧ c ≤ 90 then c - 55 else 99

theorem pure_as {p : Program} {i : FuncId} {a : List AV} {v w : AV} (e : v = w) (h : PureTo p i a v) : PureTo p i a w := e ▸ h

theorem digit_pure (c : Int) (h0 : 0 ≤ c) (h1 : c < 256) : PureTo Tryd.prog 34 [.v (.int .u8 c)] (.v (.int .i64 (dg c))) := by
  by_cases a1 : c ≥ 48 <;> by_cases a2 : c ≤ 57 <;> by_cases a3 : c ≥ 97 <;> by_cases a4 : c ≤ 122 <;> by_cases a5 : c ≥ 65 <;> by_cases a6 : c ≤ 90 <;> first
    | (exfalso; omega)
    | (refine pure_as (congrArg (fun z => AV.v (.int .i64 z)) ?_) (digitF1 c ?_); (focus (unfold dg; (repeat' split) <;> omega)); (focus (simp only [AllP, inR, decide_eq_false_iff_not, decide_eq_true_eq, bne_iff_ne, beq_iff_eq, ne_eq, bne_eq_false_iff_eq, beq_eq_false_iff_ne]; (repeat' apply And.intro) <;> first | omega | exact trivial)))
    | (refine pure_as (congrArg (fun z => AV.v (.int .i64 z)) ?_) (digitF2 c ?_); (focus (unfold dg; (repeat' split) <;> omega)); (focus (simp only [AllP, inR, decide_eq_false_iff_not, decide_eq_true_eq, bne_iff_ne, beq_iff_eq, ne_eq, bne_eq_false_iff_eq, beq_eq_false_iff_ne]; (repeat' apply And.intro) <;> first | omega | exact trivial)))
    | (refine pure_as (congrArg (fun z => AV.v (.int .i64 z)) ?_) (digitF3 c ?_); (focus (unfold dg; (repeat' split) <;> omega)); (focus (simp only [AllP, inR, decide_eq_false_iff_not, decide_eq_true_eq, bne_iff_ne, beq_iff_eq, ne_eq, bne_eq_false_iff_eq, beq_eq_false_iff_ne]; (repeat' apply And.intro) <;> first | omega | exact trivial)))
    | (refine pure_as (congrArg (fun z => AV.v (.int .i64 z)) ?_) (digitF4 c ?_); (focus (unfold dg; (repeat' split) <;> omega)); (focus (simp only [AllP, inR, decide_eq_false_iff_not, decide_eq_true_eq, bne_iff_ne, beq_iff_eq, ne_eq, bne_eq_false_iff_eq, beq_eq_false_iff_ne]; (repeat' apply And.intro) <;> first | omega | exact trivial)))
    | (refine pure_as (congrArg (fun z => AV.v (.int .i64 z)) ?_) (digitF5 c ?_); (focus (unfold dg; (repeat' split) <;> omega)); (focus (simp only [AllP, inR, decide_eq_false_iff_not, decide_eq_true_eq, bne_iff_ne, beq_iff_eq, ne_eq, bne_eq_false_iff_eq, beq_eq_false_iff_ne]; (repeat' apply And.intro) <;> first | omega | exact trivial)))
    | (refine pure_as (congrArg (fun z => AV.v (.int .i64 z)) ?_) (digitF6 c ?_); (focus (unfold dg; (repeat' split) <;> omega)); (focus (simp only [AllP, inR, decide_eq_false_iff_not, decide_eq_true_eq, bne_iff_ne, beq_iff_eq, ne_eq, bne_eq_false_iff_eq, beq_eq_false_iff_ne]; (repeat' apply And.intro) <;> first | omega | exact trivial)))
    | (refine pure_as (congrArg (fun z => AV.v (.int .i64 z)) ?_) (digitF7 c ?_); (focus (unfold dg; (repeat' split) <;> omega)); (focus (simp only [AllP, inR, decide_eq_false_iff_not, decide_eq_true_eq, bne_iff_ne, beq_iff_eq, ne_eq, bne_eq_false_iff_eq, beq_eq_false_iff_ne]; (repeat' apply And.intro) <;> first | omega | exact trivial)))
    | (refine pure_as (congrArg (fun z => AV.v (.int .i64 z)) ?_) (digitF8 c ?_); (focus (unfold dg; (repeat' split) <;> omega)); (focus (simp only [AllP, inR, decide_eq_false_iff_not, decide_eq_true_eq, bne_iff_ne, beq_iff_eq, ne_eq, bne_eq_false_iff_eq, beq_eq_false_iff_ne]; (repeat' apply And.intro) <;> first | omega | exact trivial)))
    | (refine pure_as (congrArg (fun z => AV.v (.int .i64 z)) ?_) (digitF9 c ?_); (focus (unfold dg; (repeat' split) <;> omega)); (focus (simp only [AllP, inR, decide_eq_false_iff_not, decide_eq_true_eq, bne_iff_ne, beq_iff_eq, ne_eq, bne_eq_false_iff_eq, beq_eq_false_iff_ne]; (repeat' apply And.intro) <;> first | omega | exact trivial)))
    | (refine pure_as (congrArg (fun z => AV.v (.int .i64 z)) ?_) (digitF10 c ?_); (focus (unfold dg; (repeat' split) <;> omega)); (focus (simp only [AllP, inR, decide_eq_false_iff_not, decide_eq_true_eq, bne_iff_ne, beq_iff_eq, ne_eq, bne_eq_false_iff_eq, beq_eq_false_iff_ne]; (repeat' apply And.intro) <;> first | omega | exact trivial)))
    | (refine pure_as (congrArg (fun z => AV.v (.int .i64 z)) ?_) (digitF11 c ?_); (focus (unfold dg; (repeat' split) <;> omega)); (focus (simp only [AllP, inR, decide_eq_false_iff_not, decide_eq_true_eq, bne_iff_ne, beq_iff_eq, ne_eq, bne_eq_false_iff_eq, beq_eq_false_iff_ne]; (repeat' apply And.intro) <;> first | omega | exact trivial)))
    | (refine pure_as (congrArg (fun z => AV.v (.int .i64 z)) ?_) (digitF12 c ?_); (focus (unfold dg; (repeat' split) <;> omega)); (focus (simp only [AllP, inR, decide_eq_false_iff_not, decide_eq_true_eq, bne_iff_ne, beq_iff_eq, ne_eq, bne_eq_false_iff_eq, beq_eq_false_iff_ne]; (repeat' apply And.intro) <;> first | omega | exact trivial)))
    | (refine pure_as (congrArg (fun z => AV.v (.int .i64 z)) ?_) (digitF13 c ?_); (focus (unfold dg; (repeat' split) <;> omega)); (focus (simp only [AllP, inR, decide_eq_false_iff_not, decide_eq_true_eq, bne_iff_ne, beq_iff_eq, ne_eq, bne_eq_false_iff_eq, beq_eq_false_iff_ne]; (repeat' apply And.intro) <;> first | omega | exact trivial)))
    | (refine pure_as (congrArg (fun z => AV.v (.int .i64 z)) ?_) (digitF14 c ?_); (focus (unfold dg; (repeat' split) <;> omega)); (focus (simp only [AllP, inR, decide_eq_false_iff_not, decide_eq_true_eq, bne_iff_ne, beq_iff_eq, ne_eq, bne_eq_false_iff_eq, beq_eq_false_iff_ne]; (repeat' apply And.intro) <;> first | omega | exact trivial)))
    | (refine pure_as (congrArg (fun z => AV.v (.int .i64 z)) ?_) (digitF15 c ?_); (focus (unfold dg; (repeat' split) <;> omega)); (focus (simp only [AllP, inR, decide_eq_false_iff_not, decide_eq_true_eq, bne_iff_ne, beq_iff_eq, ne_eq, bne_eq_false_iff_eq, beq_eq_false_iff_ne]; (repeat' apply And.intro) <;> first | omega | exact trivial)))

/-- one word of a quotient by one word -/
theorem small_word {x d rest : Int} (hd : 0 < d ∧ d < 4294967296) (hx : 0 ≤ x ∧ x < 4294967296) (hr : 0 ≤ rest ∧ rest < d) :
    bitsOf .or .u64 (rest * 4294967296) x = rest * 4294967296 + x ∧ (rest * 4294967296 + x).tdiv d = (rest * 4294967296 + x) / d ∧ (rest * 4294967296 + x).tmod d = (rest * 4294967296 + x) % d ∧
    0 ≤ (rest * 4294967296 + x) / d ∧ (rest * 4294967296 + x) / d < 4294967296 ∧ 0 ≤ (rest * 4294967296 + x) % d ∧ (rest * 4294967296 + x) % d < d := by
  have h0 : 0 ≤ rest * 4294967296 + x := by omega
  have h1 : rest * 4294967296 + x < 18446744073709551616 := by omega
  refine ⟨?_, Int.tdiv_eq_ediv_of_nonneg h0, Int.tmod_eq_emod_of_nonneg h0, Int.ediv_nonneg h0 (by omega), ?_, Int.emod_nonneg _ (by omega), Int.emod_lt_of_pos _ hd.1⟩
  · rw [(or_add (k := .u64) (s := 32) (x := x) (y := rest * 4294967296) rfl hx.1 (by simp; omega) (by omega) (by show _ < (2 : Int) ^ 64; omega) (by simp) (by decide)).2, Int.add_comm]
  · rw [Int.ediv_lt_iff_lt_mul hd.1]
    have : (rest + 1) * 4294967296 ≤ d * 4294967296 := Int.mul_le_mul_of_nonneg_right (by omega) (by omega)
    rw [Int.mul_comm 4294967296 d]
    omega

structure SmallInv (a o : List Int) (d rest : Int) (i : Nat) : Prop where
  len : o.length = a.length
  words : Words o
  rng : 0 ≤ rest ∧ rest < d
  num : (nat (o.drop i) : Int) * d + rest = nat (a.drop i)

theorem small_next {a o : List Int} {d rest : Int} {i : Nat} (ha : Words a) (hd : 0 < d ∧ d < 4294967296) (hi : i < a.length) (I : SmallInv a o d rest (i + 1)) :
    SmallInv a (o.set i ((rest * 4294967296 + a.getD i 0) / d)) d ((rest * 4294967296 + a.getD i 0) % d) i := by
  have hx := words_getD ha i
  obtain ⟨_, _, _, b1, b2, b3, b4⟩ := small_word hd hx I.rng
  have hio : i < o.length := by rw [I.len]; exact hi
  refine ⟨by rw [List.length_set]; exact I.len, words_set I.words _ b1 b2, ⟨b3, b4⟩, ?_⟩
  rw [List.drop_eq_getElem_cons (by rw [List.length_set]; exact hio), List.drop_eq_getElem_cons hi, List.getElem_set_self, List.drop_set_of_lt (by omega), nat, nat]
  have e : a[i] = a.getD i 0 := by simp [List.getD_eq_getElem?_getD, hi]
  rw [e]
  have hn := I.num
  have hdm := Int.mul_ediv_add_emod (rest * 4294967296 + a.getD i 0) d
  generalize hq : (rest * 4294967296 + a.getD i 0) / d = q at *
  generalize (rest * 4294967296 + a.getD i 0) % d = m at *
  generalize a.getD i 0 = x at *
  rw [Int.natCast_add, Int.natCast_add, Int.natCast_mul, Int.natCast_mul, ← hn]
  have e1 : ((q.toNat : Nat) : Int) = q := by omega
  have e2 : ((x.toNat : Nat) : Int) = x := by omega
  rw [e1, e2]
  generalize ((nat (List.drop (i + 1) o) : Nat) : Int) = N at *
  grind

theorem small_loop (a : List Int) (ta : Bool) (d : Int) (ha : Words a) (hd : 0 < d ∧ d < 4294967296) (hl : a.length ≤ lim4) : ∀ (i : Nat) (o : List Int) (rest : Int), i ≤ a.length → SmallInv a o d rest i →
    ∃ l1 : List Int, ∃ r1 : Int, SmallInv a l1 d r1 0 ∧ LoopTo Tryd.prog (loopAt Tryd.f32 0) (smallS0 a ta d rest ((i : Int) - 1) o a.length a.length) (.exit 0) (smallX0 a ta d r1 l1 a.length a.length) := by
  unfold lim4 at hl
  intro i
  induction i with
  | zero =>
    intro o rest _ I
    exact ⟨o, rest, I, .done (by simp) (smallL0_2 a ta d rest _ o a.length a.length ⟨by simp, trivial⟩)⟩
  | succ i ih =>
    intro o rest hi I
    have hx := words_getD ha i
    obtain ⟨b0, b1, b2, b3, b4, b5, b6⟩ := small_word hd hx I.rng
    have hr := I.rng
    have e : ((i + 1 : Nat) : Int) - 1 = (i : Int) := by omega
    have h1 := smallL0_1 a ta d rest i o a.length a.length (by
      rw [Int.toNat_natCast, b0, b1]
      exact ⟨by simp, by omega, inRu64 (by omega) (by omega), by omega, inRu64 (by omega) (by omega), inRu64 (by omega) (by omega), by omega, inRu64 b3 (by omega), by omega, I.len.symm, inRu64 (by omega) (by omega), by omega, inR64 (by omega) (by omega), trivial⟩)
    rw [Int.toNat_natCast, ix0, b0, b1, b2, Int.emod_eq_of_lt b3 b4, I.len] at h1
    obtain ⟨l1, r1, g1, g2⟩ := ih _ _ (by omega) (small_next ha hd (by omega) I)
    rw [e]
    exact ⟨l1, r1, g1, .step h1 g2⟩

theorem small_pure (a : List Int) (ta : Bool) (d : Int) (ha : Words a) (hd : 0 < d ∧ d < 4294967296) (hl : a.length ≤ lim4) : PureTo Tryd.prog 32 [.sl 1 (.ints .u32 a) ta, .v (.int .u32 d)] (.tup [.sl 1 (.ints .u32 (dig (nat a / d.toNat))) false, .v (.int .u32 (nat a % d.toNat : Nat))]) := by
  have hl2 := hl
  unfold lim4 at hl2
  obtain ⟨l1, r1, g1, g2⟩ := small_loop a ta d ha hd hl a.length (List.replicate a.length 0) 0 (Nat.le_refl _) ⟨by simp, zeros_words _, by omega, by
    rw [List.drop_eq_nil_of_le (by simp), List.drop_eq_nil_of_le (Nat.le_refl _)]
    simp [nat]⟩
  have hn := g1.num
  have hr := g1.rng
  rw [List.drop_zero, List.drop_zero] at hn
  obtain ⟨D, rfl⟩ : ∃ D : Nat, d = D := ⟨d.toNat, by omega⟩
  obtain ⟨R, rfl⟩ : ∃ R : Nat, r1 = R := ⟨r1.toNat, by omega⟩
  have hn2 : nat l1 * D + R = nat a := by
    have : ((nat l1 * D + R : Nat) : Int) = nat a := by rw [Int.natCast_add, Int.natCast_mul]; exact hn
    exact Int.ofNat.inj this
  have hq : nat a / D = nat l1 := by rw [← hn2, Nat.mul_comm, Nat.mul_add_div (by omega), Nat.div_eq_of_lt (by omega), Nat.add_zero]
  have hm : nat a % D = R := by rw [← hn2, Nat.mul_comm, Nat.mul_add_mod, Nat.mod_eq_of_lt (by omega)]
  have h := smallF1 a ta D R l1 a.length a.length ⟨by omega, by omega, inR64 (by omega) (by omega), .raise (by
    have e : (List.replicate a.length (0 : Int)).length = a.length := by simp
    rw [Int.toNat_natCast]
    show LoopTo _ _ { n := _, fr := _, hp := [(4, .row 54 1 (.ints .u32 (List.replicate a.length 0)) (List.replicate a.length (0 : Int)).length)], nx := _ } _ _
    rw [e]
    exact g2), g1.len.symm, Nat.le_refl _, by rw [g1.len]; first | exact lim4_lt hl | exact hl, trivial⟩
  rw [Int.emod_eq_of_lt (by omega) (by omega), norm_eq g1.words] at h
  rw [Int.toNat_natCast, hq, hm]
  exact h

/-- a list of which the first i elements and the last i are exchanged -/
structure RevInv (l o : List Int) (i : Nat) : Prop where
  len : o.length = l.length
  get : ∀ k, k < l.length → o.getD k 0 = if k < i ∨ l.length - i ≤ k then l.getD (l.length - 1 - k) 0 else l.getD k 0

theorem rev_start (l : List Int) : RevInv l l 0 := ⟨rfl, fun k hk => by rw [if_neg (by omega)]⟩

theorem rev_next {l o : List Int} {i : Nat} (hi : 2 * i + 1 < l.length) (I : RevInv l o i) : RevInv l ((o.set i (o.getD (l.length - 1 - i) 0)).set (l.length - 1 - i) (o.getD i 0)) (i + 1) := by
  have hl := I.len
  refine ⟨by simp [hl], fun k hk => ?_⟩
  rw [getD_set _ _ _ _ (by rw [List.length_set]; omega), getD_set _ _ _ _ (by omega)]
  have g1 := I.get (l.length - 1 - i) (by omega)
  have g2 := I.get i (by omega)
  rw [if_neg (by omega)] at g1 g2
  by_cases h1 : k = l.length - 1 - i
  · rw [if_pos h1, if_pos (by omega), g2]
    congr 1
    omega
  · rw [if_neg h1]
    by_cases h2 : k = i
    · rw [if_pos h2, if_pos (by omega), g1, h2]
    · rw [if_neg h2, I.get k hk]
      by_cases h3 : k < i ∨ l.length - i ≤ k
      · rw [if_pos h3, if_pos (by omega)]
      · rw [if_neg h3, if_neg (by omega)]

theorem rev_end {l o : List Int} {i : Nat} (hi : l.length ≤ 2 * i + 1) (I : RevInv l o i) : o = l.reverse := by
  refine List.ext_getElem (by simp [I.len]) fun k h1 h2 => ?_
  have hk : k < l.length := by rw [← I.len]; exact h1
  have g := I.get k hk
  have e1 : o.getD k 0 = o[k] := by simp [List.getD_eq_getElem?_getD, h1]
  rw [e1] at g
  rw [g, List.getElem_reverse]
  have e2 : ∀ j (hj : j < l.length), l.getD j 0 = l[j] := fun j hj => by simp [List.getD_eq_getElem?_getD, hj]
  split
  · exact e2 _ (by omega)
  · next h => rw [e2 _ hk]; congr 1; omega

theorem rev_loop (l : List Int) (fl : Nat) (t : Bool) (hl : l.length < 9000000000000000) : ∀ (f i : Nat) (o : List Int), i + f = l.length → RevInv l o i →
    LoopTo Tryd.prog (loopAt Tryd.f33 0) (revS0 l fl l.length t i ((l.length : Int) - 1 - i) o l.length) (.exit 0) (revX0 l fl l.length t l.reverse l.length) := by
  intro f
  induction f with
  | zero =>
    intro i o hi I
    have := rev_end (by omega) I
    subst this
    exact .done (by simp) (revL0_2 l fl l.length t i _ _ l.length ⟨by simp; omega, trivial⟩)
  | succ f ih =>
    intro i o hi I
    by_cases h : 2 * i + 1 < l.length
    · have e1 : ((l.length : Int) - 1 - (i : Int)).toNat = l.length - 1 - i := by omega
      have e2 : (l.length : Int) - 1 - (i : Int) - 1 = (l.length : Int) - 1 - ((i + 1 : Nat) : Int) := by omega
      have h1 := revL0_1 l fl l.length t i ((l.length : Int) - 1 - i) o l.length (by
        rw [Int.toNat_natCast, e1]
        exact ⟨by simp; omega, by omega, Nat.le_refl _, by omega, Nat.le_refl _, by omega, I.len.symm, by omega, by rw [List.length_set]; exact I.len.symm, inR64 (by omega) (by omega), inR64 (by omega) (by omega), trivial⟩)
      rw [Int.toNat_natCast, e1, ix0, ix0, List.length_set, I.len, e2] at h1
      exact .step h1 (ih (i + 1) _ (by omega) (rev_next h I))
    · have := rev_end (by omega) I
      subst this
      exact .done (by simp) (revL0_2 l fl l.length t i _ _ l.length ⟨by simp; omega, trivial⟩)

theorem rev_shared (l : List Int) (fl : Nat) (t : Bool) (hl : l.length < 9000000000000000) : SharedTo Tryd.prog 33 [.row 5 1 (.ints .u8 l) fl] [.row rsv 0 l.length l.length t] (.tup []) [.row 5 1 (.ints .u8 l.reverse) l.length] :=
  revF1 l fl l.length t l.reverse l.length ⟨inR64 (by omega) (by omega), .raise (by
    have := rev_loop l fl t hl l.length 0 l (by omega) (rev_start l)
    rw [Int.natCast_zero, Int.sub_zero] at this
    exact this), trivial⟩

def sigSmall : List AV → Option (AV × List Prop)
  | [.sl 1 (.ints .u32 a) _, .v (.int .u32 d)] => some (.tup [.sl 1 (.ints .u32 (dig (nat a / d.toNat))) false, .v (.int .u32 (nat a % d.toNat : Nat))], [Words a, 0 < d ∧ d < 4294967296, a.length ≤ lim4])
  | _ => none

def sigDigit : List AV → Option (AV × List Prop)
  | [.v (.int .u8 c)] => some (.v (.int .i64 (dg c)), [0 ≤ c, c < 256])
  | _ => none

def sigRev : List AObj → List AV → Option (AV × List AObj × List Prop)
  | [.row 5 1 (.ints .u8 l) _], [.row k 0 n m _] => some (.tup [], [.row 5 1 (.ints .u8 l.reverse) l.length], [k = rsv, n = l.length, m = l.length, l.length < 9000000000000000])
  | _, _ => none

def SG15 : SGT := (32, .p sigSmall) :: (34, .p sigDigit) :: (33, .s [true] sigRev) :: SG14

theorem sok15 : SigsOK Tryd.prog SG15 := by
  refine sigs_cons (sigs_cons (sigs_s sok14 ?_) ?_) ?_
  · intro os ys r os' c h hc
    unfold sigRev at h
    split at h
    · cases h
      obtain ⟨rfl, rfl, rfl, h4, _⟩ := hc
      exact rev_shared _ _ _ h4
    · cases h
  · intro ys r c h hc
    unfold sigDigit at h
    split at h
    · cases h; exact digit_pure _ hc.1 hc.2.1
    · cases h
  · intro ys r c h hc
    unfold sigSmall at h
    split at h
    · cases h; exact small_pure _ _ _ hc.1 hc.2.1 hc.2.2.1
    · cases h


def textS0 (a : List Int) (ta : Bool) (r : Int) (l0 : List Int) (l1 : List Int) (n0 : Nat) (t0 : Bool) : AS := { n := 43, fr := [(0, AV.sl 1 (.ints .u32 l0) t0), (1, AV.v (.int .i64 r)), (6, AV.row 17 0 l1.length l1.length false)], hp := [(17, AObj.row 5 1 (.ints .u8 l1) n0)], nx := 18 }

def textX0 (a : List Int) (ta : Bool) (r : Int) (l2 : List Int) (n1 : Nat) : AS := { n := 43, fr := [(6, AV.row 17 0 l2.length l2.length false)], hp := [(17, AObj.row 5 1 (.ints .u8 l2) n1)], nx := 18 }

def parseS0 (s : ByteArray) (r : Int) (x0 : Int) : AS := { n := 77, fr := [(0, AV.v (.string s)), (1, AV.v (.int .i64 r)), (21, AV.v (.int .i64 (↑s.size : Int))), (22, AV.v (.int .i64 x0))], hp := [], nx := 0 }

def parseX0 (s : ByteArray) (r : Int)  : AS := { n := 77, fr := [(0, AV.v (.string s)), (1, AV.v (.int .i64 r))], hp := [], nx := 0 }

def parseX0_1 (s : ByteArray) (r : Int) (x1 : Int) : AS := { n := 77, fr := [(4, AV.v (.slice none 0 0)), (5, AV.v (.int .i64 x1))], hp := [], nx := 0 }

def parseS1 (s : ByteArray) (r : Int) (x2 : Int) (l0 : List Int) (n0 : Nat) : AS := { n := 77, fr := [(0, AV.v (.string s)), (1, AV.v (.int .i64 r)), (7, AV.row 0 0 l0.length l0.length false), (33, AV.v (.int .i64 (↑s.size : Int))), (34, AV.v (.int .i64 x2))], hp := [(0, AObj.row 54 1 (.ints .u32 l0) n0)], nx := 1 }

def parseX1 (s : ByteArray) (r : Int) (l1 : List Int) (n1 : Nat) : AS := { n := 77, fr := [(7, AV.row 0 0 l1.length l1.length false)], hp := [(0, AObj.row 54 1 (.ints .u32 l1) n1)], nx := 1 }

def parseX1_1 (s : ByteArray) (r : Int)  : AS := { n := 77, fr := [(4, AV.v (.slice none 0 0)), (5, AV.v (.int .i64 (3 : Int)))], hp := [], nx := 1 }

def parseS2 (s : ByteArray) (r : Int) (x2 : Int) (x3 : Int) (x4 : Int) (l0 : List Int) (l2 : List Int) (n2 : Nat) (n3 : Nat) : AS := { n := 77, fr := [(0, AV.v (.string s)), (1, AV.v (.int .i64 r)), (7, AV.row 0 0 n3 n3 false), (9, AV.v (.int .u64 x3)), (33, AV.v (.int .i64 (↑s.size : Int))), (34, AV.v (.int .i64 x2)), (43, AV.v (.int .i64 (↑l0.length : Int))), (44, AV.v (.int .i64 x4))], hp := [(0, AObj.row 54 1 (.ints .u32 l2) n2)], nx := 1 }

def parseX2 (s : ByteArray) (r : Int) (x2 : Int) (x5 : Int) (l3 : List Int) (n4 : Nat) (n5 : Nat) : AS := { n := 77, fr := [(0, AV.v (.string s)), (1, AV.v (.int .i64 r)), (7, AV.row 0 0 n5 n5 false), (9, AV.v (.int .u64 x5)), (33, AV.v (.int .i64 (↑s.size : Int))), (34, AV.v (.int .i64 x2))], hp := [(0, AObj.row 54 1 (.ints .u32 l3) n4)], nx := 1 }

def bnWHtab0 : ByteArray := { data := #[(48 : UInt8), (49 : UInt8), (50 : UInt8), (51 : UInt8), (52 : UInt8), (53 : UInt8), (54 : UInt8), (55 : UInt8), (56 : UInt8), (57 : UInt8), (97 : UInt8), (98 : UInt8), (99 : UInt8), (100 : UInt8), (101 : UInt8), (102 : UInt8), (103 : UInt8), (104 : UInt8), (105 : UInt8), (106 : UInt8), (107 : UInt8), (108 : UInt8), (109 : UInt8), (110 : UInt8), (111 : UInt8), (112 : UInt8), (113 : UInt8), (114 : UInt8), (115 : UInt8), (116 : UInt8), (117 : UInt8), (118 : UInt8), (119 : UInt8), (120 : UInt8), (121 : UInt8), (122 : UInt8)] }
-- 2 paths

theorem textL0_1 (a : List Int) (ta : Bool) (r : Int) (l0 : List Int) (l1 : List Int) (n0 : Nat) (t0 : Bool) (h : AllP [decide ((↑l0.length : Int) > (0 : Int)) = true, Words l0, (0 : Int) < r % (4294967296 : Int) ∧ r % (4294967296 : Int) < (4294967296 : Int), l0.length ≤ lim4, (0 : Int) ≤ (↑(nat l0 % (r % (4294967296 : Int)).toNat) : Int) ∧ (↑(nat l0 % (r % (4294967296 : Int)).toNat) : Int) < (36 : Int), l1.length = l1.length, l1.length = l1.length, (l1 ++ [byteAt bnWHtab0 (↑(nat l0 % (r % (4294967296 : Int)).toNat) : Int).toNat]).length * 1 ≤ 140737488355328]) : To Tryd.prog (loopAt Tryd.f13 0) ({ n := 43, fr := [(0, AV.sl 1 (.ints .u32 l0) t0), (1, AV.v (.int .i64 r)), (6, AV.row 17 0 l1.length l1.length false)], hp := [(17, AObj.row 5 1 (.ints .u8 l1) n0)], nx := 18 }) (.normal) { n := 43, fr := [(0, AV.sl 1 (.ints .u32 (dig (nat l0 / (r % (4294967296 : Int)).toNat))) false), (1, AV.v (.int .i64 r)), (6, AV.row 17 0 (l1 ++ [byteAt bnWHtab0 (↑(nat l0 % (r % (4294967296 : Int)).toNat) : Int).toNat]).length (l1 ++ [byteAt bnWHtab0 (↑(nat l0 % (r % (4294967296 : Int)).toNat) : Int).toNat]).length false)], hp := [(17, AObj.row 5 1 (.ints .u8 (l1 ++ [byteAt bnWHtab0 (↑(nat l0 % (r % (4294967296 : Int)).toNat) : Int).toNat])) n0)], nx := 18 } :=
  evW_to hm sok15 (hs := [CHint.ops 9 [(2, Hint.b true)]]) (slots := [0, 1, 6]) (keys := [17]) (nx := 18) (c := _) (by kernel_rfl) h

theorem textL0_2 (a : List Int) (ta : Bool) (r : Int) (l0 : List Int) (l1 : List Int) (n0 : Nat) (t0 : Bool) (h : AllP [decide ((↑l0.length : Int) > (0 : Int)) = false]) : To Tryd.prog (loopAt Tryd.f13 0) ({ n := 43, fr := [(0, AV.sl 1 (.ints .u32 l0) t0), (1, AV.v (.int .i64 r)), (6, AV.row 17 0 l1.length l1.length false)], hp := [(17, AObj.row 5 1 (.ints .u8 l1) n0)], nx := 18 }) (Exit.exit 0) { n := 43, fr := [(6, AV.row 17 0 l1.length l1.length false)], hp := [(17, AObj.row 5 1 (.ints .u8 l1) n0)], nx := 18 } :=
  evW_to hm sok15 (hs := [CHint.ops 9 [(2, Hint.b false)]]) (slots := [6]) (keys := [17]) (nx := 18) (c := _) (by kernel_rfl) h
-- 5 paths

theorem textF1 (a : List Int) (ta : Bool) (r : Int) (l2 : List Int) (n1 : Nat) (h : AllP [decide (r < (2 : Int)) = true]) : PureTo Tryd.prog 13 [.sl 1 (.ints .u32 a) ta, .v (.int .i64 r)] (AV.tup [AV.v (.string (ByteArray.mk #[])), AV.v (.int .i64 (1 : Int))]) :=
  evFn_pure hm sok15 (fn := Tryd.f13) rfl rfl (ti := false) (hs := [CHint.ops 1 [(1, Hint.b true)]]) (c := _) (by kernel_rfl) h

theorem textF2 (a : List Int) (ta : Bool) (r : Int) (l2 : List Int) (n1 : Nat) (h : AllP [decide (r < (2 : Int)) = false, decide (r > (36 : Int)) = true]) : PureTo Tryd.prog 13 [.sl 1 (.ints .u32 a) ta, .v (.int .i64 r)] (AV.tup [AV.v (.string (ByteArray.mk #[])), AV.v (.int .i64 (1 : Int))]) :=
  evFn_pure hm sok15 (fn := Tryd.f13) rfl rfl (ti := false) (hs := [CHint.ops 1 [(1, Hint.b false), (4, Hint.b true)]]) (c := _) (by kernel_rfl) h

theorem textF3 (a : List Int) (ta : Bool) (r : Int) (l2 : List Int) (n1 : Nat) (h : AllP [decide (r < (2 : Int)) = false, decide (r > (36 : Int)) = false, over a = true, a.length < lim]) : PureTo Tryd.prog 13 [.sl 1 (.ints .u32 a) ta, .v (.int .i64 r)] (AV.tup [AV.v (.string (ByteArray.mk #[])), AV.v (.int .i64 (3 : Int))]) :=
  evFn_pure hm sok15 (fn := Tryd.f13) rfl rfl (ti := false) (hs := [CHint.ops 1 [(1, Hint.b false), (4, Hint.b false)], CHint.ops 3 [(2, Hint.b true)]]) (c := _) (by kernel_rfl) h

theorem textF4 (a : List Int) (ta : Bool) (r : Int) (l2 : List Int) (n1 : Nat) (h : AllP [decide (r < (2 : Int)) = false, decide (r > (36 : Int)) = false, over a = false, a.length < lim, a.length < lim, ((↑(norm a).length : Int) == (0 : Int)) = true]) : PureTo Tryd.prog 13 [.sl 1 (.ints .u32 a) ta, .v (.int .i64 r)] (AV.tup [AV.v (.string (ByteArray.mk #[(48 : UInt8)])), AV.v (.int .i64 (0 : Int))]) :=
  evFn_pure hm sok15 (fn := Tryd.f13) rfl rfl (ti := false) (hs := [CHint.ops 1 [(1, Hint.b false), (4, Hint.b false)], CHint.ops 3 [(2, Hint.b false)], CHint.ops 6 [(2, Hint.b true)]]) (c := _) (by kernel_rfl) h

theorem textF5 (a : List Int) (ta : Bool) (r : Int) (l2 : List Int) (n1 : Nat) (h : AllP [decide (r < (2 : Int)) = false, decide (r > (36 : Int)) = false, over a = false, a.length < lim, a.length < lim, ((↑(norm a).length : Int) == (0 : Int)) = false, LoopTo Tryd.prog (loopAt Tryd.f13 0) { n := 43, fr := [(0, AV.sl 1 (.ints .u32 (norm a)) true), (1, AV.v (.int .i64 r)), (6, AV.row 17 0 0 0 false)], hp := [(17, AObj.row 5 1 (.ints .u8 []) 0)], nx := 18 } (Exit.exit 0) { n := 43, fr := [(6, AV.row 17 0 l2.length l2.length false)], hp := [(17, AObj.row 5 1 (.ints .u8 l2) n1)], nx := 18 }, 4294967296 = rsv, l2.length = l2.length, l2.length = l2.length, l2.length < 9000000000000000, l2.length = l2.reverse.length, l2.reverse.length ≤ l2.length]) : PureTo Tryd.prog 13 [.sl 1 (.ints .u32 a) ta, .v (.int .i64 r)] (AV.tup [AV.v (.string (strOfInts l2.reverse)), AV.v (.int .i64 (0 : Int))]) :=
  evFn_pure hm sok15 (fn := Tryd.f13) rfl rfl (ti := false) (hs := [CHint.ops 1 [(1, Hint.b false), (4, Hint.b false)], CHint.ops 3 [(2, Hint.b false)], CHint.ops 6 [(2, Hint.b false)], CHint.ops 8 [(0, Hint.nil 5)], CHint.loop [0, 1, 6] [17] 18 (Exit.exit 0) { n := 43, fr := [(6, AV.row 17 0 l2.length l2.length false)], hp := [(17, AObj.row (5 : TypeId) 1 (.ints .u8 l2) n1)], nx := 18 }]) (c := _) (by kernel_rfl) h
-- 2 paths

theorem parseL0_1 (s : ByteArray) (r : Int) (x0 : Int) (h : AllP [decide (x0 < (↑s.size : Int)) = true, (0 : Int) ≤ x0 ∧ x0 < (↑s.size : Int), (0 : Int) ≤ byteAt s x0.toNat, byteAt s x0.toNat < (256 : Int), decide (dg (byteAt s x0.toNat) ≥ r) = true]) : To Tryd.prog (loopAt Tryd.f14 0) ({ n := 77, fr := [(0, AV.v (.string s)), (1, AV.v (.int .i64 r)), (21, AV.v (.int .i64 (↑s.size : Int))), (22, AV.v (.int .i64 x0))], hp := [], nx := 0 }) (Exit.ret) { n := 77, fr := [(4, AV.v (.slice none 0 0)), (5, AV.v (.int .i64 (4 : Int)))], hp := [], nx := 0 } :=
  evW_to hm sok15 (hs := [CHint.ops 6 [(0, Hint.b true)], CHint.ops 8 [(5, Hint.b true)]]) (slots := [4, 5]) (keys := []) (nx := 0) (c := _) (by kernel_rfl) h

theorem parseL0_2 (s : ByteArray) (r : Int) (x0 : Int) (h : AllP [decide (x0 < (↑s.size : Int)) = true, (0 : Int) ≤ x0 ∧ x0 < (↑s.size : Int), (0 : Int) ≤ byteAt s x0.toNat, byteAt s x0.toNat < (256 : Int), decide (dg (byteAt s x0.toNat) ≥ r) = false, inR IntKind.i64 (x0 + (1 : Int))]) : To Tryd.prog (loopAt Tryd.f14 0) ({ n := 77, fr := [(0, AV.v (.string s)), (1, AV.v (.int .i64 r)), (21, AV.v (.int .i64 (↑s.size : Int))), (22, AV.v (.int .i64 x0))], hp := [], nx := 0 }) (.normal) { n := 77, fr := [(0, AV.v (.string s)), (1, AV.v (.int .i64 r)), (21, AV.v (.int .i64 (↑s.size : Int))), (22, AV.v (.int .i64 (x0 + (1 : Int))))], hp := [], nx := 0 } :=
  evW_to hm sok15 (hs := [CHint.ops 6 [(0, Hint.b true)], CHint.ops 8 [(5, Hint.b false)]]) (slots := [0, 1, 21, 22]) (keys := []) (nx := 0) (c := _) (by kernel_rfl) h

theorem parseL0_3 (s : ByteArray) (r : Int) (x0 : Int) (h : AllP [decide (x0 < (↑s.size : Int)) = false]) : To Tryd.prog (loopAt Tryd.f14 0) ({ n := 77, fr := [(0, AV.v (.string s)), (1, AV.v (.int .i64 r)), (21, AV.v (.int .i64 (↑s.size : Int))), (22, AV.v (.int .i64 x0))], hp := [], nx := 0 }) (Exit.exit 0) { n := 77, fr := [(0, AV.v (.string s)), (1, AV.v (.int .i64 r))], hp := [], nx := 0 } :=
  evW_to hm sok15 (hs := [CHint.ops 6 [(0, Hint.b false)]]) (slots := [0, 1]) (keys := []) (nx := 0) (c := _) (by kernel_rfl) h
-- 5 paths

theorem parseL1_1 (s : ByteArray) (r : Int) (x2 : Int) (x5 : Int) (l0 : List Int) (l3 : List Int) (n0 : Nat) (n4 : Nat) (n5 : Nat) (h : AllP [decide (x2 < (↑s.size : Int)) = true, (0 : Int) ≤ x2 ∧ x2 < (↑s.size : Int), (0 : Int) ≤ byteAt s x2.toNat, byteAt s x2.toNat < (256 : Int), LoopTo Tryd.prog (loopAt Tryd.f14 2) { n := 77, fr := [(0, AV.v (.string s)), (1, AV.v (.int .i64 r)), (7, AV.row 0 0 l0.length l0.length false), (9, AV.v (.int .u64 (dg (byteAt s x2.toNat) % (18446744073709551616 : Int)))), (33, AV.v (.int .i64 (↑s.size : Int))), (34, AV.v (.int .i64 x2)), (43, AV.v (.int .i64 (↑l0.length : Int))), (44, AV.v (.int .i64 (0 : Int)))], hp := [(0, AObj.row 54 1 (.ints .u32 l0) n0)], nx := 1 } (Exit.exit 4) { n := 77, fr := [(0, AV.v (.string s)), (1, AV.v (.int .i64 r)), (7, AV.row 0 0 n5 n5 false), (9, AV.v (.int .u64 x5)), (33, AV.v (.int .i64 (↑s.size : Int))), (34, AV.v (.int .i64 x2))], hp := [(0, AObj.row 54 1 (.ints .u32 l3) n4)], nx := 1 }, decide (x5 > (0 : Int)) = true, n5 = l3.length, n5 = l3.length, (l3 ++ [x5 % (4294967296 : Int)]).length * 4 ≤ 140737488355328, decide ((↑(l3 ++ [x5 % (4294967296 : Int)]).length : Int) > (1024 : Int)) = true]) : To Tryd.prog (loopAt Tryd.f14 1) ({ n := 77, fr := [(0, AV.v (.string s)), (1, AV.v (.int .i64 r)), (7, AV.row 0 0 l0.length l0.length false), (33, AV.v (.int .i64 (↑s.size : Int))), (34, AV.v (.int .i64 x2))], hp := [(0, AObj.row 54 1 (.ints .u32 l0) n0)], nx := 1 }) (Exit.ret) { n := 77, fr := [(4, AV.v (.slice none 0 0)), (5, AV.v (.int .i64 (3 : Int)))], hp := [], nx := 1 } :=
  evW_to hm sok15 (hs := [CHint.ops 13 [(0, Hint.b true)], CHint.loop [0, 1, 7, 9, 33, 34, 43, 44] [0] 1 (Exit.exit 4) { n := 77, fr := [(0, AV.v (.string s)), (1, AV.v (.int .i64 r)), (7, AV.row 0 0 n5 n5 false), (9, AV.v (.int .u64 x5)), (33, AV.v (.int .i64 (↑s.size : Int))), (34, AV.v (.int .i64 x2))], hp := [(0, AObj.row (54 : TypeId) 1 (.ints .u32 l3) n4)], nx := 1 }, CHint.ops 23 [(1, Hint.b true)], CHint.ops 25 [(2, Hint.b true)]]) (slots := [4, 5]) (keys := []) (nx := 1) (c := _) (by kernel_rfl) h

theorem parseL1_2 (s : ByteArray) (r : Int) (x2 : Int) (x5 : Int) (l0 : List Int) (l3 : List Int) (n0 : Nat) (n4 : Nat) (n5 : Nat) (h : AllP [decide (x2 < (↑s.size : Int)) = true, (0 : Int) ≤ x2 ∧ x2 < (↑s.size : Int), (0 : Int) ≤ byteAt s x2.toNat, byteAt s x2.toNat < (256 : Int), LoopTo Tryd.prog (loopAt Tryd.f14 2) { n := 77, fr := [(0, AV.v (.string s)), (1, AV.v (.int .i64 r)), (7, AV.row 0 0 l0.length l0.length false), (9, AV.v (.int .u64 (dg (byteAt s x2.toNat) % (18446744073709551616 : Int)))), (33, AV.v (.int .i64 (↑s.size : Int))), (34, AV.v (.int .i64 x2)), (43, AV.v (.int .i64 (↑l0.length : Int))), (44, AV.v (.int .i64 (0 : Int)))], hp := [(0, AObj.row 54 1 (.ints .u32 l0) n0)], nx := 1 } (Exit.exit 4) { n := 77, fr := [(0, AV.v (.string s)), (1, AV.v (.int .i64 r)), (7, AV.row 0 0 n5 n5 false), (9, AV.v (.int .u64 x5)), (33, AV.v (.int .i64 (↑s.size : Int))), (34, AV.v (.int .i64 x2))], hp := [(0, AObj.row 54 1 (.ints .u32 l3) n4)], nx := 1 }, decide (x5 > (0 : Int)) = true, n5 = l3.length, n5 = l3.length, (l3 ++ [x5 % (4294967296 : Int)]).length * 4 ≤ 140737488355328, decide ((↑(l3 ++ [x5 % (4294967296 : Int)]).length : Int) > (1024 : Int)) = false, inR IntKind.i64 (x2 + (1 : Int))]) : To Tryd.prog (loopAt Tryd.f14 1) ({ n := 77, fr := [(0, AV.v (.string s)), (1, AV.v (.int .i64 r)), (7, AV.row 0 0 l0.length l0.length false), (33, AV.v (.int .i64 (↑s.size : Int))), (34, AV.v (.int .i64 x2))], hp := [(0, AObj.row 54 1 (.ints .u32 l0) n0)], nx := 1 }) (.normal) { n := 77, fr := [(0, AV.v (.string s)), (1, AV.v (.int .i64 r)), (7, AV.row 0 0 (l3 ++ [x5 % (4294967296 : Int)]).length (l3 ++ [x5 % (4294967296 : Int)]).length false), (33, AV.v (.int .i64 (↑s.size : Int))), (34, AV.v (.int .i64 (x2 + (1 : Int))))], hp := [(0, AObj.row 54 1 (.ints .u32 (l3 ++ [x5 % (4294967296 : Int)])) n4)], nx := 1 } :=
  evW_to hm sok15 (hs := [CHint.ops 13 [(0, Hint.b true)], CHint.loop [0, 1, 7, 9, 33, 34, 43, 44] [0] 1 (Exit.exit 4) { n := 77, fr := [(0, AV.v (.string s)), (1, AV.v (.int .i64 r)), (7, AV.row 0 0 n5 n5 false), (9, AV.v (.int .u64 x5)), (33, AV.v (.int .i64 (↑s.size : Int))), (34, AV.v (.int .i64 x2))], hp := [(0, AObj.row (54 : TypeId) 1 (.ints .u32 l3) n4)], nx := 1 }, CHint.ops 23 [(1, Hint.b true)], CHint.ops 25 [(2, Hint.b false)]]) (slots := [0, 1, 7, 33, 34]) (keys := [0]) (nx := 1) (c := _) (by kernel_rfl) h

theorem parseL1_4 (s : ByteArray) (r : Int) (x2 : Int) (x5 : Int) (l0 : List Int) (l3 : List Int) (n0 : Nat) (n4 : Nat) (n5 : Nat) (h : AllP [decide (x2 < (↑s.size : Int)) = true, (0 : Int) ≤ x2 ∧ x2 < (↑s.size : Int), (0 : Int) ≤ byteAt s x2.toNat, byteAt s x2.toNat < (256 : Int), LoopTo Tryd.prog (loopAt Tryd.f14 2) { n := 77, fr := [(0, AV.v (.string s)), (1, AV.v (.int .i64 r)), (7, AV.row 0 0 l0.length l0.length false), (9, AV.v (.int .u64 (dg (byteAt s x2.toNat) % (18446744073709551616 : Int)))), (33, AV.v (.int .i64 (↑s.size : Int))), (34, AV.v (.int .i64 x2)), (43, AV.v (.int .i64 (↑l0.length : Int))), (44, AV.v (.int .i64 (0 : Int)))], hp := [(0, AObj.row 54 1 (.ints .u32 l0) n0)], nx := 1 } (Exit.exit 4) { n := 77, fr := [(0, AV.v (.string s)), (1, AV.v (.int .i64 r)), (7, AV.row 0 0 n5 n5 false), (9, AV.v (.int .u64 x5)), (33, AV.v (.int .i64 (↑s.size : Int))), (34, AV.v (.int .i64 x2))], hp := [(0, AObj.row 54 1 (.ints .u32 l3) n4)], nx := 1 }, decide (x5 > (0 : Int)) = false, decide ((↑n5 : Int) > (1024 : Int)) = false, inR IntKind.i64 (x2 + (1 : Int))]) : To Tryd.prog (loopAt Tryd.f14 1) ({ n := 77, fr := [(0, AV.v (.string s)), (1, AV.v (.int .i64 r)), (7, AV.row 0 0 l0.length l0.length false), (33, AV.v (.int .i64 (↑s.size : Int))), (34, AV.v (.int .i64 x2))], hp := [(0, AObj.row 54 1 (.ints .u32 l0) n0)], nx := 1 }) (.normal) { n := 77, fr := [(0, AV.v (.string s)), (1, AV.v (.int .i64 r)), (7, AV.row 0 0 n5 n5 false), (33, AV.v (.int .i64 (↑s.size : Int))), (34, AV.v (.int .i64 (x2 + (1 : Int))))], hp := [(0, AObj.row 54 1 (.ints .u32 l3) n4)], nx := 1 } :=
  evW_to hm sok15 (hs := [CHint.ops 13 [(0, Hint.b true)], CHint.loop [0, 1, 7, 9, 33, 34, 43, 44] [0] 1 (Exit.exit 4) { n := 77, fr := [(0, AV.v (.string s)), (1, AV.v (.int .i64 r)), (7, AV.row 0 0 n5 n5 false), (9, AV.v (.int .u64 x5)), (33, AV.v (.int .i64 (↑s.size : Int))), (34, AV.v (.int .i64 x2))], hp := [(0, AObj.row (54 : TypeId) 1 (.ints .u32 l3) n4)], nx := 1 }, CHint.ops 23 [(1, Hint.b false)], CHint.ops 25 [(2, Hint.b false)]]) (slots := [0, 1, 7, 33, 34]) (keys := [0]) (nx := 1) (c := _) (by kernel_rfl) h

theorem parseL1_5 (s : ByteArray) (r : Int) (x2 : Int) (x5 : Int) (l0 : List Int) (l3 : List Int) (n0 : Nat) (n4 : Nat) (n5 : Nat) (h : AllP [decide (x2 < (↑s.size : Int)) = false]) : To Tryd.prog (loopAt Tryd.f14 1) ({ n := 77, fr := [(0, AV.v (.string s)), (1, AV.v (.int .i64 r)), (7, AV.row 0 0 l0.length l0.length false), (33, AV.v (.int .i64 (↑s.size : Int))), (34, AV.v (.int .i64 x2))], hp := [(0, AObj.row 54 1 (.ints .u32 l0) n0)], nx := 1 }) (Exit.exit 2) { n := 77, fr := [(7, AV.row 0 0 l0.length l0.length false)], hp := [(0, AObj.row 54 1 (.ints .u32 l0) n0)], nx := 1 } :=
  evW_to hm sok15 (hs := [CHint.ops 13 [(0, Hint.b false)]]) (slots := [7]) (keys := [0]) (nx := 1) (c := _) (by kernel_rfl) h
-- 2 paths

theorem parseL2_1 (s : ByteArray) (r : Int) (x2 : Int) (x3 : Int) (x4 : Int) (l0 : List Int) (l2 : List Int) (n2 : Nat) (n3 : Nat) (h : AllP [decide (x4 < (↑l0.length : Int)) = true, (0 : Int) ≤ x4 ∧ x4 < (↑n3 : Int), n2 ≤ n3, inR IntKind.u64 (l2.getD (ixPlus 0 x4.toNat) (0 : Int)), inR IntKind.u64 (l2.getD (ixPlus 0 x4.toNat) (0 : Int) * (r % (18446744073709551616 : Int))), inR IntKind.u64 (l2.getD (ixPlus 0 x4.toNat) (0 : Int) * (r % (18446744073709551616 : Int)) + x3), (0 : Int) ≤ x4 ∧ x4 < (↑n3 : Int), n3 = l2.length, (0 : Int) ≤ (32 : Int), inR IntKind.i64 (x4 + (1 : Int))]) : To Tryd.prog (loopAt Tryd.f14 2) ({ n := 77, fr := [(0, AV.v (.string s)), (1, AV.v (.int .i64 r)), (7, AV.row 0 0 n3 n3 false), (9, AV.v (.int .u64 x3)), (33, AV.v (.int .i64 (↑s.size : Int))), (34, AV.v (.int .i64 x2)), (43, AV.v (.int .i64 (↑l0.length : Int))), (44, AV.v (.int .i64 x4))], hp := [(0, AObj.row 54 1 (.ints .u32 l2) n2)], nx := 1 }) (.normal) { n := 77, fr := [(0, AV.v (.string s)), (1, AV.v (.int .i64 r)), (7, AV.row 0 0 n3 n3 false), (9, AV.v (.int .u64 ((l2.getD (ixPlus 0 x4.toNat) (0 : Int) * (r % (18446744073709551616 : Int)) + x3) / (4294967296 : Int)))), (33, AV.v (.int .i64 (↑s.size : Int))), (34, AV.v (.int .i64 x2)), (43, AV.v (.int .i64 (↑l0.length : Int))), (44, AV.v (.int .i64 (x4 + (1 : Int))))], hp := [(0, AObj.row 54 1 (.ints .u32 (l2.set (ixPlus 0 x4.toNat) ((l2.getD (ixPlus 0 x4.toNat) (0 : Int) * (r % (18446744073709551616 : Int)) + x3) % (4294967296 : Int)))) l2.length)], nx := 1 } :=
  evW_to hm sok15 (hs := [CHint.ops 17 [(0, Hint.b true)]]) (slots := [0, 1, 7, 9, 33, 34, 43, 44]) (keys := [0]) (nx := 1) (c := _) (by kernel_rfl) h

theorem parseL2_2 (s : ByteArray) (r : Int) (x2 : Int) (x3 : Int) (x4 : Int) (l0 : List Int) (l2 : List Int) (n2 : Nat) (n3 : Nat) (h : AllP [decide (x4 < (↑l0.length : Int)) = false]) : To Tryd.prog (loopAt Tryd.f14 2) ({ n := 77, fr := [(0, AV.v (.string s)), (1, AV.v (.int .i64 r)), (7, AV.row 0 0 n3 n3 false), (9, AV.v (.int .u64 x3)), (33, AV.v (.int .i64 (↑s.size : Int))), (34, AV.v (.int .i64 x2)), (43, AV.v (.int .i64 (↑l0.length : Int))), (44, AV.v (.int .i64 x4))], hp := [(0, AObj.row 54 1 (.ints .u32 l2) n2)], nx := 1 }) (Exit.exit 4) { n := 77, fr := [(0, AV.v (.string s)), (1, AV.v (.int .i64 r)), (7, AV.row 0 0 n3 n3 false), (9, AV.v (.int .u64 x3)), (33, AV.v (.int .i64 (↑s.size : Int))), (34, AV.v (.int .i64 x2))], hp := [(0, AObj.row 54 1 (.ints .u32 l2) n2)], nx := 1 } :=
  evW_to hm sok15 (hs := [CHint.ops 17 [(0, Hint.b false)]]) (slots := [0, 1, 7, 9, 33, 34]) (keys := [0]) (nx := 1) (c := _) (by kernel_rfl) h
-- 6 paths

theorem parseF1 (s : ByteArray) (r : Int) (x1 : Int) (l1 : List Int) (n1 : Nat) (h : AllP [decide (r < (2 : Int)) = true]) : PureTo Tryd.prog 14 [.v (.string s), .v (.int .i64 r)] (AV.tup [AV.sl 1 (.ints .u32 []) false, AV.v (.int .i64 (1 : Int))]) :=
  evFn_pure hm sok15 (fn := Tryd.f14) rfl rfl (ti := false) (hs := [CHint.ops 1 [(1, Hint.b true)]]) (c := _) (by kernel_rfl) h

theorem parseF2 (s : ByteArray) (r : Int) (x1 : Int) (l1 : List Int) (n1 : Nat) (h : AllP [decide (r < (2 : Int)) = false, decide (r > (36 : Int)) = true]) : PureTo Tryd.prog 14 [.v (.string s), .v (.int .i64 r)] (AV.tup [AV.sl 1 (.ints .u32 []) false, AV.v (.int .i64 (1 : Int))]) :=
  evFn_pure hm sok15 (fn := Tryd.f14) rfl rfl (ti := false) (hs := [CHint.ops 1 [(1, Hint.b false), (4, Hint.b true)]]) (c := _) (by kernel_rfl) h

theorem parseF3 (s : ByteArray) (r : Int) (x1 : Int) (l1 : List Int) (n1 : Nat) (h : AllP [decide (r < (2 : Int)) = false, decide (r > (36 : Int)) = false, (s.toList == (ByteArray.mk #[]).toList) = true]) : PureTo Tryd.prog 14 [.v (.string s), .v (.int .i64 r)] (AV.tup [AV.sl 1 (.ints .u32 []) false, AV.v (.int .i64 (4 : Int))]) :=
  evFn_pure hm sok15 (fn := Tryd.f14) rfl rfl (ti := false) (hs := [CHint.ops 1 [(1, Hint.b false), (4, Hint.b false)], CHint.ops 3 [(1, Hint.b true)]]) (c := _) (by kernel_rfl) h

theorem parseF4 (s : ByteArray) (r : Int) (x1 : Int) (l1 : List Int) (n1 : Nat) (h : AllP [decide (r < (2 : Int)) = false, decide (r > (36 : Int)) = false, (s.toList == (ByteArray.mk #[]).toList) = false, LoopTo Tryd.prog (loopAt Tryd.f14 0) { n := 77, fr := [(0, AV.v (.string s)), (1, AV.v (.int .i64 r)), (21, AV.v (.int .i64 (↑s.size : Int))), (22, AV.v (.int .i64 (0 : Int)))], hp := [], nx := 0 } (Exit.exit 0) { n := 77, fr := [(0, AV.v (.string s)), (1, AV.v (.int .i64 r))], hp := [], nx := 0 }, LoopTo Tryd.prog (loopAt Tryd.f14 1) { n := 77, fr := [(0, AV.v (.string s)), (1, AV.v (.int .i64 r)), (7, AV.row 0 0 0 0 false), (33, AV.v (.int .i64 (↑s.size : Int))), (34, AV.v (.int .i64 (0 : Int)))], hp := [(0, AObj.row 54 1 (.ints .u32 []) 0)], nx := 1 } (Exit.exit 2) { n := 77, fr := [(7, AV.row 0 0 l1.length l1.length false)], hp := [(0, AObj.row 54 1 (.ints .u32 l1) n1)], nx := 1 }, l1.length = l1.length, n1 ≤ l1.length]) : PureTo Tryd.prog 14 [.v (.string s), .v (.int .i64 r)] (AV.tup [AV.sl 1 (.ints .u32 l1) false, AV.v (.int .i64 (0 : Int))]) :=
  evFn_pure hm sok15 (fn := Tryd.f14) rfl rfl (ti := false) (hs := [CHint.ops 1 [(1, Hint.b false), (4, Hint.b false)], CHint.ops 3 [(1, Hint.b false)], CHint.loop [0, 1, 21, 22] [] 0 (Exit.exit 0) { n := 77, fr := [(0, AV.v (.string s)), (1, AV.v (.int .i64 r))], hp := [], nx := 0 }, CHint.ops 11 [(0, Hint.nil 54)], CHint.loop [0, 1, 7, 33, 34] [0] 1 (Exit.exit 2) { n := 77, fr := [(7, AV.row 0 0 l1.length l1.length false)], hp := [(0, AObj.row (54 : TypeId) 1 (.ints .u32 l1) n1)], nx := 1 }]) (c := _) (by kernel_rfl) h

theorem parseF5 (s : ByteArray) (r : Int) (x1 : Int) (l1 : List Int) (n1 : Nat) (h : AllP [decide (r < (2 : Int)) = false, decide (r > (36 : Int)) = false, (s.toList == (ByteArray.mk #[]).toList) = false, LoopTo Tryd.prog (loopAt Tryd.f14 0) { n := 77, fr := [(0, AV.v (.string s)), (1, AV.v (.int .i64 r)), (21, AV.v (.int .i64 (↑s.size : Int))), (22, AV.v (.int .i64 (0 : Int)))], hp := [], nx := 0 } (Exit.exit 0) { n := 77, fr := [(0, AV.v (.string s)), (1, AV.v (.int .i64 r))], hp := [], nx := 0 }, LoopTo Tryd.prog (loopAt Tryd.f14 1) { n := 77, fr := [(0, AV.v (.string s)), (1, AV.v (.int .i64 r)), (7, AV.row 0 0 0 0 false), (33, AV.v (.int .i64 (↑s.size : Int))), (34, AV.v (.int .i64 (0 : Int)))], hp := [(0, AObj.row 54 1 (.ints .u32 []) 0)], nx := 1 } Exit.ret { n := 77, fr := [(4, AV.v (.slice none 0 0)), (5, AV.v (.int .i64 (3 : Int)))], hp := [], nx := 1 }]) : PureTo Tryd.prog 14 [.v (.string s), .v (.int .i64 r)] (AV.tup [AV.sl 1 (.ints .u32 []) false, AV.v (.int .i64 (3 : Int))]) :=
  evFn_pure hm sok15 (fn := Tryd.f14) rfl rfl (ti := false) (hs := [CHint.ops 1 [(1, Hint.b false), (4, Hint.b false)], CHint.ops 3 [(1, Hint.b false)], CHint.loop [0, 1, 21, 22] [] 0 (Exit.exit 0) { n := 77, fr := [(0, AV.v (.string s)), (1, AV.v (.int .i64 r))], hp := [], nx := 0 }, CHint.ops 11 [(0, Hint.nil 54)], CHint.loop [0, 1, 7, 33, 34] [0] 1 Exit.ret { n := 77, fr := [(4, AV.v (.slice none 0 0)), (5, AV.v (.int .i64 (3 : Int)))], hp := [], nx := 1 }]) (c := _) (by kernel_rfl) h

theorem parseF6 (s : ByteArray) (r : Int) (x1 : Int) (l1 : List Int) (n1 : Nat) (h : AllP [decide (r < (2 : Int)) = false, decide (r > (36 : Int)) = false, (s.toList == (ByteArray.mk #[]).toList) = false, LoopTo Tryd.prog (loopAt Tryd.f14 0) { n := 77, fr := [(0, AV.v (.string s)), (1, AV.v (.int .i64 r)), (21, AV.v (.int .i64 (↑s.size : Int))), (22, AV.v (.int .i64 (0 : Int)))], hp := [], nx := 0 } Exit.ret { n := 77, fr := [(4, AV.v (.slice none 0 0)), (5, AV.v (.int .i64 x1))], hp := [], nx := 0 }]) : PureTo Tryd.prog 14 [.v (.string s), .v (.int .i64 r)] (AV.tup [AV.sl 1 (.ints .u32 []) false, AV.v (.int .i64 x1)]) :=
  evFn_pure hm sok15 (fn := Tryd.f14) rfl rfl (ti := false) (hs := [CHint.ops 1 [(1, Hint.b false), (4, Hint.b false)], CHint.ops 3 [(1, Hint.b false)], CHint.loop [0, 1, 21, 22] [] 0 Exit.ret { n := 77, fr := [(4, AV.v (.slice none 0 0)), (5, AV.v (.int .i64 x1))], hp := [], nx := 0 }]) (c := _) (by kernel_rfl) h
-- 3 paths

set_option exponentiation.threshold 40000

/-- the digits of m, the least first -/
def tx (r m : Nat) : List Int :=
  if h : 2 ≤ r ∧ m ≠ 0 then byteAt bnWHtab0 (m % r) :: tx r (m / r) else []
  termination_by m
  decreasing_by exact Nat.div_lt_self (by omega) (by omega)

theorem tx_zero (r : Nat) : tx r 0 = [] := by rw [tx]; simp

theorem tx_pos {r m : Nat} (hr : 2 ≤ r) (h : m ≠ 0) : tx r m = byteAt bnWHtab0 (m % r) :: tx r (m / r) := by rw [tx, dif_pos ⟨hr, h⟩]

theorem tx_len (r : Nat) : ∀ (k m : Nat), m < 2 ^ k → (tx r m).length ≤ k := by
  intro k
  induction k with
  | zero => intro m h; have : m = 0 := by simpa using h
            subst this; rw [tx_zero]; exact Nat.le_refl _
  | succ k ih =>
    intro m h
    by_cases hr : 2 ≤ r ∧ m ≠ 0
    · rw [tx_pos hr.1 hr.2, List.length_cons]
      refine Nat.succ_le_succ (ih _ ?_)
      rw [Nat.div_lt_iff_lt_mul (by omega)]
      have h2 : 2 ^ k * 2 ≤ 2 ^ k * r := Nat.mul_le_mul_left _ hr.1
      rw [Nat.pow_succ] at h
      omega
    · rw [tx, dif_neg hr]; exact Nat.zero_le _

theorem dig_length_pos {m : Nat} (h : m ≠ 0) : 0 < (dig m).length := by rw [dig_pos h, List.length_cons]; omega

theorem pow_words (k : Nat) : (4294967296 : Nat) ^ k = 2 ^ (32 * k) := by rw [Nat.pow_mul]

theorem small_bits {m : Nat} (h : big m = false) : m < 2 ^ 32768 := by
  have h1 := small_len h
  have h2 := nat_lt (words_dig m)
  rw [nat_dig, pow_words] at h2
  exact Nat.lt_of_lt_of_le h2 (Nat.pow_le_pow_right (by decide) (by omega))

theorem dig_short {m k : Nat} (h : m < 2 ^ k) : (dig m).length ≤ k := by
  refine Nat.le_of_not_lt fun h1 => ?_
  have h2 := (dig_len k m).1 h1
  have h3 : (2 : Nat) ^ k ≤ 4294967296 ^ k := Nat.pow_le_pow_left (by omega) k
  omega

theorem text_loop (a : List Int) (ta : Bool) (r : Nat) (hr : 2 ≤ r ∧ r ≤ 36) : ∀ (k m : Nat) (l1 : List Int) (t : Bool), m < 2 ^ k → l1.length + k ≤ 1000000 →
    LoopTo Tryd.prog (loopAt Tryd.f13 0) (textS0 a ta r (dig m) l1 0 t) (.exit 0) (textX0 a ta r (l1 ++ tx r m) 0) := by
  intro k
  induction k with
  | zero =>
    intro m l1 t h _
    have : m = 0 := by simpa using h
    subst this
    rw [tx_zero, List.append_nil, dig_zero]
    exact .done (by simp) (textL0_2 a ta r [] l1 0 t ⟨by simp, trivial⟩)
  | succ k ih =>
    intro m l1 t h hl
    by_cases hm : m = 0
    · subst hm
      rw [tx_zero, List.append_nil, dig_zero]
      exact .done (by simp) (textL0_2 a ta r [] l1 0 t ⟨by simp, trivial⟩)
    · have e : ((r : Int) % (4294967296 : Int)) = r := Int.emod_eq_of_lt (by omega) (by omega)
      have hp := dig_length_pos hm
      have hs := dig_short h
      have hmod := Nat.mod_lt m (show r > 0 by omega)
      have hd : m / r < 2 ^ k := by
        rw [Nat.div_lt_iff_lt_mul (by omega)]
        have h2 : 2 ^ k * 2 ≤ 2 ^ k * r := Nat.mul_le_mul_left _ hr.1
        rw [Nat.pow_succ] at h
        omega
      have h1 := textL0_1 a ta r (dig m) l1 0 t (by
        rw [e, Int.toNat_natCast, nat_dig]
        exact ⟨by simp; omega, words_dig m, ⟨by omega, by omega⟩, by unfold lim4; omega, ⟨by omega, by omega⟩, rfl, rfl, by rw [List.length_append, List.length_singleton]; omega, trivial⟩)
      rw [e, Int.toNat_natCast, nat_dig, Int.toNat_natCast] at h1
      have h2 := ih (m / r) (l1 ++ [byteAt bnWHtab0 (m % r)]) false hd (by rw [List.length_append, List.length_singleton]; omega)
      rw [List.append_assoc, List.singleton_append, ← tx_pos hr.1 hm] at h2
      exact .step h1 h2

/-- what Text answers -/
def Txt (a : List Int) (r : Int) : ByteArray × Int :=
  if r < 2 then (ByteArray.mk #[], 1) else if 36 < r then (ByteArray.mk #[], 1) else if over a then (ByteArray.mk #[], 3)
  else if nat a = 0 then (ByteArray.mk #[48], 0) else (strOfInts (tx r.toNat (nat a)).reverse, 0)

theorem text_pure (a : List Int) (ta : Bool) (r : Int) (ha : Words a) (hl : a.length ≤ lim4) : PureTo Tryd.prog 13 [.sl 1 (.ints .u32 a) ta, .v (.int .i64 r)] (.tup [.v (.string (Txt a r).1), .v (.int .i64 (Txt a r).2)]) := by
  have hl2 : a.length < lim := lim4_lt hl
  unfold Txt
  by_cases h1 : r < 2
  · rw [if_pos h1]; exact textF1 a ta r [] 0 ⟨by simpa using h1, trivial⟩
  by_cases h2 : 36 < r
  · rw [if_neg h1, if_pos h2]; exact textF2 a ta r [] 0 ⟨by simpa using h1, by simpa using h2, trivial⟩
  rw [if_neg h1, if_neg h2]
  cases h3 : over a with
  | true => rw [if_pos rfl]; exact textF3 a ta r [] 0 ⟨by simpa using h1, by simpa using h2, h3, hl2, trivial⟩
  | false =>
    rw [if_neg (by simp)]
    by_cases h4 : nat a = 0
    · rw [if_pos h4]
      exact textF4 a ta r [] 0 ⟨by simpa using h1, by simpa using h2, h3, hl2, hl2, by rw [norm_eq ha, h4, dig_zero]; rfl, trivial⟩
    · rw [if_neg h4]
      obtain ⟨R, rfl⟩ : ∃ R : Nat, r = R := ⟨r.toNat, by omega⟩
      rw [Int.toNat_natCast]
      have h5 : big (nat a) = false := by unfold over at h3; unfold big; rw [← norm_eq ha]; exact h3
      have h6 := small_bits h5
      have h7 := tx_len R _ _ h6
      have hloop := text_loop a ta R (by omega) 32768 (nat a) [] true h6 (by simp)
      rw [List.nil_append] at hloop
      refine textF5 a ta R (tx R (nat a)) 0 ⟨by simpa using h1, by simpa using h2, h3, hl2, hl2, ?_, ?_, rfl, rfl, rfl, by omega, by rw [List.length_reverse], by rw [List.length_reverse]; exact Nat.le_refl _, trivial⟩
      · rw [norm_eq ha]
        have := dig_length_pos h4
        clear h6 hloop
        rw [beq_eq_false_iff_ne]
        omega
      · rw [norm_eq ha]; exact hloop

set_option exponentiation.threshold 40000

theorem byteAt_range (s : ByteArray) (i : Nat) : 0 ≤ byteAt s i ∧ byteAt s i < 256 := by
  unfold byteAt
  have := UInt8.toNat_lt (s.data.toList.getD i 0)
  omega

theorem dg_nonneg {c : Int} : 0 ≤ dg c := by unfold dg; (repeat' split) <;> omega

/-- the first i digits' number -/
def pv (s : ByteArray) (r : Nat) : Nat → Nat
  | 0 => 0
  | i + 1 => pv s r i * r + (dg (byteAt s i)).toNat

theorem pv_le (s : ByteArray) {r : Nat} (hr : 2 ≤ r) (i : Nat) : pv s r i ≤ pv s r (i + 1) := by
  rw [pv]
  have : pv s r i * 1 ≤ pv s r i * r := Nat.mul_le_mul_left _ (by omega)
  omega

theorem pv_mono (s : ByteArray) {r : Nat} (hr : 2 ≤ r) (i : Nat) : ∀ f, pv s r i ≤ pv s r (i + f) := by
  intro f
  induction f with
  | zero => exact Nat.le_refl _
  | succ f ih => exact Nat.le_trans ih (pv_le s hr _)

/-- words times r, and c -/
def mulc (r : Int) : List Int → Int → List Int × Int
  | [], c => ([], c)
  | x :: l, c => ((x * r + c) % 4294967296 :: (mulc r l ((x * r + c) / 4294967296)).1, (mulc r l ((x * r + c) / 4294967296)).2)

theorem mulc_word {x c : Int} {R : Nat} (hx : 0 ≤ x ∧ x < 4294967296) (hc : 0 ≤ c ∧ c ≤ 36) (hR : R ≤ 36) :
    0 ≤ x * (R : Int) ∧ x * (R : Int) ≤ 4294967295 * 36 ∧ 0 ≤ (x * (R : Int) + c) / 4294967296 ∧ (x * (R : Int) + c) / 4294967296 ≤ 36 := by
  have h1 : 0 ≤ x * (R : Int) := Int.mul_nonneg hx.1 (by omega)
  have h2 : x * (R : Int) ≤ 4294967295 * 36 := Int.mul_le_mul (by omega) (by omega) (by omega) (by omega)
  refine ⟨h1, h2, by omega, by omega⟩

theorem mulc_is (R : Nat) (hR : R ≤ 36) : ∀ (l : List Int) (c : Int), Words l → 0 ≤ c ∧ c ≤ 36 →
    Words (mulc R l c).1 ∧ (mulc R l c).1.length = l.length ∧ (0 ≤ (mulc R l c).2 ∧ (mulc R l c).2 ≤ 36) ∧ nat ((mulc R l c).1 ++ [(mulc R l c).2]) = nat l * R + c.toNat := by
  intro l
  induction l with
  | nil => intro c _ hc; exact ⟨by simp [mulc, Words], rfl, hc, by simp [mulc, nat]⟩
  | cons x l ih =>
    intro c hw hc
    have hx := hw x List.mem_cons_self
    obtain ⟨b1, b2, b3, b4⟩ := mulc_word hx hc hR
    obtain ⟨i1, i2, i3, i4⟩ := ih _ (words_tail hw) ⟨b3, b4⟩
    rw [mulc]
    refine ⟨?_, by simp [i2], i3, ?_⟩
    · intro y hy
      rcases List.mem_cons.1 hy with rfl | hy
      · exact ⟨by omega, by omega⟩
      · exact i1 y hy
    · rw [List.cons_append, nat, i4, nat]
      obtain ⟨X, rfl⟩ : ∃ X : Nat, x = X := ⟨x.toNat, by omega⟩
      obtain ⟨C, rfl⟩ : ∃ C : Nat, c = C := ⟨c.toNat, by omega⟩
      have e1 : ((X : Int) * (R : Int) + (C : Int)) = ((X * R + C : Nat) : Int) := by rw [Int.natCast_add, Int.natCast_mul]
      rw [e1]
      have hy : (X + 4294967296 * nat l) * R + C = (X * R + C) + 4294967296 * (nat l * R) := by rw [Nat.add_mul, Nat.mul_assoc]; omega
      rw [Int.toNat_natCast, Int.toNat_natCast, hy]
      generalize X * R + C = y at *
      generalize nat l * R = q at *
      rw [show (y : Int) % 4294967296 = ((y % 4294967296 : Nat) : Int) from rfl, show (y : Int) / 4294967296 = ((y / 4294967296 : Nat) : Int) from rfl]
      simp only [Int.toNat_natCast]
      omega

theorem canon {l : List Int} (h : Words l) (hl : l.length ≤ (dig (nat l)).length) : dig (nat l) = l := by
  rw [← norm_eq h] at hl ⊢
  rw [norm_length] at hl
  unfold norm
  exact List.take_of_length_le hl

theorem dig_mono {m n : Nat} (h : m ≤ n) : (dig m).length ≤ (dig n).length := by
  refine Nat.le_of_not_lt fun h1 => ?_
  have h2 := (dig_len _ m).1 h1
  have h3 := (dig_len (dig n).length n).2 (Nat.le_trans h2 h)
  omega

/-- a number's words times R, and d -/
theorem mulc_dig (R : Nat) (hR : 1 ≤ R ∧ R ≤ 36) (m : Nat) (d : Int) (hd : 0 ≤ d ∧ d ≤ 36) :
    dig (m * R + d.toNat) = if 0 < (mulc R (dig m) d).2 then (mulc R (dig m) d).1 ++ [(mulc R (dig m) d).2] else (mulc R (dig m) d).1 := by
  obtain ⟨i1, i2, i3, i4⟩ := mulc_is R hR.2 (dig m) d (words_dig m) hd
  rw [nat_dig] at i4
  generalize (mulc R (dig m) d).1 = o at *
  generalize (mulc R (dig m) d).2 = c at *
  split
  · next h =>
    rw [← i4]
    refine canon (words_append.2 ⟨i1, words_one ⟨by omega, by omega⟩⟩) ?_
    rw [List.length_append, List.length_singleton]
    refine (dig_len _ _).2 ?_
    rw [nat_append, nat_word (by omega)]
    have : 4294967296 ^ o.length * 1 ≤ 4294967296 ^ o.length * c.toNat := Nat.mul_le_mul_left _ (by omega)
    omega
  · next h =>
    have hc : c = 0 := by omega
    subst hc
    rw [nat_append, nat_word (by omega), Int.toNat_zero, Nat.mul_zero, Nat.add_zero] at i4
    rw [← i4]
    refine canon i1 ?_
    rw [i2, i4]
    refine dig_mono ?_
    have : m * 1 ≤ m * R := Nat.mul_le_mul_left _ hR.1
    omega

theorem parse_mul (s : ByteArray) (R : Nat) (hR : R ≤ 36) (x2 : Int) (l0 : List Int) (hl : l0.length ≤ 2000) : ∀ (rest pre : List Int) (c : Int), Words rest → 0 ≤ c ∧ c ≤ 36 → pre.length + rest.length = l0.length →
    LoopTo Tryd.prog (loopAt Tryd.f14 2) (parseS2 s R x2 c pre.length l0 (pre ++ rest) l0.length l0.length) (.exit 4) (parseX2 s R x2 (mulc R rest c).2 (pre ++ (mulc R rest c).1) l0.length l0.length) := by
  intro rest
  induction rest with
  | nil =>
    intro pre c _ hc h
    rw [mulc]
    exact .done (by simp) (parseL2_2 s R x2 c pre.length l0 _ l0.length l0.length ⟨by simp at h; simp; omega, trivial⟩)
  | cons x rest ih =>
    intro pre c hw hc h
    have hx := hw x List.mem_cons_self
    obtain ⟨b1, b2, b3, b4⟩ := mulc_word hx hc hR
    rw [List.length_cons] at h
    have e : (R : Int) % 18446744073709551616 = R := Int.emod_eq_of_lt (by omega) (by omega)
    have eg : (pre ++ x :: rest).getD pre.length 0 = x := by simp [List.getD_eq_getElem?_getD]
    have es : ∀ v : Int, (pre ++ x :: rest).set pre.length v = (pre ++ [v]) ++ rest := fun v => by simp
    have hlen : (pre ++ x :: rest).length = l0.length := by rw [List.length_append, List.length_cons]; omega
    have h1 := parseL2_1 s R x2 c pre.length l0 (pre ++ x :: rest) l0.length l0.length (by
      rw [Int.toNat_natCast, ix0, eg, e]
      exact ⟨by simp; omega, by omega, Nat.le_refl _, inRu64 (by omega) (by omega), inRu64 (by omega) (by omega), inRu64 (by omega) (by omega), by omega, hlen.symm, by omega, inR64 (by omega) (by omega), trivial⟩)
    rw [Int.toNat_natCast, ix0, eg, e, es, hlen] at h1
    have h2 := ih (pre ++ [(x * (R : Int) + c) % 4294967296]) _ (words_tail hw) ⟨b3, b4⟩ (by rw [List.length_append, List.length_singleton]; omega)
    rw [mulc]
    rw [List.length_append, List.length_singleton, List.append_assoc pre _ (mulc _ _ _).1, List.singleton_append] at h2
    exact .step h1 h2

theorem digits_loop (s : ByteArray) (r : Int) (hs : s.size < 9000000000000000) : ∀ (f i : Nat), i + f = s.size → (∀ j, i ≤ j → j < s.size → dg (byteAt s j) < r) →
    LoopTo Tryd.prog (loopAt Tryd.f14 0) (parseS0 s r i) (.exit 0) (parseX0 s r) := by
  intro f
  induction f with
  | zero => intro i hi _; exact .done (by simp) (parseL0_3 s r i ⟨by simp; omega, trivial⟩)
  | succ f ih =>
    intro i hi h
    have hb := byteAt_range s i
    have hd := h i (Nat.le_refl _) (by omega)
    have h1 := parseL0_2 s r i (by rw [Int.toNat_natCast]; exact ⟨by simp; omega, by omega, hb.1, hb.2, by simpa using hd, inR64 (by omega) (by omega), trivial⟩)
    exact .step h1 (ih (i + 1) (by omega) fun j hj => h j (by omega))

theorem digits_bad (s : ByteArray) (r : Int) (hs : s.size < 9000000000000000) : ∀ (f i : Nat), i + f = s.size → (¬ ∀ j, i ≤ j → j < s.size → dg (byteAt s j) < r) →
    LoopTo Tryd.prog (loopAt Tryd.f14 0) (parseS0 s r i) .ret (parseX0_1 s r 4) := by
  intro f
  induction f with
  | zero => intro i hi h; exact absurd (fun j h1 h2 => by omega) h
  | succ f ih =>
    intro i hi h
    have hb := byteAt_range s i
    by_cases hd : dg (byteAt s i) < r
    · have h1 := parseL0_2 s r i (by rw [Int.toNat_natCast]; exact ⟨by simp; omega, by omega, hb.1, hb.2, by simpa using hd, inR64 (by omega) (by omega), trivial⟩)
      refine .step h1 (ih (i + 1) (by omega) fun h2 => h fun j h3 h4 => ?_)
      by_cases h5 : j = i
      · subst h5; exact hd
      · exact h2 j (by omega) h4
    · exact .done (by simp) (parseL0_1 s r i (by rw [Int.toNat_natCast]; exact ⟨by simp; omega, by omega, hb.1, hb.2, by simp; omega, trivial⟩))

set_option exponentiation.threshold 40000

theorem parse_in (s : ByteArray) (R : Nat) (hR : R ≤ 36) (x2 : Int) (m : Nat) (d : Int) (hb : big m = false) (hd : 0 ≤ d ∧ d ≤ 36) (n : Nat) :
    LoopTo Tryd.prog (loopAt Tryd.f14 2) (parseS2 s R x2 d 0 (dig m) (dig m) n (dig m).length) (.exit 4) (parseX2 s R x2 (mulc R (dig m) d).2 (mulc R (dig m) d).1 (mulc R (dig m) d).1.length (mulc R (dig m) d).1.length) := by
  have hl := small_len hb
  obtain ⟨i1, i2, i3, i4⟩ := mulc_is R hR (dig m) d (words_dig m) hd
  have h := parse_mul s R hR x2 (dig m) (by omega) (dig m) [] d (words_dig m) hd (by simp)
  rw [List.nil_append, List.nil_append, List.length_nil, Int.natCast_zero] at h
  rw [i2]
  exact .raise h

section

variable (s : ByteArray) (R : Nat) (hR : 2 ≤ R ∧ R ≤ 36) (hs : s.size < 9000000000000000) (hd : ∀ i, i < s.size → dg (byteAt s i) < R)

include hR hs hd

theorem parse_ok (hb : big (pv s R s.size) = false) : ∀ (f i n : Nat), i + f = s.size →
    LoopTo Tryd.prog (loopAt Tryd.f14 1) (parseS1 s R i (dig (pv s R i)) n) (.exit 2) (parseX1 s R (dig (pv s R s.size)) (dig (pv s R s.size)).length) := by
  intro f
  induction f with
  | zero =>
    intro i n hi
    have : i = s.size := by omega
    subst this
    exact .raise (.done (by simp) (parseL1_5 s R s.size 0 (dig (pv s R s.size)) [] (dig (pv s R s.size)).length 0 0 ⟨by simp, trivial⟩))
  | succ f ih =>
    intro i n hi
    have hbi : ∀ g, i + g ≤ s.size → big (pv s R (i + g)) = false := fun g hg => by
      have := pv_mono s hR.1 (i + g) (s.size - (i + g))
      rw [show i + g + (s.size - (i + g)) = s.size by omega] at this
      cases hh : big (pv s R (i + g)) with
      | false => rfl
      | true => rw [big_mono this hh] at hb; cases hb
    have hb0 := hbi 0 (by omega)
    have hb1 := hbi 1 (by omega)
    rw [Nat.add_zero] at hb0
    have hB := byteAt_range s i
    have hD0 := dg_nonneg (c := byteAt s i)
    have hD1 := hd i (by omega)
    have hin := parse_in s R hR.2 i (pv s R i) (dg (byteAt s i)) hb0 ⟨hD0, by omega⟩ n
    have hm := mulc_dig R ⟨by omega, hR.2⟩ (pv s R i) (dg (byteAt s i)) ⟨hD0, by omega⟩
    have hmi := mulc_is R hR.2 (dig (pv s R i)) (dg (byteAt s i)) (words_dig _) ⟨hD0, by omega⟩
    have hnext := ih (i + 1) (mulc R (dig (pv s R i)) (dg (byteAt s i))).1.length (by omega)
    have hlen := small_len hb1
    rw [pv] at hnext hlen
    have ed : dg (byteAt s i) % 18446744073709551616 = dg (byteAt s i) := Int.emod_eq_of_lt hD0 (by omega)
    generalize mulc R (dig (pv s R i)) (dg (byteAt s i)) = oc at *
    have ec : oc.2 % 4294967296 = oc.2 := Int.emod_eq_of_lt hmi.2.2.1.1 (by omega)
    by_cases hc : 0 < oc.2
    · rw [if_pos hc] at hm
      rw [hm] at hnext hlen
      have h1 := parseL1_2 s R i oc.2 (dig (pv s R i)) oc.1 n oc.1.length oc.1.length (by
        rw [Int.toNat_natCast, ed, ec]
        exact ⟨by simp; omega, by omega, hB.1, hB.2, hin, by simpa using hc, rfl, rfl, by omega, by rw [decide_eq_false_iff_not]; omega, inR64 (by omega) (by omega), trivial⟩)
      rw [ec] at h1
      exact .step h1 hnext
    · rw [if_neg hc] at hm
      rw [hm] at hnext hlen
      have h1 := parseL1_4 s R i oc.2 (dig (pv s R i)) oc.1 n oc.1.length oc.1.length (by
        rw [Int.toNat_natCast, ed]
        exact ⟨by simp; omega, by omega, hB.1, hB.2, hin, by simpa using hc, by rw [decide_eq_false_iff_not]; omega, inR64 (by omega) (by omega), trivial⟩)
      exact .step h1 hnext

theorem parse_long (hb : big (pv s R s.size) = true) : ∀ (f i n : Nat), i + f = s.size → big (pv s R i) = false →
    LoopTo Tryd.prog (loopAt Tryd.f14 1) (parseS1 s R i (dig (pv s R i)) n) .ret (parseX1_1 s R) := by
  intro f
  induction f with
  | zero =>
    intro i n hi hb0
    have : i = s.size := by omega
    subst this
    rw [hb] at hb0
    cases hb0
  | succ f ih =>
    intro i n hi hb0
    have hB := byteAt_range s i
    have hD0 := dg_nonneg (c := byteAt s i)
    have hD1 := hd i (by omega)
    have hin := parse_in s R hR.2 i (pv s R i) (dg (byteAt s i)) hb0 ⟨hD0, by omega⟩ n
    have hm := mulc_dig R ⟨by omega, hR.2⟩ (pv s R i) (dg (byteAt s i)) ⟨hD0, by omega⟩
    have hmi := mulc_is R hR.2 (dig (pv s R i)) (dg (byteAt s i)) (words_dig _) ⟨hD0, by omega⟩
    have hnext := ih (i + 1) (mulc R (dig (pv s R i)) (dg (byteAt s i))).1.length (by omega)
    have hl0 := small_len hb0
    have ed : dg (byteAt s i) % 18446744073709551616 = dg (byteAt s i) := Int.emod_eq_of_lt hD0 (by omega)
    have ebig : big (pv s R (i + 1)) = decide (1024 < (dig (pv s R (i + 1))).length) := rfl
    rw [pv] at hnext ebig
    generalize mulc R (dig (pv s R i)) (dg (byteAt s i)) = oc at *
    have ec : oc.2 % 4294967296 = oc.2 := Int.emod_eq_of_lt hmi.2.2.1.1 (by omega)
    have hl1 := hmi.2.1
    by_cases hc : 0 < oc.2
    · rw [if_pos hc] at hm
      rw [hm] at hnext ebig
      by_cases hl : 1024 < (oc.1 ++ [oc.2]).length
      · exact .done (by simp) (parseL1_1 s R i oc.2 (dig (pv s R i)) oc.1 n oc.1.length oc.1.length (by
          rw [Int.toNat_natCast, ed, ec]
          exact ⟨by simp; omega, by omega, hB.1, hB.2, hin, by simpa using hc, rfl, rfl, by rw [List.length_append, List.length_singleton]; omega, by rw [decide_eq_true_eq]; omega, trivial⟩))
      · rw [decide_eq_false hl] at ebig
        have h1 := parseL1_2 s R i oc.2 (dig (pv s R i)) oc.1 n oc.1.length oc.1.length (by
          rw [Int.toNat_natCast, ed, ec]
          exact ⟨by simp; omega, by omega, hB.1, hB.2, hin, by simpa using hc, rfl, rfl, by omega, by rw [decide_eq_false_iff_not]; omega, inR64 (by omega) (by omega), trivial⟩)
        rw [ec] at h1
        exact .step h1 (hnext ebig)
    · rw [if_neg hc] at hm
      rw [hm] at hnext ebig
      have hl : ¬ 1024 < oc.1.length := by omega
      rw [decide_eq_false hl] at ebig
      have h1 := parseL1_4 s R i oc.2 (dig (pv s R i)) oc.1 n oc.1.length oc.1.length (by
        rw [Int.toNat_natCast, ed]
        exact ⟨by simp; omega, by omega, hB.1, hB.2, hin, by simpa using hc, by rw [decide_eq_false_iff_not]; omega, inR64 (by omega) (by omega), trivial⟩)
      exact .step h1 (hnext ebig)

end

open Classical in
/-- what Parse answers -/
noncomputable def Prs (s : ByteArray) (r : Int) : List Int × Int :=
  if r < 2 then ([], 1) else if 36 < r then ([], 1) else if s.size = 0 then ([], 4) else if ¬ (∀ j, 0 ≤ j → j < s.size → dg (byteAt s j) < r) then ([], 4)
  else if big (pv s r.toNat s.size) then ([], 3) else (dig (pv s r.toNat s.size), 0)

theorem big_zero : big 0 = false := by unfold big; rw [dig_zero]; rfl

theorem loop_length (s : ByteArray) : ∀ (f i : Nat) (r : List UInt8), i + f = s.size → (ByteArray.toList.loop s i r).length = f + r.length := by
  intro f
  induction f with
  | zero => intro i r h; rw [ByteArray.toList.loop, if_neg (by omega), List.length_reverse, Nat.zero_add]
  | succ f ih => intro i r h; rw [ByteArray.toList.loop, if_pos (by omega), ih (i + 1) _ (by omega), List.length_cons]; omega

theorem toList_length (s : ByteArray) : s.toList.length = s.size := by
  rw [ByteArray.toList, loop_length s s.size 0 [] (by omega), List.length_nil, Nat.add_zero]

theorem toList_empty : (ByteArray.mk #[]).toList = [] := List.eq_nil_of_length_eq_zero (toList_length _)

theorem parse_pure (s : ByteArray) (r : Int) (hs : s.size < 9000000000000000) : PureTo Tryd.prog 14 [.v (.string s), .v (.int .i64 r)] (.tup [.sl 1 (.ints .u32 (Prs s r).1) false, .v (.int .i64 (Prs s r).2)]) := by
  unfold Prs
  by_cases h1 : r < 2
  · rw [if_pos h1]; exact parseF1 s r 0 [] 0 ⟨by simpa using h1, trivial⟩
  by_cases h2 : 36 < r
  · rw [if_neg h1, if_pos h2]; exact parseF2 s r 0 [] 0 ⟨by simpa using h1, by simpa using h2, trivial⟩
  rw [if_neg h1, if_neg h2]
  have hl := toList_length s
  by_cases h3 : s.size = 0
  · rw [if_pos h3]
    have h4 : s.toList = [] := List.eq_nil_of_length_eq_zero (by omega)
    exact parseF3 s r 0 [] 0 ⟨by simpa using h1, by simpa using h2, by rw [h4, toList_empty]; rfl, trivial⟩
  have h4 : (s.toList == (ByteArray.mk #[]).toList) = false := by
    rw [beq_eq_false_iff_ne]
    intro h
    rw [h, toList_empty] at hl
    exact h3 hl.symm
  rw [if_neg h3]
  by_cases h5 : ∀ j, 0 ≤ j → j < s.size → dg (byteAt s j) < r
  · rw [if_neg (fun h => h h5)]
    have g1 := digits_loop s r hs s.size 0 (by omega) h5
    obtain ⟨R, rfl⟩ : ∃ R : Nat, r = R := ⟨r.toNat, by omega⟩
    rw [Int.toNat_natCast]
    cases h6 : big (pv s R s.size) with
    | true =>
      rw [if_pos rfl]
      have g2 := parse_long s R (by omega) hs (fun i hi => h5 i (by omega) hi) h6 s.size 0 0 (by omega) big_zero
      rw [pv, dig_zero] at g2
      exact parseF5 s R 0 [] 0 ⟨by simpa using h1, by simpa using h2, h4, g1, g2, trivial⟩
    | false =>
      rw [if_neg (by simp)]
      have g2 := parse_ok s R (by omega) hs (fun i hi => h5 i (by omega) hi) h6 s.size 0 0 (by omega)
      rw [pv, dig_zero] at g2
      exact parseF4 s R 0 _ _ ⟨by simpa using h1, by simpa using h2, h4, g1, g2, rfl, Nat.le_refl _, trivial⟩
  · rw [if_pos h5]
    have g1 := digits_bad s r hs s.size 0 (by omega) h5
    exact parseF6 s r 4 [] 0 ⟨by simpa using h1, by simpa using h2, h4, g1, trivial⟩

def sigText : List AV → Option (AV × List Prop)
  | [.sl 1 (.ints .u32 a) _, .v (.int .i64 r)] => some (.tup [.v (.string (Txt a r).1), .v (.int .i64 (Txt a r).2)], [Words a, a.length ≤ lim4])
  | _ => none

noncomputable def sigParse : List AV → Option (AV × List Prop)
  | [.v (.string s), .v (.int .i64 r)] => some (.tup [.sl 1 (.ints .u32 (Prs s r).1) false, .v (.int .i64 (Prs s r).2)], [s.size < 9000000000000000])
  | _ => none

noncomputable def SG16 : SGT := (13, .p sigText) :: (14, .p sigParse) :: SG15

theorem sok16 : SigsOK Tryd.prog SG16 := by
  refine sigs_cons (sigs_cons sok15 ?_) ?_
  · intro ys r c h hc
    unfold sigParse at h
    split at h
    · cases h; exact parse_pure _ _ hc.1
    · cases h
  · intro ys r c h hc
    unfold sigText at h
    split at h
    · cases h; exact text_pure _ _ _ hc.1 hc.2.1
    · cases h


end Go.Proofs.Bd
