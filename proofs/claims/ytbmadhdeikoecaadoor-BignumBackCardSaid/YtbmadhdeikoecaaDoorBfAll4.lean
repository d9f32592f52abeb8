/- Contracts of the program's functions, and the plain law behind them. No condition beyond those in each statement. -/
import Derived.Test.YtbmadhdeikoecaaDoorBfAll3
import Derived.Test.YtbmadhdeikoecaaDoorEvAll7
import Derived.Test.YtbmadhdeikoecaaDoorEvAll5
set_option linter.unusedSimpArgs false
set_option linter.unusedVariables false
set_option linter.unusedSectionVars false
/- Bignum: floats; the table. -/
set_option maxRecDepth 100000
namespace Go.Proofs.Bf
open Go Go.Ev
noncomputable def BT0 : SGT := SM7 ++ Bd.SG16
theorem boT0 : SigsOK Tryd.prog BT0 := sigs_app soM7 Bd.sok16
end Go.Proofs.Bf

/- Bignum: floats; walks, written by the tool. -/
set_option maxRecDepth 100000
namespace Go.Proofs.Bf
open Go Go.Ev

-- 2 paths
theorem tz1 (x : Nat) (h : AllP [((↑x : Int) == (0 : Int)) = true]) : PureTo Tryd.prog 20 [.v (.int .u64 x)] (AV.v (.int .i64 (64 : Int))) :=
  evFn_pure hm boT0 (fn := Tryd.f20) rfl rfl (ti := false) (hs := [CHint.ops 1 [(1, Hint.b true)]]) (c := _) (by kernel_rfl) h
theorem tz2 (x : Nat) (h : AllP [((↑x : Int) == (0 : Int)) = false, (0 : Int) ≤ (58 : Int), (0 : Int) ≤ bitsOf BinOp.and IntKind.u64 (↑x : Int) (((0 : Int) - (↑x : Int)) % (18446744073709551616 : Int)) * (285870213051353865 : Int) % (18446744073709551616 : Int) / (288230376151711744 : Int) ∧ bitsOf BinOp.and IntKind.u64 (↑x : Int) (((0 : Int) - (↑x : Int)) % (18446744073709551616 : Int)) * (285870213051353865 : Int) % (18446744073709551616 : Int) / (288230376151711744 : Int) < (64 : Int), inR IntKind.i64 (Bd.bruijn.getD (bitsOf BinOp.and IntKind.u64 (↑x : Int) (((0 : Int) - (↑x : Int)) % (18446744073709551616 : Int)) * (285870213051353865 : Int) % (18446744073709551616 : Int) / (288230376151711744 : Int)).toNat (0 : Int))]) : PureTo Tryd.prog 20 [.v (.int .u64 x)] (AV.v (.int .i64 (Bd.bruijn.getD (bitsOf BinOp.and IntKind.u64 (↑x : Int) (((0 : Int) - (↑x : Int)) % (18446744073709551616 : Int)) * (285870213051353865 : Int) % (18446744073709551616 : Int) / (288230376151711744 : Int)).toNat (0 : Int)))) :=
  evFn_pure hm boT0 (fn := Tryd.f20) rfl rfl (ti := false) (hs := [CHint.ops 1 [(1, Hint.b false)], CHint.ops 3 [(2, Hint.wrap), (4, Hint.wrap)]]) (c := _) (by kernel_rfl) h
-- 21 paths
theorem nearZ1 (a : List Int) (ta : Bool) (m : Nat) (h : AllP [Bn.Words a, a.length ≤ Bn.lim4, ((↑(Bn.bl (Bn.nat a)) : Int) == (0 : Int)) = true]) : PureTo Tryd.prog 29 [.sl 1 (.ints .u32 a) ta, .v (.int .i64 0)] (AV.v (.float FloatKind.f64 0)) :=
  evFn_pure hm boT0 (fn := Tryd.f29) rfl rfl (ti := false) (hs := [CHint.ops 2 [(1, Hint.b true)]]) (c := _) (by kernel_rfl) h
theorem nearZ2 (a : List Int) (ta : Bool) (m : Nat) (h : AllP [Bn.Words a, a.length ≤ Bn.lim4, ((↑(Bn.bl (Bn.nat a)) : Int) == (0 : Int)) = false, inR IntKind.i64 ((↑(Bn.bl (Bn.nat a)) : Int) + (0 : Int)), decide ((↑(Bn.bl (Bn.nat a)) : Int) + (0 : Int) > (1024 : Int)) = true]) : PureTo Tryd.prog 29 [.sl 1 (.ints .u32 a) ta, .v (.int .i64 0)] (AV.v (.float FloatKind.f64 9218868437227405312)) :=
  evFn_pure hm boT0 (fn := Tryd.f29) rfl rfl (ti := false) (hs := [CHint.ops 2 [(1, Hint.b false)], CHint.ops 4 [(3, Hint.b true)]]) (c := _) (by kernel_rfl) h
theorem nearZ3 (a : List Int) (ta : Bool) (m : Nat) (h : AllP [Bn.Words a, a.length ≤ Bn.lim4, ((↑(Bn.bl (Bn.nat a)) : Int) == (0 : Int)) = false, inR IntKind.i64 ((↑(Bn.bl (Bn.nat a)) : Int) + (0 : Int)), decide ((↑(Bn.bl (Bn.nat a)) : Int) + (0 : Int) > (1024 : Int)) = false, inR IntKind.i64 ((↑(Bn.bl (Bn.nat a)) : Int) - (53 : Int)), inR IntKind.i64 ((↑(Bn.bl (Bn.nat a)) : Int) - (53 : Int) + (0 : Int)), decide ((↑(Bn.bl (Bn.nat a)) : Int) - (53 : Int) + (0 : Int) < (-1074 : Int)) = true, inR IntKind.i64 ((-1074 : Int) - (0 : Int)), a.length ≤ Bn.lim4, inR IntKind.i64 ((↑(Bn.norm a).length : Int) - (1 : Int)), LoopTo Tryd.prog (loopAt Tryd.f29 0) { n := 113, fr := [(1, AV.v (.int .i64 (0 : Int))), (7, AV.v (.float FloatKind.f64 0)), (8, AV.sl 1 (.ints .u32 (Bn.norm a)) false), (9, AV.v (.int .i64 ((↑(Bn.norm a).length : Int) - (1 : Int))))], hp := [], nx := 0 } (Exit.exit 0) { n := 113, fr := [(1, AV.v (.int .i64 (0 : Int))), (7, AV.fl FloatKind.f64 m)], hp := [], nx := 0 }, W m, (-4611686018427387904 : Int) ≤ (0 : Int), (0 : Int) ≤ (4611686018427387904 : Int), ¬nanB FloatKind.f64 m]) : PureTo Tryd.prog 29 [.sl 1 (.ints .u32 a) ta, .v (.int .i64 0)] (AV.fl FloatKind.f64 (ldexpW m (0 : Int))) :=
  evFn_pure hm boT0 (fn := Tryd.f29) rfl rfl (ti := false) (hs := [CHint.ops 2 [(1, Hint.b false)], CHint.ops 4 [(3, Hint.b false)], CHint.ops 7 [(3, Hint.b true)], CHint.loop [1, 7, 8, 9] [] 0 (Exit.exit 0) { n := 113, fr := [(1, AV.v (.int .i64 (0 : Int))), (7, AV.fl FloatKind.f64 m)], hp := [], nx := 0 }]) (c := _) (by kernel_rfl) h
theorem nearZ4 (a : List Int) (ta : Bool) (m : Nat) (h : AllP [Bn.Words a, a.length ≤ Bn.lim4, ((↑(Bn.bl (Bn.nat a)) : Int) == (0 : Int)) = false, inR IntKind.i64 ((↑(Bn.bl (Bn.nat a)) : Int) + (0 : Int)), decide ((↑(Bn.bl (Bn.nat a)) : Int) + (0 : Int) > (1024 : Int)) = false, inR IntKind.i64 ((↑(Bn.bl (Bn.nat a)) : Int) - (53 : Int)), inR IntKind.i64 ((↑(Bn.bl (Bn.nat a)) : Int) - (53 : Int) + (0 : Int)), decide ((↑(Bn.bl (Bn.nat a)) : Int) - (53 : Int) + (0 : Int) < (-1074 : Int)) = false, decide ((↑(Bn.bl (Bn.nat a)) : Int) - (53 : Int) ≤ (0 : Int)) = true, a.length ≤ Bn.lim4, inR IntKind.i64 ((↑(Bn.norm a).length : Int) - (1 : Int)), LoopTo Tryd.prog (loopAt Tryd.f29 0) { n := 113, fr := [(1, AV.v (.int .i64 (0 : Int))), (7, AV.v (.float FloatKind.f64 0)), (8, AV.sl 1 (.ints .u32 (Bn.norm a)) false), (9, AV.v (.int .i64 ((↑(Bn.norm a).length : Int) - (1 : Int))))], hp := [], nx := 0 } (Exit.exit 0) { n := 113, fr := [(1, AV.v (.int .i64 (0 : Int))), (7, AV.fl FloatKind.f64 m)], hp := [], nx := 0 }, W m, (-4611686018427387904 : Int) ≤ (0 : Int), (0 : Int) ≤ (4611686018427387904 : Int), ¬nanB FloatKind.f64 m]) : PureTo Tryd.prog 29 [.sl 1 (.ints .u32 a) ta, .v (.int .i64 0)] (AV.fl FloatKind.f64 (ldexpW m (0 : Int))) :=
  evFn_pure hm boT0 (fn := Tryd.f29) rfl rfl (ti := false) (hs := [CHint.ops 2 [(1, Hint.b false)], CHint.ops 4 [(3, Hint.b false)], CHint.ops 7 [(3, Hint.b false)], CHint.ops 9 [(1, Hint.b true)], CHint.loop [1, 7, 8, 9] [] 0 (Exit.exit 0) { n := 113, fr := [(1, AV.v (.int .i64 (0 : Int))), (7, AV.fl FloatKind.f64 m)], hp := [], nx := 0 }]) (c := _) (by kernel_rfl) h
theorem nearZ5 (a : List Int) (ta : Bool) (m : Nat) (h : AllP [Bn.Words a, a.length ≤ Bn.lim4, ((↑(Bn.bl (Bn.nat a)) : Int) == (0 : Int)) = false, inR IntKind.i64 ((↑(Bn.bl (Bn.nat a)) : Int) + (0 : Int)), decide ((↑(Bn.bl (Bn.nat a)) : Int) + (0 : Int) > (1024 : Int)) = false, inR IntKind.i64 ((↑(Bn.bl (Bn.nat a)) : Int) - (53 : Int)), inR IntKind.i64 ((↑(Bn.bl (Bn.nat a)) : Int) - (53 : Int) + (0 : Int)), decide ((↑(Bn.bl (Bn.nat a)) : Int) - (53 : Int) + (0 : Int) < (-1074 : Int)) = false, decide ((↑(Bn.bl (Bn.nat a)) : Int) - (53 : Int) ≤ (0 : Int)) = false, inR IntKind.i64 ((↑(Bn.bl (Bn.nat a)) : Int) + (1 : Int)), decide ((↑(Bn.bl (Bn.nat a)) : Int) - (53 : Int) > (↑(Bn.bl (Bn.nat a)) : Int) + (1 : Int)) = true]) : PureTo Tryd.prog 29 [.sl 1 (.ints .u32 a) ta, .v (.int .i64 0)] (AV.v (.float FloatKind.f64 0)) :=
  evFn_pure hm boT0 (fn := Tryd.f29) rfl rfl (ti := false) (hs := [CHint.ops 2 [(1, Hint.b false)], CHint.ops 4 [(3, Hint.b false)], CHint.ops 7 [(3, Hint.b false)], CHint.ops 9 [(1, Hint.b false)], CHint.ops 17 [(3, Hint.b true)]]) (c := _) (by kernel_rfl) h
theorem nearZ6 (a : List Int) (ta : Bool) (m : Nat) (h : AllP [Bn.Words a, a.length ≤ Bn.lim4, ((↑(Bn.bl (Bn.nat a)) : Int) == (0 : Int)) = false, inR IntKind.i64 ((↑(Bn.bl (Bn.nat a)) : Int) + (0 : Int)), decide ((↑(Bn.bl (Bn.nat a)) : Int) + (0 : Int) > (1024 : Int)) = false, inR IntKind.i64 ((↑(Bn.bl (Bn.nat a)) : Int) - (53 : Int)), inR IntKind.i64 ((↑(Bn.bl (Bn.nat a)) : Int) - (53 : Int) + (0 : Int)), decide ((↑(Bn.bl (Bn.nat a)) : Int) - (53 : Int) + (0 : Int) < (-1074 : Int)) = false, decide ((↑(Bn.bl (Bn.nat a)) : Int) - (53 : Int) ≤ (0 : Int)) = false, inR IntKind.i64 ((↑(Bn.bl (Bn.nat a)) : Int) + (1 : Int)), decide ((↑(Bn.bl (Bn.nat a)) : Int) - (53 : Int) > (↑(Bn.bl (Bn.nat a)) : Int) + (1 : Int)) = false, Bn.Words a, a.length ≤ Bn.lim4, (Bn.ShrN (Bn.nat a) ((↑(Bn.bl (Bn.nat a)) : Int) - (53 : Int))).snd = true, inR IntKind.i64 ((↑(Bn.bl (Bn.nat a)) : Int) - (53 : Int) - (1 : Int)), Bn.Words a, a.length ≤ Bn.lim4, (Bn.ShrN (Bn.nat a) ((↑(Bn.bl (Bn.nat a)) : Int) - (53 : Int) - (1 : Int))).snd = true, decide ((↑(Bn.ShrN (Bn.nat a) ((↑(Bn.bl (Bn.nat a)) : Int) - (53 : Int) - (1 : Int))).fst.length : Int) > (0 : Int)) = true, (0 : Int) ≤ (0 : Int) ∧ (0 : Int) < (↑(Bn.ShrN (Bn.nat a) ((↑(Bn.bl (Bn.nat a)) : Int) - (53 : Int) - (1 : Int))).fst.length : Int), (bitsOf BinOp.and IntKind.u32 ((Bn.ShrN (Bn.nat a) ((↑(Bn.bl (Bn.nat a)) : Int) - (53 : Int) - (1 : Int))).fst.getD 0 (0 : Int)) (1 : Int) == (1 : Int)) = true, Bn.Words (Bn.ShrN (Bn.nat a) ((↑(Bn.bl (Bn.nat a)) : Int) - (53 : Int))).fst, Bn.Words [(1 : Int)], (Bn.ShrN (Bn.nat a) ((↑(Bn.bl (Bn.nat a)) : Int) - (53 : Int))).fst.length + 1 ≤ Bn.lim4, 2 ≤ Bn.lim4, Bn.Words (Bn.dig (Bn.nat (Bn.ShrN (Bn.nat a) ((↑(Bn.bl (Bn.nat a)) : Int) - (53 : Int))).fst + Bn.nat [(1 : Int)])), (0 : Int) ≤ (1 : Int), (0 : Int) ≤ (32 : Int), inR IntKind.u64 (Bn.wd (Bn.dig (Bn.nat (Bn.ShrN (Bn.nat a) ((↑(Bn.bl (Bn.nat a)) : Int) - (53 : Int))).fst + Bn.nat [(1 : Int)])) (1 : Int) * (4294967296 : Int)), Bn.Words (Bn.dig (Bn.nat (Bn.ShrN (Bn.nat a) ((↑(Bn.bl (Bn.nat a)) : Int) - (53 : Int))).fst + Bn.nat [(1 : Int)])), (0 : Int) ≤ (0 : Int), inR IntKind.i64 ((0 : Int) + ((↑(Bn.bl (Bn.nat a)) : Int) - (53 : Int))), W (fofI (bitsOf BinOp.or IntKind.u64 (Bn.wd (Bn.dig (Bn.nat (Bn.ShrN (Bn.nat a) ((↑(Bn.bl (Bn.nat a)) : Int) - (53 : Int))).fst + Bn.nat [(1 : Int)])) (1 : Int) * (4294967296 : Int)) (Bn.wd (Bn.dig (Bn.nat (Bn.ShrN (Bn.nat a) ((↑(Bn.bl (Bn.nat a)) : Int) - (53 : Int))).fst + Bn.nat [(1 : Int)])) (0 : Int)))), (-4611686018427387904 : Int) ≤ (0 : Int) + ((↑(Bn.bl (Bn.nat a)) : Int) - (53 : Int)), (0 : Int) + ((↑(Bn.bl (Bn.nat a)) : Int) - (53 : Int)) ≤ (4611686018427387904 : Int)]) : PureTo Tryd.prog 29 [.sl 1 (.ints .u32 a) ta, .v (.int .i64 0)] (AV.fl FloatKind.f64 (ldexpW (fofI (bitsOf BinOp.or IntKind.u64 (Bn.wd (Bn.dig (Bn.nat (Bn.ShrN (Bn.nat a) ((↑(Bn.bl (Bn.nat a)) : Int) - (53 : Int))).fst + Bn.nat [(1 : Int)])) (1 : Int) * (4294967296 : Int)) (Bn.wd (Bn.dig (Bn.nat (Bn.ShrN (Bn.nat a) ((↑(Bn.bl (Bn.nat a)) : Int) - (53 : Int))).fst + Bn.nat [(1 : Int)])) (0 : Int)))) ((0 : Int) + ((↑(Bn.bl (Bn.nat a)) : Int) - (53 : Int))))) :=
  evFn_pure hm boT0 (fn := Tryd.f29) rfl rfl (ti := false) (hs := [CHint.ops 2 [(1, Hint.b false)], CHint.ops 4 [(3, Hint.b false)], CHint.ops 7 [(3, Hint.b false)], CHint.ops 9 [(1, Hint.b false)], CHint.ops 17 [(3, Hint.b false)], CHint.ops 19 [(5, Hint.b true)], CHint.ops 20 [(6, Hint.b true)], CHint.ops 21 [(2, Hint.b true), (8, Hint.b true)]]) (c := _) (by kernel_rfl) h
theorem nearZ7 (a : List Int) (ta : Bool) (m : Nat) (h : AllP [Bn.Words a, a.length ≤ Bn.lim4, ((↑(Bn.bl (Bn.nat a)) : Int) == (0 : Int)) = false, inR IntKind.i64 ((↑(Bn.bl (Bn.nat a)) : Int) + (0 : Int)), decide ((↑(Bn.bl (Bn.nat a)) : Int) + (0 : Int) > (1024 : Int)) = false, inR IntKind.i64 ((↑(Bn.bl (Bn.nat a)) : Int) - (53 : Int)), inR IntKind.i64 ((↑(Bn.bl (Bn.nat a)) : Int) - (53 : Int) + (0 : Int)), decide ((↑(Bn.bl (Bn.nat a)) : Int) - (53 : Int) + (0 : Int) < (-1074 : Int)) = false, decide ((↑(Bn.bl (Bn.nat a)) : Int) - (53 : Int) ≤ (0 : Int)) = false, inR IntKind.i64 ((↑(Bn.bl (Bn.nat a)) : Int) + (1 : Int)), decide ((↑(Bn.bl (Bn.nat a)) : Int) - (53 : Int) > (↑(Bn.bl (Bn.nat a)) : Int) + (1 : Int)) = false, Bn.Words a, a.length ≤ Bn.lim4, (Bn.ShrN (Bn.nat a) ((↑(Bn.bl (Bn.nat a)) : Int) - (53 : Int))).snd = true, inR IntKind.i64 ((↑(Bn.bl (Bn.nat a)) : Int) - (53 : Int) - (1 : Int)), Bn.Words a, a.length ≤ Bn.lim4, (Bn.ShrN (Bn.nat a) ((↑(Bn.bl (Bn.nat a)) : Int) - (53 : Int) - (1 : Int))).snd = true, decide ((↑(Bn.ShrN (Bn.nat a) ((↑(Bn.bl (Bn.nat a)) : Int) - (53 : Int) - (1 : Int))).fst.length : Int) > (0 : Int)) = true, (0 : Int) ≤ (0 : Int) ∧ (0 : Int) < (↑(Bn.ShrN (Bn.nat a) ((↑(Bn.bl (Bn.nat a)) : Int) - (53 : Int) - (1 : Int))).fst.length : Int), (bitsOf BinOp.and IntKind.u32 ((Bn.ShrN (Bn.nat a) ((↑(Bn.bl (Bn.nat a)) : Int) - (53 : Int) - (1 : Int))).fst.getD 0 (0 : Int)) (1 : Int) == (1 : Int)) = false, Bn.Words (Bn.ShrN (Bn.nat a) ((↑(Bn.bl (Bn.nat a)) : Int) - (53 : Int))).fst, (0 : Int) ≤ (1 : Int), (0 : Int) ≤ (32 : Int), inR IntKind.u64 (Bn.wd (Bn.ShrN (Bn.nat a) ((↑(Bn.bl (Bn.nat a)) : Int) - (53 : Int))).fst (1 : Int) * (4294967296 : Int)), Bn.Words (Bn.ShrN (Bn.nat a) ((↑(Bn.bl (Bn.nat a)) : Int) - (53 : Int))).fst, (0 : Int) ≤ (0 : Int), inR IntKind.i64 ((0 : Int) + ((↑(Bn.bl (Bn.nat a)) : Int) - (53 : Int))), W (fofI (bitsOf BinOp.or IntKind.u64 (Bn.wd (Bn.ShrN (Bn.nat a) ((↑(Bn.bl (Bn.nat a)) : Int) - (53 : Int))).fst (1 : Int) * (4294967296 : Int)) (Bn.wd (Bn.ShrN (Bn.nat a) ((↑(Bn.bl (Bn.nat a)) : Int) - (53 : Int))).fst (0 : Int)))), (-4611686018427387904 : Int) ≤ (0 : Int) + ((↑(Bn.bl (Bn.nat a)) : Int) - (53 : Int)), (0 : Int) + ((↑(Bn.bl (Bn.nat a)) : Int) - (53 : Int)) ≤ (4611686018427387904 : Int)]) : PureTo Tryd.prog 29 [.sl 1 (.ints .u32 a) ta, .v (.int .i64 0)] (AV.fl FloatKind.f64 (ldexpW (fofI (bitsOf BinOp.or IntKind.u64 (Bn.wd (Bn.ShrN (Bn.nat a) ((↑(Bn.bl (Bn.nat a)) : Int) - (53 : Int))).fst (1 : Int) * (4294967296 : Int)) (Bn.wd (Bn.ShrN (Bn.nat a) ((↑(Bn.bl (Bn.nat a)) : Int) - (53 : Int))).fst (0 : Int)))) ((0 : Int) + ((↑(Bn.bl (Bn.nat a)) : Int) - (53 : Int))))) :=
  evFn_pure hm boT0 (fn := Tryd.f29) rfl rfl (ti := false) (hs := [CHint.ops 2 [(1, Hint.b false)], CHint.ops 4 [(3, Hint.b false)], CHint.ops 7 [(3, Hint.b false)], CHint.ops 9 [(1, Hint.b false)], CHint.ops 17 [(3, Hint.b false)], CHint.ops 19 [(5, Hint.b true)], CHint.ops 20 [(6, Hint.b true)], CHint.ops 21 [(2, Hint.b true), (8, Hint.b false)]]) (c := _) (by kernel_rfl) h
theorem nearZ8 (a : List Int) (ta : Bool) (m : Nat) (h : AllP [Bn.Words a, a.length ≤ Bn.lim4, ((↑(Bn.bl (Bn.nat a)) : Int) == (0 : Int)) = false, inR IntKind.i64 ((↑(Bn.bl (Bn.nat a)) : Int) + (0 : Int)), decide ((↑(Bn.bl (Bn.nat a)) : Int) + (0 : Int) > (1024 : Int)) = false, inR IntKind.i64 ((↑(Bn.bl (Bn.nat a)) : Int) - (53 : Int)), inR IntKind.i64 ((↑(Bn.bl (Bn.nat a)) : Int) - (53 : Int) + (0 : Int)), decide ((↑(Bn.bl (Bn.nat a)) : Int) - (53 : Int) + (0 : Int) < (-1074 : Int)) = false, decide ((↑(Bn.bl (Bn.nat a)) : Int) - (53 : Int) ≤ (0 : Int)) = false, inR IntKind.i64 ((↑(Bn.bl (Bn.nat a)) : Int) + (1 : Int)), decide ((↑(Bn.bl (Bn.nat a)) : Int) - (53 : Int) > (↑(Bn.bl (Bn.nat a)) : Int) + (1 : Int)) = false, Bn.Words a, a.length ≤ Bn.lim4, (Bn.ShrN (Bn.nat a) ((↑(Bn.bl (Bn.nat a)) : Int) - (53 : Int))).snd = true, inR IntKind.i64 ((↑(Bn.bl (Bn.nat a)) : Int) - (53 : Int) - (1 : Int)), Bn.Words a, a.length ≤ Bn.lim4, (Bn.ShrN (Bn.nat a) ((↑(Bn.bl (Bn.nat a)) : Int) - (53 : Int) - (1 : Int))).snd = true, decide ((↑(Bn.ShrN (Bn.nat a) ((↑(Bn.bl (Bn.nat a)) : Int) - (53 : Int) - (1 : Int))).fst.length : Int) > (0 : Int)) = false, Bn.Words (Bn.ShrN (Bn.nat a) ((↑(Bn.bl (Bn.nat a)) : Int) - (53 : Int))).fst, (0 : Int) ≤ (1 : Int), (0 : Int) ≤ (32 : Int), inR IntKind.u64 (Bn.wd (Bn.ShrN (Bn.nat a) ((↑(Bn.bl (Bn.nat a)) : Int) - (53 : Int))).fst (1 : Int) * (4294967296 : Int)), Bn.Words (Bn.ShrN (Bn.nat a) ((↑(Bn.bl (Bn.nat a)) : Int) - (53 : Int))).fst, (0 : Int) ≤ (0 : Int), inR IntKind.i64 ((0 : Int) + ((↑(Bn.bl (Bn.nat a)) : Int) - (53 : Int))), W (fofI (bitsOf BinOp.or IntKind.u64 (Bn.wd (Bn.ShrN (Bn.nat a) ((↑(Bn.bl (Bn.nat a)) : Int) - (53 : Int))).fst (1 : Int) * (4294967296 : Int)) (Bn.wd (Bn.ShrN (Bn.nat a) ((↑(Bn.bl (Bn.nat a)) : Int) - (53 : Int))).fst (0 : Int)))), (-4611686018427387904 : Int) ≤ (0 : Int) + ((↑(Bn.bl (Bn.nat a)) : Int) - (53 : Int)), (0 : Int) + ((↑(Bn.bl (Bn.nat a)) : Int) - (53 : Int)) ≤ (4611686018427387904 : Int)]) : PureTo Tryd.prog 29 [.sl 1 (.ints .u32 a) ta, .v (.int .i64 0)] (AV.fl FloatKind.f64 (ldexpW (fofI (bitsOf BinOp.or IntKind.u64 (Bn.wd (Bn.ShrN (Bn.nat a) ((↑(Bn.bl (Bn.nat a)) : Int) - (53 : Int))).fst (1 : Int) * (4294967296 : Int)) (Bn.wd (Bn.ShrN (Bn.nat a) ((↑(Bn.bl (Bn.nat a)) : Int) - (53 : Int))).fst (0 : Int)))) ((0 : Int) + ((↑(Bn.bl (Bn.nat a)) : Int) - (53 : Int))))) :=
  evFn_pure hm boT0 (fn := Tryd.f29) rfl rfl (ti := false) (hs := [CHint.ops 2 [(1, Hint.b false)], CHint.ops 4 [(3, Hint.b false)], CHint.ops 7 [(3, Hint.b false)], CHint.ops 9 [(1, Hint.b false)], CHint.ops 17 [(3, Hint.b false)], CHint.ops 19 [(5, Hint.b true)], CHint.ops 20 [(6, Hint.b true)], CHint.ops 21 [(2, Hint.b false)]]) (c := _) (by kernel_rfl) h
theorem nearZ9 (a : List Int) (ta : Bool) (m : Nat) (h : AllP [Bn.Words a, a.length ≤ Bn.lim4, ((↑(Bn.bl (Bn.nat a)) : Int) == (0 : Int)) = false, inR IntKind.i64 ((↑(Bn.bl (Bn.nat a)) : Int) + (0 : Int)), decide ((↑(Bn.bl (Bn.nat a)) : Int) + (0 : Int) > (1024 : Int)) = false, inR IntKind.i64 ((↑(Bn.bl (Bn.nat a)) : Int) - (53 : Int)), inR IntKind.i64 ((↑(Bn.bl (Bn.nat a)) : Int) - (53 : Int) + (0 : Int)), decide ((↑(Bn.bl (Bn.nat a)) : Int) - (53 : Int) + (0 : Int) < (-1074 : Int)) = false, decide ((↑(Bn.bl (Bn.nat a)) : Int) - (53 : Int) ≤ (0 : Int)) = false, inR IntKind.i64 ((↑(Bn.bl (Bn.nat a)) : Int) + (1 : Int)), decide ((↑(Bn.bl (Bn.nat a)) : Int) - (53 : Int) > (↑(Bn.bl (Bn.nat a)) : Int) + (1 : Int)) = false, Bn.Words a, a.length ≤ Bn.lim4, (Bn.ShrN (Bn.nat a) ((↑(Bn.bl (Bn.nat a)) : Int) - (53 : Int))).snd = true, inR IntKind.i64 ((↑(Bn.bl (Bn.nat a)) : Int) - (53 : Int) - (1 : Int)), Bn.Words a, a.length ≤ Bn.lim4, (Bn.ShrN (Bn.nat a) ((↑(Bn.bl (Bn.nat a)) : Int) - (53 : Int) - (1 : Int))).snd = false, decide ((↑(Bn.ShrN (Bn.nat a) ((↑(Bn.bl (Bn.nat a)) : Int) - (53 : Int) - (1 : Int))).fst.length : Int) > (0 : Int)) = true, (0 : Int) ≤ (0 : Int) ∧ (0 : Int) < (↑(Bn.ShrN (Bn.nat a) ((↑(Bn.bl (Bn.nat a)) : Int) - (53 : Int) - (1 : Int))).fst.length : Int), (bitsOf BinOp.and IntKind.u32 ((Bn.ShrN (Bn.nat a) ((↑(Bn.bl (Bn.nat a)) : Int) - (53 : Int) - (1 : Int))).fst.getD 0 (0 : Int)) (1 : Int) == (1 : Int)) = true, decide ((↑(Bn.ShrN (Bn.nat a) ((↑(Bn.bl (Bn.nat a)) : Int) - (53 : Int))).fst.length : Int) > (0 : Int)) = true, (0 : Int) ≤ (0 : Int) ∧ (0 : Int) < (↑(Bn.ShrN (Bn.nat a) ((↑(Bn.bl (Bn.nat a)) : Int) - (53 : Int))).fst.length : Int), (bitsOf BinOp.and IntKind.u32 ((Bn.ShrN (Bn.nat a) ((↑(Bn.bl (Bn.nat a)) : Int) - (53 : Int))).fst.getD 0 (0 : Int)) (1 : Int) == (1 : Int)) = true, Bn.Words (Bn.ShrN (Bn.nat a) ((↑(Bn.bl (Bn.nat a)) : Int) - (53 : Int))).fst, Bn.Words [(1 : Int)], (Bn.ShrN (Bn.nat a) ((↑(Bn.bl (Bn.nat a)) : Int) - (53 : Int))).fst.length + 1 ≤ Bn.lim4, 2 ≤ Bn.lim4, Bn.Words (Bn.dig (Bn.nat (Bn.ShrN (Bn.nat a) ((↑(Bn.bl (Bn.nat a)) : Int) - (53 : Int))).fst + Bn.nat [(1 : Int)])), (0 : Int) ≤ (1 : Int), (0 : Int) ≤ (32 : Int), inR IntKind.u64 (Bn.wd (Bn.dig (Bn.nat (Bn.ShrN (Bn.nat a) ((↑(Bn.bl (Bn.nat a)) : Int) - (53 : Int))).fst + Bn.nat [(1 : Int)])) (1 : Int) * (4294967296 : Int)), Bn.Words (Bn.dig (Bn.nat (Bn.ShrN (Bn.nat a) ((↑(Bn.bl (Bn.nat a)) : Int) - (53 : Int))).fst + Bn.nat [(1 : Int)])), (0 : Int) ≤ (0 : Int), inR IntKind.i64 ((0 : Int) + ((↑(Bn.bl (Bn.nat a)) : Int) - (53 : Int))), W (fofI (bitsOf BinOp.or IntKind.u64 (Bn.wd (Bn.dig (Bn.nat (Bn.ShrN (Bn.nat a) ((↑(Bn.bl (Bn.nat a)) : Int) - (53 : Int))).fst + Bn.nat [(1 : Int)])) (1 : Int) * (4294967296 : Int)) (Bn.wd (Bn.dig (Bn.nat (Bn.ShrN (Bn.nat a) ((↑(Bn.bl (Bn.nat a)) : Int) - (53 : Int))).fst + Bn.nat [(1 : Int)])) (0 : Int)))), (-4611686018427387904 : Int) ≤ (0 : Int) + ((↑(Bn.bl (Bn.nat a)) : Int) - (53 : Int)), (0 : Int) + ((↑(Bn.bl (Bn.nat a)) : Int) - (53 : Int)) ≤ (4611686018427387904 : Int)]) : PureTo Tryd.prog 29 [.sl 1 (.ints .u32 a) ta, .v (.int .i64 0)] (AV.fl FloatKind.f64 (ldexpW (fofI (bitsOf BinOp.or IntKind.u64 (Bn.wd (Bn.dig (Bn.nat (Bn.ShrN (Bn.nat a) ((↑(Bn.bl (Bn.nat a)) : Int) - (53 : Int))).fst + Bn.nat [(1 : Int)])) (1 : Int) * (4294967296 : Int)) (Bn.wd (Bn.dig (Bn.nat (Bn.ShrN (Bn.nat a) ((↑(Bn.bl (Bn.nat a)) : Int) - (53 : Int))).fst + Bn.nat [(1 : Int)])) (0 : Int)))) ((0 : Int) + ((↑(Bn.bl (Bn.nat a)) : Int) - (53 : Int))))) :=
  evFn_pure hm boT0 (fn := Tryd.f29) rfl rfl (ti := false) (hs := [CHint.ops 2 [(1, Hint.b false)], CHint.ops 4 [(3, Hint.b false)], CHint.ops 7 [(3, Hint.b false)], CHint.ops 9 [(1, Hint.b false)], CHint.ops 17 [(3, Hint.b false)], CHint.ops 19 [(5, Hint.b true)], CHint.ops 20 [(6, Hint.b false)], CHint.ops 21 [(2, Hint.b true), (8, Hint.b true), (15, Hint.b true), (21, Hint.b true)]]) (c := _) (by kernel_rfl) h
theorem nearZ10 (a : List Int) (ta : Bool) (m : Nat) (h : AllP [Bn.Words a, a.length ≤ Bn.lim4, ((↑(Bn.bl (Bn.nat a)) : Int) == (0 : Int)) = false, inR IntKind.i64 ((↑(Bn.bl (Bn.nat a)) : Int) + (0 : Int)), decide ((↑(Bn.bl (Bn.nat a)) : Int) + (0 : Int) > (1024 : Int)) = false, inR IntKind.i64 ((↑(Bn.bl (Bn.nat a)) : Int) - (53 : Int)), inR IntKind.i64 ((↑(Bn.bl (Bn.nat a)) : Int) - (53 : Int) + (0 : Int)), decide ((↑(Bn.bl (Bn.nat a)) : Int) - (53 : Int) + (0 : Int) < (-1074 : Int)) = false, decide ((↑(Bn.bl (Bn.nat a)) : Int) - (53 : Int) ≤ (0 : Int)) = false, inR IntKind.i64 ((↑(Bn.bl (Bn.nat a)) : Int) + (1 : Int)), decide ((↑(Bn.bl (Bn.nat a)) : Int) - (53 : Int) > (↑(Bn.bl (Bn.nat a)) : Int) + (1 : Int)) = false, Bn.Words a, a.length ≤ Bn.lim4, (Bn.ShrN (Bn.nat a) ((↑(Bn.bl (Bn.nat a)) : Int) - (53 : Int))).snd = true, inR IntKind.i64 ((↑(Bn.bl (Bn.nat a)) : Int) - (53 : Int) - (1 : Int)), Bn.Words a, a.length ≤ Bn.lim4, (Bn.ShrN (Bn.nat a) ((↑(Bn.bl (Bn.nat a)) : Int) - (53 : Int) - (1 : Int))).snd = false, decide ((↑(Bn.ShrN (Bn.nat a) ((↑(Bn.bl (Bn.nat a)) : Int) - (53 : Int) - (1 : Int))).fst.length : Int) > (0 : Int)) = true, (0 : Int) ≤ (0 : Int) ∧ (0 : Int) < (↑(Bn.ShrN (Bn.nat a) ((↑(Bn.bl (Bn.nat a)) : Int) - (53 : Int) - (1 : Int))).fst.length : Int), (bitsOf BinOp.and IntKind.u32 ((Bn.ShrN (Bn.nat a) ((↑(Bn.bl (Bn.nat a)) : Int) - (53 : Int) - (1 : Int))).fst.getD 0 (0 : Int)) (1 : Int) == (1 : Int)) = true, decide ((↑(Bn.ShrN (Bn.nat a) ((↑(Bn.bl (Bn.nat a)) : Int) - (53 : Int))).fst.length : Int) > (0 : Int)) = true, (0 : Int) ≤ (0 : Int) ∧ (0 : Int) < (↑(Bn.ShrN (Bn.nat a) ((↑(Bn.bl (Bn.nat a)) : Int) - (53 : Int))).fst.length : Int), (bitsOf BinOp.and IntKind.u32 ((Bn.ShrN (Bn.nat a) ((↑(Bn.bl (Bn.nat a)) : Int) - (53 : Int))).fst.getD 0 (0 : Int)) (1 : Int) == (1 : Int)) = false, Bn.Words (Bn.ShrN (Bn.nat a) ((↑(Bn.bl (Bn.nat a)) : Int) - (53 : Int))).fst, (0 : Int) ≤ (1 : Int), (0 : Int) ≤ (32 : Int), inR IntKind.u64 (Bn.wd (Bn.ShrN (Bn.nat a) ((↑(Bn.bl (Bn.nat a)) : Int) - (53 : Int))).fst (1 : Int) * (4294967296 : Int)), Bn.Words (Bn.ShrN (Bn.nat a) ((↑(Bn.bl (Bn.nat a)) : Int) - (53 : Int))).fst, (0 : Int) ≤ (0 : Int), inR IntKind.i64 ((0 : Int) + ((↑(Bn.bl (Bn.nat a)) : Int) - (53 : Int))), W (fofI (bitsOf BinOp.or IntKind.u64 (Bn.wd (Bn.ShrN (Bn.nat a) ((↑(Bn.bl (Bn.nat a)) : Int) - (53 : Int))).fst (1 : Int) * (4294967296 : Int)) (Bn.wd (Bn.ShrN (Bn.nat a) ((↑(Bn.bl (Bn.nat a)) : Int) - (53 : Int))).fst (0 : Int)))), (-4611686018427387904 : Int) ≤ (0 : Int) + ((↑(Bn.bl (Bn.nat a)) : Int) - (53 : Int)), (0 : Int) + ((↑(Bn.bl (Bn.nat a)) : Int) - (53 : Int)) ≤ (4611686018427387904 : Int)]) : PureTo Tryd.prog 29 [.sl 1 (.ints .u32 a) ta, .v (.int .i64 0)] (AV.fl FloatKind.f64 (ldexpW (fofI (bitsOf BinOp.or IntKind.u64 (Bn.wd (Bn.ShrN (Bn.nat a) ((↑(Bn.bl (Bn.nat a)) : Int) - (53 : Int))).fst (1 : Int) * (4294967296 : Int)) (Bn.wd (Bn.ShrN (Bn.nat a) ((↑(Bn.bl (Bn.nat a)) : Int) - (53 : Int))).fst (0 : Int)))) ((0 : Int) + ((↑(Bn.bl (Bn.nat a)) : Int) - (53 : Int))))) :=
  evFn_pure hm boT0 (fn := Tryd.f29) rfl rfl (ti := false) (hs := [CHint.ops 2 [(1, Hint.b false)], CHint.ops 4 [(3, Hint.b false)], CHint.ops 7 [(3, Hint.b false)], CHint.ops 9 [(1, Hint.b false)], CHint.ops 17 [(3, Hint.b false)], CHint.ops 19 [(5, Hint.b true)], CHint.ops 20 [(6, Hint.b false)], CHint.ops 21 [(2, Hint.b true), (8, Hint.b true), (15, Hint.b true), (21, Hint.b false)]]) (c := _) (by kernel_rfl) h
theorem nearZ11 (a : List Int) (ta : Bool) (m : Nat) (h : AllP [Bn.Words a, a.length ≤ Bn.lim4, ((↑(Bn.bl (Bn.nat a)) : Int) == (0 : Int)) = false, inR IntKind.i64 ((↑(Bn.bl (Bn.nat a)) : Int) + (0 : Int)), decide ((↑(Bn.bl (Bn.nat a)) : Int) + (0 : Int) > (1024 : Int)) = false, inR IntKind.i64 ((↑(Bn.bl (Bn.nat a)) : Int) - (53 : Int)), inR IntKind.i64 ((↑(Bn.bl (Bn.nat a)) : Int) - (53 : Int) + (0 : Int)), decide ((↑(Bn.bl (Bn.nat a)) : Int) - (53 : Int) + (0 : Int) < (-1074 : Int)) = false, decide ((↑(Bn.bl (Bn.nat a)) : Int) - (53 : Int) ≤ (0 : Int)) = false, inR IntKind.i64 ((↑(Bn.bl (Bn.nat a)) : Int) + (1 : Int)), decide ((↑(Bn.bl (Bn.nat a)) : Int) - (53 : Int) > (↑(Bn.bl (Bn.nat a)) : Int) + (1 : Int)) = false, Bn.Words a, a.length ≤ Bn.lim4, (Bn.ShrN (Bn.nat a) ((↑(Bn.bl (Bn.nat a)) : Int) - (53 : Int))).snd = true, inR IntKind.i64 ((↑(Bn.bl (Bn.nat a)) : Int) - (53 : Int) - (1 : Int)), Bn.Words a, a.length ≤ Bn.lim4, (Bn.ShrN (Bn.nat a) ((↑(Bn.bl (Bn.nat a)) : Int) - (53 : Int) - (1 : Int))).snd = false, decide ((↑(Bn.ShrN (Bn.nat a) ((↑(Bn.bl (Bn.nat a)) : Int) - (53 : Int) - (1 : Int))).fst.length : Int) > (0 : Int)) = true, (0 : Int) ≤ (0 : Int) ∧ (0 : Int) < (↑(Bn.ShrN (Bn.nat a) ((↑(Bn.bl (Bn.nat a)) : Int) - (53 : Int) - (1 : Int))).fst.length : Int), (bitsOf BinOp.and IntKind.u32 ((Bn.ShrN (Bn.nat a) ((↑(Bn.bl (Bn.nat a)) : Int) - (53 : Int) - (1 : Int))).fst.getD 0 (0 : Int)) (1 : Int) == (1 : Int)) = true, decide ((↑(Bn.ShrN (Bn.nat a) ((↑(Bn.bl (Bn.nat a)) : Int) - (53 : Int))).fst.length : Int) > (0 : Int)) = false, Bn.Words (Bn.ShrN (Bn.nat a) ((↑(Bn.bl (Bn.nat a)) : Int) - (53 : Int))).fst, (0 : Int) ≤ (1 : Int), (0 : Int) ≤ (32 : Int), inR IntKind.u64 (Bn.wd (Bn.ShrN (Bn.nat a) ((↑(Bn.bl (Bn.nat a)) : Int) - (53 : Int))).fst (1 : Int) * (4294967296 : Int)), Bn.Words (Bn.ShrN (Bn.nat a) ((↑(Bn.bl (Bn.nat a)) : Int) - (53 : Int))).fst, (0 : Int) ≤ (0 : Int), inR IntKind.i64 ((0 : Int) + ((↑(Bn.bl (Bn.nat a)) : Int) - (53 : Int))), W (fofI (bitsOf BinOp.or IntKind.u64 (Bn.wd (Bn.ShrN (Bn.nat a) ((↑(Bn.bl (Bn.nat a)) : Int) - (53 : Int))).fst (1 : Int) * (4294967296 : Int)) (Bn.wd (Bn.ShrN (Bn.nat a) ((↑(Bn.bl (Bn.nat a)) : Int) - (53 : Int))).fst (0 : Int)))), (-4611686018427387904 : Int) ≤ (0 : Int) + ((↑(Bn.bl (Bn.nat a)) : Int) - (53 : Int)), (0 : Int) + ((↑(Bn.bl (Bn.nat a)) : Int) - (53 : Int)) ≤ (4611686018427387904 : Int)]) : PureTo Tryd.prog 29 [.sl 1 (.ints .u32 a) ta, .v (.int .i64 0)] (AV.fl FloatKind.f64 (ldexpW (fofI (bitsOf BinOp.or IntKind.u64 (Bn.wd (Bn.ShrN (Bn.nat a) ((↑(Bn.bl (Bn.nat a)) : Int) - (53 : Int))).fst (1 : Int) * (4294967296 : Int)) (Bn.wd (Bn.ShrN (Bn.nat a) ((↑(Bn.bl (Bn.nat a)) : Int) - (53 : Int))).fst (0 : Int)))) ((0 : Int) + ((↑(Bn.bl (Bn.nat a)) : Int) - (53 : Int))))) :=
  evFn_pure hm boT0 (fn := Tryd.f29) rfl rfl (ti := false) (hs := [CHint.ops 2 [(1, Hint.b false)], CHint.ops 4 [(3, Hint.b false)], CHint.ops 7 [(3, Hint.b false)], CHint.ops 9 [(1, Hint.b false)], CHint.ops 17 [(3, Hint.b false)], CHint.ops 19 [(5, Hint.b true)], CHint.ops 20 [(6, Hint.b false)], CHint.ops 21 [(2, Hint.b true), (8, Hint.b true), (15, Hint.b false)]]) (c := _) (by kernel_rfl) h
theorem nearZ12 (a : List Int) (ta : Bool) (m : Nat) (h : AllP [Bn.Words a, a.length ≤ Bn.lim4, ((↑(Bn.bl (Bn.nat a)) : Int) == (0 : Int)) = false, inR IntKind.i64 ((↑(Bn.bl (Bn.nat a)) : Int) + (0 : Int)), decide ((↑(Bn.bl (Bn.nat a)) : Int) + (0 : Int) > (1024 : Int)) = false, inR IntKind.i64 ((↑(Bn.bl (Bn.nat a)) : Int) - (53 : Int)), inR IntKind.i64 ((↑(Bn.bl (Bn.nat a)) : Int) - (53 : Int) + (0 : Int)), decide ((↑(Bn.bl (Bn.nat a)) : Int) - (53 : Int) + (0 : Int) < (-1074 : Int)) = false, decide ((↑(Bn.bl (Bn.nat a)) : Int) - (53 : Int) ≤ (0 : Int)) = false, inR IntKind.i64 ((↑(Bn.bl (Bn.nat a)) : Int) + (1 : Int)), decide ((↑(Bn.bl (Bn.nat a)) : Int) - (53 : Int) > (↑(Bn.bl (Bn.nat a)) : Int) + (1 : Int)) = false, Bn.Words a, a.length ≤ Bn.lim4, (Bn.ShrN (Bn.nat a) ((↑(Bn.bl (Bn.nat a)) : Int) - (53 : Int))).snd = true, inR IntKind.i64 ((↑(Bn.bl (Bn.nat a)) : Int) - (53 : Int) - (1 : Int)), Bn.Words a, a.length ≤ Bn.lim4, (Bn.ShrN (Bn.nat a) ((↑(Bn.bl (Bn.nat a)) : Int) - (53 : Int) - (1 : Int))).snd = false, decide ((↑(Bn.ShrN (Bn.nat a) ((↑(Bn.bl (Bn.nat a)) : Int) - (53 : Int) - (1 : Int))).fst.length : Int) > (0 : Int)) = true, (0 : Int) ≤ (0 : Int) ∧ (0 : Int) < (↑(Bn.ShrN (Bn.nat a) ((↑(Bn.bl (Bn.nat a)) : Int) - (53 : Int) - (1 : Int))).fst.length : Int), (bitsOf BinOp.and IntKind.u32 ((Bn.ShrN (Bn.nat a) ((↑(Bn.bl (Bn.nat a)) : Int) - (53 : Int) - (1 : Int))).fst.getD 0 (0 : Int)) (1 : Int) == (1 : Int)) = false, Bn.Words (Bn.ShrN (Bn.nat a) ((↑(Bn.bl (Bn.nat a)) : Int) - (53 : Int))).fst, (0 : Int) ≤ (1 : Int), (0 : Int) ≤ (32 : Int), inR IntKind.u64 (Bn.wd (Bn.ShrN (Bn.nat a) ((↑(Bn.bl (Bn.nat a)) : Int) - (53 : Int))).fst (1 : Int) * (4294967296 : Int)), Bn.Words (Bn.ShrN (Bn.nat a) ((↑(Bn.bl (Bn.nat a)) : Int) - (53 : Int))).fst, (0 : Int) ≤ (0 : Int), inR IntKind.i64 ((0 : Int) + ((↑(Bn.bl (Bn.nat a)) : Int) - (53 : Int))), W (fofI (bitsOf BinOp.or IntKind.u64 (Bn.wd (Bn.ShrN (Bn.nat a) ((↑(Bn.bl (Bn.nat a)) : Int) - (53 : Int))).fst (1 : Int) * (4294967296 : Int)) (Bn.wd (Bn.ShrN (Bn.nat a) ((↑(Bn.bl (Bn.nat a)) : Int) - (53 : Int))).fst (0 : Int)))), (-4611686018427387904 : Int) ≤ (0 : Int) + ((↑(Bn.bl (Bn.nat a)) : Int) - (53 : Int)), (0 : Int) + ((↑(Bn.bl (Bn.nat a)) : Int) - (53 : Int)) ≤ (4611686018427387904 : Int)]) : PureTo Tryd.prog 29 [.sl 1 (.ints .u32 a) ta, .v (.int .i64 0)] (AV.fl FloatKind.f64 (ldexpW (fofI (bitsOf BinOp.or IntKind.u64 (Bn.wd (Bn.ShrN (Bn.nat a) ((↑(Bn.bl (Bn.nat a)) : Int) - (53 : Int))).fst (1 : Int) * (4294967296 : Int)) (Bn.wd (Bn.ShrN (Bn.nat a) ((↑(Bn.bl (Bn.nat a)) : Int) - (53 : Int))).fst (0 : Int)))) ((0 : Int) + ((↑(Bn.bl (Bn.nat a)) : Int) - (53 : Int))))) :=
  evFn_pure hm boT0 (fn := Tryd.f29) rfl rfl (ti := false) (hs := [CHint.ops 2 [(1, Hint.b false)], CHint.ops 4 [(3, Hint.b false)], CHint.ops 7 [(3, Hint.b false)], CHint.ops 9 [(1, Hint.b false)], CHint.ops 17 [(3, Hint.b false)], CHint.ops 19 [(5, Hint.b true)], CHint.ops 20 [(6, Hint.b false)], CHint.ops 21 [(2, Hint.b true), (8, Hint.b false)]]) (c := _) (by kernel_rfl) h
theorem nearZ13 (a : List Int) (ta : Bool) (m : Nat) (h : AllP [Bn.Words a, a.length ≤ Bn.lim4, ((↑(Bn.bl (Bn.nat a)) : Int) == (0 : Int)) = false, inR IntKind.i64 ((↑(Bn.bl (Bn.nat a)) : Int) + (0 : Int)), decide ((↑(Bn.bl (Bn.nat a)) : Int) + (0 : Int) > (1024 : Int)) = false, inR IntKind.i64 ((↑(Bn.bl (Bn.nat a)) : Int) - (53 : Int)), inR IntKind.i64 ((↑(Bn.bl (Bn.nat a)) : Int) - (53 : Int) + (0 : Int)), decide ((↑(Bn.bl (Bn.nat a)) : Int) - (53 : Int) + (0 : Int) < (-1074 : Int)) = false, decide ((↑(Bn.bl (Bn.nat a)) : Int) - (53 : Int) ≤ (0 : Int)) = false, inR IntKind.i64 ((↑(Bn.bl (Bn.nat a)) : Int) + (1 : Int)), decide ((↑(Bn.bl (Bn.nat a)) : Int) - (53 : Int) > (↑(Bn.bl (Bn.nat a)) : Int) + (1 : Int)) = false, Bn.Words a, a.length ≤ Bn.lim4, (Bn.ShrN (Bn.nat a) ((↑(Bn.bl (Bn.nat a)) : Int) - (53 : Int))).snd = true, inR IntKind.i64 ((↑(Bn.bl (Bn.nat a)) : Int) - (53 : Int) - (1 : Int)), Bn.Words a, a.length ≤ Bn.lim4, (Bn.ShrN (Bn.nat a) ((↑(Bn.bl (Bn.nat a)) : Int) - (53 : Int) - (1 : Int))).snd = false, decide ((↑(Bn.ShrN (Bn.nat a) ((↑(Bn.bl (Bn.nat a)) : Int) - (53 : Int) - (1 : Int))).fst.length : Int) > (0 : Int)) = false, Bn.Words (Bn.ShrN (Bn.nat a) ((↑(Bn.bl (Bn.nat a)) : Int) - (53 : Int))).fst, (0 : Int) ≤ (1 : Int), (0 : Int) ≤ (32 : Int), inR IntKind.u64 (Bn.wd (Bn.ShrN (Bn.nat a) ((↑(Bn.bl (Bn.nat a)) : Int) - (53 : Int))).fst (1 : Int) * (4294967296 : Int)), Bn.Words (Bn.ShrN (Bn.nat a) ((↑(Bn.bl (Bn.nat a)) : Int) - (53 : Int))).fst, (0 : Int) ≤ (0 : Int), inR IntKind.i64 ((0 : Int) + ((↑(Bn.bl (Bn.nat a)) : Int) - (53 : Int))), W (fofI (bitsOf BinOp.or IntKind.u64 (Bn.wd (Bn.ShrN (Bn.nat a) ((↑(Bn.bl (Bn.nat a)) : Int) - (53 : Int))).fst (1 : Int) * (4294967296 : Int)) (Bn.wd (Bn.ShrN (Bn.nat a) ((↑(Bn.bl (Bn.nat a)) : Int) - (53 : Int))).fst (0 : Int)))), (-4611686018427387904 : Int) ≤ (0 : Int) + ((↑(Bn.bl (Bn.nat a)) : Int) - (53 : Int)), (0 : Int) + ((↑(Bn.bl (Bn.nat a)) : Int) - (53 : Int)) ≤ (4611686018427387904 : Int)]) : PureTo Tryd.prog 29 [.sl 1 (.ints .u32 a) ta, .v (.int .i64 0)] (AV.fl FloatKind.f64 (ldexpW (fofI (bitsOf BinOp.or IntKind.u64 (Bn.wd (Bn.ShrN (Bn.nat a) ((↑(Bn.bl (Bn.nat a)) : Int) - (53 : Int))).fst (1 : Int) * (4294967296 : Int)) (Bn.wd (Bn.ShrN (Bn.nat a) ((↑(Bn.bl (Bn.nat a)) : Int) - (53 : Int))).fst (0 : Int)))) ((0 : Int) + ((↑(Bn.bl (Bn.nat a)) : Int) - (53 : Int))))) :=
  evFn_pure hm boT0 (fn := Tryd.f29) rfl rfl (ti := false) (hs := [CHint.ops 2 [(1, Hint.b false)], CHint.ops 4 [(3, Hint.b false)], CHint.ops 7 [(3, Hint.b false)], CHint.ops 9 [(1, Hint.b false)], CHint.ops 17 [(3, Hint.b false)], CHint.ops 19 [(5, Hint.b true)], CHint.ops 20 [(6, Hint.b false)], CHint.ops 21 [(2, Hint.b false)]]) (c := _) (by kernel_rfl) h
theorem nearZ14 (a : List Int) (ta : Bool) (m : Nat) (h : AllP [Bn.Words a, a.length ≤ Bn.lim4, ((↑(Bn.bl (Bn.nat a)) : Int) == (0 : Int)) = false, inR IntKind.i64 ((↑(Bn.bl (Bn.nat a)) : Int) + (0 : Int)), decide ((↑(Bn.bl (Bn.nat a)) : Int) + (0 : Int) > (1024 : Int)) = false, inR IntKind.i64 ((↑(Bn.bl (Bn.nat a)) : Int) - (53 : Int)), inR IntKind.i64 ((↑(Bn.bl (Bn.nat a)) : Int) - (53 : Int) + (0 : Int)), decide ((↑(Bn.bl (Bn.nat a)) : Int) - (53 : Int) + (0 : Int) < (-1074 : Int)) = false, decide ((↑(Bn.bl (Bn.nat a)) : Int) - (53 : Int) ≤ (0 : Int)) = false, inR IntKind.i64 ((↑(Bn.bl (Bn.nat a)) : Int) + (1 : Int)), decide ((↑(Bn.bl (Bn.nat a)) : Int) - (53 : Int) > (↑(Bn.bl (Bn.nat a)) : Int) + (1 : Int)) = false, Bn.Words a, a.length ≤ Bn.lim4, (Bn.ShrN (Bn.nat a) ((↑(Bn.bl (Bn.nat a)) : Int) - (53 : Int))).snd = false, inR IntKind.i64 ((↑(Bn.bl (Bn.nat a)) : Int) - (53 : Int) - (1 : Int)), Bn.Words a, a.length ≤ Bn.lim4, (Bn.ShrN (Bn.nat a) ((↑(Bn.bl (Bn.nat a)) : Int) - (53 : Int) - (1 : Int))).snd = true, decide ((↑(Bn.ShrN (Bn.nat a) ((↑(Bn.bl (Bn.nat a)) : Int) - (53 : Int) - (1 : Int))).fst.length : Int) > (0 : Int)) = true, (0 : Int) ≤ (0 : Int) ∧ (0 : Int) < (↑(Bn.ShrN (Bn.nat a) ((↑(Bn.bl (Bn.nat a)) : Int) - (53 : Int) - (1 : Int))).fst.length : Int), (bitsOf BinOp.and IntKind.u32 ((Bn.ShrN (Bn.nat a) ((↑(Bn.bl (Bn.nat a)) : Int) - (53 : Int) - (1 : Int))).fst.getD 0 (0 : Int)) (1 : Int) == (1 : Int)) = true, Bn.Words (Bn.ShrN (Bn.nat a) ((↑(Bn.bl (Bn.nat a)) : Int) - (53 : Int))).fst, Bn.Words [(1 : Int)], (Bn.ShrN (Bn.nat a) ((↑(Bn.bl (Bn.nat a)) : Int) - (53 : Int))).fst.length + 1 ≤ Bn.lim4, 2 ≤ Bn.lim4, Bn.Words (Bn.dig (Bn.nat (Bn.ShrN (Bn.nat a) ((↑(Bn.bl (Bn.nat a)) : Int) - (53 : Int))).fst + Bn.nat [(1 : Int)])), (0 : Int) ≤ (1 : Int), (0 : Int) ≤ (32 : Int), inR IntKind.u64 (Bn.wd (Bn.dig (Bn.nat (Bn.ShrN (Bn.nat a) ((↑(Bn.bl (Bn.nat a)) : Int) - (53 : Int))).fst + Bn.nat [(1 : Int)])) (1 : Int) * (4294967296 : Int)), Bn.Words (Bn.dig (Bn.nat (Bn.ShrN (Bn.nat a) ((↑(Bn.bl (Bn.nat a)) : Int) - (53 : Int))).fst + Bn.nat [(1 : Int)])), (0 : Int) ≤ (0 : Int), inR IntKind.i64 ((0 : Int) + ((↑(Bn.bl (Bn.nat a)) : Int) - (53 : Int))), W (fofI (bitsOf BinOp.or IntKind.u64 (Bn.wd (Bn.dig (Bn.nat (Bn.ShrN (Bn.nat a) ((↑(Bn.bl (Bn.nat a)) : Int) - (53 : Int))).fst + Bn.nat [(1 : Int)])) (1 : Int) * (4294967296 : Int)) (Bn.wd (Bn.dig (Bn.nat (Bn.ShrN (Bn.nat a) ((↑(Bn.bl (Bn.nat a)) : Int) - (53 : Int))).fst + Bn.nat [(1 : Int)])) (0 : Int)))), (-4611686018427387904 : Int) ≤ (0 : Int) + ((↑(Bn.bl (Bn.nat a)) : Int) - (53 : Int)), (0 : Int) + ((↑(Bn.bl (Bn.nat a)) : Int) - (53 : Int)) ≤ (4611686018427387904 : Int)]) : PureTo Tryd.prog 29 [.sl 1 (.ints .u32 a) ta, .v (.int .i64 0)] (AV.fl FloatKind.f64 (ldexpW (fofI (bitsOf BinOp.or IntKind.u64 (Bn.wd (Bn.dig (Bn.nat (Bn.ShrN (Bn.nat a) ((↑(Bn.bl (Bn.nat a)) : Int) - (53 : Int))).fst + Bn.nat [(1 : Int)])) (1 : Int) * (4294967296 : Int)) (Bn.wd (Bn.dig (Bn.nat (Bn.ShrN (Bn.nat a) ((↑(Bn.bl (Bn.nat a)) : Int) - (53 : Int))).fst + Bn.nat [(1 : Int)])) (0 : Int)))) ((0 : Int) + ((↑(Bn.bl (Bn.nat a)) : Int) - (53 : Int))))) :=
  evFn_pure hm boT0 (fn := Tryd.f29) rfl rfl (ti := false) (hs := [CHint.ops 2 [(1, Hint.b false)], CHint.ops 4 [(3, Hint.b false)], CHint.ops 7 [(3, Hint.b false)], CHint.ops 9 [(1, Hint.b false)], CHint.ops 17 [(3, Hint.b false)], CHint.ops 19 [(5, Hint.b false)], CHint.ops 20 [(6, Hint.b true)], CHint.ops 21 [(2, Hint.b true), (8, Hint.b true)]]) (c := _) (by kernel_rfl) h
theorem nearZ15 (a : List Int) (ta : Bool) (m : Nat) (h : AllP [Bn.Words a, a.length ≤ Bn.lim4, ((↑(Bn.bl (Bn.nat a)) : Int) == (0 : Int)) = false, inR IntKind.i64 ((↑(Bn.bl (Bn.nat a)) : Int) + (0 : Int)), decide ((↑(Bn.bl (Bn.nat a)) : Int) + (0 : Int) > (1024 : Int)) = false, inR IntKind.i64 ((↑(Bn.bl (Bn.nat a)) : Int) - (53 : Int)), inR IntKind.i64 ((↑(Bn.bl (Bn.nat a)) : Int) - (53 : Int) + (0 : Int)), decide ((↑(Bn.bl (Bn.nat a)) : Int) - (53 : Int) + (0 : Int) < (-1074 : Int)) = false, decide ((↑(Bn.bl (Bn.nat a)) : Int) - (53 : Int) ≤ (0 : Int)) = false, inR IntKind.i64 ((↑(Bn.bl (Bn.nat a)) : Int) + (1 : Int)), decide ((↑(Bn.bl (Bn.nat a)) : Int) - (53 : Int) > (↑(Bn.bl (Bn.nat a)) : Int) + (1 : Int)) = false, Bn.Words a, a.length ≤ Bn.lim4, (Bn.ShrN (Bn.nat a) ((↑(Bn.bl (Bn.nat a)) : Int) - (53 : Int))).snd = false, inR IntKind.i64 ((↑(Bn.bl (Bn.nat a)) : Int) - (53 : Int) - (1 : Int)), Bn.Words a, a.length ≤ Bn.lim4, (Bn.ShrN (Bn.nat a) ((↑(Bn.bl (Bn.nat a)) : Int) - (53 : Int) - (1 : Int))).snd = true, decide ((↑(Bn.ShrN (Bn.nat a) ((↑(Bn.bl (Bn.nat a)) : Int) - (53 : Int) - (1 : Int))).fst.length : Int) > (0 : Int)) = true, (0 : Int) ≤ (0 : Int) ∧ (0 : Int) < (↑(Bn.ShrN (Bn.nat a) ((↑(Bn.bl (Bn.nat a)) : Int) - (53 : Int) - (1 : Int))).fst.length : Int), (bitsOf BinOp.and IntKind.u32 ((Bn.ShrN (Bn.nat a) ((↑(Bn.bl (Bn.nat a)) : Int) - (53 : Int) - (1 : Int))).fst.getD 0 (0 : Int)) (1 : Int) == (1 : Int)) = false, Bn.Words (Bn.ShrN (Bn.nat a) ((↑(Bn.bl (Bn.nat a)) : Int) - (53 : Int))).fst, (0 : Int) ≤ (1 : Int), (0 : Int) ≤ (32 : Int), inR IntKind.u64 (Bn.wd (Bn.ShrN (Bn.nat a) ((↑(Bn.bl (Bn.nat a)) : Int) - (53 : Int))).fst (1 : Int) * (4294967296 : Int)), Bn.Words (Bn.ShrN (Bn.nat a) ((↑(Bn.bl (Bn.nat a)) : Int) - (53 : Int))).fst, (0 : Int) ≤ (0 : Int), inR IntKind.i64 ((0 : Int) + ((↑(Bn.bl (Bn.nat a)) : Int) - (53 : Int))), W (fofI (bitsOf BinOp.or IntKind.u64 (Bn.wd (Bn.ShrN (Bn.nat a) ((↑(Bn.bl (Bn.nat a)) : Int) - (53 : Int))).fst (1 : Int) * (4294967296 : Int)) (Bn.wd (Bn.ShrN (Bn.nat a) ((↑(Bn.bl (Bn.nat a)) : Int) - (53 : Int))).fst (0 : Int)))), (-4611686018427387904 : Int) ≤ (0 : Int) + ((↑(Bn.bl (Bn.nat a)) : Int) - (53 : Int)), (0 : Int) + ((↑(Bn.bl (Bn.nat a)) : Int) - (53 : Int)) ≤ (4611686018427387904 : Int)]) : PureTo Tryd.prog 29 [.sl 1 (.ints .u32 a) ta, .v (.int .i64 0)] (AV.fl FloatKind.f64 (ldexpW (fofI (bitsOf BinOp.or IntKind.u64 (Bn.wd (Bn.ShrN (Bn.nat a) ((↑(Bn.bl (Bn.nat a)) : Int) - (53 : Int))).fst (1 : Int) * (4294967296 : Int)) (Bn.wd (Bn.ShrN (Bn.nat a) ((↑(Bn.bl (Bn.nat a)) : Int) - (53 : Int))).fst (0 : Int)))) ((0 : Int) + ((↑(Bn.bl (Bn.nat a)) : Int) - (53 : Int))))) :=
  evFn_pure hm boT0 (fn := Tryd.f29) rfl rfl (ti := false) (hs := [CHint.ops 2 [(1, Hint.b false)], CHint.ops 4 [(3, Hint.b false)], CHint.ops 7 [(3, Hint.b false)], CHint.ops 9 [(1, Hint.b false)], CHint.ops 17 [(3, Hint.b false)], CHint.ops 19 [(5, Hint.b false)], CHint.ops 20 [(6, Hint.b true)], CHint.ops 21 [(2, Hint.b true), (8, Hint.b false)]]) (c := _) (by kernel_rfl) h
theorem nearZ16 (a : List Int) (ta : Bool) (m : Nat) (h : AllP [Bn.Words a, a.length ≤ Bn.lim4, ((↑(Bn.bl (Bn.nat a)) : Int) == (0 : Int)) = false, inR IntKind.i64 ((↑(Bn.bl (Bn.nat a)) : Int) + (0 : Int)), decide ((↑(Bn.bl (Bn.nat a)) : Int) + (0 : Int) > (1024 : Int)) = false, inR IntKind.i64 ((↑(Bn.bl (Bn.nat a)) : Int) - (53 : Int)), inR IntKind.i64 ((↑(Bn.bl (Bn.nat a)) : Int) - (53 : Int) + (0 : Int)), decide ((↑(Bn.bl (Bn.nat a)) : Int) - (53 : Int) + (0 : Int) < (-1074 : Int)) = false, decide ((↑(Bn.bl (Bn.nat a)) : Int) - (53 : Int) ≤ (0 : Int)) = false, inR IntKind.i64 ((↑(Bn.bl (Bn.nat a)) : Int) + (1 : Int)), decide ((↑(Bn.bl (Bn.nat a)) : Int) - (53 : Int) > (↑(Bn.bl (Bn.nat a)) : Int) + (1 : Int)) = false, Bn.Words a, a.length ≤ Bn.lim4, (Bn.ShrN (Bn.nat a) ((↑(Bn.bl (Bn.nat a)) : Int) - (53 : Int))).snd = false, inR IntKind.i64 ((↑(Bn.bl (Bn.nat a)) : Int) - (53 : Int) - (1 : Int)), Bn.Words a, a.length ≤ Bn.lim4, (Bn.ShrN (Bn.nat a) ((↑(Bn.bl (Bn.nat a)) : Int) - (53 : Int) - (1 : Int))).snd = true, decide ((↑(Bn.ShrN (Bn.nat a) ((↑(Bn.bl (Bn.nat a)) : Int) - (53 : Int) - (1 : Int))).fst.length : Int) > (0 : Int)) = false, Bn.Words (Bn.ShrN (Bn.nat a) ((↑(Bn.bl (Bn.nat a)) : Int) - (53 : Int))).fst, (0 : Int) ≤ (1 : Int), (0 : Int) ≤ (32 : Int), inR IntKind.u64 (Bn.wd (Bn.ShrN (Bn.nat a) ((↑(Bn.bl (Bn.nat a)) : Int) - (53 : Int))).fst (1 : Int) * (4294967296 : Int)), Bn.Words (Bn.ShrN (Bn.nat a) ((↑(Bn.bl (Bn.nat a)) : Int) - (53 : Int))).fst, (0 : Int) ≤ (0 : Int), inR IntKind.i64 ((0 : Int) + ((↑(Bn.bl (Bn.nat a)) : Int) - (53 : Int))), W (fofI (bitsOf BinOp.or IntKind.u64 (Bn.wd (Bn.ShrN (Bn.nat a) ((↑(Bn.bl (Bn.nat a)) : Int) - (53 : Int))).fst (1 : Int) * (4294967296 : Int)) (Bn.wd (Bn.ShrN (Bn.nat a) ((↑(Bn.bl (Bn.nat a)) : Int) - (53 : Int))).fst (0 : Int)))), (-4611686018427387904 : Int) ≤ (0 : Int) + ((↑(Bn.bl (Bn.nat a)) : Int) - (53 : Int)), (0 : Int) + ((↑(Bn.bl (Bn.nat a)) : Int) - (53 : Int)) ≤ (4611686018427387904 : Int)]) : PureTo Tryd.prog 29 [.sl 1 (.ints .u32 a) ta, .v (.int .i64 0)] (AV.fl FloatKind.f64 (ldexpW (fofI (bitsOf BinOp.or IntKind.u64 (Bn.wd (Bn.ShrN (Bn.nat a) ((↑(Bn.bl (Bn.nat a)) : Int) - (53 : Int))).fst (1 : Int) * (4294967296 : Int)) (Bn.wd (Bn.ShrN (Bn.nat a) ((↑(Bn.bl (Bn.nat a)) : Int) - (53 : Int))).fst (0 : Int)))) ((0 : Int) + ((↑(Bn.bl (Bn.nat a)) : Int) - (53 : Int))))) :=
  evFn_pure hm boT0 (fn := Tryd.f29) rfl rfl (ti := false) (hs := [CHint.ops 2 [(1, Hint.b false)], CHint.ops 4 [(3, Hint.b false)], CHint.ops 7 [(3, Hint.b false)], CHint.ops 9 [(1, Hint.b false)], CHint.ops 17 [(3, Hint.b false)], CHint.ops 19 [(5, Hint.b false)], CHint.ops 20 [(6, Hint.b true)], CHint.ops 21 [(2, Hint.b false)]]) (c := _) (by kernel_rfl) h
theorem nearZ17 (a : List Int) (ta : Bool) (m : Nat) (h : AllP [Bn.Words a, a.length ≤ Bn.lim4, ((↑(Bn.bl (Bn.nat a)) : Int) == (0 : Int)) = false, inR IntKind.i64 ((↑(Bn.bl (Bn.nat a)) : Int) + (0 : Int)), decide ((↑(Bn.bl (Bn.nat a)) : Int) + (0 : Int) > (1024 : Int)) = false, inR IntKind.i64 ((↑(Bn.bl (Bn.nat a)) : Int) - (53 : Int)), inR IntKind.i64 ((↑(Bn.bl (Bn.nat a)) : Int) - (53 : Int) + (0 : Int)), decide ((↑(Bn.bl (Bn.nat a)) : Int) - (53 : Int) + (0 : Int) < (-1074 : Int)) = false, decide ((↑(Bn.bl (Bn.nat a)) : Int) - (53 : Int) ≤ (0 : Int)) = false, inR IntKind.i64 ((↑(Bn.bl (Bn.nat a)) : Int) + (1 : Int)), decide ((↑(Bn.bl (Bn.nat a)) : Int) - (53 : Int) > (↑(Bn.bl (Bn.nat a)) : Int) + (1 : Int)) = false, Bn.Words a, a.length ≤ Bn.lim4, (Bn.ShrN (Bn.nat a) ((↑(Bn.bl (Bn.nat a)) : Int) - (53 : Int))).snd = false, inR IntKind.i64 ((↑(Bn.bl (Bn.nat a)) : Int) - (53 : Int) - (1 : Int)), Bn.Words a, a.length ≤ Bn.lim4, (Bn.ShrN (Bn.nat a) ((↑(Bn.bl (Bn.nat a)) : Int) - (53 : Int) - (1 : Int))).snd = false, decide ((↑(Bn.ShrN (Bn.nat a) ((↑(Bn.bl (Bn.nat a)) : Int) - (53 : Int) - (1 : Int))).fst.length : Int) > (0 : Int)) = true, (0 : Int) ≤ (0 : Int) ∧ (0 : Int) < (↑(Bn.ShrN (Bn.nat a) ((↑(Bn.bl (Bn.nat a)) : Int) - (53 : Int) - (1 : Int))).fst.length : Int), (bitsOf BinOp.and IntKind.u32 ((Bn.ShrN (Bn.nat a) ((↑(Bn.bl (Bn.nat a)) : Int) - (53 : Int) - (1 : Int))).fst.getD 0 (0 : Int)) (1 : Int) == (1 : Int)) = true, decide ((↑(Bn.ShrN (Bn.nat a) ((↑(Bn.bl (Bn.nat a)) : Int) - (53 : Int))).fst.length : Int) > (0 : Int)) = true, (0 : Int) ≤ (0 : Int) ∧ (0 : Int) < (↑(Bn.ShrN (Bn.nat a) ((↑(Bn.bl (Bn.nat a)) : Int) - (53 : Int))).fst.length : Int), (bitsOf BinOp.and IntKind.u32 ((Bn.ShrN (Bn.nat a) ((↑(Bn.bl (Bn.nat a)) : Int) - (53 : Int))).fst.getD 0 (0 : Int)) (1 : Int) == (1 : Int)) = true, Bn.Words (Bn.ShrN (Bn.nat a) ((↑(Bn.bl (Bn.nat a)) : Int) - (53 : Int))).fst, Bn.Words [(1 : Int)], (Bn.ShrN (Bn.nat a) ((↑(Bn.bl (Bn.nat a)) : Int) - (53 : Int))).fst.length + 1 ≤ Bn.lim4, 2 ≤ Bn.lim4, Bn.Words (Bn.dig (Bn.nat (Bn.ShrN (Bn.nat a) ((↑(Bn.bl (Bn.nat a)) : Int) - (53 : Int))).fst + Bn.nat [(1 : Int)])), (0 : Int) ≤ (1 : Int), (0 : Int) ≤ (32 : Int), inR IntKind.u64 (Bn.wd (Bn.dig (Bn.nat (Bn.ShrN (Bn.nat a) ((↑(Bn.bl (Bn.nat a)) : Int) - (53 : Int))).fst + Bn.nat [(1 : Int)])) (1 : Int) * (4294967296 : Int)), Bn.Words (Bn.dig (Bn.nat (Bn.ShrN (Bn.nat a) ((↑(Bn.bl (Bn.nat a)) : Int) - (53 : Int))).fst + Bn.nat [(1 : Int)])), (0 : Int) ≤ (0 : Int), inR IntKind.i64 ((0 : Int) + ((↑(Bn.bl (Bn.nat a)) : Int) - (53 : Int))), W (fofI (bitsOf BinOp.or IntKind.u64 (Bn.wd (Bn.dig (Bn.nat (Bn.ShrN (Bn.nat a) ((↑(Bn.bl (Bn.nat a)) : Int) - (53 : Int))).fst + Bn.nat [(1 : Int)])) (1 : Int) * (4294967296 : Int)) (Bn.wd (Bn.dig (Bn.nat (Bn.ShrN (Bn.nat a) ((↑(Bn.bl (Bn.nat a)) : Int) - (53 : Int))).fst + Bn.nat [(1 : Int)])) (0 : Int)))), (-4611686018427387904 : Int) ≤ (0 : Int) + ((↑(Bn.bl (Bn.nat a)) : Int) - (53 : Int)), (0 : Int) + ((↑(Bn.bl (Bn.nat a)) : Int) - (53 : Int)) ≤ (4611686018427387904 : Int)]) : PureTo Tryd.prog 29 [.sl 1 (.ints .u32 a) ta, .v (.int .i64 0)] (AV.fl FloatKind.f64 (ldexpW (fofI (bitsOf BinOp.or IntKind.u64 (Bn.wd (Bn.dig (Bn.nat (Bn.ShrN (Bn.nat a) ((↑(Bn.bl (Bn.nat a)) : Int) - (53 : Int))).fst + Bn.nat [(1 : Int)])) (1 : Int) * (4294967296 : Int)) (Bn.wd (Bn.dig (Bn.nat (Bn.ShrN (Bn.nat a) ((↑(Bn.bl (Bn.nat a)) : Int) - (53 : Int))).fst + Bn.nat [(1 : Int)])) (0 : Int)))) ((0 : Int) + ((↑(Bn.bl (Bn.nat a)) : Int) - (53 : Int))))) :=
  evFn_pure hm boT0 (fn := Tryd.f29) rfl rfl (ti := false) (hs := [CHint.ops 2 [(1, Hint.b false)], CHint.ops 4 [(3, Hint.b false)], CHint.ops 7 [(3, Hint.b false)], CHint.ops 9 [(1, Hint.b false)], CHint.ops 17 [(3, Hint.b false)], CHint.ops 19 [(5, Hint.b false)], CHint.ops 20 [(6, Hint.b false)], CHint.ops 21 [(2, Hint.b true), (8, Hint.b true), (15, Hint.b true), (21, Hint.b true)]]) (c := _) (by kernel_rfl) h
theorem nearZ18 (a : List Int) (ta : Bool) (m : Nat) (h : AllP [Bn.Words a, a.length ≤ Bn.lim4, ((↑(Bn.bl (Bn.nat a)) : Int) == (0 : Int)) = false, inR IntKind.i64 ((↑(Bn.bl (Bn.nat a)) : Int) + (0 : Int)), decide ((↑(Bn.bl (Bn.nat a)) : Int) + (0 : Int) > (1024 : Int)) = false, inR IntKind.i64 ((↑(Bn.bl (Bn.nat a)) : Int) - (53 : Int)), inR IntKind.i64 ((↑(Bn.bl (Bn.nat a)) : Int) - (53 : Int) + (0 : Int)), decide ((↑(Bn.bl (Bn.nat a)) : Int) - (53 : Int) + (0 : Int) < (-1074 : Int)) = false, decide ((↑(Bn.bl (Bn.nat a)) : Int) - (53 : Int) ≤ (0 : Int)) = false, inR IntKind.i64 ((↑(Bn.bl (Bn.nat a)) : Int) + (1 : Int)), decide ((↑(Bn.bl (Bn.nat a)) : Int) - (53 : Int) > (↑(Bn.bl (Bn.nat a)) : Int) + (1 : Int)) = false, Bn.Words a, a.length ≤ Bn.lim4, (Bn.ShrN (Bn.nat a) ((↑(Bn.bl (Bn.nat a)) : Int) - (53 : Int))).snd = false, inR IntKind.i64 ((↑(Bn.bl (Bn.nat a)) : Int) - (53 : Int) - (1 : Int)), Bn.Words a, a.length ≤ Bn.lim4, (Bn.ShrN (Bn.nat a) ((↑(Bn.bl (Bn.nat a)) : Int) - (53 : Int) - (1 : Int))).snd = false, decide ((↑(Bn.ShrN (Bn.nat a) ((↑(Bn.bl (Bn.nat a)) : Int) - (53 : Int) - (1 : Int))).fst.length : Int) > (0 : Int)) = true, (0 : Int) ≤ (0 : Int) ∧ (0 : Int) < (↑(Bn.ShrN (Bn.nat a) ((↑(Bn.bl (Bn.nat a)) : Int) - (53 : Int) - (1 : Int))).fst.length : Int), (bitsOf BinOp.and IntKind.u32 ((Bn.ShrN (Bn.nat a) ((↑(Bn.bl (Bn.nat a)) : Int) - (53 : Int) - (1 : Int))).fst.getD 0 (0 : Int)) (1 : Int) == (1 : Int)) = true, decide ((↑(Bn.ShrN (Bn.nat a) ((↑(Bn.bl (Bn.nat a)) : Int) - (53 : Int))).fst.length : Int) > (0 : Int)) = true, (0 : Int) ≤ (0 : Int) ∧ (0 : Int) < (↑(Bn.ShrN (Bn.nat a) ((↑(Bn.bl (Bn.nat a)) : Int) - (53 : Int))).fst.length : Int), (bitsOf BinOp.and IntKind.u32 ((Bn.ShrN (Bn.nat a) ((↑(Bn.bl (Bn.nat a)) : Int) - (53 : Int))).fst.getD 0 (0 : Int)) (1 : Int) == (1 : Int)) = false, Bn.Words (Bn.ShrN (Bn.nat a) ((↑(Bn.bl (Bn.nat a)) : Int) - (53 : Int))).fst, (0 : Int) ≤ (1 : Int), (0 : Int) ≤ (32 : Int), inR IntKind.u64 (Bn.wd (Bn.ShrN (Bn.nat a) ((↑(Bn.bl (Bn.nat a)) : Int) - (53 : Int))).fst (1 : Int) * (4294967296 : Int)), Bn.Words (Bn.ShrN (Bn.nat a) ((↑(Bn.bl (Bn.nat a)) : Int) - (53 : Int))).fst, (0 : Int) ≤ (0 : Int), inR IntKind.i64 ((0 : Int) + ((↑(Bn.bl (Bn.nat a)) : Int) - (53 : Int))), W (fofI (bitsOf BinOp.or IntKind.u64 (Bn.wd (Bn.ShrN (Bn.nat a) ((↑(Bn.bl (Bn.nat a)) : Int) - (53 : Int))).fst (1 : Int) * (4294967296 : Int)) (Bn.wd (Bn.ShrN (Bn.nat a) ((↑(Bn.bl (Bn.nat a)) : Int) - (53 : Int))).fst (0 : Int)))), (-4611686018427387904 : Int) ≤ (0 : Int) + ((↑(Bn.bl (Bn.nat a)) : Int) - (53 : Int)), (0 : Int) + ((↑(Bn.bl (Bn.nat a)) : Int) - (53 : Int)) ≤ (4611686018427387904 : Int)]) : PureTo Tryd.prog 29 [.sl 1 (.ints .u32 a) ta, .v (.int .i64 0)] (AV.fl FloatKind.f64 (ldexpW (fofI (bitsOf BinOp.or IntKind.u64 (Bn.wd (Bn.ShrN (Bn.nat a) ((↑(Bn.bl (Bn.nat a)) : Int) - (53 : Int))).fst (1 : Int) * (4294967296 : Int)) (Bn.wd (Bn.ShrN (Bn.nat a) ((↑(Bn.bl (Bn.nat a)) : Int) - (53 : Int))).fst (0 : Int)))) ((0 : Int) + ((↑(Bn.bl (Bn.nat a)) : Int) - (53 : Int))))) :=
  evFn_pure hm boT0 (fn := Tryd.f29) rfl rfl (ti := false) (hs := [CHint.ops 2 [(1, Hint.b false)], CHint.ops 4 [(3, Hint.b false)], CHint.ops 7 [(3, Hint.b false)], CHint.ops 9 [(1, Hint.b false)], CHint.ops 17 [(3, Hint.b false)], CHint.ops 19 [(5, Hint.b false)], CHint.ops 20 [(6, Hint.b false)], CHint.ops 21 [(2, Hint.b true), (8, Hint.b true), (15, Hint.b true), (21, Hint.b false)]]) (c := _) (by kernel_rfl) h
theorem nearZ19 (a : List Int) (ta : Bool) (m : Nat) (h : AllP [Bn.Words a, a.length ≤ Bn.lim4, ((↑(Bn.bl (Bn.nat a)) : Int) == (0 : Int)) = false, inR IntKind.i64 ((↑(Bn.bl (Bn.nat a)) : Int) + (0 : Int)), decide ((↑(Bn.bl (Bn.nat a)) : Int) + (0 : Int) > (1024 : Int)) = false, inR IntKind.i64 ((↑(Bn.bl (Bn.nat a)) : Int) - (53 : Int)), inR IntKind.i64 ((↑(Bn.bl (Bn.nat a)) : Int) - (53 : Int) + (0 : Int)), decide ((↑(Bn.bl (Bn.nat a)) : Int) - (53 : Int) + (0 : Int) < (-1074 : Int)) = false, decide ((↑(Bn.bl (Bn.nat a)) : Int) - (53 : Int) ≤ (0 : Int)) = false, inR IntKind.i64 ((↑(Bn.bl (Bn.nat a)) : Int) + (1 : Int)), decide ((↑(Bn.bl (Bn.nat a)) : Int) - (53 : Int) > (↑(Bn.bl (Bn.nat a)) : Int) + (1 : Int)) = false, Bn.Words a, a.length ≤ Bn.lim4, (Bn.ShrN (Bn.nat a) ((↑(Bn.bl (Bn.nat a)) : Int) - (53 : Int))).snd = false, inR IntKind.i64 ((↑(Bn.bl (Bn.nat a)) : Int) - (53 : Int) - (1 : Int)), Bn.Words a, a.length ≤ Bn.lim4, (Bn.ShrN (Bn.nat a) ((↑(Bn.bl (Bn.nat a)) : Int) - (53 : Int) - (1 : Int))).snd = false, decide ((↑(Bn.ShrN (Bn.nat a) ((↑(Bn.bl (Bn.nat a)) : Int) - (53 : Int) - (1 : Int))).fst.length : Int) > (0 : Int)) = true, (0 : Int) ≤ (0 : Int) ∧ (0 : Int) < (↑(Bn.ShrN (Bn.nat a) ((↑(Bn.bl (Bn.nat a)) : Int) - (53 : Int) - (1 : Int))).fst.length : Int), (bitsOf BinOp.and IntKind.u32 ((Bn.ShrN (Bn.nat a) ((↑(Bn.bl (Bn.nat a)) : Int) - (53 : Int) - (1 : Int))).fst.getD 0 (0 : Int)) (1 : Int) == (1 : Int)) = true, decide ((↑(Bn.ShrN (Bn.nat a) ((↑(Bn.bl (Bn.nat a)) : Int) - (53 : Int))).fst.length : Int) > (0 : Int)) = false, Bn.Words (Bn.ShrN (Bn.nat a) ((↑(Bn.bl (Bn.nat a)) : Int) - (53 : Int))).fst, (0 : Int) ≤ (1 : Int), (0 : Int) ≤ (32 : Int), inR IntKind.u64 (Bn.wd (Bn.ShrN (Bn.nat a) ((↑(Bn.bl (Bn.nat a)) : Int) - (53 : Int))).fst (1 : Int) * (4294967296 : Int)), Bn.Words (Bn.ShrN (Bn.nat a) ((↑(Bn.bl (Bn.nat a)) : Int) - (53 : Int))).fst, (0 : Int) ≤ (0 : Int), inR IntKind.i64 ((0 : Int) + ((↑(Bn.bl (Bn.nat a)) : Int) - (53 : Int))), W (fofI (bitsOf BinOp.or IntKind.u64 (Bn.wd (Bn.ShrN (Bn.nat a) ((↑(Bn.bl (Bn.nat a)) : Int) - (53 : Int))).fst (1 : Int) * (4294967296 : Int)) (Bn.wd (Bn.ShrN (Bn.nat a) ((↑(Bn.bl (Bn.nat a)) : Int) - (53 : Int))).fst (0 : Int)))), (-4611686018427387904 : Int) ≤ (0 : Int) + ((↑(Bn.bl (Bn.nat a)) : Int) - (53 : Int)), (0 : Int) + ((↑(Bn.bl (Bn.nat a)) : Int) - (53 : Int)) ≤ (4611686018427387904 : Int)]) : PureTo Tryd.prog 29 [.sl 1 (.ints .u32 a) ta, .v (.int .i64 0)] (AV.fl FloatKind.f64 (ldexpW (fofI (bitsOf BinOp.or IntKind.u64 (Bn.wd (Bn.ShrN (Bn.nat a) ((↑(Bn.bl (Bn.nat a)) : Int) - (53 : Int))).fst (1 : Int) * (4294967296 : Int)) (Bn.wd (Bn.ShrN (Bn.nat a) ((↑(Bn.bl (Bn.nat a)) : Int) - (53 : Int))).fst (0 : Int)))) ((0 : Int) + ((↑(Bn.bl (Bn.nat a)) : Int) - (53 : Int))))) :=
  evFn_pure hm boT0 (fn := Tryd.f29) rfl rfl (ti := false) (hs := [CHint.ops 2 [(1, Hint.b false)], CHint.ops 4 [(3, Hint.b false)], CHint.ops 7 [(3, Hint.b false)], CHint.ops 9 [(1, Hint.b false)], CHint.ops 17 [(3, Hint.b false)], CHint.ops 19 [(5, Hint.b false)], CHint.ops 20 [(6, Hint.b false)], CHint.ops 21 [(2, Hint.b true), (8, Hint.b true), (15, Hint.b false)]]) (c := _) (by kernel_rfl) h
theorem nearZ20 (a : List Int) (ta : Bool) (m : Nat) (h : AllP [Bn.Words a, a.length ≤ Bn.lim4, ((↑(Bn.bl (Bn.nat a)) : Int) == (0 : Int)) = false, inR IntKind.i64 ((↑(Bn.bl (Bn.nat a)) : Int) + (0 : Int)), decide ((↑(Bn.bl (Bn.nat a)) : Int) + (0 : Int) > (1024 : Int)) = false, inR IntKind.i64 ((↑(Bn.bl (Bn.nat a)) : Int) - (53 : Int)), inR IntKind.i64 ((↑(Bn.bl (Bn.nat a)) : Int) - (53 : Int) + (0 : Int)), decide ((↑(Bn.bl (Bn.nat a)) : Int) - (53 : Int) + (0 : Int) < (-1074 : Int)) = false, decide ((↑(Bn.bl (Bn.nat a)) : Int) - (53 : Int) ≤ (0 : Int)) = false, inR IntKind.i64 ((↑(Bn.bl (Bn.nat a)) : Int) + (1 : Int)), decide ((↑(Bn.bl (Bn.nat a)) : Int) - (53 : Int) > (↑(Bn.bl (Bn.nat a)) : Int) + (1 : Int)) = false, Bn.Words a, a.length ≤ Bn.lim4, (Bn.ShrN (Bn.nat a) ((↑(Bn.bl (Bn.nat a)) : Int) - (53 : Int))).snd = false, inR IntKind.i64 ((↑(Bn.bl (Bn.nat a)) : Int) - (53 : Int) - (1 : Int)), Bn.Words a, a.length ≤ Bn.lim4, (Bn.ShrN (Bn.nat a) ((↑(Bn.bl (Bn.nat a)) : Int) - (53 : Int) - (1 : Int))).snd = false, decide ((↑(Bn.ShrN (Bn.nat a) ((↑(Bn.bl (Bn.nat a)) : Int) - (53 : Int) - (1 : Int))).fst.length : Int) > (0 : Int)) = true, (0 : Int) ≤ (0 : Int) ∧ (0 : Int) < (↑(Bn.ShrN (Bn.nat a) ((↑(Bn.bl (Bn.nat a)) : Int) - (53 : Int) - (1 : Int))).fst.length : Int), (bitsOf BinOp.and IntKind.u32 ((Bn.ShrN (Bn.nat a) ((↑(Bn.bl (Bn.nat a)) : Int) - (53 : Int) - (1 : Int))).fst.getD 0 (0 : Int)) (1 : Int) == (1 : Int)) = false, Bn.Words (Bn.ShrN (Bn.nat a) ((↑(Bn.bl (Bn.nat a)) : Int) - (53 : Int))).fst, (0 : Int) ≤ (1 : Int), (0 : Int) ≤ (32 : Int), inR IntKind.u64 (Bn.wd (Bn.ShrN (Bn.nat a) ((↑(Bn.bl (Bn.nat a)) : Int) - (53 : Int))).fst (1 : Int) * (4294967296 : Int)), Bn.Words (Bn.ShrN (Bn.nat a) ((↑(Bn.bl (Bn.nat a)) : Int) - (53 : Int))).fst, (0 : Int) ≤ (0 : Int), inR IntKind.i64 ((0 : Int) + ((↑(Bn.bl (Bn.nat a)) : Int) - (53 : Int))), W (fofI (bitsOf BinOp.or IntKind.u64 (Bn.wd (Bn.ShrN (Bn.nat a) ((↑(Bn.bl (Bn.nat a)) : Int) - (53 : Int))).fst (1 : Int) * (4294967296 : Int)) (Bn.wd (Bn.ShrN (Bn.nat a) ((↑(Bn.bl (Bn.nat a)) : Int) - (53 : Int))).fst (0 : Int)))), (-4611686018427387904 : Int) ≤ (0 : Int) + ((↑(Bn.bl (Bn.nat a)) : Int) - (53 : Int)), (0 : Int) + ((↑(Bn.bl (Bn.nat a)) : Int) - (53 : Int)) ≤ (4611686018427387904 : Int)]) : PureTo Tryd.prog 29 [.sl 1 (.ints .u32 a) ta, .v (.int .i64 0)] (AV.fl FloatKind.f64 (ldexpW (fofI (bitsOf BinOp.or IntKind.u64 (Bn.wd (Bn.ShrN (Bn.nat a) ((↑(Bn.bl (Bn.nat a)) : Int) - (53 : Int))).fst (1 : Int) * (4294967296 : Int)) (Bn.wd (Bn.ShrN (Bn.nat a) ((↑(Bn.bl (Bn.nat a)) : Int) - (53 : Int))).fst (0 : Int)))) ((0 : Int) + ((↑(Bn.bl (Bn.nat a)) : Int) - (53 : Int))))) :=
  evFn_pure hm boT0 (fn := Tryd.f29) rfl rfl (ti := false) (hs := [CHint.ops 2 [(1, Hint.b false)], CHint.ops 4 [(3, Hint.b false)], CHint.ops 7 [(3, Hint.b false)], CHint.ops 9 [(1, Hint.b false)], CHint.ops 17 [(3, Hint.b false)], CHint.ops 19 [(5, Hint.b false)], CHint.ops 20 [(6, Hint.b false)], CHint.ops 21 [(2, Hint.b true), (8, Hint.b false)]]) (c := _) (by kernel_rfl) h
theorem nearZ21 (a : List Int) (ta : Bool) (m : Nat) (h : AllP [Bn.Words a, a.length ≤ Bn.lim4, ((↑(Bn.bl (Bn.nat a)) : Int) == (0 : Int)) = false, inR IntKind.i64 ((↑(Bn.bl (Bn.nat a)) : Int) + (0 : Int)), decide ((↑(Bn.bl (Bn.nat a)) : Int) + (0 : Int) > (1024 : Int)) = false, inR IntKind.i64 ((↑(Bn.bl (Bn.nat a)) : Int) - (53 : Int)), inR IntKind.i64 ((↑(Bn.bl (Bn.nat a)) : Int) - (53 : Int) + (0 : Int)), decide ((↑(Bn.bl (Bn.nat a)) : Int) - (53 : Int) + (0 : Int) < (-1074 : Int)) = false, decide ((↑(Bn.bl (Bn.nat a)) : Int) - (53 : Int) ≤ (0 : Int)) = false, inR IntKind.i64 ((↑(Bn.bl (Bn.nat a)) : Int) + (1 : Int)), decide ((↑(Bn.bl (Bn.nat a)) : Int) - (53 : Int) > (↑(Bn.bl (Bn.nat a)) : Int) + (1 : Int)) = false, Bn.Words a, a.length ≤ Bn.lim4, (Bn.ShrN (Bn.nat a) ((↑(Bn.bl (Bn.nat a)) : Int) - (53 : Int))).snd = false, inR IntKind.i64 ((↑(Bn.bl (Bn.nat a)) : Int) - (53 : Int) - (1 : Int)), Bn.Words a, a.length ≤ Bn.lim4, (Bn.ShrN (Bn.nat a) ((↑(Bn.bl (Bn.nat a)) : Int) - (53 : Int) - (1 : Int))).snd = false, decide ((↑(Bn.ShrN (Bn.nat a) ((↑(Bn.bl (Bn.nat a)) : Int) - (53 : Int) - (1 : Int))).fst.length : Int) > (0 : Int)) = false, Bn.Words (Bn.ShrN (Bn.nat a) ((↑(Bn.bl (Bn.nat a)) : Int) - (53 : Int))).fst, (0 : Int) ≤ (1 : Int), (0 : Int) ≤ (32 : Int), inR IntKind.u64 (Bn.wd (Bn.ShrN (Bn.nat a) ((↑(Bn.bl (Bn.nat a)) : Int) - (53 : Int))).fst (1 : Int) * (4294967296 : Int)), Bn.Words (Bn.ShrN (Bn.nat a) ((↑(Bn.bl (Bn.nat a)) : Int) - (53 : Int))).fst, (0 : Int) ≤ (0 : Int), inR IntKind.i64 ((0 : Int) + ((↑(Bn.bl (Bn.nat a)) : Int) - (53 : Int))), W (fofI (bitsOf BinOp.or IntKind.u64 (Bn.wd (Bn.ShrN (Bn.nat a) ((↑(Bn.bl (Bn.nat a)) : Int) - (53 : Int))).fst (1 : Int) * (4294967296 : Int)) (Bn.wd (Bn.ShrN (Bn.nat a) ((↑(Bn.bl (Bn.nat a)) : Int) - (53 : Int))).fst (0 : Int)))), (-4611686018427387904 : Int) ≤ (0 : Int) + ((↑(Bn.bl (Bn.nat a)) : Int) - (53 : Int)), (0 : Int) + ((↑(Bn.bl (Bn.nat a)) : Int) - (53 : Int)) ≤ (4611686018427387904 : Int)]) : PureTo Tryd.prog 29 [.sl 1 (.ints .u32 a) ta, .v (.int .i64 0)] (AV.fl FloatKind.f64 (ldexpW (fofI (bitsOf BinOp.or IntKind.u64 (Bn.wd (Bn.ShrN (Bn.nat a) ((↑(Bn.bl (Bn.nat a)) : Int) - (53 : Int))).fst (1 : Int) * (4294967296 : Int)) (Bn.wd (Bn.ShrN (Bn.nat a) ((↑(Bn.bl (Bn.nat a)) : Int) - (53 : Int))).fst (0 : Int)))) ((0 : Int) + ((↑(Bn.bl (Bn.nat a)) : Int) - (53 : Int))))) :=
  evFn_pure hm boT0 (fn := Tryd.f29) rfl rfl (ti := false) (hs := [CHint.ops 2 [(1, Hint.b false)], CHint.ops 4 [(3, Hint.b false)], CHint.ops 7 [(3, Hint.b false)], CHint.ops 9 [(1, Hint.b false)], CHint.ops 17 [(3, Hint.b false)], CHint.ops 19 [(5, Hint.b false)], CHint.ops 20 [(6, Hint.b false)], CHint.ops 21 [(2, Hint.b false)]]) (c := _) (by kernel_rfl) h
-- 4 paths
theorem flt_1 (a : List Int) (ta : Bool) (h : AllP [a.length < Bd.lim, Bn.Words (Bn.norm a), (Bn.norm a).length ≤ Bd.lim4, decide ((↑(Bn.bl (Bn.nat (Bn.norm a))) : Int) > (1024 : Int)) = true]) : PureTo Tryd.prog 8 [.sl 1 (.ints .u32 a) ta] (AV.v (.float FloatKind.f64 9218868437227405312)) :=
  evFn_pure hm boT0 (fn := Tryd.f8) rfl rfl (ti := false) (hs := [CHint.ops 3 [(1, Hint.b true)]]) (c := _) (by kernel_rfl) h
theorem flt_2 (a : List Int) (ta : Bool) (h : AllP [a.length < Bd.lim, Bn.Words (Bn.norm a), (Bn.norm a).length ≤ Bd.lim4, decide ((↑(Bn.bl (Bn.nat (Bn.norm a))) : Int) > (1024 : Int)) = false, decide ((↑(Bn.bl (Bn.nat (Bn.norm a))) : Int) ≤ (64 : Int)) = true, Bn.Words (Bn.norm a), Bn.Words (Bn.norm a), (0 : Int) ≤ (32 : Int), inR IntKind.u64 (Bn.wd (Bn.norm a) (1 : Int) * (4294967296 : Int))]) : PureTo Tryd.prog 8 [.sl 1 (.ints .u32 a) ta] (AV.v (.float FloatKind.f64 (fofI (bitsOf BinOp.or IntKind.u64 (Bn.wd (Bn.norm a) (0 : Int)) (Bn.wd (Bn.norm a) (1 : Int) * (4294967296 : Int)))))) :=
  evFn_pure hm boT0 (fn := Tryd.f8) rfl rfl (ti := false) (hs := [CHint.ops 3 [(1, Hint.b false)], CHint.ops 5 [(1, Hint.b true)]]) (c := _) (by kernel_rfl) h
theorem flt_3 (a : List Int) (ta : Bool) (h : AllP [a.length < Bd.lim, Bn.Words (Bn.norm a), (Bn.norm a).length ≤ Bd.lim4, decide ((↑(Bn.bl (Bn.nat (Bn.norm a))) : Int) > (1024 : Int)) = false, decide ((↑(Bn.bl (Bn.nat (Bn.norm a))) : Int) ≤ (64 : Int)) = false, inR IntKind.i64 ((↑(Bn.bl (Bn.nat (Bn.norm a))) : Int) - (64 : Int)), Bn.Words (Bn.norm a), (Bn.norm a).length ≤ Bd.lim4, (↑(Bn.bl (Bn.nat (Bn.norm a))) : Int) - (64 : Int) ≤ (9223372036854775807 : Int), (Bn.ShrN (Bn.nat (Bn.norm a)) ((↑(Bn.bl (Bn.nat (Bn.norm a))) : Int) - (64 : Int))).snd = true, Bn.Words (Bn.ShrN (Bn.nat (Bn.norm a)) ((↑(Bn.bl (Bn.nat (Bn.norm a))) : Int) - (64 : Int))).fst, Bn.Words (Bn.ShrN (Bn.nat (Bn.norm a)) ((↑(Bn.bl (Bn.nat (Bn.norm a))) : Int) - (64 : Int))).fst, (0 : Int) ≤ (32 : Int), inR IntKind.u64 (Bn.wd (Bn.ShrN (Bn.nat (Bn.norm a)) ((↑(Bn.bl (Bn.nat (Bn.norm a))) : Int) - (64 : Int))).fst (1 : Int) * (4294967296 : Int)), inR IntKind.i64 ((↑(Bn.bl (Bn.nat (Bn.norm a))) : Int) - (64 : Int)), W (fofI (bitsOf BinOp.or IntKind.u64 (bitsOf BinOp.or IntKind.u64 (Bn.wd (Bn.ShrN (Bn.nat (Bn.norm a)) ((↑(Bn.bl (Bn.nat (Bn.norm a))) : Int) - (64 : Int))).fst (0 : Int)) (Bn.wd (Bn.ShrN (Bn.nat (Bn.norm a)) ((↑(Bn.bl (Bn.nat (Bn.norm a))) : Int) - (64 : Int))).fst (1 : Int) * (4294967296 : Int))) (1 : Int))), (-4611686018427387904 : Int) ≤ (↑(Bn.bl (Bn.nat (Bn.norm a))) : Int) - (64 : Int), (↑(Bn.bl (Bn.nat (Bn.norm a))) : Int) - (64 : Int) ≤ (4611686018427387904 : Int)]) : PureTo Tryd.prog 8 [.sl 1 (.ints .u32 a) ta] (AV.fl FloatKind.f64 (ldexpW (fofI (bitsOf BinOp.or IntKind.u64 (bitsOf BinOp.or IntKind.u64 (Bn.wd (Bn.ShrN (Bn.nat (Bn.norm a)) ((↑(Bn.bl (Bn.nat (Bn.norm a))) : Int) - (64 : Int))).fst (0 : Int)) (Bn.wd (Bn.ShrN (Bn.nat (Bn.norm a)) ((↑(Bn.bl (Bn.nat (Bn.norm a))) : Int) - (64 : Int))).fst (1 : Int) * (4294967296 : Int))) (1 : Int))) ((↑(Bn.bl (Bn.nat (Bn.norm a))) : Int) - (64 : Int)))) :=
  evFn_pure hm boT0 (fn := Tryd.f8) rfl rfl (ti := false) (hs := [CHint.ops 3 [(1, Hint.b false)], CHint.ops 5 [(1, Hint.b false)], CHint.ops 7 [(6, Hint.b true)]]) (c := _) (by kernel_rfl) h
theorem flt_4 (a : List Int) (ta : Bool) (h : AllP [a.length < Bd.lim, Bn.Words (Bn.norm a), (Bn.norm a).length ≤ Bd.lim4, decide ((↑(Bn.bl (Bn.nat (Bn.norm a))) : Int) > (1024 : Int)) = false, decide ((↑(Bn.bl (Bn.nat (Bn.norm a))) : Int) ≤ (64 : Int)) = false, inR IntKind.i64 ((↑(Bn.bl (Bn.nat (Bn.norm a))) : Int) - (64 : Int)), Bn.Words (Bn.norm a), (Bn.norm a).length ≤ Bd.lim4, (↑(Bn.bl (Bn.nat (Bn.norm a))) : Int) - (64 : Int) ≤ (9223372036854775807 : Int), (Bn.ShrN (Bn.nat (Bn.norm a)) ((↑(Bn.bl (Bn.nat (Bn.norm a))) : Int) - (64 : Int))).snd = false, Bn.Words (Bn.ShrN (Bn.nat (Bn.norm a)) ((↑(Bn.bl (Bn.nat (Bn.norm a))) : Int) - (64 : Int))).fst, Bn.Words (Bn.ShrN (Bn.nat (Bn.norm a)) ((↑(Bn.bl (Bn.nat (Bn.norm a))) : Int) - (64 : Int))).fst, (0 : Int) ≤ (32 : Int), inR IntKind.u64 (Bn.wd (Bn.ShrN (Bn.nat (Bn.norm a)) ((↑(Bn.bl (Bn.nat (Bn.norm a))) : Int) - (64 : Int))).fst (1 : Int) * (4294967296 : Int)), inR IntKind.i64 ((↑(Bn.bl (Bn.nat (Bn.norm a))) : Int) - (64 : Int)), W (fofI (bitsOf BinOp.or IntKind.u64 (Bn.wd (Bn.ShrN (Bn.nat (Bn.norm a)) ((↑(Bn.bl (Bn.nat (Bn.norm a))) : Int) - (64 : Int))).fst (0 : Int)) (Bn.wd (Bn.ShrN (Bn.nat (Bn.norm a)) ((↑(Bn.bl (Bn.nat (Bn.norm a))) : Int) - (64 : Int))).fst (1 : Int) * (4294967296 : Int)))), (-4611686018427387904 : Int) ≤ (↑(Bn.bl (Bn.nat (Bn.norm a))) : Int) - (64 : Int), (↑(Bn.bl (Bn.nat (Bn.norm a))) : Int) - (64 : Int) ≤ (4611686018427387904 : Int)]) : PureTo Tryd.prog 8 [.sl 1 (.ints .u32 a) ta] (AV.fl FloatKind.f64 (ldexpW (fofI (bitsOf BinOp.or IntKind.u64 (Bn.wd (Bn.ShrN (Bn.nat (Bn.norm a)) ((↑(Bn.bl (Bn.nat (Bn.norm a))) : Int) - (64 : Int))).fst (0 : Int)) (Bn.wd (Bn.ShrN (Bn.nat (Bn.norm a)) ((↑(Bn.bl (Bn.nat (Bn.norm a))) : Int) - (64 : Int))).fst (1 : Int) * (4294967296 : Int)))) ((↑(Bn.bl (Bn.nat (Bn.norm a))) : Int) - (64 : Int)))) :=
  evFn_pure hm boT0 (fn := Tryd.f8) rfl rfl (ti := false) (hs := [CHint.ops 3 [(1, Hint.b false)], CHint.ops 5 [(1, Hint.b false)], CHint.ops 7 [(6, Hint.b false)]]) (c := _) (by kernel_rfl) h
end Go.Proofs.Bf

/- Bignum: floats nearest to naturals; trailing zeros. -/
set_option maxRecDepth 100000
set_option exponentiation.threshold 2200
namespace Go.Proofs.Bf
open Go Go.Ev Ieee Bn

/-! ### a float of a top, times a power of 2 -/
theorem val_top {e K : Nat} (h1 : 4503599627370496 ≤ K) (h2 : K ≤ 9007199254740992) : valN (e * 4503599627370496 + K) = K * 2 ^ e := by
  by_cases h : K < 9007199254740992
  · have := (valN_normal (E := e + 1) (m := K - 4503599627370496) (by omega) (by omega)).1
    rw [show e * 4503599627370496 + K = (e + 1) * 4503599627370496 + (K - 4503599627370496) by omega, this, show e + 1 - 1 = e by omega, show 4503599627370496 + (K - 4503599627370496) = K by omega]
  · have hK : K = 9007199254740992 := by omega
    subst hK
    have := (valN_normal (E := e + 2) (m := 0) (by omega) (by decide)).1
    rw [show e * 4503599627370496 + 9007199254740992 = (e + 2) * 4503599627370496 + 0 by omega, this, show e + 2 - 1 = 1 + e by omega, Nat.pow_add]
    omega
theorem ldexp_top {e k K : Nat} (h1 : 4503599627370496 ≤ K) (h2 : K ≤ 9007199254740992) (he : e ≤ 1100) : ldexpW (wordOf false (e * 4503599627370496 + K)) k = wordOf false (min ((e + k) * 4503599627370496 + K) 9218868437227405312) := by
  have hlt : e * 4503599627370496 + K < 9218868437227405312 := by omega
  have hw : FWord (wordOf false (e * 4503599627370496 + K)) := word_wordOf (Nat.le_of_lt hlt)
  have hrg : rg (wordOf false (e * 4503599627370496 + K)) = e * 4503599627370496 + K := rg_wordOf (Nat.le_of_lt hlt)
  have hsg : sg (wordOf false (e * 4503599627370496 + K)) = false := sg_wordOf (Nat.le_of_lt hlt)
  have hf : Fit (wordOf false (e * 4503599627370496 + K)) := by unfold Fit; rw [hrg]; exact hlt
  have h0 : rg (wordOf false (e * 4503599627370496 + K)) ≠ 0 := by rw [hrg]; omega
  by_cases hfit : (e + k) * 4503599627370496 + K < 9218868437227405312
  · rw [Nat.min_eq_left (Nat.le_of_lt hfit)]
    obtain ⟨E, m, c, hn⟩ := norm_of hw hf h0
    have := ldexp_V hf h0 hn k ((e + k) * 4503599627370496 + K) hfit (by rw [hrg, val_top h1 h2, val_top h1 h2, Nat.mul_assoc, ← Nat.pow_add])
    rw [hsg] at this
    exact this
  · have hnlt : ¬ e * 4503599627370496 + K < 4503599627370496 := Nat.not_lt.2 (Nat.le_trans h1 (Nat.le_add_left _ _))
    rw [Nat.min_eq_right (by omega)]
    have hnf : normF (wordOf false (e * 4503599627370496 + K)) = wordOf false (e * 4503599627370496 + K) := by rw [normF_eq hf.num, hrg]; exact if_neg hnlt
    have hne : normE (wordOf false (e * 4503599627370496 + K)) = 0 := by rw [normE_eq hf.num, hrg]; exact if_neg hnlt
    have hex : expo (wordOf false (e * 4503599627370496 + K)) = (e * 4503599627370496 + K) / 4503599627370496 := by
      unfold expo wordOf
      rw [if_neg (by decide)]
      omega
    unfold ldexpW
    rw [notZero hf h0, notInf hf, isNaN_num.2 hf.num]
    simp only [Bool.false_eq_true, if_false, hnf, hne, hex]
    rw [if_neg (by omega), if_pos (by omega)]
    have : flt .f64 (wordOf false (e * 4503599627370496 + K)) 0 = false := by
      rw [flt_V hf.num (by unfold Num; decide), decide_eq_false_iff_not]
      have hv : V (wordOf false (e * 4503599627370496 + K)) = valN (e * 4503599627370496 + K) := V_wordOf (Nat.le_of_lt hlt)
      have hz : V 0 = 0 := rfl
      omega
    rw [this]
    rfl
theorem fofI_top {K : Nat} (h1 : 4503599627370496 ≤ K) (h2 : K ≤ 9007199254740992) : fofI (K : Int) = wordOf false (1074 * 4503599627370496 + K) := by
  rw [fofI_V, decide_eq_false (by omega), Int.natAbs_natCast]
  have hv := val_top (e := 1074) h1 h2
  have : K * U = valN (1074 * 4503599627370496 + K) := by rw [hv]; rfl
  rw [this, rd_val (by omega)]
theorem fofI_big {n : Nat} (h0 : n ≠ 0) (h : 52 ≤ n.log2) : fofI (n : Int) = wordOf false (min ((n.log2 - 52 + 1074) * 4503599627370496 + cutE n (n.log2 - 52)) 9218868437227405312) := by
  rw [fofI_rung, rung_nat h0 h]
/-- the reference's way -/
theorem near_way {n : Nat} (h0 : n ≠ 0) (h : 52 ≤ n.log2) : ldexpW (fofI (cutE n (n.log2 - 52) : Int)) ((n.log2 - 52 : Nat) : Int) = fofI (n : Int) := by
  obtain ⟨a1, a2⟩ := cutE_range h0 h
  rw [fofI_top a1 a2, ldexp_top a1 a2 (by omega), fofI_big h0 h, Nat.add_comm 1074]
/-- the program's way -/
theorem float_way {n s : Nat} (h1 : 2 ^ 63 ≤ n / 2 ^ s) (h2 : n / 2 ^ s < 2 ^ 64) : ldexpW (fofI (sticky n s : Int)) ((s : Nat) : Int) = fofI (n : Int) := by
  obtain ⟨l1, l2, l3⟩ := cut_sticky h1 h2
  obtain ⟨b1, b2⟩ := sticky_bound h1 h2
  have p63 := Nat.two_pow_pos 63
  have m0 : sticky n s ≠ 0 := by omega
  have n0 : n ≠ 0 := by
    rintro rfl
    rw [Nat.zero_div] at h1
    omega
  obtain ⟨a1, a2⟩ := cutE_range m0 (by omega)
  rw [l2] at a1 a2
  have e1 : fofI (sticky n s : Int) = wordOf false (1085 * 4503599627370496 + cutE (sticky n s) 11) := by
    rw [fofI_big m0 (by omega), l2]
    congr 1
    exact Nat.min_eq_left (by omega)
  rw [e1, ldexp_top a1 a2 (by omega), fofI_big n0 (by omega), l1, show s + 63 - 52 = s + 11 by omega, l3, show 1085 + s = s + 11 + 1074 by omega]
theorem fofI_inf {n : Nat} (h : 2 ^ 1024 ≤ n) : fofI (n : Int) = 9218868437227405312 := by
  rw [fofI_V, decide_eq_false (by omega), Int.natAbs_natCast]
  have h1 : (9218868437227405312 : Nat) ≤ rd (n * U) := by
    refine rd_ge (Nat.le_refl _) ?_
    have : valN 9218868437227405312 = 2 ^ 1024 * U := by decide +kernel
    rw [this]
    exact Nat.mul_le_mul_right _ h
  have h2 := rd_inf (n * U)
  have h3 : rd (n * U) = 9218868437227405312 := Nat.le_antisymm h2 h1
  unfold wordOf
  rw [if_neg (by decide), h3]

/-! ### words -/
theorem wd_zero (m : Nat) : wd (dig m) 0 = ((m % 4294967296 : Nat) : Int) := by
  have := dig_get m 0
  rw [Nat.pow_zero, Nat.div_one] at this
  exact this
theorem wd_one (m : Nat) : wd (dig m) 1 = ((m / 4294967296 % 4294967296 : Nat) : Int) := by
  have := dig_get m 1
  rw [Nat.pow_one] at this
  exact this
theorem two_words {m : Nat} (h : m < 2 ^ 64) : bitsOf .or .u64 (wd (dig m) 1 * 4294967296) (wd (dig m) 0) = (m : Int) ∧ bitsOf .or .u64 (wd (dig m) 0) (wd (dig m) 1 * 4294967296) = (m : Int) := by
  have e64 : (2 : Nat) ^ 64 = 18446744073709551616 := by decide
  rw [wd_zero, wd_one]
  have e32 : ((2 ^ 32 : Nat) : Int) = 4294967296 := by decide
  have ei : (2 : Int) ^ IntKind.u64.bits = 18446744073709551616 := by decide
  have := or_add (k := .u64) rfl (x := ((m % 4294967296 : Nat) : Int)) (y := ((m / 4294967296 % 4294967296 : Nat) : Int) * 4294967296) (s := 32) (by omega) (by rw [e32]; omega) (by omega) (by rw [ei]; omega) (by rw [e32]; omega) (by decide)
  exact ⟨this.2.trans (by omega), this.1.trans (by omega)⟩

/-! ### trailing zeros -/
theorem table_at : ∀ z : Nat, z < 64 → Bd.bruijn.getD (((2 ^ z * 285870213051353865 : Nat) : Int) % 18446744073709551616 / 288230376151711744).toNat 0 = z ∧ ((2 ^ z * 285870213051353865 : Nat) : Int) % 18446744073709551616 / 288230376151711744 < 64 := by decide +kernel
theorem tz_c {z k : Nat} (h : 2 ^ z * (2 * k + 1) < 2 ^ 64) : PureTo Tryd.prog 20 [.v (.int .u64 ((2 ^ z * (2 * k + 1) : Nat) : Int))] (.v (.int .i64 z)) := by
  have hand := and_neg_nat h
  have hpos : 0 < 2 ^ z * (2 * k + 1) := Nat.mul_pos (Nat.two_pow_pos _) (by omega)
  have hz : z < 64 := by
    refine Nat.lt_of_not_le fun hle => ?_
    have h1 := Nat.pow_le_pow_right (show 0 < 2 by decide) hle
    have h2 : 2 ^ z * 1 ≤ 2 ^ z * (2 * k + 1) := Nat.mul_le_mul_left _ (by omega)
    omega
  have e64 : (2 : Nat) ^ 64 = 18446744073709551616 := by decide
  have e1 : ((0 : Int) - ((2 ^ z * (2 * k + 1) : Nat) : Int)) % 18446744073709551616 = ((2 ^ 64 - 2 ^ z * (2 * k + 1) : Nat) : Int) := by
    rw [e64] at h ⊢
    omega
  have e2 : bitsOf .and .u64 ((2 ^ z * (2 * k + 1) : Nat) : Int) (((0 : Int) - ((2 ^ z * (2 * k + 1) : Nat) : Int)) % 18446744073709551616) = ((2 ^ z : Nat) : Int) := by
    rw [e1, bits_and (k := .u64) rfl (by show _ < 2 ^ 64; omega) (by show _ < 2 ^ 64; omega), hand]
  obtain ⟨t1, t2⟩ := table_at z hz
  have e3 : ((2 ^ z * 285870213051353865 : Nat) : Int) = ((2 ^ z : Nat) : Int) * 285870213051353865 := Int.natCast_mul _ _
  rw [e3] at t1 t2
  have := tz2 (2 ^ z * (2 * k + 1))
  rw [e2, t1] at this
  have hge : 0 ≤ ((2 ^ z : Nat) : Int) * 285870213051353865 % 18446744073709551616 / 288230376151711744 := by omega
  exact this ⟨by rw [beq_eq_false_iff_ne]; omega, by decide, ⟨hge, t2⟩, ⟨by omega, by omega⟩, trivial⟩
end Go.Proofs.Bf

/- Bignum: Near and Float are the nearest float. -/
set_option maxRecDepth 100000
set_option exponentiation.threshold 2200
namespace Go.Proofs.Bf
open Go Go.Ev Ieee Bn

theorem shr_dig (n : Nat) (c : Nat) : ShrN (nat (dig n)) (c : Int) = (dig (n / 2 ^ c), decide (n % 2 ^ c ≠ 0)) := by
  unfold ShrN
  rw [if_neg (by omega), nat_dig, Int.toNat_natCast]
theorem dig_pos_len {n : Nat} (h : n ≠ 0) : 0 < (dig n).length := (dig_len 0 n).2 (by rw [Nat.pow_zero]; omega)
theorem dig_short {n k : Nat} (h : n < 4294967296 ^ k) : (dig n).length ≤ k := by
  rcases Nat.lt_or_ge k (dig n).length with h1 | h1
  · have := (dig_len k n).1 h1; omega
  · exact h1
theorem bit_zero (m : Nat) : (bitsOf .and .u32 ((dig m).getD 0 0) 1 == 1) = decide (m % 2 = 1) := by
  have e := dig_get m 0
  rw [Nat.pow_zero, Nat.div_one] at e
  rw [e]
  have := and_low (k := .u32) rfl (x := ((m % 4294967296 : Nat) : Int)) (s := 1) (by omega) (by show _ < (2 ^ 32 : Int); omega) (by decide)
  rw [show (((2 ^ 1 - 1 : Nat)) : Int) = 1 from rfl, show ((2 ^ 1 : Nat) : Int) = 2 from rfl] at this
  rw [this]
  by_cases h : m % 2 = 1
  · rw [decide_eq_true h, beq_iff_eq]; omega
  · rw [decide_eq_false h, beq_eq_false_iff_ne]; omega
theorem word_fofI (n : Nat) : W (fofI (n : Int)) := by
  rw [fofI_rung]; exact word_wordOf (rungOf_le _ _)
theorem num_fofI (n : Nat) : Num (fofI (n : Int)) := by
  rw [fofI_rung]; unfold Num; rw [rg_wordOf (rungOf_le _ _)]; exact rungOf_le _ _
theorem known_fofI {f : FuncId} {xs : List AV} {n : Nat} (h : PureTo Tryd.prog f xs (.fl .f64 (fofI (n : Int)))) : PureTo Tryd.prog f xs (.v (.float .f64 (fofI (n : Int)))) := h.ans (.num _ (num_iff.1 (num_fofI n)))
theorem wd_range (m : Nat) : 0 ≤ wd (dig m) 1 ∧ wd (dig m) 1 < 4294967296 := by rw [wd_one]; omega

structure NearF (n c q half : Nat) (mo lo : Bool) : Prop where
  h1 : ShrN (nat (dig n)) ((bl (nat (dig n)) : Int) - 53) = (dig q, lo)
  h2 : ShrN (nat (dig n)) ((bl (nat (dig n)) : Int) - 53 - 1) = (dig half, mo)

theorem near_big {n : Nat} (ta : Bool) (h1 : 53 < bl n) (h2 : bl n ≤ 1024) : PureTo Tryd.prog 29 [.sl 1 (.ints .u32 (dig n)) ta, .v (.int .i64 0)] (.v (.float .f64 (fofI (n : Int)))) := by
  have hn0 : n ≠ 0 := fun h => by rw [bl_zero.2 h] at h1; omega
  have hbl : bl n = n.log2 + 1 := by unfold bl; rw [if_neg hn0]
  have hnat := nat_dig n
  obtain ⟨c, hc⟩ : ∃ c, n.log2 = c + 52 := ⟨n.log2 - 52, by omega⟩
  have hc1 : 1 ≤ c := by omega
  have lt : n < 2 ^ 1024 := (bl_le n 1024).1 h2
  have wa := words_dig n
  have e1024 : (2 : Nat) ^ 1024 = 4294967296 ^ 32 := by decide +kernel
  have hl : (dig n).length ≤ 32 := dig_short (by rw [← e1024]; exact lt)
  have hl4 : (dig n).length ≤ lim4 := Nat.le_trans hl (by decide)
  have b0 : (bl (nat (dig n)) : Int) = (c : Int) + 53 := by rw [hnat, hbl, hc]; omega
  generalize hq : n / 2 ^ c = q
  generalize hh : n / 2 ^ (c - 1) = half
  have s1 : ShrN (nat (dig n)) ((bl (nat (dig n)) : Int) - 53) = (dig q, decide (n % 2 ^ c ≠ 0)) := by
    rw [b0, show (c : Int) + 53 - 53 = ((c : Nat) : Int) by omega, shr_dig, hq]
  have s2 : ShrN (nat (dig n)) ((bl (nat (dig n)) : Int) - 53 - 1) = (dig half, decide (n % 2 ^ (c - 1) ≠ 0)) := by
    rw [b0, show (c : Int) + 53 - 53 - 1 = ((c - 1 : Nat) : Int) by omega, shr_dig, hh]
  have ec : n.log2 - 52 = c := by omega
  have kept := cut_half (n := n) hc1 (by omega)
  rw [hq, hh] at kept
  have way := near_way hn0 (by omega)
  rw [ec] at way
  have rng := cutE_range hn0 (by omega)
  rw [ec] at rng
  have e53 : (2 : Nat) ^ 53 = 9007199254740992 := by decide
  have qlo : 4503599627370496 ≤ q := by
    rw [← hq, Nat.le_div_iff_mul_le (Nat.two_pow_pos _)]
    have := Nat.log2_self_le hn0
    rw [hc, Nat.add_comm, Nat.pow_add] at this
    exact this
  have qhi : q < 9007199254740992 := by
    rw [← hq, Nat.div_lt_iff_lt_mul (Nat.two_pow_pos _)]
    have := @Nat.lt_log2_self n
    rw [hc, show c + 52 + 1 = 53 + c by omega, Nat.pow_add] at this
    exact this
  have hhalf : half / 2 = q := by
    have e : c - 1 + 1 = c := by omega
    rw [← hh, ← hq, Nat.div_div_eq_div_mul, ← Nat.pow_succ, Nat.succ_eq_add_one, e]
  have lq : (dig q).length ≤ 2 := dig_short (by have : (4294967296 : Nat) ^ 2 = 18446744073709551616 := by decide
                                                omega)
  have pq := dig_pos_len (n := q) (by omega)
  have ph := dig_pos_len (n := half) (by omega)
  have one_nat : nat [(1 : Int)] = 1 := by decide
  have hbq := bit_zero q
  have hbh := bit_zero half
  have wq := wd_range q
  have wq1 := wd_range (q + 1)
  have tq := (two_words (m := q) (by omega)).1
  have tq1 := (two_words (m := q + 1) (by omega)).1
  have fin0 : ∀ K : Nat, cutE n c = K → PureTo Tryd.prog 29 [.sl 1 (.ints .u32 (dig n)) ta, .v (.int .i64 0)] (.fl .f64 (ldexpW (fofI (K : Int)) (0 + ((bl (nat (dig n)) : Int) - 53)))) → PureTo Tryd.prog 29 [.sl 1 (.ints .u32 (dig n)) ta, .v (.int .i64 0)] (.v (.float .f64 (fofI (n : Int)))) := by
    intro K hK hp
    rw [← hK, b0, show (0 : Int) + ((c : Int) + 53 - 53) = ((c : Nat) : Int) by omega, way] at hp
    exact known_fofI hp
  have wK := word_fofI q
  have wK1 := word_fofI (q + 1)
  have wone : Words [(1 : Int)] := fun x hx => by
    have : x = 1 := by simpa using hx
    subst this
    omega
  have hlim : lim4 = 35184372088832 := rfl
  rw [hnat] at b0 fin0
  have up : cutE n c = q + 1 → half % 2 = 1 → (decide (n % 2 ^ (c - 1) ≠ 0) = true ∨ q % 2 = 1) → PureTo Tryd.prog 29 [.sl 1 (.ints .u32 (dig n)) ta, .v (.int .i64 0)] (.v (.float .f64 (fofI (n : Int)))) := by
    intro hK ho hm
    have ho' : decide (half % 2 = 1) = true := decide_eq_true ho
    rw [ho'] at hbh
    cases hmo : decide (n % 2 ^ (c - 1) ≠ 0) with
    | true =>
      rw [hmo] at s2
      cases hlo : decide (n % 2 ^ c ≠ 0) with
      | true =>
        rw [hlo] at s1
        have p := nearZ6 (dig n) ta 0
        simp only [s1, s2, hbh] at p
        simp only [nat_dig, one_nat, tq1] at p
        exact fin0 _ hK (p (by simp only [AllP, inR, decide_eq_false_iff_not, decide_eq_true_eq, beq_eq_false_iff_ne]; (repeat' apply And.intro) <;> first | exact wa | exact hl4 | exact trivial | exact words_dig _ | exact wone | exact wK | exact wK1 | omega | decide))
      | false =>
        rw [hlo] at s1
        have p := nearZ14 (dig n) ta 0
        simp only [s1, s2, hbh] at p
        simp only [nat_dig, one_nat, tq1] at p
        exact fin0 _ hK (p (by simp only [AllP, inR, decide_eq_false_iff_not, decide_eq_true_eq, beq_eq_false_iff_ne]; (repeat' apply And.intro) <;> first | exact wa | exact hl4 | exact trivial | exact words_dig _ | exact wone | exact wK | exact wK1 | omega | decide))
    | false =>
      rw [hmo] at s2 hm
      have hqo : q % 2 = 1 := by rcases hm with h | h
                                 · cases h
                                 · exact h
      rw [decide_eq_true hqo] at hbq
      cases hlo : decide (n % 2 ^ c ≠ 0) with
      | true =>
        rw [hlo] at s1
        have p := nearZ9 (dig n) ta 0
        simp only [s1, s2, hbh, hbq] at p
        simp only [nat_dig, one_nat, tq1] at p
        exact fin0 _ hK (p (by simp only [AllP, inR, decide_eq_false_iff_not, decide_eq_true_eq, beq_eq_false_iff_ne]; (repeat' apply And.intro) <;> first | exact wa | exact hl4 | exact trivial | exact words_dig _ | exact wone | exact wK | exact wK1 | omega | decide))
      | false =>
        rw [hlo] at s1
        have p := nearZ17 (dig n) ta 0
        simp only [s1, s2, hbh, hbq] at p
        simp only [nat_dig, one_nat, tq1] at p
        exact fin0 _ hK (p (by simp only [AllP, inR, decide_eq_false_iff_not, decide_eq_true_eq, beq_eq_false_iff_ne]; (repeat' apply And.intro) <;> first | exact wa | exact hl4 | exact trivial | exact words_dig _ | exact wone | exact wK | exact wK1 | omega | decide))
  have down : cutE n c = q → ¬ (half % 2 = 1 ∧ (decide (n % 2 ^ (c - 1) ≠ 0) = true ∨ q % 2 = 1)) → PureTo Tryd.prog 29 [.sl 1 (.ints .u32 (dig n)) ta, .v (.int .i64 0)] (.v (.float .f64 (fofI (n : Int)))) := by
    intro hK hno
    by_cases ho : half % 2 = 1
    · have hno2 : ¬ (decide (n % 2 ^ (c - 1) ≠ 0) = true ∨ q % 2 = 1) := fun h => hno ⟨ho, h⟩
      have hmo : decide (n % 2 ^ (c - 1) ≠ 0) = false := by
        cases h : decide (n % 2 ^ (c - 1) ≠ 0) with
        | false => rfl
        | true => exact absurd (.inl h) hno2
      have hqo : decide (q % 2 = 1) = false := decide_eq_false fun h => hno2 (.inr h)
      rw [decide_eq_true ho] at hbh
      rw [hqo] at hbq
      rw [hmo] at s2
      cases hlo : decide (n % 2 ^ c ≠ 0) with
      | true =>
        rw [hlo] at s1
        have p := nearZ10 (dig n) ta 0
        simp only [s1, s2, hbh, hbq] at p
        simp only [nat_dig, tq] at p
        exact fin0 _ hK (p (by simp only [AllP, inR, decide_eq_false_iff_not, decide_eq_true_eq, beq_eq_false_iff_ne]; (repeat' apply And.intro) <;> first | exact wa | exact hl4 | exact trivial | exact words_dig _ | exact wone | exact wK | exact wK1 | omega | decide))
      | false =>
        rw [hlo] at s1
        have p := nearZ18 (dig n) ta 0
        simp only [s1, s2, hbh, hbq] at p
        simp only [nat_dig, tq] at p
        exact fin0 _ hK (p (by simp only [AllP, inR, decide_eq_false_iff_not, decide_eq_true_eq, beq_eq_false_iff_ne]; (repeat' apply And.intro) <;> first | exact wa | exact hl4 | exact trivial | exact words_dig _ | exact wone | exact wK | exact wK1 | omega | decide))
    · rw [decide_eq_false ho] at hbh
      cases hmo : decide (n % 2 ^ (c - 1) ≠ 0) with
      | true =>
        rw [hmo] at s2
        cases hlo : decide (n % 2 ^ c ≠ 0) with
        | true =>
          rw [hlo] at s1
          have p := nearZ7 (dig n) ta 0
          simp only [s1, s2, hbh] at p
          simp only [nat_dig, tq] at p
          exact fin0 _ hK (p (by simp only [AllP, inR, decide_eq_false_iff_not, decide_eq_true_eq, beq_eq_false_iff_ne]; (repeat' apply And.intro) <;> first | exact wa | exact hl4 | exact trivial | exact words_dig _ | exact wone | exact wK | exact wK1 | omega | decide))
        | false =>
          rw [hlo] at s1
          have p := nearZ15 (dig n) ta 0
          simp only [s1, s2, hbh] at p
          simp only [nat_dig, tq] at p
          exact fin0 _ hK (p (by simp only [AllP, inR, decide_eq_false_iff_not, decide_eq_true_eq, beq_eq_false_iff_ne]; (repeat' apply And.intro) <;> first | exact wa | exact hl4 | exact trivial | exact words_dig _ | exact wone | exact wK | exact wK1 | omega | decide))
      | false =>
        rw [hmo] at s2
        cases hlo : decide (n % 2 ^ c ≠ 0) with
        | true =>
          rw [hlo] at s1
          have p := nearZ12 (dig n) ta 0
          simp only [s1, s2, hbh] at p
          simp only [nat_dig, tq] at p
          exact fin0 _ hK (p (by simp only [AllP, inR, decide_eq_false_iff_not, decide_eq_true_eq, beq_eq_false_iff_ne]; (repeat' apply And.intro) <;> first | exact wa | exact hl4 | exact trivial | exact words_dig _ | exact wone | exact wK | exact wK1 | omega | decide))
        | false =>
          rw [hlo] at s1
          have p := nearZ20 (dig n) ta 0
          simp only [s1, s2, hbh] at p
          simp only [nat_dig, tq] at p
          exact fin0 _ hK (p (by simp only [AllP, inR, decide_eq_false_iff_not, decide_eq_true_eq, beq_eq_false_iff_ne]; (repeat' apply And.intro) <;> first | exact wa | exact hl4 | exact trivial | exact words_dig _ | exact wone | exact wK | exact wK1 | omega | decide))
  have hdm : (decide (n % 2 ^ (c - 1) ≠ 0) = true) = (n % 2 ^ (c - 1) ≠ 0) := by simp
  by_cases hup : half % 2 = 1 ∧ (n % 2 ^ (c - 1) ≠ 0 ∨ q % 2 = 1)
  · rw [if_pos hup] at kept
    exact up kept hup.1 (by rw [hdm]; exact hup.2)
  · rw [if_neg hup] at kept
    exact down kept (by rw [hdm]; exact hup)

theorem near_c {n : Nat} (ta : Bool) (hlen : (dig n).length ≤ lim4) : PureTo Tryd.prog 29 [.sl 1 (.ints .u32 (dig n)) ta, .v (.int .i64 0)] (.v (.float .f64 (fofI (n : Int)))) := by
  have wa := words_dig n
  have hnat := nat_dig n
  by_cases h0 : n = 0
  · subst h0
    exact nearZ1 (dig 0) ta 0 ⟨wa, hlen, by rw [hnat]; decide, trivial⟩
  have hb : bl n ≠ 0 := fun h => h0 (bl_zero.1 h)
  have hlim : lim4 = 35184372088832 := rfl
  have hbb : bl n ≤ 32 * (dig n).length := by
    rw [bl_le, Nat.pow_mul, show (2 : Nat) ^ 32 = 4294967296 by decide]
    refine Nat.lt_of_not_le fun hle => ?_
    have := (dig_len (dig n).length n).2 hle
    omega
  by_cases h1 : bl n ≤ 1024
  · by_cases h2 : bl n ≤ 53
    · have hlt := (bl_le n 53).1 h2
      have e53 : (2 : Nat) ^ 53 = 9007199254740992 := by decide
      obtain ⟨r, r1, r2, r3⟩ := fofI_word (n := (n : Int)) (by omega)
      have := near_exact (n := n) (by omega) ta (e := 0) (by decide) (by decide) r1 (by rw [r2]; rfl)
      rw [r3, decide_eq_false (by omega)]
      exact this
    · exact near_big ta (by omega) h1
  · rw [fofI_inf (by
      have : ¬ n < 2 ^ 1024 := fun h => h1 ((bl_le n 1024).2 h)
      omega)]
    refine nearZ2 (dig n) ta 0 ⟨wa, hlen, ?_, ?_, ?_, trivial⟩
    · rw [hnat, beq_eq_false_iff_ne]; omega
    · rw [hnat]; simp only [inR]; omega
    · rw [hnat, decide_eq_true_eq]; omega

/-! ### Float -/
theorem or_one {q : Nat} (h : q < 2 ^ 64) : bitsOf .or .u64 (q : Int) 1 = ((if q % 2 = 0 then q + 1 else q : Nat) : Int) := by
  have := bits_or (k := .u64) rfl (m := q) (n := 1) h (by decide)
  rw [show ((1 : Nat) : Int) = 1 from rfl] at this
  rw [this]
  congr 1
  have e := Nat.two_pow_add_eq_or_of_lt (i := 1) (b := 1) (by decide) (q / 2)
  rw [Nat.pow_one] at e
  by_cases hq : q % 2 = 0
  · rw [if_pos hq]
    have e1 : 2 * (q / 2) = q := by omega
    rw [e1] at e
    omega
  · rw [if_neg hq]
    have e1 : 2 * (q / 2) + 1 = q := by omega
    rw [e1] at e
    rw [e, Nat.or_assoc, Nat.or_self]

theorem float_c (a : List Int) (ta : Bool) (wa : Words a) (hl : a.length ≤ lim4) : PureTo Tryd.prog 8 [.sl 1 (.ints .u32 a) ta] (.v (.float .f64 (fofI ((nat a : Nat) : Int)))) := by
  have hn := norm_eq wa
  generalize hN : nat a = n at *
  have hlim : lim4 = 35184372088832 := rfl
  have hlim2 : Bd.lim4 = 35184372088832 := rfl
  have hlim3 : Bd.lim = 281474976710656 := rfl
  have hll := norm_length_le a
  rw [hn] at hll
  have hnat := nat_dig n
  have wd0 := words_dig n
  have p1 := flt_1 a ta
  have p2 := flt_2 a ta
  have p3 := flt_3 a ta
  have p4 := flt_4 a ta
  simp only [hn, hnat] at p1 p2 p3 p4
  by_cases h1 : bl n ≤ 1024
  · by_cases h2 : bl n ≤ 64
    · have hlt := (bl_le n 64).1 h2
      have t := (two_words hlt).2
      have w := wd_range n
      simp only [t] at p2
      exact p2 ⟨by omega, wd0, by omega, by rw [decide_eq_false_iff_not]; omega, by rw [decide_eq_true_eq]; omega, wd0, wd0, by decide, by simp only [inR]; omega, trivial⟩
    · have hn0 : n ≠ 0 := fun h => by rw [bl_zero.2 h] at h2; omega
      have hbl : bl n = n.log2 + 1 := by unfold bl; rw [if_neg hn0]
      obtain ⟨s, hs⟩ : ∃ s, n.log2 = s + 63 := ⟨n.log2 - 63, by omega⟩
      have b0 : (bl n : Int) - 64 = ((s : Nat) : Int) := by omega
      have q1 : 2 ^ 63 ≤ n / 2 ^ s := by
        rw [Nat.le_div_iff_mul_le (Nat.two_pow_pos _)]
        have := Nat.log2_self_le hn0
        rwa [hs, Nat.add_comm, Nat.pow_add] at this
      have q2 : n / 2 ^ s < 2 ^ 64 := by
        rw [Nat.div_lt_iff_lt_mul (Nat.two_pow_pos _)]
        have := @Nat.lt_log2_self n
        rwa [hs, show s + 63 + 1 = 64 + s by omega, Nat.pow_add] at this
      have way := float_way q1 q2
      have sh : ShrN n (s : Int) = (dig (n / 2 ^ s), decide (n % 2 ^ s ≠ 0)) := by unfold ShrN; rw [if_neg (by omega), Int.toNat_natCast]
      have t := (two_words q2).2
      have w := wd_range (n / 2 ^ s)
      have wq := words_dig (n / 2 ^ s)
      simp only [b0, sh, t] at p3 p4
      by_cases hr : n % 2 ^ s = 0
      · have hst : sticky n s = n / 2 ^ s := by unfold sticky; rw [if_pos hr]
        rw [hst] at way
        have hd : decide (n % 2 ^ s ≠ 0) = false := decide_eq_false (by simp [hr])
        simp only [hd] at p4
        rw [way] at p4
        refine known_fofI (p4 ?_)
        have wf := word_fofI (n / 2 ^ s)
        simp only [AllP, inR, decide_eq_false_iff_not, decide_eq_true_eq]
        (repeat' apply And.intro) <;> first | exact wd0 | exact wq | exact wf | exact trivial | omega | decide
      · have hst : sticky n s = if n / 2 ^ s % 2 = 0 then n / 2 ^ s + 1 else n / 2 ^ s := by unfold sticky; rw [if_neg hr]
        rw [hst] at way
        have hd : decide (n % 2 ^ s ≠ 0) = true := decide_eq_true hr
        have ho := or_one q2
        simp only [hd, ho] at p3
        rw [way] at p3
        refine known_fofI (p3 ?_)
        have wf := word_fofI (if n / 2 ^ s % 2 = 0 then n / 2 ^ s + 1 else n / 2 ^ s)
        simp only [AllP, inR, decide_eq_false_iff_not, decide_eq_true_eq]
        (repeat' apply And.intro) <;> first | exact wd0 | exact wq | exact wf | exact trivial | omega | decide
  · rw [fofI_inf (by
      have : ¬ n < 2 ^ 1024 := fun h => h1 ((bl_le n 1024).2 h)
      omega)]
    exact p1 ⟨by omega, wd0, by omega, by rw [decide_eq_true_eq]; omega, trivial⟩
end Go.Proofs.Bf

/- Bignum: floats; the table with Near, Float and trailing zeros. -/
set_option maxRecDepth 100000
set_option exponentiation.threshold 2200
namespace Go.Proofs.Bf
open Go Go.Ev Ieee Bn

theorem strip_odd : ∀ f n, 0 < n → n < 2 ^ f → (strip f n).1 % 2 = 1 := by
  intro f
  induction f with
  | zero => intro n h1 h2; rw [Nat.pow_zero] at h2; omega
  | succ f ih =>
    intro n h1 h2
    unfold strip
    split
    · next h => exact ih (n / 2) (by omega) (by rw [Nat.pow_succ] at h2; omega)
    · next h => show n % 2 = 1; omega
theorem odd_unique {o p a b : Nat} (ho : o % 2 = 1) (hp : p % 2 = 1) (h : o * 2 ^ a = p * 2 ^ b) : o = p ∧ a = b := by
  have key : ∀ {o p a d : Nat}, o % 2 = 1 → o * 2 ^ a = p * 2 ^ (a + d) → d = 0 := by
    intro o p a d ho h
    rw [Nat.pow_add, ← Nat.mul_assoc, Nat.mul_right_comm] at h
    have h2 := Nat.eq_of_mul_eq_mul_right (Nat.two_pow_pos a) h
    cases d with
    | zero => rfl
    | succ d =>
      rw [Nat.pow_succ, ← Nat.mul_assoc] at h2
      omega
  rcases Nat.le_total a b with hab | hab
  · obtain ⟨d, rfl⟩ := Nat.exists_eq_add_of_le hab
    have := key ho h
    subst this
    exact ⟨Nat.eq_of_mul_eq_mul_right (Nat.two_pow_pos a) h, rfl⟩
  · obtain ⟨d, rfl⟩ := Nat.exists_eq_add_of_le hab
    have := key hp h.symm
    subst this
    exact ⟨Nat.eq_of_mul_eq_mul_right (Nat.two_pow_pos b) h, rfl⟩
def sigTz : List AV → Option (AV × List Prop)
  | [.v (.int .u64 x)] => some (.v (.int .i64 ((strip 64 x.toNat).2 : Nat)), [0 < x, x < 18446744073709551616])
  | _ => none
theorem sigTz_ok : ∀ ys r c, sigTz ys = some (r, c) → AllP c → PureTo Tryd.prog 20 ys r := by
  intro ys r c hs hc
  unfold sigTz at hs
  split at hs
  · next x =>
    cases hs
    obtain ⟨h0, h1, _⟩ := hc
    have e64 : (2 : Nat) ^ 64 = 18446744073709551616 := by decide
    have hodd := strip_odd 64 x.toNat (by omega) (by omega)
    have his := strip_is 64 x.toNat
    generalize strip 64 x.toNat = w at *
    obtain ⟨o, z⟩ := w
    simp only at hodd his ⊢
    have ho : 2 * (o / 2) + 1 = o := by omega
    have e : 2 ^ z * (2 * (o / 2) + 1) = x.toNat := by rw [ho, Nat.mul_comm]; exact his
    have := tz_c (z := z) (k := o / 2) (by rw [e]; omega)
    rw [e, Int.toNat_of_nonneg (by omega)] at this
    exact this
  · cases hs
def sigFloat : List AV → Option (AV × List Prop)
  | [.sl 1 (.ints .u32 a) _] => some (.v (.float .f64 (fofI ((nat a : Nat) : Int))), [Words a, a.length ≤ lim4])
  | _ => none
theorem sigFloat_ok : ∀ ys r c, sigFloat ys = some (r, c) → AllP c → PureTo Tryd.prog 8 ys r := by
  intro ys r c hs hc
  unfold sigFloat at hs
  split at hs
  · cases hs; exact float_c _ _ hc.1 hc.2.1
  · cases hs
def sigNearZ : List AV → Option (AV × List Prop)
  | [.sl 1 (.ints .u32 a) _, .v (.int .i64 0)] => some (.v (.float .f64 (fofI ((nat a : Nat) : Int))), [a = dig (nat a), a.length ≤ lim4])
  | _ => none
theorem sigNearZ_ok : ∀ ys r c, sigNearZ ys = some (r, c) → AllP c → PureTo Tryd.prog 29 ys r := by
  intro ys r c hs hc
  unfold sigNearZ at hs
  split at hs
  · next a ta =>
    cases hs
    have := near_c (n := nat a) ta (by rw [← hc.1]; exact hc.2.1)
    rw [← hc.1] at this
    exact this
  · cases hs
noncomputable def BT1 : SGT := (20, .p sigTz) :: (8, .p sigFloat) :: (29, .p sigNearZ) :: BT0
theorem boT1 : SigsOK Tryd.prog BT1 := sigs_cons (sigs_cons (sigs_cons boT0 sigNearZ_ok) sigFloat_ok) sigTz_ok
end Go.Proofs.Bf

/- Bignum: floats; walks, written by the tool. -/
set_option maxRecDepth 100000
namespace Go.Proofs.Bf
open Go Go.Ev

-- 5 paths
theorem pparts1 (x : Nat) (h : AllP [isNaN x = true]) : PureTo Tryd.prog 5 [.v (.float .f64 x)] (AV.tup [AV.sl 1 (.ints .u32 []) false, AV.v (.int .i64 (0 : Int)), AV.v (.int .i64 (1 : Int))]) :=
  evFn_pure hm boT1 (fn := Tryd.f5) rfl rfl (ti := false) (hs := [CHint.ops 1 [(1, Hint.b true)]]) (c := _) (by kernel_rfl) h
theorem pparts2 (x : Nat) (h : AllP [isNaN x = false, isInf x (0 : Int) = true]) : PureTo Tryd.prog 5 [.v (.float .f64 x)] (AV.tup [AV.sl 1 (.ints .u32 []) false, AV.v (.int .i64 (0 : Int)), AV.v (.int .i64 (1 : Int))]) :=
  evFn_pure hm boT1 (fn := Tryd.f5) rfl rfl (ti := false) (hs := [CHint.ops 1 [(1, Hint.b false), (4, Hint.b true)]]) (c := _) (by kernel_rfl) h
theorem pparts3 (x : Nat) (h : AllP [isNaN x = false, isInf x (0 : Int) = false, flt FloatKind.f64 x 0 = true]) : PureTo Tryd.prog 5 [.v (.float .f64 x)] (AV.tup [AV.sl 1 (.ints .u32 []) false, AV.v (.int .i64 (0 : Int)), AV.v (.int .i64 (1 : Int))]) :=
  evFn_pure hm boT1 (fn := Tryd.f5) rfl rfl (ti := false) (hs := [CHint.ops 1 [(1, Hint.b false), (4, Hint.b false), (8, Hint.b true)]]) (c := _) (by kernel_rfl) h
theorem pparts4 (x : Nat) (h : AllP [isNaN x = false, isInf x (0 : Int) = false, flt FloatKind.f64 x 0 = false, feq FloatKind.f64 x 0 = true]) : PureTo Tryd.prog 5 [.v (.float .f64 x)] (AV.tup [AV.sl 1 (.ints .u32 []) false, AV.v (.int .i64 (0 : Int)), AV.v (.int .i64 (0 : Int))]) :=
  evFn_pure hm boT1 (fn := Tryd.f5) rfl rfl (ti := false) (hs := [CHint.ops 1 [(1, Hint.b false), (4, Hint.b false), (8, Hint.b false)], CHint.ops 3 [(1, Hint.b true)]]) (c := _) (by kernel_rfl) h
theorem pparts5 (x : Nat) (h : AllP [isNaN x = false, isInf x (0 : Int) = false, flt FloatKind.f64 x 0 = false, feq FloatKind.f64 x 0 = false, W x, fhasI (fmul (frexp_1 x) 4845873199050653696), inR IntKind.u64 (ftoI (fmul (frexp_1 x) 4845873199050653696)), (0 : Int) < ftoI (fmul (frexp_1 x) 4845873199050653696), ftoI (fmul (frexp_1 x) 4845873199050653696) < (18446744073709551616 : Int), (0 : Int) ≤ (↑(strip 64 (ftoI (fmul (frexp_1 x) 4845873199050653696)).toNat).snd : Int), (0 : Int) ≤ ftoI (fmul (frexp_1 x) 4845873199050653696) / (2 : Int) ^ min (↑(strip 64 (ftoI (fmul (frexp_1 x) 4845873199050653696)).toNat).snd : Int).toNat 64, ftoI (fmul (frexp_1 x) 4845873199050653696) / (2 : Int) ^ min (↑(strip 64 (ftoI (fmul (frexp_1 x) 4845873199050653696)).toNat).snd : Int).toNat 64 < (18446744073709551616 : Int), inR IntKind.i64 (frexp_2 x - (53 : Int)), inR IntKind.i64 (frexp_2 x - (53 : Int) + (↑(strip 64 (ftoI (fmul (frexp_1 x) 4845873199050653696)).toNat).snd : Int))]) : PureTo Tryd.prog 5 [.v (.float .f64 x)] (AV.tup [AV.sl 1 (.ints .u32 (Bn.dig (ftoI (fmul (frexp_1 x) 4845873199050653696) / (2 : Int) ^ min (↑(strip 64 (ftoI (fmul (frexp_1 x) 4845873199050653696)).toNat).snd : Int).toNat 64).toNat)) false, AV.v (.int .i64 (frexp_2 x - (53 : Int) + (↑(strip 64 (ftoI (fmul (frexp_1 x) 4845873199050653696)).toNat).snd : Int))), AV.v (.int .i64 (0 : Int))]) :=
  evFn_pure hm boT1 (fn := Tryd.f5) rfl rfl (ti := false) (hs := [CHint.ops 1 [(1, Hint.b false), (4, Hint.b false), (8, Hint.b false)], CHint.ops 3 [(1, Hint.b false)]]) (c := _) (by kernel_rfl) h
-- 1 paths
theorem rfloat1 (a : List Int) (ta : Bool) (h : AllP [a.length ≤ Bn.lim4, Bn.norm a = Bn.dig (Bn.nat (Bn.norm a)), (Bn.norm a).length ≤ Bn.lim4]) : PureTo Tryd.prog 10 [.sl 1 (.ints .u32 a) ta] (AV.v (.float FloatKind.f64 (fofI (↑(Bn.nat (Bn.norm a)) : Int)))) :=
  evFn_pure hm boT1 (fn := Tryd.f10) rfl rfl (ti := false) (hs := []) (c := _) (by kernel_rfl) h
-- 6 paths
theorem rparts1 (x : Nat) (h : AllP [isNaN x = true]) : PureTo Tryd.prog 6 [.v (.float .f64 x)] (AV.tup [AV.sl 1 (.ints .u32 []) false, AV.v (.int .i64 (0 : Int)), AV.v (.int .i64 (1 : Int))]) :=
  evFn_pure hm boT1 (fn := Tryd.f6) rfl rfl (ti := false) (hs := [CHint.ops 1 [(1, Hint.b true)]]) (c := _) (by kernel_rfl) h
theorem rparts2 (x : Nat) (h : AllP [isNaN x = false, isInf x (0 : Int) = true]) : PureTo Tryd.prog 6 [.v (.float .f64 x)] (AV.tup [AV.sl 1 (.ints .u32 []) false, AV.v (.int .i64 (0 : Int)), AV.v (.int .i64 (1 : Int))]) :=
  evFn_pure hm boT1 (fn := Tryd.f6) rfl rfl (ti := false) (hs := [CHint.ops 1 [(1, Hint.b false), (4, Hint.b true)]]) (c := _) (by kernel_rfl) h
theorem rparts3 (x : Nat) (h : AllP [isNaN x = false, isInf x (0 : Int) = false, flt FloatKind.f64 x 0 = true]) : PureTo Tryd.prog 6 [.v (.float .f64 x)] (AV.tup [AV.sl 1 (.ints .u32 []) false, AV.v (.int .i64 (0 : Int)), AV.v (.int .i64 (1 : Int))]) :=
  evFn_pure hm boT1 (fn := Tryd.f6) rfl rfl (ti := false) (hs := [CHint.ops 1 [(1, Hint.b false), (4, Hint.b false), (8, Hint.b true)]]) (c := _) (by kernel_rfl) h
theorem rparts4 (x : Nat) (h : AllP [isNaN x = false, isInf x (0 : Int) = false, flt FloatKind.f64 x 0 = false, feq FloatKind.f64 x 0 = true]) : PureTo Tryd.prog 6 [.v (.float .f64 x)] (AV.tup [AV.sl 1 (.ints .u32 []) false, AV.v (.int .i64 (0 : Int)), AV.v (.int .i64 (0 : Int))]) :=
  evFn_pure hm boT1 (fn := Tryd.f6) rfl rfl (ti := false) (hs := [CHint.ops 1 [(1, Hint.b false), (4, Hint.b false), (8, Hint.b false)], CHint.ops 3 [(1, Hint.b true)]]) (c := _) (by kernel_rfl) h
end Go.Proofs.Bf

/- Bignum: the parts of a float, and the reference's; the table. -/
set_option maxRecDepth 100000
set_option exponentiation.threshold 2200
namespace Go.Proofs.Bf
open Go Go.Ev Ieee Bn

/-- a float's parts, or why not -/
def partL (x : Nat) : List Int := if Fit x ∧ (sg x = false ∨ rg x = 0) then dig (pm x) else []
def partE (x : Nat) : Int := if Fit x ∧ (sg x = false ∨ rg x = 0) then pe x else 0
def partR (x : Nat) : Int := if Fit x ∧ (sg x = false ∨ rg x = 0) then 0 else 1
def partA (x : Nat) : AV := .tup [.sl 1 (.ints .u32 (partL x)) false, .v (.int .i64 (partE x)), .v (.int .i64 (partR x))]

theorem strip_cnt : ∀ f n, (strip f n).2 ≤ f := by
  intro f
  induction f with
  | zero => intro n; exact Nat.le_refl _
  | succ f ih =>
    intro n
    unfold strip
    split
    · exact Nat.succ_le_succ (ih _)
    · exact Nat.zero_le _
theorem pparts_pos {x : Nat} (hw : FWord x) (hx : Fit x) (hs : sg x = false) (h0 : rg x ≠ 0) : PureTo Tryd.prog 5 [.v (.float .f64 x)] (.tup [.sl 1 (.ints .u32 (dig (pm x))) false, .v (.int .i64 (pe x)), .v (.int .i64 0)]) := by
  obtain ⟨E, m, c, hn⟩ := norm_of hw hx h0
  obtain ⟨f1, f2⟩ := frexp_V hx h0 hn
  rw [hs] at f1
  have l1 := hn.lo
  have l2 := hn.hi
  have l3 := hn.dig
  have b1 : 1022 * 4503599627370496 + m < 9218868437227405312 := by omega
  have b2 : 1075 * 4503599627370496 + m < 9218868437227405312 := by omega
  -- the float's whole number
  have hf : Fit (wordOf false (1022 * 4503599627370496 + m)) := by unfold Fit; rw [rg_wordOf (Nat.le_of_lt b1)]; exact b1
  have hc53 : Fit 4845873199050653696 := by decide +kernel
  have v1 := (valN_normal (E := 1022) (m := m) (by decide) l3).1
  have v2 := (valN_normal (E := 1075) (m := m) (by decide) l3).1
  have v3 : valN (rg 4845873199050653696) = 2 ^ 53 * U := by decide +kernel
  have hmul : fmul (frexp_1 x) 4845873199050653696 = wordOf false (1075 * 4503599627370496 + m) := by
    rw [f1]
    have := fmul_exact hf hc53 (Nat.le_of_lt b2) (by
      rw [rg_wordOf (Nat.le_of_lt b1), v1, v3, v2, show 1075 - 1 = 1022 - 1 + 53 by decide, Nat.pow_add]
      ac_rfl)
    rw [this, sg_wordOf (Nat.le_of_lt b1)]
    rfl
  have hfm : Fit (wordOf false (1075 * 4503599627370496 + m)) := by unfold Fit; rw [rg_wordOf (Nat.le_of_lt b2)]; exact b2
  obtain ⟨t1, t2⟩ := ftoI_V hfm
  rw [rg_wordOf (Nat.le_of_lt b2), sg_wordOf (Nat.le_of_lt b2), v2] at t2
  have hU : (4503599627370496 + m) * 2 ^ (1075 - 1) / U = 4503599627370496 + m := by
    show (4503599627370496 + m) * U / U = _
    exact Nat.mul_div_cancel _ U_pos
  rw [hU] at t2
  have t3 : ftoI (wordOf false (1075 * 4503599627370496 + m)) = ((4503599627370496 + m : Nat) : Int) := t2
  generalize hM : 4503599627370496 + m = M at *
  -- its odd part
  have hpM : 0 < M := by omega
  have hM53 : M < 9007199254740992 := by omega
  have e64 : (2 : Nat) ^ 64 = 18446744073709551616 := by decide
  have e53 : (2 : Nat) ^ 53 = 9007199254740992 := by decide
  have ho := strip_odd 64 M hpM (by omega)
  have hi := strip_is 64 M
  have hz := strip_cnt 64 M
  generalize hw64 : strip 64 M = w at *
  obtain ⟨o, z⟩ := w
  simp only at ho hi hz
  obtain ⟨s1, s2, s3⟩ := sig_parts (rg x)
  have hsp : 0 < sigM (rg x) := by
    rcases Nat.eq_zero_or_pos (sigM (rg x)) with h | h
    · exact absurd (sigM_nil.1 h) h0
    · exact h
  have ho2 := strip_odd 53 (sigM (rg x)) hsp s2
  have hi2 := strip_is 53 (sigM (rg x))
  have e1 : pm x = (strip 53 (sigM (rg x))).1 := by unfold pm; rw [if_neg h0]
  have e2 : pe x = -1074 + (sigK (rg x) : Int) + (strip 53 (sigM (rg x))).2 := by unfold pe; rw [if_neg h0]
  generalize hw53 : strip 53 (sigM (rg x)) = w2 at *
  obtain ⟨o2, z2⟩ := w2
  simp only at ho2 hi2 e1 e2
  have hv : valN (rg x) = sigM (rg x) * 2 ^ sigK (rg x) := rfl
  obtain ⟨a, ha, hva⟩ : ∃ a : Nat, c = -(a : Int) ∧ valN (rg x) * 2 ^ a = M * 2 ^ (E - 1) := by
    rcases hn.val with ⟨g1, g2⟩ | ⟨g1, g2⟩
    · exact ⟨52, g2, by rw [g1, hM]⟩
    · exact ⟨0, g2, by rw [Nat.pow_zero, Nat.mul_one, g1, hM]⟩
  rw [hv, ← hi2, ← hi] at hva
  have hu := odd_unique (o := o2) (p := o) (a := z2 + sigK (rg x) + a) (b := z + (E - 1)) ho2 ho (by
    rw [Nat.pow_add, Nat.pow_add, Nat.pow_add]
    rw [show o2 * (2 ^ z2 * 2 ^ sigK (rg x) * 2 ^ a) = o2 * 2 ^ z2 * 2 ^ sigK (rg x) * 2 ^ a by ac_rfl, hva]
    ac_rfl)
  obtain ⟨u1, u2⟩ := hu
  have hdiv : ((M : Nat) : Int) / (2 : Int) ^ min z 64 = (o : Int) := by
    rw [Nat.min_eq_left hz, ← hi]
    have : ((o * 2 ^ z : Nat) : Int) = (o : Int) * (2 : Int) ^ z := by push_cast; rfl
    rw [this]
    exact Int.mul_ediv_cancel _ (Int.ne_of_gt (Int.pow_pos (by decide)))
  have hoM : o ≤ M := by rw [← hi]; exact Nat.le_mul_of_pos_right _ (Nat.two_pow_pos _)
  have p := pparts5 x
  rw [hmul, t3, Int.toNat_natCast, hw64] at p
  simp only [Int.toNat_natCast] at p
  rw [hdiv, Int.toNat_natCast, f2] at p
  have n1 := isNaN_num.2 hx.num
  have n2 := notInf hx
  have n3 : flt .f64 x 0 = false := by
    rw [flt_V hx.num fin_zero.num, V_null, decide_eq_false]
    have := V_pos hs
    omega
  have n4 := notZero hx h0
  have hex : c + ((E : Int) - 1022) - 53 + (z : Int) = pe x := by rw [e2]; omega
  have hk : sigK (rg x) ≤ 2046 := by unfold Fit at hx; omega
  rw [hex, ← u1, ← e1] at p
  have hz2 : z2 ≤ 53 := by
    have := strip_cnt 53 (sigM (rg x))
    rw [hw53] at this
    exact this
  exact p ⟨n1, n2, n3, n4, hw, t1, by simp only [inR]; omega, by omega, by omega, by omega, by omega, by omega, by simp only [inR]; omega, by rw [e2]; simp only [inR]; omega, trivial⟩

theorem V_neg {x : Nat} (h : sg x = true) : V x ≤ 0 := by unfold V sv; rw [h, if_pos rfl]; omega
theorem parts_both {x : Nat} (hw : FWord x) : PureTo Tryd.prog 5 [.v (.float .f64 x)] (partA x) ∧ PureTo Tryd.prog 6 [.v (.float .f64 x)] (partA x) := by
  unfold partA partL partE partR
  by_cases hn : Num x
  · by_cases hi : rg x = 9218868437227405312
    · rw [if_neg (by unfold Fit; omega), if_neg (by unfold Fit; omega), if_neg (by unfold Fit; omega)]
      have n1 := isNaN_num.2 hn
      have n2 : isInf x 0 = true := by rw [isInf_eq, decide_eq_true hi]
      exact ⟨pparts2 x ⟨n1, n2, trivial⟩, rparts2 x ⟨n1, n2, trivial⟩⟩
    · have hx : Fit x := by unfold Fit; unfold Num at hn; omega
      have n1 := isNaN_num.2 hn
      have n2 := notInf hx
      by_cases h0 : rg x = 0
      · rw [if_pos ⟨hx, .inr h0⟩, if_pos ⟨hx, .inr h0⟩, if_pos ⟨hx, .inr h0⟩]
        have e1 : pm x = 0 := by unfold pm; rw [if_pos h0]
        have e2 : pe x = 0 := by unfold pe; rw [if_pos h0]
        rw [e1, e2, dig_zero]
        have n3 : flt .f64 x 0 = false := by rw [flt_V hx.num fin_zero.num, V_null, decide_eq_false]; rw [V_zero.2 h0]; omega
        have n4 : feq .f64 x 0 = true := by rw [feq_V hx.num fin_zero.num, V_null, decide_eq_true (V_zero.2 h0)]
        exact ⟨pparts4 x ⟨n1, n2, n3, n4, trivial⟩, rparts4 x ⟨n1, n2, n3, n4, trivial⟩⟩
      · cases hs : sg x with
        | false =>
          rw [if_pos ⟨hx, .inl rfl⟩, if_pos ⟨hx, .inl rfl⟩, if_pos ⟨hx, .inl rfl⟩]
          exact ⟨pparts_pos hw hx hs h0, parts_c hw hx hs⟩
        | true =>
          have hno : ¬ (Fit x ∧ (true = false ∨ rg x = 0)) := by simp [h0]
          rw [if_neg hno, if_neg hno, if_neg hno]
          have n3 : flt .f64 x 0 = true := by
            rw [flt_V hx.num fin_zero.num, V_null, decide_eq_true_eq]
            have h1 := V_neg hs
            have h2 : V x ≠ 0 := fun h => h0 (V_zero.1 h)
            omega
          exact ⟨pparts3 x ⟨n1, n2, n3, trivial⟩, rparts3 x ⟨n1, n2, n3, trivial⟩⟩
  · rw [if_neg (fun h => hn h.1.num), if_neg (fun h => hn h.1.num), if_neg (fun h => hn h.1.num)]
    have n1 : isNaN x = true := by
      cases h : isNaN x with
      | true => rfl
      | false => exact absurd (isNaN_num.1 h) hn
    exact ⟨pparts1 x ⟨n1, trivial⟩, rparts1 x ⟨n1, trivial⟩⟩

def sigParts2 : List AV → Option (AV × List Prop)
  | [.v (.float .f64 x)] => some (partA x, [FWord x])
  | _ => none
def sigRFloat : List AV → Option (AV × List Prop)
  | [.sl 1 (.ints .u32 a) _] => some (.v (.float .f64 (fofI ((nat a : Nat) : Int))), [Words a, a.length ≤ lim4])
  | _ => none
noncomputable def BT2 : SGT := (5, .p sigParts2) :: (6, .p sigParts2) :: (10, .p sigRFloat) :: BT1
theorem boT2 : SigsOK Tryd.prog BT2 := by
  refine sigs_cons (sigs_cons (sigs_cons boT1 ?_) ?_) ?_
  · intro ys r c hs hc
    unfold sigRFloat at hs
    split at hs
    · next a ta =>
      cases hs
      have h1 := norm_eq hc.1
      have h2 := norm_length_le a
      have hl := hc.2.1
      have := rfloat1 a ta ⟨hl, by rw [nat_norm]; exact h1, by omega, trivial⟩
      rw [nat_norm] at this
      exact this
    · cases hs
  · intro ys r c hs hc
    unfold sigParts2 at hs
    split at hs
    · cases hs; exact (parts_both hc.1).2
    · cases hs
  · intro ys r c hs hc
    unfold sigParts2 at hs
    split at hs
    · cases hs; exact (parts_both hc.1).1
    · cases hs
end Go.Proofs.Bf

/- Bignum: floats; walks, written by the tool. -/
set_option maxRecDepth 100000
namespace Go.Proofs.Bf
open Go Go.Ev

-- 1 paths
theorem fltL1 (a : List Int) (ta : Bool) (x : Nat) (h : AllP [FWord x, FWord x, a.length ≤ Bd.lim4, Bn.Words a, a.length ≤ Bn.lim4, Bn.Words a, a.length ≤ Bn.lim4, ((↑(fofI (↑(Bn.nat a) : Int)) : Int) == (↑(fofI (↑(Bn.nat a) : Int)) : Int)) = true, decide (partL x = partL x) = true, (partL x).length < Bd.lim, (partE x == partE x) = true, (partR x == partR x) = true]) : PureTo Tryd.prog 3 [.sl 1 (.ints .u32 a) ta, .v (.float .f64 x)] (AV.v (.bool true)) :=
  evFn_pure hm boT2 (fn := Tryd.f3) rfl rfl (ti := false) (hs := [CHint.ops 3 [(7, Hint.b true), (11, Hint.b true), (16, Hint.b true), (21, Hint.b true)]]) (c := _) (by kernel_rfl) h
-- 12 paths
theorem backL1 (a : List Int) (ta : Bool) (r : Int) (x : Nat) (h : AllP [a.length ≤ Bd.lim4, Bn.Words a, a.length ≤ Bd.lim4, ((Bd.Txt a r).snd == (0 : Int)) = true, (Bd.Txt a r).fst.size < 9000000000000000, ((Bd.Prs (Bd.Txt a r).fst r).snd != (0 : Int)) = true]) : PureTo Tryd.prog 4 [.sl 1 (.ints .u32 a) ta, .v (.int .i64 r), .v (.float .f64 x)] (AV.v (.bool false)) :=
  evFn_pure hm boT2 (fn := Tryd.f4) rfl rfl (ti := false) (hs := [CHint.ops 2 [(1, Hint.b true)], CHint.ops 4 [(1, Hint.b true)]]) (c := _) (by kernel_rfl) h
theorem backL2 (a : List Int) (ta : Bool) (r : Int) (x : Nat) (h : AllP [a.length ≤ Bd.lim4, Bn.Words a, a.length ≤ Bd.lim4, ((Bd.Txt a r).snd == (0 : Int)) = true, (Bd.Txt a r).fst.size < 9000000000000000, ((Bd.Prs (Bd.Txt a r).fst r).snd != (0 : Int)) = false, a.length ≤ Bn.lim4, decide ((Bd.Prs (Bd.Txt a r).fst r).fst = Bn.norm a) = true, (Bd.Prs (Bd.Txt a r).fst r).fst.length < Bd.lim, FWord x, (partR x != (0 : Int)) = true]) : PureTo Tryd.prog 4 [.sl 1 (.ints .u32 a) ta, .v (.int .i64 r), .v (.float .f64 x)] (AV.v (.bool true)) :=
  evFn_pure hm boT2 (fn := Tryd.f4) rfl rfl (ti := false) (hs := [CHint.ops 2 [(1, Hint.b true)], CHint.ops 4 [(1, Hint.b false), (6, Hint.b true)], CHint.ops 7 [(1, Hint.b true)]]) (c := _) (by kernel_rfl) h
theorem backL3 (a : List Int) (ta : Bool) (r : Int) (x : Nat) (h : AllP [a.length ≤ Bd.lim4, Bn.Words a, a.length ≤ Bd.lim4, ((Bd.Txt a r).snd == (0 : Int)) = true, (Bd.Txt a r).fst.size < 9000000000000000, ((Bd.Prs (Bd.Txt a r).fst r).snd != (0 : Int)) = false, a.length ≤ Bn.lim4, decide ((Bd.Prs (Bd.Txt a r).fst r).fst = Bn.norm a) = true, (Bd.Prs (Bd.Txt a r).fst r).fst.length < Bd.lim, FWord x, (partR x != (0 : Int)) = false, decide (partE x < (0 : Int)) = true]) : PureTo Tryd.prog 4 [.sl 1 (.ints .u32 a) ta, .v (.int .i64 r), .v (.float .f64 x)] (AV.v (.bool true)) :=
  evFn_pure hm boT2 (fn := Tryd.f4) rfl rfl (ti := false) (hs := [CHint.ops 2 [(1, Hint.b true)], CHint.ops 4 [(1, Hint.b false), (6, Hint.b true)], CHint.ops 7 [(1, Hint.b false), (4, Hint.b true)]]) (c := _) (by kernel_rfl) h
theorem backL4 (a : List Int) (ta : Bool) (r : Int) (x : Nat) (h : AllP [a.length ≤ Bd.lim4, Bn.Words a, a.length ≤ Bd.lim4, ((Bd.Txt a r).snd == (0 : Int)) = true, (Bd.Txt a r).fst.size < 9000000000000000, ((Bd.Prs (Bd.Txt a r).fst r).snd != (0 : Int)) = false, a.length ≤ Bn.lim4, decide ((Bd.Prs (Bd.Txt a r).fst r).fst = Bn.norm a) = true, (Bd.Prs (Bd.Txt a r).fst r).fst.length < Bd.lim, FWord x, (partR x != (0 : Int)) = false, decide (partE x < (0 : Int)) = false, (partL x).length ≤ Bd.lim4, Bn.Words (partL x), (partL x).length ≤ Bd.lim4, ((Bn.ShlN (Bn.nat (partL x)) (partE x)).snd == (0 : Int)) = true, Bn.Words (Bn.ShlN (Bn.nat (partL x)) (partE x)).fst, (Bn.ShlN (Bn.nat (partL x)) (partE x)).fst.length ≤ Bn.lim4, feq FloatKind.f64 (fofI (↑(Bn.nat (Bn.ShlN (Bn.nat (partL x)) (partE x)).fst) : Int)) x = true]) : PureTo Tryd.prog 4 [.sl 1 (.ints .u32 a) ta, .v (.int .i64 r), .v (.float .f64 x)] (AV.v (.bool true)) :=
  evFn_pure hm boT2 (fn := Tryd.f4) rfl rfl (ti := false) (hs := [CHint.ops 2 [(1, Hint.b true)], CHint.ops 4 [(1, Hint.b false), (6, Hint.b true)], CHint.ops 7 [(1, Hint.b false), (4, Hint.b false)], CHint.ops 10 [(1, Hint.b true), (6, Hint.b true)]]) (c := _) (by kernel_rfl) h
theorem backL5 (a : List Int) (ta : Bool) (r : Int) (x : Nat) (h : AllP [a.length ≤ Bd.lim4, Bn.Words a, a.length ≤ Bd.lim4, ((Bd.Txt a r).snd == (0 : Int)) = true, (Bd.Txt a r).fst.size < 9000000000000000, ((Bd.Prs (Bd.Txt a r).fst r).snd != (0 : Int)) = false, a.length ≤ Bn.lim4, decide ((Bd.Prs (Bd.Txt a r).fst r).fst = Bn.norm a) = true, (Bd.Prs (Bd.Txt a r).fst r).fst.length < Bd.lim, FWord x, (partR x != (0 : Int)) = false, decide (partE x < (0 : Int)) = false, (partL x).length ≤ Bd.lim4, Bn.Words (partL x), (partL x).length ≤ Bd.lim4, ((Bn.ShlN (Bn.nat (partL x)) (partE x)).snd == (0 : Int)) = true, Bn.Words (Bn.ShlN (Bn.nat (partL x)) (partE x)).fst, (Bn.ShlN (Bn.nat (partL x)) (partE x)).fst.length ≤ Bn.lim4, feq FloatKind.f64 (fofI (↑(Bn.nat (Bn.ShlN (Bn.nat (partL x)) (partE x)).fst) : Int)) x = false]) : PureTo Tryd.prog 4 [.sl 1 (.ints .u32 a) ta, .v (.int .i64 r), .v (.float .f64 x)] (AV.v (.bool false)) :=
  evFn_pure hm boT2 (fn := Tryd.f4) rfl rfl (ti := false) (hs := [CHint.ops 2 [(1, Hint.b true)], CHint.ops 4 [(1, Hint.b false), (6, Hint.b true)], CHint.ops 7 [(1, Hint.b false), (4, Hint.b false)], CHint.ops 10 [(1, Hint.b true), (6, Hint.b false)]]) (c := _) (by kernel_rfl) h
theorem backL6 (a : List Int) (ta : Bool) (r : Int) (x : Nat) (h : AllP [a.length ≤ Bd.lim4, Bn.Words a, a.length ≤ Bd.lim4, ((Bd.Txt a r).snd == (0 : Int)) = true, (Bd.Txt a r).fst.size < 9000000000000000, ((Bd.Prs (Bd.Txt a r).fst r).snd != (0 : Int)) = false, a.length ≤ Bn.lim4, decide ((Bd.Prs (Bd.Txt a r).fst r).fst = Bn.norm a) = true, (Bd.Prs (Bd.Txt a r).fst r).fst.length < Bd.lim, FWord x, (partR x != (0 : Int)) = false, decide (partE x < (0 : Int)) = false, (partL x).length ≤ Bd.lim4, Bn.Words (partL x), (partL x).length ≤ Bd.lim4, ((Bn.ShlN (Bn.nat (partL x)) (partE x)).snd == (0 : Int)) = false]) : PureTo Tryd.prog 4 [.sl 1 (.ints .u32 a) ta, .v (.int .i64 r), .v (.float .f64 x)] (AV.v (.bool false)) :=
  evFn_pure hm boT2 (fn := Tryd.f4) rfl rfl (ti := false) (hs := [CHint.ops 2 [(1, Hint.b true)], CHint.ops 4 [(1, Hint.b false), (6, Hint.b true)], CHint.ops 7 [(1, Hint.b false), (4, Hint.b false)], CHint.ops 10 [(1, Hint.b false)]]) (c := _) (by kernel_rfl) h
theorem backL7 (a : List Int) (ta : Bool) (r : Int) (x : Nat) (h : AllP [a.length ≤ Bd.lim4, Bn.Words a, a.length ≤ Bd.lim4, ((Bd.Txt a r).snd == (0 : Int)) = true, (Bd.Txt a r).fst.size < 9000000000000000, ((Bd.Prs (Bd.Txt a r).fst r).snd != (0 : Int)) = false, a.length ≤ Bn.lim4, decide ((Bd.Prs (Bd.Txt a r).fst r).fst = Bn.norm a) = false, (Bd.Prs (Bd.Txt a r).fst r).fst.length < Bd.lim]) : PureTo Tryd.prog 4 [.sl 1 (.ints .u32 a) ta, .v (.int .i64 r), .v (.float .f64 x)] (AV.v (.bool false)) :=
  evFn_pure hm boT2 (fn := Tryd.f4) rfl rfl (ti := false) (hs := [CHint.ops 2 [(1, Hint.b true)], CHint.ops 4 [(1, Hint.b false), (6, Hint.b false)]]) (c := _) (by kernel_rfl) h
theorem backL8 (a : List Int) (ta : Bool) (r : Int) (x : Nat) (h : AllP [a.length ≤ Bd.lim4, Bn.Words a, a.length ≤ Bd.lim4, ((Bd.Txt a r).snd == (0 : Int)) = false, FWord x, (partR x != (0 : Int)) = true]) : PureTo Tryd.prog 4 [.sl 1 (.ints .u32 a) ta, .v (.int .i64 r), .v (.float .f64 x)] (AV.v (.bool true)) :=
  evFn_pure hm boT2 (fn := Tryd.f4) rfl rfl (ti := false) (hs := [CHint.ops 2 [(1, Hint.b false)], CHint.ops 7 [(1, Hint.b true)]]) (c := _) (by kernel_rfl) h
theorem backL9 (a : List Int) (ta : Bool) (r : Int) (x : Nat) (h : AllP [a.length ≤ Bd.lim4, Bn.Words a, a.length ≤ Bd.lim4, ((Bd.Txt a r).snd == (0 : Int)) = false, FWord x, (partR x != (0 : Int)) = false, decide (partE x < (0 : Int)) = true]) : PureTo Tryd.prog 4 [.sl 1 (.ints .u32 a) ta, .v (.int .i64 r), .v (.float .f64 x)] (AV.v (.bool true)) :=
  evFn_pure hm boT2 (fn := Tryd.f4) rfl rfl (ti := false) (hs := [CHint.ops 2 [(1, Hint.b false)], CHint.ops 7 [(1, Hint.b false), (4, Hint.b true)]]) (c := _) (by kernel_rfl) h
theorem backL10 (a : List Int) (ta : Bool) (r : Int) (x : Nat) (h : AllP [a.length ≤ Bd.lim4, Bn.Words a, a.length ≤ Bd.lim4, ((Bd.Txt a r).snd == (0 : Int)) = false, FWord x, (partR x != (0 : Int)) = false, decide (partE x < (0 : Int)) = false, (partL x).length ≤ Bd.lim4, Bn.Words (partL x), (partL x).length ≤ Bd.lim4, ((Bn.ShlN (Bn.nat (partL x)) (partE x)).snd == (0 : Int)) = true, Bn.Words (Bn.ShlN (Bn.nat (partL x)) (partE x)).fst, (Bn.ShlN (Bn.nat (partL x)) (partE x)).fst.length ≤ Bn.lim4, feq FloatKind.f64 (fofI (↑(Bn.nat (Bn.ShlN (Bn.nat (partL x)) (partE x)).fst) : Int)) x = true]) : PureTo Tryd.prog 4 [.sl 1 (.ints .u32 a) ta, .v (.int .i64 r), .v (.float .f64 x)] (AV.v (.bool true)) :=
  evFn_pure hm boT2 (fn := Tryd.f4) rfl rfl (ti := false) (hs := [CHint.ops 2 [(1, Hint.b false)], CHint.ops 7 [(1, Hint.b false), (4, Hint.b false)], CHint.ops 10 [(1, Hint.b true), (6, Hint.b true)]]) (c := _) (by kernel_rfl) h
theorem backL11 (a : List Int) (ta : Bool) (r : Int) (x : Nat) (h : AllP [a.length ≤ Bd.lim4, Bn.Words a, a.length ≤ Bd.lim4, ((Bd.Txt a r).snd == (0 : Int)) = false, FWord x, (partR x != (0 : Int)) = false, decide (partE x < (0 : Int)) = false, (partL x).length ≤ Bd.lim4, Bn.Words (partL x), (partL x).length ≤ Bd.lim4, ((Bn.ShlN (Bn.nat (partL x)) (partE x)).snd == (0 : Int)) = true, Bn.Words (Bn.ShlN (Bn.nat (partL x)) (partE x)).fst, (Bn.ShlN (Bn.nat (partL x)) (partE x)).fst.length ≤ Bn.lim4, feq FloatKind.f64 (fofI (↑(Bn.nat (Bn.ShlN (Bn.nat (partL x)) (partE x)).fst) : Int)) x = false]) : PureTo Tryd.prog 4 [.sl 1 (.ints .u32 a) ta, .v (.int .i64 r), .v (.float .f64 x)] (AV.v (.bool false)) :=
  evFn_pure hm boT2 (fn := Tryd.f4) rfl rfl (ti := false) (hs := [CHint.ops 2 [(1, Hint.b false)], CHint.ops 7 [(1, Hint.b false), (4, Hint.b false)], CHint.ops 10 [(1, Hint.b true), (6, Hint.b false)]]) (c := _) (by kernel_rfl) h
theorem backL12 (a : List Int) (ta : Bool) (r : Int) (x : Nat) (h : AllP [a.length ≤ Bd.lim4, Bn.Words a, a.length ≤ Bd.lim4, ((Bd.Txt a r).snd == (0 : Int)) = false, FWord x, (partR x != (0 : Int)) = false, decide (partE x < (0 : Int)) = false, (partL x).length ≤ Bd.lim4, Bn.Words (partL x), (partL x).length ≤ Bd.lim4, ((Bn.ShlN (Bn.nat (partL x)) (partE x)).snd == (0 : Int)) = false]) : PureTo Tryd.prog 4 [.sl 1 (.ints .u32 a) ta, .v (.int .i64 r), .v (.float .f64 x)] (AV.v (.bool false)) :=
  evFn_pure hm boT2 (fn := Tryd.f4) rfl rfl (ti := false) (hs := [CHint.ops 2 [(1, Hint.b false)], CHint.ops 7 [(1, Hint.b false), (4, Hint.b false)], CHint.ops 10 [(1, Hint.b false)]]) (c := _) (by kernel_rfl) h
end Go.Proofs.Bf

/- Bignum: Parse of Text is the natural; Float of Parts of a whole number is it. -/
set_option maxRecDepth 100000
set_option exponentiation.threshold 2200
namespace Go.Proofs.Bf
open Go Go.Ev Ieee Bn

/-! ### texts -/
def pvl (l : List Int) (r : Nat) : Nat → Nat
  | 0 => 0
  | i + 1 => pvl l r i * r + (Bd.dg (l.getD i 0)).toNat
theorem pvl_same {l m : List Int} {r : Nat} : ∀ n, (∀ i, i < n → l.getD i 0 = m.getD i 0) → pvl l r n = pvl m r n
  | 0, _ => rfl
  | n + 1, h => by
    unfold pvl
    rw [pvl_same n fun i hi => h i (by omega), h n (by omega)]
theorem tab_dg : ∀ k : Nat, k < 36 → Bd.dg (byteAt Bd.bnWHtab0 k) = k ∧ 0 ≤ byteAt Bd.bnWHtab0 k ∧ byteAt Bd.bnWHtab0 k < 256 := by decide +kernel
theorem tx_all {r : Nat} (hr : 2 ≤ r) (hr2 : r ≤ 36) : ∀ m c, c ∈ Bd.tx r m → ∃ k, k < r ∧ c = byteAt Bd.bnWHtab0 k := by
  intro m
  induction m using Nat.strongRecOn with
  | ind m ih =>
    intro c hc
    by_cases h : m = 0
    · subst h; rw [Bd.tx_zero] at hc; cases hc
    · rw [Bd.tx_pos hr h] at hc
      rcases List.mem_cons.1 hc with rfl | hc
      · exact ⟨m % r, Nat.mod_lt _ (by omega), rfl⟩
      · exact ih (m / r) (Nat.div_lt_self (by omega) (by omega)) c hc
theorem tx_val {r : Nat} (hr : 2 ≤ r) (hr2 : r ≤ 36) : ∀ m, pvl (Bd.tx r m).reverse r (Bd.tx r m).length = m := by
  intro m
  induction m using Nat.strongRecOn with
  | ind m ih =>
    by_cases h : m = 0
    · subst h; rw [Bd.tx_zero]; rfl
    · rw [Bd.tx_pos hr h, List.reverse_cons, List.length_cons]
      have hlt : m % r < r := Nat.mod_lt _ (by omega)
      show pvl ((Bd.tx r (m / r)).reverse ++ [byteAt Bd.bnWHtab0 (m % r)]) r (Bd.tx r (m / r)).length * r + _ = m
      have e1 : pvl ((Bd.tx r (m / r)).reverse ++ [byteAt Bd.bnWHtab0 (m % r)]) r (Bd.tx r (m / r)).length = m / r := by
        rw [← ih (m / r) (Nat.div_lt_self (by omega) (by omega))]
        rw [ih (m / r) (Nat.div_lt_self (by omega) (by omega))]
        conv => rhs; rw [← ih (m / r) (Nat.div_lt_self (by omega) (by omega))]
        refine pvl_same _ fun i hi => ?_
        rw [List.getD_eq_getElem?_getD, List.getD_eq_getElem?_getD, List.getElem?_append_left (by rw [List.length_reverse]; exact hi)]
      have e2 : ((Bd.tx r (m / r)).reverse ++ [byteAt Bd.bnWHtab0 (m % r)]).getD (Bd.tx r (m / r)).length 0 = byteAt Bd.bnWHtab0 (m % r) := by
        rw [List.getD_eq_getElem?_getD, List.getElem?_append_right (by rw [List.length_reverse]; exact Nat.le_refl _), List.length_reverse, Nat.sub_self]
        rfl
      rw [e1, e2, (tab_dg (m % r) (by omega)).1, Int.toNat_natCast]
      exact Nat.div_add_mod' m r
theorem bytes_str {l : List Int} (h : ∀ c, c ∈ l → 0 ≤ c ∧ c < 256) (i : Nat) : byteAt (strOfInts l) i = l.getD i 0 := by
  unfold byteAt strOfInts
  simp only [List.toList_toArray, List.getD_eq_getElem?_getD, List.getElem?_map]
  cases hi : l[i]? with
  | none => rfl
  | some c =>
    have := h c (List.mem_of_getElem? hi)
    show ((UInt8.ofNat c.toNat).toNat : Int) = c
    rw [UInt8.toNat_ofNat']
    omega
theorem size_str (l : List Int) : (strOfInts l).size = l.length := by
  unfold strOfInts ByteArray.size
  simp
theorem pv_pvl {s : ByteArray} {l : List Int} {r : Nat} (h : ∀ i, byteAt s i = l.getD i 0) : ∀ n, Bd.pv s r n = pvl l r n
  | 0 => rfl
  | n + 1 => by
    unfold Bd.pv pvl
    rw [pv_pvl h n, h n]

theorem parse_text {a : List Int} {r : Int} (wa : Words a) (h : (Bd.Txt a r).2 = 0) : Bd.Prs (Bd.Txt a r).1 r = (Bn.norm a, 0) := by
  have hn := norm_eq wa
  unfold Bd.Txt at h ⊢
  by_cases h1 : r < 2
  · rw [if_pos h1] at h; cases h
  rw [if_neg h1] at h ⊢
  by_cases h2 : 36 < r
  · rw [if_pos h2] at h; cases h
  rw [if_neg h2] at h ⊢
  by_cases h3 : Bd.over a = true
  · rw [if_pos h3] at h; cases h
  rw [if_neg h3] at h ⊢
  have hbig : big (nat a) = false := by
    rw [← Bd.over_big wa]
    simpa using h3
  rw [hn]
  by_cases h4 : nat a = 0
  · rw [if_pos h4, h4]
    unfold Bd.Prs
    rw [if_neg h1, if_neg h2]
    have e : (ByteArray.mk #[48]).size = 1 := rfl
    have hall : ∀ j, 0 ≤ j → j < (ByteArray.mk #[48]).size → Bd.dg (byteAt (ByteArray.mk #[48]) j) < r := by
      intro j _ hj
      have : j = 0 := by rw [e] at hj; omega
      subst this
      have : Bd.dg (byteAt (ByteArray.mk #[48]) 0) = 0 := by decide
      omega
    have hv : Bd.pv (ByteArray.mk #[48]) r.toNat 1 = 0 := by
      show 0 * r.toNat + (Bd.dg (byteAt (ByteArray.mk #[48]) 0)).toNat = 0
      have : Bd.dg (byteAt (ByteArray.mk #[48]) 0) = 0 := by decide
      rw [this]
      simp
    simp only [e, hv]
    rw [if_neg (by decide), if_neg (fun hno => hno hall), Bd.big_zero]
    rfl
  · rw [if_neg h4]
    have hr1 : 2 ≤ r.toNat := by omega
    have hr2 : r.toNat ≤ 36 := by omega
    have hall : ∀ c, c ∈ (Bd.tx r.toNat (nat a)).reverse → 0 ≤ c ∧ c < 256 := by
      intro c hc
      obtain ⟨k, hk, rfl⟩ := tx_all hr1 hr2 (nat a) c (List.mem_reverse.1 hc)
      exact (tab_dg k (by omega)).2
    have hb := bytes_str hall
    have hsz : (strOfInts (Bd.tx r.toNat (nat a)).reverse).size = (Bd.tx r.toNat (nat a)).length := by rw [size_str, List.length_reverse]
    have hv : Bd.pv (strOfInts (Bd.tx r.toNat (nat a)).reverse) r.toNat (Bd.tx r.toNat (nat a)).length = nat a := by
      rw [pv_pvl hb, tx_val hr1 hr2]
    have hne : (Bd.tx r.toNat (nat a)).length ≠ 0 := by rw [Bd.tx_pos hr1 h4]; simp
    have hdig : ∀ j, 0 ≤ j → j < (strOfInts (Bd.tx r.toNat (nat a)).reverse).size → Bd.dg (byteAt (strOfInts (Bd.tx r.toNat (nat a)).reverse) j) < r := by
      intro j _ hj
      rw [hsz] at hj
      rw [hb j]
      have hj2 : j < (Bd.tx r.toNat (nat a)).reverse.length := by rw [List.length_reverse]; exact hj
      have hm : (Bd.tx r.toNat (nat a)).reverse.getD j 0 ∈ Bd.tx r.toNat (nat a) := by
        rw [List.getD_eq_getElem?_getD, List.getElem?_eq_getElem hj2]
        exact List.mem_reverse.1 (List.getElem_mem hj2)
      obtain ⟨k, hk, e⟩ := tx_all hr1 hr2 (nat a) _ hm
      rw [e, (tab_dg k (by omega)).1]
      omega
    unfold Bd.Prs
    rw [if_neg h1, if_neg h2, hsz, if_neg hne, if_neg (fun hno => hno (by rw [← hsz]; exact hdig)), hv, hbig]
    rfl

/-! ### floats -/
theorem back_float {x : Nat} (hw : FWord x) (hr : partR x = 0) (he : 0 ≤ partE x) : (ShlN (nat (partL x)) (partE x)).2 = 0 ∧ (∃ n, (ShlN (nat (partL x)) (partE x)).1 = dig n ∧ (dig n).length ≤ 1024 ∧ feq .f64 (fofI ((n : Nat) : Int)) x = true) := by
  have hfit : Fit x ∧ (sg x = false ∨ rg x = 0) := by
    refine Classical.byContradiction fun h => ?_
    unfold partR at hr
    rw [if_neg h] at hr
    cases hr
  have e1 : partL x = dig (pm x) := by unfold partL; rw [if_pos hfit]
  have e2 : partE x = pe x := by unfold partE; rw [if_pos hfit]
  rw [e2] at he
  rw [e1, e2, nat_dig]
  obtain ⟨hx, hs⟩ := hfit
  by_cases h0 : rg x = 0
  · have m0 : pm x = 0 := by unfold pm; rw [if_pos h0]
    have p0 : pe x = 0 := by unfold pe; rw [if_pos h0]
    rw [m0, p0]
    have : ShlN 0 0 = ([], 0) := by unfold ShlN; rw [Bd.big_zero]; rfl
    rw [this]
    refine ⟨rfl, 0, dig_zero.symm, by rw [dig_zero]; exact Nat.zero_le _, ?_⟩
    have hz : fofI ((0 : Nat) : Int) = 0 := by decide +kernel
    rw [hz, feq_V fin_zero.num hx.num, V_null, decide_eq_true_eq, V_zero.2 h0]
  · have hsx : sg x = false := by rcases hs with h | h
                                  · exact h
                                  · exact absurd h h0
    have m1 : pm x = (strip 53 (sigM (rg x))).1 := by unfold pm; rw [if_neg h0]
    have p1 : pe x = -1074 + (sigK (rg x) : Int) + (strip 53 (sigM (rg x))).2 := by unfold pe; rw [if_neg h0]
    have hi := strip_is 53 (sigM (rg x))
    obtain ⟨s1, s2, s3⟩ := sig_parts (rg x)
    have hk : sigK (rg x) ≤ 2045 := by unfold Fit at hx; omega
    have hz : (strip 53 (sigM (rg x))).2 ≤ 53 := by
      have : ∀ f n, (strip f n).2 ≤ f := strip_cnt
      exact this 53 _
    obtain ⟨t, ht⟩ : ∃ t : Nat, pe x = t := ⟨(pe x).toNat, by omega⟩
    rw [ht]
    -- the number
    have hval : pm x * 2 ^ t * U = valN (rg x) := by
      have e : t + 1074 = sigK (rg x) + (strip 53 (sigM (rg x))).2 := by omega
      have hv : valN (rg x) = sigM (rg x) * 2 ^ sigK (rg x) := rfl
      have hU : U = 2 ^ 1074 := rfl
      rw [hv, hU, Nat.mul_assoc, ← Nat.pow_add, e, Nat.pow_add]
      conv => rhs; rw [← hi]
      rw [m1]
      ac_rfl
    have hpos : 0 < pm x := by
      rcases Nat.eq_zero_or_pos (pm x) with h | h
      · rw [h, Nat.zero_mul, Nat.zero_mul] at hval
        have := valN_lt (show 0 < rg x by omega)
        rw [valN_zero] at this
        omega
      · exact h
    have hlt : pm x * 2 ^ t < 2 ^ 1024 := by
      have h1 : valN (rg x) < valN 9218868437227405312 := valN_lt hx
      have h2 : valN 9218868437227405312 = 2 ^ 1024 * U := by decide +kernel
      rw [h2, ← hval] at h1
      exact Nat.lt_of_mul_lt_mul_right h1
    have e1024 : (2 : Nat) ^ 1024 = 4294967296 ^ 32 := by decide +kernel
    have hlen : (dig (pm x * 2 ^ t)).length ≤ 32 := dig_short (by rw [← e1024]; exact hlt)
    have hb1 : big (pm x * 2 ^ t) = false := by unfold big; rw [decide_eq_false_iff_not]; omega
    have hb0 : big (pm x) = false := by
      cases h : big (pm x) with
      | false => rfl
      | true => rw [big_mono (Nat.le_mul_of_pos_right _ (Nat.two_pow_pos t)) h] at hb1; cases hb1
    have hs : ShlN (pm x) (t : Int) = (dig (pm x * 2 ^ t), 0) := by
      unfold ShlN
      rw [hb0, Int.toNat_natCast, hb1]
      simp only [Bool.false_eq_true, if_false]
      rw [if_neg (by omega), if_neg (by omega), if_neg (by omega)]
    rw [hs]
    refine ⟨rfl, _, rfl, by omega, ?_⟩
    have hf : fofI ((pm x * 2 ^ t : Nat) : Int) = x := by
      rw [fofI_V, decide_eq_false (by omega), Int.natAbs_natCast, hval, rd_val (Nat.le_of_lt hx)]
      conv => rhs; rw [wordOf_of hw, hsx]
    rw [hf, feq_V hx.num hx.num, decide_eq_true rfl]
theorem txt_size {a : List Int} {r : Int} (wa : Words a) : (Bd.Txt a r).1.size ≤ 32 * a.length + 1 := by
  unfold Bd.Txt
  have e0 : (ByteArray.mk #[]).size = 0 := rfl
  have e1 : (ByteArray.mk #[48]).size = 1 := rfl
  by_cases h1 : r < 2
  · rw [if_pos h1, e0]; omega
  rw [if_neg h1]
  by_cases h2 : 36 < r
  · rw [if_pos h2, e0]; omega
  rw [if_neg h2]
  by_cases h3 : Bd.over a = true
  · rw [if_pos h3, e0]; omega
  rw [if_neg h3]
  by_cases h4 : nat a = 0
  · rw [if_pos h4, e1]; omega
  rw [if_neg h4, size_str, List.length_reverse]
  have h5 : nat a < 2 ^ (32 * (dig (nat a)).length) := by
    rw [Nat.pow_mul, show (2 : Nat) ^ 32 = 4294967296 by decide]
    refine Nat.lt_of_not_le fun hle => ?_
    have := (dig_len (dig (nat a)).length (nat a)).2 hle
    omega
  have h6 := Bd.tx_len r.toNat _ _ h5
  have h7 := norm_length_le a
  rw [norm_eq wa] at h7
  omega

theorem back_law {a : List Int} {r : Int} {x : Nat} (wa : Words a) (la : a.length ≤ 35184372088000) (wx : FWord x) (hl : (partL x).length ≤ 2) (hwl : Words (partL x)) : PureTo Tryd.prog 4 [.sl 1 (.ints .u32 a) false, .v (.int .i64 r), .v (.float .f64 x)] (.v (.bool true)) := by
  have l1 : Bn.lim4 = 35184372088832 := rfl
  have l2 : Bd.lim4 = 35184372088832 := rfl
  have l3 : Bd.lim = 281474976710656 := rfl
  have hts := txt_size (r := r) wa
  have hnl := norm_length_le a
  have fin : partR x = 0 → ¬ partE x < 0 → ((Bn.ShlN (Bn.nat (partL x)) (partE x)).snd == 0) = true ∧ Bn.Words (Bn.ShlN (Bn.nat (partL x)) (partE x)).fst ∧ (Bn.ShlN (Bn.nat (partL x)) (partE x)).fst.length ≤ Bn.lim4 ∧ feq FloatKind.f64 (fofI (↑(Bn.nat (Bn.ShlN (Bn.nat (partL x)) (partE x)).fst) : Int)) x = true := by
    intro h1 h2
    obtain ⟨g1, n, g2, g3, g4⟩ := back_float wx h1 (by omega)
    rw [g1, g2, nat_dig]
    exact ⟨rfl, words_dig n, by omega, g4⟩
  by_cases ht : (Bd.Txt a r).2 = 0
  · have hp := parse_text wa ht
    have q2 := backL2 a false r x
    have q3 := backL3 a false r x
    have q4 := backL4 a false r x
    rw [hp] at q2 q3 q4
    have t0 : ((Bd.Txt a r).snd == 0) = true := by rw [ht]; rfl
    by_cases h1 : partR x = 0
    · have r0 : (partR x != 0) = false := by rw [h1]; rfl
      by_cases h2 : partE x < 0
      · exact q3 ⟨by omega, wa, by omega, t0, by omega, rfl, by omega, by simp, by show (Bn.norm a).length < _; omega, wx, r0, decide_eq_true h2, trivial⟩
      · obtain ⟨f1, f2, f3, f4⟩ := fin h1 h2
        exact q4 ⟨by omega, wa, by omega, t0, by omega, rfl, by omega, by simp, by show (Bn.norm a).length < _; omega, wx, r0, decide_eq_false h2, by omega, hwl, by omega, f1, f2, f3, f4, trivial⟩
    · have r0 : (partR x != 0) = true := by rw [bne_iff_ne]; exact h1
      exact q2 ⟨by omega, wa, by omega, t0, by omega, rfl, by omega, by simp, by show (Bn.norm a).length < _; omega, wx, r0, trivial⟩
  · have t0 : ((Bd.Txt a r).snd == 0) = false := by rw [beq_eq_false_iff_ne]; exact ht
    by_cases h1 : partR x = 0
    · have r0 : (partR x != 0) = false := by rw [h1]; rfl
      by_cases h2 : partE x < 0
      · exact backL9 a false r x ⟨by omega, wa, by omega, t0, wx, r0, decide_eq_true h2, trivial⟩
      · obtain ⟨f1, f2, f3, f4⟩ := fin h1 h2
        exact backL10 a false r x ⟨by omega, wa, by omega, t0, wx, r0, decide_eq_false h2, by omega, hwl, by omega, f1, f2, f3, f4, trivial⟩
    · have r0 : (partR x != 0) = true := by rw [bne_iff_ne]; exact h1
      exact backL8 a false r x ⟨by omega, wa, by omega, t0, wx, r0, trivial⟩
end Go.Proofs.Bf
