/- Contracts of the program's functions, and the plain law behind them. No condition beyond those in each statement. -/
import Derived.Test.YtnmhaemjffcjaaaDoorUsAll4
import Derived.Test.YtnmhaemjffcjaaaDoorEvAll4
import Derived.Test.YtnmhaemjffcjaaaDoorUsAll2
import Derived.Test.YtnmhaemjffcjaaaDoorEvAll3
set_option linter.unusedSimpArgs false
set_option linter.unusedVariables false
set_option linter.unusedSectionVars false
/- Texts: walks, written by the tool. -/
set_option maxRecDepth 100000
namespace Go.Proofs.Us
open Go Go.Ev
def encS0 (s : ByteArray) (x0 : Int) (l0 : List Int) (n0 : Nat) : AS := { n := 79, fr := [(0, AV.v (.string (evn s))), (3, AV.row 4 0 l0.length l0.length false), (4, AV.v (.int .i64 x0)), (5, AV.v (.int .i64 (↑(ul (evn s)) : Int)))], hp := [(4, AObj.row 5 1 (.ints .u8 l0) n0)], nx := 5 }
def encX0 (s : ByteArray) (l1 : List Int) (n1 : Nat) : AS := { n := 79, fr := [(3, AV.row 4 0 l1.length l1.length false)], hp := [(4, AObj.row 5 1 (.ints .u8 l1) n1)], nx := 5 }
def encS1 (s : ByteArray) (x0 : Int) (x1 : Int) (l2 : List Int) (n2 : Nat) : AS := { n := 79, fr := [(0, AV.v (.string (evn s))), (3, AV.row 4 0 l2.length l2.length false), (4, AV.v (.int .i64 x0)), (5, AV.v (.int .i64 (↑(ul (evn s)) : Int))), (6, AV.v (.int .u16 (un (evn s) x0.toNat))), (7, AV.v (.int .i64 x1))], hp := [(4, AObj.row 5 1 (.ints .u8 l2) n2)], nx := 5 }
def encX1 (s : ByteArray) (x0 : Int) (l3 : List Int) (n3 : Nat) : AS := { n := 79, fr := [(0, AV.v (.string (evn s))), (3, AV.row 4 0 l3.length l3.length false), (4, AV.v (.int .i64 x0)), (5, AV.v (.int .i64 (↑(ul (evn s)) : Int)))], hp := [(4, AObj.row 5 1 (.ints .u8 l3) n3)], nx := 5 }
-- 11 paths
theorem encL0_1 (s : ByteArray) (x0 : Int) (l0 : List Int) (l3 : List Int) (n0 : Nat) (n3 : Nat) (h : AllP [decide (x0 < (↑(ul (evn s)) : Int)) = true, SZ (evn s), (0 : Int) ≤ x0 ∧ x0 < (↑(ul (evn s)) : Int), high (un (evn s) x0.toNat) = true, inR IntKind.i64 (x0 + (1 : Int)), decide (x0 + (1 : Int) < (↑(ul (evn s)) : Int)) = true, inR IntKind.i64 (x0 + (1 : Int)), SZ (evn s), (0 : Int) ≤ x0 + (1 : Int) ∧ x0 + (1 : Int) < (↑(ul (evn s)) : Int), low (un (evn s) (x0 + (1 : Int)).toNat) = true, inR IntKind.i64 (x0 + (1 : Int)), inR IntKind.i32 (bitsOf BinOp.and IntKind.u16 (un (evn s) x0.toNat) (1023 : Int)), (0 : Int) ≤ (10 : Int), inR IntKind.i32 (bitsOf BinOp.and IntKind.u16 (un (evn s) x0.toNat) (1023 : Int) * (1024 : Int)), inR IntKind.i32 ((65536 : Int) + bitsOf BinOp.and IntKind.u16 (un (evn s) x0.toNat) (1023 : Int) * (1024 : Int)), SZ (evn s), (0 : Int) ≤ x0 + (1 : Int) ∧ x0 + (1 : Int) < (↑(ul (evn s)) : Int), inR IntKind.i32 (bitsOf BinOp.and IntKind.u16 (un (evn s) (x0 + (1 : Int)).toNat) (1023 : Int)), inR IntKind.i32 ((65536 : Int) + bitsOf BinOp.and IntKind.u16 (un (evn s) x0.toNat) (1023 : Int) * (1024 : Int) + bitsOf BinOp.and IntKind.u16 (un (evn s) (x0 + (1 : Int)).toNat) (1023 : Int)), 4294967296 = rsv, l0.length = l0.length, l0.length = l0.length, (0 : Int) ≤ (65536 : Int) + bitsOf BinOp.and IntKind.u16 (un (evn s) x0.toNat) (1023 : Int) * (1024 : Int) + bitsOf BinOp.and IntKind.u16 (un (evn s) (x0 + (1 : Int)).toNat) (1023 : Int) ∧ (65536 : Int) + bitsOf BinOp.and IntKind.u16 (un (evn s) x0.toNat) (1023 : Int) * (1024 : Int) + bitsOf BinOp.and IntKind.u16 (un (evn s) (x0 + (1 : Int)).toNat) (1023 : Int) ≤ (1114111 : Int), ¬((55296 : Int) ≤ (65536 : Int) + bitsOf BinOp.and IntKind.u16 (un (evn s) x0.toNat) (1023 : Int) * (1024 : Int) + bitsOf BinOp.and IntKind.u16 (un (evn s) (x0 + (1 : Int)).toNat) (1023 : Int) ∧ (65536 : Int) + bitsOf BinOp.and IntKind.u16 (un (evn s) x0.toNat) (1023 : Int) * (1024 : Int) + bitsOf BinOp.and IntKind.u16 (un (evn s) (x0 + (1 : Int)).toNat) (1023 : Int) ≤ (57343 : Int)), l0.length < lim, inR IntKind.i64 (x0 + (1 : Int) + (1 : Int))]) : To Tryd.prog (loopAt Tryd.f17 0) ({ n := 79, fr := [(0, AV.v (.string (evn s))), (3, AV.row 4 0 l0.length l0.length false), (4, AV.v (.int .i64 x0)), (5, AV.v (.int .i64 (↑(ul (evn s)) : Int)))], hp := [(4, AObj.row 5 1 (.ints .u8 l0) n0)], nx := 5 }) (.normal) { n := 79, fr := [(0, AV.v (.string (evn s))), (3, AV.row 4 0 (l0 ++ enc8 ((65536 : Int) + bitsOf BinOp.and IntKind.u16 (un (evn s) x0.toNat) (1023 : Int) * (1024 : Int) + bitsOf BinOp.and IntKind.u16 (un (evn s) (x0 + (1 : Int)).toNat) (1023 : Int))).length (l0 ++ enc8 ((65536 : Int) + bitsOf BinOp.and IntKind.u16 (un (evn s) x0.toNat) (1023 : Int) * (1024 : Int) + bitsOf BinOp.and IntKind.u16 (un (evn s) (x0 + (1 : Int)).toNat) (1023 : Int))).length false), (4, AV.v (.int .i64 (x0 + (1 : Int) + (1 : Int)))), (5, AV.v (.int .i64 (↑(ul (evn s)) : Int)))], hp := [(4, AObj.row 5 1 (.ints .u8 (l0 ++ enc8 ((65536 : Int) + bitsOf BinOp.and IntKind.u16 (un (evn s) x0.toNat) (1023 : Int) * (1024 : Int) + bitsOf BinOp.and IntKind.u16 (un (evn s) (x0 + (1 : Int)).toNat) (1023 : Int)))) (l0 ++ enc8 ((65536 : Int) + bitsOf BinOp.and IntKind.u16 (un (evn s) x0.toNat) (1023 : Int) * (1024 : Int) + bitsOf BinOp.and IntKind.u16 (un (evn s) (x0 + (1 : Int)).toNat) (1023 : Int))).length)], nx := 5 } :=
  evW_to hm sok6 (hs := [CHint.ops 4 [(2, Hint.b true)], CHint.ops 8 [(1, Hint.b true), (6, Hint.b true), (13, Hint.b true)]]) (slots := [0, 3, 4, 5]) (keys := [4]) (nx := 5) (c := _) (by kernel_rfl) h
theorem encL0_2 (s : ByteArray) (x0 : Int) (l0 : List Int) (l3 : List Int) (n0 : Nat) (n3 : Nat) (h : AllP [decide (x0 < (↑(ul (evn s)) : Int)) = true, SZ (evn s), (0 : Int) ≤ x0 ∧ x0 < (↑(ul (evn s)) : Int), high (un (evn s) x0.toNat) = true, inR IntKind.i64 (x0 + (1 : Int)), decide (x0 + (1 : Int) < (↑(ul (evn s)) : Int)) = true, inR IntKind.i64 (x0 + (1 : Int)), SZ (evn s), (0 : Int) ≤ x0 + (1 : Int) ∧ x0 + (1 : Int) < (↑(ul (evn s)) : Int), low (un (evn s) (x0 + (1 : Int)).toNat) = false, high (un (evn s) x0.toNat) = true, l0.length = l0.length, l0.length = l0.length, (l0 ++ [(92 : Int), (117 : Int)]).length * 1 ≤ 140737488355328, LoopTo Tryd.prog (loopAt Tryd.f17 1) { n := 79, fr := [(0, AV.v (.string (evn s))), (3, AV.row 4 0 (l0 ++ [(92 : Int), (117 : Int)]).length (l0 ++ [(92 : Int), (117 : Int)]).length false), (4, AV.v (.int .i64 x0)), (5, AV.v (.int .i64 (↑(ul (evn s)) : Int))), (6, AV.v (.int .u16 (un (evn s) x0.toNat))), (7, AV.v (.int .i64 (12 : Int)))], hp := [(4, AObj.row 5 1 (.ints .u8 (l0 ++ [(92 : Int), (117 : Int)])) n0)], nx := 5 } (Exit.exit 3) { n := 79, fr := [(0, AV.v (.string (evn s))), (3, AV.row 4 0 l3.length l3.length false), (4, AV.v (.int .i64 x0)), (5, AV.v (.int .i64 (↑(ul (evn s)) : Int)))], hp := [(4, AObj.row 5 1 (.ints .u8 l3) n3)], nx := 5 }, inR IntKind.i64 (x0 + (1 : Int))]) : To Tryd.prog (loopAt Tryd.f17 0) ({ n := 79, fr := [(0, AV.v (.string (evn s))), (3, AV.row 4 0 l0.length l0.length false), (4, AV.v (.int .i64 x0)), (5, AV.v (.int .i64 (↑(ul (evn s)) : Int)))], hp := [(4, AObj.row 5 1 (.ints .u8 l0) n0)], nx := 5 }) (.normal) { n := 79, fr := [(0, AV.v (.string (evn s))), (3, AV.row 4 0 l3.length l3.length false), (4, AV.v (.int .i64 (x0 + (1 : Int)))), (5, AV.v (.int .i64 (↑(ul (evn s)) : Int)))], hp := [(4, AObj.row 5 1 (.ints .u8 l3) n3)], nx := 5 } :=
  evW_to hm sok6 (hs := [CHint.ops 4 [(2, Hint.b true)], CHint.ops 8 [(1, Hint.b true), (6, Hint.b true), (13, Hint.b false)], CHint.ops 11 [(1, Hint.b true)], CHint.loop [0, 3, 4, 5, 6, 7] [4] 5 (Exit.exit 3) { n := 79, fr := [(0, AV.v (.string (evn s))), (3, AV.row 4 0 l3.length l3.length false), (4, AV.v (.int .i64 x0)), (5, AV.v (.int .i64 (↑(ul (evn s)) : Int)))], hp := [(4, AObj.row (5 : TypeId) 1 (.ints .u8 l3) n3)], nx := 5 }]) (slots := [0, 3, 4, 5]) (keys := [4]) (nx := 5) (c := _) (by kernel_rfl) h
theorem encL0_3 (s : ByteArray) (x0 : Int) (l0 : List Int) (l3 : List Int) (n0 : Nat) (n3 : Nat) (h : AllP [decide (x0 < (↑(ul (evn s)) : Int)) = true, SZ (evn s), (0 : Int) ≤ x0 ∧ x0 < (↑(ul (evn s)) : Int), high (un (evn s) x0.toNat) = true, inR IntKind.i64 (x0 + (1 : Int)), decide (x0 + (1 : Int) < (↑(ul (evn s)) : Int)) = true, inR IntKind.i64 (x0 + (1 : Int)), SZ (evn s), (0 : Int) ≤ x0 + (1 : Int) ∧ x0 + (1 : Int) < (↑(ul (evn s)) : Int), low (un (evn s) (x0 + (1 : Int)).toNat) = false, high (un (evn s) x0.toNat) = false, low (un (evn s) x0.toNat) = true, l0.length = l0.length, l0.length = l0.length, (l0 ++ [(92 : Int), (117 : Int)]).length * 1 ≤ 140737488355328, LoopTo Tryd.prog (loopAt Tryd.f17 1) { n := 79, fr := [(0, AV.v (.string (evn s))), (3, AV.row 4 0 (l0 ++ [(92 : Int), (117 : Int)]).length (l0 ++ [(92 : Int), (117 : Int)]).length false), (4, AV.v (.int .i64 x0)), (5, AV.v (.int .i64 (↑(ul (evn s)) : Int))), (6, AV.v (.int .u16 (un (evn s) x0.toNat))), (7, AV.v (.int .i64 (12 : Int)))], hp := [(4, AObj.row 5 1 (.ints .u8 (l0 ++ [(92 : Int), (117 : Int)])) n0)], nx := 5 } (Exit.exit 3) { n := 79, fr := [(0, AV.v (.string (evn s))), (3, AV.row 4 0 l3.length l3.length false), (4, AV.v (.int .i64 x0)), (5, AV.v (.int .i64 (↑(ul (evn s)) : Int)))], hp := [(4, AObj.row 5 1 (.ints .u8 l3) n3)], nx := 5 }, inR IntKind.i64 (x0 + (1 : Int))]) : To Tryd.prog (loopAt Tryd.f17 0) ({ n := 79, fr := [(0, AV.v (.string (evn s))), (3, AV.row 4 0 l0.length l0.length false), (4, AV.v (.int .i64 x0)), (5, AV.v (.int .i64 (↑(ul (evn s)) : Int)))], hp := [(4, AObj.row 5 1 (.ints .u8 l0) n0)], nx := 5 }) (.normal) { n := 79, fr := [(0, AV.v (.string (evn s))), (3, AV.row 4 0 l3.length l3.length false), (4, AV.v (.int .i64 (x0 + (1 : Int)))), (5, AV.v (.int .i64 (↑(ul (evn s)) : Int)))], hp := [(4, AObj.row 5 1 (.ints .u8 l3) n3)], nx := 5 } :=
  evW_to hm sok6 (hs := [CHint.ops 4 [(2, Hint.b true)], CHint.ops 8 [(1, Hint.b true), (6, Hint.b true), (13, Hint.b false)], CHint.ops 11 [(1, Hint.b false), (4, Hint.b true)], CHint.loop [0, 3, 4, 5, 6, 7] [4] 5 (Exit.exit 3) { n := 79, fr := [(0, AV.v (.string (evn s))), (3, AV.row 4 0 l3.length l3.length false), (4, AV.v (.int .i64 x0)), (5, AV.v (.int .i64 (↑(ul (evn s)) : Int)))], hp := [(4, AObj.row (5 : TypeId) 1 (.ints .u8 l3) n3)], nx := 5 }]) (slots := [0, 3, 4, 5]) (keys := [4]) (nx := 5) (c := _) (by kernel_rfl) h
theorem encL0_4 (s : ByteArray) (x0 : Int) (l0 : List Int) (l3 : List Int) (n0 : Nat) (n3 : Nat) (h : AllP [decide (x0 < (↑(ul (evn s)) : Int)) = true, SZ (evn s), (0 : Int) ≤ x0 ∧ x0 < (↑(ul (evn s)) : Int), high (un (evn s) x0.toNat) = true, inR IntKind.i64 (x0 + (1 : Int)), decide (x0 + (1 : Int) < (↑(ul (evn s)) : Int)) = true, inR IntKind.i64 (x0 + (1 : Int)), SZ (evn s), (0 : Int) ≤ x0 + (1 : Int) ∧ x0 + (1 : Int) < (↑(ul (evn s)) : Int), low (un (evn s) (x0 + (1 : Int)).toNat) = false, high (un (evn s) x0.toNat) = false, low (un (evn s) x0.toNat) = false, inR IntKind.i32 (un (evn s) x0.toNat), 4294967296 = rsv, l0.length = l0.length, l0.length = l0.length, (0 : Int) ≤ un (evn s) x0.toNat ∧ un (evn s) x0.toNat ≤ (1114111 : Int), ¬((55296 : Int) ≤ un (evn s) x0.toNat ∧ un (evn s) x0.toNat ≤ (57343 : Int)), l0.length < lim, inR IntKind.i64 (x0 + (1 : Int))]) : To Tryd.prog (loopAt Tryd.f17 0) ({ n := 79, fr := [(0, AV.v (.string (evn s))), (3, AV.row 4 0 l0.length l0.length false), (4, AV.v (.int .i64 x0)), (5, AV.v (.int .i64 (↑(ul (evn s)) : Int)))], hp := [(4, AObj.row 5 1 (.ints .u8 l0) n0)], nx := 5 }) (.normal) { n := 79, fr := [(0, AV.v (.string (evn s))), (3, AV.row 4 0 (l0 ++ enc8 (un (evn s) x0.toNat)).length (l0 ++ enc8 (un (evn s) x0.toNat)).length false), (4, AV.v (.int .i64 (x0 + (1 : Int)))), (5, AV.v (.int .i64 (↑(ul (evn s)) : Int)))], hp := [(4, AObj.row 5 1 (.ints .u8 (l0 ++ enc8 (un (evn s) x0.toNat))) (l0 ++ enc8 (un (evn s) x0.toNat)).length)], nx := 5 } :=
  evW_to hm sok6 (hs := [CHint.ops 4 [(2, Hint.b true)], CHint.ops 8 [(1, Hint.b true), (6, Hint.b true), (13, Hint.b false)], CHint.ops 11 [(1, Hint.b false), (4, Hint.b false)]]) (slots := [0, 3, 4, 5]) (keys := [4]) (nx := 5) (c := _) (by kernel_rfl) h
theorem encL0_5 (s : ByteArray) (x0 : Int) (l0 : List Int) (l3 : List Int) (n0 : Nat) (n3 : Nat) (h : AllP [decide (x0 < (↑(ul (evn s)) : Int)) = true, SZ (evn s), (0 : Int) ≤ x0 ∧ x0 < (↑(ul (evn s)) : Int), high (un (evn s) x0.toNat) = true, inR IntKind.i64 (x0 + (1 : Int)), decide (x0 + (1 : Int) < (↑(ul (evn s)) : Int)) = false, high (un (evn s) x0.toNat) = true, l0.length = l0.length, l0.length = l0.length, (l0 ++ [(92 : Int), (117 : Int)]).length * 1 ≤ 140737488355328, LoopTo Tryd.prog (loopAt Tryd.f17 1) { n := 79, fr := [(0, AV.v (.string (evn s))), (3, AV.row 4 0 (l0 ++ [(92 : Int), (117 : Int)]).length (l0 ++ [(92 : Int), (117 : Int)]).length false), (4, AV.v (.int .i64 x0)), (5, AV.v (.int .i64 (↑(ul (evn s)) : Int))), (6, AV.v (.int .u16 (un (evn s) x0.toNat))), (7, AV.v (.int .i64 (12 : Int)))], hp := [(4, AObj.row 5 1 (.ints .u8 (l0 ++ [(92 : Int), (117 : Int)])) n0)], nx := 5 } (Exit.exit 3) { n := 79, fr := [(0, AV.v (.string (evn s))), (3, AV.row 4 0 l3.length l3.length false), (4, AV.v (.int .i64 x0)), (5, AV.v (.int .i64 (↑(ul (evn s)) : Int)))], hp := [(4, AObj.row 5 1 (.ints .u8 l3) n3)], nx := 5 }, inR IntKind.i64 (x0 + (1 : Int))]) : To Tryd.prog (loopAt Tryd.f17 0) ({ n := 79, fr := [(0, AV.v (.string (evn s))), (3, AV.row 4 0 l0.length l0.length false), (4, AV.v (.int .i64 x0)), (5, AV.v (.int .i64 (↑(ul (evn s)) : Int)))], hp := [(4, AObj.row 5 1 (.ints .u8 l0) n0)], nx := 5 }) (.normal) { n := 79, fr := [(0, AV.v (.string (evn s))), (3, AV.row 4 0 l3.length l3.length false), (4, AV.v (.int .i64 (x0 + (1 : Int)))), (5, AV.v (.int .i64 (↑(ul (evn s)) : Int)))], hp := [(4, AObj.row 5 1 (.ints .u8 l3) n3)], nx := 5 } :=
  evW_to hm sok6 (hs := [CHint.ops 4 [(2, Hint.b true)], CHint.ops 8 [(1, Hint.b true), (6, Hint.b false)], CHint.ops 11 [(1, Hint.b true)], CHint.loop [0, 3, 4, 5, 6, 7] [4] 5 (Exit.exit 3) { n := 79, fr := [(0, AV.v (.string (evn s))), (3, AV.row 4 0 l3.length l3.length false), (4, AV.v (.int .i64 x0)), (5, AV.v (.int .i64 (↑(ul (evn s)) : Int)))], hp := [(4, AObj.row (5 : TypeId) 1 (.ints .u8 l3) n3)], nx := 5 }]) (slots := [0, 3, 4, 5]) (keys := [4]) (nx := 5) (c := _) (by kernel_rfl) h
theorem encL0_6 (s : ByteArray) (x0 : Int) (l0 : List Int) (l3 : List Int) (n0 : Nat) (n3 : Nat) (h : AllP [decide (x0 < (↑(ul (evn s)) : Int)) = true, SZ (evn s), (0 : Int) ≤ x0 ∧ x0 < (↑(ul (evn s)) : Int), high (un (evn s) x0.toNat) = true, inR IntKind.i64 (x0 + (1 : Int)), decide (x0 + (1 : Int) < (↑(ul (evn s)) : Int)) = false, high (un (evn s) x0.toNat) = false, low (un (evn s) x0.toNat) = true, l0.length = l0.length, l0.length = l0.length, (l0 ++ [(92 : Int), (117 : Int)]).length * 1 ≤ 140737488355328, LoopTo Tryd.prog (loopAt Tryd.f17 1) { n := 79, fr := [(0, AV.v (.string (evn s))), (3, AV.row 4 0 (l0 ++ [(92 : Int), (117 : Int)]).length (l0 ++ [(92 : Int), (117 : Int)]).length false), (4, AV.v (.int .i64 x0)), (5, AV.v (.int .i64 (↑(ul (evn s)) : Int))), (6, AV.v (.int .u16 (un (evn s) x0.toNat))), (7, AV.v (.int .i64 (12 : Int)))], hp := [(4, AObj.row 5 1 (.ints .u8 (l0 ++ [(92 : Int), (117 : Int)])) n0)], nx := 5 } (Exit.exit 3) { n := 79, fr := [(0, AV.v (.string (evn s))), (3, AV.row 4 0 l3.length l3.length false), (4, AV.v (.int .i64 x0)), (5, AV.v (.int .i64 (↑(ul (evn s)) : Int)))], hp := [(4, AObj.row 5 1 (.ints .u8 l3) n3)], nx := 5 }, inR IntKind.i64 (x0 + (1 : Int))]) : To Tryd.prog (loopAt Tryd.f17 0) ({ n := 79, fr := [(0, AV.v (.string (evn s))), (3, AV.row 4 0 l0.length l0.length false), (4, AV.v (.int .i64 x0)), (5, AV.v (.int .i64 (↑(ul (evn s)) : Int)))], hp := [(4, AObj.row 5 1 (.ints .u8 l0) n0)], nx := 5 }) (.normal) { n := 79, fr := [(0, AV.v (.string (evn s))), (3, AV.row 4 0 l3.length l3.length false), (4, AV.v (.int .i64 (x0 + (1 : Int)))), (5, AV.v (.int .i64 (↑(ul (evn s)) : Int)))], hp := [(4, AObj.row 5 1 (.ints .u8 l3) n3)], nx := 5 } :=
  evW_to hm sok6 (hs := [CHint.ops 4 [(2, Hint.b true)], CHint.ops 8 [(1, Hint.b true), (6, Hint.b false)], CHint.ops 11 [(1, Hint.b false), (4, Hint.b true)], CHint.loop [0, 3, 4, 5, 6, 7] [4] 5 (Exit.exit 3) { n := 79, fr := [(0, AV.v (.string (evn s))), (3, AV.row 4 0 l3.length l3.length false), (4, AV.v (.int .i64 x0)), (5, AV.v (.int .i64 (↑(ul (evn s)) : Int)))], hp := [(4, AObj.row (5 : TypeId) 1 (.ints .u8 l3) n3)], nx := 5 }]) (slots := [0, 3, 4, 5]) (keys := [4]) (nx := 5) (c := _) (by kernel_rfl) h
theorem encL0_7 (s : ByteArray) (x0 : Int) (l0 : List Int) (l3 : List Int) (n0 : Nat) (n3 : Nat) (h : AllP [decide (x0 < (↑(ul (evn s)) : Int)) = true, SZ (evn s), (0 : Int) ≤ x0 ∧ x0 < (↑(ul (evn s)) : Int), high (un (evn s) x0.toNat) = true, inR IntKind.i64 (x0 + (1 : Int)), decide (x0 + (1 : Int) < (↑(ul (evn s)) : Int)) = false, high (un (evn s) x0.toNat) = false, low (un (evn s) x0.toNat) = false, inR IntKind.i32 (un (evn s) x0.toNat), 4294967296 = rsv, l0.length = l0.length, l0.length = l0.length, (0 : Int) ≤ un (evn s) x0.toNat ∧ un (evn s) x0.toNat ≤ (1114111 : Int), ¬((55296 : Int) ≤ un (evn s) x0.toNat ∧ un (evn s) x0.toNat ≤ (57343 : Int)), l0.length < lim, inR IntKind.i64 (x0 + (1 : Int))]) : To Tryd.prog (loopAt Tryd.f17 0) ({ n := 79, fr := [(0, AV.v (.string (evn s))), (3, AV.row 4 0 l0.length l0.length false), (4, AV.v (.int .i64 x0)), (5, AV.v (.int .i64 (↑(ul (evn s)) : Int)))], hp := [(4, AObj.row 5 1 (.ints .u8 l0) n0)], nx := 5 }) (.normal) { n := 79, fr := [(0, AV.v (.string (evn s))), (3, AV.row 4 0 (l0 ++ enc8 (un (evn s) x0.toNat)).length (l0 ++ enc8 (un (evn s) x0.toNat)).length false), (4, AV.v (.int .i64 (x0 + (1 : Int)))), (5, AV.v (.int .i64 (↑(ul (evn s)) : Int)))], hp := [(4, AObj.row 5 1 (.ints .u8 (l0 ++ enc8 (un (evn s) x0.toNat))) (l0 ++ enc8 (un (evn s) x0.toNat)).length)], nx := 5 } :=
  evW_to hm sok6 (hs := [CHint.ops 4 [(2, Hint.b true)], CHint.ops 8 [(1, Hint.b true), (6, Hint.b false)], CHint.ops 11 [(1, Hint.b false), (4, Hint.b false)]]) (slots := [0, 3, 4, 5]) (keys := [4]) (nx := 5) (c := _) (by kernel_rfl) h
theorem encL0_8 (s : ByteArray) (x0 : Int) (l0 : List Int) (l3 : List Int) (n0 : Nat) (n3 : Nat) (h : AllP [decide (x0 < (↑(ul (evn s)) : Int)) = true, SZ (evn s), (0 : Int) ≤ x0 ∧ x0 < (↑(ul (evn s)) : Int), high (un (evn s) x0.toNat) = false, high (un (evn s) x0.toNat) = true, l0.length = l0.length, l0.length = l0.length, (l0 ++ [(92 : Int), (117 : Int)]).length * 1 ≤ 140737488355328, LoopTo Tryd.prog (loopAt Tryd.f17 1) { n := 79, fr := [(0, AV.v (.string (evn s))), (3, AV.row 4 0 (l0 ++ [(92 : Int), (117 : Int)]).length (l0 ++ [(92 : Int), (117 : Int)]).length false), (4, AV.v (.int .i64 x0)), (5, AV.v (.int .i64 (↑(ul (evn s)) : Int))), (6, AV.v (.int .u16 (un (evn s) x0.toNat))), (7, AV.v (.int .i64 (12 : Int)))], hp := [(4, AObj.row 5 1 (.ints .u8 (l0 ++ [(92 : Int), (117 : Int)])) n0)], nx := 5 } (Exit.exit 3) { n := 79, fr := [(0, AV.v (.string (evn s))), (3, AV.row 4 0 l3.length l3.length false), (4, AV.v (.int .i64 x0)), (5, AV.v (.int .i64 (↑(ul (evn s)) : Int)))], hp := [(4, AObj.row 5 1 (.ints .u8 l3) n3)], nx := 5 }, inR IntKind.i64 (x0 + (1 : Int))]) : To Tryd.prog (loopAt Tryd.f17 0) ({ n := 79, fr := [(0, AV.v (.string (evn s))), (3, AV.row 4 0 l0.length l0.length false), (4, AV.v (.int .i64 x0)), (5, AV.v (.int .i64 (↑(ul (evn s)) : Int)))], hp := [(4, AObj.row 5 1 (.ints .u8 l0) n0)], nx := 5 }) (.normal) { n := 79, fr := [(0, AV.v (.string (evn s))), (3, AV.row 4 0 l3.length l3.length false), (4, AV.v (.int .i64 (x0 + (1 : Int)))), (5, AV.v (.int .i64 (↑(ul (evn s)) : Int)))], hp := [(4, AObj.row 5 1 (.ints .u8 l3) n3)], nx := 5 } :=
  evW_to hm sok6 (hs := [CHint.ops 4 [(2, Hint.b true)], CHint.ops 8 [(1, Hint.b false)], CHint.ops 11 [(1, Hint.b true)], CHint.loop [0, 3, 4, 5, 6, 7] [4] 5 (Exit.exit 3) { n := 79, fr := [(0, AV.v (.string (evn s))), (3, AV.row 4 0 l3.length l3.length false), (4, AV.v (.int .i64 x0)), (5, AV.v (.int .i64 (↑(ul (evn s)) : Int)))], hp := [(4, AObj.row (5 : TypeId) 1 (.ints .u8 l3) n3)], nx := 5 }]) (slots := [0, 3, 4, 5]) (keys := [4]) (nx := 5) (c := _) (by kernel_rfl) h
theorem encL0_9 (s : ByteArray) (x0 : Int) (l0 : List Int) (l3 : List Int) (n0 : Nat) (n3 : Nat) (h : AllP [decide (x0 < (↑(ul (evn s)) : Int)) = true, SZ (evn s), (0 : Int) ≤ x0 ∧ x0 < (↑(ul (evn s)) : Int), high (un (evn s) x0.toNat) = false, high (un (evn s) x0.toNat) = false, low (un (evn s) x0.toNat) = true, l0.length = l0.length, l0.length = l0.length, (l0 ++ [(92 : Int), (117 : Int)]).length * 1 ≤ 140737488355328, LoopTo Tryd.prog (loopAt Tryd.f17 1) { n := 79, fr := [(0, AV.v (.string (evn s))), (3, AV.row 4 0 (l0 ++ [(92 : Int), (117 : Int)]).length (l0 ++ [(92 : Int), (117 : Int)]).length false), (4, AV.v (.int .i64 x0)), (5, AV.v (.int .i64 (↑(ul (evn s)) : Int))), (6, AV.v (.int .u16 (un (evn s) x0.toNat))), (7, AV.v (.int .i64 (12 : Int)))], hp := [(4, AObj.row 5 1 (.ints .u8 (l0 ++ [(92 : Int), (117 : Int)])) n0)], nx := 5 } (Exit.exit 3) { n := 79, fr := [(0, AV.v (.string (evn s))), (3, AV.row 4 0 l3.length l3.length false), (4, AV.v (.int .i64 x0)), (5, AV.v (.int .i64 (↑(ul (evn s)) : Int)))], hp := [(4, AObj.row 5 1 (.ints .u8 l3) n3)], nx := 5 }, inR IntKind.i64 (x0 + (1 : Int))]) : To Tryd.prog (loopAt Tryd.f17 0) ({ n := 79, fr := [(0, AV.v (.string (evn s))), (3, AV.row 4 0 l0.length l0.length false), (4, AV.v (.int .i64 x0)), (5, AV.v (.int .i64 (↑(ul (evn s)) : Int)))], hp := [(4, AObj.row 5 1 (.ints .u8 l0) n0)], nx := 5 }) (.normal) { n := 79, fr := [(0, AV.v (.string (evn s))), (3, AV.row 4 0 l3.length l3.length false), (4, AV.v (.int .i64 (x0 + (1 : Int)))), (5, AV.v (.int .i64 (↑(ul (evn s)) : Int)))], hp := [(4, AObj.row 5 1 (.ints .u8 l3) n3)], nx := 5 } :=
  evW_to hm sok6 (hs := [CHint.ops 4 [(2, Hint.b true)], CHint.ops 8 [(1, Hint.b false)], CHint.ops 11 [(1, Hint.b false), (4, Hint.b true)], CHint.loop [0, 3, 4, 5, 6, 7] [4] 5 (Exit.exit 3) { n := 79, fr := [(0, AV.v (.string (evn s))), (3, AV.row 4 0 l3.length l3.length false), (4, AV.v (.int .i64 x0)), (5, AV.v (.int .i64 (↑(ul (evn s)) : Int)))], hp := [(4, AObj.row (5 : TypeId) 1 (.ints .u8 l3) n3)], nx := 5 }]) (slots := [0, 3, 4, 5]) (keys := [4]) (nx := 5) (c := _) (by kernel_rfl) h
theorem encL0_10 (s : ByteArray) (x0 : Int) (l0 : List Int) (l3 : List Int) (n0 : Nat) (n3 : Nat) (h : AllP [decide (x0 < (↑(ul (evn s)) : Int)) = true, SZ (evn s), (0 : Int) ≤ x0 ∧ x0 < (↑(ul (evn s)) : Int), high (un (evn s) x0.toNat) = false, high (un (evn s) x0.toNat) = false, low (un (evn s) x0.toNat) = false, inR IntKind.i32 (un (evn s) x0.toNat), 4294967296 = rsv, l0.length = l0.length, l0.length = l0.length, (0 : Int) ≤ un (evn s) x0.toNat ∧ un (evn s) x0.toNat ≤ (1114111 : Int), ¬((55296 : Int) ≤ un (evn s) x0.toNat ∧ un (evn s) x0.toNat ≤ (57343 : Int)), l0.length < lim, inR IntKind.i64 (x0 + (1 : Int))]) : To Tryd.prog (loopAt Tryd.f17 0) ({ n := 79, fr := [(0, AV.v (.string (evn s))), (3, AV.row 4 0 l0.length l0.length false), (4, AV.v (.int .i64 x0)), (5, AV.v (.int .i64 (↑(ul (evn s)) : Int)))], hp := [(4, AObj.row 5 1 (.ints .u8 l0) n0)], nx := 5 }) (.normal) { n := 79, fr := [(0, AV.v (.string (evn s))), (3, AV.row 4 0 (l0 ++ enc8 (un (evn s) x0.toNat)).length (l0 ++ enc8 (un (evn s) x0.toNat)).length false), (4, AV.v (.int .i64 (x0 + (1 : Int)))), (5, AV.v (.int .i64 (↑(ul (evn s)) : Int)))], hp := [(4, AObj.row 5 1 (.ints .u8 (l0 ++ enc8 (un (evn s) x0.toNat))) (l0 ++ enc8 (un (evn s) x0.toNat)).length)], nx := 5 } :=
  evW_to hm sok6 (hs := [CHint.ops 4 [(2, Hint.b true)], CHint.ops 8 [(1, Hint.b false)], CHint.ops 11 [(1, Hint.b false), (4, Hint.b false)]]) (slots := [0, 3, 4, 5]) (keys := [4]) (nx := 5) (c := _) (by kernel_rfl) h
theorem encL0_11 (s : ByteArray) (x0 : Int) (l0 : List Int) (l3 : List Int) (n0 : Nat) (n3 : Nat) (h : AllP [decide (x0 < (↑(ul (evn s)) : Int)) = false]) : To Tryd.prog (loopAt Tryd.f17 0) ({ n := 79, fr := [(0, AV.v (.string (evn s))), (3, AV.row 4 0 l0.length l0.length false), (4, AV.v (.int .i64 x0)), (5, AV.v (.int .i64 (↑(ul (evn s)) : Int)))], hp := [(4, AObj.row 5 1 (.ints .u8 l0) n0)], nx := 5 }) (Exit.exit 0) { n := 79, fr := [(3, AV.row 4 0 l0.length l0.length false)], hp := [(4, AObj.row 5 1 (.ints .u8 l0) n0)], nx := 5 } :=
  evW_to hm sok6 (hs := [CHint.ops 4 [(2, Hint.b false)]]) (slots := [3]) (keys := [4]) (nx := 5) (c := _) (by kernel_rfl) h
-- 2 paths
theorem encL1_1 (s : ByteArray) (x0 : Int) (x1 : Int) (l2 : List Int) (n2 : Nat) (h : AllP [decide (x1 ≥ (0 : Int)) = true, (0 : Int) ≤ x1, (0 : Int) ≤ bitsOf BinOp.and IntKind.u16 (un (evn s) x0.toNat / (2 : Int) ^ min x1.toNat 16) (15 : Int) ∧ bitsOf BinOp.and IntKind.u16 (un (evn s) x0.toNat / (2 : Int) ^ min x1.toNat 16) (15 : Int) < (16 : Int), l2.length = l2.length, l2.length = l2.length, (l2 ++ [byteAt (ByteArray.mk #[(48 : UInt8), (49 : UInt8), (50 : UInt8), (51 : UInt8), (52 : UInt8), (53 : UInt8), (54 : UInt8), (55 : UInt8), (56 : UInt8), (57 : UInt8), (65 : UInt8), (66 : UInt8), (67 : UInt8), (68 : UInt8), (69 : UInt8), (70 : UInt8)]) (bitsOf BinOp.and IntKind.u16 (un (evn s) x0.toNat / (2 : Int) ^ min x1.toNat 16) (15 : Int)).toNat]).length * 1 ≤ 140737488355328, inR IntKind.i64 (x1 - (4 : Int))]) : To Tryd.prog (loopAt Tryd.f17 1) ({ n := 79, fr := [(0, AV.v (.string (evn s))), (3, AV.row 4 0 l2.length l2.length false), (4, AV.v (.int .i64 x0)), (5, AV.v (.int .i64 (↑(ul (evn s)) : Int))), (6, AV.v (.int .u16 (un (evn s) x0.toNat))), (7, AV.v (.int .i64 x1))], hp := [(4, AObj.row 5 1 (.ints .u8 l2) n2)], nx := 5 }) (.normal) { n := 79, fr := [(0, AV.v (.string (evn s))), (3, AV.row 4 0 (l2 ++ [byteAt (ByteArray.mk #[(48 : UInt8), (49 : UInt8), (50 : UInt8), (51 : UInt8), (52 : UInt8), (53 : UInt8), (54 : UInt8), (55 : UInt8), (56 : UInt8), (57 : UInt8), (65 : UInt8), (66 : UInt8), (67 : UInt8), (68 : UInt8), (69 : UInt8), (70 : UInt8)]) (bitsOf BinOp.and IntKind.u16 (un (evn s) x0.toNat / (2 : Int) ^ min x1.toNat 16) (15 : Int)).toNat]).length (l2 ++ [byteAt (ByteArray.mk #[(48 : UInt8), (49 : UInt8), (50 : UInt8), (51 : UInt8), (52 : UInt8), (53 : UInt8), (54 : UInt8), (55 : UInt8), (56 : UInt8), (57 : UInt8), (65 : UInt8), (66 : UInt8), (67 : UInt8), (68 : UInt8), (69 : UInt8), (70 : UInt8)]) (bitsOf BinOp.and IntKind.u16 (un (evn s) x0.toNat / (2 : Int) ^ min x1.toNat 16) (15 : Int)).toNat]).length false), (4, AV.v (.int .i64 x0)), (5, AV.v (.int .i64 (↑(ul (evn s)) : Int))), (6, AV.v (.int .u16 (un (evn s) x0.toNat))), (7, AV.v (.int .i64 (x1 - (4 : Int))))], hp := [(4, AObj.row 5 1 (.ints .u8 (l2 ++ [byteAt (ByteArray.mk #[(48 : UInt8), (49 : UInt8), (50 : UInt8), (51 : UInt8), (52 : UInt8), (53 : UInt8), (54 : UInt8), (55 : UInt8), (56 : UInt8), (57 : UInt8), (65 : UInt8), (66 : UInt8), (67 : UInt8), (68 : UInt8), (69 : UInt8), (70 : UInt8)]) (bitsOf BinOp.and IntKind.u16 (un (evn s) x0.toNat / (2 : Int) ^ min x1.toNat 16) (15 : Int)).toNat])) n2)], nx := 5 } :=
  evW_to hm sok6 (hs := [CHint.ops 14 [(1, Hint.b true)]]) (slots := [0, 3, 4, 5, 6, 7]) (keys := [4]) (nx := 5) (c := _) (by kernel_rfl) h
theorem encL1_2 (s : ByteArray) (x0 : Int) (x1 : Int) (l2 : List Int) (n2 : Nat) (h : AllP [decide (x1 ≥ (0 : Int)) = false]) : To Tryd.prog (loopAt Tryd.f17 1) ({ n := 79, fr := [(0, AV.v (.string (evn s))), (3, AV.row 4 0 l2.length l2.length false), (4, AV.v (.int .i64 x0)), (5, AV.v (.int .i64 (↑(ul (evn s)) : Int))), (6, AV.v (.int .u16 (un (evn s) x0.toNat))), (7, AV.v (.int .i64 x1))], hp := [(4, AObj.row 5 1 (.ints .u8 l2) n2)], nx := 5 }) (Exit.exit 3) { n := 79, fr := [(0, AV.v (.string (evn s))), (3, AV.row 4 0 l2.length l2.length false), (4, AV.v (.int .i64 x0)), (5, AV.v (.int .i64 (↑(ul (evn s)) : Int)))], hp := [(4, AObj.row 5 1 (.ints .u8 l2) n2)], nx := 5 } :=
  evW_to hm sok6 (hs := [CHint.ops 14 [(1, Hint.b false)]]) (slots := [0, 3, 4, 5]) (keys := [4]) (nx := 5) (c := _) (by kernel_rfl) h
-- 1 paths
theorem encF1 (s : ByteArray) (l1 : List Int) (n1 : Nat) (h : AllP [SZ s, SZ (evn s), LoopTo Tryd.prog (loopAt Tryd.f17 0) { n := 79, fr := [(0, AV.v (.string (evn s))), (3, AV.row 4 0 0 0 false), (4, AV.v (.int .i64 (0 : Int))), (5, AV.v (.int .i64 (↑(ul (evn s)) : Int)))], hp := [(4, AObj.row 5 1 (.ints .u8 []) 0)], nx := 5 } (Exit.exit 0) { n := 79, fr := [(3, AV.row 4 0 l1.length l1.length false)], hp := [(4, AObj.row 5 1 (.ints .u8 l1) n1)], nx := 5 }, l1.length = l1.length, n1 ≤ l1.length]) : PureTo Tryd.prog 17 [.v (.string s)] (AV.v (.string (strOfInts l1))) :=
  evFn_pure hm sok6 (fn := Tryd.f17) rfl rfl (ti := false) (hs := [CHint.ops 2 [(0, Hint.nil 5)], CHint.loop [0, 3, 4, 5] [4] 5 (Exit.exit 0) { n := 79, fr := [(3, AV.row 4 0 l1.length l1.length false)], hp := [(4, AObj.row (5 : TypeId) 1 (.ints .u8 l1) n1)], nx := 5 }]) (c := _) (by kernel_rfl) h
end Go.Proofs.Us

/- Texts: units told as UTF-8. -/
set_option maxRecDepth 100000
namespace Go.Proofs.Us
open Go Go.Ev

def hexs : ByteArray := ByteArray.mk #[48, 49, 50, 51, 52, 53, 54, 55, 56, 57, 65, 66, 67, 68, 69, 70]
def hx (n : Int) : Int := byteAt hexs n.toNat
def hex4 (u : Int) : List Int := [hx (u / 4096), hx (u / 256 % 16), hx (u / 16 % 16), hx (u % 16)]
def esc (u : Int) : List Int := [92, 117] ++ hex4 u
theorem esc_length (u : Int) : (esc u).length = 6 := rfl

theorem high_iff (u : Int) : high u = true ↔ 55296 ≤ u ∧ u < 56320 := by
  unfold high
  rw [bif_and, Bool.and_eq_true, decide_eq_true_eq, decide_eq_true_eq]
theorem low_iff (u : Int) : low u = true ↔ 56320 ≤ u ∧ u < 57344 := by
  unfold low
  rw [bif_and, Bool.and_eq_true, decide_eq_true_eq, decide_eq_true_eq]

/-- what is told of the unit at a place, and how many units that were -/
def encU (e : ByteArray) (i : Nat) : List Int × Nat :=
  if high (un e i) = true ∧ i + 1 < ul e ∧ low (un e (i + 1)) = true then (enc8 (65536 + (un e i - 55296) * 1024 + (un e (i + 1) - 56320)), 2)
  else if high (un e i) = true ∨ low (un e i) = true then (esc (un e i), 1) else (enc8 (un e i), 1)

theorem encU_spec (e : ByteArray) (i : Nat) : 1 ≤ (encU e i).2 ∧ (encU e i).2 ≤ 2 ∧ (encU e i).1.length ≤ 6 * (encU e i).2 ∧ (i < ul e → i + (encU e i).2 ≤ ul e) := by
  unfold encU
  split
  · next h => have := enc8_length (65536 + (un e i - 55296) * 1024 + (un e (i + 1) - 56320)); exact ⟨by simp, by simp, by simp only []; omega, fun _ => by simp only []; omega⟩
  · split
    · exact ⟨by simp, by simp, by simp only [esc_length]; omega, fun _ => by simp only []; omega⟩
    · have := enc8_length (un e i); exact ⟨by simp, by simp, by simp only []; omega, fun _ => by simp only []; omega⟩

def encG (e : ByteArray) : Nat → Nat → List Int → List Int
  | 0, _, l => l
  | f + 1, i, l => if ul e ≤ i then l else encG e f (i + (encU e i).2) (l ++ (encU e i).1)

/-- what Encode tells -/
def encL (e : ByteArray) : List Int := encG e (ul e) 0 []

section
variable {P : Program} {c : Code} {S : Int → List Int → Nat → AS} {X : List Int → Nat → AS}

theorem enc_loop (e : ByteArray) {x : Exit} (hx : x ≠ .normal)
    (step : ∀ (i : Nat) l n0, i < ul e → l.length ≤ 6 * i → n0 ≤ l.length → ∃ n1, n1 ≤ (l ++ (encU e i).1).length ∧ To P c (S i l n0) .normal (S ((i + (encU e i).2 : Nat) : Int) (l ++ (encU e i).1) n1))
    (done : ∀ (i : Nat) l n0, ul e ≤ i → To P c (S i l n0) x (X l n0)) : ∀ (f i : Nat) (l : List Int) (n0 : Nat), ul e ≤ i + f → l.length ≤ 6 * i → n0 ≤ l.length →
    ∃ n1, n1 ≤ (encG e f i l).length ∧ LoopTo P c (S i l n0) x (X (encG e f i l) n1) := by
  intro f
  induction f with
  | zero =>
    intro i l n0 hf hl h0
    exact ⟨n0, h0, .done hx (done i l n0 (by omega))⟩
  | succ f ih =>
    intro i l n0 hf hl h0
    simp only [encG]
    by_cases c1 : ul e ≤ i
    · rw [if_pos c1]
      exact ⟨n0, h0, .done hx (done i l n0 c1)⟩
    · rw [if_neg c1]
      obtain ⟨n1, h1, hst⟩ := step i l n0 (by omega) hl h0
      have hs := encU_spec e i
      obtain ⟨n2, h2, hl2⟩ := ih (i + (encU e i).2) (l ++ (encU e i).1) n1 (by omega) (by rw [List.length_append]; omega) h1
      exact ⟨n2, h2, .step hst hl2⟩
end

theorem and15 {x : Int} (h : 0 ≤ x ∧ x < 65536) : bitsOf .and .u16 x 15 = x % 16 := and_low (k := .u16) rfl (s := 4) h.1 (by show x < 65536; omega) (by decide)
theorem and1023 {x : Int} (h : 0 ≤ x ∧ x < 65536) : bitsOf .and .u16 x 1023 = x % 1024 := and_low (k := .u16) rfl (s := 10) h.1 (by show x < 65536; omega) (by decide)

theorem renc_c {s : ByteArray} (hs : SM s) : PureTo Tryd.prog 18 [.v (.string s)] (.v (.string (strOfInts (encL s)))) := by
  have hz := hs.sz
  unfold SM at hs
  have hul : ul s ≤ s.size := by unfold ul; omega
  obtain ⟨n1, h1, hl⟩ := enc_loop (P := Tryd.prog) (c := loopAt Tryd.f18 0) (S := fun i l n0 => rencS0 s i l n0) (X := fun l n1 => rencX0 s l n1) (x := .exit 0) s (by simp)
    (fun i l n0 hi hl h0 => by
      have hu := un_lt s i
      have hv := un_lt s (i + 1)
      have e1 : ((i : Int) + 1).toNat = i + 1 := by omega
      have lt1 : decide ((i : Int) < (ul s : Int)) = true := by simpa using hi
      have b1 := and15 (x := un s i / 256) (by omega)
      have b2 := and15 (x := un s i / 16) (by omega)
      have b3 := and15 (x := un s i) (by omega)
      unfold encU
      cases H : high (un s i)
      · have hH : ¬ high (un s i) = true := by rw [H]; simp
        rw [if_neg (fun h => by simp at h)]
        cases L : low (un s i)
        · rw [if_neg (by simp)]
          refine ⟨_, Nat.le_refl _, ?_⟩
          have := rencL0_10 s i l n0
          simp only [Int.toNat_natCast] at this
          exact this ⟨hz, lt1, hz, by omega, H, H, L, by simp only [inR]; omega, rfl, by first | rfl | trivial, by first | rfl | trivial, by omega, by unfold lim; omega, by simp only [inR]; omega, trivial⟩
        · rw [if_pos (by simp)]
          refine ⟨n0, by simp only [List.length_append]; omega, ?_⟩
          have := rencL0_9 s i l n0
          simp only [Int.toNat_natCast, b1, b2, b3] at this
          exact this ⟨hz, lt1, hz, by omega, H, H, L, by omega, by omega, by omega, by omega, by omega, by omega, by omega, by first | rfl | trivial, by first | rfl | trivial, by simp; omega, by simp only [inR]; omega, trivial⟩
      · have hH := (high_iff _).1 H
        by_cases C : i + 1 < ul s
        · have lt2 : decide ((i : Int) + 1 < (ul s : Int)) = true := by simp; omega
          cases L : low (un s (i + 1))
          · rw [if_neg (fun h => by simp at h), if_pos (by simp)]
            refine ⟨n0, by simp only [List.length_append]; omega, ?_⟩
            have := rencL0_2 s i l n0
            simp only [Int.toNat_natCast, e1, b1, b2, b3] at this
            exact this ⟨hz, lt1, hz, by omega, H, by simp only [inR]; omega, hz, lt2, by simp only [inR]; omega, hz, by omega, L, H, by omega, by omega, by omega, by omega, by omega, by omega, by omega, by first | rfl | trivial, by first | rfl | trivial, by simp; omega, by simp only [inR]; omega, trivial⟩
          · have hL := (low_iff _).1 L
            rw [if_pos ⟨by simp, C, by simp⟩]
            refine ⟨_, Nat.le_refl _, ?_⟩
            have m1 : (un s i - 55296) % 65536 = un s i - 55296 := by omega
            have m2 : (un s (i + 1) - 56320) % 65536 = un s (i + 1) - 56320 := by omega
            have := rencL0_1 s i l n0
            simp only [Int.toNat_natCast, e1, m1, m2] at this
            exact this ⟨hz, lt1, hz, by omega, H, by simp only [inR]; omega, hz, lt2, by simp only [inR]; omega, hz, by omega, L, by simp only [inR]; omega, by simp only [inR]; omega, by omega, by simp only [inR]; omega, by simp only [inR]; omega, hz, by omega, by simp only [inR]; omega, by simp only [inR]; omega, rfl, by first | rfl | trivial, by first | rfl | trivial, by omega, by unfold lim; omega, by simp only [inR]; omega, trivial⟩
        · have lt2 : decide ((i : Int) + 1 < (ul s : Int)) = false := by simp; omega
          rw [if_neg (fun h => C h.2.1), if_pos (by simp)]
          refine ⟨n0, by simp only [List.length_append]; omega, ?_⟩
          have := rencL0_5 s i l n0
          simp only [Int.toNat_natCast, e1, b1, b2, b3] at this
          exact this ⟨hz, lt1, hz, by omega, H, by simp only [inR]; omega, hz, lt2, H, by omega, by omega, by omega, by omega, by omega, by omega, by omega, by first | rfl | trivial, by first | rfl | trivial, by simp; omega, by simp only [inR]; omega, trivial⟩)
    (fun i l n0 hi => rencL0_11 s i l n0 ⟨hz, by simpa using hi, trivial⟩) (ul s) 0 [] 0 (by omega) (by simp) (Nat.le_refl _)
  exact rencF1 s _ n1 ⟨hl, rfl, h1, trivial⟩


theorem evn_ul (s : ByteArray) : ul (evn s) = ul s := by
  unfold evn
  unfold ul
  rw [ByteArray.size_extract]
  omega

theorem evn_size (s : ByteArray) : (evn s).size = 2 * ul s := by
  unfold evn ul
  rw [ByteArray.size_extract]
  omega

theorem evn_byte (s : ByteArray) {i : Nat} (h : i < 2 * ul s) : byteAt (evn s) i = byteAt s i := by
  unfold evn byteAt
  rw [extract_list, List.drop_zero]
  simp only [List.getD_eq_getElem?_getD, List.getElem?_take, h, if_true]

theorem evn_un (s : ByteArray) {i : Nat} (h : i < ul s) : un (evn s) i = un s i := by
  unfold un
  rw [evn_byte s (by omega), evn_byte s (by omega)]

theorem encU_evn (s : ByteArray) {i : Nat} (h : i < ul s) : encU (evn s) i = encU s i := by
  unfold encU
  rw [evn_ul, evn_un s h]
  by_cases c : i + 1 < ul s
  · rw [evn_un s c]
  · have h1 : ¬ (high (un s i) = true ∧ i + 1 < ul s ∧ low (un (evn s) (i + 1)) = true) := fun x => c x.2.1
    have h2 : ¬ (high (un s i) = true ∧ i + 1 < ul s ∧ low (un s (i + 1)) = true) := fun x => c x.2.1
    rw [if_neg h1, if_neg h2]

theorem encG_evn (s : ByteArray) : ∀ (f i : Nat) (l : List Int), encG (evn s) f i l = encG s f i l
  | 0, _, _ => rfl
  | f + 1, i, l => by
    simp only [encG]
    rw [evn_ul]
    by_cases c : ul s ≤ i
    · rw [if_pos c, if_pos c]
    · rw [if_neg c, if_neg c, encU_evn s (by omega), encG_evn s f]

theorem encL_evn (s : ByteArray) : encL (evn s) = encL s := by
  unfold encL
  rw [evn_ul, encG_evn]

theorem hex_loop (s : ByteArray) (i : Int) (l : List Int) (n : Nat) (hl : l.length < lim) : LoopTo Tryd.prog (loopAt Tryd.f17 1) (encS1 s i 12 l n) (.exit 3) (encX1 s i (l ++ hex4 (un (evn s) i.toNat)) n) := by
  unfold lim at hl
  have hu := un_lt (evn s) i.toNat
  have p1 : (2 : Int) ^ min (12 : Int).toNat 16 = 4096 := rfl
  have p2 : (2 : Int) ^ min (8 : Int).toNat 16 = 256 := rfl
  have p3 : (2 : Int) ^ min (4 : Int).toNat 16 = 16 := rfl
  have p4 : (2 : Int) ^ min (0 : Int).toNat 16 = 1 := rfl
  have b0 : bitsOf .and .u16 (un (evn s) i.toNat / 4096) 15 = un (evn s) i.toNat / 4096 := by rw [and15 (by omega)]; omega
  have b1 := and15 (x := un (evn s) i.toNat / 256) (by omega)
  have b2 := and15 (x := un (evn s) i.toNat / 16) (by omega)
  have b3 := and15 (x := un (evn s) i.toNat / 1) (by omega)
  have b4 : un (evn s) i.toNat / 1 % 16 = un (evn s) i.toNat % 16 := by omega
  rw [b4] at b3
  have s1 := encL1_1 s i 12 l n
  have s2 := encL1_1 s i 8 (l ++ [hx (un (evn s) i.toNat / 4096)]) n
  have s3 := encL1_1 s i 4 (l ++ [hx (un (evn s) i.toNat / 4096)] ++ [hx (un (evn s) i.toNat / 256 % 16)]) n
  have s4 := encL1_1 s i 0 (l ++ [hx (un (evn s) i.toNat / 4096)] ++ [hx (un (evn s) i.toNat / 256 % 16)] ++ [hx (un (evn s) i.toNat / 16 % 16)]) n
  simp only [p1, b0] at s1
  simp only [p2, b1] at s2
  simp only [p3, b2] at s3
  simp only [p4, b3] at s4
  refine .step (s1 ⟨rfl, by omega, by omega, by first | rfl | trivial, by first | rfl | trivial, by simp; omega, by simp only [inR]; omega, trivial⟩) ?_
  refine .step (s2 ⟨rfl, by omega, by omega, by first | rfl | trivial, by first | rfl | trivial, by simp; omega, by simp only [inR]; omega, trivial⟩) ?_
  refine .step (s3 ⟨rfl, by omega, by omega, by first | rfl | trivial, by first | rfl | trivial, by simp; omega, by simp only [inR]; omega, trivial⟩) ?_
  refine .step (s4 ⟨rfl, by omega, by omega, by first | rfl | trivial, by first | rfl | trivial, by simp; omega, by simp only [inR]; omega, trivial⟩) ?_
  have e : l ++ hex4 (un (evn s) i.toNat) = l ++ [hx (un (evn s) i.toNat / 4096)] ++ [hx (un (evn s) i.toNat / 256 % 16)] ++ [hx (un (evn s) i.toNat / 16 % 16)] ++ [hx (un (evn s) i.toNat % 16)] := by simp [hex4]
  rw [e]
  exact .done (by simp) (encL1_2 s i (-4) _ n ⟨rfl, trivial⟩)

theorem enc_pair {s : ByteArray} (hzE : SZ (evn s)) (hul : ul (evn s) < 4294967296) {i : Nat} {l : List Int} {n0 : Nat} (hi : i < ul (evn s)) (hl : l.length ≤ 6 * i) (hH : 55296 ≤ un (evn s) i ∧ un (evn s) i < 56320) (hL : 56320 ≤ un (evn s) (i + 1) ∧ un (evn s) (i + 1) < 57344) (C : i + 1 < ul (evn s)) :
    To Tryd.prog (loopAt Tryd.f17 0) (encS0 s i l n0) .normal (encS0 s ((i + 2 : Nat) : Int) (l ++ enc8 (65536 + (un (evn s) i - 55296) * 1024 + (un (evn s) (i + 1) - 56320))) (l ++ enc8 (65536 + (un (evn s) i - 55296) * 1024 + (un (evn s) (i + 1) - 56320))).length) := by
  have H := (high_iff _).2 hH
  have L := (low_iff _).2 hL
  have e1 : ((i : Int) + 1).toNat = i + 1 := by omega
  have lt1 : decide ((i : Int) < (ul (evn s) : Int)) = true := by simpa using hi
  have lt2 : decide ((i : Int) + 1 < (ul (evn s) : Int)) = true := by simp; omega
  have m1 : bitsOf .and .u16 (un (evn s) i) 1023 = un (evn s) i - 55296 := by rw [and1023 (by omega)]; omega
  have m2 : bitsOf .and .u16 (un (evn s) (i + 1)) 1023 = un (evn s) (i + 1) - 56320 := by rw [and1023 (by omega)]; omega
  have this := encL0_1 s i l [] n0 0
  simp only [Int.toNat_natCast, e1, m1, m2] at this
  clear m1 m2
  exact this ⟨lt1, hzE, by omega, H, by simp only [inR]; omega, lt2, by simp only [inR]; omega, hzE, by omega, L, by simp only [inR]; omega, by simp only [inR]; omega, by omega, by simp only [inR]; omega, by simp only [inR]; omega, hzE, by omega, by simp only [inR]; omega, by simp only [inR]; omega, rfl, by first | rfl | trivial, by first | rfl | trivial, by omega, by omega, by unfold lim; omega, by simp only [inR]; omega, trivial⟩

section
variable {s : ByteArray} {i : Nat} {l : List Int} {n0 : Nat}

theorem enc_hex (hl : l.length ≤ 6 * i) (hul : i < 4294967296) : LoopTo Tryd.prog (loopAt Tryd.f17 1) (encS1 s i 12 (l ++ [92, 117]) n0) (.exit 3) (encX1 s i (l ++ esc (un (evn s) i)) n0) := by
  have hex := hex_loop s i (l ++ [92, 117]) n0 (by rw [List.length_append]; unfold lim; simp; omega)
  have ee : l ++ [92, 117] ++ hex4 (un (evn s) (i : Int).toNat) = l ++ esc (un (evn s) i) := by rw [Int.toNat_natCast]; simp [esc]
  rw [ee] at hex
  exact hex

theorem enc_one (hzE : SZ (evn s)) (hul : ul (evn s) < 4294967296) (hi : i < ul (evn s)) (hl : l.length ≤ 6 * i) (H : high (un (evn s) i) = false) (L : low (un (evn s) i) = false) :
    To Tryd.prog (loopAt Tryd.f17 0) (encS0 s i l n0) .normal (encS0 s ((i + 1 : Nat) : Int) (l ++ enc8 (un (evn s) i)) (l ++ enc8 (un (evn s) i)).length) := by
  have hu := un_lt (evn s) i
  have lt1 : decide ((i : Int) < (ul (evn s) : Int)) = true := by simpa using hi
  have nH : ¬ (55296 ≤ un (evn s) i ∧ un (evn s) i < 56320) := fun h => by rw [(high_iff _).2 h] at H; cases H
  have nL : ¬ (56320 ≤ un (evn s) i ∧ un (evn s) i < 57344) := fun h => by rw [(low_iff _).2 h] at L; cases L
  have := encL0_10 s i l [] n0 0
  simp only [Int.toNat_natCast] at this
  exact this ⟨lt1, hzE, by omega, H, H, L, by simp only [inR]; omega, rfl, by first | rfl | trivial, by first | rfl | trivial, by omega, by omega, by unfold lim; omega, by simp only [inR]; omega, trivial⟩

theorem enc_e9 (hzE : SZ (evn s)) (hul : ul (evn s) < 4294967296) (hi : i < ul (evn s)) (hl : l.length ≤ 6 * i) (H : high (un (evn s) i) = false) (L : low (un (evn s) i) = true) :
    To Tryd.prog (loopAt Tryd.f17 0) (encS0 s i l n0) .normal (encS0 s ((i + 1 : Nat) : Int) (l ++ esc (un (evn s) i)) n0) := by
  have lt1 : decide ((i : Int) < (ul (evn s) : Int)) = true := by simpa using hi
  have hex := enc_hex (s := s) (n0 := n0) hl (by omega)
  have := encL0_9 s i l (l ++ esc (un (evn s) i)) n0 n0
  simp only [Int.toNat_natCast] at this
  exact this ⟨lt1, hzE, by omega, H, H, L, by first | rfl | trivial, by first | rfl | trivial, by simp; omega, hex, by simp only [inR]; omega, trivial⟩

theorem enc_e2 (hzE : SZ (evn s)) (hul : ul (evn s) < 4294967296) (hi : i < ul (evn s)) (hl : l.length ≤ 6 * i) (H : high (un (evn s) i) = true) (C : i + 1 < ul (evn s)) (L : low (un (evn s) (i + 1)) = false) :
    To Tryd.prog (loopAt Tryd.f17 0) (encS0 s i l n0) .normal (encS0 s ((i + 1 : Nat) : Int) (l ++ esc (un (evn s) i)) n0) := by
  have lt1 : decide ((i : Int) < (ul (evn s) : Int)) = true := by simpa using hi
  have lt2 : decide ((i : Int) + 1 < (ul (evn s) : Int)) = true := by simp; omega
  have e1 : ((i : Int) + 1).toNat = i + 1 := by omega
  have hex := enc_hex (s := s) (n0 := n0) hl (by omega)
  have := encL0_2 s i l (l ++ esc (un (evn s) i)) n0 n0
  simp only [Int.toNat_natCast, e1] at this
  exact this ⟨lt1, hzE, by omega, H, by simp only [inR]; omega, lt2, by simp only [inR]; omega, hzE, by omega, L, H, by first | rfl | trivial, by first | rfl | trivial, by simp; omega, hex, by simp only [inR]; omega, trivial⟩

theorem enc_e5 (hzE : SZ (evn s)) (hul : ul (evn s) < 4294967296) (hi : i < ul (evn s)) (hl : l.length ≤ 6 * i) (H : high (un (evn s) i) = true) (C : ¬ i + 1 < ul (evn s)) :
    To Tryd.prog (loopAt Tryd.f17 0) (encS0 s i l n0) .normal (encS0 s ((i + 1 : Nat) : Int) (l ++ esc (un (evn s) i)) n0) := by
  have lt1 : decide ((i : Int) < (ul (evn s) : Int)) = true := by simpa using hi
  have lt2 : decide ((i : Int) + 1 < (ul (evn s) : Int)) = false := by simp; omega
  have e1 : ((i : Int) + 1).toNat = i + 1 := by omega
  have hex := enc_hex (s := s) (n0 := n0) hl (by omega)
  have := encL0_5 s i l (l ++ esc (un (evn s) i)) n0 n0
  simp only [Int.toNat_natCast, e1] at this
  exact this ⟨lt1, hzE, by omega, H, by simp only [inR]; omega, lt2, H, by first | rfl | trivial, by first | rfl | trivial, by simp; omega, hex, by simp only [inR]; omega, trivial⟩
end

theorem enc_c {s : ByteArray} (hs : SM s) : PureTo Tryd.prog 17 [.v (.string s)] (.v (.string (strOfInts (encL s)))) := by
  have hz := hs.sz
  unfold SM at hs
  have hul : ul s ≤ s.size := by unfold ul; omega
  have hE : ul (evn s) = ul s := evn_ul s
  have hzE : SZ (evn s) := by unfold SZ; rw [evn_size]; omega
  have hul4 : ul (evn s) < 4294967296 := by rw [hE]; omega
  obtain ⟨n1, h1, hl⟩ := enc_loop (P := Tryd.prog) (c := loopAt Tryd.f17 0) (S := fun i l n0 => encS0 s i l n0) (X := fun l n1 => encX0 s l n1) (x := .exit 0) (evn s) (by simp)
    (fun i l n0 hi hl h0 => by
      have hfl : n0 ≤ (l ++ esc (un (evn s) i)).length := by rw [List.length_append]; omega
      unfold encU
      cases H : high (un (evn s) i)
      · rw [if_neg (fun h => by simp at h)]
        cases L : low (un (evn s) i)
        · rw [if_neg (by simp)]
          exact ⟨_, Nat.le_refl _, enc_one hzE hul4 hi hl H L⟩
        · rw [if_pos (by simp)]
          exact ⟨n0, hfl, enc_e9 hzE hul4 hi hl H L⟩
      · by_cases C : i + 1 < ul (evn s)
        · cases L : low (un (evn s) (i + 1))
          · rw [if_neg (fun h => by simp at h), if_pos (by simp)]
            exact ⟨n0, hfl, enc_e2 hzE hul4 hi hl H C L⟩
          · rw [if_pos ⟨by simp, C, by simp⟩]
            exact ⟨_, Nat.le_refl _, enc_pair hzE hul4 hi hl ((high_iff _).1 H) ((low_iff _).1 L) C⟩
        · rw [if_neg (fun h => C h.2.1), if_pos (by simp)]
          exact ⟨n0, hfl, enc_e5 hzE hul4 hi hl H C⟩)
    (fun i l n0 hi => encL0_11 s i l [] n0 0 ⟨by simpa using hi, trivial⟩) (ul (evn s)) 0 [] 0 (by omega) (by simp) (Nat.le_refl _)
  have h : PureTo Tryd.prog 17 [.v (.string s)] (.v (.string (strOfInts (encL (evn s))))) := encF1 s _ n1 ⟨hz, hzE, hl, rfl, h1, trivial⟩
  rwa [encL_evn] at h

end Go.Proofs.Us

/- Texts: Encode in the table. -/
set_option maxRecDepth 100000
namespace Go.Proofs.Us
open Go Go.Ev

def SG7 : SGT := (17, .p (sigS fun s => (.v (.string (strOfInts (encL s))), [SM s]))) :: (18, .p (sigS fun s => (.v (.string (strOfInts (encL s))), [SM s]))) :: SG6

theorem sok7 : SigsOK Tryd.prog SG7 := by
  refine sigs_cons (sigs_cons sok6 ?_) ?_
  · exact sigS_ok fun s h => renc_c h.1
  · exact sigS_ok fun s h => enc_c h.1

end Go.Proofs.Us

/- Texts: walks, written by the tool. -/
set_option maxRecDepth 100000
namespace Go.Proofs.Us
open Go Go.Ev

theorem awk_ev  (h : AllP [SM (ByteArray.mk #[(104 : UInt8), (195 : UInt8), (169 : UInt8)]), SM (decR (ByteArray.mk #[(104 : UInt8), (195 : UInt8), (169 : UInt8)])).fst]) : PureTo Tryd.prog 16 [] (AV.v (.bool true)) :=
  evFnM_pure hm sok7 (fn := Tryd.f16) rfl rfl (ti := false) (m := Mode.same) (hs := []) (c := _) (by kernel_rfl) (by kernel_rfl) h
def awk  : Bool := true
theorem awk_pure  (h : AllP [SM (ByteArray.mk #[(104 : UInt8), (195 : UInt8), (169 : UInt8)]), SM (decR (ByteArray.mk #[(104 : UInt8), (195 : UInt8), (169 : UInt8)])).fst]) : PureTo Tryd.prog 16 [] (AV.v (.bool (awk))) := awk_ev  h
end Go.Proofs.Us

/- Texts: more contracts in the table: awake, units, parts. -/
set_option maxRecDepth 100000
namespace Go.Proofs.Us
open Go Go.Ev

theorem awk_c : PureTo Tryd.prog 16 [] (.v (.bool true)) := awk_ev ⟨by unfold SM; decide, by unfold SM; decide +kernel, trivial⟩

theorem rslice_eq (s : ByteArray) (i j : Int) : rslice s i j = slice s i j := by
  unfold rslice slice
  have e1 : (bif decide (j > (ul s : Int)) then (ul s : Int) else j) = if (ul s : Int) < j then (ul s : Int) else j := by rw [bif_dec]
  have e2 : (bif decide (i < 0) then (0 : Int) else i) = if (0 : Int) > i then 0 else i := by rw [bif_dec]
  rw [e1, e2]

theorem slice_c {s : ByteArray} {i j : Int} (hs : SZ s) : PureTo Tryd.prog 21 [.v (.string s), .v (.int .i64 i), .v (.int .i64 j)] (.v (.string (slice s i j))) := by
  have hul : 2 * ul s ≤ s.size := by unfold ul; omega
  have hs' := hs
  unfold SZ at hs'
  refine slice_pure s i j ⟨hs, fun h => ?_, trivial⟩
  simp only [not_t, decide_eq_true_eq] at h
  have h0 : (0 : Int) ≤ if (0 : Int) > i then 0 else i := by split <;> omega
  have h1 : (if (ul s : Int) < j then (ul s : Int) else j) ≤ (ul s : Int) := by split <;> omega
  generalize (if (0 : Int) > i then (0 : Int) else i) = a at *
  generalize (if (ul s : Int) < j then (ul s : Int) else j) = b at *
  exact ⟨by simp only [inR]; omega, by simp only [inR]; omega, by omega, by omega, trivial⟩

theorem rslice_c {s : ByteArray} {i j : Int} (hs : SZ s) : PureTo Tryd.prog 22 [.v (.string s), .v (.int .i64 i), .v (.int .i64 j)] (.v (.string (slice s i j))) := by
  have hul : 2 * ul s ≤ s.size := by unfold ul; omega
  have hs' := hs
  unfold SZ at hs'
  rw [← rslice_eq]
  have e1 : (bif decide (j > (ul s : Int)) then (ul s : Int) else j) = if (ul s : Int) < j then (ul s : Int) else j := by rw [bif_dec]
  have e2 : (bif decide (i < 0) then (0 : Int) else i) = if (0 : Int) > i then 0 else i := by rw [bif_dec]
  refine rslice_pure s i j ⟨hs, fun _ => ⟨hs, trivial⟩, fun h => ?_, trivial⟩
  rw [e1, e2] at h ⊢
  simp only [not_t, decide_eq_true_eq] at h
  have h0 : (0 : Int) ≤ if (0 : Int) > i then 0 else i := by split <;> omega
  have h1 : (if (ul s : Int) < j then (ul s : Int) else j) ≤ (ul s : Int) := by split <;> omega
  generalize (if (0 : Int) > i then (0 : Int) else i) = a at *
  generalize (if (ul s : Int) < j then (ul s : Int) else j) = b at *
  exact ⟨by simp only [inR]; omega, by simp only [inR]; omega, by omega, by omega, trivial⟩

theorem unitOk_conds {s : ByteArray} {i : Int} (hs : SZ s) : AllP [(!decide (i < (0 : Int))) = true → AllP [SZ s], (!bif decide (i < (0 : Int)) then true else decide (i ≥ (↑(ul s) : Int))) = true → AllP [SZ s, (0 : Int) ≤ i ∧ i < (↑(ul s) : Int)]] := by
  refine ⟨fun _ => ⟨hs, trivial⟩, fun h => ⟨hs, ?_, trivial⟩, trivial⟩
  rw [bif_or, not_t, Bool.or_eq_true, decide_eq_true_eq, decide_eq_true_eq] at h
  omega

theorem unitOk_c {s : ByteArray} {i : Int} (hs : SZ s) : PureTo Tryd.prog 31 [.v (.string s), .v (.int .i64 i)] (.tup [.v (.int .u16 (unitOk_1 s i)), .v (.bool (unitOk_2 s i))]) := unitOk_pure s i (unitOk_conds hs)
theorem runitOk_c {s : ByteArray} {i : Int} (hs : SZ s) : PureTo Tryd.prog 20 [.v (.string s), .v (.int .i64 i)] (.tup [.v (.int .u16 (unitOk_1 s i)), .v (.bool (unitOk_2 s i))]) := runitOk_pure s i (unitOk_conds hs)

def SG8 : SGT := (16, .p (sigNo (.v (.bool true)))) :: (21, .p (sigSII fun s i j => (.v (.string (slice s i j)), [SZ s]))) :: (22, .p (sigSII fun s i j => (.v (.string (slice s i j)), [SZ s]))) ::
  (31, .p (sigSI fun s i => (.tup [.v (.int .u16 (unitOk_1 s i)), .v (.bool (unitOk_2 s i))], [SZ s]))) :: (20, .p (sigSI fun s i => (.tup [.v (.int .u16 (unitOk_1 s i)), .v (.bool (unitOk_2 s i))], [SZ s]))) :: SG7

theorem sok8 : SigsOK Tryd.prog SG8 := by
  refine sigs_cons (sigs_cons (sigs_cons (sigs_cons (sigs_cons sok7 ?_) ?_) ?_) ?_) (sigNo_ok awk_c)
  · exact sigSI_ok fun s i h => runitOk_c h.1
  · exact sigSI_ok fun s i h => unitOk_c h.1
  · exact sigSII_ok fun s i j h => rslice_c h.1
  · exact sigSII_ok fun s i j h => slice_c h.1

end Go.Proofs.Us

/- Texts: walks, written by the tool. -/
set_option maxRecDepth 100000
namespace Go.Proofs.Us
open Go Go.Ev
def equS0 (a b : List Int) (ta tb : Bool) (x0 : Int) : AS := { n := 26, fr := [(0, AV.sl 1 (.ints .u16 a) ta), (1, AV.sl 1 (.ints .u16 b) tb), (5, AV.v (.int .i64 x0))], hp := [], nx := 0 }
def equX0 (a b : List Int) (ta tb : Bool)  : AS := { n := 26, fr := [], hp := [], nx := 0 }
def equX0_1 (a b : List Int) (ta tb : Bool) (b0 : Bool) : AS := { n := 26, fr := [(4, AV.v (.bool b0))], hp := [], nx := 0 }
theorem lawDec_ev (s : ByteArray) (h : AllP [SM s, SM s]) : PureTo Tryd.prog 3 [.v (.string s)] (AV.v (.bool (bif bif bif (decR s).fst.toList == (decR s).fst.toList then (decR s).snd.fst == (decR s).snd.fst else false then (decR s).snd.snd == (decR s).snd.snd else false then true else false))) :=
  evFnM_pure hm sok8 (fn := Tryd.f3) rfl rfl (ti := false) (m := Mode.same) (hs := [MHint.ops 3 [] [(3, 4), (8, 4), (13, 2)]]) (c := _) (by kernel_rfl) (by kernel_rfl) h
def lawDec (s : ByteArray) : Bool := bif bif bif (decR s).fst.toList == (decR s).fst.toList then (decR s).snd.fst == (decR s).snd.fst else false then (decR s).snd.snd == (decR s).snd.snd else false then true else false
theorem lawDec_pure (s : ByteArray) (h : AllP [SM s, SM s]) : PureTo Tryd.prog 3 [.v (.string s)] (AV.v (.bool (lawDec s))) := lawDec_ev s h
theorem lawEnc_ev (s : ByteArray) (h : AllP [SM s, SM s]) : PureTo Tryd.prog 4 [.v (.string s)] (AV.v (.bool (bif (strOfInts (encL s)).toList == (strOfInts (encL s)).toList then true else false))) :=
  evFnM_pure hm sok8 (fn := Tryd.f4) rfl rfl (ti := false) (m := Mode.same) (hs := [MHint.ops 1 [] [(5, 2)]]) (c := _) (by kernel_rfl) (by kernel_rfl) h
def lawEnc (s : ByteArray) : Bool := bif (strOfInts (encL s)).toList == (strOfInts (encL s)).toList then true else false
theorem lawEnc_pure (s : ByteArray) (h : AllP [SM s, SM s]) : PureTo Tryd.prog 4 [.v (.string s)] (AV.v (.bool (lawEnc s))) := lawEnc_ev s h
theorem lawParts_ev (s : ByteArray) (i j : Int) (h : AllP [SZ s, SZ s]) : PureTo Tryd.prog 6 [.v (.string s), .v (.int .i64 i), .v (.int .i64 j)] (AV.v (.bool (bif (slice s i j).toList == (slice s i j).toList then true else false))) :=
  evFnM_pure hm sok8 (fn := Tryd.f6) rfl rfl (ti := false) (m := Mode.same) (hs := [MHint.ops 1 [] [(9, 2)]]) (c := _) (by kernel_rfl) (by kernel_rfl) h
def lawParts (s : ByteArray) (i j : Int) : Bool := bif (slice s i j).toList == (slice s i j).toList then true else false
theorem lawParts_pure (s : ByteArray) (i j : Int) (h : AllP [SZ s, SZ s]) : PureTo Tryd.prog 6 [.v (.string s), .v (.int .i64 i), .v (.int .i64 j)] (AV.v (.bool (lawParts s i j))) := lawParts_ev s i j h
theorem lawCls_ev (u : Int) (h : AllP []) : PureTo Tryd.prog 7 [.v (.int .u16 u)] (AV.v (.bool (bif bif bif bif space u == space u then ends u == ends u else false then Us.start u == Us.start u else false then Us.part u == Us.part u else false then true else false))) :=
  evFnM_pure hm sok8 (fn := Tryd.f7) rfl rfl (ti := false) (m := Mode.same) (hs := [MHint.ops 1 [] [(5, 6), (12, 6), (19, 6), (26, 2)]]) (c := _) (by kernel_rfl) (by kernel_rfl) h
def lawCls (u : Int) : Bool := bif bif bif bif space u == space u then ends u == ends u else false then Us.start u == Us.start u else false then Us.part u == Us.part u else false then true else false
theorem lawCls_pure (u : Int) : PureTo Tryd.prog 7 [.v (.int .u16 u)] (AV.v (.bool (lawCls u))) := lawCls_ev u trivial
-- 3 paths
theorem equL0_1 (a b : List Int) (ta tb : Bool) (x0 : Int) (h : AllP [decide (x0 < (↑a.length : Int)) = true, (0 : Int) ≤ x0 ∧ x0 < (↑a.length : Int), (0 : Int) ≤ x0 ∧ x0 < (↑b.length : Int), (a.getD x0.toNat (0 : Int) != b.getD x0.toNat (0 : Int)) = true]) : To Tryd.prog (loopAt Tryd.f36 0) ({ n := 26, fr := [(0, AV.sl 1 (.ints .u16 a) ta), (1, AV.sl 1 (.ints .u16 b) tb), (5, AV.v (.int .i64 x0))], hp := [], nx := 0 }) (Exit.ret) { n := 26, fr := [(4, AV.v (.bool false))], hp := [], nx := 0 } :=
  evW_to hm sok8 (hs := [CHint.ops 4 [(3, Hint.b true)], CHint.ops 6 [(8, Hint.b true)]]) (slots := [4]) (keys := []) (nx := 0) (c := _) (by kernel_rfl) h
theorem equL0_2 (a b : List Int) (ta tb : Bool) (x0 : Int) (h : AllP [decide (x0 < (↑a.length : Int)) = true, (0 : Int) ≤ x0 ∧ x0 < (↑a.length : Int), (0 : Int) ≤ x0 ∧ x0 < (↑b.length : Int), (a.getD x0.toNat (0 : Int) != b.getD x0.toNat (0 : Int)) = false, inR IntKind.i64 (x0 + (1 : Int))]) : To Tryd.prog (loopAt Tryd.f36 0) ({ n := 26, fr := [(0, AV.sl 1 (.ints .u16 a) ta), (1, AV.sl 1 (.ints .u16 b) tb), (5, AV.v (.int .i64 x0))], hp := [], nx := 0 }) (.normal) { n := 26, fr := [(0, AV.sl 1 (.ints .u16 a) ta), (1, AV.sl 1 (.ints .u16 b) tb), (5, AV.v (.int .i64 (x0 + (1 : Int))))], hp := [], nx := 0 } :=
  evW_to hm sok8 (hs := [CHint.ops 4 [(3, Hint.b true)], CHint.ops 6 [(8, Hint.b false)]]) (slots := [0, 1, 5]) (keys := []) (nx := 0) (c := _) (by kernel_rfl) h
theorem equL0_3 (a b : List Int) (ta tb : Bool) (x0 : Int) (h : AllP [decide (x0 < (↑a.length : Int)) = false]) : To Tryd.prog (loopAt Tryd.f36 0) ({ n := 26, fr := [(0, AV.sl 1 (.ints .u16 a) ta), (1, AV.sl 1 (.ints .u16 b) tb), (5, AV.v (.int .i64 x0))], hp := [], nx := 0 }) (Exit.exit 0) { n := 26, fr := [], hp := [], nx := 0 } :=
  evW_to hm sok8 (hs := [CHint.ops 4 [(3, Hint.b false)]]) (slots := []) (keys := []) (nx := 0) (c := _) (by kernel_rfl) h
-- 3 paths
theorem equF1 (a b : List Int) (ta tb : Bool) (b0 : Bool) (h : AllP [((↑a.length : Int) != (↑b.length : Int)) = true]) : PureTo Tryd.prog 36 [.sl 1 (.ints .u16 a) ta, .sl 1 (.ints .u16 b) tb] (AV.v (.bool false)) :=
  evFn_pure hm sok8 (fn := Tryd.f36) rfl rfl (ti := false) (hs := [CHint.ops 1 [(4, Hint.b true)]]) (c := _) (by kernel_rfl) h
theorem equF2 (a b : List Int) (ta tb : Bool) (b0 : Bool) (h : AllP [((↑a.length : Int) != (↑b.length : Int)) = false, LoopTo Tryd.prog (loopAt Tryd.f36 0) { n := 26, fr := [(0, AV.sl 1 (.ints .u16 a) ta), (1, AV.sl 1 (.ints .u16 b) tb), (5, AV.v (.int .i64 (0 : Int)))], hp := [], nx := 0 } (Exit.exit 0) { n := 26, fr := [], hp := [], nx := 0 }]) : PureTo Tryd.prog 36 [.sl 1 (.ints .u16 a) ta, .sl 1 (.ints .u16 b) tb] (AV.v (.bool true)) :=
  evFn_pure hm sok8 (fn := Tryd.f36) rfl rfl (ti := false) (hs := [CHint.ops 1 [(4, Hint.b false)], CHint.loop [0, 1, 5] [] 0 (Exit.exit 0) { n := 26, fr := [], hp := [], nx := 0 }]) (c := _) (by kernel_rfl) h
theorem equF3 (a b : List Int) (ta tb : Bool) (b0 : Bool) (h : AllP [((↑a.length : Int) != (↑b.length : Int)) = false, LoopTo Tryd.prog (loopAt Tryd.f36 0) { n := 26, fr := [(0, AV.sl 1 (.ints .u16 a) ta), (1, AV.sl 1 (.ints .u16 b) tb), (5, AV.v (.int .i64 (0 : Int)))], hp := [], nx := 0 } Exit.ret { n := 26, fr := [(4, AV.v (.bool b0))], hp := [], nx := 0 }]) : PureTo Tryd.prog 36 [.sl 1 (.ints .u16 a) ta, .sl 1 (.ints .u16 b) tb] (AV.v (.bool b0)) :=
  evFn_pure hm sok8 (fn := Tryd.f36) rfl rfl (ti := false) (hs := [CHint.ops 1 [(4, Hint.b false)], CHint.loop [0, 1, 5] [] 0 Exit.ret { n := 26, fr := [(4, AV.v (.bool b0))], hp := [], nx := 0 }]) (c := _) (by kernel_rfl) h
end Go.Proofs.Us

/- Texts: two lists of units alike. -/
set_option maxRecDepth 100000
namespace Go.Proofs.Us
open Go Go.Ev

theorem equ_loop (a : List Int) (ta tb : Bool) : ∀ k i : Nat, i + k = a.length → a.length < 4294967296 →
    LoopTo Tryd.prog (loopAt Tryd.f36 0) { n := 26, fr := [(0, AV.sl 1 (.ints .u16 a) ta), (1, AV.sl 1 (.ints .u16 a) tb), (5, AV.v (.int .i64 (i : Int)))], hp := [], nx := 0 } (Exit.exit 0) { n := 26, fr := [], hp := [], nx := 0 } := by
  intro k
  induction k with
  | zero =>
    intro i h _
    exact .done (by simp) (equL0_3 a a ta tb i ⟨by simp; omega, trivial⟩)
  | succ k ih =>
    intro i h hl
    refine .step (equL0_2 a a ta tb i ⟨by simp; omega, ⟨by omega, by omega⟩, ⟨by omega, by omega⟩, by simp, ⟨by omega, by omega⟩, trivial⟩) ?_
    have := ih (i + 1) (by omega) hl
    simpa using this

theorem equ_pure (a : List Int) (ta tb : Bool) (h : a.length < 4294967296) : PureTo Tryd.prog 36 [.sl 1 (.ints .u16 a) ta, .sl 1 (.ints .u16 a) tb] (.v (.bool true)) :=
  equF2 a a ta tb true ⟨by simp, equ_loop a ta tb a.length 0 (by omega) h, trivial⟩

def sigEqu : List AV → Option (AV × List Prop)
  | [.sl 1 (.ints .u16 a) _, .sl 1 (.ints .u16 b) _] => some (.v (.bool true), [a = b, a.length < 4294967296])
  | _ => none
theorem sigEqu_ok : ∀ ys r c, sigEqu ys = some (r, c) → AllP c → PureTo Tryd.prog 36 ys r := by
  intro ys r c hs hc
  unfold sigEqu at hs
  split at hs
  · next a ta b tb => cases Option.some.inj hs; obtain ⟨rfl, h, _⟩ := hc; exact equ_pure a ta tb h
  · cases hs

def SG9 : SGT := (36, .p sigEqu) :: SG8
theorem sok9 : SigsOK Tryd.prog SG9 := sigs_cons sok8 sigEqu_ok
end Go.Proofs.Us

/- Texts: walks, written by the tool. -/
set_option maxRecDepth 100000
namespace Go.Proofs.Us
open Go Go.Ev

theorem lawUnits_ev (l : List Int) (t : Bool) (s : ByteArray) (i : Int) (h : AllP [SZ s, SZ s, SM s, SM s, ((strOfInts (wideL s)).toList == (strOfInts (wideL s)).toList) = true → AllP [U16 l, l.length < 4294967296, U16 l, l.length < 4294967296], (bif (strOfInts (wideL s)).toList == (strOfInts (wideL s)).toList then (strOfInts (makeL l)).toList == (strOfInts (makeL l)).toList else false) = true → AllP [SM s, SM s, unitsL s = unitsL s, (unitsL s).length < 4294967296], (bif bif (strOfInts (wideL s)).toList == (strOfInts (wideL s)).toList then (strOfInts (makeL l)).toList == (strOfInts (makeL l)).toList else false then true else false) = true → AllP [SZ s, SZ s]]) : PureTo Tryd.prog 8 [.sl 1 (.ints .u16 l) t, .v (.string s), .v (.int .i64 i)] (AV.v (.bool (bif bif bif bif bif bif (strOfInts (wideL s)).toList == (strOfInts (wideL s)).toList then (strOfInts (makeL l)).toList == (strOfInts (makeL l)).toList else false then true else false then (↑(ul s) : Int) == (↑(ul s) : Int) else false then unitOk_1 s i == unitOk_1 s i else false then unitOk_2 s i == unitOk_2 s i else false then true else false))) :=
  evFnM_pure hm sok9 (fn := Tryd.f8) rfl rfl (ti := false) (m := Mode.same) (hs := [MHint.ops 3 [] [(5, 6), (12, 6), (19, 6), (26, 4), (31, 4), (36, 2)]]) (c := _) (by kernel_rfl) (by kernel_rfl) h
def lawUnits (l : List Int) (t : Bool) (s : ByteArray) (i : Int) : Bool := bif bif bif bif bif bif (strOfInts (wideL s)).toList == (strOfInts (wideL s)).toList then (strOfInts (makeL l)).toList == (strOfInts (makeL l)).toList else false then true else false then (↑(ul s) : Int) == (↑(ul s) : Int) else false then unitOk_1 s i == unitOk_1 s i else false then unitOk_2 s i == unitOk_2 s i else false then true else false
theorem lawUnits_pure (l : List Int) (t : Bool) (s : ByteArray) (i : Int) (h : AllP [SZ s, SZ s, SM s, SM s, ((strOfInts (wideL s)).toList == (strOfInts (wideL s)).toList) = true → AllP [U16 l, l.length < 4294967296, U16 l, l.length < 4294967296], (bif (strOfInts (wideL s)).toList == (strOfInts (wideL s)).toList then (strOfInts (makeL l)).toList == (strOfInts (makeL l)).toList else false) = true → AllP [SM s, SM s, unitsL s = unitsL s, (unitsL s).length < 4294967296], (bif bif (strOfInts (wideL s)).toList == (strOfInts (wideL s)).toList then (strOfInts (makeL l)).toList == (strOfInts (makeL l)).toList else false then true else false) = true → AllP [SZ s, SZ s]]) : PureTo Tryd.prog 8 [.sl 1 (.ints .u16 l) t, .v (.string s), .v (.int .i64 i)] (AV.v (.bool (lawUnits l t s i))) := lawUnits_ev l t s i h
end Go.Proofs.Us

/- Texts: the bound of the second form for a list. -/
set_option maxRecDepth 100000
namespace Go.Proofs.Us
open Go Go.Ev Go.Proofs.YtnmhaemjffcjaaaDoor Go.ChangeShapes Go.WideShapes Go.ChangeAt Go.RowKit

theorem bulk_one {H : Type} (d : DataW H) : 1 ≤ Rows.uptoBulk d := by
  cases d with
  | lit l => cases l <;> simp only [Rows.uptoBulk] <;> omega
  | nil => simp only [Rows.uptoBulk]; omega
  | ptr _ => simp only [Rows.uptoBulk]; omega
  | slice _ _ => simp only [Rows.uptoBulk]; omega
  | agg _ => simp only [Rows.uptoBulk]; omega
  | iface _ _ => simp only [Rows.uptoBulk]; omega
  | map _ => simp only [Rows.uptoBulk]; omega
  | held _ => simp only [Rows.uptoBulk]; omega
theorem bulk_len {H : Type} : ∀ l : List (DataW H), l.length ≤ Rows.uptoBulkAll l
  | [] => Nat.zero_le _
  | d :: r => by
    simp only [Rows.uptoBulkAll, List.length_cons]
    have := bulk_len r
    have := bulk_one d
    omega
theorem small_ints {H : Type} {l : List (DataW H)} (hk : Rows.uptoSmall H l = true) (j : Nat) {d : DataW H} {k : IntKind} {s : List Int} (hd : l[j]? = some d) (h : s = [] ∨ ∃ spare, d = .slice (lits k s) spare) : s.length + 1 ≤ 1048576 := by
  rcases h with rfl | ⟨spare, rfl⟩
  · simp
  have h1 : Rows.uptoBulkAll l ≤ 1048576 := of_decide_eq_true hk
  have h2 := bulk_part (List.mem_of_getElem? hd)
  have h3 := bulk_len (lits (H := H) k s)
  simp only [Rows.uptoBulk] at h2
  have h4 : (lits (H := H) k s).length = s.length := by simp [lits]
  omega
end Go.Proofs.Us
