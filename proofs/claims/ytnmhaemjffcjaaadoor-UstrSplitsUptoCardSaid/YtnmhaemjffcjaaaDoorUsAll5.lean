/- Contracts of the program's functions, and the plain law behind them. No condition beyond those in each statement. -/
import Derived.Test.YtnmhaemjffcjaaaDoorUsAll4
import Derived.Test.YtnmhaemjffcjaaaDoorEvAll4
import Derived.Lib.Strings
import Derived.Lib.IndexEntry
import Derived.Lib.IndexMore
import Derived.Lib.Bytealg
import Derived.Test.YtnmhaemjffcjaaaDoorEvAll5
import Derived.Lib.RabinKarpLaws
set_option linter.unusedSimpArgs false
set_option linter.unusedVariables false
set_option linter.unusedSectionVars false
/- Texts: walks, written by the tool. -/
set_option maxRecDepth 100000
namespace Go.Proofs.Us
open Go Go.Ev
def encS0 (s : ByteArray) (x0 : Int) (l0 : List Int) (n0 : Nat) : AS := { n := 79, fr := [(0, AV.v (.string (evn s))), (3, AV.row 4 0 l0.length l0.length false), (4, AV.v (.int .i64 x0)), (5, AV.v (.int .i64 (↑(ul (evn s)) : Int)))], hp := [(4, AObj.row 5 1 (.ints .u8 l0) n0)], nx := 5 }
def encX0 (s : ByteArray) (l1 : List Int) (n1 : Nat) : AS := { n := 79, fr := [(3, AV.row 4 0 l1.length l1.length false)], hp := [(4, AObj.row 5 1 (.ints .u8 l1) n1)], nx := 5 }
def encS1 (s : ByteArray) (x0 : Int) (x1 : Int) (l2 : List Int) (n2 : Nat) : AS := { n := 79, fr := [(0, AV.v (.string (evn s))), (3, AV.row 4 0 l2.length l2.length false), (4, AV.v (.int .i64 x0)), (5, AV.v (.int .i64 (↑(ul (evn s)) : Int))), (6, AV.v (.int .u16 (un (evn s) x0.toNat))), (7, AV.v (.int .i64 x1))], hp := [(4, AObj.row 5 1 (.ints .u8 l2) n2)], nx := 5 }
def encX1 (s : ByteArray) (x0 : Int) (l3 : List Int) (n3 : Nat) : AS := { n := 79, fr := [(0, AV.v (.string (evn s))), (3, AV.row 4 0 l3.length l3.length false), (4, AV.v (.int .i64 x0)), (5, AV.v (.int .i64 (↑(ul (evn s)) : Int)))], hp := [(4, AObj.row 5 1 (.ints .u8 l3) n3)], nx := 5 }
-- 11 paths
theorem encL0_1 (s : ByteArray) (x0 : Int) (l0 : List Int) (l3 : List Int) (n0 : Nat) (n3 : Nat) (h : AllP [decide (x0 < (↑(ul (evn s)) : Int)) = true, SZ (evn s), (0 : Int) ≤ x0 ∧ x0 < (↑(ul (evn s)) : Int), high (un (evn s) x0.toNat) = true, inR IntKind.i64 (x0 + (1 : Int)), decide (x0 + (1 : Int) < (↑(ul (evn s)) : Int)) = true, inR IntKind.i64 (x0 + (1 : Int)), SZ (evn s), (0 : Int) ≤ x0 + (1 : Int) ∧ x0 + (1 : Int) < (↑(ul (evn s)) : Int), low (un (evn s) (x0 + (1 : Int)).toNat) = true, inR IntKind.i64 (x0 + (1 : Int)), inR IntKind.i32 (bitsOf BinOp.and IntKind.u16 (un (evn s) x0.toNat) (1023 : Int)), (0 : Int) ≤ (10 : Int), inR IntKind.i32 (bitsOf BinOp.and IntKind.u16 (un (evn s) x0.toNat) (1023 : Int) * (1024 : Int)), inR IntKind.i32 ((65536 : Int) + bitsOf BinOp.and IntKind.u16 (un (evn s) x0.toNat) (1023 : Int) * (1024 : Int)), SZ (evn s), (0 : Int) ≤ x0 + (1 : Int) ∧ x0 + (1 : Int) < (↑(ul (evn s)) : Int), inR IntKind.i32 (bitsOf BinOp.and IntKind.u16 (un (evn s) (x0 + (1 : Int)).toNat) (1023 : Int)), inR IntKind.i32 ((65536 : Int) + bitsOf BinOp.and IntKind.u16 (un (evn s) x0.toNat) (1023 : Int) * (1024 : Int) + bitsOf BinOp.and IntKind.u16 (un (evn s) (x0 + (1 : Int)).toNat) (1023 : Int)), 4294967296 = rsv, l0.length = l0.length, l0.length = l0.length, (0 : Int) ≤ (65536 : Int) + bitsOf BinOp.and IntKind.u16 (un (evn s) x0.toNat) (1023 : Int) * (1024 : Int) + bitsOf BinOp.and IntKind.u16 (un (evn s) (x0 + (1 : Int)).toNat) (1023 : Int) ∧ (65536 : Int) + bitsOf BinOp.and IntKind.u16 (un (evn s) x0.toNat) (1023 : Int) * (1024 : Int) + bitsOf BinOp.and IntKind.u16 (un (evn s) (x0 + (1 : Int)).toNat) (1023 : Int) ≤ (1114111 : Int), ¬((55296 : Int) ≤ (65536 : Int) + bitsOf BinOp.and IntKind.u16 (un (evn s) x0.toNat) (1023 : Int) * (1024 : Int) + bitsOf BinOp.and IntKind.u16 (un (evn s) (x0 + (1 : Int)).toNat) (1023 : Int) ∧ (65536 : Int) + bitsOf BinOp.and IntKind.u16 (un (evn s) x0.toNat) (1023 : Int) * (1024 : Int) + bitsOf BinOp.and IntKind.u16 (un (evn s) (x0 + (1 : Int)).toNat) (1023 : Int) ≤ (57343 : Int)), l0.length < lim, inR IntKind.i64 (x0 + (1 : Int) + (1 : Int))]) : To Tryd.prog (loopAt Tryd.f17 0) ({ n := 79, fr := [(0, AV.v (.string (evn s))), (3, AV.row 4 0 l0.length l0.length false), (4, AV.v (.int .i64 x0)), (5, AV.v (.int .i64 (↑(ul (evn s)) : Int)))], hp := [(4, AObj.row 5 1 (.ints .u8 l0) n0)], nx := 5 }) (.normal) { n := 79, fr := [(0, AV.v (.string (evn s))), (3, AV.row 4 0 (l0 ++ enc8 ((65536 : Int) + bitsOf BinOp.and IntKind.u16 (un (evn s) x0.toNat) (1023 : Int) * (1024 : Int) + bitsOf BinOp.and IntKind.u16 (un (evn s) (x0 + (1 : Int)).toNat) (1023 : Int))).length (l0 ++ enc8 ((65536 : Int) + bitsOf BinOp.and IntKind.u16 (un (evn s) x0.toNat) (1023 : Int) * (1024 : Int) + bitsOf BinOp.and IntKind.u16 (un (evn s) (x0 + (1 : Int)).toNat) (1023 : Int))).length false), (4, AV.v (.int .i64 (x0 + (1 : Int) + (1 : Int)))), (5, AV.v (.int .i64 (↑(ul (evn s)) : Int)))], hp := [(4, AObj.row 5 1 (.ints .u8 (l0 ++ enc8 ((65536 : Int) + bitsOf BinOp.and IntKind.u16 (un (evn s) x0.toNat) (1023 : Int) * (1024 : Int) + bitsOf BinOp.and IntKind.u16 (un (evn s) (x0 + (1 : Int)).toNat) (1023 : Int)))) (l0 ++ enc8 ((65536 : Int) + bitsOf BinOp.and IntKind.u16 (un (evn s) x0.toNat) (1023 : Int) * (1024 : Int) + bitsOf BinOp.and IntKind.u16 (un (evn s) (x0 + (1 : Int)).toNat) (1023 : Int))).length)], nx := 5 } :=
  evW_to hm sok6 (hs := [CHint.ops 4 [(2, Hint.b true)], CHint.ops 8 [(1, Hint.b true), (6, Hint.b true), (13, Hint.b true)]]) (slots := [0, 3, 4, 5]) (keys := [4]) (nx := 5) (c := _) (by kernel_rfl) h
theorem encL0_2 (s : ByteArray) (x0 : Int) (l0 : List Int) (l3 : List Int) (n0 : Nat) (n3 : Nat) (h : AllP [decide (x0 < (↑(ul (evn s)) : Int)) = true, SZ (evn s), (0 : Int) ≤ x0 ∧ x0 < (↑(ul (evn s)) : Int), high (un (evn s) x0.toNat) = true, inR IntKind.i64 (x0 + (1 : Int)), decide (x0 + (1 : Int) < (↑(ul (evn s)) : Int)) = true, inR IntKind.i64 (x0 + (1 : Int)), SZ (evn s), (0 : Int) ≤ x0 + (1 : Int) ∧ x0 + (1 : Int) < (↑(ul (evn s)) : Int), low (un (evn s) (x0 + (1 : Int)).toNat) = false, high (un (evn s) x0.toNat) = true, l0.length = l0.length, l0.length = l0.length, (l0 ++ [(92 : Int), (117 : Int)]).length * 1 ≤ 140737488355328, LoopTo Tryd.prog (loopAt Tryd.f17 1) { n := 79, fr := [(0, AV.v (.string (evn s))), (3, AV.row 4 0 (l0 ++ [(92 : Int), (117 : Int)]).length (l0 ++ [(92 : Int), (117 : Int)]).length false), (4, AV.v (.int .i64 x0)), (5, AV.v (.int .i64 (↑(ul (evn s)) : Int))), (6, AV.v (.int .u16 (un (evn s) x0.toNat))), (7, AV.v (.int .i64 (12 : Int)))], hp := [(4, AObj.row 5 1 (.ints .u8 (l0 ++ [(92 : Int), (117 : Int)])) n0)], nx := 5 } (Exit.exit 3) { n := 79, fr := [(0, AV.v (.string (evn s))), (3, AV.row 4 0 l3.length l3.length false), (4, AV.v (.int .i64 x0)), (5, AV.v (.int .i64 (↑(ul (evn s)) : Int)))], hp := [(4, AObj.row 5 1 (.ints .u8 l3) n3)], nx := 5 }, inR IntKind.i64 (x0 + (1 : Int))]) : To Tryd.prog (loopAt Tryd.f17 0) ({ n := 79, fr := [(0, AV.v (.string (evn s))), (3, AV.row 4 0 l0.length l0.length false), (4, AV.v (.int .i64 x0)), (5, AV.v (.int .i64 (↑(ul (evn s)) : Int)))], hp := [(4, AObj.row 5 1 (.ints .u8 l0) n0)], nx := 5 }) (.normal) { n := 79, fr := [(0, AV.v (.string (evn s))), (3, AV.row 4 0 l3.length l3.length false), (4, AV.v (.int .i64 (x0 + (1 : Int)))), (5, AV.v (.int .i64 (↑(ul (evn s)) : Int)))], hp := [(4, AObj.row 5 1 (.ints .u8 l3) n3)], nx := 5 } :=
  evW_to hm sok6 (hs := [CHint.ops 4 [(2, Hint.b true)], CHint.ops 8 [(1, Hint.b true), (6, Hint.b true), (13, Hint.b false)], CHint.ops 11 [(1, Hint.b true)], CHint.loop [0, 3, 4, 5, 6, 7] [4] 5 (Exit.exit 3) { n := 79, fr := [(0, AV.v (.string (evn s))), (3, AV.row 4 0 l3.length l3.length false), (4, AV.v (.int .i64 x0)), (5, AV.v (.int .i64 (↑(ul (evn s)) : Int)))], hp := [(4, AObj.row (5 : TypeId) 1 (.ints .u8 l3) n3)], nx := 5 }]) (slots := [0, 3, 4, 5]) (keys := [4]) (nx := 5) (c := _) (by kernel_rfl) h
theorem encL0_3 (s : ByteArray) (x0 : Int) (l0 : List Int) (l3 : List Int) (n0 : Nat) (n3 : Nat) (h : AllP [decide (x0 < (↑(ul (evn s)) : Int)) = true, SZ (evn s), (0 : Int) ≤ x0 ∧ x0 < (↑(ul (evn s)) : Int), high (un (evn s) x0.toNat) = true, inR IntKind.i64 (x0 + (1 : Int)), decide (x0 + (1 : Int) < (↑(ul (evn s)) : Int)) = true, inR IntKind.i64 (x0 + (1 : Int)), SZ (evn s), (0 : Int) ≤ x0 + (1 : Int) ∧ x0 + (1 : Int) < (↑(ul (evn s)) : Int), low (un (evn s) (x0 + (1 : Int)).toNat) = false, high (un (evn s) x0.toNat) = false, low (un (evn s) x0.toNat) = true, l0.length = l0.length, l0.length = l0.length, (l0 ++ [(92 : Int), (117 : Int)]).length * 1 ≤ 140737488355328, LoopTo Tryd.prog (loopAt Tryd.f17 1) { n := 79, fr := [(0, AV.v (.string (evn s))), (3, AV.row 4 0 (l0 ++ [(92 : Int), (117 : Int)]).length (l0 ++ [(92 : Int), (117 : Int)]).length false), (4, AV.v (.int .i64 x0)), (5, AV.v (.int .i64 (↑(ul (evn s)) : Int))), (6, AV.v (.int .u16 (un (evn s) x0.toNat))), (7, AV.v (.int .i64 (12 : Int)))], hp := [(4, AObj.row 5 1 (.ints .u8 (l0 ++ [(92 : Int), (117 : Int)])) n0)], nx := 5 } (Exit.exit 3) { n := 79, fr := [(0, AV.v (.string (evn s))), (3, AV.row 4 0 l3.length l3.length false), (4, AV.v (.int .i64 x0)), (5, AV.v (.int .i64 (↑(ul (evn s)) : Int)))], hp := [(4, AObj.row 5 1 (.ints .u8 l3) n3)], nx := 5 }, inR IntKind.i64 (x0 + (1 : Int))]) : To Tryd.prog (loopAt Tryd.f17 0) ({ n := 79, fr := [(0, AV.v (.string (evn s))), (3, AV.row 4 0 l0.length l0.length false), (4, AV.v (.int .i64 x0)), (5, AV.v (.int .i64 (↑(ul (evn s)) : Int)))], hp := [(4, AObj.row 5 1 (.ints .u8 l0) n0)], nx := 5 }) (.normal) { n := 79, fr := [(0, AV.v (.string (evn s))), (3, AV.row 4 0 l3.length l3.length false), (4, AV.v (.int .i64 (x0 + (1 : Int)))), (5, AV.v (.int .i64 (↑(ul (evn s)) : Int)))], hp := [(4, AObj.row 5 1 (.ints .u8 l3) n3)], nx := 5 } :=
  evW_to hm sok6 (hs := [CHint.ops 4 [(2, Hint.b true)], CHint.ops 8 [(1, Hint.b true), (6, Hint.b true), (13, Hint.b false)], CHint.ops 11 [(1, Hint.b false), (4, Hint.b true)], CHint.loop [0, 3, 4, 5, 6, 7] [4] 5 (Exit.exit 3) { n := 79, fr := [(0, AV.v (.string (evn s))), (3, AV.row 4 0 l3.length l3.length false), (4, AV.v (.int .i64 x0)), (5, AV.v (.int .i64 (↑(ul (evn s)) : Int)))], hp := [(4, AObj.row (5 : TypeId) 1 (.ints .u8 l3) n3)], nx := 5 }]) (slots := [0, 3, 4, 5]) (keys := [4]) (nx := 5) (c := _) (by kernel_rfl) h
theorem encL0_4 (s : ByteArray) (x0 : Int) (l0 : List Int) (l3 : List Int) (n0 : Nat) (n3 : Nat) (h : AllP [decide (x0 < (↑(ul (evn s)) : Int)) = true, SZ (evn s), (0 : Int) ≤ x0 ∧ x0 < (↑(ul (evn s)) : Int), high (un (evn s) x0.toNat) = true, inR IntKind.i64 (x0 + (1 : Int)), decide (x0 + (1 : Int) < (↑(ul (evn s)) : Int)) = true, inR IntKind.i64 (x0 + (1 : Int)), SZ (evn s), (0 : Int) ≤ x0 + (1 : Int) ∧ x0 + (1 : Int) < (↑(ul (evn s)) : Int), low (un (evn s) (x0 + (1 : Int)).toNat) = false, high (un (evn s) x0.toNat) = false, low (un (evn s) x0.toNat) = false, inR IntKind.i32 (un (evn s) x0.toNat), 4294967296 = rsv, l0.length = l0.length, l0.length = l0.length, (0 : Int) ≤ un (evn s) x0.toNat ∧ un (evn s) x0.toNat ≤ (1114111 : Int), ¬((55296 : Int) ≤ un (evn s) x0.toNat ∧ un (evn s) x0.toNat ≤ (57343 : Int)), l0.length < lim, inR IntKind.i64 (x0 + (1 : Int))]) : To Tryd.prog (loopAt Tryd.f17 0) ({ n := 79, fr := [(0, AV.v (.string (evn s))), (3, AV.row 4 0 l0.length l0.length false), (4, AV.v (.int .i64 x0)), (5, AV.v (.int .i64 (↑(ul (evn s)) : Int)))], hp := [(4, AObj.row 5 1 (.ints .u8 l0) n0)], nx := 5 }) (.normal) { n := 79, fr := [(0, AV.v (.string (evn s))), (3, AV.row 4 0 (l0 ++ enc8 (un (evn s) x0.toNat)).length (l0 ++ enc8 (un (evn s) x0.toNat)).length false), (4, AV.v (.int .i64 (x0 + (1 : Int)))), (5, AV.v (.int .i64 (↑(ul (evn s)) : Int)))], hp := [(4, AObj.row 5 1 (.ints .u8 (l0 ++ enc8 (un (evn s) x0.toNat))) (l0 ++ enc8 (un (evn s) x0.toNat)).length)], nx := 5 } :=
  evW_to hm sok6 (hs := [CHint.ops 4 [(2, Hint.b true)], CHint.ops 8 [(1, Hint.b true), (6, Hint.b true), (13, Hint.b false)], CHint.ops 11 [(1, Hint.b false), (4, Hint.b false)]]) (slots := [0, 3, 4, 5]) (keys := [4]) (nx := 5) (c := _) (by kernel_rfl) h
theorem encL0_5 (s : ByteArray) (x0 : Int) (l0 : List Int) (l3 : List Int) (n0 : Nat) (n3 : Nat) (h : AllP [decide (x0 < (↑(ul (evn s)) : Int)) = true, SZ (evn s), (0 : Int) ≤ x0 ∧ x0 < (↑(ul (evn s)) : Int), high (un (evn s) x0.toNat) = true, inR IntKind.i64 (x0 + (1 : Int)), decide (x0 + (1 : Int) < (↑(ul (evn s)) : Int)) = false, high (un (evn s) x0.toNat) = true, l0.length = l0.length, l0.length = l0.length, (l0 ++ [(92 : Int), (117 : Int)]).length * 1 ≤ 140737488355328, LoopTo Tryd.prog (loopAt Tryd.f17 1) { n := 79, fr := [(0, AV.v (.string (evn s))), (3, AV.row 4 0 (l0 ++ [(92 : Int), (117 : Int)]).length (l0 ++ [(92 : Int), (117 : Int)]).length false), (4, AV.v (.int .i64 x0)), (5, AV.v (.int .i64 (↑(ul (evn s)) : Int))), (6, AV.v (.int .u16 (un (evn s) x0.toNat))), (7, AV.v (.int .i64 (12 : Int)))], hp := [(4, AObj.row 5 1 (.ints .u8 (l0 ++ [(92 : Int), (117 : Int)])) n0)], nx := 5 } (Exit.exit 3) { n := 79, fr := [(0, AV.v (.string (evn s))), (3, AV.row 4 0 l3.length l3.length false), (4, AV.v (.int .i64 x0)), (5, AV.v (.int .i64 (↑(ul (evn s)) : Int)))], hp := [(4, AObj.row 5 1 (.ints .u8 l3) n3)], nx := 5 }, inR IntKind.i64 (x0 + (1 : Int))]) : To Tryd.prog (loopAt Tryd.f17 0) ({ n := 79, fr := [(0, AV.v (.string (evn s))), (3, AV.row 4 0 l0.length l0.length false), (4, AV.v (.int .i64 x0)), (5, AV.v (.int .i64 (↑(ul (evn s)) : Int)))], hp := [(4, AObj.row 5 1 (.ints .u8 l0) n0)], nx := 5 }) (.normal) { n := 79, fr := [(0, AV.v (.string (evn s))), (3, AV.row 4 0 l3.length l3.length false), (4, AV.v (.int .i64 (x0 + (1 : Int)))), (5, AV.v (.int .i64 (↑(ul (evn s)) : Int)))], hp := [(4, AObj.row 5 1 (.ints .u8 l3) n3)], nx := 5 } :=
  evW_to hm sok6 (hs := [CHint.ops 4 [(2, Hint.b true)], CHint.ops 8 [(1, Hint.b true), (6, Hint.b false)], CHint.ops 11 [(1, Hint.b true)], CHint.loop [0, 3, 4, 5, 6, 7] [4] 5 (Exit.exit 3) { n := 79, fr := [(0, AV.v (.string (evn s))), (3, AV.row 4 0 l3.length l3.length false), (4, AV.v (.int .i64 x0)), (5, AV.v (.int .i64 (↑(ul (evn s)) : Int)))], hp := [(4, AObj.row (5 : TypeId) 1 (.ints .u8 l3) n3)], nx := 5 }]) (slots := [0, 3, 4, 5]) (keys := [4]) (nx := 5) (c := _) (by kernel_rfl) h
theorem encL0_6 (s : ByteArray) (x0 : Int) (l0 : List Int) (l3 : List Int) (n0 : Nat) (n3 : Nat) (h : AllP [decide (x0 < (↑(ul (evn s)) : Int)) = true, SZ (evn s), (0 : Int) ≤ x0 ∧ x0 < (↑(ul (evn s)) : Int), high (un (evn s) x0.toNat) = true, inR IntKind.i64 (x0 + (1 : Int)), decide (x0 + (1 : Int) < (↑(ul (evn s)) : Int)) = false, high (un (evn s) x0.toNat) = false, low (un (evn s) x0.toNat) = true, l0.length = l0.length, l0.length = l0.length, (l0 ++ [(92 : Int), (117 : Int)]).length * 1 ≤ 140737488355328, LoopTo Tryd.prog (loopAt Tryd.f17 1) { n := 79, fr := [(0, AV.v (.string (evn s))), (3, AV.row 4 0 (l0 ++ [(92 : Int), (117 : Int)]).length (l0 ++ [(92 : Int), (117 : Int)]).length false), (4, AV.v (.int .i64 x0)), (5, AV.v (.int .i64 (↑(ul (evn s)) : Int))), (6, AV.v (.int .u16 (un (evn s) x0.toNat))), (7, AV.v (.int .i64 (12 : Int)))], hp := [(4, AObj.row 5 1 (.ints .u8 (l0 ++ [(92 : Int), (117 : Int)])) n0)], nx := 5 } (Exit.exit 3) { n := 79, fr := [(0, AV.v (.string (evn s))), (3, AV.row 4 0 l3.length l3.length false), (4, AV.v (.int .i64 x0)), (5, AV.v (.int .i64 (↑(ul (evn s)) : Int)))], hp := [(4, AObj.row 5 1 (.ints .u8 l3) n3)], nx := 5 }, inR IntKind.i64 (x0 + (1 : Int))]) : To Tryd.prog (loopAt Tryd.f17 0) ({ n := 79, fr := [(0, AV.v (.string (evn s))), (3, AV.row 4 0 l0.length l0.length false), (4, AV.v (.int .i64 x0)), (5, AV.v (.int .i64 (↑(ul (evn s)) : Int)))], hp := [(4, AObj.row 5 1 (.ints .u8 l0) n0)], nx := 5 }) (.normal) { n := 79, fr := [(0, AV.v (.string (evn s))), (3, AV.row 4 0 l3.length l3.length false), (4, AV.v (.int .i64 (x0 + (1 : Int)))), (5, AV.v (.int .i64 (↑(ul (evn s)) : Int)))], hp := [(4, AObj.row 5 1 (.ints .u8 l3) n3)], nx := 5 } :=
  evW_to hm sok6 (hs := [CHint.ops 4 [(2, Hint.b true)], CHint.ops 8 [(1, Hint.b true), (6, Hint.b false)], CHint.ops 11 [(1, Hint.b false), (4, Hint.b true)], CHint.loop [0, 3, 4, 5, 6, 7] [4] 5 (Exit.exit 3) { n := 79, fr := [(0, AV.v (.string (evn s))), (3, AV.row 4 0 l3.length l3.length false), (4, AV.v (.int .i64 x0)), (5, AV.v (.int .i64 (↑(ul (evn s)) : Int)))], hp := [(4, AObj.row (5 : TypeId) 1 (.ints .u8 l3) n3)], nx := 5 }]) (slots := [0, 3, 4, 5]) (keys := [4]) (nx := 5) (c := _) (by kernel_rfl) h
theorem encL0_7 (s : ByteArray) (x0 : Int) (l0 : List Int) (l3 : List Int) (n0 : Nat) (n3 : Nat) (h : AllP [decide (x0 < (↑(ul (evn s)) : Int)) = true, SZ (evn s), (0 : Int) ≤ x0 ∧ x0 < (↑(ul (evn s)) : Int), high (un (evn s) x0.toNat) = true, inR IntKind.i64 (x0 + (1 : Int)), decide (x0 + (1 : Int) < (↑(ul (evn s)) : Int)) = false, high (un (evn s) x0.toNat) = false, low (un (evn s) x0.toNat) = false, inR IntKind.i32 (un (evn s) x0.toNat), 4294967296 = rsv, l0.length = l0.length, l0.length = l0.length, (0 : Int) ≤ un (evn s) x0.toNat ∧ un (evn s) x0.toNat ≤ (1114111 : Int), ¬((55296 : Int) ≤ un (evn s) x0.toNat ∧ un (evn s) x0.toNat ≤ (57343 : Int)), l0.length < lim, inR IntKind.i64 (x0 + (1 : Int))]) : To Tryd.prog (loopAt Tryd.f17 0) ({ n := 79, fr := [(0, AV.v (.string (evn s))), (3, AV.row 4 0 l0.length l0.length false), (4, AV.v (.int .i64 x0)), (5, AV.v (.int .i64 (↑(ul (evn s)) : Int)))], hp := [(4, AObj.row 5 1 (.ints .u8 l0) n0)], nx := 5 }) (.normal) { n := 79, fr := [(0, AV.v (.string (evn s))), (3, AV.row 4 0 (l0 ++ enc8 (un (evn s) x0.toNat)).length (l0 ++ enc8 (un (evn s) x0.toNat)).length false), (4, AV.v (.int .i64 (x0 + (1 : Int)))), (5, AV.v (.int .i64 (↑(ul (evn s)) : Int)))], hp := [(4, AObj.row 5 1 (.ints .u8 (l0 ++ enc8 (un (evn s) x0.toNat))) (l0 ++ enc8 (un (evn s) x0.toNat)).length)], nx := 5 } :=
  evW_to hm sok6 (hs := [CHint.ops 4 [(2, Hint.b true)], CHint.ops 8 [(1, Hint.b true), (6, Hint.b false)], CHint.ops 11 [(1, Hint.b false), (4, Hint.b false)]]) (slots := [0, 3, 4, 5]) (keys := [4]) (nx := 5) (c := _) (by kernel_rfl) h
theorem encL0_8 (s : ByteArray) (x0 : Int) (l0 : List Int) (l3 : List Int) (n0 : Nat) (n3 : Nat) (h : AllP [decide (x0 < (↑(ul (evn s)) : Int)) = true, SZ (evn s), (0 : Int) ≤ x0 ∧ x0 < (↑(ul (evn s)) : Int), high (un (evn s) x0.toNat) = false, high (un (evn s) x0.toNat) = true, l0.length = l0.length, l0.length = l0.length, (l0 ++ [(92 : Int), (117 : Int)]).length * 1 ≤ 140737488355328, LoopTo Tryd.prog (loopAt Tryd.f17 1) { n := 79, fr := [(0, AV.v (.string (evn s))), (3, AV.row 4 0 (l0 ++ [(92 : Int), (117 : Int)]).length (l0 ++ [(92 : Int), (117 : Int)]).length false), (4, AV.v (.int .i64 x0)), (5, AV.v (.int .i64 (↑(ul (evn s)) : Int))), (6, AV.v (.int .u16 (un (evn s) x0.toNat))), (7, AV.v (.int .i64 (12 : Int)))], hp := [(4, AObj.row 5 1 (.ints .u8 (l0 ++ [(92 : Int), (117 : Int)])) n0)], nx := 5 } (Exit.exit 3) { n := 79, fr := [(0, AV.v (.string (evn s))), (3, AV.row 4 0 l3.length l3.length false), (4, AV.v (.int .i64 x0)), (5, AV.v (.int .i64 (↑(ul (evn s)) : Int)))], hp := [(4, AObj.row 5 1 (.ints .u8 l3) n3)], nx := 5 }, inR IntKind.i64 (x0 + (1 : Int))]) : To Tryd.prog (loopAt Tryd.f17 0) ({ n := 79, fr := [(0, AV.v (.string (evn s))), (3, AV.row 4 0 l0.length l0.length false), (4, AV.v (.int .i64 x0)), (5, AV.v (.int .i64 (↑(ul (evn s)) : Int)))], hp := [(4, AObj.row 5 1 (.ints .u8 l0) n0)], nx := 5 }) (.normal) { n := 79, fr := [(0, AV.v (.string (evn s))), (3, AV.row 4 0 l3.length l3.length false), (4, AV.v (.int .i64 (x0 + (1 : Int)))), (5, AV.v (.int .i64 (↑(ul (evn s)) : Int)))], hp := [(4, AObj.row 5 1 (.ints .u8 l3) n3)], nx := 5 } :=
  evW_to hm sok6 (hs := [CHint.ops 4 [(2, Hint.b true)], CHint.ops 8 [(1, Hint.b false)], CHint.ops 11 [(1, Hint.b true)], CHint.loop [0, 3, 4, 5, 6, 7] [4] 5 (Exit.exit 3) { n := 79, fr := [(0, AV.v (.string (evn s))), (3, AV.row 4 0 l3.length l3.length false), (4, AV.v (.int .i64 x0)), (5, AV.v (.int .i64 (↑(ul (evn s)) : Int)))], hp := [(4, AObj.row (5 : TypeId) 1 (.ints .u8 l3) n3)], nx := 5 }]) (slots := [0, 3, 4, 5]) (keys := [4]) (nx := 5) (c := _) (by kernel_rfl) h
theorem encL0_9 (s : ByteArray) (x0 : Int) (l0 : List Int) (l3 : List Int) (n0 : Nat) (n3 : Nat) (h : AllP [decide (x0 < (↑(ul (evn s)) : Int)) = true, SZ (evn s), (0 : Int) ≤ x0 ∧ x0 < (↑(ul (evn s)) : Int), high (un (evn s) x0.toNat) = false, high (un (evn s) x0.toNat) = false, low (un (evn s) x0.toNat) = true, l0.length = l0.length, l0.length = l0.length, (l0 ++ [(92 : Int), (117 : Int)]).length * 1 ≤ 140737488355328, LoopTo Tryd.prog (loopAt Tryd.f17 1) { n := 79, fr := [(0, AV.v (.string (evn s))), (3, AV.row 4 0 (l0 ++ [(92 : Int), (117 : Int)]).length (l0 ++ [(92 : Int), (117 : Int)]).length false), (4, AV.v (.int .i64 x0)), (5, AV.v (.int .i64 (↑(ul (evn s)) : Int))), (6, AV.v (.int .u16 (un (evn s) x0.toNat))), (7, AV.v (.int .i64 (12 : Int)))], hp := [(4, AObj.row 5 1 (.ints .u8 (l0 ++ [(92 : Int), (117 : Int)])) n0)], nx := 5 } (Exit.exit 3) { n := 79, fr := [(0, AV.v (.string (evn s))), (3, AV.row 4 0 l3.length l3.length false), (4, AV.v (.int .i64 x0)), (5, AV.v (.int .i64 (↑(ul (evn s)) : Int)))], hp := [(4, AObj.row 5 1 (.ints .u8 l3) n3)], nx := 5 }, inR IntKind.i64 (x0 + (1 : Int))]) : To Tryd.prog (loopAt Tryd.f17 0) ({ n := 79, fr := [(0, AV.v (.string (evn s))), (3, AV.row 4 0 l0.length l0.length false), (4, AV.v (.int .i64 x0)), (5, AV.v (.int .i64 (↑(ul (evn s)) : Int)))], hp := [(4, AObj.row 5 1 (.ints .u8 l0) n0)], nx := 5 }) (.normal) { n := 79, fr := [(0, AV.v (.string (evn s))), (3, AV.row 4 0 l3.length l3.length false), (4, AV.v (.int .i64 (x0 + (1 : Int)))), (5, AV.v (.int .i64 (↑(ul (evn s)) : Int)))], hp := [(4, AObj.row 5 1 (.ints .u8 l3) n3)], nx := 5 } :=
  evW_to hm sok6 (hs := [CHint.ops 4 [(2, Hint.b true)], CHint.ops 8 [(1, Hint.b false)], CHint.ops 11 [(1, Hint.b false), (4, Hint.b true)], CHint.loop [0, 3, 4, 5, 6, 7] [4] 5 (Exit.exit 3) { n := 79, fr := [(0, AV.v (.string (evn s))), (3, AV.row 4 0 l3.length l3.length false), (4, AV.v (.int .i64 x0)), (5, AV.v (.int .i64 (↑(ul (evn s)) : Int)))], hp := [(4, AObj.row (5 : TypeId) 1 (.ints .u8 l3) n3)], nx := 5 }]) (slots := [0, 3, 4, 5]) (keys := [4]) (nx := 5) (c := _) (by kernel_rfl) h
theorem encL0_10 (s : ByteArray) (x0 : Int) (l0 : List Int) (l3 : List Int) (n0 : Nat) (n3 : Nat) (h : AllP [decide (x0 < (↑(ul (evn s)) : Int)) = true, SZ (evn s), (0 : Int) ≤ x0 ∧ x0 < (↑(ul (evn s)) : Int), high (un (evn s) x0.toNat) = false, high (un (evn s) x0.toNat) = false, low (un (evn s) x0.toNat) = false, inR IntKind.i32 (un (evn s) x0.toNat), 4294967296 = rsv, l0.length = l0.length, l0.length = l0.length, (0 : Int) ≤ un (evn s) x0.toNat ∧ un (evn s) x0.toNat ≤ (1114111 : Int), ¬((55296 : Int) ≤ un (evn s) x0.toNat ∧ un (evn s) x0.toNat ≤ (57343 : Int)), l0.length < lim, inR IntKind.i64 (x0 + (1 : Int))]) : To Tryd.prog (loopAt Tryd.f17 0) ({ n := 79, fr := [(0, AV.v (.string (evn s))), (3, AV.row 4 0 l0.length l0.length false), (4, AV.v (.int .i64 x0)), (5, AV.v (.int .i64 (↑(ul (evn s)) : Int)))], hp := [(4, AObj.row 5 1 (.ints .u8 l0) n0)], nx := 5 }) (.normal) { n := 79, fr := [(0, AV.v (.string (evn s))), (3, AV.row 4 0 (l0 ++ enc8 (un (evn s) x0.toNat)).length (l0 ++ enc8 (un (evn s) x0.toNat)).length false), (4, AV.v (.int .i64 (x0 + (1 : Int)))), (5, AV.v (.int .i64 (↑(ul (evn s)) : Int)))], hp := [(4, AObj.row 5 1 (.ints .u8 (l0 ++ enc8 (un (evn s) x0.toNat))) (l0 ++ enc8 (un (evn s) x0.toNat)).length)], nx := 5 } :=
  evW_to hm sok6 (hs := [CHint.ops 4 [(2, Hint.b true)], CHint.ops 8 [(1, Hint.b false)], CHint.ops 11 [(1, Hint.b false), (4, Hint.b false)]]) (slots := [0, 3, 4, 5]) (keys := [4]) (nx := 5) (c := _) (by kernel_rfl) h
theorem encL0_11 (s : ByteArray) (x0 : Int) (l0 : List Int) (l3 : List Int) (n0 : Nat) (n3 : Nat) (h : AllP [decide (x0 < (↑(ul (evn s)) : Int)) = false]) : To Tryd.prog (loopAt Tryd.f17 0) ({ n := 79, fr := [(0, AV.v (.string (evn s))), (3, AV.row 4 0 l0.length l0.length false), (4, AV.v (.int .i64 x0)), (5, AV.v (.int .i64 (↑(ul (evn s)) : Int)))], hp := [(4, AObj.row 5 1 (.ints .u8 l0) n0)], nx := 5 }) (Exit.exit 0) { n := 79, fr := [(3, AV.row 4 0 l0.length l0.length false)], hp := [(4, AObj.row 5 1 (.ints .u8 l0) n0)], nx := 5 } :=
  evW_to hm sok6 (hs := [CHint.ops 4 [(2, Hint.b false)]]) (slots := [3]) (keys := [4]) (nx := 5) (c := _) (by kernel_rfl) h
-- 2 paths
theorem encL1_1 (s : ByteArray) (x0 : Int) (x1 : Int) (l2 : List Int) (n2 : Nat) (h : AllP [decide (x1 ≥ (0 : Int)) = true, (0 : Int) ≤ x1, (0 : Int) ≤ bitsOf BinOp.and IntKind.u16 (un (evn s) x0.toNat / (2 : Int) ^ min x1.toNat 16) (15 : Int) ∧ bitsOf BinOp.and IntKind.u16 (un (evn s) x0.toNat / (2 : Int) ^ min x1.toNat 16) (15 : Int) < (16 : Int), l2.length = l2.length, l2.length = l2.length, (l2 ++ [byteAt (ByteArray.mk #[(48 : UInt8), (49 : UInt8), (50 : UInt8), (51 : UInt8), (52 : UInt8), (53 : UInt8), (54 : UInt8), (55 : UInt8), (56 : UInt8), (57 : UInt8), (65 : UInt8), (66 : UInt8), (67 : UInt8), (68 : UInt8), (69 : UInt8), (70 : UInt8)]) (bitsOf BinOp.and IntKind.u16 (un (evn s) x0.toNat / (2 : Int) ^ min x1.toNat 16) (15 : Int)).toNat]).length * 1 ≤ 140737488355328, inR IntKind.i64 (x1 - (4 : Int))]) : To Tryd.prog (loopAt Tryd.f17 1) ({ n := 79, fr := [(0, AV.v (.string (evn s))), (3, AV.row 4 0 l2.length l2.length false), (4, AV.v (.int .i64 x0)), (5, AV.v (.int .i64 (↑(ul (evn s)) : Int))), (6, AV.v (.int .u16 (un (evn s) x0.toNat))), (7, AV.v (.int .i64 x1))], hp := [(4, AObj.row 5 1 (.ints .u8 l2) n2)], nx := 5 }) (.normal) { n := 79, fr := [(0, AV.v (.string (evn s))), (3, AV.row 4 0 (l2 ++ [byteAt (ByteArray.mk #[(48 : UInt8), (49 : UInt8), (50 : UInt8), (51 : UInt8), (52 : UInt8), (53 : UInt8), (54 : UInt8), (55 : UInt8), (56 : UInt8), (57 : UInt8), (65 : UInt8), (66 : UInt8), (67 : UInt8), (68 : UInt8), (69 : UInt8), (70 : UInt8)]) (bitsOf BinOp.and IntKind.u16 (un (evn s) x0.toNat / (2 : Int) ^ min x1.toNat 16) (15 : Int)).toNat]).length (l2 ++ [byteAt (ByteArray.mk #[(48 : UInt8), (49 : UInt8), (50 : UInt8), (51 : UInt8), (52 : UInt8), (53 : UInt8), (54 : UInt8), (55 : UInt8), (56 : UInt8), (57 : UInt8), (65 : UInt8), (66 : UInt8), (67 : UInt8), (68 : UInt8), (69 : UInt8), (70 : UInt8)]) (bitsOf BinOp.and IntKind.u16 (un (evn s) x0.toNat / (2 : Int) ^ min x1.toNat 16) (15 : Int)).toNat]).length false), (4, AV.v (.int .i64 x0)), (5, AV.v (.int .i64 (↑(ul (evn s)) : Int))), (6, AV.v (.int .u16 (un (evn s) x0.toNat))), (7, AV.v (.int .i64 (x1 - (4 : Int))))], hp := [(4, AObj.row 5 1 (.ints .u8 (l2 ++ [byteAt (ByteArray.mk #[(48 : UInt8), (49 : UInt8), (50 : UInt8), (51 : UInt8), (52 : UInt8), (53 : UInt8), (54 : UInt8), (55 : UInt8), (56 : UInt8), (57 : UInt8), (65 : UInt8), (66 : UInt8), (67 : UInt8), (68 : UInt8), (69 : UInt8), (70 : UInt8)]) (bitsOf BinOp.and IntKind.u16 (un (evn s) x0.toNat / (2 : Int) ^ min x1.toNat 16) (15 : Int)).toNat])) n2)], nx := 5 } :=
  evW_to hm sok6 (hs := [CHint.ops 14 [(1, Hint.b true)]]) (slots := [0, 3, 4, 5, 6, 7]) (keys := [4]) (nx := 5) (c := _) (by kernel_rfl) h
theorem encL1_2 (s : ByteArray) (x0 : Int) (x1 : Int) (l2 : List Int) (n2 : Nat) (h : AllP [decide (x1 ≥ (0 : Int)) = false]) : To Tryd.prog (loopAt Tryd.f17 1) ({ n := 79, fr := [(0, AV.v (.string (evn s))), (3, AV.row 4 0 l2.length l2.length false), (4, AV.v (.int .i64 x0)), (5, AV.v (.int .i64 (↑(ul (evn s)) : Int))), (6, AV.v (.int .u16 (un (evn s) x0.toNat))), (7, AV.v (.int .i64 x1))], hp := [(4, AObj.row 5 1 (.ints .u8 l2) n2)], nx := 5 }) (Exit.exit 3) { n := 79, fr := [(0, AV.v (.string (evn s))), (3, AV.row 4 0 l2.length l2.length false), (4, AV.v (.int .i64 x0)), (5, AV.v (.int .i64 (↑(ul (evn s)) : Int)))], hp := [(4, AObj.row 5 1 (.ints .u8 l2) n2)], nx := 5 } :=
  evW_to hm sok6 (hs := [CHint.ops 14 [(1, Hint.b false)]]) (slots := [0, 3, 4, 5]) (keys := [4]) (nx := 5) (c := _) (by kernel_rfl) h
-- 1 paths
theorem encF1 (s : ByteArray) (l1 : List Int) (n1 : Nat) (h : AllP [SZ s, SZ (evn s), LoopTo Tryd.prog (loopAt Tryd.f17 0) { n := 79, fr := [(0, AV.v (.string (evn s))), (3, AV.row 4 0 0 0 false), (4, AV.v (.int .i64 (0 : Int))), (5, AV.v (.int .i64 (↑(ul (evn s)) : Int)))], hp := [(4, AObj.row 5 1 (.ints .u8 []) 0)], nx := 5 } (Exit.exit 0) { n := 79, fr := [(3, AV.row 4 0 l1.length l1.length false)], hp := [(4, AObj.row 5 1 (.ints .u8 l1) n1)], nx := 5 }, l1.length = l1.length, n1 ≤ l1.length]) : PureTo Tryd.prog 17 [.v (.string s)] (AV.v (.string (strOfInts l1))) :=
  evFn_pure hm sok6 (fn := Tryd.f17) rfl rfl (ti := false) (hs := [CHint.ops 2 [(0, Hint.nil 5)], CHint.loop [0, 3, 4, 5] [4] 5 (Exit.exit 0) { n := 79, fr := [(3, AV.row 4 0 l1.length l1.length false)], hp := [(4, AObj.row (5 : TypeId) 1 (.ints .u8 l1) n1)], nx := 5 }]) (c := _) (by kernel_rfl) h
end Go.Proofs.Us

/- Texts: units told as UTF-8. -/
set_option maxRecDepth 100000
namespace Go.Proofs.Us
open Go Go.Ev

def hexs : ByteArray := ByteArray.mk #[48, 49, 50, 51, 52, 53, 54, 55, 56, 57, 65, 66, 67, 68, 69, 70]
def hx (n : Int) : Int := byteAt hexs n.toNat
def hex4 (u : Int) : List Int := [hx (u / 4096), hx (u / 256 % 16), hx (u / 16 % 16), hx (u % 16)]
def esc (u : Int) : List Int := [92, 117] ++ hex4 u
theorem esc_length (u : Int) : (esc u).length = 6 := rfl

theorem high_iff (u : Int) : high u = true ↔ 55296 ≤ u ∧ u < 56320 := by
  unfold high
  rw [bif_and, Bool.and_eq_true, decide_eq_true_eq, decide_eq_true_eq]
theorem low_iff (u : Int) : low u = true ↔ 56320 ≤ u ∧ u < 57344 := by
  unfold low
  rw [bif_and, Bool.and_eq_true, decide_eq_true_eq, decide_eq_true_eq]

/-- what is told of the unit at a place, and how many units that were -/
def encU (e : ByteArray) (i : Nat) : List Int × Nat :=
  if high (un e i) = true ∧ i + 1 < ul e ∧ low (un e (i + 1)) = true then (enc8 (65536 + (un e i - 55296) * 1024 + (un e (i + 1) - 56320)), 2)
  else if high (un e i) = true ∨ low (un e i) = true then (esc (un e i), 1) else (enc8 (un e i), 1)

theorem encU_spec (e : ByteArray) (i : Nat) : 1 ≤ (encU e i).2 ∧ (encU e i).2 ≤ 2 ∧ (encU e i).1.length ≤ 6 * (encU e i).2 ∧ (i < ul e → i + (encU e i).2 ≤ ul e) := by
  unfold encU
  split
  · next h => have := enc8_length (65536 + (un e i - 55296) * 1024 + (un e (i + 1) - 56320)); exact ⟨by simp, by simp, by simp only []; omega, fun _ => by simp only []; omega⟩
  · split
    · exact ⟨by simp, by simp, by simp only [esc_length]; omega, fun _ => by simp only []; omega⟩
    · have := enc8_length (un e i); exact ⟨by simp, by simp, by simp only []; omega, fun _ => by simp only []; omega⟩

def encG (e : ByteArray) : Nat → Nat → List Int → List Int
  | 0, _, l => l
  | f + 1, i, l => if ul e ≤ i then l else encG e f (i + (encU e i).2) (l ++ (encU e i).1)

/-- what Encode tells -/
def encL (e : ByteArray) : List Int := encG e (ul e) 0 []

section
variable {P : Program} {c : Code} {S : Int → List Int → Nat → AS} {X : List Int → Nat → AS}

theorem enc_loop (e : ByteArray) {x : Exit} (hx : x ≠ .normal)
    (step : ∀ (i : Nat) l n0, i < ul e → l.length ≤ 6 * i → n0 ≤ l.length → ∃ n1, n1 ≤ (l ++ (encU e i).1).length ∧ To P c (S i l n0) .normal (S ((i + (encU e i).2 : Nat) : Int) (l ++ (encU e i).1) n1))
    (done : ∀ (i : Nat) l n0, ul e ≤ i → To P c (S i l n0) x (X l n0)) : ∀ (f i : Nat) (l : List Int) (n0 : Nat), ul e ≤ i + f → l.length ≤ 6 * i → n0 ≤ l.length →
    ∃ n1, n1 ≤ (encG e f i l).length ∧ LoopTo P c (S i l n0) x (X (encG e f i l) n1) := by
  intro f
  induction f with
  | zero =>
    intro i l n0 hf hl h0
    exact ⟨n0, h0, .done hx (done i l n0 (by omega))⟩
  | succ f ih =>
    intro i l n0 hf hl h0
    simp only [encG]
    by_cases c1 : ul e ≤ i
    · rw [if_pos c1]
      exact ⟨n0, h0, .done hx (done i l n0 c1)⟩
    · rw [if_neg c1]
      obtain ⟨n1, h1, hst⟩ := step i l n0 (by omega) hl h0
      have hs := encU_spec e i
      obtain ⟨n2, h2, hl2⟩ := ih (i + (encU e i).2) (l ++ (encU e i).1) n1 (by omega) (by rw [List.length_append]; omega) h1
      exact ⟨n2, h2, .step hst hl2⟩
end

theorem and15 {x : Int} (h : 0 ≤ x ∧ x < 65536) : bitsOf .and .u16 x 15 = x % 16 := and_low (k := .u16) rfl (s := 4) h.1 (by show x < 65536; omega) (by decide)
theorem and1023 {x : Int} (h : 0 ≤ x ∧ x < 65536) : bitsOf .and .u16 x 1023 = x % 1024 := and_low (k := .u16) rfl (s := 10) h.1 (by show x < 65536; omega) (by decide)

theorem renc_c {s : ByteArray} (hs : SM s) : PureTo Tryd.prog 18 [.v (.string s)] (.v (.string (strOfInts (encL s)))) := by
  have hz := hs.sz
  unfold SM at hs
  have hul : ul s ≤ s.size := by unfold ul; omega
  obtain ⟨n1, h1, hl⟩ := enc_loop (P := Tryd.prog) (c := loopAt Tryd.f18 0) (S := fun i l n0 => rencS0 s i l n0) (X := fun l n1 => rencX0 s l n1) (x := .exit 0) s (by simp)
    (fun i l n0 hi hl h0 => by
      have hu := un_lt s i
      have hv := un_lt s (i + 1)
      have e1 : ((i : Int) + 1).toNat = i + 1 := by omega
      have lt1 : decide ((i : Int) < (ul s : Int)) = true := by simpa using hi
      have b1 := and15 (x := un s i / 256) (by omega)
      have b2 := and15 (x := un s i / 16) (by omega)
      have b3 := and15 (x := un s i) (by omega)
      unfold encU
      cases H : high (un s i)
      · have hH : ¬ high (un s i) = true := by rw [H]; simp
        rw [if_neg (fun h => by simp at h)]
        cases L : low (un s i)
        · rw [if_neg (by simp)]
          refine ⟨_, Nat.le_refl _, ?_⟩
          have := rencL0_10 s i l n0
          simp only [Int.toNat_natCast] at this
          exact this ⟨hz, lt1, hz, by omega, H, H, L, by simp only [inR]; omega, rfl, by first | rfl | trivial, by first | rfl | trivial, by omega, by unfold lim; omega, by simp only [inR]; omega, trivial⟩
        · rw [if_pos (by simp)]
          refine ⟨n0, by simp only [List.length_append]; omega, ?_⟩
          have := rencL0_9 s i l n0
          simp only [Int.toNat_natCast, b1, b2, b3] at this
          exact this ⟨hz, lt1, hz, by omega, H, H, L, by omega, by omega, by omega, by omega, by omega, by omega, by omega, by first | rfl | trivial, by first | rfl | trivial, by simp; omega, by simp only [inR]; omega, trivial⟩
      · have hH := (high_iff _).1 H
        by_cases C : i + 1 < ul s
        · have lt2 : decide ((i : Int) + 1 < (ul s : Int)) = true := by simp; omega
          cases L : low (un s (i + 1))
          · rw [if_neg (fun h => by simp at h), if_pos (by simp)]
            refine ⟨n0, by simp only [List.length_append]; omega, ?_⟩
            have := rencL0_2 s i l n0
            simp only [Int.toNat_natCast, e1, b1, b2, b3] at this
            exact this ⟨hz, lt1, hz, by omega, H, by simp only [inR]; omega, hz, lt2, by simp only [inR]; omega, hz, by omega, L, H, by omega, by omega, by omega, by omega, by omega, by omega, by omega, by first | rfl | trivial, by first | rfl | trivial, by simp; omega, by simp only [inR]; omega, trivial⟩
          · have hL := (low_iff _).1 L
            rw [if_pos ⟨by simp, C, by simp⟩]
            refine ⟨_, Nat.le_refl _, ?_⟩
            have m1 : (un s i - 55296) % 65536 = un s i - 55296 := by omega
            have m2 : (un s (i + 1) - 56320) % 65536 = un s (i + 1) - 56320 := by omega
            have := rencL0_1 s i l n0
            simp only [Int.toNat_natCast, e1, m1, m2] at this
            exact this ⟨hz, lt1, hz, by omega, H, by simp only [inR]; omega, hz, lt2, by simp only [inR]; omega, hz, by omega, L, by simp only [inR]; omega, by simp only [inR]; omega, by omega, by simp only [inR]; omega, by simp only [inR]; omega, hz, by omega, by simp only [inR]; omega, by simp only [inR]; omega, rfl, by first | rfl | trivial, by first | rfl | trivial, by omega, by unfold lim; omega, by simp only [inR]; omega, trivial⟩
        · have lt2 : decide ((i : Int) + 1 < (ul s : Int)) = false := by simp; omega
          rw [if_neg (fun h => C h.2.1), if_pos (by simp)]
          refine ⟨n0, by simp only [List.length_append]; omega, ?_⟩
          have := rencL0_5 s i l n0
          simp only [Int.toNat_natCast, e1, b1, b2, b3] at this
          exact this ⟨hz, lt1, hz, by omega, H, by simp only [inR]; omega, hz, lt2, H, by omega, by omega, by omega, by omega, by omega, by omega, by omega, by first | rfl | trivial, by first | rfl | trivial, by simp; omega, by simp only [inR]; omega, trivial⟩)
    (fun i l n0 hi => rencL0_11 s i l n0 ⟨hz, by simpa using hi, trivial⟩) (ul s) 0 [] 0 (by omega) (by simp) (Nat.le_refl _)
  exact rencF1 s _ n1 ⟨hl, rfl, h1, trivial⟩


theorem evn_ul (s : ByteArray) : ul (evn s) = ul s := by
  unfold evn
  unfold ul
  rw [ByteArray.size_extract]
  omega

theorem evn_size (s : ByteArray) : (evn s).size = 2 * ul s := by
  unfold evn ul
  rw [ByteArray.size_extract]
  omega

theorem evn_byte (s : ByteArray) {i : Nat} (h : i < 2 * ul s) : byteAt (evn s) i = byteAt s i := by
  unfold evn byteAt
  rw [extract_list, List.drop_zero]
  simp only [List.getD_eq_getElem?_getD, List.getElem?_take, h, if_true]

theorem evn_un (s : ByteArray) {i : Nat} (h : i < ul s) : un (evn s) i = un s i := by
  unfold un
  rw [evn_byte s (by omega), evn_byte s (by omega)]

theorem encU_evn (s : ByteArray) {i : Nat} (h : i < ul s) : encU (evn s) i = encU s i := by
  unfold encU
  rw [evn_ul, evn_un s h]
  by_cases c : i + 1 < ul s
  · rw [evn_un s c]
  · have h1 : ¬ (high (un s i) = true ∧ i + 1 < ul s ∧ low (un (evn s) (i + 1)) = true) := fun x => c x.2.1
    have h2 : ¬ (high (un s i) = true ∧ i + 1 < ul s ∧ low (un s (i + 1)) = true) := fun x => c x.2.1
    rw [if_neg h1, if_neg h2]

theorem encG_evn (s : ByteArray) : ∀ (f i : Nat) (l : List Int), encG (evn s) f i l = encG s f i l
  | 0, _, _ => rfl
  | f + 1, i, l => by
    simp only [encG]
    rw [evn_ul]
    by_cases c : ul s ≤ i
    · rw [if_pos c, if_pos c]
    · rw [if_neg c, if_neg c, encU_evn s (by omega), encG_evn s f]

theorem encL_evn (s : ByteArray) : encL (evn s) = encL s := by
  unfold encL
  rw [evn_ul, encG_evn]

theorem hex_loop (s : ByteArray) (i : Int) (l : List Int) (n : Nat) (hl : l.length < lim) : LoopTo Tryd.prog (loopAt Tryd.f17 1) (encS1 s i 12 l n) (.exit 3) (encX1 s i (l ++ hex4 (un (evn s) i.toNat)) n) := by
  unfold lim at hl
  have hu := un_lt (evn s) i.toNat
  have p1 : (2 : Int) ^ min (12 : Int).toNat 16 = 4096 := rfl
  have p2 : (2 : Int) ^ min (8 : Int).toNat 16 = 256 := rfl
  have p3 : (2 : Int) ^ min (4 : Int).toNat 16 = 16 := rfl
  have p4 : (2 : Int) ^ min (0 : Int).toNat 16 = 1 := rfl
  have b0 : bitsOf .and .u16 (un (evn s) i.toNat / 4096) 15 = un (evn s) i.toNat / 4096 := by rw [and15 (by omega)]; omega
  have b1 := and15 (x := un (evn s) i.toNat / 256) (by omega)
  have b2 := and15 (x := un (evn s) i.toNat / 16) (by omega)
  have b3 := and15 (x := un (evn s) i.toNat / 1) (by omega)
  have b4 : un (evn s) i.toNat / 1 % 16 = un (evn s) i.toNat % 16 := by omega
  rw [b4] at b3
  have s1 := encL1_1 s i 12 l n
  have s2 := encL1_1 s i 8 (l ++ [hx (un (evn s) i.toNat / 4096)]) n
  have s3 := encL1_1 s i 4 (l ++ [hx (un (evn s) i.toNat / 4096)] ++ [hx (un (evn s) i.toNat / 256 % 16)]) n
  have s4 := encL1_1 s i 0 (l ++ [hx (un (evn s) i.toNat / 4096)] ++ [hx (un (evn s) i.toNat / 256 % 16)] ++ [hx (un (evn s) i.toNat / 16 % 16)]) n
  simp only [p1, b0] at s1
  simp only [p2, b1] at s2
  simp only [p3, b2] at s3
  simp only [p4, b3] at s4
  refine .step (s1 ⟨rfl, by omega, by omega, by first | rfl | trivial, by first | rfl | trivial, by simp; omega, by simp only [inR]; omega, trivial⟩) ?_
  refine .step (s2 ⟨rfl, by omega, by omega, by first | rfl | trivial, by first | rfl | trivial, by simp; omega, by simp only [inR]; omega, trivial⟩) ?_
  refine .step (s3 ⟨rfl, by omega, by omega, by first | rfl | trivial, by first | rfl | trivial, by simp; omega, by simp only [inR]; omega, trivial⟩) ?_
  refine .step (s4 ⟨rfl, by omega, by omega, by first | rfl | trivial, by first | rfl | trivial, by simp; omega, by simp only [inR]; omega, trivial⟩) ?_
  have e : l ++ hex4 (un (evn s) i.toNat) = l ++ [hx (un (evn s) i.toNat / 4096)] ++ [hx (un (evn s) i.toNat / 256 % 16)] ++ [hx (un (evn s) i.toNat / 16 % 16)] ++ [hx (un (evn s) i.toNat % 16)] := by simp [hex4]
  rw [e]
  exact .done (by simp) (encL1_2 s i (-4) _ n ⟨rfl, trivial⟩)

theorem enc_pair {s : ByteArray} (hzE : SZ (evn s)) (hul : ul (evn s) < 4294967296) {i : Nat} {l : List Int} {n0 : Nat} (hi : i < ul (evn s)) (hl : l.length ≤ 6 * i) (hH : 55296 ≤ un (evn s) i ∧ un (evn s) i < 56320) (hL : 56320 ≤ un (evn s) (i + 1) ∧ un (evn s) (i + 1) < 57344) (C : i + 1 < ul (evn s)) :
    To Tryd.prog (loopAt Tryd.f17 0) (encS0 s i l n0) .normal (encS0 s ((i + 2 : Nat) : Int) (l ++ enc8 (65536 + (un (evn s) i - 55296) * 1024 + (un (evn s) (i + 1) - 56320))) (l ++ enc8 (65536 + (un (evn s) i - 55296) * 1024 + (un (evn s) (i + 1) - 56320))).length) := by
  have H := (high_iff _).2 hH
  have L := (low_iff _).2 hL
  have e1 : ((i : Int) + 1).toNat = i + 1 := by omega
  have lt1 : decide ((i : Int) < (ul (evn s) : Int)) = true := by simpa using hi
  have lt2 : decide ((i : Int) + 1 < (ul (evn s) : Int)) = true := by simp; omega
  have m1 : bitsOf .and .u16 (un (evn s) i) 1023 = un (evn s) i - 55296 := by rw [and1023 (by omega)]; omega
  have m2 : bitsOf .and .u16 (un (evn s) (i + 1)) 1023 = un (evn s) (i + 1) - 56320 := by rw [and1023 (by omega)]; omega
  have this := encL0_1 s i l [] n0 0
  simp only [Int.toNat_natCast, e1, m1, m2] at this
  clear m1 m2
  exact this ⟨lt1, hzE, by omega, H, by simp only [inR]; omega, lt2, by simp only [inR]; omega, hzE, by omega, L, by simp only [inR]; omega, by simp only [inR]; omega, by omega, by simp only [inR]; omega, by simp only [inR]; omega, hzE, by omega, by simp only [inR]; omega, by simp only [inR]; omega, rfl, by first | rfl | trivial, by first | rfl | trivial, by omega, by omega, by unfold lim; omega, by simp only [inR]; omega, trivial⟩

section
variable {s : ByteArray} {i : Nat} {l : List Int} {n0 : Nat}

theorem enc_hex (hl : l.length ≤ 6 * i) (hul : i < 4294967296) : LoopTo Tryd.prog (loopAt Tryd.f17 1) (encS1 s i 12 (l ++ [92, 117]) n0) (.exit 3) (encX1 s i (l ++ esc (un (evn s) i)) n0) := by
  have hex := hex_loop s i (l ++ [92, 117]) n0 (by rw [List.length_append]; unfold lim; simp; omega)
  have ee : l ++ [92, 117] ++ hex4 (un (evn s) (i : Int).toNat) = l ++ esc (un (evn s) i) := by rw [Int.toNat_natCast]; simp [esc]
  rw [ee] at hex
  exact hex

theorem enc_one (hzE : SZ (evn s)) (hul : ul (evn s) < 4294967296) (hi : i < ul (evn s)) (hl : l.length ≤ 6 * i) (H : high (un (evn s) i) = false) (L : low (un (evn s) i) = false) :
    To Tryd.prog (loopAt Tryd.f17 0) (encS0 s i l n0) .normal (encS0 s ((i + 1 : Nat) : Int) (l ++ enc8 (un (evn s) i)) (l ++ enc8 (un (evn s) i)).length) := by
  have hu := un_lt (evn s) i
  have lt1 : decide ((i : Int) < (ul (evn s) : Int)) = true := by simpa using hi
  have nH : ¬ (55296 ≤ un (evn s) i ∧ un (evn s) i < 56320) := fun h => by rw [(high_iff _).2 h] at H; cases H
  have nL : ¬ (56320 ≤ un (evn s) i ∧ un (evn s) i < 57344) := fun h => by rw [(low_iff _).2 h] at L; cases L
  have := encL0_10 s i l [] n0 0
  simp only [Int.toNat_natCast] at this
  exact this ⟨lt1, hzE, by omega, H, H, L, by simp only [inR]; omega, rfl, by first | rfl | trivial, by first | rfl | trivial, by omega, by omega, by unfold lim; omega, by simp only [inR]; omega, trivial⟩

theorem enc_e9 (hzE : SZ (evn s)) (hul : ul (evn s) < 4294967296) (hi : i < ul (evn s)) (hl : l.length ≤ 6 * i) (H : high (un (evn s) i) = false) (L : low (un (evn s) i) = true) :
    To Tryd.prog (loopAt Tryd.f17 0) (encS0 s i l n0) .normal (encS0 s ((i + 1 : Nat) : Int) (l ++ esc (un (evn s) i)) n0) := by
  have lt1 : decide ((i : Int) < (ul (evn s) : Int)) = true := by simpa using hi
  have hex := enc_hex (s := s) (n0 := n0) hl (by omega)
  have := encL0_9 s i l (l ++ esc (un (evn s) i)) n0 n0
  simp only [Int.toNat_natCast] at this
  exact this ⟨lt1, hzE, by omega, H, H, L, by first | rfl | trivial, by first | rfl | trivial, by simp; omega, hex, by simp only [inR]; omega, trivial⟩

theorem enc_e2 (hzE : SZ (evn s)) (hul : ul (evn s) < 4294967296) (hi : i < ul (evn s)) (hl : l.length ≤ 6 * i) (H : high (un (evn s) i) = true) (C : i + 1 < ul (evn s)) (L : low (un (evn s) (i + 1)) = false) :
    To Tryd.prog (loopAt Tryd.f17 0) (encS0 s i l n0) .normal (encS0 s ((i + 1 : Nat) : Int) (l ++ esc (un (evn s) i)) n0) := by
  have lt1 : decide ((i : Int) < (ul (evn s) : Int)) = true := by simpa using hi
  have lt2 : decide ((i : Int) + 1 < (ul (evn s) : Int)) = true := by simp; omega
  have e1 : ((i : Int) + 1).toNat = i + 1 := by omega
  have hex := enc_hex (s := s) (n0 := n0) hl (by omega)
  have := encL0_2 s i l (l ++ esc (un (evn s) i)) n0 n0
  simp only [Int.toNat_natCast, e1] at this
  exact this ⟨lt1, hzE, by omega, H, by simp only [inR]; omega, lt2, by simp only [inR]; omega, hzE, by omega, L, H, by first | rfl | trivial, by first | rfl | trivial, by simp; omega, hex, by simp only [inR]; omega, trivial⟩

theorem enc_e5 (hzE : SZ (evn s)) (hul : ul (evn s) < 4294967296) (hi : i < ul (evn s)) (hl : l.length ≤ 6 * i) (H : high (un (evn s) i) = true) (C : ¬ i + 1 < ul (evn s)) :
    To Tryd.prog (loopAt Tryd.f17 0) (encS0 s i l n0) .normal (encS0 s ((i + 1 : Nat) : Int) (l ++ esc (un (evn s) i)) n0) := by
  have lt1 : decide ((i : Int) < (ul (evn s) : Int)) = true := by simpa using hi
  have lt2 : decide ((i : Int) + 1 < (ul (evn s) : Int)) = false := by simp; omega
  have e1 : ((i : Int) + 1).toNat = i + 1 := by omega
  have hex := enc_hex (s := s) (n0 := n0) hl (by omega)
  have := encL0_5 s i l (l ++ esc (un (evn s) i)) n0 n0
  simp only [Int.toNat_natCast, e1] at this
  exact this ⟨lt1, hzE, by omega, H, by simp only [inR]; omega, lt2, H, by first | rfl | trivial, by first | rfl | trivial, by simp; omega, hex, by simp only [inR]; omega, trivial⟩
end

theorem enc_c {s : ByteArray} (hs : SM s) : PureTo Tryd.prog 17 [.v (.string s)] (.v (.string (strOfInts (encL s)))) := by
  have hz := hs.sz
  unfold SM at hs
  have hul : ul s ≤ s.size := by unfold ul; omega
  have hE : ul (evn s) = ul s := evn_ul s
  have hzE : SZ (evn s) := by unfold SZ; rw [evn_size]; omega
  have hul4 : ul (evn s) < 4294967296 := by rw [hE]; omega
  obtain ⟨n1, h1, hl⟩ := enc_loop (P := Tryd.prog) (c := loopAt Tryd.f17 0) (S := fun i l n0 => encS0 s i l n0) (X := fun l n1 => encX0 s l n1) (x := .exit 0) (evn s) (by simp)
    (fun i l n0 hi hl h0 => by
      have hfl : n0 ≤ (l ++ esc (un (evn s) i)).length := by rw [List.length_append]; omega
      unfold encU
      cases H : high (un (evn s) i)
      · rw [if_neg (fun h => by simp at h)]
        cases L : low (un (evn s) i)
        · rw [if_neg (by simp)]
          exact ⟨_, Nat.le_refl _, enc_one hzE hul4 hi hl H L⟩
        · rw [if_pos (by simp)]
          exact ⟨n0, hfl, enc_e9 hzE hul4 hi hl H L⟩
      · by_cases C : i + 1 < ul (evn s)
        · cases L : low (un (evn s) (i + 1))
          · rw [if_neg (fun h => by simp at h), if_pos (by simp)]
            exact ⟨n0, hfl, enc_e2 hzE hul4 hi hl H C L⟩
          · rw [if_pos ⟨by simp, C, by simp⟩]
            exact ⟨_, Nat.le_refl _, enc_pair hzE hul4 hi hl ((high_iff _).1 H) ((low_iff _).1 L) C⟩
        · rw [if_neg (fun h => C h.2.1), if_pos (by simp)]
          exact ⟨n0, hfl, enc_e5 hzE hul4 hi hl H C⟩)
    (fun i l n0 hi => encL0_11 s i l [] n0 0 ⟨by simpa using hi, trivial⟩) (ul (evn s)) 0 [] 0 (by omega) (by simp) (Nat.le_refl _)
  have h : PureTo Tryd.prog 17 [.v (.string s)] (.v (.string (strOfInts (encL (evn s))))) := encF1 s _ n1 ⟨hz, hzE, hl, rfl, h1, trivial⟩
  rwa [encL_evn] at h

end Go.Proofs.Us

/- Texts: Encode in the table. -/
set_option maxRecDepth 100000
namespace Go.Proofs.Us
open Go Go.Ev

def SG7 : SGT := (17, .p (sigS fun s => (.v (.string (strOfInts (encL s))), [SM s]))) :: (18, .p (sigS fun s => (.v (.string (strOfInts (encL s))), [SM s]))) :: SG6

theorem sok7 : SigsOK Tryd.prog SG7 := by
  refine sigs_cons (sigs_cons sok6 ?_) ?_
  · exact sigS_ok fun s h => renc_c h.1
  · exact sigS_ok fun s h => enc_c h.1

end Go.Proofs.Us

/- Texts: walks, written by the tool. -/
set_option maxRecDepth 100000
namespace Go.Proofs.Us
open Go Go.Ev

theorem awk_ev  (h : AllP [SM (ByteArray.mk #[(104 : UInt8), (195 : UInt8), (169 : UInt8)]), SM (decR (ByteArray.mk #[(104 : UInt8), (195 : UInt8), (169 : UInt8)])).fst]) : PureTo Tryd.prog 16 [] (AV.v (.bool true)) :=
  evFnM_pure hm sok7 (fn := Tryd.f16) rfl rfl (ti := false) (m := Mode.same) (hs := []) (c := _) (by kernel_rfl) (by kernel_rfl) h
def awk  : Bool := true
theorem awk_pure  (h : AllP [SM (ByteArray.mk #[(104 : UInt8), (195 : UInt8), (169 : UInt8)]), SM (decR (ByteArray.mk #[(104 : UInt8), (195 : UInt8), (169 : UInt8)])).fst]) : PureTo Tryd.prog 16 [] (AV.v (.bool (awk))) := awk_ev  h
end Go.Proofs.Us

/- Texts: more contracts in the table: awake, units, parts. -/
set_option maxRecDepth 100000
namespace Go.Proofs.Us
open Go Go.Ev

theorem awk_c : PureTo Tryd.prog 16 [] (.v (.bool true)) := awk_ev ⟨by unfold SM; decide, by unfold SM; decide +kernel, trivial⟩

theorem rslice_eq (s : ByteArray) (i j : Int) : rslice s i j = slice s i j := by
  unfold rslice slice
  have e1 : (bif decide (j > (ul s : Int)) then (ul s : Int) else j) = if (ul s : Int) < j then (ul s : Int) else j := by rw [bif_dec]
  have e2 : (bif decide (i < 0) then (0 : Int) else i) = if (0 : Int) > i then 0 else i := by rw [bif_dec]
  rw [e1, e2]

theorem slice_c {s : ByteArray} {i j : Int} (hs : SZ s) : PureTo Tryd.prog 21 [.v (.string s), .v (.int .i64 i), .v (.int .i64 j)] (.v (.string (slice s i j))) := by
  have hul : 2 * ul s ≤ s.size := by unfold ul; omega
  have hs' := hs
  unfold SZ at hs'
  refine slice_pure s i j ⟨hs, fun h => ?_, trivial⟩
  simp only [not_t, decide_eq_true_eq] at h
  have h0 : (0 : Int) ≤ if (0 : Int) > i then 0 else i := by split <;> omega
  have h1 : (if (ul s : Int) < j then (ul s : Int) else j) ≤ (ul s : Int) := by split <;> omega
  generalize (if (0 : Int) > i then (0 : Int) else i) = a at *
  generalize (if (ul s : Int) < j then (ul s : Int) else j) = b at *
  exact ⟨by simp only [inR]; omega, by simp only [inR]; omega, by omega, by omega, trivial⟩

theorem rslice_c {s : ByteArray} {i j : Int} (hs : SZ s) : PureTo Tryd.prog 22 [.v (.string s), .v (.int .i64 i), .v (.int .i64 j)] (.v (.string (slice s i j))) := by
  have hul : 2 * ul s ≤ s.size := by unfold ul; omega
  have hs' := hs
  unfold SZ at hs'
  rw [← rslice_eq]
  have e1 : (bif decide (j > (ul s : Int)) then (ul s : Int) else j) = if (ul s : Int) < j then (ul s : Int) else j := by rw [bif_dec]
  have e2 : (bif decide (i < 0) then (0 : Int) else i) = if (0 : Int) > i then 0 else i := by rw [bif_dec]
  refine rslice_pure s i j ⟨hs, fun _ => ⟨hs, trivial⟩, fun h => ?_, trivial⟩
  rw [e1, e2] at h ⊢
  simp only [not_t, decide_eq_true_eq] at h
  have h0 : (0 : Int) ≤ if (0 : Int) > i then 0 else i := by split <;> omega
  have h1 : (if (ul s : Int) < j then (ul s : Int) else j) ≤ (ul s : Int) := by split <;> omega
  generalize (if (0 : Int) > i then (0 : Int) else i) = a at *
  generalize (if (ul s : Int) < j then (ul s : Int) else j) = b at *
  exact ⟨by simp only [inR]; omega, by simp only [inR]; omega, by omega, by omega, trivial⟩

theorem unitOk_conds {s : ByteArray} {i : Int} (hs : SZ s) : AllP [(!decide (i < (0 : Int))) = true → AllP [SZ s], (!bif decide (i < (0 : Int)) then true else decide (i ≥ (↑(ul s) : Int))) = true → AllP [SZ s, (0 : Int) ≤ i ∧ i < (↑(ul s) : Int)]] := by
  refine ⟨fun _ => ⟨hs, trivial⟩, fun h => ⟨hs, ?_, trivial⟩, trivial⟩
  rw [bif_or, not_t, Bool.or_eq_true, decide_eq_true_eq, decide_eq_true_eq] at h
  omega

theorem unitOk_c {s : ByteArray} {i : Int} (hs : SZ s) : PureTo Tryd.prog 31 [.v (.string s), .v (.int .i64 i)] (.tup [.v (.int .u16 (unitOk_1 s i)), .v (.bool (unitOk_2 s i))]) := unitOk_pure s i (unitOk_conds hs)
theorem runitOk_c {s : ByteArray} {i : Int} (hs : SZ s) : PureTo Tryd.prog 20 [.v (.string s), .v (.int .i64 i)] (.tup [.v (.int .u16 (unitOk_1 s i)), .v (.bool (unitOk_2 s i))]) := runitOk_pure s i (unitOk_conds hs)

def SG8 : SGT := (16, .p (sigNo (.v (.bool true)))) :: (21, .p (sigSII fun s i j => (.v (.string (slice s i j)), [SZ s]))) :: (22, .p (sigSII fun s i j => (.v (.string (slice s i j)), [SZ s]))) ::
  (31, .p (sigSI fun s i => (.tup [.v (.int .u16 (unitOk_1 s i)), .v (.bool (unitOk_2 s i))], [SZ s]))) :: (20, .p (sigSI fun s i => (.tup [.v (.int .u16 (unitOk_1 s i)), .v (.bool (unitOk_2 s i))], [SZ s]))) :: SG7

theorem sok8 : SigsOK Tryd.prog SG8 := by
  refine sigs_cons (sigs_cons (sigs_cons (sigs_cons (sigs_cons sok7 ?_) ?_) ?_) ?_) (sigNo_ok awk_c)
  · exact sigSI_ok fun s i h => runitOk_c h.1
  · exact sigSI_ok fun s i h => unitOk_c h.1
  · exact sigSII_ok fun s i j h => rslice_c h.1
  · exact sigSII_ok fun s i j h => slice_c h.1

end Go.Proofs.Us

/- Texts: there and back: UTF-8. -/
set_option maxRecDepth 100000
namespace Go.Proofs.Us
open Go Go.Ev

theorem byteAt_ints (s : ByteArray) (j : Nat) : byteAt s j = (intsOfStr s).getD j 0 := by
  unfold byteAt intsOfStr
  simp only [List.getD_eq_getElem?_getD, List.getElem?_map]
  cases s.data.toList[j]? <;> rfl
theorem ints_byte (s : ByteArray) : ∀ x ∈ intsOfStr s, 0 ≤ x ∧ x ≤ 255 := by
  intro x hx
  obtain ⟨b, _, rfl⟩ := List.mem_map.1 hx
  have := b.toNat_lt
  omega
theorem ints_str {l : List Int} (h : ∀ x ∈ l, 0 ≤ x ∧ x ≤ 255) : intsOfStr (strOfInts l) = l := by
  unfold intsOfStr strOfInts
  simp only [List.toList_toArray, List.map_map]
  conv => rhs; rw [← List.map_id l]
  apply List.map_congr_left
  intro x hx
  obtain ⟨h0, h1⟩ := h x hx
  simp only [Function.comp, UInt8.toNat_ofNat', id]
  omega
theorem str_ints (s : ByteArray) : strOfInts (intsOfStr s) = s := by
  have h : (s.data.toList.map fun b => (b.toNat : Int)).map (fun n => UInt8.ofNat n.toNat) = s.data.toList := by
    rw [List.map_map]
    conv => rhs; rw [← List.map_id s.data.toList]
    apply List.map_congr_left
    intro x _
    simp
  unfold intsOfStr strOfInts
  rw [h]

/-- a code point that may stand -/
def V (p : Int) : Prop := (0 ≤ p ∧ p < 55296) ∨ (57344 ≤ p ∧ p ≤ 1114111)

theorem drop_getD {L : List Int} {i k : Nat} : (L.drop i).getD k 0 = L.getD (i + k) 0 := by
  simp [List.getD_eq_getElem?_getD, List.getElem?_drop]

theorem drop_one {L : List Int} {i : Nat} (h : i < L.length) : L.drop i = L.getD i 0 :: L.drop (i + 1) := by
  rw [List.drop_eq_getElem_cons h]
  congr 1
  simp [List.getD_eq_getElem?_getD, List.getElem?_eq_getElem h]

theorem goes_ints {s : ByteArray} {j : Nat} : goes s j ↔ j < (intsOfStr s).length ∧ 128 ≤ (intsOfStr s).getD j 0 ∧ (intsOfStr s).getD j 0 ≤ 191 := by
  unfold goes
  rw [byteAt_ints, intsOfStr_len]

/-- what is read is what would be written -/
theorem pt_bytes (s : ByteArray) (i : Nat) (hi : i < s.size) (hn : (pt s i).2 ≠ 0) : V (pt s i).1 ∧ (intsOfStr s).drop i = enc8 (pt s i).1 ++ (intsOfStr s).drop (i + (pt s i).2.toNat) := by
  have a0 := byteAt_lt s i
  have hl : i < (intsOfStr s).length := by rw [intsOfStr_len]; exact hi
  have d0 := drop_one hl
  revert hn
  unfold pt
  rw [byteAt_ints s i, byteAt_ints s (i + 1), byteAt_ints s (i + 2), byteAt_ints s (i + 3)] at *
  generalize e0 : (intsOfStr s).getD i 0 = b0 at *
  by_cases c1 : b0 < 128
  · rw [if_pos c1]
    intro _
    refine ⟨.inl ⟨by simp only []; omega, by simp only []; omega⟩, ?_⟩
    unfold enc8
    rw [if_pos c1]
    exact d0
  rw [if_neg c1]
  by_cases c2 : (194 ≤ b0 ∧ b0 < 224) ∧ goes s (i + 1)
  · rw [if_pos c2]
    intro _
    obtain ⟨g1, g2, g3⟩ := goes_ints.1 c2.2
    have d1 := drop_one g1
    generalize (intsOfStr s).getD (i + 1) 0 = b1 at *
    refine ⟨.inl ⟨by simp only []; omega, by simp only []; omega⟩, ?_⟩
    simp only []
    unfold enc8
    rw [if_neg (by omega), if_pos (by omega), d0, d1]
    have x0 : 192 + (b0 % 32 * 64 + b1 % 64) / 64 = b0 := by omega
    have x1 : 128 + (b0 % 32 * 64 + b1 % 64) % 64 = b1 := by omega
    rw [x0, x1]
    rfl
  rw [if_neg c2]
  by_cases c3 : ((224 ≤ b0 ∧ b0 < 240) ∧ goes s (i + 1)) ∧ goes s (i + 2)
  · rw [if_pos c3]
    obtain ⟨g1, g2, g3⟩ := goes_ints.1 c3.1.2
    obtain ⟨g4, g5, g6⟩ := goes_ints.1 c3.2
    have d1 := drop_one g1
    have d2 := drop_one g4
    generalize (intsOfStr s).getD (i + 1) 0 = b1 at *
    generalize (intsOfStr s).getD (i + 2) 0 = b2 at *
    split
    · next h =>
      intro _
      refine ⟨by unfold V; simp only []; omega, ?_⟩
      simp only []
      unfold enc8
      rw [if_neg (by omega), if_neg (by omega), if_pos (by omega), d0, d1, d2]
      have x0 : 224 + (b0 % 16 * 4096 + b1 % 64 * 64 + b2 % 64) / 4096 = b0 := by omega
      have x1 : 128 + (b0 % 16 * 4096 + b1 % 64 * 64 + b2 % 64) / 64 % 64 = b1 := by omega
      have x2 : 128 + (b0 % 16 * 4096 + b1 % 64 * 64 + b2 % 64) % 64 = b2 := by omega
      rw [x0, x1, x2]
      rfl
    · intro h; exact absurd rfl h
  rw [if_neg c3]
  by_cases c4 : (((240 ≤ b0 ∧ b0 < 245) ∧ goes s (i + 1)) ∧ goes s (i + 2)) ∧ goes s (i + 3)
  · rw [if_pos c4]
    obtain ⟨g1, g2, g3⟩ := goes_ints.1 c4.1.1.2
    obtain ⟨g4, g5, g6⟩ := goes_ints.1 c4.1.2
    obtain ⟨g7, g8, g9⟩ := goes_ints.1 c4.2
    have d1 := drop_one g1
    have d2 := drop_one g4
    have d3 := drop_one g7
    generalize (intsOfStr s).getD (i + 1) 0 = b1 at *
    generalize (intsOfStr s).getD (i + 2) 0 = b2 at *
    generalize (intsOfStr s).getD (i + 3) 0 = b3 at *
    split
    · next h =>
      intro _
      refine ⟨.inr ⟨by simp only []; omega, by simp only []; omega⟩, ?_⟩
      simp only []
      unfold enc8
      rw [if_neg (by omega), if_neg (by omega), if_neg (by omega), d0, d1, d2, d3]
      have x0 : 240 + (b0 % 8 * 262144 + b1 % 64 * 4096 + b2 % 64 * 64 + b3 % 64) / 262144 = b0 := by omega
      have x1 : 128 + (b0 % 8 * 262144 + b1 % 64 * 4096 + b2 % 64 * 64 + b3 % 64) / 4096 % 64 = b1 := by omega
      have x2 : 128 + (b0 % 8 * 262144 + b1 % 64 * 4096 + b2 % 64 * 64 + b3 % 64) / 64 % 64 = b2 := by omega
      have x3 : 128 + (b0 % 8 * 262144 + b1 % 64 * 4096 + b2 % 64 * 64 + b3 % 64) % 64 = b3 := by omega
      rw [x0, x1, x2, x3]
      rfl
    · intro h; exact absurd rfl h
  rw [if_neg c4]
  intro h; exact absurd rfl h

/-- what was written is what is read -/
theorem pt_enc8 (s : ByteArray) (i : Nat) {p : Int} {r : List Int} (hv : V p) (hd : (intsOfStr s).drop i = enc8 p ++ r) : i < s.size ∧ pt s i = (p, ((enc8 p).length : Int)) ∧ (intsOfStr s).drop (i + (enc8 p).length) = r := by
  have hlen : (intsOfStr s).length - i = (enc8 p).length + r.length := by
    have := congrArg List.length hd
    simpa using this
  have hpos : 1 ≤ (enc8 p).length := by
    unfold enc8
    split
    · exact Nat.le_refl _
    · split
      · simp
      · split <;> simp
  have hrest : (intsOfStr s).drop (i + (enc8 p).length) = r := by
    have := congrArg (List.drop (enc8 p).length) hd
    simpa [List.drop_drop] using this
  refine ⟨by rw [← intsOfStr_len]; omega, ?_, hrest⟩
  have gt : ∀ k, k < (enc8 p).length → byteAt s (i + k) = (enc8 p).getD k 0 ∧ i + k < s.size := by
    intro k hk
    refine ⟨?_, by rw [← intsOfStr_len]; omega⟩
    rw [byteAt_ints, ← drop_getD, hd]
    simp [List.getD_eq_getElem?_getD, List.getElem?_append_left hk]
  clear hd hrest hlen hpos
  unfold V at hv
  unfold enc8 at *
  by_cases c1 : p < 128
  · simp only [if_pos c1] at gt ⊢
    have g0 := (gt 0 (by simp)).1
    simp at g0
    unfold pt
    rw [if_pos (by omega), g0]
    rfl
  simp only [if_neg c1] at gt ⊢
  by_cases c2 : p < 2048
  · simp only [if_pos c2] at gt ⊢
    have g0 := (gt 0 (by simp)).1
    have g1 := gt 1 (by simp)
    simp at g0 g1
    have go1 : goes s (i + 1) := ⟨g1.2, by omega, by omega⟩
    unfold pt
    rw [if_neg (by omega), if_pos ⟨by omega, go1⟩, g0, g1.1]
    have : (192 + p / 64) % 32 * 64 + (128 + p % 64) % 64 = p := by omega
    rw [this]
    rfl
  simp only [if_neg c2] at gt ⊢
  by_cases c3 : p < 65536
  · simp only [if_pos c3] at gt ⊢
    have g0 := (gt 0 (by simp)).1
    have g1 := gt 1 (by simp)
    have g2 := gt 2 (by simp)
    simp at g0 g1 g2
    have go1 : goes s (i + 1) := ⟨g1.2, by omega, by omega⟩
    have go2 : goes s (i + 2) := ⟨g2.2, by omega, by omega⟩
    have : (224 + p / 4096) % 16 * 4096 + (128 + p / 64 % 64) % 64 * 64 + (128 + p % 64) % 64 = p := by omega
    unfold pt
    rw [if_neg (by omega), if_neg (by omega), if_pos ⟨⟨by omega, go1⟩, go2⟩, g0, g1.1, g2.1, this, if_pos (by omega)]
    rfl
  simp only [if_neg c3] at gt ⊢
  have g0 := (gt 0 (by simp)).1
  have g1 := gt 1 (by simp)
  have g2 := gt 2 (by simp)
  have g3 := gt 3 (by simp)
  simp at g0 g1 g2 g3
  have go1 : goes s (i + 1) := ⟨g1.2, by omega, by omega⟩
  have go2 : goes s (i + 2) := ⟨g2.2, by omega, by omega⟩
  have go3 : goes s (i + 3) := ⟨g3.2, by omega, by omega⟩
  have : (240 + p / 262144) % 8 * 262144 + (128 + p / 4096 % 64) % 64 * 4096 + (128 + p / 64 % 64) % 64 * 64 + (128 + p % 64) % 64 = p := by omega
  unfold pt
  rw [if_neg (by omega), if_neg (by omega), if_neg (by omega), if_pos ⟨⟨⟨by omega, go1⟩, go2⟩, go3⟩, g0, g1.1, g2.1, g3.1, this, if_pos (by omega)]
  rfl
theorem inW {s : ByteArray} (hs : SM s) {i : Nat} (hi : i < ul s) : (0 : Int) ≤ i ∧ (i : Int) < (↑(ul s) : Int) := ⟨by omega, by omega⟩
theorem inRW {s : ByteArray} (hs : SM s) {i : Int} (h0 : -1 ≤ i) (hi : i ≤ 2 * ul s + 2) : inR IntKind.i64 i := by
  have hu : ul s ≤ s.size := by unfold ul; omega
  unfold SM at hs
  simp only [inR]; omega


theorem drop_units {s : ByteArray} {i : Nat} (h : i < ul s) : (intsOfStr s).drop (2 * i) = ub (un s i) ++ (intsOfStr s).drop (2 * (i + 1)) := by
  have hl := intsOfStr_len s
  unfold ul at h
  rw [drop_one (by omega), drop_one (i := 2 * i + 1) (by omega), ← byteAt_ints, ← byteAt_ints]
  have a0 := byteAt_lt s (2 * i)
  have a1 := byteAt_lt s (2 * i + 1)
  unfold ub un
  have e0 : (byteAt s (2 * i) * 256 + byteAt s (2 * i + 1)) / 256 = byteAt s (2 * i) := by omega
  have e1 : (byteAt s (2 * i) * 256 + byteAt s (2 * i + 1)) % 256 = byteAt s (2 * i + 1) := by omega
  rw [e0, e1]
  rfl

end Go.Proofs.Us

/- Texts: walks, written by the tool. -/
set_option maxRecDepth 100000
namespace Go.Proofs.Us
open Go Go.Ev
def rcmpS0 (s t : ByteArray) (x0 : Int) : AS := { n := 42, fr := [(0, AV.v (.string s)), (1, AV.v (.string t)), (5, AV.v (.int .i64 x0))], hp := [], nx := 0 }
def rcmpX0 (s t : ByteArray)  : AS := { n := 42, fr := [(0, AV.v (.string s)), (1, AV.v (.string t))], hp := [], nx := 0 }
def rcmpX0_1 (s t : ByteArray) (x1 : Int) : AS := { n := 42, fr := [(4, AV.v (.int .i64 x1))], hp := [], nx := 0 }
-- 5 paths
theorem rcmpL0_1 (s t : ByteArray) (x0 : Int) (h : AllP [SZ s, decide (x0 < (↑(ul s) : Int)) = true, SZ t, decide (x0 < (↑(ul t) : Int)) = true, SZ s, (0 : Int) ≤ x0 ∧ x0 < (↑(ul s) : Int), SZ t, (0 : Int) ≤ x0 ∧ x0 < (↑(ul t) : Int), decide (un s x0.toNat < un t x0.toNat) = true]) : To Tryd.prog (loopAt Tryd.f51 0) ({ n := 42, fr := [(0, AV.v (.string s)), (1, AV.v (.string t)), (5, AV.v (.int .i64 x0))], hp := [], nx := 0 }) (Exit.ret) { n := 42, fr := [(4, AV.v (.int .i64 (-1 : Int)))], hp := [], nx := 0 } :=
  evW_to hm sok8 (hs := [CHint.ops 2 [(3, Hint.b true), (8, Hint.b true)], CHint.ops 6 [(2, Hint.b true)]]) (slots := [4]) (keys := []) (nx := 0) (c := _) (by kernel_rfl) h
theorem rcmpL0_2 (s t : ByteArray) (x0 : Int) (h : AllP [SZ s, decide (x0 < (↑(ul s) : Int)) = true, SZ t, decide (x0 < (↑(ul t) : Int)) = true, SZ s, (0 : Int) ≤ x0 ∧ x0 < (↑(ul s) : Int), SZ t, (0 : Int) ≤ x0 ∧ x0 < (↑(ul t) : Int), decide (un s x0.toNat < un t x0.toNat) = false, decide (un s x0.toNat > un t x0.toNat) = true]) : To Tryd.prog (loopAt Tryd.f51 0) ({ n := 42, fr := [(0, AV.v (.string s)), (1, AV.v (.string t)), (5, AV.v (.int .i64 x0))], hp := [], nx := 0 }) (Exit.ret) { n := 42, fr := [(4, AV.v (.int .i64 (1 : Int)))], hp := [], nx := 0 } :=
  evW_to hm sok8 (hs := [CHint.ops 2 [(3, Hint.b true), (8, Hint.b true)], CHint.ops 6 [(2, Hint.b false)], CHint.ops 8 [(2, Hint.b true)]]) (slots := [4]) (keys := []) (nx := 0) (c := _) (by kernel_rfl) h
theorem rcmpL0_3 (s t : ByteArray) (x0 : Int) (h : AllP [SZ s, decide (x0 < (↑(ul s) : Int)) = true, SZ t, decide (x0 < (↑(ul t) : Int)) = true, SZ s, (0 : Int) ≤ x0 ∧ x0 < (↑(ul s) : Int), SZ t, (0 : Int) ≤ x0 ∧ x0 < (↑(ul t) : Int), decide (un s x0.toNat < un t x0.toNat) = false, decide (un s x0.toNat > un t x0.toNat) = false, inR IntKind.i64 (x0 + (1 : Int))]) : To Tryd.prog (loopAt Tryd.f51 0) ({ n := 42, fr := [(0, AV.v (.string s)), (1, AV.v (.string t)), (5, AV.v (.int .i64 x0))], hp := [], nx := 0 }) (.normal) { n := 42, fr := [(0, AV.v (.string s)), (1, AV.v (.string t)), (5, AV.v (.int .i64 (x0 + (1 : Int))))], hp := [], nx := 0 } :=
  evW_to hm sok8 (hs := [CHint.ops 2 [(3, Hint.b true), (8, Hint.b true)], CHint.ops 6 [(2, Hint.b false)], CHint.ops 8 [(2, Hint.b false)]]) (slots := [0, 1, 5]) (keys := []) (nx := 0) (c := _) (by kernel_rfl) h
theorem rcmpL0_4 (s t : ByteArray) (x0 : Int) (h : AllP [SZ s, decide (x0 < (↑(ul s) : Int)) = true, SZ t, decide (x0 < (↑(ul t) : Int)) = false]) : To Tryd.prog (loopAt Tryd.f51 0) ({ n := 42, fr := [(0, AV.v (.string s)), (1, AV.v (.string t)), (5, AV.v (.int .i64 x0))], hp := [], nx := 0 }) (Exit.exit 0) { n := 42, fr := [(0, AV.v (.string s)), (1, AV.v (.string t))], hp := [], nx := 0 } :=
  evW_to hm sok8 (hs := [CHint.ops 2 [(3, Hint.b true), (8, Hint.b false)]]) (slots := [0, 1]) (keys := []) (nx := 0) (c := _) (by kernel_rfl) h
theorem rcmpL0_5 (s t : ByteArray) (x0 : Int) (h : AllP [SZ s, decide (x0 < (↑(ul s) : Int)) = false]) : To Tryd.prog (loopAt Tryd.f51 0) ({ n := 42, fr := [(0, AV.v (.string s)), (1, AV.v (.string t)), (5, AV.v (.int .i64 x0))], hp := [], nx := 0 }) (Exit.exit 0) { n := 42, fr := [(0, AV.v (.string s)), (1, AV.v (.string t))], hp := [], nx := 0 } :=
  evW_to hm sok8 (hs := [CHint.ops 2 [(3, Hint.b false)]]) (slots := [0, 1]) (keys := []) (nx := 0) (c := _) (by kernel_rfl) h
-- 4 paths
theorem rcmpF1 (s t : ByteArray) (x1 : Int) (h : AllP [LoopTo Tryd.prog (loopAt Tryd.f51 0) { n := 42, fr := [(0, AV.v (.string s)), (1, AV.v (.string t)), (5, AV.v (.int .i64 (0 : Int)))], hp := [], nx := 0 } (Exit.exit 0) { n := 42, fr := [(0, AV.v (.string s)), (1, AV.v (.string t))], hp := [], nx := 0 }, SZ s, SZ t, decide ((↑(ul s) : Int) < (↑(ul t) : Int)) = true]) : PureTo Tryd.prog 51 [.v (.string s), .v (.string t)] (AV.v (.int .i64 (-1 : Int))) :=
  evFn_pure hm sok8 (fn := Tryd.f51) rfl rfl (ti := false) (hs := [CHint.loop [0, 1, 5] [] 0 (Exit.exit 0) { n := 42, fr := [(0, AV.v (.string s)), (1, AV.v (.string t))], hp := [], nx := 0 }, CHint.ops 10 [(4, Hint.b true)]]) (c := _) (by kernel_rfl) h
theorem rcmpF2 (s t : ByteArray) (x1 : Int) (h : AllP [LoopTo Tryd.prog (loopAt Tryd.f51 0) { n := 42, fr := [(0, AV.v (.string s)), (1, AV.v (.string t)), (5, AV.v (.int .i64 (0 : Int)))], hp := [], nx := 0 } (Exit.exit 0) { n := 42, fr := [(0, AV.v (.string s)), (1, AV.v (.string t))], hp := [], nx := 0 }, SZ s, SZ t, decide ((↑(ul s) : Int) < (↑(ul t) : Int)) = false, SZ s, SZ t, decide ((↑(ul s) : Int) > (↑(ul t) : Int)) = true]) : PureTo Tryd.prog 51 [.v (.string s), .v (.string t)] (AV.v (.int .i64 (1 : Int))) :=
  evFn_pure hm sok8 (fn := Tryd.f51) rfl rfl (ti := false) (hs := [CHint.loop [0, 1, 5] [] 0 (Exit.exit 0) { n := 42, fr := [(0, AV.v (.string s)), (1, AV.v (.string t))], hp := [], nx := 0 }, CHint.ops 10 [(4, Hint.b false)], CHint.ops 12 [(4, Hint.b true)]]) (c := _) (by kernel_rfl) h
theorem rcmpF3 (s t : ByteArray) (x1 : Int) (h : AllP [LoopTo Tryd.prog (loopAt Tryd.f51 0) { n := 42, fr := [(0, AV.v (.string s)), (1, AV.v (.string t)), (5, AV.v (.int .i64 (0 : Int)))], hp := [], nx := 0 } (Exit.exit 0) { n := 42, fr := [(0, AV.v (.string s)), (1, AV.v (.string t))], hp := [], nx := 0 }, SZ s, SZ t, decide ((↑(ul s) : Int) < (↑(ul t) : Int)) = false, SZ s, SZ t, decide ((↑(ul s) : Int) > (↑(ul t) : Int)) = false]) : PureTo Tryd.prog 51 [.v (.string s), .v (.string t)] (AV.v (.int .i64 (0 : Int))) :=
  evFn_pure hm sok8 (fn := Tryd.f51) rfl rfl (ti := false) (hs := [CHint.loop [0, 1, 5] [] 0 (Exit.exit 0) { n := 42, fr := [(0, AV.v (.string s)), (1, AV.v (.string t))], hp := [], nx := 0 }, CHint.ops 10 [(4, Hint.b false)], CHint.ops 12 [(4, Hint.b false)]]) (c := _) (by kernel_rfl) h
theorem rcmpF4 (s t : ByteArray) (x1 : Int) (h : AllP [LoopTo Tryd.prog (loopAt Tryd.f51 0) { n := 42, fr := [(0, AV.v (.string s)), (1, AV.v (.string t)), (5, AV.v (.int .i64 (0 : Int)))], hp := [], nx := 0 } Exit.ret { n := 42, fr := [(4, AV.v (.int .i64 x1))], hp := [], nx := 0 }]) : PureTo Tryd.prog 51 [.v (.string s), .v (.string t)] (AV.v (.int .i64 x1)) :=
  evFn_pure hm sok8 (fn := Tryd.f51) rfl rfl (ti := false) (hs := [CHint.loop [0, 1, 5] [] 0 Exit.ret { n := 42, fr := [(4, AV.v (.int .i64 x1))], hp := [], nx := 0 }]) (c := _) (by kernel_rfl) h
end Go.Proofs.Us

/- Texts: does a text stand at a place? The order of bytes. -/
set_option maxRecDepth 100000
namespace Go.Proofs.Us
open Go Go.Ev

theorem stands_c {s t : ByteArray} {i : Int} (hs : SM s) (ht : SM t) (h0 : 0 ≤ i) (h1 : i ≤ 8589934592) : PureTo Tryd.prog 74 [.v (.string s), .v (.string t), .v (.int .i64 i)] (.v (.bool (stands s t i))) := by
  have hz := hs.sz
  have hz2 := ht.sz
  have hu : 2 * ul s ≤ s.size := by unfold ul; omega
  have hu2 : 2 * ul t ≤ t.size := by unfold ul; omega
  unfold SM at hs ht
  refine stands_pure s t i ⟨fun h => ?_, fun _ => ⟨hz2, by simp only [inR]; omega, hz, trivial⟩, trivial⟩
  have h := of_decide_eq_true h
  exact ⟨hz2, by simp only [inR]; omega, hz, by simp only [inR]; omega, by simp only [inR]; omega, hz2, by simp only [inR]; omega, by simp only [inR]; omega, ⟨by omega, by omega⟩, ⟨by omega, by omega⟩, hz2, by simp only [inR]; omega, ⟨by omega, by omega⟩, trivial⟩

def SGB : SGT := (74, .p (sigSSI fun s t i => (.v (.bool (stands s t i)), [SM s, SM t, 0 ≤ i, i ≤ 8589934592]))) :: SG8
theorem sokB : SigsOK Tryd.prog SGB := sigs_cons sok8 (sigSSI_ok fun s t i h => stands_c h.1 h.2.1 h.2.2.1 h.2.2.2.1)

def lenCmp (s t : ByteArray) : Int := if ul s < ul t then -1 else if ul t < ul s then 1 else 0
def cmpG (s t : ByteArray) : Nat → Nat → Int
  | 0, _ => lenCmp s t
  | f + 1, i => if i < ul s ∧ i < ul t then (if un s i < un t i then -1 else if un t i < un s i then 1 else cmpG s t f (i + 1)) else lenCmp s t
/-- the order of two texts -/
def cmpS (s t : ByteArray) : Int := cmpG s t (ul s) 0

theorem rcmp_loop (s t : ByteArray) (hs : SM s) (ht : SM t) : ∀ f i, ul s ≤ i + f →
    LoopTo Tryd.prog (loopAt Tryd.f51 0) (rcmpS0 s t (i : Nat)) .ret (rcmpX0_1 s t (cmpG s t f i)) ∨ (LoopTo Tryd.prog (loopAt Tryd.f51 0) (rcmpS0 s t (i : Nat)) (.exit 0) (rcmpX0 s t) ∧ cmpG s t f i = lenCmp s t)
  | 0, i, hf => .inr ⟨.done (by simp) (rcmpL0_5 s t i ⟨hs.sz, by simp; omega, trivial⟩), rfl⟩
  | f + 1, i, hf => by
    unfold cmpG
    by_cases c1 : i < ul s
    · have d1 : decide ((i : Int) < (↑(ul s) : Int)) = true := by simpa using c1
      by_cases c2 : i < ul t
      · have d2 : decide ((i : Int) < (↑(ul t) : Int)) = true := by simpa using c2
        rw [if_pos ⟨c1, c2⟩]
        by_cases c3 : un s i < un t i
        · rw [if_pos c3]
          exact .inl (.done (by simp) (rcmpL0_1 s t i ⟨hs.sz, d1, ht.sz, d2, hs.sz, inW hs c1, ht.sz, inW ht c2, decide_eq_true c3, trivial⟩))
        · rw [if_neg c3]
          by_cases c4 : un t i < un s i
          · rw [if_pos c4]
            exact .inl (.done (by simp) (rcmpL0_2 s t i ⟨hs.sz, d1, ht.sz, d2, hs.sz, inW hs c1, ht.sz, inW ht c2, decide_eq_false c3, decide_eq_true c4, trivial⟩))
          · rw [if_neg c4]
            have st := rcmpL0_3 s t i ⟨hs.sz, d1, ht.sz, d2, hs.sz, inW hs c1, ht.sz, inW ht c2, decide_eq_false c3, decide_eq_false c4, inRW hs (by omega) (by omega), trivial⟩
            rcases rcmp_loop s t hs ht f (i + 1) (by omega) with h | ⟨h, e⟩
            · exact .inl (.step st h)
            · exact .inr ⟨.step st h, e⟩
      · rw [if_neg (by omega)]
        exact .inr ⟨.done (by simp) (rcmpL0_4 s t i ⟨hs.sz, d1, ht.sz, by simp; omega, trivial⟩), rfl⟩
    · rw [if_neg (by omega)]
      exact .inr ⟨.done (by simp) (rcmpL0_5 s t i ⟨hs.sz, by simp; omega, trivial⟩), rfl⟩

theorem rcmp_c {s t : ByteArray} (hs : SM s) (ht : SM t) : PureTo Tryd.prog 51 [.v (.string s), .v (.string t)] (.v (.int .i64 (cmpS s t))) := by
  unfold cmpS
  rcases rcmp_loop s t hs ht (ul s) 0 (by omega) with h | ⟨h, e⟩
  · exact rcmpF4 (s := s) (t := t) (x1 := cmpG s t (ul s) 0) (h := ⟨h, trivial⟩)
  · rw [e]
    unfold lenCmp
    by_cases c1 : ul s < ul t
    · rw [if_pos c1]
      exact rcmpF1 (s := s) (t := t) (x1 := 0) (h := ⟨h, hs.sz, ht.sz, by simpa using c1, trivial⟩)
    · rw [if_neg c1]
      by_cases c2 : ul t < ul s
      · rw [if_pos c2]
        exact rcmpF2 (s := s) (t := t) (x1 := 0) (h := ⟨h, hs.sz, ht.sz, by simp; omega, hs.sz, ht.sz, by simpa using c2, trivial⟩)
      · rw [if_neg c2]
        exact rcmpF3 (s := s) (t := t) (x1 := 0) (h := ⟨h, hs.sz, ht.sz, by simp; omega, hs.sz, ht.sz, by simp; omega, trivial⟩)

/-- the order of bytes, as numbers -/
def ltI : List Int → List Int → Bool
  | _, [] => false
  | [], _ :: _ => true
  | x :: xs, y :: ys => decide (x < y) || (x == y && ltI xs ys)
theorem bytesLess_ints : ∀ x y : List UInt8, Op.bytesLess x y = ltI (x.map fun b => (b.toNat : Int)) (y.map fun b => (b.toNat : Int))
  | [], [] => rfl
  | _ :: _, [] => rfl
  | [], _ :: _ => rfl
  | a :: x, b :: y => by
    have h := bytesLess_ints x y
    show (decide (a < b) || (a == b && Op.bytesLess x y)) = (decide ((a.toNat : Int) < (b.toNat : Int)) || (((a.toNat : Int) == (b.toNat : Int)) && ltI _ _))
    rw [h]
    congr 1
    · rw [decide_eq_decide, UInt8.lt_iff_toNat_lt]; omega
    · congr 1
      rw [Bool.eq_iff_iff]
      simp only [beq_iff_eq]
      constructor
      · rintro rfl; rfl
      · intro h; exact UInt8.toNat_inj.1 (by omega)
def cmpI (a b : List Int) : Int := if ltI a b = true then -1 else if a = b then 0 else 1
theorem cmpI_ub {u v : Int} (hu : 0 ≤ u ∧ u ≤ 65535) (hv : 0 ≤ v ∧ v ≤ 65535) (x y : List Int) : cmpI (ub u ++ x) (ub v ++ y) = if u < v then -1 else if v < u then 1 else cmpI x y := by
  unfold cmpI ub
  simp only [List.cons_append, List.nil_append, ltI, Bool.or_eq_true, Bool.and_eq_true, decide_eq_true_eq, beq_iff_eq, List.cons.injEq]
  by_cases c1 : u < v
  · rw [if_pos c1, if_pos (by omega)]
  · rw [if_neg c1]
    by_cases c2 : v < u
    · rw [if_pos c2, if_neg (by omega), if_neg (by omega)]
    · rw [if_neg c2]
      have : u = v := by omega
      subst this
      simp
theorem evn_ints (s : ByteArray) : intsOfStr (evn s) = (intsOfStr s).take (2 * ul s) := by
  unfold evn intsOfStr
  simp [ByteArray.data_extract, Array.toList_extract, List.map_take]
theorem evn_units {s : ByteArray} {i : Nat} (h : i < ul s) : (intsOfStr (evn s)).drop (2 * i) = ub (un s i) ++ (intsOfStr (evn s)).drop (2 * (i + 1)) := by
  have e := drop_units h
  have hl := intsOfStr_len s
  have hu : 2 * ul s ≤ s.size := by unfold ul; omega
  rw [evn_ints, List.drop_take, List.drop_take, e, show 2 * ul s - 2 * i = (2 * ul s - 2 * (i + 1)) + 2 from by omega]
  rfl
theorem evn_end {s : ByteArray} {i : Nat} (h : ul s ≤ i) : (intsOfStr (evn s)).drop (2 * i) = [] := by
  rw [evn_ints, List.drop_take, show 2 * ul s - 2 * i = 0 from by omega, List.take_zero]
theorem cmpG_eq (s t : ByteArray) : ∀ f i, ul s ≤ i + f → i ≤ ul s → i ≤ ul t → cmpG s t f i = cmpI ((intsOfStr (evn s)).drop (2 * i)) ((intsOfStr (evn t)).drop (2 * i)) := by
  have fin : ∀ i, i ≤ ul s → i ≤ ul t → ¬ (i < ul s ∧ i < ul t) → lenCmp s t = cmpI ((intsOfStr (evn s)).drop (2 * i)) ((intsOfStr (evn t)).drop (2 * i)) := by
    intro i h1 h2 h3
    unfold lenCmp
    by_cases c1 : i < ul s
    · rw [evn_units c1, evn_end (s := t) (by omega), if_neg (by omega), if_pos (by omega)]
      rfl
    · rw [evn_end (s := s) (by omega)]
      by_cases c2 : i < ul t
      · rw [evn_units c2, if_pos (by omega)]
        rfl
      · rw [evn_end (s := t) (by omega), if_neg (by omega), if_neg (by omega)]
        rfl
  intro f
  induction f with
  | zero => intro i h h1 h2; exact fin i h1 h2 (by omega)
  | succ f ih =>
    intro i h h1 h2
    unfold cmpG
    split
    · next hc =>
      rw [evn_units hc.1, evn_units hc.2, cmpI_ub (un_lt s i) (un_lt t i), ih (i + 1) (by omega) (by omega) (by omega)]
    · next hc => exact fin i h1 h2 hc
theorem cmpS_eq (s t : ByteArray) : cmpS s t = cmpI (intsOfStr (evn s)) (intsOfStr (evn t)) := by
  have := cmpG_eq s t (ul s) 0 (by omega) (by omega) (by omega)
  unfold cmpS
  simpa using this
end Go.Proofs.Us

/- Texts: walks, written by the tool. -/
set_option maxRecDepth 100000
namespace Go.Proofs.Us
open Go Go.Ev
def rlastS0 (s t : ByteArray) (i : Int) (x0 : Int) : AS := { n := 24, fr := [(0, AV.v (.string s)), (1, AV.v (.string t)), (7, AV.v (.int .i64 x0))], hp := [], nx := 0 }
def rlastX0 (s t : ByteArray) (i : Int)  : AS := { n := 24, fr := [], hp := [], nx := 0 }
def rlastX0_1 (s t : ByteArray) (i : Int) (x1 : Int) : AS := { n := 24, fr := [(6, AV.v (.int .i64 x1))], hp := [], nx := 0 }
def lastS0 (s t : ByteArray) (i : Int) (x0 : Int) : AS := { n := 35, fr := [(0, AV.v (.string (evn s))), (1, AV.v (.string (evn t))), (7, AV.v (.int .i64 x0))], hp := [], nx := 0 }
def lastX0 (s t : ByteArray) (i : Int)  : AS := { n := 35, fr := [], hp := [], nx := 0 }
def lastX0_1 (s t : ByteArray) (i : Int) (x1 : Int) : AS := { n := 35, fr := [(6, AV.v (.int .i64 x1))], hp := [], nx := 0 }
def rindexS0 (s t : ByteArray) (i : Int) (x0 : Int) : AS := { n := 22, fr := [(0, AV.v (.string s)), (1, AV.v (.string t)), (7, AV.v (.int .i64 x0))], hp := [], nx := 0 }
def rindexX0 (s t : ByteArray) (i : Int)  : AS := { n := 22, fr := [], hp := [], nx := 0 }
def rindexX0_1 (s t : ByteArray) (i : Int) (x1 : Int) : AS := { n := 22, fr := [(6, AV.v (.int .i64 x1))], hp := [], nx := 0 }
theorem isn_ev (s : ByteArray) (h : AllP []) : PureTo Tryd.prog 83 [.v (.string s)] (AV.v (.bool !s.toList == s.toList)) :=
  evFnM_pure hm sokB (fn := Tryd.f83) rfl rfl (ti := false) (m := Mode.same) (hs := []) (c := _) (by kernel_rfl) (by kernel_rfl) h
def isn (s : ByteArray) : Bool := !s.toList == s.toList
theorem isn_pure (s : ByteArray) : PureTo Tryd.prog 83 [.v (.string s)] (AV.v (.bool (isn s))) := isn_ev s trivial
-- 3 paths
theorem rlastL0_1 (s t : ByteArray) (i : Int) (x0 : Int) (h : AllP [decide (x0 ≥ (0 : Int)) = true, stands s t x0 = true, SM s, SM t, (0 : Int) ≤ x0, x0 ≤ (8589934592 : Int)]) : To Tryd.prog (loopAt Tryd.f49 0) ({ n := 24, fr := [(0, AV.v (.string s)), (1, AV.v (.string t)), (7, AV.v (.int .i64 x0))], hp := [], nx := 0 }) (Exit.ret) { n := 24, fr := [(6, AV.v (.int .i64 x0))], hp := [], nx := 0 } :=
  evW_to hm sokB (hs := [CHint.ops 4 [(1, Hint.b true)], CHint.ops 6 [(3, Hint.b true)]]) (slots := [6]) (keys := []) (nx := 0) (c := _) (by kernel_rfl) h
theorem rlastL0_2 (s t : ByteArray) (i : Int) (x0 : Int) (h : AllP [decide (x0 ≥ (0 : Int)) = true, stands s t x0 = false, SM s, SM t, (0 : Int) ≤ x0, x0 ≤ (8589934592 : Int), inR IntKind.i64 (x0 - (1 : Int))]) : To Tryd.prog (loopAt Tryd.f49 0) ({ n := 24, fr := [(0, AV.v (.string s)), (1, AV.v (.string t)), (7, AV.v (.int .i64 x0))], hp := [], nx := 0 }) (.normal) { n := 24, fr := [(0, AV.v (.string s)), (1, AV.v (.string t)), (7, AV.v (.int .i64 (x0 - (1 : Int))))], hp := [], nx := 0 } :=
  evW_to hm sokB (hs := [CHint.ops 4 [(1, Hint.b true)], CHint.ops 6 [(3, Hint.b false)]]) (slots := [0, 1, 7]) (keys := []) (nx := 0) (c := _) (by kernel_rfl) h
theorem rlastL0_3 (s t : ByteArray) (i : Int) (x0 : Int) (h : AllP [decide (x0 ≥ (0 : Int)) = false]) : To Tryd.prog (loopAt Tryd.f49 0) ({ n := 24, fr := [(0, AV.v (.string s)), (1, AV.v (.string t)), (7, AV.v (.int .i64 x0))], hp := [], nx := 0 }) (Exit.exit 0) { n := 24, fr := [], hp := [], nx := 0 } :=
  evW_to hm sokB (hs := [CHint.ops 4 [(1, Hint.b false)]]) (slots := []) (keys := []) (nx := 0) (c := _) (by kernel_rfl) h
-- 4 paths
theorem rlastF1 (s t : ByteArray) (i : Int) (x1 : Int) (h : AllP [SZ s, decide (i > (↑(ul s) : Int)) = true, SZ s, LoopTo Tryd.prog (loopAt Tryd.f49 0) { n := 24, fr := [(0, AV.v (.string s)), (1, AV.v (.string t)), (7, AV.v (.int .i64 (↑(ul s) : Int)))], hp := [], nx := 0 } (Exit.exit 0) { n := 24, fr := [], hp := [], nx := 0 }]) : PureTo Tryd.prog 49 [.v (.string s), .v (.string t), .v (.int .i64 i)] (AV.v (.int .i64 (-1 : Int))) :=
  evFn_pure hm sokB (fn := Tryd.f49) rfl rfl (ti := false) (hs := [CHint.ops 1 [(3, Hint.b true)], CHint.loop [0, 1, 7] [] 0 (Exit.exit 0) { n := 24, fr := [], hp := [], nx := 0 }]) (c := _) (by kernel_rfl) h
theorem rlastF2 (s t : ByteArray) (i : Int) (x1 : Int) (h : AllP [SZ s, decide (i > (↑(ul s) : Int)) = true, SZ s, LoopTo Tryd.prog (loopAt Tryd.f49 0) { n := 24, fr := [(0, AV.v (.string s)), (1, AV.v (.string t)), (7, AV.v (.int .i64 (↑(ul s) : Int)))], hp := [], nx := 0 } Exit.ret { n := 24, fr := [(6, AV.v (.int .i64 x1))], hp := [], nx := 0 }]) : PureTo Tryd.prog 49 [.v (.string s), .v (.string t), .v (.int .i64 i)] (AV.v (.int .i64 x1)) :=
  evFn_pure hm sokB (fn := Tryd.f49) rfl rfl (ti := false) (hs := [CHint.ops 1 [(3, Hint.b true)], CHint.loop [0, 1, 7] [] 0 Exit.ret { n := 24, fr := [(6, AV.v (.int .i64 x1))], hp := [], nx := 0 }]) (c := _) (by kernel_rfl) h
theorem rlastF3 (s t : ByteArray) (i : Int) (x1 : Int) (h : AllP [SZ s, decide (i > (↑(ul s) : Int)) = false, LoopTo Tryd.prog (loopAt Tryd.f49 0) { n := 24, fr := [(0, AV.v (.string s)), (1, AV.v (.string t)), (7, AV.v (.int .i64 i))], hp := [], nx := 0 } (Exit.exit 0) { n := 24, fr := [], hp := [], nx := 0 }]) : PureTo Tryd.prog 49 [.v (.string s), .v (.string t), .v (.int .i64 i)] (AV.v (.int .i64 (-1 : Int))) :=
  evFn_pure hm sokB (fn := Tryd.f49) rfl rfl (ti := false) (hs := [CHint.ops 1 [(3, Hint.b false)], CHint.loop [0, 1, 7] [] 0 (Exit.exit 0) { n := 24, fr := [], hp := [], nx := 0 }]) (c := _) (by kernel_rfl) h
theorem rlastF4 (s t : ByteArray) (i : Int) (x1 : Int) (h : AllP [SZ s, decide (i > (↑(ul s) : Int)) = false, LoopTo Tryd.prog (loopAt Tryd.f49 0) { n := 24, fr := [(0, AV.v (.string s)), (1, AV.v (.string t)), (7, AV.v (.int .i64 i))], hp := [], nx := 0 } Exit.ret { n := 24, fr := [(6, AV.v (.int .i64 x1))], hp := [], nx := 0 }]) : PureTo Tryd.prog 49 [.v (.string s), .v (.string t), .v (.int .i64 i)] (AV.v (.int .i64 x1)) :=
  evFn_pure hm sokB (fn := Tryd.f49) rfl rfl (ti := false) (hs := [CHint.ops 1 [(3, Hint.b false)], CHint.loop [0, 1, 7] [] 0 Exit.ret { n := 24, fr := [(6, AV.v (.int .i64 x1))], hp := [], nx := 0 }]) (c := _) (by kernel_rfl) h
-- 3 paths
theorem lastL0_1 (s t : ByteArray) (i : Int) (x0 : Int) (h : AllP [decide (x0 ≥ (0 : Int)) = true, inR IntKind.i64 ((2 : Int) * x0), inR IntKind.i64 ((2 : Int) * x0), inR IntKind.i64 ((2 : Int) * x0 + (↑(evn t).size : Int)), (0 : Int) ≤ (2 : Int) * x0 + (↑(evn t).size : Int) ∧ (2 : Int) * x0 + (↑(evn t).size : Int) ≤ (↑(evn s).size : Int), (0 : Int) ≤ (2 : Int) * x0 ∧ (2 : Int) * x0 ≤ (↑((2 : Int) * x0 + (↑(evn t).size : Int)).toNat : Int), (((evn s).extract ((2 : Int) * x0).toNat ((2 : Int) * x0 + (↑(evn t).size : Int)).toNat).toList == (evn t).toList) = true]) : To Tryd.prog (loopAt Tryd.f48 0) ({ n := 35, fr := [(0, AV.v (.string (evn s))), (1, AV.v (.string (evn t))), (7, AV.v (.int .i64 x0))], hp := [], nx := 0 }) (Exit.ret) { n := 35, fr := [(6, AV.v (.int .i64 x0))], hp := [], nx := 0 } :=
  evW_to hm sokB (hs := [CHint.ops 3 [(1, Hint.b true)], CHint.ops 5 [(10, Hint.b true)]]) (slots := [6]) (keys := []) (nx := 0) (c := _) (by kernel_rfl) h
theorem lastL0_2 (s t : ByteArray) (i : Int) (x0 : Int) (h : AllP [decide (x0 ≥ (0 : Int)) = true, inR IntKind.i64 ((2 : Int) * x0), inR IntKind.i64 ((2 : Int) * x0), inR IntKind.i64 ((2 : Int) * x0 + (↑(evn t).size : Int)), (0 : Int) ≤ (2 : Int) * x0 + (↑(evn t).size : Int) ∧ (2 : Int) * x0 + (↑(evn t).size : Int) ≤ (↑(evn s).size : Int), (0 : Int) ≤ (2 : Int) * x0 ∧ (2 : Int) * x0 ≤ (↑((2 : Int) * x0 + (↑(evn t).size : Int)).toNat : Int), (((evn s).extract ((2 : Int) * x0).toNat ((2 : Int) * x0 + (↑(evn t).size : Int)).toNat).toList == (evn t).toList) = false, inR IntKind.i64 (x0 - (1 : Int))]) : To Tryd.prog (loopAt Tryd.f48 0) ({ n := 35, fr := [(0, AV.v (.string (evn s))), (1, AV.v (.string (evn t))), (7, AV.v (.int .i64 x0))], hp := [], nx := 0 }) (.normal) { n := 35, fr := [(0, AV.v (.string (evn s))), (1, AV.v (.string (evn t))), (7, AV.v (.int .i64 (x0 - (1 : Int))))], hp := [], nx := 0 } :=
  evW_to hm sokB (hs := [CHint.ops 3 [(1, Hint.b true)], CHint.ops 5 [(10, Hint.b false)]]) (slots := [0, 1, 7]) (keys := []) (nx := 0) (c := _) (by kernel_rfl) h
theorem lastL0_3 (s t : ByteArray) (i : Int) (x0 : Int) (h : AllP [decide (x0 ≥ (0 : Int)) = false]) : To Tryd.prog (loopAt Tryd.f48 0) ({ n := 35, fr := [(0, AV.v (.string (evn s))), (1, AV.v (.string (evn t))), (7, AV.v (.int .i64 x0))], hp := [], nx := 0 }) (Exit.exit 0) { n := 35, fr := [], hp := [], nx := 0 } :=
  evW_to hm sokB (hs := [CHint.ops 3 [(1, Hint.b false)]]) (slots := []) (keys := []) (nx := 0) (c := _) (by kernel_rfl) h
-- 2 paths
theorem lastF1 (s t : ByteArray) (i : Int) (x1 : Int) (h : AllP [SZ s, SZ t, SZ (evn s), SZ (evn t), inR IntKind.i64 ((↑(ul (evn s)) : Int) - (↑(ul (evn t)) : Int)), LoopTo Tryd.prog (loopAt Tryd.f48 0) { n := 35, fr := [(0, AV.v (.string (evn s))), (1, AV.v (.string (evn t))), (7, AV.v (.int .i64 (if (↑(ul (evn s)) : Int) - (↑(ul (evn t)) : Int) < i then (↑(ul (evn s)) : Int) - (↑(ul (evn t)) : Int) else i)))], hp := [], nx := 0 } (Exit.exit 0) { n := 35, fr := [], hp := [], nx := 0 }]) : PureTo Tryd.prog 48 [.v (.string s), .v (.string t), .v (.int .i64 i)] (AV.v (.int .i64 (-1 : Int))) :=
  evFn_pure hm sokB (fn := Tryd.f48) rfl rfl (ti := false) (hs := [CHint.loop [0, 1, 7] [] 0 (Exit.exit 0) { n := 35, fr := [], hp := [], nx := 0 }]) (c := _) (by kernel_rfl) h
theorem lastF2 (s t : ByteArray) (i : Int) (x1 : Int) (h : AllP [SZ s, SZ t, SZ (evn s), SZ (evn t), inR IntKind.i64 ((↑(ul (evn s)) : Int) - (↑(ul (evn t)) : Int)), LoopTo Tryd.prog (loopAt Tryd.f48 0) { n := 35, fr := [(0, AV.v (.string (evn s))), (1, AV.v (.string (evn t))), (7, AV.v (.int .i64 (if (↑(ul (evn s)) : Int) - (↑(ul (evn t)) : Int) < i then (↑(ul (evn s)) : Int) - (↑(ul (evn t)) : Int) else i)))], hp := [], nx := 0 } Exit.ret { n := 35, fr := [(6, AV.v (.int .i64 x1))], hp := [], nx := 0 }]) : PureTo Tryd.prog 48 [.v (.string s), .v (.string t), .v (.int .i64 i)] (AV.v (.int .i64 x1)) :=
  evFn_pure hm sokB (fn := Tryd.f48) rfl rfl (ti := false) (hs := [CHint.loop [0, 1, 7] [] 0 Exit.ret { n := 35, fr := [(6, AV.v (.int .i64 x1))], hp := [], nx := 0 }]) (c := _) (by kernel_rfl) h
-- 3 paths
theorem rindexL0_1 (s t : ByteArray) (i : Int) (x0 : Int) (h : AllP [SZ s, decide (x0 ≤ (↑(ul s) : Int)) = true, stands s t x0 = true, SM s, SM t, (0 : Int) ≤ x0, x0 ≤ (8589934592 : Int)]) : To Tryd.prog (loopAt Tryd.f47 0) ({ n := 22, fr := [(0, AV.v (.string s)), (1, AV.v (.string t)), (7, AV.v (.int .i64 x0))], hp := [], nx := 0 }) (Exit.ret) { n := 22, fr := [(6, AV.v (.int .i64 x0))], hp := [], nx := 0 } :=
  evW_to hm sokB (hs := [CHint.ops 4 [(3, Hint.b true)], CHint.ops 6 [(3, Hint.b true)]]) (slots := [6]) (keys := []) (nx := 0) (c := _) (by kernel_rfl) h
theorem rindexL0_2 (s t : ByteArray) (i : Int) (x0 : Int) (h : AllP [SZ s, decide (x0 ≤ (↑(ul s) : Int)) = true, stands s t x0 = false, SM s, SM t, (0 : Int) ≤ x0, x0 ≤ (8589934592 : Int), inR IntKind.i64 (x0 + (1 : Int))]) : To Tryd.prog (loopAt Tryd.f47 0) ({ n := 22, fr := [(0, AV.v (.string s)), (1, AV.v (.string t)), (7, AV.v (.int .i64 x0))], hp := [], nx := 0 }) (.normal) { n := 22, fr := [(0, AV.v (.string s)), (1, AV.v (.string t)), (7, AV.v (.int .i64 (x0 + (1 : Int))))], hp := [], nx := 0 } :=
  evW_to hm sokB (hs := [CHint.ops 4 [(3, Hint.b true)], CHint.ops 6 [(3, Hint.b false)]]) (slots := [0, 1, 7]) (keys := []) (nx := 0) (c := _) (by kernel_rfl) h
theorem rindexL0_3 (s t : ByteArray) (i : Int) (x0 : Int) (h : AllP [SZ s, decide (x0 ≤ (↑(ul s) : Int)) = false]) : To Tryd.prog (loopAt Tryd.f47 0) ({ n := 22, fr := [(0, AV.v (.string s)), (1, AV.v (.string t)), (7, AV.v (.int .i64 x0))], hp := [], nx := 0 }) (Exit.exit 0) { n := 22, fr := [], hp := [], nx := 0 } :=
  evW_to hm sokB (hs := [CHint.ops 4 [(3, Hint.b false)]]) (slots := []) (keys := []) (nx := 0) (c := _) (by kernel_rfl) h
-- 4 paths
theorem rindexF1 (s t : ByteArray) (i : Int) (x1 : Int) (h : AllP [decide (i < (0 : Int)) = true, LoopTo Tryd.prog (loopAt Tryd.f47 0) { n := 22, fr := [(0, AV.v (.string s)), (1, AV.v (.string t)), (7, AV.v (.int .i64 (0 : Int)))], hp := [], nx := 0 } (Exit.exit 0) { n := 22, fr := [], hp := [], nx := 0 }]) : PureTo Tryd.prog 47 [.v (.string s), .v (.string t), .v (.int .i64 i)] (AV.v (.int .i64 (-1 : Int))) :=
  evFn_pure hm sokB (fn := Tryd.f47) rfl rfl (ti := false) (hs := [CHint.ops 1 [(1, Hint.b true)], CHint.loop [0, 1, 7] [] 0 (Exit.exit 0) { n := 22, fr := [], hp := [], nx := 0 }]) (c := _) (by kernel_rfl) h
theorem rindexF2 (s t : ByteArray) (i : Int) (x1 : Int) (h : AllP [decide (i < (0 : Int)) = true, LoopTo Tryd.prog (loopAt Tryd.f47 0) { n := 22, fr := [(0, AV.v (.string s)), (1, AV.v (.string t)), (7, AV.v (.int .i64 (0 : Int)))], hp := [], nx := 0 } Exit.ret { n := 22, fr := [(6, AV.v (.int .i64 x1))], hp := [], nx := 0 }]) : PureTo Tryd.prog 47 [.v (.string s), .v (.string t), .v (.int .i64 i)] (AV.v (.int .i64 x1)) :=
  evFn_pure hm sokB (fn := Tryd.f47) rfl rfl (ti := false) (hs := [CHint.ops 1 [(1, Hint.b true)], CHint.loop [0, 1, 7] [] 0 Exit.ret { n := 22, fr := [(6, AV.v (.int .i64 x1))], hp := [], nx := 0 }]) (c := _) (by kernel_rfl) h
theorem rindexF3 (s t : ByteArray) (i : Int) (x1 : Int) (h : AllP [decide (i < (0 : Int)) = false, LoopTo Tryd.prog (loopAt Tryd.f47 0) { n := 22, fr := [(0, AV.v (.string s)), (1, AV.v (.string t)), (7, AV.v (.int .i64 i))], hp := [], nx := 0 } (Exit.exit 0) { n := 22, fr := [], hp := [], nx := 0 }]) : PureTo Tryd.prog 47 [.v (.string s), .v (.string t), .v (.int .i64 i)] (AV.v (.int .i64 (-1 : Int))) :=
  evFn_pure hm sokB (fn := Tryd.f47) rfl rfl (ti := false) (hs := [CHint.ops 1 [(1, Hint.b false)], CHint.loop [0, 1, 7] [] 0 (Exit.exit 0) { n := 22, fr := [], hp := [], nx := 0 }]) (c := _) (by kernel_rfl) h
theorem rindexF4 (s t : ByteArray) (i : Int) (x1 : Int) (h : AllP [decide (i < (0 : Int)) = false, LoopTo Tryd.prog (loopAt Tryd.f47 0) { n := 22, fr := [(0, AV.v (.string s)), (1, AV.v (.string t)), (7, AV.v (.int .i64 i))], hp := [], nx := 0 } Exit.ret { n := 22, fr := [(6, AV.v (.int .i64 x1))], hp := [], nx := 0 }]) : PureTo Tryd.prog 47 [.v (.string s), .v (.string t), .v (.int .i64 i)] (AV.v (.int .i64 x1)) :=
  evFn_pure hm sokB (fn := Tryd.f47) rfl rfl (ti := false) (hs := [CHint.ops 1 [(1, Hint.b false)], CHint.loop [0, 1, 7] [] 0 Exit.ret { n := 22, fr := [(6, AV.v (.int .i64 x1))], hp := [], nx := 0 }]) (c := _) (by kernel_rfl) h
end Go.Proofs.Us

/- Texts: where a text stands last; the reference's Index. -/
set_option maxRecDepth 100000
namespace Go.Proofs.Us
open Go Go.Ev

def lastG (s t : ByteArray) : Nat → Int
  | 0 => -1
  | i + 1 => if stands s t i = true then i else lastG s t i
def lastS (s t : ByteArray) (i : Int) : Int := lastG s t ((if (ul s : Int) < i then (ul s : Int) else i) + 1).toNat
theorem lastG_skip {s t : ByteArray} {m : Nat} : ∀ n, m ≤ n → (∀ j : Nat, m ≤ j → j < n → stands s t j = false) → lastG s t n = lastG s t m
  | 0, h, _ => by obtain rfl : m = 0 := by omega
                  rfl
  | n + 1, h, hs => by
    by_cases e : m = n + 1
    · rw [e]
    · have h1 := hs n (by omega) (by omega)
      show (if stands s t n = true then (n : Int) else lastG s t n) = _
      rw [h1]
      simpa using lastG_skip n (by omega) fun j h1 h2 => hs j h1 (by omega)

theorem rlast_loop {s t : ByteArray} (i : Int) (hs : SM s) (ht : SM t) : ∀ (n : Nat) (x : Int), n ≤ 4294967297 → (x = n - 1 ∨ (n = 0 ∧ x < 0)) →
    LoopTo Tryd.prog (loopAt Tryd.f49 0) (rlastS0 s t i x) .ret (rlastX0_1 s t i (lastG s t n)) ∨ (LoopTo Tryd.prog (loopAt Tryd.f49 0) (rlastS0 s t i x) (.exit 0) (rlastX0 s t i) ∧ lastG s t n = -1)
  | 0, x, hn, hx => .inr ⟨.done (by simp) (rlastL0_3 s t i x ⟨by simp; omega, trivial⟩), rfl⟩
  | n + 1, x, hn, hx => by
    obtain rfl : x = (n : Int) := by omega
    have hd : decide ((n : Int) ≥ 0) = true := by simp
    cases c : stands s t n with
    | true =>
      have e : lastG s t (n + 1) = n := by show (if stands s t n = true then (n : Int) else lastG s t n) = _; rw [c]; rfl
      rw [e]
      exact .inl (.done (by simp) (rlastL0_1 s t i n ⟨hd, c, hs, ht, by omega, by omega, trivial⟩))
    | false =>
      have e : lastG s t (n + 1) = lastG s t n := by show (if stands s t n = true then (n : Int) else lastG s t n) = _; rw [c]; rfl
      rw [e]
      have st := rlastL0_2 s t i n ⟨hd, c, hs, ht, by omega, by omega, by simp only [inR]; omega, trivial⟩
      rcases rlast_loop i hs ht n ((n : Int) - 1) (by omega) (by omega) with h | ⟨h, h'⟩
      · exact .inl (.step st h)
      · exact .inr ⟨.step st h, h'⟩

theorem rlast_c {s t : ByteArray} {i : Int} (hs : SM s) (ht : SM t) : PureTo Tryd.prog 49 [.v (.string s), .v (.string t), .v (.int .i64 i)] (.v (.int .i64 (lastS s t i))) := by
  have hu : ul s ≤ s.size := by unfold ul; omega
  have hz := hs.sz
  have hs' := hs
  unfold SM at hs'
  unfold lastS
  by_cases c : (ul s : Int) < i
  · rw [if_pos c]
    have hd : decide (i > (↑(ul s) : Int)) = true := by simpa using c
    rcases rlast_loop i hs ht (((ul s : Int) + 1).toNat) (ul s) (by omega) (by omega) with h | ⟨h, e⟩
    · exact rlastF2 (s := s) (t := t) (i := i) (x1 := lastG s t ((ul s : Int) + 1).toNat) (h := ⟨hz, hd, hz, h, trivial⟩)
    · rw [e]
      exact rlastF1 (s := s) (t := t) (i := i) (x1 := 0) (h := ⟨hz, hd, hz, h, trivial⟩)
  · rw [if_neg c]
    have hd : decide (i > (↑(ul s) : Int)) = false := by simp; omega
    rcases rlast_loop i hs ht ((i + 1).toNat) i (by omega) (by omega) with h | ⟨h, e⟩
    · exact rlastF4 (s := s) (t := t) (i := i) (x1 := lastG s t (i + 1).toNat) (h := ⟨hz, hd, h, trivial⟩)
    · rw [e]
      exact rlastF3 (s := s) (t := t) (i := i) (x1 := 0) (h := ⟨hz, hd, h, trivial⟩)

theorem evn_SM {s : ByteArray} (h : SM s) : SM (evn s) := by
  unfold SM at *
  rw [evn_size]
  unfold ul
  omega
theorem extract_evn {s : ByteArray} {a b : Nat} (h : b ≤ 2 * ul s) : (evn s).extract a b = s.extract a b := by
  unfold evn
  apply ByteArray.ext
  simp only [ByteArray.data_extract, Array.extract_extract]
  congr 1 <;> omega
theorem stands_in {s t : ByteArray} {n : Nat} (h : n + ul t ≤ ul s) : stands s t n = ((evn s).extract ((2 : Int) * n).toNat ((2 : Int) * n + (↑(evn t).size : Int)).toNat).toList.beq (evn t).toList := by
  unfold stands
  rw [show decide ((n : Int) + (↑(ul t) : Int) ≤ (↑(ul s) : Int)) = true from by simp; omega, cond_true, evn_size]
  have e : ((2 : Int) * n + (((2 * ul t : Nat)) : Int)).toNat = ((2 : Int) * n + (2 : Int) * (↑(ul t) : Int)).toNat := by omega
  have e2 : ((2 : Int) * (↑(ul t) : Int)).toNat = 2 * ul t := by omega
  rw [e, e2, extract_evn (by omega)]
  rfl
theorem stands_out {s t : ByteArray} {n : Nat} (h : ul s < n + ul t) : stands s t n = false := by
  unfold stands
  rw [show decide ((n : Int) + (↑(ul t) : Int) ≤ (↑(ul s) : Int)) = false from by simp; omega, cond_false]

theorem last_loop {s t : ByteArray} (i : Int) (hs : SM s) (ht : SM t) : ∀ (n : Nat) (x : Int), n + ul t ≤ ul s + 1 ∨ n = 0 → (x = n - 1 ∨ (n = 0 ∧ x < 0)) →
    LoopTo Tryd.prog (loopAt Tryd.f48 0) (lastS0 s t i x) .ret (lastX0_1 s t i (lastG s t n)) ∨ (LoopTo Tryd.prog (loopAt Tryd.f48 0) (lastS0 s t i x) (.exit 0) (lastX0 s t i) ∧ lastG s t n = -1)
  | 0, x, hn, hx => .inr ⟨.done (by simp) (lastL0_3 s t i x ⟨by simp; omega, trivial⟩), rfl⟩
  | n + 1, x, hn, hx => by
    obtain rfl : x = (n : Int) := by omega
    have hd : decide ((n : Int) ≥ 0) = true := by simp
    have hu : ul s ≤ s.size := by unfold ul; omega
    have hs' := hs
    unfold SM at hs'
    have z1 := evn_size s
    have z2 := evn_size t
    have r1 : inR .i64 ((2 : Int) * n) := by simp only [inR]; omega
    have r2 : inR .i64 ((2 : Int) * n + (↑(evn t).size : Int)) := by simp only [inR]; omega
    have r3 : (0 : Int) ≤ (2 : Int) * n + (↑(evn t).size : Int) ∧ (2 : Int) * n + (↑(evn t).size : Int) ≤ (↑(evn s).size : Int) := ⟨by omega, by omega⟩
    have r4 : (0 : Int) ≤ (2 : Int) * n ∧ (2 : Int) * n ≤ (↑((2 : Int) * n + (↑(evn t).size : Int)).toNat : Int) := ⟨by omega, by omega⟩
    have hst := stands_in (s := s) (t := t) (n := n) (by omega)
    cases c : stands s t n with
    | true =>
      have e : lastG s t (n + 1) = n := by show (if stands s t n = true then (n : Int) else lastG s t n) = _; rw [c]; rfl
      rw [e]
      rw [c] at hst
      exact .inl (.done (by simp) (lastL0_1 s t i n ⟨hd, r1, r1, r2, r3, r4, hst.symm, trivial⟩))
    | false =>
      have e : lastG s t (n + 1) = lastG s t n := by show (if stands s t n = true then (n : Int) else lastG s t n) = _; rw [c]; rfl
      rw [e]
      rw [c] at hst
      have st := lastL0_2 s t i n ⟨hd, r1, r1, r2, r3, r4, hst.symm, by simp only [inR]; omega, trivial⟩
      rcases last_loop i hs ht n ((n : Int) - 1) (by omega) (by omega) with h | ⟨h, h'⟩
      · exact .inl (.step st h)
      · exact .inr ⟨.step st h, h'⟩

theorem last_c {s t : ByteArray} {i : Int} (hs : SM s) (ht : SM t) : PureTo Tryd.prog 48 [.v (.string s), .v (.string t), .v (.int .i64 i)] (.v (.int .i64 (lastS s t i))) := by
  have hu : ul s ≤ s.size := by unfold ul; omega
  have hu2 : ul t ≤ t.size := by unfold ul; omega
  have hs' := hs
  have ht' := ht
  unfold SM at hs' ht'
  have m : ∀ x : Int, x = (if (ul s : Int) - ul t < i then (ul s : Int) - ul t else i) → lastS s t i = lastG s t (x + 1).toNat := by
    intro x hx
    unfold lastS
    apply lastG_skip
    · split at hx <;> split <;> omega
    · intro j h1 h2
      apply stands_out
      split at hx <;> split at h2 <;> omega
  have hr : inR .i64 ((↑(ul (evn s)) : Int) - (↑(ul (evn t)) : Int)) := by rw [evn_ul, evn_ul]; simp only [inR]; omega
  rw [m _ rfl]
  have hx : ∀ x : Int, x = (if (ul s : Int) - ul t < i then (ul s : Int) - ul t else i) → x ≤ (ul s : Int) - ul t := by
    intro x hx
    split at hx <;> omega
  have hx := hx _ rfl
  have F1 := lastF1 (s := s) (t := t) (i := i) (x1 := 0)
  have F2 := fun x1 => lastF2 (s := s) (t := t) (i := i) (x1 := x1)
  rw [evn_ul, evn_ul] at F1 hr
  simp only [evn_ul] at F2
  generalize (if (ul s : Int) - ul t < i then (ul s : Int) - ul t else i) = x at *
  rcases last_loop i hs ht ((x + 1).toNat) x (by omega) (by omega) with h | ⟨h, e⟩
  · exact F2 _ ⟨hs.sz, ht.sz, (evn_SM hs).sz, (evn_SM ht).sz, hr, h, trivial⟩
  · rw [e]
    exact F1 ⟨hs.sz, ht.sz, (evn_SM hs).sz, (evn_SM ht).sz, hr, h, trivial⟩

def idxG (s t : ByteArray) : Nat → Nat → Int
  | 0, _ => -1
  | f + 1, i => if i ≤ ul s then (if stands s t i = true then i else idxG s t f (i + 1)) else -1
/-- where a text stands in another one -/
def idxS (s t : ByteArray) (i : Int) : Int := idxG s t (ul s + 1) i.toNat
theorem rindex_loop {s t : ByteArray} (y : Int) (hs : SM s) (ht : SM t) : ∀ f i : Nat, ul s + 1 ≤ i + f →
    LoopTo Tryd.prog (loopAt Tryd.f47 0) (rindexS0 s t y i) .ret (rindexX0_1 s t y (idxG s t f i)) ∨ (LoopTo Tryd.prog (loopAt Tryd.f47 0) (rindexS0 s t y i) (.exit 0) (rindexX0 s t y) ∧ idxG s t f i = -1)
  | 0, i, hf => .inr ⟨.done (by simp) (rindexL0_3 s t y i ⟨hs.sz, by simp; omega, trivial⟩), rfl⟩
  | f + 1, i, hf => by
    have hu : ul s ≤ s.size := by unfold ul; omega
    have hs' := hs
    unfold SM at hs'
    unfold idxG
    by_cases c1 : i ≤ ul s
    · have hd : decide ((i : Int) ≤ (↑(ul s) : Int)) = true := by simpa using c1
      rw [if_pos c1]
      cases c : stands s t i with
      | true => exact .inl (.done (by simp) (rindexL0_1 s t y i ⟨hs.sz, hd, c, hs, ht, by omega, by omega, trivial⟩))
      | false =>
        have st := rindexL0_2 s t y i ⟨hs.sz, hd, c, hs, ht, by omega, by omega, by simp only [inR]; omega, trivial⟩
        rcases rindex_loop y hs ht f (i + 1) (by omega) with h | ⟨h, h'⟩
        · exact .inl (.step st h)
        · exact .inr ⟨.step st h, h'⟩
    · rw [if_neg c1]
      exact .inr ⟨.done (by simp) (rindexL0_3 s t y i ⟨hs.sz, by simp; omega, trivial⟩), rfl⟩
theorem rindex_c {s t : ByteArray} {i : Int} (hs : SM s) (ht : SM t) : PureTo Tryd.prog 47 [.v (.string s), .v (.string t), .v (.int .i64 i)] (.v (.int .i64 (idxS s t i))) := by
  unfold idxS
  by_cases c : i < 0
  · have hd : decide (i < 0) = true := by simpa using c
    rw [show i.toNat = 0 from by omega]
    rcases rindex_loop i hs ht (ul s + 1) 0 (by omega) with h | ⟨h, e⟩
    · exact rindexF2 (s := s) (t := t) (i := i) (x1 := idxG s t (ul s + 1) 0) (h := ⟨hd, h, trivial⟩)
    · rw [e]; exact rindexF1 (s := s) (t := t) (i := i) (x1 := 0) (h := ⟨hd, h, trivial⟩)
  · have hd : decide (i < 0) = false := by simp; omega
    obtain ⟨n, rfl⟩ : ∃ n : Nat, i = n := ⟨i.toNat, by omega⟩
    rcases rindex_loop (n : Int) hs ht (ul s + 1) n (by omega) with h | ⟨h, e⟩
    · exact rindexF4 (s := s) (t := t) (i := n) (x1 := idxG s t (ul s + 1) n) (h := ⟨hd, h, trivial⟩)
    · rw [Int.toNat_natCast, e]; exact rindexF3 (s := s) (t := t) (i := n) (x1 := 0) (h := ⟨hd, h, trivial⟩)
end Go.Proofs.Us

/- Texts: the table for the order. -/
set_option maxRecDepth 100000
namespace Go.Proofs.Us
open Go Go.Ev
theorem isn_c (s : ByteArray) : PureTo Tryd.prog 83 [.v (.string s)] (.v (.bool false)) := by
  have h := isn_pure s
  rw [show isn s = false by simp [isn]] at h
  exact h
def SGC : SGT := (83, .p (sigS fun _ => (.v (.bool false), []))) :: (47, .p (sigSSI fun s t i => (.v (.int .i64 (idxS s t i)), [SM s, SM t]))) ::
  (48, .p (sigSSI fun s t i => (.v (.int .i64 (lastS s t i)), [SM s, SM t]))) :: (49, .p (sigSSI fun s t i => (.v (.int .i64 (lastS s t i)), [SM s, SM t]))) :: (51, .p (sigSS fun s t => (.v (.int .i64 (cmpS s t)), [SM s, SM t]))) :: SGB
theorem sokC : SigsOK Tryd.prog SGC :=
  sigs_cons (sigs_cons (sigs_cons (sigs_cons (sigs_cons sokB (sigSS_ok fun s t h => rcmp_c h.1 h.2.1)) (sigSSI_ok fun s t i h => rlast_c h.1 h.2.1)) (sigSSI_ok fun s t i h => last_c h.1 h.2.1)) (sigSSI_ok fun s t i h => rindex_c h.1 h.2.1)) (sigS_ok fun s _ => isn_c s)
end Go.Proofs.Us

/- Texts: walks, written by the tool. -/
set_option maxRecDepth 100000
namespace Go.Proofs.Us
open Go Go.Ev

-- 3 paths
theorem cmpF1 (s t : ByteArray) (h : AllP [Op.bytesLess s.toList t.toList = true]) : PureTo Tryd.prog 75 [.v (.string s), .v (.string t)] (AV.v (.int .i64 (-1 : Int))) :=
  evFn_pure hm sokC (fn := Tryd.f75) rfl rfl (ti := false) (hs := [CHint.ops 9 [(2, Hint.b true)]]) (c := _) (by kernel_rfl) h
theorem cmpF2 (s t : ByteArray) (h : AllP [Op.bytesLess s.toList t.toList = false, (!(Op.bytesLess s.toList t.toList || s.toList == t.toList)) = true]) : PureTo Tryd.prog 75 [.v (.string s), .v (.string t)] (AV.v (.int .i64 (1 : Int))) :=
  evFn_pure hm sokC (fn := Tryd.f75) rfl rfl (ti := false) (hs := [CHint.ops 9 [(2, Hint.b false)], CHint.ops 11 [(2, Hint.b true)]]) (c := _) (by kernel_rfl) h
theorem cmpF3 (s t : ByteArray) (h : AllP [Op.bytesLess s.toList t.toList = false, (!(Op.bytesLess s.toList t.toList || s.toList == t.toList)) = false]) : PureTo Tryd.prog 75 [.v (.string s), .v (.string t)] (AV.v (.int .i64 (0 : Int))) :=
  evFn_pure hm sokC (fn := Tryd.f75) rfl rfl (ti := false) (hs := [CHint.ops 9 [(2, Hint.b false)], CHint.ops 11 [(2, Hint.b false)]]) (c := _) (by kernel_rfl) h
end Go.Proofs.Us

/- Texts: cmp.Compare at strings. -/
set_option maxRecDepth 100000
namespace Go.Proofs.Us
open Go Go.Ev
theorem less_ints (s t : ByteArray) : Op.bytesLess s.toList t.toList = ltI (intsOfStr s) (intsOfStr t) := by
  rw [Lib.toList_data, Lib.toList_data, bytesLess_ints]; rfl
theorem same_ints (s t : ByteArray) : (s.toList == t.toList) = decide (intsOfStr s = intsOfStr t) := by
  rw [Bool.eq_iff_iff, beq_iff_eq, decide_eq_true_eq, Lib.toList_data, Lib.toList_data]
  constructor
  · intro h; unfold intsOfStr; rw [h]
  · intro h
    have := congrArg strOfInts h
    rw [str_ints, str_ints] at this
    rw [this]
theorem cmp_c (s t : ByteArray) : PureTo Tryd.prog 75 [.v (.string s), .v (.string t)] (.v (.int .i64 (cmpI (intsOfStr s) (intsOfStr t)))) := by
  have F1 := cmpF1 s t
  have F2 := cmpF2 s t
  have F3 := cmpF3 s t
  rw [less_ints] at F1
  rw [less_ints, same_ints] at F2 F3
  unfold cmpI
  cases c : ltI (intsOfStr s) (intsOfStr t) with
  | true => rw [if_pos rfl]; exact F1 ⟨c, trivial⟩
  | false =>
    rw [if_neg (by simp)]
    by_cases e : intsOfStr s = intsOfStr t
    · rw [if_pos e]; exact F3 ⟨c, by simp [c, e], trivial⟩
    · rw [if_neg e]; exact F2 ⟨c, by simp [c, e], trivial⟩
def SGD : SGT := (75, .p (sigSS fun s t => (.v (.int .i64 (cmpI (intsOfStr s) (intsOfStr t))), []))) :: SGC
theorem sokD : SigsOK Tryd.prog SGD := sigs_cons sokC (sigSS_ok fun s t _ => cmp_c s t)
end Go.Proofs.Us

/- Texts: walks, written by the tool. -/
set_option maxRecDepth 100000
namespace Go.Proofs.Us
open Go Go.Ev

theorem compare_ev (s t : ByteArray) (h : AllP [SZ s, SZ t]) : PureTo Tryd.prog 50 [.v (.string s), .v (.string t)] (AV.v (.int .i64 (cmpI (intsOfStr (evn s)) (intsOfStr (evn t))))) :=
  evFnM_pure hm sokD (fn := Tryd.f50) rfl rfl (ti := false) (m := Mode.same) (hs := []) (c := _) (by kernel_rfl) (by kernel_rfl) h
def compare (s t : ByteArray) : Int := cmpI (intsOfStr (evn s)) (intsOfStr (evn t))
theorem compare_pure (s t : ByteArray) (h : AllP [SZ s, SZ t]) : PureTo Tryd.prog 50 [.v (.string s), .v (.string t)] (AV.v (.int .i64 (compare s t))) := compare_ev s t h
end Go.Proofs.Us

/- Texts: strings.Index: the length up to which the machine's own search serves is any number; the two searches that the model brings. -/
set_option maxRecDepth 100000
namespace Go.Proofs.Us
open Go Go.Ev

theorem repIs_two {w : World} {U : Nat → Prop} {vals : List Value} {x y : Value} (h : RepIs w U vals [.v x, .v y]) : vals = [x, y] := by
  obtain ⟨h1, h2⟩ := h
  match vals, h1 with
  | [a, b], _ =>
    have ha := h2 0 (by simp) (by simp)
    have hb := h2 1 (by simp) (by simp)
    simp only [List.getElem_cons_zero, List.getElem_cons_succ] at ha hb
    cases ha; cases hb; rfl
theorem pure_extern2 [Globs] {P : Program} {f : FuncId} {fn : Func} {e : Array Value → Sem Value} {x y z : Value} (hf : P.funcs[f]? = some fn) (hname : (fn.name == "runtime.NumGoroutine") = false)
    (hb : fn.body.isNone = true) (hn : Extern.findNext fn = none) (he : Extern.find fn = some e) (hy : okV z) (hrun : ∀ S : St, S.wf → (e #[x, y]).run P S.w = .ok z S.w) : PureTo P f [.v x, .v y] (.v z) := by
  intro S vals hwf hv
  have := repIs_two hv
  subst this
  unfold CalledTo
  rw [run_callFunc_extern hf hname hb hn he, show ([x, y] : List Value).toArray = #[x, y] from rfl, hrun S hwf, Result.andThen_ok]
  exact ⟨Grows.refl _, .v _ hy⟩

/-- where a byte stands first -/
def idx1 (s : ByteArray) (c : Int) : Int := Lib.indexByte s.data.toList c.toNat.toUInt8
theorem ibs_pure (s : ByteArray) (c : Int) : PureTo Tryd.prog 98 [.v (.string s), .v (.int .u8 c)] (.v (.int .i64 (idx1 s c))) :=
  pure_extern2 (fn := Tryd.f98) rfl (by kernel_rfl) (by kernel_rfl) (by kernel_rfl) (by kernel_rfl : Extern.find Tryd.f98 = some Extern.BytealgIndexByte.indexByte) trivial fun S _ => Lib.run_indexByteString s c S.w

def sigSB (f : ByteArray → Int → AV × List Prop) : List AV → Option (AV × List Prop)
  | [.v (.string s), .v (.int .u8 c)] => some (f s c)
  | _ => none
theorem sigSB_ok [Globs] {P : Program} {i : FuncId} {f : ByteArray → Int → AV × List Prop} (h : ∀ s c, AllP (f s c).2 → PureTo P i [.v (.string s), .v (.int .u8 c)] (f s c).1) : ∀ ys r c, sigSB f ys = some (r, c) → AllP c → PureTo P i ys r := by
  intro ys r c hs hc
  unfold sigSB at hs
  split at hs
  · next s b => have e := Option.some.inj hs; have := h s b; rw [e] at this; exact this hc
  · cases hs

def SX0 : SGT := (98, .p (sigSB fun s c => (.v (.int .i64 (idx1 s c)), []))) :: []
theorem soX0 : SigsOK Tryd.prog SX0 := Go.Ev.sigs_cons (fun f sig h => by cases h) (sigSB_ok fun s c _ => ibs_pure s c)
end Go.Proofs.Us

/- Texts: walks, written by the tool. -/
set_option maxRecDepth 100000
namespace Go.Proofs.Us
open Go Go.Ev
def hashS0 (t : ByteArray) (x0 : Int) (x1 : Int) : AS := { n := 39, fr := [(0, AV.v (.string t)), (4, AV.v (.int .u32 x0)), (5, AV.v (.int .i64 x1))], hp := [], nx := 0 }
def hashX0 (t : ByteArray) (x2 : Int) : AS := { n := 39, fr := [(0, AV.v (.string t)), (4, AV.v (.int .u32 x2))], hp := [], nx := 0 }
def hashS1 (t : ByteArray) (x2 : Int) (x3 : Int) (x4 : Int) (x5 : Int) : AS := { n := 39, fr := [(4, AV.v (.int .u32 x2)), (6, AV.v (.int .u32 x3)), (7, AV.v (.int .u32 x4)), (8, AV.v (.int .i64 x5))], hp := [], nx := 0 }
def hashX1 (t : ByteArray) (x2 : Int) (x6 : Int) : AS := { n := 39, fr := [(4, AV.v (.int .u32 x2)), (6, AV.v (.int .u32 x6))], hp := [], nx := 0 }
theorem ibsw_ev (s : ByteArray) (c : Int) (h : AllP []) : PureTo Tryd.prog 89 [.v (.string s), .v (.int .u8 c)] (AV.v (.int .i64 (idx1 s c))) :=
  evFnM_pure hm soX0 (fn := Tryd.f89) rfl rfl (ti := false) (m := Mode.same) (hs := []) (c := _) (by kernel_rfl) (by kernel_rfl) h
def ibsw (s : ByteArray) (c : Int) : Int := idx1 s c
theorem ibsw_pure (s : ByteArray) (c : Int) : PureTo Tryd.prog 89 [.v (.string s), .v (.int .u8 c)] (AV.v (.int .i64 (ibsw s c))) := ibsw_ev s c trivial
theorem cutover_ev (i : Int) (h : AllP [inR IntKind.i64 (i + (16 : Int)), (8 : Int) ≠ (0 : Int), inR IntKind.i64 ((i + (16 : Int)).tdiv (8 : Int))]) : PureTo Tryd.prog 91 [.v (.int .i64 i)] (AV.v (.int .i64 ((i + (16 : Int)).tdiv (8 : Int)))) :=
  evFnM_pure hm soX0 (fn := Tryd.f91) rfl rfl (ti := false) (m := Mode.same) (hs := []) (c := _) (by kernel_rfl) (by kernel_rfl) h
def cutover (i : Int) : Int := (i + (16 : Int)).tdiv (8 : Int)
theorem cutover_pure (i : Int) (h : AllP [inR IntKind.i64 (i + (16 : Int)), (8 : Int) ≠ (0 : Int), inR IntKind.i64 ((i + (16 : Int)).tdiv (8 : Int))]) : PureTo Tryd.prog 91 [.v (.int .i64 i)] (AV.v (.int .i64 (cutover i))) := cutover_ev i h
-- 2 paths
theorem hashL0_1 (t : ByteArray) (x0 : Int) (x1 : Int) (h : AllP [decide (x1 < (↑t.size : Int)) = true, (0 : Int) ≤ x1 ∧ x1 < (↑t.size : Int), inR IntKind.u32 (byteAt t x1.toNat), inR IntKind.i64 (x1 + (1 : Int))]) : To Tryd.prog (loopAt Tryd.f99 0) ({ n := 39, fr := [(0, AV.v (.string t)), (4, AV.v (.int .u32 x0)), (5, AV.v (.int .i64 x1))], hp := [], nx := 0 }) (.normal) { n := 39, fr := [(0, AV.v (.string t)), (4, AV.v (.int .u32 ((x0 * (16777619 : Int) % (4294967296 : Int) + byteAt t x1.toNat) % (4294967296 : Int)))), (5, AV.v (.int .i64 (x1 + (1 : Int))))], hp := [], nx := 0 } :=
  evW_to hm soX0 (hs := [CHint.ops 3 [(3, Hint.b true)], CHint.ops 5 [(1, Hint.wrap), (6, Hint.wrap)]]) (slots := [0, 4, 5]) (keys := []) (nx := 0) (c := _) (by kernel_rfl) h
theorem hashL0_2 (t : ByteArray) (x0 : Int) (x1 : Int) (h : AllP [decide (x1 < (↑t.size : Int)) = false]) : To Tryd.prog (loopAt Tryd.f99 0) ({ n := 39, fr := [(0, AV.v (.string t)), (4, AV.v (.int .u32 x0)), (5, AV.v (.int .i64 x1))], hp := [], nx := 0 }) (Exit.exit 0) { n := 39, fr := [(0, AV.v (.string t)), (4, AV.v (.int .u32 x0))], hp := [], nx := 0 } :=
  evW_to hm soX0 (hs := [CHint.ops 3 [(3, Hint.b false)]]) (slots := [0, 4]) (keys := []) (nx := 0) (c := _) (by kernel_rfl) h
-- 3 paths
theorem hashL1_1 (t : ByteArray) (x2 : Int) (x3 : Int) (x4 : Int) (x5 : Int) (h : AllP [decide (x5 > (0 : Int)) = true, (bitsOf BinOp.and IntKind.i64 x5 (1 : Int) != (0 : Int)) = true, (0 : Int) ≤ (1 : Int)]) : To Tryd.prog (loopAt Tryd.f99 1) ({ n := 39, fr := [(4, AV.v (.int .u32 x2)), (6, AV.v (.int .u32 x3)), (7, AV.v (.int .u32 x4)), (8, AV.v (.int .i64 x5))], hp := [], nx := 0 }) (.normal) { n := 39, fr := [(4, AV.v (.int .u32 x2)), (6, AV.v (.int .u32 (x3 * x4 % (4294967296 : Int)))), (7, AV.v (.int .u32 (x4 * x4 % (4294967296 : Int)))), (8, AV.v (.int .i64 (x5 / (2 : Int))))], hp := [], nx := 0 } :=
  evW_to hm soX0 (hs := [CHint.ops 8 [(1, Hint.b true)], CHint.ops 10 [(2, Hint.b true)], CHint.ops 11 [(2, Hint.wrap)], CHint.ops 12 [(2, Hint.wrap)]]) (slots := [4, 6, 7, 8]) (keys := []) (nx := 0) (c := _) (by kernel_rfl) h
theorem hashL1_2 (t : ByteArray) (x2 : Int) (x3 : Int) (x4 : Int) (x5 : Int) (h : AllP [decide (x5 > (0 : Int)) = true, (bitsOf BinOp.and IntKind.i64 x5 (1 : Int) != (0 : Int)) = false, (0 : Int) ≤ (1 : Int)]) : To Tryd.prog (loopAt Tryd.f99 1) ({ n := 39, fr := [(4, AV.v (.int .u32 x2)), (6, AV.v (.int .u32 x3)), (7, AV.v (.int .u32 x4)), (8, AV.v (.int .i64 x5))], hp := [], nx := 0 }) (.normal) { n := 39, fr := [(4, AV.v (.int .u32 x2)), (6, AV.v (.int .u32 x3)), (7, AV.v (.int .u32 (x4 * x4 % (4294967296 : Int)))), (8, AV.v (.int .i64 (x5 / (2 : Int))))], hp := [], nx := 0 } :=
  evW_to hm soX0 (hs := [CHint.ops 8 [(1, Hint.b true)], CHint.ops 10 [(2, Hint.b false)], CHint.ops 12 [(2, Hint.wrap)]]) (slots := [4, 6, 7, 8]) (keys := []) (nx := 0) (c := _) (by kernel_rfl) h
theorem hashL1_3 (t : ByteArray) (x2 : Int) (x3 : Int) (x4 : Int) (x5 : Int) (h : AllP [decide (x5 > (0 : Int)) = false]) : To Tryd.prog (loopAt Tryd.f99 1) ({ n := 39, fr := [(4, AV.v (.int .u32 x2)), (6, AV.v (.int .u32 x3)), (7, AV.v (.int .u32 x4)), (8, AV.v (.int .i64 x5))], hp := [], nx := 0 }) (Exit.exit 2) { n := 39, fr := [(4, AV.v (.int .u32 x2)), (6, AV.v (.int .u32 x3))], hp := [], nx := 0 } :=
  evW_to hm soX0 (hs := [CHint.ops 8 [(1, Hint.b false)]]) (slots := [4, 6]) (keys := []) (nx := 0) (c := _) (by kernel_rfl) h
-- 1 paths
theorem hashF1 (t : ByteArray) (x2 : Int) (x6 : Int) (h : AllP [LoopTo Tryd.prog (loopAt Tryd.f99 0) { n := 39, fr := [(0, AV.v (.string t)), (4, AV.v (.int .u32 (0 : Int))), (5, AV.v (.int .i64 (0 : Int)))], hp := [], nx := 0 } (Exit.exit 0) { n := 39, fr := [(0, AV.v (.string t)), (4, AV.v (.int .u32 x2))], hp := [], nx := 0 }, LoopTo Tryd.prog (loopAt Tryd.f99 1) { n := 39, fr := [(4, AV.v (.int .u32 x2)), (6, AV.v (.int .u32 (1 : Int))), (7, AV.v (.int .u32 (16777619 : Int))), (8, AV.v (.int .i64 (↑t.size : Int)))], hp := [], nx := 0 } (Exit.exit 2) { n := 39, fr := [(4, AV.v (.int .u32 x2)), (6, AV.v (.int .u32 x6))], hp := [], nx := 0 }]) : PureTo Tryd.prog 99 [.v (.string t)] (AV.tup [AV.v (.int .u32 x2), AV.v (.int .u32 x6)]) :=
  evFn_pure hm soX0 (fn := Tryd.f99) rfl rfl (ti := false) (hs := [CHint.loop [0, 4, 5] [] 0 (Exit.exit 0) { n := 39, fr := [(0, AV.v (.string t)), (4, AV.v (.int .u32 x2))], hp := [], nx := 0 }, CHint.loop [4, 6, 7, 8] [] 0 (Exit.exit 2) { n := 39, fr := [(4, AV.v (.int .u32 x2)), (6, AV.v (.int .u32 x6))], hp := [], nx := 0 }]) (c := _) (by kernel_rfl) h
end Go.Proofs.Us

/- Texts: bytealg.HashStr. -/
set_option maxRecDepth 100000
namespace Go.Proofs.Us
open Go Go.Ev Go.Lib

theorem byteAt_get (s : ByteArray) (k : Nat) (hk : k < s.size) : byteAt s k = (s[k].toNat : Int) := by
  have h : s.data.toList[k]? = some s[k] := byte_at s k hk
  unfold byteAt
  rw [List.getD_eq_getElem?_getD, h]
  rfl
def hashL (s : ByteArray) (i : Nat) : Int := RK.H (s.data.toList.take i) % 4294967296
theorem hashL_step {s : ByteArray} {i : Nat} (hi : i < s.size) : (hashL s i * 16777619 % 4294967296 + byteAt s i) % 4294967296 = hashL s (i + 1) := by
  have h := hash_step s i hi (h := hashL s i) rfl
  rw [byteAt_get s i hi]
  have hb := s[i].toNat_lt
  rw [Int.emod_eq_of_lt (a := (s[i].toNat : Int)) (by omega) (by omega)] at h
  exact h

theorem hash_l0 (t : ByteArray) (ht : SM t) : ∀ k i : Nat, i + k = t.size → LoopTo Tryd.prog (loopAt Tryd.f99 0) (hashS0 t (hashL t i) i) (.exit 0) (hashX0 t (hashL t t.size))
  | 0, i, h => by
    have : i = t.size := by omega
    subst this
    exact .done (by simp) (hashL0_2 t _ t.size ⟨by simp, trivial⟩)
  | k + 1, i, h => by
    unfold SM at ht
    have hi : i < t.size := by omega
    have hb := byteAt_lt t i
    have st := hashL0_1 t (hashL t i) i ⟨by simp; omega, ⟨by omega, by omega⟩, by simp only [inR, Int.toNat_natCast]; omega, by simp only [inR]; omega, trivial⟩
    simp only [Int.toNat_natCast] at st
    rw [hashL_step hi] at st
    exact .step st (hash_l0 t (by unfold SM; exact ht) k (i + 1) (by omega))

theorem mulM (a b : Int) : ((a % 4294967296) * b) % 4294967296 = (a * b) % 4294967296 := RK.mul_mod_left a b
theorem mulM' (a b : Int) : (a * (b % 4294967296)) % 4294967296 = (a * b) % 4294967296 := by rw [Int.mul_comm, mulM, Int.mul_comm]
theorem powM (a : Int) : ∀ j : Nat, ((a % 4294967296) ^ j) % 4294967296 = (a ^ j) % 4294967296
  | 0 => by rw [Int.pow_zero, Int.pow_zero]
  | j + 1 => by rw [Int.pow_succ, Int.pow_succ, mulM', ← mulM, powM a j, mulM]
theorem sq_pow (q : Int) : ∀ j : Nat, (q * q) ^ j = q ^ (2 * j)
  | 0 => by rw [Int.pow_zero, Nat.mul_zero, Int.pow_zero]
  | j + 1 => by rw [Int.pow_succ, sq_pow q j, show 2 * (j + 1) = 2 * j + 1 + 1 from by omega, Int.pow_succ, Int.pow_succ, Int.mul_assoc]
def powL (n : Nat) : Int := 16777619 ^ n % 4294967296

theorem odd_bit (i : Nat) (hi : i < 9223372036854775808) : (bitsOf BinOp.and IntKind.i64 (i : Int) (1 : Int) != 0) = decide (i % 2 = 1) := by
  have h : bitsOf BinOp.and IntKind.i64 (i : Int) 1 = ((i % 2 : Nat) : Int) := and_one i hi
  rw [h]
  rcases Nat.mod_two_eq_zero_or_one i with e | e <;> rw [e] <;> rfl

theorem hash_l1 (t : ByteArray) (x2 : Int) (n : Nat) : ∀ (f i : Nat) (p q : Int), i ≤ f → i < 9223372036854775808 → 0 ≤ p → p < 4294967296 → (p * q ^ i) % 4294967296 = powL n →
    LoopTo Tryd.prog (loopAt Tryd.f99 1) (hashS1 t x2 p q i) (.exit 2) (hashX1 t x2 (powL n))
  | 0, i, p, q, hf, _, h0, h1, he => by
    obtain rfl : i = 0 := by omega
    have : p = powL n := by rw [← he, Int.pow_zero, Int.mul_one]; exact (Int.emod_eq_of_lt h0 h1).symm
    subst this
    exact .done (by simp) (hashL1_3 t x2 _ q 0 ⟨by simp, trivial⟩)
  | f + 1, i, p, q, hf, hi, h0, h1, he => by
    by_cases c : i = 0
    · subst c
      have : p = powL n := by rw [← he, Int.pow_zero, Int.mul_one]; exact (Int.emod_eq_of_lt h0 h1).symm
      subst this
      exact .done (by simp) (hashL1_3 t x2 _ q 0 ⟨by simp, trivial⟩)
    · have hd : decide ((i : Int) > 0) = true := by simp; omega
      have hb := odd_bit i hi
      rcases Nat.mod_two_eq_zero_or_one i with e | e
      · have st := hashL1_2 t x2 p q i ⟨hd, by rw [hb, e]; rfl, by decide, trivial⟩
        rw [show (i : Int) / 2 = ((i / 2 : Nat) : Int) from by omega] at st
        refine .step st (hash_l1 t x2 n f (i / 2) p _ (by omega) (by omega) h0 h1 ?_)
        rw [← mulM', powM, mulM', ← he]
        rw [sq_pow, show 2 * (i / 2) = i from by omega]
      · have st := hashL1_1 t x2 p q i ⟨hd, by rw [hb, e]; rfl, by decide, trivial⟩
        rw [show (i : Int) / 2 = ((i / 2 : Nat) : Int) from by omega] at st
        refine .step st (hash_l1 t x2 n f (i / 2) _ _ (by omega) (by omega) (Int.emod_nonneg _ (by omega)) (Int.emod_lt_of_pos _ (by omega)) ?_)
        have e1 : q ^ i = q * (q * q) ^ (i / 2) := by
          rw [sq_pow, Int.mul_comm, ← Int.pow_succ, show (2 * (i / 2)).succ = i from by omega]
        rw [mulM, ← mulM', powM, mulM', ← he, Int.mul_assoc, e1]

theorem hash_c {t : ByteArray} (ht : SM t) : PureTo Tryd.prog 99 [.v (.string t)] (.tup [.v (.int .u32 (hashL t t.size)), .v (.int .u32 (powL t.size))]) := by
  have ht' := ht
  unfold SM at ht'
  refine hashF1 (t := t) (x2 := hashL t t.size) (x6 := powL t.size) (h := ⟨hash_l0 t ht t.size 0 (by omega), hash_l1 t _ t.size t.size t.size 1 16777619 (Nat.le_refl _) (by omega) (by omega) (by omega) ?_, trivial⟩)
  rw [Int.one_mul]
  rfl
end Go.Proofs.Us

/- Texts: the table for IndexRabinKarp. -/
set_option maxRecDepth 100000
namespace Go.Proofs.Us
open Go Go.Ev
def SX1 : SGT := (99, .p (sigS fun t => (.tup [.v (.int .u32 (hashL t t.size)), .v (.int .u32 (powL t.size))], [SM t]))) :: SX0
theorem soX1 : SigsOK Tryd.prog SX1 := Go.Ev.sigs_cons soX0 (sigS_ok fun t h => hash_c h.1)
end Go.Proofs.Us

/- Texts: walks, written by the tool. -/
set_option maxRecDepth 100000
namespace Go.Proofs.Us
open Go Go.Ev
def rkS0 (s t : ByteArray) (x0 : Int) (x1 : Int) : AS := { n := 81, fr := [(0, AV.v (.string s)), (1, AV.v (.string t)), (5, AV.v (.int .u32 (hashL t t.size))), (6, AV.v (.int .u32 (powL t.size))), (7, AV.v (.int .i64 (↑t.size : Int))), (8, AV.v (.int .u32 x0)), (9, AV.v (.int .i64 x1))], hp := [], nx := 0 }
def rkX0 (s t : ByteArray) (x2 : Int) : AS := { n := 81, fr := [(0, AV.v (.string s)), (1, AV.v (.string t)), (5, AV.v (.int .u32 (hashL t t.size))), (6, AV.v (.int .u32 (powL t.size))), (7, AV.v (.int .i64 (↑t.size : Int))), (8, AV.v (.int .u32 x2))], hp := [], nx := 0 }
def rkS1 (s t : ByteArray) (x3 : Int) (x4 : Int) : AS := { n := 81, fr := [(0, AV.v (.string s)), (1, AV.v (.string t)), (5, AV.v (.int .u32 (hashL t t.size))), (6, AV.v (.int .u32 (powL t.size))), (7, AV.v (.int .i64 (↑t.size : Int))), (8, AV.v (.int .u32 x3)), (10, AV.v (.int .i64 x4))], hp := [], nx := 0 }
def rkX1 (s t : ByteArray)  : AS := { n := 81, fr := [], hp := [], nx := 0 }
def rkX1_1 (s t : ByteArray)  : AS := { n := 81, fr := [], hp := [], nx := 0 }
-- 2 paths
theorem rkL0_1 (s t : ByteArray) (x0 : Int) (x1 : Int) (h : AllP [decide (x1 < (↑t.size : Int)) = true, (0 : Int) ≤ x1 ∧ x1 < (↑s.size : Int), inR IntKind.u32 (byteAt s x1.toNat), inR IntKind.i64 (x1 + (1 : Int))]) : To Tryd.prog (loopAt Tryd.f92 0) ({ n := 81, fr := [(0, AV.v (.string s)), (1, AV.v (.string t)), (5, AV.v (.int .u32 (hashL t t.size))), (6, AV.v (.int .u32 (powL t.size))), (7, AV.v (.int .i64 (↑t.size : Int))), (8, AV.v (.int .u32 x0)), (9, AV.v (.int .i64 x1))], hp := [], nx := 0 }) (.normal) { n := 81, fr := [(0, AV.v (.string s)), (1, AV.v (.string t)), (5, AV.v (.int .u32 (hashL t t.size))), (6, AV.v (.int .u32 (powL t.size))), (7, AV.v (.int .i64 (↑t.size : Int))), (8, AV.v (.int .u32 ((x0 * (16777619 : Int) % (4294967296 : Int) + byteAt s x1.toNat) % (4294967296 : Int)))), (9, AV.v (.int .i64 (x1 + (1 : Int))))], hp := [], nx := 0 } :=
  evW_to hm soX1 (hs := [CHint.ops 5 [(2, Hint.b true)], CHint.ops 7 [(1, Hint.wrap), (6, Hint.wrap)]]) (slots := [0, 1, 5, 6, 7, 8, 9]) (keys := []) (nx := 0) (c := _) (by kernel_rfl) h
theorem rkL0_2 (s t : ByteArray) (x0 : Int) (x1 : Int) (h : AllP [decide (x1 < (↑t.size : Int)) = false]) : To Tryd.prog (loopAt Tryd.f92 0) ({ n := 81, fr := [(0, AV.v (.string s)), (1, AV.v (.string t)), (5, AV.v (.int .u32 (hashL t t.size))), (6, AV.v (.int .u32 (powL t.size))), (7, AV.v (.int .i64 (↑t.size : Int))), (8, AV.v (.int .u32 x0)), (9, AV.v (.int .i64 x1))], hp := [], nx := 0 }) (Exit.exit 0) { n := 81, fr := [(0, AV.v (.string s)), (1, AV.v (.string t)), (5, AV.v (.int .u32 (hashL t t.size))), (6, AV.v (.int .u32 (powL t.size))), (7, AV.v (.int .i64 (↑t.size : Int))), (8, AV.v (.int .u32 x0))], hp := [], nx := 0 } :=
  evW_to hm soX1 (hs := [CHint.ops 5 [(2, Hint.b false)]]) (slots := [0, 1, 5, 6, 7, 8]) (keys := []) (nx := 0) (c := _) (by kernel_rfl) h
-- 4 paths
theorem rkL1_1 (s t : ByteArray) (x3 : Int) (x4 : Int) (h : AllP [decide (x4 < (↑s.size : Int)) = true, (0 : Int) ≤ x4 ∧ x4 < (↑s.size : Int), inR IntKind.u32 (byteAt s x4.toNat), inR IntKind.i64 (x4 - (↑t.size : Int)), (0 : Int) ≤ x4 - (↑t.size : Int) ∧ x4 - (↑t.size : Int) < (↑s.size : Int), inR IntKind.u32 (byteAt s (x4 - (↑t.size : Int)).toNat), inR IntKind.i64 (x4 + (1 : Int)), (((x3 * (16777619 : Int) % (4294967296 : Int) + byteAt s x4.toNat) % (4294967296 : Int) - powL t.size * byteAt s (x4 - (↑t.size : Int)).toNat % (4294967296 : Int)) % (4294967296 : Int) == hashL t t.size) = true, inR IntKind.i64 (x4 + (1 : Int) - (↑t.size : Int)), (0 : Int) ≤ x4 + (1 : Int) ∧ x4 + (1 : Int) ≤ (↑s.size : Int), (0 : Int) ≤ x4 + (1 : Int) - (↑t.size : Int) ∧ x4 + (1 : Int) - (↑t.size : Int) ≤ (↑(x4 + (1 : Int)).toNat : Int), ((s.extract (x4 + (1 : Int) - (↑t.size : Int)).toNat (x4 + (1 : Int)).toNat).toList == t.toList) = true, inR IntKind.i64 (x4 + (1 : Int) - (↑t.size : Int))]) : To Tryd.prog (loopAt Tryd.f92 1) ({ n := 81, fr := [(0, AV.v (.string s)), (1, AV.v (.string t)), (5, AV.v (.int .u32 (hashL t t.size))), (6, AV.v (.int .u32 (powL t.size))), (7, AV.v (.int .i64 (↑t.size : Int))), (8, AV.v (.int .u32 x3)), (10, AV.v (.int .i64 x4))], hp := [], nx := 0 }) (Exit.ret) { n := 81, fr := [(4, AV.v (.int .i64 (x4 + (1 : Int) - (↑t.size : Int))))], hp := [], nx := 0 } :=
  evW_to hm soX1 (hs := [CHint.ops 11 [(3, Hint.b true)], CHint.ops 12 [(1, Hint.wrap)], CHint.ops 13 [(5, Hint.wrap)], CHint.ops 14 [(8, Hint.wrap), (9, Hint.wrap)], CHint.ops 16 [(2, Hint.b true), (11, Hint.b true)]]) (slots := [4]) (keys := []) (nx := 0) (c := _) (by kernel_rfl) h
theorem rkL1_2 (s t : ByteArray) (x3 : Int) (x4 : Int) (h : AllP [decide (x4 < (↑s.size : Int)) = true, (0 : Int) ≤ x4 ∧ x4 < (↑s.size : Int), inR IntKind.u32 (byteAt s x4.toNat), inR IntKind.i64 (x4 - (↑t.size : Int)), (0 : Int) ≤ x4 - (↑t.size : Int) ∧ x4 - (↑t.size : Int) < (↑s.size : Int), inR IntKind.u32 (byteAt s (x4 - (↑t.size : Int)).toNat), inR IntKind.i64 (x4 + (1 : Int)), (((x3 * (16777619 : Int) % (4294967296 : Int) + byteAt s x4.toNat) % (4294967296 : Int) - powL t.size * byteAt s (x4 - (↑t.size : Int)).toNat % (4294967296 : Int)) % (4294967296 : Int) == hashL t t.size) = true, inR IntKind.i64 (x4 + (1 : Int) - (↑t.size : Int)), (0 : Int) ≤ x4 + (1 : Int) ∧ x4 + (1 : Int) ≤ (↑s.size : Int), (0 : Int) ≤ x4 + (1 : Int) - (↑t.size : Int) ∧ x4 + (1 : Int) - (↑t.size : Int) ≤ (↑(x4 + (1 : Int)).toNat : Int), ((s.extract (x4 + (1 : Int) - (↑t.size : Int)).toNat (x4 + (1 : Int)).toNat).toList == t.toList) = false]) : To Tryd.prog (loopAt Tryd.f92 1) ({ n := 81, fr := [(0, AV.v (.string s)), (1, AV.v (.string t)), (5, AV.v (.int .u32 (hashL t t.size))), (6, AV.v (.int .u32 (powL t.size))), (7, AV.v (.int .i64 (↑t.size : Int))), (8, AV.v (.int .u32 x3)), (10, AV.v (.int .i64 x4))], hp := [], nx := 0 }) (.normal) { n := 81, fr := [(0, AV.v (.string s)), (1, AV.v (.string t)), (5, AV.v (.int .u32 (hashL t t.size))), (6, AV.v (.int .u32 (powL t.size))), (7, AV.v (.int .i64 (↑t.size : Int))), (8, AV.v (.int .u32 (((x3 * (16777619 : Int) % (4294967296 : Int) + byteAt s x4.toNat) % (4294967296 : Int) - powL t.size * byteAt s (x4 - (↑t.size : Int)).toNat % (4294967296 : Int)) % (4294967296 : Int)))), (10, AV.v (.int .i64 (x4 + (1 : Int))))], hp := [], nx := 0 } :=
  evW_to hm soX1 (hs := [CHint.ops 11 [(3, Hint.b true)], CHint.ops 12 [(1, Hint.wrap)], CHint.ops 13 [(5, Hint.wrap)], CHint.ops 14 [(8, Hint.wrap), (9, Hint.wrap)], CHint.ops 16 [(2, Hint.b true), (11, Hint.b false)]]) (slots := [0, 1, 5, 6, 7, 8, 10]) (keys := []) (nx := 0) (c := _) (by kernel_rfl) h
theorem rkL1_3 (s t : ByteArray) (x3 : Int) (x4 : Int) (h : AllP [decide (x4 < (↑s.size : Int)) = true, (0 : Int) ≤ x4 ∧ x4 < (↑s.size : Int), inR IntKind.u32 (byteAt s x4.toNat), inR IntKind.i64 (x4 - (↑t.size : Int)), (0 : Int) ≤ x4 - (↑t.size : Int) ∧ x4 - (↑t.size : Int) < (↑s.size : Int), inR IntKind.u32 (byteAt s (x4 - (↑t.size : Int)).toNat), inR IntKind.i64 (x4 + (1 : Int)), (((x3 * (16777619 : Int) % (4294967296 : Int) + byteAt s x4.toNat) % (4294967296 : Int) - powL t.size * byteAt s (x4 - (↑t.size : Int)).toNat % (4294967296 : Int)) % (4294967296 : Int) == hashL t t.size) = false]) : To Tryd.prog (loopAt Tryd.f92 1) ({ n := 81, fr := [(0, AV.v (.string s)), (1, AV.v (.string t)), (5, AV.v (.int .u32 (hashL t t.size))), (6, AV.v (.int .u32 (powL t.size))), (7, AV.v (.int .i64 (↑t.size : Int))), (8, AV.v (.int .u32 x3)), (10, AV.v (.int .i64 x4))], hp := [], nx := 0 }) (.normal) { n := 81, fr := [(0, AV.v (.string s)), (1, AV.v (.string t)), (5, AV.v (.int .u32 (hashL t t.size))), (6, AV.v (.int .u32 (powL t.size))), (7, AV.v (.int .i64 (↑t.size : Int))), (8, AV.v (.int .u32 (((x3 * (16777619 : Int) % (4294967296 : Int) + byteAt s x4.toNat) % (4294967296 : Int) - powL t.size * byteAt s (x4 - (↑t.size : Int)).toNat % (4294967296 : Int)) % (4294967296 : Int)))), (10, AV.v (.int .i64 (x4 + (1 : Int))))], hp := [], nx := 0 } :=
  evW_to hm soX1 (hs := [CHint.ops 11 [(3, Hint.b true)], CHint.ops 12 [(1, Hint.wrap)], CHint.ops 13 [(5, Hint.wrap)], CHint.ops 14 [(8, Hint.wrap), (9, Hint.wrap)], CHint.ops 16 [(2, Hint.b false)]]) (slots := [0, 1, 5, 6, 7, 8, 10]) (keys := []) (nx := 0) (c := _) (by kernel_rfl) h
theorem rkL1_4 (s t : ByteArray) (x3 : Int) (x4 : Int) (h : AllP [decide (x4 < (↑s.size : Int)) = false]) : To Tryd.prog (loopAt Tryd.f92 1) ({ n := 81, fr := [(0, AV.v (.string s)), (1, AV.v (.string t)), (5, AV.v (.int .u32 (hashL t t.size))), (6, AV.v (.int .u32 (powL t.size))), (7, AV.v (.int .i64 (↑t.size : Int))), (8, AV.v (.int .u32 x3)), (10, AV.v (.int .i64 x4))], hp := [], nx := 0 }) (Exit.exit 2) { n := 81, fr := [], hp := [], nx := 0 } :=
  evW_to hm soX1 (hs := [CHint.ops 11 [(3, Hint.b false)]]) (slots := []) (keys := []) (nx := 0) (c := _) (by kernel_rfl) h
-- 5 paths
theorem rkF1 (s t : ByteArray) (x2 : Int) (x5 : Int) (h : AllP [SM t, LoopTo Tryd.prog (loopAt Tryd.f92 0) { n := 81, fr := [(0, AV.v (.string s)), (1, AV.v (.string t)), (5, AV.v (.int .u32 (hashL t t.size))), (6, AV.v (.int .u32 (powL t.size))), (7, AV.v (.int .i64 (↑t.size : Int))), (8, AV.v (.int .u32 (0 : Int))), (9, AV.v (.int .i64 (0 : Int)))], hp := [], nx := 0 } (Exit.exit 0) { n := 81, fr := [(0, AV.v (.string s)), (1, AV.v (.string t)), (5, AV.v (.int .u32 (hashL t t.size))), (6, AV.v (.int .u32 (powL t.size))), (7, AV.v (.int .i64 (↑t.size : Int))), (8, AV.v (.int .u32 x2))], hp := [], nx := 0 }, (x2 == hashL t t.size) = true, (0 : Int) ≤ (↑t.size : Int) ∧ (↑t.size : Int) ≤ (↑s.size : Int), ((s.extract 0 (↑t.size : Int).toNat).toList == t.toList) = true]) : PureTo Tryd.prog 92 [.v (.string s), .v (.string t)] (AV.v (.int .i64 (0 : Int))) :=
  evFn_pure hm soX1 (fn := Tryd.f92) rfl rfl (ti := false) (hs := [CHint.loop [0, 1, 5, 6, 7, 8, 9] [] 0 (Exit.exit 0) { n := 81, fr := [(0, AV.v (.string s)), (1, AV.v (.string t)), (5, AV.v (.int .u32 (hashL t t.size))), (6, AV.v (.int .u32 (powL t.size))), (7, AV.v (.int .i64 (↑t.size : Int))), (8, AV.v (.int .u32 x2))], hp := [], nx := 0 }, CHint.ops 8 [(2, Hint.b true), (8, Hint.b true)]]) (c := _) (by kernel_rfl) h
theorem rkF2 (s t : ByteArray) (x2 : Int) (x5 : Int) (h : AllP [SM t, LoopTo Tryd.prog (loopAt Tryd.f92 0) { n := 81, fr := [(0, AV.v (.string s)), (1, AV.v (.string t)), (5, AV.v (.int .u32 (hashL t t.size))), (6, AV.v (.int .u32 (powL t.size))), (7, AV.v (.int .i64 (↑t.size : Int))), (8, AV.v (.int .u32 (0 : Int))), (9, AV.v (.int .i64 (0 : Int)))], hp := [], nx := 0 } (Exit.exit 0) { n := 81, fr := [(0, AV.v (.string s)), (1, AV.v (.string t)), (5, AV.v (.int .u32 (hashL t t.size))), (6, AV.v (.int .u32 (powL t.size))), (7, AV.v (.int .i64 (↑t.size : Int))), (8, AV.v (.int .u32 x2))], hp := [], nx := 0 }, (x2 == hashL t t.size) = true, (0 : Int) ≤ (↑t.size : Int) ∧ (↑t.size : Int) ≤ (↑s.size : Int), ((s.extract 0 (↑t.size : Int).toNat).toList == t.toList) = false, LoopTo Tryd.prog (loopAt Tryd.f92 1) { n := 81, fr := [(0, AV.v (.string s)), (1, AV.v (.string t)), (5, AV.v (.int .u32 (hashL t t.size))), (6, AV.v (.int .u32 (powL t.size))), (7, AV.v (.int .i64 (↑t.size : Int))), (8, AV.v (.int .u32 x2)), (10, AV.v (.int .i64 (↑t.size : Int)))], hp := [], nx := 0 } (Exit.exit 2) { n := 81, fr := [], hp := [], nx := 0 }]) : PureTo Tryd.prog 92 [.v (.string s), .v (.string t)] (AV.v (.int .i64 (-1 : Int))) :=
  evFn_pure hm soX1 (fn := Tryd.f92) rfl rfl (ti := false) (hs := [CHint.loop [0, 1, 5, 6, 7, 8, 9] [] 0 (Exit.exit 0) { n := 81, fr := [(0, AV.v (.string s)), (1, AV.v (.string t)), (5, AV.v (.int .u32 (hashL t t.size))), (6, AV.v (.int .u32 (powL t.size))), (7, AV.v (.int .i64 (↑t.size : Int))), (8, AV.v (.int .u32 x2))], hp := [], nx := 0 }, CHint.ops 8 [(2, Hint.b true), (8, Hint.b false)], CHint.loop [0, 1, 5, 6, 7, 8, 10] [] 0 (Exit.exit 2) { n := 81, fr := [], hp := [], nx := 0 }]) (c := _) (by kernel_rfl) h
theorem rkF3 (s t : ByteArray) (x2 : Int) (x5 : Int) (h : AllP [SM t, LoopTo Tryd.prog (loopAt Tryd.f92 0) { n := 81, fr := [(0, AV.v (.string s)), (1, AV.v (.string t)), (5, AV.v (.int .u32 (hashL t t.size))), (6, AV.v (.int .u32 (powL t.size))), (7, AV.v (.int .i64 (↑t.size : Int))), (8, AV.v (.int .u32 (0 : Int))), (9, AV.v (.int .i64 (0 : Int)))], hp := [], nx := 0 } (Exit.exit 0) { n := 81, fr := [(0, AV.v (.string s)), (1, AV.v (.string t)), (5, AV.v (.int .u32 (hashL t t.size))), (6, AV.v (.int .u32 (powL t.size))), (7, AV.v (.int .i64 (↑t.size : Int))), (8, AV.v (.int .u32 x2))], hp := [], nx := 0 }, (x2 == hashL t t.size) = true, (0 : Int) ≤ (↑t.size : Int) ∧ (↑t.size : Int) ≤ (↑s.size : Int), ((s.extract 0 (↑t.size : Int).toNat).toList == t.toList) = false, LoopTo Tryd.prog (loopAt Tryd.f92 1) { n := 81, fr := [(0, AV.v (.string s)), (1, AV.v (.string t)), (5, AV.v (.int .u32 (hashL t t.size))), (6, AV.v (.int .u32 (powL t.size))), (7, AV.v (.int .i64 (↑t.size : Int))), (8, AV.v (.int .u32 x2)), (10, AV.v (.int .i64 (↑t.size : Int)))], hp := [], nx := 0 } Exit.ret { n := 81, fr := [(4, AV.v (.int .i64 x5))], hp := [], nx := 0 }]) : PureTo Tryd.prog 92 [.v (.string s), .v (.string t)] (AV.v (.int .i64 x5)) :=
  evFn_pure hm soX1 (fn := Tryd.f92) rfl rfl (ti := false) (hs := [CHint.loop [0, 1, 5, 6, 7, 8, 9] [] 0 (Exit.exit 0) { n := 81, fr := [(0, AV.v (.string s)), (1, AV.v (.string t)), (5, AV.v (.int .u32 (hashL t t.size))), (6, AV.v (.int .u32 (powL t.size))), (7, AV.v (.int .i64 (↑t.size : Int))), (8, AV.v (.int .u32 x2))], hp := [], nx := 0 }, CHint.ops 8 [(2, Hint.b true), (8, Hint.b false)], CHint.loop [0, 1, 5, 6, 7, 8, 10] [] 0 Exit.ret { n := 81, fr := [(4, AV.v (.int .i64 x5))], hp := [], nx := 0 }]) (c := _) (by kernel_rfl) h
theorem rkF4 (s t : ByteArray) (x2 : Int) (x5 : Int) (h : AllP [SM t, LoopTo Tryd.prog (loopAt Tryd.f92 0) { n := 81, fr := [(0, AV.v (.string s)), (1, AV.v (.string t)), (5, AV.v (.int .u32 (hashL t t.size))), (6, AV.v (.int .u32 (powL t.size))), (7, AV.v (.int .i64 (↑t.size : Int))), (8, AV.v (.int .u32 (0 : Int))), (9, AV.v (.int .i64 (0 : Int)))], hp := [], nx := 0 } (Exit.exit 0) { n := 81, fr := [(0, AV.v (.string s)), (1, AV.v (.string t)), (5, AV.v (.int .u32 (hashL t t.size))), (6, AV.v (.int .u32 (powL t.size))), (7, AV.v (.int .i64 (↑t.size : Int))), (8, AV.v (.int .u32 x2))], hp := [], nx := 0 }, (x2 == hashL t t.size) = false, LoopTo Tryd.prog (loopAt Tryd.f92 1) { n := 81, fr := [(0, AV.v (.string s)), (1, AV.v (.string t)), (5, AV.v (.int .u32 (hashL t t.size))), (6, AV.v (.int .u32 (powL t.size))), (7, AV.v (.int .i64 (↑t.size : Int))), (8, AV.v (.int .u32 x2)), (10, AV.v (.int .i64 (↑t.size : Int)))], hp := [], nx := 0 } (Exit.exit 2) { n := 81, fr := [], hp := [], nx := 0 }]) : PureTo Tryd.prog 92 [.v (.string s), .v (.string t)] (AV.v (.int .i64 (-1 : Int))) :=
  evFn_pure hm soX1 (fn := Tryd.f92) rfl rfl (ti := false) (hs := [CHint.loop [0, 1, 5, 6, 7, 8, 9] [] 0 (Exit.exit 0) { n := 81, fr := [(0, AV.v (.string s)), (1, AV.v (.string t)), (5, AV.v (.int .u32 (hashL t t.size))), (6, AV.v (.int .u32 (powL t.size))), (7, AV.v (.int .i64 (↑t.size : Int))), (8, AV.v (.int .u32 x2))], hp := [], nx := 0 }, CHint.ops 8 [(2, Hint.b false)], CHint.loop [0, 1, 5, 6, 7, 8, 10] [] 0 (Exit.exit 2) { n := 81, fr := [], hp := [], nx := 0 }]) (c := _) (by kernel_rfl) h
theorem rkF5 (s t : ByteArray) (x2 : Int) (x5 : Int) (h : AllP [SM t, LoopTo Tryd.prog (loopAt Tryd.f92 0) { n := 81, fr := [(0, AV.v (.string s)), (1, AV.v (.string t)), (5, AV.v (.int .u32 (hashL t t.size))), (6, AV.v (.int .u32 (powL t.size))), (7, AV.v (.int .i64 (↑t.size : Int))), (8, AV.v (.int .u32 (0 : Int))), (9, AV.v (.int .i64 (0 : Int)))], hp := [], nx := 0 } (Exit.exit 0) { n := 81, fr := [(0, AV.v (.string s)), (1, AV.v (.string t)), (5, AV.v (.int .u32 (hashL t t.size))), (6, AV.v (.int .u32 (powL t.size))), (7, AV.v (.int .i64 (↑t.size : Int))), (8, AV.v (.int .u32 x2))], hp := [], nx := 0 }, (x2 == hashL t t.size) = false, LoopTo Tryd.prog (loopAt Tryd.f92 1) { n := 81, fr := [(0, AV.v (.string s)), (1, AV.v (.string t)), (5, AV.v (.int .u32 (hashL t t.size))), (6, AV.v (.int .u32 (powL t.size))), (7, AV.v (.int .i64 (↑t.size : Int))), (8, AV.v (.int .u32 x2)), (10, AV.v (.int .i64 (↑t.size : Int)))], hp := [], nx := 0 } Exit.ret { n := 81, fr := [(4, AV.v (.int .i64 x5))], hp := [], nx := 0 }]) : PureTo Tryd.prog 92 [.v (.string s), .v (.string t)] (AV.v (.int .i64 x5)) :=
  evFn_pure hm soX1 (fn := Tryd.f92) rfl rfl (ti := false) (hs := [CHint.loop [0, 1, 5, 6, 7, 8, 9] [] 0 (Exit.exit 0) { n := 81, fr := [(0, AV.v (.string s)), (1, AV.v (.string t)), (5, AV.v (.int .u32 (hashL t t.size))), (6, AV.v (.int .u32 (powL t.size))), (7, AV.v (.int .i64 (↑t.size : Int))), (8, AV.v (.int .u32 x2))], hp := [], nx := 0 }, CHint.ops 8 [(2, Hint.b false)], CHint.loop [0, 1, 5, 6, 7, 8, 10] [] 0 Exit.ret { n := 81, fr := [(4, AV.v (.int .i64 x5))], hp := [], nx := 0 }]) (c := _) (by kernel_rfl) h
end Go.Proofs.Us

/- Texts: bytealg.IndexRabinKarp. -/
set_option maxRecDepth 100000
namespace Go.Proofs.Us
open Go Go.Ev Go.Lib

/-- where a text of bytes stands first -/
def idxB (s t : ByteArray) : Int := Lib.index s.data.toList t.data.toList
def rkRet (s t : ByteArray) (j : Int) : AS := { n := 81, fr := [(4, AV.v (.int .i64 j))], hp := [], nx := 0 }
def rkEnd (s t : ByteArray) : AS := { n := 81, fr := [], hp := [], nx := 0 }

theorem len_data (s : ByteArray) : s.data.toList.length = s.size := by rw [Array.length_toList]; rfl
theorem idxB_at {s t : ByteArray} {j : Nat} (hj : j + t.size ≤ s.size) (ho : occAt s.data.toList t.data.toList j = true) (hn : NoOcc s.data.toList t.data.toList j) : idxB s t = j :=
  Lib.index_first (by rw [len_data]; omega) ho hn
theorem idxB_none {s t : ByteArray} (ht : 1 ≤ t.size) {j : Nat} (hj : s.size < j + t.size) (hn : NoOcc s.data.toList t.data.toList j) : idxB s t = -1 := by
  refine Lib.index_none fun i _ => ?_
  by_cases h : i < j
  · exact hn i h
  · cases ho : occAt s.data.toList t.data.toList i with
    | false => rfl
    | true =>
      rcases occAt_room ho with h' | h'
      · rw [len_data, len_data] at h'; omega
      · have := len_data t
        rw [h'] at this
        simp at this
        omega
theorem noOcc_succ {s t : ByteArray} {j : Nat} (hn : NoOcc s.data.toList t.data.toList j) (h : occAt s.data.toList t.data.toList j = false) : NoOcc s.data.toList t.data.toList (j + 1) := by
  intro i hi
  by_cases e : i = j
  · rw [e]; exact h
  · exact hn i (by omega)
theorem hashL_all (t : ByteArray) : hashL t t.size = RK.H t.data.toList % 4294967296 := by
  unfold hashL
  rw [List.take_of_length_le (by rw [len_data]; exact Nat.le_refl _)]
def winH (s : ByteArray) (d n : Nat) : Int := RK.H (RK.win s.data.toList d n) % 4294967296
theorem winH_roll {s : ByteArray} {d n : Nat} (hn : 1 ≤ n) (hi : n + d < s.size) :
    ((winH s d n * 16777619 % 4294967296 + byteAt s (n + d)) % 4294967296 - powL n * byteAt s d % 4294967296) % 4294967296 = winH s (d + 1) n := by
  have h := roll_step s n (n + d) hn (by omega) hi (h := winH s d n) (pw := powL n) (by unfold winH; rw [show n + d - n = d from by omega]) rfl
  rw [byteAt_get s (n + d) hi, byteAt_get s d (by omega)]
  have e : s[n + d - n]'(by omega) = s[d]'(by omega) := by congr 1; omega
  rw [e] at h
  have hb := (s[d]'(by omega)).toNat_lt
  rw [Int.emod_eq_of_lt (a := ((s[d]'(by omega)).toNat : Int)) (by omega) (by omega), show n + d + 1 - n = d + 1 from by omega] at h
  unfold winH at *
  rw [← h]
  generalize powL n * ((s[d]'(by omega)).toNat : Int) = c
  generalize RK.H (RK.win s.data.toList d n) % 4294967296 = a
  omega

theorem rk_loop {s t : ByteArray} (hs : SM s) (ht1 : 1 ≤ t.size) : ∀ (k d : Nat), t.size + d + k = s.size → NoOcc s.data.toList t.data.toList (d + 1) →
    LoopTo Tryd.prog (loopAt Tryd.f92 1) (rkS1 s t (winH s d t.size) ((t.size + d : Nat) : Int)) .ret (rkRet s t (idxB s t)) ∨
    (LoopTo Tryd.prog (loopAt Tryd.f92 1) (rkS1 s t (winH s d t.size) ((t.size + d : Nat) : Int)) (.exit 2) (rkEnd s t) ∧ idxB s t = -1)
  | 0, d, h, hn => .inr ⟨.done (by simp) (rkL1_4 s t _ _ ⟨by simp; omega, trivial⟩), idxB_none ht1 (by omega) hn⟩
  | k + 1, d, h, hn => by
    unfold SM at hs
    have hi : t.size + d < s.size := by omega
    have hd : decide (((t.size + d : Nat) : Int) < (↑s.size : Int)) = true := by simp; omega
    have b1 := byteAt_lt s (t.size + d)
    have b2 := byteAt_lt s d
    have e1 : ((t.size + d : Nat) : Int).toNat = t.size + d := by omega
    have e2 : (((t.size + d : Nat) : Int) - (↑t.size : Int)).toNat = d := by omega
    have e3 : (((t.size + d : Nat) : Int) + 1 - (↑t.size : Int)).toNat = d + 1 := by omega
    have e4 : (((t.size + d : Nat) : Int) + 1).toNat = d + 1 + t.size := by omega
    have e5 : ((t.size + d : Nat) : Int) + 1 - (↑t.size : Int) = ((d + 1 : Nat) : Int) := by omega
    have p1 := rkL1_1 s t (winH s d t.size) ((t.size + d : Nat) : Int)
    have p2 := rkL1_2 s t (winH s d t.size) ((t.size + d : Nat) : Int)
    have p3 := rkL1_3 s t (winH s d t.size) ((t.size + d : Nat) : Int)
    rw [e1, e2, winH_roll ht1 hi] at p1 p2 p3
    rw [e3, e4] at p1 p2
    have q1 : (0 : Int) ≤ ((t.size + d : Nat) : Int) ∧ ((t.size + d : Nat) : Int) < (↑s.size : Int) := ⟨by omega, by omega⟩
    have q2 : inR .u32 (byteAt s (t.size + d)) := by simp only [inR]; omega
    have q3 : inR .i64 (((t.size + d : Nat) : Int) - (↑t.size : Int)) := by simp only [inR]; omega
    have q4 : (0 : Int) ≤ ((t.size + d : Nat) : Int) - (↑t.size : Int) ∧ ((t.size + d : Nat) : Int) - (↑t.size : Int) < (↑s.size : Int) := ⟨by omega, by omega⟩
    have q5 : inR .u32 (byteAt s d) := by simp only [inR]; omega
    have q6 : inR .i64 (((t.size + d : Nat) : Int) + 1) := by simp only [inR]; omega
    have q7 : inR .i64 (((t.size + d : Nat) : Int) + 1 - (↑t.size : Int)) := by simp only [inR]; omega
    have q8 : (0 : Int) ≤ ((t.size + d : Nat) : Int) + 1 ∧ ((t.size + d : Nat) : Int) + 1 ≤ (↑s.size : Int) := ⟨by omega, by omega⟩
    have q9 : (0 : Int) ≤ ((t.size + d : Nat) : Int) + 1 - (↑t.size : Int) ∧ ((t.size + d : Nat) : Int) + 1 - (↑t.size : Int) ≤ (↑(d + 1 + t.size) : Int) := ⟨by omega, by omega⟩
    have go : occAt s.data.toList t.data.toList (d + 1) = false → ∀ st : To Tryd.prog (loopAt Tryd.f92 1) (rkS1 s t (winH s d t.size) ((t.size + d : Nat) : Int)) .normal (rkS1 s t (winH s (d + 1) t.size) (((t.size + d : Nat) : Int) + 1)),
        LoopTo Tryd.prog (loopAt Tryd.f92 1) (rkS1 s t (winH s d t.size) ((t.size + d : Nat) : Int)) .ret (rkRet s t (idxB s t)) ∨
        (LoopTo Tryd.prog (loopAt Tryd.f92 1) (rkS1 s t (winH s d t.size) ((t.size + d : Nat) : Int)) (.exit 2) (rkEnd s t) ∧ idxB s t = -1) := by
      intro ho st
      rw [show ((t.size + d : Nat) : Int) + 1 = ((t.size + (d + 1) : Nat) : Int) from by omega] at st
      rcases rk_loop (by unfold SM; exact hs) ht1 k (d + 1) (by omega) (noOcc_succ hn ho) with h | ⟨h, e⟩
      · exact .inl (.step st h)
      · exact .inr ⟨.step st h, e⟩
    rcases Bool.eq_false_or_eq_true (winH s (d + 1) t.size == hashL t t.size) with c1 | c1
    · rcases Bool.eq_false_or_eq_true ((s.extract (d + 1) (d + 1 + t.size)).toList == t.toList) with c2 | c2
      · have ho := occ_yes s t (d + 1) (by omega) c2
        have e := idxB_at (by omega) ho hn
        have p := p1 ⟨hd, q1, q2, q3, q4, q5, q6, c1, q7, q8, q9, c2, q7, trivial⟩
        rw [e5, ← e] at p
        exact .inl (.done (by simp) p)
      · exact go (occ_no s t (d + 1) (by omega) c2) (p2 ⟨hd, q1, q2, q3, q4, q5, q6, c1, q7, q8, q9, c2, trivial⟩)
    · exact go (occ_no_hash s t (d + 1) (by omega) (h := winH s (d + 1) t.size) rfl (hashL_all t) (by simpa using c1)) (p3 ⟨hd, q1, q2, q3, q4, q5, q6, c1, trivial⟩)

theorem rk_l0 {s t : ByteArray} (hs : SM s) (hst : t.size ≤ s.size) : ∀ k i : Nat, i + k = t.size → LoopTo Tryd.prog (loopAt Tryd.f92 0) (rkS0 s t (hashL s i) i) (.exit 0) (rkX0 s t (hashL s t.size))
  | 0, i, h => by
    have : i = t.size := by omega
    subst this
    exact .done (by simp) (rkL0_2 s t _ t.size ⟨by simp, trivial⟩)
  | k + 1, i, h => by
    unfold SM at hs
    have hi : i < s.size := by omega
    have hb := byteAt_lt s i
    have st := rkL0_1 s t (hashL s i) i ⟨by simp; omega, ⟨by omega, by omega⟩, by simp only [inR, Int.toNat_natCast]; omega, by simp only [inR]; omega, trivial⟩
    simp only [Int.toNat_natCast] at st
    rw [hashL_step hi] at st
    exact .step st (rk_l0 (by unfold SM; exact hs) hst k (i + 1) (by omega))

theorem rk_c {s t : ByteArray} (hs : SM s) (ht : SM t) (ht1 : 1 ≤ t.size) (hst : t.size ≤ s.size) : PureTo Tryd.prog 92 [.v (.string s), .v (.string t)] (.v (.int .i64 (idxB s t))) := by
  have h0 := rk_l0 hs hst t.size 0 (by omega)
  have hw : hashL s t.size = winH s 0 t.size := rfl
  rw [show hashL s 0 = 0 from rfl] at h0
  have e0 : ((↑t.size : Int)).toNat = t.size := by omega
  have q0 : (0 : Int) ≤ (↑t.size : Int) ∧ (↑t.size : Int) ≤ (↑s.size : Int) := ⟨by omega, by omega⟩
  have hx : (s.extract 0 (0 + t.size)) = s.extract 0 (↑t.size : Int).toNat := by rw [e0, Nat.zero_add]
  have z := NoOcc.zero s.data.toList t.data.toList
  rcases Bool.eq_false_or_eq_true (hashL s t.size == hashL t t.size) with c1 | c1
  · rcases Bool.eq_false_or_eq_true ((s.extract 0 (↑t.size : Int).toNat).toList == t.toList) with c2 | c2
    · have ho := occ_yes s t 0 (by omega) (by rw [hx]; exact c2)
      have e : idxB s t = ((0 : Nat) : Int) := idxB_at (by omega) ho z
      rw [e]
      exact rkF1 (s := s) (t := t) (x2 := hashL s t.size) (x5 := 0) (h := ⟨ht, h0, c1, q0, c2, trivial⟩)
    · have ho := occ_no s t 0 (by omega) (by rw [hx]; exact c2)
      rcases rk_loop hs ht1 (s.size - t.size) 0 (by omega) (noOcc_succ z ho) with h | ⟨h, e⟩
      · exact rkF3 (s := s) (t := t) (x2 := hashL s t.size) (x5 := idxB s t) (h := ⟨ht, h0, c1, q0, c2, h, trivial⟩)
      · rw [e]
        exact rkF2 (s := s) (t := t) (x2 := hashL s t.size) (x5 := 0) (h := ⟨ht, h0, c1, q0, c2, h, trivial⟩)
  · have ho := occ_no_hash s t 0 (by omega) (h := hashL s t.size) (by rw [hw]; rfl) (hashL_all t) (by simpa using c1)
    rcases rk_loop hs ht1 (s.size - t.size) 0 (by omega) (noOcc_succ z ho) with h | ⟨h, e⟩
    · exact rkF5 (s := s) (t := t) (x2 := hashL s t.size) (x5 := idxB s t) (h := ⟨ht, h0, c1, h, trivial⟩)
    · rw [e]
      exact rkF4 (s := s) (t := t) (x2 := hashL s t.size) (x5 := 0) (h := ⟨ht, h0, c1, h, trivial⟩)
end Go.Proofs.Us

/- Texts: strings.Index: the two searches that the model brings; the table. -/
set_option maxRecDepth 100000
namespace Go.Proofs.Us
open Go Go.Ev

/-- what internal/bytealg.MaxLen holds: any number -/
class MX where mx : Int
def tabsX (m : Int) : List (Nat × Nat × Seq AV) := (2, 1, .fn 1 fun _ => .v (.int .i64 m)) :: Globs.tab
theorem more_wf {m : Int} {S : St} (h : @St.wf ⟨tabsX m⟩ S) : St.wf S :=
  ⟨@St.wf.bound ⟨tabsX m⟩ S h, @St.wf.kept ⟨tabsX m⟩ S h, @St.wf.lu ⟨tabsX m⟩ S h, fun g sz q hl => @St.wf.glob ⟨tabsX m⟩ S h g sz q (by
    match g, hl with
    | 0, hl => exact hl
    | 1, hl => exact hl
    | g + 2, hl => cases (show (none : Option (Nat × Seq AV)) = some (sz, q) from hl))⟩
theorem PureTo.more {P : Program} {f : FuncId} {ys : List AV} {r : AV} (m : Int) (h : PureTo P f ys r) : @PureTo ⟨tabsX m⟩ P f ys r :=
  fun S vals hwf hv => h S vals (more_wf hwf) hv
instance (priority := 2000) globX [MX] : Globs := ⟨tabsX MX.mx⟩
variable [MX]


theorem mx_cell {S : St} (h : S.wf) : S.w.cell? ⟨2, 0, none⟩ = some (.int .i64 MX.mx) := by
  obtain ⟨_, _, hc⟩ := h.glob 2 1 (.fn 1 fun _ => .v (.int .i64 MX.mx)) rfl
  obtain ⟨_, hc⟩ := hc 0 Nat.one_pos
  obtain ⟨x, h1, _, h3⟩ := hc 0 Nat.one_pos
  cases h1
  exact h3
theorem istr_pure {s t : ByteArray} (h2 : 2 ≤ t.size) (hm : (t.size : Int) ≤ MX.mx) (hs : s.size < 4294967281) : PureTo Tryd.prog 90 [.v (.string s), .v (.string t)] (.v (.int .i64 (idxB s t))) :=
  pure_extern2 (fn := Tryd.f90) rfl (by kernel_rfl) (by kernel_rfl) (by kernel_rfl) (by kernel_rfl : Extern.find Tryd.f90 = some Extern.BytealgIndex.index) trivial fun S hwf =>
    Lib.run_indexString s t S.w 2 MX.mx (by kernel_rfl) (mx_cell hwf) h2 hm hs


def SX2 : SGT := (90, .p (sigSS fun s t => (.v (.int .i64 (idxB s t)), [2 ≤ t.size, (t.size : Int) ≤ MX.mx, s.size < 4294967281]))) ::
  (92, .p (sigSS fun s t => (.v (.int .i64 (idxB s t)), [SM s, SM t, 1 ≤ t.size, t.size ≤ s.size]))) :: (89, .p (sigSB fun s c => (.v (.int .i64 (idx1 s c)), []))) ::
  (91, .p (fun | [.v (.int .i64 i)] => some (.v (.int .i64 (cutover i)), [0 ≤ i, i ≤ 1099511627776]) | _ => none)) :: []
theorem soX2 : SigsOK Tryd.prog SX2 := by
  refine Go.Ev.sigs_cons (Go.Ev.sigs_cons (Go.Ev.sigs_cons (Go.Ev.sigs_cons (fun f sig h => by cases h) ?_) ?_) ?_) ?_
  · intro ys r c hs hc
    split at hs
    · next i =>
      cases Option.some.inj hs
      have h0 := hc.1
      have h1 := hc.2.1
      exact PureTo.more MX.mx (cutover_pure i ⟨by simp only [inR]; omega, by decide, by rw [Int.tdiv_eq_ediv_of_nonneg (by omega)]; simp only [inR]; omega, trivial⟩)
    · cases hs
  · exact sigSB_ok fun s c _ => PureTo.more MX.mx (ibsw_pure s c)
  · intro ys r c hs hc
    unfold sigSS at hs
    split at hs
    · next s t => cases Option.some.inj hs; exact PureTo.more MX.mx (rk_c hc.1 hc.2.1 hc.2.2.1 hc.2.2.2.1)
    · cases hs
  · intro ys r c hs hc
    unfold sigSS at hs
    split at hs
    · next s t => cases Option.some.inj hs; exact istr_pure hc.1 hc.2.1 hc.2.2.1
    · cases hs
end Go.Proofs.Us
