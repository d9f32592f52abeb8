/- Contracts of the program's functions, and the plain law behind them. No condition beyond those in each statement. -/
import Derived.Test.YtnmhaemjffcjaaaDoorUsAll4
import Derived.Test.YtnmhaemjffcjaaaDoorEvAll4
import Derived.Shelf.Strings.Repeat
set_option linter.unusedSimpArgs false
set_option linter.unusedVariables false
set_option linter.unusedSectionVars false
/- Texts: walks, written by the tool. -/
set_option maxRecDepth 100000
namespace Go.Proofs.Us
open Go Go.Ev
def encS0 (s : ByteArray) (x0 : Int) (l0 : List Int) (n0 : Nat) : AS := { n := 79, fr := [(0, AV.v (.string (evn s))), (3, AV.row 4 0 l0.length l0.length false), (4, AV.v (.int .i64 x0)), (5, AV.v (.int .i64 (↑(ul (evn s)) : Int)))], hp := [(4, AObj.row 5 1 (.ints .u8 l0) n0)], nx := 5 }
def encX0 (s : ByteArray) (l1 : List Int) (n1 : Nat) : AS := { n := 79, fr := [(3, AV.row 4 0 l1.length l1.length false)], hp := [(4, AObj.row 5 1 (.ints .u8 l1) n1)], nx := 5 }
def encS1 (s : ByteArray) (x0 : Int) (x1 : Int) (l2 : List Int) (n2 : Nat) : AS := { n := 79, fr := [(0, AV.v (.string (evn s))), (3, AV.row 4 0 l2.length l2.length false), (4, AV.v (.int .i64 x0)), (5, AV.v (.int .i64 (↑(ul (evn s)) : Int))), (6, AV.v (.int .u16 (un (evn s) x0.toNat))), (7, AV.v (.int .i64 x1))], hp := [(4, AObj.row 5 1 (.ints .u8 l2) n2)], nx := 5 }
def encX1 (s : ByteArray) (x0 : Int) (l3 : List Int) (n3 : Nat) : AS := { n := 79, fr := [(0, AV.v (.string (evn s))), (3, AV.row 4 0 l3.length l3.length false), (4, AV.v (.int .i64 x0)), (5, AV.v (.int .i64 (↑(ul (evn s)) : Int)))], hp := [(4, AObj.row 5 1 (.ints .u8 l3) n3)], nx := 5 }
-- 11 paths
theorem encL0_1 (s : ByteArray) (x0 : Int) (l0 : List Int) (l3 : List Int) (n0 : Nat) (n3 : Nat) (h : AllP [decide (x0 < (↑(ul (evn s)) : Int)) = true, SZ (evn s), (0 : Int) ≤ x0 ∧ x0 < (↑(ul (evn s)) : Int), high (un (evn s) x0.toNat) = true, inR IntKind.i64 (x0 + (1 : Int)), decide (x0 + (1 : Int) < (↑(ul (evn s)) : Int)) = true, inR IntKind.i64 (x0 + (1 : Int)), SZ (evn s), (0 : Int) ≤ x0 + (1 : Int) ∧ x0 + (1 : Int) < (↑(ul (evn s)) : Int), low (un (evn s) (x0 + (1 : Int)).toNat) = true, inR IntKind.i64 (x0 + (1 : Int)), inR IntKind.i32 (bitsOf BinOp.and IntKind.u16 (un (evn s) x0.toNat) (1023 : Int)), (0 : Int) ≤ (10 : Int), inR IntKind.i32 (bitsOf BinOp.and IntKind.u16 (un (evn s) x0.toNat) (1023 : Int) * (1024 : Int)), inR IntKind.i32 ((65536 : Int) + bitsOf BinOp.and IntKind.u16 (un (evn s) x0.toNat) (1023 : Int) * (1024 : Int)), SZ (evn s), (0 : Int) ≤ x0 + (1 : Int) ∧ x0 + (1 : Int) < (↑(ul (evn s)) : Int), inR IntKind.i32 (bitsOf BinOp.and IntKind.u16 (un (evn s) (x0 + (1 : Int)).toNat) (1023 : Int)), inR IntKind.i32 ((65536 : Int) + bitsOf BinOp.and IntKind.u16 (un (evn s) x0.toNat) (1023 : Int) * (1024 : Int) + bitsOf BinOp.and IntKind.u16 (un (evn s) (x0 + (1 : Int)).toNat) (1023 : Int)), 4294967296 = rsv, l0.length = l0.length, l0.length = l0.length, (0 : Int) ≤ (65536 : Int) + bitsOf BinOp.and IntKind.u16 (un (evn s) x0.toNat) (1023 : Int) * (1024 : Int) + bitsOf BinOp.and IntKind.u16 (un (evn s) (x0 + (1 : Int)).toNat) (1023 : Int) ∧ (65536 : Int) + bitsOf BinOp.and IntKind.u16 (un (evn s) x0.toNat) (1023 : Int) * (1024 : Int) + bitsOf BinOp.and IntKind.u16 (un (evn s) (x0 + (1 : Int)).toNat) (1023 : Int) ≤ (1114111 : Int), ¬((55296 : Int) ≤ (65536 : Int) + bitsOf BinOp.and IntKind.u16 (un (evn s) x0.toNat) (1023 : Int) * (1024 : Int) + bitsOf BinOp.and IntKind.u16 (un (evn s) (x0 + (1 : Int)).toNat) (1023 : Int) ∧ (65536 : Int) + bitsOf BinOp.and IntKind.u16 (un (evn s) x0.toNat) (1023 : Int) * (1024 : Int) + bitsOf BinOp.and IntKind.u16 (un (evn s) (x0 + (1 : Int)).toNat) (1023 : Int) ≤ (57343 : Int)), l0.length < lim, inR IntKind.i64 (x0 + (1 : Int) + (1 : Int))]) : To Tryd.prog (loopAt Tryd.f17 0) ({ n := 79, fr := [(0, AV.v (.string (evn s))), (3, AV.row 4 0 l0.length l0.length false), (4, AV.v (.int .i64 x0)), (5, AV.v (.int .i64 (↑(ul (evn s)) : Int)))], hp := [(4, AObj.row 5 1 (.ints .u8 l0) n0)], nx := 5 }) (.normal) { n := 79, fr := [(0, AV.v (.string (evn s))), (3, AV.row 4 0 (l0 ++ enc8 ((65536 : Int) + bitsOf BinOp.and IntKind.u16 (un (evn s) x0.toNat) (1023 : Int) * (1024 : Int) + bitsOf BinOp.and IntKind.u16 (un (evn s) (x0 + (1 : Int)).toNat) (1023 : Int))).length (l0 ++ enc8 ((65536 : Int) + bitsOf BinOp.and IntKind.u16 (un (evn s) x0.toNat) (1023 : Int) * (1024 : Int) + bitsOf BinOp.and IntKind.u16 (un (evn s) (x0 + (1 : Int)).toNat) (1023 : Int))).length false), (4, AV.v (.int .i64 (x0 + (1 : Int) + (1 : Int)))), (5, AV.v (.int .i64 (↑(ul (evn s)) : Int)))], hp := [(4, AObj.row 5 1 (.ints .u8 (l0 ++ enc8 ((65536 : Int) + bitsOf BinOp.and IntKind.u16 (un (evn s) x0.toNat) (1023 : Int) * (1024 : Int) + bitsOf BinOp.and IntKind.u16 (un (evn s) (x0 + (1 : Int)).toNat) (1023 : Int)))) (l0 ++ enc8 ((65536 : Int) + bitsOf BinOp.and IntKind.u16 (un (evn s) x0.toNat) (1023 : Int) * (1024 : Int) + bitsOf BinOp.and IntKind.u16 (un (evn s) (x0 + (1 : Int)).toNat) (1023 : Int))).length)], nx := 5 } :=
  evW_to hm sok6 (hs := [CHint.ops 4 [(2, Hint.b true)], CHint.ops 8 [(1, Hint.b true), (6, Hint.b true), (13, Hint.b true)]]) (slots := [0, 3, 4, 5]) (keys := [4]) (nx := 5) (c := _) (by kernel_rfl) h
theorem encL0_2 (s : ByteArray) (x0 : Int) (l0 : List Int) (l3 : List Int) (n0 : Nat) (n3 : Nat) (h : AllP [decide (x0 < (↑(ul (evn s)) : Int)) = true, SZ (evn s), (0 : Int) ≤ x0 ∧ x0 < (↑(ul (evn s)) : Int), high (un (evn s) x0.toNat) = true, inR IntKind.i64 (x0 + (1 : Int)), decide (x0 + (1 : Int) < (↑(ul (evn s)) : Int)) = true, inR IntKind.i64 (x0 + (1 : Int)), SZ (evn s), (0 : Int) ≤ x0 + (1 : Int) ∧ x0 + (1 : Int) < (↑(ul (evn s)) : Int), low (un (evn s) (x0 + (1 : Int)).toNat) = false, high (un (evn s) x0.toNat) = true, l0.length = l0.length, l0.length = l0.length, (l0 ++ [(92 : Int), (117 : Int)]).length * 1 ≤ 140737488355328, LoopTo Tryd.prog (loopAt Tryd.f17 1) { n := 79, fr := [(0, AV.v (.string (evn s))), (3, AV.row 4 0 (l0 ++ [(92 : Int), (117 : Int)]).length (l0 ++ [(92 : Int), (117 : Int)]).length false), (4, AV.v (.int .i64 x0)), (5, AV.v (.int .i64 (↑(ul (evn s)) : Int))), (6, AV.v (.int .u16 (un (evn s) x0.toNat))), (7, AV.v (.int .i64 (12 : Int)))], hp := [(4, AObj.row 5 1 (.ints .u8 (l0 ++ [(92 : Int), (117 : Int)])) n0)], nx := 5 } (Exit.exit 3) { n := 79, fr := [(0, AV.v (.string (evn s))), (3, AV.row 4 0 l3.length l3.length false), (4, AV.v (.int .i64 x0)), (5, AV.v (.int .i64 (↑(ul (evn s)) : Int)))], hp := [(4, AObj.row 5 1 (.ints .u8 l3) n3)], nx := 5 }, inR IntKind.i64 (x0 + (1 : Int))]) : To Tryd.prog (loopAt Tryd.f17 0) ({ n := 79, fr := [(0, AV.v (.string (evn s))), (3, AV.row 4 0 l0.length l0.length false), (4, AV.v (.int .i64 x0)), (5, AV.v (.int .i64 (↑(ul (evn s)) : Int)))], hp := [(4, AObj.row 5 1 (.ints .u8 l0) n0)], nx := 5 }) (.normal) { n := 79, fr := [(0, AV.v (.string (evn s))), (3, AV.row 4 0 l3.length l3.length false), (4, AV.v (.int .i64 (x0 + (1 : Int)))), (5, AV.v (.int .i64 (↑(ul (evn s)) : Int)))], hp := [(4, AObj.row 5 1 (.ints .u8 l3) n3)], nx := 5 } :=
  evW_to hm sok6 (hs := [CHint.ops 4 [(2, Hint.b true)], CHint.ops 8 [(1, Hint.b true), (6, Hint.b true), (13, Hint.b false)], CHint.ops 11 [(1, Hint.b true)], CHint.loop [0, 3, 4, 5, 6, 7] [4] 5 (Exit.exit 3) { n := 79, fr := [(0, AV.v (.string (evn s))), (3, AV.row 4 0 l3.length l3.length false), (4, AV.v (.int .i64 x0)), (5, AV.v (.int .i64 (↑(ul (evn s)) : Int)))], hp := [(4, AObj.row (5 : TypeId) 1 (.ints .u8 l3) n3)], nx := 5 }]) (slots := [0, 3, 4, 5]) (keys := [4]) (nx := 5) (c := _) (by kernel_rfl) h
theorem encL0_3 (s : ByteArray) (x0 : Int) (l0 : List Int) (l3 : List Int) (n0 : Nat) (n3 : Nat) (h : AllP [decide (x0 < (↑(ul (evn s)) : Int)) = true, SZ (evn s), (0 : Int) ≤ x0 ∧ x0 < (↑(ul (evn s)) : Int), high (un (evn s) x0.toNat) = true, inR IntKind.i64 (x0 + (1 : Int)), decide (x0 + (1 : Int) < (↑(ul (evn s)) : Int)) = true, inR IntKind.i64 (x0 + (1 : Int)), SZ (evn s), (0 : Int) ≤ x0 + (1 : Int) ∧ x0 + (1 : Int) < (↑(ul (evn s)) : Int), low (un (evn s) (x0 + (1 : Int)).toNat) = false, high (un (evn s) x0.toNat) = false, low (un (evn s) x0.toNat) = true, l0.length = l0.length, l0.length = l0.length, (l0 ++ [(92 : Int), (117 : Int)]).length * 1 ≤ 140737488355328, LoopTo Tryd.prog (loopAt Tryd.f17 1) { n := 79, fr := [(0, AV.v (.string (evn s))), (3, AV.row 4 0 (l0 ++ [(92 : Int), (117 : Int)]).length (l0 ++ [(92 : Int), (117 : Int)]).length false), (4, AV.v (.int .i64 x0)), (5, AV.v (.int .i64 (↑(ul (evn s)) : Int))), (6, AV.v (.int .u16 (un (evn s) x0.toNat))), (7, AV.v (.int .i64 (12 : Int)))], hp := [(4, AObj.row 5 1 (.ints .u8 (l0 ++ [(92 : Int), (117 : Int)])) n0)], nx := 5 } (Exit.exit 3) { n := 79, fr := [(0, AV.v (.string (evn s))), (3, AV.row 4 0 l3.length l3.length false), (4, AV.v (.int .i64 x0)), (5, AV.v (.int .i64 (↑(ul (evn s)) : Int)))], hp := [(4, AObj.row 5 1 (.ints .u8 l3) n3)], nx := 5 }, inR IntKind.i64 (x0 + (1 : Int))]) : To Tryd.prog (loopAt Tryd.f17 0) ({ n := 79, fr := [(0, AV.v (.string (evn s))), (3, AV.row 4 0 l0.length l0.length false), (4, AV.v (.int .i64 x0)), (5, AV.v (.int .i64 (↑(ul (evn s)) : Int)))], hp := [(4, AObj.row 5 1 (.ints .u8 l0) n0)], nx := 5 }) (.normal) { n := 79, fr := [(0, AV.v (.string (evn s))), (3, AV.row 4 0 l3.length l3.length false), (4, AV.v (.int .i64 (x0 + (1 : Int)))), (5, AV.v (.int .i64 (↑(ul (evn s)) : Int)))], hp := [(4, AObj.row 5 1 (.ints .u8 l3) n3)], nx := 5 } :=
  evW_to hm sok6 (hs := [CHint.ops 4 [(2, Hint.b true)], CHint.ops 8 [(1, Hint.b true), (6, Hint.b true), (13, Hint.b false)], CHint.ops 11 [(1, Hint.b false), (4, Hint.b true)], CHint.loop [0, 3, 4, 5, 6, 7] [4] 5 (Exit.exit 3) { n := 79, fr := [(0, AV.v (.string (evn s))), (3, AV.row 4 0 l3.length l3.length false), (4, AV.v (.int .i64 x0)), (5, AV.v (.int .i64 (↑(ul (evn s)) : Int)))], hp := [(4, AObj.row (5 : TypeId) 1 (.ints .u8 l3) n3)], nx := 5 }]) (slots := [0, 3, 4, 5]) (keys := [4]) (nx := 5) (c := _) (by kernel_rfl) h
theorem encL0_4 (s : ByteArray) (x0 : Int) (l0 : List Int) (l3 : List Int) (n0 : Nat) (n3 : Nat) (h : AllP [decide (x0 < (↑(ul (evn s)) : Int)) = true, SZ (evn s), (0 : Int) ≤ x0 ∧ x0 < (↑(ul (evn s)) : Int), high (un (evn s) x0.toNat) = true, inR IntKind.i64 (x0 + (1 : Int)), decide (x0 + (1 : Int) < (↑(ul (evn s)) : Int)) = true, inR IntKind.i64 (x0 + (1 : Int)), SZ (evn s), (0 : Int) ≤ x0 + (1 : Int) ∧ x0 + (1 : Int) < (↑(ul (evn s)) : Int), low (un (evn s) (x0 + (1 : Int)).toNat) = false, high (un (evn s) x0.toNat) = false, low (un (evn s) x0.toNat) = false, inR IntKind.i32 (un (evn s) x0.toNat), 4294967296 = rsv, l0.length = l0.length, l0.length = l0.length, (0 : Int) ≤ un (evn s) x0.toNat ∧ un (evn s) x0.toNat ≤ (1114111 : Int), ¬((55296 : Int) ≤ un (evn s) x0.toNat ∧ un (evn s) x0.toNat ≤ (57343 : Int)), l0.length < lim, inR IntKind.i64 (x0 + (1 : Int))]) : To Tryd.prog (loopAt Tryd.f17 0) ({ n := 79, fr := [(0, AV.v (.string (evn s))), (3, AV.row 4 0 l0.length l0.length false), (4, AV.v (.int .i64 x0)), (5, AV.v (.int .i64 (↑(ul (evn s)) : Int)))], hp := [(4, AObj.row 5 1 (.ints .u8 l0) n0)], nx := 5 }) (.normal) { n := 79, fr := [(0, AV.v (.string (evn s))), (3, AV.row 4 0 (l0 ++ enc8 (un (evn s) x0.toNat)).length (l0 ++ enc8 (un (evn s) x0.toNat)).length false), (4, AV.v (.int .i64 (x0 + (1 : Int)))), (5, AV.v (.int .i64 (↑(ul (evn s)) : Int)))], hp := [(4, AObj.row 5 1 (.ints .u8 (l0 ++ enc8 (un (evn s) x0.toNat))) (l0 ++ enc8 (un (evn s) x0.toNat)).length)], nx := 5 } :=
  evW_to hm sok6 (hs := [CHint.ops 4 [(2, Hint.b true)], CHint.ops 8 [(1, Hint.b true), (6, Hint.b true), (13, Hint.b false)], CHint.ops 11 [(1, Hint.b false), (4, Hint.b false)]]) (slots := [0, 3, 4, 5]) (keys := [4]) (nx := 5) (c := _) (by kernel_rfl) h
theorem encL0_5 (s : ByteArray) (x0 : Int) (l0 : List Int) (l3 : List Int) (n0 : Nat) (n3 : Nat) (h : AllP [decide (x0 < (↑(ul (evn s)) : Int)) = true, SZ (evn s), (0 : Int) ≤ x0 ∧ x0 < (↑(ul (evn s)) : Int), high (un (evn s) x0.toNat) = true, inR IntKind.i64 (x0 + (1 : Int)), decide (x0 + (1 : Int) < (↑(ul (evn s)) : Int)) = false, high (un (evn s) x0.toNat) = true, l0.length = l0.length, l0.length = l0.length, (l0 ++ [(92 : Int), (117 : Int)]).length * 1 ≤ 140737488355328, LoopTo Tryd.prog (loopAt Tryd.f17 1) { n := 79, fr := [(0, AV.v (.string (evn s))), (3, AV.row 4 0 (l0 ++ [(92 : Int), (117 : Int)]).length (l0 ++ [(92 : Int), (117 : Int)]).length false), (4, AV.v (.int .i64 x0)), (5, AV.v (.int .i64 (↑(ul (evn s)) : Int))), (6, AV.v (.int .u16 (un (evn s) x0.toNat))), (7, AV.v (.int .i64 (12 : Int)))], hp := [(4, AObj.row 5 1 (.ints .u8 (l0 ++ [(92 : Int), (117 : Int)])) n0)], nx := 5 } (Exit.exit 3) { n := 79, fr := [(0, AV.v (.string (evn s))), (3, AV.row 4 0 l3.length l3.length false), (4, AV.v (.int .i64 x0)), (5, AV.v (.int .i64 (↑(ul (evn s)) : Int)))], hp := [(4, AObj.row 5 1 (.ints .u8 l3) n3)], nx := 5 }, inR IntKind.i64 (x0 + (1 : Int))]) : To Tryd.prog (loopAt Tryd.f17 0) ({ n := 79, fr := [(0, AV.v (.string (evn s))), (3, AV.row 4 0 l0.length l0.length false), (4, AV.v (.int .i64 x0)), (5, AV.v (.int .i64 (↑(ul (evn s)) : Int)))], hp := [(4, AObj.row 5 1 (.ints .u8 l0) n0)], nx := 5 }) (.normal) { n := 79, fr := [(0, AV.v (.string (evn s))), (3, AV.row 4 0 l3.length l3.length false), (4, AV.v (.int .i64 (x0 + (1 : Int)))), (5, AV.v (.int .i64 (↑(ul (evn s)) : Int)))], hp := [(4, AObj.row 5 1 (.ints .u8 l3) n3)], nx := 5 } :=
  evW_to hm sok6 (hs := [CHint.ops 4 [(2, Hint.b true)], CHint.ops 8 [(1, Hint.b true), (6, Hint.b false)], CHint.ops 11 [(1, Hint.b true)], CHint.loop [0, 3, 4, 5, 6, 7] [4] 5 (Exit.exit 3) { n := 79, fr := [(0, AV.v (.string (evn s))), (3, AV.row 4 0 l3.length l3.length false), (4, AV.v (.int .i64 x0)), (5, AV.v (.int .i64 (↑(ul (evn s)) : Int)))], hp := [(4, AObj.row (5 : TypeId) 1 (.ints .u8 l3) n3)], nx := 5 }]) (slots := [0, 3, 4, 5]) (keys := [4]) (nx := 5) (c := _) (by kernel_rfl) h
theorem encL0_6 (s : ByteArray) (x0 : Int) (l0 : List Int) (l3 : List Int) (n0 : Nat) (n3 : Nat) (h : AllP [decide (x0 < (↑(ul (evn s)) : Int)) = true, SZ (evn s), (0 : Int) ≤ x0 ∧ x0 < (↑(ul (evn s)) : Int), high (un (evn s) x0.toNat) = true, inR IntKind.i64 (x0 + (1 : Int)), decide (x0 + (1 : Int) < (↑(ul (evn s)) : Int)) = false, high (un (evn s) x0.toNat) = false, low (un (evn s) x0.toNat) = true, l0.length = l0.length, l0.length = l0.length, (l0 ++ [(92 : Int), (117 : Int)]).length * 1 ≤ 140737488355328, LoopTo Tryd.prog (loopAt Tryd.f17 1) { n := 79, fr := [(0, AV.v (.string (evn s))), (3, AV.row 4 0 (l0 ++ [(92 : Int), (117 : Int)]).length (l0 ++ [(92 : Int), (117 : Int)]).length false), (4, AV.v (.int .i64 x0)), (5, AV.v (.int .i64 (↑(ul (evn s)) : Int))), (6, AV.v (.int .u16 (un (evn s) x0.toNat))), (7, AV.v (.int .i64 (12 : Int)))], hp := [(4, AObj.row 5 1 (.ints .u8 (l0 ++ [(92 : Int), (117 : Int)])) n0)], nx := 5 } (Exit.exit 3) { n := 79, fr := [(0, AV.v (.string (evn s))), (3, AV.row 4 0 l3.length l3.length false), (4, AV.v (.int .i64 x0)), (5, AV.v (.int .i64 (↑(ul (evn s)) : Int)))], hp := [(4, AObj.row 5 1 (.ints .u8 l3) n3)], nx := 5 }, inR IntKind.i64 (x0 + (1 : Int))]) : To Tryd.prog (loopAt Tryd.f17 0) ({ n := 79, fr := [(0, AV.v (.string (evn s))), (3, AV.row 4 0 l0.length l0.length false), (4, AV.v (.int .i64 x0)), (5, AV.v (.int .i64 (↑(ul (evn s)) : Int)))], hp := [(4, AObj.row 5 1 (.ints .u8 l0) n0)], nx := 5 }) (.normal) { n := 79, fr := [(0, AV.v (.string (evn s))), (3, AV.row 4 0 l3.length l3.length false), (4, AV.v (.int .i64 (x0 + (1 : Int)))), (5, AV.v (.int .i64 (↑(ul (evn s)) : Int)))], hp := [(4, AObj.row 5 1 (.ints .u8 l3) n3)], nx := 5 } :=
  evW_to hm sok6 (hs := [CHint.ops 4 [(2, Hint.b true)], CHint.ops 8 [(1, Hint.b true), (6, Hint.b false)], CHint.ops 11 [(1, Hint.b false), (4, Hint.b true)], CHint.loop [0, 3, 4, 5, 6, 7] [4] 5 (Exit.exit 3) { n := 79, fr := [(0, AV.v (.string (evn s))), (3, AV.row 4 0 l3.length l3.length false), (4, AV.v (.int .i64 x0)), (5, AV.v (.int .i64 (↑(ul (evn s)) : Int)))], hp := [(4, AObj.row (5 : TypeId) 1 (.ints .u8 l3) n3)], nx := 5 }]) (slots := [0, 3, 4, 5]) (keys := [4]) (nx := 5) (c := _) (by kernel_rfl) h
theorem encL0_7 (s : ByteArray) (x0 : Int) (l0 : List Int) (l3 : List Int) (n0 : Nat) (n3 : Nat) (h : AllP [decide (x0 < (↑(ul (evn s)) : Int)) = true, SZ (evn s), (0 : Int) ≤ x0 ∧ x0 < (↑(ul (evn s)) : Int), high (un (evn s) x0.toNat) = true, inR IntKind.i64 (x0 + (1 : Int)), decide (x0 + (1 : Int) < (↑(ul (evn s)) : Int)) = false, high (un (evn s) x0.toNat) = false, low (un (evn s) x0.toNat) = false, inR IntKind.i32 (un (evn s) x0.toNat), 4294967296 = rsv, l0.length = l0.length, l0.length = l0.length, (0 : Int) ≤ un (evn s) x0.toNat ∧ un (evn s) x0.toNat ≤ (1114111 : Int), ¬((55296 : Int) ≤ un (evn s) x0.toNat ∧ un (evn s) x0.toNat ≤ (57343 : Int)), l0.length < lim, inR IntKind.i64 (x0 + (1 : Int))]) : To Tryd.prog (loopAt Tryd.f17 0) ({ n := 79, fr := [(0, AV.v (.string (evn s))), (3, AV.row 4 0 l0.length l0.length false), (4, AV.v (.int .i64 x0)), (5, AV.v (.int .i64 (↑(ul (evn s)) : Int)))], hp := [(4, AObj.row 5 1 (.ints .u8 l0) n0)], nx := 5 }) (.normal) { n := 79, fr := [(0, AV.v (.string (evn s))), (3, AV.row 4 0 (l0 ++ enc8 (un (evn s) x0.toNat)).length (l0 ++ enc8 (un (evn s) x0.toNat)).length false), (4, AV.v (.int .i64 (x0 + (1 : Int)))), (5, AV.v (.int .i64 (↑(ul (evn s)) : Int)))], hp := [(4, AObj.row 5 1 (.ints .u8 (l0 ++ enc8 (un (evn s) x0.toNat))) (l0 ++ enc8 (un (evn s) x0.toNat)).length)], nx := 5 } :=
  evW_to hm sok6 (hs := [CHint.ops 4 [(2, Hint.b true)], CHint.ops 8 [(1, Hint.b true), (6, Hint.b false)], CHint.ops 11 [(1, Hint.b false), (4, Hint.b false)]]) (slots := [0, 3, 4, 5]) (keys := [4]) (nx := 5) (c := _) (by kernel_rfl) h
theorem encL0_8 (s : ByteArray) (x0 : Int) (l0 : List Int) (l3 : List Int) (n0 : Nat) (n3 : Nat) (h : AllP [decide (x0 < (↑(ul (evn s)) : Int)) = true, SZ (evn s), (0 : Int) ≤ x0 ∧ x0 < (↑(ul (evn s)) : Int), high (un (evn s) x0.toNat) = false, high (un (evn s) x0.toNat) = true, l0.length = l0.length, l0.length = l0.length, (l0 ++ [(92 : Int), (117 : Int)]).length * 1 ≤ 140737488355328, LoopTo Tryd.prog (loopAt Tryd.f17 1) { n := 79, fr := [(0, AV.v (.string (evn s))), (3, AV.row 4 0 (l0 ++ [(92 : Int), (117 : Int)]).length (l0 ++ [(92 : Int), (117 : Int)]).length false), (4, AV.v (.int .i64 x0)), (5, AV.v (.int .i64 (↑(ul (evn s)) : Int))), (6, AV.v (.int .u16 (un (evn s) x0.toNat))), (7, AV.v (.int .i64 (12 : Int)))], hp := [(4, AObj.row 5 1 (.ints .u8 (l0 ++ [(92 : Int), (117 : Int)])) n0)], nx := 5 } (Exit.exit 3) { n := 79, fr := [(0, AV.v (.string (evn s))), (3, AV.row 4 0 l3.length l3.length false), (4, AV.v (.int .i64 x0)), (5, AV.v (.int .i64 (↑(ul (evn s)) : Int)))], hp := [(4, AObj.row 5 1 (.ints .u8 l3) n3)], nx := 5 }, inR IntKind.i64 (x0 + (1 : Int))]) : To Tryd.prog (loopAt Tryd.f17 0) ({ n := 79, fr := [(0, AV.v (.string (evn s))), (3, AV.row 4 0 l0.length l0.length false), (4, AV.v (.int .i64 x0)), (5, AV.v (.int .i64 (↑(ul (evn s)) : Int)))], hp := [(4, AObj.row 5 1 (.ints .u8 l0) n0)], nx := 5 }) (.normal) { n := 79, fr := [(0, AV.v (.string (evn s))), (3, AV.row 4 0 l3.length l3.length false), (4, AV.v (.int .i64 (x0 + (1 : Int)))), (5, AV.v (.int .i64 (↑(ul (evn s)) : Int)))], hp := [(4, AObj.row 5 1 (.ints .u8 l3) n3)], nx := 5 } :=
  evW_to hm sok6 (hs := [CHint.ops 4 [(2, Hint.b true)], CHint.ops 8 [(1, Hint.b false)], CHint.ops 11 [(1, Hint.b true)], CHint.loop [0, 3, 4, 5, 6, 7] [4] 5 (Exit.exit 3) { n := 79, fr := [(0, AV.v (.string (evn s))), (3, AV.row 4 0 l3.length l3.length false), (4, AV.v (.int .i64 x0)), (5, AV.v (.int .i64 (↑(ul (evn s)) : Int)))], hp := [(4, AObj.row (5 : TypeId) 1 (.ints .u8 l3) n3)], nx := 5 }]) (slots := [0, 3, 4, 5]) (keys := [4]) (nx := 5) (c := _) (by kernel_rfl) h
theorem encL0_9 (s : ByteArray) (x0 : Int) (l0 : List Int) (l3 : List Int) (n0 : Nat) (n3 : Nat) (h : AllP [decide (x0 < (↑(ul (evn s)) : Int)) = true, SZ (evn s), (0 : Int) ≤ x0 ∧ x0 < (↑(ul (evn s)) : Int), high (un (evn s) x0.toNat) = false, high (un (evn s) x0.toNat) = false, low (un (evn s) x0.toNat) = true, l0.length = l0.length, l0.length = l0.length, (l0 ++ [(92 : Int), (117 : Int)]).length * 1 ≤ 140737488355328, LoopTo Tryd.prog (loopAt Tryd.f17 1) { n := 79, fr := [(0, AV.v (.string (evn s))), (3, AV.row 4 0 (l0 ++ [(92 : Int), (117 : Int)]).length (l0 ++ [(92 : Int), (117 : Int)]).length false), (4, AV.v (.int .i64 x0)), (5, AV.v (.int .i64 (↑(ul (evn s)) : Int))), (6, AV.v (.int .u16 (un (evn s) x0.toNat))), (7, AV.v (.int .i64 (12 : Int)))], hp := [(4, AObj.row 5 1 (.ints .u8 (l0 ++ [(92 : Int), (117 : Int)])) n0)], nx := 5 } (Exit.exit 3) { n := 79, fr := [(0, AV.v (.string (evn s))), (3, AV.row 4 0 l3.length l3.length false), (4, AV.v (.int .i64 x0)), (5, AV.v (.int .i64 (↑(ul (evn s)) : Int)))], hp := [(4, AObj.row 5 1 (.ints .u8 l3) n3)], nx := 5 }, inR IntKind.i64 (x0 + (1 : Int))]) : To Tryd.prog (loopAt Tryd.f17 0) ({ n := 79, fr := [(0, AV.v (.string (evn s))), (3, AV.row 4 0 l0.length l0.length false), (4, AV.v (.int .i64 x0)), (5, AV.v (.int .i64 (↑(ul (evn s)) : Int)))], hp := [(4, AObj.row 5 1 (.ints .u8 l0) n0)], nx := 5 }) (.normal) { n := 79, fr := [(0, AV.v (.string (evn s))), (3, AV.row 4 0 l3.length l3.length false), (4, AV.v (.int .i64 (x0 + (1 : Int)))), (5, AV.v (.int .i64 (↑(ul (evn s)) : Int)))], hp := [(4, AObj.row 5 1 (.ints .u8 l3) n3)], nx := 5 } :=
  evW_to hm sok6 (hs := [CHint.ops 4 [(2, Hint.b true)], CHint.ops 8 [(1, Hint.b false)], CHint.ops 11 [(1, Hint.b false), (4, Hint.b true)], CHint.loop [0, 3, 4, 5, 6, 7] [4] 5 (Exit.exit 3) { n := 79, fr := [(0, AV.v (.string (evn s))), (3, AV.row 4 0 l3.length l3.length false), (4, AV.v (.int .i64 x0)), (5, AV.v (.int .i64 (↑(ul (evn s)) : Int)))], hp := [(4, AObj.row (5 : TypeId) 1 (.ints .u8 l3) n3)], nx := 5 }]) (slots := [0, 3, 4, 5]) (keys := [4]) (nx := 5) (c := _) (by kernel_rfl) h
theorem encL0_10 (s : ByteArray) (x0 : Int) (l0 : List Int) (l3 : List Int) (n0 : Nat) (n3 : Nat) (h : AllP [decide (x0 < (↑(ul (evn s)) : Int)) = true, SZ (evn s), (0 : Int) ≤ x0 ∧ x0 < (↑(ul (evn s)) : Int), high (un (evn s) x0.toNat) = false, high (un (evn s) x0.toNat) = false, low (un (evn s) x0.toNat) = false, inR IntKind.i32 (un (evn s) x0.toNat), 4294967296 = rsv, l0.length = l0.length, l0.length = l0.length, (0 : Int) ≤ un (evn s) x0.toNat ∧ un (evn s) x0.toNat ≤ (1114111 : Int), ¬((55296 : Int) ≤ un (evn s) x0.toNat ∧ un (evn s) x0.toNat ≤ (57343 : Int)), l0.length < lim, inR IntKind.i64 (x0 + (1 : Int))]) : To Tryd.prog (loopAt Tryd.f17 0) ({ n := 79, fr := [(0, AV.v (.string (evn s))), (3, AV.row 4 0 l0.length l0.length false), (4, AV.v (.int .i64 x0)), (5, AV.v (.int .i64 (↑(ul (evn s)) : Int)))], hp := [(4, AObj.row 5 1 (.ints .u8 l0) n0)], nx := 5 }) (.normal) { n := 79, fr := [(0, AV.v (.string (evn s))), (3, AV.row 4 0 (l0 ++ enc8 (un (evn s) x0.toNat)).length (l0 ++ enc8 (un (evn s) x0.toNat)).length false), (4, AV.v (.int .i64 (x0 + (1 : Int)))), (5, AV.v (.int .i64 (↑(ul (evn s)) : Int)))], hp := [(4, AObj.row 5 1 (.ints .u8 (l0 ++ enc8 (un (evn s) x0.toNat))) (l0 ++ enc8 (un (evn s) x0.toNat)).length)], nx := 5 } :=
  evW_to hm sok6 (hs := [CHint.ops 4 [(2, Hint.b true)], CHint.ops 8 [(1, Hint.b false)], CHint.ops 11 [(1, Hint.b false), (4, Hint.b false)]]) (slots := [0, 3, 4, 5]) (keys := [4]) (nx := 5) (c := _) (by kernel_rfl) h
theorem encL0_11 (s : ByteArray) (x0 : Int) (l0 : List Int) (l3 : List Int) (n0 : Nat) (n3 : Nat) (h : AllP [decide (x0 < (↑(ul (evn s)) : Int)) = false]) : To Tryd.prog (loopAt Tryd.f17 0) ({ n := 79, fr := [(0, AV.v (.string (evn s))), (3, AV.row 4 0 l0.length l0.length false), (4, AV.v (.int .i64 x0)), (5, AV.v (.int .i64 (↑(ul (evn s)) : Int)))], hp := [(4, AObj.row 5 1 (.ints .u8 l0) n0)], nx := 5 }) (Exit.exit 0) { n := 79, fr := [(3, AV.row 4 0 l0.length l0.length false)], hp := [(4, AObj.row 5 1 (.ints .u8 l0) n0)], nx := 5 } :=
  evW_to hm sok6 (hs := [CHint.ops 4 [(2, Hint.b false)]]) (slots := [3]) (keys := [4]) (nx := 5) (c := _) (by kernel_rfl) h
-- 2 paths
theorem encL1_1 (s : ByteArray) (x0 : Int) (x1 : Int) (l2 : List Int) (n2 : Nat) (h : AllP [decide (x1 ≥ (0 : Int)) = true, (0 : Int) ≤ x1, (0 : Int) ≤ bitsOf BinOp.and IntKind.u16 (un (evn s) x0.toNat / (2 : Int) ^ min x1.toNat 16) (15 : Int) ∧ bitsOf BinOp.and IntKind.u16 (un (evn s) x0.toNat / (2 : Int) ^ min x1.toNat 16) (15 : Int) < (16 : Int), l2.length = l2.length, l2.length = l2.length, (l2 ++ [byteAt (ByteArray.mk #[(48 : UInt8), (49 : UInt8), (50 : UInt8), (51 : UInt8), (52 : UInt8), (53 : UInt8), (54 : UInt8), (55 : UInt8), (56 : UInt8), (57 : UInt8), (65 : UInt8), (66 : UInt8), (67 : UInt8), (68 : UInt8), (69 : UInt8), (70 : UInt8)]) (bitsOf BinOp.and IntKind.u16 (un (evn s) x0.toNat / (2 : Int) ^ min x1.toNat 16) (15 : Int)).toNat]).length * 1 ≤ 140737488355328, inR IntKind.i64 (x1 - (4 : Int))]) : To Tryd.prog (loopAt Tryd.f17 1) ({ n := 79, fr := [(0, AV.v (.string (evn s))), (3, AV.row 4 0 l2.length l2.length false), (4, AV.v (.int .i64 x0)), (5, AV.v (.int .i64 (↑(ul (evn s)) : Int))), (6, AV.v (.int .u16 (un (evn s) x0.toNat))), (7, AV.v (.int .i64 x1))], hp := [(4, AObj.row 5 1 (.ints .u8 l2) n2)], nx := 5 }) (.normal) { n := 79, fr := [(0, AV.v (.string (evn s))), (3, AV.row 4 0 (l2 ++ [byteAt (ByteArray.mk #[(48 : UInt8), (49 : UInt8), (50 : UInt8), (51 : UInt8), (52 : UInt8), (53 : UInt8), (54 : UInt8), (55 : UInt8), (56 : UInt8), (57 : UInt8), (65 : UInt8), (66 : UInt8), (67 : UInt8), (68 : UInt8), (69 : UInt8), (70 : UInt8)]) (bitsOf BinOp.and IntKind.u16 (un (evn s) x0.toNat / (2 : Int) ^ min x1.toNat 16) (15 : Int)).toNat]).length (l2 ++ [byteAt (ByteArray.mk #[(48 : UInt8), (49 : UInt8), (50 : UInt8), (51 : UInt8), (52 : UInt8), (53 : UInt8), (54 : UInt8), (55 : UInt8), (56 : UInt8), (57 : UInt8), (65 : UInt8), (66 : UInt8), (67 : UInt8), (68 : UInt8), (69 : UInt8), (70 : UInt8)]) (bitsOf BinOp.and IntKind.u16 (un (evn s) x0.toNat / (2 : Int) ^ min x1.toNat 16) (15 : Int)).toNat]).length false), (4, AV.v (.int .i64 x0)), (5, AV.v (.int .i64 (↑(ul (evn s)) : Int))), (6, AV.v (.int .u16 (un (evn s) x0.toNat))), (7, AV.v (.int .i64 (x1 - (4 : Int))))], hp := [(4, AObj.row 5 1 (.ints .u8 (l2 ++ [byteAt (ByteArray.mk #[(48 : UInt8), (49 : UInt8), (50 : UInt8), (51 : UInt8), (52 : UInt8), (53 : UInt8), (54 : UInt8), (55 : UInt8), (56 : UInt8), (57 : UInt8), (65 : UInt8), (66 : UInt8), (67 : UInt8), (68 : UInt8), (69 : UInt8), (70 : UInt8)]) (bitsOf BinOp.and IntKind.u16 (un (evn s) x0.toNat / (2 : Int) ^ min x1.toNat 16) (15 : Int)).toNat])) n2)], nx := 5 } :=
  evW_to hm sok6 (hs := [CHint.ops 14 [(1, Hint.b true)]]) (slots := [0, 3, 4, 5, 6, 7]) (keys := [4]) (nx := 5) (c := _) (by kernel_rfl) h
theorem encL1_2 (s : ByteArray) (x0 : Int) (x1 : Int) (l2 : List Int) (n2 : Nat) (h : AllP [decide (x1 ≥ (0 : Int)) = false]) : To Tryd.prog (loopAt Tryd.f17 1) ({ n := 79, fr := [(0, AV.v (.string (evn s))), (3, AV.row 4 0 l2.length l2.length false), (4, AV.v (.int .i64 x0)), (5, AV.v (.int .i64 (↑(ul (evn s)) : Int))), (6, AV.v (.int .u16 (un (evn s) x0.toNat))), (7, AV.v (.int .i64 x1))], hp := [(4, AObj.row 5 1 (.ints .u8 l2) n2)], nx := 5 }) (Exit.exit 3) { n := 79, fr := [(0, AV.v (.string (evn s))), (3, AV.row 4 0 l2.length l2.length false), (4, AV.v (.int .i64 x0)), (5, AV.v (.int .i64 (↑(ul (evn s)) : Int)))], hp := [(4, AObj.row 5 1 (.ints .u8 l2) n2)], nx := 5 } :=
  evW_to hm sok6 (hs := [CHint.ops 14 [(1, Hint.b false)]]) (slots := [0, 3, 4, 5]) (keys := [4]) (nx := 5) (c := _) (by kernel_rfl) h
-- 1 paths
theorem encF1 (s : ByteArray) (l1 : List Int) (n1 : Nat) (h : AllP [SZ s, SZ (evn s), LoopTo Tryd.prog (loopAt Tryd.f17 0) { n := 79, fr := [(0, AV.v (.string (evn s))), (3, AV.row 4 0 0 0 false), (4, AV.v (.int .i64 (0 : Int))), (5, AV.v (.int .i64 (↑(ul (evn s)) : Int)))], hp := [(4, AObj.row 5 1 (.ints .u8 []) 0)], nx := 5 } (Exit.exit 0) { n := 79, fr := [(3, AV.row 4 0 l1.length l1.length false)], hp := [(4, AObj.row 5 1 (.ints .u8 l1) n1)], nx := 5 }, l1.length = l1.length, n1 ≤ l1.length]) : PureTo Tryd.prog 17 [.v (.string s)] (AV.v (.string (strOfInts l1))) :=
  evFn_pure hm sok6 (fn := Tryd.f17) rfl rfl (ti := false) (hs := [CHint.ops 2 [(0, Hint.nil 5)], CHint.loop [0, 3, 4, 5] [4] 5 (Exit.exit 0) { n := 79, fr := [(3, AV.row 4 0 l1.length l1.length false)], hp := [(4, AObj.row (5 : TypeId) 1 (.ints .u8 l1) n1)], nx := 5 }]) (c := _) (by kernel_rfl) h
end Go.Proofs.Us

/- Texts: units told as UTF-8. -/
set_option maxRecDepth 100000
namespace Go.Proofs.Us
open Go Go.Ev

def hexs : ByteArray := ByteArray.mk #[48, 49, 50, 51, 52, 53, 54, 55, 56, 57, 65, 66, 67, 68, 69, 70]
def hx (n : Int) : Int := byteAt hexs n.toNat
def hex4 (u : Int) : List Int := [hx (u / 4096), hx (u / 256 % 16), hx (u / 16 % 16), hx (u % 16)]
def esc (u : Int) : List Int := [92, 117] ++ hex4 u
theorem esc_length (u : Int) : (esc u).length = 6 := rfl

theorem high_iff (u : Int) : high u = true ↔ 55296 ≤ u ∧ u < 56320 := by
  unfold high
  rw [bif_and, Bool.and_eq_true, decide_eq_true_eq, decide_eq_true_eq]
theorem low_iff (u : Int) : low u = true ↔ 56320 ≤ u ∧ u < 57344 := by
  unfold low
  rw [bif_and, Bool.and_eq_true, decide_eq_true_eq, decide_eq_true_eq]

/-- what is told of the unit at a place, and how many units that were -/
def encU (e : ByteArray) (i : Nat) : List Int × Nat :=
  if high (un e i) = true ∧ i + 1 < ul e ∧ low (un e (i + 1)) = true then (enc8 (65536 + (un e i - 55296) * 1024 + (un e (i + 1) - 56320)), 2)
  else if high (un e i) = true ∨ low (un e i) = true then (esc (un e i), 1) else (enc8 (un e i), 1)

theorem encU_spec (e : ByteArray) (i : Nat) : 1 ≤ (encU e i).2 ∧ (encU e i).2 ≤ 2 ∧ (encU e i).1.length ≤ 6 * (encU e i).2 ∧ (i < ul e → i + (encU e i).2 ≤ ul e) := by
  unfold encU
  split
  · next h => have := enc8_length (65536 + (un e i - 55296) * 1024 + (un e (i + 1) - 56320)); exact ⟨by simp, by simp, by simp only []; omega, fun _ => by simp only []; omega⟩
  · split
    · exact ⟨by simp, by simp, by simp only [esc_length]; omega, fun _ => by simp only []; omega⟩
    · have := enc8_length (un e i); exact ⟨by simp, by simp, by simp only []; omega, fun _ => by simp only []; omega⟩

def encG (e : ByteArray) : Nat → Nat → List Int → List Int
  | 0, _, l => l
  | f + 1, i, l => if ul e ≤ i then l else encG e f (i + (encU e i).2) (l ++ (encU e i).1)

/-- what Encode tells -/
def encL (e : ByteArray) : List Int := encG e (ul e) 0 []

section
variable {P : Program} {c : Code} {S : Int → List Int → Nat → AS} {X : List Int → Nat → AS}

theorem enc_loop (e : ByteArray) {x : Exit} (hx : x ≠ .normal)
    (step : ∀ (i : Nat) l n0, i < ul e → l.length ≤ 6 * i → n0 ≤ l.length → ∃ n1, n1 ≤ (l ++ (encU e i).1).length ∧ To P c (S i l n0) .normal (S ((i + (encU e i).2 : Nat) : Int) (l ++ (encU e i).1) n1))
    (done : ∀ (i : Nat) l n0, ul e ≤ i → To P c (S i l n0) x (X l n0)) : ∀ (f i : Nat) (l : List Int) (n0 : Nat), ul e ≤ i + f → l.length ≤ 6 * i → n0 ≤ l.length →
    ∃ n1, n1 ≤ (encG e f i l).length ∧ LoopTo P c (S i l n0) x (X (encG e f i l) n1) := by
  intro f
  induction f with
  | zero =>
    intro i l n0 hf hl h0
    exact ⟨n0, h0, .done hx (done i l n0 (by omega))⟩
  | succ f ih =>
    intro i l n0 hf hl h0
    simp only [encG]
    by_cases c1 : ul e ≤ i
    · rw [if_pos c1]
      exact ⟨n0, h0, .done hx (done i l n0 c1)⟩
    · rw [if_neg c1]
      obtain ⟨n1, h1, hst⟩ := step i l n0 (by omega) hl h0
      have hs := encU_spec e i
      obtain ⟨n2, h2, hl2⟩ := ih (i + (encU e i).2) (l ++ (encU e i).1) n1 (by omega) (by rw [List.length_append]; omega) h1
      exact ⟨n2, h2, .step hst hl2⟩
end

theorem and15 {x : Int} (h : 0 ≤ x ∧ x < 65536) : bitsOf .and .u16 x 15 = x % 16 := and_low (k := .u16) rfl (s := 4) h.1 (by show x < 65536; omega) (by decide)
theorem and1023 {x : Int} (h : 0 ≤ x ∧ x < 65536) : bitsOf .and .u16 x 1023 = x % 1024 := and_low (k := .u16) rfl (s := 10) h.1 (by show x < 65536; omega) (by decide)

theorem renc_c {s : ByteArray} (hs : SM s) : PureTo Tryd.prog 18 [.v (.string s)] (.v (.string (strOfInts (encL s)))) := by
  have hz := hs.sz
  unfold SM at hs
  have hul : ul s ≤ s.size := by unfold ul; omega
  obtain ⟨n1, h1, hl⟩ := enc_loop (P := Tryd.prog) (c := loopAt Tryd.f18 0) (S := fun i l n0 => rencS0 s i l n0) (X := fun l n1 => rencX0 s l n1) (x := .exit 0) s (by simp)
    (fun i l n0 hi hl h0 => by
      have hu := un_lt s i
      have hv := un_lt s (i + 1)
      have e1 : ((i : Int) + 1).toNat = i + 1 := by omega
      have lt1 : decide ((i : Int) < (ul s : Int)) = true := by simpa using hi
      have b1 := and15 (x := un s i / 256) (by omega)
      have b2 := and15 (x := un s i / 16) (by omega)
      have b3 := and15 (x := un s i) (by omega)
      unfold encU
      cases H : high (un s i)
      · have hH : ¬ high (un s i) = true := by rw [H]; simp
        rw [if_neg (fun h => by simp at h)]
        cases L : low (un s i)
        · rw [if_neg (by simp)]
          refine ⟨_, Nat.le_refl _, ?_⟩
          have := rencL0_10 s i l n0
          simp only [Int.toNat_natCast] at this
          exact this ⟨hz, lt1, hz, by omega, H, H, L, by simp only [inR]; omega, rfl, by first | rfl | trivial, by first | rfl | trivial, by omega, by unfold lim; omega, by simp only [inR]; omega, trivial⟩
        · rw [if_pos (by simp)]
          refine ⟨n0, by simp only [List.length_append]; omega, ?_⟩
          have := rencL0_9 s i l n0
          simp only [Int.toNat_natCast, b1, b2, b3] at this
          exact this ⟨hz, lt1, hz, by omega, H, H, L, by omega, by omega, by omega, by omega, by omega, by omega, by omega, by first | rfl | trivial, by first | rfl | trivial, by simp; omega, by simp only [inR]; omega, trivial⟩
      · have hH := (high_iff _).1 H
        by_cases C : i + 1 < ul s
        · have lt2 : decide ((i : Int) + 1 < (ul s : Int)) = true := by simp; omega
          cases L : low (un s (i + 1))
          · rw [if_neg (fun h => by simp at h), if_pos (by simp)]
            refine ⟨n0, by simp only [List.length_append]; omega, ?_⟩
            have := rencL0_2 s i l n0
            simp only [Int.toNat_natCast, e1, b1, b2, b3] at this
            exact this ⟨hz, lt1, hz, by omega, H, by simp only [inR]; omega, hz, lt2, by simp only [inR]; omega, hz, by omega, L, H, by omega, by omega, by omega, by omega, by omega, by omega, by omega, by first | rfl | trivial, by first | rfl | trivial, by simp; omega, by simp only [inR]; omega, trivial⟩
          · have hL := (low_iff _).1 L
            rw [if_pos ⟨by simp, C, by simp⟩]
            refine ⟨_, Nat.le_refl _, ?_⟩
            have m1 : (un s i - 55296) % 65536 = un s i - 55296 := by omega
            have m2 : (un s (i + 1) - 56320) % 65536 = un s (i + 1) - 56320 := by omega
            have := rencL0_1 s i l n0
            simp only [Int.toNat_natCast, e1, m1, m2] at this
            exact this ⟨hz, lt1, hz, by omega, H, by simp only [inR]; omega, hz, lt2, by simp only [inR]; omega, hz, by omega, L, by simp only [inR]; omega, by simp only [inR]; omega, by omega, by simp only [inR]; omega, by simp only [inR]; omega, hz, by omega, by simp only [inR]; omega, by simp only [inR]; omega, rfl, by first | rfl | trivial, by first | rfl | trivial, by omega, by unfold lim; omega, by simp only [inR]; omega, trivial⟩
        · have lt2 : decide ((i : Int) + 1 < (ul s : Int)) = false := by simp; omega
          rw [if_neg (fun h => C h.2.1), if_pos (by simp)]
          refine ⟨n0, by simp only [List.length_append]; omega, ?_⟩
          have := rencL0_5 s i l n0
          simp only [Int.toNat_natCast, e1, b1, b2, b3] at this
          exact this ⟨hz, lt1, hz, by omega, H, by simp only [inR]; omega, hz, lt2, H, by omega, by omega, by omega, by omega, by omega, by omega, by omega, by first | rfl | trivial, by first | rfl | trivial, by simp; omega, by simp only [inR]; omega, trivial⟩)
    (fun i l n0 hi => rencL0_11 s i l n0 ⟨hz, by simpa using hi, trivial⟩) (ul s) 0 [] 0 (by omega) (by simp) (Nat.le_refl _)
  exact rencF1 s _ n1 ⟨hl, rfl, h1, trivial⟩


theorem evn_ul (s : ByteArray) : ul (evn s) = ul s := by
  unfold evn
  unfold ul
  rw [ByteArray.size_extract]
  omega

theorem evn_size (s : ByteArray) : (evn s).size = 2 * ul s := by
  unfold evn ul
  rw [ByteArray.size_extract]
  omega

theorem evn_byte (s : ByteArray) {i : Nat} (h : i < 2 * ul s) : byteAt (evn s) i = byteAt s i := by
  unfold evn byteAt
  rw [extract_list, List.drop_zero]
  simp only [List.getD_eq_getElem?_getD, List.getElem?_take, h, if_true]

theorem evn_un (s : ByteArray) {i : Nat} (h : i < ul s) : un (evn s) i = un s i := by
  unfold un
  rw [evn_byte s (by omega), evn_byte s (by omega)]

theorem encU_evn (s : ByteArray) {i : Nat} (h : i < ul s) : encU (evn s) i = encU s i := by
  unfold encU
  rw [evn_ul, evn_un s h]
  by_cases c : i + 1 < ul s
  · rw [evn_un s c]
  · have h1 : ¬ (high (un s i) = true ∧ i + 1 < ul s ∧ low (un (evn s) (i + 1)) = true) := fun x => c x.2.1
    have h2 : ¬ (high (un s i) = true ∧ i + 1 < ul s ∧ low (un s (i + 1)) = true) := fun x => c x.2.1
    rw [if_neg h1, if_neg h2]

theorem encG_evn (s : ByteArray) : ∀ (f i : Nat) (l : List Int), encG (evn s) f i l = encG s f i l
  | 0, _, _ => rfl
  | f + 1, i, l => by
    simp only [encG]
    rw [evn_ul]
    by_cases c : ul s ≤ i
    · rw [if_pos c, if_pos c]
    · rw [if_neg c, if_neg c, encU_evn s (by omega), encG_evn s f]

theorem encL_evn (s : ByteArray) : encL (evn s) = encL s := by
  unfold encL
  rw [evn_ul, encG_evn]

theorem hex_loop (s : ByteArray) (i : Int) (l : List Int) (n : Nat) (hl : l.length < lim) : LoopTo Tryd.prog (loopAt Tryd.f17 1) (encS1 s i 12 l n) (.exit 3) (encX1 s i (l ++ hex4 (un (evn s) i.toNat)) n) := by
  unfold lim at hl
  have hu := un_lt (evn s) i.toNat
  have p1 : (2 : Int) ^ min (12 : Int).toNat 16 = 4096 := rfl
  have p2 : (2 : Int) ^ min (8 : Int).toNat 16 = 256 := rfl
  have p3 : (2 : Int) ^ min (4 : Int).toNat 16 = 16 := rfl
  have p4 : (2 : Int) ^ min (0 : Int).toNat 16 = 1 := rfl
  have b0 : bitsOf .and .u16 (un (evn s) i.toNat / 4096) 15 = un (evn s) i.toNat / 4096 := by rw [and15 (by omega)]; omega
  have b1 := and15 (x := un (evn s) i.toNat / 256) (by omega)
  have b2 := and15 (x := un (evn s) i.toNat / 16) (by omega)
  have b3 := and15 (x := un (evn s) i.toNat / 1) (by omega)
  have b4 : un (evn s) i.toNat / 1 % 16 = un (evn s) i.toNat % 16 := by omega
  rw [b4] at b3
  have s1 := encL1_1 s i 12 l n
  have s2 := encL1_1 s i 8 (l ++ [hx (un (evn s) i.toNat / 4096)]) n
  have s3 := encL1_1 s i 4 (l ++ [hx (un (evn s) i.toNat / 4096)] ++ [hx (un (evn s) i.toNat / 256 % 16)]) n
  have s4 := encL1_1 s i 0 (l ++ [hx (un (evn s) i.toNat / 4096)] ++ [hx (un (evn s) i.toNat / 256 % 16)] ++ [hx (un (evn s) i.toNat / 16 % 16)]) n
  simp only [p1, b0] at s1
  simp only [p2, b1] at s2
  simp only [p3, b2] at s3
  simp only [p4, b3] at s4
  refine .step (s1 ⟨rfl, by omega, by omega, by first | rfl | trivial, by first | rfl | trivial, by simp; omega, by simp only [inR]; omega, trivial⟩) ?_
  refine .step (s2 ⟨rfl, by omega, by omega, by first | rfl | trivial, by first | rfl | trivial, by simp; omega, by simp only [inR]; omega, trivial⟩) ?_
  refine .step (s3 ⟨rfl, by omega, by omega, by first | rfl | trivial, by first | rfl | trivial, by simp; omega, by simp only [inR]; omega, trivial⟩) ?_
  refine .step (s4 ⟨rfl, by omega, by omega, by first | rfl | trivial, by first | rfl | trivial, by simp; omega, by simp only [inR]; omega, trivial⟩) ?_
  have e : l ++ hex4 (un (evn s) i.toNat) = l ++ [hx (un (evn s) i.toNat / 4096)] ++ [hx (un (evn s) i.toNat / 256 % 16)] ++ [hx (un (evn s) i.toNat / 16 % 16)] ++ [hx (un (evn s) i.toNat % 16)] := by simp [hex4]
  rw [e]
  exact .done (by simp) (encL1_2 s i (-4) _ n ⟨rfl, trivial⟩)

theorem enc_pair {s : ByteArray} (hzE : SZ (evn s)) (hul : ul (evn s) < 4294967296) {i : Nat} {l : List Int} {n0 : Nat} (hi : i < ul (evn s)) (hl : l.length ≤ 6 * i) (hH : 55296 ≤ un (evn s) i ∧ un (evn s) i < 56320) (hL : 56320 ≤ un (evn s) (i + 1) ∧ un (evn s) (i + 1) < 57344) (C : i + 1 < ul (evn s)) :
    To Tryd.prog (loopAt Tryd.f17 0) (encS0 s i l n0) .normal (encS0 s ((i + 2 : Nat) : Int) (l ++ enc8 (65536 + (un (evn s) i - 55296) * 1024 + (un (evn s) (i + 1) - 56320))) (l ++ enc8 (65536 + (un (evn s) i - 55296) * 1024 + (un (evn s) (i + 1) - 56320))).length) := by
  have H := (high_iff _).2 hH
  have L := (low_iff _).2 hL
  have e1 : ((i : Int) + 1).toNat = i + 1 := by omega
  have lt1 : decide ((i : Int) < (ul (evn s) : Int)) = true := by simpa using hi
  have lt2 : decide ((i : Int) + 1 < (ul (evn s) : Int)) = true := by simp; omega
  have m1 : bitsOf .and .u16 (un (evn s) i) 1023 = un (evn s) i - 55296 := by rw [and1023 (by omega)]; omega
  have m2 : bitsOf .and .u16 (un (evn s) (i + 1)) 1023 = un (evn s) (i + 1) - 56320 := by rw [and1023 (by omega)]; omega
  have this := encL0_1 s i l [] n0 0
  simp only [Int.toNat_natCast, e1, m1, m2] at this
  clear m1 m2
  exact this ⟨lt1, hzE, by omega, H, by simp only [inR]; omega, lt2, by simp only [inR]; omega, hzE, by omega, L, by simp only [inR]; omega, by simp only [inR]; omega, by omega, by simp only [inR]; omega, by simp only [inR]; omega, hzE, by omega, by simp only [inR]; omega, by simp only [inR]; omega, rfl, by first | rfl | trivial, by first | rfl | trivial, by omega, by omega, by unfold lim; omega, by simp only [inR]; omega, trivial⟩

section
variable {s : ByteArray} {i : Nat} {l : List Int} {n0 : Nat}

theorem enc_hex (hl : l.length ≤ 6 * i) (hul : i < 4294967296) : LoopTo Tryd.prog (loopAt Tryd.f17 1) (encS1 s i 12 (l ++ [92, 117]) n0) (.exit 3) (encX1 s i (l ++ esc (un (evn s) i)) n0) := by
  have hex := hex_loop s i (l ++ [92, 117]) n0 (by rw [List.length_append]; unfold lim; simp; omega)
  have ee : l ++ [92, 117] ++ hex4 (un (evn s) (i : Int).toNat) = l ++ esc (un (evn s) i) := by rw [Int.toNat_natCast]; simp [esc]
  rw [ee] at hex
  exact hex

theorem enc_one (hzE : SZ (evn s)) (hul : ul (evn s) < 4294967296) (hi : i < ul (evn s)) (hl : l.length ≤ 6 * i) (H : high (un (evn s) i) = false) (L : low (un (evn s) i) = false) :
    To Tryd.prog (loopAt Tryd.f17 0) (encS0 s i l n0) .normal (encS0 s ((i + 1 : Nat) : Int) (l ++ enc8 (un (evn s) i)) (l ++ enc8 (un (evn s) i)).length) := by
  have hu := un_lt (evn s) i
  have lt1 : decide ((i : Int) < (ul (evn s) : Int)) = true := by simpa using hi
  have nH : ¬ (55296 ≤ un (evn s) i ∧ un (evn s) i < 56320) := fun h => by rw [(high_iff _).2 h] at H; cases H
  have nL : ¬ (56320 ≤ un (evn s) i ∧ un (evn s) i < 57344) := fun h => by rw [(low_iff _).2 h] at L; cases L
  have := encL0_10 s i l [] n0 0
  simp only [Int.toNat_natCast] at this
  exact this ⟨lt1, hzE, by omega, H, H, L, by simp only [inR]; omega, rfl, by first | rfl | trivial, by first | rfl | trivial, by omega, by omega, by unfold lim; omega, by simp only [inR]; omega, trivial⟩

theorem enc_e9 (hzE : SZ (evn s)) (hul : ul (evn s) < 4294967296) (hi : i < ul (evn s)) (hl : l.length ≤ 6 * i) (H : high (un (evn s) i) = false) (L : low (un (evn s) i) = true) :
    To Tryd.prog (loopAt Tryd.f17 0) (encS0 s i l n0) .normal (encS0 s ((i + 1 : Nat) : Int) (l ++ esc (un (evn s) i)) n0) := by
  have lt1 : decide ((i : Int) < (ul (evn s) : Int)) = true := by simpa using hi
  have hex := enc_hex (s := s) (n0 := n0) hl (by omega)
  have := encL0_9 s i l (l ++ esc (un (evn s) i)) n0 n0
  simp only [Int.toNat_natCast] at this
  exact this ⟨lt1, hzE, by omega, H, H, L, by first | rfl | trivial, by first | rfl | trivial, by simp; omega, hex, by simp only [inR]; omega, trivial⟩

theorem enc_e2 (hzE : SZ (evn s)) (hul : ul (evn s) < 4294967296) (hi : i < ul (evn s)) (hl : l.length ≤ 6 * i) (H : high (un (evn s) i) = true) (C : i + 1 < ul (evn s)) (L : low (un (evn s) (i + 1)) = false) :
    To Tryd.prog (loopAt Tryd.f17 0) (encS0 s i l n0) .normal (encS0 s ((i + 1 : Nat) : Int) (l ++ esc (un (evn s) i)) n0) := by
  have lt1 : decide ((i : Int) < (ul (evn s) : Int)) = true := by simpa using hi
  have lt2 : decide ((i : Int) + 1 < (ul (evn s) : Int)) = true := by simp; omega
  have e1 : ((i : Int) + 1).toNat = i + 1 := by omega
  have hex := enc_hex (s := s) (n0 := n0) hl (by omega)
  have := encL0_2 s i l (l ++ esc (un (evn s) i)) n0 n0
  simp only [Int.toNat_natCast, e1] at this
  exact this ⟨lt1, hzE, by omega, H, by simp only [inR]; omega, lt2, by simp only [inR]; omega, hzE, by omega, L, H, by first | rfl | trivial, by first | rfl | trivial, by simp; omega, hex, by simp only [inR]; omega, trivial⟩

theorem enc_e5 (hzE : SZ (evn s)) (hul : ul (evn s) < 4294967296) (hi : i < ul (evn s)) (hl : l.length ≤ 6 * i) (H : high (un (evn s) i) = true) (C : ¬ i + 1 < ul (evn s)) :
    To Tryd.prog (loopAt Tryd.f17 0) (encS0 s i l n0) .normal (encS0 s ((i + 1 : Nat) : Int) (l ++ esc (un (evn s) i)) n0) := by
  have lt1 : decide ((i : Int) < (ul (evn s) : Int)) = true := by simpa using hi
  have lt2 : decide ((i : Int) + 1 < (ul (evn s) : Int)) = false := by simp; omega
  have e1 : ((i : Int) + 1).toNat = i + 1 := by omega
  have hex := enc_hex (s := s) (n0 := n0) hl (by omega)
  have := encL0_5 s i l (l ++ esc (un (evn s) i)) n0 n0
  simp only [Int.toNat_natCast, e1] at this
  exact this ⟨lt1, hzE, by omega, H, by simp only [inR]; omega, lt2, H, by first | rfl | trivial, by first | rfl | trivial, by simp; omega, hex, by simp only [inR]; omega, trivial⟩
end

theorem enc_c {s : ByteArray} (hs : SM s) : PureTo Tryd.prog 17 [.v (.string s)] (.v (.string (strOfInts (encL s)))) := by
  have hz := hs.sz
  unfold SM at hs
  have hul : ul s ≤ s.size := by unfold ul; omega
  have hE : ul (evn s) = ul s := evn_ul s
  have hzE : SZ (evn s) := by unfold SZ; rw [evn_size]; omega
  have hul4 : ul (evn s) < 4294967296 := by rw [hE]; omega
  obtain ⟨n1, h1, hl⟩ := enc_loop (P := Tryd.prog) (c := loopAt Tryd.f17 0) (S := fun i l n0 => encS0 s i l n0) (X := fun l n1 => encX0 s l n1) (x := .exit 0) (evn s) (by simp)
    (fun i l n0 hi hl h0 => by
      have hfl : n0 ≤ (l ++ esc (un (evn s) i)).length := by rw [List.length_append]; omega
      unfold encU
      cases H : high (un (evn s) i)
      · rw [if_neg (fun h => by simp at h)]
        cases L : low (un (evn s) i)
        · rw [if_neg (by simp)]
          exact ⟨_, Nat.le_refl _, enc_one hzE hul4 hi hl H L⟩
        · rw [if_pos (by simp)]
          exact ⟨n0, hfl, enc_e9 hzE hul4 hi hl H L⟩
      · by_cases C : i + 1 < ul (evn s)
        · cases L : low (un (evn s) (i + 1))
          · rw [if_neg (fun h => by simp at h), if_pos (by simp)]
            exact ⟨n0, hfl, enc_e2 hzE hul4 hi hl H C L⟩
          · rw [if_pos ⟨by simp, C, by simp⟩]
            exact ⟨_, Nat.le_refl _, enc_pair hzE hul4 hi hl ((high_iff _).1 H) ((low_iff _).1 L) C⟩
        · rw [if_neg (fun h => C h.2.1), if_pos (by simp)]
          exact ⟨n0, hfl, enc_e5 hzE hul4 hi hl H C⟩)
    (fun i l n0 hi => encL0_11 s i l [] n0 0 ⟨by simpa using hi, trivial⟩) (ul (evn s)) 0 [] 0 (by omega) (by simp) (Nat.le_refl _)
  have h : PureTo Tryd.prog 17 [.v (.string s)] (.v (.string (strOfInts (encL (evn s))))) := encF1 s _ n1 ⟨hz, hzE, hl, rfl, h1, trivial⟩
  rwa [encL_evn] at h

end Go.Proofs.Us

/- Texts: Encode in the table. -/
set_option maxRecDepth 100000
namespace Go.Proofs.Us
open Go Go.Ev

def SG7 : SGT := (17, .p (sigS fun s => (.v (.string (strOfInts (encL s))), [SM s]))) :: (18, .p (sigS fun s => (.v (.string (strOfInts (encL s))), [SM s]))) :: SG6

theorem sok7 : SigsOK Tryd.prog SG7 := by
  refine sigs_cons (sigs_cons sok6 ?_) ?_
  · exact sigS_ok fun s h => renc_c h.1
  · exact sigS_ok fun s h => enc_c h.1

end Go.Proofs.Us

/- Texts: walks, written by the tool. -/
set_option maxRecDepth 100000
namespace Go.Proofs.Us
open Go Go.Ev

theorem awk_ev  (h : AllP [SM (ByteArray.mk #[(104 : UInt8), (195 : UInt8), (169 : UInt8)]), SM (decR (ByteArray.mk #[(104 : UInt8), (195 : UInt8), (169 : UInt8)])).fst]) : PureTo Tryd.prog 16 [] (AV.v (.bool true)) :=
  evFnM_pure hm sok7 (fn := Tryd.f16) rfl rfl (ti := false) (m := Mode.same) (hs := []) (c := _) (by kernel_rfl) (by kernel_rfl) h
def awk  : Bool := true
theorem awk_pure  (h : AllP [SM (ByteArray.mk #[(104 : UInt8), (195 : UInt8), (169 : UInt8)]), SM (decR (ByteArray.mk #[(104 : UInt8), (195 : UInt8), (169 : UInt8)])).fst]) : PureTo Tryd.prog 16 [] (AV.v (.bool (awk))) := awk_ev  h
end Go.Proofs.Us

/- Texts: more contracts in the table: awake, units, parts. -/
set_option maxRecDepth 100000
namespace Go.Proofs.Us
open Go Go.Ev

theorem awk_c : PureTo Tryd.prog 16 [] (.v (.bool true)) := awk_ev ⟨by unfold SM; decide, by unfold SM; decide +kernel, trivial⟩

theorem rslice_eq (s : ByteArray) (i j : Int) : rslice s i j = slice s i j := by
  unfold rslice slice
  have e1 : (bif decide (j > (ul s : Int)) then (ul s : Int) else j) = if (ul s : Int) < j then (ul s : Int) else j := by rw [bif_dec]
  have e2 : (bif decide (i < 0) then (0 : Int) else i) = if (0 : Int) > i then 0 else i := by rw [bif_dec]
  rw [e1, e2]

theorem slice_c {s : ByteArray} {i j : Int} (hs : SZ s) : PureTo Tryd.prog 21 [.v (.string s), .v (.int .i64 i), .v (.int .i64 j)] (.v (.string (slice s i j))) := by
  have hul : 2 * ul s ≤ s.size := by unfold ul; omega
  have hs' := hs
  unfold SZ at hs'
  refine slice_pure s i j ⟨hs, fun h => ?_, trivial⟩
  simp only [not_t, decide_eq_true_eq] at h
  have h0 : (0 : Int) ≤ if (0 : Int) > i then 0 else i := by split <;> omega
  have h1 : (if (ul s : Int) < j then (ul s : Int) else j) ≤ (ul s : Int) := by split <;> omega
  generalize (if (0 : Int) > i then (0 : Int) else i) = a at *
  generalize (if (ul s : Int) < j then (ul s : Int) else j) = b at *
  exact ⟨by simp only [inR]; omega, by simp only [inR]; omega, by omega, by omega, trivial⟩

theorem rslice_c {s : ByteArray} {i j : Int} (hs : SZ s) : PureTo Tryd.prog 22 [.v (.string s), .v (.int .i64 i), .v (.int .i64 j)] (.v (.string (slice s i j))) := by
  have hul : 2 * ul s ≤ s.size := by unfold ul; omega
  have hs' := hs
  unfold SZ at hs'
  rw [← rslice_eq]
  have e1 : (bif decide (j > (ul s : Int)) then (ul s : Int) else j) = if (ul s : Int) < j then (ul s : Int) else j := by rw [bif_dec]
  have e2 : (bif decide (i < 0) then (0 : Int) else i) = if (0 : Int) > i then 0 else i := by rw [bif_dec]
  refine rslice_pure s i j ⟨hs, fun _ => ⟨hs, trivial⟩, fun h => ?_, trivial⟩
  rw [e1, e2] at h ⊢
  simp only [not_t, decide_eq_true_eq] at h
  have h0 : (0 : Int) ≤ if (0 : Int) > i then 0 else i := by split <;> omega
  have h1 : (if (ul s : Int) < j then (ul s : Int) else j) ≤ (ul s : Int) := by split <;> omega
  generalize (if (0 : Int) > i then (0 : Int) else i) = a at *
  generalize (if (ul s : Int) < j then (ul s : Int) else j) = b at *
  exact ⟨by simp only [inR]; omega, by simp only [inR]; omega, by omega, by omega, trivial⟩

theorem unitOk_conds {s : ByteArray} {i : Int} (hs : SZ s) : AllP [(!decide (i < (0 : Int))) = true → AllP [SZ s], (!bif decide (i < (0 : Int)) then true else decide (i ≥ (↑(ul s) : Int))) = true → AllP [SZ s, (0 : Int) ≤ i ∧ i < (↑(ul s) : Int)]] := by
  refine ⟨fun _ => ⟨hs, trivial⟩, fun h => ⟨hs, ?_, trivial⟩, trivial⟩
  rw [bif_or, not_t, Bool.or_eq_true, decide_eq_true_eq, decide_eq_true_eq] at h
  omega

theorem unitOk_c {s : ByteArray} {i : Int} (hs : SZ s) : PureTo Tryd.prog 31 [.v (.string s), .v (.int .i64 i)] (.tup [.v (.int .u16 (unitOk_1 s i)), .v (.bool (unitOk_2 s i))]) := unitOk_pure s i (unitOk_conds hs)
theorem runitOk_c {s : ByteArray} {i : Int} (hs : SZ s) : PureTo Tryd.prog 20 [.v (.string s), .v (.int .i64 i)] (.tup [.v (.int .u16 (unitOk_1 s i)), .v (.bool (unitOk_2 s i))]) := runitOk_pure s i (unitOk_conds hs)

def SG8 : SGT := (16, .p (sigNo (.v (.bool true)))) :: (21, .p (sigSII fun s i j => (.v (.string (slice s i j)), [SZ s]))) :: (22, .p (sigSII fun s i j => (.v (.string (slice s i j)), [SZ s]))) ::
  (31, .p (sigSI fun s i => (.tup [.v (.int .u16 (unitOk_1 s i)), .v (.bool (unitOk_2 s i))], [SZ s]))) :: (20, .p (sigSI fun s i => (.tup [.v (.int .u16 (unitOk_1 s i)), .v (.bool (unitOk_2 s i))], [SZ s]))) :: SG7

theorem sok8 : SigsOK Tryd.prog SG8 := by
  refine sigs_cons (sigs_cons (sigs_cons (sigs_cons (sigs_cons sok7 ?_) ?_) ?_) ?_) (sigNo_ok awk_c)
  · exact sigSI_ok fun s i h => runitOk_c h.1
  · exact sigSI_ok fun s i h => unitOk_c h.1
  · exact sigSII_ok fun s i j h => rslice_c h.1
  · exact sigSII_ok fun s i j h => slice_c h.1

end Go.Proofs.Us

/- Texts: strings.Repeat by the shelf's contract. -/
set_option maxRecDepth 100000
namespace Go.Proofs
open Go.Shelf
def Tryd.lays105_ren : Go.Shelf.Ren := ⟨fun | 105 => 76 | 212 => 84 | 99 => 85 | 165 => 86 | 166 => 77 | 170 => 87 | 169 => 78 | 263 => 93 | 264 => 94 | 206 => 95 | 240 => 88 | 241 => 96 | 276 => 97 | 277 => 100 | n => n, fun | 9 => 9 | 3 => 3 | 4 => 4 | 20 => 20 | 0 => 0 | 46 => 59 | 109 => 72 | 5 => 5 | 72 => 65 | 76 => 68 | 51 => 55 | 146 => 83 | 53 => 85 | 148 => 86 | 70 => 63 | 37 => 51 | 75 => 67 | 127 => 76 | 164 => 88 | 80 => 70 | n => n, fun | n => n⟩
theorem Tryd.lays105 : Go.Proofs.Lays.n105 Tryd.prog Tryd.lays105_ren := {
  mixed := by kernel_rfl
  f99 := Tryd.func85.trans (congrArg some (by kernel_rfl))
  f105 := Tryd.func76.trans (congrArg some (by kernel_rfl))
  f165 := Tryd.func86.trans (congrArg some (by kernel_rfl))
  f166 := Tryd.func77.trans (congrArg some (by kernel_rfl))
  f169 := Tryd.func78.trans (congrArg some (by kernel_rfl))
  f170 := Tryd.func87.trans (congrArg some (by kernel_rfl))
  f206 := Tryd.func95.trans (congrArg some (by kernel_rfl))
  f212 := Tryd.func84.trans (congrArg some (by kernel_rfl))
  f240 := Tryd.func88.trans (congrArg some (by kernel_rfl))
  f241 := Tryd.func96.trans (congrArg some (by kernel_rfl))
  f263 := Tryd.func93.trans (congrArg some (by kernel_rfl))
  f264 := Tryd.func94.trans (congrArg some (by kernel_rfl))
  f276 := Tryd.func97.trans (congrArg some (by kernel_rfl))
  f277 := Tryd.func100.trans (congrArg some (by kernel_rfl))
  t0 := Tryd.underlying0
  a0 := Tryd.isAgg0
  z0 := Tryd.sizeOf0
  v0 := Tryd.zeroValue0
  t3 := Tryd.underlying3
  a3 := Tryd.isAgg3
  z3 := Tryd.sizeOf3
  v3 := Tryd.zeroValue3
  t4 := Tryd.underlying4
  a4 := Tryd.isAgg4
  z4 := Tryd.sizeOf4
  v4 := Tryd.zeroValue4
  t5 := Tryd.underlying5
  a5 := Tryd.isAgg5
  z5 := Tryd.sizeOf5
  v5 := Tryd.zeroValue5
  t9 := Tryd.underlying9
  a9 := Tryd.isAgg9
  z9 := Tryd.sizeOf9
  v9 := Tryd.zeroValue9
  t20 := Tryd.underlying20
  a20 := Tryd.isAgg20
  z20 := Tryd.sizeOf20
  v20 := Tryd.zeroValue20
  t37 := Tryd.underlying51
  a37 := Tryd.isAgg51
  z37 := Tryd.sizeOf51
  v37 := Tryd.zeroValue51
  t46 := Tryd.underlying59
  a46 := Tryd.isAgg59
  z46 := Tryd.sizeOf59
  v46 := Tryd.zeroValue59
  t51 := Tryd.underlying55
  a51 := Tryd.isAgg55
  z51 := Tryd.sizeOf55
  v51 := Tryd.zeroValue55
  t53 := Tryd.underlying85
  a53 := Tryd.isAgg85
  z53 := Tryd.sizeOf85
  v53 := Tryd.zeroValue85
  t70 := Tryd.underlying63
  a70 := Tryd.isAgg63
  z70 := Tryd.sizeOf63
  v70 := Tryd.zeroValue63
  t72 := Tryd.underlying65
  a72 := Tryd.isAgg65
  z72 := Tryd.sizeOf65
  v72 := Tryd.zeroValue65
  t75 := Tryd.underlying67
  a75 := Tryd.isAgg67
  z75 := Tryd.sizeOf67
  v75 := Tryd.zeroValue67
  t76 := Tryd.underlying68
  a76 := Tryd.isAgg68
  z76 := Tryd.sizeOf68
  v76 := Tryd.zeroValue68
  t109 := Tryd.underlying72
  a109 := Tryd.isAgg72
  z109 := Tryd.sizeOf72
  v109 := Tryd.zeroValue72
  t127 := Tryd.underlying76
  a127 := Tryd.isAgg76
  z127 := Tryd.sizeOf76
  v127 := Tryd.zeroValue76
  t146 := Tryd.underlying83
  a146 := Tryd.isAgg83
  z146 := Tryd.sizeOf83
  v146 := Tryd.zeroValue83
  t148 := Tryd.underlying86
  a148 := Tryd.isAgg86
  z148 := Tryd.sizeOf86
  v148 := Tryd.zeroValue86
  t164 := Tryd.underlying88
  a164 := Tryd.isAgg88
  z164 := Tryd.sizeOf88
  v164 := Tryd.zeroValue88 }
theorem Tryd.Builder_Extra_105 : Builder.Extra Tryd.prog Tryd.lays105_ren := {
  sizeBuilder := by kernel_rfl
  liesBuilder := by kernel_rfl
  t5 := Tryd.underlying5
  a5 := Tryd.isAgg5
  z5 := Tryd.sizeOf5
  v5 := Tryd.zeroValue5
  infoByte := by kernel_rfl
  cellsByte := by kernel_rfl
  sizeByte := by kernel_rfl
  neB5 := by decide }
open Go.RowKit Go.Lib in
/-- **strings.Repeat: count ≥ 0, the result within one allocation: count copies of s.** (LAID: no walk: one application.) -/
theorem Tryd.strings_Repeat (s : ByteArray) (c : Nat) (w : World) (hc : c ≤ 9223372036854775807) (hlen : s.size * c ≤ 140737488355328) :
    Calls Tryd.prog 76 #[.string s, .int .i64 c] w fun e w' => e = .returned (.string ⟨(Lib.repeatL s.data.toList c).toArray⟩) ∧ Go.RowKit.Below w.heap.size w w' := Any.strings_Repeat Tryd.lays105 Tryd.Builder_Extra_105 s c w hc hlen
end Go.Proofs
namespace Go.Ev
open Go

/-- a contract of the shelf, over two values that are told -/
theorem pure_of_calls2 [Globs] {P : Program} {f : FuncId} {fn : Func} {code : Code} {x y z : Value} (hf : P.funcs[f]? = some fn) (hb : fn.body = some code) (hn : (fn.name == "runtime.NumGoroutine") = false) (hz : okV z)
    (h : ∀ w, Calls P f #[x, y] w fun e w' => e = .returned z ∧ Go.RowKit.Below w.heap.size w w') : PureTo P f [.v x, .v y] (.v z) := by
  intro S vals hwf hv
  obtain ⟨h1, h2⟩ := hv
  match vals, h1 with
  | [a, b], _ =>
    have ha := h2 0 (by simp) (by simp)
    have hb' := h2 1 (by simp) (by simp)
    simp only [List.getElem_cons_zero, List.getElem_cons_succ] at ha hb'
    obtain ⟨rfl, _⟩ := repI_v ha
    obtain ⟨rfl, _⟩ := repI_v hb'
    have hn' : fn.name ≠ "runtime.NumGoroutine" := by simpa using hn
    have hrun : (callFunc f ([a, b] : List Value).toArray).run P S.w = .ok (.enter f #[a, b]) S.w := by simp [callFunc, hf, hn', hb]
    unfold CalledTo
    rw [hrun]
    refine ⟨rfl, (h S.w).mono fun e w' ⟨he, hw⟩ => ⟨z, he, ⟨hw.size, hw.os, hw.tape, hw.output, hw.block⟩, .v _ hz⟩⟩

end Go.Ev
namespace Go.Proofs.Us
open Go Go.Ev

def repS (s : ByteArray) (n : Nat) : ByteArray := ⟨(Lib.repeatL s.data.toList n).toArray⟩

theorem repeat_pure (s : ByteArray) (n : Int) (h : 0 ≤ n) (hn : n ≤ 9223372036854775807) (hl : s.size * n.toNat ≤ 140737488355328) : PureTo Tryd.prog 76 [.v (.string s), .v (.int .i64 n)] (.v (.string (repS s n.toNat))) := by
  refine pure_of_calls2 (fn := Tryd.f76) rfl rfl (by kernel_rfl) trivial fun w => ?_
  have := Tryd.strings_Repeat s n.toNat w (by omega) hl
  rw [Int.toNat_of_nonneg h] at this
  exact this

def SR : SGT := (76, .p (sigSI fun s n => (.v (.string (repS s n.toNat)), [0 ≤ n, n ≤ 9223372036854775807, s.size * n.toNat ≤ 140737488355328]))) :: SG8
theorem soR : SigsOK Tryd.prog SR := sigs_cons sok8 (sigSI_ok fun s n h => repeat_pure s n h.1 h.2.1 h.2.2.1)

end Go.Proofs.Us

/- Texts: walks, written by the tool. -/
set_option maxRecDepth 100000
namespace Go.Proofs.Us
open Go Go.Ev
def rrepS0 (s : ByteArray) (n m : Int) (x0 : Int) (l0 : List Int) (n0 : Nat) : AS := { n := 39, fr := [(0, AV.v (.string s)), (1, AV.v (.int .i64 n)), (8, AV.row 17 0 l0.length l0.length false), (9, AV.v (.int .i64 x0))], hp := [(17, AObj.row 5 1 (.ints .u8 l0) n0)], nx := 18 }
def rrepX0 (s : ByteArray) (n m : Int) (l1 : List Int) (n1 : Nat) : AS := { n := 39, fr := [(8, AV.row 17 0 l1.length l1.length false)], hp := [(17, AObj.row 5 1 (.ints .u8 l1) n1)], nx := 18 }
theorem rep_ev (s : ByteArray) (n m : Int) (h : AllP [SZ s, (!bif decide (n < (1 : Int)) then true else (evn s).toList == (ByteArray.mk #[]).toList) = true → AllP [SZ (evn s), (↑(ul (evn s)) : Int) ≠ (0 : Int), inR IntKind.i64 ((if (0 : Int) > m then (0 : Int) else m).tdiv (↑(ul (evn s)) : Int)), (!decide (n > (if (0 : Int) > m then (0 : Int) else m).tdiv (↑(ul (evn s)) : Int))) = true → AllP [(0 : Int) ≤ n, n ≤ (9223372036854775807 : Int), (evn s).size * n.toNat ≤ 140737488355328]]]) : PureTo Tryd.prog 52 [.v (.string s), .v (.int .i64 n), .v (.int .i64 m)] (AV.tup [AV.v (.string (bif !bif decide (n < (1 : Int)) then true else (evn s).toList == (ByteArray.mk #[]).toList then bif !decide (n > (if (0 : Int) > m then (0 : Int) else m).tdiv (↑(ul (evn s)) : Int)) then repS (evn s) n.toNat else (ByteArray.mk #[]) else (ByteArray.mk #[]))), AV.v (.bool (bif !bif decide (n < (1 : Int)) then true else (evn s).toList == (ByteArray.mk #[]).toList then bif !decide (n > (if (0 : Int) > m then (0 : Int) else m).tdiv (↑(ul (evn s)) : Int)) then true else false else true))]) :=
  evFnM_pure hm soR (fn := Tryd.f52) rfl rfl (ti := false) (m := Mode.parts [Mode.mix, Mode.mix]) (hs := [MHint.ops 2 [] [(2, 3)], MHint.br, MHint.br]) (c := _) (by kernel_rfl) (by kernel_rfl) h
def rep_1 (s : ByteArray) (n m : Int) : ByteArray := bif !bif decide (n < (1 : Int)) then true else (evn s).toList == (ByteArray.mk #[]).toList then bif !decide (n > (if (0 : Int) > m then (0 : Int) else m).tdiv (↑(ul (evn s)) : Int)) then repS (evn s) n.toNat else (ByteArray.mk #[]) else (ByteArray.mk #[])
def rep_2 (s : ByteArray) (n m : Int) : Bool := bif !bif decide (n < (1 : Int)) then true else (evn s).toList == (ByteArray.mk #[]).toList then bif !decide (n > (if (0 : Int) > m then (0 : Int) else m).tdiv (↑(ul (evn s)) : Int)) then true else false else true
theorem rep_pure (s : ByteArray) (n m : Int) (h : AllP [SZ s, (!bif decide (n < (1 : Int)) then true else (evn s).toList == (ByteArray.mk #[]).toList) = true → AllP [SZ (evn s), (↑(ul (evn s)) : Int) ≠ (0 : Int), inR IntKind.i64 ((if (0 : Int) > m then (0 : Int) else m).tdiv (↑(ul (evn s)) : Int)), (!decide (n > (if (0 : Int) > m then (0 : Int) else m).tdiv (↑(ul (evn s)) : Int))) = true → AllP [(0 : Int) ≤ n, n ≤ (9223372036854775807 : Int), (evn s).size * n.toNat ≤ 140737488355328]]]) : PureTo Tryd.prog 52 [.v (.string s), .v (.int .i64 n), .v (.int .i64 m)] (AV.tup [AV.v (.string (rep_1 s n m)), AV.v (.bool (rep_2 s n m))]) := rep_ev s n m h
-- 2 paths
theorem rrepL0_1 (s : ByteArray) (n m : Int) (x0 : Int) (l0 : List Int) (n0 : Nat) (h : AllP [decide (x0 < n) = true, SZ s, inR IntKind.i64 ((2 : Int) * (↑(ul s) : Int)), (0 : Int) ≤ (2 : Int) * (↑(ul s) : Int) ∧ (2 : Int) * (↑(ul s) : Int) ≤ (↑s.size : Int), l0.length = l0.length, l0.length = l0.length, (l0 ++ intsOfStr (s.extract 0 ((2 : Int) * (↑(ul s) : Int)).toNat)).length * 1 ≤ 140737488355328, inR IntKind.i64 (x0 + (1 : Int))]) : To Tryd.prog (loopAt Tryd.f53 0) ({ n := 39, fr := [(0, AV.v (.string s)), (1, AV.v (.int .i64 n)), (8, AV.row 17 0 l0.length l0.length false), (9, AV.v (.int .i64 x0))], hp := [(17, AObj.row 5 1 (.ints .u8 l0) n0)], nx := 18 }) (.normal) { n := 39, fr := [(0, AV.v (.string s)), (1, AV.v (.int .i64 n)), (8, AV.row 17 0 (l0 ++ intsOfStr (s.extract 0 ((2 : Int) * (↑(ul s) : Int)).toNat)).length (l0 ++ intsOfStr (s.extract 0 ((2 : Int) * (↑(ul s) : Int)).toNat)).length false), (9, AV.v (.int .i64 (x0 + (1 : Int))))], hp := [(17, AObj.row 5 1 (.ints .u8 (l0 ++ intsOfStr (s.extract 0 ((2 : Int) * (↑(ul s) : Int)).toNat))) n0)], nx := 18 } :=
  evW_to hm soR (hs := [CHint.ops 9 [(2, Hint.b true)]]) (slots := [0, 1, 8, 9]) (keys := [17]) (nx := 18) (c := _) (by kernel_rfl) h
theorem rrepL0_2 (s : ByteArray) (n m : Int) (x0 : Int) (l0 : List Int) (n0 : Nat) (h : AllP [decide (x0 < n) = false]) : To Tryd.prog (loopAt Tryd.f53 0) ({ n := 39, fr := [(0, AV.v (.string s)), (1, AV.v (.int .i64 n)), (8, AV.row 17 0 l0.length l0.length false), (9, AV.v (.int .i64 x0))], hp := [(17, AObj.row 5 1 (.ints .u8 l0) n0)], nx := 18 }) (Exit.exit 0) { n := 39, fr := [(8, AV.row 17 0 l0.length l0.length false)], hp := [(17, AObj.row 5 1 (.ints .u8 l0) n0)], nx := 18 } :=
  evW_to hm soR (hs := [CHint.ops 9 [(2, Hint.b false)]]) (slots := [8]) (keys := [17]) (nx := 18) (c := _) (by kernel_rfl) h
-- 8 paths
theorem rrepF1 (s : ByteArray) (n m : Int) (l1 : List Int) (n1 : Nat) (h : AllP [decide (m < (0 : Int)) = true, decide (n < (1 : Int)) = true]) : PureTo Tryd.prog 53 [.v (.string s), .v (.int .i64 n), .v (.int .i64 m)] (AV.tup [AV.v (.string (ByteArray.mk #[])), AV.v (.bool true)]) :=
  evFn_pure hm soR (fn := Tryd.f53) rfl rfl (ti := false) (hs := [CHint.ops 1 [(1, Hint.b true)], CHint.ops 3 [(1, Hint.b true)]]) (c := _) (by kernel_rfl) h
theorem rrepF2 (s : ByteArray) (n m : Int) (l1 : List Int) (n1 : Nat) (h : AllP [decide (m < (0 : Int)) = true, decide (n < (1 : Int)) = false, SZ s, ((↑(ul s) : Int) == (0 : Int)) = true]) : PureTo Tryd.prog 53 [.v (.string s), .v (.int .i64 n), .v (.int .i64 m)] (AV.tup [AV.v (.string (ByteArray.mk #[])), AV.v (.bool true)]) :=
  evFn_pure hm soR (fn := Tryd.f53) rfl rfl (ti := false) (hs := [CHint.ops 1 [(1, Hint.b true)], CHint.ops 3 [(1, Hint.b false), (5, Hint.b true)]]) (c := _) (by kernel_rfl) h
theorem rrepF3 (s : ByteArray) (n m : Int) (l1 : List Int) (n1 : Nat) (h : AllP [decide (m < (0 : Int)) = true, decide (n < (1 : Int)) = false, SZ s, ((↑(ul s) : Int) == (0 : Int)) = false, SZ s, (↑(ul s) : Int) ≠ (0 : Int), inR IntKind.i64 (Int.tdiv (0 : Int) (↑(ul s) : Int)), decide (n > Int.tdiv (0 : Int) (↑(ul s) : Int)) = true]) : PureTo Tryd.prog 53 [.v (.string s), .v (.int .i64 n), .v (.int .i64 m)] (AV.tup [AV.v (.string (ByteArray.mk #[])), AV.v (.bool false)]) :=
  evFn_pure hm soR (fn := Tryd.f53) rfl rfl (ti := false) (hs := [CHint.ops 1 [(1, Hint.b true)], CHint.ops 3 [(1, Hint.b false), (5, Hint.b false)], CHint.ops 5 [(5, Hint.b true)]]) (c := _) (by kernel_rfl) h
/- DEAD 4 hs [CHint.ops 1 [(1, Hint.b true)], CHint.ops 3 [(1, Hint.b false), (5, Hint.b false)], CHint.ops 5 [(5, Hint.b false)], CHint.ops 7 [(0, Hint.nil 5)]]
-- conds [decide (m < (0 : Int)) = true, decide (n < (1 : Int)) = false, SZ s, ((↑(ul s) : Int) == (0 : Int)) = false, SZ s, (↑(ul s) : Int) ≠ (0 : Int), inR IntKind.i64 (Int.tdiv (0 : Int) (↑(ul s) : Int)), decide (n > Int.tdiv (0 : Int) (↑(ul s) : Int)) = false]
loop: cannot weaken: state
  { n := 39,
  fr :=
    [(9, AV.v (.int .i64 (0 : Int))),
      (8, AV.row 18 0 0 0 false), (24, AV.v (.bool false)),
      (23, AV.v (.int .i64 (Int.tdiv (0 : Int) (↑(ul s) : Int)))),
      (22, AV.v (.int .i64 (↑(ul s) : Int))), (21, AV.v (.string s)),
      (20, AV.v (.int .i64 (0 : Int))), (19, AV.v (.int .i64 n)),
      (18, AV.v (.bool false)), (17, AV.v (.bool false)),
      (16, AV.v (.int .i64 (↑(ul s) : Int))), (15, AV.v (.string s)),
      (14, AV.v (.bool false)), (13, AV.v (.bool false)),
      (12, AV.v (.int .i64 n)), (2, AV.v (.int .i64 (0 : Int))),
      (11, AV.v (.bool true)), (10, AV.v (.int .i64 m)),
      (7, AV.v (.bool false)), (6, AV.v (.string (ByteArray.mk #[]))),
      (0, AV.v (.string s)), (1, AV.v (.int .i64 n))],
  hp := [(18, AObj.row 5 1 (.ints .u8 []) 0)], nx := 20 } -/
theorem rrepF5 (s : ByteArray) (n m : Int) (l1 : List Int) (n1 : Nat) (h : AllP [decide (m < (0 : Int)) = false, decide (n < (1 : Int)) = true]) : PureTo Tryd.prog 53 [.v (.string s), .v (.int .i64 n), .v (.int .i64 m)] (AV.tup [AV.v (.string (ByteArray.mk #[])), AV.v (.bool true)]) :=
  evFn_pure hm soR (fn := Tryd.f53) rfl rfl (ti := false) (hs := [CHint.ops 1 [(1, Hint.b false)], CHint.ops 3 [(1, Hint.b true)]]) (c := _) (by kernel_rfl) h
theorem rrepF6 (s : ByteArray) (n m : Int) (l1 : List Int) (n1 : Nat) (h : AllP [decide (m < (0 : Int)) = false, decide (n < (1 : Int)) = false, SZ s, ((↑(ul s) : Int) == (0 : Int)) = true]) : PureTo Tryd.prog 53 [.v (.string s), .v (.int .i64 n), .v (.int .i64 m)] (AV.tup [AV.v (.string (ByteArray.mk #[])), AV.v (.bool true)]) :=
  evFn_pure hm soR (fn := Tryd.f53) rfl rfl (ti := false) (hs := [CHint.ops 1 [(1, Hint.b false)], CHint.ops 3 [(1, Hint.b false), (5, Hint.b true)]]) (c := _) (by kernel_rfl) h
theorem rrepF7 (s : ByteArray) (n m : Int) (l1 : List Int) (n1 : Nat) (h : AllP [decide (m < (0 : Int)) = false, decide (n < (1 : Int)) = false, SZ s, ((↑(ul s) : Int) == (0 : Int)) = false, SZ s, (↑(ul s) : Int) ≠ (0 : Int), inR IntKind.i64 (m.tdiv (↑(ul s) : Int)), decide (n > m.tdiv (↑(ul s) : Int)) = true]) : PureTo Tryd.prog 53 [.v (.string s), .v (.int .i64 n), .v (.int .i64 m)] (AV.tup [AV.v (.string (ByteArray.mk #[])), AV.v (.bool false)]) :=
  evFn_pure hm soR (fn := Tryd.f53) rfl rfl (ti := false) (hs := [CHint.ops 1 [(1, Hint.b false)], CHint.ops 3 [(1, Hint.b false), (5, Hint.b false)], CHint.ops 5 [(5, Hint.b true)]]) (c := _) (by kernel_rfl) h
theorem rrepF8 (s : ByteArray) (n m : Int) (l1 : List Int) (n1 : Nat) (h : AllP [decide (m < (0 : Int)) = false, decide (n < (1 : Int)) = false, SZ s, ((↑(ul s) : Int) == (0 : Int)) = false, SZ s, (↑(ul s) : Int) ≠ (0 : Int), inR IntKind.i64 (m.tdiv (↑(ul s) : Int)), decide (n > m.tdiv (↑(ul s) : Int)) = false, LoopTo Tryd.prog (loopAt Tryd.f53 0) { n := 39, fr := [(0, AV.v (.string s)), (1, AV.v (.int .i64 n)), (8, AV.row 17 0 0 0 false), (9, AV.v (.int .i64 (0 : Int)))], hp := [(17, AObj.row 5 1 (.ints .u8 []) 0)], nx := 18 } (Exit.exit 0) { n := 39, fr := [(8, AV.row 17 0 l1.length l1.length false)], hp := [(17, AObj.row 5 1 (.ints .u8 l1) n1)], nx := 18 }, l1.length = l1.length, n1 ≤ l1.length]) : PureTo Tryd.prog 53 [.v (.string s), .v (.int .i64 n), .v (.int .i64 m)] (AV.tup [AV.v (.string (strOfInts l1)), AV.v (.bool true)]) :=
  evFn_pure hm soR (fn := Tryd.f53) rfl rfl (ti := false) (hs := [CHint.ops 1 [(1, Hint.b false)], CHint.ops 3 [(1, Hint.b false), (5, Hint.b false)], CHint.ops 5 [(5, Hint.b false)], CHint.ops 7 [(0, Hint.nil 5)], CHint.loop [0, 1, 8, 9] [17] 18 (Exit.exit 0) { n := 39, fr := [(8, AV.row 17 0 l1.length l1.length false)], hp := [(17, AObj.row (5 : TypeId) 1 (.ints .u8 l1) n1)], nx := 18 }]) (c := _) (by kernel_rfl) h
end Go.Proofs.Us

/- Texts: a text again and again: the two functions come to one. -/
set_option maxRecDepth 100000
namespace Go.Proofs.Us
open Go Go.Ev

theorem evn_size' (s : ByteArray) : (evn s).size = 2 * ul s := by
  unfold evn ul
  simp only [ByteArray.size_extract]
  omega
theorem ul_evn' (s : ByteArray) : ul (evn s) = ul s := by
  unfold ul
  rw [evn_size']
  unfold ul
  omega
theorem str_ints' (s : ByteArray) : strOfInts (intsOfStr s) = s := by
  unfold strOfInts intsOfStr
  apply ByteArray.ext
  apply Array.ext'
  simp only [List.map_map]
  have : ((fun n : Int => UInt8.ofNat n.toNat) ∘ fun b : UInt8 => (b.toNat : Int)) = id := by
    funext b
    simp
  rw [this, List.map_id]

theorem repS_zero (s : ByteArray) : intsOfStr (repS s 0) = [] := by simp [repS, Lib.repeatL, intsOfStr]
theorem repS_succ (s : ByteArray) (n : Nat) : intsOfStr (repS s (n + 1)) = intsOfStr (repS s n) ++ intsOfStr s := by
  unfold repS intsOfStr
  simp only [Lib.repeatL_add, Lib.repeatL_one, List.map_append]
theorem repS_len (s : ByteArray) (n : Nat) : (intsOfStr (repS s n)).length = n * s.size := by
  have h := Lib.repeatL_length s.data.toList n
  unfold repS intsOfStr
  rw [List.length_map]
  have e : s.data.toList.length = s.size := by simp
  rw [e] at h
  exact h

theorem empty_evn (s : ByteArray) : ((evn s).toList == (ByteArray.mk #[]).toList) = decide (ul s = 0) := by
  have hl : (evn s).toList.length = 2 * ul s := by rw [toList_length, evn_size']
  rw [toList_empty]
  cases h : (evn s).toList with
  | nil =>
    rw [h] at hl
    have hz : ul s = 0 := by simp at hl; omega
    rw [decide_eq_true hz]
    rfl
  | cons a r =>
    rw [h] at hl
    simp only [List.length_cons] at hl
    rw [decide_eq_false (by omega)]
    rfl

theorem rrep_loop (s : ByteArray) (n m : Int) (hs : SZ s) (h0 : 0 ≤ n) (hb : n.toNat * (2 * ul s) ≤ 140737488355328) (h63 : n ≤ 9223372036854775806) : ∀ k i : Nat, i + k = n.toNat → ∀ f : Nat, f ≤ (intsOfStr (repS (evn s) i)).length →
    ∃ f', f' ≤ (intsOfStr (repS (evn s) n.toNat)).length ∧ LoopTo Tryd.prog (loopAt Tryd.f53 0) (rrepS0 s n m i (intsOfStr (repS (evn s) i)) f) (Exit.exit 0) (rrepX0 s n m (intsOfStr (repS (evn s) n.toNat)) f') := by
  intro k
  induction k with
  | zero =>
    intro i hi f hf
    have hin : i = n.toNat := by omega
    subst hin
    exact ⟨f, hf, .done (by simp) (rrepL0_2 s n m _ _ f ⟨by simp; omega, trivial⟩)⟩
  | succ k ih =>
    intro i hi f hf
    have e : (2 * (ul s : Int)).toNat = 2 * ul s := by omega
    have hul : 2 * ul s ≤ s.size := by unfold ul; omega
    have hlen : (intsOfStr (repS (evn s) (i + 1))).length = (i + 1) * (2 * ul s) := by rw [repS_len, evn_size']
    have hle : (i + 1) * (2 * ul s) ≤ n.toNat * (2 * ul s) := Nat.mul_le_mul_right _ (by omega)
    have hst := rrepL0_1 s n m i (intsOfStr (repS (evn s) i)) f
    rw [e, show s.extract 0 (2 * ul s) = evn s from rfl, ← repS_succ] at hst
    obtain ⟨f', h1, h2⟩ := ih (i + 1) (by omega) f (by rw [hlen]; rw [repS_len, evn_size'] at hf; exact Nat.le_trans hf (Nat.mul_le_mul_right _ (by omega)))
    refine ⟨f', h1, .step (hst ⟨by simp; omega, hs, by unfold SZ at hs; simp only [inR]; omega, by omega, rfl, rfl, by rw [hlen]; omega, by simp only [inR]; omega, trivial⟩) ?_⟩
    exact h2

theorem rep_room {s : ByteArray} {n m : Int} (hul : 0 < ul s) (hn : ¬ n > (if (0 : Int) > m then 0 else m).tdiv (ul s)) (hm : m ≤ 1048576) (h1 : 1 ≤ n) : n.toNat * ul s ≤ 1048576 ∧ 0 ≤ m := by
  generalize hM : (if (0 : Int) > m then (0 : Int) else m) = M at hn
  have hM0 : 0 ≤ M ∧ M ≤ 1048576 ∧ (M = m ∨ M = 0) := by
    split at hM <;> omega
  rw [Int.tdiv_eq_ediv_of_nonneg hM0.1] at hn
  have hle : n ≤ M / (ul s : Int) := by omega
  have h2 : n * (ul s : Int) ≤ M := (Int.le_ediv_iff_mul_le (by omega)).1 hle
  obtain ⟨k, rfl⟩ : ∃ k : Nat, n = k := ⟨n.toNat, by omega⟩
  have h3 : ((k * ul s : Nat) : Int) ≤ M := by push_cast; exact h2
  have h4 : 1 * ul s ≤ k * ul s := Nat.mul_le_mul_right _ (by omega)
  refine ⟨by simp only [Int.toNat_natCast]; omega, ?_⟩
  rcases hM0.2.2 with h | h
  · omega
  · omega

theorem repeats_c {s : ByteArray} {n m : Int} (hs : SZ s) (hm : m ≤ 1048576) (wn : inR .i64 n) (wm : inR .i64 m) : PureTo Tryd.prog 52 [.v (.string s), .v (.int .i64 n), .v (.int .i64 m)] (.tup [.v (.string (rep_1 s n m)), .v (.bool (rep_2 s n m))]) := by
  have hz : SZ (evn s) := by
    have : ul s ≤ s.size := by unfold ul; omega
    unfold SZ at hs ⊢
    rw [evn_size']
    unfold ul
    omega
  refine rep_pure s n m ⟨hs, fun h => ?_, trivial⟩
  rw [empty_evn] at h
  have h1 : ¬ n < 1 := by
    intro hn
    rw [decide_eq_true hn] at h
    simp at h
  rw [decide_eq_false h1] at h
  have hul : 0 < ul s := by
    simp at h
    omega
  rw [ul_evn']
  refine ⟨hz, by omega, ?_, fun h2 => ?_, trivial⟩
  · generalize hM : (if (0 : Int) > m then (0 : Int) else m) = M
    have hM0 : 0 ≤ M ∧ M ≤ 1048576 := by split at hM <;> omega
    rw [Int.tdiv_eq_ediv_of_nonneg hM0.1]
    have h3 : 0 ≤ M / (ul s : Int) := Int.ediv_nonneg hM0.1 (by omega)
    have h4 : M / (ul s : Int) ≤ M := Int.ediv_le_self _ hM0.1
    simp only [inR]
    omega
  · have h3 : ¬ n > (if (0 : Int) > m then (0 : Int) else m).tdiv (ul s) := by simpa using h2
    obtain ⟨h4, _⟩ := rep_room hul h3 hm (by omega)
    simp only [inR] at wn
    refine ⟨by omega, by omega, ?_, trivial⟩
    rw [evn_size', Nat.mul_comm (2 * ul s), Nat.mul_comm 2, ← Nat.mul_assoc]
    omega

theorem rrepeats_c {s : ByteArray} {n m : Int} (hs : SZ s) (hm : m ≤ 1048576) (wn : inR .i64 n) (wm : inR .i64 m) : PureTo Tryd.prog 53 [.v (.string s), .v (.int .i64 n), .v (.int .i64 m)] (.tup [.v (.string (rep_1 s n m)), .v (.bool (rep_2 s n m))]) := by
  unfold rep_1 rep_2
  rw [empty_evn, ul_evn']
  have hR : ∀ M : Int, 0 ≤ M → M ≤ 1048576 → inR .i64 (M.tdiv (ul s)) := by
    intro M h0 h1
    rw [Int.tdiv_eq_ediv_of_nonneg h0]
    have h3 : 0 ≤ M / (ul s : Int) := Int.ediv_nonneg h0 (by omega)
    have h4 : M / (ul s : Int) ≤ M := Int.ediv_le_self _ h0
    simp only [inR]
    omega
  by_cases h1 : n < 1
  · rw [decide_eq_true h1]
    by_cases h0 : m < 0
    · exact rrepF1 s n m [] 0 ⟨by simp [h0], by simp [h1], trivial⟩
    · exact rrepF5 s n m [] 0 ⟨by simp [h0], by simp [h1], trivial⟩
  · rw [decide_eq_false h1]
    by_cases hu : ul s = 0
    · rw [decide_eq_true hu]
      by_cases h0 : m < 0
      · exact rrepF2 s n m [] 0 ⟨by simp [h0], by simp [h1], hs, by simp [hu], trivial⟩
      · exact rrepF6 s n m [] 0 ⟨by simp [h0], by simp [h1], hs, by simp [hu], trivial⟩
    · rw [decide_eq_false hu]
      by_cases h0 : m < 0
      · have hM : (if (0 : Int) > m then (0 : Int) else m) = 0 := by rw [if_pos (by omega)]
        rw [hM]
        have hz : (0 : Int).tdiv (ul s) = 0 := Int.zero_tdiv _
        have hg : n > (0 : Int).tdiv (ul s) := by rw [hz]; omega
        rw [decide_eq_true hg]
        exact rrepF3 s n m [] 0 ⟨by simp [h0], by simp [h1], hs, by simp; omega, hs, by omega, hR 0 (by omega) (by omega), by simp only [decide_eq_true_eq]; exact hg, trivial⟩
      · have hM : (if (0 : Int) > m then (0 : Int) else m) = m := by rw [if_neg (by omega)]
        rw [hM]
        by_cases hg : n > m.tdiv (ul s)
        · rw [decide_eq_true hg]
          exact rrepF7 s n m [] 0 ⟨by simp [h0], by simp [h1], hs, by simp; omega, hs, by omega, hR m (by omega) hm, by simp only [decide_eq_true_eq]; exact hg, trivial⟩
        · rw [decide_eq_false hg]
          obtain ⟨h4, _⟩ := rep_room (m := m) (n := n) (s := s) (by omega) (by rw [hM]; exact hg) hm (by omega)
          have hb : n.toNat * (2 * ul s) ≤ 140737488355328 := by
            rw [Nat.mul_comm 2, ← Nat.mul_assoc]
            omega
          have hn : n ≤ 9223372036854775806 := by
            have h5 : n.toNat * 1 ≤ n.toNat * ul s := Nat.mul_le_mul_left _ (by omega)
            omega
          obtain ⟨f', hf, hl⟩ := rrep_loop s n m hs (by omega) hb hn n.toNat 0 (by omega) 0 (Nat.zero_le _)
          have := rrepF8 s n m (intsOfStr (repS (evn s) n.toNat)) f' ⟨by simp [h0], by simp [h1], hs, by simp; omega, hs, by omega, hR m (by omega) hm, by simp only [decide_eq_false_iff_not]; exact hg, by
            have := hl
            rw [repS_zero] at this
            exact this, rfl, hf, trivial⟩
          rw [str_ints'] at this
          exact this

def sigRep : List AV → Option (AV × List Prop)
  | [.v (.string s), .v (.int .i64 n), .v (.int .i64 m)] => some (.tup [.v (.string (rep_1 s n m)), .v (.bool (rep_2 s n m))], [SZ s, m ≤ 1048576, inR .i64 n, inR .i64 m])
  | _ => none
def SR1 : SGT := (52, .p sigRep) :: (53, .p sigRep) :: SR
theorem soR1 : SigsOK Tryd.prog SR1 := by
  refine sigs_cons (sigs_cons soR ?_) ?_
  · intro ys r c h hc
    unfold sigRep at h
    split at h
    · cases h; exact rrepeats_c hc.1 hc.2.1 hc.2.2.1 hc.2.2.2.1
    · cases h
  · intro ys r c h hc
    unfold sigRep at h
    split at h
    · cases h; exact repeats_c hc.1 hc.2.1 hc.2.2.1 hc.2.2.2.1
    · cases h

end Go.Proofs.Us

/- Texts: walks, written by the tool. -/
set_option maxRecDepth 100000
namespace Go.Proofs.Us
open Go Go.Ev

theorem lawRepeats_ev (s : ByteArray) (n m : Int) (h : AllP [(!decide (m > (1048576 : Int))) = true → AllP [SZ s, m ≤ (1048576 : Int), inR IntKind.i64 n, inR IntKind.i64 m, SZ s, m ≤ (1048576 : Int), inR IntKind.i64 n, inR IntKind.i64 m]]) : PureTo Tryd.prog 11 [.v (.string s), .v (.int .i64 n), .v (.int .i64 m)] (AV.v (.bool (bif !decide (m > (1048576 : Int)) then bif bif (rep_1 s n m).toList == (rep_1 s n m).toList then rep_2 s n m == rep_2 s n m else false then true else false else true))) :=
  evFnM_pure hm soR1 (fn := Tryd.f11) rfl rfl (ti := false) (m := Mode.mix) (hs := [MHint.br, MHint.ops 5 [] [(3, 4), (8, 2)]]) (c := _) (by kernel_rfl) (by kernel_rfl) h
def lawRepeats (s : ByteArray) (n m : Int) : Bool := bif !decide (m > (1048576 : Int)) then bif bif (rep_1 s n m).toList == (rep_1 s n m).toList then rep_2 s n m == rep_2 s n m else false then true else false else true
theorem lawRepeats_pure (s : ByteArray) (n m : Int) (h : AllP [(!decide (m > (1048576 : Int))) = true → AllP [SZ s, m ≤ (1048576 : Int), inR IntKind.i64 n, inR IntKind.i64 m, SZ s, m ≤ (1048576 : Int), inR IntKind.i64 n, inR IntKind.i64 m]]) : PureTo Tryd.prog 11 [.v (.string s), .v (.int .i64 n), .v (.int .i64 m)] (AV.v (.bool (lawRepeats s n m))) := lawRepeats_ev s n m h
end Go.Proofs.Us
