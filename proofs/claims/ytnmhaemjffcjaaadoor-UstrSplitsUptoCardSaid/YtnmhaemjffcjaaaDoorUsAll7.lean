/- Contracts of the program's functions, and the plain law behind them. No condition beyond those in each statement. -/
import Derived.Test.YtnmhaemjffcjaaaDoorUsAll6
import Derived.Test.YtnmhaemjffcjaaaDoorEvAll4
import Derived.Test.YtnmhaemjffcjaaaDoorUsAll5
set_option linter.unusedSimpArgs false
set_option linter.unusedVariables false
set_option linter.unusedSectionVars false
/- Texts: walks, written by the tool. -/
set_option maxRecDepth 100000
namespace Go.Proofs.Us
open Go Go.Ev

-- 1 paths
theorem wsA1 [mxi : MX] (s : ByteArray) (h : AllP [4294967296 = rsv, (intsOfStr s).length * 1 ≤ 140737488355328]) : SharedTo Tryd.prog 77 [.cells 65 [.v (.pointer none), .v (.slice none 0 0)]] [.ptr rsv 0, .v (.string s)] (AV.tup [AV.v (.int .i64 (↑s.size : Int)), AV.v Value.nilIface]) [AObj.cells 65 [AV.ptr 4294967296 0, AV.row 4294967297 0 (intsOfStr s).length (intsOfStr s).length false], AObj.row 5 1 (.ints .u8 (intsOfStr s)) 0] :=
  evFn_shared hm soB1 (fn := Tryd.f77) rfl rfl (ti := false) (ex := [10]) (hs := []) (c := _) (by kernel_rfl) h
-- 1 paths
theorem wsB1 [mxi : MX] (s : ByteArray) (h : AllP [4294967296 = rsv, 4294967296 = rsv, (intsOfStr s).length * 1 ≤ 140737488355328]) : SharedTo Tryd.prog 77 [.cells 65 [.ptr rsv 0, .v (.slice none 0 0)]] [.ptr rsv 0, .v (.string s)] (AV.tup [AV.v (.int .i64 (↑s.size : Int)), AV.v Value.nilIface]) [AObj.cells 65 [AV.ptr 4294967296 0, AV.row 4294967297 0 (intsOfStr s).length (intsOfStr s).length false], AObj.row 5 1 (.ints .u8 (intsOfStr s)) 0] :=
  evFn_shared hm soB1 (fn := Tryd.f77) rfl rfl (ti := false) (ex := [10]) (hs := []) (c := _) (by kernel_rfl) h
-- 1 paths
theorem wsC1 [mxi : MX] (s : ByteArray) (q : List Int) (n fl : Nat) (h : AllP [4294967296 = rsv, 4294967296 = rsv, 4294967297 = 4294967297, n = n, n = q.length, n = q.length, (q ++ intsOfStr s).length * 1 ≤ 140737488355328]) : SharedTo Tryd.prog 77 [.cells 65 [.ptr rsv 0, .row (rsv + 1) 0 n n false], .row 5 1 (.ints .u8 q) fl] [.ptr rsv 0, .v (.string s)] (AV.tup [AV.v (.int .i64 (↑s.size : Int)), AV.v Value.nilIface]) [AObj.cells 65 [AV.ptr 4294967296 0, AV.row 4294967297 0 (q ++ intsOfStr s).length (q ++ intsOfStr s).length false], AObj.row 5 1 (.ints .u8 (q ++ intsOfStr s)) q.length] :=
  evFn_shared hm soB1 (fn := Tryd.f77) rfl rfl (ti := false) (ex := []) (hs := []) (c := _) (by kernel_rfl) h
-- 1 paths
theorem weA1 [mxi : MX] (s : ByteArray) (h : AllP [4294967296 = rsv, s.size = 0]) : SharedTo Tryd.prog 77 [.cells 65 [.v (.pointer none), .v (.slice none 0 0)]] [.ptr rsv 0, .v (.string s)] (AV.tup [AV.v (.int .i64 (↑s.size : Int)), AV.v Value.nilIface]) [AObj.cells 65 [AV.ptr 4294967296 0, AV.v (.slice none 0 0)]] :=
  evFn_shared hm soB1 (fn := Tryd.f77) rfl rfl (ti := false) (ex := []) (hs := [CHint.ops 2 [(6, Hint.part)]]) (c := _) (by kernel_rfl) h
-- 1 paths
theorem weB1 [mxi : MX] (s : ByteArray) (h : AllP [4294967296 = rsv, 4294967296 = rsv, s.size = 0]) : SharedTo Tryd.prog 77 [.cells 65 [.ptr rsv 0, .v (.slice none 0 0)]] [.ptr rsv 0, .v (.string s)] (AV.tup [AV.v (.int .i64 (↑s.size : Int)), AV.v Value.nilIface]) [AObj.cells 65 [AV.ptr 4294967296 0, AV.v (.slice none 0 0)]] :=
  evFn_shared hm soB1 (fn := Tryd.f77) rfl rfl (ti := false) (ex := []) (hs := [CHint.ops 2 [(6, Hint.part)]]) (c := _) (by kernel_rfl) h
-- 1 paths
theorem stA1 [mxi : MX] (h : AllP [(0 : Int) = (0 : Int)]) : SharedTo Tryd.prog 78 [.cells 65 [.v (.pointer none), .v (.slice none 0 0)]] [.ptr rsv 0] (AV.v (.string ByteArray.empty)) [AObj.cells 65 [AV.v (.pointer none), AV.v (.slice none 0 0)]] :=
  evFn_shared hm soB1 (fn := Tryd.f78) rfl rfl (ti := false) (ex := []) (hs := []) (c := _) (by kernel_rfl) h
-- 1 paths
theorem stB1 [mxi : MX] (h : AllP [(0 : Int) = (0 : Int)]) : SharedTo Tryd.prog 78 [.cells 65 [.ptr rsv 0, .v (.slice none 0 0)]] [.ptr rsv 0] (AV.v (.string ByteArray.empty)) [AObj.cells 65 [AV.ptr 4294967296 0, AV.v (.slice none 0 0)]] :=
  evFn_shared hm soB1 (fn := Tryd.f78) rfl rfl (ti := false) (ex := []) (hs := []) (c := _) (by kernel_rfl) h
-- 1 paths
theorem stC1 [mxi : MX] (q : List Int) (n fl : Nat) (h : AllP [0 < n, n = q.length, 0 < q.length, (↑n : Int) = (↑q.length : Int), q.length ≤ 9223372036854775807, ∀ (x : Int), x ∈ q → (0 : Int) ≤ x ∧ x ≤ (255 : Int)]) : SharedTo Tryd.prog 78 [.cells 65 [.ptr rsv 0, .row (rsv + 1) 0 n n false], .row 5 1 (.ints .u8 q) fl] [.ptr rsv 0] (AV.v (.string (strOfInts q))) [AObj.cells 65 [AV.ptr 4294967296 0, AV.row 4294967297 0 n n false], AObj.row 5 1 (Seq.frz q) fl] :=
  evFn_shared hm soB1 (fn := Tryd.f78) rfl rfl (ti := false) (ex := []) (hs := []) (c := _) (by kernel_rfl) h
end Go.Proofs.Us

/- Texts: the tables for Builder: what is written, what it comes to. -/
set_option maxRecDepth 100000
namespace Go.Proofs.Us
open Go Go.Ev
variable [mxi : MX]

def wrote (s : ByteArray) : AV := .tup [.v (.int .i64 s.size), .v .nilIface]

def sigWS : List AObj → List AV → Option (AV × List AObj × List Prop)
  | [.cells 65 [.v (.pointer none), .v (.slice none 0 0)]], [.ptr k 0, .v (.string s)] =>
    some (wrote s, [.cells 65 [.ptr rsv 0, .row (rsv + 1) 0 (intsOfStr s).length (intsOfStr s).length false], .row 5 1 (.ints .u8 (intsOfStr s)) 0], [k = rsv, (intsOfStr s).length ≤ 140737488355328])
  | [.cells 65 [.ptr j 0, .v (.slice none 0 0)]], [.ptr k 0, .v (.string s)] =>
    some (wrote s, [.cells 65 [.ptr rsv 0, .row (rsv + 1) 0 (intsOfStr s).length (intsOfStr s).length false], .row 5 1 (.ints .u8 (intsOfStr s)) 0], [k = rsv, j = rsv, (intsOfStr s).length ≤ 140737488355328])
  | [.cells 65 [.ptr j 0, .row i 0 n m false], .row 5 1 (.ints .u8 q) _], [.ptr k 0, .v (.string s)] =>
    some (wrote s, [.cells 65 [.ptr rsv 0, .row (rsv + 1) 0 (q ++ intsOfStr s).length (q ++ intsOfStr s).length false], .row 5 1 (.ints .u8 (q ++ intsOfStr s)) q.length], [k = rsv, j = rsv, i = rsv + 1, m = n, n = q.length, (q ++ intsOfStr s).length ≤ 140737488355328])
  | _, _ => none

/-- nothing written into what holds nothing -/
def sigWE : List AObj → List AV → Option (AV × List AObj × List Prop)
  | [.cells 65 [.v (.pointer none), .v (.slice none 0 0)]], [.ptr k 0, .v (.string s)] => some (wrote s, [.cells 65 [.ptr rsv 0, .v (.slice none 0 0)]], [k = rsv, s.size = 0])
  | [.cells 65 [.ptr j 0, .v (.slice none 0 0)]], [.ptr k 0, .v (.string s)] => some (wrote s, [.cells 65 [.ptr rsv 0, .v (.slice none 0 0)]], [k = rsv, j = rsv, s.size = 0])
  | _, _ => none

def sigST : List AObj → List AV → Option (AV × List AObj × List Prop)
  | [.cells 65 [.v (.pointer none), .v (.slice none 0 0)]], [.ptr k 0] => some (.v (.string ByteArray.empty), [.cells 65 [.v (.pointer none), .v (.slice none 0 0)]], [k = rsv])
  | [.cells 65 [.ptr j 0, .v (.slice none 0 0)]], [.ptr k 0] => some (.v (.string ByteArray.empty), [.cells 65 [.ptr rsv 0, .v (.slice none 0 0)]], [k = rsv, j = rsv])
  | [.cells 65 [.ptr j 0, .row i 0 n m false], .row 5 1 (.ints .u8 q) fl], [.ptr k 0] =>
    some (.v (.string (strOfInts q)), [.cells 65 [.ptr rsv 0, .row (rsv + 1) 0 n m false], .row 5 1 (.frz q) fl], [k = rsv, j = rsv, i = rsv + 1, m = n, n = q.length, 0 < q.length, q.length ≤ 9223372036854775807, ∀ x ∈ q, 0 ≤ x ∧ x ≤ 255])
  | _, _ => none

theorem sigWS_ok : ∀ os ys r os' c, sigWS os ys = some (r, os', c) → AllP c → SharedTo Tryd.prog 77 os ys r os' := by
  intro os ys r os' c h hc
  unfold sigWS at h
  split at h
  · cases h
    obtain ⟨rfl, h1, _⟩ := hc
    exact wsA1 _ ⟨rfl, by omega, trivial⟩
  · cases h
    obtain ⟨rfl, rfl, h1, _⟩ := hc
    exact wsB1 _ ⟨rfl, rfl, by omega, trivial⟩
  · cases h
    obtain ⟨rfl, rfl, rfl, rfl, h1, h2, _⟩ := hc
    exact wsC1 _ _ _ _ ⟨rfl, rfl, rfl, rfl, h1, h1, by omega, trivial⟩
  · cases h

theorem sigWE_ok : ∀ os ys r os' c, sigWE os ys = some (r, os', c) → AllP c → SharedTo Tryd.prog 77 os ys r os' := by
  intro os ys r os' c h hc
  unfold sigWE at h
  split at h
  · cases h
    obtain ⟨rfl, h1, _⟩ := hc
    exact weA1 _ ⟨rfl, h1, trivial⟩
  · cases h
    obtain ⟨rfl, rfl, h1, _⟩ := hc
    exact weB1 _ ⟨rfl, rfl, h1, trivial⟩
  · cases h

theorem sigST_ok : ∀ os ys r os' c, sigST os ys = some (r, os', c) → AllP c → SharedTo Tryd.prog 78 os ys r os' := by
  intro os ys r os' c h hc
  unfold sigST at h
  split at h
  · cases h
    obtain ⟨rfl, _⟩ := hc
    exact stA1 ⟨rfl, trivial⟩
  · cases h
    obtain ⟨rfl, rfl, _⟩ := hc
    exact stB1 ⟨rfl, trivial⟩
  · cases h
    obtain ⟨rfl, rfl, rfl, rfl, h1, h2, h3, h4, _⟩ := hc
    exact stC1 _ _ _ ⟨by omega, h1, h2, by omega, h3, h4, trivial⟩
  · cases h

def SB2 : SGT := (77, .s [true, false] sigWS) :: (78, .s [true] sigST) :: SB1
def SB3 : SGT := (77, .s [true, false] sigWE) :: (78, .s [true] sigST) :: SB1
theorem soB2 : SigsOK Tryd.prog SB2 := sigs_s (sigs_s soB1 sigST_ok) sigWS_ok
theorem soB3 : SigsOK Tryd.prog SB3 := sigs_s (sigs_s soB1 sigST_ok) sigWE_ok

end Go.Proofs.Us

/- Texts: walks, written by the tool. -/
set_option maxRecDepth 100000
namespace Go.Proofs.Us
open Go Go.Ev
def jA0 [mxi : MX] (l : List ByteArray) (t : ByteArray) (tl : Bool) (i : Int) : AS := { n := 25, fr := [(1, AV.v (.string t)), (5, AV.ptr 1 0), (8, AV.sl 1 (.strs l) tl), (9, AV.v (.int .i64 (↑l.length : Int))), (10, AV.v (.int .i64 i))], hp := [(1, AObj.cells 65 [AV.v (.pointer none), AV.v (.slice none 0 0)])], nx := 5 }
def jA1 [mxi : MX] (l : List ByteArray) (t : ByteArray) (tl : Bool) (i : Int) : AS := { n := 25, fr := [(1, AV.v (.string t)), (5, AV.ptr 1 0), (8, AV.sl 1 (.strs l) tl), (9, AV.v (.int .i64 (↑l.length : Int))), (10, AV.v (.int .i64 i))], hp := [(1, AObj.cells 65 [AV.ptr 1 0, AV.v (.slice none 0 0)])], nx := 5 }
def jA1b [mxi : MX] (l : List ByteArray) (t : ByteArray) (tl : Bool) (i : Int) : AS := { n := 25, fr := [(1, AV.v (.string t)), (5, AV.ptr 1 0), (8, AV.sl 1 (.strs l) tl), (9, AV.v (.int .i64 (↑l.length : Int))), (10, AV.v (.int .i64 i))], hp := [(1, AObj.cells 65 [AV.ptr 1 0, AV.v (.slice none 0 0)])], nx := 2 }
def jA2 [mxi : MX] (l : List ByteArray) (t : ByteArray) (tl : Bool) (i : Int) (q : List Int) (fl : Nat) : AS := { n := 25, fr := [(1, AV.v (.string t)), (5, AV.ptr 1 0), (8, AV.sl 1 (.strs l) tl), (9, AV.v (.int .i64 (↑l.length : Int))), (10, AV.v (.int .i64 i))], hp := [(1, AObj.cells 65 [AV.ptr 1 0, AV.row 15 0 q.length q.length false]), (15, AObj.row 5 1 (.ints .u8 q) fl)], nx := 16 }
def jX0 [mxi : MX] (l : List ByteArray) (t : ByteArray) (tl : Bool) : AS := { n := 25, fr := [(5, AV.ptr 1 0)], hp := [(1, AObj.cells 65 [AV.v (.pointer none), AV.v (.slice none 0 0)])], nx := 5 }
def jX1 [mxi : MX] (l : List ByteArray) (t : ByteArray) (tl : Bool) : AS := { n := 25, fr := [(5, AV.ptr 1 0)], hp := [(1, AObj.cells 65 [AV.ptr 1 0, AV.v (.slice none 0 0)])], nx := 5 }
def jX2 [mxi : MX] (l : List ByteArray) (t : ByteArray) (tl : Bool) (q : List Int) (fl : Nat) : AS := { n := 25, fr := [(5, AV.ptr 1 0)], hp := [(1, AObj.cells 65 [AV.ptr 1 0, AV.row 15 0 q.length q.length false]), (15, AObj.row 5 1 (.ints .u8 q) fl)], nx := 16 }
-- 3 paths
theorem joA0_1 [mxi : MX] (l : List ByteArray) (t : ByteArray) (tl : Bool) (i : Int) (h : AllP [decide (i < (↑l.length : Int)) = true, (0 : Int) ≤ i ∧ i < (↑l.length : Int), decide (i > (0 : Int)) = true, SZ t, 4294967296 = rsv, (intsOfStr (evn t)).length ≤ 140737488355328, SZ (l.getD i.toNat ByteArray.empty), 4294967296 = rsv, 4294967296 = rsv, 4294967297 = 4294967297, (intsOfStr (evn t)).length = (intsOfStr (evn t)).length, (intsOfStr (evn t)).length = (intsOfStr (evn t)).length, (intsOfStr (evn t) ++ intsOfStr (evn (l.getD i.toNat ByteArray.empty))).length ≤ 140737488355328, inR IntKind.i64 (i + (1 : Int))]) : To Tryd.prog (loopAt Tryd.f57 0) ({ n := 25, fr := [(1, AV.v (.string t)), (5, AV.ptr 1 0), (8, AV.sl 1 (.strs l) tl), (9, AV.v (.int .i64 (↑l.length : Int))), (10, AV.v (.int .i64 i))], hp := [(1, AObj.cells 65 [AV.v (.pointer none), AV.v (.slice none 0 0)])], nx := 5 }) (.normal) { n := 25, fr := [(1, AV.v (.string t)), (5, AV.ptr 1 0), (8, AV.sl 1 (Seq.strs l) tl), (9, AV.v (.int .i64 (↑l.length : Int))), (10, AV.v (.int .i64 (i + (1 : Int))))], hp := [(1, AObj.cells 65 [AV.ptr 1 0, AV.row 15 0 (intsOfStr (evn t) ++ intsOfStr (evn (l.getD i.toNat ByteArray.empty))).length (intsOfStr (evn t) ++ intsOfStr (evn (l.getD i.toNat ByteArray.empty))).length false]), (15, AObj.row 5 1 (.ints .u8 (intsOfStr (evn t) ++ intsOfStr (evn (l.getD i.toNat ByteArray.empty)))) (intsOfStr (evn t) ++ intsOfStr (evn (l.getD i.toNat ByteArray.empty))).length)], nx := 16 } :=
  evW_to hm soB2 (hs := [CHint.ops 3 [(0, Hint.b true)], CHint.ops 5 [(1, Hint.b true)]]) (slots := [1, 5, 8, 9, 10]) (keys := [1, 15]) (nx := 16) (c := _) (by kernel_rfl) h
theorem joA0_2 [mxi : MX] (l : List ByteArray) (t : ByteArray) (tl : Bool) (i : Int) (h : AllP [decide (i < (↑l.length : Int)) = true, (0 : Int) ≤ i ∧ i < (↑l.length : Int), decide (i > (0 : Int)) = false, SZ (l.getD i.toNat ByteArray.empty), 4294967296 = rsv, (intsOfStr (evn (l.getD i.toNat ByteArray.empty))).length ≤ 140737488355328, inR IntKind.i64 (i + (1 : Int))]) : To Tryd.prog (loopAt Tryd.f57 0) ({ n := 25, fr := [(1, AV.v (.string t)), (5, AV.ptr 1 0), (8, AV.sl 1 (.strs l) tl), (9, AV.v (.int .i64 (↑l.length : Int))), (10, AV.v (.int .i64 i))], hp := [(1, AObj.cells 65 [AV.v (.pointer none), AV.v (.slice none 0 0)])], nx := 5 }) (.normal) { n := 25, fr := [(1, AV.v (.string t)), (5, AV.ptr 1 0), (8, AV.sl 1 (Seq.strs l) tl), (9, AV.v (.int .i64 (↑l.length : Int))), (10, AV.v (.int .i64 (i + (1 : Int))))], hp := [(1, AObj.cells 65 [AV.ptr 1 0, AV.row 15 0 (intsOfStr (evn (l.getD i.toNat ByteArray.empty))).length (intsOfStr (evn (l.getD i.toNat ByteArray.empty))).length false]), (15, AObj.row 5 1 (.ints .u8 (intsOfStr (evn (l.getD i.toNat ByteArray.empty)))) (intsOfStr (evn (l.getD i.toNat ByteArray.empty))).length)], nx := 16 } :=
  evW_to hm soB2 (hs := [CHint.ops 3 [(0, Hint.b true)], CHint.ops 5 [(1, Hint.b false)]]) (slots := [1, 5, 8, 9, 10]) (keys := [1, 15]) (nx := 16) (c := _) (by kernel_rfl) h
theorem joA0_3 [mxi : MX] (l : List ByteArray) (t : ByteArray) (tl : Bool) (i : Int) (h : AllP [decide (i < (↑l.length : Int)) = false]) : To Tryd.prog (loopAt Tryd.f57 0) ({ n := 25, fr := [(1, AV.v (.string t)), (5, AV.ptr 1 0), (8, AV.sl 1 (.strs l) tl), (9, AV.v (.int .i64 (↑l.length : Int))), (10, AV.v (.int .i64 i))], hp := [(1, AObj.cells 65 [AV.v (.pointer none), AV.v (.slice none 0 0)])], nx := 5 }) (Exit.exit 0) { n := 25, fr := [(5, AV.ptr 1 0)], hp := [(1, AObj.cells 65 [AV.v (.pointer none), AV.v (.slice none 0 0)])], nx := 5 } :=
  evW_to hm soB2 (hs := [CHint.ops 3 [(0, Hint.b false)]]) (slots := [5]) (keys := [1]) (nx := 5) (c := _) (by kernel_rfl) h
-- 3 paths
theorem joA0e_1 [mxi : MX] (l : List ByteArray) (t : ByteArray) (tl : Bool) (i : Int) (h : AllP [decide (i < (↑l.length : Int)) = true, (0 : Int) ≤ i ∧ i < (↑l.length : Int), decide (i > (0 : Int)) = true, SZ t, 4294967296 = rsv, (evn t).size = 0, SZ (l.getD i.toNat ByteArray.empty), 4294967296 = rsv, 4294967296 = rsv, (evn (l.getD i.toNat ByteArray.empty)).size = 0, inR IntKind.i64 (i + (1 : Int))]) : To Tryd.prog (loopAt Tryd.f57 0) ({ n := 25, fr := [(1, AV.v (.string t)), (5, AV.ptr 1 0), (8, AV.sl 1 (.strs l) tl), (9, AV.v (.int .i64 (↑l.length : Int))), (10, AV.v (.int .i64 i))], hp := [(1, AObj.cells 65 [AV.v (.pointer none), AV.v (.slice none 0 0)])], nx := 5 }) (.normal) { n := 25, fr := [(1, AV.v (.string t)), (5, AV.ptr 1 0), (8, AV.sl 1 (Seq.strs l) tl), (9, AV.v (.int .i64 (↑l.length : Int))), (10, AV.v (.int .i64 (i + (1 : Int))))], hp := [(1, AObj.cells 65 [AV.ptr 1 0, AV.v (.slice none 0 0)])], nx := 5 } :=
  evW_to hm soB3 (hs := [CHint.ops 3 [(0, Hint.b true)], CHint.ops 5 [(1, Hint.b true)]]) (slots := [1, 5, 8, 9, 10]) (keys := [1]) (nx := 5) (c := _) (by kernel_rfl) h
theorem joA0e_2 [mxi : MX] (l : List ByteArray) (t : ByteArray) (tl : Bool) (i : Int) (h : AllP [decide (i < (↑l.length : Int)) = true, (0 : Int) ≤ i ∧ i < (↑l.length : Int), decide (i > (0 : Int)) = false, SZ (l.getD i.toNat ByteArray.empty), 4294967296 = rsv, (evn (l.getD i.toNat ByteArray.empty)).size = 0, inR IntKind.i64 (i + (1 : Int))]) : To Tryd.prog (loopAt Tryd.f57 0) ({ n := 25, fr := [(1, AV.v (.string t)), (5, AV.ptr 1 0), (8, AV.sl 1 (.strs l) tl), (9, AV.v (.int .i64 (↑l.length : Int))), (10, AV.v (.int .i64 i))], hp := [(1, AObj.cells 65 [AV.v (.pointer none), AV.v (.slice none 0 0)])], nx := 5 }) (.normal) { n := 25, fr := [(1, AV.v (.string t)), (5, AV.ptr 1 0), (8, AV.sl 1 (Seq.strs l) tl), (9, AV.v (.int .i64 (↑l.length : Int))), (10, AV.v (.int .i64 (i + (1 : Int))))], hp := [(1, AObj.cells 65 [AV.ptr 1 0, AV.v (.slice none 0 0)])], nx := 5 } :=
  evW_to hm soB3 (hs := [CHint.ops 3 [(0, Hint.b true)], CHint.ops 5 [(1, Hint.b false)]]) (slots := [1, 5, 8, 9, 10]) (keys := [1]) (nx := 5) (c := _) (by kernel_rfl) h
theorem joA0e_3 [mxi : MX] (l : List ByteArray) (t : ByteArray) (tl : Bool) (i : Int) (h : AllP [decide (i < (↑l.length : Int)) = false]) : To Tryd.prog (loopAt Tryd.f57 0) ({ n := 25, fr := [(1, AV.v (.string t)), (5, AV.ptr 1 0), (8, AV.sl 1 (.strs l) tl), (9, AV.v (.int .i64 (↑l.length : Int))), (10, AV.v (.int .i64 i))], hp := [(1, AObj.cells 65 [AV.v (.pointer none), AV.v (.slice none 0 0)])], nx := 5 }) (Exit.exit 0) { n := 25, fr := [(5, AV.ptr 1 0)], hp := [(1, AObj.cells 65 [AV.v (.pointer none), AV.v (.slice none 0 0)])], nx := 5 } :=
  evW_to hm soB3 (hs := [CHint.ops 3 [(0, Hint.b false)]]) (slots := [5]) (keys := [1]) (nx := 5) (c := _) (by kernel_rfl) h
-- 3 paths
theorem joA1e_1 [mxi : MX] (l : List ByteArray) (t : ByteArray) (tl : Bool) (i : Int) (h : AllP [decide (i < (↑l.length : Int)) = true, (0 : Int) ≤ i ∧ i < (↑l.length : Int), decide (i > (0 : Int)) = true, SZ t, 4294967296 = rsv, 4294967296 = rsv, (evn t).size = 0, SZ (l.getD i.toNat ByteArray.empty), 4294967296 = rsv, 4294967296 = rsv, (evn (l.getD i.toNat ByteArray.empty)).size = 0, inR IntKind.i64 (i + (1 : Int))]) : To Tryd.prog (loopAt Tryd.f57 0) ({ n := 25, fr := [(1, AV.v (.string t)), (5, AV.ptr 1 0), (8, AV.sl 1 (.strs l) tl), (9, AV.v (.int .i64 (↑l.length : Int))), (10, AV.v (.int .i64 i))], hp := [(1, AObj.cells 65 [AV.ptr 1 0, AV.v (.slice none 0 0)])], nx := 5 }) (.normal) { n := 25, fr := [(1, AV.v (.string t)), (5, AV.ptr 1 0), (8, AV.sl 1 (Seq.strs l) tl), (9, AV.v (.int .i64 (↑l.length : Int))), (10, AV.v (.int .i64 (i + (1 : Int))))], hp := [(1, AObj.cells 65 [AV.ptr 1 0, AV.v (.slice none 0 0)])], nx := 5 } :=
  evW_to hm soB3 (hs := [CHint.ops 3 [(0, Hint.b true)], CHint.ops 5 [(1, Hint.b true)]]) (slots := [1, 5, 8, 9, 10]) (keys := [1]) (nx := 5) (c := _) (by kernel_rfl) h
theorem joA1e_2 [mxi : MX] (l : List ByteArray) (t : ByteArray) (tl : Bool) (i : Int) (h : AllP [decide (i < (↑l.length : Int)) = true, (0 : Int) ≤ i ∧ i < (↑l.length : Int), decide (i > (0 : Int)) = false, SZ (l.getD i.toNat ByteArray.empty), 4294967296 = rsv, 4294967296 = rsv, (evn (l.getD i.toNat ByteArray.empty)).size = 0, inR IntKind.i64 (i + (1 : Int))]) : To Tryd.prog (loopAt Tryd.f57 0) ({ n := 25, fr := [(1, AV.v (.string t)), (5, AV.ptr 1 0), (8, AV.sl 1 (.strs l) tl), (9, AV.v (.int .i64 (↑l.length : Int))), (10, AV.v (.int .i64 i))], hp := [(1, AObj.cells 65 [AV.ptr 1 0, AV.v (.slice none 0 0)])], nx := 5 }) (.normal) { n := 25, fr := [(1, AV.v (.string t)), (5, AV.ptr 1 0), (8, AV.sl 1 (Seq.strs l) tl), (9, AV.v (.int .i64 (↑l.length : Int))), (10, AV.v (.int .i64 (i + (1 : Int))))], hp := [(1, AObj.cells 65 [AV.ptr 1 0, AV.v (.slice none 0 0)])], nx := 5 } :=
  evW_to hm soB3 (hs := [CHint.ops 3 [(0, Hint.b true)], CHint.ops 5 [(1, Hint.b false)]]) (slots := [1, 5, 8, 9, 10]) (keys := [1]) (nx := 5) (c := _) (by kernel_rfl) h
theorem joA1e_3 [mxi : MX] (l : List ByteArray) (t : ByteArray) (tl : Bool) (i : Int) (h : AllP [decide (i < (↑l.length : Int)) = false]) : To Tryd.prog (loopAt Tryd.f57 0) ({ n := 25, fr := [(1, AV.v (.string t)), (5, AV.ptr 1 0), (8, AV.sl 1 (.strs l) tl), (9, AV.v (.int .i64 (↑l.length : Int))), (10, AV.v (.int .i64 i))], hp := [(1, AObj.cells 65 [AV.ptr 1 0, AV.v (.slice none 0 0)])], nx := 5 }) (Exit.exit 0) { n := 25, fr := [(5, AV.ptr 1 0)], hp := [(1, AObj.cells 65 [AV.ptr 1 0, AV.v (.slice none 0 0)])], nx := 5 } :=
  evW_to hm soB3 (hs := [CHint.ops 3 [(0, Hint.b false)]]) (slots := [5]) (keys := [1]) (nx := 5) (c := _) (by kernel_rfl) h
-- 3 paths
theorem joA1_1 [mxi : MX] (l : List ByteArray) (t : ByteArray) (tl : Bool) (i : Int) (h : AllP [decide (i < (↑l.length : Int)) = true, (0 : Int) ≤ i ∧ i < (↑l.length : Int), decide (i > (0 : Int)) = true, SZ t, 4294967296 = rsv, 4294967296 = rsv, (intsOfStr (evn t)).length ≤ 140737488355328, SZ (l.getD i.toNat ByteArray.empty), 4294967296 = rsv, 4294967296 = rsv, 4294967297 = 4294967297, (intsOfStr (evn t)).length = (intsOfStr (evn t)).length, (intsOfStr (evn t)).length = (intsOfStr (evn t)).length, (intsOfStr (evn t) ++ intsOfStr (evn (l.getD i.toNat ByteArray.empty))).length ≤ 140737488355328, inR IntKind.i64 (i + (1 : Int))]) : To Tryd.prog (loopAt Tryd.f57 0) ({ n := 25, fr := [(1, AV.v (.string t)), (5, AV.ptr 1 0), (8, AV.sl 1 (.strs l) tl), (9, AV.v (.int .i64 (↑l.length : Int))), (10, AV.v (.int .i64 i))], hp := [(1, AObj.cells 65 [AV.ptr 1 0, AV.v (.slice none 0 0)])], nx := 5 }) (.normal) { n := 25, fr := [(1, AV.v (.string t)), (5, AV.ptr 1 0), (8, AV.sl 1 (Seq.strs l) tl), (9, AV.v (.int .i64 (↑l.length : Int))), (10, AV.v (.int .i64 (i + (1 : Int))))], hp := [(1, AObj.cells 65 [AV.ptr 1 0, AV.row 15 0 (intsOfStr (evn t) ++ intsOfStr (evn (l.getD i.toNat ByteArray.empty))).length (intsOfStr (evn t) ++ intsOfStr (evn (l.getD i.toNat ByteArray.empty))).length false]), (15, AObj.row 5 1 (.ints .u8 (intsOfStr (evn t) ++ intsOfStr (evn (l.getD i.toNat ByteArray.empty)))) (intsOfStr (evn t) ++ intsOfStr (evn (l.getD i.toNat ByteArray.empty))).length)], nx := 16 } :=
  evW_to hm soB2 (hs := [CHint.ops 3 [(0, Hint.b true)], CHint.ops 5 [(1, Hint.b true)]]) (slots := [1, 5, 8, 9, 10]) (keys := [1, 15]) (nx := 16) (c := _) (by kernel_rfl) h
theorem joA1_2 [mxi : MX] (l : List ByteArray) (t : ByteArray) (tl : Bool) (i : Int) (h : AllP [decide (i < (↑l.length : Int)) = true, (0 : Int) ≤ i ∧ i < (↑l.length : Int), decide (i > (0 : Int)) = false, SZ (l.getD i.toNat ByteArray.empty), 4294967296 = rsv, 4294967296 = rsv, (intsOfStr (evn (l.getD i.toNat ByteArray.empty))).length ≤ 140737488355328, inR IntKind.i64 (i + (1 : Int))]) : To Tryd.prog (loopAt Tryd.f57 0) ({ n := 25, fr := [(1, AV.v (.string t)), (5, AV.ptr 1 0), (8, AV.sl 1 (.strs l) tl), (9, AV.v (.int .i64 (↑l.length : Int))), (10, AV.v (.int .i64 i))], hp := [(1, AObj.cells 65 [AV.ptr 1 0, AV.v (.slice none 0 0)])], nx := 5 }) (.normal) { n := 25, fr := [(1, AV.v (.string t)), (5, AV.ptr 1 0), (8, AV.sl 1 (Seq.strs l) tl), (9, AV.v (.int .i64 (↑l.length : Int))), (10, AV.v (.int .i64 (i + (1 : Int))))], hp := [(1, AObj.cells 65 [AV.ptr 1 0, AV.row 15 0 (intsOfStr (evn (l.getD i.toNat ByteArray.empty))).length (intsOfStr (evn (l.getD i.toNat ByteArray.empty))).length false]), (15, AObj.row 5 1 (.ints .u8 (intsOfStr (evn (l.getD i.toNat ByteArray.empty)))) (intsOfStr (evn (l.getD i.toNat ByteArray.empty))).length)], nx := 16 } :=
  evW_to hm soB2 (hs := [CHint.ops 3 [(0, Hint.b true)], CHint.ops 5 [(1, Hint.b false)]]) (slots := [1, 5, 8, 9, 10]) (keys := [1, 15]) (nx := 16) (c := _) (by kernel_rfl) h
theorem joA1_3 [mxi : MX] (l : List ByteArray) (t : ByteArray) (tl : Bool) (i : Int) (h : AllP [decide (i < (↑l.length : Int)) = false]) : To Tryd.prog (loopAt Tryd.f57 0) ({ n := 25, fr := [(1, AV.v (.string t)), (5, AV.ptr 1 0), (8, AV.sl 1 (.strs l) tl), (9, AV.v (.int .i64 (↑l.length : Int))), (10, AV.v (.int .i64 i))], hp := [(1, AObj.cells 65 [AV.ptr 1 0, AV.v (.slice none 0 0)])], nx := 5 }) (Exit.exit 0) { n := 25, fr := [(5, AV.ptr 1 0)], hp := [(1, AObj.cells 65 [AV.ptr 1 0, AV.v (.slice none 0 0)])], nx := 5 } :=
  evW_to hm soB2 (hs := [CHint.ops 3 [(0, Hint.b false)]]) (slots := [5]) (keys := [1]) (nx := 5) (c := _) (by kernel_rfl) h
-- 3 paths
theorem joA2_1 [mxi : MX] (l : List ByteArray) (t : ByteArray) (tl : Bool) (i : Int) (q : List Int) (fl : Nat) (h : AllP [decide (i < (↑l.length : Int)) = true, (0 : Int) ≤ i ∧ i < (↑l.length : Int), decide (i > (0 : Int)) = true, SZ t, 4294967296 = rsv, 4294967296 = rsv, 4294967297 = 4294967297, q.length = q.length, q.length = q.length, (q ++ intsOfStr (evn t)).length ≤ 140737488355328, SZ (l.getD i.toNat ByteArray.empty), 4294967296 = rsv, 4294967296 = rsv, 4294967297 = 4294967297, (q ++ intsOfStr (evn t)).length = (q ++ intsOfStr (evn t)).length, (q ++ intsOfStr (evn t)).length = (q ++ intsOfStr (evn t)).length, (q ++ intsOfStr (evn t) ++ intsOfStr (evn (l.getD i.toNat ByteArray.empty))).length ≤ 140737488355328, inR IntKind.i64 (i + (1 : Int))]) : To Tryd.prog (loopAt Tryd.f57 0) ({ n := 25, fr := [(1, AV.v (.string t)), (5, AV.ptr 1 0), (8, AV.sl 1 (.strs l) tl), (9, AV.v (.int .i64 (↑l.length : Int))), (10, AV.v (.int .i64 i))], hp := [(1, AObj.cells 65 [AV.ptr 1 0, AV.row 15 0 q.length q.length false]), (15, AObj.row 5 1 (.ints .u8 q) fl)], nx := 16 }) (.normal) { n := 25, fr := [(1, AV.v (.string t)), (5, AV.ptr 1 0), (8, AV.sl 1 (Seq.strs l) tl), (9, AV.v (.int .i64 (↑l.length : Int))), (10, AV.v (.int .i64 (i + (1 : Int))))], hp := [(1, AObj.cells 65 [AV.ptr 1 0, AV.row 15 0 (q ++ intsOfStr (evn t) ++ intsOfStr (evn (l.getD i.toNat ByteArray.empty))).length (q ++ intsOfStr (evn t) ++ intsOfStr (evn (l.getD i.toNat ByteArray.empty))).length false]), (15, AObj.row 5 1 (.ints .u8 (q ++ intsOfStr (evn t) ++ intsOfStr (evn (l.getD i.toNat ByteArray.empty)))) (q ++ intsOfStr (evn t) ++ intsOfStr (evn (l.getD i.toNat ByteArray.empty))).length)], nx := 16 } :=
  evW_to hm soB2 (hs := [CHint.ops 3 [(0, Hint.b true)], CHint.ops 5 [(1, Hint.b true)]]) (slots := [1, 5, 8, 9, 10]) (keys := [1, 15]) (nx := 16) (c := _) (by kernel_rfl) h
theorem joA2_2 [mxi : MX] (l : List ByteArray) (t : ByteArray) (tl : Bool) (i : Int) (q : List Int) (fl : Nat) (h : AllP [decide (i < (↑l.length : Int)) = true, (0 : Int) ≤ i ∧ i < (↑l.length : Int), decide (i > (0 : Int)) = false, SZ (l.getD i.toNat ByteArray.empty), 4294967296 = rsv, 4294967296 = rsv, 4294967297 = 4294967297, q.length = q.length, q.length = q.length, (q ++ intsOfStr (evn (l.getD i.toNat ByteArray.empty))).length ≤ 140737488355328, inR IntKind.i64 (i + (1 : Int))]) : To Tryd.prog (loopAt Tryd.f57 0) ({ n := 25, fr := [(1, AV.v (.string t)), (5, AV.ptr 1 0), (8, AV.sl 1 (.strs l) tl), (9, AV.v (.int .i64 (↑l.length : Int))), (10, AV.v (.int .i64 i))], hp := [(1, AObj.cells 65 [AV.ptr 1 0, AV.row 15 0 q.length q.length false]), (15, AObj.row 5 1 (.ints .u8 q) fl)], nx := 16 }) (.normal) { n := 25, fr := [(1, AV.v (.string t)), (5, AV.ptr 1 0), (8, AV.sl 1 (Seq.strs l) tl), (9, AV.v (.int .i64 (↑l.length : Int))), (10, AV.v (.int .i64 (i + (1 : Int))))], hp := [(1, AObj.cells 65 [AV.ptr 1 0, AV.row 15 0 (q ++ intsOfStr (evn (l.getD i.toNat ByteArray.empty))).length (q ++ intsOfStr (evn (l.getD i.toNat ByteArray.empty))).length false]), (15, AObj.row 5 1 (.ints .u8 (q ++ intsOfStr (evn (l.getD i.toNat ByteArray.empty)))) (q ++ intsOfStr (evn (l.getD i.toNat ByteArray.empty))).length)], nx := 16 } :=
  evW_to hm soB2 (hs := [CHint.ops 3 [(0, Hint.b true)], CHint.ops 5 [(1, Hint.b false)]]) (slots := [1, 5, 8, 9, 10]) (keys := [1, 15]) (nx := 16) (c := _) (by kernel_rfl) h
theorem joA2_3 [mxi : MX] (l : List ByteArray) (t : ByteArray) (tl : Bool) (i : Int) (q : List Int) (fl : Nat) (h : AllP [decide (i < (↑l.length : Int)) = false]) : To Tryd.prog (loopAt Tryd.f57 0) ({ n := 25, fr := [(1, AV.v (.string t)), (5, AV.ptr 1 0), (8, AV.sl 1 (.strs l) tl), (9, AV.v (.int .i64 (↑l.length : Int))), (10, AV.v (.int .i64 i))], hp := [(1, AObj.cells 65 [AV.ptr 1 0, AV.row 15 0 q.length q.length false]), (15, AObj.row 5 1 (.ints .u8 q) fl)], nx := 16 }) (Exit.exit 0) { n := 25, fr := [(5, AV.ptr 1 0)], hp := [(1, AObj.cells 65 [AV.ptr 1 0, AV.row 15 0 q.length q.length false]), (15, AObj.row 5 1 (.ints .u8 q) fl)], nx := 16 } :=
  evW_to hm soB2 (hs := [CHint.ops 3 [(0, Hint.b false)]]) (slots := [5]) (keys := [1, 15]) (nx := 16) (c := _) (by kernel_rfl) h
-- 1 paths
theorem joFA1 [mxi : MX] (l : List ByteArray) (t : ByteArray) (tl : Bool) (h : AllP [LoopTo Tryd.prog (loopAt Tryd.f57 0) { n := 25, fr := [(1, AV.v (.string t)), (5, AV.ptr 1 0), (8, AV.sl 1 (Seq.strs l) tl), (9, AV.v (.int .i64 (↑l.length : Int))), (10, AV.v (.int .i64 (0 : Int)))], hp := [(1, AObj.cells 65 [AV.v (.pointer none), AV.v (.slice none 0 0)])], nx := 5 } (Exit.exit 0) { n := 25, fr := [(5, AV.ptr 1 0)], hp := [(1, AObj.cells 65 [AV.v (.pointer none), AV.v (.slice none 0 0)])], nx := 5 }, 4294967296 = rsv]) : PureTo Tryd.prog 57 [.sl 1 (.strs l) tl, .v (.string t)] (AV.v (.string ByteArray.empty)) :=
  evFn_pure hm soB2 (fn := Tryd.f57) rfl rfl (ti := false) (hs := [CHint.loop [1, 5, 8, 9, 10] [1] 5 (Exit.exit 0) { n := 25, fr := [(5, AV.ptr 1 0)], hp := [(1, AObj.cells (65 : TypeId) [AV.v (.pointer none), AV.v (.slice none 0 0)])], nx := 5 }]) (c := _) (by kernel_rfl) h
-- 1 paths
theorem joFB1 [mxi : MX] (l : List ByteArray) (t : ByteArray) (tl : Bool) (h : AllP [LoopTo Tryd.prog (loopAt Tryd.f57 0) { n := 25, fr := [(1, AV.v (.string t)), (5, AV.ptr 1 0), (8, AV.sl 1 (Seq.strs l) tl), (9, AV.v (.int .i64 (↑l.length : Int))), (10, AV.v (.int .i64 (0 : Int)))], hp := [(1, AObj.cells 65 [AV.v (.pointer none), AV.v (.slice none 0 0)])], nx := 5 } (Exit.exit 0) { n := 25, fr := [(5, AV.ptr 1 0)], hp := [(1, AObj.cells 65 [AV.ptr 1 0, AV.v (.slice none 0 0)])], nx := 5 }, 4294967296 = rsv, 4294967296 = rsv]) : PureTo Tryd.prog 57 [.sl 1 (.strs l) tl, .v (.string t)] (AV.v (.string ByteArray.empty)) :=
  evFn_pure hm soB2 (fn := Tryd.f57) rfl rfl (ti := false) (hs := [CHint.loop [1, 5, 8, 9, 10] [1] 5 (Exit.exit 0) { n := 25, fr := [(5, AV.ptr 1 0)], hp := [(1, AObj.cells (65 : TypeId) [AV.ptr 1 0, AV.v (.slice none 0 0)])], nx := 5 }]) (c := _) (by kernel_rfl) h
-- 1 paths
theorem joFC1 [mxi : MX] (l : List ByteArray) (t : ByteArray) (tl : Bool) (q : List Int) (fl : Nat) (h : AllP [LoopTo Tryd.prog (loopAt Tryd.f57 0) { n := 25, fr := [(1, AV.v (.string t)), (5, AV.ptr 1 0), (8, AV.sl 1 (Seq.strs l) tl), (9, AV.v (.int .i64 (↑l.length : Int))), (10, AV.v (.int .i64 (0 : Int)))], hp := [(1, AObj.cells 65 [AV.v (.pointer none), AV.v (.slice none 0 0)])], nx := 5 } (Exit.exit 0) { n := 25, fr := [(5, AV.ptr 1 0)], hp := [(1, AObj.cells 65 [AV.ptr 1 0, AV.row 15 0 q.length q.length false]), (15, AObj.row 5 1 (.ints .u8 q) fl)], nx := 16 }, 4294967296 = rsv, 4294967296 = rsv, 4294967297 = 4294967297, q.length = q.length, q.length = q.length, 0 < q.length, q.length ≤ 9223372036854775807, ∀ (x : Int), x ∈ q → (0 : Int) ≤ x ∧ x ≤ (255 : Int)]) : PureTo Tryd.prog 57 [.sl 1 (.strs l) tl, .v (.string t)] (AV.v (.string (strOfInts q))) :=
  evFn_pure hm soB2 (fn := Tryd.f57) rfl rfl (ti := false) (hs := [CHint.loop [1, 5, 8, 9, 10] [1] 5 (Exit.exit 0) { n := 25, fr := [(5, AV.ptr 1 0)], hp := [(1, AObj.cells (65 : TypeId) [AV.ptr 1 0, AV.row 15 0 q.length q.length false]), (15, AObj.row (5 : TypeId) 1 (.ints .u8 q) fl)], nx := 16 }]) (c := _) (by kernel_rfl) h
end Go.Proofs.Us

/- Texts: Join. -/
set_option maxRecDepth 100000
namespace Go.Proofs.Us
open Go Go.Ev
variable [mxi : MX]

/-- the first n texts joined -/
def jn (l : List ByteArray) (t : ByteArray) : Nat → List Int
  | 0 => []
  | n + 1 => (jn l t n ++ if n = 0 then [] else intsOfStr (evn t)) ++ intsOfStr (evn (l.getD n ByteArray.empty))

omit mxi in
theorem jn_step (l : List ByteArray) (t : ByteArray) (n : Nat) : (jn l t n).length ≤ (jn l t (n + 1)).length := by
  simp only [jn, List.length_append]
  omega
omit mxi in
theorem jn_mono (l : List ByteArray) (t : ByteArray) {n m : Nat} (h : n ≤ m) : (jn l t n).length ≤ (jn l t m).length := by
  induction h with
  | refl => exact Nat.le_refl _
  | step _ ih => exact Nat.le_trans ih (jn_step l t _)
omit mxi in
theorem jn_bytes (l : List ByteArray) (t : ByteArray) (n : Nat) : ∀ x ∈ jn l t n, 0 ≤ x ∧ x ≤ 255 := by
  have hb : ∀ s : ByteArray, ∀ x ∈ intsOfStr s, (0 : Int) ≤ x ∧ x ≤ 255 := by
    intro s x hx
    unfold intsOfStr at hx
    obtain ⟨b, _, rfl⟩ := List.mem_map.1 hx
    have := b.toNat_lt
    omega
  induction n with
  | zero => intro x hx; simp [jn] at hx
  | succ n ih =>
    intro x hx
    simp only [jn, List.mem_append] at hx
    rcases hx with (hx | hx) | hx
    · exact ih x hx
    · split at hx
      · cases hx
      · exact hb _ x hx
    · exact hb _ x hx
omit mxi in
theorem ints_evn_len (s : ByteArray) : (intsOfStr (evn s)).length = (evn s).size := by simp [intsOfStr]
omit mxi in
theorem ints_nil {s : ByteArray} (h : s.size = 0) : intsOfStr s = [] := List.eq_nil_of_length_eq_zero (by rw [intsOfStr_len]; exact h)

/-- what a list of texts must be, to be joined here -/
structure JOK (l : List ByteArray) (t : ByteArray) : Prop where
  hT : SZ t
  hL : ∀ x ∈ l, SZ x
  hN : l.length < 4611686018427387904
  room : (jn l t l.length).length ≤ 140737488355328

omit mxi in
theorem JOK.at {l : List ByteArray} {t : ByteArray} (h : JOK l t) {i : Nat} (hi : i < l.length) : SZ (l.getD i ByteArray.empty) := by
  rw [List.getD_eq_getElem?_getD, List.getElem?_eq_getElem hi]
  exact h.hL _ (List.getElem_mem hi)
omit mxi in
theorem JOK.len {l : List ByteArray} {t : ByteArray} (h : JOK l t) {i : Nat} (hi : i ≤ l.length) : (jn l t i).length ≤ 140737488355328 := Nat.le_trans (jn_mono l t hi) h.room

section
variable {l : List ByteArray} {t : ByteArray} (tl : Bool)

theorem join_row (h : JOK l t) : ∀ k i : Nat, i + k = l.length → 1 ≤ i → ∀ fl : Nat, ∃ fl', LoopTo Tryd.prog (loopAt Tryd.f57 0) (jA2 l t tl i (jn l t i) fl) (Exit.exit 0) (jX2 l t tl (jn l t l.length) fl') := by
  intro k
  induction k with
  | zero =>
    intro i hi h1 fl
    have hin : i = l.length := by omega
    subst hin
    exact ⟨fl, .done (by simp) (joA2_3 l t tl _ _ fl ⟨by simp, trivial⟩)⟩
  | succ k ih =>
    intro i hi h1 fl
    have hst := joA2_1 l t tl (i : Int) (jn l t i) fl
    have e : jn l t (i + 1) = jn l t i ++ intsOfStr (evn t) ++ intsOfStr (evn (l.getD i ByteArray.empty)) := by
      rw [jn, if_neg (by omega)]
    have hl := h.len (i := i + 1) (by omega)
    have hm : (jn l t i ++ intsOfStr (evn t)).length ≤ 140737488355328 := by
      rw [e, List.length_append] at hl
      omega
    have hn := h.hN
    rw [Int.toNat_natCast i] at hst
    rw [← e] at hst
    obtain ⟨fl', hl'⟩ := ih (i + 1) (by omega) (by omega) (jn l t (i + 1)).length
    exact ⟨fl', .step (hst ⟨by simp; omega, by omega, by simp; omega, h.hT, rfl, rfl, rfl, rfl, rfl, hm, h.at (by omega), rfl, rfl, rfl, rfl, rfl, hl, by simp only [inR]; omega, trivial⟩) hl'⟩

theorem join_nil (h : JOK l t) : ∀ k i : Nat, i + k = l.length → 1 ≤ i → jn l t i = [] →
    (jn l t l.length = [] ∧ LoopTo Tryd.prog (loopAt Tryd.f57 0) (jA1 l t tl i) (Exit.exit 0) (jX1 l t tl)) ∨
    (0 < (jn l t l.length).length ∧ ∃ fl', LoopTo Tryd.prog (loopAt Tryd.f57 0) (jA1 l t tl i) (Exit.exit 0) (jX2 l t tl (jn l t l.length) fl')) := by
  intro k
  induction k with
  | zero =>
    intro i hi h1 h0
    have hin : i = l.length := by omega
    subst hin
    exact .inl ⟨h0, .done (by simp) (joA1_3 l t tl _ ⟨by simp, trivial⟩)⟩
  | succ k ih =>
    intro i hi h1 h0
    have e : jn l t (i + 1) = intsOfStr (evn t) ++ intsOfStr (evn (l.getD i ByteArray.empty)) := by
      rw [jn, if_neg (by omega), h0, List.nil_append]
    have hl := h.len (i := i + 1) (by omega)
    have hn := h.hN
    by_cases hz : (evn t).size = 0 ∧ (evn (l.getD i ByteArray.empty)).size = 0
    · have h2 : jn l t (i + 1) = [] := by rw [e, ints_nil hz.1, ints_nil hz.2]; rfl
      have hst := joA1e_1 l t tl (i : Int)
      rw [Int.toNat_natCast i] at hst
      have hst := hst ⟨by simp; omega, by omega, by simp; omega, h.hT, rfl, rfl, hz.1, h.at (by omega), rfl, rfl, hz.2, by simp only [inR]; omega, trivial⟩
      rcases ih (i + 1) (by omega) (by omega) h2 with ⟨a, b⟩ | ⟨a, fl', b⟩
      · exact .inl ⟨a, .step hst b⟩
      · exact .inr ⟨a, fl', .step hst b⟩
    · have hpos : 0 < (jn l t (i + 1)).length := by
        rw [e, List.length_append, ints_evn_len, ints_evn_len]
        omega
      have hst := joA1_1 l t tl (i : Int)
      rw [Int.toNat_natCast i] at hst
      rw [← e] at hst
      have ht : (intsOfStr (evn t)).length ≤ 140737488355328 := by
        rw [e, List.length_append] at hl
        omega
      have hst := hst ⟨by simp; omega, by omega, by simp; omega, h.hT, rfl, rfl, ht, h.at (by omega), rfl, rfl, rfl, rfl, rfl, hl, by simp only [inR]; omega, trivial⟩
      obtain ⟨fl', hl'⟩ := join_row tl h k (i + 1) (by omega) (by omega) (jn l t (i + 1)).length
      exact .inr ⟨Nat.lt_of_lt_of_le hpos (jn_mono l t (by omega)), fl', .step hst hl'⟩

theorem join_c (h : JOK l t) : PureTo Tryd.prog 57 [.sl 1 (.strs l) tl, .v (.string t)] (.v (.string (strOfInts (jn l t l.length)))) := by
  have hn := h.hN
  have hempty : strOfInts [] = ByteArray.empty := rfl
  rcases Nat.eq_zero_or_pos l.length with h0 | h0
  · have hz := joFA1 l t tl ⟨.done (by simp) (joA0_3 l t tl 0 ⟨by simp [h0], trivial⟩), rfl, trivial⟩
    rw [h0]
    exact hz
  · have e : jn l t 1 = intsOfStr (evn (l.getD 0 ByteArray.empty)) := by simp [jn]
    have hl := h.len (i := 1) (by omega)
    have fin1 : ∀ fl', 0 < (jn l t l.length).length → LoopTo Tryd.prog (loopAt Tryd.f57 0) (jA0 l t tl 0) (Exit.exit 0) (jX2 l t tl (jn l t l.length) fl') →
        PureTo Tryd.prog 57 [.sl 1 (.strs l) tl, .v (.string t)] (.v (.string (strOfInts (jn l t l.length)))) := fun fl' hp hlo =>
      joFC1 l t tl (jn l t l.length) fl' ⟨hlo, rfl, rfl, rfl, rfl, rfl, hp, Nat.le_trans h.room (by decide), jn_bytes l t _, trivial⟩
    by_cases hz : (evn (l.getD 0 ByteArray.empty)).size = 0
    · have h2 : jn l t 1 = [] := by rw [e, ints_nil hz]
      have hst := joA0e_2 l t tl 0 ⟨by simp; omega, by omega, by simp, h.at (by omega), rfl, hz, by simp [inR], trivial⟩
      rcases join_nil tl h (l.length - 1) 1 (by omega) (by omega) h2 with ⟨a, b⟩ | ⟨a, fl', b⟩
      · have hz := joFB1 l t tl ⟨.step hst b, rfl, rfl, trivial⟩
        rw [a]
        exact hz
      · exact fin1 fl' a (.step hst b)
    · have hpos : 0 < (jn l t 1).length := by rw [e, ints_evn_len]; omega
      have hst := joA0_2 l t tl 0
      rw [show (0 : Int).toNat = 0 from rfl, ← e] at hst
      have hst := hst ⟨by simp; omega, by omega, by simp, h.at (by omega), rfl, hl, by simp [inR], trivial⟩
      obtain ⟨fl', hl'⟩ := join_row tl h (l.length - 1) 1 (by omega) (by omega) (jn l t 1).length
      exact fin1 fl' (Nat.lt_of_lt_of_le hpos (jn_mono l t (by omega))) (.step hst hl')

end
end Go.Proofs.Us

/- Texts: walks, written by the tool. -/
set_option maxRecDepth 100000
namespace Go.Proofs.Us
open Go Go.Ev
def rjoinS0 [mxi : MX] (l : List ByteArray) (t : ByteArray) (tl : Bool) (x0 : Int) (l0 : List Int) (n0 : Nat) : AS := { n := 37, fr := [(0, AV.sl 1 (Seq.strs l) tl), (1, AV.v (.string t)), (5, AV.row 1 0 l0.length l0.length false), (6, AV.v (.int .i64 x0))], hp := [(1, AObj.row 5 1 (.ints .u8 l0) n0)], nx := 2 }
def rjoinX0 [mxi : MX] (l : List ByteArray) (t : ByteArray) (tl : Bool) (l1 : List Int) (n1 : Nat) : AS := { n := 37, fr := [(5, AV.row 1 0 l1.length l1.length false)], hp := [(1, AObj.row 5 1 (.ints .u8 l1) n1)], nx := 2 }
-- 3 paths
theorem rjoinL0_1 [mxi : MX] (l : List ByteArray) (t : ByteArray) (tl : Bool) (x0 : Int) (l0 : List Int) (n0 : Nat) (h : AllP [decide (x0 < (↑l.length : Int)) = true, decide (x0 > (0 : Int)) = true, SZ t, inR IntKind.i64 ((2 : Int) * (↑(ul t) : Int)), (0 : Int) ≤ (2 : Int) * (↑(ul t) : Int) ∧ (2 : Int) * (↑(ul t) : Int) ≤ (↑t.size : Int), l0.length = l0.length, l0.length = l0.length, (l0 ++ intsOfStr (t.extract 0 ((2 : Int) * (↑(ul t) : Int)).toNat)).length * 1 ≤ 140737488355328, (0 : Int) ≤ x0 ∧ x0 < (↑l.length : Int), (0 : Int) ≤ x0 ∧ x0 < (↑l.length : Int), SZ (l.getD x0.toNat ByteArray.empty), inR IntKind.i64 ((2 : Int) * (↑(ul (l.getD x0.toNat ByteArray.empty)) : Int)), (0 : Int) ≤ (2 : Int) * (↑(ul (l.getD x0.toNat ByteArray.empty)) : Int) ∧ (2 : Int) * (↑(ul (l.getD x0.toNat ByteArray.empty)) : Int) ≤ (↑(l.getD x0.toNat ByteArray.empty).size : Int), (l0 ++ intsOfStr (t.extract 0 ((2 : Int) * (↑(ul t) : Int)).toNat)).length = (l0 ++ intsOfStr (t.extract 0 ((2 : Int) * (↑(ul t) : Int)).toNat)).length, (l0 ++ intsOfStr (t.extract 0 ((2 : Int) * (↑(ul t) : Int)).toNat)).length = (l0 ++ intsOfStr (t.extract 0 ((2 : Int) * (↑(ul t) : Int)).toNat)).length, (l0 ++ intsOfStr (t.extract 0 ((2 : Int) * (↑(ul t) : Int)).toNat) ++ intsOfStr ((l.getD x0.toNat ByteArray.empty).extract 0 ((2 : Int) * (↑(ul (l.getD x0.toNat ByteArray.empty)) : Int)).toNat)).length * 1 ≤ 140737488355328, inR IntKind.i64 (x0 + (1 : Int))]) : To Tryd.prog (loopAt Tryd.f58 0) ({ n := 37, fr := [(0, AV.sl 1 (Seq.strs l) tl), (1, AV.v (.string t)), (5, AV.row 1 0 l0.length l0.length false), (6, AV.v (.int .i64 x0))], hp := [(1, AObj.row 5 1 (.ints .u8 l0) n0)], nx := 2 }) (.normal) { n := 37, fr := [(0, AV.sl 1 (Seq.strs l) tl), (1, AV.v (.string t)), (5, AV.row 1 0 (l0 ++ intsOfStr (t.extract 0 ((2 : Int) * (↑(ul t) : Int)).toNat) ++ intsOfStr ((l.getD x0.toNat ByteArray.empty).extract 0 ((2 : Int) * (↑(ul (l.getD x0.toNat ByteArray.empty)) : Int)).toNat)).length (l0 ++ intsOfStr (t.extract 0 ((2 : Int) * (↑(ul t) : Int)).toNat) ++ intsOfStr ((l.getD x0.toNat ByteArray.empty).extract 0 ((2 : Int) * (↑(ul (l.getD x0.toNat ByteArray.empty)) : Int)).toNat)).length false), (6, AV.v (.int .i64 (x0 + (1 : Int))))], hp := [(1, AObj.row 5 1 (.ints .u8 (l0 ++ intsOfStr (t.extract 0 ((2 : Int) * (↑(ul t) : Int)).toNat) ++ intsOfStr ((l.getD x0.toNat ByteArray.empty).extract 0 ((2 : Int) * (↑(ul (l.getD x0.toNat ByteArray.empty)) : Int)).toNat))) n0)], nx := 2 } :=
  evW_to hm soX6 (hs := [CHint.ops 3 [(3, Hint.b true)], CHint.ops 5 [(1, Hint.b true)]]) (slots := [0, 1, 5, 6]) (keys := [1]) (nx := 2) (c := _) (by kernel_rfl) h
theorem rjoinL0_2 [mxi : MX] (l : List ByteArray) (t : ByteArray) (tl : Bool) (x0 : Int) (l0 : List Int) (n0 : Nat) (h : AllP [decide (x0 < (↑l.length : Int)) = true, decide (x0 > (0 : Int)) = false, (0 : Int) ≤ x0 ∧ x0 < (↑l.length : Int), (0 : Int) ≤ x0 ∧ x0 < (↑l.length : Int), SZ (l.getD x0.toNat ByteArray.empty), inR IntKind.i64 ((2 : Int) * (↑(ul (l.getD x0.toNat ByteArray.empty)) : Int)), (0 : Int) ≤ (2 : Int) * (↑(ul (l.getD x0.toNat ByteArray.empty)) : Int) ∧ (2 : Int) * (↑(ul (l.getD x0.toNat ByteArray.empty)) : Int) ≤ (↑(l.getD x0.toNat ByteArray.empty).size : Int), l0.length = l0.length, l0.length = l0.length, (l0 ++ intsOfStr ((l.getD x0.toNat ByteArray.empty).extract 0 ((2 : Int) * (↑(ul (l.getD x0.toNat ByteArray.empty)) : Int)).toNat)).length * 1 ≤ 140737488355328, inR IntKind.i64 (x0 + (1 : Int))]) : To Tryd.prog (loopAt Tryd.f58 0) ({ n := 37, fr := [(0, AV.sl 1 (Seq.strs l) tl), (1, AV.v (.string t)), (5, AV.row 1 0 l0.length l0.length false), (6, AV.v (.int .i64 x0))], hp := [(1, AObj.row 5 1 (.ints .u8 l0) n0)], nx := 2 }) (.normal) { n := 37, fr := [(0, AV.sl 1 (Seq.strs l) tl), (1, AV.v (.string t)), (5, AV.row 1 0 (l0 ++ intsOfStr ((l.getD x0.toNat ByteArray.empty).extract 0 ((2 : Int) * (↑(ul (l.getD x0.toNat ByteArray.empty)) : Int)).toNat)).length (l0 ++ intsOfStr ((l.getD x0.toNat ByteArray.empty).extract 0 ((2 : Int) * (↑(ul (l.getD x0.toNat ByteArray.empty)) : Int)).toNat)).length false), (6, AV.v (.int .i64 (x0 + (1 : Int))))], hp := [(1, AObj.row 5 1 (.ints .u8 (l0 ++ intsOfStr ((l.getD x0.toNat ByteArray.empty).extract 0 ((2 : Int) * (↑(ul (l.getD x0.toNat ByteArray.empty)) : Int)).toNat))) n0)], nx := 2 } :=
  evW_to hm soX6 (hs := [CHint.ops 3 [(3, Hint.b true)], CHint.ops 5 [(1, Hint.b false)]]) (slots := [0, 1, 5, 6]) (keys := [1]) (nx := 2) (c := _) (by kernel_rfl) h
theorem rjoinL0_3 [mxi : MX] (l : List ByteArray) (t : ByteArray) (tl : Bool) (x0 : Int) (l0 : List Int) (n0 : Nat) (h : AllP [decide (x0 < (↑l.length : Int)) = false]) : To Tryd.prog (loopAt Tryd.f58 0) ({ n := 37, fr := [(0, AV.sl 1 (Seq.strs l) tl), (1, AV.v (.string t)), (5, AV.row 1 0 l0.length l0.length false), (6, AV.v (.int .i64 x0))], hp := [(1, AObj.row 5 1 (.ints .u8 l0) n0)], nx := 2 }) (Exit.exit 0) { n := 37, fr := [(5, AV.row 1 0 l0.length l0.length false)], hp := [(1, AObj.row 5 1 (.ints .u8 l0) n0)], nx := 2 } :=
  evW_to hm soX6 (hs := [CHint.ops 3 [(3, Hint.b false)]]) (slots := [5]) (keys := [1]) (nx := 2) (c := _) (by kernel_rfl) h
-- 1 paths
theorem rjoinF1 [mxi : MX] (l : List ByteArray) (t : ByteArray) (tl : Bool) (l1 : List Int) (n1 : Nat) (h : AllP [LoopTo Tryd.prog (loopAt Tryd.f58 0) { n := 37, fr := [(0, AV.sl 1 (Seq.strs l) tl), (1, AV.v (.string t)), (5, AV.row 1 0 0 0 false), (6, AV.v (.int .i64 (0 : Int)))], hp := [(1, AObj.row 5 1 (.ints .u8 []) 0)], nx := 2 } (Exit.exit 0) { n := 37, fr := [(5, AV.row 1 0 l1.length l1.length false)], hp := [(1, AObj.row 5 1 (.ints .u8 l1) n1)], nx := 2 }, l1.length = l1.length, n1 ≤ l1.length]) : PureTo Tryd.prog 58 [.sl 1 (.strs l) tl, .v (.string t)] (AV.v (.string (strOfInts l1))) :=
  evFn_pure hm soX6 (fn := Tryd.f58) rfl rfl (ti := false) (hs := [CHint.ops 1 [(0, Hint.nil 5)], CHint.loop [0, 1, 5, 6] [1] 2 (Exit.exit 0) { n := 37, fr := [(5, AV.row 1 0 l1.length l1.length false)], hp := [(1, AObj.row (5 : TypeId) 1 (.ints .u8 l1) n1)], nx := 2 }]) (c := _) (by kernel_rfl) h
end Go.Proofs.Us

/- Texts: walks, written by the tool. -/
set_option maxRecDepth 100000
namespace Go.Proofs.Us
open Go Go.Ev
def splitS0 [mxi : MX] (s t : ByteArray) (x0 : Int) (n0 : Nat) (q0 : List ByteArray) : AS := { n := 58, fr := [(0, AV.v (.string (evn s))), (5, AV.row 7 0 q0.length q0.length false), (16, AV.v (.int .i64 (↑(ul (evn s)) : Int))), (17, AV.v (.int .i64 x0))], hp := [(7, AObj.row 9 1 (Seq.strs q0) n0)], nx := 8 }
def splitX0 [mxi : MX] (s t : ByteArray) (n1 : Nat) (q1 : List ByteArray) : AS := { n := 58, fr := [(5, AV.row 7 0 q1.length q1.length false)], hp := [(7, AObj.row 9 1 (Seq.strs q1) n1)], nx := 8 }
def splitS1 [mxi : MX] (s t : ByteArray) (x1 : Int) (n2 : Nat) (q2 : List ByteArray) : AS := { n := 58, fr := [(0, AV.v (.string (evn s))), (1, AV.v (.string (evn t))), (5, AV.row 7 0 q2.length q2.length false), (7, AV.v (.int .i64 x1))], hp := [(7, AObj.row 9 1 (Seq.strs q2) n2)], nx := 8 }
def splitX1 [mxi : MX] (s t : ByteArray)  : AS := { n := 58, fr := [(4, AV.v (.slice none 0 0))], hp := [], nx := 8 }
def rsplitS0 [mxi : MX] (s t : ByteArray) (x0 : Int) (n0 : Nat) (q0 : List ByteArray) : AS := { n := 55, fr := [(0, AV.v (.string s)), (5, AV.row 1 0 q0.length q0.length false), (6, AV.v (.int .i64 x0))], hp := [(1, AObj.row 9 1 (Seq.strs q0) n0)], nx := 2 }
def rsplitX0 [mxi : MX] (s t : ByteArray) (n1 : Nat) (q1 : List ByteArray) : AS := { n := 55, fr := [(5, AV.row 1 0 q1.length q1.length false)], hp := [(1, AObj.row 9 1 (Seq.strs q1) n1)], nx := 2 }
def rsplitS1 [mxi : MX] (s t : ByteArray) (x1 : Int) (x2 : Int) (n2 : Nat) (q2 : List ByteArray) : AS := { n := 55, fr := [(0, AV.v (.string s)), (1, AV.v (.string t)), (5, AV.row 1 0 q2.length q2.length false), (7, AV.v (.int .i64 x1)), (8, AV.v (.int .i64 x2))], hp := [(1, AObj.row 9 1 (Seq.strs q2) n2)], nx := 2 }
def rsplitX1 [mxi : MX] (s t : ByteArray) (x3 : Int) (n3 : Nat) (q3 : List ByteArray) : AS := { n := 55, fr := [(0, AV.v (.string s)), (5, AV.row 1 0 q3.length q3.length false), (7, AV.v (.int .i64 x3))], hp := [(1, AObj.row 9 1 (Seq.strs q3) n3)], nx := 2 }
-- 2 paths
theorem splitL0_1 [mxi : MX] (s t : ByteArray) (x0 : Int) (n0 : Nat) (q0 : List ByteArray) (h : AllP [decide (x0 < (↑(ul (evn s)) : Int)) = true, inR IntKind.i64 ((2 : Int) * x0), inR IntKind.i64 ((2 : Int) * x0), inR IntKind.i64 ((2 : Int) * x0 + (2 : Int)), (0 : Int) ≤ (2 : Int) * x0 + (2 : Int) ∧ (2 : Int) * x0 + (2 : Int) ≤ (↑(evn s).size : Int), (0 : Int) ≤ (2 : Int) * x0 ∧ (2 : Int) * x0 ≤ (↑((2 : Int) * x0 + (2 : Int)).toNat : Int), q0.length = q0.length, q0.length = q0.length, (q0 ++ [(evn s).extract ((2 : Int) * x0).toNat ((2 : Int) * x0 + (2 : Int)).toNat]).length * 16 ≤ 140737488355328, inR IntKind.i64 (x0 + (1 : Int))]) : To Tryd.prog (loopAt Tryd.f55 0) ({ n := 58, fr := [(0, AV.v (.string (evn s))), (5, AV.row 7 0 q0.length q0.length false), (16, AV.v (.int .i64 (↑(ul (evn s)) : Int))), (17, AV.v (.int .i64 x0))], hp := [(7, AObj.row 9 1 (Seq.strs q0) n0)], nx := 8 }) (.normal) { n := 58, fr := [(0, AV.v (.string (evn s))), (5, AV.row 7 0 (q0 ++ [(evn s).extract ((2 : Int) * x0).toNat ((2 : Int) * x0 + (2 : Int)).toNat]).length (q0 ++ [(evn s).extract ((2 : Int) * x0).toNat ((2 : Int) * x0 + (2 : Int)).toNat]).length false), (16, AV.v (.int .i64 (↑(ul (evn s)) : Int))), (17, AV.v (.int .i64 (x0 + (1 : Int))))], hp := [(7, AObj.row 9 1 (Seq.strs (q0 ++ [(evn s).extract ((2 : Int) * x0).toNat ((2 : Int) * x0 + (2 : Int)).toNat])) n0)], nx := 8 } :=
  evW_to hm soX6 (hs := [CHint.ops 5 [(0, Hint.b true)]]) (slots := [0, 5, 16, 17]) (keys := [7]) (nx := 8) (c := _) (by kernel_rfl) h
theorem splitL0_2 [mxi : MX] (s t : ByteArray) (x0 : Int) (n0 : Nat) (q0 : List ByteArray) (h : AllP [decide (x0 < (↑(ul (evn s)) : Int)) = false]) : To Tryd.prog (loopAt Tryd.f55 0) ({ n := 58, fr := [(0, AV.v (.string (evn s))), (5, AV.row 7 0 q0.length q0.length false), (16, AV.v (.int .i64 (↑(ul (evn s)) : Int))), (17, AV.v (.int .i64 x0))], hp := [(7, AObj.row 9 1 (Seq.strs q0) n0)], nx := 8 }) (Exit.exit 0) { n := 58, fr := [(5, AV.row 7 0 q0.length q0.length false)], hp := [(7, AObj.row 9 1 (Seq.strs q0) n0)], nx := 8 } :=
  evW_to hm soX6 (hs := [CHint.ops 5 [(0, Hint.b false)]]) (slots := [5]) (keys := [7]) (nx := 8) (c := _) (by kernel_rfl) h
-- 2 paths
theorem splitL1_1 [mxi : MX] (s t : ByteArray) (x1 : Int) (n2 : Nat) (q2 : List ByteArray) (h : AllP [(evn s).size + 1 ≤ 1048576, SM (evn t), decide (idxS (evn s) (evn t) x1 < (0 : Int)) = true, inR IntKind.i64 ((2 : Int) * x1), (0 : Int) ≤ (2 : Int) * x1 ∧ (2 : Int) * x1 ≤ (↑(evn s).size : Int), q2.length = q2.length, q2.length = q2.length, (q2 ++ [(evn s).extract ((2 : Int) * x1).toNat (evn s).size]).length * 16 ≤ 140737488355328]) : To Tryd.prog (loopAt Tryd.f55 1) ({ n := 58, fr := [(0, AV.v (.string (evn s))), (1, AV.v (.string (evn t))), (5, AV.row 7 0 q2.length q2.length false), (7, AV.v (.int .i64 x1))], hp := [(7, AObj.row 9 1 (Seq.strs q2) n2)], nx := 8 }) (Exit.ret) { n := 58, fr := [(4, AV.row 7 0 (q2 ++ [(evn s).extract ((2 : Int) * x1).toNat (evn s).size]).length (q2 ++ [(evn s).extract ((2 : Int) * x1).toNat (evn s).size]).length false)], hp := [(7, AObj.row 9 1 (Seq.strs (q2 ++ [(evn s).extract ((2 : Int) * x1).toNat (evn s).size])) n2)], nx := 8 } :=
  evW_to hm soX6 (hs := [CHint.ops 12 [(1, Hint.b true)]]) (slots := [4]) (keys := [7]) (nx := 8) (c := _) (by kernel_rfl) h
theorem splitL1_2 [mxi : MX] (s t : ByteArray) (x1 : Int) (n2 : Nat) (q2 : List ByteArray) (h : AllP [(evn s).size + 1 ≤ 1048576, SM (evn t), decide (idxS (evn s) (evn t) x1 < (0 : Int)) = false, inR IntKind.i64 ((2 : Int) * x1), inR IntKind.i64 ((2 : Int) * idxS (evn s) (evn t) x1), (0 : Int) ≤ (2 : Int) * idxS (evn s) (evn t) x1 ∧ (2 : Int) * idxS (evn s) (evn t) x1 ≤ (↑(evn s).size : Int), (0 : Int) ≤ (2 : Int) * x1 ∧ (2 : Int) * x1 ≤ (↑((2 : Int) * idxS (evn s) (evn t) x1).toNat : Int), q2.length = q2.length, q2.length = q2.length, (q2 ++ [(evn s).extract ((2 : Int) * x1).toNat ((2 : Int) * idxS (evn s) (evn t) x1).toNat]).length * 16 ≤ 140737488355328, SZ (evn t), inR IntKind.i64 (idxS (evn s) (evn t) x1 + (↑(ul (evn t)) : Int))]) : To Tryd.prog (loopAt Tryd.f55 1) ({ n := 58, fr := [(0, AV.v (.string (evn s))), (1, AV.v (.string (evn t))), (5, AV.row 7 0 q2.length q2.length false), (7, AV.v (.int .i64 x1))], hp := [(7, AObj.row 9 1 (Seq.strs q2) n2)], nx := 8 }) (.normal) { n := 58, fr := [(0, AV.v (.string (evn s))), (1, AV.v (.string (evn t))), (5, AV.row 7 0 (q2 ++ [(evn s).extract ((2 : Int) * x1).toNat ((2 : Int) * idxS (evn s) (evn t) x1).toNat]).length (q2 ++ [(evn s).extract ((2 : Int) * x1).toNat ((2 : Int) * idxS (evn s) (evn t) x1).toNat]).length false), (7, AV.v (.int .i64 (idxS (evn s) (evn t) x1 + (↑(ul (evn t)) : Int))))], hp := [(7, AObj.row 9 1 (Seq.strs (q2 ++ [(evn s).extract ((2 : Int) * x1).toNat ((2 : Int) * idxS (evn s) (evn t) x1).toNat])) n2)], nx := 8 } :=
  evW_to hm soX6 (hs := [CHint.ops 12 [(1, Hint.b false)]]) (slots := [0, 1, 5, 7]) (keys := [7]) (nx := 8) (c := _) (by kernel_rfl) h
-- 2 paths
theorem splitF1 [mxi : MX] (s t : ByteArray) (n1 : Nat) (q1 : List ByteArray) (n3 : Nat) (q3 : List ByteArray) (h : AllP [SZ s, SZ t, ((evn t).toList == (ByteArray.mk #[]).toList) = true, SZ (evn s), LoopTo Tryd.prog (loopAt Tryd.f55 0) { n := 58, fr := [(0, AV.v (.string (evn s))), (5, AV.row 7 0 0 0 false), (16, AV.v (.int .i64 (↑(ul (evn s)) : Int))), (17, AV.v (.int .i64 (0 : Int)))], hp := [(7, AObj.row 9 1 (Seq.strs []) 0)], nx := 8 } (Exit.exit 0) { n := 58, fr := [(5, AV.row 7 0 q1.length q1.length false)], hp := [(7, AObj.row 9 1 (Seq.strs q1) n1)], nx := 8 }, q1.length = q1.length, n1 ≤ q1.length]) : PureTo Tryd.prog 55 [.v (.string s), .v (.string t)] (AV.sl 1 (Seq.strs q1) false) :=
  evFn_pure hm soX6 (fn := Tryd.f55) rfl rfl (ti := false) (hs := [CHint.ops 2 [(0, Hint.nil 9)], CHint.ops 3 [(1, Hint.b true)], CHint.loop [0, 5, 16, 17] [7] 8 (Exit.exit 0) { n := 58, fr := [(5, AV.row 7 0 q1.length q1.length false)], hp := [(7, AObj.row (9 : TypeId) 1 (Seq.strs q1) n1)], nx := 8 }]) (c := _) (by kernel_rfl) h
theorem splitF2 [mxi : MX] (s t : ByteArray) (n1 : Nat) (q1 : List ByteArray) (n3 : Nat) (q3 : List ByteArray) (h : AllP [SZ s, SZ t, ((evn t).toList == (ByteArray.mk #[]).toList) = false, LoopTo Tryd.prog (loopAt Tryd.f55 1) { n := 58, fr := [(0, AV.v (.string (evn s))), (1, AV.v (.string (evn t))), (5, AV.row 7 0 0 0 false), (7, AV.v (.int .i64 (0 : Int)))], hp := [(7, AObj.row 9 1 (Seq.strs []) 0)], nx := 8 } Exit.ret { n := 58, fr := [(4, AV.row 7 0 q3.length q3.length false)], hp := [(7, AObj.row 9 1 (Seq.strs q3) n3)], nx := 8 }, q3.length = q3.length, n3 ≤ q3.length]) : PureTo Tryd.prog 55 [.v (.string s), .v (.string t)] (AV.sl 1 (Seq.strs q3) false) :=
  evFn_pure hm soX6 (fn := Tryd.f55) rfl rfl (ti := false) (hs := [CHint.ops 2 [(0, Hint.nil 9)], CHint.ops 3 [(1, Hint.b false)], CHint.loop [0, 1, 5, 7] [7] 8 Exit.ret { n := 58, fr := [(4, AV.row 7 0 q3.length q3.length false)], hp := [(7, AObj.row (9 : TypeId) 1 (Seq.strs q3) n3)], nx := 8 }]) (c := _) (by kernel_rfl) h
-- 2 paths
theorem rsplitL0_1 [mxi : MX] (s t : ByteArray) (x0 : Int) (n0 : Nat) (q0 : List ByteArray) (h : AllP [SZ s, decide (x0 < (↑(ul s) : Int)) = true, inR IntKind.i64 (x0 + (1 : Int)), SZ s, q0.length = q0.length, q0.length = q0.length, (q0 ++ [slice s x0 (x0 + (1 : Int))]).length * 16 ≤ 140737488355328, inR IntKind.i64 (x0 + (1 : Int))]) : To Tryd.prog (loopAt Tryd.f56 0) ({ n := 55, fr := [(0, AV.v (.string s)), (5, AV.row 1 0 q0.length q0.length false), (6, AV.v (.int .i64 x0))], hp := [(1, AObj.row 9 1 (Seq.strs q0) n0)], nx := 2 }) (.normal) { n := 55, fr := [(0, AV.v (.string s)), (5, AV.row 1 0 (q0 ++ [slice s x0 (x0 + (1 : Int))]).length (q0 ++ [slice s x0 (x0 + (1 : Int))]).length false), (6, AV.v (.int .i64 (x0 + (1 : Int))))], hp := [(1, AObj.row 9 1 (Seq.strs (q0 ++ [slice s x0 (x0 + (1 : Int))])) n0)], nx := 2 } :=
  evW_to hm soX6 (hs := [CHint.ops 4 [(3, Hint.b true)]]) (slots := [0, 5, 6]) (keys := [1]) (nx := 2) (c := _) (by kernel_rfl) h
theorem rsplitL0_2 [mxi : MX] (s t : ByteArray) (x0 : Int) (n0 : Nat) (q0 : List ByteArray) (h : AllP [SZ s, decide (x0 < (↑(ul s) : Int)) = false]) : To Tryd.prog (loopAt Tryd.f56 0) ({ n := 55, fr := [(0, AV.v (.string s)), (5, AV.row 1 0 q0.length q0.length false), (6, AV.v (.int .i64 x0))], hp := [(1, AObj.row 9 1 (Seq.strs q0) n0)], nx := 2 }) (Exit.exit 0) { n := 55, fr := [(5, AV.row 1 0 q0.length q0.length false)], hp := [(1, AObj.row 9 1 (Seq.strs q0) n0)], nx := 2 } :=
  evW_to hm soX6 (hs := [CHint.ops 4 [(3, Hint.b false)]]) (slots := [5]) (keys := [1]) (nx := 2) (c := _) (by kernel_rfl) h
-- 2 paths
theorem rsplitL1_1 [mxi : MX] (s t : ByteArray) (x1 : Int) (x2 : Int) (n2 : Nat) (q2 : List ByteArray) (h : AllP [decide (x2 ≥ (0 : Int)) = true, SZ s, q2.length = q2.length, q2.length = q2.length, (q2 ++ [slice s x1 x2]).length * 16 ≤ 140737488355328, SZ t, inR IntKind.i64 (x2 + (↑(ul t) : Int)), SM s, SM t]) : To Tryd.prog (loopAt Tryd.f56 1) ({ n := 55, fr := [(0, AV.v (.string s)), (1, AV.v (.string t)), (5, AV.row 1 0 q2.length q2.length false), (7, AV.v (.int .i64 x1)), (8, AV.v (.int .i64 x2))], hp := [(1, AObj.row 9 1 (Seq.strs q2) n2)], nx := 2 }) (.normal) { n := 55, fr := [(0, AV.v (.string s)), (1, AV.v (.string t)), (5, AV.row 1 0 (q2 ++ [slice s x1 x2]).length (q2 ++ [slice s x1 x2]).length false), (7, AV.v (.int .i64 (x2 + (↑(ul t) : Int)))), (8, AV.v (.int .i64 (idxS s t (x2 + (↑(ul t) : Int)))))], hp := [(1, AObj.row 9 1 (Seq.strs (q2 ++ [slice s x1 x2])) n2)], nx := 2 } :=
  evW_to hm soX6 (hs := [CHint.ops 10 [(1, Hint.b true)]]) (slots := [0, 1, 5, 7, 8]) (keys := [1]) (nx := 2) (c := _) (by kernel_rfl) h
theorem rsplitL1_2 [mxi : MX] (s t : ByteArray) (x1 : Int) (x2 : Int) (n2 : Nat) (q2 : List ByteArray) (h : AllP [decide (x2 ≥ (0 : Int)) = false]) : To Tryd.prog (loopAt Tryd.f56 1) ({ n := 55, fr := [(0, AV.v (.string s)), (1, AV.v (.string t)), (5, AV.row 1 0 q2.length q2.length false), (7, AV.v (.int .i64 x1)), (8, AV.v (.int .i64 x2))], hp := [(1, AObj.row 9 1 (Seq.strs q2) n2)], nx := 2 }) (Exit.exit 2) { n := 55, fr := [(0, AV.v (.string s)), (5, AV.row 1 0 q2.length q2.length false), (7, AV.v (.int .i64 x1))], hp := [(1, AObj.row 9 1 (Seq.strs q2) n2)], nx := 2 } :=
  evW_to hm soX6 (hs := [CHint.ops 10 [(1, Hint.b false)]]) (slots := [0, 5, 7]) (keys := [1]) (nx := 2) (c := _) (by kernel_rfl) h
-- 2 paths
theorem rsplitF1 [mxi : MX] (s t : ByteArray) (x3 : Int) (n1 : Nat) (n3 : Nat) (q1 : List ByteArray) (q3 : List ByteArray) (h : AllP [SZ t, ((↑(ul t) : Int) == (0 : Int)) = true, LoopTo Tryd.prog (loopAt Tryd.f56 0) { n := 55, fr := [(0, AV.v (.string s)), (5, AV.row 1 0 0 0 false), (6, AV.v (.int .i64 (0 : Int)))], hp := [(1, AObj.row 9 1 (Seq.strs []) 0)], nx := 2 } (Exit.exit 0) { n := 55, fr := [(5, AV.row 1 0 q1.length q1.length false)], hp := [(1, AObj.row 9 1 (Seq.strs q1) n1)], nx := 2 }, q1.length = q1.length, n1 ≤ q1.length]) : PureTo Tryd.prog 56 [.v (.string s), .v (.string t)] (AV.sl 1 (Seq.strs q1) false) :=
  evFn_pure hm soX6 (fn := Tryd.f56) rfl rfl (ti := false) (hs := [CHint.ops 1 [(0, Hint.nil 9)], CHint.ops 2 [(2, Hint.b true)], CHint.loop [0, 5, 6] [1] 2 (Exit.exit 0) { n := 55, fr := [(5, AV.row 1 0 q1.length q1.length false)], hp := [(1, AObj.row (9 : TypeId) 1 (Seq.strs q1) n1)], nx := 2 }]) (c := _) (by kernel_rfl) h
theorem rsplitF2 [mxi : MX] (s t : ByteArray) (x3 : Int) (n1 : Nat) (n3 : Nat) (q1 : List ByteArray) (q3 : List ByteArray) (h : AllP [SZ t, ((↑(ul t) : Int) == (0 : Int)) = false, SM s, SM t, LoopTo Tryd.prog (loopAt Tryd.f56 1) { n := 55, fr := [(0, AV.v (.string s)), (1, AV.v (.string t)), (5, AV.row 1 0 0 0 false), (7, AV.v (.int .i64 (0 : Int))), (8, AV.v (.int .i64 (idxS s t (0 : Int))))], hp := [(1, AObj.row 9 1 (Seq.strs []) 0)], nx := 2 } (Exit.exit 2) { n := 55, fr := [(0, AV.v (.string s)), (5, AV.row 1 0 q3.length q3.length false), (7, AV.v (.int .i64 x3))], hp := [(1, AObj.row 9 1 (Seq.strs q3) n3)], nx := 2 }, SZ s, SZ s, q3.length = q3.length, q3.length = q3.length, (q3 ++ [slice s x3 (↑(ul s) : Int)]).length * 16 ≤ 140737488355328, (q3 ++ [slice s x3 (↑(ul s) : Int)]).length = (q3 ++ [slice s x3 (↑(ul s) : Int)]).length, n3 ≤ (q3 ++ [slice s x3 (↑(ul s) : Int)]).length]) : PureTo Tryd.prog 56 [.v (.string s), .v (.string t)] (AV.sl 1 (Seq.strs (q3 ++ [slice s x3 (↑(ul s) : Int)])) false) :=
  evFn_pure hm soX6 (fn := Tryd.f56) rfl rfl (ti := false) (hs := [CHint.ops 1 [(0, Hint.nil 9)], CHint.ops 2 [(2, Hint.b false)], CHint.loop [0, 1, 5, 7, 8] [1] 2 (Exit.exit 2) { n := 55, fr := [(0, AV.v (.string s)), (5, AV.row 1 0 q3.length q3.length false), (7, AV.v (.int .i64 x3))], hp := [(1, AObj.row (9 : TypeId) 1 (Seq.strs q3) n3)], nx := 2 }]) (c := _) (by kernel_rfl) h
end Go.Proofs.Us

/- Texts: Split, both. -/
set_option maxRecDepth 100000
namespace Go.Proofs.Us
open Go Go.Ev Go.Lib

theorem slice_at {s : ByteArray} {a b : Nat} (hab : a ≤ b) (hb : b ≤ ul s) : slice s a b = s.extract (2 * a) (2 * b) := by
  have e2 : (if (↑(ul s) : Int) < (b : Int) then (↑(ul s) : Int) else (b : Int)) = b := by rw [if_neg (by omega)]
  have e1 : (if (0 : Int) > (a : Int) then (0 : Int) else (a : Int)) = a := by rw [if_neg (by omega)]
  unfold slice
  rw [e1, e2]
  have t2 : ((2 : Int) * (b : Int)).toNat = 2 * b := by omega
  have t1 : ((2 : Int) * (a : Int)).toNat = 2 * a := by omega
  rw [t1, t2]
  by_cases h : a = b
  · subst h
    rw [show (!decide ((a : Int) ≤ (a : Int))) = false from by simp, cond_false]
    apply ByteArray.ext
    simp [ByteArray.data_extract]
  · rw [show (!decide ((b : Int) ≤ (a : Int))) = true from by simp; omega, cond_true]

theorem idxG_spec {s t : ByteArray} : ∀ f m : Nat, idxG s t f m = -1 ∨ ∃ p : Nat, idxG s t f m = p ∧ m ≤ p ∧ p ≤ ul s ∧ stands s t p = true
  | 0, _ => .inl rfl
  | f + 1, m => by
    unfold idxG
    split
    · next hm =>
      split
      · next hs => exact .inr ⟨m, rfl, Nat.le_refl _, hm, hs⟩
      · rcases idxG_spec (s := s) (t := t) f (m + 1) with h | ⟨p, h1, h2, h3, h4⟩
        · exact .inl h
        · exact .inr ⟨p, h1, by omega, h3, h4⟩
    · exact .inl rfl
theorem idxS_spec (s t : ByteArray) (a : Nat) : idxS s t a = -1 ∨ ∃ p : Nat, idxS s t a = p ∧ a ≤ p ∧ p + ul t ≤ ul s := by
  unfold idxS
  rcases idxG_spec (s := s) (t := t) (ul s + 1) (a : Int).toNat with h | ⟨p, h1, h2, h3, h4⟩
  · exact .inl h
  · refine .inr ⟨p, h1, by omega, ?_⟩
    by_cases c : p + ul t ≤ ul s
    · exact c
    · rw [stands_out (by omega)] at h4
      cases h4
theorem evn_evn (s : ByteArray) : evn (evn s) = evn s := by
  have h : (evn s).size = 2 * ul (evn s) := by rw [evn_size, evn_ul]
  show (evn s).extract 0 (2 * ul (evn s)) = evn s
  rw [← h]
  apply ByteArray.ext
  rw [ByteArray.data_extract]
  exact Array.extract_size
theorem stands_evn {s t : ByteArray} {j : Nat} (h : j ≤ ul s) : stands (evn s) (evn t) j = stands s t j := by
  rw [stands_occ h, stands_occ (s := evn s) (t := evn t) (by rw [evn_ul]; exact h), evn_evn, evn_evn]
theorem idxG_evn {s t : ByteArray} : ∀ f m : Nat, idxG (evn s) (evn t) f m = idxG s t f m
  | 0, _ => rfl
  | f + 1, m => by
    unfold idxG
    rw [evn_ul]
    split
    · next h => rw [stands_evn h, idxG_evn f (m + 1)]
    · rfl
theorem idxS_evn (s t : ByteArray) (i : Int) : idxS (evn s) (evn t) i = idxS s t i := by
  unfold idxS
  rw [evn_ul, idxG_evn]

/-- the parts from place a on, behind q -/
def partsG (s t : ByteArray) : Nat → Nat → List ByteArray → List ByteArray
  | 0, _, q => q
  | f + 1, a, q => if idxS s t a < 0 then q ++ [s.extract (2 * a) (2 * ul s)] else partsG s t f ((idxS s t a).toNat + ul t) (q ++ [s.extract (2 * a) (2 * (idxS s t a).toNat)])
/-- the units one by one -/
def singleG (s : ByteArray) : Nat → Nat → List ByteArray → List ByteArray
  | 0, _, q => q
  | f + 1, i, q => if i < ul s then singleG s f (i + 1) (q ++ [s.extract (2 * i) (2 * (i + 1))]) else q
def splitL (s t : ByteArray) : List ByteArray := if ul t = 0 then singleG s (ul s) 0 [] else partsG s t (ul s + 1) 0 []

variable [mxi : MX]

theorem room16 {n : Nat} (h : n ≤ 1048577) : n * 16 ≤ 140737488355328 := by omega

theorem split_l0 {s t : ByteArray} (hs : s.size + 1 ≤ 1048576) : ∀ f i : Nat, ∀ q n0, i + f = ul s → q.length = i → n0 ≤ q.length → ∃ n1, n1 ≤ (singleG s f i q).length ∧
    LoopTo Tryd.prog (loopAt Tryd.f55 0) (splitS0 s t i n0 q) (.exit 0) (splitX0 s t n1 (singleG s f i q))
  | 0, i, q, n0, h, hq, h0 => ⟨n0, h0, .done (by simp) (splitL0_2 s t i n0 q ⟨by rw [evn_ul]; simp; omega, trivial⟩)⟩
  | f + 1, i, q, n0, h, hq, h0 => by
    have hu : 2 * ul s ≤ s.size := by unfold ul; omega
    have z := evn_size s
    have e1 : ((2 : Int) * (i : Int)).toNat = 2 * i := by omega
    have e2 : ((2 : Int) * (i : Int) + 2).toNat = 2 * (i + 1) := by omega
    have p := splitL0_1 s t i n0 q
    rw [e1, e2, extract_evn (by omega)] at p
    have r : ∀ x : Int, 0 ≤ x → x ≤ 4194304 → inR .i64 x := fun x h1 h2 => by simp only [inR]; omega
    have st := p ⟨by rw [evn_ul]; simp; omega, r _ (by omega) (by omega), r _ (by omega) (by omega), r _ (by omega) (by omega), ⟨by omega, by omega⟩, ⟨by omega, by omega⟩, rfl, rfl, by rw [List.length_append]; exact room16 (by simp; omega), r _ (by omega) (by omega), trivial⟩
    have hg : singleG s (f + 1) i q = singleG s f (i + 1) (q ++ [s.extract (2 * i) (2 * (i + 1))]) := by
      show (if i < ul s then _ else _) = _
      rw [if_pos (by omega)]
    rw [hg]
    obtain ⟨n1, h1, hl⟩ := split_l0 hs f (i + 1) (q ++ [s.extract (2 * i) (2 * (i + 1))]) n0 (by omega) (by rw [List.length_append]; simp; omega) (by rw [List.length_append]; omega)
    exact ⟨n1, h1, .step st hl⟩

def splitR (l : List ByteArray) (n1 : Nat) : AS := { n := 58, fr := [(4, AV.row 7 0 l.length l.length false)], hp := [(7, AObj.row 9 1 (Seq.strs l) n1)], nx := 8 }
theorem split_l1 {s t : ByteArray} (hs : s.size + 1 ≤ 1048576) (ht : SM t) (ht1 : 1 ≤ ul t) : ∀ f a : Nat, ∀ q n0, ul s + 1 ≤ a + f → a ≤ ul s → q.length ≤ a → n0 ≤ q.length → ∃ n1, n1 ≤ (partsG s t f a q).length ∧
    LoopTo Tryd.prog (loopAt Tryd.f55 1) (splitS1 s t a n0 q) .ret (splitR (partsG s t f a q) n1)
  | 0, a, q, n0, h, ha, _, _ => by omega
  | f + 1, a, q, n0, h, ha, hq, h0 => by
    have hu : 2 * ul s ≤ s.size := by unfold ul; omega
    have z := evn_size s
    have e1 : ((2 : Int) * (a : Int)).toNat = 2 * a := by omega
    have r : ∀ x : Int, 0 ≤ x → x ≤ 4194304 → inR .i64 x := fun x h1 h2 => by simp only [inR]; omega
    have b1 : (evn s).size + 1 ≤ 1048576 := by omega
    have b2 := evn_SM ht
    have p1 := splitL1_1 s t a n0 q
    have p2 := splitL1_2 s t a n0 q
    rw [e1, idxS_evn] at p1 p2
    have hg : partsG s t (f + 1) a q = if idxS s t a < 0 then q ++ [s.extract (2 * a) (2 * ul s)] else partsG s t f ((idxS s t a).toNat + ul t) (q ++ [s.extract (2 * a) (2 * (idxS s t a).toNat)]) := rfl
    rw [hg]
    rcases idxS_spec s t a with e | ⟨p, e, h1, h2⟩
    · rw [e] at p1
      rw [e, if_pos (by omega)]
      rw [z, extract_evn (Nat.le_refl _)] at p1
      exact ⟨n0, by rw [List.length_append]; omega, .done (by simp) (p1 ⟨by omega, b2, by decide, r _ (by omega) (by omega), ⟨by omega, by omega⟩, rfl, rfl, by rw [List.length_append]; exact room16 (by simp; omega), trivial⟩)⟩
    · rw [e] at p2
      rw [e, if_neg (by omega), Int.toNat_natCast]
      have e2 : ((2 : Int) * (p : Int)).toNat = 2 * p := by omega
      rw [e2, extract_evn (by omega)] at p2
      have st := p2 ⟨b1, b2, by simp, r _ (by omega) (by omega), r _ (by omega) (by omega), ⟨by omega, by omega⟩, ⟨by omega, by omega⟩, rfl, rfl, by rw [List.length_append]; exact room16 (by simp; omega), (evn_SM ht).sz, by rw [evn_ul]; exact r _ (by omega) (by omega), trivial⟩
      rw [evn_ul] at st
      obtain ⟨n1, h3, hl⟩ := split_l1 hs ht ht1 f (p + ul t) (q ++ [s.extract (2 * a) (2 * p)]) n0 (by omega) h2 (by rw [List.length_append]; simp; omega) (by rw [List.length_append]; omega)
      exact ⟨n1, h3, .step st hl⟩

theorem rsplit_l0 {s t : ByteArray} (hs : s.size + 1 ≤ 1048576) : ∀ f i : Nat, ∀ q n0, i + f = ul s → q.length = i → n0 ≤ q.length → ∃ n1, n1 ≤ (singleG s f i q).length ∧
    LoopTo Tryd.prog (loopAt Tryd.f56 0) (rsplitS0 s t i n0 q) (.exit 0) (rsplitX0 s t n1 (singleG s f i q))
  | 0, i, q, n0, h, hq, h0 => ⟨n0, h0, .done (by simp) (rsplitL0_2 s t i n0 q ⟨(show SM s by unfold SM; omega).sz, by simp; omega, trivial⟩)⟩
  | f + 1, i, q, n0, h, hq, h0 => by
    have ms : SM s := by unfold SM; omega
    have hu : 2 * ul s ≤ s.size := by unfold ul; omega
    have r : ∀ x : Int, 0 ≤ x → x ≤ 4194304 → inR .i64 x := fun x h1 h2 => by simp only [inR]; omega
    have e : slice s (i : Int) ((i : Int) + 1) = s.extract (2 * i) (2 * (i + 1)) := slice_at (s := s) (a := i) (b := i + 1) (by omega) (by omega)
    have p := rsplitL0_1 s t i n0 q
    rw [e] at p
    have st := p ⟨ms.sz, by simp; omega, r _ (by omega) (by omega), ms.sz, rfl, rfl, by rw [List.length_append]; exact room16 (by simp; omega), r _ (by omega) (by omega), trivial⟩
    have hg : singleG s (f + 1) i q = singleG s f (i + 1) (q ++ [s.extract (2 * i) (2 * (i + 1))]) := by
      show (if i < ul s then _ else _) = _
      rw [if_pos (by omega)]
    rw [hg]
    obtain ⟨n1, h1, hl⟩ := rsplit_l0 (t := t) hs f (i + 1) (q ++ [s.extract (2 * i) (2 * (i + 1))]) n0 (by omega) (by rw [List.length_append]; simp; omega) (by rw [List.length_append]; omega)
    exact ⟨n1, h1, .step st hl⟩

theorem rsplit_l1 {s t : ByteArray} (hs : s.size + 1 ≤ 1048576) (ht : SM t) (ht1 : 1 ≤ ul t) : ∀ f a : Nat, ∀ q n0, ul s + 1 ≤ a + f → a ≤ ul s → q.length ≤ a → n0 ≤ q.length →
    ∃ (a' : Nat) (q' : List ByteArray) (n1 : Nat), n1 ≤ q'.length ∧ a' ≤ ul s ∧ q'.length ≤ a' ∧ LoopTo Tryd.prog (loopAt Tryd.f56 1) (rsplitS1 s t a (idxS s t a) n0 q) (.exit 2) (rsplitX1 s t a' n1 q') ∧ partsG s t f a q = q' ++ [s.extract (2 * a') (2 * ul s)]
  | 0, a, q, n0, h, ha, _, _ => by omega
  | f + 1, a, q, n0, h, ha, hq, h0 => by
    have ms : SM s := by unfold SM; omega
    have hu : 2 * ul s ≤ s.size := by unfold ul; omega
    have r : ∀ x : Int, 0 ≤ x → x ≤ 4194304 → inR .i64 x := fun x h1 h2 => by simp only [inR]; omega
    have hg : partsG s t (f + 1) a q = if idxS s t a < 0 then q ++ [s.extract (2 * a) (2 * ul s)] else partsG s t f ((idxS s t a).toNat + ul t) (q ++ [s.extract (2 * a) (2 * (idxS s t a).toNat)]) := rfl
    rw [hg]
    rcases idxS_spec s t a with e | ⟨p, e, h1, h2⟩
    · rw [e, if_pos (by omega)]
      exact ⟨a, q, n0, h0, ha, hq, .done (by simp) (rsplitL1_2 s t a (-1) n0 q ⟨by decide, trivial⟩), rfl⟩
    · rw [e, if_neg (by omega), Int.toNat_natCast]
      have es : slice s (a : Int) (p : Int) = s.extract (2 * a) (2 * p) := slice_at h1 (by omega)
      have p1 := rsplitL1_1 s t a (p : Int) n0 q
      rw [es] at p1
      have st := p1 ⟨by simp, ms.sz, rfl, rfl, by rw [List.length_append]; exact room16 (by simp; omega), ht.sz, r _ (by omega) (by omega), ms, ht, trivial⟩
      obtain ⟨a', q', n1, h3, h4, h5, hl, h6⟩ := rsplit_l1 hs ht ht1 f (p + ul t) (q ++ [s.extract (2 * a) (2 * p)]) n0 (by omega) h2 (by rw [List.length_append]; simp; omega) (by rw [List.length_append]; omega)
      exact ⟨a', q', n1, h3, h4, h5, .step st hl, h6⟩
end Go.Proofs.Us

/- Texts: Split, both: the contract. -/
set_option maxRecDepth 100000
namespace Go.Proofs.Us
open Go Go.Ev Go.Lib
variable [mxi : MX]

theorem evn_empty (t : ByteArray) : ((evn t).toList == (ByteArray.mk #[]).toList) = decide (ul t = 0) := by
  have z := evn_size t
  rw [Bool.eq_iff_iff, beq_iff_eq, decide_eq_true_eq, Lib.toList_data, Lib.toList_data]
  constructor
  · intro h
    have := len_data (evn t)
    rw [h] at this
    simp at this
    omega
  · intro h
    have := len_data (evn t)
    rw [z, h] at this
    exact List.eq_nil_of_length_eq_zero (by simpa using this)

theorem split_c {s t : ByteArray} (hs : s.size + 1 ≤ 1048576) (ht : SM t) : PureTo Tryd.prog 55 [.v (.string s), .v (.string t)] (.sl 1 (.strs (splitL s t)) false) := by
  have ms : SM s := by unfold SM; omega
  have c := evn_empty t
  unfold splitL
  by_cases h : ul t = 0
  · rw [if_pos h]
    obtain ⟨n1, h1, hl⟩ := split_l0 (t := t) hs (ul s) 0 [] 0 (by omega) rfl (Nat.le_refl _)
    exact splitF1 (s := s) (t := t) (n1 := n1) (q1 := singleG s (ul s) 0 []) (n3 := 0) (q3 := []) (h := ⟨ms.sz, ht.sz, by rw [c]; simpa using h, (evn_SM ms).sz, hl, rfl, h1, trivial⟩)
  · rw [if_neg h]
    obtain ⟨n1, h1, hl⟩ := split_l1 hs ht (by omega) (ul s + 1) 0 [] 0 (by omega) (by omega) (Nat.le_refl _) (Nat.le_refl _)
    exact splitF2 (s := s) (t := t) (n1 := 0) (q1 := []) (n3 := n1) (q3 := partsG s t (ul s + 1) 0 []) (h := ⟨ms.sz, ht.sz, by rw [c]; simpa using h, hl, rfl, h1, trivial⟩)
theorem rsplit_c {s t : ByteArray} (hs : s.size + 1 ≤ 1048576) (ht : SM t) : PureTo Tryd.prog 56 [.v (.string s), .v (.string t)] (.sl 1 (.strs (splitL s t)) false) := by
  have ms : SM s := by unfold SM; omega
  have hu : 2 * ul s ≤ s.size := by unfold ul; omega
  unfold splitL
  by_cases h : ul t = 0
  · rw [if_pos h]
    obtain ⟨n1, h1, hl⟩ := rsplit_l0 (t := t) hs (ul s) 0 [] 0 (by omega) rfl (Nat.le_refl _)
    exact rsplitF1 (s := s) (t := t) (x3 := 0) (n1 := n1) (n3 := 0) (q1 := singleG s (ul s) 0 []) (q3 := []) (h := ⟨ht.sz, by simp [h], hl, rfl, h1, trivial⟩)
  · rw [if_neg h]
    obtain ⟨a', q', n1, h1, h2, h3, hl, e⟩ := rsplit_l1 hs ht (by omega) (ul s + 1) 0 [] 0 (by omega) (by omega) (Nat.le_refl _) (Nat.le_refl _)
    have p := rsplitF2 (s := s) (t := t) (x3 := (a' : Int)) (n1 := 0) (n3 := n1) (q1 := []) (q3 := q')
    rw [slice_at h2 (Nat.le_refl _), ← e] at p
    exact p ⟨ht.sz, by simp [h], ms, ht, hl, ms.sz, ms.sz, rfl, rfl, by rw [e, List.length_append]; exact room16 (by simp; omega), rfl, by rw [e, List.length_append]; omega, trivial⟩
end Go.Proofs.Us

/- Texts: walks, written by the tool. -/
set_option maxRecDepth 100000
namespace Go.Proofs.Us
open Go Go.Ev
def txtS0 (a b : List ByteArray) (ta tb : Bool) (x0 : Int) : AS := { n := 26, fr := [(0, AV.sl 1 (Seq.strs a) ta), (1, AV.sl 1 (Seq.strs b) tb), (5, AV.v (.int .i64 x0))], hp := [], nx := 0 }
def txtX0 (a b : List ByteArray) (ta tb : Bool)  : AS := { n := 26, fr := [], hp := [], nx := 0 }
def txtX0_1 (a b : List ByteArray) (ta tb : Bool) (b0 : Bool) : AS := { n := 26, fr := [(4, AV.v (.bool b0))], hp := [], nx := 0 }
-- 3 paths
theorem txtL0_1 (a b : List ByteArray) (ta tb : Bool) (x0 : Int) (h : AllP [decide (x0 < (↑a.length : Int)) = true, (0 : Int) ≤ x0 ∧ x0 < (↑a.length : Int), (0 : Int) ≤ x0 ∧ x0 < (↑b.length : Int), (!(a.getD x0.toNat ByteArray.empty).toList == (b.getD x0.toNat ByteArray.empty).toList) = true]) : To Tryd.prog (loopAt Tryd.f54 0) ({ n := 26, fr := [(0, AV.sl 1 (Seq.strs a) ta), (1, AV.sl 1 (Seq.strs b) tb), (5, AV.v (.int .i64 x0))], hp := [], nx := 0 }) (Exit.ret) { n := 26, fr := [(4, AV.v (.bool false))], hp := [], nx := 0 } :=
  evW_to hm sok0 (hs := [CHint.ops 4 [(3, Hint.b true)], CHint.ops 6 [(8, Hint.b true)]]) (slots := [4]) (keys := []) (nx := 0) (c := _) (by kernel_rfl) h
theorem txtL0_2 (a b : List ByteArray) (ta tb : Bool) (x0 : Int) (h : AllP [decide (x0 < (↑a.length : Int)) = true, (0 : Int) ≤ x0 ∧ x0 < (↑a.length : Int), (0 : Int) ≤ x0 ∧ x0 < (↑b.length : Int), (!(a.getD x0.toNat ByteArray.empty).toList == (b.getD x0.toNat ByteArray.empty).toList) = false, inR IntKind.i64 (x0 + (1 : Int))]) : To Tryd.prog (loopAt Tryd.f54 0) ({ n := 26, fr := [(0, AV.sl 1 (Seq.strs a) ta), (1, AV.sl 1 (Seq.strs b) tb), (5, AV.v (.int .i64 x0))], hp := [], nx := 0 }) (.normal) { n := 26, fr := [(0, AV.sl 1 (Seq.strs a) ta), (1, AV.sl 1 (Seq.strs b) tb), (5, AV.v (.int .i64 (x0 + (1 : Int))))], hp := [], nx := 0 } :=
  evW_to hm sok0 (hs := [CHint.ops 4 [(3, Hint.b true)], CHint.ops 6 [(8, Hint.b false)]]) (slots := [0, 1, 5]) (keys := []) (nx := 0) (c := _) (by kernel_rfl) h
theorem txtL0_3 (a b : List ByteArray) (ta tb : Bool) (x0 : Int) (h : AllP [decide (x0 < (↑a.length : Int)) = false]) : To Tryd.prog (loopAt Tryd.f54 0) ({ n := 26, fr := [(0, AV.sl 1 (Seq.strs a) ta), (1, AV.sl 1 (Seq.strs b) tb), (5, AV.v (.int .i64 x0))], hp := [], nx := 0 }) (Exit.exit 0) { n := 26, fr := [], hp := [], nx := 0 } :=
  evW_to hm sok0 (hs := [CHint.ops 4 [(3, Hint.b false)]]) (slots := []) (keys := []) (nx := 0) (c := _) (by kernel_rfl) h
-- 3 paths
theorem txtF1 (a b : List ByteArray) (ta tb : Bool) (b0 : Bool) (h : AllP [((↑a.length : Int) != (↑b.length : Int)) = true]) : PureTo Tryd.prog 54 [.sl 1 (.strs a) ta, .sl 1 (.strs b) tb] (AV.v (.bool false)) :=
  evFn_pure hm sok0 (fn := Tryd.f54) rfl rfl (ti := false) (hs := [CHint.ops 1 [(4, Hint.b true)]]) (c := _) (by kernel_rfl) h
theorem txtF2 (a b : List ByteArray) (ta tb : Bool) (b0 : Bool) (h : AllP [((↑a.length : Int) != (↑b.length : Int)) = false, LoopTo Tryd.prog (loopAt Tryd.f54 0) { n := 26, fr := [(0, AV.sl 1 (Seq.strs a) ta), (1, AV.sl 1 (Seq.strs b) tb), (5, AV.v (.int .i64 (0 : Int)))], hp := [], nx := 0 } (Exit.exit 0) { n := 26, fr := [], hp := [], nx := 0 }]) : PureTo Tryd.prog 54 [.sl 1 (.strs a) ta, .sl 1 (.strs b) tb] (AV.v (.bool true)) :=
  evFn_pure hm sok0 (fn := Tryd.f54) rfl rfl (ti := false) (hs := [CHint.ops 1 [(4, Hint.b false)], CHint.loop [0, 1, 5] [] 0 (Exit.exit 0) { n := 26, fr := [], hp := [], nx := 0 }]) (c := _) (by kernel_rfl) h
theorem txtF3 (a b : List ByteArray) (ta tb : Bool) (b0 : Bool) (h : AllP [((↑a.length : Int) != (↑b.length : Int)) = false, LoopTo Tryd.prog (loopAt Tryd.f54 0) { n := 26, fr := [(0, AV.sl 1 (Seq.strs a) ta), (1, AV.sl 1 (Seq.strs b) tb), (5, AV.v (.int .i64 (0 : Int)))], hp := [], nx := 0 } Exit.ret { n := 26, fr := [(4, AV.v (.bool b0))], hp := [], nx := 0 }]) : PureTo Tryd.prog 54 [.sl 1 (.strs a) ta, .sl 1 (.strs b) tb] (AV.v (.bool b0)) :=
  evFn_pure hm sok0 (fn := Tryd.f54) rfl rfl (ti := false) (hs := [CHint.ops 1 [(4, Hint.b false)], CHint.loop [0, 1, 5] [] 0 Exit.ret { n := 26, fr := [(4, AV.v (.bool b0))], hp := [], nx := 0 }]) (c := _) (by kernel_rfl) h
end Go.Proofs.Us

/- Texts: two lists of texts alike. -/
set_option maxRecDepth 100000
namespace Go.Proofs.Us
open Go Go.Ev

theorem txt_loop (a : List ByteArray) (ta tb : Bool) : ∀ k i : Nat, i + k = a.length → a.length < 4294967296 →
    LoopTo Tryd.prog (loopAt Tryd.f54 0) (txtS0 a a ta tb i) (Exit.exit 0) { n := 26, fr := [], hp := [], nx := 0 } := by
  intro k
  induction k with
  | zero =>
    intro i h _
    exact .done (by simp) (txtL0_3 a a ta tb i ⟨by simp; omega, trivial⟩)
  | succ k ih =>
    intro i h hl
    exact .step (txtL0_2 a a ta tb i ⟨by simp; omega, ⟨by omega, by omega⟩, ⟨by omega, by omega⟩, by simp, ⟨by omega, by omega⟩, trivial⟩) (ih (i + 1) (by omega) hl)
theorem txt_pure (a : List ByteArray) (ta tb : Bool) (h : a.length < 4294967296) : PureTo Tryd.prog 54 [.sl 1 (.strs a) ta, .sl 1 (.strs a) tb] (.v (.bool true)) :=
  txtF2 a a ta tb true ⟨by simp, txt_loop a ta tb a.length 0 (by omega) h, trivial⟩
end Go.Proofs.Us

/- Texts: Join's two functions come to one; the table for the law. -/
set_option maxRecDepth 100000
namespace Go.Proofs.Us
open Go Go.Ev
variable [mxi : MX]

section
variable {l : List ByteArray} {t : ByteArray} (tl : Bool)

omit mxi in
theorem take_evn (s : ByteArray) : s.extract 0 ((2 : Int) * (ul s : Int)).toNat = evn s := by
  rw [show ((2 : Int) * (ul s : Int)).toNat = 2 * ul s by omega]
  rfl

theorem rjoin_loop (h : JOK l t) : ∀ k i : Nat, i + k = l.length → ∀ fl : Nat, fl ≤ (jn l t i).length → ∃ fl', fl' ≤ (jn l t l.length).length ∧ LoopTo Tryd.prog (loopAt Tryd.f58 0) (rjoinS0 l t tl i (jn l t i) fl) (Exit.exit 0) (rjoinX0 l t tl (jn l t l.length) fl') := by
  intro k
  induction k with
  | zero =>
    intro i hi fl hf
    have hin : i = l.length := by omega
    subst hin
    exact ⟨fl, hf, .done (by simp) (rjoinL0_3 l t tl _ _ fl ⟨by simp, trivial⟩)⟩
  | succ k ih =>
    intro i hi fl hf
    have hl := h.len (i := i + 1) (by omega)
    have hn := h.hN
    have hu : ∀ s : ByteArray, 2 * ul s ≤ s.size := fun s => by unfold ul; omega
    have hzt := h.hT
    have hzx := h.at (i := i) (by omega)
    have h1 := hu t
    have h2 := hu (l.getD i ByteArray.empty)
    have hzt' := hzt
    have hzx' := hzx
    unfold SZ at hzt' hzx'
    obtain ⟨fl', hf', hl'⟩ := ih (i + 1) (by omega) fl (Nat.le_trans hf (jn_step l t i))
    refine ⟨fl', hf', ?_⟩
    by_cases h0 : i = 0
    · subst h0
      have e : jn l t (0 + 1) = jn l t 0 ++ intsOfStr (evn (l.getD 0 ByteArray.empty)) := by simp [jn]
      have hst := rjoinL0_2 l t tl ((0 : Nat) : Int) (jn l t 0) fl
      rw [Int.toNat_natCast 0, take_evn, ← e] at hst
      exact .step (hst ⟨by simp; omega, by simp, by omega, by omega, hzx, by simp only [inR]; omega, by omega, rfl, rfl, by omega, by simp [inR], trivial⟩) hl'
    · have e : jn l t (i + 1) = jn l t i ++ intsOfStr (evn t) ++ intsOfStr (evn (l.getD i ByteArray.empty)) := by
        rw [jn, if_neg h0]
      have hm : (jn l t i ++ intsOfStr (evn t)).length ≤ 140737488355328 := by
        have hl2 := hl
        rw [e, List.length_append] at hl2
        omega
      have hst := rjoinL0_1 l t tl (i : Int) (jn l t i) fl
      rw [Int.toNat_natCast i, take_evn, take_evn, ← e] at hst
      exact .step (hst ⟨by simp; omega, by simp; omega, hzt, by simp only [inR]; omega, by omega, rfl, rfl, by omega, by omega, by omega, hzx, by simp only [inR]; omega, by omega, rfl, rfl, by omega, by simp only [inR]; omega, trivial⟩) hl'

theorem rjoin_c (h : JOK l t) : PureTo Tryd.prog 58 [.sl 1 (.strs l) tl, .v (.string t)] (.v (.string (strOfInts (jn l t l.length)))) := by
  obtain ⟨fl', hf, hl⟩ := rjoin_loop tl h l.length 0 (by omega) 0 (Nat.zero_le _)
  exact rjoinF1 l t tl _ fl' ⟨hl, rfl, hf, trivial⟩

end

def sigJoin : List AV → Option (AV × List Prop)
  | [.sl 1 (.strs l) _, .v (.string t)] => some (.v (.string (strOfInts (jn l t l.length))), [JOK l t])
  | _ => none
def sigTxt : List AV → Option (AV × List Prop)
  | [.sl 1 (.strs a) _, .sl 1 (.strs b) _] => some (.v (.bool true), [a = b, a.length < 4294967296])
  | _ => none
def SX7 : SGT := (57, .p sigJoin) :: (58, .p sigJoin) :: (54, .p sigTxt) :: (55, .p (sigSS fun s t => (.sl 1 (.strs (splitL s t)) false, [s.size + 1 ≤ 1048576, SM t]))) :: (56, .p (sigSS fun s t => (.sl 1 (.strs (splitL s t)) false, [s.size + 1 ≤ 1048576, SM t]))) :: SX6
theorem soX7 : SigsOK Tryd.prog SX7 := by
  refine sigs_cons (sigs_cons (sigs_cons (sigs_cons2 (sigs_cons2 soX6 fun s t h => ?_) fun s t h => ?_) ?_) ?_) ?_
  · exact rsplit_c h.1 h.2.1
  · exact split_c h.1 h.2.1
  · intro ys r c h hc
    unfold sigTxt at h
    split at h
    · cases h
      obtain ⟨rfl, h1, _⟩ := hc
      exact PureTo.more MX.mx (txt_pure _ _ _ h1)
    · cases h
  · intro ys r c h hc
    unfold sigJoin at h
    split at h
    · cases h; exact rjoin_c _ hc.1
    · cases h
  · intro ys r c h hc
    unfold sigJoin at h
    split at h
    · cases h; exact join_c _ hc.1
    · cases h

end Go.Proofs.Us

/- Texts: walks, written by the tool. -/
set_option maxRecDepth 100000
namespace Go.Proofs.Us
open Go Go.Ev

-- 1 paths
theorem lawSplitsF1 [mxi : MX] (s t : ByteArray) (l : List ByteArray) (h : AllP [s.size + 1 ≤ 1048576, SM t, s.size + 1 ≤ 1048576, SM t, splitL s t = splitL s t, (splitL s t).length < 4294967296, JOK l t, JOK l t, ((strOfInts (jn l t l.length)).toList == (strOfInts (jn l t l.length)).toList) = true]) : PureTo Tryd.prog 12 [.v (.string s), .v (.string t), .sl 1 (.strs l) false] (AV.v (.bool true)) :=
  evFn_pure hm soX7 (fn := Tryd.f12) rfl rfl (ti := false) (hs := [CHint.ops 1 [(14, Hint.b true)]]) (c := _) (by kernel_rfl) h
end Go.Proofs.Us
