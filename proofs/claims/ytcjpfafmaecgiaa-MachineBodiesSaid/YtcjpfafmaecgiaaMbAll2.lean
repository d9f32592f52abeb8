/- Contracts of the program's functions, and the plain law behind them. No condition beyond those in each statement. -/
import Derived.Test.YtcjpfafmaecgiaaMbAll1
import Derived.Test.YtcjpfafmaecgiaaMaAll5
set_option linter.unusedSimpArgs false
set_option linter.unusedVariables false
set_option linter.unusedSectionVars false
/- Machine: contracts of Clean and SameDone. -/
set_option maxRecDepth 100000
namespace Go.Proofs.Ma
open Go Go.Ev
structure VR where
  k : Int
  b : Bool
  x : Nat
  s : ByteArray
  o : Int
def v0 : VR := ⟨0, false, 0, ByteArray.empty, 0⟩
abbrev vR (v : VR) : AV := vA v.k v.b v.x v.s v.o
def clV (v : VR) : VR := bif mayV v.k v.b v.x v.s v.o then v else v0
theorem clean_c (v : VR) : PureTo Try.prog 17 [vR v] (vR (clV v)) := by
  unfold clV
  cases h : mayV v.k v.b v.x v.s v.o with
  | true => exact cleanV1 _ _ _ _ _ ⟨h, trivial⟩
  | false => exact cleanV2 _ _ _ _ _ ⟨h, trivial⟩
theorem same_c (K k : Int) (b : Bool) (x : Nat) (s : ByteArray) (o : Int) (L : ByteArray) : PureTo Try.prog 24 [dA K k b x s o L, dA K k b x s o L] (.v (.bool true)) := by
  cases h : (k == (5 : Int)) with
  | true => exact sameD2 K k b x s o L ⟨by simp, by simp, by simp, h, trivial⟩
  | false => exact sameD3 K k b x s o L ⟨by simp, by simp, by simp, h, rfl, trivial⟩
def sigClean : List AV → Option (AV × List Prop)
  | [.agg [.v (.int .i64 k), .v (.bool b), .v (.float .f64 x), .v (.string s), .v (.int .i64 o)]] => some (vR (clV ⟨k, b, x, s, o⟩), [])
  | _ => none
def sigSame : List AV → Option (AV × List Prop)
  | [.agg [.v (.int .i64 K), .v (.int .i64 k), .v (.bool b), .v (.float .f64 x), .v (.string s), .v (.int .i64 o), .v (.string L)], y] => some (.v (.bool true), [y = dA K k b x s o L])
  | _ => none
def SB4 : SGT := (17, .p sigClean) :: (24, .p sigSame) :: SB3
theorem soB4 : SigsOK Try.prog SB4 := by
  refine sigs_cons (sigs_cons soB3 ?_) ?_
  · intro ys r c h hc
    unfold sigSame at h
    split at h
    · cases h; rw [hc.1]; exact same_c _ _ _ _ _ _ _
    · cases h
  · intro ys r c h hc
    unfold sigClean at h
    split at h
    · cases h; exact clean_c ⟨_, _, _, _, _⟩
    · cases h
abbrev valsQ (l : List VR) : AV := .sl 5 (.fn l.length fun i => vR (l.getD i v0)) false
/-- CleanAll's loop -/
abbrev clF (l : List VR) : Nat → AV := fun i => vR (clV (l.getD i v0))
abbrev clS (l : List VR) (n : Nat) (t : Bool) : AS := { n := 21, fr := [(0, valsQ l), (3, .row 1 0 n n t), (4, .v (.int .i64 n))], hp := [(1, .row 49 5 (.fn n (clF l)) 0)], nx := 2 }
abbrev clX (l : List VR) (n : Nat) (t : Bool) : AS := { n := 21, fr := [(3, .row 1 0 n n t)], hp := [(1, .row 49 5 (.fn n (clF l)) 0)], nx := 2 }
end Go.Proofs.Ma

/- Machine: walks, written by the tool. -/
set_option maxRecDepth 100000
namespace Go.Proofs.Ma
open Go Go.Ev

-- 4 paths
theorem done1 (K k : Int) (b : Bool) (x : Nat) (s : ByteArray) (o : Int) (L : ByteArray) (h : AllP [decide (K < (0 : Int)) = true, 0 ≤ 9223372036854775807]) : PureTo Try.prog 16 [dA K k b x s o L] (AV.agg [AV.v (.int .i64 (0 : Int)), AV.v (.int .i64 (clV { k := k, b := b, x := x, s := s, o := o }).k), AV.v (.bool (clV { k := k, b := b, x := x, s := s, o := o }).b), AV.v (.float FloatKind.f64 (clV { k := k, b := b, x := x, s := s, o := o }).x), AV.v (.string (clV { k := k, b := b, x := x, s := s, o := o }).s), AV.v (.int .i64 (clV { k := k, b := b, x := x, s := s, o := o }).o), AV.v (.string (txt (ByteArray.mk #[])))]) :=
  evFn_pure hm soB4 (fn := Try.f16) rfl rfl (ti := false) (hs := [CHint.ops 2 [(2, Hint.b true)]]) (c := _) (by kernel_rfl) h
theorem done2 (K k : Int) (b : Bool) (x : Nat) (s : ByteArray) (o : Int) (L : ByteArray) (h : AllP [decide (K < (0 : Int)) = false, decide (K ≥ (5 : Int)) = true, 0 ≤ 9223372036854775807]) : PureTo Try.prog 16 [dA K k b x s o L] (AV.agg [AV.v (.int .i64 (0 : Int)), AV.v (.int .i64 (clV { k := k, b := b, x := x, s := s, o := o }).k), AV.v (.bool (clV { k := k, b := b, x := x, s := s, o := o }).b), AV.v (.float FloatKind.f64 (clV { k := k, b := b, x := x, s := s, o := o }).x), AV.v (.string (clV { k := k, b := b, x := x, s := s, o := o }).s), AV.v (.int .i64 (clV { k := k, b := b, x := x, s := s, o := o }).o), AV.v (.string (txt (ByteArray.mk #[])))]) :=
  evFn_pure hm soB4 (fn := Try.f16) rfl rfl (ti := false) (hs := [CHint.ops 2 [(2, Hint.b false), (6, Hint.b true)]]) (c := _) (by kernel_rfl) h
theorem done3 (K k : Int) (b : Bool) (x : Nat) (s : ByteArray) (o : Int) (L : ByteArray) (h : AllP [decide (K < (0 : Int)) = false, decide (K ≥ (5 : Int)) = false, decide (K < (3 : Int)) = true, 0 ≤ 9223372036854775807]) : PureTo Try.prog 16 [dA K k b x s o L] (AV.agg [AV.v (.int .i64 K), AV.v (.int .i64 (clV { k := k, b := b, x := x, s := s, o := o }).k), AV.v (.bool (clV { k := k, b := b, x := x, s := s, o := o }).b), AV.v (.float FloatKind.f64 (clV { k := k, b := b, x := x, s := s, o := o }).x), AV.v (.string (clV { k := k, b := b, x := x, s := s, o := o }).s), AV.v (.int .i64 (clV { k := k, b := b, x := x, s := s, o := o }).o), AV.v (.string (txt (ByteArray.mk #[])))]) :=
  evFn_pure hm soB4 (fn := Try.f16) rfl rfl (ti := false) (hs := [CHint.ops 2 [(2, Hint.b false), (6, Hint.b false)], CHint.ops 4 [(2, Hint.b true)]]) (c := _) (by kernel_rfl) h
theorem done4 (K k : Int) (b : Bool) (x : Nat) (s : ByteArray) (o : Int) (L : ByteArray) (h : AllP [decide (K < (0 : Int)) = false, decide (K ≥ (5 : Int)) = false, decide (K < (3 : Int)) = false, L.size ≤ 9223372036854775807]) : PureTo Try.prog 16 [dA K k b x s o L] (AV.agg [AV.v (.int .i64 K), AV.v (.int .i64 (clV { k := k, b := b, x := x, s := s, o := o }).k), AV.v (.bool (clV { k := k, b := b, x := x, s := s, o := o }).b), AV.v (.float FloatKind.f64 (clV { k := k, b := b, x := x, s := s, o := o }).x), AV.v (.string (clV { k := k, b := b, x := x, s := s, o := o }).s), AV.v (.int .i64 (clV { k := k, b := b, x := x, s := s, o := o }).o), AV.v (.string (txt L))]) :=
  evFn_pure hm soB4 (fn := Try.f16) rfl rfl (ti := false) (hs := [CHint.ops 2 [(2, Hint.b false), (6, Hint.b false)], CHint.ops 4 [(2, Hint.b false)]]) (c := _) (by kernel_rfl) h
-- 1 paths
theorem vclone1 (l : List VR) (h : AllP [0 < l.length, 1 ≤ l.length, l.length * 48 ≤ 140737488355328, l.length = l.length, 0 ≤ l.length, ∀ (i : Nat), i < l.length → (Ma.vR (l.getD i v0)).cells.all plain1 = true]) : PureTo Try.prog 58 [valsQ l] (AV.sl 5 (Seq.fn l.length fun (i : Nat) => Ma.vR (l.getD i v0)) false) :=
  evFn_pure hm soB4 (fn := Try.f58) rfl rfl (ti := false) (hs := []) (c := _) (by kernel_rfl) h
-- 1 paths
theorem vcloneN1  (h : AllP []) : PureTo Try.prog 58 [.v (.slice none 0 0)] (AV.sl 5 (Seq.avs []) false) :=
  evFn_pure hm soB4 (fn := Try.f58) rfl rfl (ti := false) (hs := []) (c := _) (by kernel_rfl) h
-- 1 paths
theorem vcloneE1  (h : AllP []) : PureTo Try.prog 58 [.sle] (AV.sl 5 (Seq.avs []) false) :=
  evFn_pure hm soB4 (fn := Try.f58) rfl rfl (ti := false) (hs := []) (c := _) (by kernel_rfl) h
-- 1 paths
theorem cleanAll1 (l : List VR) (n : Nat) (t : Bool) (h : AllP [LoopTo Try.prog (loopAt Try.f18 0) { n := 21, fr := [(0, AV.sl 5 (Seq.fn l.length fun (i : Nat) => Ma.vR (l.getD i v0)) false), (3, AV.row 1 0 0 0 true), (4, AV.v (.int .i64 (0 : Int)))], hp := [(1, AObj.row 49 5 (Seq.avs []) 0)], nx := 2 } (Exit.exit 0) { n := 21, fr := [(3, AV.row 1 0 n n t)], hp := [(1, AObj.row 49 5 (Seq.fn n (clF l)) 0)], nx := 2 }, n = n, 0 ≤ n, ∀ (i : Nat), i < n → (clF l i).cells.all plain1 = true]) : PureTo Try.prog 18 [valsQ l] (AV.sl 5 (Seq.fn n (clF l)) (t && false)) :=
  evFn_pure hm soB4 (fn := Try.f18) rfl rfl (ti := false) (hs := [CHint.ops 1 [(0, Hint.own)], CHint.loop [0, 3, 4] [1] 2 (Exit.exit 0) (clX l n t)]) (c := _) (by kernel_rfl) h
end Go.Proofs.Ma
