/- Contracts of the program's functions, and the plain law behind them. No condition beyond those in each statement. -/
import Derived.Test.YtipiambcccfhmaaGreatDoorAsAll2
import Derived.Test.YtipiambcccfhmaaGreatDoorEvAll6
import Derived.Test.YtipiambcccfhmaaGreatDoorAsAll1
set_option linter.unusedSimpArgs false
set_option linter.unusedVariables false
set_option linter.unusedSectionVars false
/- Ast: the closed run, written by the tool. -/
set_option maxRecDepth 100000
namespace Go.Proofs.As
open Go Go.Ev
variable [MX]

-- 1 paths
theorem ntx1 (mxi : MX) (h : AllP [[some (AObj.row 135 1 (.ints .u8 [(0 : Int), (0 : Int), (0 : Int), (0 : Int), (0 : Int), (0 : Int), (0 : Int), (0 : Int), (0 : Int), (0 : Int), (0 : Int), (0 : Int), (0 : Int), (0 : Int), (0 : Int), (0 : Int), (0 : Int), (0 : Int), (0 : Int), (0 : Int), (0 : Int), (0 : Int), (0 : Int), (0 : Int), (0 : Int), (0 : Int), (0 : Int), (0 : Int), (0 : Int), (0 : Int), (0 : Int), (0 : Int)]) 0)] = [some (AObj.row 135 1 (.ints .u8 [(0 : Int), (0 : Int), (0 : Int), (0 : Int), (0 : Int), (0 : Int), (0 : Int), (0 : Int), (0 : Int), (0 : Int), (0 : Int), (0 : Int), (0 : Int), (0 : Int), (0 : Int), (0 : Int), (0 : Int), (0 : Int), (0 : Int), (0 : Int), (0 : Int), (0 : Int), (0 : Int), (0 : Int), (0 : Int), (0 : Int), (0 : Int), (0 : Int), (0 : Int), (0 : Int), (0 : Int), (0 : Int)]) 0)]]) : PureTo Tryz.prog 93 [.v (.float .f64 4607182418800017408)] (AV.v (.string (strOfInts (List.replicate 0 (0 : Int) ++ [(0 : Int), byteAt ((strOfInts [(49 : Int), (101 : Int), (43 : Int), (48 : Int), (48 : Int)]).extract 0 1 ++ (ByteArray.mk #[])) 0])))) :=
  runR_pure (IN := inlJ Tryz.prog (SQ0) 200 40) ((inlJ_ok hm ng soQ0 40)) (hs := [JH.r 1 [] [] [[JH.r 9 [] [] [[JH.r 1 [] [] [[JH.r 1 [] [] [[JH.r 4 [] [] [[JH.r 9 [] [1] [], JH.r 33 [(0, Hint.own)] [] [], JH.r 37 [] [] [[JH.r 29 [] [] [[JH.r 1 [] [] [[JH.r 11 [(2, Hint.wrap)] [] []]]], [], []], JH.r 30 [] [] [[JH.r 1 [] [] [[JH.r 11 [(2, Hint.wrap)] [] []]]], [], []]]], JH.r 38 [(4, Hint.at 116)] [] []]]]]]], JH.r 2 [] [] [[JH.r 1 [] [] [[JH.r 1 [] [] [[JH.r 5 [] [] [[JH.r 1 [] [2] []]]]]]]]], JH.r 4 [] [] [[JH.r 3 [] [] [[JH.r 4 [] [3] []]]]]]]], []]]) (c := [[some (AObj.row 135 1 (.ints .u8 [(0 : Int), (0 : Int), (0 : Int), (0 : Int), (0 : Int), (0 : Int), (0 : Int), (0 : Int), (0 : Int), (0 : Int), (0 : Int), (0 : Int), (0 : Int), (0 : Int), (0 : Int), (0 : Int), (0 : Int), (0 : Int), (0 : Int), (0 : Int), (0 : Int), (0 : Int), (0 : Int), (0 : Int), (0 : Int), (0 : Int), (0 : Int), (0 : Int), (0 : Int), (0 : Int), (0 : Int), (0 : Int)]) 0)] = [some (AObj.row 135 1 (.ints .u8 [(0 : Int), (0 : Int), (0 : Int), (0 : Int), (0 : Int), (0 : Int), (0 : Int), (0 : Int), (0 : Int), (0 : Int), (0 : Int), (0 : Int), (0 : Int), (0 : Int), (0 : Int), (0 : Int), (0 : Int), (0 : Int), (0 : Int), (0 : Int), (0 : Int), (0 : Int), (0 : Int), (0 : Int), (0 : Int), (0 : Int), (0 : Int), (0 : Int), (0 : Int), (0 : Int), (0 : Int), (0 : Int)]) 0)]]) (by kernel_rfl) h rfl
end Go.Proofs.As

/- Ast: the text of one. -/
set_option maxRecDepth 100000
namespace Go.Proofs.As
open Go Go.Ev
variable [MX]

theorem tx_c : PureTo Tryz.prog 93 [.v (.float .f64 4607182418800017408)] (.v (.string ⟨#[0, 49]⟩)) := by
  have h := ntx1 inferInstance ⟨rfl, trivial⟩
  have e : (strOfInts (List.replicate 0 (0 : Int) ++ [(0 : Int), byteAt ((strOfInts [(49 : Int), (101 : Int), (43 : Int), (48 : Int), (48 : Int)]).extract 0 1 ++ (ByteArray.mk #[])) 0])) = ⟨#[0, 49]⟩ := by kernel_rfl
  rw [e] at h
  exact h
def sigTx : List AV → Option (AV × List Prop)
  | [.v (.float .f64 x)] => match Nat.beq x 4607182418800017408 with
    | true => some (.v (.string ⟨#[0, 49]⟩), [])
    | false => none
  | _ => none
def SQ1 : SGT := (93, .p sigTx) :: SQ0
theorem soQ1 : SigsOK Tryz.prog SQ1 := by
  refine sigs_cons soQ0 ?_
  intro ys r c hs hc
  unfold sigTx at hs
  split at hs
  · split at hs
    · next h => cases hs; rw [Nat.eq_of_beq_eq_true h]; exact tx_c
    · cases hs
  · cases hs
end Go.Proofs.As

/- Ast: the closed run, written by the tool. -/
set_option maxRecDepth 100000
namespace Go.Proofs.As
open Go Go.Ev
variable [MX]

-- 1 paths
theorem awk1 (mxi : MX) (h : AllP [[some (AObj.cells 25 [AV.v (.int .i64 (40 : Int)), AV.v (.string (ByteArray.mk #[])), AV.v (.string (ByteArray.mk #[])), AV.v (.float FloatKind.f64 0), AV.v (.bool false), AV.sl 7 (Seq.avs [AV.agg [AV.v (.int .i64 (47 : Int)), AV.v (.string (ByteArray.mk #[])), AV.v (.string (ByteArray.mk #[])), AV.v (.float FloatKind.f64 0), AV.v (.bool false), AV.sl 7 (Seq.avs [AV.agg [AV.v (.int .i64 (17 : Int)), AV.v (.string (ByteArray.mk #[])), AV.v (.string (ByteArray.mk #[])), AV.v (.float FloatKind.f64 0), AV.v (.bool false), AV.sl 7 (Seq.avs [AV.agg [AV.v (.int .i64 (2 : Int)), AV.v (.string (ByteArray.mk #[])), AV.v (.string (strOfInts [(0 : Int), (102 : Int)])), AV.v (.float FloatKind.f64 0), AV.v (.bool false), AV.v (.slice none 0 0), AV.v (.int .i64 (0 : Int))], AV.agg [AV.v (.int .i64 (5 : Int)), AV.v (.string (ByteArray.mk #[])), AV.v (.string (ByteArray.mk #[])), AV.v (.float FloatKind.f64 4607182418800017408), AV.v (.bool false), AV.v (.slice none 0 0), AV.v (.int .i64 (0 : Int))]]) true, AV.v (.int .i64 (0 : Int))]]) true, AV.v (.int .i64 (0 : Int))]]) true, AV.v (.int .i64 (0 : Int))])] = [some (AObj.cells 25 [AV.v (.int .i64 (40 : Int)), AV.v (.string (ByteArray.mk #[])), AV.v (.string (ByteArray.mk #[])), AV.v (.float FloatKind.f64 0), AV.v (.bool false), AV.sl 7 (Seq.avs [AV.agg [AV.v (.int .i64 (47 : Int)), AV.v (.string (ByteArray.mk #[])), AV.v (.string (ByteArray.mk #[])), AV.v (.float FloatKind.f64 0), AV.v (.bool false), AV.sl 7 (Seq.avs [AV.agg [AV.v (.int .i64 (17 : Int)), AV.v (.string (ByteArray.mk #[])), AV.v (.string (ByteArray.mk #[])), AV.v (.float FloatKind.f64 0), AV.v (.bool false), AV.sl 7 (Seq.avs [AV.agg [AV.v (.int .i64 (2 : Int)), AV.v (.string (ByteArray.mk #[])), AV.v (.string (strOfInts [(0 : Int), (102 : Int)])), AV.v (.float FloatKind.f64 0), AV.v (.bool false), AV.v (.slice none 0 0), AV.v (.int .i64 (0 : Int))], AV.agg [AV.v (.int .i64 (5 : Int)), AV.v (.string (ByteArray.mk #[])), AV.v (.string (ByteArray.mk #[])), AV.v (.float FloatKind.f64 4607182418800017408), AV.v (.bool false), AV.v (.slice none 0 0), AV.v (.int .i64 (0 : Int))]]) true, AV.v (.int .i64 (0 : Int))]]) true, AV.v (.int .i64 (0 : Int))]]) true, AV.v (.int .i64 (0 : Int))])], 1 < 4294967281, 289 < 4294967281]) : PureTo Tryz.prog 10 [] (AV.v (.bool true)) :=
  runR_pure (IN := inlJ Tryz.prog (SQ1) 200 60) ((inlJ_ok hm ng soQ1 60)) (hs := [JH.r 1 [] [] [[], [JH.r 1 [] [] [[JH.r 1 [(14, Hint.at 66)] [] [[], [], [], [JH.r 6 [] [19] [], JH.r 8 [] [] [[], [JH.r 1 [] [] [[JH.r 1 [] [] [[JH.u, JH.r 2 [] [] [], JH.r 3 [] [] [], JH.r 4 [] [] [[JH.r 1 [] [] [[JH.r 1 [] [] [[JH.r 6 [] [19] [], JH.r 8 [] [] [[], [JH.r 1 [] [] [[JH.r 1 [] [] [[JH.u, JH.r 2 [] [] [], JH.r 3 [] [] [], JH.r 4 [] [] [[JH.r 1 [] [] [[JH.r 1 [] [] [[JH.r 6 [] [19] [], JH.r 8 [] [] [[], [JH.r 1 [] [] [[JH.r 1 [] [] [[JH.u, JH.r 2 [] [] [], JH.r 3 [] [] [], JH.r 4 [] [] [[JH.r 1 [] [] [[JH.r 1 [] [] [[JH.r 2 [] [] [[JH.r 3 [] [] [[JH.r 1 [] [] [[], [JH.r 2 [] [4, 11] []]]]]]], JH.r 6 [] [19] []]]]]]], JH.r 6 [] [] [], JH.r 2 [] [] [], JH.r 3 [] [] [], JH.r 4 [] [] [[JH.r 1 [] [] [[JH.r 1 [] [] [[JH.r 6 [] [] [[], [JH.r 1 [] [1] []]]]]]]]], JH.r 6 [] [] [], JH.r 2 [] [] []]]]]]]]]]]]], JH.r 6 [] [] [], JH.r 2 [] [] []]]]]]]]]]]]], JH.r 6 [] [] [], JH.r 2 [] [] []]]]]]]]]]], JH.r 5 [] [] [[JH.u, JH.r 1 [] [] [], JH.r 2 [] [] [], JH.r 3 [] [] [[JH.r 2 [] [] [[JH.r 2 [] [] [[JH.r 6 [] [] [[JH.r 2 [] [] [[JH.r 0 [] [] [[JH.u, JH.r 1 [] [] [], JH.r 2 [] [] [], JH.r 3 [] [] [], JH.r 5 [] [] [], JH.r 6 [] [] [[JH.r 2 [] [] [[JH.r 3 [] [3] []]]]], JH.r 7 [] [] [], JH.r 1 [] [] []]]]]]]]]]]]], JH.r 4 [] [] [], JH.r 5 [] [] [], JH.r 1 [] [] []]]]]]) (c := [[some (AObj.cells 25 [AV.v (.int .i64 (40 : Int)), AV.v (.string (ByteArray.mk #[])), AV.v (.string (ByteArray.mk #[])), AV.v (.float FloatKind.f64 0), AV.v (.bool false), AV.sl 7 (Seq.avs [AV.agg [AV.v (.int .i64 (47 : Int)), AV.v (.string (ByteArray.mk #[])), AV.v (.string (ByteArray.mk #[])), AV.v (.float FloatKind.f64 0), AV.v (.bool false), AV.sl 7 (Seq.avs [AV.agg [AV.v (.int .i64 (17 : Int)), AV.v (.string (ByteArray.mk #[])), AV.v (.string (ByteArray.mk #[])), AV.v (.float FloatKind.f64 0), AV.v (.bool false), AV.sl 7 (Seq.avs [AV.agg [AV.v (.int .i64 (2 : Int)), AV.v (.string (ByteArray.mk #[])), AV.v (.string (strOfInts [(0 : Int), (102 : Int)])), AV.v (.float FloatKind.f64 0), AV.v (.bool false), AV.v (.slice none 0 0), AV.v (.int .i64 (0 : Int))], AV.agg [AV.v (.int .i64 (5 : Int)), AV.v (.string (ByteArray.mk #[])), AV.v (.string (ByteArray.mk #[])), AV.v (.float FloatKind.f64 4607182418800017408), AV.v (.bool false), AV.v (.slice none 0 0), AV.v (.int .i64 (0 : Int))]]) true, AV.v (.int .i64 (0 : Int))]]) true, AV.v (.int .i64 (0 : Int))]]) true, AV.v (.int .i64 (0 : Int))])] = [some (AObj.cells 25 [AV.v (.int .i64 (40 : Int)), AV.v (.string (ByteArray.mk #[])), AV.v (.string (ByteArray.mk #[])), AV.v (.float FloatKind.f64 0), AV.v (.bool false), AV.sl 7 (Seq.avs [AV.agg [AV.v (.int .i64 (47 : Int)), AV.v (.string (ByteArray.mk #[])), AV.v (.string (ByteArray.mk #[])), AV.v (.float FloatKind.f64 0), AV.v (.bool false), AV.sl 7 (Seq.avs [AV.agg [AV.v (.int .i64 (17 : Int)), AV.v (.string (ByteArray.mk #[])), AV.v (.string (ByteArray.mk #[])), AV.v (.float FloatKind.f64 0), AV.v (.bool false), AV.sl 7 (Seq.avs [AV.agg [AV.v (.int .i64 (2 : Int)), AV.v (.string (ByteArray.mk #[])), AV.v (.string (strOfInts [(0 : Int), (102 : Int)])), AV.v (.float FloatKind.f64 0), AV.v (.bool false), AV.v (.slice none 0 0), AV.v (.int .i64 (0 : Int))], AV.agg [AV.v (.int .i64 (5 : Int)), AV.v (.string (ByteArray.mk #[])), AV.v (.string (ByteArray.mk #[])), AV.v (.float FloatKind.f64 4607182418800017408), AV.v (.bool false), AV.v (.slice none 0 0), AV.v (.int .i64 (0 : Int))]]) true, AV.v (.int .i64 (0 : Int))]]) true, AV.v (.int .i64 (0 : Int))]]) true, AV.v (.int .i64 (0 : Int))])], 1 < 4294967281, 289 < 4294967281]) (by kernel_rfl) h rfl
end Go.Proofs.As

/- Ast: sizes. -/
set_option maxRecDepth 100000
namespace Go.Proofs.As
open Go Go.Ev
variable [MX]

theorem awake_c : PureTo Tryz.prog 10 [] (.v (.bool true)) := awk1 inferInstance ⟨rfl, by omega, by omega, trivial⟩
/-- how many nodes a tree has, if not too many -/
def szT (d : Nat) (y : AV) : Int := bif decide (cnt d y 0 ≤ 1048576) then cnt d y 0 else 0
theorem size_c {d : Nat} {y : AV} (h : IsTree d y) : PureTo Tryz.prog 6 [y] (.v (.int .i64 (szT d y))) := by
  have h0 := h
  cases d with
  | zero => exact h.elim
  | succ d =>
    obtain ⟨k, o, s, x, f, m, p, K, O, S, X, F, M, G, Pp, rfl, hm, ht⟩ := h
    unfold szT
    cases hd : decide (cnt (d + 1) (avN k o s x f m (fun i => avN (K i) (O i) (S i) (X i) (F i) (M i) (G i) (Pp i)) p) 0 ≤ 1048576) with
    | true => exact sz1 (d + 1) k p o s x f m _ (soZ (d + 1)) ⟨h0, Int.le_refl 0, by omega, hd, trivial⟩
    | false => exact sz2 (d + 1) k p o s x f m _ (soZ (d + 1)) ⟨h0, Int.le_refl 0, by omega, hd, trivial⟩
theorem rsize_c {d : Nat} {y : AV} (h : IsTree d y) : PureTo Tryz.prog 7 [y] (.v (.int .i64 (szT d y))) := by
  have h0 := h
  cases d with
  | zero => exact h.elim
  | succ d =>
    obtain ⟨k, o, s, x, f, m, p, K, O, S, X, F, M, G, Pp, rfl, hm, ht⟩ := h
    unfold szT
    cases hd : decide (cnt (d + 1) (avN k o s x f m (fun i => avN (K i) (O i) (S i) (X i) (F i) (M i) (G i) (Pp i)) p) 0 ≤ 1048576) with
    | true => exact rsz2 (d + 1) k p o s x f m _ (soZ (d + 1)) ⟨h0, Int.le_refl 0, by omega, decide_eq_false (Int.not_lt.2 (of_decide_eq_true hd)), trivial⟩
    | false => exact rsz1 (d + 1) k p o s x f m _ (soZ (d + 1)) ⟨h0, Int.le_refl 0, by omega, decide_eq_true (Int.not_le.1 (of_decide_eq_false hd)), trivial⟩
def sigSz (d : Nat) : List AV → Option (AV × List Prop)
  | [x] => some (.v (.int .i64 (szT d x)), [IsTree d x])
  | _ => none
def sigAw : List AV → Option (AV × List Prop)
  | [] => some (.v (.bool true), [])
  | _ => none
def SY (d : Nat) : SGT := (10, .p sigAw) :: (6, .p (sigSz d)) :: (7, .p (sigSz d)) :: SZ d
theorem soY (d : Nat) : SigsOK Tryz.prog (SY d) := by
  refine sigs_cons (sigs_cons (sigs_cons (soZ d) ?_) ?_) ?_ <;> intro ys r c hs hc
  · unfold sigSz at hs
    split at hs
    · cases hs; exact rsize_c hc.1
    · cases hs
  · unfold sigSz at hs
    split at hs
    · cases hs; exact size_c hc.1
    · cases hs
  · unfold sigAw at hs
    split at hs
    · cases hs; exact awake_c
    · cases hs
end Go.Proofs.As

/- Ast: walks, written by the tool. -/
set_option maxRecDepth 100000
namespace Go.Proofs.As
open Go Go.Ev

-- 2 paths
theorem dth1 [MX] (d : Nat) (k p : Int) (o s : ByteArray) (x : Nat) (f : Bool) (m : Nat) (g : Nat → AV) (so : SigsOK Tryz.prog (SY d)) (h : AllP [IsTree d (AV.agg [AV.v (.int .i64 k), AV.v (.string o), AV.v (.string s), AV.v (.float FloatKind.f64 x), AV.v (.bool f), AV.sl 7 (Seq.fn m g) false, AV.v (.int .i64 p)]), (szT d (AV.agg [AV.v (.int .i64 k), AV.v (.string o), AV.v (.string s), AV.v (.float FloatKind.f64 x), AV.v (.bool f), AV.sl 7 (Seq.fn m g) false, AV.v (.int .i64 p)]) == (0 : Int)) = true]) : PureTo Tryz.prog 8 [avN k o s x f m g p] (AV.v (.int .i64 (0 : Int))) :=
  evFn_pure hm so (fn := Tryz.f8) rfl rfl (ti := false) (hs := [CHint.ops 1 [(2, Hint.b true)]]) (c := _) (by kernel_rfl) h
theorem dth2 [MX] (d : Nat) (k p : Int) (o s : ByteArray) (x : Nat) (f : Bool) (m : Nat) (g : Nat → AV) (so : SigsOK Tryz.prog (SY d)) (h : AllP [IsTree d (AV.agg [AV.v (.int .i64 k), AV.v (.string o), AV.v (.string s), AV.v (.float FloatKind.f64 x), AV.v (.bool f), AV.sl 7 (Seq.fn m g) false, AV.v (.int .i64 p)]), (szT d (AV.agg [AV.v (.int .i64 k), AV.v (.string o), AV.v (.string s), AV.v (.float FloatKind.f64 x), AV.v (.bool f), AV.sl 7 (Seq.fn m g) false, AV.v (.int .i64 p)]) == (0 : Int)) = false, IsTree d (AV.agg [AV.v (.int .i64 k), AV.v (.string o), AV.v (.string s), AV.v (.float FloatKind.f64 x), AV.v (.bool f), AV.sl 7 (Seq.fn m g) false, AV.v (.int .i64 p)]), dp d (AV.agg [AV.v (.int .i64 k), AV.v (.string o), AV.v (.string s), AV.v (.float FloatKind.f64 x), AV.v (.bool f), AV.sl 7 (Seq.fn m g) false, AV.v (.int .i64 p)]) ≤ (1048576 : Int)]) : PureTo Tryz.prog 8 [avN k o s x f m g p] (AV.v (.int .i64 (dp d (AV.agg [AV.v (.int .i64 k), AV.v (.string o), AV.v (.string s), AV.v (.float FloatKind.f64 x), AV.v (.bool f), AV.sl 7 (Seq.fn m g) false, AV.v (.int .i64 p)])))) :=
  evFn_pure hm so (fn := Tryz.f8) rfl rfl (ti := false) (hs := [CHint.ops 1 [(2, Hint.b false)]]) (c := _) (by kernel_rfl) h
-- 2 paths
theorem rdth1 [MX] (d : Nat) (k p : Int) (o s : ByteArray) (x : Nat) (f : Bool) (m : Nat) (g : Nat → AV) (so : SigsOK Tryz.prog (SY d)) (h : AllP [IsTree d (AV.agg [AV.v (.int .i64 k), AV.v (.string o), AV.v (.string s), AV.v (.float FloatKind.f64 x), AV.v (.bool f), AV.sl 7 (Seq.fn m g) false, AV.v (.int .i64 p)]), (szT d (AV.agg [AV.v (.int .i64 k), AV.v (.string o), AV.v (.string s), AV.v (.float FloatKind.f64 x), AV.v (.bool f), AV.sl 7 (Seq.fn m g) false, AV.v (.int .i64 p)]) == (0 : Int)) = true]) : PureTo Tryz.prog 9 [avN k o s x f m g p] (AV.v (.int .i64 (0 : Int))) :=
  evFn_pure hm so (fn := Tryz.f9) rfl rfl (ti := false) (hs := [CHint.ops 1 [(2, Hint.b true)]]) (c := _) (by kernel_rfl) h
theorem rdth2 [MX] (d : Nat) (k p : Int) (o s : ByteArray) (x : Nat) (f : Bool) (m : Nat) (g : Nat → AV) (so : SigsOK Tryz.prog (SY d)) (h : AllP [IsTree d (AV.agg [AV.v (.int .i64 k), AV.v (.string o), AV.v (.string s), AV.v (.float FloatKind.f64 x), AV.v (.bool f), AV.sl 7 (Seq.fn m g) false, AV.v (.int .i64 p)]), (szT d (AV.agg [AV.v (.int .i64 k), AV.v (.string o), AV.v (.string s), AV.v (.float FloatKind.f64 x), AV.v (.bool f), AV.sl 7 (Seq.fn m g) false, AV.v (.int .i64 p)]) == (0 : Int)) = false, IsTree d (AV.agg [AV.v (.int .i64 k), AV.v (.string o), AV.v (.string s), AV.v (.float FloatKind.f64 x), AV.v (.bool f), AV.sl 7 (Seq.fn m g) false, AV.v (.int .i64 p)]), dp d (AV.agg [AV.v (.int .i64 k), AV.v (.string o), AV.v (.string s), AV.v (.float FloatKind.f64 x), AV.v (.bool f), AV.sl 7 (Seq.fn m g) false, AV.v (.int .i64 p)]) ≤ (1048576 : Int)]) : PureTo Tryz.prog 9 [avN k o s x f m g p] (AV.v (.int .i64 (dp d (AV.agg [AV.v (.int .i64 k), AV.v (.string o), AV.v (.string s), AV.v (.float FloatKind.f64 x), AV.v (.bool f), AV.sl 7 (Seq.fn m g) false, AV.v (.int .i64 p)])))) :=
  evFn_pure hm so (fn := Tryz.f9) rfl rfl (ti := false) (hs := [CHint.ops 1 [(2, Hint.b false)]]) (c := _) (by kernel_rfl) h
end Go.Proofs.As

/- Ast: depths. -/
set_option maxRecDepth 100000
namespace Go.Proofs.As
open Go Go.Ev
variable [MX]

def dpT (d : Nat) (y : AV) : Int := bif szT d y == 0 then 0 else dp d y
theorem dp_cap {d : Nat} {y : AV} (h : IsTree d y) (hs : (szT d y == 0) = false) : dp d y ≤ 1048576 := by
  unfold szT at hs
  cases hd : decide (cnt d y 0 ≤ 1048576) with
  | false => rw [hd] at hs; cases hs
  | true =>
    have h1 := of_decide_eq_true hd
    have := cnt_dp d y 0 h (Int.le_refl 0) h1
    omega
theorem depth_c {d : Nat} {y : AV} (h : IsTree d y) : PureTo Tryz.prog 8 [y] (.v (.int .i64 (dpT d y))) := by
  have h0 := h
  cases d with
  | zero => exact h.elim
  | succ d =>
    obtain ⟨k, o, s, x, f, m, p, K, O, S, X, F, M, G, Pp, rfl, hm, ht⟩ := h
    unfold dpT
    cases hd : (szT (d + 1) (avN k o s x f m (fun i => avN (K i) (O i) (S i) (X i) (F i) (M i) (G i) (Pp i)) p) == 0) with
    | true => exact dth1 (d + 1) k p o s x f m _ (soY (d + 1)) ⟨h0, hd, trivial⟩
    | false => exact dth2 (d + 1) k p o s x f m _ (soY (d + 1)) ⟨h0, hd, h0, dp_cap h0 hd, trivial⟩
theorem rdepth_c {d : Nat} {y : AV} (h : IsTree d y) : PureTo Tryz.prog 9 [y] (.v (.int .i64 (dpT d y))) := by
  have h0 := h
  cases d with
  | zero => exact h.elim
  | succ d =>
    obtain ⟨k, o, s, x, f, m, p, K, O, S, X, F, M, G, Pp, rfl, hm, ht⟩ := h
    unfold dpT
    cases hd : (szT (d + 1) (avN k o s x f m (fun i => avN (K i) (O i) (S i) (X i) (F i) (M i) (G i) (Pp i)) p) == 0) with
    | true => exact rdth1 (d + 1) k p o s x f m _ (soY (d + 1)) ⟨h0, hd, trivial⟩
    | false => exact rdth2 (d + 1) k p o s x f m _ (soY (d + 1)) ⟨h0, hd, h0, dp_cap h0 hd, trivial⟩
def sigDT (d : Nat) : List AV → Option (AV × List Prop)
  | [x] => some (.v (.int .i64 (dpT d x)), [IsTree d x])
  | _ => none
def SX (d : Nat) : SGT := (8, .p (sigDT d)) :: (9, .p (sigDT d)) :: SY d
theorem soX (d : Nat) : SigsOK Tryz.prog (SX d) := by
  refine sigs_cons (sigs_cons (soY d) ?_) ?_ <;> intro ys r c hs hc
  · unfold sigDT at hs
    split at hs
    · cases hs; exact rdepth_c hc.1
    · cases hs
  · unfold sigDT at hs
    split at hs
    · cases hs; exact depth_c hc.1
    · cases hs
end Go.Proofs.As

/- Ast: walks, written by the tool. -/
set_option maxRecDepth 100000
namespace Go.Proofs.As
open Go Go.Ev

-- 1 paths
theorem szl1 [MX] (d : Nat) (k p : Int) (o s : ByteArray) (x : Nat) (f : Bool) (m : Nat) (g : Nat → AV) (so : SigsOK Tryz.prog (SX d)) (h : AllP [IsTree d (AV.agg [AV.v (.int .i64 k), AV.v (.string o), AV.v (.string s), AV.v (.float FloatKind.f64 x), AV.v (.bool f), AV.sl 7 (Seq.fn m g) false, AV.v (.int .i64 p)]), IsTree d (AV.agg [AV.v (.int .i64 k), AV.v (.string o), AV.v (.string s), AV.v (.float FloatKind.f64 x), AV.v (.bool f), AV.sl 7 (Seq.fn m g) false, AV.v (.int .i64 p)]), (szT d (AV.agg [AV.v (.int .i64 k), AV.v (.string o), AV.v (.string s), AV.v (.float FloatKind.f64 x), AV.v (.bool f), AV.sl 7 (Seq.fn m g) false, AV.v (.int .i64 p)]) == szT d (AV.agg [AV.v (.int .i64 k), AV.v (.string o), AV.v (.string s), AV.v (.float FloatKind.f64 x), AV.v (.bool f), AV.sl 7 (Seq.fn m g) false, AV.v (.int .i64 p)])) = true, IsTree d (AV.agg [AV.v (.int .i64 k), AV.v (.string o), AV.v (.string s), AV.v (.float FloatKind.f64 x), AV.v (.bool f), AV.sl 7 (Seq.fn m g) false, AV.v (.int .i64 p)]), IsTree d (AV.agg [AV.v (.int .i64 k), AV.v (.string o), AV.v (.string s), AV.v (.float FloatKind.f64 x), AV.v (.bool f), AV.sl 7 (Seq.fn m g) false, AV.v (.int .i64 p)]), (dpT d (AV.agg [AV.v (.int .i64 k), AV.v (.string o), AV.v (.string s), AV.v (.float FloatKind.f64 x), AV.v (.bool f), AV.sl 7 (Seq.fn m g) false, AV.v (.int .i64 p)]) == dpT d (AV.agg [AV.v (.int .i64 k), AV.v (.string o), AV.v (.string s), AV.v (.float FloatKind.f64 x), AV.v (.bool f), AV.sl 7 (Seq.fn m g) false, AV.v (.int .i64 p)])) = true]) : PureTo Tryz.prog 3 [avN k o s x f m g p] (AV.v (.bool true)) :=
  evFn_pure hm so (fn := Tryz.f3) rfl rfl (ti := false) (hs := [CHint.ops 1 [(4, Hint.b true), (10, Hint.b true)]]) (c := _) (by kernel_rfl) h
end Go.Proofs.As
