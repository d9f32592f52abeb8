/- Contracts of the program's functions, and the plain law behind them. No condition beyond those in each statement. -/
import Derived.Test.YtcjpfafmaecgiaaMaAll2
import Derived.Test.YtcjpfafmaecgiaaEvAll5
set_option linter.unusedSimpArgs false
set_option linter.unusedVariables false
set_option linter.unusedSectionVars false
/- Machine: walks, written by the tool. -/
set_option maxRecDepth 100000
namespace Go.Proofs.Ma
open Go Go.Ev

-- 1 paths
theorem nan1  (h : AllP []) : PureTo Try.prog 59 [] (AV.v (.float FloatKind.f64 9221120237041090560)) :=
  evFn_pure hm soM2 (fn := Try.f59) rfl rfl (ti := false) (hs := []) (c := _) (by kernel_rfl) h
-- 1 paths
theorem text1 (s : ByteArray) (h : AllP [(2 : Int) ≠ (0 : Int), inR IntKind.i64 ((↑s.size : Int).tdiv (2 : Int)), inR IntKind.i64 ((↑s.size : Int).tdiv (2 : Int) * (2 : Int)), (0 : Int) ≤ (↑s.size : Int).tdiv (2 : Int) * (2 : Int) ∧ (↑s.size : Int).tdiv (2 : Int) * (2 : Int) ≤ (↑s.size : Int)]) : PureTo Try.prog 37 [.v (.string s)] (AV.v (.string (s.extract 0 ((↑s.size : Int).tdiv (2 : Int) * (2 : Int)).toNat))) :=
  evFn_pure hm soM2 (fn := Try.f37) rfl rfl (ti := false) (hs := []) (c := _) (by kernel_rfl) h
end Go.Proofs.Ma

/- Machine: contracts of texts and NaN. -/
set_option maxRecDepth 100000
namespace Go.Proofs.Ma
open Go Go.Ev
def txt (s : ByteArray) : ByteArray := s.extract 0 ((s.size : Int).tdiv 2 * 2).toNat
theorem text_pure (s : ByteArray) (hs : s.size ≤ 9223372036854775807) : PureTo Try.prog 37 [.v (.string s)] (.v (.string (txt s))) := by
  have e : (s.size : Int).tdiv 2 = (s.size : Int) / 2 := Int.tdiv_eq_ediv_of_nonneg (by omega)
  exact text1 s ⟨by omega, by rw [e]; exact ⟨by omega, by omega⟩, by rw [e]; exact ⟨by omega, by omega⟩, by rw [e]; exact ⟨by omega, by omega⟩, trivial⟩
def sigNan0 : List AV → Option (AV × List Prop)
  | [] => some (.v (.float .f64 9221120237041090560), [])
  | _ => none
def sigText : List AV → Option (AV × List Prop)
  | [.v (.string s)] => some (.v (.string (txt s)), [s.size ≤ 9223372036854775807])
  | _ => none
def SB1 : SGT := (59, .p sigNan0) :: (37, .p sigText) :: SM2
theorem soB1 : SigsOK Try.prog SB1 := by
  refine sigs_cons (sigs_cons soM2 ?_) ?_
  · intro ys r c h hc
    unfold sigText at h
    split at h
    · cases h; exact text_pure _ hc.1
    · cases h
  · intro ys r c h hc
    unfold sigNan0 at h
    split at h
    · cases h; exact nan1 trivial
    · cases h
end Go.Proofs.Ma

/- Machine: walks, written by the tool. -/
set_option maxRecDepth 100000
namespace Go.Proofs.Ma
open Go Go.Ev

-- 2 paths
theorem number1 (x : Nat) (h : AllP [isNaN x = true]) : PureTo Try.prog 50 [.v (.float .f64 x)] (AV.agg [AV.v (.int .i64 (3 : Int)), AV.v (.bool false), AV.v (.float FloatKind.f64 9221120237041090560), AV.v (.string (ByteArray.mk #[])), AV.v (.int .i64 (0 : Int))]) :=
  evFn_pure hm soB1 (fn := Try.f50) rfl rfl (ti := false) (hs := [CHint.ops 1 [(1, Hint.b true)]]) (c := _) (by kernel_rfl) h
theorem number2 (x : Nat) (h : AllP [isNaN x = false]) : PureTo Try.prog 50 [.v (.float .f64 x)] (AV.agg [AV.v (.int .i64 (3 : Int)), AV.v (.bool false), AV.v (.float FloatKind.f64 x), AV.v (.string (ByteArray.mk #[])), AV.v (.int .i64 (0 : Int))]) :=
  evFn_pure hm soB1 (fn := Try.f50) rfl rfl (ti := false) (hs := [CHint.ops 1 [(1, Hint.b false)]]) (c := _) (by kernel_rfl) h
theorem alike_ev (k : Int) (b : Bool) (x : Nat) (s : ByteArray) (o : Int) (k' : Int) (b' : Bool) (x' : Nat) (s' : ByteArray) (o' : Int) (h : AllP []) : PureTo Try.prog 45 [.agg [.v (.int .i64 k), .v (.bool b), .v (.float .f64 x), .v (.string s), .v (.int .i64 o)], .agg [.v (.int .i64 k'), .v (.bool b'), .v (.float .f64 x'), .v (.string s'), .v (.int .i64 o')]] (AV.v (.bool (bif bif b == b' then s.toList == s'.toList else false then o == o' else false))) :=
  evFnM_pure hm soB1 (fn := Try.f45) rfl rfl (ti := false) (m := Mode.same) (hs := [MHint.ops 1 [] [(5, 6), (12, 6)]]) (c := _) (by kernel_rfl) (by kernel_rfl) h
def alike (k : Int) (b : Bool) (x : Nat) (s : ByteArray) (o : Int) (k' : Int) (b' : Bool) (x' : Nat) (s' : ByteArray) (o' : Int) : Bool := bif bif b == b' then s.toList == s'.toList else false then o == o' else false
theorem alike_pure (k : Int) (b : Bool) (x : Nat) (s : ByteArray) (o : Int) (k' : Int) (b' : Bool) (x' : Nat) (s' : ByteArray) (o' : Int) : PureTo Try.prog 45 [.agg [.v (.int .i64 k), .v (.bool b), .v (.float .f64 x), .v (.string s), .v (.int .i64 o)], .agg [.v (.int .i64 k'), .v (.bool b'), .v (.float .f64 x'), .v (.string s'), .v (.int .i64 o')]] (AV.v (.bool (alike k b x s o k' b' x' s' o'))) := alike_ev k b x s o k' b' x' s' o' trivial
end Go.Proofs.Ma

/- Machine: contracts of Number and alike. -/
set_option maxRecDepth 100000
namespace Go.Proofs.Ma
open Go Go.Ev
/-- a value -/
abbrev vA (k : Int) (b : Bool) (x : Nat) (s : ByteArray) (o : Int) : AV := .agg [.v (.int .i64 k), .v (.bool b), .v (.float .f64 x), .v (.string s), .v (.int .i64 o)]
def numB (x : Nat) : Nat := bif isNaN x then 9221120237041090560 else x
theorem number_pure (x : Nat) : PureTo Try.prog 50 [.v (.float .f64 x)] (vA 3 false (numB x) ByteArray.empty 0) := by
  unfold numB
  cases h : isNaN x with
  | true => exact number1 x ⟨h, trivial⟩
  | false => exact number2 x ⟨h, trivial⟩
def sigNumber : List AV → Option (AV × List Prop)
  | [.v (.float .f64 x)] => some (vA 3 false (numB x) ByteArray.empty 0, [])
  | _ => none
def sigAlike : List AV → Option (AV × List Prop)
  | [.agg [.v (.int .i64 k), .v (.bool b), .v (.float .f64 x), .v (.string s), .v (.int .i64 o)], .agg [.v (.int .i64 k'), .v (.bool b'), .v (.float .f64 x'), .v (.string s'), .v (.int .i64 o')]] => some (.v (.bool (alike k b x s o k' b' x' s' o')), [])
  | _ => none
def SB2 : SGT := (50, .p sigNumber) :: (45, .p sigAlike) :: SB1
theorem soB2 : SigsOK Try.prog SB2 := by
  refine sigs_cons (sigs_cons soB1 ?_) ?_
  · intro ys r c h hc
    unfold sigAlike at h
    split at h
    · cases h; exact alike_pure _ _ _ _ _ _ _ _ _ _
    · cases h
  · intro ys r c h hc
    unfold sigNumber at h
    split at h
    · cases h; exact number_pure _
    · cases h
end Go.Proofs.Ma

/- Machine: walks, written by the tool. -/
set_option maxRecDepth 100000
namespace Go.Proofs.Ma
open Go Go.Ev

theorem mayV_ev (k : Int) (b : Bool) (x : Nat) (s : ByteArray) (o : Int) (h : AllP [(!s.toList == (ByteArray.mk #[]).toList) = true → AllP [(k == (4 : Int)) = true → AllP [(2 : Int) ≠ (0 : Int)]]]) : PureTo Try.prog 38 [vA k b x s o] (AV.v (.bool (bif bif bif bif bif decide (k ≥ (0 : Int)) then decide (k ≤ (5 : Int)) else false then bif !b then true else k == (2 : Int) else false then bif (↑x : Int) == (0 : Int) then true else bif k == (3 : Int) then (↑(numB x) : Int) == (↑x : Int) else false else false then bif s.toList == (ByteArray.mk #[]).toList then true else bif k == (4 : Int) then (↑s.size : Int).tmod (2 : Int) == (0 : Int) else false else false then bif o == (0 : Int) then true else bif k == (5 : Int) then decide (o > (0 : Int)) else false else false))) :=
  evFnM_pure hm soB2 (fn := Try.f38) rfl rfl (ti := false) (m := Mode.same) (hs := [MHint.ops 1 [] [(3, 4)], MHint.tree 2 [] [4, 8], MHint.join { slots := [(4, Mode.mix), (3, Mode.same), (1, Mode.same)], keys := [(0, Mode.parts [Mode.same, Mode.same, Mode.same, Mode.same, Mode.same])] }, MHint.ops 3 [] [(3, 11), (7, 6)], MHint.ops 4 [] [(3, 9), (7, 4)], MHint.ops 5 [] [(3, 4), (8, 2), (11, 2), (14, 2), (17, 2)]]) (c := _) (by kernel_rfl) (by kernel_rfl) h
def mayV (k : Int) (b : Bool) (x : Nat) (s : ByteArray) (o : Int) : Bool := bif bif bif bif bif decide (k ≥ (0 : Int)) then decide (k ≤ (5 : Int)) else false then bif !b then true else k == (2 : Int) else false then bif (↑x : Int) == (0 : Int) then true else bif k == (3 : Int) then (↑(numB x) : Int) == (↑x : Int) else false else false then bif s.toList == (ByteArray.mk #[]).toList then true else bif k == (4 : Int) then (↑s.size : Int).tmod (2 : Int) == (0 : Int) else false else false then bif o == (0 : Int) then true else bif k == (5 : Int) then decide (o > (0 : Int)) else false else false
theorem mayV_pure (k : Int) (b : Bool) (x : Nat) (s : ByteArray) (o : Int) (h : AllP [(!s.toList == (ByteArray.mk #[]).toList) = true → AllP [(k == (4 : Int)) = true → AllP [(2 : Int) ≠ (0 : Int)]]]) : PureTo Try.prog 38 [vA k b x s o] (AV.v (.bool (mayV k b x s o))) := mayV_ev k b x s o h
theorem bits_ev (k : Int) (b : Bool) (x : Nat) (s : ByteArray) (o : Int) (h : AllP []) : PureTo Try.prog 23 [vA k b x s o, vA k b x s o] (AV.v (.bool (bif k == k then bif alike k b x s o k b x s o then (↑x : Int) == (↑x : Int) else false else bif false then (↑x : Int) == (↑x : Int) else false))) :=
  evFnM_pure hm soB2 (fn := Try.f23) rfl rfl (ti := false) (m := Mode.same) (hs := [MHint.tree 1 [] [5, 10], MHint.join { slots := [(4, Mode.mix)], keys := [] }]) (c := _) (by kernel_rfl) (by kernel_rfl) h
def bits (k : Int) (b : Bool) (x : Nat) (s : ByteArray) (o : Int) : Bool := bif k == k then bif alike k b x s o k b x s o then (↑x : Int) == (↑x : Int) else false else bif false then (↑x : Int) == (↑x : Int) else false
theorem bits_pure (k : Int) (b : Bool) (x : Nat) (s : ByteArray) (o : Int) : PureTo Try.prog 23 [vA k b x s o, vA k b x s o] (AV.v (.bool (bits k b x s o))) := bits_ev k b x s o trivial
end Go.Proofs.Ma

/- Machine: contracts of May and Bits. -/
set_option maxRecDepth 100000
namespace Go.Proofs.Ma
open Go Go.Ev
theorem may_c (k : Int) (b : Bool) (x : Nat) (s : ByteArray) (o : Int) : PureTo Try.prog 38 [vA k b x s o] (.v (.bool (mayV k b x s o))) :=
  mayV_pure k b x s o ⟨fun _ => ⟨fun _ => ⟨by decide, trivial⟩, trivial⟩, trivial⟩
theorem bits_c2 (k : Int) (b : Bool) (x : Nat) (s : ByteArray) (o : Int) : PureTo Try.prog 23 [vA k b x s o, vA k b x s o] (.v (.bool true)) := by
  have h := bits_pure k b x s o
  have e : bits k b x s o = true := by unfold bits alike; simp
  rw [e] at h
  exact h
def sigMayV : List AV → Option (AV × List Prop)
  | [.agg [.v (.int .i64 k), .v (.bool b), .v (.float .f64 x), .v (.string s), .v (.int .i64 o)]] => some (.v (.bool (mayV k b x s o)), [])
  | _ => none
def sigBits2 : List AV → Option (AV × List Prop)
  | [.agg [.v (.int .i64 k), .v (.bool b), .v (.float .f64 x), .v (.string s), .v (.int .i64 o)], y] => some (.v (.bool true), [y = vA k b x s o])
  | _ => none
def SB3 : SGT := (38, .p sigMayV) :: (23, .p sigBits2) :: SB2
theorem soB3 : SigsOK Try.prog SB3 := by
  refine sigs_cons (sigs_cons soB2 ?_) ?_
  · intro ys r c h hc
    unfold sigBits2 at h
    split at h
    · cases h; rw [hc.1]; exact bits_c2 _ _ _ _ _
    · cases h
  · intro ys r c h hc
    unfold sigMayV at h
    split at h
    · cases h; exact may_c _ _ _ _ _
    · cases h
/-- an end -/
abbrev dA (K k : Int) (b : Bool) (x : Nat) (s : ByteArray) (o : Int) (L : ByteArray) : AV := .agg [.v (.int .i64 K), .v (.int .i64 k), .v (.bool b), .v (.float .f64 x), .v (.string s), .v (.int .i64 o), .v (.string L)]
end Go.Proofs.Ma

/- Machine: walks, written by the tool. -/
set_option maxRecDepth 100000
namespace Go.Proofs.Ma
open Go Go.Ev

-- 2 paths
theorem cleanV1 (k : Int) (b : Bool) (x : Nat) (s : ByteArray) (o : Int) (h : AllP [mayV k b x s o = true]) : PureTo Try.prog 17 [vA k b x s o] (AV.agg [AV.v (.int .i64 k), AV.v (.bool b), AV.v (.float FloatKind.f64 x), AV.v (.string s), AV.v (.int .i64 o)]) :=
  evFn_pure hm soB3 (fn := Try.f17) rfl rfl (ti := false) (hs := [CHint.ops 1 [(1, Hint.b true)]]) (c := _) (by kernel_rfl) h
theorem cleanV2 (k : Int) (b : Bool) (x : Nat) (s : ByteArray) (o : Int) (h : AllP [mayV k b x s o = false]) : PureTo Try.prog 17 [vA k b x s o] (AV.agg [AV.v (.int .i64 (0 : Int)), AV.v (.bool false), AV.v (.float FloatKind.f64 0), AV.v (.string (ByteArray.mk #[])), AV.v (.int .i64 (0 : Int))]) :=
  evFn_pure hm soB3 (fn := Try.f17) rfl rfl (ti := false) (hs := [CHint.ops 1 [(1, Hint.b false)]]) (c := _) (by kernel_rfl) h
-- 3 paths
theorem sameD1 (K k : Int) (b : Bool) (x : Nat) (s : ByteArray) (o : Int) (L : ByteArray) (h : AllP [(K != K) = false, (!L.toList == L.toList) = true]) : PureTo Try.prog 24 [dA K k b x s o L, dA K k b x s o L] (AV.v (.bool false)) :=
  evFn_pure hm soB3 (fn := Try.f24) rfl rfl (ti := false) (hs := [CHint.ops 1 [(4, Hint.b false), (10, Hint.b true)]]) (c := _) (by kernel_rfl) h
theorem sameD2 (K k : Int) (b : Bool) (x : Nat) (s : ByteArray) (o : Int) (L : ByteArray) (h : AllP [(K != K) = false, (!L.toList == L.toList) = false, (k != k) = false, (k == (5 : Int)) = true]) : PureTo Try.prog 24 [dA K k b x s o L, dA K k b x s o L] (AV.v (.bool true)) :=
  evFn_pure hm soB3 (fn := Try.f24) rfl rfl (ti := false) (hs := [CHint.ops 1 [(4, Hint.b false), (10, Hint.b false), (19, Hint.b false)], CHint.ops 3 [(3, Hint.b true)]]) (c := _) (by kernel_rfl) h
theorem sameD3 (K k : Int) (b : Bool) (x : Nat) (s : ByteArray) (o : Int) (L : ByteArray) (h : AllP [(K != K) = false, (!L.toList == L.toList) = false, (k != k) = false, (k == (5 : Int)) = false, AV.agg [AV.v (.int .i64 k), AV.v (.bool b), AV.v (.float FloatKind.f64 x), AV.v (.string s), AV.v (.int .i64 o)] = vA k b x s o]) : PureTo Try.prog 24 [dA K k b x s o L, dA K k b x s o L] (AV.v (.bool true)) :=
  evFn_pure hm soB3 (fn := Try.f24) rfl rfl (ti := false) (hs := [CHint.ops 1 [(4, Hint.b false), (10, Hint.b false), (19, Hint.b false)], CHint.ops 3 [(3, Hint.b false)]]) (c := _) (by kernel_rfl) h
end Go.Proofs.Ma
