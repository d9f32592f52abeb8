/- Contracts of the program's functions, and the plain law behind them. No condition beyond those in each statement. -/
import Derived.Test.YtbmadhdeikoecaaDoorBfAll2
import Derived.Test.YtbmadhdeikoecaaDoorEvAll6
set_option linter.unusedSimpArgs false
set_option linter.unusedVariables false
set_option linter.unusedSectionVars false
/- Contracts of functions, taken over from another seat; no condition beyond those in each statement. -/
set_option maxRecDepth 100000
namespace Go.Proofs.Bf
open Go Go.Ev Ieee

theorem bits_c (x : Nat) : PureTo Tryd.prog 7 [.v (.float .f64 x)] (.v (.int .u64 x)) := bits_pure Tryd.func7 (by kernel_rfl) (by kernel_rfl) (by kernel_rfl) (by kernel_rfl) x

theorem frombits_c (x : Int) : PureTo Tryd.prog 41 [.v (.int .u64 x)] (.v (.float .f64 x.toNat)) := frombits_pure Tryd.func41 (by kernel_rfl) (by kernel_rfl) (by kernel_rfl) (by kernel_rfl) x

def sigOf : List AV → Option (AV × List Prop)
  | [.v (.int .u64 n)] => some (.v (.float .f64 n.toNat), [])
  | _ => none

def SN0 : SGT := (7, .p sigBits) :: (41, .p sigOf) :: []

theorem soN0 : SigsOK Tryd.prog SN0 := by
  refine sigs_cons (sigs_cons sok0 ?_) (sigBits_ok bits_c)
  intro ys r c h hc
  unfold sigOf at h
  split at h
  · cases h; exact frombits_c _
  · cases h

theorem isNaN_ev (x : Nat) (h : AllP []) : PureTo Tryd.prog 17 [.fl .f64 x] (AV.v (.bool !feq FloatKind.f64 x x)) :=
  evFnM_pure hm soN0 (fn := Tryd.f17) rfl rfl (ti := false) (m := Mode.same) (hs := []) (c := _) (by kernel_rfl) (by kernel_rfl) h

def isNaN (x : Nat) : Bool := !feq FloatKind.f64 x x

theorem isNaN_pure (x : Nat) : PureTo Tryd.prog 17 [.fl .f64 x] (AV.v (.bool (isNaN x))) := isNaN_ev x trivial

theorem abs_ev (x : Nat) (h : AllP []) : PureTo Tryd.prog 37 [.v (.float .f64 x)] (AV.v (.float FloatKind.f64 (bitsOf BinOp.andNot IntKind.u64 (↑x : Int) (9223372036854775808 : Int)).toNat)) :=
  evFnM_pure hm soN0 (fn := Tryd.f37) rfl rfl (ti := false) (m := Mode.same) (hs := []) (c := _) (by kernel_rfl) (by kernel_rfl) h

def abs (x : Nat) : Nat := (bitsOf BinOp.andNot IntKind.u64 (↑x : Int) (9223372036854775808 : Int)).toNat

theorem abs_pure (x : Nat) : PureTo Tryd.prog 37 [.v (.float .f64 x)] (AV.v (.float FloatKind.f64 (abs x))) := abs_ev x trivial

theorem cs_ev (x y : Nat) (h : AllP []) : PureTo Tryd.prog 55 [.v (.float .f64 x), .v (.float .f64 y)] (AV.v (.float FloatKind.f64 (bitsOf BinOp.or IntKind.u64 (bitsOf BinOp.andNot IntKind.u64 (↑x : Int) (9223372036854775808 : Int)) (bitsOf BinOp.and IntKind.u64 (↑y : Int) (9223372036854775808 : Int))).toNat)) :=
  evFnM_pure hm soN0 (fn := Tryd.f55) rfl rfl (ti := false) (m := Mode.same) (hs := []) (c := _) (by kernel_rfl) (by kernel_rfl) h

def cs (x y : Nat) : Nat := (bitsOf BinOp.or IntKind.u64 (bitsOf BinOp.andNot IntKind.u64 (↑x : Int) (9223372036854775808 : Int)) (bitsOf BinOp.and IntKind.u64 (↑y : Int) (9223372036854775808 : Int))).toNat

theorem cs_pure (x y : Nat) : PureTo Tryd.prog 55 [.v (.float .f64 x), .v (.float .f64 y)] (AV.v (.float FloatKind.f64 (cs x y))) := cs_ev x y trivial

theorem inf_ev (s : Int) (h : AllP []) : PureTo Tryd.prog 25 [.v (.int .i64 s)] (AV.v (.float FloatKind.f64 (bif decide (s ≥ (0 : Int)) then (9218868437227405312 : Int) else (18442240474082181120 : Int)).toNat)) :=
  evFnM_pure hm soN0 (fn := Tryd.f25) rfl rfl (ti := false) (m := Mode.same) (hs := [MHint.br, MHint.join { slots := [(3, Mode.mix)], keys := [] }]) (c := _) (by kernel_rfl) (by kernel_rfl) h

def inf (s : Int) : Nat := (bif decide (s ≥ (0 : Int)) then (9218868437227405312 : Int) else (18442240474082181120 : Int)).toNat

theorem inf_pure (s : Int) : PureTo Tryd.prog 25 [.v (.int .i64 s)] (AV.v (.float FloatKind.f64 (inf s))) := inf_ev s trivial
-- 1 paths

theorem low63 (x : Nat) : (BitVec.ofNat 64 x &&& ~~~9223372036854775808#64) = BitVec.ofNat 64 (x % 9223372036854775808) := by
  apply BitVec.eq_of_getLsbD_eq
  intro i hi
  have e : (9223372036854775808#64).getLsbD i = decide (i = 63) := by
    rw [show (9223372036854775808#64) = BitVec.ofNat 64 (2 ^ 63) from rfl, BitVec.getLsbD_ofNat, Nat.testBit_two_pow]
    simp [hi]
    omega
  simp only [BitVec.getLsbD_and, BitVec.getLsbD_not, hi, decide_true, Bool.true_and, BitVec.getLsbD_ofNat, e]
  rw [show (9223372036854775808 : Nat) = 2 ^ 63 from rfl, Nat.testBit_mod_two_pow]
  by_cases h : i = 63
  · subst h; simp
  · have : i < 63 := by omega
    simp [h, this]

theorem top63 (x : Nat) : (BitVec.ofNat 64 x &&& 9223372036854775808#64) = BitVec.ofNat 64 (x / 9223372036854775808 % 2 * 9223372036854775808) := by
  apply BitVec.eq_of_getLsbD_eq
  intro i hi
  have e : (9223372036854775808#64).getLsbD i = decide (i = 63) := by
    rw [show (9223372036854775808#64) = BitVec.ofNat 64 (2 ^ 63) from rfl, BitVec.getLsbD_ofNat, Nat.testBit_two_pow]
    simp [hi]
    omega
  simp only [BitVec.getLsbD_and, hi, decide_true, Bool.true_and, BitVec.getLsbD_ofNat, e]
  rw [show (9223372036854775808 : Nat) = 2 ^ 63 from rfl, Nat.testBit_mul_two_pow]
  by_cases h : i = 63
  · subst h
    simp [Nat.testBit, Nat.shiftRight_eq_div_pow]
  · have : ¬ 63 ≤ i := by omega
    simp [h, this]

theorem abs_eq (x : Nat) : abs x = x % 9223372036854775808 := by
  have e : abs x = (IntKind.u64.wrap ((BitVec.ofInt 64 (x : Int) &&& ~~~9223372036854775808#64).toNat : Int)).toNat := rfl
  rw [e, ofInt_nat, low63, BitVec.toNat_ofNat]
  show ((((x % 9223372036854775808) % 2 ^ 64 : Nat) : Int) % 18446744073709551616).toNat = _
  omega

theorem cs_eq (x y : Nat) : cs x y = x % 9223372036854775808 + y / 9223372036854775808 % 2 * 9223372036854775808 := by
  have h1 : bitsOf BinOp.andNot IntKind.u64 (↑x : Int) (9223372036854775808 : Int) = ((x % 9223372036854775808 : Nat) : Int) := by
    have e : bitsOf BinOp.andNot IntKind.u64 (↑x : Int) (9223372036854775808 : Int) = IntKind.u64.wrap ((BitVec.ofInt 64 (x : Int) &&& ~~~9223372036854775808#64).toNat : Int) := rfl
    rw [e, ofInt_nat, low63, BitVec.toNat_ofNat]
    show (((x % 9223372036854775808) % 2 ^ 64 : Nat) : Int) % 18446744073709551616 = _
    omega
  have h2 : bitsOf BinOp.and IntKind.u64 (↑y : Int) (9223372036854775808 : Int) = ((y / 9223372036854775808 % 2 * 9223372036854775808 : Nat) : Int) := by
    have e : bitsOf BinOp.and IntKind.u64 (↑y : Int) (9223372036854775808 : Int) = IntKind.u64.wrap ((BitVec.ofInt 64 (y : Int) &&& 9223372036854775808#64).toNat : Int) := rfl
    rw [e, ofInt_nat, top63, BitVec.toNat_ofNat]
    show (((y / 9223372036854775808 % 2 * 9223372036854775808) % 2 ^ 64 : Nat) : Int) % 18446744073709551616 = _
    omega
  unfold cs
  rw [h1, h2, (or_add (k := .u64) rfl (s := 63) (by omega) (by show _ < ((2 ^ 63 : Nat) : Int); omega) (by omega) (by show _ < (2 ^ 64 : Int); omega) (by omega) (by decide)).1]
  omega

theorem read_low {x y : Nat} (h : x % 9223372036854775808 = y % 9223372036854775808) : nanB .f64 x ↔ nanB .f64 y := by
  rw [nanB_iff, nanB_iff, Go.Fl.read64, Go.Fl.read64, h]
  split
  · exact ⟨fun h => (by cases h), fun h => (by cases h)⟩
  · split
    · exact ⟨fun h => (by cases h), fun h => (by cases h)⟩
    · split
      · exact ⟨fun h => (by cases h), fun h => (by cases h)⟩
      · exact ⟨fun _ => rfl, fun _ => rfl⟩

theorem abs_nan {x : Nat} : nanB .f64 (abs x) ↔ nanB .f64 x := read_low (by rw [abs_eq]; omega)

theorem cs_nan {x y : Nat} : nanB .f64 (cs x y) ↔ nanB .f64 x := read_low (by rw [cs_eq]; omega)

def sigAbs : List AV → Option (AV × List Prop)
  | [.v (.float .f64 a)] => some (.v (.float .f64 (abs a)), [])
  | [.fl .f64 a] => some (.fl .f64 (abs a), [])
  | _ => none

def sigCs : List AV → Option (AV × List Prop)
  | [.v (.float .f64 a), .v (.float .f64 b)] => some (.v (.float .f64 (cs a b)), [])
  | [.v (.float .f64 a), .fl .f64 b] => some (.v (.float .f64 (cs a b)), [¬ nanB .f64 b])
  | [.fl .f64 a, .v (.float .f64 b)] => some (.fl .f64 (cs a b), [])
  | [.fl .f64 a, .fl .f64 b] => some (.fl .f64 (cs a b), [¬ nanB .f64 b])
  | _ => none

theorem cs_fl (a b : Nat) : PureTo Tryd.prog 55 [.fl .f64 a, .v (.float .f64 b)] (.fl .f64 (cs a b)) := by
  intro S vals hwf hr
  obtain ⟨h1, h2⟩ := hr
  match vals, h1 with
  | [v, u], _ =>
    have hv := h2 0 (by simp) (by simp)
    have hu := h2 1 (by simp) (by simp)
    simp only [List.getElem_cons_zero, List.getElem_cons_succ] at hv hu
    obtain ⟨a', rfl, ha⟩ := repI_fl hv
    obtain ⟨rfl, _⟩ := repI_v hu
    refine (cs_pure a' b S [.float .f64 a', .float .f64 b] hwf ⟨rfl, fun i h1 h2 => ?_⟩).mono fun v w' ⟨k1, k2⟩ => ⟨k1, ?_⟩
    · have : i = 0 ∨ i = 1 := by simp at h1; omega
      rcases this with rfl | rfl <;> exact .v _ trivial
    · obtain ⟨rfl, _⟩ := repI_v k2
      refine FRep.repI ?_
      rcases ha with rfl | ⟨n1, n2⟩
      · exact .inl rfl
      · exact .inr ⟨cs_nan.2 n1, cs_nan.2 n2⟩

def SN1 : SGT := (17, .p (sigF fun x => (.v (.bool (isNaN x)), []))) :: (37, .p sigAbs) :: (55, .p sigCs) :: (25, .p (fun | [.v (.int .i64 s)] => some (.v (.float .f64 (inf s)), []) | _ => none)) :: SN0

theorem soN1 : SigsOK Tryd.prog SN1 := by
  refine sigs_cons (sigs_cons (sigs_cons (sigs_cons soN0 ?_) ?_) ?_) (sigF_ok fun x _ => isNaN_pure x)
  · intro ys r c h hc
    split at h
    · cases h; exact inf_pure _
    · cases h
  · intro ys r c h hc
    unfold sigCs at h
    split at h
    · cases h; exact cs_pure _ _
    · cases h
      refine (cs_pure _ _).args rfl fun i h1 h2 => ?_
      have : i = 0 ∨ i = 1 := by simp at h1; omega
      rcases this with rfl | rfl
      · exact .same _
      · exact .num _ hc.1
    · cases h; exact cs_fl _ _
    · cases h
      refine (cs_fl _ _).args rfl fun i h1 h2 => ?_
      have : i = 0 ∨ i = 1 := by simp at h1; omega
      rcases this with rfl | rfl
      · exact .same _
      · exact .num _ hc.1
    · cases h
  · intro ys r c h hc
    unfold sigAbs at h
    split at h
    · cases h; exact abs_pure _
    · cases h; exact PureTo.lift1 abs_pure (fun a h => abs_nan.2 h) _
    · cases h

theorem isInf_ev (x : Nat) (s : Int) (h : AllP []) : PureTo Tryd.prog 18 [.fl .f64 x, .v (.int .i64 s)] (AV.v (.bool (fgt FloatKind.f64 (bif s == (0 : Int) then abs x else bif decide (s < (0 : Int)) then fneg x else x) 9218868437227405311))) :=
  evFnM_pure hm soN1 (fn := Tryd.f18) rfl rfl (ti := false) (m := Mode.same) (hs := [MHint.br, MHint.br, MHint.join { slots := [(0, Mode.mix)], keys := [] }]) (c := _) (by kernel_rfl) (by kernel_rfl) h

def isInf (x : Nat) (s : Int) : Bool := fgt FloatKind.f64 (bif s == (0 : Int) then abs x else bif decide (s < (0 : Int)) then fneg x else x) 9218868437227405311

theorem isInf_pure (x : Nat) (s : Int) : PureTo Tryd.prog 18 [.fl .f64 x, .v (.int .i64 s)] (AV.v (.bool (isInf x s))) := isInf_ev x s trivial

theorem norm (x : Nat) (h : AllP []) : PureTo Tryd.prog 53 [.fl .f64 x] (AV.tup [AV.fl FloatKind.f64 (bif !flt FloatKind.f64 (abs x) 4503599627370496 then x else fmul x 4841369599423283200), AV.v (.int .i64 (bif !flt FloatKind.f64 (abs x) 4503599627370496 then (0 : Int) else (-52 : Int)))]) :=
  evFnM_pure hm soN1 (fn := Tryd.f53) rfl rfl (ti := false) (m := Mode.parts [Mode.mix, Mode.mix]) (hs := [MHint.br]) (c := _) (by kernel_rfl) (by kernel_rfl) h

theorem isNaN_iff {x : Nat} : isNaN x = true ↔ nanB .f64 x := by
  rw [nanB_iff]
  unfold isNaN feq
  cases h : (FloatKind.f64.format.read x).isNaN with
  | true => rw [Go.Fl.nan_order (.inl h)]; simp
  | false => rw [Go.Fl.order_self h]; simp

theorem isNaN_false {x : Nat} : isNaN x = false ↔ ¬ nanB .f64 x := by
  rw [← isNaN_iff]
  simp

/-- a word -/
def W (x : Nat) : Prop := x < 18446744073709551616

/-- a float's exponent as it lies there -/
def expo (x : Nat) : Nat := x / 4503599627370496 % 2048

theorem expo_bits {x : Nat} (h : W x) : bitsOf BinOp.and IntKind.u64 ((↑x : Int) / (4503599627370496 : Int)) (2047 : Int) = (expo x : Int) := by
  unfold W at h
  have := and_low (k := .u64) rfl (x := (x : Int) / 4503599627370496) (s := 11) (by omega) (by show _ < (2 ^ 64 : Int); omega) (by decide)
  rw [show (((2 ^ 11 - 1 : Nat)) : Int) = 2047 from rfl] at this
  rw [this]
  unfold expo
  show (x : Int) / 4503599627370496 % 2048 = _
  omega

def normF (x : Nat) : Nat := bif !flt FloatKind.f64 (abs x) 4503599627370496 then x else fmul x 4841369599423283200

def normE (x : Nat) : Int := bif !flt FloatKind.f64 (abs x) 4503599627370496 then (0 : Int) else (-52 : Int)

def sigInf : List AV → Option (AV × List Prop)
  | [x, .v (.int .i64 s)] => match fbits x with
    | some a => some (.v (.bool (isInf a s)), [])
    | none => none
  | _ => none

theorem sigInf_ok : ∀ ys r c, sigInf ys = some (r, c) → AllP c → PureTo Tryd.prog 18 ys r := by
  intro ys r c hs hc
  unfold sigInf at hs
  split at hs
  · split at hs
    · next a ha =>
      cases hs
      exact (isInf_pure a _).args rfl fun i h1 h2 => by
        have : i = 0 ∨ i = 1 := by simp at h1; omega
        rcases this with rfl | rfl
        · exact fbits_closer ha
        · exact .same _
    · cases hs
  · cases hs

def SN2 : SGT := (18, .p sigInf) :: (53, .p (sigF fun x => (.tup [.fl .f64 (normF x), .v (.int .i64 (normE x))], []))) :: SN1

theorem soN2 : SigsOK Tryd.prog SN2 :=
  sigs_cons (sigs_cons soN1 (sigF_ok fun x _ => norm x trivial)) sigInf_ok

def SN3 : SGT := SN2

theorem soN3 : SigsOK Tryd.prog SN3 := soN2

def SN4 : SGT := SN3

theorem soN4 : SigsOK Tryd.prog SN4 := soN3

def SN5 : SGT := SN4

theorem soN5 : SigsOK Tryd.prog SN5 := soN4

theorem frexp_ev (x : Nat) (h : AllP [(!feq FloatKind.f64 x 0 && !bif isInf x (0 : Int) then true else isNaN x) = true → AllP [¬nanB FloatKind.f64 (normF x), (0 : Int) ≤ (52 : Int), inR IntKind.i64 (IntKind.i64.wrap (bitsOf BinOp.and IntKind.u64 ((↑(normF x) : Int) / (4503599627370496 : Int)) (2047 : Int)) - (1023 : Int)), inR IntKind.i64 (IntKind.i64.wrap (bitsOf BinOp.and IntKind.u64 ((↑(normF x) : Int) / (4503599627370496 : Int)) (2047 : Int)) - (1023 : Int) + (1 : Int)), inR IntKind.i64 (normE x + (IntKind.i64.wrap (bitsOf BinOp.and IntKind.u64 ((↑(normF x) : Int) / (4503599627370496 : Int)) (2047 : Int)) - (1023 : Int) + (1 : Int)))]]) : PureTo Tryd.prog 39 [.v (.float .f64 x)] (AV.tup [AV.v (.float FloatKind.f64 (bif !feq FloatKind.f64 x 0 && !bif isInf x (0 : Int) then true else isNaN x then (bitsOf BinOp.or IntKind.u64 (bitsOf BinOp.andNot IntKind.u64 (↑(normF x) : Int) (9218868437227405312 : Int)) (4602678819172646912 : Int)).toNat else bif feq FloatKind.f64 x 0 then x else x)), AV.v (.int .i64 (bif !feq FloatKind.f64 x 0 && !bif isInf x (0 : Int) then true else isNaN x then normE x + (IntKind.i64.wrap (bitsOf BinOp.and IntKind.u64 ((↑(normF x) : Int) / (4503599627370496 : Int)) (2047 : Int)) - (1023 : Int) + (1 : Int)) else bif feq FloatKind.f64 x 0 then (0 : Int) else (0 : Int)))]) :=
  evFnM_pure hm soN2 (fn := Tryd.f39) rfl rfl (ti := false) (m := Mode.parts [Mode.mix, Mode.mix]) (hs := [MHint.br, MHint.ops 3 [] [(2, 3)], MHint.br]) (c := _) (by kernel_rfl) (by kernel_rfl) h

def frexp_1 (x : Nat) : Nat := bif !feq FloatKind.f64 x 0 && !bif isInf x (0 : Int) then true else isNaN x then (bitsOf BinOp.or IntKind.u64 (bitsOf BinOp.andNot IntKind.u64 (↑(normF x) : Int) (9218868437227405312 : Int)) (4602678819172646912 : Int)).toNat else bif feq FloatKind.f64 x 0 then x else x

def frexp_2 (x : Nat) : Int := bif !feq FloatKind.f64 x 0 && !bif isInf x (0 : Int) then true else isNaN x then normE x + (IntKind.i64.wrap (bitsOf BinOp.and IntKind.u64 ((↑(normF x) : Int) / (4503599627370496 : Int)) (2047 : Int)) - (1023 : Int) + (1 : Int)) else bif feq FloatKind.f64 x 0 then (0 : Int) else (0 : Int)

theorem frexp_pure (x : Nat) (h : AllP [(!feq FloatKind.f64 x 0 && !bif isInf x (0 : Int) then true else isNaN x) = true → AllP [¬nanB FloatKind.f64 (normF x), (0 : Int) ≤ (52 : Int), inR IntKind.i64 (IntKind.i64.wrap (bitsOf BinOp.and IntKind.u64 ((↑(normF x) : Int) / (4503599627370496 : Int)) (2047 : Int)) - (1023 : Int)), inR IntKind.i64 (IntKind.i64.wrap (bitsOf BinOp.and IntKind.u64 ((↑(normF x) : Int) / (4503599627370496 : Int)) (2047 : Int)) - (1023 : Int) + (1 : Int)), inR IntKind.i64 (normE x + (IntKind.i64.wrap (bitsOf BinOp.and IntKind.u64 ((↑(normF x) : Int) / (4503599627370496 : Int)) (2047 : Int)) - (1023 : Int) + (1 : Int)))]]) : PureTo Tryd.prog 39 [.v (.float .f64 x)] (AV.tup [AV.v (.float FloatKind.f64 (frexp_1 x)), AV.v (.int .i64 (frexp_2 x))]) := frexp_ev x h
-- 8 paths

theorem ldexp1 (x : Nat) (e : Int) (h : AllP [feq FloatKind.f64 x 0 = true]) : PureTo Tryd.prog 46 [.v (.float .f64 x), .v (.int .i64 e)] (AV.v (.float FloatKind.f64 x)) :=
  evFn_pure hm soN2 (fn := Tryd.f46) rfl rfl (ti := false) (hs := [CHint.ops 1 [(1, Hint.b true)]]) (c := _) (by kernel_rfl) h

theorem ldexp2 (x : Nat) (e : Int) (h : AllP [feq FloatKind.f64 x 0 = false, isInf x (0 : Int) = true]) : PureTo Tryd.prog 46 [.v (.float .f64 x), .v (.int .i64 e)] (AV.v (.float FloatKind.f64 x)) :=
  evFn_pure hm soN2 (fn := Tryd.f46) rfl rfl (ti := false) (hs := [CHint.ops 1 [(1, Hint.b false)], CHint.ops 3 [(1, Hint.b true)]]) (c := _) (by kernel_rfl) h

theorem ldexp3 (x : Nat) (e : Int) (h : AllP [feq FloatKind.f64 x 0 = false, isInf x (0 : Int) = false, isNaN x = true]) : PureTo Tryd.prog 46 [.v (.float .f64 x), .v (.int .i64 e)] (AV.v (.float FloatKind.f64 x)) :=
  evFn_pure hm soN2 (fn := Tryd.f46) rfl rfl (ti := false) (hs := [CHint.ops 1 [(1, Hint.b false)], CHint.ops 3 [(1, Hint.b false), (4, Hint.b true)]]) (c := _) (by kernel_rfl) h

theorem ldexp4 (x : Nat) (e : Int) (h : AllP [feq FloatKind.f64 x 0 = false, isInf x (0 : Int) = false, isNaN x = false, inR IntKind.i64 (e + normE x), ¬nanB FloatKind.f64 (normF x), (0 : Int) ≤ (52 : Int), inR IntKind.i64 (bitsOf BinOp.and IntKind.i64 (IntKind.i64.wrap ((↑(normF x) : Int) / (4503599627370496 : Int))) (2047 : Int) - (1023 : Int)), inR IntKind.i64 (e + normE x + (bitsOf BinOp.and IntKind.i64 (IntKind.i64.wrap ((↑(normF x) : Int) / (4503599627370496 : Int))) (2047 : Int) - (1023 : Int))), decide (e + normE x + (bitsOf BinOp.and IntKind.i64 (IntKind.i64.wrap ((↑(normF x) : Int) / (4503599627370496 : Int))) (2047 : Int) - (1023 : Int)) < (-1075 : Int)) = true, ¬nanB FloatKind.f64 (normF x)]) : PureTo Tryd.prog 46 [.v (.float .f64 x), .v (.int .i64 e)] (AV.v (.float FloatKind.f64 (cs 0 (normF x)))) :=
  evFn_pure hm soN2 (fn := Tryd.f46) rfl rfl (ti := false) (hs := [CHint.ops 1 [(1, Hint.b false)], CHint.ops 3 [(1, Hint.b false), (4, Hint.b false)], CHint.ops 9 [(1, Hint.b true)]]) (c := _) (by kernel_rfl) h

theorem ldexp5 (x : Nat) (e : Int) (h : AllP [feq FloatKind.f64 x 0 = false, isInf x (0 : Int) = false, isNaN x = false, inR IntKind.i64 (e + normE x), ¬nanB FloatKind.f64 (normF x), (0 : Int) ≤ (52 : Int), inR IntKind.i64 (bitsOf BinOp.and IntKind.i64 (IntKind.i64.wrap ((↑(normF x) : Int) / (4503599627370496 : Int))) (2047 : Int) - (1023 : Int)), inR IntKind.i64 (e + normE x + (bitsOf BinOp.and IntKind.i64 (IntKind.i64.wrap ((↑(normF x) : Int) / (4503599627370496 : Int))) (2047 : Int) - (1023 : Int))), decide (e + normE x + (bitsOf BinOp.and IntKind.i64 (IntKind.i64.wrap ((↑(normF x) : Int) / (4503599627370496 : Int))) (2047 : Int) - (1023 : Int)) < (-1075 : Int)) = false, decide (e + normE x + (bitsOf BinOp.and IntKind.i64 (IntKind.i64.wrap ((↑(normF x) : Int) / (4503599627370496 : Int))) (2047 : Int) - (1023 : Int)) > (1023 : Int)) = true, flt FloatKind.f64 (normF x) 0 = true]) : PureTo Tryd.prog 46 [.v (.float .f64 x), .v (.int .i64 e)] (AV.v (.float FloatKind.f64 18442240474082181120)) :=
  evFn_pure hm soN2 (fn := Tryd.f46) rfl rfl (ti := false) (hs := [CHint.ops 1 [(1, Hint.b false)], CHint.ops 3 [(1, Hint.b false), (4, Hint.b false)], CHint.ops 9 [(1, Hint.b false)], CHint.ops 11 [(1, Hint.b true)], CHint.ops 12 [(1, Hint.b true)]]) (c := _) (by kernel_rfl) h

theorem ldexp6 (x : Nat) (e : Int) (h : AllP [feq FloatKind.f64 x 0 = false, isInf x (0 : Int) = false, isNaN x = false, inR IntKind.i64 (e + normE x), ¬nanB FloatKind.f64 (normF x), (0 : Int) ≤ (52 : Int), inR IntKind.i64 (bitsOf BinOp.and IntKind.i64 (IntKind.i64.wrap ((↑(normF x) : Int) / (4503599627370496 : Int))) (2047 : Int) - (1023 : Int)), inR IntKind.i64 (e + normE x + (bitsOf BinOp.and IntKind.i64 (IntKind.i64.wrap ((↑(normF x) : Int) / (4503599627370496 : Int))) (2047 : Int) - (1023 : Int))), decide (e + normE x + (bitsOf BinOp.and IntKind.i64 (IntKind.i64.wrap ((↑(normF x) : Int) / (4503599627370496 : Int))) (2047 : Int) - (1023 : Int)) < (-1075 : Int)) = false, decide (e + normE x + (bitsOf BinOp.and IntKind.i64 (IntKind.i64.wrap ((↑(normF x) : Int) / (4503599627370496 : Int))) (2047 : Int) - (1023 : Int)) > (1023 : Int)) = true, flt FloatKind.f64 (normF x) 0 = false]) : PureTo Tryd.prog 46 [.v (.float .f64 x), .v (.int .i64 e)] (AV.v (.float FloatKind.f64 9218868437227405312)) :=
  evFn_pure hm soN2 (fn := Tryd.f46) rfl rfl (ti := false) (hs := [CHint.ops 1 [(1, Hint.b false)], CHint.ops 3 [(1, Hint.b false), (4, Hint.b false)], CHint.ops 9 [(1, Hint.b false)], CHint.ops 11 [(1, Hint.b true)], CHint.ops 12 [(1, Hint.b false)]]) (c := _) (by kernel_rfl) h

theorem ldexp7 (x : Nat) (e : Int) (h : AllP [feq FloatKind.f64 x 0 = false, isInf x (0 : Int) = false, isNaN x = false, inR IntKind.i64 (e + normE x), ¬nanB FloatKind.f64 (normF x), (0 : Int) ≤ (52 : Int), inR IntKind.i64 (bitsOf BinOp.and IntKind.i64 (IntKind.i64.wrap ((↑(normF x) : Int) / (4503599627370496 : Int))) (2047 : Int) - (1023 : Int)), inR IntKind.i64 (e + normE x + (bitsOf BinOp.and IntKind.i64 (IntKind.i64.wrap ((↑(normF x) : Int) / (4503599627370496 : Int))) (2047 : Int) - (1023 : Int))), decide (e + normE x + (bitsOf BinOp.and IntKind.i64 (IntKind.i64.wrap ((↑(normF x) : Int) / (4503599627370496 : Int))) (2047 : Int) - (1023 : Int)) < (-1075 : Int)) = false, decide (e + normE x + (bitsOf BinOp.and IntKind.i64 (IntKind.i64.wrap ((↑(normF x) : Int) / (4503599627370496 : Int))) (2047 : Int) - (1023 : Int)) > (1023 : Int)) = false, decide (e + normE x + (bitsOf BinOp.and IntKind.i64 (IntKind.i64.wrap ((↑(normF x) : Int) / (4503599627370496 : Int))) (2047 : Int) - (1023 : Int)) < (-1022 : Int)) = true, inR IntKind.i64 (e + normE x + (bitsOf BinOp.and IntKind.i64 (IntKind.i64.wrap ((↑(normF x) : Int) / (4503599627370496 : Int))) (2047 : Int) - (1023 : Int)) + (53 : Int)), inR IntKind.i64 (e + normE x + (bitsOf BinOp.and IntKind.i64 (IntKind.i64.wrap ((↑(normF x) : Int) / (4503599627370496 : Int))) (2047 : Int) - (1023 : Int)) + (53 : Int) + (1023 : Int)), (0 : Int) ≤ (52 : Int), inR IntKind.u64 ((e + normE x + (bitsOf BinOp.and IntKind.i64 (IntKind.i64.wrap ((↑(normF x) : Int) / (4503599627370496 : Int))) (2047 : Int) - (1023 : Int)) + (53 : Int) + (1023 : Int)) % (18446744073709551616 : Int) * (4503599627370496 : Int))]) : PureTo Tryd.prog 46 [.v (.float .f64 x), .v (.int .i64 e)] (AV.fl FloatKind.f64 (fmul 4368491638549381120 (bitsOf BinOp.or IntKind.u64 (bitsOf BinOp.andNot IntKind.u64 (↑(normF x) : Int) (9218868437227405312 : Int)) ((e + normE x + (bitsOf BinOp.and IntKind.i64 (IntKind.i64.wrap ((↑(normF x) : Int) / (4503599627370496 : Int))) (2047 : Int) - (1023 : Int)) + (53 : Int) + (1023 : Int)) % (18446744073709551616 : Int) * (4503599627370496 : Int))).toNat)) :=
  evFn_pure hm soN2 (fn := Tryd.f46) rfl rfl (ti := false) (hs := [CHint.ops 1 [(1, Hint.b false)], CHint.ops 3 [(1, Hint.b false), (4, Hint.b false)], CHint.ops 9 [(1, Hint.b false)], CHint.ops 11 [(1, Hint.b false)], CHint.ops 16 [(1, Hint.b true)]]) (c := _) (by kernel_rfl) h

theorem ldexp8 (x : Nat) (e : Int) (h : AllP [feq FloatKind.f64 x 0 = false, isInf x (0 : Int) = false, isNaN x = false, inR IntKind.i64 (e + normE x), ¬nanB FloatKind.f64 (normF x), (0 : Int) ≤ (52 : Int), inR IntKind.i64 (bitsOf BinOp.and IntKind.i64 (IntKind.i64.wrap ((↑(normF x) : Int) / (4503599627370496 : Int))) (2047 : Int) - (1023 : Int)), inR IntKind.i64 (e + normE x + (bitsOf BinOp.and IntKind.i64 (IntKind.i64.wrap ((↑(normF x) : Int) / (4503599627370496 : Int))) (2047 : Int) - (1023 : Int))), decide (e + normE x + (bitsOf BinOp.and IntKind.i64 (IntKind.i64.wrap ((↑(normF x) : Int) / (4503599627370496 : Int))) (2047 : Int) - (1023 : Int)) < (-1075 : Int)) = false, decide (e + normE x + (bitsOf BinOp.and IntKind.i64 (IntKind.i64.wrap ((↑(normF x) : Int) / (4503599627370496 : Int))) (2047 : Int) - (1023 : Int)) > (1023 : Int)) = false, decide (e + normE x + (bitsOf BinOp.and IntKind.i64 (IntKind.i64.wrap ((↑(normF x) : Int) / (4503599627370496 : Int))) (2047 : Int) - (1023 : Int)) < (-1022 : Int)) = false, inR IntKind.i64 (e + normE x + (bitsOf BinOp.and IntKind.i64 (IntKind.i64.wrap ((↑(normF x) : Int) / (4503599627370496 : Int))) (2047 : Int) - (1023 : Int)) + (1023 : Int)), (0 : Int) ≤ (52 : Int), inR IntKind.u64 ((e + normE x + (bitsOf BinOp.and IntKind.i64 (IntKind.i64.wrap ((↑(normF x) : Int) / (4503599627370496 : Int))) (2047 : Int) - (1023 : Int)) + (1023 : Int)) % (18446744073709551616 : Int) * (4503599627370496 : Int))]) : PureTo Tryd.prog 46 [.v (.float .f64 x), .v (.int .i64 e)] (AV.fl FloatKind.f64 (fmul 4607182418800017408 (bitsOf BinOp.or IntKind.u64 (bitsOf BinOp.andNot IntKind.u64 (↑(normF x) : Int) (9218868437227405312 : Int)) ((e + normE x + (bitsOf BinOp.and IntKind.i64 (IntKind.i64.wrap ((↑(normF x) : Int) / (4503599627370496 : Int))) (2047 : Int) - (1023 : Int)) + (1023 : Int)) % (18446744073709551616 : Int) * (4503599627370496 : Int))).toNat)) :=
  evFn_pure hm soN2 (fn := Tryd.f46) rfl rfl (ti := false) (hs := [CHint.ops 1 [(1, Hint.b false)], CHint.ops 3 [(1, Hint.b false), (4, Hint.b false)], CHint.ops 9 [(1, Hint.b false)], CHint.ops 11 [(1, Hint.b false)], CHint.ops 16 [(1, Hint.b false)]]) (c := _) (by kernel_rfl) h

theorem isNaN_num {x : Nat} : isNaN x = false ↔ Num x := by rw [isNaN_false, num_iff]

theorem rg_abs (x : Nat) : rg (abs x) = rg x := by unfold rg; rw [abs_eq]; omega

theorem skey_abs (x : Nat) : skey (abs x) = rg x := by
  unfold skey
  have h : (abs x / 9223372036854775808 % 2 == 1) = false := by rw [abs_eq, beq_eq_false_iff_ne]; omega
  rw [h, rg_abs]
  rfl

theorem num_abs {x : Nat} : Num (abs x) ↔ Num x := by unfold Num; rw [rg_abs]

theorem skey_small {c : Nat} (h : c < 9223372036854775808) : skey c = c ∧ rg c = c := by
  have h1 : rg c = c := by unfold rg; omega
  refine ⟨?_, h1⟩
  unfold skey
  have h2 : (c / 9223372036854775808 % 2 == 1) = false := by rw [beq_eq_false_iff_ne]; omega
  rw [h2, h1]
  rfl

theorem num_small {c : Nat} (h : c ≤ 9218868437227405312) : Num c := by unfold Num; rw [(skey_small (by omega)).2]; exact h

theorem isInf_eq (x : Nat) : isInf x 0 = decide (rg x = 9218868437227405312) := by
  have e : isInf x 0 = fgt .f64 (abs x) 9218868437227405311 := rfl
  rw [e]
  by_cases hx : Num x
  · rw [fgt_key (num_abs.2 hx) (num_small (by decide)), skey_abs, (skey_small (c := 9218868437227405311) (by decide)).1]
    unfold Num at hx
    by_cases h : rg x = 9218868437227405312
    · rw [decide_eq_true h, decide_eq_true (by omega)]
    · rw [decide_eq_false h, decide_eq_false (by omega)]
  · rw [(nan_cmp (.inl fun h => hx (num_abs.1 h))).2.2, decide_eq_false fun h => hx (by unfold Num; omega)]

theorem normF_eq {x : Nat} (h : Num x) : normF x = if rg x < 4503599627370496 then fmul x 4841369599423283200 else x := by
  unfold normF
  rw [flt_key (num_abs.2 h) (num_small (by decide)), skey_abs, (skey_small (c := 4503599627370496) (by decide)).1]
  by_cases h1 : rg x < 4503599627370496
  · rw [if_pos h1, decide_eq_true (by omega)]; rfl
  · rw [if_neg h1, decide_eq_false (by omega)]; rfl

theorem normE_eq {x : Nat} (h : Num x) : normE x = if rg x < 4503599627370496 then -52 else 0 := by
  unfold normE
  rw [flt_key (num_abs.2 h) (num_small (by decide)), skey_abs, (skey_small (c := 4503599627370496) (by decide)).1]
  by_cases h1 : rg x < 4503599627370496
  · rw [if_pos h1, decide_eq_true (by omega)]; rfl
  · rw [if_neg h1, decide_eq_false (by omega)]; rfl

theorem fin_read {x : Nat} (h : rg x < 9218868437227405312) : FFin x := ⟨_, _, _, read_num h⟩

theorem normF_clean {x : Nat} (hw : W x) (h : rg x < 9218868437227405312) : FClean (normF x) := by
  rw [normF_eq (by unfold Num; omega)]
  split
  · exact fmul_fin (fin_read h) (fin_read (by decide))
  · exact ⟨hw, by show rg x ≤ _; omega⟩

theorem and_i64 {n : Nat} (h : n < 9223372036854775808) : bitsOf .and .i64 (n : Int) 2047 = ((n % 2048 : Nat) : Int) := by
  have hu := and_low (k := .u64) rfl (x := (n : Int)) (s := 11) (by omega) (by show _ < (2 ^ 64 : Int); omega) (by decide)
  rw [show (((2 ^ 11 - 1 : Nat)) : Int) = 2047 from rfl] at hu
  have e1 : bitsOf .and .u64 (n : Int) 2047 = (((BitVec.ofInt 64 (n : Int) &&& BitVec.ofInt 64 2047).toNat : Nat) : Int) % 18446744073709551616 := rfl
  have e2 : bitsOf .and .i64 (n : Int) 2047 = IntKind.i64.wrap ((BitVec.ofInt 64 (n : Int) &&& BitVec.ofInt 64 2047).toNat : Int) := rfl
  rw [e1] at hu
  rw [e2, IntKind.wrap_i64]
  have hlt := (BitVec.ofInt 64 (n : Int) &&& BitVec.ofInt 64 2047).isLt
  have h3 : ((2 ^ 11 : Nat) : Int) = 2048 := rfl
  rw [h3] at hu
  omega

theorem expo_lt (x : Nat) : expo x < 2048 := Nat.mod_lt _ (by decide)

theorem expo_i64 {x : Nat} (h : W x) : bitsOf BinOp.and IntKind.i64 (IntKind.i64.wrap ((↑x : Int) / (4503599627370496 : Int))) (2047 : Int) = (expo x : Int) := by
  unfold W at h
  have e : IntKind.i64.wrap ((x : Int) / 4503599627370496) = ((x / 4503599627370496 : Nat) : Int) := by
    rw [IntKind.wrap_i64]; omega
  rw [e, and_i64 (by omega)]
  rfl

theorem frexp_c {x : Nat} (hw : W x) : PureTo Tryd.prog 39 [.v (.float .f64 x)] (.tup [.v (.float .f64 (frexp_1 x)), .v (.int .i64 (frexp_2 x))]) := by
  refine frexp_pure x ⟨fun h => ?_, trivial⟩
  rw [isInf_eq] at h
  have hfin : rg x < 9218868437227405312 := by
    cases hn : isNaN x with
    | true => rw [hn] at h; simp at h
    | false =>
      have h1 := isNaN_num.1 hn
      unfold Num at h1
      rw [hn] at h
      by_cases h2 : rg x = 9218868437227405312
      · rw [decide_eq_true h2] at h; simp at h
      · omega
  have hc := normF_clean hw hfin
  have hne := normE_eq (x := x) (by unfold Num; omega)
  rw [expo_bits hc.1, show IntKind.i64.wrap (expo (normF x) : Int) = expo (normF x) by rw [IntKind.wrap_i64]; have := expo_lt (normF x); omega]
  have he := expo_lt (normF x)
  have h3 : normE x = -52 ∨ normE x = 0 := by rw [hne]; split <;> simp
  simp only [AllP, inR]
  (repeat' apply And.intro) <;> first | exact hc.num | omega | exact trivial

/-- another exponent -/
def setE (y : Nat) (E : Int) : Nat := (bitsOf BinOp.or IntKind.u64 (bitsOf BinOp.andNot IntKind.u64 (↑y : Int) (9218868437227405312 : Int)) (E % (18446744073709551616 : Int) * (4503599627370496 : Int))).toNat

/-- a float times a power of 2 -/
def ldexpW (x : Nat) (e : Int) : Nat :=
  if feq .f64 x 0 = true then x else if isInf x 0 = true then x else if isNaN x = true then x else
  let E := e + normE x + ((expo (normF x) : Int) - 1023)
  if E < -1075 then cs 0 (normF x) else if E > 1023 then (if flt .f64 (normF x) 0 = true then 18442240474082181120 else 9218868437227405312)
  else if E < -1022 then fmul 4368491638549381120 (setE (normF x) (E + 53 + 1023)) else fmul 4607182418800017408 (setE (normF x) (E + 1023))

theorem ldexp_c {x : Nat} {e : Int} (hw : W x) (he1 : -4611686018427387904 ≤ e) (he2 : e ≤ 4611686018427387904) : PureTo Tryd.prog 46 [.v (.float .f64 x), .v (.int .i64 e)] (.fl .f64 (ldexpW x e)) := by
  have known : ∀ {a : Nat}, PureTo Tryd.prog 46 [.v (.float .f64 x), .v (.int .i64 e)] (.v (.float .f64 a)) → PureTo Tryd.prog 46 [.v (.float .f64 x), .v (.int .i64 e)] (.fl .f64 a) := fun h => h.ans (.fl _)
  unfold ldexpW
  by_cases h0 : feq .f64 x 0 = true
  · rw [if_pos h0]; exact known (ldexp1 x e ⟨h0, trivial⟩)
  rw [if_neg h0]
  have h0' : feq .f64 x 0 = false := by simpa using h0
  by_cases h1 : isInf x 0 = true
  · rw [if_pos h1]; exact known (ldexp2 x e ⟨h0', h1, trivial⟩)
  rw [if_neg h1]
  have h1' : isInf x 0 = false := by simpa using h1
  by_cases h2 : isNaN x = true
  · rw [if_pos h2]; exact known (ldexp3 x e ⟨h0', h1', h2, trivial⟩)
  rw [if_neg h2]
  have h2' : isNaN x = false := by simpa using h2
  have hfin : rg x < 9218868437227405312 := by
    have h3 := isNaN_num.1 h2'
    unfold Num at h3
    rw [isInf_eq] at h1'
    have := of_decide_eq_false h1'
    omega
  have hc := normF_clean hw hfin
  have hne := normE_eq (x := x) (by unfold Num; omega)
  have h3 : normE x = -52 ∨ normE x = 0 := by rw [hne]; split <;> simp
  have hx := expo_lt (normF x)
  have hcn := hc.num
  have l4 := ldexp4 x e
  have l5 := ldexp5 x e
  have l6 := ldexp6 x e
  have l7 := ldexp7 x e
  have l8 := ldexp8 x e
  rw [expo_i64 hc.1] at l4 l5 l6 l7 l8
  simp only
  generalize hE : e + normE x + ((expo (normF x) : Int) - 1023) = E at *
  have r1 : inR .i64 (e + normE x) := by simp only [inR]; omega
  have r2 : inR .i64 ((expo (normF x) : Int) - 1023) := by simp only [inR]; omega
  have r3 : inR .i64 E := by simp only [inR]; omega
  by_cases g1 : E < -1075
  · rw [if_pos g1]
    exact known (l4 ⟨h0', h1', h2', r1, hcn, by decide, r2, r3, decide_eq_true g1, hcn, trivial⟩)
  rw [if_neg g1]
  by_cases g2 : E > 1023
  · rw [if_pos g2]
    by_cases g3 : flt .f64 (normF x) 0 = true
    · rw [if_pos g3]
      exact known (l5 ⟨h0', h1', h2', r1, hcn, by decide, r2, r3, decide_eq_false g1, decide_eq_true g2, g3, trivial⟩)
    · rw [if_neg g3]
      exact known (l6 ⟨h0', h1', h2', r1, hcn, by decide, r2, r3, decide_eq_false g1, decide_eq_true g2, by simpa using g3, trivial⟩)
  rw [if_neg g2]
  by_cases g3 : E < -1022
  · rw [if_pos g3]
    refine l7 ⟨h0', h1', h2', r1, hcn, by decide, r2, r3, decide_eq_false g1, decide_eq_false g2, decide_eq_true g3, ?_, ?_, by decide, ?_, trivial⟩ <;> (simp only [inR]; omega)
  · rw [if_neg g3]
    refine l8 ⟨h0', h1', h2', r1, hcn, by decide, r2, r3, decide_eq_false g1, decide_eq_false g2, decide_eq_false g3, ?_, by decide, ?_, trivial⟩ <;> (simp only [inR]; omega)

def sigFrexp : List AV → Option (AV × List Prop)
  | [.v (.float .f64 x)] => some (.tup [.v (.float .f64 (frexp_1 x)), .v (.int .i64 (frexp_2 x))], [W x])
  | [.fl .f64 x] => some (.tup [.v (.float .f64 (frexp_1 x)), .v (.int .i64 (frexp_2 x))], [W x, ¬ nanB .f64 x])
  | _ => none

def sigLdexp : List AV → Option (AV × List Prop)
  | [.v (.float .f64 x), .v (.int .i64 e)] => some (.fl .f64 (ldexpW x e), [W x, -4611686018427387904 ≤ e, e ≤ 4611686018427387904])
  | [.fl .f64 x, .v (.int .i64 e)] => some (.fl .f64 (ldexpW x e), [W x, -4611686018427387904 ≤ e, e ≤ 4611686018427387904, ¬ nanB .f64 x])
  | _ => none

theorem sigFrexp_ok {i : FuncId} (h : ∀ x, W x → PureTo Tryd.prog i [.v (.float .f64 x)] (.tup [.v (.float .f64 (frexp_1 x)), .v (.int .i64 (frexp_2 x))])) : ∀ ys r c, sigFrexp ys = some (r, c) → AllP c → PureTo Tryd.prog i ys r := by
  intro ys r c hs hc
  unfold sigFrexp at hs
  split at hs
  · cases hs; exact h _ hc.1
  · cases hs
    exact (h _ hc.1).args rfl fun i h1 h2 => by
      have : i = 0 := by simpa using h1
      subst this
      exact .num _ hc.2.1
  · cases hs

theorem sigLdexp_ok {i : FuncId} (h : ∀ x e, W x → -4611686018427387904 ≤ e → e ≤ 4611686018427387904 → PureTo Tryd.prog i [.v (.float .f64 x), .v (.int .i64 e)] (.fl .f64 (ldexpW x e))) : ∀ ys r c, sigLdexp ys = some (r, c) → AllP c → PureTo Tryd.prog i ys r := by
  intro ys r c hs hc
  unfold sigLdexp at hs
  split at hs
  · cases hs; exact h _ _ hc.1 hc.2.1 hc.2.2.1
  · cases hs
    exact (h _ _ hc.1 hc.2.1 hc.2.2.1).args rfl fun i h1 h2 => by
      have : i = 0 ∨ i = 1 := by simp at h1; omega
      rcases this with rfl | rfl
      · exact .num _ hc.2.2.2.1
      · exact .same _
  · cases hs

def SN6 : SGT := (39, .p sigFrexp) :: (46, .p sigLdexp) :: SN5

theorem soN6 : SigsOK Tryd.prog SN6 := sigs_cons (sigs_cons soN5 (sigLdexp_ok fun _ _ a b c => ldexp_c a b c)) (sigFrexp_ok fun _ h => frexp_c h)

theorem mfrexp1 (x : Nat) (h : AllP [W x]) : PureTo Tryd.prog 19 [.v (.float .f64 x)] (AV.tup [AV.v (.float FloatKind.f64 (frexp_1 x)), AV.v (.int .i64 (frexp_2 x))]) :=
  evFn_pure hm soN6 (fn := Tryd.f19) rfl rfl (ti := false) (hs := []) (c := _) (by kernel_rfl) h
-- 1 paths

theorem mldexp1 (x : Nat) (e : Int) (h : AllP [W x, (-4611686018427387904 : Int) ≤ e, e ≤ (4611686018427387904 : Int)]) : PureTo Tryd.prog 28 [.v (.float .f64 x), .v (.int .i64 e)] (AV.fl FloatKind.f64 (ldexpW x e)) :=
  evFn_pure hm soN6 (fn := Tryd.f28) rfl rfl (ti := false) (hs := []) (c := _) (by kernel_rfl) h
-- 4 paths

def SN7 : SGT := (19, .p sigFrexp) :: (28, .p sigLdexp) :: SN6

theorem soN7 : SigsOK Tryd.prog SN7 := sigs_cons (sigs_cons soN6 (sigLdexp_ok fun x e a b c => mldexp1 x e ⟨a, b, c, trivial⟩)) (sigFrexp_ok fun x h => mfrexp1 x ⟨h, trivial⟩)

theorem closer_rep {x y : AV} (h : Closer x y) {S : St} {v : Value} (hx : Rep S v x) : Rep S v y := by
  cases h with
  | same => exact hx
  | fl a => cases hx with | i _ _ hx => exact .i _ _ ((Closer.fl a).rep hx)
  | num a hn => cases hx with | i _ _ hx => exact .i _ _ ((Closer.num a hn).rep hx)

theorem loop_closer {P : Program} {c : Code} {n nx : Nat} {fr fr' : List (Nat × AV)} {hp : List (Nat × AObj)} {e : Exit} {A' : AS}
    (hc : ∀ t x', Ev.look fr' t = some x' → ∃ x, Ev.look fr t = some x ∧ Closer x x') (h : LoopTo P c { n := n, fr := fr', hp := hp, nx := nx } e A') : LoopTo P c { n := n, fr := fr, hp := hp, nx := nx } e A' := by
  obtain ⟨k, h⟩ := h
  refine ⟨k, fun S a hR => h S a ⟨hR.wf, hR.size, hR.defers, fun t x' ht => ?_, hR.hp, hR.used⟩⟩
  obtain ⟨x, h1, h2⟩ := hc t x' ht
  have := hR.fr t x h1
  exact ⟨this.1, closer_rep h2 this.2⟩

theorem look_cons {α : Type} (k : Nat) (a : α) (r : List (Nat × α)) (t : Nat) : Ev.look ((k, a) :: r) t = if k = t then some a else Ev.look r t := by
  show (match Nat.beq k t with | true => some a | false => Ev.look r t) = _
  by_cases h : k = t
  · rw [if_pos h, Nat.beq_eq.mpr h]
  · rw [if_neg h, show Nat.beq k t = false from Bool.eq_false_iff.2 fun hh => h (Nat.eq_of_beq_eq_true hh)]

set_option exponentiation.threshold 2200

theorem fin_zero : Fit 0 := by unfold Fit; decide

theorem V_null : V 0 = 0 := rfl

theorem sv_pos {n : Nat} : sv false n = n := rfl

theorem V_pos {x : Nat} (h : sg x = false) : 0 ≤ V x := by unfold V; rw [h, sv_pos]; omega

set_option exponentiation.threshold 2200

set_option exponentiation.threshold 2200

theorem low52 (x : Nat) : (BitVec.ofNat 64 x &&& ~~~9218868437227405312#64) = BitVec.ofNat 64 (2 ^ 63 * (x / 2 ^ 63) + x % 2 ^ 52) := by
  apply BitVec.eq_of_getLsbD_eq
  intro i hi
  have e : (9218868437227405312#64).getLsbD i = decide (52 ≤ i ∧ i < 63) := by
    have e1 : (9218868437227405312#64) = BitVec.ofNat 64 ((2 ^ 11 - 1) * 2 ^ 52) := rfl
    rw [e1, BitVec.getLsbD_ofNat, Nat.testBit_mul_two_pow]
    by_cases h : 52 ≤ i
    · rw [Nat.testBit_two_pow_sub_one]
      simp only [hi, h, decide_true, Bool.true_and, true_and]
      by_cases h2 : i < 63
      · rw [decide_eq_true h2, decide_eq_true (by omega)]
      · rw [decide_eq_false h2, decide_eq_false (by omega)]
    · simp [h]
  simp only [BitVec.getLsbD_and, BitVec.getLsbD_not, hi, decide_true, Bool.true_and, BitVec.getLsbD_ofNat, e]
  have hm : x % 2 ^ 52 < 2 ^ 63 := Nat.lt_of_lt_of_le (Nat.mod_lt _ (by decide)) (by decide)
  rw [Nat.testBit_two_pow_mul_add _ hm, Nat.testBit_mod_two_pow, Nat.testBit_div_two_pow]
  by_cases h1 : i < 52
  · rw [if_pos (by omega), decide_eq_false (by omega), decide_eq_true h1]; simp
  · by_cases h2 : i < 63
    · rw [if_pos h2, decide_eq_true (by omega), decide_eq_false h1]; simp
    · rw [if_neg h2, decide_eq_false (by omega), show i - 63 + 63 = i by omega]; simp

/-- another exponent -/
theorem exp_word {y E : Nat} (hw : FWord y) (hE : E < 2048) : (bitsOf BinOp.or IntKind.u64 (bitsOf BinOp.andNot IntKind.u64 (↑y : Int) (9218868437227405312 : Int)) ((E * 4503599627370496 : Nat) : Int)).toNat = wordOf (sg y) (E * 4503599627370496 + y % 4503599627370496) := by
  unfold FWord at hw
  have h1 : bitsOf BinOp.andNot IntKind.u64 (↑y : Int) (9218868437227405312 : Int) = ((2 ^ 63 * (y / 2 ^ 63) + y % 2 ^ 52 : Nat) : Int) := by
    have e : bitsOf BinOp.andNot IntKind.u64 (↑y : Int) (9218868437227405312 : Int) = IntKind.u64.wrap ((BitVec.ofInt 64 (y : Int) &&& ~~~9218868437227405312#64).toNat : Int) := rfl
    rw [e, ofInt_nat, low52, BitVec.toNat_ofNat]
    show (((2 ^ 63 * (y / 2 ^ 63) + y % 2 ^ 52) % 2 ^ 64 : Nat) : Int) % 18446744073709551616 = _
    omega
  have hm : y % 2 ^ 52 < 2 ^ 52 := Nat.mod_lt _ (by decide)
  have hm63 : y % 2 ^ 52 < 2 ^ 63 := Nat.lt_of_lt_of_le hm (by decide)
  rw [h1, bits_or (k := .u64) rfl (by show _ < 2 ^ 64; omega) (by show _ < 2 ^ 64; omega), Int.toNat_natCast]
  have e1 : E * 4503599627370496 = 2 ^ 52 * E := by rw [Nat.mul_comm]
  have hlt : 2 ^ 52 * E + y % 2 ^ 52 < 2 ^ 63 := by
    have : 2 ^ 52 * E ≤ 2 ^ 52 * 2047 := Nat.mul_le_mul_left _ (by omega)
    have h63 : (2 : Nat) ^ 63 = 2 ^ 52 * 2048 := by decide
    rw [h63]
    omega
  rw [e1, Nat.two_pow_add_eq_or_of_lt hm63, Nat.or_assoc, Nat.or_comm (y % 2 ^ 52), ← Nat.two_pow_add_eq_or_of_lt hm, ← Nat.two_pow_add_eq_or_of_lt hlt]
  unfold wordOf sg
  rcases Nat.mod_two_eq_zero_or_one (y / 9223372036854775808) with h | h
  · rw [h]
    have : y / 9223372036854775808 = 0 := by omega
    rw [show y / 2 ^ 63 = 0 from this]
    rw [show ((0 : Nat) == 1) = false from rfl, if_neg (by decide)]
  · rw [h]
    have : y / 9223372036854775808 = 1 := by omega
    rw [show y / 2 ^ 63 = 1 from this]
    rw [show ((1 : Nat) == 1) = true from rfl, if_pos rfl]

/-- AN EXACT PRODUCT -/
theorem fmul_exact {x y r : Nat} (hx : Fit x) (hy : Fit y) (hr : r ≤ 9218868437227405312) (h : valN (rg x) * valN (rg y) = valN r * U) : fmul x y = wordOf (sg x ^^ sg y) r := by
  unfold fmul Format.mul
  rw [read_fin hx, read_fin hy]
  show FloatKind.f64.format.nearest _ _ _ = _
  rw [nearest_eq, rung_exact (a := sigK (rg x) + sigK (rg y)) (b := 1074) hr (by omega)]
  unfold valN at h
  rw [Nat.pow_add]
  rw [show sigM (rg x) * sigM (rg y) * (2 ^ sigK (rg x) * 2 ^ sigK (rg y)) = sigM (rg x) * 2 ^ sigK (rg x) * (sigM (rg y) * 2 ^ sigK (rg y)) by ac_rfl, h]
  rfl

/-- a normal float's number -/
theorem valN_normal {E m : Nat} (hE : 1 ≤ E) (hm : m < 4503599627370496) : valN (E * 4503599627370496 + m) = (4503599627370496 + m) * 2 ^ (E - 1) ∧ sigK (E * 4503599627370496 + m) = E - 1 ∧ sigM (E * 4503599627370496 + m) = 4503599627370496 + m := by
  have h1 : ¬ E * 4503599627370496 + m < 4503599627370496 := by omega
  have h2 : sigK (E * 4503599627370496 + m) = E - 1 := by unfold sigK; rw [if_neg h1]; omega
  have h3 : sigM (E * 4503599627370496 + m) = 4503599627370496 + m := by unfold sigM; rw [if_neg h1]; omega
  exact ⟨by unfold valN; rw [h2, h3], h2, h3⟩

/-- a normal float of the same digits: x = (mantissa) * 2 ^ (its place), in least units, times 2 ^ 52 -/
structure Norm (x : Nat) (E m : Nat) (c : Int) : Prop where
  lo : 1 ≤ E
  hi : E < 2047
  dig : m < 4503599627370496
  nw : normF x = wordOf (sg x) (E * 4503599627370496 + m)
  ne : normE x = c
  val : (valN (rg x) * 2 ^ 52 = (4503599627370496 + m) * 2 ^ (E - 1) ∧ c = -52) ∨ (valN (rg x) = (4503599627370496 + m) * 2 ^ (E - 1) ∧ c = 0)

theorem norm_of {x : Nat} (hw : FWord x) (hx : Fit x) (h0 : rg x ≠ 0) : ∃ E m c, Norm x E m c := by
  have hn := hx.num
  unfold Fit at hx
  by_cases h : rg x < 4503599627370496
  · -- below the least normal one
    obtain ⟨r, h1, h2⟩ := rep (rg x) 52 (by have : (2 : Nat) ^ 53 = 9007199254740992 := by decide
                                            omega) (by decide)
    have hv : valN (rg x) = rg x := by unfold valN sigM sigK; rw [if_pos h, if_pos h]; simp
    have hge : 4503599627370496 ≤ r := by
      rw [← valN_le_iff, h2]
      have : valN 4503599627370496 = 1 * 2 ^ 52 := by decide
      rw [this]
      exact Nat.mul_le_mul_right _ (by omega)
    have hf : normF x = wordOf (sg x) r := by
      rw [normF_eq hn, if_pos h]
      have hc : Fit 4841369599423283200 := by unfold Fit; decide
      have := fmul_exact (x := x) (y := 4841369599423283200) (r := r) hx hc (Nat.le_of_lt h1) (by
        rw [h2, hv]
        have e1 : sigM (rg 4841369599423283200) = 2 ^ 52 := by decide
        have e2 : sigK (rg 4841369599423283200) = 1074 := by decide
        have e : valN (rg 4841369599423283200) = 2 ^ 52 * U := by unfold valN U; rw [e1, e2]
        rw [e, Nat.mul_assoc])
      rw [this, show sg 4841369599423283200 = false by decide, Bool.xor_false]
    refine ⟨r / 4503599627370496, r % 4503599627370496, -52, by omega, by omega, by omega, ?_, by rw [normE_eq hn, if_pos h], .inl ⟨?_, rfl⟩⟩
    · rw [hf]; congr 1; omega
    · rw [hv, ← h2, ← (valN_normal (E := r / 4503599627370496) (m := r % 4503599627370496) (by omega) (by omega)).1]
      congr 1; omega
  · refine ⟨rg x / 4503599627370496, rg x % 4503599627370496, 0, by omega, by omega, by omega, ?_, by rw [normE_eq hn, if_neg h], .inr ⟨?_, rfl⟩⟩
    · rw [normF_eq hn, if_neg h]
      rw [show rg x / 4503599627370496 * 4503599627370496 + rg x % 4503599627370496 = rg x by omega]
      exact wordOf_of hw
    · rw [← (valN_normal (E := rg x / 4503599627370496) (m := rg x % 4503599627370496) (by omega) (by omega)).1]
      congr 1; omega

theorem Norm.rgN {x E m : Nat} {c : Int} (h : Norm x E m c) : E * 4503599627370496 + m < 9218868437227405312 := by
  have := h.hi
  have := h.dig
  omega

theorem wordOf_parts {s : Bool} {E m : Nat} (hE : E < 2047) (hm : m < 4503599627370496) : expo (wordOf s (E * 4503599627370496 + m)) = E ∧ wordOf s (E * 4503599627370496 + m) % 4503599627370496 = m := by
  unfold expo wordOf
  cases s
  · rw [if_neg (by decide)]; omega
  · rw [if_pos rfl]; omega

theorem notZero {x : Nat} (hx : Fit x) (h0 : rg x ≠ 0) : feq .f64 x 0 = false := by
  rw [feq_V hx.num fin_zero.num, V_null, decide_eq_false]
  rw [V_zero]; exact h0

theorem notInf {x : Nat} (hx : Fit x) : isInf x 0 = false := by
  rw [isInf_eq, decide_eq_false]
  unfold Fit at hx; omega

/-- FREXP -/
theorem frexp_V {x E m : Nat} {c : Int} (hx : Fit x) (h0 : rg x ≠ 0) (h : Norm x E m c) : frexp_1 x = wordOf (sg x) (1022 * 4503599627370496 + m) ∧ frexp_2 x = c + (E - 1022) := by
  have hr := h.rgN
  obtain ⟨e1, e2⟩ := wordOf_parts (s := sg x) h.hi h.dig
  have hword : FWord (wordOf (sg x) (E * 4503599627370496 + m)) := word_wordOf (Nat.le_of_lt hr)
  constructor
  · unfold frexp_1
    rw [notZero hx h0, notInf hx, isNaN_num.2 hx.num]
    show (bitsOf BinOp.or IntKind.u64 (bitsOf BinOp.andNot IntKind.u64 (↑(normF x) : Int) (9218868437227405312 : Int)) (4602678819172646912 : Int)).toNat = _
    rw [h.nw]
    have := exp_word (E := 1022) hword (by decide)
    rw [e2, sg_wordOf (Nat.le_of_lt hr)] at this
    exact this
  · unfold frexp_2
    rw [notZero hx h0, notInf hx, isNaN_num.2 hx.num]
    show normE x + (IntKind.i64.wrap (bitsOf BinOp.and IntKind.u64 ((↑(normF x) : Int) / (4503599627370496 : Int)) (2047 : Int)) - (1023 : Int) + (1 : Int)) = _
    rw [h.nw, h.ne, expo_bits hword, e1, IntKind.wrap_i64]
    have := h.hi
    omega

theorem lt_inf {F m : Nat} (hF : F ≤ 2046) (hm : m < 4503599627370496) : F * 4503599627370496 + m < 9218868437227405312 := by omega

/-- LDEXP upward, where it fits -/
theorem ldexp_V {x E m : Nat} {c : Int} (hx : Fit x) (h0 : rg x ≠ 0) (h : Norm x E m c) (k r : Nat) (hr : r < 9218868437227405312) (hv : valN (rg x) * 2 ^ k = valN r) : ldexpW x k = wordOf (sg x) r := by
  have hn := h.rgN
  obtain ⟨e1, e2⟩ := wordOf_parts (s := sg x) h.hi h.dig
  have hword : FWord (wordOf (sg x) (E * 4503599627370496 + m)) := word_wordOf (Nat.le_of_lt hn)
  have hlo := h.lo
  have hhi := h.hi
  have hdig := h.dig
  have e53 : (2 : Nat) ^ 53 = 9007199254740992 := by decide
  have e52 : (2 : Nat) ^ 52 = 4503599627370496 := by decide
  unfold ldexpW
  simp only [notZero hx h0, notInf hx, isNaN_num.2 hx.num, Bool.false_eq_true, if_false]
  rw [h.ne, h.nw, e1]
  -- the product's digits and place
  have hval : valN r * 2 ^ 52 = (4503599627370496 + m) * 2 ^ (E - 1 + k) ∧ c = -52 ∨ valN r = (4503599627370496 + m) * 2 ^ (E - 1 + k) ∧ c = 0 := by
    rcases h.val with ⟨h1, h2⟩ | ⟨h1, h2⟩
    · refine .inl ⟨?_, h2⟩
      rw [← hv, Nat.mul_right_comm, h1, Nat.mul_assoc, ← Nat.pow_add]
    · refine .inr ⟨?_, h2⟩
      rw [← hv, h1, Nat.mul_assoc, ← Nat.pow_add]
  have hc : c = -52 ∨ c = 0 := by rcases hval with h | h <;> omega
  obtain ⟨s1, s2, s3⟩ := sig_parts r
  have hK : sigK r ≤ 2045 := by omega
  have hvr : valN r < 2 ^ (53 + 2045) := by
    have a1 : valN r < 2 ^ 53 * 2 ^ sigK r := Nat.mul_lt_mul_of_pos_right s2 (Nat.two_pow_pos _)
    refine Nat.lt_of_lt_of_le a1 ?_
    rw [← Nat.pow_add]
    exact Nat.pow_le_pow_right (by decide) (by omega)
  -- no overflow
  have hE : (E : Int) - 1 + k + c ≤ 2045 := by
    rcases Int.lt_or_le 2045 ((E : Int) - 1 + k + c) with hh | hh
    · exfalso
      rcases hval with ⟨h1, h2⟩ | ⟨h1, h2⟩
      · have a1 : 2 ^ (52 + (E - 1 + k)) ≤ valN r * 2 ^ 52 := by
          rw [h1, Nat.pow_add, e52]; exact Nat.mul_le_mul_right _ (by omega)
        have a2 : valN r * 2 ^ 52 < 2 ^ (53 + 2045) * 2 ^ 52 := Nat.mul_lt_mul_of_pos_right hvr (Nat.two_pow_pos _)
        rw [← Nat.pow_add] at a2
        have a3 : 2 ^ (53 + 2045 + 52) ≤ 2 ^ (52 + (E - 1 + k)) := Nat.pow_le_pow_right (by decide) (by omega)
        omega
      · have a1 : 2 ^ (52 + (E - 1 + k)) ≤ valN r := by
          rw [h1, Nat.pow_add, e52]; exact Nat.mul_le_mul_right _ (by omega)
        have a3 : 2 ^ (53 + 2045) ≤ 2 ^ (52 + (E - 1 + k)) := Nat.pow_le_pow_right (by decide) (by omega)
        omega
    · exact hh
  rw [if_neg (by omega), if_neg (by omega)]
  have hset : ∀ F : Nat, F < 2048 → setE (wordOf (sg x) (E * 4503599627370496 + m)) (F : Int) = wordOf (sg x) (F * 4503599627370496 + m) := by
    intro F hF
    unfold setE
    have h9 : ((F : Int) % (18446744073709551616 : Int) * (4503599627370496 : Int)) = ((F * 4503599627370496 : Nat) : Int) := by omega
    rw [h9, exp_word hword hF, e2, sg_wordOf (Nat.le_of_lt hn)]
  by_cases hsmall : (k : Int) + c + ((E : Int) - 1023) < -1022
  · rw [if_pos hsmall]
    -- then c = -52 and the result is below the least normal one
    have hc52 : c = -52 := by omega
    have hval1 : valN r * 2 ^ 52 = (4503599627370496 + m) * 2 ^ (E - 1 + k) := by
      rcases hval with ⟨h1, h2⟩ | ⟨h1, h2⟩
      · exact h1
      · omega
    obtain ⟨F, hF⟩ : ∃ F : Nat, (k : Int) + c + ((E : Int) - 1023) + 53 + 1023 = F := ⟨((k : Int) + c + ((E : Int) - 1023) + 53 + 1023).toNat, by omega⟩
    rw [hF, hset F (by omega)]
    have hF1 : F = E + k + 1 := by omega
    have hrF : F * 4503599627370496 + m < 9218868437227405312 := lt_inf (by omega) hdig
    have hfit : Fit (wordOf (sg x) (F * 4503599627370496 + m)) := by unfold Fit; rw [rg_wordOf (Nat.le_of_lt hrF)]; exact hrF
    have hc : Fit 4368491638549381120 := by unfold Fit; decide
    rw [fmul_exact hc hfit (Nat.le_of_lt hr), show sg 4368491638549381120 = false by decide, sg_wordOf (Nat.le_of_lt hrF), Bool.false_xor]
    rw [rg_wordOf (Nat.le_of_lt hrF), (valN_normal (E := F) (m := m) (by omega) hdig).1]
    have f1 : sigM (rg 4368491638549381120) = 2 ^ 52 := by decide
    have f2 : sigK (rg 4368491638549381120) = 969 := by decide
    have f : valN (rg 4368491638549381120) = 2 ^ 1021 := by unfold valN; rw [f1, f2, ← Nat.pow_add]
    have hFs : F - 1 = (E - 1 + k) + 1 := by omega
    rw [f, hFs]
    unfold U
    rw [Nat.pow_add 2 (E - 1 + k) 1, ← Nat.mul_assoc (4503599627370496 + m), ← hval1]
    rw [show valN r * 2 ^ 52 * 2 ^ 1 = valN r * 2 ^ 53 by rw [Nat.mul_assoc, ← Nat.pow_add], Nat.mul_comm, Nat.mul_assoc, ← Nat.pow_add]
  · rw [if_neg hsmall]
    obtain ⟨F, hF⟩ : ∃ F : Nat, (k : Int) + c + ((E : Int) - 1023) + 1023 = F := ⟨((k : Int) + c + ((E : Int) - 1023) + 1023).toNat, by omega⟩
    rw [hF, hset F (by omega)]
    have hrF : F * 4503599627370496 + m < 9218868437227405312 := lt_inf (by omega) hdig
    have hfit : Fit (wordOf (sg x) (F * 4503599627370496 + m)) := by unfold Fit; rw [rg_wordOf (Nat.le_of_lt hrF)]; exact hrF
    have hone : Fit 4607182418800017408 := by unfold Fit; decide
    have hvF := (valN_normal (E := F) (m := m) (by omega) hdig).1
    have hreq : r = F * 4503599627370496 + m := by
      refine valN_inj.1 ?_
      rw [hvF]
      rcases hval with ⟨h1, h2⟩ | ⟨h1, h2⟩
      · have hFs : E - 1 + k = F - 1 + 52 := by omega
        rw [hFs, Nat.pow_add, ← Nat.mul_assoc] at h1
        exact Nat.eq_of_mul_eq_mul_right (Nat.two_pow_pos 52) h1
      · have hFs : E - 1 + k = F - 1 := by omega
        rw [hFs] at h1
        exact h1
    rw [fmul_exact hone hfit (Nat.le_of_lt hr), show sg 4607182418800017408 = false by decide, sg_wordOf (Nat.le_of_lt hrF), Bool.false_xor]
    rw [rg_wordOf (Nat.le_of_lt hrF), ← hreq, show rg 4607182418800017408 = oneR by decide, valN_one, Nat.mul_comm]

set_option exponentiation.threshold 2200

theorem valN_bound {r : Nat} (hr : r < 9218868437227405312) : valN r < 2 ^ 53 * 2 ^ 2045 := by
  obtain ⟨s1, s2, s3⟩ := sig_parts r
  have h1 : sigK r ≤ 2045 := by omega
  have a1 : valN r < 2 ^ 53 * 2 ^ sigK r := Nat.mul_lt_mul_of_pos_right s2 (Nat.two_pow_pos _)
  exact Nat.lt_of_lt_of_le a1 (Nat.mul_le_mul_left _ (Nat.pow_le_pow_right (by decide) h1))

theorem num_word {s : Bool} {r : Nat} (h : r ≤ 9218868437227405312) : Num (wordOf s r) := by unfold Num; rw [rg_wordOf h]; exact h

theorem fit_word {s : Bool} {r : Nat} (h : r < 9218868437227405312) : Fit (wordOf s r) := by unfold Fit; rw [rg_wordOf (Nat.le_of_lt h)]; exact h

instance (x : Nat) : Decidable (Fit x) := inferInstanceAs (Decidable (rg x < 9218868437227405312))

instance (x : Nat) : Decidable (Num x) := inferInstanceAs (Decidable (rg x ≤ 9218868437227405312))

set_option exponentiation.threshold 2200

def c32 : Nat := 4751297606875873280

theorem valN_c32 : valN (rg c32) = 4294967296 * U := by
  have e1 : sigM (rg c32) = 2 ^ 52 := by decide
  have e2 : sigK (rg c32) = 1054 := by decide
  have e3 : (4294967296 : Nat) = 2 ^ 32 := by decide
  unfold valN U
  rw [e1, e2, e3, ← Nat.pow_add]

theorem lt53 {n : Nat} (h : n < 9007199254740992) : n < 2 ^ 53 := h

theorem fit_c32 : Fit c32 := by decide

set_option exponentiation.threshold 2200

/-- a small whole number as a float -/
theorem fofI_word {n : Int} (h : n.natAbs < 9007199254740992) : ∃ r, r < 9218868437227405312 ∧ valN r = n.natAbs * U ∧ fofI n = wordOf (decide (n < 0)) r := by
  obtain ⟨r, r1, r2⟩ := whole_rep (n := n.natAbs) (lt53 h)
  exact ⟨r, r1, r2, by rw [fofI_V, ← r2, rd_val (Nat.le_of_lt r1)]⟩

theorem look_app {α : Type} (A B : List (Nat × α)) (g : Nat) : Ev.look (A ++ B) g = match Ev.look A g with | some x => some x | none => Ev.look B g := by
  induction A with
  | nil => rfl
  | cons x A ih =>
    obtain ⟨k, v⟩ := x
    rw [List.cons_append, look_cons, look_cons]
    by_cases h : k = g
    · rw [if_pos h, if_pos h]
    · rw [if_neg h, if_neg h]; exact ih

theorem sigs_app {P : Program} {A B : SGT} (ha : SigsOK P A) (hb : SigsOK P B) : SigsOK P (A ++ B) := by
  intro f sig h
  rw [look_app] at h
  cases hA : Ev.look A f with
  | some x => rw [hA] at h; exact ha f sig (by rw [hA]; exact h)
  | none => rw [hA] at h; exact hb f sig h

def SM6 : SGT := Bn.RS4 ++ SN7

theorem soM6 : SigsOK Tryd.prog SM6 := sigs_app Bn.rsok4 soN7

def partsS0 (x : Nat) (x0 : Int) (x1 : Int) : AS := { n := 43, fr := [(6, AV.v (.int .u64 x0)), (7, AV.v (.int .i64 x1))], hp := [], nx := 0 }

def partsX0 (x : Nat) (x2 : Int) (x3 : Int) : AS := { n := 43, fr := [(6, AV.v (.int .u64 x2)), (7, AV.v (.int .i64 x3))], hp := [], nx := 0 }
-- 2 paths

theorem partsL0_1 (x : Nat) (x0 : Int) (x1 : Int) (h : AllP [(bitsOf BinOp.and IntKind.u64 x0 (1 : Int) == (0 : Int)) = true, (0 : Int) ≤ (1 : Int), inR IntKind.i64 (x1 + (1 : Int))]) : To Tryd.prog (loopAt Tryd.f6 0) ({ n := 43, fr := [(6, AV.v (.int .u64 x0)), (7, AV.v (.int .i64 x1))], hp := [], nx := 0 }) (.normal) { n := 43, fr := [(6, AV.v (.int .u64 (x0 / (2 : Int)))), (7, AV.v (.int .i64 (x1 + (1 : Int))))], hp := [], nx := 0 } :=
  evW_to hm soM6 (hs := [CHint.ops 11 [(2, Hint.b true)]]) (slots := [6, 7]) (keys := []) (nx := 0) (c := _) (by kernel_rfl) h

theorem partsL0_2 (x : Nat) (x0 : Int) (x1 : Int) (h : AllP [(bitsOf BinOp.and IntKind.u64 x0 (1 : Int) == (0 : Int)) = false]) : To Tryd.prog (loopAt Tryd.f6 0) ({ n := 43, fr := [(6, AV.v (.int .u64 x0)), (7, AV.v (.int .i64 x1))], hp := [], nx := 0 }) (Exit.exit 0) { n := 43, fr := [(6, AV.v (.int .u64 x0)), (7, AV.v (.int .i64 x1))], hp := [], nx := 0 } :=
  evW_to hm soM6 (hs := [CHint.ops 11 [(2, Hint.b false)]]) (slots := [6, 7]) (keys := []) (nx := 0) (c := _) (by kernel_rfl) h
-- 6 paths

theorem partsF4 (x : Nat) (x2 : Int) (x3 : Int) (h : AllP [isNaN x = false, isInf x (0 : Int) = false, flt FloatKind.f64 x 0 = false, feq FloatKind.f64 x 0 = true]) : PureTo Tryd.prog 6 [.v (.float .f64 x)] (AV.tup [AV.sl 1 (.ints .u32 []) false, AV.v (.int .i64 (0 : Int)), AV.v (.int .i64 (0 : Int))]) :=
  evFn_pure hm soM6 (fn := Tryd.f6) rfl rfl (ti := false) (hs := [CHint.ops 1 [(1, Hint.b false), (4, Hint.b false), (8, Hint.b false)], CHint.ops 3 [(1, Hint.b true)]]) (c := _) (by kernel_rfl) h

theorem partsF5 (x : Nat) (x2 : Int) (x3 : Int) (h : AllP [isNaN x = false, isInf x (0 : Int) = false, flt FloatKind.f64 x 0 = false, feq FloatKind.f64 x 0 = false, (0 : Int) ≤ (52 : Int), inR IntKind.i64 (IntKind.i64.wrap ((↑x : Int) / (4503599627370496 : Int)) - (1075 : Int)), (0 : Int) ≤ (52 : Int), ((↑x : Int) / (4503599627370496 : Int) == (0 : Int)) = true, LoopTo Tryd.prog (loopAt Tryd.f6 0) { n := 43, fr := [(6, AV.v (.int .u64 (bitsOf BinOp.and IntKind.u64 (↑x : Int) (4503599627370495 : Int)))), (7, AV.v (.int .i64 (-1074 : Int)))], hp := [], nx := 0 } (Exit.exit 0) { n := 43, fr := [(6, AV.v (.int .u64 x2)), (7, AV.v (.int .i64 x3))], hp := [], nx := 0 }, (0 : Int) ≤ x2, x2 < (18446744073709551616 : Int)]) : PureTo Tryd.prog 6 [.v (.float .f64 x)] (AV.tup [AV.sl 1 (.ints .u32 (Bn.dig x2.toNat)) false, AV.v (.int .i64 x3), AV.v (.int .i64 (0 : Int))]) :=
  evFn_pure hm soM6 (fn := Tryd.f6) rfl rfl (ti := false) (hs := [CHint.ops 1 [(1, Hint.b false), (4, Hint.b false), (8, Hint.b false)], CHint.ops 3 [(1, Hint.b false)], CHint.ops 8 [(2, Hint.b true)], CHint.loop [6, 7] [] 0 (Exit.exit 0) { n := 43, fr := [(6, AV.v (.int .u64 x2)), (7, AV.v (.int .i64 x3))], hp := [], nx := 0 }]) (c := _) (by kernel_rfl) h

theorem partsF6 (x : Nat) (x2 : Int) (x3 : Int) (h : AllP [isNaN x = false, isInf x (0 : Int) = false, flt FloatKind.f64 x 0 = false, feq FloatKind.f64 x 0 = false, (0 : Int) ≤ (52 : Int), inR IntKind.i64 (IntKind.i64.wrap ((↑x : Int) / (4503599627370496 : Int)) - (1075 : Int)), (0 : Int) ≤ (52 : Int), ((↑x : Int) / (4503599627370496 : Int) == (0 : Int)) = false, LoopTo Tryd.prog (loopAt Tryd.f6 0) { n := 43, fr := [(6, AV.v (.int .u64 (bitsOf BinOp.or IntKind.u64 (bitsOf BinOp.and IntKind.u64 (↑x : Int) (4503599627370495 : Int)) (4503599627370496 : Int)))), (7, AV.v (.int .i64 (IntKind.i64.wrap ((↑x : Int) / (4503599627370496 : Int)) - (1075 : Int))))], hp := [], nx := 0 } (Exit.exit 0) { n := 43, fr := [(6, AV.v (.int .u64 x2)), (7, AV.v (.int .i64 x3))], hp := [], nx := 0 }, (0 : Int) ≤ x2, x2 < (18446744073709551616 : Int)]) : PureTo Tryd.prog 6 [.v (.float .f64 x)] (AV.tup [AV.sl 1 (.ints .u32 (Bn.dig x2.toNat)) false, AV.v (.int .i64 x3), AV.v (.int .i64 (0 : Int))]) :=
  evFn_pure hm soM6 (fn := Tryd.f6) rfl rfl (ti := false) (hs := [CHint.ops 1 [(1, Hint.b false), (4, Hint.b false), (8, Hint.b false)], CHint.ops 3 [(1, Hint.b false)], CHint.ops 8 [(2, Hint.b false)], CHint.loop [6, 7] [] 0 (Exit.exit 0) { n := 43, fr := [(6, AV.v (.int .u64 x2)), (7, AV.v (.int .i64 x3))], hp := [], nx := 0 }]) (c := _) (by kernel_rfl) h

set_option exponentiation.threshold 2200

open Bn

/-- an odd number and a power of 2 -/
def strip : Nat → Nat → Nat × Nat
  | 0, n => (n, 0)
  | f + 1, n => if n % 2 = 0 then ((strip f (n / 2)).1, (strip f (n / 2)).2 + 1) else (n, 0)

theorem strip_is : ∀ f n, (strip f n).1 * 2 ^ (strip f n).2 = n := by
  intro f
  induction f with
  | zero => intro n; simp [strip]
  | succ f ih =>
    intro n
    unfold strip
    split
    · next h =>
      show (strip f (n / 2)).1 * 2 ^ ((strip f (n / 2)).2 + 1) = n
      rw [Nat.pow_succ, ← Nat.mul_assoc, ih]; omega
    · simp

theorem and_one {n : Nat} (h : n < 18446744073709551616) : bitsOf BinOp.and IntKind.u64 (n : Int) (1 : Int) = ((n % 2 : Nat) : Int) := by
  have := and_low (k := .u64) rfl (x := (n : Int)) (s := 1) (by omega) (by show _ < (2 ^ 64 : Int); omega) (by decide)
  rw [show (((2 ^ 1 - 1 : Nat)) : Int) = 1 from rfl, show ((2 ^ 1 : Nat) : Int) = 2 from rfl] at this
  rw [this]; omega

theorem parts_loop (x : Nat) : ∀ (f n : Nat) (e : Int), 0 < n → n < 2 ^ f → f ≤ 63 → -5000 ≤ e → e + (f : Int) ≤ 5000 →
    LoopTo Tryd.prog (loopAt Tryd.f6 0) (partsS0 x n e) (.exit 0) (partsX0 x ((strip f n).1 : Nat) (e + (strip f n).2)) := by
  intro f
  induction f with
  | zero => intro n e h0 h1; omega
  | succ f ih =>
    intro n e h0 h1 hf h2 h3
    have hn : n < 18446744073709551616 := by
      have : 2 ^ (f + 1) ≤ 2 ^ 63 := Nat.pow_le_pow_right (by decide) (by omega)
      have e63 : (2 : Nat) ^ 63 = 9223372036854775808 := by decide
      omega
    by_cases hz : n % 2 = 0
    · have hs : strip (f + 1) n = ((strip f (n / 2)).1, (strip f (n / 2)).2 + 1) := by
        rw [strip]; rw [if_pos hz]
      have s1 := partsL0_1 x n e ⟨by rw [and_one hn, hz]; rfl, by decide, by simp only [inR]; omega, trivial⟩
      have hc : ((n : Int) / 2) = ((n / 2 : Nat) : Int) := by omega
      rw [hc] at s1
      have hlt : n / 2 < 2 ^ f := by rw [Nat.pow_succ] at h1; omega
      have l := ih (n / 2) (e + 1) (by omega) hlt (by omega) (by omega) (by omega)
      rw [hs]
      have he : e + 1 + ((strip f (n / 2)).2 : Int) = e + (((strip f (n / 2)).2 + 1 : Nat) : Int) := by omega
      rw [he] at l
      exact LoopTo.step s1 l
    · have hs : strip (f + 1) n = (n, 0) := by
        rw [strip]; rw [if_neg hz]
      have s2 := partsL0_2 x n e ⟨by rw [and_one hn, beq_eq_false_iff_ne]; omega, trivial⟩
      rw [hs]
      have he : e + ((0 : Nat) : Int) = e := by omega
      show LoopTo _ _ _ _ (partsX0 x (n : Int) (e + ((0 : Nat) : Int)))
      rw [he]
      exact LoopTo.done (by intro h; cases h) s2

/-- the odd part and the place -/
def pm (x : Nat) : Nat := if rg x = 0 then 0 else (strip 53 (sigM (rg x))).1

def pe (x : Nat) : Int := if rg x = 0 then 0 else -1074 + (sigK (rg x) : Int) + (strip 53 (sigM (rg x))).2

theorem sigM_nil {r : Nat} : sigM r = 0 ↔ r = 0 := by
  unfold sigM
  split <;> omega

theorem abs_low {x : Nat} (hw : FWord x) (hs : sg x = false) : x = rg x := by
  unfold FWord at hw
  unfold sg at hs
  rw [beq_eq_false_iff_ne] at hs
  unfold rg
  omega

theorem parts_c {x : Nat} (hw : FWord x) (hx : Fit x) (hs : sg x = false) : PureTo Tryd.prog 6 [.v (.float .f64 x)] (.tup [.sl 1 (.ints .u32 (dig (pm x))) false, .v (.int .i64 (pe x)), .v (.int .i64 0)]) := by
  have n1 := isNaN_num.2 hx.num
  have n2 := notInf hx
  have n3 : flt .f64 x 0 = false := by
    rw [flt_V hx.num fin_zero.num, V_null, decide_eq_false]
    have := V_pos hs
    omega
  by_cases h0 : rg x = 0
  · have n4 : feq .f64 x 0 = true := by rw [feq_V hx.num fin_zero.num, V_null, decide_eq_true (V_zero.2 h0)]
    have e1 : pm x = 0 := by unfold pm; rw [if_pos h0]
    have e2 : pe x = 0 := by unfold pe; rw [if_pos h0]
    rw [e1, e2, dig_zero]
    exact partsF4 x 0 0 ⟨n1, n2, n3, n4, trivial⟩
  · have n4 := notZero hx h0
    obtain ⟨s1, s2, s3⟩ := sig_parts (rg x)
    have hx' := abs_low hw hs
    have hlt : x < 9218868437227405312 := by unfold Fit at hx; omega
    have hmpos : 0 < sigM (rg x) := by
      rcases Nat.eq_zero_or_pos (sigM (rg x)) with h | h
      · exact (h0 (sigM_nil.1 h)).elim
      · exact h
    have e1 : pm x = (strip 53 (sigM (rg x))).1 := by unfold pm; rw [if_neg h0]
    have e2 : pe x = -1074 + (sigK (rg x) : Int) + (strip 53 (sigM (rg x))).2 := by unfold pe; rw [if_neg h0]
    have l := parts_loop x 53 (sigM (rg x)) (-1074 + (sigK (rg x) : Int)) hmpos s2 (by decide) (by omega) (by omega)
    rw [← e1, ← e2] at l
    have hpm : pm x < 9007199254740992 := by
      have h3 := strip_is 53 (sigM (rg x))
      rw [← e1] at h3
      have : pm x ≤ sigM (rg x) := by
        have hp := Nat.two_pow_pos (strip 53 (sigM (rg x))).2
        have := Nat.le_mul_of_pos_right (pm x) hp
        rw [h3] at this
        exact this
      have e53 : (2 : Nat) ^ 53 = 9007199254740992 := by decide
      omega
    have hwrap : IntKind.i64.wrap ((x : Int) / 4503599627370496) = ((x / 4503599627370496 : Nat) : Int) := by rw [IntKind.wrap_i64]; omega
    have hand : bitsOf BinOp.and IntKind.u64 (x : Int) (4503599627370495 : Int) = ((x % 4503599627370496 : Nat) : Int) := by
      have := and_low (k := .u64) rfl (x := (x : Int)) (s := 52) (by omega) (by show _ < (2 ^ 64 : Int); omega) (by decide)
      rw [show (((2 ^ 52 - 1 : Nat)) : Int) = 4503599627370495 from rfl, show ((2 ^ 52 : Nat) : Int) = 4503599627370496 from rfl] at this
      rw [this]; omega
    have r1 : inR IntKind.i64 (IntKind.i64.wrap ((x : Int) / 4503599627370496) - 1075) := by rw [hwrap]; simp only [inR]; omega
    by_cases hsub : x < 4503599627370496
    · have hM : sigM (rg x) = x % 4503599627370496 := by unfold sigM; rw [if_pos (by omega)]; omega
      have hK : sigK (rg x) = 0 := by unfold sigK; rw [if_pos (by omega)]
      have := partsF5 x (pm x) (pe x) ⟨n1, n2, n3, n4, by decide, r1, by decide, by rw [beq_iff_eq]; omega, by
        rw [hand, ← hM]
        rw [hK] at l
        exact l, by omega, by omega, trivial⟩
      rw [Int.toNat_natCast] at this
      exact this
    · have hM : sigM (rg x) = 4503599627370496 + x % 4503599627370496 := by unfold sigM; rw [if_neg (by omega)]; omega
      have hK : (sigK (rg x) : Int) - 1074 = (x / 4503599627370496 : Nat) - 1075 := by unfold sigK; rw [if_neg (by omega)]; omega
      have hor : bitsOf BinOp.or IntKind.u64 ((x % 4503599627370496 : Nat) : Int) (4503599627370496 : Int) = ((sigM (rg x) : Nat) : Int) := by
        rw [(or_add (k := .u64) rfl (s := 52) (by omega) (by show _ < ((2 ^ 52 : Nat) : Int); omega) (by decide) (by decide) (by decide) (by decide)).1, hM]
        omega
      have := partsF6 x (pm x) (pe x) ⟨n1, n2, n3, n4, by decide, r1, by decide, by rw [beq_eq_false_iff_ne]; omega, by
        rw [hand, hor, hwrap]
        have e3 : ((x / 4503599627370496 : Nat) : Int) - 1075 = -1074 + (sigK (rg x) : Int) := by omega
        rw [e3]
        exact l, by omega, by omega, trivial⟩
      rw [Int.toNat_natCast] at this
      exact this

def sigParts : List AV → Option (AV × List Prop)
  | [.v (.float .f64 x)] => some (.tup [.sl 1 (.ints .u32 (dig (pm x))) false, .v (.int .i64 (pe x)), .v (.int .i64 0)], [FWord x, Fit x, sg x = false])
  | _ => none

def SM7 : SGT := (6, .p sigParts) :: SM6

theorem soM7 : SigsOK Tryd.prog SM7 := by
  refine sigs_cons soM6 ?_
  intro ys r c hs hc
  unfold sigParts at hs
  split at hs
  · cases hs; exact parts_c hc.1 hc.2.1 hc.2.2.1
  · cases hs

set_option exponentiation.threshold 2200

theorem dig_first (n : Nat) : (dig n).getD 0 0 = ((n % 4294967296 : Nat) : Int) := by
  by_cases h : n = 0
  · subst h; rw [dig_zero]; rfl
  · rw [dig_pos h]; rfl

theorem dig_small_len {n : Nat} (h : n < 9007199254740992) : (dig n).length ≤ 2 := by
  rcases Nat.lt_or_ge 2 (dig n).length with h1 | h1
  · rw [dig_len] at h1; omega
  · exact h1

def nearFS0 (a : List Int) (ta : Bool) (e : Int) (m : Nat) (x0 : Int) : AS := { n := 113, fr := [(1, AV.v (.int .i64 e)), (7, AV.fl FloatKind.f64 m), (8, AV.sl 1 (.ints .u32 (Bn.norm a)) false), (9, AV.v (.int .i64 x0))], hp := [], nx := 0 }

def nearFX0 (a : List Int) (ta : Bool) (e : Int) (m : Nat)  : AS := { n := 113, fr := [(1, AV.v (.int .i64 e)), (7, AV.fl FloatKind.f64 m)], hp := [], nx := 0 }
-- 2 paths

theorem nearFL0_1 (a : List Int) (ta : Bool) (e : Int) (m : Nat) (x0 : Int) (h : AllP [decide (x0 ≥ (0 : Int)) = true, (0 : Int) ≤ x0 ∧ x0 < (↑(Bn.norm a).length : Int), inR IntKind.i64 (x0 - (1 : Int))]) : To Tryd.prog (loopAt Tryd.f29 0) ({ n := 113, fr := [(1, AV.v (.int .i64 e)), (7, AV.fl FloatKind.f64 m), (8, AV.sl 1 (.ints .u32 (Bn.norm a)) false), (9, AV.v (.int .i64 x0))], hp := [], nx := 0 }) (.normal) { n := 113, fr := [(1, AV.v (.int .i64 e)), (7, AV.fl FloatKind.f64 (fadd (fmul m 4751297606875873280) (fofI ((Bn.norm a).getD x0.toNat (0 : Int))))), (8, AV.sl 1 (.ints .u32 (Bn.norm a)) false), (9, AV.v (.int .i64 (x0 - (1 : Int))))], hp := [], nx := 0 } :=
  evW_to hm soM7 (hs := [CHint.ops 13 [(1, Hint.b true)]]) (slots := [1, 7, 8, 9]) (keys := []) (nx := 0) (c := _) (by kernel_rfl) h

theorem nearFL0_2 (a : List Int) (ta : Bool) (e : Int) (m : Nat) (x0 : Int) (h : AllP [decide (x0 ≥ (0 : Int)) = false]) : To Tryd.prog (loopAt Tryd.f29 0) ({ n := 113, fr := [(1, AV.v (.int .i64 e)), (7, AV.fl FloatKind.f64 m), (8, AV.sl 1 (.ints .u32 (Bn.norm a)) false), (9, AV.v (.int .i64 x0))], hp := [], nx := 0 }) (Exit.exit 0) { n := 113, fr := [(1, AV.v (.int .i64 e)), (7, AV.fl FloatKind.f64 m)], hp := [], nx := 0 } :=
  evW_to hm soM7 (hs := [CHint.ops 13 [(1, Hint.b false)]]) (slots := [1, 7]) (keys := []) (nx := 0) (c := _) (by kernel_rfl) h
-- 38 paths

theorem nearFF1 (a : List Int) (ta : Bool) (e : Int) (m : Nat) (h : AllP [Bn.Words a, a.length ≤ Bn.lim4, ((↑(Bn.bl (Bn.nat a)) : Int) == (0 : Int)) = true]) : PureTo Tryd.prog 29 [.sl 1 (.ints .u32 a) ta, .v (.int .i64 e)] (AV.v (.float FloatKind.f64 0)) :=
  evFn_pure hm soM7 (fn := Tryd.f29) rfl rfl (ti := false) (hs := [CHint.ops 2 [(1, Hint.b true)]]) (c := _) (by kernel_rfl) h

theorem nearFF3 (a : List Int) (ta : Bool) (e : Int) (m : Nat) (h : AllP [Bn.Words a, a.length ≤ Bn.lim4, ((↑(Bn.bl (Bn.nat a)) : Int) == (0 : Int)) = false, inR IntKind.i64 ((↑(Bn.bl (Bn.nat a)) : Int) + e), decide ((↑(Bn.bl (Bn.nat a)) : Int) + e > (1024 : Int)) = false, inR IntKind.i64 ((↑(Bn.bl (Bn.nat a)) : Int) - (53 : Int)), inR IntKind.i64 ((↑(Bn.bl (Bn.nat a)) : Int) - (53 : Int) + e), decide ((↑(Bn.bl (Bn.nat a)) : Int) - (53 : Int) + e < (-1074 : Int)) = true, inR IntKind.i64 ((-1074 : Int) - e), decide ((-1074 : Int) - e ≤ (0 : Int)) = true, a.length ≤ Bn.lim4, inR IntKind.i64 ((↑(Bn.norm a).length : Int) - (1 : Int)), LoopTo Tryd.prog (loopAt Tryd.f29 0) { n := 113, fr := [(1, AV.v (.int .i64 e)), (7, AV.v (.float FloatKind.f64 0)), (8, AV.sl 1 (.ints .u32 (Bn.norm a)) false), (9, AV.v (.int .i64 ((↑(Bn.norm a).length : Int) - (1 : Int))))], hp := [], nx := 0 } (Exit.exit 0) { n := 113, fr := [(1, AV.v (.int .i64 e)), (7, AV.fl FloatKind.f64 m)], hp := [], nx := 0 }, W m, (-4611686018427387904 : Int) ≤ e, e ≤ (4611686018427387904 : Int), ¬nanB FloatKind.f64 m]) : PureTo Tryd.prog 29 [.sl 1 (.ints .u32 a) ta, .v (.int .i64 e)] (AV.fl FloatKind.f64 (ldexpW m e)) :=
  evFn_pure hm soM7 (fn := Tryd.f29) rfl rfl (ti := false) (hs := [CHint.ops 2 [(1, Hint.b false)], CHint.ops 4 [(3, Hint.b false)], CHint.ops 7 [(3, Hint.b true)], CHint.ops 9 [(1, Hint.b true)], CHint.loop [1, 7, 8, 9] [] 0 (Exit.exit 0) { n := 113, fr := [(1, AV.v (.int .i64 e)), (7, AV.fl FloatKind.f64 m)], hp := [], nx := 0 }]) (c := _) (by kernel_rfl) h

theorem nearFF21 (a : List Int) (ta : Bool) (e : Int) (m : Nat) (h : AllP [Bn.Words a, a.length ≤ Bn.lim4, ((↑(Bn.bl (Bn.nat a)) : Int) == (0 : Int)) = false, inR IntKind.i64 ((↑(Bn.bl (Bn.nat a)) : Int) + e), decide ((↑(Bn.bl (Bn.nat a)) : Int) + e > (1024 : Int)) = false, inR IntKind.i64 ((↑(Bn.bl (Bn.nat a)) : Int) - (53 : Int)), inR IntKind.i64 ((↑(Bn.bl (Bn.nat a)) : Int) - (53 : Int) + e), decide ((↑(Bn.bl (Bn.nat a)) : Int) - (53 : Int) + e < (-1074 : Int)) = false, decide ((↑(Bn.bl (Bn.nat a)) : Int) - (53 : Int) ≤ (0 : Int)) = true, a.length ≤ Bn.lim4, inR IntKind.i64 ((↑(Bn.norm a).length : Int) - (1 : Int)), LoopTo Tryd.prog (loopAt Tryd.f29 0) { n := 113, fr := [(1, AV.v (.int .i64 e)), (7, AV.v (.float FloatKind.f64 0)), (8, AV.sl 1 (.ints .u32 (Bn.norm a)) false), (9, AV.v (.int .i64 ((↑(Bn.norm a).length : Int) - (1 : Int))))], hp := [], nx := 0 } (Exit.exit 0) { n := 113, fr := [(1, AV.v (.int .i64 e)), (7, AV.fl FloatKind.f64 m)], hp := [], nx := 0 }, W m, (-4611686018427387904 : Int) ≤ e, e ≤ (4611686018427387904 : Int), ¬nanB FloatKind.f64 m]) : PureTo Tryd.prog 29 [.sl 1 (.ints .u32 a) ta, .v (.int .i64 e)] (AV.fl FloatKind.f64 (ldexpW m e)) :=
  evFn_pure hm soM7 (fn := Tryd.f29) rfl rfl (ti := false) (hs := [CHint.ops 2 [(1, Hint.b false)], CHint.ops 4 [(3, Hint.b false)], CHint.ops 7 [(3, Hint.b false)], CHint.ops 9 [(1, Hint.b true)], CHint.loop [1, 7, 8, 9] [] 0 (Exit.exit 0) { n := 113, fr := [(1, AV.v (.int .i64 e)), (7, AV.fl FloatKind.f64 m)], hp := [], nx := 0 }]) (c := _) (by kernel_rfl) h

set_option exponentiation.threshold 2200

theorem mul_pow_eq {x y a b a' b' : Nat} (h : x * 2 ^ a = y * 2 ^ b) (hab : (a : Int) - b = a' - b') : x * 2 ^ a' = y * 2 ^ b' := by
  have h1 := mul_pow_le (x := x) (y := y) (a := a) (b := b) (q := 0) (p := a') (d := b') (by rw [Nat.zero_add]; exact Nat.le_of_eq h) (by omega)
  have h2 := mul_pow_ge (x := x) (y := y) (a := a) (b := b) (q := 0) (p := a') (d := b') (by rw [Nat.zero_add]; exact Nat.le_of_eq h.symm) (by omega)
  omega

theorem pow_lt_of {x y a b : Nat} (hx : 2 ^ a ≤ x) (hy : x < 2 ^ b) : a < b := by
  rcases Nat.lt_or_ge a b with h | h
  · exact h
  · have := Nat.pow_le_pow_right (n := 2) (by decide) h; omega

/-- LDEXP of a normal number, where it is exact -/
theorem ldexp_I {x E m : Nat} (hx : Fit x) (h0 : rg x ≠ 0) (h : Norm x E m 0) (k : Int) (p q r : Nat) (hk : k = (p : Int) - q) (hr : r < 9218868437227405312) (hr0 : r ≠ 0) (hv : valN (rg x) * 2 ^ p = valN r * 2 ^ q) : ldexpW x k = wordOf (sg x) r := by
  have hn := h.rgN
  obtain ⟨e1, e2⟩ := wordOf_parts (s := sg x) h.hi h.dig
  have hword : FWord (wordOf (sg x) (E * 4503599627370496 + m)) := word_wordOf (Nat.le_of_lt hn)
  have hlo := h.lo
  have hhi := h.hi
  have hdig := h.dig
  have e52 : (2 : Nat) ^ 52 = 4503599627370496 := by decide
  have e53 : (2 : Nat) ^ 53 = 9007199254740992 := by decide
  have hval : valN (rg x) = (4503599627370496 + m) * 2 ^ (E - 1) := by
    rcases h.val with ⟨_, h2⟩ | ⟨h1, _⟩
    · exact absurd h2 (by decide)
    · exact h1
  rw [hval, Nat.mul_assoc, ← Nat.pow_add] at hv
  have hpos : 1 ≤ valN r := by
    have := valN_lt (show 0 < r by omega)
    rw [valN_zero] at this
    exact this
  have up : E - 1 + p < 2046 + q := by
    have a1 : 2 ^ (52 + (E - 1 + p)) ≤ (4503599627370496 + m) * 2 ^ (E - 1 + p) := by rw [Nat.pow_add, e52]; exact Nat.mul_le_mul_right _ (by omega)
    have a2 : valN r * 2 ^ q < 2 ^ (52 + (2046 + q)) := by
      have := Nat.mul_lt_mul_of_pos_right (valN_bound hr) (Nat.two_pow_pos q)
      rw [← Nat.pow_add, ← Nat.pow_add] at this
      rw [show 52 + (2046 + q) = 53 + 2045 + q by omega]
      exact this
    have := pow_lt_of (y := 0) a1 (by rw [hv]; exact a2)
    omega
  have low : q < 53 + (E - 1 + p) := by
    have a1 : 2 ^ q ≤ valN r * 2 ^ q := Nat.le_mul_of_pos_left _ hpos
    have a2 : (4503599627370496 + m) * 2 ^ (E - 1 + p) < 2 ^ (53 + (E - 1 + p)) := by rw [Nat.pow_add 2 53, e53]; exact Nat.mul_lt_mul_of_pos_right (by omega) (Nat.two_pow_pos _)
    exact pow_lt_of (y := 0) a1 (by rw [← hv]; exact a2)
  have hset : ∀ F : Nat, F < 2048 → setE (wordOf (sg x) (E * 4503599627370496 + m)) (F : Int) = wordOf (sg x) (F * 4503599627370496 + m) := by
    intro F hF
    unfold setE
    have h9 : ((F : Int) % (18446744073709551616 : Int) * (4503599627370496 : Int)) = ((F * 4503599627370496 : Nat) : Int) := by omega
    rw [h9, exp_word hword hF, e2, sg_wordOf (Nat.le_of_lt hn)]
  unfold ldexpW
  simp only [notZero hx h0, notInf hx, isNaN_num.2 hx.num, Bool.false_eq_true, if_false]
  rw [h.ne, h.nw, e1, if_neg (by omega), if_neg (by omega)]
  by_cases hsmall : k + 0 + ((E : Int) - 1023) < -1022
  · rw [if_pos hsmall]
    obtain ⟨F, hF⟩ : ∃ F : Nat, k + 0 + ((E : Int) - 1023) + 53 + 1023 = F := ⟨(k + 0 + ((E : Int) - 1023) + 53 + 1023).toNat, by omega⟩
    rw [hF, hset F (by omega)]
    have hrF : F * 4503599627370496 + m < 9218868437227405312 := lt_inf (by omega) hdig
    have hfit : Fit (wordOf (sg x) (F * 4503599627370496 + m)) := fit_word hrF
    have hc : Fit 4368491638549381120 := by decide
    have hvF := (valN_normal (E := F) (m := m) (by omega) hdig).1
    have f1 : sigM (rg 4368491638549381120) = 2 ^ 52 := by decide
    have f2 : sigK (rg 4368491638549381120) = 969 := by decide
    have f : valN (rg 4368491638549381120) = 2 ^ 1021 := by unfold valN; rw [f1, f2, ← Nat.pow_add]
    have hz := mul_pow_eq (a' := F - 1 + 1021) (b' := 1074) hv (by omega)
    rw [fmul_exact hc hfit (Nat.le_of_lt hr), show sg 4368491638549381120 = false by decide, sg_wordOf (Nat.le_of_lt hrF), Bool.false_xor]
    rw [rg_wordOf (Nat.le_of_lt hrF), hvF, f]
    unfold U
    rw [← hz, Nat.pow_add]
    ac_rfl
  · rw [if_neg hsmall]
    obtain ⟨F, hF⟩ : ∃ F : Nat, k + 0 + ((E : Int) - 1023) + 1023 = F := ⟨(k + 0 + ((E : Int) - 1023) + 1023).toNat, by omega⟩
    rw [hF, hset F (by omega)]
    have hrF : F * 4503599627370496 + m < 9218868437227405312 := lt_inf (by omega) hdig
    have hfit : Fit (wordOf (sg x) (F * 4503599627370496 + m)) := fit_word hrF
    have hone : Fit 4607182418800017408 := by decide
    have hvF := (valN_normal (E := F) (m := m) (by omega) hdig).1
    have hz := mul_pow_eq (a' := F - 1) (b' := 0) hv (by omega)
    rw [Nat.pow_zero, Nat.mul_one] at hz
    have hreq : F * 4503599627370496 + m = r := valN_inj.1 (by rw [hvF, hz])
    rw [fmul_exact hone hfit (Nat.le_of_lt hr), show sg 4607182418800017408 = false by decide, sg_wordOf (Nat.le_of_lt hrF), Bool.false_xor]
    rw [rg_wordOf (Nat.le_of_lt hrF), hreq, show rg 4607182418800017408 = oneR by decide, valN_one, Nat.mul_comm]

theorem dig_get (n : Nat) : ∀ j, (dig n).getD j 0 = ((n / 4294967296 ^ j % 4294967296 : Nat) : Int) := by
  intro j
  induction j generalizing n with
  | zero => rw [Nat.pow_zero, Nat.div_one]; exact dig_first n
  | succ j ih =>
    by_cases h : n = 0
    · subst h; rw [dig_zero, Nat.zero_div]; rfl
    · rw [dig_pos h, List.getD_cons_succ, ih, Nat.div_div_eq_div_mul, ← Nat.pow_succ']

/-- the float of a small natural, word by word -/
theorem near_loop (a : List Int) (ta : Bool) (e : Int) (n : Nat) (hn : n < 9007199254740992) (ha : Bn.norm a = dig n) : ∀ i s : Nat, i ≤ (dig n).length → s < 9218868437227405312 → valN s = n / 4294967296 ^ i * U →
    ∃ s', s' < 9218868437227405312 ∧ valN s' = n * U ∧ LoopTo Tryd.prog (loopAt Tryd.f29 0) (nearFS0 a ta e (wordOf false s) ((i : Int) - 1)) (.exit 0) (nearFX0 a ta e (wordOf false s')) := by
  intro i
  induction i with
  | zero =>
    intro s hi hs hv
    rw [Nat.pow_zero, Nat.div_one] at hv
    exact ⟨s, hs, hv, LoopTo.done (by intro h; cases h) (nearFL0_2 a ta e (wordOf false s) _ ⟨decide_eq_false (by omega), trivial⟩)⟩
  | succ i ih =>
    intro s hi hs hv
    have hl := dig_small_len hn
    have ei : ((i + 1 : Nat) : Int) - 1 = (i : Int) := by omega
    rw [ei]
    have hdv : n / 4294967296 ^ i = n / 4294967296 ^ (i + 1) * 4294967296 + n / 4294967296 ^ i % 4294967296 := by
      rw [Nat.pow_succ, ← Nat.div_div_eq_div_mul]; omega
    have hle : n / 4294967296 ^ i ≤ n := Nat.div_le_self _ _
    generalize hQ : n / 4294967296 ^ (i + 1) = Q at *
    generalize hD : n / 4294967296 ^ i % 4294967296 = D at *
    have hDlt : D < 4294967296 := by rw [← hD]; exact Nat.mod_lt _ (by decide)
    -- the product
    obtain ⟨t, t1, t2⟩ := whole_rep (n := Q * 4294967296) (lt53 (by omega))
    have hmul : fmul (wordOf false s) 4751297606875873280 = wordOf false t := by
      have hc : (4751297606875873280 : Nat) = c32 := rfl
      rw [hc, fmul_exact (fit_word hs) fit_c32 (Nat.le_of_lt t1), sg_wordOf (Nat.le_of_lt hs), show sg c32 = false by decide]
      · rfl
      · rw [rg_wordOf (Nat.le_of_lt hs), hv, valN_c32, t2]; ac_rfl
    obtain ⟨d, d1, d2, d3⟩ := fofI_word (n := (D : Int)) (by omega)
    rw [decide_eq_false (show ¬ (D : Int) < 0 by omega), Int.natAbs_natCast] at *
    obtain ⟨u, u1, u2⟩ := whole_rep (n := Q * 4294967296 + D) (lt53 (by omega))
    have hadd : fadd (wordOf false t) (wordOf false d) = wordOf false u := by
      rw [fadd_V (fit_word t1) (fit_word d1), V_wordOf (Nat.le_of_lt t1), V_wordOf (Nat.le_of_lt d1), sv_pos, sv_pos, sg_wordOf (Nat.le_of_lt t1), Bool.false_and]
      have hs' : valN t + valN d = valN u := by rw [t2, d2, u2, Nat.add_mul]
      have e1 : ((valN t : Int) + (valN d : Int)).natAbs = valN u := by omega
      have e2 : ¬ ((valN t : Int) + (valN d : Int) < 0) := by omega
      rw [e1, rd_val (Nat.le_of_lt u1), decide_eq_false e2]
      simp
    have hstep := nearFL0_1 a ta e (wordOf false s) i ⟨decide_eq_true (by omega), by rw [ha]; omega, by simp only [inR]; omega, trivial⟩
    rw [ha, Int.toNat_natCast, dig_get, hD, hmul, d3, hadd, ← ha] at hstep
    obtain ⟨s', a1, a2, a3⟩ := ih u (by omega) u1 (by rw [u2, ← hdv])
    exact ⟨s', a1, a2, LoopTo.step hstep a3⟩

theorem near_begin {P : Program} {c : Code} {a : List Int} {ta : Bool} {k : Int} {x0 : Int} {r : Nat} {e : Exit} {A' : AS} (h : LoopTo P c (nearFS0 a ta k r x0) e A') :
    LoopTo P c { n := 113, fr := [(1, AV.v (.int .i64 k)), (7, AV.v (.float FloatKind.f64 r)), (8, AV.sl 1 (.ints .u32 (Bn.norm a)) false), (9, AV.v (.int .i64 x0))], hp := [], nx := 0 } e A' := by
  refine loop_closer (fun t x' ht => ?_) h
  rw [look_cons, look_cons, look_cons, look_cons] at ht ⊢
  by_cases h0 : 1 = t
  · rw [if_pos h0] at ht ⊢; cases ht; exact ⟨_, rfl, .same _⟩
  rw [if_neg h0] at ht ⊢
  by_cases h1 : 7 = t
  · rw [if_pos h1] at ht ⊢; cases ht; exact ⟨_, rfl, .fl _⟩
  rw [if_neg h1] at ht ⊢
  by_cases h5 : 8 = t
  · rw [if_pos h5] at ht ⊢; cases ht; exact ⟨_, rfl, .same _⟩
  rw [if_neg h5] at ht ⊢
  by_cases h6 : 9 = t
  · rw [if_pos h6] at ht ⊢; cases ht; exact ⟨_, rfl, .same _⟩
  rw [if_neg h6] at ht
  cases ht

/-- NEAR, where it is exact -/
theorem near_exact {n : Nat} (hn : n < 9007199254740992) (ta : Bool) {e : Int} (he : -1074 ≤ e) (he2 : e ≤ 100000) {r : Nat} (hr : r < 9218868437227405312) (hv : valN r = n * 2 ^ (e + 1074).toNat) :
    PureTo Tryd.prog 29 [.sl 1 (.ints .u32 (dig n)) ta, .v (.int .i64 e)] (.v (.float .f64 (wordOf false r))) := by
  have hw := words_dig n
  have hnorm : Bn.norm (dig n) = dig n := by rw [norm_eq hw, nat_dig]
  have hl := dig_small_len hn
  have hlim : (dig n).length ≤ lim4 := by unfold lim4; omega
  have f1 := nearFF1 (dig n) ta e 0
  have f3 := nearFF3 (dig n) ta e
  have f21 := nearFF21 (dig n) ta e
  rw [nat_dig] at f1
  simp only [nat_dig] at f3 f21
  by_cases h0 : n = 0
  · have hr0 : r = 0 := by
      rw [h0, Nat.zero_mul, ← valN_zero] at hv
      exact valN_inj.1 hv
    rw [hr0]
    exact f1 ⟨hw, hlim, by rw [h0]; rfl, trivial⟩
  · have hbl0 : bl n ≠ 0 := fun h => h0 (bl_zero.1 h)
    have hblle : bl n ≤ 53 := (bl_le n 53).2 (lt53 hn)
    have hnlow : 2 ^ (bl n - 1) ≤ n := by
      rcases Nat.lt_or_ge n (2 ^ (bl n - 1)) with h | h
      · have := (bl_le n (bl n - 1)).2 h; omega
      · exact h
    have hsum : (bl n : Int) + e ≤ 1024 := by
      have a1 : 2 ^ (bl n - 1 + (e + 1074).toNat) ≤ valN r := by rw [hv, Nat.pow_add]; exact Nat.mul_le_mul_right _ hnlow
      have a2 := valN_bound hr
      rw [← Nat.pow_add] at a2
      have := pow_lt_of (y := 0) a1 a2
      omega
    -- the float of n
    obtain ⟨s', s1, s2, s3⟩ := near_loop (dig n) ta e n hn hnorm (dig n).length 0 (Nat.le_refl _) (by decide) (by
      have : n / 4294967296 ^ (dig n).length = 0 := by
        have h1 := nat_lt hw
        rw [nat_dig] at h1
        exact Nat.div_eq_of_lt h1
      rw [this, Nat.zero_mul]; rfl)
    have hloop := near_begin s3
    have hxw : FWord (wordOf false s') := word_wordOf (Nat.le_of_lt s1)
    have hxf : Fit (wordOf false s') := fit_word s1
    have hx0 : rg (wordOf false s') ≠ 0 := by
      rw [rg_wordOf (Nat.le_of_lt s1)]
      intro h
      rw [h, valN_zero] at s2
      have := Nat.mul_pos (show 0 < n by omega) U_pos
      omega
    have hxbig : ¬ rg (wordOf false s') < 4503599627370496 := by
      rw [rg_wordOf (Nat.le_of_lt s1)]
      have : valN oneR ≤ valN s' := by rw [valN_one, s2]; exact Nat.le_mul_of_pos_left _ (by omega)
      have := valN_le_iff.1 this
      unfold oneR at this
      omega
    obtain ⟨E, m, c, hN⟩ := norm_of hxw hxf hx0
    have hc0 : c = 0 := by rw [← hN.ne, normE_eq hxf.num, if_neg hxbig]
    subst hc0
    have hr0 : r ≠ 0 := by
      intro h
      rw [h, valN_zero] at hv
      have := Nat.mul_pos (show 0 < n by omega) (Nat.two_pow_pos (e + 1074).toNat)
      omega
    have hld : ldexpW (wordOf false s') e = wordOf false r := by
      have := ldexp_I hxf hx0 hN e (e + 1074).toNat 1074 r (by omega) hr hr0 (by
        rw [rg_wordOf (Nat.le_of_lt s1), s2, hv]
        unfold U
        ac_rfl)
      rw [sg_wordOf (Nat.le_of_lt s1)] at this
      exact this
    have hb1 : (((bl n : Nat) : Int) == 0) = false := by rw [beq_eq_false_iff_ne]; omega
    have i1 : inR IntKind.i64 ((bl n : Int) + e) := by simp only [inR]; omega
    have i2 : inR IntKind.i64 ((bl n : Int) - 53) := by simp only [inR]; omega
    have i3 : inR IntKind.i64 ((bl n : Int) - 53 + e) := by simp only [inR]; omega
    have i4 : inR IntKind.i64 (((Bn.norm (dig n)).length : Int) - 1) := by rw [hnorm]; simp only [inR]; omega
    have hlen : ((Bn.norm (dig n)).length : Int) - 1 = ((dig n).length : Int) - 1 := by rw [hnorm]
    have hz0 : wordOf false 0 = 0 := rfl
    rw [hz0] at hloop
    have hfin : ∀ {f : FuncId} {ys : List AV}, PureTo Tryd.prog f ys (.fl .f64 (wordOf false r)) → PureTo Tryd.prog f ys (.v (.float .f64 (wordOf false r))) := fun h => h.ans (.num _ (num_iff.1 (num_word (Nat.le_of_lt hr))))
    have hnn : ¬ nanB .f64 (wordOf false s') := num_iff.1 hxf.num
    by_cases hcut : (bl n : Int) - 53 + e < -1074
    · have := f3 (wordOf false s') ⟨hw, hlim, hb1, i1, decide_eq_false (by omega), i2, i3, decide_eq_true hcut, by simp only [inR]; omega, decide_eq_true (by omega), hlim, i4, by rw [hlen]; exact hloop, hxw, by omega, by omega, hnn, trivial⟩
      rw [hld] at this
      exact hfin this
    · have := f21 (wordOf false s') ⟨hw, hlim, hb1, i1, decide_eq_false (by omega), i2, i3, decide_eq_false hcut, decide_eq_true (by omega), hlim, i4, by rw [hlen]; exact hloop, hxw, by omega, by omega, hnn, trivial⟩
      rw [hld] at this
      exact hfin this

set_option exponentiation.threshold 2200

end Go.Proofs.Bf
