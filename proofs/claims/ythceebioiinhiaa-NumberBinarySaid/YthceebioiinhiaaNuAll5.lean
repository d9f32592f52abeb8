/- Contracts of the program's functions, and the plain law behind them. No condition beyond those in each statement. -/
import Derived.Test.YthceebioiinhiaaNuAll4
import Derived.Test.YthceebioiinhiaaEvAll7
import Derived.Test.YthceebioiinhiaaEvAll6
set_option linter.unusedSimpArgs false
set_option linter.unusedVariables false
set_option linter.unusedSectionVars false
/- Numbers: amounts, signs; the table. -/
set_option maxRecDepth 100000
namespace Go.Proofs.Nu
open Go Go.Ev

theorem low63 (x : Nat) : (BitVec.ofNat 64 x &&& ~~~9223372036854775808#64) = BitVec.ofNat 64 (x % 9223372036854775808) := by
  apply BitVec.eq_of_getLsbD_eq
  intro i hi
  have e : (9223372036854775808#64).getLsbD i = decide (i = 63) := by
    rw [show (9223372036854775808#64) = BitVec.ofNat 64 (2 ^ 63) from rfl, BitVec.getLsbD_ofNat, Nat.testBit_two_pow]
    simp [hi]
    omega
  simp only [BitVec.getLsbD_and, BitVec.getLsbD_not, hi, decide_true, Bool.true_and, BitVec.getLsbD_ofNat, e]
  rw [show (9223372036854775808 : Nat) = 2 ^ 63 from rfl, Nat.testBit_mod_two_pow]
  by_cases h : i = 63
  · subst h; simp
  · have : i < 63 := by omega
    simp [h, this]
theorem top63 (x : Nat) : (BitVec.ofNat 64 x &&& 9223372036854775808#64) = BitVec.ofNat 64 (x / 9223372036854775808 % 2 * 9223372036854775808) := by
  apply BitVec.eq_of_getLsbD_eq
  intro i hi
  have e : (9223372036854775808#64).getLsbD i = decide (i = 63) := by
    rw [show (9223372036854775808#64) = BitVec.ofNat 64 (2 ^ 63) from rfl, BitVec.getLsbD_ofNat, Nat.testBit_two_pow]
    simp [hi]
    omega
  simp only [BitVec.getLsbD_and, hi, decide_true, Bool.true_and, BitVec.getLsbD_ofNat, e]
  rw [show (9223372036854775808 : Nat) = 2 ^ 63 from rfl, Nat.testBit_mul_two_pow]
  by_cases h : i = 63
  · subst h
    simp [Nat.testBit, Nat.shiftRight_eq_div_pow]
  · have : ¬ 63 ≤ i := by omega
    simp [h, this]

theorem abs_eq (x : Nat) : abs x = x % 9223372036854775808 := by
  have e : abs x = (IntKind.u64.wrap ((BitVec.ofInt 64 (x : Int) &&& ~~~9223372036854775808#64).toNat : Int)).toNat := rfl
  rw [e, ofInt_nat, low63, BitVec.toNat_ofNat]
  show ((((x % 9223372036854775808) % 2 ^ 64 : Nat) : Int) % 18446744073709551616).toNat = _
  omega
theorem sgn_eq (x : Nat) : sgn x = decide (x / 9223372036854775808 % 2 = 1) := by
  unfold sgn
  rw [IntKind.wrap_i64]
  by_cases h : x / 9223372036854775808 % 2 = 1
  · rw [decide_eq_true h, decide_eq_true_eq]; omega
  · rw [decide_eq_false h, decide_eq_false_iff_not]; omega
theorem cs_eq (x y : Nat) : cs x y = x % 9223372036854775808 + y / 9223372036854775808 % 2 * 9223372036854775808 := by
  have h1 : bitsOf BinOp.andNot IntKind.u64 (↑x : Int) (9223372036854775808 : Int) = ((x % 9223372036854775808 : Nat) : Int) := by
    have e : bitsOf BinOp.andNot IntKind.u64 (↑x : Int) (9223372036854775808 : Int) = IntKind.u64.wrap ((BitVec.ofInt 64 (x : Int) &&& ~~~9223372036854775808#64).toNat : Int) := rfl
    rw [e, ofInt_nat, low63, BitVec.toNat_ofNat]
    show (((x % 9223372036854775808) % 2 ^ 64 : Nat) : Int) % 18446744073709551616 = _
    omega
  have h2 : bitsOf BinOp.and IntKind.u64 (↑y : Int) (9223372036854775808 : Int) = ((y / 9223372036854775808 % 2 * 9223372036854775808 : Nat) : Int) := by
    have e : bitsOf BinOp.and IntKind.u64 (↑y : Int) (9223372036854775808 : Int) = IntKind.u64.wrap ((BitVec.ofInt 64 (y : Int) &&& 9223372036854775808#64).toNat : Int) := rfl
    rw [e, ofInt_nat, top63, BitVec.toNat_ofNat]
    show (((y / 9223372036854775808 % 2 * 9223372036854775808) % 2 ^ 64 : Nat) : Int) % 18446744073709551616 = _
    omega
  unfold cs
  rw [h1, h2, (or_add (k := .u64) rfl (s := 63) (by omega) (by show _ < ((2 ^ 63 : Nat) : Int); omega) (by omega) (by show _ < (2 ^ 64 : Int); omega) (by omega) (by decide)).1]
  omega

/-! ### what is any NaN stays any NaN -/

theorem read_low {x y : Nat} (h : x % 9223372036854775808 = y % 9223372036854775808) : nanB .f64 x ↔ nanB .f64 y := by
  rw [nanB_iff, nanB_iff, Go.Fl.read64, Go.Fl.read64, h]
  split
  · exact ⟨fun h => (by cases h), fun h => (by cases h)⟩
  · split
    · exact ⟨fun h => (by cases h), fun h => (by cases h)⟩
    · split
      · exact ⟨fun h => (by cases h), fun h => (by cases h)⟩
      · exact ⟨fun _ => rfl, fun _ => rfl⟩
theorem abs_nan {x : Nat} : nanB .f64 (abs x) ↔ nanB .f64 x := read_low (by rw [abs_eq]; omega)
theorem cs_nan {x y : Nat} : nanB .f64 (cs x y) ↔ nanB .f64 x := read_low (by rw [cs_eq]; omega)

def sigAbs : List AV → Option (AV × List Prop)
  | [.v (.float .f64 a)] => some (.v (.float .f64 (abs a)), [])
  | [.fl .f64 a] => some (.fl .f64 (abs a), [])
  | _ => none
def sigSgn : List AV → Option (AV × List Prop)
  | [.v (.float .f64 a)] => some (.v (.bool (sgn a)), [])
  | [.fl .f64 a] => some (.v (.bool (sgn a)), [¬ nanB .f64 a])
  | _ => none
def sigCs : List AV → Option (AV × List Prop)
  | [.v (.float .f64 a), .v (.float .f64 b)] => some (.v (.float .f64 (cs a b)), [])
  | [.v (.float .f64 a), .fl .f64 b] => some (.v (.float .f64 (cs a b)), [¬ nanB .f64 b])
  | [.fl .f64 a, .v (.float .f64 b)] => some (.fl .f64 (cs a b), [])
  | [.fl .f64 a, .fl .f64 b] => some (.fl .f64 (cs a b), [¬ nanB .f64 b])
  | _ => none

theorem one_arg {P : Nat → Prop} {n i : Nat} (h : i < n) (hn : n = 1) (hp : P 0) : P i := by
  have : i = 0 := by omega
  subst this
  exact hp
theorem two_arg {P : Nat → Prop} {n i : Nat} (h : i < n) (hn : n = 2) (hp : P 0) (hq : P 1) : P i := by
  have : i = 0 ∨ i = 1 := by omega
  rcases this with rfl | rfl
  · exact hp
  · exact hq

theorem cs_fl (a b : Nat) : PureTo Try.prog 64 [.fl .f64 a, .v (.float .f64 b)] (.fl .f64 (cs a b)) := by
  intro S vals hwf hr
  obtain ⟨h1, h2⟩ := hr
  match vals, h1 with
  | [v, u], _ =>
    have hv := h2 0 (by simp) (by simp)
    have hu := h2 1 (by simp) (by simp)
    simp only [List.getElem_cons_zero, List.getElem_cons_succ] at hv hu
    obtain ⟨a', rfl, ha⟩ := repI_fl hv
    obtain ⟨rfl, _⟩ := repI_v hu
    refine (cs_pure a' b S [.float .f64 a', .float .f64 b] hwf ⟨rfl, fun i h1 h2 => ?_⟩).mono fun v w' ⟨k1, k2⟩ => ⟨k1, ?_⟩
    · have : i = 0 ∨ i = 1 := by simp at h1; omega
      rcases this with rfl | rfl <;> exact .v _ trivial
    · obtain ⟨rfl, _⟩ := repI_v k2
      refine FRep.repI ?_
      rcases ha with rfl | ⟨n1, n2⟩
      · exact .inl rfl
      · exact .inr ⟨cs_nan.2 n1, cs_nan.2 n2⟩

def SN1 : SGT := (16, .p (sigF fun x => (.v (.bool (isNaN x)), []))) :: (18, .p sigAbs) :: (19, .p sigSgn) :: (64, .p sigCs) ::
  (70, .p (fun | [.v (.int .i64 s)] => some (.v (.float .f64 (inf s)), []) | _ => none)) ::
  (72, .p (fun | [] => some (.v (.float .f64 9221120237041090560), []) | _ => none)) :: (85, .p (fun | [] => some (.v (.float .f64 9221120237041090561), []) | _ => none)) :: SN0

theorem soN1 : SigsOK Try.prog SN1 := by
  refine sigs_cons (sigs_cons (sigs_cons (sigs_cons (sigs_cons (sigs_cons (sigs_cons soN0 ?_) ?_) ?_) ?_) ?_) ?_) (sigF_ok fun x _ => isNaN_pure x)
  · intro ys r c h hc
    split at h
    · cases h; exact nanm1 trivial
    · cases h
  · intro ys r c h hc
    split at h
    · cases h; exact nan1 trivial
    · cases h
  · intro ys r c h hc
    split at h
    · cases h; exact inf_pure _
    · cases h
  · intro ys r c h hc
    unfold sigCs at h
    split at h
    · cases h; exact cs_pure _ _
    · cases h
      refine (cs_pure _ _).args rfl fun i h1 h2 => ?_
      have : i = 0 ∨ i = 1 := by simp at h1; omega
      rcases this with rfl | rfl
      · exact .same _
      · exact .num _ hc.1
    · cases h; exact cs_fl _ _
    · cases h
      refine (cs_fl _ _).args rfl fun i h1 h2 => ?_
      have : i = 0 ∨ i = 1 := by simp at h1; omega
      rcases this with rfl | rfl
      · exact .same _
      · exact .num _ hc.1
    · cases h
  · intro ys r c h hc
    unfold sigSgn at h
    split at h
    · cases h; exact sgn_pure _
    · cases h
      refine (sgn_pure _).args rfl fun i h1 h2 => ?_
      have : i = 0 := by simpa using h1
      subst this
      exact .num _ hc.1
    · cases h
  · intro ys r c h hc
    unfold sigAbs at h
    split at h
    · cases h; exact abs_pure _
    · cases h; exact PureTo.lift1 abs_pure (fun a h => abs_nan.2 h) _
    · cases h

end Go.Proofs.Nu

/- Numbers: walks, written by the tool. -/
set_option maxRecDepth 100000
namespace Go.Proofs.Nu
open Go Go.Ev

theorem isInf_ev (x : Nat) (s : Int) (h : AllP []) : PureTo Try.prog 17 [.fl .f64 x, .v (.int .i64 s)] (AV.v (.bool (fgt FloatKind.f64 (bif s == (0 : Int) then abs x else bif decide (s < (0 : Int)) then fneg x else x) 9218868437227405311))) :=
  evFnM_pure hm soN1 (fn := Try.f17) rfl rfl (ti := false) (m := Mode.same) (hs := [MHint.br, MHint.br, MHint.join { slots := [(0, Mode.mix)], keys := [] }]) (c := _) (by kernel_rfl) (by kernel_rfl) h
def isInf (x : Nat) (s : Int) : Bool := fgt FloatKind.f64 (bif s == (0 : Int) then abs x else bif decide (s < (0 : Int)) then fneg x else x) 9218868437227405311
theorem isInf_pure (x : Nat) (s : Int) : PureTo Try.prog 17 [.fl .f64 x, .v (.int .i64 s)] (AV.v (.bool (isInf x s))) := isInf_ev x s trivial
/- DEAD told: results do not join: AV.fl FloatKind.f64 x | AV.v (.float FloatKind.f64 9221120237041090560) -/
/- DEAD plain: results do not join: AV.fl FloatKind.f64 x | AV.v (.float FloatKind.f64 9221120237041090560) -/
theorem trunc_ev (x : Nat) (h : AllP [(!flt FloatKind.f64 (abs x) 4607182418800017408) = true → AllP [(0 : Int) ≤ (52 : Int), decide ((bitsOf BinOp.and IntKind.u64 ((↑x : Int) / (4503599627370496 : Int)) (2047 : Int) - (1023 : Int)) % (18446744073709551616 : Int) < (52 : Int)) = true → AllP [(0 : Int) ≤ ((52 : Int) - (bitsOf BinOp.and IntKind.u64 ((↑x : Int) / (4503599627370496 : Int)) (2047 : Int) - (1023 : Int)) % (18446744073709551616 : Int)) % (18446744073709551616 : Int), inR IntKind.u64 ((1 : Int) * (2 : Int) ^ min (((52 : Int) - (bitsOf BinOp.and IntKind.u64 ((↑x : Int) / (4503599627370496 : Int)) (2047 : Int) - (1023 : Int)) % (18446744073709551616 : Int)) % (18446744073709551616 : Int)).toNat 64)]]]) : PureTo Try.prog 92 [.v (.float .f64 x)] (AV.v (.float FloatKind.f64 (bif !flt FloatKind.f64 (abs x) 4607182418800017408 then (bif decide ((bitsOf BinOp.and IntKind.u64 ((↑x : Int) / (4503599627370496 : Int)) (2047 : Int) - (1023 : Int)) % (18446744073709551616 : Int) < (52 : Int)) then bitsOf BinOp.andNot IntKind.u64 (↑x : Int) (((1 : Int) * (2 : Int) ^ min (((52 : Int) - (bitsOf BinOp.and IntKind.u64 ((↑x : Int) / (4503599627370496 : Int)) (2047 : Int) - (1023 : Int)) % (18446744073709551616 : Int)) % (18446744073709551616 : Int)).toNat 64 - (1 : Int)) % (18446744073709551616 : Int)) else (↑x : Int)).toNat else cs 0 x))) :=
  evFnM_pure hm soN1 (fn := Try.f92) rfl rfl (ti := false) (m := Mode.mix) (hs := [MHint.br, MHint.ops 4 [(3, Hint.wrap)] [], MHint.br, MHint.ops 6 [(2, Hint.wrap), (4, Hint.wrap)] [], MHint.join { slots := [(3, Mode.mix)], keys := [] }]) (c := _) (by kernel_rfl) (by kernel_rfl) h
def trunc (x : Nat) : Nat := bif !flt FloatKind.f64 (abs x) 4607182418800017408 then (bif decide ((bitsOf BinOp.and IntKind.u64 ((↑x : Int) / (4503599627370496 : Int)) (2047 : Int) - (1023 : Int)) % (18446744073709551616 : Int) < (52 : Int)) then bitsOf BinOp.andNot IntKind.u64 (↑x : Int) (((1 : Int) * (2 : Int) ^ min (((52 : Int) - (bitsOf BinOp.and IntKind.u64 ((↑x : Int) / (4503599627370496 : Int)) (2047 : Int) - (1023 : Int)) % (18446744073709551616 : Int)) % (18446744073709551616 : Int)).toNat 64 - (1 : Int)) % (18446744073709551616 : Int)) else (↑x : Int)).toNat else cs 0 x
theorem trunc_pure (x : Nat) (h : AllP [(!flt FloatKind.f64 (abs x) 4607182418800017408) = true → AllP [(0 : Int) ≤ (52 : Int), decide ((bitsOf BinOp.and IntKind.u64 ((↑x : Int) / (4503599627370496 : Int)) (2047 : Int) - (1023 : Int)) % (18446744073709551616 : Int) < (52 : Int)) = true → AllP [(0 : Int) ≤ ((52 : Int) - (bitsOf BinOp.and IntKind.u64 ((↑x : Int) / (4503599627370496 : Int)) (2047 : Int) - (1023 : Int)) % (18446744073709551616 : Int)) % (18446744073709551616 : Int), inR IntKind.u64 ((1 : Int) * (2 : Int) ^ min (((52 : Int) - (bitsOf BinOp.and IntKind.u64 ((↑x : Int) / (4503599627370496 : Int)) (2047 : Int) - (1023 : Int)) % (18446744073709551616 : Int)) % (18446744073709551616 : Int)).toNat 64)]]]) : PureTo Try.prog 92 [.v (.float .f64 x)] (AV.v (.float FloatKind.f64 (trunc x))) := trunc_ev x h
theorem norm (x : Nat) (h : AllP []) : PureTo Try.prog 116 [.fl .f64 x] (AV.tup [AV.fl FloatKind.f64 (bif !flt FloatKind.f64 (abs x) 4503599627370496 then x else fmul x 4841369599423283200), AV.v (.int .i64 (bif !flt FloatKind.f64 (abs x) 4503599627370496 then (0 : Int) else (-52 : Int)))]) :=
  evFnM_pure hm soN1 (fn := Try.f116) rfl rfl (ti := false) (m := Mode.parts [Mode.mix, Mode.mix]) (hs := [MHint.br]) (c := _) (by kernel_rfl) (by kernel_rfl) h
theorem less_ev (x y : Nat) (h : AllP []) : PureTo Try.prog 27 [.fl .f64 x, .fl .f64 y] (AV.v (.int .i64 (bif (!bif isNaN x then true else isNaN y) && !flt FloatKind.f64 x y then (0 : Int) else bif bif isNaN x then true else isNaN y then (-1 : Int) else (1 : Int)))) :=
  evFnM_pure hm soN1 (fn := Try.f27) rfl rfl (ti := false) (m := Mode.mix) (hs := [MHint.ops 1 [] [(2, 3)], MHint.br, MHint.br]) (c := _) (by kernel_rfl) (by kernel_rfl) h
def less (x y : Nat) : Int := bif (!bif isNaN x then true else isNaN y) && !flt FloatKind.f64 x y then (0 : Int) else bif bif isNaN x then true else isNaN y then (-1 : Int) else (1 : Int)
theorem less_pure (x y : Nat) : PureTo Try.prog 27 [.fl .f64 x, .fl .f64 y] (AV.v (.int .i64 (less x y))) := less_ev x y trivial
theorem rless_ev (x y : Nat) (h : AllP []) : PureTo Try.prog 28 [.fl .f64 x, .fl .f64 y] (AV.v (.int .i64 (bif !bif isNaN x then true else isNaN y then bif !flt FloatKind.f64 x y then (0 : Int) else (1 : Int) else (-1 : Int)))) :=
  evFnM_pure hm soN1 (fn := Try.f28) rfl rfl (ti := false) (m := Mode.mix) (hs := [MHint.ops 1 [] [(2, 3)], MHint.br, MHint.br]) (c := _) (by kernel_rfl) (by kernel_rfl) h
def rless (x y : Nat) : Int := bif !bif isNaN x then true else isNaN y then bif !flt FloatKind.f64 x y then (0 : Int) else (1 : Int) else (-1 : Int)
theorem rless_pure (x y : Nat) : PureTo Try.prog 28 [.fl .f64 x, .fl .f64 y] (AV.v (.int .i64 (rless x y))) := rless_ev x y trivial
theorem equ_ev (x y : Nat) (h : AllP []) : PureTo Try.prog 29 [.fl .f64 x, .fl .f64 y] (AV.v (.bool (feq FloatKind.f64 x y))) :=
  evFnM_pure hm soN1 (fn := Try.f29) rfl rfl (ti := false) (m := Mode.same) (hs := []) (c := _) (by kernel_rfl) (by kernel_rfl) h
def equ (x y : Nat) : Bool := feq FloatKind.f64 x y
theorem equ_pure (x y : Nat) : PureTo Try.prog 29 [.fl .f64 x, .fl .f64 y] (AV.v (.bool (equ x y))) := equ_ev x y trivial
theorem requ_ev (x y : Nat) (h : AllP []) : PureTo Try.prog 30 [.fl .f64 x, .fl .f64 y] (AV.v (.bool (feq FloatKind.f64 x y))) :=
  evFnM_pure hm soN1 (fn := Try.f30) rfl rfl (ti := false) (m := Mode.same) (hs := []) (c := _) (by kernel_rfl) (by kernel_rfl) h
def requ (x y : Nat) : Bool := feq FloatKind.f64 x y
theorem requ_pure (x y : Nat) : PureTo Try.prog 30 [.fl .f64 x, .fl .f64 y] (AV.v (.bool (requ x y))) := requ_ev x y trivial
theorem sam_ev (x y : Nat) (h : AllP []) : PureTo Try.prog 31 [.v (.float .f64 x), .v (.float .f64 y)] (AV.v (.bool (bif !bif isNaN x then true else isNaN y then bif feq FloatKind.f64 x y then sgn x == sgn y else false else bif isNaN x then isNaN y else false))) :=
  evFnM_pure hm soN1 (fn := Try.f31) rfl rfl (ti := false) (m := Mode.mix) (hs := [MHint.ops 1 [] [(2, 3)], MHint.br, MHint.ops 2 [] [(2, 3)], MHint.ops 3 [] [(3, 6)]]) (c := _) (by kernel_rfl) (by kernel_rfl) h
def sam (x y : Nat) : Bool := bif !bif isNaN x then true else isNaN y then bif feq FloatKind.f64 x y then sgn x == sgn y else false else bif isNaN x then isNaN y else false
theorem sam_pure (x y : Nat) : PureTo Try.prog 31 [.v (.float .f64 x), .v (.float .f64 y)] (AV.v (.bool (sam x y))) := sam_ev x y trivial
theorem rsam_ev (x y : Nat) (h : AllP []) : PureTo Try.prog 32 [.v (.float .f64 x), .v (.float .f64 y)] (AV.v (.bool (bif !bif isNaN x then isNaN y else false then bif feq FloatKind.f64 x y then sgn x == sgn y else false else true))) :=
  evFnM_pure hm soN1 (fn := Try.f32) rfl rfl (ti := false) (m := Mode.mix) (hs := [MHint.ops 1 [] [(2, 3)], MHint.br, MHint.ops 3 [] [(3, 6)]]) (c := _) (by kernel_rfl) (by kernel_rfl) h
def rsam (x y : Nat) : Bool := bif !bif isNaN x then isNaN y else false then bif feq FloatKind.f64 x y then sgn x == sgn y else false else true
theorem rsam_pure (x y : Nat) : PureTo Try.prog 32 [.v (.float .f64 x), .v (.float .f64 y)] (AV.v (.bool (rsam x y))) := rsam_ev x y trivial
end Go.Proofs.Nu

/- Numbers: walks, written by the tool. -/
set_option maxRecDepth 100000
namespace Go.Proofs.Nu
open Go Go.Ev

-- 2 paths
theorem told1 (x : Nat) (h : AllP [isNaN x = true]) : PureTo Try.prog 56 [.fl .f64 x] (AV.v (.float FloatKind.f64 9221120237041090560)) :=
  evFn_pure hm soN1 (fn := Try.f56) rfl rfl (ti := false) (hs := [CHint.ops 1 [(1, Hint.b true)]]) (c := _) (by kernel_rfl) h
theorem told2 (x : Nat) (h : AllP [isNaN x = false]) : PureTo Try.prog 56 [.fl .f64 x] (AV.fl FloatKind.f64 x) :=
  evFn_pure hm soN1 (fn := Try.f56) rfl rfl (ti := false) (hs := [CHint.ops 1 [(1, Hint.b false)]]) (c := _) (by kernel_rfl) h
-- 2 paths
theorem plain1 (x : Nat) (h : AllP [isNaN x = true]) : PureTo Try.prog 57 [.fl .f64 x] (AV.v (.float FloatKind.f64 9221120237041090560)) :=
  evFn_pure hm soN1 (fn := Try.f57) rfl rfl (ti := false) (hs := [CHint.ops 1 [(1, Hint.b true)]]) (c := _) (by kernel_rfl) h
theorem plain2 (x : Nat) (h : AllP [isNaN x = false]) : PureTo Try.prog 57 [.fl .f64 x] (AV.fl FloatKind.f64 x) :=
  evFn_pure hm soN1 (fn := Try.f57) rfl rfl (ti := false) (hs := [CHint.ops 1 [(1, Hint.b false)]]) (c := _) (by kernel_rfl) h
end Go.Proofs.Nu

/- Numbers: told, plain, infinite, cut; the table. -/
set_option maxRecDepth 100000
namespace Go.Proofs.Nu
open Go Go.Ev

theorem isNaN_iff {x : Nat} : isNaN x = true ↔ nanB .f64 x := by
  rw [nanB_iff]
  unfold isNaN feq
  cases h : (FloatKind.f64.format.read x).isNaN with
  | true => rw [Go.Fl.nan_order (.inl h)]; simp
  | false => rw [Go.Fl.order_self h]; simp
theorem isNaN_false {x : Nat} : isNaN x = false ↔ ¬ nanB .f64 x := by
  rw [← isNaN_iff]
  simp

/-- a number as it is told -/
def toldW (x : Nat) : Nat := if isNaN x = true then qnan else x

theorem told_c (x : Nat) : PureTo Try.prog 56 [.fl .f64 x] (.v (.float .f64 (toldW x))) := by
  unfold toldW
  by_cases h : isNaN x = true
  · rw [if_pos h]
    exact told1 x ⟨h, trivial⟩
  · rw [if_neg h]
    have h' : isNaN x = false := by simpa using h
    exact (told2 x ⟨h', trivial⟩).ans (.num _ (isNaN_false.1 h'))
theorem plain_c (x : Nat) : PureTo Try.prog 57 [.fl .f64 x] (.v (.float .f64 (toldW x))) := by
  unfold toldW
  by_cases h : isNaN x = true
  · rw [if_pos h]
    exact plain1 x ⟨h, trivial⟩
  · rw [if_neg h]
    have h' : isNaN x = false := by simpa using h
    exact (plain2 x ⟨h', trivial⟩).ans (.num _ (isNaN_false.1 h'))

/-- a word -/
def W (x : Nat) : Prop := x < 18446744073709551616
/-- a float's exponent as it lies there -/
def expo (x : Nat) : Nat := x / 4503599627370496 % 2048

theorem expo_bits {x : Nat} (h : W x) : bitsOf BinOp.and IntKind.u64 ((↑x : Int) / (4503599627370496 : Int)) (2047 : Int) = (expo x : Int) := by
  unfold W at h
  have := and_low (k := .u64) rfl (x := (x : Int) / 4503599627370496) (s := 11) (by omega) (by show _ < (2 ^ 64 : Int); omega) (by decide)
  rw [show (((2 ^ 11 - 1 : Nat)) : Int) = 2047 from rfl] at this
  rw [this]
  unfold expo
  show (x : Int) / 4503599627370496 % 2048 = _
  omega

theorem trunc_c {x : Nat} (h : W x) : PureTo Try.prog 92 [.v (.float .f64 x)] (.v (.float .f64 (trunc x))) := by
  refine trunc_pure x ⟨fun _ => ⟨by decide, fun h1 => ?_, trivial⟩, trivial⟩
  rw [expo_bits h] at h1 ⊢
  have h1 := of_decide_eq_true h1
  have he : expo x < 2048 := Nat.mod_lt _ (by decide)
  generalize hE : ((expo x : Int) - 1023) % 18446744073709551616 = E at h1 ⊢
  have hE0 : 0 ≤ E := by omega
  have e2 : (52 - E) % 18446744073709551616 = 52 - E := by omega
  rw [e2]
  have hp : (2 : Int) ^ min (52 - E).toNat 64 ≤ 2 ^ 52 := by
    have : min (52 - E).toNat 64 ≤ 52 := by omega
    exact_mod_cast Nat.pow_le_pow_right (by decide : 0 < 2) this
  have hp0 : (0 : Int) < 2 ^ min (52 - E).toNat 64 := Int.pow_pos (by decide)
  simp only [AllP, inR]
  (repeat' apply And.intro) <;> first | omega | exact trivial

theorem flt_nan {x y : Nat} (h : nanB .f64 x ∨ nanB .f64 y) : flt .f64 x y = false := by
  unfold flt
  rw [Go.Fl.nan_order (h.imp nanB_iff.1 nanB_iff.1)]
  rfl
theorem nan_word {x : Nat} (h : nanB .f64 x) : 9218868437227405312 < x % 9223372036854775808 := by
  rw [nanB_iff, Go.Fl.read64] at h
  split at h
  · cases h
  · split at h
    · cases h
    · split at h
      · cases h
      · omega
theorem trunc_nan {x : Nat} (hw : W x) (h : nanB .f64 x) : trunc x = x := by
  have hn := nan_word h
  have he : expo x = 2047 := by
    unfold expo
    unfold W at hw
    omega
  unfold trunc
  rw [flt_nan (.inl (abs_nan.2 h)), expo_bits hw, he]
  rfl

def normF (x : Nat) : Nat := bif !flt FloatKind.f64 (abs x) 4503599627370496 then x else fmul x 4841369599423283200
def normE (x : Nat) : Int := bif !flt FloatKind.f64 (abs x) 4503599627370496 then (0 : Int) else (-52 : Int)

def sigInf : List AV → Option (AV × List Prop)
  | [x, .v (.int .i64 s)] => match fbits x with
    | some a => some (.v (.bool (isInf a s)), [])
    | none => none
  | _ => none
def sigTrunc : List AV → Option (AV × List Prop)
  | [.v (.float .f64 a)] => some (.v (.float .f64 (trunc a)), [W a])
  | [.fl .f64 a] => some (.v (.float .f64 (trunc a)), [W a, ¬ nanB .f64 a])
  | _ => none
theorem sigTrunc_ok {i : FuncId} (h : ∀ a, W a → PureTo Try.prog i [.v (.float .f64 a)] (.v (.float .f64 (trunc a)))) : ∀ ys r c, sigTrunc ys = some (r, c) → AllP c → PureTo Try.prog i ys r := by
  intro ys r c hs hc
  unfold sigTrunc at hs
  split at hs
  · cases hs; exact h _ hc.1
  · cases hs
    exact (h _ hc.1).args rfl fun i h1 h2 => by
      have : i = 0 := by simpa using h1
      subst this
      exact .num _ hc.2.1
  · cases hs
theorem sigInf_ok : ∀ ys r c, sigInf ys = some (r, c) → AllP c → PureTo Try.prog 17 ys r := by
  intro ys r c hs hc
  unfold sigInf at hs
  split at hs
  · split at hs
    · next a ha =>
      cases hs
      exact (isInf_pure a _).args rfl fun i h1 h2 => by
        have : i = 0 ∨ i = 1 := by simp at h1; omega
        rcases this with rfl | rfl
        · exact fbits_closer ha
        · exact .same _
    · cases hs
  · cases hs

def SN2 : SGT := (17, .p sigInf) :: (56, .p (sigF fun x => (.v (.float .f64 (toldW x)), []))) :: (57, .p (sigF fun x => (.v (.float .f64 (toldW x)), []))) :: (92, .p sigTrunc) ::
  (116, .p (sigF fun x => (.tup [.fl .f64 (normF x), .v (.int .i64 (normE x))], []))) :: SN1
theorem soN2 : SigsOK Try.prog SN2 :=
  sigs_cons (sigs_cons (sigs_cons (sigs_cons (sigs_cons soN1 (sigF_ok fun x _ => norm x trivial)) (sigTrunc_ok fun a h => trunc_c h)) (sigF_ok fun x _ => plain_c x)) (sigF_ok fun x _ => told_c x)) sigInf_ok

end Go.Proofs.Nu

/- Numbers: walks, written by the tool. -/
set_option maxRecDepth 100000
namespace Go.Proofs.Nu
open Go Go.Ev

-- 1 paths
/- DEAD 1 hs []
-- conds []
region 1 op 1: refused: { dst := some 4,
  op :=
    Op.call
      { callee := Callee.value (Operand.func 91), args := #[Operand.tmp 3], argTypes := #[22] },
  type := 22, pos := "floor.go:63", after := #[{ on := 0, ground := Ground.data }], guard := none }
  state { n := 7,
  fr :=
    [(3, AV.v (.float FloatKind.f64 x)), (2, AV.v (.float FloatKind.f64 0)),
      (0, AV.v (.float FloatKind.f64 x))],
  hp := [], nx := 1 } -/
theorem frexp_ev (x : Nat) (h : AllP [(!feq FloatKind.f64 x 0 && !bif isInf x (0 : Int) then true else isNaN x) = true → AllP [¬nanB FloatKind.f64 (normF x), (0 : Int) ≤ (52 : Int), inR IntKind.i64 (IntKind.i64.wrap (bitsOf BinOp.and IntKind.u64 ((↑(normF x) : Int) / (4503599627370496 : Int)) (2047 : Int)) - (1023 : Int)), inR IntKind.i64 (IntKind.i64.wrap (bitsOf BinOp.and IntKind.u64 ((↑(normF x) : Int) / (4503599627370496 : Int)) (2047 : Int)) - (1023 : Int) + (1 : Int)), inR IntKind.i64 (normE x + (IntKind.i64.wrap (bitsOf BinOp.and IntKind.u64 ((↑(normF x) : Int) / (4503599627370496 : Int)) (2047 : Int)) - (1023 : Int) + (1 : Int)))]]) : PureTo Try.prog 115 [.v (.float .f64 x)] (AV.tup [AV.v (.float FloatKind.f64 (bif !feq FloatKind.f64 x 0 && !bif isInf x (0 : Int) then true else isNaN x then (bitsOf BinOp.or IntKind.u64 (bitsOf BinOp.andNot IntKind.u64 (↑(normF x) : Int) (9218868437227405312 : Int)) (4602678819172646912 : Int)).toNat else bif feq FloatKind.f64 x 0 then x else x)), AV.v (.int .i64 (bif !feq FloatKind.f64 x 0 && !bif isInf x (0 : Int) then true else isNaN x then normE x + (IntKind.i64.wrap (bitsOf BinOp.and IntKind.u64 ((↑(normF x) : Int) / (4503599627370496 : Int)) (2047 : Int)) - (1023 : Int) + (1 : Int)) else bif feq FloatKind.f64 x 0 then (0 : Int) else (0 : Int)))]) :=
  evFnM_pure hm soN2 (fn := Try.f115) rfl rfl (ti := false) (m := Mode.parts [Mode.mix, Mode.mix]) (hs := [MHint.br, MHint.ops 3 [] [(2, 3)], MHint.br]) (c := _) (by kernel_rfl) (by kernel_rfl) h
def frexp_1 (x : Nat) : Nat := bif !feq FloatKind.f64 x 0 && !bif isInf x (0 : Int) then true else isNaN x then (bitsOf BinOp.or IntKind.u64 (bitsOf BinOp.andNot IntKind.u64 (↑(normF x) : Int) (9218868437227405312 : Int)) (4602678819172646912 : Int)).toNat else bif feq FloatKind.f64 x 0 then x else x
def frexp_2 (x : Nat) : Int := bif !feq FloatKind.f64 x 0 && !bif isInf x (0 : Int) then true else isNaN x then normE x + (IntKind.i64.wrap (bitsOf BinOp.and IntKind.u64 ((↑(normF x) : Int) / (4503599627370496 : Int)) (2047 : Int)) - (1023 : Int) + (1 : Int)) else bif feq FloatKind.f64 x 0 then (0 : Int) else (0 : Int)
theorem frexp_pure (x : Nat) (h : AllP [(!feq FloatKind.f64 x 0 && !bif isInf x (0 : Int) then true else isNaN x) = true → AllP [¬nanB FloatKind.f64 (normF x), (0 : Int) ≤ (52 : Int), inR IntKind.i64 (IntKind.i64.wrap (bitsOf BinOp.and IntKind.u64 ((↑(normF x) : Int) / (4503599627370496 : Int)) (2047 : Int)) - (1023 : Int)), inR IntKind.i64 (IntKind.i64.wrap (bitsOf BinOp.and IntKind.u64 ((↑(normF x) : Int) / (4503599627370496 : Int)) (2047 : Int)) - (1023 : Int) + (1 : Int)), inR IntKind.i64 (normE x + (IntKind.i64.wrap (bitsOf BinOp.and IntKind.u64 ((↑(normF x) : Int) / (4503599627370496 : Int)) (2047 : Int)) - (1023 : Int) + (1 : Int)))]]) : PureTo Try.prog 115 [.v (.float .f64 x)] (AV.tup [AV.v (.float FloatKind.f64 (frexp_1 x)), AV.v (.int .i64 (frexp_2 x))]) := frexp_ev x h
-- 8 paths
theorem ldexp1 (x : Nat) (e : Int) (h : AllP [feq FloatKind.f64 x 0 = true]) : PureTo Try.prog 113 [.v (.float .f64 x), .v (.int .i64 e)] (AV.v (.float FloatKind.f64 x)) :=
  evFn_pure hm soN2 (fn := Try.f113) rfl rfl (ti := false) (hs := [CHint.ops 1 [(1, Hint.b true)]]) (c := _) (by kernel_rfl) h
theorem ldexp2 (x : Nat) (e : Int) (h : AllP [feq FloatKind.f64 x 0 = false, isInf x (0 : Int) = true]) : PureTo Try.prog 113 [.v (.float .f64 x), .v (.int .i64 e)] (AV.v (.float FloatKind.f64 x)) :=
  evFn_pure hm soN2 (fn := Try.f113) rfl rfl (ti := false) (hs := [CHint.ops 1 [(1, Hint.b false)], CHint.ops 3 [(1, Hint.b true)]]) (c := _) (by kernel_rfl) h
theorem ldexp3 (x : Nat) (e : Int) (h : AllP [feq FloatKind.f64 x 0 = false, isInf x (0 : Int) = false, isNaN x = true]) : PureTo Try.prog 113 [.v (.float .f64 x), .v (.int .i64 e)] (AV.v (.float FloatKind.f64 x)) :=
  evFn_pure hm soN2 (fn := Try.f113) rfl rfl (ti := false) (hs := [CHint.ops 1 [(1, Hint.b false)], CHint.ops 3 [(1, Hint.b false), (4, Hint.b true)]]) (c := _) (by kernel_rfl) h
theorem ldexp4 (x : Nat) (e : Int) (h : AllP [feq FloatKind.f64 x 0 = false, isInf x (0 : Int) = false, isNaN x = false, inR IntKind.i64 (e + normE x), ¬nanB FloatKind.f64 (normF x), (0 : Int) ≤ (52 : Int), inR IntKind.i64 (bitsOf BinOp.and IntKind.i64 (IntKind.i64.wrap ((↑(normF x) : Int) / (4503599627370496 : Int))) (2047 : Int) - (1023 : Int)), inR IntKind.i64 (e + normE x + (bitsOf BinOp.and IntKind.i64 (IntKind.i64.wrap ((↑(normF x) : Int) / (4503599627370496 : Int))) (2047 : Int) - (1023 : Int))), decide (e + normE x + (bitsOf BinOp.and IntKind.i64 (IntKind.i64.wrap ((↑(normF x) : Int) / (4503599627370496 : Int))) (2047 : Int) - (1023 : Int)) < (-1075 : Int)) = true, ¬nanB FloatKind.f64 (normF x)]) : PureTo Try.prog 113 [.v (.float .f64 x), .v (.int .i64 e)] (AV.v (.float FloatKind.f64 (cs 0 (normF x)))) :=
  evFn_pure hm soN2 (fn := Try.f113) rfl rfl (ti := false) (hs := [CHint.ops 1 [(1, Hint.b false)], CHint.ops 3 [(1, Hint.b false), (4, Hint.b false)], CHint.ops 9 [(1, Hint.b true)]]) (c := _) (by kernel_rfl) h
theorem ldexp5 (x : Nat) (e : Int) (h : AllP [feq FloatKind.f64 x 0 = false, isInf x (0 : Int) = false, isNaN x = false, inR IntKind.i64 (e + normE x), ¬nanB FloatKind.f64 (normF x), (0 : Int) ≤ (52 : Int), inR IntKind.i64 (bitsOf BinOp.and IntKind.i64 (IntKind.i64.wrap ((↑(normF x) : Int) / (4503599627370496 : Int))) (2047 : Int) - (1023 : Int)), inR IntKind.i64 (e + normE x + (bitsOf BinOp.and IntKind.i64 (IntKind.i64.wrap ((↑(normF x) : Int) / (4503599627370496 : Int))) (2047 : Int) - (1023 : Int))), decide (e + normE x + (bitsOf BinOp.and IntKind.i64 (IntKind.i64.wrap ((↑(normF x) : Int) / (4503599627370496 : Int))) (2047 : Int) - (1023 : Int)) < (-1075 : Int)) = false, decide (e + normE x + (bitsOf BinOp.and IntKind.i64 (IntKind.i64.wrap ((↑(normF x) : Int) / (4503599627370496 : Int))) (2047 : Int) - (1023 : Int)) > (1023 : Int)) = true, flt FloatKind.f64 (normF x) 0 = true]) : PureTo Try.prog 113 [.v (.float .f64 x), .v (.int .i64 e)] (AV.v (.float FloatKind.f64 18442240474082181120)) :=
  evFn_pure hm soN2 (fn := Try.f113) rfl rfl (ti := false) (hs := [CHint.ops 1 [(1, Hint.b false)], CHint.ops 3 [(1, Hint.b false), (4, Hint.b false)], CHint.ops 9 [(1, Hint.b false)], CHint.ops 11 [(1, Hint.b true)], CHint.ops 12 [(1, Hint.b true)]]) (c := _) (by kernel_rfl) h
theorem ldexp6 (x : Nat) (e : Int) (h : AllP [feq FloatKind.f64 x 0 = false, isInf x (0 : Int) = false, isNaN x = false, inR IntKind.i64 (e + normE x), ¬nanB FloatKind.f64 (normF x), (0 : Int) ≤ (52 : Int), inR IntKind.i64 (bitsOf BinOp.and IntKind.i64 (IntKind.i64.wrap ((↑(normF x) : Int) / (4503599627370496 : Int))) (2047 : Int) - (1023 : Int)), inR IntKind.i64 (e + normE x + (bitsOf BinOp.and IntKind.i64 (IntKind.i64.wrap ((↑(normF x) : Int) / (4503599627370496 : Int))) (2047 : Int) - (1023 : Int))), decide (e + normE x + (bitsOf BinOp.and IntKind.i64 (IntKind.i64.wrap ((↑(normF x) : Int) / (4503599627370496 : Int))) (2047 : Int) - (1023 : Int)) < (-1075 : Int)) = false, decide (e + normE x + (bitsOf BinOp.and IntKind.i64 (IntKind.i64.wrap ((↑(normF x) : Int) / (4503599627370496 : Int))) (2047 : Int) - (1023 : Int)) > (1023 : Int)) = true, flt FloatKind.f64 (normF x) 0 = false]) : PureTo Try.prog 113 [.v (.float .f64 x), .v (.int .i64 e)] (AV.v (.float FloatKind.f64 9218868437227405312)) :=
  evFn_pure hm soN2 (fn := Try.f113) rfl rfl (ti := false) (hs := [CHint.ops 1 [(1, Hint.b false)], CHint.ops 3 [(1, Hint.b false), (4, Hint.b false)], CHint.ops 9 [(1, Hint.b false)], CHint.ops 11 [(1, Hint.b true)], CHint.ops 12 [(1, Hint.b false)]]) (c := _) (by kernel_rfl) h
theorem ldexp7 (x : Nat) (e : Int) (h : AllP [feq FloatKind.f64 x 0 = false, isInf x (0 : Int) = false, isNaN x = false, inR IntKind.i64 (e + normE x), ¬nanB FloatKind.f64 (normF x), (0 : Int) ≤ (52 : Int), inR IntKind.i64 (bitsOf BinOp.and IntKind.i64 (IntKind.i64.wrap ((↑(normF x) : Int) / (4503599627370496 : Int))) (2047 : Int) - (1023 : Int)), inR IntKind.i64 (e + normE x + (bitsOf BinOp.and IntKind.i64 (IntKind.i64.wrap ((↑(normF x) : Int) / (4503599627370496 : Int))) (2047 : Int) - (1023 : Int))), decide (e + normE x + (bitsOf BinOp.and IntKind.i64 (IntKind.i64.wrap ((↑(normF x) : Int) / (4503599627370496 : Int))) (2047 : Int) - (1023 : Int)) < (-1075 : Int)) = false, decide (e + normE x + (bitsOf BinOp.and IntKind.i64 (IntKind.i64.wrap ((↑(normF x) : Int) / (4503599627370496 : Int))) (2047 : Int) - (1023 : Int)) > (1023 : Int)) = false, decide (e + normE x + (bitsOf BinOp.and IntKind.i64 (IntKind.i64.wrap ((↑(normF x) : Int) / (4503599627370496 : Int))) (2047 : Int) - (1023 : Int)) < (-1022 : Int)) = true, inR IntKind.i64 (e + normE x + (bitsOf BinOp.and IntKind.i64 (IntKind.i64.wrap ((↑(normF x) : Int) / (4503599627370496 : Int))) (2047 : Int) - (1023 : Int)) + (53 : Int)), inR IntKind.i64 (e + normE x + (bitsOf BinOp.and IntKind.i64 (IntKind.i64.wrap ((↑(normF x) : Int) / (4503599627370496 : Int))) (2047 : Int) - (1023 : Int)) + (53 : Int) + (1023 : Int)), (0 : Int) ≤ (52 : Int), inR IntKind.u64 ((e + normE x + (bitsOf BinOp.and IntKind.i64 (IntKind.i64.wrap ((↑(normF x) : Int) / (4503599627370496 : Int))) (2047 : Int) - (1023 : Int)) + (53 : Int) + (1023 : Int)) % (18446744073709551616 : Int) * (4503599627370496 : Int))]) : PureTo Try.prog 113 [.v (.float .f64 x), .v (.int .i64 e)] (AV.fl FloatKind.f64 (fmul 4368491638549381120 (bitsOf BinOp.or IntKind.u64 (bitsOf BinOp.andNot IntKind.u64 (↑(normF x) : Int) (9218868437227405312 : Int)) ((e + normE x + (bitsOf BinOp.and IntKind.i64 (IntKind.i64.wrap ((↑(normF x) : Int) / (4503599627370496 : Int))) (2047 : Int) - (1023 : Int)) + (53 : Int) + (1023 : Int)) % (18446744073709551616 : Int) * (4503599627370496 : Int))).toNat)) :=
  evFn_pure hm soN2 (fn := Try.f113) rfl rfl (ti := false) (hs := [CHint.ops 1 [(1, Hint.b false)], CHint.ops 3 [(1, Hint.b false), (4, Hint.b false)], CHint.ops 9 [(1, Hint.b false)], CHint.ops 11 [(1, Hint.b false)], CHint.ops 16 [(1, Hint.b true)]]) (c := _) (by kernel_rfl) h
theorem ldexp8 (x : Nat) (e : Int) (h : AllP [feq FloatKind.f64 x 0 = false, isInf x (0 : Int) = false, isNaN x = false, inR IntKind.i64 (e + normE x), ¬nanB FloatKind.f64 (normF x), (0 : Int) ≤ (52 : Int), inR IntKind.i64 (bitsOf BinOp.and IntKind.i64 (IntKind.i64.wrap ((↑(normF x) : Int) / (4503599627370496 : Int))) (2047 : Int) - (1023 : Int)), inR IntKind.i64 (e + normE x + (bitsOf BinOp.and IntKind.i64 (IntKind.i64.wrap ((↑(normF x) : Int) / (4503599627370496 : Int))) (2047 : Int) - (1023 : Int))), decide (e + normE x + (bitsOf BinOp.and IntKind.i64 (IntKind.i64.wrap ((↑(normF x) : Int) / (4503599627370496 : Int))) (2047 : Int) - (1023 : Int)) < (-1075 : Int)) = false, decide (e + normE x + (bitsOf BinOp.and IntKind.i64 (IntKind.i64.wrap ((↑(normF x) : Int) / (4503599627370496 : Int))) (2047 : Int) - (1023 : Int)) > (1023 : Int)) = false, decide (e + normE x + (bitsOf BinOp.and IntKind.i64 (IntKind.i64.wrap ((↑(normF x) : Int) / (4503599627370496 : Int))) (2047 : Int) - (1023 : Int)) < (-1022 : Int)) = false, inR IntKind.i64 (e + normE x + (bitsOf BinOp.and IntKind.i64 (IntKind.i64.wrap ((↑(normF x) : Int) / (4503599627370496 : Int))) (2047 : Int) - (1023 : Int)) + (1023 : Int)), (0 : Int) ≤ (52 : Int), inR IntKind.u64 ((e + normE x + (bitsOf BinOp.and IntKind.i64 (IntKind.i64.wrap ((↑(normF x) : Int) / (4503599627370496 : Int))) (2047 : Int) - (1023 : Int)) + (1023 : Int)) % (18446744073709551616 : Int) * (4503599627370496 : Int))]) : PureTo Try.prog 113 [.v (.float .f64 x), .v (.int .i64 e)] (AV.fl FloatKind.f64 (fmul 4607182418800017408 (bitsOf BinOp.or IntKind.u64 (bitsOf BinOp.andNot IntKind.u64 (↑(normF x) : Int) (9218868437227405312 : Int)) ((e + normE x + (bitsOf BinOp.and IntKind.i64 (IntKind.i64.wrap ((↑(normF x) : Int) / (4503599627370496 : Int))) (2047 : Int) - (1023 : Int)) + (1023 : Int)) % (18446744073709551616 : Int) * (4503599627370496 : Int))).toNat)) :=
  evFn_pure hm soN2 (fn := Try.f113) rfl rfl (ti := false) (hs := [CHint.ops 1 [(1, Hint.b false)], CHint.ops 3 [(1, Hint.b false), (4, Hint.b false)], CHint.ops 9 [(1, Hint.b false)], CHint.ops 11 [(1, Hint.b false)], CHint.ops 16 [(1, Hint.b false)]]) (c := _) (by kernel_rfl) h
end Go.Proofs.Nu
