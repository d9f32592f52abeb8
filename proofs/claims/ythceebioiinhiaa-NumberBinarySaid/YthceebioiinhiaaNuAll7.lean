/- Contracts of the program's functions, and the plain law behind them. No condition beyond those in each statement. -/
import Derived.Test.YthceebioiinhiaaNuAll5
import Derived.Test.YthceebioiinhiaaNuAll6
import Derived.Test.YthceebioiinhiaaEvAll9
import Derived.Test.YthceebioiinhiaaEvAll6
set_option linter.unusedSimpArgs false
set_option linter.unusedVariables false
set_option linter.unusedSectionVars false
/- Numbers: Frexp and Ldexp. -/
set_option maxRecDepth 100000
namespace Go.Proofs.Nu
open Go Go.Ev

theorem isNaN_num {x : Nat} : isNaN x = false ↔ Num x := by rw [isNaN_false, num_iff]
theorem rg_abs (x : Nat) : rg (abs x) = rg x := by unfold rg; rw [abs_eq]; omega
theorem skey_abs (x : Nat) : skey (abs x) = rg x := by
  unfold skey
  have h : (abs x / 9223372036854775808 % 2 == 1) = false := by rw [abs_eq, beq_eq_false_iff_ne]; omega
  rw [h, rg_abs]
  rfl
theorem num_abs {x : Nat} : Num (abs x) ↔ Num x := by unfold Num; rw [rg_abs]
theorem skey_small {c : Nat} (h : c < 9223372036854775808) : skey c = c ∧ rg c = c := by
  have h1 : rg c = c := by unfold rg; omega
  refine ⟨?_, h1⟩
  unfold skey
  have h2 : (c / 9223372036854775808 % 2 == 1) = false := by rw [beq_eq_false_iff_ne]; omega
  rw [h2, h1]
  rfl
theorem num_small {c : Nat} (h : c ≤ 9218868437227405312) : Num c := by unfold Num; rw [(skey_small (by omega)).2]; exact h

theorem isInf_eq (x : Nat) : isInf x 0 = decide (rg x = 9218868437227405312) := by
  have e : isInf x 0 = fgt .f64 (abs x) 9218868437227405311 := rfl
  rw [e]
  by_cases hx : Num x
  · rw [fgt_key (num_abs.2 hx) (num_small (by decide)), skey_abs, (skey_small (c := 9218868437227405311) (by decide)).1]
    unfold Num at hx
    by_cases h : rg x = 9218868437227405312
    · rw [decide_eq_true h, decide_eq_true (by omega)]
    · rw [decide_eq_false h, decide_eq_false (by omega)]
  · rw [(nan_cmp (.inl fun h => hx (num_abs.1 h))).2.2, decide_eq_false fun h => hx (by unfold Num; omega)]

theorem normF_eq {x : Nat} (h : Num x) : normF x = if rg x < 4503599627370496 then fmul x 4841369599423283200 else x := by
  unfold normF
  rw [flt_key (num_abs.2 h) (num_small (by decide)), skey_abs, (skey_small (c := 4503599627370496) (by decide)).1]
  by_cases h1 : rg x < 4503599627370496
  · rw [if_pos h1, decide_eq_true (by omega)]; rfl
  · rw [if_neg h1, decide_eq_false (by omega)]; rfl
theorem normE_eq {x : Nat} (h : Num x) : normE x = if rg x < 4503599627370496 then -52 else 0 := by
  unfold normE
  rw [flt_key (num_abs.2 h) (num_small (by decide)), skey_abs, (skey_small (c := 4503599627370496) (by decide)).1]
  by_cases h1 : rg x < 4503599627370496
  · rw [if_pos h1, decide_eq_true (by omega)]; rfl
  · rw [if_neg h1, decide_eq_false (by omega)]; rfl

theorem fin_read {x : Nat} (h : rg x < 9218868437227405312) : FFin x := ⟨_, _, _, read_num h⟩
theorem normF_clean {x : Nat} (hw : W x) (h : rg x < 9218868437227405312) : FClean (normF x) := by
  rw [normF_eq (by unfold Num; omega)]
  split
  · exact fmul_fin (fin_read h) (fin_read (by decide))
  · exact ⟨hw, by show rg x ≤ _; omega⟩

theorem and_i64 {n : Nat} (h : n < 9223372036854775808) : bitsOf .and .i64 (n : Int) 2047 = ((n % 2048 : Nat) : Int) := by
  have hu := and_low (k := .u64) rfl (x := (n : Int)) (s := 11) (by omega) (by show _ < (2 ^ 64 : Int); omega) (by decide)
  rw [show (((2 ^ 11 - 1 : Nat)) : Int) = 2047 from rfl] at hu
  have e1 : bitsOf .and .u64 (n : Int) 2047 = (((BitVec.ofInt 64 (n : Int) &&& BitVec.ofInt 64 2047).toNat : Nat) : Int) % 18446744073709551616 := rfl
  have e2 : bitsOf .and .i64 (n : Int) 2047 = IntKind.i64.wrap ((BitVec.ofInt 64 (n : Int) &&& BitVec.ofInt 64 2047).toNat : Int) := rfl
  rw [e1] at hu
  rw [e2, IntKind.wrap_i64]
  have hlt := (BitVec.ofInt 64 (n : Int) &&& BitVec.ofInt 64 2047).isLt
  have h3 : ((2 ^ 11 : Nat) : Int) = 2048 := rfl
  rw [h3] at hu
  omega

theorem expo_lt (x : Nat) : expo x < 2048 := Nat.mod_lt _ (by decide)
theorem expo_i64 {x : Nat} (h : W x) : bitsOf BinOp.and IntKind.i64 (IntKind.i64.wrap ((↑x : Int) / (4503599627370496 : Int))) (2047 : Int) = (expo x : Int) := by
  unfold W at h
  have e : IntKind.i64.wrap ((x : Int) / 4503599627370496) = ((x / 4503599627370496 : Nat) : Int) := by
    rw [IntKind.wrap_i64]; omega
  rw [e, and_i64 (by omega)]
  rfl

theorem frexp_c {x : Nat} (hw : W x) : PureTo Try.prog 115 [.v (.float .f64 x)] (.tup [.v (.float .f64 (frexp_1 x)), .v (.int .i64 (frexp_2 x))]) := by
  refine frexp_pure x ⟨fun h => ?_, trivial⟩
  rw [isInf_eq] at h
  have hfin : rg x < 9218868437227405312 := by
    cases hn : isNaN x with
    | true => rw [hn] at h; simp at h
    | false =>
      have h1 := isNaN_num.1 hn
      unfold Num at h1
      rw [hn] at h
      by_cases h2 : rg x = 9218868437227405312
      · rw [decide_eq_true h2] at h; simp at h
      · omega
  have hc := normF_clean hw hfin
  have hne := normE_eq (x := x) (by unfold Num; omega)
  rw [expo_bits hc.1, show IntKind.i64.wrap (expo (normF x) : Int) = expo (normF x) by rw [IntKind.wrap_i64]; have := expo_lt (normF x); omega]
  have he := expo_lt (normF x)
  have h3 : normE x = -52 ∨ normE x = 0 := by rw [hne]; split <;> simp
  simp only [AllP, inR]
  (repeat' apply And.intro) <;> first | exact hc.num | omega | exact trivial

/-- another exponent -/
def setE (y : Nat) (E : Int) : Nat := (bitsOf BinOp.or IntKind.u64 (bitsOf BinOp.andNot IntKind.u64 (↑y : Int) (9218868437227405312 : Int)) (E % (18446744073709551616 : Int) * (4503599627370496 : Int))).toNat
/-- a float times a power of 2 -/
def ldexpW (x : Nat) (e : Int) : Nat :=
  if feq .f64 x 0 = true then x else if isInf x 0 = true then x else if isNaN x = true then x else
  let E := e + normE x + ((expo (normF x) : Int) - 1023)
  if E < -1075 then cs 0 (normF x) else if E > 1023 then (if flt .f64 (normF x) 0 = true then 18442240474082181120 else 9218868437227405312)
  else if E < -1022 then fmul 4368491638549381120 (setE (normF x) (E + 53 + 1023)) else fmul 4607182418800017408 (setE (normF x) (E + 1023))

theorem ldexp_c {x : Nat} {e : Int} (hw : W x) (he1 : -4611686018427387904 ≤ e) (he2 : e ≤ 4611686018427387904) : PureTo Try.prog 113 [.v (.float .f64 x), .v (.int .i64 e)] (.fl .f64 (ldexpW x e)) := by
  have known : ∀ {a : Nat}, PureTo Try.prog 113 [.v (.float .f64 x), .v (.int .i64 e)] (.v (.float .f64 a)) → PureTo Try.prog 113 [.v (.float .f64 x), .v (.int .i64 e)] (.fl .f64 a) := fun h => h.ans (.fl _)
  unfold ldexpW
  by_cases h0 : feq .f64 x 0 = true
  · rw [if_pos h0]; exact known (ldexp1 x e ⟨h0, trivial⟩)
  rw [if_neg h0]
  have h0' : feq .f64 x 0 = false := by simpa using h0
  by_cases h1 : isInf x 0 = true
  · rw [if_pos h1]; exact known (ldexp2 x e ⟨h0', h1, trivial⟩)
  rw [if_neg h1]
  have h1' : isInf x 0 = false := by simpa using h1
  by_cases h2 : isNaN x = true
  · rw [if_pos h2]; exact known (ldexp3 x e ⟨h0', h1', h2, trivial⟩)
  rw [if_neg h2]
  have h2' : isNaN x = false := by simpa using h2
  have hfin : rg x < 9218868437227405312 := by
    have h3 := isNaN_num.1 h2'
    unfold Num at h3
    rw [isInf_eq] at h1'
    have := of_decide_eq_false h1'
    omega
  have hc := normF_clean hw hfin
  have hne := normE_eq (x := x) (by unfold Num; omega)
  have h3 : normE x = -52 ∨ normE x = 0 := by rw [hne]; split <;> simp
  have hx := expo_lt (normF x)
  have hcn := hc.num
  have l4 := ldexp4 x e
  have l5 := ldexp5 x e
  have l6 := ldexp6 x e
  have l7 := ldexp7 x e
  have l8 := ldexp8 x e
  rw [expo_i64 hc.1] at l4 l5 l6 l7 l8
  simp only
  generalize hE : e + normE x + ((expo (normF x) : Int) - 1023) = E at *
  have r1 : inR .i64 (e + normE x) := by simp only [inR]; omega
  have r2 : inR .i64 ((expo (normF x) : Int) - 1023) := by simp only [inR]; omega
  have r3 : inR .i64 E := by simp only [inR]; omega
  by_cases g1 : E < -1075
  · rw [if_pos g1]
    exact known (l4 ⟨h0', h1', h2', r1, hcn, by decide, r2, r3, decide_eq_true g1, hcn, trivial⟩)
  rw [if_neg g1]
  by_cases g2 : E > 1023
  · rw [if_pos g2]
    by_cases g3 : flt .f64 (normF x) 0 = true
    · rw [if_pos g3]
      exact known (l5 ⟨h0', h1', h2', r1, hcn, by decide, r2, r3, decide_eq_false g1, decide_eq_true g2, g3, trivial⟩)
    · rw [if_neg g3]
      exact known (l6 ⟨h0', h1', h2', r1, hcn, by decide, r2, r3, decide_eq_false g1, decide_eq_true g2, by simpa using g3, trivial⟩)
  rw [if_neg g2]
  by_cases g3 : E < -1022
  · rw [if_pos g3]
    refine l7 ⟨h0', h1', h2', r1, hcn, by decide, r2, r3, decide_eq_false g1, decide_eq_false g2, decide_eq_true g3, ?_, ?_, by decide, ?_, trivial⟩ <;> (simp only [inR]; omega)
  · rw [if_neg g3]
    refine l8 ⟨h0', h1', h2', r1, hcn, by decide, r2, r3, decide_eq_false g1, decide_eq_false g2, decide_eq_false g3, ?_, by decide, ?_, trivial⟩ <;> (simp only [inR]; omega)

def sigFrexp : List AV → Option (AV × List Prop)
  | [.v (.float .f64 x)] => some (.tup [.v (.float .f64 (frexp_1 x)), .v (.int .i64 (frexp_2 x))], [W x])
  | [.fl .f64 x] => some (.tup [.v (.float .f64 (frexp_1 x)), .v (.int .i64 (frexp_2 x))], [W x, ¬ nanB .f64 x])
  | _ => none
def sigLdexp : List AV → Option (AV × List Prop)
  | [.v (.float .f64 x), .v (.int .i64 e)] => some (.fl .f64 (ldexpW x e), [W x, -4611686018427387904 ≤ e, e ≤ 4611686018427387904])
  | [.fl .f64 x, .v (.int .i64 e)] => some (.fl .f64 (ldexpW x e), [W x, -4611686018427387904 ≤ e, e ≤ 4611686018427387904, ¬ nanB .f64 x])
  | _ => none
theorem sigFrexp_ok {i : FuncId} (h : ∀ x, W x → PureTo Try.prog i [.v (.float .f64 x)] (.tup [.v (.float .f64 (frexp_1 x)), .v (.int .i64 (frexp_2 x))])) : ∀ ys r c, sigFrexp ys = some (r, c) → AllP c → PureTo Try.prog i ys r := by
  intro ys r c hs hc
  unfold sigFrexp at hs
  split at hs
  · cases hs; exact h _ hc.1
  · cases hs
    exact (h _ hc.1).args rfl fun i h1 h2 => by
      have : i = 0 := by simpa using h1
      subst this
      exact .num _ hc.2.1
  · cases hs
theorem sigLdexp_ok {i : FuncId} (h : ∀ x e, W x → -4611686018427387904 ≤ e → e ≤ 4611686018427387904 → PureTo Try.prog i [.v (.float .f64 x), .v (.int .i64 e)] (.fl .f64 (ldexpW x e))) : ∀ ys r c, sigLdexp ys = some (r, c) → AllP c → PureTo Try.prog i ys r := by
  intro ys r c hs hc
  unfold sigLdexp at hs
  split at hs
  · cases hs; exact h _ _ hc.1 hc.2.1 hc.2.2.1
  · cases hs
    exact (h _ _ hc.1 hc.2.1 hc.2.2.1).args rfl fun i h1 h2 => by
      have : i = 0 ∨ i = 1 := by simp at h1; omega
      rcases this with rfl | rfl
      · exact .num _ hc.2.2.2.1
      · exact .same _
  · cases hs

def SN6 : SGT := (115, .p sigFrexp) :: (113, .p sigLdexp) :: SN5
theorem soN6 : SigsOK Try.prog SN6 := sigs_cons (sigs_cons soN5 (sigLdexp_ok fun _ _ a b c => ldexp_c a b c)) (sigFrexp_ok fun _ h => frexp_c h)

end Go.Proofs.Nu

/- Numbers: walks, written by the tool. -/
set_option maxRecDepth 100000
namespace Go.Proofs.Nu
open Go Go.Ev

-- 1 paths
theorem mfrexp1 (x : Nat) (h : AllP [W x]) : PureTo Try.prog 110 [.v (.float .f64 x)] (AV.tup [AV.v (.float FloatKind.f64 (frexp_1 x)), AV.v (.int .i64 (frexp_2 x))]) :=
  evFn_pure hm soN6 (fn := Try.f110) rfl rfl (ti := false) (hs := []) (c := _) (by kernel_rfl) h
-- 1 paths
theorem mldexp1 (x : Nat) (e : Int) (h : AllP [W x, (-4611686018427387904 : Int) ≤ e, e ≤ (4611686018427387904 : Int)]) : PureTo Try.prog 109 [.v (.float .f64 x), .v (.int .i64 e)] (AV.fl FloatKind.f64 (ldexpW x e)) :=
  evFn_pure hm soN6 (fn := Try.f109) rfl rfl (ti := false) (hs := []) (c := _) (by kernel_rfl) h
-- 4 paths
theorem rround1 (x : Nat) (h : AllP [fin x = true, feq FloatKind.f64 (intW Ieee.Toward.down x) x = true]) : PureTo Try.prog 45 [.v (.float .f64 x)] (AV.v (.float FloatKind.f64 (toldW x))) :=
  evFn_pure hm soN6 (fn := Try.f45) rfl rfl (ti := false) (hs := [CHint.ops 2 [(1, Hint.b true), (6, Hint.b true)]]) (c := _) (by kernel_rfl) h
theorem rround2 (x : Nat) (h : AllP [fin x = true, feq FloatKind.f64 (intW Ieee.Toward.down x) x = false, (fgt FloatKind.f64 (fsub x (intW Ieee.Toward.down x)) 4602678819172646912 || feq FloatKind.f64 (fsub x (intW Ieee.Toward.down x)) 4602678819172646912) = true]) : PureTo Try.prog 45 [.v (.float .f64 x)] (AV.fl FloatKind.f64 (cs (fadd (intW Ieee.Toward.down x) 4607182418800017408) x)) :=
  evFn_pure hm soN6 (fn := Try.f45) rfl rfl (ti := false) (hs := [CHint.ops 2 [(1, Hint.b true), (6, Hint.b false)], CHint.ops 4 [(3, Hint.b true)]]) (c := _) (by kernel_rfl) h
theorem rround3 (x : Nat) (h : AllP [fin x = true, feq FloatKind.f64 (intW Ieee.Toward.down x) x = false, (fgt FloatKind.f64 (fsub x (intW Ieee.Toward.down x)) 4602678819172646912 || feq FloatKind.f64 (fsub x (intW Ieee.Toward.down x)) 4602678819172646912) = false]) : PureTo Try.prog 45 [.v (.float .f64 x)] (AV.fl FloatKind.f64 (cs (intW Ieee.Toward.down x) x)) :=
  evFn_pure hm soN6 (fn := Try.f45) rfl rfl (ti := false) (hs := [CHint.ops 2 [(1, Hint.b true), (6, Hint.b false)], CHint.ops 4 [(3, Hint.b false)]]) (c := _) (by kernel_rfl) h
theorem rround4 (x : Nat) (h : AllP [fin x = false]) : PureTo Try.prog 45 [.v (.float .f64 x)] (AV.v (.float FloatKind.f64 (toldW x))) :=
  evFn_pure hm soN6 (fn := Try.f45) rfl rfl (ti := false) (hs := [CHint.ops 2 [(1, Hint.b false)]]) (c := _) (by kernel_rfl) h
end Go.Proofs.Nu

/- Numbers: Frexp, Ldexp; the table. -/
set_option maxRecDepth 100000
namespace Go.Proofs.Nu
open Go Go.Ev
def SN7 : SGT := (110, .p sigFrexp) :: (109, .p sigLdexp) :: SN6
theorem soN7 : SigsOK Try.prog SN7 := sigs_cons (sigs_cons soN6 (sigLdexp_ok fun x e a b c => mldexp1 x e ⟨a, b, c, trivial⟩)) (sigFrexp_ok fun x h => mfrexp1 x ⟨h, trivial⟩)
end Go.Proofs.Nu

/- Numbers: walks, written by the tool. -/
set_option maxRecDepth 100000
namespace Go.Proofs.Nu
open Go Go.Ev
def modS0 (x y r : Nat)  : AS := { n := 62, fr := [(0, AV.v (.float FloatKind.f64 x)), (1, AV.v (.float FloatKind.f64 (abs y))), (5, AV.v (.float FloatKind.f64 (frexp_1 (abs y)))), (6, AV.v (.int .i64 (frexp_2 (abs y)))), (7, AV.fl FloatKind.f64 r)], hp := [], nx := 0 }
def modX0 (x y r : Nat)  : AS := { n := 62, fr := [(0, AV.v (.float FloatKind.f64 x)), (7, AV.fl FloatKind.f64 r)], hp := [], nx := 0 }
-- 3 paths
theorem modL0_1 (x y r : Nat) (h : AllP [(fgt FloatKind.f64 r (abs y) || feq FloatKind.f64 r (abs y)) = true, W r, ¬nanB FloatKind.f64 r, flt FloatKind.f64 (frexp_1 r) (frexp_1 (abs y)) = true, inR IntKind.i64 (frexp_2 r - (1 : Int)), inR IntKind.i64 (frexp_2 r - (1 : Int) - frexp_2 (abs y)), W (abs y), (-4611686018427387904 : Int) ≤ frexp_2 r - (1 : Int) - frexp_2 (abs y), frexp_2 r - (1 : Int) - frexp_2 (abs y) ≤ (4611686018427387904 : Int)]) : To Try.prog (loopAt Try.f90 0) ({ n := 62, fr := [(0, AV.v (.float FloatKind.f64 x)), (1, AV.v (.float FloatKind.f64 (abs y))), (5, AV.v (.float FloatKind.f64 (frexp_1 (abs y)))), (6, AV.v (.int .i64 (frexp_2 (abs y)))), (7, AV.fl FloatKind.f64 r)], hp := [], nx := 0 }) (.normal) { n := 62, fr := [(0, AV.v (.float FloatKind.f64 x)), (1, AV.v (.float FloatKind.f64 (abs y))), (5, AV.v (.float FloatKind.f64 (frexp_1 (abs y)))), (6, AV.v (.int .i64 (frexp_2 (abs y)))), (7, AV.fl FloatKind.f64 (fsub r (ldexpW (abs y) (frexp_2 r - (1 : Int) - frexp_2 (abs y)))))], hp := [], nx := 0 } :=
  evW_to hm soN7 (hs := [CHint.ops 8 [(2, Hint.b true)], CHint.ops 10 [(2, Hint.b true)]]) (slots := [0, 1, 5, 6, 7]) (keys := []) (nx := 0) (c := _) (by kernel_rfl) h
theorem modL0_2 (x y r : Nat) (h : AllP [(fgt FloatKind.f64 r (abs y) || feq FloatKind.f64 r (abs y)) = true, W r, ¬nanB FloatKind.f64 r, flt FloatKind.f64 (frexp_1 r) (frexp_1 (abs y)) = false, inR IntKind.i64 (frexp_2 r - frexp_2 (abs y)), W (abs y), (-4611686018427387904 : Int) ≤ frexp_2 r - frexp_2 (abs y), frexp_2 r - frexp_2 (abs y) ≤ (4611686018427387904 : Int)]) : To Try.prog (loopAt Try.f90 0) ({ n := 62, fr := [(0, AV.v (.float FloatKind.f64 x)), (1, AV.v (.float FloatKind.f64 (abs y))), (5, AV.v (.float FloatKind.f64 (frexp_1 (abs y)))), (6, AV.v (.int .i64 (frexp_2 (abs y)))), (7, AV.fl FloatKind.f64 r)], hp := [], nx := 0 }) (.normal) { n := 62, fr := [(0, AV.v (.float FloatKind.f64 x)), (1, AV.v (.float FloatKind.f64 (abs y))), (5, AV.v (.float FloatKind.f64 (frexp_1 (abs y)))), (6, AV.v (.int .i64 (frexp_2 (abs y)))), (7, AV.fl FloatKind.f64 (fsub r (ldexpW (abs y) (frexp_2 r - frexp_2 (abs y)))))], hp := [], nx := 0 } :=
  evW_to hm soN7 (hs := [CHint.ops 8 [(2, Hint.b true)], CHint.ops 10 [(2, Hint.b false)]]) (slots := [0, 1, 5, 6, 7]) (keys := []) (nx := 0) (c := _) (by kernel_rfl) h
theorem modL0_3 (x y r : Nat) (h : AllP [(fgt FloatKind.f64 r (abs y) || feq FloatKind.f64 r (abs y)) = false]) : To Try.prog (loopAt Try.f90 0) ({ n := 62, fr := [(0, AV.v (.float FloatKind.f64 x)), (1, AV.v (.float FloatKind.f64 (abs y))), (5, AV.v (.float FloatKind.f64 (frexp_1 (abs y)))), (6, AV.v (.int .i64 (frexp_2 (abs y)))), (7, AV.fl FloatKind.f64 r)], hp := [], nx := 0 }) (Exit.exit 0) { n := 62, fr := [(0, AV.v (.float FloatKind.f64 x)), (7, AV.fl FloatKind.f64 r)], hp := [], nx := 0 } :=
  evW_to hm soN7 (hs := [CHint.ops 8 [(2, Hint.b false)]]) (slots := [0, 7]) (keys := []) (nx := 0) (c := _) (by kernel_rfl) h
-- 8 paths
theorem modF1 (x y r : Nat) (h : AllP [feq FloatKind.f64 y 0 = true]) : PureTo Try.prog 90 [.v (.float .f64 x), .v (.float .f64 y)] (AV.v (.float FloatKind.f64 9221120237041090561)) :=
  evFn_pure hm soN7 (fn := Try.f90) rfl rfl (ti := false) (hs := [CHint.ops 1 [(1, Hint.b true)]]) (c := _) (by kernel_rfl) h
theorem modF2 (x y r : Nat) (h : AllP [feq FloatKind.f64 y 0 = false, isInf x (0 : Int) = true]) : PureTo Try.prog 90 [.v (.float .f64 x), .v (.float .f64 y)] (AV.v (.float FloatKind.f64 9221120237041090561)) :=
  evFn_pure hm soN7 (fn := Try.f90) rfl rfl (ti := false) (hs := [CHint.ops 1 [(1, Hint.b false), (4, Hint.b true)]]) (c := _) (by kernel_rfl) h
theorem modF3 (x y r : Nat) (h : AllP [feq FloatKind.f64 y 0 = false, isInf x (0 : Int) = false, isNaN x = true]) : PureTo Try.prog 90 [.v (.float .f64 x), .v (.float .f64 y)] (AV.v (.float FloatKind.f64 9221120237041090561)) :=
  evFn_pure hm soN7 (fn := Try.f90) rfl rfl (ti := false) (hs := [CHint.ops 1 [(1, Hint.b false), (4, Hint.b false), (8, Hint.b true)]]) (c := _) (by kernel_rfl) h
theorem modF4 (x y r : Nat) (h : AllP [feq FloatKind.f64 y 0 = false, isInf x (0 : Int) = false, isNaN x = false, isNaN y = true]) : PureTo Try.prog 90 [.v (.float .f64 x), .v (.float .f64 y)] (AV.v (.float FloatKind.f64 9221120237041090561)) :=
  evFn_pure hm soN7 (fn := Try.f90) rfl rfl (ti := false) (hs := [CHint.ops 1 [(1, Hint.b false), (4, Hint.b false), (8, Hint.b false), (12, Hint.b true)]]) (c := _) (by kernel_rfl) h
theorem modF5 (x y r : Nat) (h : AllP [feq FloatKind.f64 y 0 = false, isInf x (0 : Int) = false, isNaN x = false, isNaN y = false, W (abs y), flt FloatKind.f64 x 0 = true, LoopTo Try.prog (loopAt Try.f90 0) { n := 62, fr := [(0, AV.v (.float FloatKind.f64 x)), (1, AV.v (.float FloatKind.f64 (abs y))), (5, AV.v (.float FloatKind.f64 (frexp_1 (abs y)))), (6, AV.v (.int .i64 (frexp_2 (abs y)))), (7, AV.v (.float FloatKind.f64 (fneg x)))], hp := [], nx := 0 } (Exit.exit 0) { n := 62, fr := [(0, AV.v (.float FloatKind.f64 x)), (7, AV.fl FloatKind.f64 r)], hp := [], nx := 0 }, flt FloatKind.f64 x 0 = true]) : PureTo Try.prog 90 [.v (.float .f64 x), .v (.float .f64 y)] (AV.fl FloatKind.f64 (fneg r)) :=
  evFn_pure hm soN7 (fn := Try.f90) rfl rfl (ti := false) (hs := [CHint.ops 1 [(1, Hint.b false), (4, Hint.b false), (8, Hint.b false), (12, Hint.b false)], CHint.ops 6 [(1, Hint.b true)], CHint.loop [0, 1, 5, 6, 7] [] 0 (Exit.exit 0) { n := 62, fr := [(0, AV.v (.float FloatKind.f64 x)), (7, AV.fl FloatKind.f64 r)], hp := [], nx := 0 }, CHint.ops 13 [(1, Hint.b true)]]) (c := _) (by kernel_rfl) h
theorem modF6 (x y r : Nat) (h : AllP [feq FloatKind.f64 y 0 = false, isInf x (0 : Int) = false, isNaN x = false, isNaN y = false, W (abs y), flt FloatKind.f64 x 0 = true, LoopTo Try.prog (loopAt Try.f90 0) { n := 62, fr := [(0, AV.v (.float FloatKind.f64 x)), (1, AV.v (.float FloatKind.f64 (abs y))), (5, AV.v (.float FloatKind.f64 (frexp_1 (abs y)))), (6, AV.v (.int .i64 (frexp_2 (abs y)))), (7, AV.v (.float FloatKind.f64 (fneg x)))], hp := [], nx := 0 } (Exit.exit 0) { n := 62, fr := [(0, AV.v (.float FloatKind.f64 x)), (7, AV.fl FloatKind.f64 r)], hp := [], nx := 0 }, flt FloatKind.f64 x 0 = false]) : PureTo Try.prog 90 [.v (.float .f64 x), .v (.float .f64 y)] (AV.fl FloatKind.f64 r) :=
  evFn_pure hm soN7 (fn := Try.f90) rfl rfl (ti := false) (hs := [CHint.ops 1 [(1, Hint.b false), (4, Hint.b false), (8, Hint.b false), (12, Hint.b false)], CHint.ops 6 [(1, Hint.b true)], CHint.loop [0, 1, 5, 6, 7] [] 0 (Exit.exit 0) { n := 62, fr := [(0, AV.v (.float FloatKind.f64 x)), (7, AV.fl FloatKind.f64 r)], hp := [], nx := 0 }, CHint.ops 13 [(1, Hint.b false)]]) (c := _) (by kernel_rfl) h
theorem modF7 (x y r : Nat) (h : AllP [feq FloatKind.f64 y 0 = false, isInf x (0 : Int) = false, isNaN x = false, isNaN y = false, W (abs y), flt FloatKind.f64 x 0 = false, LoopTo Try.prog (loopAt Try.f90 0) { n := 62, fr := [(0, AV.v (.float FloatKind.f64 x)), (1, AV.v (.float FloatKind.f64 (abs y))), (5, AV.v (.float FloatKind.f64 (frexp_1 (abs y)))), (6, AV.v (.int .i64 (frexp_2 (abs y)))), (7, AV.v (.float FloatKind.f64 x))], hp := [], nx := 0 } (Exit.exit 0) { n := 62, fr := [(0, AV.v (.float FloatKind.f64 x)), (7, AV.fl FloatKind.f64 r)], hp := [], nx := 0 }, flt FloatKind.f64 x 0 = true]) : PureTo Try.prog 90 [.v (.float .f64 x), .v (.float .f64 y)] (AV.fl FloatKind.f64 (fneg r)) :=
  evFn_pure hm soN7 (fn := Try.f90) rfl rfl (ti := false) (hs := [CHint.ops 1 [(1, Hint.b false), (4, Hint.b false), (8, Hint.b false), (12, Hint.b false)], CHint.ops 6 [(1, Hint.b false)], CHint.loop [0, 1, 5, 6, 7] [] 0 (Exit.exit 0) { n := 62, fr := [(0, AV.v (.float FloatKind.f64 x)), (7, AV.fl FloatKind.f64 r)], hp := [], nx := 0 }, CHint.ops 13 [(1, Hint.b true)]]) (c := _) (by kernel_rfl) h
theorem modF8 (x y r : Nat) (h : AllP [feq FloatKind.f64 y 0 = false, isInf x (0 : Int) = false, isNaN x = false, isNaN y = false, W (abs y), flt FloatKind.f64 x 0 = false, LoopTo Try.prog (loopAt Try.f90 0) { n := 62, fr := [(0, AV.v (.float FloatKind.f64 x)), (1, AV.v (.float FloatKind.f64 (abs y))), (5, AV.v (.float FloatKind.f64 (frexp_1 (abs y)))), (6, AV.v (.int .i64 (frexp_2 (abs y)))), (7, AV.v (.float FloatKind.f64 x))], hp := [], nx := 0 } (Exit.exit 0) { n := 62, fr := [(0, AV.v (.float FloatKind.f64 x)), (7, AV.fl FloatKind.f64 r)], hp := [], nx := 0 }, flt FloatKind.f64 x 0 = false]) : PureTo Try.prog 90 [.v (.float .f64 x), .v (.float .f64 y)] (AV.fl FloatKind.f64 r) :=
  evFn_pure hm soN7 (fn := Try.f90) rfl rfl (ti := false) (hs := [CHint.ops 1 [(1, Hint.b false), (4, Hint.b false), (8, Hint.b false), (12, Hint.b false)], CHint.ops 6 [(1, Hint.b false)], CHint.loop [0, 1, 5, 6, 7] [] 0 (Exit.exit 0) { n := 62, fr := [(0, AV.v (.float FloatKind.f64 x)), (7, AV.fl FloatKind.f64 r)], hp := [], nx := 0 }, CHint.ops 13 [(1, Hint.b false)]]) (c := _) (by kernel_rfl) h
end Go.Proofs.Nu

/- Numbers: the rest of 5.5 by 2. -/
set_option maxRecDepth 100000
namespace Go.Proofs.Nu
open Go Go.Ev

theorem closer_rep {x y : AV} (h : Closer x y) {S : St} {v : Value} (hx : Rep S v x) : Rep S v y := by
  cases h with
  | same => exact hx
  | fl a => cases hx with | i _ _ hx => exact .i _ _ ((Closer.fl a).rep hx)
  | num a hn => cases hx with | i _ _ hx => exact .i _ _ ((Closer.num a hn).rep hx)

theorem loop_closer {P : Program} {c : Code} {n nx : Nat} {fr fr' : List (Nat × AV)} {hp : List (Nat × AObj)} {e : Exit} {A' : AS}
    (hc : ∀ t x', Ev.look fr' t = some x' → ∃ x, Ev.look fr t = some x ∧ Closer x x') (h : LoopTo P c { n := n, fr := fr', hp := hp, nx := nx } e A') : LoopTo P c { n := n, fr := fr, hp := hp, nx := nx } e A' := by
  obtain ⟨k, h⟩ := h
  refine ⟨k, fun S a hR => h S a ⟨hR.wf, hR.size, hR.defers, fun t x' ht => ?_, hR.hp, hR.used⟩⟩
  obtain ⟨x, h1, h2⟩ := hc t x' ht
  have := hR.fr t x h1
  exact ⟨this.1, closer_rep h2 this.2⟩

theorem look_cons {α : Type} (k : Nat) (a : α) (r : List (Nat × α)) (t : Nat) : Ev.look ((k, a) :: r) t = if k = t then some a else Ev.look r t := by
  show (match Nat.beq k t with | true => some a | false => Ev.look r t) = _
  by_cases h : k = t
  · rw [if_pos h, Nat.beq_eq.mpr h]
  · rw [if_neg h, show Nat.beq k t = false from Bool.eq_false_iff.2 fun hh => h (Nat.eq_of_beq_eq_true hh)]

/-- the loop's state -/
def modA (x y : Nat) (r : AV) : AS := { n := 62, fr := [(0, AV.v (.float FloatKind.f64 x)), (1, AV.v (.float FloatKind.f64 (abs y))), (5, AV.v (.float FloatKind.f64 (frexp_1 (abs y)))), (6, AV.v (.int .i64 (frexp_2 (abs y)))), (7, r)], hp := [], nx := 0 }

theorem mod_begin {P : Program} {c : Code} {x y r : Nat} {e : Exit} {A' : AS} (h : LoopTo P c (modA x y (.fl .f64 r)) e A') : LoopTo P c (modA x y (.v (.float .f64 r))) e A' := by
  refine loop_closer (fun t x' ht => ?_) h
  rw [look_cons, look_cons, look_cons, look_cons, look_cons] at ht ⊢
  by_cases h0 : 0 = t
  · rw [if_pos h0] at ht ⊢; cases ht; exact ⟨_, rfl, .same _⟩
  rw [if_neg h0] at ht ⊢
  by_cases h1 : 1 = t
  · rw [if_pos h1] at ht ⊢; cases ht; exact ⟨_, rfl, .same _⟩
  rw [if_neg h1] at ht ⊢
  by_cases h5 : 5 = t
  · rw [if_pos h5] at ht ⊢; cases ht; exact ⟨_, rfl, .same _⟩
  rw [if_neg h5] at ht ⊢
  by_cases h6 : 6 = t
  · rw [if_pos h6] at ht ⊢; cases ht; exact ⟨_, rfl, .same _⟩
  rw [if_neg h6] at ht ⊢
  by_cases h7 : 7 = t
  · rw [if_pos h7] at ht ⊢; cases ht; exact ⟨_, rfl, .fl _⟩
  rw [if_neg h7] at ht
  cases ht

theorem rest_awake : PureTo Try.prog 90 [.v (.float .f64 4617878467915022336), .v (.float .f64 4611686018427387904)] (.v (.float .f64 4609434218613702656)) := by
  have e1 : fsub 4617878467915022336 (ldexpW (abs 4611686018427387904) (frexp_2 4617878467915022336 - frexp_2 (abs 4611686018427387904))) = 4609434218613702656 := by decide +kernel
  have a := modL0_2 4617878467915022336 4611686018427387904 4617878467915022336 ⟨by decide +kernel, by unfold W; decide +kernel, num_iff.1 (by unfold Num; decide +kernel), by decide +kernel, ⟨by decide +kernel, by decide +kernel⟩, by unfold W; decide +kernel, by decide +kernel, by decide +kernel, trivial⟩
  rw [e1] at a
  have b := modL0_3 4617878467915022336 4611686018427387904 4609434218613702656 ⟨by decide +kernel, trivial⟩
  have l := mod_begin (LoopTo.step a (LoopTo.done (by intro h; cases h) b))
  exact (modF8 4617878467915022336 4611686018427387904 4609434218613702656 ⟨by decide +kernel, by decide +kernel, by decide +kernel, by decide +kernel, by unfold W; decide +kernel, by decide +kernel, l, by decide +kernel, trivial⟩).ans (.num _ (num_iff.1 (by unfold Num; decide +kernel)))
end Go.Proofs.Nu

/- Numbers: the table for awake. -/
set_option maxRecDepth 100000
namespace Go.Proofs.Nu
open Go Go.Ev
def sigRest0 : List AV → Option (AV × List Prop)
  | [.v (.float .f64 x), .v (.float .f64 y)] => some (.v (.float .f64 4609434218613702656), [x = 4617878467915022336, y = 4611686018427387904])
  | _ => none
def sigOps : List AV → Option (AV × List Prop)
  | [] => some (opsAV, [])
  | _ => none
def SA0 : SGT := (90, .p sigRest0) :: (55, .p sigOps) :: SN7
theorem soA0 : SigsOK Try.prog SA0 := by
  refine sigs_cons (sigs_cons soN7 ?_) ?_
  · intro ys r c hs hc
    unfold sigOps at hs
    split at hs
    · cases hs; exact operators_pure
    · cases hs
  · intro ys r c hs hc
    unfold sigRest0 at hs
    split at hs
    · cases hs
      obtain ⟨rfl, rfl, _⟩ := hc
      exact rest_awake
    · cases hs
end Go.Proofs.Nu

/- Numbers: walks, written by the tool. -/
set_option maxRecDepth 100000
namespace Go.Proofs.Nu
open Go Go.Ev

-- 1 paths
theorem mod61_1  (h : AllP [4617878467915022336 = 4617878467915022336, 4611686018427387904 = 4611686018427387904]) : PureTo Try.prog 61 [.v (.float .f64 4617878467915022336), .v (.float .f64 4611686018427387904)] (AV.v (.float FloatKind.f64 4609434218613702656)) :=
  evFn_pure hm soA0 (fn := Try.f61) rfl rfl (ti := false) (hs := []) (c := _) (by kernel_rfl) h
end Go.Proofs.Nu

/- Numbers: the table for awake. -/
set_option maxRecDepth 100000
namespace Go.Proofs.Nu
open Go Go.Ev
def sigRest1 : List AV → Option (AV × List Prop)
  | [.v (.float .f64 x), .v (.float .f64 y)] => some (.v (.float .f64 4609434218613702656), [x = 4617878467915022336, y = 4611686018427387904])
  | _ => none
def SA1 : SGT := (61, .p sigRest1) :: SA0
theorem soA1 : SigsOK Try.prog SA1 := by
  refine sigs_cons soA0 ?_
  · intro ys r c hs hc
    unfold sigRest1 at hs
    split at hs
    · cases hs
      obtain ⟨rfl, rfl, _⟩ := hc
      exact mod61_1 ⟨rfl, rfl, trivial⟩
    · cases hs
end Go.Proofs.Nu

/- Numbers: walks, written by the tool. -/
set_option maxRecDepth 100000
namespace Go.Proofs.Nu
open Go Go.Ev

-- 1 paths
theorem binR1  (h : AllP [(ByteArray.mk #[(37 : UInt8)]) = opNames.getD 4 ByteArray.empty ∧ ∀ (k : ByteArray), k ∈ List.take 4 opNames → k ≠ (ByteArray.mk #[(37 : UInt8)]), 4617878467915022336 = 4617878467915022336, 4611686018427387904 = 4611686018427387904]) : PureTo Try.prog 12 [.v (.string ⟨#[37]⟩), .v (.float .f64 4617878467915022336), .v (.float .f64 4611686018427387904)] (AV.tup [AV.v (.float FloatKind.f64 4609434218613702656), AV.v (.int .i64 (0 : Int))]) :=
  evFn_pure hm soA1 (fn := Try.f12) rfl rfl (ti := false) (hs := [CHint.ops 1 [(2, Hint.at 4)]]) (c := _) (by kernel_rfl) h
end Go.Proofs.Nu

/- Numbers: the table for awake. -/
set_option maxRecDepth 100000
namespace Go.Proofs.Nu
open Go Go.Ev
theorem rest_binary : PureTo Try.prog 12 [.v (.string ⟨#[37]⟩), .v (.float .f64 4617878467915022336), .v (.float .f64 4611686018427387904)] (AV.tup [AV.v (.float FloatKind.f64 4609434218613702656), AV.v (.int .i64 (0 : Int))]) :=
  binR1 ⟨⟨by decide, by decide⟩, rfl, rfl, trivial⟩
def sigBin0 : List AV → Option (AV × List Prop)
  | [.v (.string s), .v (.float .f64 x), .v (.float .f64 y)] => some (AV.tup [AV.v (.float FloatKind.f64 4609434218613702656), AV.v (.int .i64 (0 : Int))], [s = ⟨#[37]⟩, x = 4617878467915022336, y = 4611686018427387904])
  | _ => none
def SA2 : SGT := (12, .p sigBin0) :: SN7
theorem soA2 : SigsOK Try.prog SA2 := by
  refine sigs_cons soN7 ?_
  · intro ys r c hs hc
    unfold sigBin0 at hs
    split at hs
    · cases hs
      obtain ⟨rfl, rfl, rfl, _⟩ := hc
      exact rest_binary
    · cases hs
end Go.Proofs.Nu

/- Numbers: walks, written by the tool. -/
set_option maxRecDepth 100000
namespace Go.Proofs.Nu
open Go Go.Ev

-- 1 paths
theorem awake1  (h : AllP [(ByteArray.mk #[(37 : UInt8)]) = (ByteArray.mk #[(37 : UInt8)]), 4617878467915022336 = 4617878467915022336, 4611686018427387904 = 4611686018427387904]) : PureTo Try.prog 15 [] (AV.v (.bool true)) :=
  evFn_pure hm soA2 (fn := Try.f15) rfl rfl (ti := false) (hs := []) (c := _) (by kernel_rfl) h
end Go.Proofs.Nu

/- Numbers: awake; the table; the reference's Round is Round. -/
set_option maxRecDepth 100000
namespace Go.Proofs.Nu
open Go Go.Ev
theorem awake_c : PureTo Try.prog 15 [] (.v (.bool true)) := awake1 ⟨rfl, rfl, rfl, trivial⟩
def sigAwake : List AV → Option (AV × List Prop)
  | [] => some (.v (.bool true), [])
  | _ => none
def SN8 : SGT := (15, .p sigAwake) :: SN7
theorem soN8 : SigsOK Try.prog SN8 := by
  refine sigs_cons soN7 ?_
  intro ys r c hs hc
  unfold sigAwake at hs
  split at hs
  · cases hs; exact awake_c
  · cases hs
end Go.Proofs.Nu

/- Numbers: walks, written by the tool. -/
set_option maxRecDepth 100000
namespace Go.Proofs.Nu
open Go Go.Ev

theorem cmpL_ev (x y : Nat) (h : AllP []) : PureTo Try.prog 8 [.v (.float .f64 x), .v (.float .f64 y)] (AV.v (.bool (bif bif bif less x y == rless x y then equ x y == equ x y else false then sam x y == rsam x y else false then true else false))) :=
  evFnM_pure hm soN8 (fn := Try.f8) rfl rfl (ti := false) (m := Mode.same) (hs := [MHint.ops 1 [] [(7, 8), (16, 8), (25, 2)]]) (c := _) (by kernel_rfl) (by kernel_rfl) h
def cmpL (x y : Nat) : Bool := bif bif bif less x y == rless x y then equ x y == equ x y else false then sam x y == rsam x y else false then true else false
theorem cmpL_pure (x y : Nat) : PureTo Try.prog 8 [.v (.float .f64 x), .v (.float .f64 y)] (AV.v (.bool (cmpL x y))) := cmpL_ev x y trivial
-- 20 paths
theorem flrL1 (x : Nat) (h : AllP [isNaN x = true, isNaN x = true, isNaN (floor x) = true]) : PureTo Try.prog 7 [.v (.float .f64 x)] (AV.v (.bool true)) :=
  evFn_pure hm soN8 (fn := Try.f7) rfl rfl (ti := false) (hs := [CHint.ops 2 [(1, Hint.b true)], CHint.ops 3 [(1, Hint.b true), (4, Hint.b true)]]) (c := _) (by kernel_rfl) h
theorem flrL2 (x : Nat) (h : AllP [isNaN x = true, isNaN x = true, isNaN (floor x) = false, feq FloatKind.f64 (floor x) x = true]) : PureTo Try.prog 7 [.v (.float .f64 x)] (AV.v (.bool true)) :=
  evFn_pure hm soN8 (fn := Try.f7) rfl rfl (ti := false) (hs := [CHint.ops 2 [(1, Hint.b true)], CHint.ops 3 [(1, Hint.b true), (4, Hint.b false), (9, Hint.b true)]]) (c := _) (by kernel_rfl) h
theorem flrL3 (x : Nat) (h : AllP [isNaN x = true, isNaN x = true, isNaN (floor x) = false, feq FloatKind.f64 (floor x) x = false]) : PureTo Try.prog 7 [.v (.float .f64 x)] (AV.v (.bool false)) :=
  evFn_pure hm soN8 (fn := Try.f7) rfl rfl (ti := false) (hs := [CHint.ops 2 [(1, Hint.b true)], CHint.ops 3 [(1, Hint.b true), (4, Hint.b false), (9, Hint.b false)]]) (c := _) (by kernel_rfl) h
theorem flrL4 (x : Nat) (h : AllP [isNaN x = true, isNaN x = false, feq FloatKind.f64 (floor x) x = true]) : PureTo Try.prog 7 [.v (.float .f64 x)] (AV.v (.bool true)) :=
  evFn_pure hm soN8 (fn := Try.f7) rfl rfl (ti := false) (hs := [CHint.ops 2 [(1, Hint.b true)], CHint.ops 3 [(1, Hint.b false), (9, Hint.b true)]]) (c := _) (by kernel_rfl) h
theorem flrL5 (x : Nat) (h : AllP [isNaN x = true, isNaN x = false, feq FloatKind.f64 (floor x) x = false]) : PureTo Try.prog 7 [.v (.float .f64 x)] (AV.v (.bool false)) :=
  evFn_pure hm soN8 (fn := Try.f7) rfl rfl (ti := false) (hs := [CHint.ops 2 [(1, Hint.b true)], CHint.ops 3 [(1, Hint.b false), (9, Hint.b false)]]) (c := _) (by kernel_rfl) h
theorem flrL6 (x : Nat) (h : AllP [isNaN x = false, isInf x (0 : Int) = true, isNaN x = true, isNaN (floor x) = true]) : PureTo Try.prog 7 [.v (.float .f64 x)] (AV.v (.bool true)) :=
  evFn_pure hm soN8 (fn := Try.f7) rfl rfl (ti := false) (hs := [CHint.ops 2 [(1, Hint.b false), (4, Hint.b true)], CHint.ops 3 [(1, Hint.b true), (4, Hint.b true)]]) (c := _) (by kernel_rfl) h
theorem flrL7 (x : Nat) (h : AllP [isNaN x = false, isInf x (0 : Int) = true, isNaN x = true, isNaN (floor x) = false, feq FloatKind.f64 (floor x) x = true]) : PureTo Try.prog 7 [.v (.float .f64 x)] (AV.v (.bool true)) :=
  evFn_pure hm soN8 (fn := Try.f7) rfl rfl (ti := false) (hs := [CHint.ops 2 [(1, Hint.b false), (4, Hint.b true)], CHint.ops 3 [(1, Hint.b true), (4, Hint.b false), (9, Hint.b true)]]) (c := _) (by kernel_rfl) h
theorem flrL8 (x : Nat) (h : AllP [isNaN x = false, isInf x (0 : Int) = true, isNaN x = true, isNaN (floor x) = false, feq FloatKind.f64 (floor x) x = false]) : PureTo Try.prog 7 [.v (.float .f64 x)] (AV.v (.bool false)) :=
  evFn_pure hm soN8 (fn := Try.f7) rfl rfl (ti := false) (hs := [CHint.ops 2 [(1, Hint.b false), (4, Hint.b true)], CHint.ops 3 [(1, Hint.b true), (4, Hint.b false), (9, Hint.b false)]]) (c := _) (by kernel_rfl) h
theorem flrL9 (x : Nat) (h : AllP [isNaN x = false, isInf x (0 : Int) = true, isNaN x = false, feq FloatKind.f64 (floor x) x = true]) : PureTo Try.prog 7 [.v (.float .f64 x)] (AV.v (.bool true)) :=
  evFn_pure hm soN8 (fn := Try.f7) rfl rfl (ti := false) (hs := [CHint.ops 2 [(1, Hint.b false), (4, Hint.b true)], CHint.ops 3 [(1, Hint.b false), (9, Hint.b true)]]) (c := _) (by kernel_rfl) h
theorem flrL10 (x : Nat) (h : AllP [isNaN x = false, isInf x (0 : Int) = true, isNaN x = false, feq FloatKind.f64 (floor x) x = false]) : PureTo Try.prog 7 [.v (.float .f64 x)] (AV.v (.bool false)) :=
  evFn_pure hm soN8 (fn := Try.f7) rfl rfl (ti := false) (hs := [CHint.ops 2 [(1, Hint.b false), (4, Hint.b true)], CHint.ops 3 [(1, Hint.b false), (9, Hint.b false)]]) (c := _) (by kernel_rfl) h
theorem flrL11 (x : Nat) (h : AllP [isNaN x = false, isInf x (0 : Int) = false, (fgt FloatKind.f64 (fsub x (floor x)) 4602678819172646912 || feq FloatKind.f64 (fsub x (floor x)) 4602678819172646912) = true, (flt FloatKind.f64 (floor x) x || feq FloatKind.f64 (floor x) x) = true, (flt FloatKind.f64 (fsub x (floor x)) 4607182418800017408 || feq FloatKind.f64 (fsub x (floor x)) 4607182418800017408) = true, feq FloatKind.f64 (ceil x) (fneg (floor (fneg x))) = true, feq FloatKind.f64 (round x) (fadd (floor x) 4607182418800017408) = true]) : PureTo Try.prog 7 [.v (.float .f64 x)] (AV.v (.bool true)) :=
  evFn_pure hm soN8 (fn := Try.f7) rfl rfl (ti := false) (hs := [CHint.ops 2 [(1, Hint.b false), (4, Hint.b false)], CHint.ops 7 [(1, Hint.b true)], CHint.ops 9 [(2, Hint.b true), (5, Hint.b true), (14, Hint.b true), (19, Hint.b true)]]) (c := _) (by kernel_rfl) h
theorem flrL12 (x : Nat) (h : AllP [isNaN x = false, isInf x (0 : Int) = false, (fgt FloatKind.f64 (fsub x (floor x)) 4602678819172646912 || feq FloatKind.f64 (fsub x (floor x)) 4602678819172646912) = true, (flt FloatKind.f64 (floor x) x || feq FloatKind.f64 (floor x) x) = true, (flt FloatKind.f64 (fsub x (floor x)) 4607182418800017408 || feq FloatKind.f64 (fsub x (floor x)) 4607182418800017408) = true, feq FloatKind.f64 (ceil x) (fneg (floor (fneg x))) = true, feq FloatKind.f64 (round x) (fadd (floor x) 4607182418800017408) = false]) : PureTo Try.prog 7 [.v (.float .f64 x)] (AV.v (.bool false)) :=
  evFn_pure hm soN8 (fn := Try.f7) rfl rfl (ti := false) (hs := [CHint.ops 2 [(1, Hint.b false), (4, Hint.b false)], CHint.ops 7 [(1, Hint.b true)], CHint.ops 9 [(2, Hint.b true), (5, Hint.b true), (14, Hint.b true), (19, Hint.b false)]]) (c := _) (by kernel_rfl) h
theorem flrL13 (x : Nat) (h : AllP [isNaN x = false, isInf x (0 : Int) = false, (fgt FloatKind.f64 (fsub x (floor x)) 4602678819172646912 || feq FloatKind.f64 (fsub x (floor x)) 4602678819172646912) = true, (flt FloatKind.f64 (floor x) x || feq FloatKind.f64 (floor x) x) = true, (flt FloatKind.f64 (fsub x (floor x)) 4607182418800017408 || feq FloatKind.f64 (fsub x (floor x)) 4607182418800017408) = true, feq FloatKind.f64 (ceil x) (fneg (floor (fneg x))) = false]) : PureTo Try.prog 7 [.v (.float .f64 x)] (AV.v (.bool false)) :=
  evFn_pure hm soN8 (fn := Try.f7) rfl rfl (ti := false) (hs := [CHint.ops 2 [(1, Hint.b false), (4, Hint.b false)], CHint.ops 7 [(1, Hint.b true)], CHint.ops 9 [(2, Hint.b true), (5, Hint.b true), (14, Hint.b false)]]) (c := _) (by kernel_rfl) h
theorem flrL14 (x : Nat) (h : AllP [isNaN x = false, isInf x (0 : Int) = false, (fgt FloatKind.f64 (fsub x (floor x)) 4602678819172646912 || feq FloatKind.f64 (fsub x (floor x)) 4602678819172646912) = true, (flt FloatKind.f64 (floor x) x || feq FloatKind.f64 (floor x) x) = true, (flt FloatKind.f64 (fsub x (floor x)) 4607182418800017408 || feq FloatKind.f64 (fsub x (floor x)) 4607182418800017408) = false]) : PureTo Try.prog 7 [.v (.float .f64 x)] (AV.v (.bool false)) :=
  evFn_pure hm soN8 (fn := Try.f7) rfl rfl (ti := false) (hs := [CHint.ops 2 [(1, Hint.b false), (4, Hint.b false)], CHint.ops 7 [(1, Hint.b true)], CHint.ops 9 [(2, Hint.b true), (5, Hint.b false)]]) (c := _) (by kernel_rfl) h
theorem flrL15 (x : Nat) (h : AllP [isNaN x = false, isInf x (0 : Int) = false, (fgt FloatKind.f64 (fsub x (floor x)) 4602678819172646912 || feq FloatKind.f64 (fsub x (floor x)) 4602678819172646912) = true, (flt FloatKind.f64 (floor x) x || feq FloatKind.f64 (floor x) x) = false]) : PureTo Try.prog 7 [.v (.float .f64 x)] (AV.v (.bool false)) :=
  evFn_pure hm soN8 (fn := Try.f7) rfl rfl (ti := false) (hs := [CHint.ops 2 [(1, Hint.b false), (4, Hint.b false)], CHint.ops 7 [(1, Hint.b true)], CHint.ops 9 [(2, Hint.b false)]]) (c := _) (by kernel_rfl) h
theorem flrL16 (x : Nat) (h : AllP [isNaN x = false, isInf x (0 : Int) = false, (fgt FloatKind.f64 (fsub x (floor x)) 4602678819172646912 || feq FloatKind.f64 (fsub x (floor x)) 4602678819172646912) = false, (flt FloatKind.f64 (floor x) x || feq FloatKind.f64 (floor x) x) = true, (flt FloatKind.f64 (fsub x (floor x)) 4607182418800017408 || feq FloatKind.f64 (fsub x (floor x)) 4607182418800017408) = true, feq FloatKind.f64 (ceil x) (fneg (floor (fneg x))) = true, feq FloatKind.f64 (round x) (floor x) = true]) : PureTo Try.prog 7 [.v (.float .f64 x)] (AV.v (.bool true)) :=
  evFn_pure hm soN8 (fn := Try.f7) rfl rfl (ti := false) (hs := [CHint.ops 2 [(1, Hint.b false), (4, Hint.b false)], CHint.ops 7 [(1, Hint.b false)], CHint.ops 9 [(2, Hint.b true), (5, Hint.b true), (14, Hint.b true), (19, Hint.b true)]]) (c := _) (by kernel_rfl) h
theorem flrL17 (x : Nat) (h : AllP [isNaN x = false, isInf x (0 : Int) = false, (fgt FloatKind.f64 (fsub x (floor x)) 4602678819172646912 || feq FloatKind.f64 (fsub x (floor x)) 4602678819172646912) = false, (flt FloatKind.f64 (floor x) x || feq FloatKind.f64 (floor x) x) = true, (flt FloatKind.f64 (fsub x (floor x)) 4607182418800017408 || feq FloatKind.f64 (fsub x (floor x)) 4607182418800017408) = true, feq FloatKind.f64 (ceil x) (fneg (floor (fneg x))) = true, feq FloatKind.f64 (round x) (floor x) = false]) : PureTo Try.prog 7 [.v (.float .f64 x)] (AV.v (.bool false)) :=
  evFn_pure hm soN8 (fn := Try.f7) rfl rfl (ti := false) (hs := [CHint.ops 2 [(1, Hint.b false), (4, Hint.b false)], CHint.ops 7 [(1, Hint.b false)], CHint.ops 9 [(2, Hint.b true), (5, Hint.b true), (14, Hint.b true), (19, Hint.b false)]]) (c := _) (by kernel_rfl) h
theorem flrL18 (x : Nat) (h : AllP [isNaN x = false, isInf x (0 : Int) = false, (fgt FloatKind.f64 (fsub x (floor x)) 4602678819172646912 || feq FloatKind.f64 (fsub x (floor x)) 4602678819172646912) = false, (flt FloatKind.f64 (floor x) x || feq FloatKind.f64 (floor x) x) = true, (flt FloatKind.f64 (fsub x (floor x)) 4607182418800017408 || feq FloatKind.f64 (fsub x (floor x)) 4607182418800017408) = true, feq FloatKind.f64 (ceil x) (fneg (floor (fneg x))) = false]) : PureTo Try.prog 7 [.v (.float .f64 x)] (AV.v (.bool false)) :=
  evFn_pure hm soN8 (fn := Try.f7) rfl rfl (ti := false) (hs := [CHint.ops 2 [(1, Hint.b false), (4, Hint.b false)], CHint.ops 7 [(1, Hint.b false)], CHint.ops 9 [(2, Hint.b true), (5, Hint.b true), (14, Hint.b false)]]) (c := _) (by kernel_rfl) h
theorem flrL19 (x : Nat) (h : AllP [isNaN x = false, isInf x (0 : Int) = false, (fgt FloatKind.f64 (fsub x (floor x)) 4602678819172646912 || feq FloatKind.f64 (fsub x (floor x)) 4602678819172646912) = false, (flt FloatKind.f64 (floor x) x || feq FloatKind.f64 (floor x) x) = true, (flt FloatKind.f64 (fsub x (floor x)) 4607182418800017408 || feq FloatKind.f64 (fsub x (floor x)) 4607182418800017408) = false]) : PureTo Try.prog 7 [.v (.float .f64 x)] (AV.v (.bool false)) :=
  evFn_pure hm soN8 (fn := Try.f7) rfl rfl (ti := false) (hs := [CHint.ops 2 [(1, Hint.b false), (4, Hint.b false)], CHint.ops 7 [(1, Hint.b false)], CHint.ops 9 [(2, Hint.b true), (5, Hint.b false)]]) (c := _) (by kernel_rfl) h
theorem flrL20 (x : Nat) (h : AllP [isNaN x = false, isInf x (0 : Int) = false, (fgt FloatKind.f64 (fsub x (floor x)) 4602678819172646912 || feq FloatKind.f64 (fsub x (floor x)) 4602678819172646912) = false, (flt FloatKind.f64 (floor x) x || feq FloatKind.f64 (floor x) x) = false]) : PureTo Try.prog 7 [.v (.float .f64 x)] (AV.v (.bool false)) :=
  evFn_pure hm soN8 (fn := Try.f7) rfl rfl (ti := false) (hs := [CHint.ops 2 [(1, Hint.b false), (4, Hint.b false)], CHint.ops 7 [(1, Hint.b false)], CHint.ops 9 [(2, Hint.b false)]]) (c := _) (by kernel_rfl) h
end Go.Proofs.Nu
