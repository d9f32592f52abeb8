/- Contracts of the program's functions, and the plain law behind them. No condition beyond those in each statement. -/
import Derived.Test.YtablfkgeobnnpaaMfAll4
import Derived.Test.YtablfkgeobnnpaaEvAll6
set_option linter.unusedSimpArgs false
set_option linter.unusedVariables false
set_option linter.unusedSectionVars false
/- Functions of mathematics: Exp and Log. -/
set_option maxRecDepth 100000
set_option exponentiation.threshold 2200
namespace Go.Proofs.Mf
open Go Go.Ev Ieee

/-- frames told more closely -/
inductive FrC : List (Nat × AV) → List (Nat × AV) → Prop
  | nil : FrC [] []
  | cons (k : Nat) {a b : AV} {l l' : List (Nat × AV)} : Closer a b → FrC l l' → FrC ((k, a) :: l) ((k, b) :: l')
theorem FrC.look {fr fr' : List (Nat × AV)} (h : FrC fr fr') : ∀ t x', Ev.look fr' t = some x' → ∃ x, Ev.look fr t = some x ∧ Closer x x' := by
  induction h with
  | nil => intro t x' h; cases h
  | cons k hc _ ih =>
    intro t x' h
    rw [look_cons] at h ⊢
    by_cases hk : k = t
    · rw [if_pos hk] at h ⊢; cases h; exact ⟨_, rfl, hc⟩
    · rw [if_neg hk] at h ⊢; exact ih t x' h
theorem FrC.refl : ∀ l, FrC l l
  | [] => .nil
  | (k, _) :: l => .cons k (.same _) (FrC.refl l)
theorem FrC.loop {P : Program} {c : Code} {n nx : Nat} {fr fr' : List (Nat × AV)} {hp : List (Nat × AObj)} {e : Exit} {A' : AS}
    (h : FrC fr fr') (hl : LoopTo P c { n := n, fr := fr', hp := hp, nx := nx } e A') : LoopTo P c { n := n, fr := fr, hp := hp, nx := nx } e A' := loop_closer h.look hl

theorem notEx {n : Nat} : Exit.exit n ≠ .normal := by intro h; cases h

/-! ### magnitudes of what is known -/
theorem mag_of {x k : Nat} (hw : FWord x) (hn : Num x) (hk : k ≤ 1023) (h1 : V x ≤ ((2 ^ k * U : Nat) : Int)) (h2 : -((2 ^ k * U : Nat) : Int) ≤ V x) : Mag x k := by
  have h3 : valN (rg x) ≤ 2 ^ k * U := by have := V_abs x; omega
  have h4 : rg x ≤ pk k := by rw [← valN_le_iff, pk_val]; exact h3
  exact ⟨hw, by unfold Fit; have := pk_le hk; omega, h3⟩
instance (x : Nat) : Decidable (FWord x) := inferInstanceAs (Decidable (x < 18446744073709551616))
instance (x k : Nat) : Decidable (Mag x k) := decidable_of_iff (FWord x ∧ Fit x ∧ valN (rg x) ≤ 2 ^ k * U) ⟨fun ⟨a, b, c⟩ => ⟨a, b, c⟩, fun ⟨a, b, c⟩ => ⟨a, b, c⟩⟩
theorem _root_.Go.Ev.Mag.clean {x k : Nat} (h : Mag x k) : ¬ nanB .f64 x := num_iff.1 h.num
theorem _root_.Go.Ev.Mag.known {x k : Nat} {f : FuncId} {xs : List AV} (h : Mag x k) (hp : PureTo Try.prog f xs (.fl .f64 x)) : PureTo Try.prog f xs (.v (.float .f64 x)) := hp.ans (.num _ h.clean)
theorem clean_known {x : Nat} {f : FuncId} {xs : List AV} (h : Num x) (hp : PureTo Try.prog f xs (.fl .f64 x)) : PureTo Try.prog f xs (.v (.float .f64 x)) := hp.ans (.num _ (num_iff.1 h))

def one : Nat := 4607182418800017408
theorem mag_one : Mag one 0 := by decide +kernel

theorem toI_mag {x k : Nat} (h : Mag x k) : fhasI x ∧ (ftoI x).natAbs ≤ 2 ^ k := by
  obtain ⟨h1, h2⟩ := ftoI_V h.fit
  refine ⟨h1, ?_⟩
  rw [h2]
  have : valN (rg x) / U ≤ 2 ^ k := by
    rw [← Nat.mul_div_cancel (2 ^ k) U_pos]
    exact Nat.div_le_div_right h.le
  generalize 2 ^ k = b at *
  generalize valN (rg x) / U = q at *
  unfold sv
  split <;> omega

/-! ### Ldexp tells a number -/
theorem setE_fin {y : Nat} (hw : FWord y) {E : Int} (h1 : 1 ≤ E) (h2 : E ≤ 2046) : FFin (setE y E) := by
  have e : E % (18446744073709551616 : Int) * (4503599627370496 : Int) = ((E.toNat * 4503599627370496 : Nat) : Int) := by omega
  unfold setE
  rw [e, exp_word hw (by omega)]
  refine fin_read ?_
  have : y % 4503599627370496 < 4503599627370496 := Nat.mod_lt _ (by decide)
  rw [rg_wordOf (by omega)]
  omega
theorem clean_word {s : Bool} {r : Nat} (h : r ≤ 9218868437227405312) : FClean (wordOf s r) := ⟨word_wordOf h, by show rg _ ≤ _; rw [rg_wordOf h]; exact h⟩
theorem ldexp_clean {x : Nat} {e : Int} (hw : FWord x) (hn : Num x) : FClean (ldexpW x e) := by
  have hx : FClean x := ⟨hw, hn⟩
  unfold ldexpW
  by_cases h0 : feq .f64 x 0 = true
  · rw [if_pos h0]; exact hx
  rw [if_neg h0]
  by_cases h1 : isInf x 0 = true
  · rw [if_pos h1]; exact hx
  rw [if_neg h1]
  by_cases h2 : isNaN x = true
  · rw [if_pos h2]; exact hx
  rw [if_neg h2]
  have h1' : isInf x 0 = false := by simpa using h1
  have hfin : rg x < 9218868437227405312 := by
    unfold Num at hn
    rw [isInf_eq] at h1'
    have := of_decide_eq_false h1'
    omega
  have hc := normF_clean hw hfin
  simp only
  generalize e + normE x + ((expo (normF x) : Int) - 1023) = E
  split
  · rw [cs_word]; exact clean_word (by decide)
  split
  · split <;> exact ⟨by decide, by decide⟩
  split
  · exact fmul_fin (fin_read (by decide)) (setE_fin hc.1 (by omega) (by omega))
  · exact fmul_fin (fin_read (by decide)) (setE_fin hc.1 (by omega) (by omega))

/-! ### Exp -/
def hornE (r : Nat) : Nat → Nat → Nat
  | 0, p => p
  | n + 1, p => hornE r n (fadd one (fdiv (fmul p r) (fofI ((n + 1 : Nat) : Int))))
theorem hornE_mag {r : Nat} (hr : Mag r 14) : ∀ n p a, n ≤ 14 → Mag p a → a + 15 * n ≤ 1000 → Mag (hornE r n p) (a + 15 * n)
  | 0, p, a, _, hp, _ => hp
  | n + 1, p, a, hn, hp, hk => by
    have h1 := mag_mul hp hr rfl (by omega)
    obtain ⟨f1, f2⟩ := int_one (i := ((n + 1 : Nat) : Int)) (by omega) (by omega)
    have h2 := mag_div h1 f1 f2 (by omega)
    have h3 := mag_add mag_one h2 (by omega : 0 ≤ a + 14) (Nat.le_refl _) (by omega)
    have := hornE_mag hr n _ (a + 15) (by omega) h3 (by omega)
    exact this.up (by omega)
theorem exp_loop (k r : Nat) : ∀ (n p : Nat), n ≤ 14 → LoopTo Try.prog (loopAt Try.f11 0) { n := 57, fr := [(4, AV.fl FloatKind.f64 k), (7, AV.fl FloatKind.f64 r), (8, AV.fl FloatKind.f64 p), (9, AV.v (.int .i64 n))], hp := [], nx := 0 } (Exit.exit 1) { n := 57, fr := [(4, AV.fl FloatKind.f64 k), (8, AV.fl FloatKind.f64 (hornE r n p))], hp := [], nx := 0 }
  | 0, p, _ => LoopTo.done notEx (expL0_2 k r p _ ⟨by simp, trivial⟩)
  | n + 1, p, hn => by
    have h := expL0_1 k r p ((n + 1 : Nat) : Int) ⟨by rw [decide_eq_true_eq]; omega, by simp only [inR]; omega, trivial⟩
    rw [show ((n + 1 : Nat) : Int) - 1 = n by omega] at h
    exact LoopTo.step h (exp_loop k r n _ (by omega))
theorem rexp_loop (k r : Nat) : ∀ (n p : Nat), n ≤ 14 → LoopTo Try.prog (loopAt Try.f12 0) { n := 48, fr := [(3, AV.fl FloatKind.f64 k), (4, AV.fl FloatKind.f64 r), (5, AV.fl FloatKind.f64 p), (6, AV.v (.int .i64 n))], hp := [], nx := 0 } (Exit.exit 1) { n := 48, fr := [(3, AV.fl FloatKind.f64 k), (5, AV.fl FloatKind.f64 (hornE r n p))], hp := [], nx := 0 }
  | 0, p, _ => LoopTo.done notEx (rexpL0_2 k r p _ ⟨by simp, trivial⟩)
  | n + 1, p, hn => by
    have h := rexpL0_1 k r p ((n + 1 : Nat) : Int) ⟨by rw [decide_eq_true_eq]; omega, by simp only [inR]; omega, trivial⟩
    rw [show ((n + 1 : Nat) : Int) - 1 = n by omega] at h
    exact LoopTo.step h (rexp_loop k r n _ (by omega))

def expK (x : Nat) : Nat := intW .down (fadd (fmul x 4609176140021203710) 4602678819172646912)
def expR (x : Nat) : Nat := fsub (fsub x (fmul (expK x) 4604418534311723008)) (fmul (expK x) 4461442080421002358)
def expW (x : Nat) : Nat := if isNaN x = true then qnan else if fgt .f64 x 4649456441864749056 = true then 9218868437227405312 else if flt .f64 x 13873145138068324352 = true then 0 else ldexpW (hornE (expR x) 14 one) (ftoI (expK x))

theorem exp_facts {x : Nat} (hw : FWord x) (h1 : isNaN x = false) (h2 : fgt .f64 x 4649456441864749056 = false) (h3 : flt .f64 x 13873145138068324352 = false) :
    Mag (expK x) 12 ∧ Mag (hornE (expR x) 14 one) 210 := by
  have hn := isNaN_num.1 h1
  have hx : Mag x 10 := by
    rw [fgt_V hn (by unfold Num; decide), decide_eq_false_iff_not] at h2
    rw [flt_V hn (by unfold Num; decide), decide_eq_false_iff_not] at h3
    have c1 : V 4649456441864749056 ≤ ((2 ^ 10 * U : Nat) : Int) := by decide +kernel
    have c2 : -((2 ^ 10 * U : Nat) : Int) ≤ V 13873145138068324352 := by decide +kernel
    exact mag_of hw hn (by decide) (by omega) (by omega)
  have k1 := mag_mul (k := 11) hx (show Mag 4609176140021203710 1 by decide +kernel) rfl (by decide)
  have k2 := mag_add (k := 11) k1 (show Mag 4602678819172646912 0 by decide +kernel) (by decide) (by decide) (by decide)
  have k3 := (mag_floor k2).1
  have a1 := mag_mul (k := 12) k3 (show Mag 4604418534311723008 0 by decide +kernel) rfl (by decide)
  have a2 := mag_mul (k := 12) k3 (show Mag 4461442080421002358 0 by decide +kernel) rfl (by decide)
  have a3 := mag_sub (k := 12) hx a1 (by decide) (by decide) (by decide)
  have a4 := mag_sub (k := 13) a3 a2 (by decide) (by decide) (by decide)
  exact ⟨k3, hornE_mag a4 14 one 0 (by decide) mag_one (by decide)⟩

theorem exp_both {x : Nat} (hw : FWord x) : PureTo Try.prog 11 [.fl .f64 x] (.v (.float .f64 (expW x))) ∧ PureTo Try.prog 12 [.fl .f64 x] (.v (.float .f64 (expW x))) ∧ Num (expW x) ∨ isNaN x = true ∧ PureTo Try.prog 11 [.fl .f64 x] (.v (.float .f64 (expW x))) ∧ PureTo Try.prog 12 [.fl .f64 x] (.v (.float .f64 (expW x))) := by
  unfold expW
  cases h1 : isNaN x with
  | true => rw [if_pos rfl]; exact .inr ⟨rfl, expF1 x 0 0 ⟨h1, trivial⟩, rexpF1 x 0 0 ⟨h1, trivial⟩⟩
  | false =>
    rw [if_neg (by decide)]
    refine .inl ?_
    cases h2 : fgt .f64 x 4649456441864749056 with
    | true => rw [if_pos rfl]; exact ⟨expF2 x 0 0 ⟨h1, h2, trivial⟩, rexpF2 x 0 0 ⟨h1, h2, trivial⟩, by unfold Num; decide⟩
    | false =>
      rw [if_neg (by decide)]
      cases h3 : flt .f64 x 13873145138068324352 with
      | true => rw [if_pos rfl]; exact ⟨expF3 x 0 0 ⟨h1, h2, h3, trivial⟩, rexpF3 x 0 0 ⟨h1, h2, h3, trivial⟩, by unfold Num; decide⟩
      | false =>
        rw [if_neg (by decide)]
        obtain ⟨hk, hp⟩ := exp_facts hw h1 h2 h3
        obtain ⟨t1, t2⟩ := toI_mag hk
        have hc := ldexp_clean (e := ftoI (expK x)) hp.word hp.num
        have b : (2 : Nat) ^ 12 = 4096 := by decide
        refine ⟨clean_known hc.2 (expF4 x (expK x) (hornE (expR x) 14 one) ⟨h1, h2, h3, by decide, by decide, by decide, ?_, t1, by simp only [inR]; omega, hp.word, by omega, by omega, hp.clean, trivial⟩),
          clean_known hc.2 (rexpF4 x (expK x) (hornE (expR x) 14 one) ⟨h1, h2, h3, by decide, by decide, by decide, ?_, t1, by simp only [inR]; omega, hp.word, by omega, by omega, hp.clean, trivial⟩), hc.2⟩
        · exact FrC.loop (.cons _ (.same _) (.cons _ (.same _) (.cons _ (.fl _) (.cons _ (.same _) .nil)))) (exp_loop (expK x) (expR x) 14 one (by decide))
        · exact FrC.loop (.cons _ (.same _) (.cons _ (.same _) (.cons _ (.fl _) (.cons _ (.same _) .nil)))) (rexp_loop (expK x) (expR x) 14 one (by decide))
theorem exp_c {x : Nat} (hw : FWord x) : PureTo Try.prog 11 [.fl .f64 x] (.v (.float .f64 (expW x))) := by
  rcases exp_both hw with h | h
  · exact h.1
  · exact h.2.1
theorem rexp_c {x : Nat} (hw : FWord x) : PureTo Try.prog 12 [.fl .f64 x] (.v (.float .f64 (expW x))) := by
  rcases exp_both hw with h | h
  · exact h.2.1
  · exact h.2.2

/-! ### Log -/
def hornL (z : Nat) : Nat → Nat → Nat
  | 0, p => p
  | n + 1, p => hornL z n (fadd (fmul p z) (fdiv one (fofI (2 * (n : Int) + 1))))
theorem hornL_mag {z : Nat} (hz : Mag z 4) : ∀ n p a, n ≤ 12 → Mag p a → a + 5 * n ≤ 1000 → Mag (hornL z n p) (a + 5 * n)
  | 0, p, a, _, hp, _ => hp
  | n + 1, p, a, hn, hp, hk => by
    have h1 := mag_mul hp hz rfl (by omega)
    obtain ⟨f1, f2⟩ := int_one (i := 2 * (n : Int) + 1) (by omega) (by omega)
    have h2 := mag_div mag_one f1 f2 (by omega)
    have h3 := mag_add h1 h2 (Nat.le_refl _) (by omega : 0 ≤ a + 4) (by omega)
    have := hornL_mag hz n _ (a + 5) (by omega) h3 (by omega)
    exact this.up (by omega)
theorem log_loop (e : Int) (s z : Nat) : ∀ (n p : Nat), n ≤ 12 → LoopTo Try.prog (loopAt Try.f13 0) { n := 78, fr := [(4, AV.v (.int .i64 e)), (5, AV.fl FloatKind.f64 s), (6, AV.fl FloatKind.f64 z), (7, AV.fl FloatKind.f64 p), (8, AV.v (.int .i64 (2 * (n : Int) - 1)))], hp := [], nx := 0 } (Exit.exit 1) { n := 78, fr := [(4, AV.v (.int .i64 e)), (5, AV.fl FloatKind.f64 s), (7, AV.fl FloatKind.f64 (hornL z n p))], hp := [], nx := 0 }
  | 0, p, _ => LoopTo.done notEx (logL0_2 e s z p _ ⟨by simp, trivial⟩)
  | n + 1, p, hn => by
    have h := logL0_1 e s z p (2 * ((n + 1 : Nat) : Int) - 1) ⟨by rw [decide_eq_true_eq]; omega, by simp only [inR]; omega, trivial⟩
    rw [show 2 * ((n + 1 : Nat) : Int) - 1 - 2 = 2 * (n : Int) - 1 by omega, show fofI (2 * ((n + 1 : Nat) : Int) - 1) = fofI (2 * (n : Int) + 1) by congr 1; omega] at h
    exact LoopTo.step h (log_loop e s z n _ (by omega))
theorem rlog_loop (e s z : Nat) : ∀ (n p : Nat), n ≤ 12 → LoopTo Try.prog (loopAt Try.f14 0) { n := 74, fr := [(5, AV.v (.float FloatKind.f64 e)), (6, AV.fl FloatKind.f64 s), (7, AV.fl FloatKind.f64 z), (8, AV.fl FloatKind.f64 p), (9, AV.v (.int .i64 (2 * (n : Int) - 1)))], hp := [], nx := 0 } (Exit.exit 1) { n := 74, fr := [(5, AV.v (.float FloatKind.f64 e)), (6, AV.fl FloatKind.f64 s), (8, AV.fl FloatKind.f64 (hornL z n p))], hp := [], nx := 0 }
  | 0, p, _ => LoopTo.done notEx (rlogL0_2 e s z p _ ⟨by simp, trivial⟩)
  | n + 1, p, hn => by
    have h := rlogL0_1 e s z p (2 * ((n + 1 : Nat) : Int) - 1) ⟨by rw [decide_eq_true_eq]; omega, by simp only [inR]; omega, trivial⟩
    rw [show 2 * ((n + 1 : Nat) : Int) - 1 - 2 = 2 * (n : Int) - 1 by omega, show fofI (2 * ((n + 1 : Nat) : Int) - 1) = fofI (2 * (n : Int) + 1) by congr 1; omega] at h
    exact LoopTo.step h (rlog_loop e s z n _ (by omega))

def logS (f : Nat) : Nat := fdiv (fsub f one) (fadd f one)
def logP (f : Nat) : Nat := hornL (fmul (logS f) (logS f)) 12 4585925428558828667
def logV (f : Nat) (e : Int) : Nat := fadd (fmul (fofI e) 4604418534311723008) (fadd (fmul (fadd (logS f) (logS f)) (logP f)) (fmul (fofI e) 4461442080421002358))
def logW (x : Nat) : Nat := if isNaN x = true ∨ flt .f64 x 0 = true then qnan else if feq .f64 x 0 = true then 18442240474082181120 else if isInf x 1 = true then x else
  if flt .f64 (frexp_1 x) 4604544271217802189 = true then logV (fmul (frexp_1 x) 4611686018427387904) (frexp_2 x - 1) else logV (frexp_1 x) (frexp_2 x)

theorem add_one {f a : Nat} (hf : Mag f a) (hs : sg f = false) (ha : a + 1 ≤ 1023) : Mag (fadd f one) (a + 1) ∧ U ≤ valN (rg (fadd f one)) := by
  refine ⟨mag_add hf mag_one (Nat.le_refl _) (Nat.zero_le _) ha, ?_⟩
  obtain ⟨r, h1, h2⟩ := fadd_RN hf.fit mag_one.fit
  rw [h1, rg_wordOf h2.fin, ← valN_one]
  refine valN_le_iff.2 (h2.ge _ (by decide) ?_)
  have e1 : V one = U := by decide +kernel
  have e2 := V_pos hs
  rw [valN_one, e1]
  omega
theorem logV_mag {f : Nat} {e : Int} (hf : Mag f 1) (hs : sg f = false) (he : e.natAbs ≤ 2 ^ 11) : Mag (logS f) 2 ∧ Mag (logV f e) 65 := by
  have he' : e.natAbs ≤ 2048 := he
  obtain ⟨d1, d2⟩ := add_one hf hs (by decide)
  have n1 := mag_sub (k := 1) hf mag_one (by decide) (by decide) (by decide)
  have s1 : Mag (logS f) 2 := mag_div n1 d1.fit d2 (by decide)
  have z1 := mag_mul (k := 4) s1 s1 rfl (by decide)
  have p1 : Mag (logP f) (0 + 5 * 12) := hornL_mag z1 12 _ 0 (by decide) (by decide +kernel) (by decide)
  have s2 := mag_add (k := 2) s1 s1 (by decide) (by decide) (by decide)
  have t1 := mag_mul (k := 63) s2 p1 rfl (by decide)
  have e1 := mag_int (i := e) (k := 11) (by omega) he
  have t2 := mag_mul (k := 11) e1 (show Mag 4461442080421002358 0 by decide +kernel) rfl (by decide)
  have t3 := mag_mul (k := 11) e1 (show Mag 4604418534311723008 0 by decide +kernel) rfl (by decide)
  have t4 := mag_add (k := 63) t1 t2 (by decide) (by decide) (by decide)
  exact ⟨s1, mag_add (k := 64) t3 t4 (by decide) (by decide) (by decide)⟩

theorem log_facts {x : Nat} (hw : FWord x) (h1 : isNaN x = false) (h2 : flt .f64 x 0 = false) (h3 : feq .f64 x 0 = false) (h4 : isInf x 1 = false) :
    Mag (frexp_1 x) 0 ∧ sg (frexp_1 x) = false ∧ (frexp_2 x).natAbs ≤ 1080 := by
  have hn := isNaN_num.1 h1
  rw [flt_V hn fin_zero.num, V_null, decide_eq_false_iff_not] at h2
  rw [feq_V hn fin_zero.num, V_null, decide_eq_false_iff_not] at h3
  have h0 : rg x ≠ 0 := fun h => h3 (V_zero.2 h)
  have hsg : sg x = false := by
    cases h : sg x with
    | false => rfl
    | true => have := V_neg h; exfalso; have : V x = 0 := by omega
              exact h3 this
  have hfit : Fit x := by
    unfold Num at hn
    unfold Fit
    rcases Nat.lt_or_ge (rg x) 9218868437227405312 with h | h
    · exact h
    · exfalso
      have e : rg x = 9218868437227405312 := by omega
      have ex : x = 9218868437227405312 := by rw [wordOf_of hw, hsg, e]; rfl
      rw [ex] at h4
      exact absurd h4 (by decide +kernel)
  obtain ⟨E, m, c, hN⟩ := norm_of hw hfit h0
  obtain ⟨f1, f2⟩ := frexp_V hfit h0 hN
  have l1 := hN.lo
  have l2 := hN.hi
  have l3 := hN.dig
  have l4 : c = -52 ∨ c = 0 := by rcases hN.val with h | h <;> omega
  rw [hsg] at f1
  have hle : 1022 * 4503599627370496 + m ≤ 9218868437227405312 := by omega
  refine ⟨?_, by rw [f1]; exact sg_wordOf hle, by rw [f2]; omega⟩
  rw [f1]
  refine ⟨word_wordOf hle, by unfold Fit; rw [rg_wordOf hle]; omega, ?_⟩
  rw [rg_wordOf hle, ← pk_val]
  refine valN_le_iff.2 ?_
  unfold pk
  omega

theorem log_both {x : Nat} (hw : FWord x) : PureTo Try.prog 13 [.fl .f64 x] (.v (.float .f64 (logW x))) ∧ PureTo Try.prog 14 [.fl .f64 x] (.v (.float .f64 (logW x))) := by
  unfold logW
  cases h1 : isNaN x with
  | true => rw [if_pos (.inl rfl)]; exact ⟨logF1 x 0 0 0 ⟨h1, trivial⟩, rlogF1 x 0 0 0 ⟨h1, trivial⟩⟩
  | false =>
    cases h2 : flt .f64 x 0 with
    | true => rw [if_pos (.inr rfl)]; exact ⟨logF2 x 0 0 0 ⟨h1, h2, trivial⟩, rlogF2 x 0 0 0 ⟨h1, h2, trivial⟩⟩
    | false =>
      rw [if_neg (by simp)]
      cases h3 : feq .f64 x 0 with
      | true => rw [if_pos rfl]; exact ⟨logF3 x 0 0 0 ⟨h1, h2, h3, trivial⟩, rlogF3 x 0 0 0 ⟨h1, h2, h3, trivial⟩⟩
      | false =>
        rw [if_neg (by decide)]
        have hn := isNaN_num.1 h1
        cases h4 : isInf x 1 with
        | true => rw [if_pos rfl]; exact ⟨clean_known hn (logF4 x 0 0 0 ⟨h1, h2, h3, h4, trivial⟩), clean_known hn (rlogF4 x 0 0 0 ⟨h1, h2, h3, h4, trivial⟩)⟩
        | false =>
          rw [if_neg (by decide)]
          obtain ⟨hf, hs, he⟩ := log_facts hw h1 h2 h3 h4
          have b : (2 : Nat) ^ 11 = 2048 := by decide
          cases h5 : flt .f64 (frexp_1 x) 4604544271217802189 with
          | true =>
            rw [if_pos rfl]
            have hf2 : Mag (fmul (frexp_1 x) 4611686018427387904) 1 := mag_mul (k := 1) hf (show Mag 4611686018427387904 1 by decide +kernel) rfl (by decide)
            have hs2 : sg (fmul (frexp_1 x) 4611686018427387904) = false := by
              obtain ⟨r, r1, r2⟩ := fmul_RN hf.fit (show Fit 4611686018427387904 by decide +kernel)
              rw [r1, sg_wordOf r2.fin, hs]; rfl
            obtain ⟨s1, v1⟩ := logV_mag (e := frexp_2 x - 1) hf2 hs2 (by omega)
            refine ⟨v1.known (logF5 x (logS (fmul (frexp_1 x) 4611686018427387904)) (logP (fmul (frexp_1 x) 4611686018427387904)) (frexp_2 x - 1) ⟨h1, h2, h3, h4, hw, num_iff.1 hn, h5, by simp only [inR]; omega, ?_, by decide, by decide, trivial⟩),
              v1.known (rlogF5 x (fofI (frexp_2 x - 1)) (logS (fmul (frexp_1 x) 4611686018427387904)) (logP (fmul (frexp_1 x) 4611686018427387904)) ⟨h1, h2, h3, h4, hw, num_iff.1 hn, h5, by simp only [inR]; omega, ?_, by decide, by decide, trivial⟩)⟩
            · exact FrC.loop (.cons _ (.same _) (.cons _ (.same _) (.cons _ (.same _) (.cons _ (.fl _) (.cons _ (.same _) .nil))))) (log_loop _ _ _ 12 4585925428558828667 (by decide))
            · exact FrC.loop (.cons _ (.same _) (.cons _ (.same _) (.cons _ (.same _) (.cons _ (.fl _) (.cons _ (.same _) .nil))))) (rlog_loop _ _ _ 12 4585925428558828667 (by decide))
          | false =>
            rw [if_neg (by decide)]
            obtain ⟨s1, v1⟩ := logV_mag (e := frexp_2 x) (hf.up (by decide)) hs (by omega)
            refine ⟨v1.known (logF6 x (logS (frexp_1 x)) (logP (frexp_1 x)) (frexp_2 x) ⟨h1, h2, h3, h4, hw, num_iff.1 hn, h5, ?_, by decide, by decide, trivial⟩),
              v1.known (rlogF6 x (fofI (frexp_2 x)) (logS (frexp_1 x)) (logP (frexp_1 x)) ⟨h1, h2, h3, h4, hw, num_iff.1 hn, h5, ?_, by decide, by decide, trivial⟩)⟩
            · exact FrC.loop (.cons _ (.same _) (.cons _ (.same _) (.cons _ (.same _) (.cons _ (.fl _) (.cons _ (.same _) .nil))))) (log_loop _ _ _ 12 4585925428558828667 (by decide))
            · exact FrC.loop (.cons _ (.same _) (.cons _ (.same _) (.cons _ (.same _) (.cons _ (.fl _) (.cons _ (.same _) .nil))))) (rlog_loop _ _ _ 12 4585925428558828667 (by decide))
end Go.Proofs.Mf

/- Functions of mathematics: an angle's sine and cosine but for the quarter; Atan. -/
set_option maxRecDepth 100000
set_option exponentiation.threshold 2200
namespace Go.Proofs.Mf
open Go Go.Ev Ieee

def c2pi : Nat := 4618760256179416344
theorem fin_turn {x : Nat} (h : lost x = false) : Fit x := by
  unfold lost at h
  cases h1 : isNaN x with
  | true => rw [h1] at h; simp at h
  | false =>
    rw [h1] at h
    have h2 : isInf x 0 = false := h
    rw [isInf_eq] at h2
    have := of_decide_eq_false h2
    have hn := isNaN_num.1 h1
    unfold Num at hn
    unfold Fit
    omega

/-- the angle, cut -/
def turnX (x : Nat) : Nat := if fgt .f64 (abs x) 4697254411347427328 = true then toldW (modW x c2pi) else x
def turnQ (w : Nat) : Nat := intW .down (fadd (fmul w 4603909380684499075) 4602678819172646912)
def turnR (w : Nat) : Nat := fsub (fsub w (fmul (turnQ w) 4609753056924401664)) (fmul (turnQ w) 4454258360616903473)
def hornS (z : Nat) : Nat → Nat → Nat
  | 0, p => p
  | n + 1, p => hornS z n (fsub one (fdiv (fmul z p) (fofI (2 * ((n + 1 : Nat) : Int) * (2 * ((n + 1 : Nat) : Int) + 1)))))
def hornC (z : Nat) : Nat → Nat → Nat
  | 0, p => p
  | n + 1, p => hornC z n (fsub one (fdiv (fmul z p) (fofI ((2 * ((n + 1 : Nat) : Int) - 1) * 2 * ((n + 1 : Nat) : Int)))))
def turnZ (w : Nat) : Nat := fmul (turnR w) (turnR w)
def turnS (w : Nat) : Nat := fmul (turnR w) (hornS (turnZ w) 10 one)
def turnC (w : Nat) : Nat := hornC (turnZ w) 10 one

theorem small_cases {n : Nat} (h : n + 1 ≤ 10) : n = 0 ∨ n = 1 ∨ n = 2 ∨ n = 3 ∨ n = 4 ∨ n = 5 ∨ n = 6 ∨ n = 7 ∨ n = 8 ∨ n = 9 := by omega
theorem den_s {n : Nat} (h : n + 1 ≤ 10) : fmul (fofI (2 * ((n + 1 : Nat) : Int))) (fadd (fofI (2 * ((n + 1 : Nat) : Int))) one) = fofI (2 * ((n + 1 : Nat) : Int) * (2 * ((n + 1 : Nat) : Int) + 1)) := by
  rcases small_cases h with rfl | rfl | rfl | rfl | rfl | rfl | rfl | rfl | rfl | rfl <;> decide +kernel
theorem den_c {n : Nat} (h : n + 1 ≤ 10) : fmul (fsub (fofI (2 * ((n + 1 : Nat) : Int))) one) (fofI (2 * ((n + 1 : Nat) : Int))) = fofI ((2 * ((n + 1 : Nat) : Int) - 1) * 2 * ((n + 1 : Nat) : Int)) := by
  rcases small_cases h with rfl | rfl | rfl | rfl | rfl | rfl | rfl | rfl | rfl | rfl <;> decide +kernel
theorem int_s {n : Nat} (h : n + 1 ≤ 10) : 6 ≤ (2 * ((n + 1 : Nat) : Int) * (2 * ((n + 1 : Nat) : Int) + 1)) ∧ (2 * ((n + 1 : Nat) : Int) * (2 * ((n + 1 : Nat) : Int) + 1)) ≤ 420 := by
  rcases small_cases h with rfl | rfl | rfl | rfl | rfl | rfl | rfl | rfl | rfl | rfl <;> decide
theorem int_c {n : Nat} (h : n + 1 ≤ 10) : 2 ≤ ((2 * ((n + 1 : Nat) : Int) - 1) * 2 * ((n + 1 : Nat) : Int)) ∧ ((2 * ((n + 1 : Nat) : Int) - 1) * 2 * ((n + 1 : Nat) : Int)) ≤ 380 ∧ 2 ≤ (2 * ((n + 1 : Nat) : Int) - 1) * 2 ∧ (2 * ((n + 1 : Nat) : Int) - 1) * 2 ≤ 38 := by
  rcases small_cases h with rfl | rfl | rfl | rfl | rfl | rfl | rfl | rfl | rfl | rfl <;> decide

theorem hornS_mag {z : Nat} (hz : Mag z 48) : ∀ n p a, n ≤ 10 → Mag p a → a + 49 * n ≤ 1000 → Mag (hornS z n p) (a + 49 * n)
  | 0, p, a, _, hp, _ => hp
  | n + 1, p, a, hn, hp, hk => by
    have h1 := mag_mul hz hp rfl (by omega)
    have hi := int_s (n := n) (by omega)
    obtain ⟨f1, f2⟩ := int_one (i := 2 * ((n + 1 : Nat) : Int) * (2 * ((n + 1 : Nat) : Int) + 1)) (by omega) (by omega)
    have h2 := mag_div h1 f1 f2 (by omega)
    have h3 := mag_sub (k := a + 48) mag_one h2 (by omega) (by omega) (by omega)
    exact (hornS_mag hz n _ (a + 49) (by omega) h3 (by omega)).up (by omega)
theorem hornC_mag {z : Nat} (hz : Mag z 48) : ∀ n p a, n ≤ 10 → Mag p a → a + 49 * n ≤ 1000 → Mag (hornC z n p) (a + 49 * n)
  | 0, p, a, _, hp, _ => hp
  | n + 1, p, a, hn, hp, hk => by
    have h1 := mag_mul hz hp rfl (by omega)
    have hi := int_c (n := n) (by omega)
    obtain ⟨f1, f2⟩ := int_one (i := (2 * ((n + 1 : Nat) : Int) - 1) * 2 * ((n + 1 : Nat) : Int)) (by omega) (by omega)
    have h2 := mag_div h1 f1 f2 (by omega)
    have h3 := mag_sub (k := a + 48) mag_one h2 (by omega) (by omega) (by omega)
    exact (hornC_mag hz n _ (a + 49) (by omega) h3 (by omega)).up (by omega)

theorem turn_loop0 (q r z : Nat) : ∀ (n p : Nat), n ≤ 10 → LoopTo Try.prog (loopAt Try.f59 0) { n := 92, fr := [(6, AV.fl FloatKind.f64 q), (9, AV.fl FloatKind.f64 r), (10, AV.fl FloatKind.f64 z), (11, AV.fl FloatKind.f64 p), (12, AV.v (.int .i64 n))], hp := [], nx := 0 } (Exit.exit 0) { n := 92, fr := [(6, AV.fl FloatKind.f64 q), (9, AV.fl FloatKind.f64 r), (10, AV.fl FloatKind.f64 z), (11, AV.fl FloatKind.f64 (hornS z n p))], hp := [], nx := 0 }
  | 0, p, _ => LoopTo.done notEx (turnL0_2 q r z p _ ⟨by simp, trivial⟩)
  | n + 1, p, hn => by
    have hi := int_s hn
    have h := turnL0_1 q r z p ((n + 1 : Nat) : Int) ⟨by rw [decide_eq_true_eq]; omega, by simp only [inR]; omega, by simp only [inR]; omega, by simp only [inR]; omega, by simp only [inR]; omega, by simp only [inR]; omega, trivial⟩
    rw [show ((n + 1 : Nat) : Int) - 1 = n by omega] at h
    exact LoopTo.step h (turn_loop0 q r z n _ (by omega))
theorem turn_loop1 (s q z : Nat) : ∀ (n p : Nat), n ≤ 10 → LoopTo Try.prog (loopAt Try.f59 1) { n := 92, fr := [(2, AV.fl FloatKind.f64 s), (6, AV.fl FloatKind.f64 q), (10, AV.fl FloatKind.f64 z), (11, AV.fl FloatKind.f64 p), (14, AV.v (.int .i64 n))], hp := [], nx := 0 } (Exit.exit 2) { n := 92, fr := [(2, AV.fl FloatKind.f64 s), (6, AV.fl FloatKind.f64 q), (11, AV.fl FloatKind.f64 (hornC z n p))], hp := [], nx := 0 }
  | 0, p, _ => LoopTo.done notEx (turnL1_2 s q z p _ ⟨by simp, trivial⟩)
  | n + 1, p, hn => by
    have hi := int_c hn
    have h := turnL1_1 s q z p ((n + 1 : Nat) : Int) ⟨by rw [decide_eq_true_eq]; omega, by simp only [inR]; omega, by simp only [inR]; omega, by simp only [inR]; omega, by simp only [inR]; omega, by simp only [inR]; omega, trivial⟩
    rw [show ((n + 1 : Nat) : Int) - 1 = n by omega] at h
    exact LoopTo.step h (turn_loop1 s q z n _ (by omega))
theorem rturn_loop (q r z : Nat) : ∀ (n p c : Nat), n ≤ 10 → LoopTo Try.prog (loopAt Try.f61 0) { n := 74, fr := [(5, AV.fl FloatKind.f64 q), (6, AV.fl FloatKind.f64 r), (7, AV.fl FloatKind.f64 z), (8, AV.fl FloatKind.f64 p), (9, AV.fl FloatKind.f64 c), (10, AV.v (.int .i64 n))], hp := [], nx := 0 } (Exit.exit 0) { n := 74, fr := [(5, AV.fl FloatKind.f64 q), (6, AV.fl FloatKind.f64 r), (8, AV.fl FloatKind.f64 (hornS z n p)), (9, AV.fl FloatKind.f64 (hornC z n c))], hp := [], nx := 0 }
  | 0, p, c, _ => LoopTo.done notEx (rturnL0_2 q r z p c _ ⟨by simp, trivial⟩)
  | n + 1, p, c, hn => by
    have h := rturnL0_1 q r z p c ((n + 1 : Nat) : Int) ⟨by rw [decide_eq_true_eq]; omega, by simp only [inR]; omega, by simp only [inR]; omega, trivial⟩
    have e1 := den_s hn
    have e2 := den_c hn
    unfold one at e1 e2
    rw [show ((n + 1 : Nat) : Int) - 1 = n by omega, e1, e2] at h
    exact LoopTo.step h (rturn_loop q r z n _ _ (by omega))

theorem turnX_mag {x : Nat} (hw : FWord x) (hx : Fit x) : Mag (turnX x) 20 := by
  unfold turnX
  split
  · have e : modW x c2pi = wordOf (sg x) (rd (valN (rg x) % valN (rg c2pi))) := by
      unfold modW
      rw [if_neg (by
        have h1 : Num c2pi := by decide +kernel
        have h2 : rg c2pi ≠ 0 := by decide +kernel
        rintro (h | h | h)
        · exact h hx
        · exact h h1
        · exact h2 h)]
      unfold modR
      rw [if_neg (by decide +kernel)]
    have h1 : valN (rg x) % valN (rg c2pi) ≤ valN (pk 20) := by
      have hpos : 0 < valN (rg c2pi) := by decide +kernel
      have h2 := Nat.mod_lt (valN (rg x)) hpos
      have h3 : valN (rg c2pi) ≤ valN (pk 20) := by decide +kernel
      omega
    have h2 := rd_le h1
    have h3 := pk_le (k := 20) (by decide)
    have h4 := rd_inf (valN (rg x) % valN (rg c2pi))
    have hm : Mag (modW x c2pi) 20 := by
      rw [e]
      refine ⟨word_wordOf h4, by unfold Fit; rw [rg_wordOf h4]; omega, ?_⟩
      rw [rg_wordOf h4, ← pk_val]
      exact valN_le_iff.2 h2
    rw [toldW_num hm.num]
    exact hm
  · next h =>
    have hn := hx.num
    have h' : fgt .f64 (abs x) 4697254411347427328 = false := by simpa using h
    rw [fgt_V (num_abs.2 hn) (by unfold Num; decide), decide_eq_false_iff_not] at h'
    have e1 : V 4697254411347427328 = ((2 ^ 20 * U : Nat) : Int) := by decide +kernel
    have e2 : V (abs x) = valN (rg x) := by
      rw [abs_word, V_wordOf (Nat.le_of_lt hx)]; rfl
    exact ⟨hw, hx, by omega⟩

theorem turn_mags {w : Nat} (h : Mag w 20) : Mag (turnQ w) 21 ∧ Mag (turnR w) 24 ∧ Mag (turnS w) 600 ∧ Mag (turnC w) 600 := by
  have t1 := mag_mul (k := 20) h (show Mag 4603909380684499075 0 by decide +kernel) rfl (by decide)
  have t2 := mag_add (k := 20) t1 (show Mag 4602678819172646912 0 by decide +kernel) (by decide) (by decide) (by decide)
  have q := (mag_floor t2).1
  have a1 := mag_mul (k := 22) q (show Mag 4609753056924401664 1 by decide +kernel) rfl (by decide)
  have a2 := mag_mul (k := 21) q (show Mag 4454258360616903473 0 by decide +kernel) rfl (by decide)
  have a3 := mag_sub (k := 22) h a1 (by decide) (by decide) (by decide)
  have r : Mag (turnR w) 24 := mag_sub (k := 23) a3 a2 (by decide) (by decide) (by decide)
  have z : Mag (turnZ w) 48 := mag_mul (k := 48) r r rfl (by decide)
  have s := hornS_mag z 10 one 0 (by decide) mag_one (by decide)
  have c := hornC_mag z 10 one 0 (by decide) mag_one (by decide)
  exact ⟨q, r, (mag_mul (k := 24 + (0 + 49 * 10)) r s rfl (by decide)).up (by decide), c.up (by decide)⟩

def turnN (w : Nat) : Int := ftoI (turnQ w) % 4
theorem bin_mod (x : Nat) : binW (ByteArray.mk #[(37 : UInt8)]) x c2pi = toldW (modW x c2pi) := rfl

theorem quarter (k : Int) : (k.tmod 4 + 4).tmod 4 = k % 4 := by
  have h1 := Int.tmod_eq_emod (a := k) (b := 4)
  have h2 := Int.tmod_eq_emod (a := k.tmod 4 + 4) (b := 4)
  split at h1 <;> split at h2 <;> omega
theorem quarter2 (k : Int) : (k.tmod 4 < 0 → k.tmod 4 + 4 = k % 4) ∧ (¬ k.tmod 4 < 0 → k.tmod 4 = k % 4) := by
  have h1 := Int.tmod_eq_emod (a := k) (b := 4)
  split at h1 <;> omega

theorem turn_both {x : Nat} (hw : FWord x) (hx : Fit x) :
    PureTo Try.prog 59 [.v (.float .f64 x)] (.tup [.fl .f64 (turnS (turnX x)), .fl .f64 (turnC (turnX x)), .v (.int .i64 (turnN (turnX x)))]) ∧
    PureTo Try.prog 61 [.v (.float .f64 x)] (.tup [.fl .f64 (turnS (turnX x)), .fl .f64 (turnC (turnX x)), .v (.int .i64 (turnN (turnX x)))]) := by
  have hm := turnX_mag hw hx
  obtain ⟨q, r, s, c⟩ := turn_mags hm
  obtain ⟨t1, t2⟩ := toI_mag q
  have b : (2 : Nat) ^ 21 = 2097152 := by decide
  have hq := quarter (ftoI (turnQ (turnX x)))
  have hq2 := quarter2 (ftoI (turnQ (turnX x)))
  have rng : -4 < (ftoI (turnQ (turnX x))).tmod 4 ∧ (ftoI (turnQ (turnX x))).tmod 4 < 4 := by
    have h1 := Int.tmod_eq_emod (a := ftoI (turnQ (turnX x))) (b := 4)
    split at h1 <;> omega
  have fa := FrC.cons 6 (Closer.same (.fl .f64 (turnQ (turnX x)))) (.cons 9 (.same (.fl .f64 (turnR (turnX x)))) (.cons 10 (.same (.fl .f64 (turnZ (turnX x)))) (.cons 11 (Closer.fl one) (.cons 12 (.same (.v (.int .i64 10))) .nil))))
  have fb := FrC.cons 2 (Closer.same (.fl .f64 (turnS (turnX x)))) (.cons 6 (.same (.fl .f64 (turnQ (turnX x)))) (.cons 10 (.same (.fl .f64 (turnZ (turnX x)))) (.cons 11 (Closer.fl one) (.cons 14 (.same (.v (.int .i64 10))) .nil))))
  have fc := FrC.cons 5 (Closer.same (.fl .f64 (turnQ (turnX x)))) (.cons 6 (.same (.fl .f64 (turnR (turnX x)))) (.cons 7 (.same (.fl .f64 (turnZ (turnX x)))) (.cons 8 (Closer.fl one) (.cons 9 (Closer.fl one) (.cons 10 (.same (.v (.int .i64 10))) .nil)))))
  have la := fa.loop (hp := []) (nx := 0) (n := 92) (turn_loop0 (turnQ (turnX x)) (turnR (turnX x)) (turnZ (turnX x)) 10 one (by decide))
  have lb := fb.loop (hp := []) (nx := 0) (n := 92) (turn_loop1 (turnS (turnX x)) (turnQ (turnX x)) (turnZ (turnX x)) 10 one (by decide))
  have lc := fc.loop (hp := []) (nx := 0) (n := 74) (rturn_loop (turnQ (turnX x)) (turnR (turnX x)) (turnZ (turnX x)) 10 one one (by decide))
  have ir : inR .i64 (ftoI (turnQ (turnX x))) := by simp only [inR]; omega
  have ir2 : inR .i64 ((ftoI (turnQ (turnX x))).tmod 4 + 4) := by simp only [inR]; omega
  cases h : fgt .f64 (abs x) 4697254411347427328 with
  | true =>
    have hX : turnX x = toldW (modW x c2pi) := by unfold turnX; rw [if_pos h]
    constructor
    · have := turnF1 x (turnQ (turnX x)) (turnR (turnX x)) (turnZ (turnX x)) (hornS (turnZ (turnX x)) 10 one) (turnC (turnX x)) ⟨h, by decide, hw, by decide, by decide, by decide, by decide, by rw [hX] at la ⊢; exact la, lb, t1, ir, by decide, ir2, by decide, trivial⟩
      rw [hq] at this
      exact this
    · by_cases hneg : (ftoI (turnQ (turnX x))).tmod 4 < 0
      · have := rturnF1 x (turnQ (turnX x)) (turnR (turnX x)) (hornS (turnZ (turnX x)) 10 one) (turnC (turnX x)) ⟨h, by decide, hw, by decide, by decide, by decide, by decide, by rw [hX] at lc ⊢; exact lc, t1, ir, by decide, decide_eq_true hneg, ir2, trivial⟩
        rw [hq2.1 hneg] at this
        exact this
      · have := rturnF2 x (turnQ (turnX x)) (turnR (turnX x)) (hornS (turnZ (turnX x)) 10 one) (turnC (turnX x)) ⟨h, by decide, hw, by decide, by decide, by decide, by decide, by rw [hX] at lc ⊢; exact lc, t1, ir, by decide, decide_eq_false hneg, trivial⟩
        rw [hq2.2 hneg] at this
        exact this
  | false =>
    have hX : turnX x = x := by unfold turnX; rw [if_neg (by rw [h]; decide)]
    rw [hX] at la lb lc t1 ir ir2 hq hq2 ⊢
    constructor
    · have := turnF2 x (turnQ x) (turnR x) (turnZ x) (hornS (turnZ x) 10 one) (turnC x) ⟨h, by decide, by decide, by decide, la, lb, t1, ir, by decide, ir2, by decide, trivial⟩
      rw [hq] at this
      exact this
    · by_cases hneg : (ftoI (turnQ x)).tmod 4 < 0
      · have := rturnF3 x (turnQ x) (turnR x) (hornS (turnZ x) 10 one) (turnC x) ⟨h, by decide, by decide, by decide, lc, t1, ir, by decide, decide_eq_true hneg, ir2, trivial⟩
        rw [hq2.1 hneg] at this
        exact this
      · have := rturnF4 x (turnQ x) (turnR x) (hornS (turnZ x) 10 one) (turnC x) ⟨h, by decide, by decide, by decide, lc, t1, ir, by decide, decide_eq_false hneg, trivial⟩
        rw [hq2.2 hneg] at this
        exact this
end Go.Proofs.Mf

/- Functions of mathematics: Atan; powers by whole numbers; odd numbers. -/
set_option maxRecDepth 100000
set_option exponentiation.threshold 2200
namespace Go.Proofs.Mf
open Go Go.Ev Ieee

/-! ### Atan -/
def hornA (z : Nat) : Nat → Nat → Nat
  | 0, p => p
  | n + 1, p => hornA z n (fsub (fdiv one (fofI (2 * (n : Int) + 1))) (fmul z p))
theorem hornA_mag {z : Nat} (hz : Mag z 6) : ∀ n p a, n ≤ 20 → Mag p a → a + 7 * n ≤ 1000 → Mag (hornA z n p) (a + 7 * n)
  | 0, p, a, _, hp, _ => hp
  | n + 1, p, a, hn, hp, hk => by
    have h1 := mag_mul hz hp rfl (by omega)
    obtain ⟨f1, f2⟩ := int_one (i := 2 * (n : Int) + 1) (by omega) (by omega)
    have h2 := mag_div mag_one f1 f2 (by omega)
    have h3 := mag_sub (k := a + 6) h2 h1 (by omega) (by omega) (by omega)
    unfold hornA
    exact (hornA_mag hz n _ (a + 7) (by omega) h3 (by omega)).up (by omega)
theorem atan_loop (x b y z : Nat) : ∀ (n p : Nat), n ≤ 20 → LoopTo Try.prog (loopAt Try.f29 0) { n := 56, fr := [(0, AV.fl FloatKind.f64 x), (4, AV.v (.float FloatKind.f64 b)), (5, AV.fl FloatKind.f64 y), (6, AV.fl FloatKind.f64 z), (7, AV.fl FloatKind.f64 p), (8, AV.v (.int .i64 (2 * (n : Int) - 1)))], hp := [], nx := 0 } (Exit.exit 0) { n := 56, fr := [(0, AV.fl FloatKind.f64 x), (4, AV.v (.float FloatKind.f64 b)), (5, AV.fl FloatKind.f64 y), (7, AV.fl FloatKind.f64 (hornA z n p))], hp := [], nx := 0 }
  | 0, p, _ => LoopTo.done notEx (atanL0_2 x b y z p _ ⟨by simp, trivial⟩)
  | n + 1, p, hn => by
    have h := atanL0_1 x b y z p (2 * ((n + 1 : Nat) : Int) - 1) ⟨by rw [decide_eq_true_eq]; omega, by simp only [inR]; omega, trivial⟩
    rw [show 2 * ((n + 1 : Nat) : Int) - 1 - 2 = 2 * (n : Int) - 1 by omega, show fofI (2 * ((n + 1 : Nat) : Int) - 1) = fofI (2 * (n : Int) + 1) by congr 1; omega] at h
    unfold hornA
    exact LoopTo.step h (atan_loop x b y z n _ (by omega))
theorem ratan_loop (x y b z : Nat) : ∀ (n p : Nat), n ≤ 20 → LoopTo Try.prog (loopAt Try.f31 0) { n := 52, fr := [(0, AV.fl FloatKind.f64 x), (3, AV.fl FloatKind.f64 y), (4, AV.v (.float FloatKind.f64 b)), (5, AV.fl FloatKind.f64 z), (6, AV.fl FloatKind.f64 p), (7, AV.v (.int .i64 (2 * (n : Int) - 1)))], hp := [], nx := 0 } (Exit.exit 1) { n := 52, fr := [(0, AV.fl FloatKind.f64 x), (3, AV.fl FloatKind.f64 y), (4, AV.v (.float FloatKind.f64 b)), (6, AV.fl FloatKind.f64 (hornA z n p))], hp := [], nx := 0 }
  | 0, p, _ => LoopTo.done notEx (ratanL0_2 x y b z p _ ⟨by simp, trivial⟩)
  | n + 1, p, hn => by
    have h := ratanL0_1 x y b z p (2 * ((n + 1 : Nat) : Int) - 1) ⟨by rw [decide_eq_true_eq]; omega, by simp only [inR]; omega, trivial⟩
    rw [show 2 * ((n + 1 : Nat) : Int) - 1 - 2 = 2 * (n : Int) - 1 by omega, show fofI (2 * ((n + 1 : Nat) : Int) - 1) = fofI (2 * (n : Int) + 1) by congr 1; omega] at h
    unfold hornA
    exact LoopTo.step h (ratan_loop x y b z n _ (by omega))

def negone : Nat := 13830554455654793216
theorem mag_negone : Mag negone 0 := by decide +kernel
def atanP (y : Nat) : Nat := hornA (fmul y y) 20 0
def atanV (b y : Nat) : Nat := fadd b (fmul y (atanP y))
/-- the base and the small angle's tangent -/
def atanB (x : Nat) : Nat := if fgt .f64 (abs x) 4612618744449965542 = true then 4609753056924675352 else if fgt .f64 (abs x) 4601133428098527026 = true then 4605249457297304856 else 0
def atanY (x : Nat) : Nat := if fgt .f64 (abs x) 4612618744449965542 = true then fdiv negone (abs x) else if fgt .f64 (abs x) 4601133428098527026 = true then fdiv (fsub (abs x) one) (fadd (abs x) one) else abs x
def atanW (x : Nat) : Nat := if isNaN x = true then qnan else if feq .f64 x 0 = true then x else cs (atanV (atanB x) (atanY x)) x

theorem V_absN {x : Nat} (h : Num x) : V (abs x) = valN (rg x) := by rw [abs_word, V_wordOf h]; rfl
theorem sg_abs {x : Nat} (h : Num x) : sg (abs x) = false := by rw [abs_word, sg_wordOf h]
theorem word_abs {x : Nat} (h : Num x) : FWord (abs x) := by rw [abs_word]; exact word_wordOf h

theorem atanY_mag {x : Nat} (hn : Num x) : Mag (atanY x) 3 ∧ Mag (atanB x) 1 := by
  have na := num_abs.2 hn
  have va := V_absN hn
  have sa := sg_abs hn
  have wa := word_abs hn
  unfold atanY atanB
  cases h1 : fgt .f64 (abs x) 4612618744449965542 with
  | true =>
    rw [if_pos rfl, if_pos rfl]
    refine ⟨?_, by decide +kernel⟩
    rw [fgt_V na (by unfold Num; decide), decide_eq_true_eq] at h1
    by_cases hi : rg x = 9218868437227405312
    · have e : abs x = 9218868437227405312 := by rw [abs_word, hi]; rfl
      rw [e]
      decide +kernel
    · have hf : Fit (abs x) := by unfold Fit; rw [rg_abs]; unfold Num at hn; omega
      refine (mag_div mag_negone hf ?_ (by decide)).up (by decide)
      rw [rg_abs]
      have : (U : Int) ≤ V 4612618744449965542 := by decide +kernel
      omega
  | false =>
    simp only [Bool.false_eq_true, if_false]
    rw [fgt_V na (by unfold Num; decide), decide_eq_false_iff_not] at h1
    have c1 : V 4612618744449965542 ≤ ((2 ^ 2 * U : Nat) : Int) := by decide +kernel
    have ma : Mag (abs x) 2 := mag_of wa na (by decide) (by omega) (by omega)
    cases h2 : fgt .f64 (abs x) 4601133428098527026 with
    | true =>
      simp only [if_true]
      refine ⟨?_, by decide +kernel⟩
      obtain ⟨d1, d2⟩ := add_one ma sa (by decide)
      exact mag_div (mag_sub (k := 2) ma mag_one (by decide) (by decide) (by decide)) d1.fit d2 (by decide)
    | false =>
      simp only [Bool.false_eq_true, if_false]
      exact ⟨ma.up (by decide), by decide +kernel⟩
theorem atanV_mag {b y : Nat} (hb : Mag b 1) (hy : Mag y 3) : Mag (atanV b y) 200 := by
  have z := mag_mul (k := 6) hy hy rfl (by decide)
  have p : Mag (atanP y) (0 + 7 * 20) := hornA_mag z 20 0 0 (by decide) (by decide +kernel) (by decide)
  have m := mag_mul (k := 143) hy p rfl (by decide)
  exact (mag_add (k := 143) hb m (by decide) (by decide) (by decide)).up (by decide)
theorem mag_cs {v x k : Nat} (h : Mag v k) : Mag (cs v x) k := by
  have hr : rg v ≤ 9218868437227405312 := h.num
  rw [cs_word]
  refine ⟨word_wordOf hr, by unfold Fit; rw [rg_wordOf hr]; exact h.fit, by rw [rg_wordOf hr]; exact h.le⟩

theorem atan_both {x : Nat} (hw : FWord x) : PureTo Try.prog 29 [.fl .f64 x] (.v (.float .f64 (atanW x))) ∧ PureTo Try.prog 31 [.fl .f64 x] (.v (.float .f64 (atanW x))) := by
  unfold atanW
  cases h1 : isNaN x with
  | true => rw [if_pos rfl]; exact ⟨atanF1 x 0 0 0 ⟨h1, trivial⟩, ratanF1 x 0 0 0 ⟨h1, trivial⟩⟩
  | false =>
    rw [if_neg (by decide)]
    have hn := isNaN_num.1 h1
    cases h2 : feq .f64 x 0 with
    | true => rw [if_pos rfl]; exact ⟨clean_known hn (atanF2 x 0 0 0 ⟨h1, h2, trivial⟩), clean_known hn (ratanF2 x 0 0 0 ⟨h1, h2, trivial⟩)⟩
    | false =>
      rw [if_neg (by decide)]
      obtain ⟨my, mb⟩ := atanY_mag hn
      have mv := mag_cs (x := x) (atanV_mag mb my)
      have fa := fun b y z => (FrC.cons 0 (Closer.same (.fl .f64 x)) (.cons 4 (.same (.v (.float .f64 b))) (.cons 5 (.same (.fl .f64 y)) (.cons 6 (.same (.fl .f64 z)) (.cons 7 (Closer.fl 0) (.cons 8 (.same (.v (.int .i64 39))) .nil)))))).loop (hp := []) (nx := 0) (n := 56) (atan_loop x b y z 20 0 (by decide))
      have fb := fun b y z => (FrC.cons 0 (Closer.same (.fl .f64 x)) (.cons 3 (.same (.fl .f64 y)) (.cons 4 (.same (.v (.float .f64 b))) (.cons 5 (.same (.fl .f64 z)) (.cons 6 (Closer.fl 0) (.cons 7 (.same (.v (.int .i64 39))) .nil)))))).loop (hp := []) (nx := 0) (n := 52) (ratan_loop x y b z 20 0 (by decide))
      have hnn := num_iff.1 hn
      cases h3 : fgt .f64 (abs x) 4612618744449965542 with
      | true =>
        have e1 : atanB x = 4609753056924675352 := by unfold atanB; rw [h3]; rfl
        have e2 : atanY x = fdiv negone (abs x) := by unfold atanY; rw [h3]; rfl
        rw [e1, e2] at mv ⊢
        exact ⟨mv.known (atanF3 x 4609753056924675352 (fdiv negone (abs x)) (atanP (fdiv negone (abs x))) ⟨h1, h2, h3, by decide, fa _ _ _, hnn, trivial⟩),
          mv.known (ratanF3 x (fdiv negone (abs x)) 4609753056924675352 (atanP (fdiv negone (abs x))) ⟨h1, h2, h3, fb _ _ _, hnn, trivial⟩)⟩
      | false =>
        cases h4 : fgt .f64 (abs x) 4601133428098527026 with
        | true =>
          have e1 : atanB x = 4605249457297304856 := by unfold atanB; rw [h3, h4]; rfl
          have e2 : atanY x = fdiv (fsub (abs x) one) (fadd (abs x) one) := by unfold atanY; rw [h3, h4]; rfl
          rw [e1, e2] at mv ⊢
          exact ⟨mv.known (atanF4 x 4605249457297304856 (fdiv (fsub (abs x) one) (fadd (abs x) one)) (atanP (fdiv (fsub (abs x) one) (fadd (abs x) one))) ⟨h1, h2, h3, h4, by decide, fa _ _ _, hnn, trivial⟩),
            mv.known (ratanF4 x (fdiv (fsub (abs x) one) (fadd (abs x) one)) 4605249457297304856 (atanP (fdiv (fsub (abs x) one) (fadd (abs x) one))) ⟨h1, h2, h3, h4, fb _ _ _, hnn, trivial⟩)⟩
        | false =>
          have e1 : atanB x = 0 := by unfold atanB; rw [h3, h4]; rfl
          have e2 : atanY x = abs x := by unfold atanY; rw [h3, h4]; rfl
          rw [e1, e2] at mv ⊢
          exact ⟨mv.known (atanF5 x 0 (abs x) (atanP (abs x)) ⟨h1, h2, h3, h4, fa _ _ _, hnn, trivial⟩),
            mv.known (ratanF5 x (abs x) 0 (atanP (abs x)) ⟨h1, h2, h3, h4, fb _ _ _, hnn, trivial⟩)⟩

/-! ### powers by whole numbers -/
def powL : Nat → Nat → Nat → Nat → Nat
  | 0, _, r, _ => r
  | f + 1, n, r, b => if n = 0 then r else powL f (n / 2) (if n % 2 = 1 then fmul r b else r) (if n / 2 = 0 then b else fmul b b)
theorem whole_loop (y : Nat) : ∀ (f n r b : Nat), n < 2 ^ f → f ≤ 20 → LoopTo Try.prog (loopAt Try.f50 0) { n := 32, fr := [(1, AV.v (.float FloatKind.f64 y)), (5, AV.fl FloatKind.f64 r), (6, AV.fl FloatKind.f64 b), (7, AV.v (.int .i64 n))], hp := [], nx := 0 } (Exit.exit 0) { n := 32, fr := [(1, AV.v (.float FloatKind.f64 y)), (5, AV.fl FloatKind.f64 (powL f n r b))], hp := [], nx := 0 }
  | 0, n, r, b, hn, _ => by
    have h0 : n = 0 := by simpa using hn
    subst h0
    exact LoopTo.done notEx (wholeL0_5 y r b _ ⟨by decide, trivial⟩)
  | f + 1, n, r, b, hn, hf => by
    unfold powL
    have hb : (2 : Nat) ^ (f + 1) ≤ 2 ^ 20 := Nat.pow_le_pow_right (by decide) hf
    have hb2 : (2 : Nat) ^ 20 = 1048576 := by decide
    have hn2 : n / 2 < 2 ^ f := by rw [Nat.pow_succ] at hn; omega
    have hq : (n : Int).tdiv 2 = ((n / 2 : Nat) : Int) := by simp [Int.tdiv_eq_ediv_of_nonneg]
    have hm : (n : Int).tmod 2 = ((n % 2 : Nat) : Int) := by simp [Int.tmod_eq_emod_of_nonneg]
    by_cases h0 : n = 0
    · rw [if_pos h0]
      exact LoopTo.done notEx (wholeL0_5 y r b _ ⟨by subst h0; decide, trivial⟩)
    · rw [if_neg h0]
      have ih := whole_loop y f (n / 2) (if n % 2 = 1 then fmul r b else r) (if n / 2 = 0 then b else fmul b b) hn2 (by omega)
      refine LoopTo.step ?_ ih
      have w1 := wholeL0_1 y r b n
      have w2 := wholeL0_2 y r b n
      have w3 := wholeL0_3 y r b n
      have w4 := wholeL0_4 y r b n
      rw [hq, hm] at w1 w2 w3 w4
      by_cases h1 : n % 2 = 1 <;> by_cases h2 : n / 2 = 0
      · rw [if_pos h1, if_pos h2]
        exact w2 ⟨by rw [decide_eq_true_eq]; omega, by decide, by rw [beq_iff_eq]; omega, by decide, by simp only [inR]; omega, by rw [decide_eq_false_iff_not]; omega, trivial⟩
      · rw [if_pos h1, if_neg h2]
        exact w1 ⟨by rw [decide_eq_true_eq]; omega, by decide, by rw [beq_iff_eq]; omega, by decide, by simp only [inR]; omega, by rw [decide_eq_true_eq]; omega, trivial⟩
      · rw [if_neg h1, if_pos h2]
        exact w4 ⟨by rw [decide_eq_true_eq]; omega, by decide, by rw [beq_eq_false_iff_ne]; omega, by decide, by simp only [inR]; omega, by rw [decide_eq_false_iff_not]; omega, trivial⟩
      · rw [if_neg h1, if_neg h2]
        exact w3 ⟨by rw [decide_eq_true_eq]; omega, by decide, by rw [beq_eq_false_iff_ne]; omega, by decide, by simp only [inR]; omega, by rw [decide_eq_true_eq]; omega, trivial⟩
theorem power_loop (y : Nat) : ∀ (f n r b : Nat), n < 2 ^ f → f ≤ 20 → LoopTo Try.prog (loopAt Try.f52 0) { n := 32, fr := [(1, AV.v (.float FloatKind.f64 y)), (5, AV.fl FloatKind.f64 r), (6, AV.fl FloatKind.f64 b), (7, AV.v (.int .i64 n))], hp := [], nx := 0 } (Exit.exit 0) { n := 32, fr := [(1, AV.v (.float FloatKind.f64 y)), (5, AV.fl FloatKind.f64 (powL f n r b))], hp := [], nx := 0 }
  | 0, n, r, b, hn, _ => by
    have h0 : n = 0 := by simpa using hn
    subst h0
    exact LoopTo.done notEx (powerL0_5 y r b _ ⟨by decide, trivial⟩)
  | f + 1, n, r, b, hn, hf => by
    unfold powL
    have hb : (2 : Nat) ^ (f + 1) ≤ 2 ^ 20 := Nat.pow_le_pow_right (by decide) hf
    have hb2 : (2 : Nat) ^ 20 = 1048576 := by decide
    have hn2 : n / 2 < 2 ^ f := by rw [Nat.pow_succ] at hn; omega
    have hq : (n : Int).tdiv 2 = ((n / 2 : Nat) : Int) := by simp [Int.tdiv_eq_ediv_of_nonneg]
    have hm : (n : Int).tmod 2 = ((n % 2 : Nat) : Int) := by simp [Int.tmod_eq_emod_of_nonneg]
    by_cases h0 : n = 0
    · rw [if_pos h0]
      exact LoopTo.done notEx (powerL0_5 y r b _ ⟨by subst h0; decide, trivial⟩)
    · rw [if_neg h0]
      have ih := power_loop y f (n / 2) (if n % 2 = 1 then fmul r b else r) (if n / 2 = 0 then b else fmul b b) hn2 (by omega)
      refine LoopTo.step ?_ ih
      have w1 := powerL0_1 y r b n
      have w2 := powerL0_2 y r b n
      have w3 := powerL0_3 y r b n
      have w4 := powerL0_4 y r b n
      rw [hq, hm] at w1 w2 w3 w4
      by_cases h1 : n % 2 = 1 <;> by_cases h2 : n / 2 = 0
      · rw [if_pos h1, if_pos h2]
        exact w2 ⟨by rw [decide_eq_true_eq]; omega, by decide, by rw [beq_iff_eq]; omega, by decide, by simp only [inR]; omega, by rw [decide_eq_false_iff_not]; omega, trivial⟩
      · rw [if_pos h1, if_neg h2]
        exact w1 ⟨by rw [decide_eq_true_eq]; omega, by decide, by rw [beq_iff_eq]; omega, by decide, by simp only [inR]; omega, by rw [decide_eq_true_eq]; omega, trivial⟩
      · rw [if_neg h1, if_pos h2]
        exact w4 ⟨by rw [decide_eq_true_eq]; omega, by decide, by rw [beq_eq_false_iff_ne]; omega, by decide, by simp only [inR]; omega, by rw [decide_eq_false_iff_not]; omega, trivial⟩
      · rw [if_neg h1, if_neg h2]
        exact w3 ⟨by rw [decide_eq_true_eq]; omega, by decide, by rw [beq_eq_false_iff_ne]; omega, by decide, by simp only [inR]; omega, by rw [decide_eq_true_eq]; omega, trivial⟩

def powR (a y : Nat) : Nat := powL 20 (ftoI (abs y)).toNat one a
def wholeW (a y : Nat) : Nat := if flt .f64 y 0 = true then fdiv one (powR a y) else powR a y
theorem mag_abs {x k : Nat} (h : Mag x k) : Mag (abs x) k := ⟨word_abs h.num, by unfold Fit; rw [rg_abs]; exact h.fit, by rw [rg_abs]; exact h.le⟩
theorem toI_abs {y k : Nat} (h : Mag y k) : 0 ≤ ftoI (abs y) := by
  rw [(ftoI_V (mag_abs h).fit).2, sg_abs h.num]
  exact Int.natCast_nonneg _
theorem whole_both {a y : Nat} (hy : Mag y 19) : PureTo Try.prog 50 [.v (.float .f64 a), .v (.float .f64 y)] (.fl .f64 (wholeW a y)) ∧ PureTo Try.prog 52 [.v (.float .f64 a), .v (.float .f64 y)] (.fl .f64 (wholeW a y)) := by
  obtain ⟨t1, t2⟩ := toI_mag (mag_abs hy)
  have t3 := toI_abs hy
  have b1 : (2 : Nat) ^ 19 = 524288 := by decide
  have b2 : (2 : Nat) ^ 20 = 1048576 := by decide
  have hN : ((ftoI (abs y)).toNat : Int) = ftoI (abs y) := Int.toNat_of_nonneg t3
  have fr := FrC.cons 1 (Closer.same (.v (.float .f64 y))) (.cons 5 (Closer.fl one) (.cons 6 (Closer.fl a) (.cons 7 (.same (.v (.int .i64 ((ftoI (abs y)).toNat : Int)))) .nil)))
  have la := fr.loop (hp := []) (nx := 0) (n := 32) (whole_loop y 20 (ftoI (abs y)).toNat one a (by omega) (by decide))
  have lb := fr.loop (hp := []) (nx := 0) (n := 32) (power_loop y 20 (ftoI (abs y)).toNat one a (by omega) (by decide))
  rw [hN] at la lb
  have ir : inR .i64 (ftoI (abs y)) := by simp only [inR]; omega
  unfold wholeW
  cases h : flt .f64 y 0 with
  | true =>
    rw [if_pos rfl]
    exact ⟨wholeF1 a y (powR a y) ⟨t1, ir, la, h, trivial⟩, powerF1 a y (powR a y) ⟨t1, ir, lb, h, trivial⟩⟩
  | false =>
    rw [if_neg (by decide)]
    exact ⟨wholeF2 a y (powR a y) ⟨t1, ir, la, h, trivial⟩, powerF2 a y (powR a y) ⟨t1, ir, lb, h, trivial⟩⟩
end Go.Proofs.Mf

/- Functions of mathematics: walks, written by the tool. -/
set_option maxRecDepth 100000
namespace Go.Proofs.Mf
open Go Go.Ev

-- 5 paths
theorem endless1 (x y : Nat) (h : AllP [feq FloatKind.f64 (abs x) 4607182418800017408 = true]) : PureTo Try.prog 46 [.v (.float .f64 x), .v (.float .f64 y)] (AV.v (.float FloatKind.f64 9221120237041090560)) :=
  evFn_pure hm moT1 (fn := Try.f46) rfl rfl (ti := false) (hs := [CHint.ops 2 [(1, Hint.b true)]]) (c := _) (by kernel_rfl) h
theorem endless2 (x y : Nat) (h : AllP [feq FloatKind.f64 (abs x) 4607182418800017408 = false, fgt FloatKind.f64 (abs x) 4607182418800017408 = true, fgt FloatKind.f64 y 0 = true]) : PureTo Try.prog 46 [.v (.float .f64 x), .v (.float .f64 y)] (AV.v (.float FloatKind.f64 9218868437227405312)) :=
  evFn_pure hm moT1 (fn := Try.f46) rfl rfl (ti := false) (hs := [CHint.ops 2 [(1, Hint.b false)], CHint.ops 4 [(1, Hint.b true), (3, Hint.b true)]]) (c := _) (by kernel_rfl) h
theorem endless3 (x y : Nat) (h : AllP [feq FloatKind.f64 (abs x) 4607182418800017408 = false, fgt FloatKind.f64 (abs x) 4607182418800017408 = true, fgt FloatKind.f64 y 0 = false]) : PureTo Try.prog 46 [.v (.float .f64 x), .v (.float .f64 y)] (AV.v (.float FloatKind.f64 0)) :=
  evFn_pure hm moT1 (fn := Try.f46) rfl rfl (ti := false) (hs := [CHint.ops 2 [(1, Hint.b false)], CHint.ops 4 [(1, Hint.b true), (3, Hint.b false)]]) (c := _) (by kernel_rfl) h
theorem endless4 (x y : Nat) (h : AllP [feq FloatKind.f64 (abs x) 4607182418800017408 = false, fgt FloatKind.f64 (abs x) 4607182418800017408 = false, fgt FloatKind.f64 y 0 = true]) : PureTo Try.prog 46 [.v (.float .f64 x), .v (.float .f64 y)] (AV.v (.float FloatKind.f64 0)) :=
  evFn_pure hm moT1 (fn := Try.f46) rfl rfl (ti := false) (hs := [CHint.ops 2 [(1, Hint.b false)], CHint.ops 4 [(1, Hint.b false), (3, Hint.b true)]]) (c := _) (by kernel_rfl) h
theorem endless5 (x y : Nat) (h : AllP [feq FloatKind.f64 (abs x) 4607182418800017408 = false, fgt FloatKind.f64 (abs x) 4607182418800017408 = false, fgt FloatKind.f64 y 0 = false]) : PureTo Try.prog 46 [.v (.float .f64 x), .v (.float .f64 y)] (AV.v (.float FloatKind.f64 9218868437227405312)) :=
  evFn_pure hm moT1 (fn := Try.f46) rfl rfl (ti := false) (hs := [CHint.ops 2 [(1, Hint.b false)], CHint.ops 4 [(1, Hint.b false), (3, Hint.b false)]]) (c := _) (by kernel_rfl) h
end Go.Proofs.Mf

/- Functions of mathematics: odd numbers; powers of amounts; the table. -/
set_option maxRecDepth 100000
set_option exponentiation.threshold 2200
namespace Go.Proofs.Mf
open Go Go.Ev Ieee

theorem sv_zero (s : Bool) : sv s 0 = 0 := by cases s <;> rfl
/-! ### odd -/
def oddB (y : Nat) : Bool := flt .f64 (abs y) 4845873199050653696 && (feq .f64 y (intW .zero y) && !feq .f64 (modW y 4611686018427387904) 0)
theorem odd_c {y : Nat} (hw : FWord y) : PureTo Try.prog 48 [.v (.float .f64 y)] (.v (.bool (oddB y))) := by
  unfold oddB
  cases h1 : flt .f64 (abs y) 4845873199050653696 with
  | false => exact odd4 y ⟨h1, trivial⟩
  | true =>
    cases h2 : feq .f64 y (intW .zero y) with
    | false => exact odd3 y ⟨h1, h2, trivial⟩
    | true =>
      cases h3 : !feq .f64 (modW y 4611686018427387904) 0 with
      | false => exact odd2 y ⟨h1, h2, hw, by decide, h3, trivial⟩
      | true => exact odd1 y ⟨h1, h2, hw, by decide, h3, trivial⟩
theorem feq_comm (x y : Nat) : feq .f64 x y = feq .f64 y x := by
  by_cases hx : Num x
  · by_cases hy : Num y
    · rw [feq_V hx hy, feq_V hy hx]
      by_cases h : V x = V y
      · rw [decide_eq_true h, decide_eq_true h.symm]
      · rw [decide_eq_false h, decide_eq_false fun e => h e.symm]
    · rw [(nan_cmp (.inr hy)).2.1, (nan_cmp (.inl hy)).2.1]
  · rw [(nan_cmp (.inl hx)).2.1, (nan_cmp (.inr hx)).2.1]

def two : Nat := 4611686018427387904
theorem V_two : valN (rg two) = 2 * U := by decide +kernel
theorem sv_eq {s : Bool} {a b : Nat} : sv s a = sv s b ↔ a = b := by
  unfold sv
  split <;> omega
theorem odd_half {y : Nat} (hw : FWord y) (h1 : flt .f64 (abs y) 4845873199050653696 = true) (h2 : feq .f64 y (intW .zero y) = true) :
    feq .f64 (intW .zero (fdiv y two)) (fdiv y two) = feq .f64 (modW y two) 0 := by
  -- y is a number, n times one
  have hn : Num y := by
    rcases Classical.em (Num y) with h | h
    · exact h
    · rw [(nan_cmp (.inl h)).2.1] at h2; cases h2
  have hf : Fit y := by
    rw [flt_V (num_abs.2 hn) (by unfold Num; decide), decide_eq_true_eq, V_absN hn] at h1
    have c : V 4845873199050653696 ≤ ((2 ^ 1023 * U : Nat) : Int) := by decide +kernel
    unfold Fit
    have : rg y ≤ pk 1023 := by rw [← valN_le_iff, pk_val]; omega
    have := pk_le (k := 1023) (by decide)
    omega
  obtain ⟨r, r1, r2, r3⟩ := trunc_V hf
  have hr : valN r = valN (rg y) := by
    rw [feq_V hn (by rw [r3]; unfold Num; rw [rg_wordOf (Nat.le_of_lt r1)]; exact Nat.le_of_lt r1), decide_eq_true_eq, r3, V_wordOf (Nat.le_of_lt r1)] at h2
    exact (sv_eq.1 h2).symm
  generalize hN : valN (rg y) / U = n at r2
  have hy : valN (rg y) = n * U := by rw [← hr, r2]
  have hlt : n < 2 ^ 53 := by
    rw [flt_V (num_abs.2 hn) (by unfold Num; decide), decide_eq_true_eq, V_absN hn] at h1
    have c : V 4845873199050653696 ≤ ((2 ^ 53 * U : Nat) : Int) := by decide +kernel
    have : n * U < 2 ^ 53 * U := by rw [← hy]; omega
    exact Nat.lt_of_mul_lt_mul_right this
  -- its rest by two
  have ht : Fit two := by decide +kernel
  have ht0 : rg two ≠ 0 := by decide +kernel
  have hti : rg two ≠ 9218868437227405312 := by decide +kernel
  have hm : modW y two = wordOf (sg y) (rd (n % 2 * U)) := by
    unfold modW
    rw [if_neg (by
      rintro (h | h | h)
      · exact h hf
      · exact h ht.num
      · exact ht0 h)]
    unfold modR
    rw [if_neg hti, hy, V_two, Nat.mul_mod_mul_right]
  obtain ⟨m, m1, m2⟩ := whole_rep (n := n % 2) (by have := Nat.mod_lt n (show 0 < 2 by decide); omega)
  rw [← m2, rd_val (Nat.le_of_lt m1)] at hm
  have e1 : feq .f64 (modW y two) 0 = decide (n % 2 = 0) := by
    rw [hm, feq_V (by unfold Num; rw [rg_wordOf (Nat.le_of_lt m1)]; exact Nat.le_of_lt m1) fin_zero.num, V_null, V_wordOf (Nat.le_of_lt m1), m2]
    have hU := U_pos
    by_cases h : n % 2 = 0
    · rw [decide_eq_true h, h, Nat.zero_mul, decide_eq_true (sv_zero _)]
    · rw [decide_eq_false h, decide_eq_false]
      intro h3
      have : n % 2 = 1 := by omega
      rw [this, Nat.one_mul] at h3
      unfold sv at h3
      split at h3 <;> omega
  -- its half
  obtain ⟨q, q1, q2⟩ := rep n 1073 hlt (by decide)
  have hU2 : U = 2 * 2 ^ 1073 := by unfold U; rw [← Nat.pow_succ']
  have hq : fdiv y two = wordOf (sg y) q := by
    obtain ⟨p, p1, p2⟩ := fdiv_RN hf ht ht0
    have hs : sg two = false := by decide +kernel
    have e : valN (rg y) * U = valN q * valN (rg two) := by
      rw [hy, q2, V_two]
      conv => lhs; rw [Nat.mul_assoc]; arg 2; arg 1; rw [hU2]
      ac_rfl
    have : p = q := Nat.le_antisymm (p2.le _ (Nat.le_of_lt q1) (by rw [e]; exact Nat.le_refl _)) (p2.ge _ (Nat.le_of_lt q1) (by rw [e]; exact Nat.le_refl _))
    rw [p1, hs, Bool.xor_false, this]
  have hqf : Fit (wordOf (sg y) q) := by unfold Fit; rw [rg_wordOf (Nat.le_of_lt q1)]; exact q1
  obtain ⟨t, t1, t2, t3⟩ := trunc_V hqf
  rw [rg_wordOf (Nat.le_of_lt q1), q2] at t2
  have e2 : feq .f64 (intW .zero (fdiv y two)) (fdiv y two) = decide (n % 2 = 0) := by
    rw [hq, t3, sg_wordOf (Nat.le_of_lt q1), feq_V (by unfold Num; rw [rg_wordOf (Nat.le_of_lt t1)]; exact Nat.le_of_lt t1) hqf.num, V_wordOf (Nat.le_of_lt t1), V_wordOf (Nat.le_of_lt q1), t2, q2]
    have hd : n * 2 ^ 1073 / U = n / 2 := by
      rw [hU2, Nat.mul_comm 2, ← Nat.div_div_eq_div_mul, Nat.mul_div_cancel _ (Nat.two_pow_pos _)]
    rw [hd]
    have hP : 0 < 2 ^ 1073 := Nat.two_pow_pos _
    have hh : n / 2 * U = 2 * (n / 2) * 2 ^ 1073 := by rw [hU2]; ac_rfl
    rw [hh]
    by_cases h : n % 2 = 0
    · rw [decide_eq_true h, decide_eq_true]
      rw [show 2 * (n / 2) = n by omega]
    · rw [decide_eq_false h, decide_eq_false]
      intro h3
      have h4 := Nat.eq_of_mul_eq_mul_right hP (sv_eq.1 h3)
      omega
  rw [e1, e2]
theorem rodd_c {y : Nat} (hw : FWord y) : PureTo Try.prog 51 [.v (.float .f64 y)] (.v (.bool (oddB y))) := by
  unfold oddB
  cases h1 : flt .f64 (abs y) 4845873199050653696 with
  | false => exact rodd4 y ⟨h1, trivial⟩
  | true =>
    cases h2 : feq .f64 y (intW .zero y) with
    | false => exact rodd3 y ⟨h1, by rw [feq_comm]; exact h2, trivial⟩
    | true =>
      have h4 := odd_half hw h1 h2
      cases h3 : !feq .f64 (modW y 4611686018427387904) 0 with
      | false => exact rodd2 y ⟨h1, by rw [feq_comm]; exact h2, by rw [← h3]; exact congrArg (!·) h4, trivial⟩
      | true => exact rodd1 y ⟨h1, by rw [feq_comm]; exact h2, by rw [← h3]; exact congrArg (!·) h4, trivial⟩

/-! ### powers of amounts -/
structure Pz (x : Nat) : Prop where
  word : FWord x
  num : Num x
  pos : sg x = false
theorem pz_word {r : Nat} (h : r ≤ 9218868437227405312) : Pz (wordOf false r) := ⟨word_wordOf h, by unfold Num; rw [rg_wordOf h]; exact h, sg_wordOf h⟩
theorem pz_eq {x : Nat} (h : Pz x) : x = wordOf false (rg x) := by rw [← h.pos]; exact wordOf_of h.word
theorem valN_big {r : Nat} (h : oneR ≤ r) : U ≤ valN r := by rw [← valN_one]; exact valN_le_iff.2 h
theorem read_infW : FloatKind.f64.format.read (wordOf false 9218868437227405312) = .infinity false := by decide +kernel
/-- numbers of one or more, infinity too -/
theorem fmul_big {x y : Nat} (hx : Pz x) (hy : Pz y) (bx : oneR ≤ rg x) (by1 : oneR ≤ rg y) : Pz (fmul x y) ∧ oneR ≤ rg (fmul x y) := by
  have top : Pz (wordOf false 9218868437227405312) ∧ oneR ≤ rg (wordOf false 9218868437227405312) := ⟨pz_word (by decide), by decide +kernel⟩
  by_cases ix : rg x = 9218868437227405312
  · have ex : x = wordOf false 9218868437227405312 := by rw [pz_eq hx, ix]
    by_cases iy : rg y = 9218868437227405312
    · have ey : y = wordOf false 9218868437227405312 := by rw [pz_eq hy, iy]
      rw [ex, ey]
      have : fmul (wordOf false 9218868437227405312) (wordOf false 9218868437227405312) = wordOf false 9218868437227405312 := by decide +kernel
      rw [this]; exact top
    · have fy : Fit y := by unfold Fit; have := hy.num; unfold Num at this; omega
      have hn : sigM (rg y) ≠ 0 := fun h => by have := sigM_null.1 h; rw [this] at by1; exact absurd by1 (by decide)
      have : fmul x y = wordOf false 9218868437227405312 := by
        rw [ex]
        unfold fmul Format.mul
        rw [read_fin fy, read_infW, hy.pos]
        show ((if sigM (rg y) = 0 then none else some (Datum.infinity (false ^^ false))).map FloatKind.f64.format.write).getD qnan = _
        rw [if_neg hn]
        decide +kernel
      rw [this]; exact top
  · have fx : Fit x := by unfold Fit; have := hx.num; unfold Num at this; omega
    by_cases iy : rg y = 9218868437227405312
    · have ey : y = wordOf false 9218868437227405312 := by rw [pz_eq hy, iy]
      have hn : sigM (rg x) ≠ 0 := fun h => by have := sigM_null.1 h; rw [this] at bx; exact absurd bx (by decide)
      have : fmul x y = wordOf false 9218868437227405312 := by
        rw [ey]
        unfold fmul Format.mul
        rw [read_fin fx, read_infW, hx.pos]
        show ((if sigM (rg x) = 0 then none else some (Datum.infinity (false ^^ false))).map FloatKind.f64.format.write).getD qnan = _
        rw [if_neg hn]
        decide +kernel
      rw [this]; exact top
    · have fy : Fit y := by unfold Fit; have := hy.num; unfold Num at this; omega
      obtain ⟨r, r1, r2⟩ := fmul_RN fx fy
      rw [hx.pos, hy.pos] at r1
      have : fmul x y = wordOf false r := r1
      rw [this]
      refine ⟨pz_word r2.fin, ?_⟩
      rw [rg_wordOf r2.fin]
      refine r2.ge _ (by decide) ?_
      rw [valN_one]
      exact Nat.mul_le_mul (valN_big bx) (valN_big by1)
theorem valN_small {r : Nat} (h : r ≤ oneR) : valN r ≤ U := by rw [← valN_one]; exact valN_le_iff.2 h
theorem fit_small {x : Nat} (h : rg x ≤ oneR) : Fit x := by unfold Fit; unfold oneR at h; omega
theorem fmul_small {x y : Nat} (hx : Pz x) (hy : Pz y) (bx : rg x ≤ oneR) (by1 : rg y ≤ oneR) : Pz (fmul x y) ∧ rg (fmul x y) ≤ oneR := by
  obtain ⟨r, r1, r2⟩ := fmul_RN (fit_small bx) (fit_small by1)
  rw [hx.pos, hy.pos] at r1
  have : fmul x y = wordOf false r := r1
  rw [this]
  refine ⟨pz_word r2.fin, ?_⟩
  rw [rg_wordOf r2.fin]
  refine r2.le _ (by decide) ?_
  rw [valN_one]
  exact Nat.mul_le_mul (valN_small bx) (valN_small by1)
theorem powL_big : ∀ f n r b, Pz r → Pz b → oneR ≤ rg r → oneR ≤ rg b → Pz (powL f n r b)
  | 0, _, _, _, hr, _, _, _ => hr
  | f + 1, n, r, b, hr, hb, kr, kb => by
    unfold powL
    by_cases h0 : n = 0
    · rw [if_pos h0]; exact hr
    rw [if_neg h0]
    have m1 := fmul_big hr hb kr kb
    have m2 := fmul_big hb hb kb kb
    by_cases h1 : n % 2 = 1 <;> by_cases h2 : n / 2 = 0
    · rw [if_pos h1, if_pos h2]; exact powL_big f _ _ _ m1.1 hb m1.2 kb
    · rw [if_pos h1, if_neg h2]; exact powL_big f _ _ _ m1.1 m2.1 m1.2 m2.2
    · rw [if_neg h1, if_pos h2]; exact powL_big f _ _ _ hr hb kr kb
    · rw [if_neg h1, if_neg h2]; exact powL_big f _ _ _ hr m2.1 kr m2.2
theorem powL_small : ∀ f n r b, Pz r → Pz b → rg r ≤ oneR → rg b ≤ oneR → Pz (powL f n r b)
  | 0, _, _, _, hr, _, _, _ => hr
  | f + 1, n, r, b, hr, hb, kr, kb => by
    unfold powL
    by_cases h0 : n = 0
    · rw [if_pos h0]; exact hr
    rw [if_neg h0]
    have m1 := fmul_small hr hb kr kb
    have m2 := fmul_small hb hb kb kb
    by_cases h1 : n % 2 = 1 <;> by_cases h2 : n / 2 = 0
    · rw [if_pos h1, if_pos h2]; exact powL_small f _ _ _ m1.1 hb m1.2 kb
    · rw [if_pos h1, if_neg h2]; exact powL_small f _ _ _ m1.1 m2.1 m1.2 m2.2
    · rw [if_neg h1, if_pos h2]; exact powL_small f _ _ _ hr hb kr kb
    · rw [if_neg h1, if_neg h2]; exact powL_small f _ _ _ hr m2.1 kr m2.2
theorem pz_one : Pz one := ⟨by decide +kernel, mag_one.num, by decide +kernel⟩
theorem powR_pz {a y : Nat} (ha : Pz a) : Pz (powR a y) := by
  unfold powR
  rcases Nat.le_total oneR (rg a) with h | h
  · exact powL_big _ _ _ _ pz_one ha (by decide +kernel) h
  · exact powL_small _ _ _ _ pz_one ha (by decide +kernel) h
theorem one_over {r : Nat} (h : Pz r) : FClean (fdiv one r) := by
  by_cases h0 : rg r = 0
  · have e : r = wordOf false 0 := by rw [pz_eq h, h0]
    rw [e]
    exact ⟨by decide +kernel, by decide +kernel⟩
  by_cases hi : rg r = 9218868437227405312
  · have e : r = wordOf false 9218868437227405312 := by rw [pz_eq h, hi]
    rw [e]
    exact ⟨by decide +kernel, by decide +kernel⟩
  have hf : Fit r := by unfold Fit; have := h.num; unfold Num at this; omega
  obtain ⟨q, q1, q2⟩ := fdiv_RN mag_one.fit hf h0
  rw [q1]
  exact clean_word q2.fin
theorem wholeW_clean {a y : Nat} (ha : Pz a) : FClean (wholeW a y) := by
  unfold wholeW
  split
  · exact one_over (powR_pz ha)
  · exact ⟨(powR_pz ha).word, (powR_pz ha).num⟩
end Go.Proofs.Mf

/- Functions of mathematics: the table. -/
set_option maxRecDepth 100000
namespace Go.Proofs.Mf
open Go Go.Ev Ieee

/-- two known ones in -/
def sXX (g : Nat → Nat → AV) : List AV → Option (AV × List Prop)
  | [.v (.float .f64 x), .v (.float .f64 y)] => some (g x y, [])
  | _ => none
theorem cons_XX {SG : SGT} {f : FuncId} (g : Nat → Nat → AV) (h : SigsOK Try.prog SG) (hf : ∀ x y, PureTo Try.prog f [.v (.float .f64 x), .v (.float .f64 y)] (g x y)) : SigsOK Try.prog ((f, .p (sXX g)) :: SG) := by
  refine sigs_cons h ?_
  intro ys r c hs hc
  unfold sXX at hs
  split at hs
  · cases hs; exact hf _ _
  · cases hs

/-- any float in, a known one out -/
def sigWV (g : Nat → Nat) : List AV → Option (AV × List Prop) := sigF fun x => (.v (.float .f64 (g x)), [FWord x])
theorem cons_WV {SG : SGT} {f : FuncId} (g : Nat → Nat) (h : SigsOK Try.prog SG) (hf : ∀ x, FWord x → PureTo Try.prog f [.fl .f64 x] (.v (.float .f64 (g x)))) : SigsOK Try.prog ((f, .p (sigWV g)) :: SG) :=
  sigs_cons h (sigF_ok (f := fun x => (.v (.float .f64 (g x)), [FWord x])) fun a ha => hf a ha.1)
def sigTurn : List AV → Option (AV × List Prop)
  | [.v (.float .f64 x)] => some (.tup [.fl .f64 (turnS (turnX x)), .fl .f64 (turnC (turnX x)), .v (.int .i64 (turnN (turnX x)))], [FWord x, Fit x])
  | _ => none
theorem sigTurn_ok {f : FuncId} (h : ∀ x, FWord x → Fit x → PureTo Try.prog f [.v (.float .f64 x)] (.tup [.fl .f64 (turnS (turnX x)), .fl .f64 (turnC (turnX x)), .v (.int .i64 (turnN (turnX x)))])) : ∀ ys r c, sigTurn ys = some (r, c) → AllP c → PureTo Try.prog f ys r := by
  intro ys r c hs hc
  unfold sigTurn at hs
  split at hs
  · cases hs; exact h _ hc.1 hc.2.1
  · cases hs
def sigWhole : List AV → Option (AV × List Prop)
  | [.v (.float .f64 a), .v (.float .f64 y)] => some (.v (.float .f64 (wholeW a y)), [Mag y 19, Pz a])
  | _ => none
theorem sigWhole_ok {f : FuncId} (h : ∀ a y, Mag y 19 → Pz a → PureTo Try.prog f [.v (.float .f64 a), .v (.float .f64 y)] (.v (.float .f64 (wholeW a y)))) : ∀ ys r c, sigWhole ys = some (r, c) → AllP c → PureTo Try.prog f ys r := by
  intro ys r c hs hc
  unfold sigWhole at hs
  split at hs
  · cases hs; exact h _ _ hc.1 hc.2.1
  · cases hs
def sigOdd : List AV → Option (AV × List Prop)
  | [.v (.float .f64 y)] => some (.v (.bool (oddB y)), [FWord y])
  | _ => none
theorem sigOdd_ok {f : FuncId} (h : ∀ y, FWord y → PureTo Try.prog f [.v (.float .f64 y)] (.v (.bool (oddB y)))) : ∀ ys r c, sigOdd ys = some (r, c) → AllP c → PureTo Try.prog f ys r := by
  intro ys r c hs hc
  unfold sigOdd at hs
  split at hs
  · cases hs; exact h _ hc.1
  · cases hs
def endW (x y : Nat) : Nat := if feq .f64 (abs x) 4607182418800017408 = true then qnan else if fgt .f64 (abs x) 4607182418800017408 = fgt .f64 y 0 then 9218868437227405312 else 0
theorem end_c (x y : Nat) : PureTo Try.prog 46 [.v (.float .f64 x), .v (.float .f64 y)] (.v (.float .f64 (endW x y))) := by
  unfold endW
  cases h1 : feq .f64 (abs x) 4607182418800017408 with
  | true => exact endless1 x y ⟨h1, trivial⟩
  | false =>
    cases h2 : fgt .f64 (abs x) 4607182418800017408 <;> cases h3 : fgt .f64 y 0
    · exact endless5 x y ⟨h1, h2, h3, trivial⟩
    · exact endless4 x y ⟨h1, h2, h3, trivial⟩
    · exact endless3 x y ⟨h1, h2, h3, trivial⟩
    · exact endless2 x y ⟨h1, h2, h3, trivial⟩

def MT2 : SGT := (11, .p (sigWV expW)) :: (12, .p (sigWV expW)) :: (13, .p (sigWV logW)) :: (14, .p (sigWV logW)) :: (29, .p (sigWV atanW)) :: (31, .p (sigWV atanW)) :: (59, .p sigTurn) :: (61, .p sigTurn) ::
  (50, .p sigWhole) :: (52, .p sigWhole) :: (48, .p sigOdd) :: (51, .p sigOdd) :: (46, .p (sXX fun x y => .v (.float .f64 (endW x y)))) :: MT1
theorem moT2 : SigsOK Try.prog MT2 := by
  have a0 := cons_XX (fun x y => .v (.float .f64 (endW x y))) moT1 end_c
  have a1 := sigs_cons a0 (sigOdd_ok fun y h => rodd_c h)
  have a2 := sigs_cons a1 (sigOdd_ok fun y h => odd_c h)
  have a3 := sigs_cons a2 (sigWhole_ok fun a y hy ha => clean_known (wholeW_clean ha).2 (whole_both hy).2)
  have a4 := sigs_cons a3 (sigWhole_ok fun a y hy ha => clean_known (wholeW_clean ha).2 (whole_both hy).1)
  have a5 := sigs_cons a4 (sigTurn_ok fun x hw hf => (turn_both hw hf).2)
  have a6 := sigs_cons a5 (sigTurn_ok fun x hw hf => (turn_both hw hf).1)
  have a7 := cons_WV (f := 31) atanW a6 fun x hw => (atan_both hw).2
  have a8 := cons_WV (f := 29) atanW a7 fun x hw => (atan_both hw).1
  have a9 := cons_WV (f := 14) logW a8 fun x hw => (log_both hw).2
  have b1 := cons_WV (f := 13) logW a9 fun x hw => (log_both hw).1
  have b2 := cons_WV (f := 12) expW b1 fun x hw => rexp_c hw
  exact cons_WV (f := 11) expW b2 fun x hw => exp_c hw
/-- .. with the quarter known -/
def sigTurnQ (q : Int) : List AV → Option (AV × List Prop)
  | [.v (.float .f64 x)] => some (.tup [.fl .f64 (turnS (turnX x)), .fl .f64 (turnC (turnX x)), .v (.int .i64 q)], [FWord x, Fit x, turnN (turnX x) = q])
  | _ => none
theorem sigTurnQ_ok {q : Int} : ∀ ys r c, sigTurnQ q ys = some (r, c) → AllP c → PureTo Try.prog 59 ys r := by
  intro ys r c hs hc
  unfold sigTurnQ at hs
  split at hs
  · cases hs
    rw [← hc.2.2.1]
    exact (turn_both hc.1 hc.2.1).1
  · cases hs
def MTQ (q : Int) : SGT := (59, .p (sigTurnQ q)) :: MT2
theorem moTQ (q : Int) : SigsOK Try.prog (MTQ q) := sigs_cons moT2 sigTurnQ_ok
def MTQ0 : SGT := MTQ 0
theorem moTQ0 : SigsOK Try.prog MTQ0 := moTQ 0
def MTQ1 : SGT := MTQ 1
theorem moTQ1 : SigsOK Try.prog MTQ1 := moTQ 1
def MTQ2 : SGT := MTQ 2
theorem moTQ2 : SigsOK Try.prog MTQ2 := moTQ 2
def MTQ3 : SGT := MTQ 3
theorem moTQ3 : SigsOK Try.prog MTQ3 := moTQ 3
end Go.Proofs.Mf

/- Functions of mathematics: walks, written by the tool. -/
set_option maxRecDepth 100000
namespace Go.Proofs.Mf
open Go Go.Ev

-- 3 paths
theorem sinQ0_1 (x : Nat) (h : AllP [lost x = true]) : PureTo Try.prog 21 [.v (.float .f64 x)] (AV.v (.float FloatKind.f64 9221120237041090560)) :=
  evFn_pure hm moTQ0 (fn := Try.f21) rfl rfl (ti := false) (hs := [CHint.ops 1 [(1, Hint.b true)]]) (c := _) (by kernel_rfl) h
theorem sinQ0_2 (x : Nat) (h : AllP [lost x = false, feq FloatKind.f64 x 0 = true]) : PureTo Try.prog 21 [.v (.float .f64 x)] (AV.v (.float FloatKind.f64 x)) :=
  evFn_pure hm moTQ0 (fn := Try.f21) rfl rfl (ti := false) (hs := [CHint.ops 1 [(1, Hint.b false)], CHint.ops 3 [(1, Hint.b true)]]) (c := _) (by kernel_rfl) h
theorem sinQ0_3 (x : Nat) (h : AllP [lost x = false, feq FloatKind.f64 x 0 = false, FWord x, Fit x, turnN (turnX x) = (0 : Int), (0 : Int) ≤ (0 : Int) ∧ (0 : Int) < (4 : Int)]) : PureTo Try.prog 21 [.v (.float .f64 x)] (AV.fl FloatKind.f64 (turnS (turnX x))) :=
  evFn_pure hm moTQ0 (fn := Try.f21) rfl rfl (ti := false) (hs := [CHint.ops 1 [(1, Hint.b false)], CHint.ops 3 [(1, Hint.b false)]]) (c := _) (by kernel_rfl) h
-- 3 paths
theorem sinQ1_1 (x : Nat) (h : AllP [lost x = true]) : PureTo Try.prog 21 [.v (.float .f64 x)] (AV.v (.float FloatKind.f64 9221120237041090560)) :=
  evFn_pure hm moTQ1 (fn := Try.f21) rfl rfl (ti := false) (hs := [CHint.ops 1 [(1, Hint.b true)]]) (c := _) (by kernel_rfl) h
theorem sinQ1_2 (x : Nat) (h : AllP [lost x = false, feq FloatKind.f64 x 0 = true]) : PureTo Try.prog 21 [.v (.float .f64 x)] (AV.v (.float FloatKind.f64 x)) :=
  evFn_pure hm moTQ1 (fn := Try.f21) rfl rfl (ti := false) (hs := [CHint.ops 1 [(1, Hint.b false)], CHint.ops 3 [(1, Hint.b true)]]) (c := _) (by kernel_rfl) h
theorem sinQ1_3 (x : Nat) (h : AllP [lost x = false, feq FloatKind.f64 x 0 = false, FWord x, Fit x, turnN (turnX x) = (1 : Int), (0 : Int) ≤ (1 : Int) ∧ (1 : Int) < (4 : Int)]) : PureTo Try.prog 21 [.v (.float .f64 x)] (AV.fl FloatKind.f64 (turnC (turnX x))) :=
  evFn_pure hm moTQ1 (fn := Try.f21) rfl rfl (ti := false) (hs := [CHint.ops 1 [(1, Hint.b false)], CHint.ops 3 [(1, Hint.b false)]]) (c := _) (by kernel_rfl) h
-- 3 paths
theorem sinQ2_1 (x : Nat) (h : AllP [lost x = true]) : PureTo Try.prog 21 [.v (.float .f64 x)] (AV.v (.float FloatKind.f64 9221120237041090560)) :=
  evFn_pure hm moTQ2 (fn := Try.f21) rfl rfl (ti := false) (hs := [CHint.ops 1 [(1, Hint.b true)]]) (c := _) (by kernel_rfl) h
theorem sinQ2_2 (x : Nat) (h : AllP [lost x = false, feq FloatKind.f64 x 0 = true]) : PureTo Try.prog 21 [.v (.float .f64 x)] (AV.v (.float FloatKind.f64 x)) :=
  evFn_pure hm moTQ2 (fn := Try.f21) rfl rfl (ti := false) (hs := [CHint.ops 1 [(1, Hint.b false)], CHint.ops 3 [(1, Hint.b true)]]) (c := _) (by kernel_rfl) h
theorem sinQ2_3 (x : Nat) (h : AllP [lost x = false, feq FloatKind.f64 x 0 = false, FWord x, Fit x, turnN (turnX x) = (2 : Int), (0 : Int) ≤ (2 : Int) ∧ (2 : Int) < (4 : Int)]) : PureTo Try.prog 21 [.v (.float .f64 x)] (AV.fl FloatKind.f64 (fneg (turnS (turnX x)))) :=
  evFn_pure hm moTQ2 (fn := Try.f21) rfl rfl (ti := false) (hs := [CHint.ops 1 [(1, Hint.b false)], CHint.ops 3 [(1, Hint.b false)]]) (c := _) (by kernel_rfl) h
-- 3 paths
theorem sinQ3_1 (x : Nat) (h : AllP [lost x = true]) : PureTo Try.prog 21 [.v (.float .f64 x)] (AV.v (.float FloatKind.f64 9221120237041090560)) :=
  evFn_pure hm moTQ3 (fn := Try.f21) rfl rfl (ti := false) (hs := [CHint.ops 1 [(1, Hint.b true)]]) (c := _) (by kernel_rfl) h
theorem sinQ3_2 (x : Nat) (h : AllP [lost x = false, feq FloatKind.f64 x 0 = true]) : PureTo Try.prog 21 [.v (.float .f64 x)] (AV.v (.float FloatKind.f64 x)) :=
  evFn_pure hm moTQ3 (fn := Try.f21) rfl rfl (ti := false) (hs := [CHint.ops 1 [(1, Hint.b false)], CHint.ops 3 [(1, Hint.b true)]]) (c := _) (by kernel_rfl) h
theorem sinQ3_3 (x : Nat) (h : AllP [lost x = false, feq FloatKind.f64 x 0 = false, FWord x, Fit x, turnN (turnX x) = (3 : Int), (0 : Int) ≤ (3 : Int) ∧ (3 : Int) < (4 : Int)]) : PureTo Try.prog 21 [.v (.float .f64 x)] (AV.fl FloatKind.f64 (fneg (turnC (turnX x)))) :=
  evFn_pure hm moTQ3 (fn := Try.f21) rfl rfl (ti := false) (hs := [CHint.ops 1 [(1, Hint.b false)], CHint.ops 3 [(1, Hint.b false)]]) (c := _) (by kernel_rfl) h
-- 6 paths
theorem rsin1 (x : Nat) (h : AllP [finite x = true, feq FloatKind.f64 x 0 = true]) : PureTo Try.prog 22 [.v (.float .f64 x)] (AV.v (.float FloatKind.f64 x)) :=
  evFn_pure hm moT2 (fn := Try.f22) rfl rfl (ti := false) (hs := [CHint.ops 1 [(1, Hint.b true)], CHint.ops 3 [(1, Hint.b true)]]) (c := _) (by kernel_rfl) h
theorem rsin2 (x : Nat) (h : AllP [finite x = true, feq FloatKind.f64 x 0 = false, FWord x, Fit x, (turnN (turnX x) == (0 : Int)) = true]) : PureTo Try.prog 22 [.v (.float .f64 x)] (AV.fl FloatKind.f64 (turnS (turnX x))) :=
  evFn_pure hm moT2 (fn := Try.f22) rfl rfl (ti := false) (hs := [CHint.ops 1 [(1, Hint.b true)], CHint.ops 3 [(1, Hint.b false)], CHint.ops 7 [(0, Hint.b true)]]) (c := _) (by kernel_rfl) h
theorem rsin3 (x : Nat) (h : AllP [finite x = true, feq FloatKind.f64 x 0 = false, FWord x, Fit x, (turnN (turnX x) == (0 : Int)) = false, (turnN (turnX x) == (1 : Int)) = true]) : PureTo Try.prog 22 [.v (.float .f64 x)] (AV.fl FloatKind.f64 (turnC (turnX x))) :=
  evFn_pure hm moT2 (fn := Try.f22) rfl rfl (ti := false) (hs := [CHint.ops 1 [(1, Hint.b true)], CHint.ops 3 [(1, Hint.b false)], CHint.ops 7 [(0, Hint.b false)], CHint.ops 9 [(0, Hint.b true)]]) (c := _) (by kernel_rfl) h
theorem rsin4 (x : Nat) (h : AllP [finite x = true, feq FloatKind.f64 x 0 = false, FWord x, Fit x, (turnN (turnX x) == (0 : Int)) = false, (turnN (turnX x) == (1 : Int)) = false, (turnN (turnX x) == (2 : Int)) = true]) : PureTo Try.prog 22 [.v (.float .f64 x)] (AV.fl FloatKind.f64 (fneg (turnS (turnX x)))) :=
  evFn_pure hm moT2 (fn := Try.f22) rfl rfl (ti := false) (hs := [CHint.ops 1 [(1, Hint.b true)], CHint.ops 3 [(1, Hint.b false)], CHint.ops 7 [(0, Hint.b false)], CHint.ops 9 [(0, Hint.b false)], CHint.ops 11 [(0, Hint.b true)]]) (c := _) (by kernel_rfl) h
theorem rsin5 (x : Nat) (h : AllP [finite x = true, feq FloatKind.f64 x 0 = false, FWord x, Fit x, (turnN (turnX x) == (0 : Int)) = false, (turnN (turnX x) == (1 : Int)) = false, (turnN (turnX x) == (2 : Int)) = false]) : PureTo Try.prog 22 [.v (.float .f64 x)] (AV.fl FloatKind.f64 (fneg (turnC (turnX x)))) :=
  evFn_pure hm moT2 (fn := Try.f22) rfl rfl (ti := false) (hs := [CHint.ops 1 [(1, Hint.b true)], CHint.ops 3 [(1, Hint.b false)], CHint.ops 7 [(0, Hint.b false)], CHint.ops 9 [(0, Hint.b false)], CHint.ops 11 [(0, Hint.b false)]]) (c := _) (by kernel_rfl) h
theorem rsin6 (x : Nat) (h : AllP [finite x = false]) : PureTo Try.prog 22 [.v (.float .f64 x)] (AV.v (.float FloatKind.f64 9221120237041090560)) :=
  evFn_pure hm moT2 (fn := Try.f22) rfl rfl (ti := false) (hs := [CHint.ops 1 [(1, Hint.b false)]]) (c := _) (by kernel_rfl) h
-- 2 paths
theorem cosQ0_1 (x : Nat) (h : AllP [lost x = true]) : PureTo Try.prog 23 [.v (.float .f64 x)] (AV.v (.float FloatKind.f64 9221120237041090560)) :=
  evFn_pure hm moTQ0 (fn := Try.f23) rfl rfl (ti := false) (hs := [CHint.ops 1 [(1, Hint.b true)]]) (c := _) (by kernel_rfl) h
theorem cosQ0_2 (x : Nat) (h : AllP [lost x = false, FWord x, Fit x, turnN (turnX x) = (0 : Int), (0 : Int) ≤ (0 : Int) ∧ (0 : Int) < (4 : Int)]) : PureTo Try.prog 23 [.v (.float .f64 x)] (AV.fl FloatKind.f64 (turnC (turnX x))) :=
  evFn_pure hm moTQ0 (fn := Try.f23) rfl rfl (ti := false) (hs := [CHint.ops 1 [(1, Hint.b false)]]) (c := _) (by kernel_rfl) h
-- 2 paths
theorem cosQ1_1 (x : Nat) (h : AllP [lost x = true]) : PureTo Try.prog 23 [.v (.float .f64 x)] (AV.v (.float FloatKind.f64 9221120237041090560)) :=
  evFn_pure hm moTQ1 (fn := Try.f23) rfl rfl (ti := false) (hs := [CHint.ops 1 [(1, Hint.b true)]]) (c := _) (by kernel_rfl) h
theorem cosQ1_2 (x : Nat) (h : AllP [lost x = false, FWord x, Fit x, turnN (turnX x) = (1 : Int), (0 : Int) ≤ (1 : Int) ∧ (1 : Int) < (4 : Int)]) : PureTo Try.prog 23 [.v (.float .f64 x)] (AV.fl FloatKind.f64 (fneg (turnS (turnX x)))) :=
  evFn_pure hm moTQ1 (fn := Try.f23) rfl rfl (ti := false) (hs := [CHint.ops 1 [(1, Hint.b false)]]) (c := _) (by kernel_rfl) h
-- 2 paths
theorem cosQ2_1 (x : Nat) (h : AllP [lost x = true]) : PureTo Try.prog 23 [.v (.float .f64 x)] (AV.v (.float FloatKind.f64 9221120237041090560)) :=
  evFn_pure hm moTQ2 (fn := Try.f23) rfl rfl (ti := false) (hs := [CHint.ops 1 [(1, Hint.b true)]]) (c := _) (by kernel_rfl) h
theorem cosQ2_2 (x : Nat) (h : AllP [lost x = false, FWord x, Fit x, turnN (turnX x) = (2 : Int), (0 : Int) ≤ (2 : Int) ∧ (2 : Int) < (4 : Int)]) : PureTo Try.prog 23 [.v (.float .f64 x)] (AV.fl FloatKind.f64 (fneg (turnC (turnX x)))) :=
  evFn_pure hm moTQ2 (fn := Try.f23) rfl rfl (ti := false) (hs := [CHint.ops 1 [(1, Hint.b false)]]) (c := _) (by kernel_rfl) h
-- 2 paths
theorem cosQ3_1 (x : Nat) (h : AllP [lost x = true]) : PureTo Try.prog 23 [.v (.float .f64 x)] (AV.v (.float FloatKind.f64 9221120237041090560)) :=
  evFn_pure hm moTQ3 (fn := Try.f23) rfl rfl (ti := false) (hs := [CHint.ops 1 [(1, Hint.b true)]]) (c := _) (by kernel_rfl) h
theorem cosQ3_2 (x : Nat) (h : AllP [lost x = false, FWord x, Fit x, turnN (turnX x) = (3 : Int), (0 : Int) ≤ (3 : Int) ∧ (3 : Int) < (4 : Int)]) : PureTo Try.prog 23 [.v (.float .f64 x)] (AV.fl FloatKind.f64 (turnS (turnX x))) :=
  evFn_pure hm moTQ3 (fn := Try.f23) rfl rfl (ti := false) (hs := [CHint.ops 1 [(1, Hint.b false)]]) (c := _) (by kernel_rfl) h
-- 5 paths
theorem rcos1 (x : Nat) (h : AllP [finite x = true, FWord x, Fit x, (turnN (turnX x) == (0 : Int)) = true]) : PureTo Try.prog 24 [.v (.float .f64 x)] (AV.fl FloatKind.f64 (turnC (turnX x))) :=
  evFn_pure hm moT2 (fn := Try.f24) rfl rfl (ti := false) (hs := [CHint.ops 1 [(1, Hint.b true)], CHint.ops 5 [(0, Hint.b true)]]) (c := _) (by kernel_rfl) h
theorem rcos2 (x : Nat) (h : AllP [finite x = true, FWord x, Fit x, (turnN (turnX x) == (0 : Int)) = false, (turnN (turnX x) == (1 : Int)) = true]) : PureTo Try.prog 24 [.v (.float .f64 x)] (AV.fl FloatKind.f64 (fneg (turnS (turnX x)))) :=
  evFn_pure hm moT2 (fn := Try.f24) rfl rfl (ti := false) (hs := [CHint.ops 1 [(1, Hint.b true)], CHint.ops 5 [(0, Hint.b false)], CHint.ops 7 [(0, Hint.b true)]]) (c := _) (by kernel_rfl) h
theorem rcos3 (x : Nat) (h : AllP [finite x = true, FWord x, Fit x, (turnN (turnX x) == (0 : Int)) = false, (turnN (turnX x) == (1 : Int)) = false, (turnN (turnX x) == (2 : Int)) = true]) : PureTo Try.prog 24 [.v (.float .f64 x)] (AV.fl FloatKind.f64 (fneg (turnC (turnX x)))) :=
  evFn_pure hm moT2 (fn := Try.f24) rfl rfl (ti := false) (hs := [CHint.ops 1 [(1, Hint.b true)], CHint.ops 5 [(0, Hint.b false)], CHint.ops 7 [(0, Hint.b false)], CHint.ops 9 [(0, Hint.b true)]]) (c := _) (by kernel_rfl) h
theorem rcos4 (x : Nat) (h : AllP [finite x = true, FWord x, Fit x, (turnN (turnX x) == (0 : Int)) = false, (turnN (turnX x) == (1 : Int)) = false, (turnN (turnX x) == (2 : Int)) = false]) : PureTo Try.prog 24 [.v (.float .f64 x)] (AV.fl FloatKind.f64 (turnS (turnX x))) :=
  evFn_pure hm moT2 (fn := Try.f24) rfl rfl (ti := false) (hs := [CHint.ops 1 [(1, Hint.b true)], CHint.ops 5 [(0, Hint.b false)], CHint.ops 7 [(0, Hint.b false)], CHint.ops 9 [(0, Hint.b false)]]) (c := _) (by kernel_rfl) h
theorem rcos5 (x : Nat) (h : AllP [finite x = false]) : PureTo Try.prog 24 [.v (.float .f64 x)] (AV.v (.float FloatKind.f64 9221120237041090560)) :=
  evFn_pure hm moT2 (fn := Try.f24) rfl rfl (ti := false) (hs := [CHint.ops 1 [(1, Hint.b false)]]) (c := _) (by kernel_rfl) h
-- 4 paths
theorem tan1 (x : Nat) (h : AllP [lost x = true]) : PureTo Try.prog 25 [.v (.float .f64 x)] (AV.v (.float FloatKind.f64 9221120237041090560)) :=
  evFn_pure hm moT2 (fn := Try.f25) rfl rfl (ti := false) (hs := [CHint.ops 1 [(1, Hint.b true)]]) (c := _) (by kernel_rfl) h
theorem tan2 (x : Nat) (h : AllP [lost x = false, feq FloatKind.f64 x 0 = true]) : PureTo Try.prog 25 [.v (.float .f64 x)] (AV.v (.float FloatKind.f64 x)) :=
  evFn_pure hm moT2 (fn := Try.f25) rfl rfl (ti := false) (hs := [CHint.ops 1 [(1, Hint.b false)], CHint.ops 3 [(1, Hint.b true)]]) (c := _) (by kernel_rfl) h
theorem tan3 (x : Nat) (h : AllP [lost x = false, feq FloatKind.f64 x 0 = false, FWord x, Fit x, (2 : Int) ≠ (0 : Int), ((turnN (turnX x)).tmod (2 : Int) == (0 : Int)) = true]) : PureTo Try.prog 25 [.v (.float .f64 x)] (AV.fl FloatKind.f64 (fdiv (turnS (turnX x)) (turnC (turnX x)))) :=
  evFn_pure hm moT2 (fn := Try.f25) rfl rfl (ti := false) (hs := [CHint.ops 1 [(1, Hint.b false)], CHint.ops 3 [(1, Hint.b false)], CHint.ops 6 [(2, Hint.b true)]]) (c := _) (by kernel_rfl) h
theorem tan4 (x : Nat) (h : AllP [lost x = false, feq FloatKind.f64 x 0 = false, FWord x, Fit x, (2 : Int) ≠ (0 : Int), ((turnN (turnX x)).tmod (2 : Int) == (0 : Int)) = false]) : PureTo Try.prog 25 [.v (.float .f64 x)] (AV.fl FloatKind.f64 (fdiv (fneg (turnC (turnX x))) (turnS (turnX x)))) :=
  evFn_pure hm moT2 (fn := Try.f25) rfl rfl (ti := false) (hs := [CHint.ops 1 [(1, Hint.b false)], CHint.ops 3 [(1, Hint.b false)], CHint.ops 6 [(2, Hint.b false)]]) (c := _) (by kernel_rfl) h
-- 4 paths
theorem rtan1 (x : Nat) (h : AllP [finite x = true, feq FloatKind.f64 x 0 = true]) : PureTo Try.prog 26 [.v (.float .f64 x)] (AV.v (.float FloatKind.f64 x)) :=
  evFn_pure hm moT2 (fn := Try.f26) rfl rfl (ti := false) (hs := [CHint.ops 1 [(1, Hint.b true)], CHint.ops 3 [(1, Hint.b true)]]) (c := _) (by kernel_rfl) h
theorem rtan2 (x : Nat) (h : AllP [finite x = true, feq FloatKind.f64 x 0 = false, FWord x, Fit x, (2 : Int) ≠ (0 : Int), ((turnN (turnX x)).tmod (2 : Int) == (0 : Int)) = true]) : PureTo Try.prog 26 [.v (.float .f64 x)] (AV.fl FloatKind.f64 (fdiv (turnS (turnX x)) (turnC (turnX x)))) :=
  evFn_pure hm moT2 (fn := Try.f26) rfl rfl (ti := false) (hs := [CHint.ops 1 [(1, Hint.b true)], CHint.ops 3 [(1, Hint.b false)], CHint.ops 6 [(2, Hint.b true)]]) (c := _) (by kernel_rfl) h
theorem rtan3 (x : Nat) (h : AllP [finite x = true, feq FloatKind.f64 x 0 = false, FWord x, Fit x, (2 : Int) ≠ (0 : Int), ((turnN (turnX x)).tmod (2 : Int) == (0 : Int)) = false]) : PureTo Try.prog 26 [.v (.float .f64 x)] (AV.fl FloatKind.f64 (fdiv (fneg (turnC (turnX x))) (turnS (turnX x)))) :=
  evFn_pure hm moT2 (fn := Try.f26) rfl rfl (ti := false) (hs := [CHint.ops 1 [(1, Hint.b true)], CHint.ops 3 [(1, Hint.b false)], CHint.ops 6 [(2, Hint.b false)]]) (c := _) (by kernel_rfl) h
theorem rtan4 (x : Nat) (h : AllP [finite x = false]) : PureTo Try.prog 26 [.v (.float .f64 x)] (AV.v (.float FloatKind.f64 9221120237041090560)) :=
  evFn_pure hm moT2 (fn := Try.f26) rfl rfl (ti := false) (hs := [CHint.ops 1 [(1, Hint.b false)]]) (c := _) (by kernel_rfl) h
-- 22 paths
theorem angleT1 (y x : Nat) (h : AllP [(0 : Int) ≤ (4614256656552045848 : Int), feq FloatKind.f64 y 0 = true]) : PureTo Try.prog 54 [.fl .f64 y, .fl .f64 x, .v (.bool true)] (AV.v (.float FloatKind.f64 4614256656552045848)) :=
  evFn_pure hm moT2 (fn := Try.f54) rfl rfl (ti := false) (hs := [CHint.ops 2 [(1, Hint.b true)]]) (c := _) (by kernel_rfl) h
theorem angleT3 (y x : Nat) (h : AllP [(0 : Int) ≤ (4614256656552045848 : Int), feq FloatKind.f64 y 0 = false, feq FloatKind.f64 y 0 = false, feq FloatKind.f64 x 0 = true, (0 : Int) ≤ (4609753056924675352 : Int)]) : PureTo Try.prog 54 [.fl .f64 y, .fl .f64 x, .v (.bool true)] (AV.v (.float FloatKind.f64 4609753056924675352)) :=
  evFn_pure hm moT2 (fn := Try.f54) rfl rfl (ti := false) (hs := [CHint.ops 2 [(1, Hint.b false)], CHint.ops 4 [(1, Hint.b false)], CHint.ops 6 [(1, Hint.b true)]]) (c := _) (by kernel_rfl) h
theorem angleT4 (y x : Nat) (h : AllP [(0 : Int) ≤ (4614256656552045848 : Int), feq FloatKind.f64 y 0 = false, feq FloatKind.f64 y 0 = false, feq FloatKind.f64 x 0 = false, isInf y (1 : Int) = true, isInf x (1 : Int) = true, (0 : Int) ≤ (4612488097114038738 : Int)]) : PureTo Try.prog 54 [.fl .f64 y, .fl .f64 x, .v (.bool true)] (AV.v (.float FloatKind.f64 4612488097114038738)) :=
  evFn_pure hm moT2 (fn := Try.f54) rfl rfl (ti := false) (hs := [CHint.ops 2 [(1, Hint.b false)], CHint.ops 4 [(1, Hint.b false)], CHint.ops 6 [(1, Hint.b false)], CHint.ops 8 [(1, Hint.b true), (4, Hint.b true)]]) (c := _) (by kernel_rfl) h
theorem angleT6 (y x : Nat) (h : AllP [(0 : Int) ≤ (4614256656552045848 : Int), feq FloatKind.f64 y 0 = false, feq FloatKind.f64 y 0 = false, feq FloatKind.f64 x 0 = false, isInf y (1 : Int) = true, isInf x (1 : Int) = false, isInf y (1 : Int) = true, isInf x (1 : Int) = false, isInf y (1 : Int) = true, (0 : Int) ≤ (4609753056924675352 : Int)]) : PureTo Try.prog 54 [.fl .f64 y, .fl .f64 x, .v (.bool true)] (AV.v (.float FloatKind.f64 4609753056924675352)) :=
  evFn_pure hm moT2 (fn := Try.f54) rfl rfl (ti := false) (hs := [CHint.ops 2 [(1, Hint.b false)], CHint.ops 4 [(1, Hint.b false)], CHint.ops 6 [(1, Hint.b false)], CHint.ops 8 [(1, Hint.b true), (4, Hint.b false)], CHint.ops 10 [(1, Hint.b true), (4, Hint.b false)], CHint.ops 12 [(1, Hint.b true)]]) (c := _) (by kernel_rfl) h
theorem angleT20 (y x : Nat) (h : AllP [(0 : Int) ≤ (4614256656552045848 : Int), feq FloatKind.f64 y 0 = false, feq FloatKind.f64 y 0 = false, feq FloatKind.f64 x 0 = false, isInf y (1 : Int) = false, isInf y (1 : Int) = false, isInf y (1 : Int) = false, isInf x (1 : Int) = true]) : PureTo Try.prog 54 [.fl .f64 y, .fl .f64 x, .v (.bool true)] (AV.v (.float FloatKind.f64 4614256656552045848)) :=
  evFn_pure hm moT2 (fn := Try.f54) rfl rfl (ti := false) (hs := [CHint.ops 2 [(1, Hint.b false)], CHint.ops 4 [(1, Hint.b false)], CHint.ops 6 [(1, Hint.b false)], CHint.ops 8 [(1, Hint.b false)], CHint.ops 10 [(1, Hint.b false)], CHint.ops 12 [(1, Hint.b false)], CHint.ops 14 [(1, Hint.b true)]]) (c := _) (by kernel_rfl) h
theorem angleT22 (y x : Nat) (h : AllP [(0 : Int) ≤ (4614256656552045848 : Int), feq FloatKind.f64 y 0 = false, feq FloatKind.f64 y 0 = false, feq FloatKind.f64 x 0 = false, isInf y (1 : Int) = false, isInf y (1 : Int) = false, isInf y (1 : Int) = false, isInf x (1 : Int) = false, isInf x (1 : Int) = false, FWord (fdiv y x)]) : PureTo Try.prog 54 [.fl .f64 y, .fl .f64 x, .v (.bool true)] (AV.fl FloatKind.f64 (fsub 4614256656552045848 (atanW (fdiv y x)))) :=
  evFn_pure hm moT2 (fn := Try.f54) rfl rfl (ti := false) (hs := [CHint.ops 2 [(1, Hint.b false)], CHint.ops 4 [(1, Hint.b false)], CHint.ops 6 [(1, Hint.b false)], CHint.ops 8 [(1, Hint.b false)], CHint.ops 10 [(1, Hint.b false)], CHint.ops 12 [(1, Hint.b false)], CHint.ops 14 [(1, Hint.b false)], CHint.ops 16 [(1, Hint.b false)]]) (c := _) (by kernel_rfl) h
-- 70 paths
theorem angleF1 (y x : Nat) (h : AllP [(0 : Int) ≤ (4614256656552045848 : Int), feq FloatKind.f64 y 0 = true, feq FloatKind.f64 y 0 = true]) : PureTo Try.prog 54 [.fl .f64 y, .fl .f64 x, .v (.bool false)] (AV.v (.float FloatKind.f64 0)) :=
  evFn_pure hm moT2 (fn := Try.f54) rfl rfl (ti := false) (hs := [CHint.ops 2 [(1, Hint.b true)], CHint.ops 4 [(1, Hint.b true)]]) (c := _) (by kernel_rfl) h
theorem angleF37 (y x : Nat) (h : AllP [(0 : Int) ≤ (4614256656552045848 : Int), feq FloatKind.f64 y 0 = false, feq FloatKind.f64 y 0 = false, feq FloatKind.f64 x 0 = true, (0 : Int) ≤ (4609753056924675352 : Int)]) : PureTo Try.prog 54 [.fl .f64 y, .fl .f64 x, .v (.bool false)] (AV.v (.float FloatKind.f64 4609753056924675352)) :=
  evFn_pure hm moT2 (fn := Try.f54) rfl rfl (ti := false) (hs := [CHint.ops 2 [(1, Hint.b false)], CHint.ops 4 [(1, Hint.b false)], CHint.ops 6 [(1, Hint.b true)]]) (c := _) (by kernel_rfl) h
theorem angleF38 (y x : Nat) (h : AllP [(0 : Int) ≤ (4614256656552045848 : Int), feq FloatKind.f64 y 0 = false, feq FloatKind.f64 y 0 = false, feq FloatKind.f64 x 0 = false, isInf y (1 : Int) = true, isInf x (1 : Int) = true, isInf y (1 : Int) = true, isInf x (1 : Int) = true, (0 : Int) ≤ (4605249457297304856 : Int)]) : PureTo Try.prog 54 [.fl .f64 y, .fl .f64 x, .v (.bool false)] (AV.v (.float FloatKind.f64 4605249457297304856)) :=
  evFn_pure hm moT2 (fn := Try.f54) rfl rfl (ti := false) (hs := [CHint.ops 2 [(1, Hint.b false)], CHint.ops 4 [(1, Hint.b false)], CHint.ops 6 [(1, Hint.b false)], CHint.ops 8 [(1, Hint.b true), (4, Hint.b true)], CHint.ops 10 [(1, Hint.b true), (4, Hint.b true)]]) (c := _) (by kernel_rfl) h
theorem angleF50 (y x : Nat) (h : AllP [(0 : Int) ≤ (4614256656552045848 : Int), feq FloatKind.f64 y 0 = false, feq FloatKind.f64 y 0 = false, feq FloatKind.f64 x 0 = false, isInf y (1 : Int) = true, isInf x (1 : Int) = false, isInf y (1 : Int) = true, isInf x (1 : Int) = false, isInf y (1 : Int) = true, (0 : Int) ≤ (4609753056924675352 : Int)]) : PureTo Try.prog 54 [.fl .f64 y, .fl .f64 x, .v (.bool false)] (AV.v (.float FloatKind.f64 4609753056924675352)) :=
  evFn_pure hm moT2 (fn := Try.f54) rfl rfl (ti := false) (hs := [CHint.ops 2 [(1, Hint.b false)], CHint.ops 4 [(1, Hint.b false)], CHint.ops 6 [(1, Hint.b false)], CHint.ops 8 [(1, Hint.b true), (4, Hint.b false)], CHint.ops 10 [(1, Hint.b true), (4, Hint.b false)], CHint.ops 12 [(1, Hint.b true)]]) (c := _) (by kernel_rfl) h
theorem angleF67 (y x : Nat) (h : AllP [(0 : Int) ≤ (4614256656552045848 : Int), feq FloatKind.f64 y 0 = false, feq FloatKind.f64 y 0 = false, feq FloatKind.f64 x 0 = false, isInf y (1 : Int) = false, isInf y (1 : Int) = false, isInf y (1 : Int) = false, isInf x (1 : Int) = true, isInf x (1 : Int) = true]) : PureTo Try.prog 54 [.fl .f64 y, .fl .f64 x, .v (.bool false)] (AV.v (.float FloatKind.f64 0)) :=
  evFn_pure hm moT2 (fn := Try.f54) rfl rfl (ti := false) (hs := [CHint.ops 2 [(1, Hint.b false)], CHint.ops 4 [(1, Hint.b false)], CHint.ops 6 [(1, Hint.b false)], CHint.ops 8 [(1, Hint.b false)], CHint.ops 10 [(1, Hint.b false)], CHint.ops 12 [(1, Hint.b false)], CHint.ops 14 [(1, Hint.b true)], CHint.ops 16 [(1, Hint.b true)]]) (c := _) (by kernel_rfl) h
theorem angleF70 (y x : Nat) (h : AllP [(0 : Int) ≤ (4614256656552045848 : Int), feq FloatKind.f64 y 0 = false, feq FloatKind.f64 y 0 = false, feq FloatKind.f64 x 0 = false, isInf y (1 : Int) = false, isInf y (1 : Int) = false, isInf y (1 : Int) = false, isInf x (1 : Int) = false, isInf x (1 : Int) = false, FWord (fdiv y x)]) : PureTo Try.prog 54 [.fl .f64 y, .fl .f64 x, .v (.bool false)] (AV.v (.float FloatKind.f64 (atanW (fdiv y x)))) :=
  evFn_pure hm moT2 (fn := Try.f54) rfl rfl (ti := false) (hs := [CHint.ops 2 [(1, Hint.b false)], CHint.ops 4 [(1, Hint.b false)], CHint.ops 6 [(1, Hint.b false)], CHint.ops 8 [(1, Hint.b false)], CHint.ops 10 [(1, Hint.b false)], CHint.ops 12 [(1, Hint.b false)], CHint.ops 14 [(1, Hint.b false)], CHint.ops 16 [(1, Hint.b false)]]) (c := _) (by kernel_rfl) h
-- 20 paths
theorem ratanT1 (y x : Nat) (h : AllP [isNaN x = true]) : PureTo Try.prog 20 [.fl .f64 y, .fl .f64 x] (AV.v (.float FloatKind.f64 9221120237041090560)) :=
  evFn_pure hm moT2 (fn := Try.f20) rfl rfl (ti := false) (hs := [CHint.ops 1 [(1, Hint.b true)]]) (c := _) (by kernel_rfl) h
theorem ratanT2 (y x : Nat) (h : AllP [isNaN x = false, isNaN y = true]) : PureTo Try.prog 20 [.fl .f64 y, .fl .f64 x] (AV.v (.float FloatKind.f64 9221120237041090560)) :=
  evFn_pure hm moT2 (fn := Try.f20) rfl rfl (ti := false) (hs := [CHint.ops 1 [(1, Hint.b false), (4, Hint.b true)]]) (c := _) (by kernel_rfl) h
theorem ratanT3 (y x : Nat) (h : AllP [isNaN x = false, isNaN y = false, sgn x = true, ¬nanB FloatKind.f64 x, feq FloatKind.f64 y 0 = true, ¬nanB FloatKind.f64 y]) : PureTo Try.prog 20 [.fl .f64 y, .fl .f64 x] (AV.v (.float FloatKind.f64 (cs 4614256656552045848 y))) :=
  evFn_pure hm moT2 (fn := Try.f20) rfl rfl (ti := false) (hs := [CHint.ops 1 [(1, Hint.b false), (4, Hint.b false)], CHint.ops 3 [(1, Hint.b true)], CHint.ops 8 [(1, Hint.b true)]]) (c := _) (by kernel_rfl) h
theorem ratanT4 (y x : Nat) (h : AllP [isNaN x = false, isNaN y = false, sgn x = true, ¬nanB FloatKind.f64 x, feq FloatKind.f64 y 0 = false, feq FloatKind.f64 x 0 = true, ¬nanB FloatKind.f64 y]) : PureTo Try.prog 20 [.fl .f64 y, .fl .f64 x] (AV.v (.float FloatKind.f64 (cs 4609753056924675352 y))) :=
  evFn_pure hm moT2 (fn := Try.f20) rfl rfl (ti := false) (hs := [CHint.ops 1 [(1, Hint.b false), (4, Hint.b false)], CHint.ops 3 [(1, Hint.b true)], CHint.ops 8 [(1, Hint.b false)], CHint.ops 11 [(1, Hint.b true)]]) (c := _) (by kernel_rfl) h
theorem ratanT5 (y x : Nat) (h : AllP [isNaN x = false, isNaN y = false, sgn x = true, ¬nanB FloatKind.f64 x, feq FloatKind.f64 y 0 = false, feq FloatKind.f64 x 0 = false, isInf x (0 : Int) = true, isInf y (0 : Int) = true, (0 : Int) ≤ (4612488097114038738 : Int), ¬nanB FloatKind.f64 y]) : PureTo Try.prog 20 [.fl .f64 y, .fl .f64 x] (AV.v (.float FloatKind.f64 (cs 4612488097114038738 y))) :=
  evFn_pure hm moT2 (fn := Try.f20) rfl rfl (ti := false) (hs := [CHint.ops 1 [(1, Hint.b false), (4, Hint.b false)], CHint.ops 3 [(1, Hint.b true)], CHint.ops 8 [(1, Hint.b false)], CHint.ops 11 [(1, Hint.b false)], CHint.ops 13 [(1, Hint.b true), (4, Hint.b true)]]) (c := _) (by kernel_rfl) h
theorem ratanT7 (y x : Nat) (h : AllP [isNaN x = false, isNaN y = false, sgn x = true, ¬nanB FloatKind.f64 x, feq FloatKind.f64 y 0 = false, feq FloatKind.f64 x 0 = false, isInf x (0 : Int) = true, isInf y (0 : Int) = false, isInf y (0 : Int) = false, isInf x (0 : Int) = true, ¬nanB FloatKind.f64 y]) : PureTo Try.prog 20 [.fl .f64 y, .fl .f64 x] (AV.v (.float FloatKind.f64 (cs 4614256656552045848 y))) :=
  evFn_pure hm moT2 (fn := Try.f20) rfl rfl (ti := false) (hs := [CHint.ops 1 [(1, Hint.b false), (4, Hint.b false)], CHint.ops 3 [(1, Hint.b true)], CHint.ops 8 [(1, Hint.b false)], CHint.ops 11 [(1, Hint.b false)], CHint.ops 13 [(1, Hint.b true), (4, Hint.b false)], CHint.ops 17 [(1, Hint.b false)], CHint.ops 19 [(1, Hint.b true)]]) (c := _) (by kernel_rfl) h
theorem ratanT9 (y x : Nat) (h : AllP [isNaN x = false, isNaN y = false, sgn x = true, ¬nanB FloatKind.f64 x, feq FloatKind.f64 y 0 = false, feq FloatKind.f64 x 0 = false, isInf x (0 : Int) = false, isInf y (0 : Int) = true, ¬nanB FloatKind.f64 y]) : PureTo Try.prog 20 [.fl .f64 y, .fl .f64 x] (AV.v (.float FloatKind.f64 (cs 4609753056924675352 y))) :=
  evFn_pure hm moT2 (fn := Try.f20) rfl rfl (ti := false) (hs := [CHint.ops 1 [(1, Hint.b false), (4, Hint.b false)], CHint.ops 3 [(1, Hint.b true)], CHint.ops 8 [(1, Hint.b false)], CHint.ops 11 [(1, Hint.b false)], CHint.ops 13 [(1, Hint.b false)], CHint.ops 17 [(1, Hint.b true)]]) (c := _) (by kernel_rfl) h
theorem ratanT11 (y x : Nat) (h : AllP [isNaN x = false, isNaN y = false, sgn x = true, ¬nanB FloatKind.f64 x, feq FloatKind.f64 y 0 = false, feq FloatKind.f64 x 0 = false, isInf x (0 : Int) = false, isInf y (0 : Int) = false, isInf x (0 : Int) = false, FWord (fdiv (abs y) (abs x)), ¬nanB FloatKind.f64 y]) : PureTo Try.prog 20 [.fl .f64 y, .fl .f64 x] (AV.fl FloatKind.f64 (cs (fsub 4614256656552045848 (atanW (fdiv (abs y) (abs x)))) y)) :=
  evFn_pure hm moT2 (fn := Try.f20) rfl rfl (ti := false) (hs := [CHint.ops 1 [(1, Hint.b false), (4, Hint.b false)], CHint.ops 3 [(1, Hint.b true)], CHint.ops 8 [(1, Hint.b false)], CHint.ops 11 [(1, Hint.b false)], CHint.ops 13 [(1, Hint.b false)], CHint.ops 17 [(1, Hint.b false)], CHint.ops 19 [(1, Hint.b false)]]) (c := _) (by kernel_rfl) h
theorem ratanT12 (y x : Nat) (h : AllP [isNaN x = false, isNaN y = false, sgn x = false, ¬nanB FloatKind.f64 x, feq FloatKind.f64 y 0 = true, ¬nanB FloatKind.f64 y]) : PureTo Try.prog 20 [.fl .f64 y, .fl .f64 x] (AV.v (.float FloatKind.f64 (cs 0 y))) :=
  evFn_pure hm moT2 (fn := Try.f20) rfl rfl (ti := false) (hs := [CHint.ops 1 [(1, Hint.b false), (4, Hint.b false)], CHint.ops 3 [(1, Hint.b false)], CHint.ops 8 [(1, Hint.b true)]]) (c := _) (by kernel_rfl) h
theorem ratanT13 (y x : Nat) (h : AllP [isNaN x = false, isNaN y = false, sgn x = false, ¬nanB FloatKind.f64 x, feq FloatKind.f64 y 0 = false, feq FloatKind.f64 x 0 = true, ¬nanB FloatKind.f64 y]) : PureTo Try.prog 20 [.fl .f64 y, .fl .f64 x] (AV.v (.float FloatKind.f64 (cs 4609753056924675352 y))) :=
  evFn_pure hm moT2 (fn := Try.f20) rfl rfl (ti := false) (hs := [CHint.ops 1 [(1, Hint.b false), (4, Hint.b false)], CHint.ops 3 [(1, Hint.b false)], CHint.ops 8 [(1, Hint.b false)], CHint.ops 11 [(1, Hint.b true)]]) (c := _) (by kernel_rfl) h
theorem ratanT14 (y x : Nat) (h : AllP [isNaN x = false, isNaN y = false, sgn x = false, ¬nanB FloatKind.f64 x, feq FloatKind.f64 y 0 = false, feq FloatKind.f64 x 0 = false, isInf x (0 : Int) = true, isInf y (0 : Int) = true, ¬nanB FloatKind.f64 y]) : PureTo Try.prog 20 [.fl .f64 y, .fl .f64 x] (AV.v (.float FloatKind.f64 (cs 4605249457297304856 y))) :=
  evFn_pure hm moT2 (fn := Try.f20) rfl rfl (ti := false) (hs := [CHint.ops 1 [(1, Hint.b false), (4, Hint.b false)], CHint.ops 3 [(1, Hint.b false)], CHint.ops 8 [(1, Hint.b false)], CHint.ops 11 [(1, Hint.b false)], CHint.ops 13 [(1, Hint.b true), (4, Hint.b true)]]) (c := _) (by kernel_rfl) h
theorem ratanT16 (y x : Nat) (h : AllP [isNaN x = false, isNaN y = false, sgn x = false, ¬nanB FloatKind.f64 x, feq FloatKind.f64 y 0 = false, feq FloatKind.f64 x 0 = false, isInf x (0 : Int) = true, isInf y (0 : Int) = false, isInf y (0 : Int) = false, isInf x (0 : Int) = true, ¬nanB FloatKind.f64 y]) : PureTo Try.prog 20 [.fl .f64 y, .fl .f64 x] (AV.v (.float FloatKind.f64 (cs 0 y))) :=
  evFn_pure hm moT2 (fn := Try.f20) rfl rfl (ti := false) (hs := [CHint.ops 1 [(1, Hint.b false), (4, Hint.b false)], CHint.ops 3 [(1, Hint.b false)], CHint.ops 8 [(1, Hint.b false)], CHint.ops 11 [(1, Hint.b false)], CHint.ops 13 [(1, Hint.b true), (4, Hint.b false)], CHint.ops 17 [(1, Hint.b false)], CHint.ops 19 [(1, Hint.b true)]]) (c := _) (by kernel_rfl) h
theorem ratanT18 (y x : Nat) (h : AllP [isNaN x = false, isNaN y = false, sgn x = false, ¬nanB FloatKind.f64 x, feq FloatKind.f64 y 0 = false, feq FloatKind.f64 x 0 = false, isInf x (0 : Int) = false, isInf y (0 : Int) = true, ¬nanB FloatKind.f64 y]) : PureTo Try.prog 20 [.fl .f64 y, .fl .f64 x] (AV.v (.float FloatKind.f64 (cs 4609753056924675352 y))) :=
  evFn_pure hm moT2 (fn := Try.f20) rfl rfl (ti := false) (hs := [CHint.ops 1 [(1, Hint.b false), (4, Hint.b false)], CHint.ops 3 [(1, Hint.b false)], CHint.ops 8 [(1, Hint.b false)], CHint.ops 11 [(1, Hint.b false)], CHint.ops 13 [(1, Hint.b false)], CHint.ops 17 [(1, Hint.b true)]]) (c := _) (by kernel_rfl) h
theorem ratanT20 (y x : Nat) (h : AllP [isNaN x = false, isNaN y = false, sgn x = false, ¬nanB FloatKind.f64 x, feq FloatKind.f64 y 0 = false, feq FloatKind.f64 x 0 = false, isInf x (0 : Int) = false, isInf y (0 : Int) = false, isInf x (0 : Int) = false, FWord (fdiv (abs y) (abs x)), ¬nanB FloatKind.f64 y]) : PureTo Try.prog 20 [.fl .f64 y, .fl .f64 x] (AV.v (.float FloatKind.f64 (cs (atanW (fdiv (abs y) (abs x))) y))) :=
  evFn_pure hm moT2 (fn := Try.f20) rfl rfl (ti := false) (hs := [CHint.ops 1 [(1, Hint.b false), (4, Hint.b false)], CHint.ops 3 [(1, Hint.b false)], CHint.ops 8 [(1, Hint.b false)], CHint.ops 11 [(1, Hint.b false)], CHint.ops 13 [(1, Hint.b false)], CHint.ops 17 [(1, Hint.b false)], CHint.ops 19 [(1, Hint.b false)]]) (c := _) (by kernel_rfl) h
theorem pow_ev (x y : Nat) (h : AllP [(!isNaN y && (!feq FloatKind.f64 y 0 && (!isNaN x && !isInf y (0 : Int)))) = true → AllP [sgn x = true → AllP [FWord y], (!bif isInf x (0 : Int) then true else feq FloatKind.f64 x 0) = true → AllP [(!bif flt FloatKind.f64 x 0 then !feq FloatKind.f64 y (intW Ieee.Toward.zero y) else false) = true → AllP [(bif feq FloatKind.f64 y (intW Ieee.Toward.zero y) then flt FloatKind.f64 (abs y) 4652218415073722368 || feq FloatKind.f64 (abs y) 4652218415073722368 else false) = true → AllP [Mag y 19, Pz (abs x)], (!bif feq FloatKind.f64 y (intW Ieee.Toward.zero y) then flt FloatKind.f64 (abs y) 4652218415073722368 || feq FloatKind.f64 (abs y) 4652218415073722368 else false) = true → AllP [FWord (abs x), FWord (fmul y (logW (abs x)))]]]]]) : PureTo Try.prog 16 [.v (.float .f64 x), .v (.float .f64 y)] (AV.v (.float FloatKind.f64 (bif !isNaN y && (!feq FloatKind.f64 y 0 && (!isNaN x && !isInf y (0 : Int))) then bif (bif isInf x (0 : Int) then true else feq FloatKind.f64 x 0) || !bif flt FloatKind.f64 x 0 then !feq FloatKind.f64 y (intW Ieee.Toward.zero y) else false then bif !bif sgn x then oddB y else false then bif bif isInf x (0 : Int) then true else feq FloatKind.f64 x 0 then bif isInf x (0 : Int) == fgt FloatKind.f64 y 0 then inf (1 : Int) else 0 else bif bif feq FloatKind.f64 y (intW Ieee.Toward.zero y) then flt FloatKind.f64 (abs y) 4652218415073722368 || feq FloatKind.f64 (abs y) 4652218415073722368 else false then wholeW (abs x) y else expW (fmul y (logW (abs x))) else fneg (bif bif isInf x (0 : Int) then true else feq FloatKind.f64 x 0 then bif isInf x (0 : Int) == fgt FloatKind.f64 y 0 then inf (1 : Int) else 0 else bif bif feq FloatKind.f64 y (intW Ieee.Toward.zero y) then flt FloatKind.f64 (abs y) 4652218415073722368 || feq FloatKind.f64 (abs y) 4652218415073722368 else false then wholeW (abs x) y else expW (fmul y (logW (abs x)))) else qnan else bif isNaN y then qnan else bif feq FloatKind.f64 y 0 then 4607182418800017408 else bif isNaN x then qnan else endW x y))) :=
  evFnM_pure hm moT2 (fn := Try.f16) rfl rfl (ti := false) (m := Mode.mix) (hs := [MHint.br, MHint.br, MHint.br, MHint.br, MHint.ops 9 [] [(2, 3)], MHint.ops 13 [] [(2, 3)], MHint.br, MHint.br, MHint.ops 16 [] [(2, 5)], MHint.br, MHint.ops 18 [] [(4, 4)], MHint.br, MHint.join { slots := [(6, Mode.mix), (5, Mode.same)], keys := [] }, MHint.br]) (c := _) (by kernel_rfl) (by kernel_rfl) h
def pow (x y : Nat) : Nat := bif !isNaN y && (!feq FloatKind.f64 y 0 && (!isNaN x && !isInf y (0 : Int))) then bif (bif isInf x (0 : Int) then true else feq FloatKind.f64 x 0) || !bif flt FloatKind.f64 x 0 then !feq FloatKind.f64 y (intW Ieee.Toward.zero y) else false then bif !bif sgn x then oddB y else false then bif bif isInf x (0 : Int) then true else feq FloatKind.f64 x 0 then bif isInf x (0 : Int) == fgt FloatKind.f64 y 0 then inf (1 : Int) else 0 else bif bif feq FloatKind.f64 y (intW Ieee.Toward.zero y) then flt FloatKind.f64 (abs y) 4652218415073722368 || feq FloatKind.f64 (abs y) 4652218415073722368 else false then wholeW (abs x) y else expW (fmul y (logW (abs x))) else fneg (bif bif isInf x (0 : Int) then true else feq FloatKind.f64 x 0 then bif isInf x (0 : Int) == fgt FloatKind.f64 y 0 then inf (1 : Int) else 0 else bif bif feq FloatKind.f64 y (intW Ieee.Toward.zero y) then flt FloatKind.f64 (abs y) 4652218415073722368 || feq FloatKind.f64 (abs y) 4652218415073722368 else false then wholeW (abs x) y else expW (fmul y (logW (abs x)))) else qnan else bif isNaN y then qnan else bif feq FloatKind.f64 y 0 then 4607182418800017408 else bif isNaN x then qnan else endW x y
theorem pow_pure (x y : Nat) (h : AllP [(!isNaN y && (!feq FloatKind.f64 y 0 && (!isNaN x && !isInf y (0 : Int)))) = true → AllP [sgn x = true → AllP [FWord y], (!bif isInf x (0 : Int) then true else feq FloatKind.f64 x 0) = true → AllP [(!bif flt FloatKind.f64 x 0 then !feq FloatKind.f64 y (intW Ieee.Toward.zero y) else false) = true → AllP [(bif feq FloatKind.f64 y (intW Ieee.Toward.zero y) then flt FloatKind.f64 (abs y) 4652218415073722368 || feq FloatKind.f64 (abs y) 4652218415073722368 else false) = true → AllP [Mag y 19, Pz (abs x)], (!bif feq FloatKind.f64 y (intW Ieee.Toward.zero y) then flt FloatKind.f64 (abs y) 4652218415073722368 || feq FloatKind.f64 (abs y) 4652218415073722368 else false) = true → AllP [FWord (abs x), FWord (fmul y (logW (abs x)))]]]]]) : PureTo Try.prog 16 [.v (.float .f64 x), .v (.float .f64 y)] (AV.v (.float FloatKind.f64 (pow x y))) := pow_ev x y h
theorem rpow_ev (x y : Nat) (h : AllP [sgn x = true → AllP [FWord y], (!isNaN y) = true → AllP [(!feq FloatKind.f64 y 0) = true → AllP [(!isNaN x) = true → AllP [(!isInf y (0 : Int)) = true → AllP [(!bif isInf x (0 : Int) then true else feq FloatKind.f64 x 0) = true → AllP [(!bif flt FloatKind.f64 x 0 then !feq FloatKind.f64 (intW Ieee.Toward.zero y) y else false) = true → AllP [(bif feq FloatKind.f64 (intW Ieee.Toward.zero y) y then flt FloatKind.f64 (abs y) 4652218415073722368 || feq FloatKind.f64 (abs y) 4652218415073722368 else false) = true → AllP [Mag y 19, Pz (abs x)], (!bif feq FloatKind.f64 (intW Ieee.Toward.zero y) y then flt FloatKind.f64 (abs y) 4652218415073722368 || feq FloatKind.f64 (abs y) 4652218415073722368 else false) = true → AllP [FWord (abs x), FWord (fmul y (logW (abs x)))]]]]]]]]) : PureTo Try.prog 17 [.v (.float .f64 x), .v (.float .f64 y)] (AV.v (.float FloatKind.f64 (bif !isNaN y && (!feq FloatKind.f64 y 0 && (!isNaN x && (!isInf y (0 : Int) && ((bif isInf x (0 : Int) then true else feq FloatKind.f64 x 0) || !bif flt FloatKind.f64 x 0 then !feq FloatKind.f64 (intW Ieee.Toward.zero y) y else false)))) then bif !bif sgn x then oddB y else false then bif bif isInf x (0 : Int) then true else feq FloatKind.f64 x 0 then bif isInf x (0 : Int) == fgt FloatKind.f64 y 0 then inf (1 : Int) else 0 else bif bif feq FloatKind.f64 (intW Ieee.Toward.zero y) y then flt FloatKind.f64 (abs y) 4652218415073722368 || feq FloatKind.f64 (abs y) 4652218415073722368 else false then wholeW (abs x) y else expW (fmul y (logW (abs x))) else fneg (bif bif isInf x (0 : Int) then true else feq FloatKind.f64 x 0 then bif isInf x (0 : Int) == fgt FloatKind.f64 y 0 then inf (1 : Int) else 0 else bif bif feq FloatKind.f64 (intW Ieee.Toward.zero y) y then flt FloatKind.f64 (abs y) 4652218415073722368 || feq FloatKind.f64 (abs y) 4652218415073722368 else false then wholeW (abs x) y else expW (fmul y (logW (abs x)))) else bif isNaN y then qnan else bif feq FloatKind.f64 y 0 then 4607182418800017408 else bif isNaN x then qnan else bif isInf y (0 : Int) then bif !feq FloatKind.f64 (abs x) 4607182418800017408 then bif !fgt FloatKind.f64 (abs x) 4607182418800017408 == fgt FloatKind.f64 y 0 then 0 else inf (1 : Int) else qnan else qnan))) :=
  evFnM_pure hm moT2 (fn := Try.f17) rfl rfl (ti := false) (m := Mode.mix) (hs := [MHint.ops 2 [] [(2, 3)], MHint.br, MHint.br, MHint.br, MHint.br, MHint.br, MHint.br, MHint.ops 17 [] [(2, 3)], MHint.br, MHint.br, MHint.ops 20 [] [(2, 5)], MHint.br, MHint.ops 22 [] [(4, 4)], MHint.br, MHint.join { slots := [(7, Mode.mix), (6, Mode.same)], keys := [] }, MHint.br]) (c := _) (by kernel_rfl) (by kernel_rfl) h
def rpow (x y : Nat) : Nat := bif !isNaN y && (!feq FloatKind.f64 y 0 && (!isNaN x && (!isInf y (0 : Int) && ((bif isInf x (0 : Int) then true else feq FloatKind.f64 x 0) || !bif flt FloatKind.f64 x 0 then !feq FloatKind.f64 (intW Ieee.Toward.zero y) y else false)))) then bif !bif sgn x then oddB y else false then bif bif isInf x (0 : Int) then true else feq FloatKind.f64 x 0 then bif isInf x (0 : Int) == fgt FloatKind.f64 y 0 then inf (1 : Int) else 0 else bif bif feq FloatKind.f64 (intW Ieee.Toward.zero y) y then flt FloatKind.f64 (abs y) 4652218415073722368 || feq FloatKind.f64 (abs y) 4652218415073722368 else false then wholeW (abs x) y else expW (fmul y (logW (abs x))) else fneg (bif bif isInf x (0 : Int) then true else feq FloatKind.f64 x 0 then bif isInf x (0 : Int) == fgt FloatKind.f64 y 0 then inf (1 : Int) else 0 else bif bif feq FloatKind.f64 (intW Ieee.Toward.zero y) y then flt FloatKind.f64 (abs y) 4652218415073722368 || feq FloatKind.f64 (abs y) 4652218415073722368 else false then wholeW (abs x) y else expW (fmul y (logW (abs x)))) else bif isNaN y then qnan else bif feq FloatKind.f64 y 0 then 4607182418800017408 else bif isNaN x then qnan else bif isInf y (0 : Int) then bif !feq FloatKind.f64 (abs x) 4607182418800017408 then bif !fgt FloatKind.f64 (abs x) 4607182418800017408 == fgt FloatKind.f64 y 0 then 0 else inf (1 : Int) else qnan else qnan
theorem rpow_pure (x y : Nat) (h : AllP [sgn x = true → AllP [FWord y], (!isNaN y) = true → AllP [(!feq FloatKind.f64 y 0) = true → AllP [(!isNaN x) = true → AllP [(!isInf y (0 : Int)) = true → AllP [(!bif isInf x (0 : Int) then true else feq FloatKind.f64 x 0) = true → AllP [(!bif flt FloatKind.f64 x 0 then !feq FloatKind.f64 (intW Ieee.Toward.zero y) y else false) = true → AllP [(bif feq FloatKind.f64 (intW Ieee.Toward.zero y) y then flt FloatKind.f64 (abs y) 4652218415073722368 || feq FloatKind.f64 (abs y) 4652218415073722368 else false) = true → AllP [Mag y 19, Pz (abs x)], (!bif feq FloatKind.f64 (intW Ieee.Toward.zero y) y then flt FloatKind.f64 (abs y) 4652218415073722368 || feq FloatKind.f64 (abs y) 4652218415073722368 else false) = true → AllP [FWord (abs x), FWord (fmul y (logW (abs x)))]]]]]]]]) : PureTo Try.prog 17 [.v (.float .f64 x), .v (.float .f64 y)] (AV.v (.float FloatKind.f64 (rpow x y))) := rpow_ev x y h
end Go.Proofs.Mf

/- Functions of mathematics: angles of points; powers. -/
set_option maxRecDepth 100000
set_option exponentiation.threshold 2200
namespace Go.Proofs.Mf
open Go Go.Ev Ieee

/-! ### Atan tells a number -/
theorem zero_mag {x : Nat} (hw : FWord x) (hn : Num x) (h : feq .f64 x 0 = true) : Mag x 0 := by
  rw [feq_V hn fin_zero.num, V_null, decide_eq_true_eq, V_zero] at h
  exact ⟨hw, by unfold Fit; rw [h]; decide, by rw [h, valN_zero]; exact Nat.zero_le _⟩
theorem atanW_mag {x : Nat} (hw : FWord x) (hn : Num x) : Mag (atanW x) 200 := by
  unfold atanW
  rw [isNaN_num.2 hn, if_neg (by decide)]
  split
  · next h => exact (zero_mag hw hn h).up (by decide)
  · obtain ⟨my, mb⟩ := atanY_mag hn
    exact mag_cs (atanV_mag mb my)

/-! ### points -/
def piW : Nat := 4614256656552045848
theorem mag_pi : Mag piW 2 := by decide +kernel
/-- the angle of a point of amounts -/
def angW (l : Bool) (y x : Nat) : Nat :=
  if feq .f64 y 0 = true then (if l = true then piW else 0)
  else if feq .f64 x 0 = true then 4609753056924675352
  else if isInf y 1 = true then (if isInf x 1 = true then (if l = true then 4612488097114038738 else 4605249457297304856) else 4609753056924675352)
  else if isInf x 1 = true then (if l = true then piW else 0)
  else if l = true then fsub piW (atanW (fdiv y x)) else atanW (fdiv y x)

theorem inf_one {x : Nat} (h : Pz x) (hi : isInf x 1 = false) : Fit x := by
  unfold Fit
  have hn := h.num
  unfold Num at hn
  rcases Nat.lt_or_ge (rg x) 9218868437227405312 with k | k
  · exact k
  · have e : x = wordOf false 9218868437227405312 := by rw [pz_eq h]; congr 1; omega
    rw [e] at hi
    exact absurd hi (by decide +kernel)
theorem quot_clean {y x : Nat} (hy : Pz y) (hx : Pz x) (h0 : feq .f64 x 0 = false) (iy : isInf y 1 = false) (ix : isInf x 1 = false) : FClean (fdiv y x) ∧ sg (fdiv y x) = false := by
  have fy := inf_one hy iy
  have fx := inf_one hx ix
  have hx0 : rg x ≠ 0 := by
    rw [feq_V hx.num fin_zero.num, V_null, decide_eq_false_iff_not, V_zero] at h0
    exact h0
  obtain ⟨r, r1, r2⟩ := fdiv_RN fy fx hx0
  rw [r1]
  exact ⟨clean_word r2.fin, by rw [sg_wordOf r2.fin, hy.pos, hx.pos]; rfl⟩

theorem angle_c {y x : Nat} (l : Bool) (hy : Pz y) (hx : Pz x) : PureTo Try.prog 54 [.fl .f64 y, .fl .f64 x, .v (.bool l)] (.v (.float .f64 (angW l y x))) := by
  unfold angW
  cases h1 : feq .f64 y 0 with
  | true =>
    cases l
    · exact angleF1 y x ⟨by decide, h1, h1, trivial⟩
    · exact angleT1 y x ⟨by decide, h1, trivial⟩
  | false =>
    cases h2 : feq .f64 x 0 with
    | true =>
      cases l
      · exact angleF37 y x ⟨by decide, h1, h1, h2, by decide, trivial⟩
      · exact angleT3 y x ⟨by decide, h1, h1, h2, by decide, trivial⟩
    | false =>
      cases h3 : isInf y 1 with
      | true =>
        cases h4 : isInf x 1 with
        | true =>
          cases l
          · exact angleF38 y x ⟨by decide, h1, h1, h2, h3, h4, h3, h4, by decide, trivial⟩
          · exact angleT4 y x ⟨by decide, h1, h1, h2, h3, h4, by decide, trivial⟩
        | false =>
          cases l
          · exact angleF50 y x ⟨by decide, h1, h1, h2, h3, h4, h3, h4, h3, by decide, trivial⟩
          · exact angleT6 y x ⟨by decide, h1, h1, h2, h3, h4, h3, h4, h3, by decide, trivial⟩
      | false =>
        cases h4 : isInf x 1 with
        | true =>
          cases l
          · exact angleF67 y x ⟨by decide, h1, h1, h2, h3, h3, h3, h4, h4, trivial⟩
          · exact angleT20 y x ⟨by decide, h1, h1, h2, h3, h3, h3, h4, trivial⟩
        | false =>
          obtain ⟨q, _⟩ := quot_clean hy hx h2 h3 h4
          have ma := atanW_mag q.1 q.2
          cases l
          · exact angleF70 y x ⟨by decide, h1, h1, h2, h3, h3, h3, h4, h4, q.1, trivial⟩
          · exact (mag_sub (k := 200) mag_pi ma (by decide) (by decide) (by decide)).known (angleT22 y x ⟨by decide, h1, h1, h2, h3, h3, h3, h4, h4, q.1, trivial⟩)

def atan2W (y x : Nat) : Nat := if isNaN y = true ∨ isNaN x = true then qnan else cs (angW (sgn x) (abs y) (abs x)) y

theorem pz_abs {x : Nat} (h : Num x) : Pz (abs x) := ⟨word_abs h, num_abs.2 h, sg_abs h⟩
theorem feq_abs {x : Nat} (h : Num x) : feq .f64 (abs x) 0 = feq .f64 x 0 := by
  rw [feq_V (num_abs.2 h) fin_zero.num, feq_V h fin_zero.num, V_null]
  have h1 : V (abs x) = 0 ↔ V x = 0 := by rw [V_zero, V_zero, rg_abs]
  by_cases h2 : V x = 0
  · rw [decide_eq_true h2, decide_eq_true (h1.2 h2)]
  · rw [decide_eq_false h2, decide_eq_false fun h => h2 (h1.1 h)]
theorem inf_abs {x : Nat} (h : Num x) : isInf (abs x) 1 = isInf x 0 := by
  rw [isInf_eq]
  by_cases hi : rg x = 9218868437227405312
  · have e : abs x = 9218868437227405312 := by rw [abs_word, hi]; rfl
    rw [e, decide_eq_true hi]
    decide +kernel
  · rw [decide_eq_false hi]
    have hf : Fit (abs x) := by unfold Fit; rw [rg_abs]; unfold Num at h; omega
    have e : isInf (abs x) 1 = fgt .f64 (abs x) 9218868437227405311 := rfl
    rw [e, fgt_V hf.num (by unfold Num; decide), decide_eq_false_iff_not, V_absN h]
    have c : V 9218868437227405311 = valN 9218868437227405311 := by decide +kernel
    rw [c]
    have : valN (rg x) ≤ valN 9218868437227405311 := valN_le_iff.2 (by unfold Num at h; omega)
    omega

theorem ratan2_c {y x : Nat} (hy : FWord y) (hx : FWord x) : PureTo Try.prog 20 [.fl .f64 y, .fl .f64 x] (.v (.float .f64 (atan2W y x))) := by
  unfold atan2W
  cases n1 : isNaN x with
  | true => rw [if_pos (.inr rfl)]; exact ratanT1 y x ⟨n1, trivial⟩
  | false =>
    cases n2 : isNaN y with
    | true => rw [if_pos (.inl rfl)]; exact ratanT2 y x ⟨n1, n2, trivial⟩
    | false =>
      rw [if_neg (by simp)]
      have hnx := isNaN_num.1 n1
      have hny := isNaN_num.1 n2
      have nx := num_iff.1 hnx
      have ny := num_iff.1 hny
      unfold angW
      rw [feq_abs hny, feq_abs hnx, inf_abs hny, inf_abs hnx]
      cases h1 : feq .f64 y 0 with
      | true =>
        cases hs : sgn x
        · exact ratanT12 y x ⟨n1, n2, hs, nx, h1, ny, trivial⟩
        · exact ratanT3 y x ⟨n1, n2, hs, nx, h1, ny, trivial⟩
      | false =>
        cases h2 : feq .f64 x 0 with
        | true =>
          cases hs : sgn x
          · exact ratanT13 y x ⟨n1, n2, hs, nx, h1, h2, ny, trivial⟩
          · exact ratanT4 y x ⟨n1, n2, hs, nx, h1, h2, ny, trivial⟩
        | false =>
          cases h3 : isInf y 0 with
          | true =>
            cases h4 : isInf x 0 with
            | true =>
              cases hs : sgn x
              · exact ratanT14 y x ⟨n1, n2, hs, nx, h1, h2, h4, h3, ny, trivial⟩
              · exact ratanT5 y x ⟨n1, n2, hs, nx, h1, h2, h4, h3, by decide, ny, trivial⟩
            | false =>
              cases hs : sgn x
              · exact ratanT18 y x ⟨n1, n2, hs, nx, h1, h2, h4, h3, ny, trivial⟩
              · exact ratanT9 y x ⟨n1, n2, hs, nx, h1, h2, h4, h3, ny, trivial⟩
          | false =>
            cases h4 : isInf x 0 with
            | true =>
              cases hs : sgn x
              · exact ratanT16 y x ⟨n1, n2, hs, nx, h1, h2, h4, h3, h3, h4, ny, trivial⟩
              · exact ratanT7 y x ⟨n1, n2, hs, nx, h1, h2, h4, h3, h3, h4, ny, trivial⟩
            | false =>
              obtain ⟨q, _⟩ := quot_clean (pz_abs hny) (pz_abs hnx) (by rw [feq_abs hnx]; exact h2) (by rw [inf_abs hny]; exact h3) (by rw [inf_abs hnx]; exact h4)
              have ma := atanW_mag q.1 q.2
              cases hs : sgn x
              · exact ratanT20 y x ⟨n1, n2, hs, nx, h1, h2, h4, h3, h4, q.1, ny, trivial⟩
              · exact (mag_cs (mag_sub (k := 200) mag_pi ma (by decide) (by decide) (by decide))).known (ratanT11 y x ⟨n1, n2, hs, nx, h1, h2, h4, h3, h4, q.1, ny, trivial⟩)

/-! ### powers -/
theorem pow_mag {y : Nat} (hw : FWord y) (hn : Num y) (h : (bif feq FloatKind.f64 y (intW Ieee.Toward.zero y) then flt FloatKind.f64 (abs y) 4652218415073722368 || feq FloatKind.f64 (abs y) 4652218415073722368 else false) = true) : Mag y 19 := by
  cases h1 : feq FloatKind.f64 y (intW Ieee.Toward.zero y) with
  | false => rw [h1] at h; cases h
  | true =>
    rw [h1] at h
    have h2 : (flt FloatKind.f64 (abs y) 4652218415073722368 || feq FloatKind.f64 (abs y) 4652218415073722368) = true := h
    have c : V 4652218415073722368 ≤ ((2 ^ 19 * U : Nat) : Int) := by decide +kernel
    have hle : valN (rg y) ≤ 2 ^ 19 * U := by
      rw [flt_V (num_abs.2 hn) (by unfold Num; decide), feq_V (num_abs.2 hn) (by unfold Num; decide), V_absN hn, Bool.or_eq_true, decide_eq_true_eq, decide_eq_true_eq] at h2
      omega
    have := V_abs y
    exact mag_of hw hn (by decide) (by omega) (by omega)
theorem not_bif (b c : Bool) : (!b) = true ↔ b = false := by cases b <;> simp
theorem pow_c {x y : Nat} (hx : FWord x) (hy : FWord y) : PureTo Try.prog 16 [.v (.float .f64 x), .v (.float .f64 y)] (.v (.float .f64 (pow x y))) := by
  refine pow_pure x y ⟨fun h => ?_, trivial⟩
  have hny : Num y := by
    refine isNaN_num.1 ?_
    cases hh : isNaN y with
    | false => rfl
    | true => rw [hh] at h; cases h
  have hnx : Num x := by
    refine isNaN_num.1 ?_
    cases hh : isNaN x with
    | false => rfl
    | true => rw [hh] at h; simp at h
  exact ⟨fun _ => ⟨hy, trivial⟩, fun _ => ⟨fun _ => ⟨fun h4 => ⟨pow_mag hy hny h4, pz_abs hnx, trivial⟩, fun _ => ⟨word_abs hnx, fmul_word _ _, trivial⟩, trivial⟩, trivial⟩, trivial⟩
theorem rpow_c {x y : Nat} (hx : FWord x) (hy : FWord y) : PureTo Try.prog 17 [.v (.float .f64 x), .v (.float .f64 y)] (.v (.float .f64 (rpow x y))) := by
  refine rpow_pure x y ⟨fun _ => ⟨hy, trivial⟩, fun h1 => ⟨fun _ => ⟨fun h2 => ⟨fun _ => ⟨fun _ => ⟨fun _ => ⟨fun h4 => ?_, fun _ => ?_, trivial⟩, trivial⟩, trivial⟩, trivial⟩, trivial⟩, trivial⟩, trivial⟩
  · have hny : Num y := isNaN_num.1 (by simpa using h1)
    have hnx : Num x := isNaN_num.1 (by simpa using h2)
    rw [feq_comm] at h4
    exact ⟨pow_mag hy hny h4, pz_abs hnx, trivial⟩
  · have hnx : Num x := isNaN_num.1 (by simpa using h2)
    exact ⟨word_abs hnx, fmul_word _ _, trivial⟩
theorem pow_rpow (x y : Nat) : rpow x y = pow x y := by
  unfold pow rpow
  rw [feq_comm (intW .zero y) y]
  generalize h1 : isNaN y = a1
  generalize h2 : feq FloatKind.f64 y 0 = a2
  generalize h3 : isNaN x = a3
  generalize h4 : isInf y 0 = a4
  generalize h5 : isInf x 0 = a5
  generalize h6 : feq FloatKind.f64 x 0 = a6
  generalize h7 : flt FloatKind.f64 x 0 = a7
  generalize h8 : feq FloatKind.f64 y (intW .zero y) = a8
  unfold endW
  cases a1 <;> cases a2 <;> cases a3 <;> cases a4
  all_goals try rfl
  · show (bif !feq FloatKind.f64 (abs x) 4607182418800017408 then bif !fgt FloatKind.f64 (abs x) 4607182418800017408 == fgt FloatKind.f64 y 0 then 0 else inf 1 else qnan) = if feq FloatKind.f64 (abs x) 4607182418800017408 = true then qnan else if fgt FloatKind.f64 (abs x) 4607182418800017408 = fgt FloatKind.f64 y 0 then 9218868437227405312 else 0
    cases feq FloatKind.f64 (abs x) 4607182418800017408 <;> cases fgt FloatKind.f64 (abs x) 4607182418800017408 <;> cases fgt FloatKind.f64 y 0 <;> rfl
end Go.Proofs.Mf

/- Functions of mathematics: the table with points and powers. -/
set_option maxRecDepth 100000
set_option exponentiation.threshold 2200
namespace Go.Proofs.Mf
open Go Go.Ev Ieee

def sigAngle : List AV → Option (AV × List Prop)
  | [y, x, .v (.bool l)] => match fbits y, fbits x with
    | some b, some a => some (.v (.float .f64 (angW l b a)), [Pz b, Pz a])
    | _, _ => none
  | _ => none
theorem sigAngle_ok : ∀ ys r c, sigAngle ys = some (r, c) → AllP c → PureTo Try.prog 54 ys r := by
  intro ys r c hs hc
  unfold sigAngle at hs
  split at hs
  · next y x l =>
    split at hs
    · next b a hb ha =>
      cases hs
      exact (angle_c l hc.1 hc.2.1).args rfl fun i h1 h2 => by
        have : i = 0 ∨ i = 1 ∨ i = 2 := by simp at h1; omega
        rcases this with rfl | rfl | rfl
        · exact fbits_closer hb
        · exact fbits_closer ha
        · exact .same _
    · cases hs
  · cases hs
/-- two floats in, a known one out -/
def sigFFV (g : Nat → Nat → Nat) : List AV → Option (AV × List Prop) := sigFF fun x y => (.v (.float .f64 (g x y)), [FWord x, FWord y])
theorem cons_FFV {SG : SGT} {f : FuncId} (g : Nat → Nat → Nat) (h : SigsOK Try.prog SG) (hf : ∀ x y, FWord x → FWord y → PureTo Try.prog f [.fl .f64 x, .fl .f64 y] (.v (.float .f64 (g x y)))) : SigsOK Try.prog ((f, .p (sigFFV g)) :: SG) :=
  sigs_cons h (sigFF_ok (f := fun x y => (.v (.float .f64 (g x y)), [FWord x, FWord y])) fun a b hc => hf a b hc.1 hc.2.1)
/-- two known floats in -/
def sigVV (g : Nat → Nat → Nat) : List AV → Option (AV × List Prop)
  | [.v (.float .f64 x), .v (.float .f64 y)] => some (.v (.float .f64 (g x y)), [FWord x, FWord y])
  | _ => none
theorem cons_VV {SG : SGT} {f : FuncId} (g : Nat → Nat → Nat) (h : SigsOK Try.prog SG) (hf : ∀ x y, FWord x → FWord y → PureTo Try.prog f [.v (.float .f64 x), .v (.float .f64 y)] (.v (.float .f64 (g x y)))) : SigsOK Try.prog ((f, .p (sigVV g)) :: SG) := by
  refine sigs_cons h ?_
  intro ys r c hs hc
  unfold sigVV at hs
  split at hs
  · cases hs; exact hf _ _ hc.1 hc.2.1
  · cases hs
/-- one known float in -/
def sigV1 (g : Nat → Nat) : List AV → Option (AV × List Prop)
  | [.v (.float .f64 x)] => some (.v (.float .f64 (g x)), [FWord x])
  | _ => none
theorem cons_V1 {SG : SGT} {f : FuncId} (g : Nat → Nat) (h : SigsOK Try.prog SG) (hf : ∀ x, FWord x → PureTo Try.prog f [.v (.float .f64 x)] (.v (.float .f64 (g x)))) : SigsOK Try.prog ((f, .p (sigV1 g)) :: SG) := by
  refine sigs_cons h ?_
  intro ys r c hs hc
  unfold sigV1 at hs
  split at hs
  · cases hs; exact hf _ hc.1
  · cases hs

def MT3 : SGT := (54, .p sigAngle) :: (20, .p (sigFFV atan2W)) :: (16, .p (sigVV pow)) :: (17, .p (sigVV pow)) :: MT2
theorem moT3 : SigsOK Try.prog MT3 := by
  have a1 := cons_VV (f := 17) pow moT2 fun x y hx hy => by rw [← pow_rpow]; exact rpow_c hx hy
  have a2 := cons_VV (f := 16) pow a1 fun x y hx hy => pow_c hx hy
  have a3 := cons_FFV (f := 20) atan2W a2 fun y x hy hx => ratan2_c hy hx
  exact sigs_cons a3 sigAngle_ok
end Go.Proofs.Mf

/- Functions of mathematics: walks, written by the tool. -/
set_option maxRecDepth 100000
namespace Go.Proofs.Mf
open Go Go.Ev

-- 4 paths
theorem atanT1 (y x : Nat) (h : AllP [isNaN y = true]) : PureTo Try.prog 19 [.fl .f64 y, .fl .f64 x] (AV.v (.float FloatKind.f64 9221120237041090560)) :=
  evFn_pure hm moT3 (fn := Try.f19) rfl rfl (ti := false) (hs := [CHint.ops 1 [(1, Hint.b true)]]) (c := _) (by kernel_rfl) h
theorem atanT2 (y x : Nat) (h : AllP [isNaN y = false, isNaN x = true]) : PureTo Try.prog 19 [.fl .f64 y, .fl .f64 x] (AV.v (.float FloatKind.f64 9221120237041090560)) :=
  evFn_pure hm moT3 (fn := Try.f19) rfl rfl (ti := false) (hs := [CHint.ops 1 [(1, Hint.b false), (4, Hint.b true)]]) (c := _) (by kernel_rfl) h
theorem atanT3 (y x : Nat) (h : AllP [isNaN y = false, isNaN x = false, sgn x = true, ¬nanB FloatKind.f64 x, Pz (abs y), Pz (abs x), ¬nanB FloatKind.f64 y]) : PureTo Try.prog 19 [.fl .f64 y, .fl .f64 x] (AV.v (.float FloatKind.f64 (cs (angW true (abs y) (abs x)) y))) :=
  evFn_pure hm moT3 (fn := Try.f19) rfl rfl (ti := false) (hs := [CHint.ops 1 [(1, Hint.b false), (4, Hint.b false)], CHint.ops 3 [(5, Hint.b true)]]) (c := _) (by kernel_rfl) h
theorem atanT4 (y x : Nat) (h : AllP [isNaN y = false, isNaN x = false, sgn x = false, ¬nanB FloatKind.f64 x, Pz (abs y), Pz (abs x), ¬nanB FloatKind.f64 y]) : PureTo Try.prog 19 [.fl .f64 y, .fl .f64 x] (AV.v (.float FloatKind.f64 (cs (angW false (abs y) (abs x)) y))) :=
  evFn_pure hm moT3 (fn := Try.f19) rfl rfl (ti := false) (hs := [CHint.ops 1 [(1, Hint.b false), (4, Hint.b false)], CHint.ops 3 [(5, Hint.b false)]]) (c := _) (by kernel_rfl) h
-- 1 paths
theorem awk1  (h : AllP [FWord 4611686018427387904, FWord 4621819117588971520, FWord 0]) : PureTo Try.prog 15 [] (AV.v (.bool true)) :=
  evFn_pure hm moT3 (fn := Try.f15) rfl rfl (ti := false) (hs := []) (c := _) (by kernel_rfl) h
end Go.Proofs.Mf

/- Functions of mathematics: Atan2 and awake, in the table. -/
set_option maxRecDepth 100000
set_option exponentiation.threshold 2200
namespace Go.Proofs.Mf
open Go Go.Ev Ieee

theorem atan2_c {y x : Nat} (hy : FWord y) (hx : FWord x) : PureTo Try.prog 19 [.fl .f64 y, .fl .f64 x] (.v (.float .f64 (atan2W y x))) := by
  unfold atan2W
  cases n2 : isNaN y with
  | true => rw [if_pos (.inl rfl)]; exact atanT1 y x ⟨n2, trivial⟩
  | false =>
    cases n1 : isNaN x with
    | true => rw [if_pos (.inr rfl)]; exact atanT2 y x ⟨n2, n1, trivial⟩
    | false =>
      rw [if_neg (by simp)]
      have hnx := isNaN_num.1 n1
      have hny := isNaN_num.1 n2
      cases hs : sgn x
      · exact atanT4 y x ⟨n2, n1, hs, num_iff.1 hnx, pz_abs hny, pz_abs hnx, num_iff.1 hny, trivial⟩
      · exact atanT3 y x ⟨n2, n1, hs, num_iff.1 hnx, pz_abs hny, pz_abs hnx, num_iff.1 hny, trivial⟩
def sigAwk : List AV → Option (AV × List Prop)
  | [] => some (.v (.bool true), [])
  | _ => none
def MT4 : SGT := (19, .p (sigFFV atan2W)) :: (15, .p sigAwk) :: MT3
theorem moT4 : SigsOK Try.prog MT4 := by
  refine cons_FFV (f := 19) atan2W (sigs_cons moT3 ?_) fun y x hy hx => atan2_c hy hx
  intro ys r c hs hc
  unfold sigAwk at hs
  split at hs
  · cases hs; exact awk1 ⟨by decide, by decide, by decide, trivial⟩
  · cases hs
end Go.Proofs.Mf

/- Functions of mathematics: walks, written by the tool. -/
set_option maxRecDepth 100000
namespace Go.Proofs.Mf
open Go Go.Ev

-- 4 paths
theorem asin1 (x : Nat) (h : AllP [isNaN x = true]) : PureTo Try.prog 28 [.v (.float .f64 x)] (AV.v (.float FloatKind.f64 9221120237041090560)) :=
  evFn_pure hm moT4 (fn := Try.f28) rfl rfl (ti := false) (hs := [CHint.ops 1 [(1, Hint.b true)]]) (c := _) (by kernel_rfl) h
theorem asin2 (x : Nat) (h : AllP [isNaN x = false, fgt FloatKind.f64 (abs x) 4607182418800017408 = true]) : PureTo Try.prog 28 [.v (.float .f64 x)] (AV.v (.float FloatKind.f64 9221120237041090560)) :=
  evFn_pure hm moT4 (fn := Try.f28) rfl rfl (ti := false) (hs := [CHint.ops 1 [(1, Hint.b false), (5, Hint.b true)]]) (c := _) (by kernel_rfl) h
theorem asin3 (x : Nat) (h : AllP [isNaN x = false, fgt FloatKind.f64 (abs x) 4607182418800017408 = false, feq FloatKind.f64 x 0 = true]) : PureTo Try.prog 28 [.v (.float .f64 x)] (AV.v (.float FloatKind.f64 x)) :=
  evFn_pure hm moT4 (fn := Try.f28) rfl rfl (ti := false) (hs := [CHint.ops 1 [(1, Hint.b false), (5, Hint.b false)], CHint.ops 3 [(1, Hint.b true)]]) (c := _) (by kernel_rfl) h
theorem asin4 (x : Nat) (h : AllP [isNaN x = false, fgt FloatKind.f64 (abs x) 4607182418800017408 = false, feq FloatKind.f64 x 0 = false, FWord x, FWord (other x)]) : PureTo Try.prog 28 [.v (.float .f64 x)] (AV.v (.float FloatKind.f64 (atan2W x (other x)))) :=
  evFn_pure hm moT4 (fn := Try.f28) rfl rfl (ti := false) (hs := [CHint.ops 1 [(1, Hint.b false), (5, Hint.b false)], CHint.ops 3 [(1, Hint.b false)]]) (c := _) (by kernel_rfl) h
-- 4 paths
theorem rasin1 (x : Nat) (h : AllP [isNaN x = true]) : PureTo Try.prog 32 [.v (.float .f64 x)] (AV.v (.float FloatKind.f64 9221120237041090560)) :=
  evFn_pure hm moT4 (fn := Try.f32) rfl rfl (ti := false) (hs := [CHint.ops 1 [(1, Hint.b true)]]) (c := _) (by kernel_rfl) h
theorem rasin2 (x : Nat) (h : AllP [isNaN x = false, fgt FloatKind.f64 (abs x) 4607182418800017408 = true]) : PureTo Try.prog 32 [.v (.float .f64 x)] (AV.v (.float FloatKind.f64 9221120237041090560)) :=
  evFn_pure hm moT4 (fn := Try.f32) rfl rfl (ti := false) (hs := [CHint.ops 1 [(1, Hint.b false), (5, Hint.b true)]]) (c := _) (by kernel_rfl) h
theorem rasin3 (x : Nat) (h : AllP [isNaN x = false, fgt FloatKind.f64 (abs x) 4607182418800017408 = false, feq FloatKind.f64 x 0 = true]) : PureTo Try.prog 32 [.v (.float .f64 x)] (AV.v (.float FloatKind.f64 x)) :=
  evFn_pure hm moT4 (fn := Try.f32) rfl rfl (ti := false) (hs := [CHint.ops 1 [(1, Hint.b false), (5, Hint.b false)], CHint.ops 3 [(1, Hint.b true)]]) (c := _) (by kernel_rfl) h
theorem rasin4 (x : Nat) (h : AllP [isNaN x = false, fgt FloatKind.f64 (abs x) 4607182418800017408 = false, feq FloatKind.f64 x 0 = false, FWord x, FWord (fsqrt (fmul (fsub 4607182418800017408 x) (fadd 4607182418800017408 x)))]) : PureTo Try.prog 32 [.v (.float .f64 x)] (AV.v (.float FloatKind.f64 (atan2W x (fsqrt (fmul (fsub 4607182418800017408 x) (fadd 4607182418800017408 x)))))) :=
  evFn_pure hm moT4 (fn := Try.f32) rfl rfl (ti := false) (hs := [CHint.ops 1 [(1, Hint.b false), (5, Hint.b false)], CHint.ops 3 [(1, Hint.b false)]]) (c := _) (by kernel_rfl) h
-- 3 paths
theorem acos1 (x : Nat) (h : AllP [isNaN x = true]) : PureTo Try.prog 33 [.v (.float .f64 x)] (AV.v (.float FloatKind.f64 9221120237041090560)) :=
  evFn_pure hm moT4 (fn := Try.f33) rfl rfl (ti := false) (hs := [CHint.ops 1 [(1, Hint.b true)]]) (c := _) (by kernel_rfl) h
theorem acos2 (x : Nat) (h : AllP [isNaN x = false, fgt FloatKind.f64 (abs x) 4607182418800017408 = true]) : PureTo Try.prog 33 [.v (.float .f64 x)] (AV.v (.float FloatKind.f64 9221120237041090560)) :=
  evFn_pure hm moT4 (fn := Try.f33) rfl rfl (ti := false) (hs := [CHint.ops 1 [(1, Hint.b false), (5, Hint.b true)]]) (c := _) (by kernel_rfl) h
theorem acos3 (x : Nat) (h : AllP [isNaN x = false, fgt FloatKind.f64 (abs x) 4607182418800017408 = false, FWord (other x), FWord x]) : PureTo Try.prog 33 [.v (.float .f64 x)] (AV.v (.float FloatKind.f64 (atan2W (other x) x))) :=
  evFn_pure hm moT4 (fn := Try.f33) rfl rfl (ti := false) (hs := [CHint.ops 1 [(1, Hint.b false), (5, Hint.b false)]]) (c := _) (by kernel_rfl) h
-- 3 paths
theorem racos1 (x : Nat) (h : AllP [isNaN x = true]) : PureTo Try.prog 34 [.v (.float .f64 x)] (AV.v (.float FloatKind.f64 9221120237041090560)) :=
  evFn_pure hm moT4 (fn := Try.f34) rfl rfl (ti := false) (hs := [CHint.ops 1 [(1, Hint.b true)]]) (c := _) (by kernel_rfl) h
theorem racos2 (x : Nat) (h : AllP [isNaN x = false, fgt FloatKind.f64 (abs x) 4607182418800017408 = true]) : PureTo Try.prog 34 [.v (.float .f64 x)] (AV.v (.float FloatKind.f64 9221120237041090560)) :=
  evFn_pure hm moT4 (fn := Try.f34) rfl rfl (ti := false) (hs := [CHint.ops 1 [(1, Hint.b false), (5, Hint.b true)]]) (c := _) (by kernel_rfl) h
theorem racos3 (x : Nat) (h : AllP [isNaN x = false, fgt FloatKind.f64 (abs x) 4607182418800017408 = false, FWord (fsqrt (fmul (fsub 4607182418800017408 x) (fadd 4607182418800017408 x))), FWord x]) : PureTo Try.prog 34 [.v (.float .f64 x)] (AV.v (.float FloatKind.f64 (atan2W (fsqrt (fmul (fsub 4607182418800017408 x) (fadd 4607182418800017408 x))) x))) :=
  evFn_pure hm moT4 (fn := Try.f34) rfl rfl (ti := false) (hs := [CHint.ops 1 [(1, Hint.b false), (5, Hint.b false)]]) (c := _) (by kernel_rfl) h
-- 1 paths
theorem expsL1 (x : Nat) (h : AllP [FWord x, FWord x, (expW x == expW x) = true, FWord x, FWord x, (logW x == logW x) = true]) : PureTo Try.prog 3 [.v (.float .f64 x)] (AV.v (.bool true)) :=
  evFn_pure hm moT4 (fn := Try.f3) rfl rfl (ti := false) (hs := [CHint.ops 1 [(4, Hint.b true), (10, Hint.b true)]]) (c := _) (by kernel_rfl) h
-- 1 paths
theorem powL_1 (x y : Nat) (h : AllP [FWord x, FWord y, FWord x, FWord y, (pow x y == pow x y) = true]) : PureTo Try.prog 4 [.v (.float .f64 x), .v (.float .f64 y)] (AV.v (.bool true)) :=
  evFn_pure hm moT4 (fn := Try.f4) rfl rfl (ti := false) (hs := [CHint.ops 1 [(6, Hint.b true)]]) (c := _) (by kernel_rfl) h
-- 1 paths
theorem ptsL1 (y x : Nat) (h : AllP [FWord y, FWord x, FWord y, FWord x, (atan2W y x == atan2W y x) = true]) : PureTo Try.prog 6 [.v (.float .f64 y), .v (.float .f64 x)] (AV.v (.bool true)) :=
  evFn_pure hm moT4 (fn := Try.f6) rfl rfl (ti := false) (hs := [CHint.ops 1 [(6, Hint.b true)]]) (c := _) (by kernel_rfl) h
end Go.Proofs.Mf

/- Functions of mathematics: Asin and Acos. -/
set_option maxRecDepth 100000
set_option exponentiation.threshold 2200
namespace Go.Proofs.Mf
open Go Go.Ev Ieee

theorem fsqrt_clean {a : Nat} (h : Pz a) : FClean (fsqrt a) := by
  by_cases hi : rg a = 9218868437227405312
  · have e : a = wordOf false 9218868437227405312 := by rw [pz_eq h, hi]
    rw [e]
    exact ⟨by decide +kernel, by decide +kernel⟩
  · have hf : Fit a := by unfold Fit; have := h.num; unfold Num at this; omega
    unfold fsqrt Format.sqrt
    rw [read_fin hf, h.pos]
    show FClean (((Datum.root 54 (.number false (sigM (rg a)) (-1074 + (sigK (rg a) : Int)))).map FloatKind.f64.format.write).getD qnan)
    unfold Datum.root
    by_cases h0 : sigM (rg a) = 0
    · simp only [if_pos h0, Option.map_some, Option.getD_some]
      exact write_clean _ rfl
    · simp only [if_neg h0, Bool.false_eq_true, if_false, Option.map_some, Option.getD_some]
      exact write_clean _ rfl

def side (x : Nat) : Nat := fsqrt (fmul (fsub one x) (fadd one x))
theorem V_oneW : V one = U := by decide +kernel
theorem sg_oneW : sg one = false := by decide +kernel
theorem le_one {x : Nat} (hn : Num x) (h : fgt .f64 (abs x) 4607182418800017408 = false) : valN (rg x) ≤ U := by
  rw [fgt_V (num_abs.2 hn) (by unfold Num; decide), decide_eq_false_iff_not, V_absN hn] at h
  have c : V 4607182418800017408 = U := V_oneW
  omega
theorem pz_side {x : Nat} (hw : FWord x) (hn : Num x) (h : fgt .f64 (abs x) 4607182418800017408 = false) : Pz (fmul (fsub one x) (fadd one x)) := by
  have hle := le_one hn h
  have hv := V_abs x
  have ho := V_oneW
  have hx : Mag x 0 := mag_of hw hn (by decide) (by rw [Nat.pow_zero, Nat.one_mul]; omega) (by rw [Nat.pow_zero, Nat.one_mul]; omega)
  have m1 := mag_sub (k := 0) mag_one hx (by decide) (by decide) (by decide)
  have m2 := mag_add (k := 0) mag_one hx (by decide) (by decide) (by decide)
  have s1 : sg (fsub one x) = false := by
    obtain ⟨r, r1, r2⟩ := fsub_RN mag_one.fit hx.fit
    rw [r1, sg_wordOf r2.fin, sg_oneW]
    split
    · rfl
    · rw [decide_eq_false]; omega
  have s2 : sg (fadd one x) = false := by
    obtain ⟨r, r1, r2⟩ := fadd_RN mag_one.fit hx.fit
    rw [r1, sg_wordOf r2.fin, sg_oneW]
    split
    · rfl
    · rw [decide_eq_false]; omega
  obtain ⟨r, r1, r2⟩ := fmul_RN m1.fit m2.fit
  rw [r1, s1, s2]
  exact pz_word r2.fin
theorem other_side {x : Nat} (h : Pz (fmul (fsub one x) (fadd one x))) : other x = side x := by
  show toldW (side x) = side x
  exact toldW_num (fsqrt_clean h).2

def asinW (x : Nat) : Nat := if isNaN x = true then qnan else if fgt .f64 (abs x) 4607182418800017408 = true then qnan else if feq .f64 x 0 = true then x else atan2W x (side x)
def acosW (x : Nat) : Nat := if isNaN x = true then qnan else if fgt .f64 (abs x) 4607182418800017408 = true then qnan else atan2W (side x) x
theorem asin_both {x : Nat} (hw : FWord x) : PureTo Try.prog 28 [.v (.float .f64 x)] (.v (.float .f64 (asinW x))) ∧ PureTo Try.prog 32 [.v (.float .f64 x)] (.v (.float .f64 (asinW x))) := by
  unfold asinW
  cases h1 : isNaN x with
  | true => rw [if_pos rfl]; exact ⟨asin1 x ⟨h1, trivial⟩, rasin1 x ⟨h1, trivial⟩⟩
  | false =>
    rw [if_neg (by decide)]
    cases h2 : fgt .f64 (abs x) 4607182418800017408 with
    | true => rw [if_pos rfl]; exact ⟨asin2 x ⟨h1, h2, trivial⟩, rasin2 x ⟨h1, h2, trivial⟩⟩
    | false =>
      rw [if_neg (by decide)]
      cases h3 : feq .f64 x 0 with
      | true => rw [if_pos rfl]; exact ⟨asin3 x ⟨h1, h2, h3, trivial⟩, rasin3 x ⟨h1, h2, h3, trivial⟩⟩
      | false =>
        rw [if_neg (by decide)]
        have hp := pz_side hw (isNaN_num.1 h1) h2
        have hs := fsqrt_clean hp
        have e := other_side hp
        have a := asin4 x
        rw [e] at a
        exact ⟨a ⟨h1, h2, h3, hw, hs.1, trivial⟩, rasin4 x ⟨h1, h2, h3, hw, hs.1, trivial⟩⟩
theorem acos_both {x : Nat} (hw : FWord x) : PureTo Try.prog 33 [.v (.float .f64 x)] (.v (.float .f64 (acosW x))) ∧ PureTo Try.prog 34 [.v (.float .f64 x)] (.v (.float .f64 (acosW x))) := by
  unfold acosW
  cases h1 : isNaN x with
  | true => rw [if_pos rfl]; exact ⟨acos1 x ⟨h1, trivial⟩, racos1 x ⟨h1, trivial⟩⟩
  | false =>
    rw [if_neg (by decide)]
    cases h2 : fgt .f64 (abs x) 4607182418800017408 with
    | true => rw [if_pos rfl]; exact ⟨acos2 x ⟨h1, h2, trivial⟩, racos2 x ⟨h1, h2, trivial⟩⟩
    | false =>
      rw [if_neg (by decide)]
      have hp := pz_side hw (isNaN_num.1 h1) h2
      have hs := fsqrt_clean hp
      have e := other_side hp
      have a := acos3 x
      rw [e] at a
      exact ⟨a ⟨h1, h2, hs.1, hw, trivial⟩, racos3 x ⟨h1, h2, hs.1, hw, trivial⟩⟩
def MT5 : SGT := (28, .p (sigV1 asinW)) :: (32, .p (sigV1 asinW)) :: (33, .p (sigV1 acosW)) :: (34, .p (sigV1 acosW)) :: MT4
theorem moT5 : SigsOK Try.prog MT5 :=
  cons_V1 (f := 28) asinW (cons_V1 (f := 32) asinW (cons_V1 (f := 33) acosW (cons_V1 (f := 34) acosW moT4 fun x hw => (acos_both hw).2) fun x hw => (acos_both hw).1) fun x hw => (asin_both hw).2) fun x hw => (asin_both hw).1
end Go.Proofs.Mf

/- Functions of mathematics: walks, written by the tool. -/
set_option maxRecDepth 100000
namespace Go.Proofs.Mf
open Go Go.Ev

-- 1 paths
theorem arcL1 (x : Nat) (h : AllP [FWord x, FWord x, (atanW x == atanW x) = true, FWord x, FWord x, (asinW x == asinW x) = true, FWord x, FWord x, (acosW x == acosW x) = true]) : PureTo Try.prog 9 [.v (.float .f64 x)] (AV.v (.bool true)) :=
  evFn_pure hm moT5 (fn := Try.f9) rfl rfl (ti := false) (hs := [CHint.ops 1 [(4, Hint.b true), (10, Hint.b true), (17, Hint.b true)]]) (c := _) (by kernel_rfl) h
-- 12 paths
theorem sgnL1 (x y : Nat) (h : AllP [isNaN x = true, FWord y, FWord x, isNaN (atan2W y x) = true]) : PureTo Try.prog 8 [.v (.float .f64 x), .v (.float .f64 y)] (AV.v (.bool true)) :=
  evFn_pure hm moT5 (fn := Try.f8) rfl rfl (ti := false) (hs := [CHint.ops 1 [(1, Hint.b true)], CHint.ops 2 [(3, Hint.b true)]]) (c := _) (by kernel_rfl) h
theorem sgnL2 (x y : Nat) (h : AllP [isNaN x = true, FWord y, FWord x, isNaN (atan2W y x) = false]) : PureTo Try.prog 8 [.v (.float .f64 x), .v (.float .f64 y)] (AV.v (.bool false)) :=
  evFn_pure hm moT5 (fn := Try.f8) rfl rfl (ti := false) (hs := [CHint.ops 1 [(1, Hint.b true)], CHint.ops 2 [(3, Hint.b false)]]) (c := _) (by kernel_rfl) h
theorem sgnL3 (x y : Nat) (h : AllP [isNaN x = false, isNaN y = true, FWord y, FWord x, isNaN (atan2W y x) = true]) : PureTo Try.prog 8 [.v (.float .f64 x), .v (.float .f64 y)] (AV.v (.bool true)) :=
  evFn_pure hm moT5 (fn := Try.f8) rfl rfl (ti := false) (hs := [CHint.ops 1 [(1, Hint.b false), (4, Hint.b true)], CHint.ops 2 [(3, Hint.b true)]]) (c := _) (by kernel_rfl) h
theorem sgnL4 (x y : Nat) (h : AllP [isNaN x = false, isNaN y = true, FWord y, FWord x, isNaN (atan2W y x) = false]) : PureTo Try.prog 8 [.v (.float .f64 x), .v (.float .f64 y)] (AV.v (.bool false)) :=
  evFn_pure hm moT5 (fn := Try.f8) rfl rfl (ti := false) (hs := [CHint.ops 1 [(1, Hint.b false), (4, Hint.b true)], CHint.ops 2 [(3, Hint.b false)]]) (c := _) (by kernel_rfl) h
theorem sgnL5 (x y : Nat) (h : AllP [isNaN x = false, isNaN y = false, FWord x, FWord (fneg x), FWord x, (atanW (fneg x) == fneg (atanW x)) = true, isNaN (asinW x) = true, FWord (fneg y), FWord x, FWord y, FWord x, (atan2W (fneg y) x == fneg (atan2W y x)) = true, FWord y, FWord x, (flt FloatKind.f64 (abs (atan2W y x)) 4614256656552045848 || feq FloatKind.f64 (abs (atan2W y x)) 4614256656552045848) = true]) : PureTo Try.prog 8 [.v (.float .f64 x), .v (.float .f64 y)] (AV.v (.bool true)) :=
  evFn_pure hm moT5 (fn := Try.f8) rfl rfl (ti := false) (hs := [CHint.ops 1 [(1, Hint.b false), (4, Hint.b false)], CHint.ops 4 [(6, Hint.b true), (9, Hint.b true), (28, Hint.b true), (36, Hint.b true)]]) (c := _) (by kernel_rfl) h
theorem sgnL6 (x y : Nat) (h : AllP [isNaN x = false, isNaN y = false, FWord x, FWord (fneg x), FWord x, (atanW (fneg x) == fneg (atanW x)) = true, isNaN (asinW x) = true, FWord (fneg y), FWord x, FWord y, FWord x, (atan2W (fneg y) x == fneg (atan2W y x)) = true, FWord y, FWord x, (flt FloatKind.f64 (abs (atan2W y x)) 4614256656552045848 || feq FloatKind.f64 (abs (atan2W y x)) 4614256656552045848) = false]) : PureTo Try.prog 8 [.v (.float .f64 x), .v (.float .f64 y)] (AV.v (.bool false)) :=
  evFn_pure hm moT5 (fn := Try.f8) rfl rfl (ti := false) (hs := [CHint.ops 1 [(1, Hint.b false), (4, Hint.b false)], CHint.ops 4 [(6, Hint.b true), (9, Hint.b true), (28, Hint.b true), (36, Hint.b false)]]) (c := _) (by kernel_rfl) h
theorem sgnL7 (x y : Nat) (h : AllP [isNaN x = false, isNaN y = false, FWord x, FWord (fneg x), FWord x, (atanW (fneg x) == fneg (atanW x)) = true, isNaN (asinW x) = true, FWord (fneg y), FWord x, FWord y, FWord x, (atan2W (fneg y) x == fneg (atan2W y x)) = false]) : PureTo Try.prog 8 [.v (.float .f64 x), .v (.float .f64 y)] (AV.v (.bool false)) :=
  evFn_pure hm moT5 (fn := Try.f8) rfl rfl (ti := false) (hs := [CHint.ops 1 [(1, Hint.b false), (4, Hint.b false)], CHint.ops 4 [(6, Hint.b true), (9, Hint.b true), (28, Hint.b false)]]) (c := _) (by kernel_rfl) h
theorem sgnL8 (x y : Nat) (h : AllP [isNaN x = false, isNaN y = false, FWord x, FWord (fneg x), FWord x, (atanW (fneg x) == fneg (atanW x)) = true, isNaN (asinW x) = false, FWord (fneg x), (asinW (fneg x) == fneg (asinW x)) = true, FWord (fneg y), FWord x, FWord y, FWord x, (atan2W (fneg y) x == fneg (atan2W y x)) = true, FWord y, FWord x, (flt FloatKind.f64 (abs (atan2W y x)) 4614256656552045848 || feq FloatKind.f64 (abs (atan2W y x)) 4614256656552045848) = true]) : PureTo Try.prog 8 [.v (.float .f64 x), .v (.float .f64 y)] (AV.v (.bool true)) :=
  evFn_pure hm moT5 (fn := Try.f8) rfl rfl (ti := false) (hs := [CHint.ops 1 [(1, Hint.b false), (4, Hint.b false)], CHint.ops 4 [(6, Hint.b true), (9, Hint.b false), (16, Hint.b true), (28, Hint.b true), (36, Hint.b true)]]) (c := _) (by kernel_rfl) h
theorem sgnL9 (x y : Nat) (h : AllP [isNaN x = false, isNaN y = false, FWord x, FWord (fneg x), FWord x, (atanW (fneg x) == fneg (atanW x)) = true, isNaN (asinW x) = false, FWord (fneg x), (asinW (fneg x) == fneg (asinW x)) = true, FWord (fneg y), FWord x, FWord y, FWord x, (atan2W (fneg y) x == fneg (atan2W y x)) = true, FWord y, FWord x, (flt FloatKind.f64 (abs (atan2W y x)) 4614256656552045848 || feq FloatKind.f64 (abs (atan2W y x)) 4614256656552045848) = false]) : PureTo Try.prog 8 [.v (.float .f64 x), .v (.float .f64 y)] (AV.v (.bool false)) :=
  evFn_pure hm moT5 (fn := Try.f8) rfl rfl (ti := false) (hs := [CHint.ops 1 [(1, Hint.b false), (4, Hint.b false)], CHint.ops 4 [(6, Hint.b true), (9, Hint.b false), (16, Hint.b true), (28, Hint.b true), (36, Hint.b false)]]) (c := _) (by kernel_rfl) h
theorem sgnL10 (x y : Nat) (h : AllP [isNaN x = false, isNaN y = false, FWord x, FWord (fneg x), FWord x, (atanW (fneg x) == fneg (atanW x)) = true, isNaN (asinW x) = false, FWord (fneg x), (asinW (fneg x) == fneg (asinW x)) = true, FWord (fneg y), FWord x, FWord y, FWord x, (atan2W (fneg y) x == fneg (atan2W y x)) = false]) : PureTo Try.prog 8 [.v (.float .f64 x), .v (.float .f64 y)] (AV.v (.bool false)) :=
  evFn_pure hm moT5 (fn := Try.f8) rfl rfl (ti := false) (hs := [CHint.ops 1 [(1, Hint.b false), (4, Hint.b false)], CHint.ops 4 [(6, Hint.b true), (9, Hint.b false), (16, Hint.b true), (28, Hint.b false)]]) (c := _) (by kernel_rfl) h
theorem sgnL11 (x y : Nat) (h : AllP [isNaN x = false, isNaN y = false, FWord x, FWord (fneg x), FWord x, (atanW (fneg x) == fneg (atanW x)) = true, isNaN (asinW x) = false, FWord (fneg x), (asinW (fneg x) == fneg (asinW x)) = false]) : PureTo Try.prog 8 [.v (.float .f64 x), .v (.float .f64 y)] (AV.v (.bool false)) :=
  evFn_pure hm moT5 (fn := Try.f8) rfl rfl (ti := false) (hs := [CHint.ops 1 [(1, Hint.b false), (4, Hint.b false)], CHint.ops 4 [(6, Hint.b true), (9, Hint.b false), (16, Hint.b false)]]) (c := _) (by kernel_rfl) h
theorem sgnL12 (x y : Nat) (h : AllP [isNaN x = false, isNaN y = false, FWord x, FWord (fneg x), FWord x, (atanW (fneg x) == fneg (atanW x)) = false]) : PureTo Try.prog 8 [.v (.float .f64 x), .v (.float .f64 y)] (AV.v (.bool false)) :=
  evFn_pure hm moT5 (fn := Try.f8) rfl rfl (ti := false) (hs := [CHint.ops 1 [(1, Hint.b false), (4, Hint.b false)], CHint.ops 4 [(6, Hint.b false)]]) (c := _) (by kernel_rfl) h
end Go.Proofs.Mf

/- Functions of mathematics: the signs of angles. -/
set_option maxRecDepth 100000
set_option exponentiation.threshold 2200
namespace Go.Proofs.Mf
open Go Go.Ev Ieee

theorem abs_fneg (x : Nat) : abs (fneg x) = abs x := by rw [abs_word, abs_word, rg_fneg]
theorem cs_fneg {v x : Nat} (h : Num v) : cs v (fneg x) = fneg (cs v x) := by
  rw [cs_word, cs_word, sg_fneg, fneg_wordOf h]
theorem num_fneg {x : Nat} (h : Num x) : Num (fneg x) := by unfold Num; rw [rg_fneg]; exact h
theorem feq_fneg {x : Nat} (h : Num x) : feq .f64 (fneg x) 0 = feq .f64 x 0 := by
  rw [← feq_abs (num_fneg h), abs_fneg, feq_abs h]
theorem atan_fneg {x : Nat} (h : Num x) : atanW (fneg x) = fneg (atanW x) := by
  unfold atanW
  rw [isNaN_num.2 h, isNaN_num.2 (num_fneg h), feq_fneg h]
  simp only [Bool.false_eq_true, if_false]
  split
  · rfl
  · have e1 : atanB (fneg x) = atanB x := by unfold atanB; rw [abs_fneg]
    have e2 : atanY (fneg x) = atanY x := by unfold atanY; rw [abs_fneg]
    rw [e1, e2]
    obtain ⟨my, mb⟩ := atanY_mag h
    exact cs_fneg (atanV_mag mb my).num
theorem sub_fneg {x y : Nat} (hx : Fit x) (hy : Fit y) : fsub x (fneg y) = fadd x y := by
  rw [fsub_V hx (fin_fneg hy), fadd_V hx hy, V_fneg, sg_fneg, Bool.not_not, Int.sub_neg]
theorem add_fneg {x y : Nat} (hx : Fit x) (hy : Fit y) : fadd x (fneg y) = fsub x y := by
  rw [fsub_V hx hy, fadd_V hx (fin_fneg hy), V_fneg, sg_fneg, Int.sub_eq_add_neg]
theorem mul_comm {x y : Nat} (hx : Fit x) (hy : Fit y) : fmul x y = fmul y x := by
  unfold fmul Format.mul
  rw [read_fin hx, read_fin hy]
  show FloatKind.f64.format.nearest _ _ _ = FloatKind.f64.format.nearest _ _ _
  rw [Bool.xor_comm, Nat.mul_comm, Int.add_comm]
theorem side_fneg {x : Nat} (hw : FWord x) (hn : Num x) (h : fgt .f64 (abs x) 4607182418800017408 = false) : side (fneg x) = side x := by
  have hle := le_one hn h
  have hv := V_abs x
  have hx : Mag x 0 := mag_of hw hn (by decide) (by rw [Nat.pow_zero, Nat.one_mul]; omega) (by rw [Nat.pow_zero, Nat.one_mul]; omega)
  unfold side
  rw [sub_fneg mag_one.fit hx.fit, add_fneg mag_one.fit hx.fit]
  congr 1
  exact mul_comm (mag_add (k := 0) mag_one hx (by decide) (by decide) (by decide)).fit (mag_sub (k := 0) mag_one hx (by decide) (by decide) (by decide)).fit

/-! ### how great an angle can be -/
theorem le_word {s : Bool} {a b r c : Nat} (h : RN a b r) (hc : c ≤ 9218868437227405312) (ha : a ≤ valN c * b) : valN (rg (wordOf s r)) ≤ valN c := by
  rw [rg_wordOf h.fin]
  exact valN_le_iff.2 (h.le _ hc ha)
theorem mul_le {x y c : Nat} (hx : Fit x) (hy : Fit y) (hc : c ≤ 9218868437227405312) (h : valN (rg x) * valN (rg y) ≤ valN c * U) : valN (rg (fmul x y)) ≤ valN c := by
  obtain ⟨r, r1, r2⟩ := fmul_RN hx hy
  rw [r1]; exact le_word r2 hc h
theorem div_le {x y c : Nat} (hx : Fit x) (hy : Fit y) (h0 : rg y ≠ 0) (hc : c ≤ 9218868437227405312) (h : valN (rg x) * U ≤ valN c * valN (rg y)) : valN (rg (fdiv x y)) ≤ valN c := by
  obtain ⟨r, r1, r2⟩ := fdiv_RN hx hy h0
  rw [r1]; exact le_word r2 hc h
theorem add_le {x y c : Nat} (hx : Fit x) (hy : Fit y) (hc : c ≤ 9218868437227405312) (h : valN (rg x) + valN (rg y) ≤ valN c) : valN (rg (fadd x y)) ≤ valN c := by
  obtain ⟨r, r1, r2⟩ := fadd_RN hx hy
  rw [r1]; exact le_word r2 hc (by have := V_abs x; have := V_abs y; omega)
theorem sub_le {x y c : Nat} (hx : Fit x) (hy : Fit y) (hc : c ≤ 9218868437227405312) (h : (V x - V y).natAbs ≤ valN c) : valN (rg (fsub x y)) ≤ valN c := by
  obtain ⟨r, r1, r2⟩ := fsub_RN hx hy
  rw [r1]; exact le_word r2 hc (by omega)

-- 1/2, 3/4, 9/16, 3/2, 5/2, 45/32, 15/8, 5/4, 3
def c12 : Nat := 4602678819172646912
def c34 : Nat := 4604930618986332160
def c916 : Nat := 4603241769126068224
def d32 : Nat := 4609434218613702656
def c52 : Nat := 4612811918334230528
def c4532 : Nat := 4609011976248336384 + 42221246506598400
def c158 : Nat := 4611123068473966592
def c54 : Nat := 4608308318706860032
def c3 : Nat := 4613937818241073152
theorem v12 : valN c12 * 2 = 1 * U := by decide +kernel
theorem v34 : valN c34 * 4 = 3 * U := by decide +kernel
theorem v916 : valN c916 * 16 = 9 * U := by decide +kernel
theorem v32 : valN d32 * 2 = 3 * U := by decide +kernel
theorem v52 : valN c52 * 2 = 5 * U := by decide +kernel
theorem v158 : valN c158 * 8 = 15 * U := by decide +kernel
theorem v54 : valN c54 * 4 = 5 * U := by decide +kernel
theorem v3 : valN c3 = 3 * U := by decide +kernel

theorem prod_le {a b c n m k l u : Nat} (h1 : a * n ≤ k * u) (h2 : b * m ≤ l * u) (hn : 0 < n) (hm : 0 < m) (hc : k * l * u ≤ c * (n * m)) : a * b ≤ c * u := by
  have h := Nat.mul_le_mul h1 h2
  have e1 : a * n * (b * m) = a * b * (n * m) := by ac_rfl
  have e2 : k * u * (l * u) = k * l * u * u := by ac_rfl
  rw [e1, e2] at h
  have h3 := Nat.mul_le_mul_right u hc
  have e3 : c * (n * m) * u = c * u * (n * m) := by ac_rfl
  rw [e3] at h3
  exact Nat.le_of_mul_le_mul_right (Nat.le_trans h h3) (Nat.mul_pos hn hm)

/-- 45/32, a little more -/
theorem hornA_bound {z : Nat} (hz : Mag z 6) (hz2 : valN (rg z) * 16 ≤ 9 * U) : ∀ (n p a : Nat), n ≤ 20 → Mag p a → a + 7 * n ≤ 1000 → valN (rg p) ≤ valN c52 → valN (rg (hornA z n p)) ≤ valN c52 := by
  intro n
  induction n with
  | zero => intro p a _ _ _ h; exact h
  | succ n ih =>
    intro p a hn hp hk hb
    have h1 := mag_mul hz hp rfl (by omega)
    obtain ⟨f1, f2⟩ := int_one (i := 2 * (n : Int) + 1) (by omega) (by omega)
    have h2 := mag_div mag_one f1 f2 (by omega)
    have h3 := mag_sub (k := a + 6) h2 h1 (by omega) (by omega) (by omega)
    unfold hornA
    refine ih _ (a + 7) (by omega) h3 (by omega) ?_
    have e52 := v52
    have e32 := v32
    have zp : valN (rg (fmul z p)) ≤ valN d32 :=
      mul_le hz.fit hp.fit (by decide) (prod_le (n := 16) (k := 9) (m := 2) (l := 5) hz2 (by omega) (by decide) (by decide) (by omega))
    have q := h2.le
    rw [Nat.pow_zero, Nat.one_mul] at q
    refine sub_le h2.fit h1.fit (by decide) ?_
    have key : ∀ (a b : Int) (p q u c d : Nat), a.natAbs = p → b.natAbs = q → p ≤ u → q ≤ d → d * 2 = 3 * u → c * 2 = 5 * u → (a - b).natAbs ≤ c := by
      intro a b p q u c d h1 h2 h3 h4 h5 h6
      omega
    exact key _ _ _ _ _ _ _ (V_abs _) (V_abs _) q zp e32 e52

theorem two_le {a : Nat} (ha : Fit a) (h : U ≤ valN (rg a)) (hs : sg a = false) : 2 * U ≤ valN (rg (fadd a one)) := by
  obtain ⟨r, r1, r2⟩ := fadd_RN ha mag_one.fit
  have c2 : valN 4611686018427387904 = 2 * U := by decide +kernel
  rw [r1, rg_wordOf r2.fin, ← c2]
  refine valN_le_iff.2 (r2.ge _ (by decide) ?_)
  have := V_abs a
  have := V_pos hs
  have := V_oneW
  omega

theorem atanY_bound {x : Nat} (hn : Num x) : valN (rg (atanY x)) * 4 ≤ 3 * U ∧ (valN (rg (atanY x)) * 2 ≤ 1 * U ∧ valN (rg (atanB x)) * 16 ≤ 27 * U ∨ valN (rg (atanB x)) ≤ U) := by
  have na := num_abs.2 hn
  have va := V_absN hn
  have sa := sg_abs hn
  have wa := word_abs hn
  have e12 := v12
  have e34 := v34
  have e32 := v32
  have ho := V_oneW
  have ho2 : valN (rg one) = U := by decide +kernel
  unfold atanY atanB
  cases h1 : fgt .f64 (abs x) 4612618744449965542 with
  | true =>
    simp only [if_true]
    rw [fgt_V na (by unfold Num; decide), decide_eq_true_eq] at h1
    have key : valN (rg (fdiv negone (abs x))) ≤ valN c12 := by
      by_cases hi : rg x = 9218868437227405312
      · have e : abs x = 9218868437227405312 := by rw [abs_word, hi]; rfl
        rw [e]
        decide +kernel
      · have hf : Fit (abs x) := by unfold Fit; rw [rg_abs]; unfold Num at hn; omega
        have c : ((2 * U : Nat) : Int) ≤ V 4612618744449965542 := by decide +kernel
        have hge : 2 * U ≤ valN (rg (abs x)) := by rw [rg_abs]; omega
        have h0 : rg (abs x) ≠ 0 := by intro h; rw [h, valN_zero] at hge; have := U_pos; omega
        refine div_le mag_negone.fit hf h0 (by decide) ?_
        have hno : valN (rg negone) = U := by decide +kernel
        rw [hno]
        calc U * U = valN c12 * (2 * U) := by rw [← Nat.mul_assoc, e12, Nat.one_mul]
          _ ≤ _ := Nat.mul_le_mul_left _ hge
    have hb : valN (rg 4609753056924675352) * 16 ≤ 27 * U := by decide +kernel
    exact ⟨by omega, .inl ⟨by omega, hb⟩⟩
  | false =>
    simp only [Bool.false_eq_true, if_false]
    rw [fgt_V na (by unfold Num; decide), decide_eq_false_iff_not] at h1
    have c1 : V 4612618744449965542 * 2 ≤ ((5 * U : Nat) : Int) := by decide +kernel
    have c2 : ((5 * U : Nat) : Int) ≤ ((2 ^ 2 * U : Nat) : Int) * 2 := by decide +kernel
    have ma : Mag (abs x) 2 := mag_of wa na (by decide) (by omega) (by omega)
    cases h2 : fgt .f64 (abs x) 4601133428098527026 with
    | true =>
      simp only [if_true]
      rw [fgt_V na (by unfold Num; decide), decide_eq_true_eq] at h2
      have c3' : ((2 * U : Nat) : Int) ≤ V 4601133428098527026 * 5 := by decide +kernel
      obtain ⟨d1, d2⟩ := add_one ma sa (by decide)
      have h0 : rg (fadd (abs x) one) ≠ 0 := by intro h; rw [h, valN_zero] at d2; have := U_pos; omega
      have ms := mag_sub (k := 2) ma mag_one (by decide) (by decide) (by decide)
      have hb : valN (rg 4605249457297304856) ≤ U := by decide +kernel
      have key : valN (rg (fdiv (fsub (abs x) one) (fadd (abs x) one))) ≤ valN c34 := by
        refine div_le ms.fit d1.fit h0 (by decide) ?_
        by_cases hb : U ≤ valN (rg (abs x))
        · have t := two_le ma.fit hb sa
          have n1 : valN (rg (fsub (abs x) one)) ≤ valN d32 := sub_le ma.fit mag_one.fit (by decide) (by rw [rg_abs] at hb; omega)
          have e : valN d32 = valN c34 * 2 := by omega
          calc valN (rg (fsub (abs x) one)) * U ≤ valN c34 * 2 * U := Nat.mul_le_mul_right _ (by omega)
            _ = valN c34 * (2 * U) := Nat.mul_assoc _ _ _
            _ ≤ _ := Nat.mul_le_mul_left _ t
        · have n1 : valN (rg (fsub (abs x) one)) ≤ valN c34 := sub_le ma.fit mag_one.fit (by decide) (by rw [rg_abs] at hb; omega)
          exact Nat.mul_le_mul n1 d2
      exact ⟨by omega, .inr hb⟩
    | false =>
      simp only [Bool.false_eq_true, if_false]
      rw [fgt_V na (by unfold Num; decide), decide_eq_false_iff_not] at h2
      have c3' : V 4601133428098527026 * 4 ≤ ((3 * U : Nat) : Int) := by decide +kernel
      rw [rg_abs]
      exact ⟨by omega, .inr (by decide +kernel)⟩

theorem atanV_bound {x : Nat} (hn : Num x) : valN (rg (atanV (atanB x) (atanY x))) ≤ valN c3 := by
  obtain ⟨my, mb⟩ := atanY_mag hn
  obtain ⟨b1, b2⟩ := atanY_bound hn
  have z := mag_mul (k := 6) my my rfl (by decide)
  have e916 := v916
  have e52 := v52
  have e158 := v158
  have e54 := v54
  have e3 := v3
  have hz : valN (rg (fmul (atanY x) (atanY x))) ≤ valN c916 :=
    mul_le my.fit my.fit (by decide) (prod_le (n := 4) (k := 3) (m := 4) (l := 3) b1 b1 (by decide) (by decide) (by omega))
  have p : Mag (atanP (atanY x)) (0 + 7 * 20) := hornA_mag z 20 0 0 (by decide) (by decide +kernel) (by decide)
  have pb : valN (rg (atanP (atanY x))) ≤ valN c52 := hornA_bound z (by omega) 20 0 0 (by decide) (by decide +kernel) (by decide) (by decide +kernel)
  have m := mag_mul (k := 143) my p rfl (by decide)
  unfold atanV
  refine add_le mb.fit m.fit (by decide) ?_
  rcases b2 with ⟨b2, b3⟩ | b3
  · have d : valN (rg (fmul (atanY x) (atanP (atanY x)))) ≤ valN c54 :=
      mul_le my.fit p.fit (by decide) (prod_le (n := 2) (k := 1) (m := 2) (l := 5) b2 (by omega) (by decide) (by decide) (by omega))
    omega
  · have d : valN (rg (fmul (atanY x) (atanP (atanY x)))) ≤ valN c158 :=
      mul_le my.fit p.fit (by decide) (prod_le (n := 4) (k := 3) (m := 2) (l := 5) b1 (by omega) (by decide) (by decide) (by omega))
    omega

theorem rg_cs {v x : Nat} (h : Num v) : rg (cs v x) = rg v := by rw [cs_word, rg_wordOf h]
theorem c3_pi : valN c3 ≤ valN (rg piW) := by decide +kernel
theorem atan_small {x : Nat} (hw : FWord x) (hn : Num x) : valN (rg (atanW x)) ≤ valN (rg piW) := by
  unfold atanW
  rw [isNaN_num.2 hn, if_neg (by decide)]
  split
  · next h =>
    rw [feq_V hn fin_zero.num, V_null, decide_eq_true_eq, V_zero] at h
    rw [h, valN_zero]; exact Nat.zero_le _
  · obtain ⟨my, mb⟩ := atanY_mag hn
    rw [rg_cs (atanV_mag mb my).num]
    exact Nat.le_trans (atanV_bound hn) c3_pi
theorem sg_atan {x : Nat} (hn : Num x) : sg (atanW x) = sg x := by
  unfold atanW
  rw [isNaN_num.2 hn, if_neg (by decide)]
  split
  · rfl
  · obtain ⟨my, mb⟩ := atanY_mag hn
    have hv : rg (atanV (atanB x) (atanY x)) ≤ 9218868437227405312 := (atanV_mag mb my).num
    rw [cs_word, sg_wordOf hv]
theorem pi_top : rg piW ≤ 9218868437227405312 := by decide +kernel
theorem angW_small {l : Bool} {y x : Nat} (hy : Pz y) (hx : Pz x) : Num (angW l y x) ∧ valN (rg (angW l y x)) ≤ valN (rg piW) := by
  unfold angW
  cases h1 : feq .f64 y 0 with
  | true => simp only [if_true]; cases l <;> exact ⟨by decide +kernel, by decide +kernel⟩
  | false =>
    simp only [Bool.false_eq_true, if_false]
    cases h2 : feq .f64 x 0 with
    | true => simp only [if_true]; exact ⟨by decide +kernel, by decide +kernel⟩
    | false =>
      simp only [Bool.false_eq_true, if_false]
      cases h3 : isInf y 1 with
      | true =>
        simp only [if_true]
        cases h4 : isInf x 1 with
        | true => simp only [if_true]; cases l <;> exact ⟨by decide +kernel, by decide +kernel⟩
        | false => simp only [Bool.false_eq_true, if_false]; exact ⟨by decide +kernel, by decide +kernel⟩
      | false =>
        simp only [Bool.false_eq_true, if_false]
        cases h4 : isInf x 1 with
        | true => simp only [if_true]; cases l <;> exact ⟨by decide +kernel, by decide +kernel⟩
        | false =>
          simp only [Bool.false_eq_true, if_false]
          obtain ⟨q, qs⟩ := quot_clean hy hx h2 h3 h4
          have ma := atanW_mag q.1 q.2
          have hs := atan_small q.1 q.2
          cases l
          · simp only [Bool.false_eq_true, if_false]
            exact ⟨ma.num, hs⟩
          · simp only [if_true]
            refine ⟨(mag_sub (k := 200) mag_pi ma (by decide) (by decide) (by decide)).num, sub_le mag_pi.fit ma.fit pi_top ?_⟩
            have e1 := V_abs piW
            have e2 := V_abs (atanW (fdiv y x))
            have p1 : 0 ≤ V piW := by decide +kernel
            have p2 := V_pos ((sg_atan q.2).trans qs)
            omega

theorem atan2_num {y x : Nat} (hy : Num y) (hx : Num x) : atan2W y x = cs (angW (sgn x) (abs y) (abs x)) y := by
  unfold atan2W
  rw [isNaN_num.2 hy, isNaN_num.2 hx, if_neg (by simp)]
theorem atan2_fneg {y x : Nat} (hy : Num y) (hx : Num x) : atan2W (fneg y) x = fneg (atan2W y x) := by
  rw [atan2_num hy hx, atan2_num (num_fneg hy) hx, abs_fneg]
  exact cs_fneg (angW_small (pz_abs hy) (pz_abs hx)).1
theorem asin_fneg {x : Nat} (hw : FWord x) (hn : Num x) (h : isNaN (asinW x) = false) : asinW (fneg x) = fneg (asinW x) := by
  unfold asinW at h ⊢
  rw [isNaN_num.2 hn, isNaN_num.2 (num_fneg hn), abs_fneg, feq_fneg hn] at *
  simp only [Bool.false_eq_true, if_false] at h ⊢
  cases h2 : fgt .f64 (abs x) 4607182418800017408 with
  | true => rw [h2] at h; simp only [if_true] at h; exact absurd h (by decide +kernel)
  | false =>
    simp only [Bool.false_eq_true, if_false]
    split
    · rfl
    · rw [side_fneg hw hn h2]
      exact atan2_fneg hn (fsqrt_clean (pz_side hw hn h2)).2

theorem signs_law {x y : Nat} (hx : FWord x) (hy : FWord y) : PureTo Try.prog 8 [.v (.float .f64 x), .v (.float .f64 y)] (.v (.bool true)) := by
  cases n1 : isNaN x with
  | true => exact sgnL1 x y ⟨n1, hy, hx, by unfold atan2W; rw [if_pos (.inr n1)]; decide +kernel, trivial⟩
  | false =>
    cases n2 : isNaN y with
    | true => exact sgnL3 x y ⟨n1, n2, hy, hx, by unfold atan2W; rw [if_pos (.inl n2)]; decide +kernel, trivial⟩
    | false =>
      have hnx := isNaN_num.1 n1
      have hny := isNaN_num.1 n2
      have e1 : (atanW (fneg x) == fneg (atanW x)) = true := by rw [atan_fneg hnx]; simp
      have e2 : (atan2W (fneg y) x == fneg (atan2W y x)) = true := by rw [atan2_fneg hny hnx]; simp
      have e3 : (flt .f64 (abs (atan2W y x)) 4614256656552045848 || feq .f64 (abs (atan2W y x)) 4614256656552045848) = true := by
        obtain ⟨a1, a2⟩ := angW_small (l := sgn x) (pz_abs hny) (pz_abs hnx)
        have hc : Num (atan2W y x) := by rw [atan2_num hny hnx]; unfold Num; rw [rg_cs a1]; exact a1
        have hp : Num 4614256656552045848 := by unfold Num; decide
        rw [flt_V (num_abs.2 hc) hp, feq_V (num_abs.2 hc) hp, V_absN hc, Bool.or_eq_true, decide_eq_true_eq, decide_eq_true_eq]
        have hv : V 4614256656552045848 = valN (rg piW) := by decide +kernel
        have : valN (rg (atan2W y x)) ≤ valN (rg piW) := by rw [atan2_num hny hnx, rg_cs a1]; exact a2
        omega
      cases h3 : isNaN (asinW x) with
      | true => exact sgnL5 x y ⟨n1, n2, hx, word_fneg hx, hx, e1, h3, word_fneg hy, hx, hy, hx, e2, hy, hx, e3, trivial⟩
      | false => exact sgnL8 x y ⟨n1, n2, hx, word_fneg hx, hx, e1, h3, word_fneg hx, by rw [asin_fneg hx hnx h3]; simp, word_fneg hy, hx, hy, hx, e2, hy, hx, e3, trivial⟩
end Go.Proofs.Mf

/- Functions of mathematics: what an angle leaves is small; the cosine of it is not nought. -/
set_option maxRecDepth 100000
set_option exponentiation.threshold 2200
namespace Go.Proofs.Mf
open Go Go.Ev Ieee

/-- the grain: 2 ^ -31 -/
def G : Nat := 2 ^ 1043
theorem G_pos : 0 < G := Nat.two_pow_pos _
theorem U_G : U = 2147483648 * G := by decide +kernel

theorem rn_grid {a b r : Nat} (h : RN a b r) (hb : 0 < b) (ha : a < 9007199254740991 * G * b) : a ≤ (valN r + G) * b ∧ valN r * b ≤ a + G * b := by
  have hgb : 0 < G * b := Nat.mul_pos G_pos hb
  generalize hk : a / (G * b) = k
  have h1 : k * (G * b) ≤ a := by rw [← hk]; exact Nat.div_mul_le_self _ _
  have h2 : a < (k + 1) * (G * b) := by rw [← hk, Nat.mul_comm]; exact Nat.lt_mul_div_succ _ hgb
  have h3 : k < 9007199254740991 := by
    rw [Nat.mul_assoc] at ha
    exact Nat.lt_of_mul_lt_mul_right (Nat.lt_of_le_of_lt h1 ha)
  have e53 : (2 : Nat) ^ 53 = 9007199254740992 := by decide
  obtain ⟨c, c1, c2⟩ := rep k 1043 (by omega) (by decide)
  obtain ⟨d, d1, d2⟩ := rep (k + 1) 1043 (by omega) (by decide)
  have hG : (2 : Nat) ^ 1043 = G := rfl
  rw [hG] at c2 d2
  have k1 : c ≤ r := h.ge c (Nat.le_of_lt c1) (by rw [c2, Nat.mul_assoc]; exact h1)
  have k2 : r ≤ d := h.le d (Nat.le_of_lt d1) (by rw [d2, Nat.mul_assoc]; exact Nat.le_of_lt h2)
  have v1 := valN_le_iff.2 k1
  have v2 := valN_le_iff.2 k2
  rw [c2] at v1
  rw [d2] at v2
  have e1 : (k + 1) * (G * b) = (k * G + G) * b := by rw [Nat.add_mul, Nat.one_mul, Nat.add_mul, Nat.mul_assoc]
  constructor
  · refine Nat.le_of_lt (Nat.lt_of_lt_of_le h2 ?_)
    rw [e1]
    exact Nat.mul_le_mul_right _ (by omega)
  · calc valN r * b ≤ (k + 1) * G * b := Nat.mul_le_mul_right _ v2
      _ = k * (G * b) + G * b := by rw [Nat.add_mul, Nat.one_mul, Nat.add_mul, Nat.mul_assoc]
      _ ≤ a + G * b := by omega

theorem sv_dist {s : Bool} {A B P n E : Nat} (h1 : B * n ≤ A * P + E) (h2 : A * P ≤ B * n + E) : (sv s A * P - sv s B * n).natAbs ≤ E := by
  have e1 : ((A * P : Nat) : Int) = (A : Int) * P := by push_cast; rfl
  have e2 : ((B * n : Nat) : Int) = (B : Int) * n := by push_cast; rfl
  unfold sv
  split
  · rw [Int.neg_mul, Int.neg_mul]; omega
  · omega
theorem mul_err {x c n p : Nat} (hx : Fit x) (hc : Fit c) (hs : sg c = false) (hv : valN (rg c) * p = n * U) (hp : 0 < p) (hb : valN (rg x) * n < 9007199254740991 * G * p) :
    (V (fmul x c) * p - V x * n).natAbs ≤ G * p := by
  obtain ⟨r, r1, r2⟩ := fmul_RN hx hc
  have hU := U_pos
  have e1 : valN (rg x) * valN (rg c) * p = valN (rg x) * n * U := by rw [Nat.mul_assoc, hv, Nat.mul_assoc]
  obtain ⟨g1, g2⟩ := rn_grid r2 hU (by
    have h : valN (rg x) * valN (rg c) * p < 9007199254740991 * G * U * p := by
      rw [e1, Nat.mul_right_comm (9007199254740991 * G) U p]
      exact Nat.mul_lt_mul_of_pos_right hb hU
    exact Nat.lt_of_mul_lt_mul_right h)
  have k1 : valN (rg x) * n ≤ valN r * p + G * p := by
    have h := Nat.mul_le_mul_right p g1
    rw [e1, show (valN r + G) * U * p = (valN r * p + G * p) * U by rw [← Nat.add_mul]; ac_rfl] at h
    exact Nat.le_of_mul_le_mul_right h hU
  have k2 : valN r * p ≤ valN (rg x) * n + G * p := by
    have h := Nat.mul_le_mul_right p g2
    rw [Nat.add_mul, e1, show valN r * U * p = valN r * p * U by ac_rfl, show G * U * p = G * p * U by ac_rfl, ← Nat.add_mul] at h
    exact Nat.le_of_mul_le_mul_right h hU
  rw [r1, V_wordOf r2.fin, hs, Bool.xor_false]
  exact sv_dist k1 k2
theorem sum_err {S : Int} {s : Bool} {r : Nat} (h : RN S.natAbs 1 r) (hs : S ≠ 0 → s = decide (S < 0)) (hb : S.natAbs < 9007199254740991 * G) : (V (wordOf s r) - S).natAbs ≤ G := by
  obtain ⟨g1, g2⟩ := rn_grid h (by decide) (by rw [Nat.mul_one]; exact hb)
  rw [Nat.mul_one] at g1 g2
  rw [Nat.mul_one] at g2
  rw [V_wordOf h.fin]
  by_cases h0 : S = 0
  · have : r = 0 := Nat.le_zero.1 (h.le 0 (by decide) (by rw [h0]; simp))
    subst this
    rw [valN_zero, h0]
    unfold sv
    split <;> simp
  · rw [hs h0]
    unfold sv
    by_cases hn : S < 0
    · rw [decide_eq_true hn, if_pos rfl]; omega
    · rw [decide_eq_false hn, if_neg (by decide)]; omega
theorem add_err {x y : Nat} (hx : Fit x) (hy : Fit y) (hb : (V x + V y).natAbs < 9007199254740991 * G) : (V (fadd x y) - (V x + V y)).natAbs ≤ G := by
  obtain ⟨r, r1, r2⟩ := fadd_RN hx hy
  rw [r1]
  exact sum_err r2 (fun h => by rw [if_neg h]) hb
theorem sub_err {x y : Nat} (hx : Fit x) (hy : Fit y) (hb : (V x - V y).natAbs < 9007199254740991 * G) : (V (fsub x y) - (V x - V y)).natAbs ≤ G := by
  obtain ⟨r, r1, r2⟩ := fsub_RN hx hy
  rw [r1]
  exact sum_err r2 (fun h => by rw [if_neg h]) hb
theorem redK {w t u K G : Int} 
  (h1 : t * 9007199254740992 ≤ w * 5734161139222659 + G * 9007199254740992) (h1' : w * 5734161139222659 ≤ t * 9007199254740992 + G * 9007199254740992)
  (h2 : u ≤ t + 1073741824 * G + G) (h2' : t + 1073741824 * G ≤ u + G) (h3 : K ≤ u) (h3' : u < K + 2147483648 * G) :
  K * 9007199254740992 ≤ w * 5734161139222659 + 1073741826 * G * 9007199254740992 ∧ w * 5734161139222659 ≤ K * 9007199254740992 + 1073741826 * G * 9007199254740992 := by
  omega
-- x I = K + d, |d| <= 1/2 + ..
theorem redR {w K G h l r : Int} 
  (h1 : K * 9007199254740992 ≤ w * 5734161139222659 + 1073741826 * G * 9007199254740992) (h1' : w * 5734161139222659 ≤ K * 9007199254740992 + 1073741826 * G * 9007199254740992)
  (h4 : h * 1073741824 ≤ K * 1686629713 + G * 1073741824) (h4' : K * 1686629713 ≤ h * 1073741824 + G * 1073741824)
  (h5 : l * 77371252455336267181195264 ≤ K * 4701928774853425 + G * 77371252455336267181195264) (h5' : K * 4701928774853425 ≤ l * 77371252455336267181195264 + G * 77371252455336267181195264)
  (h6 : r ≤ w - h - l + 2 * G) (h6' : w - h - l ≤ r + 2 * G) (h8 : w ≤ 1048576 * (2147483648 * G)) (h8' : -(1048576 * (2147483648 * G)) ≤ w) : 8 * r ≤ 11 * (2147483648 * G) ∧ -(11 * (2147483648 * G)) ≤ 8 * r := by
  constructor <;> omega

theorem redP1 {W T X K H : Int} {g : Nat} (hw : W.natAbs ≤ 1048576 * (2147483648 * g))
    (e1 : (T * ((9007199254740992 : Nat) : Int) - W * ((5734161139222659 : Nat) : Int)).natAbs ≤ g * 9007199254740992) (e2 : (X - (T + 1073741824 * (g : Int))).natAbs ≤ g)
    (f1 : K ≤ X) (f2 : X < K + 2147483648 * (g : Int)) (e4 : (H * ((1073741824 : Nat) : Int) - K * ((1686629713 : Nat) : Int)).natAbs ≤ g * 1073741824) (hg : 0 < g) : (W - H).natAbs < 9007199254740991 * g := by
  obtain ⟨k1, k2⟩ := redK (w := W) (t := T) (u := X) (K := K) (G := g) (by omega) (by omega) (by omega) (by omega) f1 f2
  clear e1 e2 f1 f2
  omega
theorem redP2 {W T X K H A L R : Int} {g : Nat} (hw : W.natAbs ≤ 1048576 * (2147483648 * g))
    (e1 : (T * ((9007199254740992 : Nat) : Int) - W * ((5734161139222659 : Nat) : Int)).natAbs ≤ g * 9007199254740992) (e2 : (X - (T + 1073741824 * (g : Int))).natAbs ≤ g)
    (f1 : K ≤ X) (f2 : X < K + 2147483648 * (g : Int)) (e4 : (H * ((1073741824 : Nat) : Int) - K * ((1686629713 : Nat) : Int)).natAbs ≤ g * 1073741824)
    (e5 : (L * ((77371252455336267181195264 : Nat) : Int) - K * ((4701928774853425 : Nat) : Int)).natAbs ≤ g * 77371252455336267181195264)
    (e6 : (A - (W - H)).natAbs ≤ g) (e7 : (R - (A - L)).natAbs ≤ g) : (R.natAbs * 8 ≤ 11 * (2147483648 * g)) := by
  obtain ⟨k1, k2⟩ := redK (w := W) (t := T) (u := X) (K := K) (G := g) (by omega) (by omega) (by omega) (by omega) f1 f2
  obtain ⟨r1, r2⟩ := redR (w := W) (K := K) (G := g) (h := H) (l := L) (r := R) k1 k2 (by omega) (by omega) (by omega) (by omega) (by omega) (by omega) (by omega) (by omega)
  omega
theorem redA {W T X K H A : Int} {g : Nat} (hw : W.natAbs ≤ 1048576 * (2147483648 * g))
    (e1 : (T * ((9007199254740992 : Nat) : Int) - W * ((5734161139222659 : Nat) : Int)).natAbs ≤ g * 9007199254740992) (e2 : (X - (T + 1073741824 * (g : Int))).natAbs ≤ g)
    (f1 : K ≤ X) (f2 : X < K + 2147483648 * (g : Int)) (e4 : (H * ((1073741824 : Nat) : Int) - K * ((1686629713 : Nat) : Int)).natAbs ≤ g * 1073741824) (e6 : (A - (W - H)).natAbs ≤ g) (hg : 0 < g) : A.natAbs ≤ 4194304 * (2147483648 * g) - 2097153 * (2147483648 * g) := by
  obtain ⟨k1, k2⟩ := redK (w := W) (t := T) (u := X) (K := K) (G := g) (by omega) (by omega) (by omega) (by omega) f1 f2
  clear e1 e2 f1 f2
  omega
theorem redP3 {W H A L : Int} {g : Nat} (e6 : (A - (W - H)).natAbs ≤ g) (h1 : (W - H).natAbs < 9007199254740991 * g) (hA : A.natAbs ≤ 4194304 * (2147483648 * g) - 2097153 * (2147483648 * g)) (hL : L.natAbs ≤ 2097152 * (2147483648 * g)) (hg : 0 < g) : (A - L).natAbs < 9007199254740991 * g := by
  omega
theorem lt1 {v g : Nat} (h : v ≤ 1048576 * (2147483648 * g)) (hg : 0 < g) : v * 5734161139222659 < 9007199254740991 * g * 9007199254740992 := by omega
theorem lt4 {v g : Nat} (h : v ≤ 2097152 * (2147483648 * g)) (hg : 0 < g) : v * 1686629713 < 9007199254740991 * g * 1073741824 := by omega
theorem lt5 {v g : Nat} (h : v ≤ 2097152 * (2147483648 * g)) (hg : 0 < g) : v * 4701928774853425 < 9007199254740991 * g * 77371252455336267181195264 := by omega
theorem lt2 {T : Int} {v g : Nat} (ht : T.natAbs = v) (h : v ≤ 1048576 * (2147483648 * g)) (hg : 0 < g) : (T + 1073741824 * (g : Int)).natAbs < 9007199254740991 * g := by omega
theorem le20 {v : Nat} (h : v ≤ 2 ^ 20 * U) : v ≤ 1048576 * (2147483648 * G) := by
  rw [← U_G]; exact h
theorem le21 {v : Nat} (h : v ≤ 2 ^ 21 * U) : v ≤ 2097152 * (2147483648 * G) := by
  rw [← U_G]; exact h
theorem c_inv : valN (rg 4603909380684499075) * 9007199254740992 = 5734161139222659 * U := by decide +kernel
theorem c_half : V 4602678819172646912 = 1073741824 * (G : Int) := by decide +kernel
theorem c_hi : valN (rg 4609753056924401664) * 1073741824 = 1686629713 * U := by decide +kernel
theorem c_lo : valN (rg 4454258360616903473) * 77371252455336267181195264 = 4701928774853425 * U := by decide +kernel

theorem turnR_small {w : Nat} (h : Mag w 20) : valN (rg (turnR w)) * 8 ≤ 11 * U := by
  have t1 := mag_mul (k := 20) h (show Mag 4603909380684499075 0 by decide +kernel) rfl (by decide)
  have t2 := mag_add (k := 20) t1 (show Mag 4602678819172646912 0 by decide +kernel) (by decide) (by decide) (by decide)
  have q : Mag (turnQ w) 21 := (mag_floor t2).1
  have a1 := mag_mul (k := 22) q (show Mag 4609753056924401664 1 by decide +kernel) rfl (by decide)
  have a2 := mag_mul (k := 21) q (show Mag 4454258360616903473 0 by decide +kernel) rfl (by decide)
  have a3 := mag_sub (k := 22) h a1 (by decide) (by decide) (by decide)
  have hG := G_pos
  have hw := le20 h.le
  have ht := le20 t1.le
  have hq := le21 q.le
  have hl := le21 a2.le
  have e1 := mul_err h.fit (show Fit 4603909380684499075 by decide +kernel) (by decide +kernel) c_inv (by decide) (lt1 hw hG)
  have e2 := add_err t1.fit (show Fit 4602678819172646912 by decide +kernel) (by rw [c_half]; exact lt2 (V_abs _) ht hG)
  rw [c_half] at e2
  have e4 := mul_err q.fit (show Fit 4609753056924401664 by decide +kernel) (by decide +kernel) c_hi (by decide) (lt4 hq hG)
  have e5 := mul_err q.fit (show Fit 4454258360616903473 by decide +kernel) (by decide +kernel) c_lo (by decide) (lt5 hq hG)
  obtain ⟨f1, f2⟩ : V (turnQ w) ≤ V (fadd (fmul w 4603909380684499075) 4602678819172646912) ∧ V (fadd (fmul w 4603909380684499075) 4602678819172646912) < V (turnQ w) + 2147483648 * (G : Int) := by
    obtain ⟨k', r', _, _, hk', hlo', hhi'⟩ := floor_V t2.fit
    have hk2 : V (turnQ w) = k' * U := hk'
    have hu : (U : Int) = 2147483648 * (G : Int) := by
      have := congrArg (fun n : Nat => (n : Int)) U_G
      simpa using this
    rw [hk2, ← hu]
    rw [Int.add_mul, Int.one_mul] at hhi'
    exact ⟨hlo', hhi'⟩
  have hw' : (V w).natAbs ≤ 1048576 * (2147483648 * G) := by rw [V_abs]; exact hw
  have p1 := redP1 hw' e1 e2 f1 f2 e4 hG
  have e6 := sub_err h.fit a1.fit p1
  have hA : (V (fsub w (fmul (turnQ w) 4609753056924401664))).natAbs ≤ 4194304 * (2147483648 * G) - 2097153 * (2147483648 * G) := redA hw' e1 e2 f1 f2 e4 e6 hG
  have p3 := redP3 e6 p1 hA (by rw [V_abs]; exact hl) hG
  have e7 := sub_err a3.fit a2.fit p3
  have fin := redP2 hw' e1 e2 f1 f2 e4 e5 e6 e7
  rw [V_abs, ← U_G] at fin
  exact fin

/-! ### the cosine is above nought -/
theorem v3116 : valN 4611404543450677248 * 16 = 31 * U := by decide +kernel
theorem v3132 : valN 4606900943823306752 * 32 = 31 * U := by decide +kernel
theorem v132 : valN 4584664420663164928 * 32 = 1 * U := by decide +kernel
structure Cpos (c : Nat) : Prop where
  lo : valN c12 ≤ valN (rg c) * 16
  hi : valN (rg c) ≤ U
  pos : sg c = false
theorem sg_div {x y : Nat} (hx : Fit x) (hy : Fit y) (h0 : rg y ≠ 0) : sg (fdiv x y) = (sg x ^^ sg y) := by
  obtain ⟨r, r1, r2⟩ := fdiv_RN hx hy h0
  rw [r1, sg_wordOf r2.fin]
theorem sg_mul {x y : Nat} (hx : Fit x) (hy : Fit y) : sg (fmul x y) = (sg x ^^ sg y) := by
  obtain ⟨r, r1, r2⟩ := fmul_RN hx hy
  rw [r1, sg_wordOf r2.fin]
theorem hornC_pos {z : Nat} (hz : Mag z 48) (hz2 : valN (rg z) * 16 ≤ 31 * U) (hs : sg z = false) : ∀ (n p a : Nat), n ≤ 10 → Mag p a → a + 49 * n ≤ 1000 → Cpos p → Cpos (hornC z n p) := by
  intro n
  induction n with
  | zero => intro p a _ _ _ h; exact h
  | succ n ih =>
    intro p a hn hp hk hb
    have h1 := mag_mul hz hp rfl (by omega)
    have hi := int_c (n := n) (by omega)
    obtain ⟨f1, f2⟩ := int_one (i := (2 * ((n + 1 : Nat) : Int) - 1) * 2 * ((n + 1 : Nat) : Int)) (by omega) (by omega)
    have h2 := mag_div h1 f1 f2 (by omega)
    have h3 := mag_sub (k := a + 48) mag_one h2 (by omega) (by omega) (by omega)
    unfold hornC
    refine ih _ (a + 49) (by omega) h3 (by omega) ?_
    generalize hI : (2 * ((n + 1 : Nat) : Int) - 1) * 2 * ((n + 1 : Nat) : Int) = I at *
    have si : sg (fofI I) = false ∧ 2 * U ≤ valN (rg (fofI I)) := by
      obtain ⟨r, r1, r2, r3⟩ := fofI_word (n := I) (by omega)
      rw [r3, sg_wordOf (Nat.le_of_lt r1), rg_wordOf (Nat.le_of_lt r1), r2]
      exact ⟨by rw [decide_eq_false]; omega, Nat.mul_le_mul_right _ (by omega)⟩
    have hi0 : rg (fofI I) ≠ 0 := by intro h; rw [h, valN_zero] at f2; have := U_pos; omega
    have zp : valN (rg (fmul z p)) ≤ valN 4611404543450677248 :=
      mul_le hz.fit hp.fit (by decide) (prod_le (n := 16) (k := 31) (m := 1) (l := 1) hz2 (by have := hb.hi; omega) (by decide) (by decide) (by have := v3116; omega))
    have d : valN (rg (fdiv (fmul z p) (fofI I))) ≤ valN 4606900943823306752 := by
      refine div_le h1.fit f1 hi0 (by decide) ?_
      have e : valN 4611404543450677248 = valN 4606900943823306752 * 2 := by have := v3116; have := v3132; omega
      calc valN (rg (fmul z p)) * U ≤ valN 4606900943823306752 * 2 * U := Nat.mul_le_mul_right _ (by omega)
        _ = valN 4606900943823306752 * (2 * U) := Nat.mul_assoc _ _ _
        _ ≤ _ := Nat.mul_le_mul_left _ si.2
    have ds : sg (fdiv (fmul z p) (fofI I)) = false := by rw [sg_div h1.fit f1 hi0, sg_mul hz.fit hp.fit, hs, hb.pos, si.1]; rfl
    have dv : V (fdiv (fmul z p) (fofI I)) = valN (rg (fdiv (fmul z p) (fofI I))) := by
      have e1 := V_abs (fdiv (fmul z p) (fofI I))
      have e2 := V_pos ds
      omega
    obtain ⟨r, r1, r2⟩ := fsub_RN mag_one.fit h2.fit
    have ho := V_oneW
    have hv3132 := v3132
    have hv132 := v132
    have k1 : 4584664420663164928 ≤ r := r2.ge _ (by decide) (by
      rw [ho, dv]
      omega)
    have k2 : r ≤ oneR := r2.le _ (by decide) (by
      rw [ho, dv, valN_one]
      omega)
    have hp0 := U_pos
    have e31 := v3132
    rw [r1]
    refine ⟨?_, ?_, ?_⟩
    · rw [rg_wordOf r2.fin]
      have := valN_le_iff.2 k1
      have := v132
      have := v12
      omega
    · rw [rg_wordOf r2.fin, ← valN_one]; exact valN_le_iff.2 k2
    · rw [sg_wordOf r2.fin, ho, dv, if_neg (by omega), decide_eq_false (by omega)]

theorem turnC_pos {w : Nat} (h : Mag w 20) : rg (turnC w) ≠ 0 := by
  obtain ⟨_, r, _, _⟩ := turn_mags h
  have hr := turnR_small h
  have z : Mag (turnZ w) 48 := mag_mul (k := 48) r r rfl (by decide)
  have hz : valN (rg (turnZ w)) ≤ valN 4611404543450677248 :=
    mul_le r.fit r.fit (by decide) (prod_le (n := 8) (k := 11) (m := 8) (l := 11) hr hr (by decide) (by decide) (by have := v3116; omega))
  have hs : sg (turnZ w) = false := by
    show sg (fmul (turnR w) (turnR w)) = false
    rw [sg_mul r.fit r.fit, Bool.xor_self]
  have c := hornC_pos z (by have := v3116; omega) hs 10 one 0 (by decide) mag_one (by decide) ⟨by decide +kernel, by decide +kernel, by decide +kernel⟩
  intro h0
  have h1 := c.lo
  have h2 : rg (hornC (turnZ w) 10 one) = 0 := h0
  rw [h2, valN_zero] at h1
  have := v12
  have := U_pos
  omega

theorem fdiv_clean {x y : Nat} (hx : Fit x) (hy : Fit y) (h : rg x ≠ 0 ∨ rg y ≠ 0) : FClean (fdiv x y) := by
  by_cases h0 : rg y = 0
  · have hx0 : rg x ≠ 0 := by rcases h with h | h
                              · exact h
                              · exact absurd h0 h
    have hm : sigM (rg x) ≠ 0 := fun h => hx0 (sigM_null.1 h)
    have hn : sigM (rg y) = 0 := sigM_null.2 h0
    unfold fdiv Format.div
    rw [read_fin hx, read_fin hy]
    unfold Datum.quotient
    simp only [if_pos hn, if_neg hm, Option.map_some, Option.getD_some]
    exact write_clean _ rfl
  · obtain ⟨q, q1, q2⟩ := fdiv_RN hx hy h0
    rw [q1]
    exact clean_word q2.fin
end Go.Proofs.Mf

/- Functions of mathematics: sines, cosines, tangents; the table. -/
set_option maxRecDepth 100000
set_option exponentiation.threshold 2200
namespace Go.Proofs.Mf
open Go Go.Ev Ieee

def sinV (n : Int) (s c : Nat) : Nat := if n = 0 then s else if n = 1 then c else if n = 2 then fneg s else fneg c
def cosV (n : Int) (s c : Nat) : Nat := if n = 0 then c else if n = 1 then fneg s else if n = 2 then fneg c else s
def sinW (x : Nat) : Nat := if lost x = true then qnan else if feq .f64 x 0 = true then x else sinV (turnN (turnX x)) (turnS (turnX x)) (turnC (turnX x))
def cosW (x : Nat) : Nat := if lost x = true then qnan else cosV (turnN (turnX x)) (turnS (turnX x)) (turnC (turnX x))
def tanW (x : Nat) : Nat := if lost x = true then qnan else if feq .f64 x 0 = true then x else
  if (turnN (turnX x)).tmod 2 = 0 then fdiv (turnS (turnX x)) (turnC (turnX x)) else fdiv (fneg (turnC (turnX x))) (turnS (turnX x))
theorem fin_lost (x : Nat) : finite x = !lost x := by unfold finite lost; cases isNaN x <;> cases isInf x 0 <;> rfl
theorem turnN_cases (w : Nat) : turnN w = 0 ∨ turnN w = 1 ∨ turnN w = 2 ∨ turnN w = 3 := by unfold turnN; omega

theorem sin_both {x : Nat} (hw : FWord x) : PureTo Try.prog 21 [.v (.float .f64 x)] (.v (.float .f64 (sinW x))) ∧ PureTo Try.prog 22 [.v (.float .f64 x)] (.v (.float .f64 (sinW x))) := by
  unfold sinW
  cases h1 : lost x with
  | true => rw [if_pos rfl]; exact ⟨sinQ0_1 x ⟨h1, trivial⟩, rsin6 x ⟨by rw [fin_lost, h1]; rfl, trivial⟩⟩
  | false =>
    rw [if_neg (by decide)]
    have hx := fin_turn h1
    have hf : finite x = true := by rw [fin_lost, h1]; rfl
    cases h2 : feq .f64 x 0 with
    | true => rw [if_pos rfl]; exact ⟨sinQ0_2 x ⟨h1, h2, trivial⟩, rsin1 x ⟨hf, h2, trivial⟩⟩
    | false =>
      rw [if_neg (by decide)]
      obtain ⟨_, _, s, c⟩ := turn_mags (turnX_mag hw hx)
      rcases turnN_cases (turnX x) with h | h | h | h
      · rw [h]; exact ⟨s.known (sinQ0_3 x ⟨h1, h2, hw, hx, h, by decide, trivial⟩), s.known (rsin2 x ⟨hf, h2, hw, hx, by rw [h]; rfl, trivial⟩)⟩
      · rw [h]; exact ⟨c.known (sinQ1_3 x ⟨h1, h2, hw, hx, h, by decide, trivial⟩), c.known (rsin3 x ⟨hf, h2, hw, hx, by rw [h]; rfl, by rw [h]; rfl, trivial⟩)⟩
      · rw [h]; exact ⟨(mag_neg s).known (sinQ2_3 x ⟨h1, h2, hw, hx, h, by decide, trivial⟩), (mag_neg s).known (rsin4 x ⟨hf, h2, hw, hx, by rw [h]; rfl, by rw [h]; rfl, by rw [h]; rfl, trivial⟩)⟩
      · rw [h]; exact ⟨(mag_neg c).known (sinQ3_3 x ⟨h1, h2, hw, hx, h, by decide, trivial⟩), (mag_neg c).known (rsin5 x ⟨hf, h2, hw, hx, by rw [h]; rfl, by rw [h]; rfl, by rw [h]; rfl, trivial⟩)⟩
theorem cos_both {x : Nat} (hw : FWord x) : PureTo Try.prog 23 [.v (.float .f64 x)] (.v (.float .f64 (cosW x))) ∧ PureTo Try.prog 24 [.v (.float .f64 x)] (.v (.float .f64 (cosW x))) := by
  unfold cosW
  cases h1 : lost x with
  | true => rw [if_pos rfl]; exact ⟨cosQ0_1 x ⟨h1, trivial⟩, rcos5 x ⟨by rw [fin_lost, h1]; rfl, trivial⟩⟩
  | false =>
    rw [if_neg (by decide)]
    have hx := fin_turn h1
    have hf : finite x = true := by rw [fin_lost, h1]; rfl
    obtain ⟨_, _, s, c⟩ := turn_mags (turnX_mag hw hx)
    rcases turnN_cases (turnX x) with h | h | h | h
    · rw [h]; exact ⟨c.known (cosQ0_2 x ⟨h1, hw, hx, h, by decide, trivial⟩), c.known (rcos1 x ⟨hf, hw, hx, by rw [h]; rfl, trivial⟩)⟩
    · rw [h]; exact ⟨(mag_neg s).known (cosQ1_2 x ⟨h1, hw, hx, h, by decide, trivial⟩), (mag_neg s).known (rcos2 x ⟨hf, hw, hx, by rw [h]; rfl, by rw [h]; rfl, trivial⟩)⟩
    · rw [h]; exact ⟨(mag_neg c).known (cosQ2_2 x ⟨h1, hw, hx, h, by decide, trivial⟩), (mag_neg c).known (rcos3 x ⟨hf, hw, hx, by rw [h]; rfl, by rw [h]; rfl, by rw [h]; rfl, trivial⟩)⟩
    · rw [h]; exact ⟨s.known (cosQ3_2 x ⟨h1, hw, hx, h, by decide, trivial⟩), s.known (rcos4 x ⟨hf, hw, hx, by rw [h]; rfl, by rw [h]; rfl, by rw [h]; rfl, trivial⟩)⟩
theorem tan_both {x : Nat} (hw : FWord x) : PureTo Try.prog 25 [.v (.float .f64 x)] (.v (.float .f64 (tanW x))) ∧ PureTo Try.prog 26 [.v (.float .f64 x)] (.v (.float .f64 (tanW x))) := by
  unfold tanW
  cases h1 : lost x with
  | true => rw [if_pos rfl]; exact ⟨tan1 x ⟨h1, trivial⟩, rtan4 x ⟨by rw [fin_lost, h1]; rfl, trivial⟩⟩
  | false =>
    rw [if_neg (by decide)]
    have hx := fin_turn h1
    have hf : finite x = true := by rw [fin_lost, h1]; rfl
    cases h2 : feq .f64 x 0 with
    | true => rw [if_pos rfl]; exact ⟨tan2 x ⟨h1, h2, trivial⟩, rtan1 x ⟨hf, h2, trivial⟩⟩
    | false =>
      rw [if_neg (by decide)]
      have hm := turnX_mag hw hx
      obtain ⟨_, _, s, c⟩ := turn_mags hm
      have hc := turnC_pos hm
      have q1 := fdiv_clean s.fit c.fit (.inr hc)
      have q2 := fdiv_clean (mag_neg c).fit s.fit (.inl (by rw [rg_fneg]; exact hc))
      by_cases h : (turnN (turnX x)).tmod 2 = 0
      · rw [if_pos h]
        have h' : ((turnN (turnX x)).tmod 2 == 0) = true := by rw [h]; rfl
        exact ⟨clean_known q1.2 (tan3 x ⟨h1, h2, hw, hx, by decide, h', trivial⟩), clean_known q1.2 (rtan2 x ⟨hf, h2, hw, hx, by decide, h', trivial⟩)⟩
      · rw [if_neg h]
        have h' : ((turnN (turnX x)).tmod 2 == 0) = false := by rw [beq_eq_false_iff_ne]; exact h
        exact ⟨clean_known q2.2 (tan4 x ⟨h1, h2, hw, hx, by decide, h', trivial⟩), clean_known q2.2 (rtan3 x ⟨hf, h2, hw, hx, by decide, h', trivial⟩)⟩
def MT6 : SGT := (21, .p (sigV1 sinW)) :: (22, .p (sigV1 sinW)) :: (23, .p (sigV1 cosW)) :: (24, .p (sigV1 cosW)) :: (25, .p (sigV1 tanW)) :: (26, .p (sigV1 tanW)) :: MT4
theorem moT6 : SigsOK Try.prog MT6 :=
  cons_V1 (f := 21) sinW (cons_V1 (f := 22) sinW (cons_V1 (f := 23) cosW (cons_V1 (f := 24) cosW (cons_V1 (f := 25) tanW (cons_V1 (f := 26) tanW moT4 fun x hw => (tan_both hw).2) fun x hw => (tan_both hw).1) fun x hw => (cos_both hw).2) fun x hw => (cos_both hw).1) fun x hw => (sin_both hw).2) fun x hw => (sin_both hw).1
end Go.Proofs.Mf

/- Functions of mathematics: walks, written by the tool. -/
set_option maxRecDepth 100000
namespace Go.Proofs.Mf
open Go Go.Ev

-- 1 paths
theorem angL1 (x : Nat) (h : AllP [FWord x, FWord x, (sinW x == sinW x) = true, FWord x, FWord x, (cosW x == cosW x) = true, FWord x, FWord x, (tanW x == tanW x) = true]) : PureTo Try.prog 7 [.v (.float .f64 x)] (AV.v (.bool true)) :=
  evFn_pure hm moT6 (fn := Try.f7) rfl rfl (ti := false) (hs := [CHint.ops 1 [(4, Hint.b true), (10, Hint.b true), (17, Hint.b true)]]) (c := _) (by kernel_rfl) h
end Go.Proofs.Mf
