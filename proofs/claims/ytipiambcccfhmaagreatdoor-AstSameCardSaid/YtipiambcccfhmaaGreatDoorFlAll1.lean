/- Contracts of the program's functions, and the plain law behind them. No condition beyond those in each statement. -/
import GoSem.Op.Equal
set_option linter.unusedSimpArgs false
set_option linter.unusedVariables false
set_option linter.unusedSectionVars false
/- Floats: words, what they stand for; two that are equal and of one sign are the same word. -/
set_option exponentiation.threshold 2000
namespace Go.Fl
open Ieee

theorem read64 (w : Nat) : FloatKind.f64.format.read w =
    (if w % 9223372036854775808 < 4503599627370496 then .number (w / 9223372036854775808 % 2 == 1) (w % 9223372036854775808) (-1074)
    else if w % 9223372036854775808 < 9218868437227405312 then .number (w / 9223372036854775808 % 2 == 1) (4503599627370496 + w % 9223372036854775808 % 4503599627370496) (-1074 + (w % 9223372036854775808 / 4503599627370496 - 1 : Nat))
    else if w % 9223372036854775808 = 9218868437227405312 then .infinity (w / 9223372036854775808 % 2 == 1)
    else .nan (w / 9223372036854775808 % 2 == 1) (w % 9223372036854775808 - 9218868437227405312)) := rfl

theorem signed_inj {s : Bool} {a b i j : Nat} (h : signed s a i = signed s b j) : a * 2 ^ i = b * 2 ^ j := by
  unfold signed at h
  rw [Nat.shiftLeft_eq, Nat.shiftLeft_eq] at h
  cases s
  · simp only [Bool.false_eq_true, if_false] at h; exact_mod_cast h
  · simp only [if_true] at h
    have : ((a * 2 ^ i : Nat) : Int) = ((b * 2 ^ j : Nat) : Int) := by omega
    exact_mod_cast this

/-- no number stands for nothing -/
theorem nan_order {x y : Nat} (h : (FloatKind.f64.format.read x).isNaN = true ∨ (FloatKind.f64.format.read y).isNaN = true) : FloatKind.f64.format.order x y = none := by
  unfold Format.order
  generalize FloatKind.f64.format.read x = a at *
  generalize FloatKind.f64.format.read y = b at *
  rcases h with h | h
  · cases a <;> simp [Datum.isNaN] at h
    cases b <;> rfl
  · cases b <;> simp [Datum.isNaN] at h
    cases a <;> rfl

theorem order_self {x : Nat} (h : (FloatKind.f64.format.read x).isNaN = false) : FloatKind.f64.format.order x x = some .eq := by
  unfold Format.order
  generalize FloatKind.f64.format.read x = a at *
  cases a with
  | nan => simp [Datum.isNaN] at h
  | infinity s => simp [Datum.order]
  | number s m i => simp [Datum.order, Std.ReflCmp.compare_self]

theorem eq_self (x : Nat) : Op.floatEq .f64 x x = !(FloatKind.f64.format.read x).isNaN := by
  unfold Op.floatEq
  cases h : (FloatKind.f64.format.read x).isNaN with
  | true => rw [nan_order (.inl h)]; rfl
  | false => rw [order_self h]; rfl

theorem compare_nat_eq {a b : Int} (h : compare a b = .eq) : a = b := Std.LawfulEqCmp.eq_of_compare h

/-- equal, of one sign: the same word -/
theorem eq_bits {x y : Nat} (hx : x < 18446744073709551616) (hy : y < 18446744073709551616) (h : Op.floatEq .f64 x y = true) (hs : (x < 9223372036854775808) ↔ (y < 9223372036854775808)) : x = y := by
  unfold Op.floatEq Format.order at h
  rw [read64, read64] at h
  have hss : x / 9223372036854775808 = y / 9223372036854775808 := by omega
  have hrung : x % 9223372036854775808 = y % 9223372036854775808 → x = y := fun e => by omega
  apply hrung
  rw [hss] at h
  generalize x % 9223372036854775808 = a at *
  generalize y % 9223372036854775808 = b at *
  generalize (y / 9223372036854775808 % 2 == 1) = s at *
  have key : ∀ (m n i j : Nat) (p q : Int), p = -1074 + (i : Int) → q = -1074 + (j : Int) → (Datum.order (.number s m p) (.number s n q) == some Ordering.eq) = true → m * 2 ^ (i - j) = n * 2 ^ (j - i) := by
    intro m n i j p q hp hq hh
    simp only [Datum.order] at hh
    have hc : compare (signed s m (p - min p q).toNat) (signed s n (q - min p q).toNat) = .eq := by
      revert hh
      cases compare (signed s m (p - min p q).toNat) (signed s n (q - min p q).toNat) <;> simp
    have := signed_inj (compare_nat_eq hc)
    have e1 : (p - min p q).toNat = i - j := by omega
    have e2 : (q - min p q).toNat = j - i := by omega
    rw [e1, e2] at this
    exact this
  have pow1 : ∀ k, 1 ≤ k → 2 ≤ 2 ^ k := fun k hk => by
    have := Nat.pow_le_pow_right (n := 2) (by omega) hk
    simpa using this
  have far : ∀ (m n i j : Nat), m * 2 ^ (i - j) = n * 2 ^ (j - i) → i < j → 4503599627370496 ≤ n → 9007199254740992 ≤ m := by
    intro m n i j hh hij hn
    rw [show i - j = 0 by omega, Nat.pow_zero, Nat.mul_one] at hh
    have := pow1 (j - i) (by omega)
    have h2 := Nat.mul_le_mul hn this
    omega
  have sub : ∀ z : Nat, (-1074 : Int) = -1074 + ((0 : Nat) : Int) := fun z => by omega
  by_cases ha : a < 4503599627370496
  · rw [if_pos ha] at h
    by_cases hb : b < 4503599627370496
    · rw [if_pos hb] at h
      have := key a b 0 0 _ _ rfl rfl h
      simpa using this
    · rw [if_neg hb] at h
      by_cases hb2 : b < 9218868437227405312
      · rw [if_pos hb2] at h
        have := key a (4503599627370496 + b % 4503599627370496) 0 (b / 4503599627370496 - 1) _ _ (by omega) (by omega) h
        rcases Nat.eq_zero_or_pos (b / 4503599627370496 - 1) with h0 | h0
        · rw [h0] at this; simp at this; omega
        · have := far _ _ _ _ this h0 (by omega); omega
      · rw [if_neg hb2] at h
        split at h
        · cases s <;> simp [Datum.order] at h
        · simp [Datum.order] at h
  · rw [if_neg ha] at h
    by_cases ha2 : a < 9218868437227405312
    · rw [if_pos ha2] at h
      by_cases hb : b < 4503599627370496
      · rw [if_pos hb] at h
        have := key (4503599627370496 + a % 4503599627370496) b (a / 4503599627370496 - 1) 0 _ _ (by omega) (by omega) h
        rcases Nat.eq_zero_or_pos (a / 4503599627370496 - 1) with h0 | h0
        · rw [h0] at this; simp at this; omega
        · have := far _ _ _ _ this.symm h0 (by omega); omega
      · rw [if_neg hb] at h
        by_cases hb2 : b < 9218868437227405312
        · rw [if_pos hb2] at h
          have := key (4503599627370496 + a % 4503599627370496) (4503599627370496 + b % 4503599627370496) (a / 4503599627370496 - 1) (b / 4503599627370496 - 1) _ _ (by omega) (by omega) h
          rcases Nat.lt_trichotomy (a / 4503599627370496 - 1) (b / 4503599627370496 - 1) with hl | he | hg
          · have := far _ _ _ _ this hl (by omega); omega
          · rw [he] at this; simp at this; omega
          · have := far _ _ _ _ this.symm hg (by omega); omega
        · rw [if_neg hb2] at h
          split at h
          · cases s <;> simp [Datum.order] at h
          · simp [Datum.order] at h
    · rw [if_neg ha2] at h
      by_cases ha3 : a = 9218868437227405312
      · rw [if_pos ha3] at h
        by_cases hb : b < 4503599627370496
        · rw [if_pos hb] at h
          cases s <;> simp [Datum.order] at h
        · rw [if_neg hb] at h
          by_cases hb2 : b < 9218868437227405312
          · rw [if_pos hb2] at h
            cases s <;> simp [Datum.order] at h
          · rw [if_neg hb2] at h
            by_cases hb3 : b = 9218868437227405312
            · omega
            · rw [if_neg hb3] at h
              simp [Datum.order] at h
      · rw [if_neg ha3] at h
        simp [Datum.order] at h

end Go.Fl
