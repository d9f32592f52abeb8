/- An evaluator of the model's code, proved right. No condition. -/
import Derived.Test.YtbmadhdeikoecaaDoorEvAll6
set_option linter.unusedSimpArgs false
set_option linter.unusedVariables false
set_option linter.unusedSectionVars false
/- Floats nearest to naturals: rounding by halves, and of a top with what was lost. -/
set_option exponentiation.threshold 2200
namespace Go.Ev
open Go Ieee

theorem fofI_rung (n : Nat) : fofI (n : Int) = wordOf false (rungOf n 0) := by
  have h := rungOf_rd n 1074
  rw [show (-1074 + ((1074 : Nat) : Int)) = 0 by decide] at h
  rw [fofI_V, h, decide_eq_false (by omega), Int.natAbs_natCast]
  rfl

def cutE (n c : Nat) : Nat := Toward.even.cut false n c
theorem rung_nat {n : Nat} (h0 : n ≠ 0) (h : 52 ≤ n.log2) : rungOf n 0 = min ((n.log2 - 52 + 1074) * 4503599627370496 + cutE n (n.log2 - 52)) 9218868437227405312 := by
  unfold rungOf cutE
  rw [if_neg h0]
  have e1 : max ((0 : Int) + (n.log2 : Int) - 52) (-1074) = ((n.log2 - 52 : Nat) : Int) := by omega
  rw [e1]
  have e2 : ((0 : Int) - ((n.log2 - 52 : Nat) : Int)).toNat = 0 := by omega
  have e3 : (((n.log2 - 52 : Nat) : Int) - 0).toNat = n.log2 - 52 := by omega
  have e4 : (((n.log2 - 52 : Nat) : Int) + 1074).toNat = n.log2 - 52 + 1074 := by omega
  rw [e2, e3, e4, Nat.shiftLeft_zero]

theorem cutE_eq {n c : Nat} (h : c ≤ n.log2 + 2) : cutE n c = n / 2 ^ c + (decide (2 ^ c < 2 * (n % 2 ^ c)) || (2 ^ c == 2 * (n % 2 ^ c) && n / 2 ^ c % 2 == 1)).toNat := by
  unfold cutE Toward.cut
  simp only [Nat.min_eq_left h, Nat.one_shiftLeft]

/-- by the half, what lies below it, and the last bit that is kept -/
theorem cut_half {n c : Nat} (hc : 1 ≤ c) (h : c ≤ n.log2 + 2) : cutE n c = n / 2 ^ c + (if n / 2 ^ (c - 1) % 2 = 1 ∧ (n % 2 ^ (c - 1) ≠ 0 ∨ n / 2 ^ c % 2 = 1) then 1 else 0) := by
  rw [cutE_eq h]
  congr 1
  obtain ⟨d, rfl⟩ : ∃ d, c = d + 1 := ⟨c - 1, by omega⟩
  rw [Nat.add_sub_cancel]
  have hP := Nat.two_pow_pos d
  have e1 : 2 ^ (d + 1) = 2 ^ d * 2 := Nat.pow_succ ..
  have e2 : n % 2 ^ (d + 1) = n % 2 ^ d + 2 ^ d * (n / 2 ^ d % 2) := by rw [e1, Nat.mod_mul]
  rw [e2, e1]
  have hlt := Nat.mod_lt n hP
  have hb2 : n / 2 ^ d % 2 < 2 := Nat.mod_lt _ (by decide)
  generalize n % 2 ^ d = ρ at *
  generalize n / 2 ^ d % 2 = b at *
  generalize n / (2 ^ d * 2) % 2 = l at *
  generalize 2 ^ d = P at *
  by_cases hb : b = 1
  · subst hb
    rw [Nat.mul_one]
    by_cases hr : ρ = 0
    · subst hr
      have h1 : decide (P * 2 < 2 * (0 + P)) = false := decide_eq_false (by omega)
      have h2 : (P * 2 == 2 * (0 + P)) = true := by rw [beq_iff_eq]; omega
      rw [h1, h2]
      by_cases hl : l = 1
      · subst hl; simp
      · have : (l == 1) = false := by rw [beq_eq_false_iff_ne]; exact hl
        rw [this]; simp [hl]
    · have h1 : decide (P * 2 < 2 * (ρ + P)) = true := decide_eq_true (by omega)
      rw [h1]; simp [hr]
  · have hb0 : b = 0 := by omega
    subst hb0
    rw [Nat.mul_zero, Nat.add_zero]
    have h1 : decide (P * 2 < 2 * ρ) = false := decide_eq_false (by omega)
    have h2 : (P * 2 == 2 * ρ) = false := by rw [beq_eq_false_iff_ne]; omega
    rw [h1, h2]
    simp

theorem log2_of {n k : Nat} (h1 : 2 ^ k ≤ n) (h2 : n < 2 ^ (k + 1)) : n.log2 = k := by
  have h0 : n ≠ 0 := by have := Nat.two_pow_pos k; omega
  have a := (Nat.le_log2 h0).2 h1
  have b := (Nat.log2_lt h0).2 h2
  omega
/-- the lost bits, as one -/
def sticky (n s : Nat) : Nat := if n % 2 ^ s = 0 then n / 2 ^ s else if n / 2 ^ s % 2 = 0 then n / 2 ^ s + 1 else n / 2 ^ s
theorem sticky_bound {n s : Nat} (h1 : 2 ^ 63 ≤ n / 2 ^ s) (h2 : n / 2 ^ s < 2 ^ 64) : 2 ^ 63 ≤ sticky n s ∧ sticky n s < 2 ^ 64 := by
  have e1 : (2 : Nat) ^ 63 = 9223372036854775808 := by decide
  have e2 : (2 : Nat) ^ 64 = 18446744073709551616 := by decide
  unfold sticky
  split
  · omega
  · split <;> omega
theorem cut_sticky {n s : Nat} (h1 : 2 ^ 63 ≤ n / 2 ^ s) (h2 : n / 2 ^ s < 2 ^ 64) : n.log2 = s + 63 ∧ (sticky n s).log2 = 63 ∧ cutE n (s + 11) = cutE (sticky n s) 11 := by
  obtain ⟨b1, b2⟩ := sticky_bound h1 h2
  have l1 : n.log2 = s + 63 := by
    refine log2_of ?_ ?_
    · have := Nat.mul_le_mul_right (2 ^ s) h1
      have h3 := Nat.div_mul_le_self n (2 ^ s)
      rw [← Nat.pow_add, Nat.add_comm] at this
      omega
    · have h3 := (Nat.div_lt_iff_lt_mul (Nat.two_pow_pos s)).1 h2
      rw [← Nat.pow_add, Nat.add_comm] at h3
      exact h3
  have l2 : (sticky n s).log2 = 63 := log2_of b1 b2
  refine ⟨l1, l2, ?_⟩
  rw [cutE_eq (by omega), cutE_eq (by omega)]
  have hP := Nat.two_pow_pos s
  have e1 : 2 ^ (s + 11) = 2 ^ s * 2048 := by rw [Nat.pow_add]
  have e2 : (2 : Nat) ^ 11 = 2048 := by decide
  rw [e1, e2, Nat.mod_mul, ← Nat.div_div_eq_div_mul]
  have hlt := Nat.mod_lt n hP
  have hs : sticky n s = if n % 2 ^ s = 0 then n / 2 ^ s else if n / 2 ^ s % 2 = 0 then n / 2 ^ s + 1 else n / 2 ^ s := rfl
  generalize sticky n s = m at *
  clear b1 b2 l1 l2 h1 h2 e1 e2
  generalize n / 2 ^ s = q at *
  generalize n % 2 ^ s = ρ at *
  generalize 2 ^ s = P at *
  have hq : q / 2048 = m / 2048 := by
    rw [hs]; split
    · rfl
    · split <;> omega
  rw [← hq]
  congr 1
  congr 1
  -- twice the rest against the gap
  have hx := Nat.mod_lt q (show 0 < 2048 by decide)
  have hm : m % 2048 = if ρ = 0 then q % 2048 else if q % 2 = 0 then q % 2048 + 1 else q % 2048 := by
    rw [hs]; split
    · rfl
    · split <;> omega
  have hpar : q % 2048 % 2 = q % 2 := by omega
  rw [hm, ← hpar]
  generalize q % 2048 = x at *
  clear hm hs hq hpar
  have mono : ∀ a b : Nat, a < b → P * a + P ≤ P * b := fun a b h => by
    have := Nat.mul_le_mul_left P (show a + 1 ≤ b from h)
    rw [Nat.mul_add, Nat.mul_one] at this
    exact this
  have eP : P * 2048 = 2 * (P * 1024) := by omega
  rcases Nat.lt_trichotomy x 1024 with hx1 | hx1 | hx1
  · have hm := mono x 1024 hx1
    have a1 : decide (P * 2048 < 2 * (ρ + P * x)) = false := decide_eq_false (by omega)
    have a2 : (P * 2048 == 2 * (ρ + P * x)) = false := by rw [beq_eq_false_iff_ne]; omega
    have b1 : decide (2048 < 2 * (if ρ = 0 then x else if x % 2 = 0 then x + 1 else x)) = false := decide_eq_false (by split; omega; split <;> omega)
    have b2 : ((2048 : Nat) == 2 * (if ρ = 0 then x else if x % 2 = 0 then x + 1 else x)) = false := by rw [beq_eq_false_iff_ne]; split; omega; split <;> omega
    rw [a1, a2, b1, b2]
  · subst hx1
    by_cases h0 : ρ = 0
    · subst h0
      have a1 : decide (P * 2048 < 2 * (0 + P * 1024)) = false := decide_eq_false (by omega)
      have a2 : (P * 2048 == 2 * (0 + P * 1024)) = true := by rw [beq_iff_eq]; omega
      rw [a1, a2]
      rfl
    · have a1 : decide (P * 2048 < 2 * (ρ + P * 1024)) = true := decide_eq_true (by omega)
      rw [a1, if_neg h0]
      rfl
  · have hm := mono 1024 x hx1
    have a1 : decide (P * 2048 < 2 * (ρ + P * x)) = true := decide_eq_true (by omega)
    have b1 : decide (2048 < 2 * (if ρ = 0 then x else if x % 2 = 0 then x + 1 else x)) = true := decide_eq_true (by split; omega; split <;> omega)
    rw [a1, b1]
    rfl
/-- what is kept lies within a binade -/
theorem cutE_range {n : Nat} (h0 : n ≠ 0) (h : 52 ≤ n.log2) : 4503599627370496 ≤ cutE n (n.log2 - 52) ∧ cutE n (n.log2 - 52) ≤ 9007199254740992 := by
  rw [cutE_eq (by omega)]
  have h1 : 2 ^ n.log2 ≤ n := Nat.log2_self_le h0
  have h2 : n < 2 ^ (n.log2 + 1) := Nat.lt_log2_self
  have a1 : 2 ^ 52 ≤ n / 2 ^ (n.log2 - 52) := (Nat.le_div_iff_mul_le (Nat.two_pow_pos _)).2 (by rw [← Nat.pow_add, show 52 + (n.log2 - 52) = n.log2 by omega]; exact h1)
  have a2 : n / 2 ^ (n.log2 - 52) < 2 ^ 53 := (Nat.div_lt_iff_lt_mul (Nat.two_pow_pos _)).2 (by rw [← Nat.pow_add, show 53 + (n.log2 - 52) = n.log2 + 1 by omega]; exact h2)
  have e52 : (2 : Nat) ^ 52 = 4503599627370496 := by decide
  have e53 : (2 : Nat) ^ 53 = 9007199254740992 := by decide
  have : (decide (2 ^ (n.log2 - 52) < 2 * (n % 2 ^ (n.log2 - 52))) || (2 ^ (n.log2 - 52) == 2 * (n % 2 ^ (n.log2 - 52)) && n / 2 ^ (n.log2 - 52) % 2 == 1)).toNat ≤ 1 := Bool.toNat_le _
  omega
end Go.Ev
namespace Go.Ev
theorem and_neg_nat {z k : Nat} (h : 2 ^ z * (2 * k + 1) < 2 ^ 64) : (2 ^ z * (2 * k + 1)) &&& (2 ^ 64 - 2 ^ z * (2 * k + 1)) = 2 ^ z := by
  have hz : z < 64 := by
    refine Nat.lt_of_not_le fun hle => ?_
    have h1 := Nat.pow_le_pow_right (show 0 < 2 by decide) hle
    have h2 : 2 ^ z * 1 ≤ 2 ^ z * (2 * k + 1) := Nat.mul_le_mul_left _ (by omega)
    omega
  obtain ⟨n, hn⟩ : ∃ n, 64 = z + (n + 1) := ⟨63 - z, by omega⟩
  rw [hn, Nat.pow_add] at h ⊢
  have hk : k < 2 ^ n := by
    have := Nat.lt_of_mul_lt_mul_left h
    rw [Nat.pow_succ] at this
    omega
  have e : 2 ^ z * 2 ^ (n + 1) - 2 ^ z * (2 * k + 1) = 2 ^ z * (2 * (2 ^ n - (k + 1)) + 1) := by
    rw [← Nat.mul_sub, Nat.pow_succ]
    congr 1
    omega
  rw [e]
  apply Nat.eq_of_testBit_eq
  intro i
  rw [Nat.testBit_and, Nat.testBit_two_pow_mul, Nat.testBit_two_pow_mul, Nat.testBit_two_pow]
  rcases Nat.lt_trichotomy i z with h1 | h1 | h1
  · simp [show ¬ i ≥ z by omega, show ¬ z = i by omega]
  · subst h1
    have a : ∀ m, (2 * m + 1).testBit 0 = true := fun m => by rw [Nat.testBit_zero]; simp
    simp [Nat.sub_self, a]
  · obtain ⟨d, hd⟩ : ∃ d, i - z = d + 1 := ⟨i - z - 1, by omega⟩
    have a : ∀ m, (2 * m + 1).testBit (d + 1) = m.testBit d := fun m => by rw [Nat.testBit_succ]; congr 1; omega
    rw [hd, a, a, Nat.testBit_two_pow_sub_succ hk, decide_eq_false (show ¬ z = i by omega)]
    cases k.testBit d <;> simp
end Go.Ev
