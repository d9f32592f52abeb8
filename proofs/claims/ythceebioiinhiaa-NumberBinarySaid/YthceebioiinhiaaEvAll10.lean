/- An evaluator of the model's code, proved right. No condition. -/
import Derived.Test.YthceebioiinhiaaEvAll9
set_option linter.unusedSimpArgs false
set_option linter.unusedVariables false
set_option linter.unusedSectionVars false
/- Floats: rounding keeps what lies on either side of a float; what is exact is told exactly. -/
set_option exponentiation.threshold 2200
namespace Go.Ev
open Go Ieee

theorem cut_le (neg : Bool) {n drop M : Nat} (h : n ≤ M * 2 ^ drop) : Toward.even.cut neg n drop ≤ M := by
  unfold Toward.cut
  simp only
  rw [Nat.shiftLeft_eq, Nat.one_mul]
  rcases Nat.lt_or_ge (n.log2 + 2) drop with hd | hd
  · rw [Nat.min_eq_right (by omega)]
    have h1 : n < 2 ^ (n.log2 + 1) := Nat.lt_log2_self
    have h2 : 2 ^ (n.log2 + 2) = 2 ^ (n.log2 + 1) * 2 := Nat.pow_succ 2 (n.log2 + 1)
    rw [h2]
    generalize 2 ^ (n.log2 + 1) = g at *
    rw [Nat.div_eq_of_lt (by omega), Nat.mod_eq_of_lt (by omega)]
    have : (decide (g * 2 < 2 * n) || (g * 2 == 2 * n && 0 % 2 == 1)) = false := by
      rw [decide_eq_false (by omega)]; simp
    rw [this]
    exact Nat.zero_le _
  · rw [Nat.min_eq_left hd]
    have hg : 0 < 2 ^ drop := Nat.two_pow_pos _
    generalize 2 ^ drop = g at *
    have h1 : n / g ≤ M := by
      have := Nat.div_le_div_right (c := g) h
      rwa [Nat.mul_div_cancel _ hg] at this
    rcases Nat.lt_or_eq_of_le h1 with h2 | h2
    · have : ∀ b : Bool, b.toNat ≤ 1 := fun b => by cases b <;> decide
      have := this (decide (g < 2 * (n % g)) || (g == 2 * (n % g) && n / g % 2 == 1))
      omega
    · have h3 : n % g = 0 := by
        have := Nat.div_add_mod n g
        rw [h2, Nat.mul_comm] at this
        omega
      rw [h2, h3]
      have : (decide (g < 2 * 0) || (g == 2 * 0 && M % 2 == 1)) = false := by
        rw [decide_eq_false (by omega)]
        have : (g == 2 * 0) = false := by rw [beq_eq_false_iff_ne]; omega
        rw [this]; rfl
      rw [this]
      exact Nat.le_refl _

theorem cut_ge (neg : Bool) {n drop M : Nat} (h : M * 2 ^ drop ≤ n) : M ≤ Toward.even.cut neg n drop := by
  unfold Toward.cut
  simp only
  rw [Nat.shiftLeft_eq, Nat.one_mul]
  rcases Nat.lt_or_ge (n.log2 + 2) drop with hd | hd
  · have h1 : n < 2 ^ (n.log2 + 1) := Nat.lt_log2_self
    have h2 : 2 ^ (n.log2 + 1) ≤ 2 ^ drop := Nat.pow_le_pow_right (by decide) (by omega)
    have : M = 0 := by
      rcases Nat.eq_zero_or_pos M with h | hp
      · exact h
      · have : 1 * 2 ^ drop ≤ M * 2 ^ drop := Nat.mul_le_mul_right _ hp
        omega
    rw [this]
    exact Nat.zero_le _
  · rw [Nat.min_eq_left hd]
    have hg : 0 < 2 ^ drop := Nat.two_pow_pos _
    have : M ≤ n / 2 ^ drop := (Nat.le_div_iff_mul_le hg).2 h
    omega

/-- the rung that is written -/
def rungOf (mag : Nat) (place : Int) : Nat :=
  if mag = 0 then 0 else
  min ((max (place + mag.log2 - 52) (-1074) + 1074).toNat * 4503599627370496 + Toward.even.cut false (mag <<< (place - max (place + mag.log2 - 52) (-1074)).toNat) (max (place + mag.log2 - 52) (-1074) - place).toNat) 9218868437227405312

def wordOf (neg : Bool) (r : Nat) : Nat := (if neg then 9223372036854775808 else 0) + r

theorem nearest_eq (neg : Bool) (mag : Nat) (place : Int) : FloatKind.f64.format.nearest neg mag place = wordOf neg (rungOf mag place) := by
  show double.nearest neg mag place = _
  unfold Format.nearest rungOf
  split
  · exact word_form _ _
  · exact word_form _ _

theorem log2_le_iff {m : Nat} (hm : m ≠ 0) {L : Nat} : 2 ^ m.log2 ≤ m ∧ m < 2 ^ (m.log2 + 1) := ⟨Nat.log2_self_le hm, Nat.lt_log2_self⟩

/-- the parts of a rung -/
theorem sig_parts (r : Nat) : r = sigK r * 4503599627370496 + sigM r ∧ sigM r < 2 ^ 53 ∧ (0 < sigK r → 2 ^ 52 ≤ sigM r) := by
  unfold sigK sigM
  by_cases h : r < 4503599627370496
  · rw [if_pos h, if_pos h]
    refine ⟨by omega, by have : (2 : Nat) ^ 53 = 9007199254740992 := by decide
                         omega, by omega⟩
  · rw [if_neg h, if_neg h]
    have : (2 : Nat) ^ 53 = 9007199254740992 := by decide
    have : (2 : Nat) ^ 52 = 4503599627370496 := by decide
    omega

theorem mul_pow_le {x y a b p d q : Nat} (h : x * 2 ^ a ≤ y * 2 ^ (q + b)) (hpd : (a : Int) - b - q = p - d) : x * 2 ^ p ≤ y * 2 ^ d := by
  -- multiply both by 2 ^ c
  have h1 : a + d = p + (q + b) := by omega
  have h2 : x * 2 ^ a * 2 ^ d ≤ y * 2 ^ (q + b) * 2 ^ d := Nat.mul_le_mul_right _ h
  rw [Nat.mul_assoc x, ← Nat.pow_add, h1, Nat.pow_add 2 p, ← Nat.mul_assoc, Nat.mul_right_comm y] at h2
  exact Nat.le_of_mul_le_mul_right h2 (Nat.two_pow_pos _)
theorem mul_pow_ge {x y a b p d q : Nat} (h : y * 2 ^ (q + b) ≤ x * 2 ^ a) (hpd : (a : Int) - b - q = p - d) : y * 2 ^ d ≤ x * 2 ^ p := by
  have h1 : a + d = p + (q + b) := by omega
  have h2 : y * 2 ^ (q + b) * 2 ^ d ≤ x * 2 ^ a * 2 ^ d := Nat.mul_le_mul_right _ h
  rw [Nat.mul_assoc x, ← Nat.pow_add, h1, Nat.pow_add 2 p, ← Nat.mul_assoc, Nat.mul_right_comm y] at h2
  exact Nat.le_of_mul_le_mul_right h2 (Nat.two_pow_pos _)

/-- what lies not above a float is told not above it -/
theorem rung_le {mag : Nat} {place : Int} {r a b : Nat} (hab : (a : Int) - b = place + 1074) (h : mag * 2 ^ a ≤ valN r * 2 ^ b) : rungOf mag place ≤ r := by
  unfold rungOf
  split
  · exact Nat.zero_le _
  next hm =>
  refine Nat.le_trans (Nat.min_le_left _ _) ?_
  obtain ⟨l1, l2⟩ := log2_le_iff hm (L := 0)
  obtain ⟨s1, s2, s3⟩ := sig_parts r
  generalize hL : mag.log2 = L at *
  generalize hl : max (place + (L : Int) - 52) (-1074) = last at *
  have hlast : (place + (L : Int) - 52 ≤ -1074 ∧ last = -1074) ∨ (-1074 < place + (L : Int) - 52 ∧ last = place + L - 52) := by omega
  obtain ⟨q, hq⟩ : ∃ q : Nat, last + 1074 = q := ⟨(last + 1074).toNat, by omega⟩
  have e1 : (last + 1074).toNat = q := by omega
  rw [e1, Nat.shiftLeft_eq]
  generalize hp : (place - last).toNat = p
  generalize hd : (last - place).toNat = d
  have hpd : (a : Int) - b - q = p - d := by omega
  have hv : valN r * 2 ^ b = sigM r * 2 ^ (sigK r + b) := by unfold valN; rw [Nat.mul_assoc, ← Nat.pow_add]
  rw [hv] at h
  -- the most that can be kept
  have hmost : Toward.even.cut false (mag * 2 ^ p) d ≤ 2 ^ 53 := by
    refine cut_le _ ?_
    have : mag * 2 ^ p ≤ 2 ^ (L + 1) * 2 ^ p := Nat.mul_le_mul_right _ (by omega)
    refine Nat.le_trans this ?_
    rw [← Nat.pow_add, ← Nat.pow_add]
    exact Nat.pow_le_pow_right (by decide) (by omega)
  rcases Nat.lt_trichotomy (sigK r) q with hk | hk | hk
  · -- impossible
    exfalso
    have h1 : 2 ^ (L + a) ≤ mag * 2 ^ a := by rw [Nat.pow_add]; exact Nat.mul_le_mul_right _ l1
    have h2 : sigM r * 2 ^ (sigK r + b) < 2 ^ (53 + (sigK r + b)) := by rw [Nat.pow_add 2 53]; exact Nat.mul_lt_mul_of_pos_right s2 (Nat.two_pow_pos _)
    have h3 : 2 ^ (53 + (sigK r + b)) ≤ 2 ^ (L + a) := Nat.pow_le_pow_right (by decide) (by omega)
    omega
  · subst hk
    have := cut_le (M := sigM r) false (mul_pow_le h hpd)
    omega
  · have h5 := s3 (by omega)
    have e53 : (2 : Nat) ^ 53 = 9007199254740992 := by decide
    have e52 : (2 : Nat) ^ 52 = 4503599627370496 := by decide
    rw [e53] at hmost
    rw [e52] at h5
    have : (q + 1) * 4503599627370496 ≤ sigK r * 4503599627370496 := Nat.mul_le_mul_right _ hk
    rw [Nat.add_mul, Nat.one_mul] at this
    omega

/-- what lies not below a float is told not below it -/
theorem rung_ge {mag : Nat} {place : Int} {r a b : Nat} (hr : r ≤ 9218868437227405312) (hab : (a : Int) - b = place + 1074) (h : valN r * 2 ^ b ≤ mag * 2 ^ a) : r ≤ rungOf mag place := by
  unfold rungOf
  split
  · next hm =>
    rw [hm, Nat.zero_mul] at h
    rcases Nat.eq_zero_or_pos r with h0 | h0
    · omega
    · have h1 := valN_lt h0
      have : 0 < valN r * 2 ^ b := Nat.mul_pos (by have : valN 0 = 0 := rfl; omega) (Nat.two_pow_pos _)
      omega
  next hm =>
  refine Nat.le_min.2 ⟨?_, hr⟩
  obtain ⟨l1, l2⟩ := log2_le_iff hm (L := 0)
  obtain ⟨s1, s2, s3⟩ := sig_parts r
  generalize hL : mag.log2 = L at *
  generalize hl : max (place + (L : Int) - 52) (-1074) = last at *
  have hlast : (place + (L : Int) - 52 ≤ -1074 ∧ last = -1074) ∨ (-1074 < place + (L : Int) - 52 ∧ last = place + L - 52) := by omega
  obtain ⟨q, hq⟩ : ∃ q : Nat, last + 1074 = q := ⟨(last + 1074).toNat, by omega⟩
  have e1 : (last + 1074).toNat = q := by omega
  rw [e1, Nat.shiftLeft_eq]
  generalize hp : (place - last).toNat = p
  generalize hd : (last - place).toNat = d
  have hpd : (a : Int) - b - q = p - d := by omega
  have hv : valN r * 2 ^ b = sigM r * 2 ^ (sigK r + b) := by unfold valN; rw [Nat.mul_assoc, ← Nat.pow_add]
  rw [hv] at h
  rcases Nat.lt_trichotomy (sigK r) q with hk | hk | hk
  · have hleast : 2 ^ 52 ≤ Toward.even.cut false (mag * 2 ^ p) d := by
      refine cut_ge _ ?_
      have : 2 ^ L * 2 ^ p ≤ mag * 2 ^ p := Nat.mul_le_mul_right _ l1
      refine Nat.le_trans ?_ this
      rw [← Nat.pow_add, ← Nat.pow_add]
      exact Nat.pow_le_pow_right (by decide) (by omega)
    have e53 : (2 : Nat) ^ 53 = 9007199254740992 := by decide
    have e52 : (2 : Nat) ^ 52 = 4503599627370496 := by decide
    rw [e53] at s2
    rw [e52] at hleast
    have : (sigK r + 1) * 4503599627370496 ≤ q * 4503599627370496 := Nat.mul_le_mul_right _ hk
    rw [Nat.add_mul, Nat.one_mul] at this
    omega
  · subst hk
    have := cut_ge (M := sigM r) false (mul_pow_ge h hpd)
    omega
  · exfalso
    have h5 := s3 (by omega)
    have h1 : mag * 2 ^ a < 2 ^ (L + 1 + a) := by rw [Nat.pow_add 2 (L + 1)]; exact Nat.mul_lt_mul_of_pos_right l2 (Nat.two_pow_pos _)
    have h2 : 2 ^ (52 + (sigK r + b)) ≤ sigM r * 2 ^ (sigK r + b) := by rw [Nat.pow_add 2 52]; exact Nat.mul_le_mul_right _ h5
    have h3 : 2 ^ (L + 1 + a) ≤ 2 ^ (52 + (sigK r + b)) := Nat.pow_le_pow_right (by decide) (by omega)
    omega

theorem rung_exact {mag : Nat} {place : Int} {r a b : Nat} (hr : r ≤ 9218868437227405312) (hab : (a : Int) - b = place + 1074) (h : mag * 2 ^ a = valN r * 2 ^ b) : rungOf mag place = r :=
  Nat.le_antisymm (rung_le hab (Nat.le_of_eq h)) (rung_ge hr hab (Nat.le_of_eq h.symm))

theorem rungOf_le (mag : Nat) (place : Int) : rungOf mag place ≤ 9218868437227405312 := by
  unfold rungOf
  split
  · exact Nat.zero_le _
  · exact Nat.min_le_right _ _

end Go.Ev

/- Floats as whole numbers of the least unit: sums, and numbers made whole. -/
set_option exponentiation.threshold 2200
namespace Go.Ev
open Go Ieee

def nanR : Nat := 9218868437227405312
/-- the sign -/
def sg (x : Nat) : Bool := x / 9223372036854775808 % 2 == 1
/-- the number, in least units -/
def V (x : Nat) : Int := sv (sg x) (valN (rg x))
def Fit (x : Nat) : Prop := rg x < 9218868437227405312
theorem Fit.num {x : Nat} (h : Fit x) : Num x := Nat.le_of_lt h

theorem rg_wordOf {s : Bool} {r : Nat} (h : r ≤ 9218868437227405312) : rg (wordOf s r) = r := (form_word (neg := s) h).2.1
theorem sg_wordOf {s : Bool} {r : Nat} (h : r ≤ 9218868437227405312) : sg (wordOf s r) = s := (form_word (neg := s) h).2.2
theorem word_wordOf {s : Bool} {r : Nat} (h : r ≤ 9218868437227405312) : FWord (wordOf s r) := (form_word (neg := s) h).1
theorem V_wordOf {s : Bool} {r : Nat} (h : r ≤ 9218868437227405312) : V (wordOf s r) = sv s (valN r) := by unfold V; rw [rg_wordOf h, sg_wordOf h]
theorem wordOf_of {x : Nat} (h : FWord x) : x = wordOf (sg x) (rg x) := by
  unfold wordOf sg rg
  unfold FWord at h
  by_cases h1 : x / 9223372036854775808 % 2 = 1
  · rw [show (x / 9223372036854775808 % 2 == 1) = true from by rw [h1]; rfl, if_pos rfl]; omega
  · rw [show (x / 9223372036854775808 % 2 == 1) = false from by rw [beq_eq_false_iff_ne]; exact h1, if_neg (by decide)]; omega

theorem valN_inj {r s : Nat} : valN r = valN s ↔ r = s := by
  constructor
  · intro h
    rcases Nat.lt_trichotomy r s with h1 | h1 | h1
    · have := valN_lt h1; omega
    · exact h1
    · have := valN_lt h1; omega
  · rintro rfl; rfl
theorem valN_lt_iff {r s : Nat} : valN r < valN s ↔ r < s := by
  constructor
  · intro h
    rcases Nat.lt_trichotomy r s with h1 | h1 | h1
    · exact h1
    · subst h1; omega
    · have := valN_lt h1; omega
  · exact valN_lt
theorem valN_le_iff {r s : Nat} : valN r ≤ valN s ↔ r ≤ s := by
  have := @valN_lt_iff s r
  omega
theorem valN_zero : valN 0 = 0 := rfl

theorem cmp_V (x y : Nat) : compare (skey x) (skey y) = compare (V x) (V y) := (sv_compare (r := rg x) (r' := rg y) (sg x) (sg y)).symm
theorem flt_V {x y : Nat} (hx : Num x) (hy : Num y) : flt .f64 x y = decide (V x < V y) := by
  rw [flt_key hx hy]
  have := cmp_V x y
  rw [compare_int, compare_int] at this
  by_cases h : skey x < skey y
  · rw [if_pos h] at this
    by_cases h2 : V x < V y
    · rw [decide_eq_true h, decide_eq_true h2]
    · rw [if_neg h2] at this; split at this <;> cases this
  · rw [if_neg h] at this
    by_cases h2 : V x < V y
    · rw [if_pos h2] at this; split at this <;> cases this
    · rw [decide_eq_false h, decide_eq_false h2]
theorem feq_V {x y : Nat} (hx : Num x) (hy : Num y) : feq .f64 x y = decide (V x = V y) := by
  rw [feq_key hx hy]
  have := cmp_V x y
  rw [compare_int, compare_int] at this
  by_cases h : skey x = skey y
  · rw [if_neg (by omega), if_pos h] at this
    by_cases h2 : V x < V y
    · rw [if_pos h2] at this; cases this
    · rw [if_neg h2] at this
      by_cases h3 : V x = V y
      · rw [decide_eq_true h, decide_eq_true h3]
      · rw [if_neg h3] at this; cases this
  · by_cases h3 : V x = V y
    · rw [if_neg (by omega : ¬ V x < V y), if_pos h3, if_neg h] at this
      split at this <;> cases this
    · rw [decide_eq_false h, decide_eq_false h3]
theorem fgt_V {x y : Nat} (hx : Num x) (hy : Num y) : fgt .f64 x y = decide (V x > V y) := by
  rw [fgt_key hx hy]
  have := flt_V hy hx
  rw [flt_key hy hx] at this
  exact this

theorem cut_scale (neg : Bool) (n d c : Nat) : Toward.even.cut neg (n * 2 ^ c) (d + c) = Toward.even.cut neg n d := by
  unfold Toward.cut
  simp only
  rcases Nat.eq_zero_or_pos n with h0 | h0
  · subst h0
    simp
  have hl : (n * 2 ^ c).log2 = n.log2 + c := by
    rw [Nat.log2_eq_iff (Nat.ne_of_gt (Nat.mul_pos h0 (Nat.two_pow_pos _)))]
    obtain ⟨l1, l2⟩ := log2_le_iff (Nat.ne_of_gt h0) (L := 0)
    constructor
    · rw [Nat.pow_add]; exact Nat.mul_le_mul_right _ l1
    · rw [Nat.add_right_comm, Nat.pow_add]; exact Nat.mul_lt_mul_of_pos_right l2 (Nat.two_pow_pos _)
  rw [hl, show min (d + c) (n.log2 + c + 2) = min d (n.log2 + 2) + c by omega]
  simp only [Nat.shiftLeft_eq, Nat.one_mul]
  rw [Nat.pow_add]
  generalize 2 ^ min d (n.log2 + 2) = g
  have hc : 0 < 2 ^ c := Nat.two_pow_pos _
  generalize 2 ^ c = k at *
  rw [Nat.mul_div_mul_right _ _ hc, Nat.mul_mod_mul_right]
  have e1 : decide (g * k < 2 * (n % g * k)) = decide (g < 2 * (n % g)) := by
    rw [← Nat.mul_assoc]
    by_cases h : g < 2 * (n % g)
    · rw [decide_eq_true h, decide_eq_true (Nat.mul_lt_mul_of_pos_right h hc)]
    · rw [decide_eq_false h, decide_eq_false (fun h2 => h (Nat.lt_of_mul_lt_mul_right h2))]
  have e2 : (g * k == 2 * (n % g * k)) = (g == 2 * (n % g)) := by
    rw [← Nat.mul_assoc]
    by_cases h : g = 2 * (n % g)
    · rw [beq_iff_eq.2 h, beq_iff_eq.2 (congrArg (· * k) h)]
    · rw [beq_eq_false_iff_ne.2 h, beq_eq_false_iff_ne.2 fun h2 => h (Nat.eq_of_mul_eq_mul_right hc h2)]
  rw [e1, e2]

/-- to the nearest float, from least units -/
def rd (n : Nat) : Nat := rungOf n (-1074)

theorem rungOf_rd (m c : Nat) : rungOf m (-1074 + (c : Int)) = rd (m * 2 ^ c) := by
  unfold rd rungOf
  have hc : 0 < 2 ^ c := Nat.two_pow_pos _
  by_cases hm : m = 0
  · subst hm; simp
  have hm' : m * 2 ^ c ≠ 0 := Nat.ne_of_gt (Nat.mul_pos (Nat.pos_of_ne_zero hm) hc)
  rw [if_neg hm, if_neg hm']
  have hl : (m * 2 ^ c).log2 = m.log2 + c := by
    rw [Nat.log2_eq_iff hm']
    obtain ⟨l1, l2⟩ := log2_le_iff hm (L := 0)
    constructor
    · rw [Nat.pow_add]; exact Nat.mul_le_mul_right _ l1
    · rw [Nat.add_right_comm, Nat.pow_add]; exact Nat.mul_lt_mul_of_pos_right l2 hc
  rw [hl]
  have hlast : (-1074 : Int) + ((m.log2 + c : Nat) : Int) - 52 = -1074 + (c : Int) + (m.log2 : Int) - 52 := by omega
  rw [hlast]
  generalize hL : max (-1074 + (c : Int) + (m.log2 : Int) - 52) (-1074) = last
  obtain ⟨q, hq⟩ : ∃ q : Nat, last + 1074 = q := ⟨(last + 1074).toNat, by omega⟩
  have hq' : last = -1074 + (q : Int) := by omega
  subst hq'
  congr 2
  rw [Nat.shiftLeft_eq, Nat.shiftLeft_eq]
  rcases Nat.le_total q c with h | h
  · obtain ⟨d, rfl⟩ : ∃ d, c = q + d := ⟨c - q, by omega⟩
    rw [show ((-1074 : Int) + ((q + d : Nat) : Int) - (-1074 + (q : Int))).toNat = d by omega, show ((-1074 : Int) + (q : Int) - (-1074 + ((q + d : Nat) : Int))).toNat = 0 by omega,
      show ((-1074 : Int) - (-1074 + (q : Int))).toNat = 0 by omega, show ((-1074 : Int) + (q : Int) - -1074).toNat = q by omega]
    have := cut_scale false (m * 2 ^ d) 0 q
    rw [Nat.zero_add] at this
    rw [← this, Nat.pow_zero, Nat.mul_one, Nat.mul_assoc, ← Nat.pow_add, Nat.add_comm d q]
  · obtain ⟨d, rfl⟩ : ∃ d, q = c + d := ⟨q - c, by omega⟩
    rw [show ((-1074 : Int) + (c : Int) - (-1074 + ((c + d : Nat) : Int))).toNat = 0 by omega, show ((-1074 : Int) + ((c + d : Nat) : Int) - (-1074 + (c : Int))).toNat = d by omega,
      show ((-1074 : Int) - (-1074 + ((c + d : Nat) : Int))).toNat = 0 by omega, show ((-1074 : Int) + ((c + d : Nat) : Int) - -1074).toNat = d + c by omega]
    rw [← cut_scale false (m * 2 ^ 0) d c, Nat.pow_zero, Nat.mul_one, Nat.mul_one]

theorem rd_le {n r : Nat} (h : n ≤ valN r) : rd n ≤ r := rung_le (a := 0) (b := 0) (by decide) (by simpa using h)
theorem rd_ge {n r : Nat} (hr : r ≤ 9218868437227405312) (h : valN r ≤ n) : r ≤ rd n := rung_ge (a := 0) (b := 0) hr (by decide) (by simpa using h)
theorem rd_val {r : Nat} (hr : r ≤ 9218868437227405312) : rd (valN r) = r := Nat.le_antisymm (rd_le (Nat.le_refl _)) (rd_ge hr (Nat.le_refl _))
theorem rd_inf (n : Nat) : rd n ≤ 9218868437227405312 := rungOf_le _ _

theorem signed_unit (s : Bool) (m k : Nat) (base : Int) (b : Nat) (hb : base = -1074 + (b : Int)) (h : b ≤ k) : signed s m (-1074 + (k : Int) - base).toNat * ((2 ^ b : Nat) : Int) = sv s (m * 2 ^ k) := by
  have := signed_scale s m k (-1074 + (k : Int)) base rfl (by omega) (by omega)
  rw [show (base + 1074).toNat = b by omega] at this
  exact this

theorem sum_spec (s t : Bool) (m n i j : Nat) : ∃ total : Int, ∃ b : Nat, Datum.sum (.number s m (-1074 + (i : Int))) (.number t n (-1074 + (j : Int))) = some (.number (if total = 0 then s && t else decide (total < 0)) total.natAbs (-1074 + (b : Int))) ∧
    total * ((2 ^ b : Nat) : Int) = sv s (m * 2 ^ i) + sv t (n * 2 ^ j) := by
  have hb : min (-1074 + (i : Int)) (-1074 + (j : Int)) = -1074 + ((min i j : Nat) : Int) := by omega
  refine ⟨signed s m (-1074 + (i : Int) - (-1074 + ((min i j : Nat) : Int))).toNat + signed t n (-1074 + (j : Int) - (-1074 + ((min i j : Nat) : Int))).toNat, min i j, ?_, ?_⟩
  · unfold Datum.sum
    simp only [hb]
  · rw [Int.add_mul, signed_unit s m i _ _ rfl (Nat.min_le_left _ _), signed_unit t n j _ _ rfl (Nat.min_le_right _ _)]

theorem total_spec {total v : Int} {b : Nat} (h : total * ((2 ^ b : Nat) : Int) = v) : (total = 0 ↔ v = 0) ∧ (total < 0 ↔ v < 0) ∧ total.natAbs * 2 ^ b = v.natAbs := by
  have hp : (0 : Int) < ((2 ^ b : Nat) : Int) := by have := Nat.two_pow_pos b; omega
  subst h
  refine ⟨⟨fun h => by rw [h, Int.zero_mul], fun h => ?_⟩, ⟨fun h => ?_, fun h => ?_⟩, ?_⟩
  · rcases Int.mul_eq_zero.1 h with h | h
    · exact h
    · omega
  · have := Int.mul_lt_mul_of_pos_right h hp
    rwa [Int.zero_mul] at this
  · rcases Int.lt_or_le total 0 with h1 | h1
    · exact h1
    · have := Int.mul_nonneg h1 (Int.le_of_lt hp); omega
  · rw [Int.natAbs_mul, Int.natAbs_natCast]

theorem read_fin {x : Nat} (h : Fit x) : FloatKind.f64.format.read x = .number (sg x) (sigM (rg x)) (-1074 + (sigK (rg x) : Int)) := read_num h
theorem V_eq (x : Nat) : V x = sv (sg x) (sigM (rg x) * 2 ^ sigK (rg x)) := rfl

/-- THE SUM of two numbers -/
theorem fadd_V {x y : Nat} (hx : Fit x) (hy : Fit y) : fadd x y = wordOf (if V x + V y = 0 then sg x && sg y else decide (V x + V y < 0)) (rd (V x + V y).natAbs) := by
  obtain ⟨total, b, h1, h2⟩ := sum_spec (sg x) (sg y) (sigM (rg x)) (sigM (rg y)) (sigK (rg x)) (sigK (rg y))
  rw [← V_eq, ← V_eq] at h2
  obtain ⟨e1, e2, e3⟩ := total_spec h2
  unfold fadd Format.add
  rw [read_fin hx, read_fin hy, h1]
  show FloatKind.f64.format.nearest _ _ _ = _
  rw [nearest_eq, rungOf_rd, e3]
  congr 1
  by_cases h0 : V x + V y = 0
  · rw [if_pos h0, if_pos (e1.2 h0)]
  · rw [if_neg h0, if_neg (fun h => h0 (e1.1 h))]
    simp only [e2]
/-- THE DIFFERENCE of two numbers -/
theorem fsub_V {x y : Nat} (hx : Fit x) (hy : Fit y) : fsub x y = wordOf (if V x - V y = 0 then sg x && !sg y else decide (V x - V y < 0)) (rd (V x - V y).natAbs) := by
  obtain ⟨total, b, h1, h2⟩ := sum_spec (sg x) (!sg y) (sigM (rg x)) (sigM (rg y)) (sigK (rg x)) (sigK (rg y))
  have hn : sv (!sg y) (sigM (rg y) * 2 ^ sigK (rg y)) = - V y := by
    rw [V_eq]; unfold sv; cases sg y <;> simp
  rw [← V_eq, hn, ← Int.sub_eq_add_neg] at h2
  obtain ⟨e1, e2, e3⟩ := total_spec h2
  unfold fsub Format.sub
  rw [read_fin hx, read_fin hy]
  show ((Datum.sum _ (Datum.number (!sg y) _ _)).map _).getD _ = _
  rw [h1]
  show FloatKind.f64.format.nearest _ _ _ = _
  rw [nearest_eq, rungOf_rd, e3]
  congr 1
  by_cases h0 : V x - V y = 0
  · rw [if_pos h0, if_pos (e1.2 h0)]
  · rw [if_neg h0, if_neg (fun h => h0 (e1.1 h))]
    simp only [e2]


/-! numbers made whole -/
/-- one, in least units -/
def U : Nat := 2 ^ 1074
theorem U_pos : 0 < U := Nat.two_pow_pos _
def oneR : Nat := 4607182418800017408
theorem valN_one : valN oneR = U := by
  have e1 : sigM oneR = 2 ^ 52 := by decide
  have e2 : sigK oneR = 1022 := by decide
  unfold valN U
  rw [e1, e2, ← Nat.pow_add]

/-- is the last digit kept raised? -/
def raises : Toward → Bool → Bool
  | .down, s => s
  | .up, s => !s
  | _, _ => false
theorem cut_way (way : Toward) (hw : way ≠ .even) (neg : Bool) (n drop : Nat) : way.cut neg n drop = n / 2 ^ drop + (raises way neg && n % 2 ^ drop != 0).toNat := by
  have key : n / (1 <<< min drop (n.log2 + 2)) = n / 2 ^ drop ∧ (n % (1 <<< min drop (n.log2 + 2)) != 0) = (n % 2 ^ drop != 0) := by
    rw [Nat.shiftLeft_eq, Nat.one_mul]
    rcases Nat.lt_or_ge (n.log2 + 2) drop with hd | hd
    · rw [Nat.min_eq_right (by omega)]
      have h1 : n < 2 ^ (n.log2 + 1) := Nat.lt_log2_self
      have h2 : 2 ^ (n.log2 + 1) ≤ 2 ^ (n.log2 + 2) := Nat.pow_le_pow_right (by decide) (by omega)
      have h3 : 2 ^ (n.log2 + 1) ≤ 2 ^ drop := Nat.pow_le_pow_right (by decide) (by omega)
      rw [Nat.div_eq_of_lt (Nat.lt_of_lt_of_le h1 h2), Nat.mod_eq_of_lt (Nat.lt_of_lt_of_le h1 h2), Nat.div_eq_of_lt (Nat.lt_of_lt_of_le h1 h3), Nat.mod_eq_of_lt (Nat.lt_of_lt_of_le h1 h3)]
      exact ⟨rfl, rfl⟩
    · rw [Nat.min_eq_left hd]
      exact ⟨rfl, rfl⟩
  obtain ⟨k1, k2⟩ := key
  unfold Toward.cut
  simp only
  rw [k1]
  cases way with
  | even => exact (hw rfl).elim
  | down => simp only [raises, k2]
  | up => simp only [raises, k2]
  | zero => rfl

/-- the whole number's amount -/
def wholeN (way : Toward) (s : Bool) (n : Nat) : Nat := n / U + (raises way s && n % U != 0).toNat

theorem rep (m c : Nat) (hm : m < 2 ^ 53) (hc : c ≤ 2045) : ∃ r, r < 9218868437227405312 ∧ valN r = m * 2 ^ c := by
  have e53 : (2 : Nat) ^ 53 = 9007199254740992 := by decide
  have e52 : (2 : Nat) ^ 52 = 4503599627370496 := by decide
  induction c generalizing m with
  | zero =>
    refine ⟨m, by omega, ?_⟩
    unfold valN sigM sigK
    by_cases h : m < 4503599627370496
    · rw [if_pos h, if_pos h]
    · rw [if_neg h, if_neg h, show m / 4503599627370496 - 1 = 0 by omega]
      congr 1
      omega
  | succ c ih =>
    by_cases h : m < 2 ^ 52
    · obtain ⟨r, h1, h2⟩ := ih (m * 2) (by omega) (by omega)
      exact ⟨r, h1, by rw [h2, Nat.pow_succ, Nat.mul_assoc, Nat.mul_comm 2]⟩
    · refine ⟨(c + 1) * 4503599627370496 + m, by omega, ?_⟩
      unfold valN sigM sigK
      rw [if_neg (by omega), if_neg (by omega)]
      rw [show ((c + 1) * 4503599627370496 + m) / 4503599627370496 - 1 = c + 1 by omega, show 4503599627370496 + ((c + 1) * 4503599627370496 + m) % 4503599627370496 = m by omega]

theorem integral_parts (m K : Nat) : (m <<< (-1074 + (K : Int)).toNat) / 2 ^ (-(-1074 + (K : Int))).toNat = m * 2 ^ K / U ∧ ((m <<< (-1074 + (K : Int)).toNat) % 2 ^ (-(-1074 + (K : Int))).toNat != 0) = (m * 2 ^ K % U != 0) := by
  rw [Nat.shiftLeft_eq]
  unfold U
  rcases Nat.le_total K 1074 with h | h
  · obtain ⟨d, hd⟩ : ∃ d, 1074 = K + d := ⟨1074 - K, by omega⟩
    rw [show (-1074 + (K : Int)).toNat = 0 by omega, show (-(-1074 + (K : Int))).toNat = d by omega, hd, Nat.pow_add, Nat.mul_comm (2 ^ K) (2 ^ d), Nat.mul_div_mul_right _ _ (Nat.two_pow_pos _), Nat.mul_mod_mul_right]
    refine ⟨by simp, ?_⟩
    rw [Nat.pow_zero, Nat.mul_one]
    have hp : 0 < 2 ^ K := Nat.two_pow_pos _
    by_cases h0 : m % 2 ^ d = 0
    · rw [h0, Nat.zero_mul]
    · rw [bne_iff_ne.2 h0, bne_iff_ne.2 (Nat.mul_ne_zero h0 (by omega))]
  · obtain ⟨d, rfl⟩ : ∃ d, K = 1074 + d := ⟨K - 1074, by omega⟩
    rw [show (-1074 + ((1074 + d : Nat) : Int)).toNat = d by omega, show (-(-1074 + ((1074 + d : Nat) : Int))).toNat = 0 by omega, Nat.pow_zero, Nat.div_one, Nat.mod_one, Nat.pow_add, Nat.mul_comm (2 ^ 1074) (2 ^ d), ← Nat.mul_assoc, Nat.mul_div_cancel _ (Nat.two_pow_pos _), Nat.mul_mod_left]
    exact ⟨rfl, rfl⟩

/-- A NUMBER MADE WHOLE -/
theorem intW_V (way : Toward) (hw : way ≠ .even) {x : Nat} (hx : Fit x) : ∃ r, r < 9218868437227405312 ∧ valN r = wholeN way (sg x) (valN (rg x)) * U ∧ intW way x = wordOf (sg x) r := by
  obtain ⟨s1, s2, s3⟩ := sig_parts (rg x)
  have e53 : (2 : Nat) ^ 53 = 9007199254740992 := by decide
  have e52 : (2 : Nat) ^ 52 = 4503599627370496 := by decide
  have hM : way.cut (sg x) (sigM (rg x) <<< (-1074 + (sigK (rg x) : Int)).toNat) (-(-1074 + (sigK (rg x) : Int))).toNat = wholeN way (sg x) (valN (rg x)) := by
    obtain ⟨p1, p2⟩ := integral_parts (sigM (rg x)) (sigK (rg x))
    rw [cut_way way hw, p1, p2]
    rfl
  have hi : intW way x = wordOf (sg x) (rungOf (wholeN way (sg x) (valN (rg x))) 0) := by
    unfold intW FloatKind.decode FloatKind.encode
    rw [read_fin hx]
    show FloatKind.f64.format.nearest _ _ _ = _
    rw [nearest_eq, hM]
  have h0 : (0 : Int) = -1074 + ((1074 : Nat) : Int) := by decide
  have hrd : rungOf (wholeN way (sg x) (valN (rg x))) 0 = rd (wholeN way (sg x) (valN (rg x)) * U) := by
    rw [h0, rungOf_rd]; rfl
  have hrep : ∃ r, r < 9218868437227405312 ∧ valN r = wholeN way (sg x) (valN (rg x)) * U := by
    rcases Nat.le_total 1074 (sigK (rg x)) with h | h
    · refine ⟨rg x, hx, ?_⟩
      obtain ⟨d, hd⟩ : ∃ d, sigK (rg x) = 1074 + d := ⟨sigK (rg x) - 1074, by omega⟩
      have e : valN (rg x) = sigM (rg x) * 2 ^ d * U := by
        unfold valN U
        rw [hd, Nat.pow_add, Nat.mul_comm (2 ^ 1074) (2 ^ d), Nat.mul_assoc]
      unfold wholeN
      rw [e, Nat.mul_div_cancel _ U_pos, Nat.mul_mod_left]
      simp
    · have hlt : wholeN way (sg x) (valN (rg x)) ≤ 2 ^ 53 := by
        have h1 : valN (rg x) < 2 ^ 53 * U := by
          have a1 : valN (rg x) < 2 ^ 53 * 2 ^ sigK (rg x) := Nat.mul_lt_mul_of_pos_right s2 (Nat.two_pow_pos _)
          exact Nat.lt_of_lt_of_le a1 (Nat.mul_le_mul_left _ (Nat.pow_le_pow_right (by decide) h))
        have h2 : valN (rg x) / U < 2 ^ 53 := (Nat.div_lt_iff_lt_mul U_pos).2 h1
        have h3 : ∀ b : Bool, b.toNat ≤ 1 := fun b => by cases b <;> decide
        have := h3 (raises way (sg x) && valN (rg x) % U != 0)
        unfold wholeN
        omega
      rcases Nat.lt_or_eq_of_le hlt with h1 | h1
      · exact rep _ 1074 h1 (by decide)
      · obtain ⟨r, a1, a2⟩ := rep 1 1127 (by decide) (by decide)
        refine ⟨r, a1, ?_⟩
        rw [a2, h1]
        unfold U
        rw [← Nat.pow_add, Nat.one_mul]
  obtain ⟨r, h1, h2⟩ := hrep
  refine ⟨r, h1, h2, ?_⟩
  rw [hi, hrd, ← h2, rd_val (Nat.le_of_lt h1)]

end Go.Ev

/- Floats: signs turned; floor and ceiling. -/
set_option exponentiation.threshold 2200
namespace Go.Ev
open Go Ieee

theorem fneg_parts (x : Nat) : rg (fneg x) = rg x ∧ fneg x / 9223372036854775808 = x / 9223372036854775808 ^^^ 1 := by
  have e : fneg x = x ^^^ 2 ^ 63 := rfl
  unfold rg
  rw [e]
  constructor
  · show (x ^^^ 2 ^ 63) % 2 ^ 63 = x % 2 ^ 63
    rw [Nat.xor_mod_two_pow, Nat.mod_self, Nat.xor_zero]
  · show (x ^^^ 2 ^ 63) / 2 ^ 63 = x / 2 ^ 63 ^^^ 1
    rw [Nat.xor_div_two_pow, Nat.div_self (Nat.two_pow_pos _)]
theorem sg_fneg (x : Nat) : sg (fneg x) = !sg x := by
  unfold sg
  rw [(fneg_parts x).2]
  have h : (x / 9223372036854775808 ^^^ 1) % 2 = ((x / 9223372036854775808) % 2) ^^^ 1 := by
    have := Nat.xor_mod_two_pow (a := x / 9223372036854775808) (b := 1) (n := 1)
    simpa using this
  rw [h]
  rcases Nat.mod_two_eq_zero_or_one (x / 9223372036854775808) with h | h <;> rw [h] <;> rfl
theorem rg_fneg (x : Nat) : rg (fneg x) = rg x := (fneg_parts x).1
theorem word_fneg {x : Nat} (h : FWord x) : FWord (fneg x) := by
  have h1 := rg_fneg x
  have h2 := (fneg_parts x).2
  unfold rg at h1
  unfold FWord at *
  have h3 : x / 9223372036854775808 < 2 ^ 1 := by omega
  have h4 : (x / 9223372036854775808 ^^^ 1) < 2 ^ 1 := Nat.xor_lt_two_pow h3 (by decide)
  omega
theorem V_fneg (x : Nat) : V (fneg x) = - V x := by
  unfold V
  rw [rg_fneg, sg_fneg]
  unfold sv
  cases sg x <;> simp
theorem fneg_wordOf {s : Bool} {r : Nat} (h : r ≤ 9218868437227405312) : fneg (wordOf s r) = wordOf (!s) r := by
  rw [wordOf_of (word_fneg (word_wordOf (s := s) h)), sg_fneg, rg_fneg, rg_wordOf h, sg_wordOf h]
theorem fin_fneg {x : Nat} (h : Fit x) : Fit (fneg x) := by unfold Fit; rw [rg_fneg]; exact h

theorem V_zero {x : Nat} : V x = 0 ↔ rg x = 0 := by
  unfold V sv
  have h := @valN_inj (rg x) 0
  rw [valN_zero] at h
  rw [← h]
  split <;> omega

/-- FLOOR -/
theorem floor_V {x : Nat} (hx : Fit x) : ∃ k : Int, ∃ r, r < 9218868437227405312 ∧ intW .down x = wordOf (sg x) r ∧ V (intW .down x) = k * U ∧ k * U ≤ V x ∧ V x < (k + 1) * U := by
  obtain ⟨r, h1, h2, h3⟩ := intW_V .down (by intro h; cases h) hx
  refine ⟨sv (sg x) (wholeN .down (sg x) (valN (rg x))), r, h1, h3, ?_⟩
  rw [h3, V_wordOf (Nat.le_of_lt h1), h2]
  unfold V
  have hU := U_pos
  generalize sg x = s
  generalize valN (rg x) = n
  have hd := Nat.div_add_mod n U
  have hm := Nat.mod_lt n hU
  unfold wholeN
  cases s
  · simp only [raises, Bool.false_and, Bool.toNat_false, Nat.add_zero, sv, Bool.false_eq_true, if_false]
    generalize U = u at *
    rw [Nat.mul_comm] at hd
    have e : ((n / u * u : Nat) : Int) = (n / u : Nat) * (u : Int) := Int.natCast_mul _ _
    refine ⟨e, ?_, ?_⟩
    · rw [← e]; omega
    · rw [Int.add_mul, ← e]; omega
  · simp only [raises, Bool.true_and, sv, if_true]
    generalize U = u at *
    rw [Nat.mul_comm] at hd
    generalize hb : (n % u != 0) = b
    have e : (((n / u + b.toNat) * u : Nat) : Int) = ((n / u + b.toNat : Nat) : Int) * (u : Int) := Int.natCast_mul _ _
    refine ⟨by rw [e, Int.neg_mul], ?_, ?_⟩
    · rw [Int.neg_mul, ← e]
      cases b
      · have : n % u = 0 := by simpa using hb
        simp only [Bool.toNat_false, Nat.add_zero]; omega
      · simp only [Bool.toNat_true, Nat.add_mul, Nat.one_mul]; omega
    · rw [Int.add_mul, Int.neg_mul, ← e]
      cases b
      · simp only [Bool.toNat_false, Nat.add_zero]; omega
      · have : n % u ≠ 0 := by simpa using hb
        simp only [Bool.toNat_true, Nat.add_mul, Nat.one_mul]; omega

/-- the ceiling is the floor the other way -/
theorem ceil_neg {x : Nat} (hx : Fit x) : intW .up x = fneg (intW .down (fneg x)) := by
  obtain ⟨r, h1, h2, h3⟩ := intW_V .up (by intro h; cases h) hx
  obtain ⟨r', k1, k2, k3⟩ := intW_V .down (by intro h; cases h) (fin_fneg hx)
  rw [rg_fneg, sg_fneg] at k2
  rw [sg_fneg] at k3
  have : r = r' := valN_inj.1 (by rw [h2, k2]; rfl)
  rw [h3, k3, fneg_wordOf (Nat.le_of_lt k1), this, Bool.not_not]

theorem intW_inf (way : Toward) {x : Nat} (hw : FWord x) (h : rg x = 9218868437227405312) : intW way x = x := by
  unfold intW FloatKind.decode
  rw [read_inf h]
  show FloatKind.f64.format.write (.infinity (sg x)) = x
  have e : FloatKind.f64.format.write (.infinity (sg x)) = wordOf (sg x) 9218868437227405312 := word_form _ _
  rw [e, ← h]
  exact (wordOf_of hw).symm

/-- a float as a whole number -/
theorem ftoI_V {x : Nat} (hx : Fit x) : fhasI x ∧ ftoI x = sv (sg x) (valN (rg x) / U) := by
  obtain ⟨p1, p2⟩ := integral_parts (sigM (rg x)) (sigK (rg x))
  have e : (FloatKind.f64.decode x).toInt .zero = some (sv (sg x) (valN (rg x) / U)) := by
    unfold FloatKind.decode
    rw [read_fin hx]
    show some (signed (sg x) (Toward.zero.cut (sg x) (sigM (rg x) <<< (-1074 + (sigK (rg x) : Int)).toNat) (-(-1074 + (sigK (rg x) : Int))).toNat) 0) = _
    rw [cut_way .zero (by intro h; cases h), p1]
    show some (signed (sg x) (valN (rg x) / U + (false && _).toNat) 0) = _
    rw [Bool.false_and]
    unfold signed sv
    rw [Nat.shiftLeft_eq, Nat.pow_zero, Nat.mul_one]
    rfl
  exact ⟨by unfold fhasI; rw [e]; rfl, by unfold ftoI; rw [e]; rfl⟩
/-- a whole number as a float -/
theorem fofI_V (n : Int) : fofI n = wordOf (decide (n < 0)) (rd (n.natAbs * U)) := by
  show FloatKind.f64.format.nearest _ _ _ = _
  rw [nearest_eq]
  have h0 : (0 : Int) = -1074 + ((1074 : Nat) : Int) := by decide
  rw [h0, rungOf_rd]
  rfl
/-- a small whole number's float -/
theorem whole_rep {n : Nat} (h : n < 2 ^ 53) : ∃ r, r < 9218868437227405312 ∧ valN r = n * U := rep n 1074 h (by decide)
theorem trunc_V {x : Nat} (hx : Fit x) : ∃ r, r < 9218868437227405312 ∧ valN r = valN (rg x) / U * U ∧ intW .zero x = wordOf (sg x) r := by
  obtain ⟨r, h1, h2, h3⟩ := intW_V .zero (by intro h; cases h) hx
  refine ⟨r, h1, ?_, h3⟩
  rw [h2]
  rfl

end Go.Ev
