/- An evaluator of the model's code, proved right. No condition. -/
import Derived.Test.YthceebioiinhiaaEvAll8
set_option linter.unusedSimpArgs false
set_option linter.unusedVariables false
set_option linter.unusedSectionVars false
/- Floats: what is reckoned is a word; where it is a number. -/
set_option exponentiation.threshold 2000
namespace Go.Ev
open Go Ieee

def FFin (x : Nat) : Prop := ∃ s m i, FloatKind.f64.format.read x = .number s m i
def FWord (x : Nat) : Prop := x < 18446744073709551616

theorem word_form (neg : Bool) (r : Nat) : Format.word double neg r = (if neg then 9223372036854775808 else 0) + r := by
  unfold Format.word
  cases neg
  · simp
  · rfl

theorem nearest_form (neg : Bool) (mag : Nat) (place : Int) : ∃ r, r ≤ 9218868437227405312 ∧ FloatKind.f64.format.nearest neg mag place = (if neg then 9223372036854775808 else 0) + r := by
  show ∃ r, r ≤ 9218868437227405312 ∧ double.nearest neg mag place = _
  unfold Format.nearest
  split
  · exact ⟨0, Nat.zero_le _, word_form _ _⟩
  · exact ⟨_, Nat.min_le_right _ _, word_form _ _⟩

theorem form_word {neg : Bool} {r : Nat} (h : r ≤ 9218868437227405312) : FWord ((if neg then 9223372036854775808 else 0) + r) ∧ ((if neg then 9223372036854775808 else 0) + r) % 9223372036854775808 = r ∧
    ((((if neg then 9223372036854775808 else 0) + r) / 9223372036854775808 % 2 == 1) = neg) := by
  unfold FWord
  cases neg
  · simp only [Bool.false_eq_true, if_false, Nat.zero_add, beq_eq_false_iff_ne, ne_eq]
    omega
  · simp only [if_true, beq_iff_eq]
    omega

theorem low_nan {x : Nat} (h : x % 9223372036854775808 ≤ 9218868437227405312) [Globs] : ¬ nanB .f64 x := by
  rw [nanB_iff, Go.Fl.read64]
  split
  · intro h; cases h
  · split
    · intro h; cases h
    · rw [if_pos (by omega)]
      intro h; cases h

theorem read_neg (x : Nat) : (FloatKind.f64.format.read x).neg = (x / 9223372036854775808 % 2 == 1) := by
  rw [Go.Fl.read64]
  split
  · rfl
  · split
    · rfl
    · split <;> rfl

/-- what is written is no NaN and a word -/
def FClean (x : Nat) : Prop := FWord x ∧ x % 9223372036854775808 ≤ 9218868437227405312

theorem write_clean (d : Datum) (h : d.isNaN = false) : FClean (FloatKind.f64.format.write d) := by
  cases d with
  | nan => cases h
  | infinity s =>
    have e : FloatKind.f64.format.write (.infinity s) = (if s then 9223372036854775808 else 0) + 9218868437227405312 := word_form _ _
    rw [e]
    obtain ⟨h1, h2, _⟩ := form_word (neg := s) (Nat.le_refl 9218868437227405312)
    exact ⟨h1, by rw [h2]; exact Nat.le_refl _⟩
  | number s m i =>
    obtain ⟨r, hr, e⟩ := nearest_form s m i
    have e' : FloatKind.f64.format.write (.number s m i) = (if s then 9223372036854775808 else 0) + r := e
    rw [e']
    obtain ⟨h1, h2, _⟩ := form_word (neg := s) hr
    exact ⟨h1, by rw [h2]; exact hr⟩

theorem FClean.num [Globs] {x : Nat} (h : FClean x) : ¬ nanB .f64 x := low_nan h.2

theorem sum_nan {a b d : Datum} (h : a.sum b = some d) : d.isNaN = false := by
  cases a <;> cases b <;> simp only [Datum.sum] at h
  all_goals first
    | (cases h; done)
    | (cases h; rfl)
    | (split at h <;> first | (cases h; done) | (cases h; rfl))
theorem prod_nan {a b d : Datum} (h : a.product b = some d) : d.isNaN = false := by
  cases a <;> cases b <;> simp only [Datum.product] at h
  all_goals first
    | (cases h; done)
    | (cases h; rfl)
    | (split at h <;> first | (cases h; done) | (cases h; rfl))
theorem quo_nan {n : Nat} {a b d : Datum} (h : a.quotient n b = some d) : d.isNaN = false := by
  cases a <;> cases b <;> simp only [Datum.quotient] at h
  all_goals first
    | (cases h; done)
    | (cases h; rfl)
    | (split at h
       · split at h <;> first | (cases h; done) | (cases h; rfl)
       · cases h; rfl)

theorem getD_word {o : Option Nat} (h : ∀ r, o = some r → FClean r) : FWord (o.getD qnan) := by
  cases o with
  | none => show qnan < _; decide
  | some r => exact (h r rfl).1
theorem getD_clean {o : Option Nat} (h : ∀ r, o = some r → FClean r) (hs : o ≠ none) : FClean (o.getD qnan) := by
  cases o with
  | none => exact absurd rfl hs
  | some r => exact h r rfl

theorem add_clean {a b r : Nat} (h : FloatKind.f64.format.add a b = some r) : FClean r := by
  unfold Format.add at h
  obtain ⟨d, hd, rfl⟩ := Option.map_eq_some_iff.1 h
  exact write_clean d (sum_nan hd)
theorem sub_clean {a b r : Nat} (h : FloatKind.f64.format.sub a b = some r) : FClean r := by
  unfold Format.sub at h
  obtain ⟨d, hd, rfl⟩ := Option.map_eq_some_iff.1 h
  exact write_clean d (sum_nan hd)
theorem mul_clean {a b r : Nat} (h : FloatKind.f64.format.mul a b = some r) : FClean r := by
  unfold Format.mul at h
  obtain ⟨d, hd, rfl⟩ := Option.map_eq_some_iff.1 h
  exact write_clean d (prod_nan hd)
theorem div_clean {a b r : Nat} (h : FloatKind.f64.format.div a b = some r) : FClean r := by
  unfold Format.div at h
  obtain ⟨d, hd, rfl⟩ := Option.map_eq_some_iff.1 h
  exact write_clean d (quo_nan hd)

theorem fadd_word (a b : Nat) : FWord (fadd a b) := getD_word fun _ h => add_clean h
theorem fsub_word (a b : Nat) : FWord (fsub a b) := getD_word fun _ h => sub_clean h
theorem fmul_word (a b : Nat) : FWord (fmul a b) := getD_word fun _ h => mul_clean h
theorem fdiv_word (a b : Nat) : FWord (fdiv a b) := getD_word fun _ h => div_clean h

theorem fadd_fin {a b : Nat} (ha : FFin a) (hb : FFin b) : FClean (fadd a b) := by
  obtain ⟨s, m, i, e1⟩ := ha
  obtain ⟨t, n, j, e2⟩ := hb
  refine getD_clean (fun _ h => add_clean h) ?_
  unfold Format.add
  rw [e1, e2]
  simp [Datum.sum]
theorem fsub_fin {a b : Nat} (ha : FFin a) (hb : FFin b) : FClean (fsub a b) := by
  obtain ⟨s, m, i, e1⟩ := ha
  obtain ⟨t, n, j, e2⟩ := hb
  refine getD_clean (fun _ h => sub_clean h) ?_
  unfold Format.sub
  rw [e1, e2]
  simp [Datum.sum, Datum.opposite]
theorem fmul_fin {a b : Nat} (ha : FFin a) (hb : FFin b) : FClean (fmul a b) := by
  obtain ⟨s, m, i, e1⟩ := ha
  obtain ⟨t, n, j, e2⟩ := hb
  refine getD_clean (fun _ h => mul_clean h) ?_
  unfold Format.mul
  rw [e1, e2]
  simp [Datum.product]

end Go.Ev

/- Floats are held against each other as their words are. -/
set_option exponentiation.threshold 2200
namespace Go.Ev
open Go Ieee

/-- a word without its sign -/
def rg (x : Nat) : Nat := x % 9223372036854775808
/-- a word as a number on one line: the greater float has the greater one -/
def skey (x : Nat) : Int := if x / 9223372036854775808 % 2 == 1 then -(rg x : Int) else rg x

/-- a word's significand, and the place of its last digit above the least -/
def sigM (r : Nat) : Nat := if r < 4503599627370496 then r else 4503599627370496 + r % 4503599627370496
def sigK (r : Nat) : Nat := if r < 4503599627370496 then 0 else r / 4503599627370496 - 1
def valN (r : Nat) : Nat := sigM r * 2 ^ sigK r

theorem valN_lt {r s : Nat} (h : r < s) : valN r < valN s := by
  unfold valN sigM sigK
  by_cases h1 : s < 4503599627370496
  · rw [if_pos h1, if_pos h1, if_pos (by omega), if_pos (by omega)]
    simpa using h
  rw [if_neg h1, if_neg h1]
  by_cases h2 : r < 4503599627370496
  · rw [if_pos h2, if_pos h2]
    have : 1 ≤ 2 ^ (s / 4503599627370496 - 1) := Nat.one_le_two_pow
    calc r * 2 ^ 0 = r := by simp
      _ < (4503599627370496 + s % 4503599627370496) * 1 := by omega
      _ ≤ _ := Nat.mul_le_mul_left _ this
  rw [if_neg h2, if_neg h2]
  by_cases h3 : r / 4503599627370496 = s / 4503599627370496
  · rw [h3]
    exact Nat.mul_lt_mul_of_pos_right (by omega) Nat.one_le_two_pow
  · obtain ⟨d, hd⟩ : ∃ d, s / 4503599627370496 - 1 = (r / 4503599627370496 - 1) + (d + 1) := ⟨s / 4503599627370496 - 1 - (r / 4503599627370496 - 1) - 1, by omega⟩
    rw [hd, Nat.pow_add, ← Nat.mul_assoc, Nat.mul_right_comm]
    refine Nat.mul_lt_mul_of_pos_right ?_ Nat.one_le_two_pow
    have : 2 ≤ 2 ^ (d + 1) := by
      rw [Nat.pow_succ]
      have := Nat.one_le_two_pow (n := d)
      omega
    calc 4503599627370496 + r % 4503599627370496 < 4503599627370496 * 2 := by omega
      _ ≤ (4503599627370496 + s % 4503599627370496) * 2 := by omega
      _ ≤ _ := Nat.mul_le_mul_left _ this

theorem read_num {x : Nat} (h : rg x < 9218868437227405312) : FloatKind.f64.format.read x = .number (x / 9223372036854775808 % 2 == 1) (sigM (rg x)) (-1074 + (sigK (rg x) : Int)) := by
  unfold rg at h
  rw [Go.Fl.read64]
  unfold sigM sigK rg
  split
  · simp
  · simp
theorem read_inf {x : Nat} (h : rg x = 9218868437227405312) : FloatKind.f64.format.read x = .infinity (x / 9223372036854775808 % 2 == 1) := by
  unfold rg at h
  rw [Go.Fl.read64, h]
  rfl

theorem compare_int (a b : Int) : compare a b = if a < b then .lt else if a = b then .eq else .gt := rfl
theorem compare_scale (a b : Int) (c : Nat) (hc : 0 < c) : compare (a * c) (b * c) = compare a b := by
  rw [compare_int, compare_int]
  have hc' : (0 : Int) < c := by omega
  have h1 : a * c < b * c ↔ a < b := Int.mul_lt_mul_right hc'
  have h2 : a * c = b * c ↔ a = b := ⟨fun h => Int.eq_of_mul_eq_mul_right (by omega) h, fun h => by rw [h]⟩
  simp only [h1, h2]

theorem signed_scale (s : Bool) (m k : Nat) (i base : Int) (hi : i = -1074 + (k : Int)) (h1 : base ≤ i) (h2 : -1074 ≤ base) : signed s m (i - base).toNat * ((2 ^ (base + 1074).toNat : Nat) : Int) = if s then -((m * 2 ^ k : Nat) : Int) else ((m * 2 ^ k : Nat) : Int) := by
  have e : (m * 2 ^ (i - base).toNat) * 2 ^ (base + 1074).toNat = m * 2 ^ k := by
    rw [Nat.mul_assoc, ← Nat.pow_add]
    congr 2
    omega
  unfold signed
  rw [Nat.shiftLeft_eq]
  cases s
  · simp only [Bool.false_eq_true, if_false]
    rw [← Int.natCast_mul, e]
  · simp only [if_true]
    rw [Int.neg_mul, ← Int.natCast_mul, e]

/-- sign and amount -/
def sv (s : Bool) (n : Nat) : Int := if s then -(n : Int) else n

theorem sv_compare {r r' : Nat} (s t : Bool) : compare (sv s (valN r)) (sv t (valN r')) = compare (sv s r) (sv t r') := by
  have hm : ∀ a b : Nat, (valN a < valN b ↔ a < b) := fun a b => ⟨fun h => by
    rcases Nat.lt_trichotomy a b with h1 | h1 | h1
    · exact h1
    · subst h1; omega
    · have := valN_lt h1; omega, valN_lt⟩
  have h1 := hm r r'
  have h2 := hm r' r
  have z : valN 0 = 0 := rfl
  have p1 := hm 0 r
  have p2 := hm 0 r'
  rw [z] at p1 p2
  rw [compare_int, compare_int]
  unfold sv
  cases s <;> cases t <;> simp only [Bool.false_eq_true, if_false, if_true]
  · have a1 : ((valN r : Int) < (valN r' : Int)) ↔ ((r : Int) < (r' : Int)) := by omega
    have a2 : ((valN r : Int) = (valN r' : Int)) ↔ ((r : Int) = (r' : Int)) := by omega
    simp only [a1, a2]
  · have a1 : ((valN r : Int) < -(valN r' : Int)) ↔ ((r : Int) < -(r' : Int)) := by omega
    have a2 : ((valN r : Int) = -(valN r' : Int)) ↔ ((r : Int) = -(r' : Int)) := by omega
    simp only [a1, a2]
  · have a1 : (-(valN r : Int) < (valN r' : Int)) ↔ (-(r : Int) < (r' : Int)) := by omega
    have a2 : (-(valN r : Int) = (valN r' : Int)) ↔ (-(r : Int) = (r' : Int)) := by omega
    simp only [a1, a2]
  · have a1 : (-(valN r : Int) < -(valN r' : Int)) ↔ (-(r : Int) < -(r' : Int)) := by omega
    have a2 : (-(valN r : Int) = -(valN r' : Int)) ↔ (-(r : Int) = -(r' : Int)) := by omega
    simp only [a1, a2]

/-- THE ORDER of two floats that are numbers or infinite -/
theorem order_key {x y : Nat} (hx : rg x ≤ 9218868437227405312) (hy : rg y ≤ 9218868437227405312) : FloatKind.f64.format.order x y = some (compare (skey x) (skey y)) := by
  have kx : skey x = sv (x / 9223372036854775808 % 2 == 1) (rg x) := rfl
  have ky : skey y = sv (y / 9223372036854775808 % 2 == 1) (rg y) := rfl
  unfold Format.order
  rw [kx, ky]
  rcases Nat.lt_or_eq_of_le hx with h1 | h1
  · rw [read_num h1]
    rcases Nat.lt_or_eq_of_le hy with h2 | h2
    · rw [read_num h2]
      generalize (x / 9223372036854775808 % 2 == 1) = s at *
      generalize (y / 9223372036854775808 % 2 == 1) = t at *
      show some (compare (signed s (sigM (rg x)) (-1074 + (sigK (rg x) : Int) - min (-1074 + (sigK (rg x) : Int)) (-1074 + (sigK (rg y) : Int))).toNat)
        (signed t (sigM (rg y)) (-1074 + (sigK (rg y) : Int) - min (-1074 + (sigK (rg x) : Int)) (-1074 + (sigK (rg y) : Int))).toNat)) = _
      have hb1 : min (-1074 + (sigK (rg x) : Int)) (-1074 + (sigK (rg y) : Int)) ≤ -1074 + (sigK (rg x) : Int) := Int.min_le_left _ _
      have hb2 : min (-1074 + (sigK (rg x) : Int)) (-1074 + (sigK (rg y) : Int)) ≤ -1074 + (sigK (rg y) : Int) := Int.min_le_right _ _
      have hb3 : -1074 ≤ min (-1074 + (sigK (rg x) : Int)) (-1074 + (sigK (rg y) : Int)) := by omega
      generalize min (-1074 + (sigK (rg x) : Int)) (-1074 + (sigK (rg y) : Int)) = base at *
      rw [← compare_scale _ _ (2 ^ (base + 1074).toNat) Nat.one_le_two_pow, signed_scale s _ _ _ base rfl hb1 hb3, signed_scale t _ _ _ base rfl hb2 hb3]
      exact congrArg some (sv_compare s t)
    · rw [read_inf h2, h2]
      generalize (x / 9223372036854775808 % 2 == 1) = s at *
      generalize (y / 9223372036854775808 % 2 == 1) = t at *
      show some (if t then Ordering.gt else Ordering.lt) = _
      rw [compare_int]
      unfold sv
      cases s <;> cases t <;> simp only [Bool.false_eq_true, if_false, if_true]
      · rw [if_pos (by omega)]
      · rw [if_neg (by omega), if_neg (by omega)]
      · rw [if_pos (by omega)]
      · rw [if_neg (by omega), if_neg (by omega)]
  · rw [read_inf h1, h1]
    rcases Nat.lt_or_eq_of_le hy with h2 | h2
    · rw [read_num h2]
      generalize (x / 9223372036854775808 % 2 == 1) = s at *
      generalize (y / 9223372036854775808 % 2 == 1) = t at *
      show some (if s then Ordering.lt else Ordering.gt) = _
      rw [compare_int]
      unfold sv
      cases s <;> cases t <;> simp only [Bool.false_eq_true, if_false, if_true]
      · rw [if_neg (by omega), if_neg (by omega)]
      · rw [if_neg (by omega), if_neg (by omega)]
      · rw [if_pos (by omega)]
      · rw [if_pos (by omega)]
    · rw [read_inf h2, h2]
      generalize (x / 9223372036854775808 % 2 == 1) = s at *
      generalize (y / 9223372036854775808 % 2 == 1) = t at *
      show some (compare t.toNat s.toNat) = _
      cases s <;> cases t <;> rfl

/-- not a NaN -/
def Num (x : Nat) : Prop := rg x ≤ 9218868437227405312
theorem num_iff [Globs] {x : Nat} : Num x ↔ ¬ nanB .f64 x := by
  constructor
  · exact fun h => low_nan h
  · intro h
    unfold Num
    rcases Nat.lt_or_ge 9218868437227405312 (rg x) with h1 | h1
    · refine absurd ?_ h
      rw [nanB_iff, Go.Fl.read64]
      unfold rg at h1
      rw [if_neg (by omega), if_neg (by omega), if_neg (by omega)]
      rfl
    · exact h1
theorem flt_key {x y : Nat} (hx : Num x) (hy : Num y) : flt .f64 x y = decide (skey x < skey y) := by
  unfold flt
  rw [order_key hx hy, compare_int]
  by_cases h : skey x < skey y
  · rw [if_pos h, decide_eq_true h]; rfl
  · rw [if_neg h, decide_eq_false h]; split <;> rfl
theorem feq_key {x y : Nat} (hx : Num x) (hy : Num y) : feq .f64 x y = decide (skey x = skey y) := by
  unfold feq
  rw [order_key hx hy, compare_int]
  by_cases h : skey x < skey y
  · rw [if_pos h, decide_eq_false (by omega)]; rfl
  · rw [if_neg h]
    by_cases h2 : skey x = skey y
    · rw [if_pos h2, decide_eq_true h2]; rfl
    · rw [if_neg h2, decide_eq_false h2]; rfl
theorem fgt_key {x y : Nat} (hx : Num x) (hy : Num y) : fgt .f64 x y = decide (skey x > skey y) := by
  unfold fgt
  rw [order_key hx hy, compare_int]
  by_cases h : skey x < skey y
  · rw [if_pos h, decide_eq_false (by omega)]; rfl
  · rw [if_neg h]
    by_cases h2 : skey x = skey y
    · rw [if_pos h2, decide_eq_false (by omega)]; rfl
    · rw [if_neg h2, decide_eq_true (by omega)]; rfl
theorem nan_cmp [Globs] {x y : Nat} (h : ¬ Num x ∨ ¬ Num y) : flt .f64 x y = false ∧ feq .f64 x y = false ∧ fgt .f64 x y = false := by
  have e : FloatKind.f64.format.order x y = none := by
    rcases h with h | h
    · exact Go.Fl.nan_order (.inl (nanB_iff.1 (Classical.not_not.1 fun hn => h (num_iff.2 hn))))
    · exact Go.Fl.nan_order (.inr (nanB_iff.1 (Classical.not_not.1 fun hn => h (num_iff.2 hn))))
  unfold flt feq fgt
  rw [e]
  exact ⟨rfl, rfl, rfl⟩

end Go.Ev
