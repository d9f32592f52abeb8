/- Bignum: contracts: Pow, both. -/
import Derived.Test.YtbmadhdeikoecaaBnW6
set_option maxRecDepth 100000
namespace Go.Proofs.Bn
open Go Go.Ev

theorem dig_len (k : Nat) : ∀ n, k < (dig n).length ↔ 4294967296 ^ k ≤ n := by
  induction k with
  | zero =>
    intro n
    by_cases h : n = 0
    · subst h; simp [dig_zero]
    · rw [dig_pos h]; simp; omega
  | succ k ih =>
    intro n
    by_cases h : n = 0
    · subst h
      rw [dig_zero]
      have := Nat.pow_pos (n := k + 1) (show 0 < 4294967296 by omega)
      simp only [List.length_nil]
      omega
    · rw [dig_pos h, List.length_cons, Nat.add_lt_add_iff_right, ih, Nat.pow_succ, Nat.le_div_iff_mul_le (by omega)]

theorem big_iff (n : Nat) : big n = true ↔ 4294967296 ^ 1024 ≤ n := by
  unfold big
  rw [decide_eq_true_iff, dig_len]

theorem big_mono {m n : Nat} (h : m ≤ n) (hm : big m = true) : big n = true := by
  rw [big_iff] at *
  exact Nat.le_trans hm h

theorem small_len {n : Nat} (h : big n = false) : (dig n).length ≤ 1024 := by
  unfold big at h
  simpa using h

theorem dig_one {n : Nat} (h0 : n ≠ 0) (h : n < 4294967296) : dig n = [(n : Int)] := by
  rw [dig_pos h0, Nat.div_eq_of_lt h, dig_zero, Nat.mod_eq_of_lt h]

theorem big_small {n : Nat} (h : n < 4294967296) : big n = false := by
  unfold big
  by_cases h0 : n = 0
  · subst h0; rw [dig_zero]; simp
  · rw [dig_one h0 h]; simp

theorem dig_mul_le {k m x : Nat} (hm : (dig m).length ≤ k) (hx : x < 4294967296) : (dig (m * x)).length ≤ k + 1 := by
  have h2 : m < 4294967296 ^ k := by
    rcases Nat.lt_or_ge m (4294967296 ^ k) with h | h
    · exact h
    · have := (dig_len k m).2 h
      omega
  rcases Nat.lt_or_ge (k + 1) (dig (m * x)).length with h | h
  · exfalso
    have h3 := (dig_len (k + 1) _).1 h
    rw [Nat.pow_succ] at h3
    have h4 : m * x < 4294967296 ^ k * 4294967296 := Nat.mul_lt_mul'' h2 hx
    omega
  · exact h

theorem dig_mul_len {m x : Nat} (hm : big m = false) (hx : x < 4294967296) : (dig (m * x)).length ≤ 1025 := dig_mul_le (small_len hm) hx

/-- a power's words, and whether it may be -/
def Pow (x : Nat) (n : Int) : List Int × Int :=
  if n < 0 then ([], 1) else if big (x ^ n.toNat) then ([], 3) else (dig (x ^ n.toNat), 0)

theorem nat_word {x : Int} (h : 0 ≤ x) : nat [x] = x.toNat := by simp [nat]

theorem words_one {x : Int} (h : 0 ≤ x ∧ x < 4294967296) : Words [x] := fun y hy => by
  have := List.mem_singleton.1 hy
  omega

section
variable (x n : Int) (hx : 2 ≤ x ∧ x < 4294967296) (hn : n ≤ 9223372036854775807)
  include hx

theorem mul_word {p : Nat} (hp : big p = false) : Mul (nat (dig p)) (nat [x]) = if big (p * x.toNat) then ([], 3) else (dig (p * x.toNat), 0) := by
  rw [nat_dig, nat_word (by omega)]
  unfold Mul
  rw [hp, big_small (by omega)]
  simp

  include hn

theorem pow_ok (hb : big (x.toNat ^ n.toNat) = false) : ∀ (f i : Nat), (i : Int) + f = n → LoopTo Try.prog (loopAt Try.f11 0) ⟨40, [(0, .v (.int .u32 x)), (6, .sl 1 (.ints .u32 (dig (x.toNat ^ i))) true), (24, .v (.int .i64 n)), (25, .v (.int .i64 i))], [], 0⟩ (.exit 1)
    ⟨40, [(6, .sl 1 (.ints .u32 (dig (x.toNat ^ n.toNat))) true)], [], 0⟩ := by
  intro f
  induction f with
  | zero =>
    intro i hi
    have : n.toNat = i := by omega
    rw [this]
    exact .done (by simp) (powL3 x n _ i ⟨by simp; omega, trivial⟩)
  | succ f ih =>
    intro i hi
    have hle : ∀ j, j ≤ n.toNat → big (x.toNat ^ j) = false := fun j hj => by
      cases h : big (x.toNat ^ j) with
      | false => rfl
      | true => rw [big_mono (Nat.pow_le_pow_right (by omega) hj) h] at hb; cases hb
    have hi1 := hle i (by omega)
    have hi2 := hle (i + 1) (by omega)
    have hm := mul_word x hx hi1
    rw [← Nat.pow_succ, hi2] at hm
    simp only [Bool.false_eq_true, if_false] at hm
    have h1 := powL2 x n (dig (x.toNat ^ i)) i ⟨by simp; omega, words_dig _, words_one (by omega), by have := small_len hi1; unfold lim; omega, by unfold lim; simp, by rw [hm]; rfl, inR64 (by omega) (by omega), trivial⟩
    rw [hm] at h1
    exact .step h1 (ih (i + 1) (by omega))

theorem pow_long (hb : big (x.toNat ^ n.toNat) = true) : ∀ (f i : Nat), (i : Int) + f = n → big (x.toNat ^ i) = false → LoopTo Try.prog (loopAt Try.f11 0) ⟨40, [(0, .v (.int .u32 x)), (6, .sl 1 (.ints .u32 (dig (x.toNat ^ i))) true), (24, .v (.int .i64 n)), (25, .v (.int .i64 i))], [], 0⟩ .ret
    ⟨40, [(4, .v (.slice none 0 0)), (5, .v (.int .i64 3))], [], 0⟩ := by
  intro f
  induction f with
  | zero =>
    intro i hi hs
    have : n.toNat = i := by omega
    rw [this, hs] at hb
    cases hb
  | succ f ih =>
    intro i hi hs
    have hm := mul_word x hx hs
    rw [← Nat.pow_succ] at hm
    cases hi2 : big (x.toNat ^ (i + 1)) with
    | true =>
      rw [hi2] at hm
      simp only [if_true] at hm
      have h1 := powL1 x n (dig (x.toNat ^ i)) i ⟨by simp; omega, words_dig _, words_one (by omega), by have := small_len hs; unfold lim; omega, by unfold lim; simp, by rw [hm]; rfl, trivial⟩
      rw [hm] at h1
      exact .done (by simp) (h1.weaken (slots := [4, 5]) (keys := []) (nx := 0) (by rfl))
    | false =>
      rw [hi2] at hm
      simp only [Bool.false_eq_true, if_false] at hm
      have h1 := powL2 x n (dig (x.toNat ^ i)) i ⟨by simp; omega, words_dig _, words_one (by omega), by have := small_len hs; unfold lim; omega, by unfold lim; simp, by rw [hm]; rfl, inR64 (by omega) (by omega), trivial⟩
      rw [hm] at h1
      exact .step h1 (ih (i + 1) (by omega) hi2)

theorem rpow_ok (hb : big (x.toNat ^ n.toNat) = false) : ∀ (f i : Nat) (t : Bool), (i : Int) + f = n → (f = 0 → t = false) → LoopTo Try.prog (loopAt Try.f12 0) ⟨32, [(0, .v (.int .u32 x)), (1, .v (.int .i64 n)), (6, .sl 1 (.ints .u32 (dig (x.toNat ^ i))) t), (7, .v (.int .i64 i))], [], 0⟩ (.exit 0)
    ⟨32, [(6, .sl 1 (.ints .u32 (dig (x.toNat ^ n.toNat))) false)], [], 0⟩ := by
  intro f
  induction f with
  | zero =>
    intro i t hi ht
    have : n.toNat = i := by omega
    rw [this, ht rfl]
    exact .done (by simp) (rpowL3 x n _ false i ⟨by simp; omega, trivial⟩)
  | succ f ih =>
    intro i t hi _
    have hle : ∀ j, j ≤ n.toNat → big (x.toNat ^ j) = false := fun j hj => by
      cases h : big (x.toNat ^ j) with
      | false => rfl
      | true => rw [big_mono (Nat.pow_le_pow_right (by omega) hj) h] at hb; cases hb
    have hi1 := hle i (by omega)
    have hi2 := hle (i + 1) (by omega)
    have hl1 := small_len hi1
    have hl2 := small_len hi2
    have e : nat (dig (x.toNat ^ i)) * nat [x] = x.toNat ^ (i + 1) := by rw [nat_dig, nat_word (by omega), Nat.pow_succ]
    have h1 := rpowL2 x n (dig (x.toNat ^ i)) t i (by
      rw [e]
      exact ⟨by simp; omega, words_dig _, words_one (by omega), by unfold lim4; simp; omega, by rw [over_big (words_dig _), nat_dig]; exact hi2, by unfold lim4; omega, inR64 (by omega) (by omega), trivial⟩)
    rw [e] at h1
    exact .step h1 (ih (i + 1) false (by omega) fun _ => rfl)

theorem rpow_long (hb : big (x.toNat ^ n.toNat) = true) : ∀ (f i : Nat) (t : Bool), (i : Int) + f = n → big (x.toNat ^ i) = false → LoopTo Try.prog (loopAt Try.f12 0) ⟨32, [(0, .v (.int .u32 x)), (1, .v (.int .i64 n)), (6, .sl 1 (.ints .u32 (dig (x.toNat ^ i))) t), (7, .v (.int .i64 i))], [], 0⟩ .ret
    ⟨32, [(4, .v (.slice none 0 0)), (5, .v (.int .i64 3))], [], 0⟩ := by
  intro f
  induction f with
  | zero =>
    intro i t hi hs
    have : n.toNat = i := by omega
    rw [this, hs] at hb
    cases hb
  | succ f ih =>
    intro i t hi hs
    have hl1 := small_len hs
    have hl2 : (dig (x.toNat ^ (i + 1))).length ≤ 1025 := by rw [Nat.pow_succ]; exact dig_mul_len hs (by omega)
    have e : nat (dig (x.toNat ^ i)) * nat [x] = x.toNat ^ (i + 1) := by rw [nat_dig, nat_word (by omega), Nat.pow_succ]
    cases hi2 : big (x.toNat ^ (i + 1)) with
    | true =>
      have h1 := rpowL1 x n (dig (x.toNat ^ i)) t i (by
        rw [e]
        exact ⟨by simp; omega, words_dig _, words_one (by omega), by unfold lim4; simp; omega, by rw [over_big (words_dig _), nat_dig]; exact hi2, by unfold lim4; omega, trivial⟩)
      exact .done (by simp) (h1.weaken (slots := [4, 5]) (keys := []) (nx := 0) (by rfl))
    | false =>
      have h1 := rpowL2 x n (dig (x.toNat ^ i)) t i (by
        rw [e]
        exact ⟨by simp; omega, words_dig _, words_one (by omega), by unfold lim4; simp; omega, by rw [over_big (words_dig _), nat_dig]; exact hi2, by unfold lim4; omega, inR64 (by omega) (by omega), trivial⟩)
      rw [e] at h1
      exact .step h1 (ih (i + 1) false (by omega) hi2)
end

theorem dig1 : dig 1 = [(1 : Int)] := dig_one (by omega) (by omega)

theorem pow_pure (x n : Int) (hx : 0 ≤ x ∧ x < 4294967296) (hn : n ≤ 9223372036854775807) : PureTo Try.prog 11 [.v (.int .u32 x), .v (.int .i64 n)] (.tup [.sl 1 (.ints .u32 (Pow x.toNat n).1) false, .v (.int .i64 (Pow x.toNat n).2)]) := by
  unfold Pow
  by_cases h0 : n < 0
  · rw [if_pos h0]
    exact powF1 x n [] ⟨by simp; omega, trivial⟩
  · rw [if_neg h0]
    by_cases h1 : n = 0
    · subst h1
      rw [show (0 : Int).toNat = 0 from rfl, Nat.pow_zero, big_small (by omega), dig1]
      exact powF2 x 0 [] ⟨by simp, by simp, trivial⟩
    · by_cases h2 : x = 1
      · subst h2
        rw [show (1 : Int).toNat = 1 from rfl, Nat.one_pow, big_small (by omega), dig1]
        exact powF3 1 n [] ⟨by simp; omega, by simpa using h1, by simp, trivial⟩
      · by_cases h3 : x = 0
        · subst h3
          rw [show (0 : Int).toNat = 0 from rfl, Nat.zero_pow (by omega), big_small (by omega), dig_zero]
          exact powF4 0 n [] ⟨by simp; omega, by simpa using h1, by simp, by simp, trivial⟩
        · have hx2 : 2 ≤ x ∧ x < 4294967296 := by omega
          cases hb : big (x.toNat ^ n.toNat) with
          | false =>
            have := pow_ok x n hx2 hn hb n.toNat 0 (by omega)
            rw [Nat.pow_zero, dig1] at this
            exact powF5 x n _ ⟨by simp; omega, by simpa using h1, by simpa using h2, by simpa using h3, this, trivial⟩
          | true =>
            have := pow_long x n hx2 hn hb n.toNat 0 (by omega) (by rw [Nat.pow_zero]; exact big_small (by omega))
            rw [Nat.pow_zero, dig1] at this
            exact powG5 x n 3 ⟨by simp; omega, by simpa using h1, by simpa using h2, by simpa using h3, this, trivial⟩

theorem rpow_pure (x n : Int) (hx : 0 ≤ x ∧ x < 4294967296) (hn : n ≤ 9223372036854775807) : PureTo Try.prog 12 [.v (.int .u32 x), .v (.int .i64 n)] (.tup [.sl 1 (.ints .u32 (Pow x.toNat n).1) false, .v (.int .i64 (Pow x.toNat n).2)]) := by
  unfold Pow
  by_cases h0 : n < 0
  · rw [if_pos h0]
    exact rpowF1 x n [] false ⟨by simp; omega, trivial⟩
  · rw [if_neg h0]
    by_cases h2 : x < 2
    · by_cases h3 : x = 0
      · subst h3
        by_cases h1 : 0 < n
        · rw [show (0 : Int).toNat = 0 from rfl, Nat.zero_pow (by omega), big_small (by omega), dig_zero]
          exact rpowF2 0 n [] false ⟨by simp; omega, by simp, by simp, by simpa using h1, trivial⟩
        · have : n = 0 := by omega
          subst this
          rw [show (0 : Int).toNat = 0 from rfl, Nat.pow_zero, big_small (by omega), dig1]
          exact rpowF3 0 0 [] false ⟨by simp, by simp, by simp, by simp, trivial⟩
      · have : x = 1 := by omega
        subst this
        rw [show (1 : Int).toNat = 1 from rfl, Nat.one_pow, big_small (by omega), dig1]
        exact rpowF4 1 n [] false ⟨by simp; omega, by simp, by simp, trivial⟩
    · have hx2 : 2 ≤ x ∧ x < 4294967296 := by omega
      by_cases h1 : n = 0
      · subst h1
        rw [show (0 : Int).toNat = 0 from rfl, Nat.pow_zero, big_small (by omega), dig1]
        exact rpowF5 x 0 [1] true ⟨by simp, by simp; omega, .done (by simp) (rpowL3 x 0 [1] true 0 ⟨by simp, trivial⟩), trivial⟩
      · cases hb : big (x.toNat ^ n.toNat) with
        | false =>
          have := rpow_ok x n hx2 hn hb n.toNat 0 true (by omega) (by omega)
          rw [Nat.pow_zero, dig1] at this
          exact rpowF5 x n _ false ⟨by simp; omega, by simp; omega, this, trivial⟩
        | true =>
          have := rpow_long x n hx2 hn hb n.toNat 0 true (by omega) (by rw [Nat.pow_zero]; exact big_small (by omega))
          rw [Nat.pow_zero, dig1] at this
          exact rpowG5 x n 3 ⟨by simp; omega, by simp; omega, this, trivial⟩

end Go.Proofs.Bn
