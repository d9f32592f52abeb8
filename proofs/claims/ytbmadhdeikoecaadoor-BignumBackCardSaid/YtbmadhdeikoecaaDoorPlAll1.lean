/- Contracts of the program's functions, and the plain law behind them. No condition beyond those in each statement. -/
import Derived.WalkKit
import Derived.Test.YtbmadhdeikoecaaDoorEvAll5
set_option linter.unusedSimpArgs false
set_option linter.unusedVariables false
set_option linter.unusedSectionVars false
/- Naturals as lists of words: plain law, with no program in sight. -/
set_option maxRecDepth 100000
namespace Go.Proofs.Bn
open Go Go.Ev


/-- how many words are left of the first n, without those of 0 at the end -/
def cutN (a : List Int) : Nat → Nat
  | 0 => 0
  | n + 1 => if a.getD n 0 = 0 then cutN a n else n + 1

def norm (a : List Int) : List Int := a.take (cutN a a.length)

theorem cutN_le (a : List Int) (n : Nat) : cutN a n ≤ n := by
  induction n with
  | zero => simp [cutN]
  | succ n ih => simp only [cutN]; split <;> omega

theorem norm_length (a : List Int) : (norm a).length = cutN a a.length := by
  have := cutN_le a a.length
  simp [norm]
  omega

theorem norm_length_le (a : List Int) : (norm a).length ≤ a.length := by
  rw [norm_length]; exact cutN_le _ _

/-- words -/
def Words (a : List Int) : Prop := ∀ x, x ∈ a → 0 ≤ x ∧ x < 4294967296

/-- the number -/
def nat : List Int → Nat
  | [] => 0
  | x :: r => x.toNat + 4294967296 * nat r

/-- a number's words -/
def dig (n : Nat) : List Int :=
  if h : n = 0 then [] else ((n % 4294967296 : Nat) : Int) :: dig (n / 4294967296)
  termination_by n
  decreasing_by omega

theorem dig_zero : dig 0 = [] := by unfold dig; simp
theorem dig_pos {n : Nat} (h : n ≠ 0) : dig n = ((n % 4294967296 : Nat) : Int) :: dig (n / 4294967296) := by
  rw [dig]; simp [h]

theorem nat_dig (n : Nat) : nat (dig n) = n := by
  induction n using Nat.strongRecOn with
  | _ n ih =>
    by_cases h : n = 0
    · subst h; simp [dig_zero, nat]
    · rw [dig_pos h, nat, ih _ (by omega)]
      have : ((n % 4294967296 : Nat) : Int).toNat = n % 4294967296 := Int.toNat_natCast _
      omega

theorem words_dig (n : Nat) : Words (dig n) := by
  induction n using Nat.strongRecOn with
  | _ n ih =>
    by_cases h : n = 0
    · subst h; simp [dig_zero, Words]
    · rw [dig_pos h]
      intro x hx
      rcases List.mem_cons.1 hx with rfl | hx
      · omega
      · exact ih _ (by omega) x hx

theorem nat_append (a b : List Int) : nat (a ++ b) = nat a + 4294967296 ^ a.length * nat b := by
  induction a with
  | nil => simp [nat]
  | cons x r ih =>
    simp only [List.cons_append, nat, ih, List.length_cons, Nat.pow_succ]
    rw [Nat.mul_add, ← Nat.mul_assoc, Nat.mul_comm 4294967296 (4294967296 ^ r.length)]
    omega

theorem nat_zeros {a : List Int} (h : ∀ x, x ∈ a → x = 0) : nat a = 0 := by
  induction a with
  | nil => rfl
  | cons x r ih =>
    have h1 := h x (by simp)
    subst h1
    simp [nat, ih fun y hy => h y (by simp [hy])]

theorem words_tail {x : Int} {r : List Int} (h : Words (x :: r)) : Words r := fun y hy => h y (by simp [hy])
theorem words_append {a b : List Int} : Words (a ++ b) ↔ Words a ∧ Words b := by
  constructor
  · exact fun h => ⟨fun x hx => h x (by simp [hx]), fun x hx => h x (by simp [hx])⟩
  · rintro ⟨h1, h2⟩ x hx
    rcases List.mem_append.1 hx with hx | hx
    · exact h1 x hx
    · exact h2 x hx
theorem words_take {a : List Int} (h : Words a) (n : Nat) : Words (a.take n) := fun x hx => h x (List.mem_of_mem_take hx)
theorem words_drop {a : List Int} (h : Words a) (n : Nat) : Words (a.drop n) := fun x hx => h x (List.mem_of_mem_drop hx)

theorem nat_lt {a : List Int} (h : Words a) : nat a < 4294967296 ^ a.length := by
  induction a with
  | nil => simp [nat]
  | cons x r ih =>
    have h1 := h x (by simp)
    have h2 := ih (words_tail h)
    simp only [nat, List.length_cons, Nat.pow_succ]
    have : nat r + 1 ≤ 4294967296 ^ r.length := h2
    have := Nat.mul_le_mul_left 4294967296 this
    rw [Nat.mul_comm (4294967296 ^ r.length)]
    omega

/-- behind the words that are left all are 0 -/
theorem cutN_zero (a : List Int) (n : Nat) (hn : n ≤ a.length) : ∀ i, cutN a n ≤ i → i < n → a.getD i 0 = 0 := by
  induction n with
  | zero => intro i _ h; omega
  | succ n ih =>
    intro i h1 h2
    simp only [cutN] at h1
    split at h1
    · next h =>
      by_cases hi : i = n
      · subst hi; exact h
      · exact ih (by omega) i h1 (by omega)
    · omega

theorem nat_norm (a : List Int) : nat (norm a) = nat a := by
  have h : a = norm a ++ a.drop (cutN a a.length) := by unfold norm; rw [List.take_append_drop]
  have hz : nat (a.drop (cutN a a.length)) = 0 := by
    apply nat_zeros
    intro x hx
    obtain ⟨i, hi, rfl⟩ := List.getElem_of_mem hx
    simp only [List.length_drop] at hi
    have := cutN_zero a a.length (Nat.le_refl _) (cutN a a.length + i) (by omega) (by omega)
    rw [List.getElem_drop]
    simpa [List.getD_eq_getElem?_getD, show cutN a a.length + i < a.length by omega] using this
  conv => rhs; rw [h]
  rw [nat_append, hz]
  simp

theorem cutN_last (a : List Int) (n : Nat) (h : cutN a n ≠ 0) : a.getD (cutN a n - 1) 0 ≠ 0 := by
  induction n with
  | zero => exact absurd rfl h
  | succ n ih =>
    simp only [cutN] at h ⊢
    split at h
    · next hz => rw [if_pos hz]; exact ih h
    · next hz => rw [if_neg hz]; simpa using hz

/-- words whose last is not 0 are a number's words -/
theorem dig_nat {a : List Int} (h : Words a) (hl : a ≠ [] → a.getD (a.length - 1) 0 ≠ 0) : dig (nat a) = a := by
  induction a with
  | nil => simp [nat, dig_zero]
  | cons x r ih =>
    have hx := h x (by simp)
    have hr : dig (nat r) = r := by
      apply ih (words_tail h)
      intro hne
      have := hl (by simp)
      obtain ⟨y, s, rfl⟩ := List.exists_cons_of_ne_nil hne
      simpa using this
    have hn : nat (x :: r) ≠ 0 := by
      intro he
      simp only [nat] at he
      have h1 : x = 0 := by omega
      have h2 : nat r = 0 := by omega
      rw [h2, dig_zero] at hr
      subst hr
      exact hl (by simp) (by simpa using h1)
    rw [dig_pos hn]
    have e1 : nat (x :: r) % 4294967296 = x.toNat := by simp only [nat]; omega
    have e2 : nat (x :: r) / 4294967296 = nat r := by simp only [nat]; omega
    rw [e1, e2, hr]
    congr 1
    omega

theorem words_norm {a : List Int} (h : Words a) : Words (norm a) := words_take h _

theorem norm_eq {a : List Int} (h : Words a) : norm a = dig (nat a) := by
  rw [← nat_norm a, dig_nat (words_norm h)]
  intro hne
  have hl := norm_length a
  have hpos : cutN a a.length ≠ 0 := by
    intro e
    rw [e] at hl
    exact hne (List.length_eq_zero_iff.1 hl)
  have := cutN_last a a.length hpos
  have hle := cutN_le a a.length
  rw [hl]
  unfold norm
  rw [List.getD_eq_getElem?_getD, List.getElem?_take, if_pos (by omega), ← List.getD_eq_getElem?_getD]
  exact this



/-- the value of some words -/
def val : List Int → Int
  | [] => 0
  | x :: r => x + 4294967296 * val r

theorem val_nat {a : List Int} (h : Words a) : val a = (nat a : Int) := by
  induction a with
  | nil => rfl
  | cons x r ih =>
    have := h x (by simp)
    simp only [val, nat, ih (words_tail h)]
    omega

theorem val_append (a b : List Int) : val (a ++ b) = val a + 4294967296 ^ a.length * val b := by
  induction a with
  | nil => simp [val]
  | cons x r ih =>
    simp only [List.cons_append, val, ih, List.length_cons, Int.pow_succ]
    grind

theorem val_zeros (n : Nat) : val (List.replicate n 0) = 0 := by
  induction n with
  | zero => rfl
  | succ n ih => simp [List.replicate_succ, val, ih]

theorem val_set (o : List Int) (j : Nat) (v : Int) (h : j < o.length) : val (o.set j v) + o.getD j 0 * 4294967296 ^ j = val o + v * 4294967296 ^ j := by
  induction o generalizing j with
  | nil => simp at h
  | cons x r ih =>
    cases j with
    | zero => simp [val]; grind
    | succ j =>
      have := ih j (by simpa using h)
      simp only [List.set_cons_succ, val, List.getD_cons_succ, Int.pow_succ]
      grind

theorem words_set {o : List Int} (h : Words o) (j : Nat) {v : Int} (h0 : 0 ≤ v) (h1 : v < 4294967296) : Words (o.set j v) := by
  intro x hx
  rcases List.mem_or_eq_of_mem_set hx with hx | rfl
  · exact h x hx
  · exact ⟨h0, h1⟩

theorem words_getD {o : List Int} (h : Words o) (j : Nat) : 0 ≤ o.getD j 0 ∧ o.getD j 0 < 4294967296 := by
  rcases Nat.lt_or_ge j o.length with hj | hj
  · have := h o[j] (List.getElem_mem hj)
    simpa [List.getD_eq_getElem?_getD, hj] using this
  · simp [List.getD_eq_getElem?_getD, Nat.not_lt.2 hj]

/-- one row of a product: x times the words of b from number k on, laid on from place i + k on -/
def rowMul (x : Int) (b : List Int) (i : Nat) : Nat → Nat → List Int → Int → List Int × Int
  | 0, _, o, c => (o, c)
  | f + 1, k, o, c =>
    let s := x * b.getD k 0 + o.getD (i + k) 0 + c
    rowMul x b i f (k + 1) (o.set (i + k) (s % 4294967296)) (s / 4294967296)

structure RowIs (x : Int) (b : List Int) (i f k : Nat) (o : List Int) (c : Int) : Prop where
  words : Words (rowMul x b i f k o c).1
  carry : 0 ≤ (rowMul x b i f k o c).2 ∧ (rowMul x b i f k o c).2 < 4294967296
  length : (rowMul x b i f k o c).1.length = o.length
  rest : ∀ j, i + k + f ≤ j → (rowMul x b i f k o c).1.getD j 0 = o.getD j 0
  value : val (rowMul x b i f k o c).1 + (rowMul x b i f k o c).2 * 4294967296 ^ (i + k + f) = val o + 4294967296 ^ (i + k) * (x * val ((b.drop k).take f) + c)

theorem sum_bound {x y z c : Int} (hx : 0 ≤ x ∧ x < 4294967296) (hy : 0 ≤ y ∧ y < 4294967296) (hz : 0 ≤ z ∧ z < 4294967296) (hc : 0 ≤ c ∧ c < 4294967296) :
    0 ≤ x * y ∧ x * y ≤ 18446744065119617025 ∧ 0 ≤ x * y + z + c ∧ x * y + z + c < 18446744073709551616 := by
  have h1 : 0 ≤ x * y := Int.mul_nonneg hx.1 hy.1
  have h2 : x * y ≤ 4294967295 * 4294967295 := Int.mul_le_mul (by omega) (by omega) hy.1 (by omega)
  omega

theorem rowMul_is (x : Int) (b : List Int) (i : Nat) (hx : 0 ≤ x ∧ x < 4294967296) (hb : Words b) : ∀ (f k : Nat) (o : List Int) (c : Int), Words o → (0 ≤ c ∧ c < 4294967296) → i + k + f ≤ o.length → k + f ≤ b.length → RowIs x b i f k o c := by
  intro f
  induction f with
  | zero =>
    intro k o c ho hc hl hkb
    refine ⟨ho, hc, rfl, fun j _ => rfl, ?_⟩
    simp [rowMul, val]
    grind
  | succ f ih =>
    intro k o c ho hc hl hkb
    have hy := words_getD hb k
    have hz := words_getD ho (i + k)
    have hs := sum_bound hx hy hz hc
    generalize hS : x * b.getD k 0 + o.getD (i + k) 0 + c = s at *
    have hset : Words (o.set (i + k) (s % 4294967296)) := words_set ho _ (by omega) (by omega)
    have hcar : 0 ≤ s / 4294967296 ∧ s / 4294967296 < 4294967296 := by omega
    have h := ih (k + 1) (o.set (i + k) (s % 4294967296)) (s / 4294967296) hset hcar (by simp; omega) (by omega)
    have e : rowMul x b i (f + 1) k o c = rowMul x b i f (k + 1) (o.set (i + k) (s % 4294967296)) (s / 4294967296) := by
      simp only [rowMul, hS]
    obtain ⟨h1, h2, h3, h4, h5⟩ := h
    refine ⟨by rw [e]; exact h1, by rw [e]; exact h2, by rw [e, h3]; simp, fun j hj => ?_, ?_⟩
    · rw [e, h4 j (by omega)]
      have : i + k ≠ j := by omega
      simp [List.getD_eq_getElem?_getD, List.getElem?_set_ne this]
    · rw [e]
      rw [show i + k + (f + 1) = i + (k + 1) + f by omega, h5]
      have hset' := val_set o (i + k) (s % 4294967296) (by omega)
      have hd : (b.drop k).take (f + 1) = b.getD k 0 :: (b.drop (k + 1)).take f := by
        rw [List.drop_eq_getElem_cons (show k < b.length by omega), List.take_succ_cons]
        simp [List.getD_eq_getElem?_getD, show k < b.length by omega]
      rw [hd]
      simp only [val]
      rw [show i + (k + 1) = (i + k) + 1 by omega, Int.pow_succ]
      have hdiv : s = s % 4294967296 + 4294967296 * (s / 4294967296) := by omega
      generalize s % 4294967296 = r at *
      generalize s / 4294967296 = q at *
      generalize (4294967296 : Int) ^ (i + k) = p at *
      generalize val (o.set (i + k) r) = vo at *
      generalize b.getD k 0 = y at *
      generalize o.getD (i + k) 0 = z at *
      grind

/-- the whole product -/
def mulRows (a b : List Int) : Nat → Nat → List Int → List Int
  | 0, _, o => o
  | f + 1, i, o =>
    let r := rowMul (a.getD i 0) b i b.length 0 o 0
    mulRows a b f (i + 1) (r.1.set (i + b.length) r.2)

theorem mulRows_is (a b : List Int) (ha : Words a) (hb : Words b) : ∀ (f i : Nat) (o : List Int), Words o → i + f ≤ a.length → i + f + b.length ≤ o.length → (∀ j, i + b.length ≤ j → o.getD j 0 = 0) →
    Words (mulRows a b f i o) ∧ (mulRows a b f i o).length = o.length ∧ val (mulRows a b f i o) = val o + 4294967296 ^ i * (val ((a.drop i).take f) * val b) := by
  intro f
  induction f with
  | zero => intro i o ho _ _ _; simp [mulRows, ho, val]
  | succ f ih =>
    intro i o ho hia hl hz
    have hx := words_getD ha i
    obtain ⟨h1, h2, h3, h4, h5⟩ := rowMul_is (a.getD i 0) b i hx hb b.length 0 o 0 ho (by omega) (by omega) (by omega)
    generalize hr : rowMul (a.getD i 0) b i b.length 0 o 0 = r at *
    have hlen : i + b.length < r.1.length := by omega
    have hset := val_set r.1 (i + b.length) r.2 hlen
    have hz0 : r.1.getD (i + b.length) 0 = 0 := by rw [h4 _ (by omega)]; exact hz _ (Nat.le_refl _)
    have e : mulRows a b (f + 1) i o = mulRows a b f (i + 1) (r.1.set (i + b.length) r.2) := by simp only [mulRows, hr]
    obtain ⟨g1, g2, g3⟩ := ih (i + 1) (r.1.set (i + b.length) r.2) (words_set h1 _ h2.1 h2.2) (by omega) (by simp; omega) (fun j hj => by
      have : i + b.length ≠ j := by omega
      simp only [List.getD_eq_getElem?_getD, List.getElem?_set_ne this]
      rw [← List.getD_eq_getElem?_getD, h4 j (by omega)]
      exact hz j (by omega))
    refine ⟨by rw [e]; exact g1, by rw [e, g2]; simp [h3], ?_⟩
    rw [e, g3]
    have hd : (a.drop i).take (f + 1) = a.getD i 0 :: (a.drop (i + 1)).take f := by
      rw [List.drop_eq_getElem_cons (show i < a.length by omega), List.take_succ_cons]
      simp [List.getD_eq_getElem?_getD, show i < a.length by omega]
    rw [hd]
    simp only [val]
    simp only [Nat.add_zero, List.drop_zero, List.take_length] at h5
    rw [hz0] at hset
    rw [Int.pow_succ]
    generalize val (r.1.set (i + b.length) r.2) = vs at *
    generalize val r.1 = vr at *
    generalize (4294967296 : Int) ^ (i + b.length) = pb at *
    generalize (4294967296 : Int) ^ i = p at *
    generalize a.getD i 0 = x at *
    grind

/-- a product's words -/
def mulWords (a b : List Int) (n : Nat) : List Int := mulRows a b a.length 0 (List.replicate n 0)

theorem mulWords_is (a b : List Int) (ha : Words a) (hb : Words b) (n : Nat) (hn : a.length + b.length ≤ n) : Words (mulWords a b n) ∧ (mulWords a b n).length = n ∧ nat (mulWords a b n) = nat a * nat b := by
  have hz : Words (List.replicate n (0 : Int)) := fun x hx => by
    have := (List.mem_replicate.1 hx).2
    omega
  obtain ⟨h1, h2, h3⟩ := mulRows_is a b ha hb a.length 0 (List.replicate n 0) hz (by omega) (by simp; omega) (fun j _ => by
    simp only [List.getD_eq_getElem?_getD, List.getElem?_replicate]; split <;> rfl)
  refine ⟨h1, by unfold mulWords; rw [h2]; simp, ?_⟩
  rw [List.drop_zero, List.take_length, val_zeros, val_nat ha, val_nat hb, val_nat h1] at h3
  unfold mulWords
  have h4 : ((nat a * nat b : Nat) : Int) = (nat a : Int) * (nat b : Int) := Int.natCast_mul _ _
  omega

theorem zeros_words (n : Nat) : Words (List.replicate n (0 : Int)) := fun x hx => by
  have := (List.mem_replicate.1 hx).2
  omega

def big (n : Nat) : Bool := decide (1024 < (dig n).length)



theorem dig_len (k : Nat) : ∀ n, k < (dig n).length ↔ 4294967296 ^ k ≤ n := by
  induction k with
  | zero =>
    intro n
    by_cases h : n = 0
    · subst h; simp [dig_zero]
    · rw [dig_pos h]; simp; omega
  | succ k ih =>
    intro n
    by_cases h : n = 0
    · subst h
      rw [dig_zero]
      have := Nat.pow_pos (n := k + 1) (show 0 < 4294967296 by omega)
      simp only [List.length_nil]
      omega
    · rw [dig_pos h, List.length_cons, Nat.add_lt_add_iff_right, ih, Nat.pow_succ, Nat.le_div_iff_mul_le (by omega)]

theorem big_iff (n : Nat) : big n = true ↔ 4294967296 ^ 1024 ≤ n := by
  unfold big
  rw [decide_eq_true_iff, dig_len]

theorem big_mono {m n : Nat} (h : m ≤ n) (hm : big m = true) : big n = true := by
  rw [big_iff] at *
  exact Nat.le_trans hm h

theorem small_len {n : Nat} (h : big n = false) : (dig n).length ≤ 1024 := by
  unfold big at h
  simpa using h

theorem dig_one {n : Nat} (h0 : n ≠ 0) (h : n < 4294967296) : dig n = [(n : Int)] := by
  rw [dig_pos h0, Nat.div_eq_of_lt h, dig_zero, Nat.mod_eq_of_lt h]

theorem big_small {n : Nat} (h : n < 4294967296) : big n = false := by
  unfold big
  by_cases h0 : n = 0
  · subst h0; rw [dig_zero]; simp
  · rw [dig_one h0 h]; simp

theorem dig_mul_le {k m x : Nat} (hm : (dig m).length ≤ k) (hx : x < 4294967296) : (dig (m * x)).length ≤ k + 1 := by
  have h2 : m < 4294967296 ^ k := by
    rcases Nat.lt_or_ge m (4294967296 ^ k) with h | h
    · exact h
    · have := (dig_len k m).2 h
      omega
  rcases Nat.lt_or_ge (k + 1) (dig (m * x)).length with h | h
  · exfalso
    have h3 := (dig_len (k + 1) _).1 h
    rw [Nat.pow_succ] at h3
    have h4 : m * x < 4294967296 ^ k * 4294967296 := Nat.mul_lt_mul'' h2 hx
    omega
  · exact h

theorem nat_word {x : Int} (h : 0 ≤ x) : nat [x] = x.toNat := by simp [nat]

theorem words_one {x : Int} (h : 0 ≤ x ∧ x < 4294967296) : Words [x] := fun y hy => by
  have := List.mem_singleton.1 hy
  omega
theorem dig1 : dig 1 = [(1 : Int)] := dig_one (by omega) (by omega)




/-- a word; 0 behind the end, and ahead of it -/
def wd (a : List Int) (i : Int) : Int := if 0 ≤ i then a.getD i.toNat 0 else 0

theorem wd_nat (a : List Int) (i : Nat) : wd a i = a.getD i 0 := by
  unfold wd
  rw [if_pos (by omega), Int.toNat_natCast]

theorem wd_bound {a : List Int} (h : Words a) (i : Int) : 0 ≤ wd a i ∧ wd a i < 4294967296 := by
  unfold wd
  split
  · exact words_getD h _
  · omega

theorem getD_out {a : List Int} {i : Nat} (h : a.length ≤ i) : a.getD i 0 = 0 := by
  rw [List.getD_eq_getElem?_getD, List.getElem?_eq_none h]
  rfl

/-- how many bits -/
def bl (n : Nat) : Nat := if n = 0 then 0 else n.log2 + 1

theorem bl_le (n k : Nat) : bl n ≤ k ↔ n < 2 ^ k := by
  unfold bl
  split
  · next h => subst h; have := Nat.pow_pos (n := k) (show 0 < 2 by omega); omega
  · next h => rw [← Nat.log2_lt h]; omega

theorem bl_shift (n k : Nat) : bl (n / 2 ^ k) = bl n - k := by
  have h : ∀ j, bl (n / 2 ^ k) ≤ j ↔ bl n ≤ j + k := fun j => by
    rw [bl_le, bl_le, Nat.div_lt_iff_lt_mul (Nat.pow_pos (by omega)), Nat.pow_add]
  have h1 := (h (bl (n / 2 ^ k))).1 (Nat.le_refl _)
  have h2 := (h (bl n - k)).2 (by omega)
  omega

theorem bl_zero {n : Nat} : bl n = 0 ↔ n = 0 := by
  unfold bl
  split <;> omega

/-- the number of the first n words -/
def natW (a : List Int) : Nat → Nat
  | 0 => 0
  | n + 1 => natW a n + (a.getD n 0).toNat * 4294967296 ^ n

theorem natW_lt {a : List Int} (h : Words a) (n : Nat) : natW a n < 4294967296 ^ n := by
  induction n with
  | zero => simp [natW]
  | succ n ih =>
    have := words_getD h n
    have h2 : (a.getD n 0).toNat + 1 ≤ 4294967296 := by omega
    have h3 := Nat.mul_le_mul_right (4294967296 ^ n) h2
    rw [Nat.add_mul, Nat.one_mul] at h3
    rw [natW, Nat.pow_succ, Nat.mul_comm (4294967296 ^ n) 4294967296]
    omega

theorem natW_take (a : List Int) (n : Nat) (h : n ≤ a.length) : natW a n = nat (a.take n) := by
  induction n with
  | zero => rfl
  | succ n ih =>
    have hn : n < a.length := by omega
    rw [natW, ih (by omega), List.take_succ_eq_append_getElem hn, nat_append, List.length_take, Nat.min_eq_left (by omega)]
    simp [nat, List.getD_eq_getElem?_getD, hn, Nat.mul_comm]

theorem natW_all (a : List Int) (n : Nat) (h : a.length ≤ n) : natW a n = nat a := by
  induction n with
  | zero =>
    have : a = [] := List.eq_nil_of_length_eq_zero (by omega)
    subst this
    rfl
  | succ n ih =>
    rcases Nat.lt_or_ge n a.length with h1 | h1
    · have e : a.length = n + 1 := by omega
      rw [natW_take a (n + 1) (by omega), ← e, List.take_length]
    · rw [natW, ih h1]
      have : a.getD n 0 = 0 := by simp [List.getD_eq_getElem?_getD, h1]
      rw [this]
      simp

/-- the order of two numbers -/
def cmpN (m n : Nat) : Int := if m < n then -1 else if n < m then 1 else 0

theorem cmp_step {a b : List Int} (ha : Words a) (hb : Words b) (n : Nat) : cmpN (natW a (n + 1)) (natW b (n + 1)) = if a.getD n 0 < b.getD n 0 then -1 else if b.getD n 0 < a.getD n 0 then 1 else cmpN (natW a n) (natW b n) := by
  have h1 := natW_lt ha n
  have h2 := natW_lt hb n
  have h3 := words_getD ha n
  have h4 := words_getD hb n
  have key : ∀ x y p q B : Nat, p < B → q < B → x < y → p + x * B < q + y * B := fun x y p q B hp hq hxy => by
    have := Nat.mul_le_mul_right B (show x + 1 ≤ y by omega)
    rw [Nat.add_mul, Nat.one_mul] at this
    omega
  simp only [natW]
  generalize hx : a.getD n 0 = x at *
  generalize hy : b.getD n 0 = y at *
  by_cases c1 : x < y
  · rw [if_pos c1]
    have := key x.toNat y.toNat _ _ _ h1 h2 (by omega)
    unfold cmpN
    rw [if_pos this]
  · rw [if_neg c1]
    by_cases c2 : y < x
    · rw [if_pos c2]
      have := key y.toNat x.toNat _ _ _ h2 h1 (by omega)
      unfold cmpN
      rw [if_neg (by omega), if_pos this]
    · rw [if_neg c2]
      have e : x = y := by omega
      subst e
      unfold cmpN
      have i1 : natW a n + x.toNat * 4294967296 ^ n < natW b n + x.toNat * 4294967296 ^ n ↔ natW a n < natW b n := by omega
      have i2 : natW b n + x.toNat * 4294967296 ^ n < natW a n + x.toNat * 4294967296 ^ n ↔ natW b n < natW a n := by omega
      simp only [i1, i2]

theorem norm_len {a : List Int} (h : Words a) (k : Nat) : k < (norm a).length ↔ 4294967296 ^ k ≤ nat a := by
  rw [norm_eq h, dig_len]

theorem cmp_len {a b : List Int} (ha : Words a) (hb : Words b) (h : (norm a).length < (norm b).length) : nat a < nat b := by
  have h1 := (norm_len hb (norm a).length).1 h
  have h2 : ¬ (norm a).length < (norm a).length := by omega
  rw [norm_len ha] at h2
  omega

/-- a number's bits by its words -/
theorem bl_words {a : List Int} (h : Words a) (hl : (norm a).length ≠ 0) : bl (nat a) = 32 * ((norm a).length - 1) + bl ((norm a).getD ((norm a).length - 1) 0).toNat ∧ (norm a).getD ((norm a).length - 1) 0 ≠ 0 := by
  have hw := words_norm h
  have hn : (norm a).length = cutN a a.length := norm_length a
  have hlast : (norm a).getD ((norm a).length - 1) 0 ≠ 0 := by
    have h1 := cutN_last a a.length (by omega)
    rw [← hn] at h1
    have h2 := cutN_le a a.length
    have e : (norm a).getD ((norm a).length - 1) 0 = a.getD ((norm a).length - 1) 0 := by
      have : (norm a).length - 1 < (norm a).length := by omega
      unfold norm at this ⊢
      rw [List.getD_eq_getElem?_getD, List.getD_eq_getElem?_getD, List.getElem?_take, if_pos (by simp at this ⊢; omega)]
    rw [e]
    exact h1
  refine ⟨?_, hlast⟩
  have e1 : natW (norm a) (norm a).length = nat a := by rw [natW_all _ _ (Nat.le_refl _), nat_norm]
  obtain ⟨k, hk⟩ : ∃ k, (norm a).length = k + 1 := ⟨(norm a).length - 1, by omega⟩
  rw [hk] at e1 hlast ⊢
  simp only [Nat.add_sub_cancel] at hlast ⊢
  rw [natW] at e1
  have h1 := natW_lt hw k
  have h2 := words_getD hw k
  have hB : (2 : Nat) ^ (32 * k) = 4294967296 ^ k := by rw [Nat.pow_mul]
  have hdiv : nat a / 2 ^ (32 * k) = ((norm a).getD k 0).toNat := by
    rw [hB, ← e1, Nat.add_mul_div_right _ _ (Nat.pow_pos (by omega)), Nat.div_eq_of_lt h1, Nat.zero_add]
  have hs := bl_shift (nat a) (32 * k)
  rw [hdiv] at hs
  have hne : bl ((norm a).getD k 0).toNat ≠ 0 := by
    rw [Ne, bl_zero]
    omega
  omega




theorem nat_snoc (l : List Int) (w : Int) (h : 0 ≤ w) : ((nat (l ++ [w]) : Nat) : Int) = nat l + 4294967296 ^ l.length * w := by
  rw [nat_append]
  simp only [nat]
  have : ((w.toNat : Nat) : Int) = w := by omega
  rw [Nat.mul_zero, Nat.add_zero, Int.natCast_add, Int.natCast_mul, Int.natCast_pow, this]
  rfl

theorem natW_next {a : List Int} (h : Words a) (n : Nat) : ((natW a (n + 1) : Nat) : Int) = natW a n + wd a n * 4294967296 ^ n := by
  have := words_getD h n
  rw [wd_nat, natW, Int.natCast_add, Int.natCast_mul, Int.natCast_pow]
  have e : (((a.getD n 0).toNat : Nat) : Int) = a.getD n 0 := by omega
  rw [e]
  rfl

theorem words_snoc {l : List Int} (h : Words l) {w : Int} (h0 : 0 ≤ w) (h1 : w < 4294967296) : Words (l ++ [w]) := by
  rw [words_append]
  exact ⟨h, fun y hy => by have := List.mem_singleton.1 hy; omega⟩

theorem add_step {a b l : List Int} {c s : Int} {n : Nat} (ha : Words a) (hb : Words b) (hl : l.length = n) (hs : s = wd a n + wd b n + c) (h0 : 0 ≤ s)
    (hi : (nat l : Int) + c * 4294967296 ^ n = natW a n + natW b n) : (nat (l ++ [s % 4294967296]) : Int) + s / 4294967296 * 4294967296 ^ (n + 1) = natW a (n + 1) + natW b (n + 1) := by
  rw [nat_snoc _ _ (by omega), natW_next ha, natW_next hb, hl, Int.pow_succ]
  have e : s % 4294967296 = s - 4294967296 * (s / 4294967296) := by omega
  rw [e]
  generalize s / 4294967296 = q
  generalize (4294967296 : Int) ^ n = B at *
  generalize wd a n = x at *
  generalize wd b n = y at *
  subst hs
  have e2 : (natW a n : Int) = nat l + c * B - natW b n := by omega
  rw [e2]
  grind

theorem sub_step {a b l : List Int} {c d w : Int} {n : Nat} (ha : Words a) (hb : Words b) (hl : l.length = n) (hd : d = wd a n - wd b n - c) (hw : w = d + 4294967296 * (if d < 0 then 1 else 0)) (hw0 : 0 ≤ w)
    (hi : (natW a n : Int) + c * 4294967296 ^ n = natW b n + nat l) : (natW a (n + 1) : Int) + (if d < 0 then 1 else 0) * 4294967296 ^ (n + 1) = natW b (n + 1) + nat (l ++ [w]) := by
  rw [nat_snoc _ _ hw0, natW_next ha, natW_next hb, hl, Int.pow_succ]
  generalize (if d < 0 then (1 : Int) else 0) = q at *
  generalize (4294967296 : Int) ^ n = B at *
  generalize wd a n = x at *
  generalize wd b n = y at *
  subst hd hw
  have e2 : (natW a n : Int) = natW b n + nat l - c * B := by omega
  rw [e2]
  grind

/-- borrow of a difference of words -/
theorem borrow_word {x y c : Int} (hx : 0 ≤ x ∧ x < 4294967296) (hy : 0 ≤ y ∧ y < 4294967296) (hc : 0 ≤ c ∧ c ≤ 1) :
    ((x - y) % 18446744073709551616 - c) % 18446744073709551616 % 4294967296 = (x - y - c) + 4294967296 * (if x - y - c < 0 then 1 else 0) ∧
    ((x - y) % 18446744073709551616 - c) % 18446744073709551616 / 9223372036854775808 = (if x - y - c < 0 then 1 else 0) := by
  split <;> omega

/-- a sum in numbers -/
def AddN (m n : Nat) : List Int × Int := if big m || big n || big (m + n) then ([], 3) else (dig (m + n), 0)

/-- a difference in numbers -/
def SubN (m n : Nat) : List Int × Int := if big m || big n then ([], 3) else if m < n then ([], 1) else (dig (m - n), 0)


end Go.Proofs.Bn

/- Naturals as lists of words: plain law, with no program in sight. -/
set_option maxRecDepth 100000
namespace Go.Proofs.Bn
open Go Go.Ev



theorem pow_split {s : Nat} (h : s ≤ 32) : (2 : Nat) ^ s * 2 ^ (32 - s) = 4294967296 := by
  rw [← Nat.pow_add, show s + (32 - s) = 32 by omega]

theorem pow32 (n : Nat) : (2 : Nat) ^ n = 4294967296 ^ (n / 32) * 2 ^ (n % 32) := by
  rw [show (4294967296 : Nat) = 2 ^ 32 from rfl, ← Nat.pow_mul, ← Nat.pow_add]
  congr 1
  omega

/-- one word of what is left of two -/
def shW (x y : Nat) (s : Nat) : Nat := (y * 4294967296 + x) / 2 ^ s % 4294967296

/-- the words of a natural divided by 2^s -/
def shrW : List Int → Nat → List Int
  | [], _ => []
  | x :: r, s => (shW x.toNat (r.getD 0 0).toNat s : Int) :: shrW r s

theorem shrW_length (l : List Int) (s : Nat) : (shrW l s).length = l.length := by
  induction l with
  | nil => rfl
  | cons x r ih => simp [shrW, ih]

theorem shrW_words (l : List Int) (s : Nat) : Words (shrW l s) := by
  induction l with
  | nil => exact fun x hx => by cases hx
  | cons x r ih =>
    intro y hy
    rcases List.mem_cons.1 hy with rfl | hy
    · have := Nat.mod_lt ((r.getD 0 0).toNat * 4294967296 + x.toNat) (show 0 < 4294967296 by omega)
      unfold shW
      omega
    · exact ih y hy

theorem shrW_get (l : List Int) (s i : Nat) (h : i < l.length) : (shrW l s).getD i 0 = (shW (l.getD i 0).toNat (l.getD (i + 1) 0).toNat s : Int) := by
  induction l generalizing i with
  | nil => simp at h
  | cons x r ih =>
    cases i with
    | zero => rfl
    | succ i => exact ih i (by simpa using h)

theorem nat_mod_low (x : Int) (r : List Int) {s : Nat} (hs : s < 32) : nat (x :: r) % 2 ^ s = x.toNat % 2 ^ s := by
  have h := pow_split (s := s) (by omega)
  simp only [nat]
  rw [← h, Nat.mul_assoc, Nat.add_mul_mod_self_left]

theorem shr_step {X y R P Q : Nat} (hP0 : 0 < P) (hXB : X < P * Q) (hlow : R % P = y % P) : (y * (P * Q) + X) / P % (P * Q) + P * Q * (R / P) = (X + P * Q * R) / P := by
  have d1 : (y * (P * Q) + X) / P = y * Q + X / P := by
    rw [show y * (P * Q) + X = X + P * (y * Q) by grind, Nat.add_mul_div_left _ _ hP0]
    omega
  have d2 : (X + P * Q * R) / P = Q * R + X / P := by
    rw [show X + P * Q * R = X + P * (Q * R) by grind, Nat.add_mul_div_left _ _ hP0]
    omega
  rw [d1, d2]
  have hXQ : X / P < Q := by rw [Nat.div_lt_iff_lt_mul hP0, Nat.mul_comm]; exact hXB
  have hy1 : y * Q = P * Q * (y / P) + (y % P) * Q := by
    have := Nat.div_add_mod y P
    calc y * Q = (P * (y / P) + y % P) * Q := by rw [this]
      _ = _ := by grind
  have hR1 : Q * R = P * Q * (R / P) + (y % P) * Q := by
    have := Nat.div_add_mod R P
    rw [← hlow]
    calc Q * R = Q * (P * (R / P) + R % P) := by rw [this]
      _ = _ := by grind
  have hbound : (y % P) * Q + X / P < P * Q := by
    have h1 : y % P + 1 ≤ P := Nat.mod_lt y hP0
    have h2 := Nat.mul_le_mul_right Q h1
    rw [Nat.add_mul, Nat.one_mul] at h2
    omega
  rw [hy1, hR1, Nat.add_assoc, Nat.mul_add_mod, Nat.mod_eq_of_lt hbound]
  omega

theorem nat_shrW (l : List Int) (hw : Words l) {s : Nat} (hs : s < 32) : nat (shrW l s) = nat l / 2 ^ s := by
  induction l with
  | nil => simp [shrW, nat]
  | cons x r ih =>
    have h := pow_split (s := s) (by omega)
    have hx := hw x (by simp)
    have ih := ih (words_tail hw)
    have e1 : nat (shrW (x :: r) s) = shW x.toNat (r.getD 0 0).toNat s + 4294967296 * nat (shrW r s) := by
      rw [shrW, nat, Int.toNat_natCast]
    have e2 : nat (x :: r) = x.toNat + 4294967296 * nat r := by rw [nat]
    rw [e1, e2, ih]
    clear e1 e2
    generalize hR : nat r = R
    -- the next word holds the low bits of what follows
    have hlow : R % 2 ^ s = (r.getD 0 0).toNat % 2 ^ s := by
      rw [← hR]
      cases r with
      | nil => simp [nat]
      | cons y t => exact nat_mod_low y t hs
    unfold shW
    generalize (r.getD 0 0).toNat = y at *
    generalize hX : x.toNat = X
    have hXB : X < 4294967296 := by omega
    have hP0 : 0 < 2 ^ s := Nat.pow_pos (n := s) (show 0 < 2 by omega)
    clear ih hx hR hw hX
    generalize (2 : Nat) ^ s = P at *
    generalize (2 : Nat) ^ (32 - s) = Q at *
    generalize (4294967296 : Nat) = B at *
    subst h
    exact shr_step hP0 hXB hlow

theorem nat_take_drop (a : List Int) (w : Nat) (h : w ≤ a.length) : nat a = nat (a.take w) + 4294967296 ^ w * nat (a.drop w) := by
  have := nat_append (a.take w) (a.drop w)
  rw [List.take_append_drop, List.length_take, Nat.min_eq_left h] at this
  exact this

theorem nat_zero_iff {a : List Int} (h : Words a) : nat a = 0 ↔ ∀ x, x ∈ a → x = 0 := by
  refine ⟨fun h0 => ?_, nat_zeros⟩
  induction a with
  | nil => exact fun x hx => by cases hx
  | cons y r ih =>
    have hy := h y (by simp)
    simp only [nat] at h0
    intro x hx
    rcases List.mem_cons.1 hx with rfl | hx
    · omega
    · exact ih (words_tail h) (by omega) x hx

/-- the quotient by a power of 2 -/
theorem shr_quot {a : List Int} (h : Words a) (n : Nat) (hw : n / 32 ≤ a.length) : nat (shrW (a.drop (n / 32)) (n % 32)) = nat a / 2 ^ n := by
  rw [nat_shrW _ (words_drop h _) (by omega), pow32 n, ← Nat.div_div_eq_div_mul, nat_take_drop a (n / 32) hw, Nat.add_mul_div_left _ _ (Nat.pow_pos (by omega))]
  have h1 := nat_lt (words_take h (n / 32))
  rw [List.length_take, Nat.min_eq_left hw] at h1
  rw [Nat.div_eq_of_lt h1, Nat.zero_add]

/-- what is lost -/
theorem shr_rest {a : List Int} (h : Words a) (n : Nat) (hw : n / 32 < a.length) : nat a % 2 ^ n = 0 ↔ (∀ x, x ∈ a.take (n / 32) → x = 0) ∧ (a.getD (n / 32) 0).toNat % 2 ^ (n % 32) = 0 := by
  have h1 := nat_lt (words_take h (n / 32))
  rw [List.length_take, Nat.min_eq_left (by omega)] at h1
  have hp : 0 < 4294967296 ^ (n / 32) := Nat.pow_pos (by omega)
  rw [pow32 n, nat_take_drop a (n / 32) (by omega), Nat.mod_mul, Nat.add_mul_mod_self_left, Nat.mod_eq_of_lt h1, Nat.add_mul_div_left _ _ hp, Nat.div_eq_of_lt h1, Nat.zero_add]
  have h2 : nat (a.drop (n / 32)) % 2 ^ (n % 32) = (a.getD (n / 32) 0).toNat % 2 ^ (n % 32) := by
    rw [List.drop_eq_getElem_cons hw, nat_mod_low _ _ (by omega)]
    simp [List.getD_eq_getElem?_getD, hw]
  rw [h2, ← nat_zero_iff (words_take h _), Nat.add_eq_zero_iff, Nat.mul_eq_zero]
  constructor
  · rintro ⟨p, q⟩
    exact ⟨p, q.resolve_left (by omega)⟩
  · rintro ⟨p, q⟩
    exact ⟨p, .inr q⟩

/-- one bit more -/
theorem mod_bit (N i : Nat) : N % 2 ^ (i + 1) = 0 ↔ N % 2 ^ i = 0 ∧ N / 2 ^ i % 2 = 0 := by
  have hp : 0 < 2 ^ i := Nat.pow_pos (n := i) (show 0 < 2 by omega)
  rw [Nat.pow_succ, Nat.mod_mul, Nat.add_eq_zero_iff, Nat.mul_eq_zero]
  constructor
  · rintro ⟨p, q⟩
    exact ⟨p, q.resolve_left (by omega)⟩
  · rintro ⟨p, q⟩
    exact ⟨p, .inr q⟩

/-- a number's bit in its words -/
theorem word_bit {a : List Int} (h : Words a) (i : Nat) (hi : i < 32 * a.length) : nat a / 2 ^ i % 2 = (a.getD (i / 32) 0).toNat / 2 ^ (i % 32) % 2 := by
  have h1 := nat_lt (words_take h (i / 32))
  have hw : i / 32 < a.length := by omega
  rw [List.length_take, Nat.min_eq_left (by omega)] at h1
  have hp : 0 < 4294967296 ^ (i / 32) := Nat.pow_pos (by omega)
  rw [pow32 i, ← Nat.div_div_eq_div_mul, nat_take_drop a (i / 32) (by omega), Nat.add_mul_div_left _ _ hp, Nat.div_eq_of_lt h1, Nat.zero_add, List.drop_eq_getElem_cons hw]
  simp only [nat]
  have e : a.getD (i / 32) 0 = a[i / 32] := by simp [List.getD_eq_getElem?_getD, hw]
  rw [e]
  have hs := pow_split (s := i % 32) (by omega)
  rw [← hs, Nat.mul_assoc, Nat.add_mul_div_left _ _ (Nat.pow_pos (by omega))]
  have hq : (2 : Nat) ^ (32 - i % 32) = 2 * 2 ^ (31 - i % 32) := by
    rw [← Nat.pow_succ']
    congr 1
    omega
  rw [hq, Nat.mul_assoc, Nat.add_mul_mod_self_left]

/-- quotient and loss in numbers -/
def ShrN (m : Nat) (n : Int) : List Int × Bool := if n < 0 then (dig m, false) else (dig (m / 2 ^ n.toNat), decide (m % 2 ^ n.toNat ≠ 0))

/-- a natural times a power of 2 -/
def ShlN (m : Nat) (n : Int) : List Int × Int := if big m then ([], 3) else if n < 0 then ([], 1) else if m = 0 then ([], 0) else if 32768 < n then ([], 3) else if big (m * 2 ^ n.toNat) then ([], 3) else (dig (m * 2 ^ n.toNat), 0)

/-- one word more of a natural times 2^s: c: what the words ahead of it left -/
theorem shl_word {x c : Int} {s : Nat} (hs : s < 32) (hx : 0 ≤ x ∧ x < 4294967296) (hc : 0 ≤ c ∧ c < (2 ^ s : Nat)) :
    0 ≤ x * (2 ^ s : Nat) ∧ x * (2 ^ s : Nat) < 9223372036854775808 ∧ (x * (2 ^ s : Nat)) % (2 ^ s : Nat) = 0 ∧ (x * (2 ^ s : Nat) % 4294967296) % (2 ^ s : Nat) = 0 ∧ x * (2 ^ s : Nat) / 4294967296 < (2 ^ s : Nat) ∧
    (x * (2 ^ s : Nat) + c) / 4294967296 < (2 ^ s : Nat) ∧ x * (2 ^ s : Nat) % 4294967296 + c < 4294967296 := by
  obtain ⟨X, rfl⟩ : ∃ X : Nat, x = X := ⟨x.toNat, by omega⟩
  obtain ⟨C, rfl⟩ : ∃ C : Nat, c = C := ⟨c.toNat, by omega⟩
  have h := pow_split (s := s) (by omega)
  have hP31 : (2 : Nat) ^ s ≤ 2147483648 := Nat.pow_le_pow_right (n := 2) (show 0 < 2 by omega) (show s ≤ 31 by omega)
  generalize hP : (2 : Nat) ^ s = P at *
  generalize hQ : (2 : Nat) ^ (32 - s) = Q at *
  have hP0 : 0 < P := by omega
  have b1 : X * P ≤ 4294967295 * P := Nat.mul_le_mul_right P (by omega)
  have b2 : X * P + P ≤ 4294967296 * P := by omega
  have m1 : (X * P) % 4294967296 = P * (X % Q) := by rw [← h, Nat.mul_comm X P, Nat.mul_mod_mul_left]
  have hQ0 : 0 < Q := by
    rcases Nat.eq_zero_or_pos Q with h0 | h0
    · rw [h0, Nat.mul_zero] at h; omega
    · exact h0
  have m2 : X % Q + 1 ≤ Q := Nat.mod_lt X hQ0
  have m3 := Nat.mul_le_mul_left P m2
  rw [Nat.mul_add, Nat.mul_one, h] at m3
  have m4 : P * (X % Q) % P = 0 := Nat.mul_mod_right P _
  have d1 : X * P / 4294967296 < P := by rw [Nat.div_lt_iff_lt_mul (by omega)]; omega
  have d2 : (X * P + C) / 4294967296 < P := by rw [Nat.div_lt_iff_lt_mul (by omega)]; omega
  rw [← Int.natCast_mul]
  have m5 : X * P % P = 0 := Nat.mul_mod_left X P
  refine ⟨by omega, by omega, by omega, ?_, by omega, by omega, by omega⟩
  have e : ((X * P : Nat) : Int) % 4294967296 = ((P * (X % Q) : Nat) : Int) := by omega
  rw [e]
  omega


end Go.Proofs.Bn
