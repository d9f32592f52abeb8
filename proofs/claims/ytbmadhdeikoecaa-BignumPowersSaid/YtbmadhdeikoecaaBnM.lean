/- Products of naturals, word by word: plain law. -/
import Derived.Test.YtbmadhdeikoecaaBnN
namespace Go.Proofs.Bn

/-- the value of some words -/
def val : List Int → Int
  | [] => 0
  | x :: r => x + 4294967296 * val r

theorem val_nat {a : List Int} (h : Words a) : val a = (nat a : Int) := by
  induction a with
  | nil => rfl
  | cons x r ih =>
    have := h x (by simp)
    simp only [val, nat, ih (words_tail h)]
    omega

theorem val_append (a b : List Int) : val (a ++ b) = val a + 4294967296 ^ a.length * val b := by
  induction a with
  | nil => simp [val]
  | cons x r ih =>
    simp only [List.cons_append, val, ih, List.length_cons, Int.pow_succ]
    grind

theorem val_zeros (n : Nat) : val (List.replicate n 0) = 0 := by
  induction n with
  | zero => rfl
  | succ n ih => simp [List.replicate_succ, val, ih]

theorem val_set (o : List Int) (j : Nat) (v : Int) (h : j < o.length) : val (o.set j v) + o.getD j 0 * 4294967296 ^ j = val o + v * 4294967296 ^ j := by
  induction o generalizing j with
  | nil => simp at h
  | cons x r ih =>
    cases j with
    | zero => simp [val]; grind
    | succ j =>
      have := ih j (by simpa using h)
      simp only [List.set_cons_succ, val, List.getD_cons_succ, Int.pow_succ]
      grind

theorem words_set {o : List Int} (h : Words o) (j : Nat) {v : Int} (h0 : 0 ≤ v) (h1 : v < 4294967296) : Words (o.set j v) := by
  intro x hx
  rcases List.mem_or_eq_of_mem_set hx with hx | rfl
  · exact h x hx
  · exact ⟨h0, h1⟩

theorem words_getD {o : List Int} (h : Words o) (j : Nat) : 0 ≤ o.getD j 0 ∧ o.getD j 0 < 4294967296 := by
  rcases Nat.lt_or_ge j o.length with hj | hj
  · have := h o[j] (List.getElem_mem hj)
    simpa [List.getD_eq_getElem?_getD, hj] using this
  · simp [List.getD_eq_getElem?_getD, Nat.not_lt.2 hj]

/-- one row of a product: x times the words of b from number k on, laid on from place i + k on -/
def rowMul (x : Int) (b : List Int) (i : Nat) : Nat → Nat → List Int → Int → List Int × Int
  | 0, _, o, c => (o, c)
  | f + 1, k, o, c =>
    let s := x * b.getD k 0 + o.getD (i + k) 0 + c
    rowMul x b i f (k + 1) (o.set (i + k) (s % 4294967296)) (s / 4294967296)

structure RowIs (x : Int) (b : List Int) (i f k : Nat) (o : List Int) (c : Int) : Prop where
  words : Words (rowMul x b i f k o c).1
  carry : 0 ≤ (rowMul x b i f k o c).2 ∧ (rowMul x b i f k o c).2 < 4294967296
  length : (rowMul x b i f k o c).1.length = o.length
  rest : ∀ j, i + k + f ≤ j → (rowMul x b i f k o c).1.getD j 0 = o.getD j 0
  value : val (rowMul x b i f k o c).1 + (rowMul x b i f k o c).2 * 4294967296 ^ (i + k + f) = val o + 4294967296 ^ (i + k) * (x * val ((b.drop k).take f) + c)

theorem sum_bound {x y z c : Int} (hx : 0 ≤ x ∧ x < 4294967296) (hy : 0 ≤ y ∧ y < 4294967296) (hz : 0 ≤ z ∧ z < 4294967296) (hc : 0 ≤ c ∧ c < 4294967296) :
    0 ≤ x * y ∧ x * y ≤ 18446744065119617025 ∧ 0 ≤ x * y + z + c ∧ x * y + z + c < 18446744073709551616 := by
  have h1 : 0 ≤ x * y := Int.mul_nonneg hx.1 hy.1
  have h2 : x * y ≤ 4294967295 * 4294967295 := Int.mul_le_mul (by omega) (by omega) hy.1 (by omega)
  omega

theorem rowMul_is (x : Int) (b : List Int) (i : Nat) (hx : 0 ≤ x ∧ x < 4294967296) (hb : Words b) : ∀ (f k : Nat) (o : List Int) (c : Int), Words o → (0 ≤ c ∧ c < 4294967296) → i + k + f ≤ o.length → k + f ≤ b.length → RowIs x b i f k o c := by
  intro f
  induction f with
  | zero =>
    intro k o c ho hc hl hkb
    refine ⟨ho, hc, rfl, fun j _ => rfl, ?_⟩
    simp [rowMul, val]
    grind
  | succ f ih =>
    intro k o c ho hc hl hkb
    have hy := words_getD hb k
    have hz := words_getD ho (i + k)
    have hs := sum_bound hx hy hz hc
    generalize hS : x * b.getD k 0 + o.getD (i + k) 0 + c = s at *
    have hset : Words (o.set (i + k) (s % 4294967296)) := words_set ho _ (by omega) (by omega)
    have hcar : 0 ≤ s / 4294967296 ∧ s / 4294967296 < 4294967296 := by omega
    have h := ih (k + 1) (o.set (i + k) (s % 4294967296)) (s / 4294967296) hset hcar (by simp; omega) (by omega)
    have e : rowMul x b i (f + 1) k o c = rowMul x b i f (k + 1) (o.set (i + k) (s % 4294967296)) (s / 4294967296) := by
      simp only [rowMul, hS]
    obtain ⟨h1, h2, h3, h4, h5⟩ := h
    refine ⟨by rw [e]; exact h1, by rw [e]; exact h2, by rw [e, h3]; simp, fun j hj => ?_, ?_⟩
    · rw [e, h4 j (by omega)]
      have : i + k ≠ j := by omega
      simp [List.getD_eq_getElem?_getD, List.getElem?_set_ne this]
    · rw [e]
      rw [show i + k + (f + 1) = i + (k + 1) + f by omega, h5]
      have hset' := val_set o (i + k) (s % 4294967296) (by omega)
      have hd : (b.drop k).take (f + 1) = b.getD k 0 :: (b.drop (k + 1)).take f := by
        rw [List.drop_eq_getElem_cons (show k < b.length by omega), List.take_succ_cons]
        simp [List.getD_eq_getElem?_getD, show k < b.length by omega]
      rw [hd]
      simp only [val]
      rw [show i + (k + 1) = (i + k) + 1 by omega, Int.pow_succ]
      have hdiv : s = s % 4294967296 + 4294967296 * (s / 4294967296) := by omega
      generalize s % 4294967296 = r at *
      generalize s / 4294967296 = q at *
      generalize (4294967296 : Int) ^ (i + k) = p at *
      generalize val (o.set (i + k) r) = vo at *
      generalize b.getD k 0 = y at *
      generalize o.getD (i + k) 0 = z at *
      grind

/-- the whole product -/
def mulRows (a b : List Int) : Nat → Nat → List Int → List Int
  | 0, _, o => o
  | f + 1, i, o =>
    let r := rowMul (a.getD i 0) b i b.length 0 o 0
    mulRows a b f (i + 1) (r.1.set (i + b.length) r.2)

theorem mulRows_is (a b : List Int) (ha : Words a) (hb : Words b) : ∀ (f i : Nat) (o : List Int), Words o → i + f ≤ a.length → i + f + b.length ≤ o.length → (∀ j, i + b.length ≤ j → o.getD j 0 = 0) →
    Words (mulRows a b f i o) ∧ (mulRows a b f i o).length = o.length ∧ val (mulRows a b f i o) = val o + 4294967296 ^ i * (val ((a.drop i).take f) * val b) := by
  intro f
  induction f with
  | zero => intro i o ho _ _ _; simp [mulRows, ho, val]
  | succ f ih =>
    intro i o ho hia hl hz
    have hx := words_getD ha i
    obtain ⟨h1, h2, h3, h4, h5⟩ := rowMul_is (a.getD i 0) b i hx hb b.length 0 o 0 ho (by omega) (by omega) (by omega)
    generalize hr : rowMul (a.getD i 0) b i b.length 0 o 0 = r at *
    have hlen : i + b.length < r.1.length := by omega
    have hset := val_set r.1 (i + b.length) r.2 hlen
    have hz0 : r.1.getD (i + b.length) 0 = 0 := by rw [h4 _ (by omega)]; exact hz _ (Nat.le_refl _)
    have e : mulRows a b (f + 1) i o = mulRows a b f (i + 1) (r.1.set (i + b.length) r.2) := by simp only [mulRows, hr]
    obtain ⟨g1, g2, g3⟩ := ih (i + 1) (r.1.set (i + b.length) r.2) (words_set h1 _ h2.1 h2.2) (by omega) (by simp; omega) (fun j hj => by
      have : i + b.length ≠ j := by omega
      simp only [List.getD_eq_getElem?_getD, List.getElem?_set_ne this]
      rw [← List.getD_eq_getElem?_getD, h4 j (by omega)]
      exact hz j (by omega))
    refine ⟨by rw [e]; exact g1, by rw [e, g2]; simp [h3], ?_⟩
    rw [e, g3]
    have hd : (a.drop i).take (f + 1) = a.getD i 0 :: (a.drop (i + 1)).take f := by
      rw [List.drop_eq_getElem_cons (show i < a.length by omega), List.take_succ_cons]
      simp [List.getD_eq_getElem?_getD, show i < a.length by omega]
    rw [hd]
    simp only [val]
    simp only [Nat.add_zero, List.drop_zero, List.take_length] at h5
    rw [hz0] at hset
    rw [Int.pow_succ]
    generalize val (r.1.set (i + b.length) r.2) = vs at *
    generalize val r.1 = vr at *
    generalize (4294967296 : Int) ^ (i + b.length) = pb at *
    generalize (4294967296 : Int) ^ i = p at *
    generalize a.getD i 0 = x at *
    grind

/-- a product's words -/
def mulWords (a b : List Int) (n : Nat) : List Int := mulRows a b a.length 0 (List.replicate n 0)

theorem mulWords_is (a b : List Int) (ha : Words a) (hb : Words b) (n : Nat) (hn : a.length + b.length ≤ n) : Words (mulWords a b n) ∧ (mulWords a b n).length = n ∧ nat (mulWords a b n) = nat a * nat b := by
  have hz : Words (List.replicate n (0 : Int)) := fun x hx => by
    have := (List.mem_replicate.1 hx).2
    omega
  obtain ⟨h1, h2, h3⟩ := mulRows_is a b ha hb a.length 0 (List.replicate n 0) hz (by omega) (by simp; omega) (fun j _ => by
    simp only [List.getD_eq_getElem?_getD, List.getElem?_replicate]; split <;> rfl)
  refine ⟨h1, by unfold mulWords; rw [h2]; simp, ?_⟩
  rw [List.drop_zero, List.take_length, val_zeros, val_nat ha, val_nat hb, val_nat h1] at h3
  unfold mulWords
  have h4 : ((nat a * nat b : Nat) : Int) = (nat a : Int) * (nat b : Int) := Int.natCast_mul _ _
  omega

end Go.Proofs.Bn
