/- Naturals as lists of words: plain law. -/
import Derived.WalkKit
namespace Go.Proofs.Bn

/-- how many words are left of the first n, without those of 0 at the end -/
def cutN (a : List Int) : Nat → Nat
  | 0 => 0
  | n + 1 => if a.getD n 0 = 0 then cutN a n else n + 1

def norm (a : List Int) : List Int := a.take (cutN a a.length)

theorem cutN_le (a : List Int) (n : Nat) : cutN a n ≤ n := by
  induction n with
  | zero => simp [cutN]
  | succ n ih => simp only [cutN]; split <;> omega

theorem norm_length (a : List Int) : (norm a).length = cutN a a.length := by
  have := cutN_le a a.length
  simp [norm]
  omega

theorem norm_length_le (a : List Int) : (norm a).length ≤ a.length := by
  rw [norm_length]; exact cutN_le _ _

/-- words -/
def Words (a : List Int) : Prop := ∀ x, x ∈ a → 0 ≤ x ∧ x < 4294967296

/-- the number -/
def nat : List Int → Nat
  | [] => 0
  | x :: r => x.toNat + 4294967296 * nat r

/-- a number's words -/
def dig (n : Nat) : List Int :=
  if h : n = 0 then [] else ((n % 4294967296 : Nat) : Int) :: dig (n / 4294967296)
  termination_by n
  decreasing_by omega

theorem dig_zero : dig 0 = [] := by unfold dig; simp
theorem dig_pos {n : Nat} (h : n ≠ 0) : dig n = ((n % 4294967296 : Nat) : Int) :: dig (n / 4294967296) := by
  rw [dig]; simp [h]

theorem nat_dig (n : Nat) : nat (dig n) = n := by
  induction n using Nat.strongRecOn with
  | _ n ih =>
    by_cases h : n = 0
    · subst h; simp [dig_zero, nat]
    · rw [dig_pos h, nat, ih _ (by omega)]
      have : ((n % 4294967296 : Nat) : Int).toNat = n % 4294967296 := Int.toNat_natCast _
      omega

theorem words_dig (n : Nat) : Words (dig n) := by
  induction n using Nat.strongRecOn with
  | _ n ih =>
    by_cases h : n = 0
    · subst h; simp [dig_zero, Words]
    · rw [dig_pos h]
      intro x hx
      rcases List.mem_cons.1 hx with rfl | hx
      · omega
      · exact ih _ (by omega) x hx

theorem nat_append (a b : List Int) : nat (a ++ b) = nat a + 4294967296 ^ a.length * nat b := by
  induction a with
  | nil => simp [nat]
  | cons x r ih =>
    simp only [List.cons_append, nat, ih, List.length_cons, Nat.pow_succ]
    rw [Nat.mul_add, ← Nat.mul_assoc, Nat.mul_comm 4294967296 (4294967296 ^ r.length)]
    omega

theorem nat_zeros {a : List Int} (h : ∀ x, x ∈ a → x = 0) : nat a = 0 := by
  induction a with
  | nil => rfl
  | cons x r ih =>
    have h1 := h x (by simp)
    subst h1
    simp [nat, ih fun y hy => h y (by simp [hy])]

theorem words_tail {x : Int} {r : List Int} (h : Words (x :: r)) : Words r := fun y hy => h y (by simp [hy])
theorem words_append {a b : List Int} : Words (a ++ b) ↔ Words a ∧ Words b := by
  constructor
  · exact fun h => ⟨fun x hx => h x (by simp [hx]), fun x hx => h x (by simp [hx])⟩
  · rintro ⟨h1, h2⟩ x hx
    rcases List.mem_append.1 hx with hx | hx
    · exact h1 x hx
    · exact h2 x hx
theorem words_take {a : List Int} (h : Words a) (n : Nat) : Words (a.take n) := fun x hx => h x (List.mem_of_mem_take hx)
theorem words_drop {a : List Int} (h : Words a) (n : Nat) : Words (a.drop n) := fun x hx => h x (List.mem_of_mem_drop hx)

theorem nat_lt {a : List Int} (h : Words a) : nat a < 4294967296 ^ a.length := by
  induction a with
  | nil => simp [nat]
  | cons x r ih =>
    have h1 := h x (by simp)
    have h2 := ih (words_tail h)
    simp only [nat, List.length_cons, Nat.pow_succ]
    have : nat r + 1 ≤ 4294967296 ^ r.length := h2
    have := Nat.mul_le_mul_left 4294967296 this
    rw [Nat.mul_comm (4294967296 ^ r.length)]
    omega

/-- behind the words that are left all are 0 -/
theorem cutN_zero (a : List Int) (n : Nat) (hn : n ≤ a.length) : ∀ i, cutN a n ≤ i → i < n → a.getD i 0 = 0 := by
  induction n with
  | zero => intro i _ h; omega
  | succ n ih =>
    intro i h1 h2
    simp only [cutN] at h1
    split at h1
    · next h =>
      by_cases hi : i = n
      · subst hi; exact h
      · exact ih (by omega) i h1 (by omega)
    · omega

theorem nat_norm (a : List Int) : nat (norm a) = nat a := by
  have h : a = norm a ++ a.drop (cutN a a.length) := by unfold norm; rw [List.take_append_drop]
  have hz : nat (a.drop (cutN a a.length)) = 0 := by
    apply nat_zeros
    intro x hx
    obtain ⟨i, hi, rfl⟩ := List.getElem_of_mem hx
    simp only [List.length_drop] at hi
    have := cutN_zero a a.length (Nat.le_refl _) (cutN a a.length + i) (by omega) (by omega)
    rw [List.getElem_drop]
    simpa [List.getD_eq_getElem?_getD, show cutN a a.length + i < a.length by omega] using this
  conv => rhs; rw [h]
  rw [nat_append, hz]
  simp

theorem cutN_last (a : List Int) (n : Nat) (h : cutN a n ≠ 0) : a.getD (cutN a n - 1) 0 ≠ 0 := by
  induction n with
  | zero => exact absurd rfl h
  | succ n ih =>
    simp only [cutN] at h ⊢
    split at h
    · next hz => rw [if_pos hz]; exact ih h
    · next hz => rw [if_neg hz]; simpa using hz

/-- words whose last is not 0 are a number's words -/
theorem dig_nat {a : List Int} (h : Words a) (hl : a ≠ [] → a.getD (a.length - 1) 0 ≠ 0) : dig (nat a) = a := by
  induction a with
  | nil => simp [nat, dig_zero]
  | cons x r ih =>
    have hx := h x (by simp)
    have hr : dig (nat r) = r := by
      apply ih (words_tail h)
      intro hne
      have := hl (by simp)
      obtain ⟨y, s, rfl⟩ := List.exists_cons_of_ne_nil hne
      simpa using this
    have hn : nat (x :: r) ≠ 0 := by
      intro he
      simp only [nat] at he
      have h1 : x = 0 := by omega
      have h2 : nat r = 0 := by omega
      rw [h2, dig_zero] at hr
      subst hr
      exact hl (by simp) (by simpa using h1)
    rw [dig_pos hn]
    have e1 : nat (x :: r) % 4294967296 = x.toNat := by simp only [nat]; omega
    have e2 : nat (x :: r) / 4294967296 = nat r := by simp only [nat]; omega
    rw [e1, e2, hr]
    congr 1
    omega

theorem words_norm {a : List Int} (h : Words a) : Words (norm a) := words_take h _

theorem norm_eq {a : List Int} (h : Words a) : norm a = dig (nat a) := by
  rw [← nat_norm a, dig_nat (words_norm h)]
  intro hne
  have hl := norm_length a
  have hpos : cutN a a.length ≠ 0 := by
    intro e
    rw [e] at hl
    exact hne (List.length_eq_zero_iff.1 hl)
  have := cutN_last a a.length hpos
  have hle := cutN_le a a.length
  rw [hl]
  unfold norm
  rw [List.getD_eq_getElem?_getD, List.getElem?_take, if_pos (by omega), ← List.getD_eq_getElem?_getD]
  exact this

end Go.Proofs.Bn
