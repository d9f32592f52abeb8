/- Contracts of the program's functions, and the plain law behind them. No condition beyond those in each statement. -/
import Derived.Test.YtbmadhdeikoecaaBnAll1
import Derived.Test.YtbmadhdeikoecaaEvAll3
import Derived.Test.YtbmadhdeikoecaaBnAll2
set_option linter.unusedSimpArgs false
set_option linter.unusedVariables false
set_option linter.unusedSectionVars false
/- Naturals times and divided by powers of 2, word by word: plain law. -/
set_option maxRecDepth 100000
namespace Go.Proofs.Bn
open Go Go.Ev

theorem pow_split {s : Nat} (h : s ≤ 32) : (2 : Nat) ^ s * 2 ^ (32 - s) = 4294967296 := by
  rw [← Nat.pow_add, show s + (32 - s) = 32 by omega]

theorem pow32 (n : Nat) : (2 : Nat) ^ n = 4294967296 ^ (n / 32) * 2 ^ (n % 32) := by
  rw [show (4294967296 : Nat) = 2 ^ 32 from rfl, ← Nat.pow_mul, ← Nat.pow_add]
  congr 1
  omega

/-- one word of what is left of two -/
def shW (x y : Nat) (s : Nat) : Nat := (y * 4294967296 + x) / 2 ^ s % 4294967296

/-- the words of a natural divided by 2^s -/
def shrW : List Int → Nat → List Int
  | [], _ => []
  | x :: r, s => (shW x.toNat (r.getD 0 0).toNat s : Int) :: shrW r s

theorem shrW_length (l : List Int) (s : Nat) : (shrW l s).length = l.length := by
  induction l with
  | nil => rfl
  | cons x r ih => simp [shrW, ih]

theorem shrW_words (l : List Int) (s : Nat) : Words (shrW l s) := by
  induction l with
  | nil => exact fun x hx => by cases hx
  | cons x r ih =>
    intro y hy
    rcases List.mem_cons.1 hy with rfl | hy
    · have := Nat.mod_lt ((r.getD 0 0).toNat * 4294967296 + x.toNat) (show 0 < 4294967296 by omega)
      unfold shW
      omega
    · exact ih y hy

theorem shrW_get (l : List Int) (s i : Nat) (h : i < l.length) : (shrW l s).getD i 0 = (shW (l.getD i 0).toNat (l.getD (i + 1) 0).toNat s : Int) := by
  induction l generalizing i with
  | nil => simp at h
  | cons x r ih =>
    cases i with
    | zero => rfl
    | succ i => exact ih i (by simpa using h)

theorem nat_mod_low (x : Int) (r : List Int) {s : Nat} (hs : s < 32) : nat (x :: r) % 2 ^ s = x.toNat % 2 ^ s := by
  have h := pow_split (s := s) (by omega)
  simp only [nat]
  rw [← h, Nat.mul_assoc, Nat.add_mul_mod_self_left]

theorem shr_step {X y R P Q : Nat} (hP0 : 0 < P) (hXB : X < P * Q) (hlow : R % P = y % P) : (y * (P * Q) + X) / P % (P * Q) + P * Q * (R / P) = (X + P * Q * R) / P := by
  have d1 : (y * (P * Q) + X) / P = y * Q + X / P := by
    rw [show y * (P * Q) + X = X + P * (y * Q) by grind, Nat.add_mul_div_left _ _ hP0]
    omega
  have d2 : (X + P * Q * R) / P = Q * R + X / P := by
    rw [show X + P * Q * R = X + P * (Q * R) by grind, Nat.add_mul_div_left _ _ hP0]
    omega
  rw [d1, d2]
  have hXQ : X / P < Q := by rw [Nat.div_lt_iff_lt_mul hP0, Nat.mul_comm]; exact hXB
  have hy1 : y * Q = P * Q * (y / P) + (y % P) * Q := by
    have := Nat.div_add_mod y P
    calc y * Q = (P * (y / P) + y % P) * Q := by rw [this]
      _ = _ := by grind
  have hR1 : Q * R = P * Q * (R / P) + (y % P) * Q := by
    have := Nat.div_add_mod R P
    rw [← hlow]
    calc Q * R = Q * (P * (R / P) + R % P) := by rw [this]
      _ = _ := by grind
  have hbound : (y % P) * Q + X / P < P * Q := by
    have h1 : y % P + 1 ≤ P := Nat.mod_lt y hP0
    have h2 := Nat.mul_le_mul_right Q h1
    rw [Nat.add_mul, Nat.one_mul] at h2
    omega
  rw [hy1, hR1, Nat.add_assoc, Nat.mul_add_mod, Nat.mod_eq_of_lt hbound]
  omega

theorem nat_shrW (l : List Int) (hw : Words l) {s : Nat} (hs : s < 32) : nat (shrW l s) = nat l / 2 ^ s := by
  induction l with
  | nil => simp [shrW, nat]
  | cons x r ih =>
    have h := pow_split (s := s) (by omega)
    have hx := hw x (by simp)
    have ih := ih (words_tail hw)
    have e1 : nat (shrW (x :: r) s) = shW x.toNat (r.getD 0 0).toNat s + 4294967296 * nat (shrW r s) := by
      rw [shrW, nat, Int.toNat_natCast]
    have e2 : nat (x :: r) = x.toNat + 4294967296 * nat r := by rw [nat]
    rw [e1, e2, ih]
    clear e1 e2
    generalize hR : nat r = R
    -- the next word holds the low bits of what follows
    have hlow : R % 2 ^ s = (r.getD 0 0).toNat % 2 ^ s := by
      rw [← hR]
      cases r with
      | nil => simp [nat]
      | cons y t => exact nat_mod_low y t hs
    unfold shW
    generalize (r.getD 0 0).toNat = y at *
    generalize hX : x.toNat = X
    have hXB : X < 4294967296 := by omega
    have hP0 : 0 < 2 ^ s := Nat.pow_pos (n := s) (show 0 < 2 by omega)
    clear ih hx hR hw hX
    generalize (2 : Nat) ^ s = P at *
    generalize (2 : Nat) ^ (32 - s) = Q at *
    generalize (4294967296 : Nat) = B at *
    subst h
    exact shr_step hP0 hXB hlow

theorem nat_take_drop (a : List Int) (w : Nat) (h : w ≤ a.length) : nat a = nat (a.take w) + 4294967296 ^ w * nat (a.drop w) := by
  have := nat_append (a.take w) (a.drop w)
  rw [List.take_append_drop, List.length_take, Nat.min_eq_left h] at this
  exact this

theorem nat_zero_iff {a : List Int} (h : Words a) : nat a = 0 ↔ ∀ x, x ∈ a → x = 0 := by
  refine ⟨fun h0 => ?_, nat_zeros⟩
  induction a with
  | nil => exact fun x hx => by cases hx
  | cons y r ih =>
    have hy := h y (by simp)
    simp only [nat] at h0
    intro x hx
    rcases List.mem_cons.1 hx with rfl | hx
    · omega
    · exact ih (words_tail h) (by omega) x hx

/-- the quotient by a power of 2 -/
theorem shr_quot {a : List Int} (h : Words a) (n : Nat) (hw : n / 32 ≤ a.length) : nat (shrW (a.drop (n / 32)) (n % 32)) = nat a / 2 ^ n := by
  rw [nat_shrW _ (words_drop h _) (by omega), pow32 n, ← Nat.div_div_eq_div_mul, nat_take_drop a (n / 32) hw, Nat.add_mul_div_left _ _ (Nat.pow_pos (by omega))]
  have h1 := nat_lt (words_take h (n / 32))
  rw [List.length_take, Nat.min_eq_left hw] at h1
  rw [Nat.div_eq_of_lt h1, Nat.zero_add]

/-- what is lost -/
theorem shr_rest {a : List Int} (h : Words a) (n : Nat) (hw : n / 32 < a.length) : nat a % 2 ^ n = 0 ↔ (∀ x, x ∈ a.take (n / 32) → x = 0) ∧ (a.getD (n / 32) 0).toNat % 2 ^ (n % 32) = 0 := by
  have h1 := nat_lt (words_take h (n / 32))
  rw [List.length_take, Nat.min_eq_left (by omega)] at h1
  have hp : 0 < 4294967296 ^ (n / 32) := Nat.pow_pos (by omega)
  rw [pow32 n, nat_take_drop a (n / 32) (by omega), Nat.mod_mul, Nat.add_mul_mod_self_left, Nat.mod_eq_of_lt h1, Nat.add_mul_div_left _ _ hp, Nat.div_eq_of_lt h1, Nat.zero_add]
  have h2 : nat (a.drop (n / 32)) % 2 ^ (n % 32) = (a.getD (n / 32) 0).toNat % 2 ^ (n % 32) := by
    rw [List.drop_eq_getElem_cons hw, nat_mod_low _ _ (by omega)]
    simp [List.getD_eq_getElem?_getD, hw]
  rw [h2, ← nat_zero_iff (words_take h _), Nat.add_eq_zero_iff, Nat.mul_eq_zero]
  constructor
  · rintro ⟨p, q⟩
    exact ⟨p, q.resolve_left (by omega)⟩
  · rintro ⟨p, q⟩
    exact ⟨p, .inr q⟩

/-- one bit more -/
theorem mod_bit (N i : Nat) : N % 2 ^ (i + 1) = 0 ↔ N % 2 ^ i = 0 ∧ N / 2 ^ i % 2 = 0 := by
  have hp : 0 < 2 ^ i := Nat.pow_pos (n := i) (show 0 < 2 by omega)
  rw [Nat.pow_succ, Nat.mod_mul, Nat.add_eq_zero_iff, Nat.mul_eq_zero]
  constructor
  · rintro ⟨p, q⟩
    exact ⟨p, q.resolve_left (by omega)⟩
  · rintro ⟨p, q⟩
    exact ⟨p, .inr q⟩

/-- a number's bit in its words -/
theorem word_bit {a : List Int} (h : Words a) (i : Nat) (hi : i < 32 * a.length) : nat a / 2 ^ i % 2 = (a.getD (i / 32) 0).toNat / 2 ^ (i % 32) % 2 := by
  have h1 := nat_lt (words_take h (i / 32))
  have hw : i / 32 < a.length := by omega
  rw [List.length_take, Nat.min_eq_left (by omega)] at h1
  have hp : 0 < 4294967296 ^ (i / 32) := Nat.pow_pos (by omega)
  rw [pow32 i, ← Nat.div_div_eq_div_mul, nat_take_drop a (i / 32) (by omega), Nat.add_mul_div_left _ _ hp, Nat.div_eq_of_lt h1, Nat.zero_add, List.drop_eq_getElem_cons hw]
  simp only [nat]
  have e : a.getD (i / 32) 0 = a[i / 32] := by simp [List.getD_eq_getElem?_getD, hw]
  rw [e]
  have hs := pow_split (s := i % 32) (by omega)
  rw [← hs, Nat.mul_assoc, Nat.add_mul_div_left _ _ (Nat.pow_pos (by omega))]
  have hq : (2 : Nat) ^ (32 - i % 32) = 2 * 2 ^ (31 - i % 32) := by
    rw [← Nat.pow_succ']
    congr 1
    omega
  rw [hq, Nat.mul_assoc, Nat.add_mul_mod_self_left]

/-- quotient and loss in numbers -/
def ShrN (m : Nat) (n : Int) : List Int × Bool := if n < 0 then (dig m, false) else (dig (m / 2 ^ n.toNat), decide (m % 2 ^ n.toNat ≠ 0))

/-- a natural times a power of 2 -/
def ShlN (m : Nat) (n : Int) : List Int × Int := if big m then ([], 3) else if n < 0 then ([], 1) else if m = 0 then ([], 0) else if 32768 < n then ([], 3) else if big (m * 2 ^ n.toNat) then ([], 3) else (dig (m * 2 ^ n.toNat), 0)

/-- one word more of a natural times 2^s: c: what the words ahead of it left -/
theorem shl_word {x c : Int} {s : Nat} (hs : s < 32) (hx : 0 ≤ x ∧ x < 4294967296) (hc : 0 ≤ c ∧ c < (2 ^ s : Nat)) :
    0 ≤ x * (2 ^ s : Nat) ∧ x * (2 ^ s : Nat) < 9223372036854775808 ∧ (x * (2 ^ s : Nat)) % (2 ^ s : Nat) = 0 ∧ (x * (2 ^ s : Nat) % 4294967296) % (2 ^ s : Nat) = 0 ∧ x * (2 ^ s : Nat) / 4294967296 < (2 ^ s : Nat) ∧
    (x * (2 ^ s : Nat) + c) / 4294967296 < (2 ^ s : Nat) ∧ x * (2 ^ s : Nat) % 4294967296 + c < 4294967296 := by
  obtain ⟨X, rfl⟩ : ∃ X : Nat, x = X := ⟨x.toNat, by omega⟩
  obtain ⟨C, rfl⟩ : ∃ C : Nat, c = C := ⟨c.toNat, by omega⟩
  have h := pow_split (s := s) (by omega)
  have hP31 : (2 : Nat) ^ s ≤ 2147483648 := Nat.pow_le_pow_right (n := 2) (show 0 < 2 by omega) (show s ≤ 31 by omega)
  generalize hP : (2 : Nat) ^ s = P at *
  generalize hQ : (2 : Nat) ^ (32 - s) = Q at *
  have hP0 : 0 < P := by omega
  have b1 : X * P ≤ 4294967295 * P := Nat.mul_le_mul_right P (by omega)
  have b2 : X * P + P ≤ 4294967296 * P := by omega
  have m1 : (X * P) % 4294967296 = P * (X % Q) := by rw [← h, Nat.mul_comm X P, Nat.mul_mod_mul_left]
  have hQ0 : 0 < Q := by
    rcases Nat.eq_zero_or_pos Q with h0 | h0
    · rw [h0, Nat.mul_zero] at h; omega
    · exact h0
  have m2 : X % Q + 1 ≤ Q := Nat.mod_lt X hQ0
  have m3 := Nat.mul_le_mul_left P m2
  rw [Nat.mul_add, Nat.mul_one, h] at m3
  have m4 : P * (X % Q) % P = 0 := Nat.mul_mod_right P _
  have d1 : X * P / 4294967296 < P := by rw [Nat.div_lt_iff_lt_mul (by omega)]; omega
  have d2 : (X * P + C) / 4294967296 < P := by rw [Nat.div_lt_iff_lt_mul (by omega)]; omega
  rw [← Int.natCast_mul]
  have m5 : X * P % P = 0 := Nat.mul_mod_left X P
  refine ⟨by omega, by omega, by omega, ?_, by omega, by omega, by omega⟩
  have e : ((X * P : Nat) : Int) % 4294967296 = ((P * (X % Q) : Nat) : Int) := by omega
  rw [e]
  omega

end Go.Proofs.Bn

/- Bignum: contracts: shl, Up. -/
set_option maxRecDepth 100000
namespace Go.Proofs.Bn
open Go Go.Ev

theorem getD_set (l : List Int) (j k : Nat) (v : Int) (h : j < l.length) : (l.set j v).getD k 0 = if k = j then v else l.getD k 0 := by
  rw [List.getD_eq_getElem?_getD, List.getD_eq_getElem?_getD, List.getElem?_set]
  by_cases e : j = k
  · subst e
    simp [h]
  · have e2 : k ≠ j := fun h => e h.symm
    simp [e, e2]

/-- the kinds of a shift's counts -/
structure Cnt (n : Int) (w r : Nat) : Prop where
  h0 : 0 ≤ n
  ew : n.tdiv 32 = (w : Int)
  er : n.tmod 32 = (r : Int)
  rlt : r < 32
  en : n = 32 * (w : Int) + r

theorem cnt {n : Int} (h : 0 ≤ n) : Cnt n (n.toNat / 32) (n.toNat % 32) := by
  refine ⟨h, ?_, ?_, by omega, by omega⟩
  · rw [Int.tdiv_eq_ediv_of_nonneg h]; omega
  · rw [Int.tmod_eq_emod_of_nonneg h]; omega

theorem two_pow (r : Nat) : (2 : Int) ^ r = ((2 ^ r : Nat) : Int) := by rw [Int.natCast_pow]; rfl

theorem pow_int_mul (m n : Nat) : (4294967296 : Int) ^ m * 4294967296 ^ n = 4294967296 ^ (m + n) := by rw [Int.pow_add]

/-! ### Up -/

theorem up_step {a l : List Int} {c P : Int} {w i : Nat} (ha : Words a) (hl : l.length = w + i) (h0 : 0 ≤ wd a i * P + c) (hinv : (nat l : Int) + c * 4294967296 ^ (w + i) = P * 4294967296 ^ w * natW a i) :
    (nat (l ++ [(wd a i * P + c) % 4294967296]) : Int) + (wd a i * P + c) / 4294967296 * 4294967296 ^ (w + (i + 1)) = P * 4294967296 ^ w * natW a (i + 1) := by
  rw [nat_snoc _ _ (by omega), natW_next ha, hl, show w + (i + 1) = (w + i) + 1 from rfl, Int.pow_succ]
  have e : (wd a i * P + c) % 4294967296 = (wd a i * P + c) - 4294967296 * ((wd a i * P + c) / 4294967296) := by omega
  rw [e]
  generalize (wd a i * P + c) / 4294967296 = q
  have hp := pow_int_mul w i
  rw [← hp] at hinv ⊢
  generalize (4294967296 : Int) ^ w = W at *
  generalize (4294967296 : Int) ^ i = I at *
  generalize wd a i = x at *
  grind

theorem up_loop (a : List Int) (ta : Bool) (n : Int) (w r : Nat) (C : Cnt n w r) (ha : Words a) (hlim : w + a.length + 2 ≤ 1000000000000) : ∀ (f i : Nat) (l : List Int) (c : Int), i + f = a.length → l.length = w + i → Words l → (0 ≤ c ∧ c < (2 ^ r : Nat)) →
    (nat l : Int) + c * 4294967296 ^ (w + i) = (2 ^ r : Nat) * 4294967296 ^ w * natW a i →
    ∃ l1 : List Int, ∃ c1 : Int, l1.length = w + a.length ∧ Words l1 ∧ (0 ≤ c1 ∧ c1 < (2 ^ r : Nat)) ∧ (nat l1 : Int) + c1 * 4294967296 ^ (w + a.length) = (2 ^ r : Nat) * 4294967296 ^ w * natW a a.length ∧
      LoopTo Try.prog (loopAt Try.f54 0) (upS0 a ta n c i l 0) (.exit 0) (upX0 a ta n c1 l1 0) := by
  have hr := C.rlt
  intro f
  induction f with
  | zero =>
    intro i l c hi hl hw hc hinv
    have : i = a.length := by omega
    subst this
    exact ⟨l, c, hl, hw, hc, hinv, .done (by simp) (upL0_2 a ta n c a.length l 0 ⟨by simp, trivial⟩)⟩
  | succ f ih =>
    intro i l c hi hl hw hc hinv
    have hx := wd_bound ha i
    have hg := wd_nat a i
    obtain ⟨b1, b2, b3, b4, b5, b6, b7⟩ := shl_word hr hx hc
    have e1 : (n.tmod 32 % 18446744073709551616) = (r : Int) := by rw [C.er]; omega
    have e2 : (2 : Int) ^ min (n.tmod 32 % 18446744073709551616).toNat 64 = (2 ^ r : Nat) := by rw [e1, Int.toNat_natCast, Nat.min_eq_left (by omega), two_pow]
    have e3 : bitsOf .or .u64 (wd a i * (2 ^ r : Nat)) c = wd a i * (2 ^ r : Nat) + c := by
      rw [(or_add (k := .u64) rfl hc.1 hc.2 b1 (by show _ < (2 : Int) ^ 64; omega) b3 (show r ≤ 64 by omega)).2, Int.add_comm]
    have h1 := upL0_1 a ta n c i l 0 (by
      rw [e2, Int.toNat_natCast, ← hg, e3]
      refine ⟨by simp; omega, by omega, inRu64 (by omega) (by omega), by omega, by rw [e1]; omega, inRu64 b1 (by omega), rfl, rfl, ?_, by omega, inR64 (by omega) (by omega), trivial⟩
      simp
      omega)
    rw [e2, Int.toNat_natCast, ← hg, e3] at h1
    obtain ⟨l1, c1, g1, g2, g3, g4, g5⟩ := ih (i + 1) (l ++ [(wd a i * (2 ^ r : Nat) + c) % 4294967296]) ((wd a i * (2 ^ r : Nat) + c) / 4294967296) (by omega) (by simp [hl]; omega) (words_snoc hw (by omega) (by omega)) ⟨by omega, b6⟩ (up_step ha hl (by omega) hinv)
    exact ⟨l1, c1, g1, g2, g3, g4, .step h1 g5⟩

theorem zeros_nat (w : Nat) : nat (List.replicate w (0 : Int)) = 0 := nat_zeros fun x hx => (List.mem_replicate.1 hx).2

theorem up_pure (a : List Int) (ta : Bool) (n : Int) (ha : Words a) (hn : 0 ≤ n) (hlim : n + a.length + 2 ≤ 1000000000000) : PureTo Try.prog 54 [.sl 1 (.ints .u32 a) ta, .v (.int .i64 n)] (.sl 1 (.ints .u32 (dig (nat a * 2 ^ n.toNat))) false) := by
  have C := cnt hn
  generalize hw : n.toNat / 32 = w at *
  generalize hr : n.toNat % 32 = r at *
  by_cases h0 : (norm a).length = 0
  · have e : nat a = 0 := by
      rw [← nat_norm, List.eq_nil_of_length_eq_zero h0]
      rfl
    rw [e, Nat.zero_mul, dig_zero]
    exact upF1 a ta n 0 [] 0 ⟨by unfold lim4; omega, by simp [h0], trivial⟩
  · obtain ⟨l1, c1, g1, g2, g3, g4, g5⟩ := up_loop a ta n w r C ha (by omega) a.length 0 (List.replicate w 0) 0 (by omega) (by simp) (zeros_words w) ⟨by omega, by have := Nat.pow_pos (n := r) (show 0 < 2 by omega); omega⟩ (by simp [natW, zeros_nat])
    have hc32 : c1 < 4294967296 := by
      have : (2 : Nat) ^ r ≤ 2 ^ 32 := Nat.pow_le_pow_right (by omega) (by omega)
      omega
    have hw2 : Words (l1 ++ [c1 % 4294967296]) := words_snoc g2 (by omega) (by omega)
    have hval : nat (l1 ++ [c1 % 4294967296]) = nat a * 2 ^ n.toNat := by
      have h1 := nat_snoc l1 (c1 % 4294967296) (by omega)
      rw [g1, Int.emod_eq_of_lt g3.1 hc32] at h1
      rw [natW_all _ _ (Nat.le_refl _)] at g4
      rw [Int.emod_eq_of_lt g3.1 hc32]
      have h2 : ((nat a * 2 ^ n.toNat : Nat) : Int) = (2 ^ r : Nat) * 4294967296 ^ w * nat a := by
        rw [pow32 n.toNat, hw, hr, Int.natCast_mul, Int.natCast_mul, ← pow_int]
        grind
      have h3 : ((nat (l1 ++ [c1]) : Nat) : Int) = ((nat a * 2 ^ n.toNat : Nat) : Int) := by
        rw [h1, h2, ← g4, Int.mul_comm (4294967296 ^ _)]
      exact Int.ofNat.inj h3
    have hlen : (l1 ++ [c1 % 4294967296]).length = w + a.length + 1 := by simp [g1]
    have hCw := C.ew
    have hCn := C.en
    have e5 : (n.tdiv 32).toNat = w := by rw [hCw]; omega
    have h := upF2 a ta n c1 l1 0 (by
      rw [e5, hlen]
      refine ⟨by unfold lim4; omega, by simpa using h0, by omega, by rw [hCw]; exact inR64 (by omega) (by omega), by rw [hCw]; omega, by rw [hCw]; omega, ?_, rfl, rfl, by omega, rfl, by omega, by unfold lim4; omega, trivial⟩
      have := g5
      unfold upS0 at this
      simp only [List.length_replicate] at this
      exact this)
    rw [norm_eq hw2, hval] at h
    exact h

/-! ### shl -/

structure ShlInv (a o : List Int) (w r i : Nat) : Prop where
  words : Words o
  low : o.getD (w + i) 0 < (2 ^ r : Nat)
  zero : ∀ j, w + i < j → o.getD j 0 = 0
  num : (val o : Int) = (2 ^ r : Nat) * 4294967296 ^ w * natW a i

theorem shl_next {a o : List Int} {w r i : Nat} (ha : Words a) (hr : r < 32) (hlen : w + i + 1 < o.length) (I : ShlInv a o w r i) :
    ShlInv a ((o.set (w + i) (o.getD (w + i) 0 + wd a i * (2 ^ r : Nat) % 4294967296)).set (w + i + 1) (wd a i * (2 ^ r : Nat) / 4294967296)) w r (i + 1) := by
  have hx := wd_bound ha i
  have hc := words_getD I.words (w + i)
  obtain ⟨b1, b2, b3, b4, b5, b6, b7⟩ := shl_word hr hx ⟨hc.1, I.low⟩
  have hP31 : (2 : Nat) ^ r ≤ 2147483648 := Nat.pow_le_pow_right (n := 2) (show 0 < 2 by omega) (show r ≤ 31 by omega)
  refine ⟨words_set (words_set I.words _ (by omega) (by omega)) _ (by omega) (by omega), ?_, fun j hj => ?_, ?_⟩
  · rw [getD_set _ _ _ _ (by simpa using hlen), if_pos (by omega)]
    exact b5
  · rw [getD_set _ _ _ _ (by simpa using hlen), if_neg (by omega), getD_set _ _ _ _ (by omega), if_neg (by omega)]
    exact I.zero j (by omega)
  · have v1 := val_set o (w + i) (o.getD (w + i) 0 + wd a i * (2 ^ r : Nat) % 4294967296) (by omega)
    have v2 := val_set (o.set (w + i) (o.getD (w + i) 0 + wd a i * (2 ^ r : Nat) % 4294967296)) (w + i + 1) (wd a i * (2 ^ r : Nat) / 4294967296) (by simpa using hlen)
    rw [getD_set _ _ _ _ (by omega), if_neg (by omega), I.zero (w + i + 1) (by omega), Int.zero_mul, Int.add_zero] at v2
    rw [v2, natW_next ha]
    have hn := I.num
    rw [Int.pow_succ]
    have hp := pow_int_mul w i
    rw [← hp] at v1 ⊢
    generalize (4294967296 : Int) ^ w = W at *
    generalize (4294967296 : Int) ^ i = J at *
    generalize val (o.set (w + i) (o.getD (w + i) 0 + wd a i * (2 ^ r : Nat) % 4294967296)) = V at *
    generalize o.getD (w + i) 0 = c at *
    generalize ((2 ^ r : Nat) : Int) = P at *
    have e : wd a i * P % 4294967296 = wd a i * P - 4294967296 * (wd a i * P / 4294967296) := by omega
    rw [e] at v1
    generalize wd a i * P / 4294967296 = q at *
    generalize wd a i = x at *
    rw [hn] at v1
    grind

theorem shl_loop (a : List Int) (ta : Bool) (n : Int) (w r N : Nat) (C : Cnt n w r) (ha : Words (norm a)) (hN : N = w + (norm a).length + 1) (hlim : N ≤ 1000000000000) : ∀ (f i : Nat) (o : List Int), i + f = (norm a).length → o.length = N → ShlInv (norm a) o w r i →
    ∃ l1 : List Int, l1.length = N ∧ ShlInv (norm a) l1 w r (norm a).length ∧ LoopTo Try.prog (loopAt Try.f53 0) (shlS0 a ta n i o N N) (.exit 0) (shlX0 a ta n l1 N N) := by
  have hr := C.rlt
  intro f
  induction f with
  | zero =>
    intro i o hi hl I
    have : i = (norm a).length := by omega
    subst this
    exact ⟨o, hl, I, .done (by simp) (shlL0_2 a ta n (norm a).length o N N ⟨by simp, trivial⟩)⟩
  | succ f ih =>
    intro i o hi hl I
    have hx := wd_bound ha i
    have hg := wd_nat (norm a) i
    have hc := words_getD I.words (w + i)
    obtain ⟨b1, b2, b3, b4, b5, b6, b7⟩ := shl_word hr hx ⟨hc.1, I.low⟩
    have hP31 : (2 : Nat) ^ r ≤ 2147483648 := Nat.pow_le_pow_right (n := 2) (show 0 < 2 by omega) (show r ≤ 31 by omega)
    have e2 : (2 : Int) ^ min (n.tmod 32).toNat 64 = (2 ^ r : Nat) := by rw [C.er, Int.toNat_natCast, Nat.min_eq_left (by omega), two_pow]
    have e4 : (n.tdiv 32 + (i : Int)).toNat = w + i := by rw [C.ew]; omega
    have e5 : (n.tdiv 32 + (i : Int) + 1).toNat = w + i + 1 := by rw [C.ew]; omega
    have e6 : bitsOf .or .u32 (o.getD (w + i) 0) (wd (norm a) i * (2 ^ r : Nat) % 4294967296) = o.getD (w + i) 0 + wd (norm a) i * (2 ^ r : Nat) % 4294967296 :=
      (or_add (k := .u32) rfl hc.1 I.low (by omega) (by show _ < (2 : Int) ^ 32; omega) b4 (show r ≤ 32 by omega)).1
    have e7 : ∀ v, (o.set (w + i) v).getD (w + i + 1) 0 = 0 := fun v => by
      rw [getD_set _ _ _ _ (by omega), if_neg (by omega)]
      exact I.zero _ (by omega)
    have e8 : bitsOf .or .u32 0 (wd (norm a) i * (2 ^ r : Nat) / 4294967296 % 4294967296) = wd (norm a) i * (2 ^ r : Nat) / 4294967296 := by
      have := (or_add (k := .u32) (s := 0) (x := 0) (y := wd (norm a) i * (2 ^ r : Nat) / 4294967296 % 4294967296) rfl (by omega) (by simp) (by omega) (by show _ < (2 : Int) ^ 32; omega) (by omega) (by omega)).1
      rw [this]
      omega
    have hCw := C.ew
    have h1 := shlL0_1 a ta n i o N N (by
      rw [e2, Int.toNat_natCast, ← hg, e4, ix0]
      refine ⟨by simp; omega, by omega, inRu64 (by omega) (by omega), by omega, by rw [C.er]; omega, inRu64 b1 (by omega), by omega, by rw [hCw]; exact inR64 (by omega) (by omega), by rw [hCw]; exact inR64 (by omega) (by omega), by rw [hCw]; omega, Nat.le_refl _, by rw [hCw]; omega, hl.symm, by omega, by rw [hCw]; exact inR64 (by omega) (by omega), by rw [hCw]; exact inR64 (by omega) (by omega), by rw [hCw]; exact inR64 (by omega) (by omega), by rw [hCw]; omega, by omega, by omega, by rw [hCw]; omega, by rw [List.length_set]; exact hl.symm, inR64 (by omega) (by omega), trivial⟩)
    rw [e2, Int.toNat_natCast, ← hg, e4, e5, ix0, ix0, e6, e7, e8, List.length_set, hl] at h1
    obtain ⟨l1, g1, g2, g3⟩ := ih (i + 1) _ (by omega) (by rw [List.length_set, List.length_set]; exact hl) (shl_next ha hr (by omega) I)
    exact ⟨l1, g1, g2, .step h1 g3⟩

theorem shl_pure (a : List Int) (ta : Bool) (n : Int) (ha : Words a) (hn : 0 ≤ n) (hlim : n + a.length + 2 ≤ 1000000000000) : PureTo Try.prog 53 [.sl 1 (.ints .u32 a) ta, .v (.int .i64 n)] (.sl 1 (.ints .u32 (dig (nat a * 2 ^ n.toNat))) true) := by
  have C := cnt hn
  generalize hw : n.toNat / 32 = w at *
  generalize hr : n.toNat % 32 = r at *
  have hle := norm_length_le a
  have hCw := C.ew
  have hCn := C.en
  have hP := Nat.pow_pos (n := r) (show 0 < 2 by omega)
  have hlen : (List.replicate (w + (norm a).length + 1) (0 : Int)).length = w + (norm a).length + 1 := by simp
  have I0 : ShlInv (norm a) (List.replicate (w + (norm a).length + 1) 0) w r 0 := by
    have hz : ∀ j, (List.replicate (w + (norm a).length + 1) (0 : Int)).getD j 0 = 0 := fun j => by
      rw [List.getD_eq_getElem?_getD, List.getElem?_replicate]
      split <;> rfl
    refine ⟨zeros_words _, by rw [hz]; omega, fun j _ => hz j, ?_⟩
    rw [val_zeros]
    simp [natW]
  obtain ⟨l1, g1, g2, g3⟩ := shl_loop a ta n w r (w + (norm a).length + 1) C (words_norm ha) rfl (by omega) (norm a).length 0 _ (by omega) hlen I0
  have e5 : (n.tdiv 32 + ((norm a).length : Int) + 1).toNat = w + (norm a).length + 1 := by rw [hCw]; omega
  have hval : nat l1 = nat a * 2 ^ n.toNat := by
    have h1 := g2.num
    rw [natW_all _ _ (Nat.le_refl _), nat_norm, val_nat g2.words] at h1
    have h2 : ((nat a * 2 ^ n.toNat : Nat) : Int) = (2 ^ r : Nat) * 4294967296 ^ w * nat a := by
      rw [pow32 n.toNat, hw, hr, Int.natCast_mul, Int.natCast_mul, ← pow_int]
      grind
    exact Int.ofNat.inj (h1.trans h2.symm)
  have h := shlF1 a ta n l1 (w + (norm a).length + 1) (w + (norm a).length + 1) (by
    rw [e5]
    refine ⟨by unfold lim; omega, by omega, by rw [hCw]; exact inR64 (by omega) (by omega), by rw [hCw]; exact inR64 (by omega) (by omega), by rw [hCw]; exact inR64 (by omega) (by omega), by rw [hCw]; omega, by rw [hCw]; omega, .raise ?_, g1.symm, Nat.le_refl _, by rw [g1]; unfold lim; omega, trivial⟩
    show LoopTo _ _ { n := _, fr := _, hp := [(10, .row 22 1 (.ints .u32 (List.replicate (w + (norm a).length + 1) 0)) (List.replicate (w + (norm a).length + 1) (0 : Int)).length)], nx := _ } _ _
    rw [hlen]
    exact g3)
  rw [norm_eq g2.words, hval] at h
  exact h

end Go.Proofs.Bn

/- Bignum: contracts of shl, Up, and 'is a word not 0'. -/
set_option maxRecDepth 100000
namespace Go.Proofs.Bn
open Go Go.Ev

def sigNz : List AV → Option (AV × List Prop)
  | [.v (.int .u32 x)] => some (.v (.bool (x != 0)), [])
  | _ => none
def sigShlW : List AV → Option (AV × List Prop)
  | [.sl 1 (.ints .u32 a) _, .v (.int .i64 n)] => some (.sl 1 (.ints .u32 (dig (nat a * 2 ^ n.toNat))) true, [Words a, 0 ≤ n, n + a.length + 2 ≤ 1000000000000])
  | _ => none
def sigUp : List AV → Option (AV × List Prop)
  | [.sl 1 (.ints .u32 a) _, .v (.int .i64 n)] => some (.sl 1 (.ints .u32 (dig (nat a * 2 ^ n.toNat))) false, [Words a, 0 ≤ n, n + a.length + 2 ≤ 1000000000000])
  | _ => none

def SG11 : SGT := (56, .p sigNz) :: (53, .p sigShlW) :: (54, .p sigUp) :: SG10

theorem sok11 : SigsOK Try.prog SG11 := by
  refine sigs_cons (sigs_cons (sigs_cons sok10 ?_) ?_) ?_
  · intro ys r c h hc
    unfold sigUp at h
    split at h
    · cases h; exact up_pure _ _ _ hc.1 hc.2.1 hc.2.2.1
    · cases h
  · intro ys r c h hc
    unfold sigShlW at h
    split at h
    · cases h; exact shl_pure _ _ _ hc.1 hc.2.1 hc.2.2.1
    · cases h
  · intro ys r c h hc
    unfold sigNz at h
    split at h
    · cases h; exact nzF1 _ hc
    · cases h

end Go.Proofs.Bn

/- Bignum: walks, written by the tool. -/
set_option maxRecDepth 100000
namespace Go.Proofs.Bn
open Go Go.Ev
def ixfS0 (a : List Int) (ta : Bool) (x0 : Int) : AS := { n := 19, fr := [(0, AV.sl 1 (.ints .u32 a) ta), (1, AV.fnv (Fn.func 56) [] []), (7, AV.v (.int .i64 (↑a.length : Int))), (8, AV.v (.int .i64 x0))], hp := [], nx := 0 }
def ixfX0 (a : List Int) (ta : Bool)  : AS := { n := 19, fr := [], hp := [], nx := 0 }
def ixfX0_1 (a : List Int) (ta : Bool) (x1 : Int) : AS := { n := 19, fr := [(4, AV.v (.int .i64 x1))], hp := [], nx := 0 }
def rshrS0 (a : List Int) (ta : Bool) (n : Int) (x0 : Int) (b0 : Bool) : AS := { n := 72, fr := [(0, AV.sl 1 (.ints .u32 (norm a)) false), (1, AV.v (.int .i64 n)), (6, AV.v (.bool b0)), (7, AV.v (.int .i64 x0))], hp := [], nx := 0 }
def rshrX0 (a : List Int) (ta : Bool) (n : Int) (b1 : Bool) : AS := { n := 72, fr := [(0, AV.sl 1 (.ints .u32 (norm a)) false), (1, AV.v (.int .i64 n)), (6, AV.v (.bool b1))], hp := [], nx := 0 }
def rshrS1 (a : List Int) (ta : Bool) (n : Int) (x1 : Int) (b1 : Bool) (l0 : List Int) (n0 : Nat) : AS := { n := 72, fr := [(0, AV.sl 1 (.ints .u32 (norm a)) false), (1, AV.v (.int .i64 n)), (6, AV.v (.bool b1)), (8, AV.row 0 0 l0.length l0.length false), (9, AV.v (.int .i64 x1))], hp := [(0, AObj.row 22 1 (.ints .u32 l0) n0)], nx := 1 }
def rshrX1 (a : List Int) (ta : Bool) (n : Int) (b1 : Bool) (l1 : List Int) (n1 : Nat) : AS := { n := 72, fr := [(6, AV.v (.bool b1)), (8, AV.row 0 0 l1.length l1.length false)], hp := [(0, AObj.row 22 1 (.ints .u32 l1) n1)], nx := 1 }
-- 5 paths
theorem pshlF1 (a : List Int) (ta : Bool) (n : Int) (h : AllP [a.length < lim, over (norm a) = true, (norm a).length < lim]) : PureTo Try.prog 28 [.sl 1 (.ints .u32 a) ta, .v (.int .i64 n)] (AV.tup [AV.sl 1 (.ints .u32 []) false, AV.v (.int .i64 (3 : Int))]) :=
  evFn_pure hm sok11 (fn := Try.f28) rfl rfl (ti := false) (hs := [CHint.ops 2 [(2, Hint.b true)]]) (c := _) (by kernel_rfl) h
theorem pshlF2 (a : List Int) (ta : Bool) (n : Int) (h : AllP [a.length < lim, over (norm a) = false, (norm a).length < lim, decide (n < (0 : Int)) = true]) : PureTo Try.prog 28 [.sl 1 (.ints .u32 a) ta, .v (.int .i64 n)] (AV.tup [AV.sl 1 (.ints .u32 []) false, AV.v (.int .i64 (1 : Int))]) :=
  evFn_pure hm sok11 (fn := Try.f28) rfl rfl (ti := false) (hs := [CHint.ops 2 [(2, Hint.b false)], CHint.ops 4 [(1, Hint.b true)]]) (c := _) (by kernel_rfl) h
theorem pshlF3 (a : List Int) (ta : Bool) (n : Int) (h : AllP [a.length < lim, over (norm a) = false, (norm a).length < lim, decide (n < (0 : Int)) = false, ((↑(norm a).length : Int) == (0 : Int)) = true]) : PureTo Try.prog 28 [.sl 1 (.ints .u32 a) ta, .v (.int .i64 n)] (AV.tup [AV.sl 1 (.ints .u32 []) false, AV.v (.int .i64 (0 : Int))]) :=
  evFn_pure hm sok11 (fn := Try.f28) rfl rfl (ti := false) (hs := [CHint.ops 2 [(2, Hint.b false)], CHint.ops 4 [(1, Hint.b false)], CHint.ops 6 [(2, Hint.b true)]]) (c := _) (by kernel_rfl) h
theorem pshlF4 (a : List Int) (ta : Bool) (n : Int) (h : AllP [a.length < lim, over (norm a) = false, (norm a).length < lim, decide (n < (0 : Int)) = false, ((↑(norm a).length : Int) == (0 : Int)) = false, decide (n > (32768 : Int)) = true]) : PureTo Try.prog 28 [.sl 1 (.ints .u32 a) ta, .v (.int .i64 n)] (AV.tup [AV.sl 1 (.ints .u32 []) false, AV.v (.int .i64 (3 : Int))]) :=
  evFn_pure hm sok11 (fn := Try.f28) rfl rfl (ti := false) (hs := [CHint.ops 2 [(2, Hint.b false)], CHint.ops 4 [(1, Hint.b false)], CHint.ops 6 [(2, Hint.b false)], CHint.ops 8 [(1, Hint.b true)]]) (c := _) (by kernel_rfl) h
theorem pshlF5 (a : List Int) (ta : Bool) (n : Int) (h : AllP [a.length < lim, over (norm a) = false, (norm a).length < lim, decide (n < (0 : Int)) = false, ((↑(norm a).length : Int) == (0 : Int)) = false, decide (n > (32768 : Int)) = false, Words (norm a), (0 : Int) ≤ n, n + (↑(norm a).length : Int) + (2 : Int) ≤ (1000000000000 : Int), (dig (nat (norm a) * 2 ^ n.toNat)).length < lim]) : PureTo Try.prog 28 [.sl 1 (.ints .u32 a) ta, .v (.int .i64 n)] (AV.tup [AV.sl 1 (.ints .u32 (toldL (dig (nat (norm a) * 2 ^ n.toNat)))) false, AV.v (.int .i64 (toldE (dig (nat (norm a) * 2 ^ n.toNat))))]) :=
  evFn_pure hm sok11 (fn := Try.f28) rfl rfl (ti := false) (hs := [CHint.ops 2 [(2, Hint.b false)], CHint.ops 4 [(1, Hint.b false)], CHint.ops 6 [(2, Hint.b false)], CHint.ops 8 [(1, Hint.b false)]]) (c := _) (by kernel_rfl) h
-- 5 paths
theorem rshlF1 (a : List Int) (ta : Bool) (n : Int) (h : AllP [over a = true, a.length ≤ lim4]) : PureTo Try.prog 29 [.sl 1 (.ints .u32 a) ta, .v (.int .i64 n)] (AV.tup [AV.sl 1 (.ints .u32 []) false, AV.v (.int .i64 (3 : Int))]) :=
  evFn_pure hm sok11 (fn := Try.f29) rfl rfl (ti := false) (hs := [CHint.ops 1 [(1, Hint.b true)]]) (c := _) (by kernel_rfl) h
theorem rshlF2 (a : List Int) (ta : Bool) (n : Int) (h : AllP [over a = false, a.length ≤ lim4, decide (n < (0 : Int)) = true]) : PureTo Try.prog 29 [.sl 1 (.ints .u32 a) ta, .v (.int .i64 n)] (AV.tup [AV.sl 1 (.ints .u32 []) false, AV.v (.int .i64 (1 : Int))]) :=
  evFn_pure hm sok11 (fn := Try.f29) rfl rfl (ti := false) (hs := [CHint.ops 1 [(1, Hint.b false)], CHint.ops 3 [(1, Hint.b true)]]) (c := _) (by kernel_rfl) h
theorem rshlF3 (a : List Int) (ta : Bool) (n : Int) (h : AllP [over a = false, a.length ≤ lim4, decide (n < (0 : Int)) = false, Words a, a.length ≤ lim4, ((↑(bl (nat a)) : Int) == (0 : Int)) = true]) : PureTo Try.prog 29 [.sl 1 (.ints .u32 a) ta, .v (.int .i64 n)] (AV.tup [AV.sl 1 (.ints .u32 []) false, AV.v (.int .i64 (0 : Int))]) :=
  evFn_pure hm sok11 (fn := Try.f29) rfl rfl (ti := false) (hs := [CHint.ops 1 [(1, Hint.b false)], CHint.ops 3 [(1, Hint.b false)], CHint.ops 5 [(2, Hint.b true)]]) (c := _) (by kernel_rfl) h
theorem rshlF4 (a : List Int) (ta : Bool) (n : Int) (h : AllP [over a = false, a.length ≤ lim4, decide (n < (0 : Int)) = false, Words a, a.length ≤ lim4, ((↑(bl (nat a)) : Int) == (0 : Int)) = false, decide (n > (32768 : Int)) = true]) : PureTo Try.prog 29 [.sl 1 (.ints .u32 a) ta, .v (.int .i64 n)] (AV.tup [AV.sl 1 (.ints .u32 []) false, AV.v (.int .i64 (3 : Int))]) :=
  evFn_pure hm sok11 (fn := Try.f29) rfl rfl (ti := false) (hs := [CHint.ops 1 [(1, Hint.b false)], CHint.ops 3 [(1, Hint.b false)], CHint.ops 5 [(2, Hint.b false)], CHint.ops 7 [(1, Hint.b true)]]) (c := _) (by kernel_rfl) h
theorem rshlF5 (a : List Int) (ta : Bool) (n : Int) (h : AllP [over a = false, a.length ≤ lim4, decide (n < (0 : Int)) = false, Words a, a.length ≤ lim4, ((↑(bl (nat a)) : Int) == (0 : Int)) = false, decide (n > (32768 : Int)) = false, a.length ≤ lim4, Words (norm a), (0 : Int) ≤ n, n + (↑(norm a).length : Int) + (2 : Int) ≤ (1000000000000 : Int), Words (dig (nat (norm a) * 2 ^ n.toNat)), (dig (nat (norm a) * 2 ^ n.toNat)).length ≤ lim4]) : PureTo Try.prog 29 [.sl 1 (.ints .u32 a) ta, .v (.int .i64 n)] (AV.tup [AV.sl 1 (.ints .u32 (if big (nat (dig (nat (norm a) * 2 ^ n.toNat))) = true then [] else dig (nat (dig (nat (norm a) * 2 ^ n.toNat))))) false, AV.v (.int .i64 (if big (nat (dig (nat (norm a) * 2 ^ n.toNat))) = true then (3 : Int) else (0 : Int)))]) :=
  evFn_pure hm sok11 (fn := Try.f29) rfl rfl (ti := false) (hs := [CHint.ops 1 [(1, Hint.b false)], CHint.ops 3 [(1, Hint.b false)], CHint.ops 5 [(2, Hint.b false)], CHint.ops 7 [(1, Hint.b false)]]) (c := _) (by kernel_rfl) h
-- 3 paths
theorem ixfL0_1 (a : List Int) (ta : Bool) (x0 : Int) (h : AllP [decide (x0 < (↑a.length : Int)) = true, (0 : Int) ≤ x0 ∧ x0 < (↑a.length : Int), (a.getD x0.toNat (0 : Int) != (0 : Int)) = true]) : To Try.prog (loopAt Try.f66 0) ({ n := 19, fr := [(0, AV.sl 1 (.ints .u32 a) ta), (1, AV.fnv (Fn.func 56) [] []), (7, AV.v (.int .i64 (↑a.length : Int))), (8, AV.v (.int .i64 x0))], hp := [], nx := 0 }) (Exit.ret) { n := 19, fr := [(4, AV.v (.int .i64 x0))], hp := [], nx := 0 } :=
  evW_to hm sok11 (hs := [CHint.ops 2 [(0, Hint.b true)], CHint.ops 4 [(5, Hint.b true)]]) (slots := [4]) (keys := []) (nx := 0) (c := _) (by kernel_rfl) h
theorem ixfL0_2 (a : List Int) (ta : Bool) (x0 : Int) (h : AllP [decide (x0 < (↑a.length : Int)) = true, (0 : Int) ≤ x0 ∧ x0 < (↑a.length : Int), (a.getD x0.toNat (0 : Int) != (0 : Int)) = false, inR IntKind.i64 (x0 + (1 : Int))]) : To Try.prog (loopAt Try.f66 0) ({ n := 19, fr := [(0, AV.sl 1 (.ints .u32 a) ta), (1, AV.fnv (Fn.func 56) [] []), (7, AV.v (.int .i64 (↑a.length : Int))), (8, AV.v (.int .i64 x0))], hp := [], nx := 0 }) (.normal) { n := 19, fr := [(0, AV.sl 1 (.ints .u32 a) ta), (1, AV.fnv (Fn.func 56) [] []), (7, AV.v (.int .i64 (↑a.length : Int))), (8, AV.v (.int .i64 (x0 + (1 : Int))))], hp := [], nx := 0 } :=
  evW_to hm sok11 (hs := [CHint.ops 2 [(0, Hint.b true)], CHint.ops 4 [(5, Hint.b false)]]) (slots := [0, 1, 7, 8]) (keys := []) (nx := 0) (c := _) (by kernel_rfl) h
theorem ixfL0_3 (a : List Int) (ta : Bool) (x0 : Int) (h : AllP [decide (x0 < (↑a.length : Int)) = false]) : To Try.prog (loopAt Try.f66 0) ({ n := 19, fr := [(0, AV.sl 1 (.ints .u32 a) ta), (1, AV.fnv (Fn.func 56) [] []), (7, AV.v (.int .i64 (↑a.length : Int))), (8, AV.v (.int .i64 x0))], hp := [], nx := 0 }) (Exit.exit 0) { n := 19, fr := [], hp := [], nx := 0 } :=
  evW_to hm sok11 (hs := [CHint.ops 2 [(0, Hint.b false)]]) (slots := []) (keys := []) (nx := 0) (c := _) (by kernel_rfl) h
-- 2 paths
theorem ixfF1 (a : List Int) (ta : Bool) (x1 : Int) (h : AllP [LoopTo Try.prog (loopAt Try.f66 0) { n := 19, fr := [(0, AV.sl 1 (.ints .u32 a) ta), (1, AV.fnv (Fn.func 56) [] []), (7, AV.v (.int .i64 (↑a.length : Int))), (8, AV.v (.int .i64 (0 : Int)))], hp := [], nx := 0 } (Exit.exit 0) { n := 19, fr := [], hp := [], nx := 0 }]) : PureTo Try.prog 66 [.sl 1 (.ints .u32 a) ta, .fnv (.func 56) [] []] (AV.v (.int .i64 (-1 : Int))) :=
  evFn_pure hm sok11 (fn := Try.f66) rfl rfl (ti := false) (hs := [CHint.loop [0, 1, 7, 8] [] 0 (Exit.exit 0) { n := 19, fr := [], hp := [], nx := 0 }]) (c := _) (by kernel_rfl) h
theorem ixfF2 (a : List Int) (ta : Bool) (x1 : Int) (h : AllP [LoopTo Try.prog (loopAt Try.f66 0) { n := 19, fr := [(0, AV.sl 1 (.ints .u32 a) ta), (1, AV.fnv (Fn.func 56) [] []), (7, AV.v (.int .i64 (↑a.length : Int))), (8, AV.v (.int .i64 (0 : Int)))], hp := [], nx := 0 } Exit.ret { n := 19, fr := [(4, AV.v (.int .i64 x1))], hp := [], nx := 0 }]) : PureTo Try.prog 66 [.sl 1 (.ints .u32 a) ta, .fnv (.func 56) [] []] (AV.v (.int .i64 x1)) :=
  evFn_pure hm sok11 (fn := Try.f66) rfl rfl (ti := false) (hs := [CHint.loop [0, 1, 7, 8] [] 0 Exit.ret { n := 19, fr := [(4, AV.v (.int .i64 x1))], hp := [], nx := 0 }]) (c := _) (by kernel_rfl) h
-- 4 paths
theorem rshrL0_1 (a : List Int) (ta : Bool) (n : Int) (x0 : Int) (b0 : Bool) (h : AllP [decide (x0 < n) = true, b0 = true, inR IntKind.i64 (x0 + (1 : Int))]) : To Try.prog (loopAt Try.f31 0) ({ n := 72, fr := [(0, AV.sl 1 (.ints .u32 (norm a)) false), (1, AV.v (.int .i64 n)), (6, AV.v (.bool b0)), (7, AV.v (.int .i64 x0))], hp := [], nx := 0 }) (.normal) { n := 72, fr := [(0, AV.sl 1 (.ints .u32 (norm a)) false), (1, AV.v (.int .i64 n)), (6, AV.v (.bool true)), (7, AV.v (.int .i64 (x0 + (1 : Int))))], hp := [], nx := 0 } :=
  evW_to hm sok11 (hs := [CHint.ops 8 [(2, Hint.b true)], CHint.ops 10 [(1, Hint.b true)]]) (slots := [0, 1, 6, 7]) (keys := []) (nx := 0) (c := _) (by kernel_rfl) h
theorem rshrL0_2 (a : List Int) (ta : Bool) (n : Int) (x0 : Int) (b0 : Bool) (h : AllP [decide (x0 < n) = true, b0 = false, (32 : Int) ≠ (0 : Int), inR IntKind.i64 (x0.tdiv (32 : Int)), (0 : Int) ≤ x0.tdiv (32 : Int) ∧ x0.tdiv (32 : Int) < (↑(norm a).length : Int), (32 : Int) ≠ (0 : Int), (0 : Int) ≤ x0.tmod (32 : Int) % (18446744073709551616 : Int), (bitsOf BinOp.and IntKind.u32 ((norm a).getD (x0.tdiv (32 : Int)).toNat (0 : Int) / (2 : Int) ^ min (x0.tmod (32 : Int) % (18446744073709551616 : Int)).toNat 32) (1 : Int) == (1 : Int)) = true, inR IntKind.i64 (x0 + (1 : Int))]) : To Try.prog (loopAt Try.f31 0) ({ n := 72, fr := [(0, AV.sl 1 (.ints .u32 (norm a)) false), (1, AV.v (.int .i64 n)), (6, AV.v (.bool b0)), (7, AV.v (.int .i64 x0))], hp := [], nx := 0 }) (.normal) { n := 72, fr := [(0, AV.sl 1 (.ints .u32 (norm a)) false), (1, AV.v (.int .i64 n)), (6, AV.v (.bool true)), (7, AV.v (.int .i64 (x0 + (1 : Int))))], hp := [], nx := 0 } :=
  evW_to hm sok11 (hs := [CHint.ops 8 [(2, Hint.b true)], CHint.ops 10 [(1, Hint.b false), (12, Hint.b true)]]) (slots := [0, 1, 6, 7]) (keys := []) (nx := 0) (c := _) (by kernel_rfl) h
theorem rshrL0_3 (a : List Int) (ta : Bool) (n : Int) (x0 : Int) (b0 : Bool) (h : AllP [decide (x0 < n) = true, b0 = false, (32 : Int) ≠ (0 : Int), inR IntKind.i64 (x0.tdiv (32 : Int)), (0 : Int) ≤ x0.tdiv (32 : Int) ∧ x0.tdiv (32 : Int) < (↑(norm a).length : Int), (32 : Int) ≠ (0 : Int), (0 : Int) ≤ x0.tmod (32 : Int) % (18446744073709551616 : Int), (bitsOf BinOp.and IntKind.u32 ((norm a).getD (x0.tdiv (32 : Int)).toNat (0 : Int) / (2 : Int) ^ min (x0.tmod (32 : Int) % (18446744073709551616 : Int)).toNat 32) (1 : Int) == (1 : Int)) = false, inR IntKind.i64 (x0 + (1 : Int))]) : To Try.prog (loopAt Try.f31 0) ({ n := 72, fr := [(0, AV.sl 1 (.ints .u32 (norm a)) false), (1, AV.v (.int .i64 n)), (6, AV.v (.bool b0)), (7, AV.v (.int .i64 x0))], hp := [], nx := 0 }) (.normal) { n := 72, fr := [(0, AV.sl 1 (.ints .u32 (norm a)) false), (1, AV.v (.int .i64 n)), (6, AV.v (.bool false)), (7, AV.v (.int .i64 (x0 + (1 : Int))))], hp := [], nx := 0 } :=
  evW_to hm sok11 (hs := [CHint.ops 8 [(2, Hint.b true)], CHint.ops 10 [(1, Hint.b false), (12, Hint.b false)]]) (slots := [0, 1, 6, 7]) (keys := []) (nx := 0) (c := _) (by kernel_rfl) h
theorem rshrL0_4 (a : List Int) (ta : Bool) (n : Int) (x0 : Int) (b0 : Bool) (h : AllP [decide (x0 < n) = false]) : To Try.prog (loopAt Try.f31 0) ({ n := 72, fr := [(0, AV.sl 1 (.ints .u32 (norm a)) false), (1, AV.v (.int .i64 n)), (6, AV.v (.bool b0)), (7, AV.v (.int .i64 x0))], hp := [], nx := 0 }) (Exit.exit 0) { n := 72, fr := [(0, AV.sl 1 (.ints .u32 (norm a)) false), (1, AV.v (.int .i64 n)), (6, AV.v (.bool b0))], hp := [], nx := 0 } :=
  evW_to hm sok11 (hs := [CHint.ops 8 [(2, Hint.b false)]]) (slots := [0, 1, 6]) (keys := []) (nx := 0) (c := _) (by kernel_rfl) h
-- 2 paths
theorem rshrL1_1 (a : List Int) (ta : Bool) (n : Int) (x1 : Int) (b1 : Bool) (l0 : List Int) (n0 : Nat) (h : AllP [decide (x1 < (↑(norm a).length : Int)) = true, Words (norm a), (0 : Int) ≤ x1, inR IntKind.i64 (x1 + (1 : Int)), Words (norm a), (0 : Int) ≤ x1 + (1 : Int), (0 : Int) ≤ (32 : Int), inR IntKind.u64 (wd (norm a) (x1 + (1 : Int)) * (4294967296 : Int)), (32 : Int) ≠ (0 : Int), (0 : Int) ≤ n.tmod (32 : Int) % (18446744073709551616 : Int), l0.length = l0.length, l0.length = l0.length, (l0 ++ [bitsOf BinOp.or IntKind.u64 (wd (norm a) x1) (wd (norm a) (x1 + (1 : Int)) * (4294967296 : Int)) / (2 : Int) ^ min (n.tmod (32 : Int) % (18446744073709551616 : Int)).toNat 64 % (4294967296 : Int)]).length * 4 ≤ 140737488355328, inR IntKind.i64 (x1 + (1 : Int))]) : To Try.prog (loopAt Try.f31 1) ({ n := 72, fr := [(0, AV.sl 1 (.ints .u32 (norm a)) false), (1, AV.v (.int .i64 n)), (6, AV.v (.bool b1)), (8, AV.row 0 0 l0.length l0.length false), (9, AV.v (.int .i64 x1))], hp := [(0, AObj.row 22 1 (.ints .u32 l0) n0)], nx := 1 }) (.normal) { n := 72, fr := [(0, AV.sl 1 (.ints .u32 (norm a)) false), (1, AV.v (.int .i64 n)), (6, AV.v (.bool b1)), (8, AV.row 0 0 (l0 ++ [bitsOf BinOp.or IntKind.u64 (wd (norm a) x1) (wd (norm a) (x1 + (1 : Int)) * (4294967296 : Int)) / (2 : Int) ^ min (n.tmod (32 : Int) % (18446744073709551616 : Int)).toNat 64 % (4294967296 : Int)]).length (l0 ++ [bitsOf BinOp.or IntKind.u64 (wd (norm a) x1) (wd (norm a) (x1 + (1 : Int)) * (4294967296 : Int)) / (2 : Int) ^ min (n.tmod (32 : Int) % (18446744073709551616 : Int)).toNat 64 % (4294967296 : Int)]).length false), (9, AV.v (.int .i64 (x1 + (1 : Int))))], hp := [(0, AObj.row 22 1 (.ints .u32 (l0 ++ [bitsOf BinOp.or IntKind.u64 (wd (norm a) x1) (wd (norm a) (x1 + (1 : Int)) * (4294967296 : Int)) / (2 : Int) ^ min (n.tmod (32 : Int) % (18446744073709551616 : Int)).toNat 64 % (4294967296 : Int)])) n0)], nx := 1 } :=
  evW_to hm sok11 (hs := [CHint.ops 13 [(3, Hint.b true)]]) (slots := [0, 1, 6, 8, 9]) (keys := [0]) (nx := 1) (c := _) (by kernel_rfl) h
theorem rshrL1_2 (a : List Int) (ta : Bool) (n : Int) (x1 : Int) (b1 : Bool) (l0 : List Int) (n0 : Nat) (h : AllP [decide (x1 < (↑(norm a).length : Int)) = false]) : To Try.prog (loopAt Try.f31 1) ({ n := 72, fr := [(0, AV.sl 1 (.ints .u32 (norm a)) false), (1, AV.v (.int .i64 n)), (6, AV.v (.bool b1)), (8, AV.row 0 0 l0.length l0.length false), (9, AV.v (.int .i64 x1))], hp := [(0, AObj.row 22 1 (.ints .u32 l0) n0)], nx := 1 }) (Exit.exit 2) { n := 72, fr := [(6, AV.v (.bool b1)), (8, AV.row 0 0 l0.length l0.length false)], hp := [(0, AObj.row 22 1 (.ints .u32 l0) n0)], nx := 1 } :=
  evW_to hm sok11 (hs := [CHint.ops 13 [(3, Hint.b false)]]) (slots := [6, 8]) (keys := [0]) (nx := 1) (c := _) (by kernel_rfl) h
-- 4 paths
theorem rshrF1 (a : List Int) (ta : Bool) (n : Int) (b1 : Bool) (l1 : List Int) (n1 : Nat) (h : AllP [a.length ≤ lim4, decide (n ≤ (0 : Int)) = true]) : PureTo Try.prog 31 [.sl 1 (.ints .u32 a) ta, .v (.int .i64 n)] (AV.tup [AV.sl 1 (.ints .u32 (norm a)) false, AV.v (.bool false)]) :=
  evFn_pure hm sok11 (fn := Try.f31) rfl rfl (ti := false) (hs := [CHint.ops 2 [(1, Hint.b true)]]) (c := _) (by kernel_rfl) h
theorem rshrF2 (a : List Int) (ta : Bool) (n : Int) (b1 : Bool) (l1 : List Int) (n1 : Nat) (h : AllP [a.length ≤ lim4, decide (n ≤ (0 : Int)) = false, inR IntKind.i64 ((32 : Int) * (↑(norm a).length : Int)), decide (n ≥ (32 : Int) * (↑(norm a).length : Int)) = true, decide ((↑(norm a).length : Int) > (0 : Int)) = true]) : PureTo Try.prog 31 [.sl 1 (.ints .u32 a) ta, .v (.int .i64 n)] (AV.tup [AV.sl 1 (.ints .u32 []) false, AV.v (.bool true)]) :=
  evFn_pure hm sok11 (fn := Try.f31) rfl rfl (ti := false) (hs := [CHint.ops 2 [(1, Hint.b false)], CHint.ops 4 [(4, Hint.b true)], CHint.ops 5 [(2, Hint.b true)]]) (c := _) (by kernel_rfl) h
theorem rshrF3 (a : List Int) (ta : Bool) (n : Int) (b1 : Bool) (l1 : List Int) (n1 : Nat) (h : AllP [a.length ≤ lim4, decide (n ≤ (0 : Int)) = false, inR IntKind.i64 ((32 : Int) * (↑(norm a).length : Int)), decide (n ≥ (32 : Int) * (↑(norm a).length : Int)) = true, decide ((↑(norm a).length : Int) > (0 : Int)) = false]) : PureTo Try.prog 31 [.sl 1 (.ints .u32 a) ta, .v (.int .i64 n)] (AV.tup [AV.sl 1 (.ints .u32 []) false, AV.v (.bool false)]) :=
  evFn_pure hm sok11 (fn := Try.f31) rfl rfl (ti := false) (hs := [CHint.ops 2 [(1, Hint.b false)], CHint.ops 4 [(4, Hint.b true)], CHint.ops 5 [(2, Hint.b false)]]) (c := _) (by kernel_rfl) h
theorem rshrF4 (a : List Int) (ta : Bool) (n : Int) (b1 : Bool) (l1 : List Int) (n1 : Nat) (h : AllP [a.length ≤ lim4, decide (n ≤ (0 : Int)) = false, inR IntKind.i64 ((32 : Int) * (↑(norm a).length : Int)), decide (n ≥ (32 : Int) * (↑(norm a).length : Int)) = false, LoopTo Try.prog (loopAt Try.f31 0) { n := 72, fr := [(0, AV.sl 1 (.ints .u32 (norm a)) false), (1, AV.v (.int .i64 n)), (6, AV.v (.bool false)), (7, AV.v (.int .i64 (0 : Int)))], hp := [], nx := 0 } (Exit.exit 0) { n := 72, fr := [(0, AV.sl 1 (.ints .u32 (norm a)) false), (1, AV.v (.int .i64 n)), (6, AV.v (.bool b1))], hp := [], nx := 0 }, (32 : Int) ≠ (0 : Int), inR IntKind.i64 (n.tdiv (32 : Int)), LoopTo Try.prog (loopAt Try.f31 1) { n := 72, fr := [(0, AV.sl 1 (.ints .u32 (norm a)) false), (1, AV.v (.int .i64 n)), (6, AV.v (.bool b1)), (8, AV.row 0 0 0 0 false), (9, AV.v (.int .i64 (n.tdiv (32 : Int))))], hp := [(0, AObj.row 22 1 (.ints .u32 []) 0)], nx := 1 } (Exit.exit 2) { n := 72, fr := [(6, AV.v (.bool b1)), (8, AV.row 0 0 l1.length l1.length false)], hp := [(0, AObj.row 22 1 (.ints .u32 l1) n1)], nx := 1 }, l1.length = l1.length, n1 ≤ l1.length, l1.length ≤ lim4]) : PureTo Try.prog 31 [.sl 1 (.ints .u32 a) ta, .v (.int .i64 n)] (AV.tup [AV.sl 1 (.ints .u32 (norm l1)) false, AV.v (.bool b1)]) :=
  evFn_pure hm sok11 (fn := Try.f31) rfl rfl (ti := false) (hs := [CHint.ops 2 [(1, Hint.b false)], CHint.ops 4 [(4, Hint.b false)], CHint.loop [0, 1, 6, 7] [] 0 (Exit.exit 0) { n := 72, fr := [(0, AV.sl 1 (.ints .u32 (norm a)) false), (1, AV.v (.int .i64 n)), (6, AV.v (.bool b1))], hp := [], nx := 0 }, CHint.ops 11 [(0, Hint.nil 22)], CHint.loop [0, 1, 6, 8, 9] [0] 1 (Exit.exit 2) { n := 72, fr := [(6, AV.v (.bool b1)), (8, AV.row 0 0 l1.length l1.length false)], hp := [(0, AObj.row (22 : TypeId) 1 (.ints .u32 l1) n1)], nx := 1 }]) (c := _) (by kernel_rfl) h
end Go.Proofs.Bn

/- Bignum: contracts: IndexFunc of a word that is not 0, Shl, and what is defined of Shl and Shr. -/
set_option maxRecDepth 100000
namespace Go.Proofs.Bn
open Go Go.Ev

/-- the first word that is not 0; -1: there is none -/
def fz (a : List Int) : Int := if ∀ x, x ∈ a → x = 0 then -1 else (a.findIdx (· != 0) : Nat)

theorem fz_sign (a : List Int) : decide (fz a ≥ 0) = !decide (∀ x, x ∈ a → x = 0) := by
  unfold fz
  split
  · next h => rw [decide_eq_true h]; rfl
  · next h => rw [decide_eq_false h]; simp

theorem ixf_loop (a : List Int) (ta : Bool) (hl : a.length < lim) : ∀ f i : Nat, i + f = a.length → (∀ j, j < i → a.getD j 0 = 0) →
    ((∀ x, x ∈ a → x = 0) → LoopTo Try.prog (loopAt Try.f66 0) (ixfS0 a ta i) (.exit 0) (ixfX0 a ta)) ∧
    (¬ (∀ x, x ∈ a → x = 0) → LoopTo Try.prog (loopAt Try.f66 0) (ixfS0 a ta i) .ret (ixfX0_1 a ta (a.findIdx (· != 0) : Nat))) := by
  unfold lim at hl
  intro f
  induction f with
  | zero =>
    intro i hi hz
    refine ⟨fun _ => .done (by simp) (ixfL0_3 a ta i ⟨by simp; omega, trivial⟩), fun hn => absurd (fun x hx => ?_) hn⟩
    obtain ⟨j, hj, rfl⟩ := List.getElem_of_mem hx
    have := hz j (by omega)
    simpa [List.getD_eq_getElem?_getD, hj] using this
  | succ f ih =>
    intro i hi hz
    have hi2 : i < a.length := by omega
    have e : a.getD i 0 = a[i] := by simp [List.getD_eq_getElem?_getD, hi2]
    by_cases h0 : a.getD i 0 = 0
    · obtain ⟨g1, g2⟩ := ih (i + 1) (by omega) fun j hj => by
        rcases Nat.lt_or_ge j i with h | h
        · exact hz j h
        · have : j = i := by omega
          subst this
          exact h0
      have hs := ixfL0_2 a ta i ⟨by simp; omega, by omega, by rw [Int.toNat_natCast]; simpa using h0, inR64 (by omega) (by omega), trivial⟩
      exact ⟨fun h => .step hs (g1 h), fun h => .step hs (g2 h)⟩
    · refine ⟨fun h => absurd (h _ (List.getElem_mem hi2)) (by rw [← e]; exact h0), fun _ => ?_⟩
      have hidx : a.findIdx (· != 0) = i := by
        refine (List.findIdx_eq hi2).2 ⟨by simpa [← e] using h0, fun j hj => ?_⟩
        have := hz j hj
        simp [List.getD_eq_getElem?_getD, show j < a.length by omega] at this
        simp [this]
      rw [hidx]
      exact .done (by simp) (ixfL0_1 a ta i ⟨by simp; omega, by omega, by rw [Int.toNat_natCast]; simpa using h0, trivial⟩)

theorem ixf_pure (a : List Int) (ta : Bool) (hl : a.length < lim) : PureTo Try.prog 66 [.sl 1 (.ints .u32 a) ta, .fnv (.func 56) [] []] (.v (.int .i64 (fz a))) := by
  obtain ⟨h1, h2⟩ := ixf_loop a ta hl a.length 0 (by omega) (fun j hj => by omega)
  unfold fz
  split
  · next h => exact ixfF1 a ta 0 ⟨h1 h, trivial⟩
  · next h => exact ixfF2 a ta _ ⟨h2 h, trivial⟩

theorem over_norm {a : List Int} (ha : Words a) : over (norm a) = over a := by rw [over_big (words_norm ha), over_big ha, nat_norm]

theorem norm_nil {a : List Int} (ha : Words a) : (norm a).length = 0 ↔ nat a = 0 := by
  rw [norm_eq ha]
  constructor
  · intro h
    have := nat_dig (nat a)
    rw [List.eq_nil_of_length_eq_zero h] at this
    exact this.symm
  · intro h
    rw [h, dig_zero]
    rfl

set_option exponentiation.threshold 100000 in
theorem dig_shl_len {m : Nat} {n : Int} (hm : m < 4294967296 ^ 1024) (hn : n ≤ 32768) : (dig (m * 2 ^ n.toNat)).length ≤ 2048 := by
  have h : ¬ 2048 < (dig (m * 2 ^ n.toNat)).length := by
    rw [dig_len]
    have h1 : (2 : Nat) ^ n.toNat ≤ 2 ^ 32768 := Nat.pow_le_pow_right (by omega) (by omega)
    have h2 : (2 : Nat) ^ 32768 = 4294967296 ^ 1024 := by rw [show (4294967296 : Nat) = 2 ^ 32 from rfl, ← Nat.pow_mul]
    have h3 : (4294967296 : Nat) ^ 2048 = 4294967296 ^ 1024 * 4294967296 ^ 1024 := by rw [← Nat.pow_add]
    rw [h2] at h1
    have h4 : m * 2 ^ n.toNat < 4294967296 ^ 1024 * 4294967296 ^ 1024 := by
      refine Nat.lt_of_le_of_lt (Nat.mul_le_mul_left m h1) ?_
      exact Nat.mul_lt_mul_of_pos_right hm (Nat.pow_pos (by omega))
    rw [h3]
    exact Nat.not_le.2 h4
  omega

theorem lt_of_over {a : List Int} (ha : Words a) (h : over a = false) : nat a < 4294967296 ^ 1024 := by
  have h3 : ¬ 1024 < (norm a).length := by have := small_of_over h; omega
  rw [norm_len ha] at h3
  exact Nat.not_le.1 h3

theorem told_dig (m : Nat) : toldL (dig m) = (if big m then [] else dig m) ∧ toldE (dig m) = (if big m then 3 else 0) := by
  unfold toldL toldE
  rw [over_big (words_dig m), norm_eq (words_dig m), nat_dig]
  exact ⟨rfl, rfl⟩

theorem pshl_pure (a : List Int) (ta : Bool) (n : Int) (ha : Words a) (hl : a.length < lim) : PureTo Try.prog 28 [.sl 1 (.ints .u32 a) ta, .v (.int .i64 n)] (.tup [.sl 1 (.ints .u32 (ShlN (nat a) n).1) false, .v (.int .i64 (ShlN (nat a) n).2)]) := by
  have hle := norm_length_le a
  have hl2 : (norm a).length < lim := by omega
  have ho := over_norm ha
  have hz := norm_nil ha
  unfold ShlN
  rw [← over_big ha]
  cases h0 : over a with
  | true => exact pshlF1 a ta n ⟨hl, by rw [ho]; exact h0, hl2, trivial⟩
  | false =>
    have hov : over (norm a) = false := by rw [ho]; exact h0
    by_cases h1 : n < 0
    · simp only [Bool.false_eq_true, if_false, if_pos h1]
      exact pshlF2 a ta n ⟨hl, hov, hl2, by simpa using h1, trivial⟩
    · by_cases h2 : nat a = 0
      · simp only [Bool.false_eq_true, if_false, if_neg h1, if_pos h2]
        exact pshlF3 a ta n ⟨hl, hov, hl2, by simpa using h1, by simpa using hz.2 h2, trivial⟩
      · have h2' : ¬ (norm a).length = 0 := fun e => h2 (hz.1 e)
        by_cases h3 : 32768 < n
        · simp only [Bool.false_eq_true, if_false, if_neg h1, if_neg h2, if_pos h3]
          exact pshlF4 a ta n ⟨hl, hov, hl2, by simpa using h1, by simpa using h2', by simpa using h3, trivial⟩
        · simp only [Bool.false_eq_true, if_false, if_neg h1, if_neg h2, if_neg h3]
          have hsm := small_of_over h0
          have hd := dig_shl_len (lt_of_over ha h0) (show n ≤ 32768 by omega)
          have h := pshlF5 a ta n ⟨hl, hov, hl2, by simpa using h1, by simpa using h2', by simpa using h3, words_norm ha, by omega, by omega, by rw [nat_norm]; unfold lim; omega, trivial⟩
          rw [nat_norm, (told_dig _).1, (told_dig _).2] at h
          cases hb : big (nat a * 2 ^ n.toNat) <;> (rw [hb] at h; exact h)

theorem rshl_pure (a : List Int) (ta : Bool) (n : Int) (ha : Words a) (hl : a.length ≤ lim4) : PureTo Try.prog 29 [.sl 1 (.ints .u32 a) ta, .v (.int .i64 n)] (.tup [.sl 1 (.ints .u32 (ShlN (nat a) n).1) false, .v (.int .i64 (ShlN (nat a) n).2)]) := by
  have hle := norm_length_le a
  unfold ShlN
  rw [← over_big ha]
  cases h0 : over a with
  | true => exact rshlF1 a ta n ⟨h0, hl, trivial⟩
  | false =>
    by_cases h1 : n < 0
    · simp only [Bool.false_eq_true, if_false, if_pos h1]
      exact rshlF2 a ta n ⟨h0, hl, by simpa using h1, trivial⟩
    · by_cases h2 : nat a = 0
      · simp only [Bool.false_eq_true, if_false, if_neg h1, if_pos h2]
        exact rshlF3 a ta n ⟨h0, hl, by simpa using h1, ha, hl, by simpa using bl_zero.2 h2, trivial⟩
      · have h2' : ¬ bl (nat a) = 0 := fun e => h2 (bl_zero.1 e)
        by_cases h3 : 32768 < n
        · simp only [Bool.false_eq_true, if_false, if_neg h1, if_neg h2, if_pos h3]
          exact rshlF4 a ta n ⟨h0, hl, by simpa using h1, ha, hl, by simpa using h2', by simpa using h3, trivial⟩
        · simp only [Bool.false_eq_true, if_false, if_neg h1, if_neg h2, if_neg h3]
          have hsm := small_of_over h0
          have hd := dig_shl_len (lt_of_over ha h0) (show n ≤ 32768 by omega)
          have h := rshlF5 a ta n ⟨h0, hl, by simpa using h1, ha, hl, by simpa using h2', by simpa using h3, hl, words_norm ha, by omega, by omega, words_dig _, by rw [nat_norm]; unfold lim4; omega, trivial⟩
          rw [nat_norm, nat_dig] at h
          cases hb : big (nat a * 2 ^ n.toNat) <;> (rw [hb] at h; exact h)

/-! ### ref.Shr -/

theorem rshr_bits (a : List Int) (ta : Bool) (n : Int) (L : List Int) (hL : norm a = L) (hw : Words L) (h0 : 0 ≤ n) (hlt : n < 32 * (L.length : Int)) (hlen : L.length ≤ 35184372088832) : ∀ f i : Nat, (i : Int) + f = n →
    LoopTo Try.prog (loopAt Try.f31 0) (rshrS0 a ta n i (decide (nat L % 2 ^ i ≠ 0))) (.exit 0) (rshrX0 a ta n (decide (nat L % 2 ^ n.toNat ≠ 0))) := by
  intro f
  induction f with
  | zero =>
    intro i hi
    have e : n.toNat = i := by omega
    rw [e]
    exact .done (by simp) (rshrL0_4 a ta n i _ ⟨by simp; omega, trivial⟩)
  | succ f ih =>
    intro i hi
    have ih := ih (i + 1) (by omega)
    have hb := mod_bit (nat L) i
    by_cases hz : nat L % 2 ^ i = 0
    · have hi2 : i < 32 * L.length := by omega
      have hx := words_getD hw (i / 32)
      have hbit := word_bit hw i hi2
      have e1 : (i : Int).tdiv 32 = ((i / 32 : Nat) : Int) := by rw [Int.tdiv_eq_ediv_of_nonneg (by omega)]; omega
      have e2 : (i : Int).tmod 32 % 18446744073709551616 = ((i % 32 : Nat) : Int) := by rw [Int.tmod_eq_emod_of_nonneg (by omega)]; omega
      have e3 : (2 : Int) ^ min ((i : Int).tmod 32 % 18446744073709551616).toNat 32 = ((2 ^ (i % 32) : Nat) : Int) := by
        rw [e2, Int.toNat_natCast, Nat.min_eq_left (by omega), two_pow]
      have e4 : bitsOf .and .u32 (L.getD (i / 32) 0 / ((2 ^ (i % 32) : Nat) : Int)) 1 = (((L.getD (i / 32) 0).toNat / 2 ^ (i % 32) % 2 : Nat) : Int) := by
        have hq : L.getD (i / 32) 0 / ((2 ^ (i % 32) : Nat) : Int) = (((L.getD (i / 32) 0).toNat / 2 ^ (i % 32) : Nat) : Int) := by
          rw [Int.natCast_ediv]
          congr 1
          omega
        rw [hq]
        have hle2 := Nat.div_le_self (L.getD (i / 32) 0).toNat (2 ^ (i % 32))
        have := and_low (k := .u32) (s := 1) (x := (((L.getD (i / 32) 0).toNat / 2 ^ (i % 32) : Nat) : Int)) rfl (Int.natCast_nonneg _) (by show _ < (2 : Int) ^ 32; omega) (by decide)
        rw [Int.natCast_emod]
        exact this
      have hfalse : decide (nat L % 2 ^ i ≠ 0) = false := by simp [hz]
      cases hbv : decide (nat L / 2 ^ i % 2 = 1) with
      | true =>
        have hbv' : nat L / 2 ^ i % 2 = 1 := by simpa using hbv
        have hne : decide (nat L % 2 ^ (i + 1) ≠ 0) = true := by
          simp only [ne_eq, decide_not, hb, hz, true_and]
          simp [hbv']
        have h1 := rshrL0_2 a ta n i (decide (nat L % 2 ^ i ≠ 0)) (by
          rw [hL, e1, e3, Int.toNat_natCast, e4, ← hbit, hbv', e2]
          exact ⟨by simp; omega, hfalse, by omega, inR64 (by omega) (by omega), by omega, by omega, by omega, by simp, inR64 (by omega) (by omega), trivial⟩)
        rw [hne] at ih
        exact .step h1 ih
      | false =>
        have hbv' : nat L / 2 ^ i % 2 = 0 := by
          have : ¬ nat L / 2 ^ i % 2 = 1 := by simpa using hbv
          omega
        have hne : decide (nat L % 2 ^ (i + 1) ≠ 0) = false := by
          simp only [ne_eq, decide_not, hb, hz, true_and]
          simp [hbv']
        have h1 := rshrL0_3 a ta n i (decide (nat L % 2 ^ i ≠ 0)) (by
          rw [hL, e1, e3, Int.toNat_natCast, e4, ← hbit, hbv', e2]
          exact ⟨by simp; omega, hfalse, by omega, inR64 (by omega) (by omega), by omega, by omega, by omega, by simp, inR64 (by omega) (by omega), trivial⟩)
        rw [hne] at ih
        exact .step h1 ih
    · have htrue : decide (nat L % 2 ^ i ≠ 0) = true := by simp [hz]
      have hne : decide (nat L % 2 ^ (i + 1) ≠ 0) = true := by
        simp only [ne_eq, decide_not, hb]
        simp [hz]
      have h1 := rshrL0_1 a ta n i (decide (nat L % 2 ^ i ≠ 0)) ⟨by simp; omega, htrue, inR64 (by omega) (by omega), trivial⟩
      rw [hne] at ih
      exact .step h1 ih

theorem shW_int {x y : Int} {s : Nat} (hs : s < 32) (hx : 0 ≤ x ∧ x < 4294967296) (hy : 0 ≤ y ∧ y < 4294967296) : bitsOf .or .u64 x (y * 4294967296) / ((2 ^ s : Nat) : Int) % 4294967296 = (shW x.toNat y.toNat s : Int) ∧ bitsOf .or .u64 (y * 4294967296) x / ((2 ^ s : Nat) : Int) % 4294967296 = (shW x.toNat y.toNat s : Int) := by
  obtain ⟨a, b⟩ := or_add (k := .u64) (s := 32) (x := x) (y := y * 4294967296) rfl hx.1 (by simp; omega) (by omega) (by show _ < (2 : Int) ^ 64; omega) (by simp) (by decide)
  have e : x + y * 4294967296 = ((y.toNat * 4294967296 + x.toNat : Nat) : Int) := by omega
  rw [a, b, e, ← Int.natCast_ediv]
  unfold shW
  constructor <;> omega

theorem rshr_words (a : List Int) (ta : Bool) (n : Int) (L : List Int) (hL : norm a = L) (hw : Words L) (w s : Nat) (C : Cnt n w s) (b : Bool) (hlen : L.length ≤ 35184372088832) : ∀ (f i : Nat) (l : List Int), w + i + f = L.length → l = (shrW (L.drop w) s).take i →
    LoopTo Try.prog (loopAt Try.f31 1) (rshrS1 a ta n ((w + i : Nat) : Int) b l 0) (.exit 2) (rshrX1 a ta n b (shrW (L.drop w) s) 0) := by
  have hs := C.rlt
  intro f
  induction f with
  | zero =>
    intro i l hi hl
    have e : l = shrW (L.drop w) s := by rw [hl, List.take_of_length_le (by rw [shrW_length, List.length_drop]; omega)]
    rw [e]
    exact .done (by simp) (rshrL1_2 a ta n _ b _ 0 ⟨by rw [hL]; simp; omega, trivial⟩)
  | succ f ih =>
    intro i l hi hl
    have hx := wd_bound hw ((w + i : Nat) : Int)
    have hy := wd_bound hw (((w + i : Nat) : Int) + 1)
    have e2 : n.tmod 32 % 18446744073709551616 = (s : Int) := by rw [C.er]; omega
    have e3 : (2 : Int) ^ min (n.tmod 32 % 18446744073709551616).toNat 64 = ((2 ^ s : Nat) : Int) := by rw [e2, Int.toNat_natCast, Nat.min_eq_left (by omega), two_pow]
    have e4 := (shW_int hs hx hy).1
    have hlenl : l.length = i := by rw [hl, List.length_take, shrW_length, List.length_drop]; omega
    have hg : (shrW (L.drop w) s).getD i 0 = (shW (wd L ((w + i : Nat) : Int)).toNat (wd L (((w + i : Nat) : Int) + 1)).toNat s : Int) := by
      rw [shrW_get _ _ _ (by rw [List.length_drop]; omega)]
      have h1 : (L.drop w).getD i 0 = wd L ((w + i : Nat) : Int) := by rw [wd_nat, List.getD_eq_getElem?_getD, List.getElem?_drop, ← List.getD_eq_getElem?_getD]
      have h2 : (L.drop w).getD (i + 1) 0 = wd L (((w + i : Nat) : Int) + 1) := by
        rw [show ((w + i : Nat) : Int) + 1 = ((w + (i + 1) : Nat) : Int) by omega, wd_nat, List.getD_eq_getElem?_getD, List.getElem?_drop, ← List.getD_eq_getElem?_getD]
      rw [h1, h2]
    have hi2 : i < (shrW (L.drop w) s).length := by rw [shrW_length, List.length_drop]; omega
    have hnext : l ++ [(shW (wd L ((w + i : Nat) : Int)).toNat (wd L (((w + i : Nat) : Int) + 1)).toNat s : Int)] = (shrW (L.drop w) s).take (i + 1) := by
      rw [List.take_succ_eq_append_getElem hi2, hl, ← hg]
      congr 2
      simp [List.getD_eq_getElem?_getD, hi2]
    have h1 := rshrL1_1 a ta n ((w + i : Nat) : Int) b l 0 (by
      rw [hL, e3, e4, e2]
      refine ⟨by simp; omega, hw, by omega, inR64 (by omega) (by omega), hw, by omega, by omega, inRu64 (by omega) (by omega), by omega, by omega, rfl, rfl, by simp; omega, inR64 (by omega) (by omega), trivial⟩)
    rw [hL, e3, e4, hnext] at h1
    have ih := ih (i + 1) _ (by omega) rfl
    have e5 : ((w + i : Nat) : Int) + 1 = ((w + (i + 1) : Nat) : Int) := by omega
    rw [e5] at h1
    unfold rshrS1
    unfold rshrS1 at ih
    rw [hL] at ih ⊢
    exact .step h1 ih

theorem rshr_pure (a : List Int) (ta : Bool) (n : Int) (ha : Words a) (hl4 : a.length ≤ lim4) : PureTo Try.prog 31 [.sl 1 (.ints .u32 a) ta, .v (.int .i64 n)] (.tup [.sl 1 (.ints .u32 (ShrN (nat a) n).1) false, .v (.bool (ShrN (nat a) n).2)]) := by
  have hle := norm_length_le a
  have hl := hl4
  unfold lim4 at hl
  have hw := words_norm ha
  have hz := norm_nil ha
  have hN := nat_lt hw
  rw [nat_norm] at hN
  unfold ShrN
  by_cases h0 : n ≤ 0
  · have e : (if n < 0 then ((dig (nat a), false) : List Int × Bool) else (dig (nat a / 2 ^ n.toNat), decide (nat a % 2 ^ n.toNat ≠ 0))) = (norm a, false) := by
      split
      · rw [norm_eq ha]
      · have : n.toNat = 0 := by omega
        rw [this, Nat.pow_zero, Nat.div_one, Nat.mod_one, norm_eq ha]
        rfl
    rw [e]
    exact rshrF1 a ta n false [] 0 ⟨hl4, by simpa using h0, trivial⟩
  · rw [if_neg (by omega)]
    have hi : inR .i64 (32 * ((norm a).length : Int)) := inR64 (by omega) (by omega)
    by_cases h1 : n ≥ 32 * ((norm a).length : Int)
    · have hb : nat a < 2 ^ n.toNat := by
        refine Nat.lt_of_lt_of_le hN ?_
        rw [show (4294967296 : Nat) = 2 ^ 32 from rfl, ← Nat.pow_mul]
        exact Nat.pow_le_pow_right (by omega) (by omega)
      rw [Nat.div_eq_of_lt hb, Nat.mod_eq_of_lt hb, dig_zero]
      by_cases h2 : (norm a).length = 0
      · have : nat a = 0 := hz.1 h2
        have e : decide (nat a ≠ 0) = false := by simp [this]
        simp only [e]
        exact rshrF3 a ta n false [] 0 ⟨hl4, by simpa using h0, hi, by simpa using h1, by simp [h2], trivial⟩
      · have : nat a ≠ 0 := fun e => h2 (hz.2 e)
        have e : decide (nat a ≠ 0) = true := by simp [this]
        simp only [e]
        exact rshrF2 a ta n false [] 0 ⟨hl4, by simpa using h0, hi, by simpa using h1, by simp; omega, trivial⟩
    · have C := cnt (show 0 ≤ n by omega)
      have hbits := rshr_bits a ta n (norm a) rfl hw (by omega) (by omega) (by omega) n.toNat 0 (by omega)
      rw [Nat.pow_zero, Nat.mod_one] at hbits
      have hwords := rshr_words a ta n (norm a) rfl hw _ _ C (decide (nat (norm a) % 2 ^ n.toNat ≠ 0)) (by omega) ((norm a).length - n.toNat / 32) 0 [] (by omega) (by simp)
      have hq := shr_quot hw n.toNat (by omega)
      rw [nat_norm] at hq
      have hwl := shrW_words ((norm a).drop (n.toNat / 32)) (n.toNat % 32)
      have hll := shrW_length ((norm a).drop (n.toNat / 32)) (n.toNat % 32)
      rw [List.length_drop] at hll
      have h := rshrF4 a ta n (decide (nat (norm a) % 2 ^ n.toNat ≠ 0)) (shrW ((norm a).drop (n.toNat / 32)) (n.toNat % 32)) 0 ⟨hl4, by simpa using h0, hi, by simpa using h1, hbits, by omega, by rw [C.ew]; exact inR64 (by omega) (by omega), by
        rw [C.ew]
        exact hwords, rfl, by omega, by unfold lim4; omega, trivial⟩
      rw [norm_eq hwl, hq, nat_norm] at h
      exact h

end Go.Proofs.Bn

/- Bignum: contracts of Shl and the defined Shr, for walks. -/
set_option maxRecDepth 100000
namespace Go.Proofs.Bn
open Go Go.Ev

def sigIxf : List AV → Option (AV × List Prop)
  | [.sl 1 (.ints .u32 a) _, .fnv (.func 56) [] []] => some (.v (.int .i64 (fz a)), [a.length < lim])
  | _ => none
def sigShlN : List AV → Option (AV × List Prop)
  | [.sl 1 (.ints .u32 a) _, .v (.int .i64 n)] => some (.tup [.sl 1 (.ints .u32 (ShlN (nat a) n).1) false, .v (.int .i64 (ShlN (nat a) n).2)], [Words a, a.length ≤ lim4])
  | _ => none
def sigShrN : List AV → Option (AV × List Prop)
  | [.sl 1 (.ints .u32 a) _, .v (.int .i64 n)] => some (.tup [.sl 1 (.ints .u32 (ShrN (nat a) n).1) false, .v (.bool (ShrN (nat a) n).2)], [Words a, a.length ≤ lim4])
  | _ => none

def SG12 : SGT := (66, .p sigIxf) :: (28, .p sigShlN) :: (29, .p sigShlN) :: (31, .p sigShrN) :: SG11

theorem sok12 : SigsOK Try.prog SG12 := by
  refine sigs_cons (sigs_cons (sigs_cons (sigs_cons sok11 ?_) ?_) ?_) ?_
  · intro ys r c h hc
    unfold sigShrN at h
    split at h
    · cases h; exact rshr_pure _ _ _ hc.1 hc.2.1
    · cases h
  · intro ys r c h hc
    unfold sigShlN at h
    split at h
    · cases h; exact rshl_pure _ _ _ hc.1 hc.2.1
    · cases h
  · intro ys r c h hc
    unfold sigShlN at h
    split at h
    · cases h; exact pshl_pure _ _ _ hc.1 (lim4_lt hc.2.1)
    · cases h
  · intro ys r c h hc
    unfold sigIxf at h
    split at h
    · cases h; exact ixf_pure _ _ hc.1
    · cases h

end Go.Proofs.Bn

/- Bignum: walks, written by the tool. -/
set_option maxRecDepth 100000
namespace Go.Proofs.Bn
open Go Go.Ev

-- 1 paths
theorem conF1 (a : List Int) (ta : Bool) (h : AllP [a.length < lim]) : PureTo Try.prog 55 [.sl 1 (.ints .u32 a) ta, .fnv (.func 56) [] []] (AV.v (.bool (decide (fz a ≥ (0 : Int))))) :=
  evFn_pure hm sok12 (fn := Try.f55) rfl rfl (ti := false) (hs := []) (c := _) (by kernel_rfl) h
theorem con_pure (a : List Int) (ta : Bool) (h : a.length < lim) : PureTo Try.prog 55 [.sl 1 (.ints .u32 a) ta, .fnv (.func 56) [] []] (.v (.bool (!decide (∀ x, x ∈ a → x = 0)))) := by
  rw [← fz_sign]
  exact conF1 a ta ⟨h, trivial⟩
def sigCon : List AV → Option (AV × List Prop)
  | [.sl 1 (.ints .u32 a) _, .fnv (.func 56) [] []] => some (.v (.bool (!decide (∀ x, x ∈ a → x = 0))), [a.length < lim])
  | _ => none
def SG13 : SGT := (55, .p sigCon) :: SG12
theorem sok13 : SigsOK Try.prog SG13 := by
  refine sigs_cons sok12 ?_
  intro ys r c h hc
  unfold sigCon at h
  split at h
  · cases h; exact con_pure _ _ hc.1
  · cases h
end Go.Proofs.Bn

/- Bignum: walks, written by the tool. -/
set_option maxRecDepth 100000
namespace Go.Proofs.Bn
open Go Go.Ev
def pshrS0 (a : List Int) (ta : Bool) (n : Int) (bb : Bool) (x0 : Int) (l0 : List Int) (n0 : Nat) (n1 : Nat) : AS := { n := 78, fr := [(0, AV.sl 1 (.ints .u32 (norm a)) true), (6, AV.v (.int .i64 (if (↑(norm a).length : Int) < n.tdiv (32 : Int) then (↑(norm a).length : Int) else n.tdiv (32 : Int)))), (7, AV.v (.bool bb)), (8, AV.v (.int .i64 (n.tmod (32 : Int)))), (9, AV.row 42 0 n1 n1 false), (51, AV.v (.int .i64 (↑((↑(norm a).length : Int) - if (↑(norm a).length : Int) < n.tdiv (32 : Int) then (↑(norm a).length : Int) else n.tdiv (32 : Int)).toNat : Int))), (52, AV.v (.int .i64 x0))], hp := [(42, AObj.row 22 1 (.ints .u32 l0) n0)], nx := 43 }
def pshrX0 (a : List Int) (ta : Bool) (n : Int) (bb : Bool) (l1 : List Int) (n2 : Nat) (n3 : Nat) : AS := { n := 78, fr := [(7, AV.v (.bool bb)), (9, AV.row 42 0 n3 n3 false)], hp := [(42, AObj.row 22 1 (.ints .u32 l1) n2)], nx := 43 }
def halvedS0 (a b : List Int) (ta tb : Bool) (x0 : Int) (l0 : List Int) (l1 : List Int) (n0 : Nat) (n1 : Nat) (t0 : Bool) : AS := { n := 60, fr := [(0, AV.sl 1 (.ints .u32 a) ta), (1, AV.sl 1 (.ints .u32 b) tb), (6, AV.row 4 0 n1 n1 false), (7, AV.sl 1 (.ints .u32 l0) t0), (8, AV.v (.int .i64 x0))], hp := [(4, AObj.row 22 1 (.ints .u32 l1) n0)], nx := 5 }
def halvedX0 (a b : List Int) (ta tb : Bool) (l2 : List Int) (l3 : List Int) (n2 : Nat) (n3 : Nat) (t1 : Bool) : AS := { n := 60, fr := [(6, AV.row 4 0 n3 n3 false), (7, AV.sl 1 (.ints .u32 l2) t1)], hp := [(4, AObj.row 22 1 (.ints .u32 l3) n2)], nx := 5 }
-- 2 paths
theorem pshrL0_1 (a : List Int) (ta : Bool) (n : Int) (bb : Bool) (x0 : Int) (l0 : List Int) (n0 : Nat) (n1 : Nat) (h : AllP [decide (x0 < (↑((↑(norm a).length : Int) - if (↑(norm a).length : Int) < n.tdiv (32 : Int) then (↑(norm a).length : Int) else n.tdiv (32 : Int)).toNat : Int)) = true, inR IntKind.i64 ((if (↑(norm a).length : Int) < n.tdiv (32 : Int) then (↑(norm a).length : Int) else n.tdiv (32 : Int)) + x0), inR IntKind.i64 ((if (↑(norm a).length : Int) < n.tdiv (32 : Int) then (↑(norm a).length : Int) else n.tdiv (32 : Int)) + x0 + (1 : Int)), Words (norm a), (0 : Int) ≤ (32 : Int), inR IntKind.u64 (wd (norm a) ((if (↑(norm a).length : Int) < n.tdiv (32 : Int) then (↑(norm a).length : Int) else n.tdiv (32 : Int)) + x0 + (1 : Int)) * (4294967296 : Int)), inR IntKind.i64 ((if (↑(norm a).length : Int) < n.tdiv (32 : Int) then (↑(norm a).length : Int) else n.tdiv (32 : Int)) + x0), Words (norm a), (0 : Int) ≤ n.tmod (32 : Int), (0 : Int) ≤ x0 ∧ x0 < (↑n1 : Int), n1 = l0.length, inR IntKind.i64 (x0 + (1 : Int))]) : To Try.prog (loopAt Try.f30 0) ({ n := 78, fr := [(0, AV.sl 1 (.ints .u32 (norm a)) true), (6, AV.v (.int .i64 (if (↑(norm a).length : Int) < n.tdiv (32 : Int) then (↑(norm a).length : Int) else n.tdiv (32 : Int)))), (7, AV.v (.bool bb)), (8, AV.v (.int .i64 (n.tmod (32 : Int)))), (9, AV.row 42 0 n1 n1 false), (51, AV.v (.int .i64 (↑((↑(norm a).length : Int) - if (↑(norm a).length : Int) < n.tdiv (32 : Int) then (↑(norm a).length : Int) else n.tdiv (32 : Int)).toNat : Int))), (52, AV.v (.int .i64 x0))], hp := [(42, AObj.row 22 1 (.ints .u32 l0) n0)], nx := 43 }) (.normal) { n := 78, fr := [(0, AV.sl 1 (.ints .u32 (norm a)) true), (6, AV.v (.int .i64 (if (↑(norm a).length : Int) < n.tdiv (32 : Int) then (↑(norm a).length : Int) else n.tdiv (32 : Int)))), (7, AV.v (.bool bb)), (8, AV.v (.int .i64 (n.tmod (32 : Int)))), (9, AV.row 42 0 n1 n1 false), (51, AV.v (.int .i64 (↑((↑(norm a).length : Int) - if (↑(norm a).length : Int) < n.tdiv (32 : Int) then (↑(norm a).length : Int) else n.tdiv (32 : Int)).toNat : Int))), (52, AV.v (.int .i64 (x0 + (1 : Int))))], hp := [(42, AObj.row 22 1 (.ints .u32 (l0.set (ixPlus 0 x0.toNat) (bitsOf BinOp.or IntKind.u64 (wd (norm a) ((if (↑(norm a).length : Int) < n.tdiv (32 : Int) then (↑(norm a).length : Int) else n.tdiv (32 : Int)) + x0 + (1 : Int)) * (4294967296 : Int)) (wd (norm a) ((if (↑(norm a).length : Int) < n.tdiv (32 : Int) then (↑(norm a).length : Int) else n.tdiv (32 : Int)) + x0)) / (2 : Int) ^ min (n.tmod (32 : Int)).toNat 64 % (4294967296 : Int)))) l0.length)], nx := 43 } :=
  evW_to hm sok13 (hs := [CHint.ops 12 [(0, Hint.b true)]]) (slots := [0, 6, 7, 8, 9, 51, 52]) (keys := [42]) (nx := 43) (c := _) (by kernel_rfl) h
theorem pshrL0_2 (a : List Int) (ta : Bool) (n : Int) (bb : Bool) (x0 : Int) (l0 : List Int) (n0 : Nat) (n1 : Nat) (h : AllP [decide (x0 < (↑((↑(norm a).length : Int) - if (↑(norm a).length : Int) < n.tdiv (32 : Int) then (↑(norm a).length : Int) else n.tdiv (32 : Int)).toNat : Int)) = false]) : To Try.prog (loopAt Try.f30 0) ({ n := 78, fr := [(0, AV.sl 1 (.ints .u32 (norm a)) true), (6, AV.v (.int .i64 (if (↑(norm a).length : Int) < n.tdiv (32 : Int) then (↑(norm a).length : Int) else n.tdiv (32 : Int)))), (7, AV.v (.bool bb)), (8, AV.v (.int .i64 (n.tmod (32 : Int)))), (9, AV.row 42 0 n1 n1 false), (51, AV.v (.int .i64 (↑((↑(norm a).length : Int) - if (↑(norm a).length : Int) < n.tdiv (32 : Int) then (↑(norm a).length : Int) else n.tdiv (32 : Int)).toNat : Int))), (52, AV.v (.int .i64 x0))], hp := [(42, AObj.row 22 1 (.ints .u32 l0) n0)], nx := 43 }) (Exit.exit 0) { n := 78, fr := [(7, AV.v (.bool bb)), (9, AV.row 42 0 n1 n1 false)], hp := [(42, AObj.row 22 1 (.ints .u32 l0) n0)], nx := 43 } :=
  evW_to hm sok13 (hs := [CHint.ops 12 [(0, Hint.b false)]]) (slots := [7, 9]) (keys := [42]) (nx := 43) (c := _) (by kernel_rfl) h
-- 6 paths
theorem pshrF1 (a : List Int) (ta : Bool) (n : Int) (bb : Bool) (l1 : List Int) (n2 : Nat) (n3 : Nat) (h : AllP [a.length < lim, decide (n < (0 : Int)) = true, (norm a).length ≤ lim4]) : PureTo Try.prog 30 [.sl 1 (.ints .u32 a) ta, .v (.int .i64 n)] (AV.tup [AV.sl 1 (.ints .u32 (norm a)) false, AV.v (.bool false)]) :=
  evFn_pure hm sok13 (fn := Try.f30) rfl rfl (ti := false) (hs := [CHint.ops 2 [(1, Hint.b true)]]) (c := _) (by kernel_rfl) h
theorem pshrF2 (a : List Int) (ta : Bool) (n : Int) (bb : Bool) (l1 : List Int) (n2 : Nat) (n3 : Nat) (h : AllP [a.length < lim, decide (n < (0 : Int)) = false, (32 : Int) ≠ (0 : Int), inR IntKind.i64 (n.tdiv (32 : Int)), ((0 : Int) ≤ if (↑(norm a).length : Int) < n.tdiv (32 : Int) then (↑(norm a).length : Int) else n.tdiv (32 : Int)) ∧ (if (↑(norm a).length : Int) < n.tdiv (32 : Int) then (↑(norm a).length : Int) else n.tdiv (32 : Int)) ≤ (↑(norm a).length : Int), (!decide (∀ (x : Int), x ∈ List.take (if (↑(norm a).length : Int) < n.tdiv (32 : Int) then (↑(norm a).length : Int) else n.tdiv (32 : Int)).toNat (norm a) → x = (0 : Int))) = true, (List.take (if (↑(norm a).length : Int) < n.tdiv (32 : Int) then (↑(norm a).length : Int) else n.tdiv (32 : Int)).toNat (norm a)).length < lim, ((if (↑(norm a).length : Int) < n.tdiv (32 : Int) then (↑(norm a).length : Int) else n.tdiv (32 : Int)) == (↑(norm a).length : Int)) = true]) : PureTo Try.prog 30 [.sl 1 (.ints .u32 a) ta, .v (.int .i64 n)] (AV.tup [AV.sl 1 (.ints .u32 []) false, AV.v (.bool true)]) :=
  evFn_pure hm sok13 (fn := Try.f30) rfl rfl (ti := false) (hs := [CHint.ops 2 [(1, Hint.b false)], CHint.ops 5 [(3, Hint.b true)], CHint.ops 6 [(3, Hint.b true)]]) (c := _) (by kernel_rfl) h
theorem pshrF3 (a : List Int) (ta : Bool) (n : Int) (bb : Bool) (l1 : List Int) (n2 : Nat) (n3 : Nat) (h : AllP [a.length < lim, decide (n < (0 : Int)) = false, (32 : Int) ≠ (0 : Int), inR IntKind.i64 (n.tdiv (32 : Int)), ((0 : Int) ≤ if (↑(norm a).length : Int) < n.tdiv (32 : Int) then (↑(norm a).length : Int) else n.tdiv (32 : Int)) ∧ (if (↑(norm a).length : Int) < n.tdiv (32 : Int) then (↑(norm a).length : Int) else n.tdiv (32 : Int)) ≤ (↑(norm a).length : Int), (!decide (∀ (x : Int), x ∈ List.take (if (↑(norm a).length : Int) < n.tdiv (32 : Int) then (↑(norm a).length : Int) else n.tdiv (32 : Int)).toNat (norm a) → x = (0 : Int))) = true, (List.take (if (↑(norm a).length : Int) < n.tdiv (32 : Int) then (↑(norm a).length : Int) else n.tdiv (32 : Int)).toNat (norm a)).length < lim, ((if (↑(norm a).length : Int) < n.tdiv (32 : Int) then (↑(norm a).length : Int) else n.tdiv (32 : Int)) == (↑(norm a).length : Int)) = false, (32 : Int) ≠ (0 : Int), inR IntKind.i64 ((↑(norm a).length : Int) - if (↑(norm a).length : Int) < n.tdiv (32 : Int) then (↑(norm a).length : Int) else n.tdiv (32 : Int)), ((0 : Int) ≤ (↑(norm a).length : Int) - if (↑(norm a).length : Int) < n.tdiv (32 : Int) then (↑(norm a).length : Int) else n.tdiv (32 : Int)) ∧ ((↑(norm a).length : Int) - if (↑(norm a).length : Int) < n.tdiv (32 : Int) then (↑(norm a).length : Int) else n.tdiv (32 : Int)) ≤ (↑(norm a).length : Int) - if (↑(norm a).length : Int) < n.tdiv (32 : Int) then (↑(norm a).length : Int) else n.tdiv (32 : Int), ((↑(norm a).length : Int) - if (↑(norm a).length : Int) < n.tdiv (32 : Int) then (↑(norm a).length : Int) else n.tdiv (32 : Int)) * (4 : Int) ≤ (281474976710656 : Int) ∧ ((↑(norm a).length : Int) - if (↑(norm a).length : Int) < n.tdiv (32 : Int) then (↑(norm a).length : Int) else n.tdiv (32 : Int)) ≤ (9223372036854775807 : Int), LoopTo Try.prog (loopAt Try.f30 0) { n := 78, fr := [(0, AV.sl 1 (.ints .u32 (norm a)) true), (6, AV.v (.int .i64 (if (↑(norm a).length : Int) < n.tdiv (32 : Int) then (↑(norm a).length : Int) else n.tdiv (32 : Int)))), (7, AV.v (.bool true)), (8, AV.v (.int .i64 (n.tmod (32 : Int)))), (9, AV.row 42 0 ((↑(norm a).length : Int) - if (↑(norm a).length : Int) < n.tdiv (32 : Int) then (↑(norm a).length : Int) else n.tdiv (32 : Int)).toNat ((↑(norm a).length : Int) - if (↑(norm a).length : Int) < n.tdiv (32 : Int) then (↑(norm a).length : Int) else n.tdiv (32 : Int)).toNat false), (51, AV.v (.int .i64 (↑((↑(norm a).length : Int) - if (↑(norm a).length : Int) < n.tdiv (32 : Int) then (↑(norm a).length : Int) else n.tdiv (32 : Int)).toNat : Int))), (52, AV.v (.int .i64 (0 : Int)))], hp := [(42, AObj.row 22 1 (.ints .u32 (List.replicate ((↑(norm a).length : Int) - if (↑(norm a).length : Int) < n.tdiv (32 : Int) then (↑(norm a).length : Int) else n.tdiv (32 : Int)).toNat (0 : Int))) 0)], nx := 43 } (Exit.exit 0) { n := 78, fr := [(7, AV.v (.bool bb)), (9, AV.row 42 0 n3 n3 false)], hp := [(42, AObj.row 22 1 (.ints .u32 l1) n2)], nx := 43 }, n3 = l1.length, n2 ≤ n3, l1.length < lim]) : PureTo Try.prog 30 [.sl 1 (.ints .u32 a) ta, .v (.int .i64 n)] (AV.tup [AV.sl 1 (.ints .u32 (norm l1)) false, AV.v (.bool bb)]) :=
  evFn_pure hm sok13 (fn := Try.f30) rfl rfl (ti := false) (hs := [CHint.ops 2 [(1, Hint.b false)], CHint.ops 5 [(3, Hint.b true)], CHint.ops 6 [(3, Hint.b false)], CHint.ops 9 [(8, Hint.wrap)], CHint.loop [0, 6, 7, 8, 9, 51, 52] [42] 43 (Exit.exit 0) { n := 78, fr := [(7, AV.v (.bool bb)), (9, AV.row 42 0 n3 n3 false)], hp := [(42, AObj.row (22 : TypeId) 1 (.ints .u32 l1) n2)], nx := 43 }]) (c := _) (by kernel_rfl) h
theorem pshrF4 (a : List Int) (ta : Bool) (n : Int) (bb : Bool) (l1 : List Int) (n2 : Nat) (n3 : Nat) (h : AllP [a.length < lim, decide (n < (0 : Int)) = false, (32 : Int) ≠ (0 : Int), inR IntKind.i64 (n.tdiv (32 : Int)), ((0 : Int) ≤ if (↑(norm a).length : Int) < n.tdiv (32 : Int) then (↑(norm a).length : Int) else n.tdiv (32 : Int)) ∧ (if (↑(norm a).length : Int) < n.tdiv (32 : Int) then (↑(norm a).length : Int) else n.tdiv (32 : Int)) ≤ (↑(norm a).length : Int), (!decide (∀ (x : Int), x ∈ List.take (if (↑(norm a).length : Int) < n.tdiv (32 : Int) then (↑(norm a).length : Int) else n.tdiv (32 : Int)).toNat (norm a) → x = (0 : Int))) = false, (List.take (if (↑(norm a).length : Int) < n.tdiv (32 : Int) then (↑(norm a).length : Int) else n.tdiv (32 : Int)).toNat (norm a)).length < lim, ((if (↑(norm a).length : Int) < n.tdiv (32 : Int) then (↑(norm a).length : Int) else n.tdiv (32 : Int)) == (↑(norm a).length : Int)) = true]) : PureTo Try.prog 30 [.sl 1 (.ints .u32 a) ta, .v (.int .i64 n)] (AV.tup [AV.sl 1 (.ints .u32 []) false, AV.v (.bool false)]) :=
  evFn_pure hm sok13 (fn := Try.f30) rfl rfl (ti := false) (hs := [CHint.ops 2 [(1, Hint.b false)], CHint.ops 5 [(3, Hint.b false)], CHint.ops 6 [(3, Hint.b true)]]) (c := _) (by kernel_rfl) h
theorem pshrF5 (a : List Int) (ta : Bool) (n : Int) (bb : Bool) (l1 : List Int) (n2 : Nat) (n3 : Nat) (h : AllP [a.length < lim, decide (n < (0 : Int)) = false, (32 : Int) ≠ (0 : Int), inR IntKind.i64 (n.tdiv (32 : Int)), ((0 : Int) ≤ if (↑(norm a).length : Int) < n.tdiv (32 : Int) then (↑(norm a).length : Int) else n.tdiv (32 : Int)) ∧ (if (↑(norm a).length : Int) < n.tdiv (32 : Int) then (↑(norm a).length : Int) else n.tdiv (32 : Int)) ≤ (↑(norm a).length : Int), (!decide (∀ (x : Int), x ∈ List.take (if (↑(norm a).length : Int) < n.tdiv (32 : Int) then (↑(norm a).length : Int) else n.tdiv (32 : Int)).toNat (norm a) → x = (0 : Int))) = false, (List.take (if (↑(norm a).length : Int) < n.tdiv (32 : Int) then (↑(norm a).length : Int) else n.tdiv (32 : Int)).toNat (norm a)).length < lim, ((if (↑(norm a).length : Int) < n.tdiv (32 : Int) then (↑(norm a).length : Int) else n.tdiv (32 : Int)) == (↑(norm a).length : Int)) = false, (32 : Int) ≠ (0 : Int), ((0 : Int) ≤ if (↑(norm a).length : Int) < n.tdiv (32 : Int) then (↑(norm a).length : Int) else n.tdiv (32 : Int)) ∧ (if (↑(norm a).length : Int) < n.tdiv (32 : Int) then (↑(norm a).length : Int) else n.tdiv (32 : Int)) < (↑(norm a).length : Int), (0 : Int) ≤ n.tmod (32 : Int), inR IntKind.u32 ((1 : Int) * (2 : Int) ^ min (n.tmod (32 : Int)).toNat 32), (bitsOf BinOp.and IntKind.u32 ((norm a).getD (if (↑(norm a).length : Int) < n.tdiv (32 : Int) then (↑(norm a).length : Int) else n.tdiv (32 : Int)).toNat (0 : Int)) (((1 : Int) * (2 : Int) ^ min (n.tmod (32 : Int)).toNat 32 - (1 : Int)) % (4294967296 : Int)) != (0 : Int)) = true, inR IntKind.i64 ((↑(norm a).length : Int) - if (↑(norm a).length : Int) < n.tdiv (32 : Int) then (↑(norm a).length : Int) else n.tdiv (32 : Int)), ((0 : Int) ≤ (↑(norm a).length : Int) - if (↑(norm a).length : Int) < n.tdiv (32 : Int) then (↑(norm a).length : Int) else n.tdiv (32 : Int)) ∧ ((↑(norm a).length : Int) - if (↑(norm a).length : Int) < n.tdiv (32 : Int) then (↑(norm a).length : Int) else n.tdiv (32 : Int)) ≤ (↑(norm a).length : Int) - if (↑(norm a).length : Int) < n.tdiv (32 : Int) then (↑(norm a).length : Int) else n.tdiv (32 : Int), ((↑(norm a).length : Int) - if (↑(norm a).length : Int) < n.tdiv (32 : Int) then (↑(norm a).length : Int) else n.tdiv (32 : Int)) * (4 : Int) ≤ (281474976710656 : Int) ∧ ((↑(norm a).length : Int) - if (↑(norm a).length : Int) < n.tdiv (32 : Int) then (↑(norm a).length : Int) else n.tdiv (32 : Int)) ≤ (9223372036854775807 : Int), LoopTo Try.prog (loopAt Try.f30 0) { n := 78, fr := [(0, AV.sl 1 (.ints .u32 (norm a)) true), (6, AV.v (.int .i64 (if (↑(norm a).length : Int) < n.tdiv (32 : Int) then (↑(norm a).length : Int) else n.tdiv (32 : Int)))), (7, AV.v (.bool true)), (8, AV.v (.int .i64 (n.tmod (32 : Int)))), (9, AV.row 42 0 ((↑(norm a).length : Int) - if (↑(norm a).length : Int) < n.tdiv (32 : Int) then (↑(norm a).length : Int) else n.tdiv (32 : Int)).toNat ((↑(norm a).length : Int) - if (↑(norm a).length : Int) < n.tdiv (32 : Int) then (↑(norm a).length : Int) else n.tdiv (32 : Int)).toNat false), (51, AV.v (.int .i64 (↑((↑(norm a).length : Int) - if (↑(norm a).length : Int) < n.tdiv (32 : Int) then (↑(norm a).length : Int) else n.tdiv (32 : Int)).toNat : Int))), (52, AV.v (.int .i64 (0 : Int)))], hp := [(42, AObj.row 22 1 (.ints .u32 (List.replicate ((↑(norm a).length : Int) - if (↑(norm a).length : Int) < n.tdiv (32 : Int) then (↑(norm a).length : Int) else n.tdiv (32 : Int)).toNat (0 : Int))) 0)], nx := 43 } (Exit.exit 0) { n := 78, fr := [(7, AV.v (.bool bb)), (9, AV.row 42 0 n3 n3 false)], hp := [(42, AObj.row 22 1 (.ints .u32 l1) n2)], nx := 43 }, n3 = l1.length, n2 ≤ n3, l1.length < lim]) : PureTo Try.prog 30 [.sl 1 (.ints .u32 a) ta, .v (.int .i64 n)] (AV.tup [AV.sl 1 (.ints .u32 (norm l1)) false, AV.v (.bool bb)]) :=
  evFn_pure hm sok13 (fn := Try.f30) rfl rfl (ti := false) (hs := [CHint.ops 2 [(1, Hint.b false)], CHint.ops 5 [(3, Hint.b false)], CHint.ops 6 [(3, Hint.b false)], CHint.ops 9 [(8, Hint.wrap), (10, Hint.b true)], CHint.loop [0, 6, 7, 8, 9, 51, 52] [42] 43 (Exit.exit 0) { n := 78, fr := [(7, AV.v (.bool bb)), (9, AV.row 42 0 n3 n3 false)], hp := [(42, AObj.row (22 : TypeId) 1 (.ints .u32 l1) n2)], nx := 43 }]) (c := _) (by kernel_rfl) h
theorem pshrF6 (a : List Int) (ta : Bool) (n : Int) (bb : Bool) (l1 : List Int) (n2 : Nat) (n3 : Nat) (h : AllP [a.length < lim, decide (n < (0 : Int)) = false, (32 : Int) ≠ (0 : Int), inR IntKind.i64 (n.tdiv (32 : Int)), ((0 : Int) ≤ if (↑(norm a).length : Int) < n.tdiv (32 : Int) then (↑(norm a).length : Int) else n.tdiv (32 : Int)) ∧ (if (↑(norm a).length : Int) < n.tdiv (32 : Int) then (↑(norm a).length : Int) else n.tdiv (32 : Int)) ≤ (↑(norm a).length : Int), (!decide (∀ (x : Int), x ∈ List.take (if (↑(norm a).length : Int) < n.tdiv (32 : Int) then (↑(norm a).length : Int) else n.tdiv (32 : Int)).toNat (norm a) → x = (0 : Int))) = false, (List.take (if (↑(norm a).length : Int) < n.tdiv (32 : Int) then (↑(norm a).length : Int) else n.tdiv (32 : Int)).toNat (norm a)).length < lim, ((if (↑(norm a).length : Int) < n.tdiv (32 : Int) then (↑(norm a).length : Int) else n.tdiv (32 : Int)) == (↑(norm a).length : Int)) = false, (32 : Int) ≠ (0 : Int), ((0 : Int) ≤ if (↑(norm a).length : Int) < n.tdiv (32 : Int) then (↑(norm a).length : Int) else n.tdiv (32 : Int)) ∧ (if (↑(norm a).length : Int) < n.tdiv (32 : Int) then (↑(norm a).length : Int) else n.tdiv (32 : Int)) < (↑(norm a).length : Int), (0 : Int) ≤ n.tmod (32 : Int), inR IntKind.u32 ((1 : Int) * (2 : Int) ^ min (n.tmod (32 : Int)).toNat 32), (bitsOf BinOp.and IntKind.u32 ((norm a).getD (if (↑(norm a).length : Int) < n.tdiv (32 : Int) then (↑(norm a).length : Int) else n.tdiv (32 : Int)).toNat (0 : Int)) (((1 : Int) * (2 : Int) ^ min (n.tmod (32 : Int)).toNat 32 - (1 : Int)) % (4294967296 : Int)) != (0 : Int)) = false, inR IntKind.i64 ((↑(norm a).length : Int) - if (↑(norm a).length : Int) < n.tdiv (32 : Int) then (↑(norm a).length : Int) else n.tdiv (32 : Int)), ((0 : Int) ≤ (↑(norm a).length : Int) - if (↑(norm a).length : Int) < n.tdiv (32 : Int) then (↑(norm a).length : Int) else n.tdiv (32 : Int)) ∧ ((↑(norm a).length : Int) - if (↑(norm a).length : Int) < n.tdiv (32 : Int) then (↑(norm a).length : Int) else n.tdiv (32 : Int)) ≤ (↑(norm a).length : Int) - if (↑(norm a).length : Int) < n.tdiv (32 : Int) then (↑(norm a).length : Int) else n.tdiv (32 : Int), ((↑(norm a).length : Int) - if (↑(norm a).length : Int) < n.tdiv (32 : Int) then (↑(norm a).length : Int) else n.tdiv (32 : Int)) * (4 : Int) ≤ (281474976710656 : Int) ∧ ((↑(norm a).length : Int) - if (↑(norm a).length : Int) < n.tdiv (32 : Int) then (↑(norm a).length : Int) else n.tdiv (32 : Int)) ≤ (9223372036854775807 : Int), LoopTo Try.prog (loopAt Try.f30 0) { n := 78, fr := [(0, AV.sl 1 (.ints .u32 (norm a)) true), (6, AV.v (.int .i64 (if (↑(norm a).length : Int) < n.tdiv (32 : Int) then (↑(norm a).length : Int) else n.tdiv (32 : Int)))), (7, AV.v (.bool false)), (8, AV.v (.int .i64 (n.tmod (32 : Int)))), (9, AV.row 42 0 ((↑(norm a).length : Int) - if (↑(norm a).length : Int) < n.tdiv (32 : Int) then (↑(norm a).length : Int) else n.tdiv (32 : Int)).toNat ((↑(norm a).length : Int) - if (↑(norm a).length : Int) < n.tdiv (32 : Int) then (↑(norm a).length : Int) else n.tdiv (32 : Int)).toNat false), (51, AV.v (.int .i64 (↑((↑(norm a).length : Int) - if (↑(norm a).length : Int) < n.tdiv (32 : Int) then (↑(norm a).length : Int) else n.tdiv (32 : Int)).toNat : Int))), (52, AV.v (.int .i64 (0 : Int)))], hp := [(42, AObj.row 22 1 (.ints .u32 (List.replicate ((↑(norm a).length : Int) - if (↑(norm a).length : Int) < n.tdiv (32 : Int) then (↑(norm a).length : Int) else n.tdiv (32 : Int)).toNat (0 : Int))) 0)], nx := 43 } (Exit.exit 0) { n := 78, fr := [(7, AV.v (.bool bb)), (9, AV.row 42 0 n3 n3 false)], hp := [(42, AObj.row 22 1 (.ints .u32 l1) n2)], nx := 43 }, n3 = l1.length, n2 ≤ n3, l1.length < lim]) : PureTo Try.prog 30 [.sl 1 (.ints .u32 a) ta, .v (.int .i64 n)] (AV.tup [AV.sl 1 (.ints .u32 (norm l1)) false, AV.v (.bool bb)]) :=
  evFn_pure hm sok13 (fn := Try.f30) rfl rfl (ti := false) (hs := [CHint.ops 2 [(1, Hint.b false)], CHint.ops 5 [(3, Hint.b false)], CHint.ops 6 [(3, Hint.b false)], CHint.ops 9 [(8, Hint.wrap), (10, Hint.b false)], CHint.loop [0, 6, 7, 8, 9, 51, 52] [42] 43 (Exit.exit 0) { n := 78, fr := [(7, AV.v (.bool bb)), (9, AV.row 42 0 n3 n3 false)], hp := [(42, AObj.row (22 : TypeId) 1 (.ints .u32 l1) n2)], nx := 43 }]) (c := _) (by kernel_rfl) h
-- 5 paths
theorem halvedL0_1 (a b : List Int) (ta tb : Bool) (x0 : Int) (l0 : List Int) (l1 : List Int) (n0 : Nat) (n1 : Nat) (t0 : Bool) (h : AllP [decide (x0 ≥ (0 : Int)) = true, Words l0, (0 : Int) ≤ (1 : Int), (1 : Int) + (↑l0.length : Int) + (2 : Int) ≤ (1000000000000 : Int), (32 : Int) ≠ (0 : Int), inR IntKind.i64 (x0.tdiv (32 : Int)), (0 : Int) ≤ x0.tdiv (32 : Int) ∧ x0.tdiv (32 : Int) < (↑a.length : Int), (32 : Int) ≠ (0 : Int), (0 : Int) ≤ x0.tmod (32 : Int) % (18446744073709551616 : Int), (bitsOf BinOp.and IntKind.u32 (a.getD (x0.tdiv (32 : Int)).toNat (0 : Int) / (2 : Int) ^ min (x0.tmod (32 : Int) % (18446744073709551616 : Int)).toNat 32) (1 : Int) == (1 : Int)) = true, Words (dig (nat l0 * 2)), Words [(1 : Int)], (dig (nat l0 * 2)).length + 1 ≤ lim4, 2 ≤ lim4, Words (dig (nat (dig (nat l0 * 2)) + nat [(1 : Int)])), Words b, (dig (nat (dig (nat l0 * 2)) + nat [(1 : Int)])).length < lim, b.length < lim, decide (cmpN (nat (dig (nat (dig (nat l0 * 2)) + nat [(1 : Int)]))) (nat b) ≥ (0 : Int)) = true, Words (dig (nat (dig (nat l0 * 2)) + nat [(1 : Int)])), Words b, (dig (nat (dig (nat l0 * 2)) + nat [(1 : Int)])).length + 1 ≤ lim4, b.length ≤ (dig (nat (dig (nat l0 * 2)) + nat [(1 : Int)])).length, nat b ≤ nat (dig (nat (dig (nat l0 * 2)) + nat [(1 : Int)])), (32 : Int) ≠ (0 : Int), inR IntKind.i64 (x0.tdiv (32 : Int)), (32 : Int) ≠ (0 : Int), inR IntKind.i64 (x0.tdiv (32 : Int)), (0 : Int) ≤ x0.tdiv (32 : Int) ∧ x0.tdiv (32 : Int) < (↑n1 : Int), n0 ≤ n1, (32 : Int) ≠ (0 : Int), (0 : Int) ≤ x0.tmod (32 : Int) % (18446744073709551616 : Int), inR IntKind.u32 ((1 : Int) * (2 : Int) ^ min (x0.tmod (32 : Int) % (18446744073709551616 : Int)).toNat 32), (0 : Int) ≤ x0.tdiv (32 : Int) ∧ x0.tdiv (32 : Int) < (↑n1 : Int), n1 = l1.length, inR IntKind.i64 (x0 - (1 : Int))]) : To Try.prog (loopAt Try.f63 0) ({ n := 60, fr := [(0, AV.sl 1 (.ints .u32 a) ta), (1, AV.sl 1 (.ints .u32 b) tb), (6, AV.row 4 0 n1 n1 false), (7, AV.sl 1 (.ints .u32 l0) t0), (8, AV.v (.int .i64 x0))], hp := [(4, AObj.row 22 1 (.ints .u32 l1) n0)], nx := 5 }) (.normal) { n := 60, fr := [(0, AV.sl 1 (.ints .u32 a) ta), (1, AV.sl 1 (.ints .u32 b) tb), (6, AV.row 4 0 n1 n1 false), (7, AV.sl 1 (.ints .u32 (dig (nat (dig (nat (dig (nat l0 * 2)) + nat [(1 : Int)])) - nat b))) false), (8, AV.v (.int .i64 (x0 - (1 : Int))))], hp := [(4, AObj.row 22 1 (.ints .u32 (l1.set (ixPlus 0 (x0.tdiv (32 : Int)).toNat) (bitsOf BinOp.or IntKind.u32 (l1.getD (ixPlus 0 (x0.tdiv (32 : Int)).toNat) (0 : Int)) ((1 : Int) * (2 : Int) ^ min (x0.tmod (32 : Int) % (18446744073709551616 : Int)).toNat 32)))) l1.length)], nx := 5 } :=
  evW_to hm sok13 (hs := [CHint.ops 4 [(1, Hint.b true)], CHint.ops 7 [(10, Hint.b true)], CHint.ops 9 [(3, Hint.b true)]]) (slots := [0, 1, 6, 7, 8]) (keys := [4]) (nx := 5) (c := _) (by kernel_rfl) h
theorem halvedL0_2 (a b : List Int) (ta tb : Bool) (x0 : Int) (l0 : List Int) (l1 : List Int) (n0 : Nat) (n1 : Nat) (t0 : Bool) (h : AllP [decide (x0 ≥ (0 : Int)) = true, Words l0, (0 : Int) ≤ (1 : Int), (1 : Int) + (↑l0.length : Int) + (2 : Int) ≤ (1000000000000 : Int), (32 : Int) ≠ (0 : Int), inR IntKind.i64 (x0.tdiv (32 : Int)), (0 : Int) ≤ x0.tdiv (32 : Int) ∧ x0.tdiv (32 : Int) < (↑a.length : Int), (32 : Int) ≠ (0 : Int), (0 : Int) ≤ x0.tmod (32 : Int) % (18446744073709551616 : Int), (bitsOf BinOp.and IntKind.u32 (a.getD (x0.tdiv (32 : Int)).toNat (0 : Int) / (2 : Int) ^ min (x0.tmod (32 : Int) % (18446744073709551616 : Int)).toNat 32) (1 : Int) == (1 : Int)) = true, Words (dig (nat l0 * 2)), Words [(1 : Int)], (dig (nat l0 * 2)).length + 1 ≤ lim4, 2 ≤ lim4, Words (dig (nat (dig (nat l0 * 2)) + nat [(1 : Int)])), Words b, (dig (nat (dig (nat l0 * 2)) + nat [(1 : Int)])).length < lim, b.length < lim, decide (cmpN (nat (dig (nat (dig (nat l0 * 2)) + nat [(1 : Int)]))) (nat b) ≥ (0 : Int)) = false, inR IntKind.i64 (x0 - (1 : Int))]) : To Try.prog (loopAt Try.f63 0) ({ n := 60, fr := [(0, AV.sl 1 (.ints .u32 a) ta), (1, AV.sl 1 (.ints .u32 b) tb), (6, AV.row 4 0 n1 n1 false), (7, AV.sl 1 (.ints .u32 l0) t0), (8, AV.v (.int .i64 x0))], hp := [(4, AObj.row 22 1 (.ints .u32 l1) n0)], nx := 5 }) (.normal) { n := 60, fr := [(0, AV.sl 1 (.ints .u32 a) ta), (1, AV.sl 1 (.ints .u32 b) tb), (6, AV.row 4 0 n1 n1 false), (7, AV.sl 1 (.ints .u32 (dig (nat (dig (nat l0 * 2)) + nat [(1 : Int)]))) false), (8, AV.v (.int .i64 (x0 - (1 : Int))))], hp := [(4, AObj.row 22 1 (.ints .u32 l1) n0)], nx := 5 } :=
  evW_to hm sok13 (hs := [CHint.ops 4 [(1, Hint.b true)], CHint.ops 7 [(10, Hint.b true)], CHint.ops 9 [(3, Hint.b false)]]) (slots := [0, 1, 6, 7, 8]) (keys := [4]) (nx := 5) (c := _) (by kernel_rfl) h
theorem halvedL0_3 (a b : List Int) (ta tb : Bool) (x0 : Int) (l0 : List Int) (l1 : List Int) (n0 : Nat) (n1 : Nat) (t0 : Bool) (h : AllP [decide (x0 ≥ (0 : Int)) = true, Words l0, (0 : Int) ≤ (1 : Int), (1 : Int) + (↑l0.length : Int) + (2 : Int) ≤ (1000000000000 : Int), (32 : Int) ≠ (0 : Int), inR IntKind.i64 (x0.tdiv (32 : Int)), (0 : Int) ≤ x0.tdiv (32 : Int) ∧ x0.tdiv (32 : Int) < (↑a.length : Int), (32 : Int) ≠ (0 : Int), (0 : Int) ≤ x0.tmod (32 : Int) % (18446744073709551616 : Int), (bitsOf BinOp.and IntKind.u32 (a.getD (x0.tdiv (32 : Int)).toNat (0 : Int) / (2 : Int) ^ min (x0.tmod (32 : Int) % (18446744073709551616 : Int)).toNat 32) (1 : Int) == (1 : Int)) = false, Words (dig (nat l0 * 2)), Words b, (dig (nat l0 * 2)).length < lim, b.length < lim, decide (cmpN (nat (dig (nat l0 * 2))) (nat b) ≥ (0 : Int)) = true, Words (dig (nat l0 * 2)), Words b, (dig (nat l0 * 2)).length + 1 ≤ lim4, b.length ≤ (dig (nat l0 * 2)).length, nat b ≤ nat (dig (nat l0 * 2)), (32 : Int) ≠ (0 : Int), inR IntKind.i64 (x0.tdiv (32 : Int)), (32 : Int) ≠ (0 : Int), inR IntKind.i64 (x0.tdiv (32 : Int)), (0 : Int) ≤ x0.tdiv (32 : Int) ∧ x0.tdiv (32 : Int) < (↑n1 : Int), n0 ≤ n1, (32 : Int) ≠ (0 : Int), (0 : Int) ≤ x0.tmod (32 : Int) % (18446744073709551616 : Int), inR IntKind.u32 ((1 : Int) * (2 : Int) ^ min (x0.tmod (32 : Int) % (18446744073709551616 : Int)).toNat 32), (0 : Int) ≤ x0.tdiv (32 : Int) ∧ x0.tdiv (32 : Int) < (↑n1 : Int), n1 = l1.length, inR IntKind.i64 (x0 - (1 : Int))]) : To Try.prog (loopAt Try.f63 0) ({ n := 60, fr := [(0, AV.sl 1 (.ints .u32 a) ta), (1, AV.sl 1 (.ints .u32 b) tb), (6, AV.row 4 0 n1 n1 false), (7, AV.sl 1 (.ints .u32 l0) t0), (8, AV.v (.int .i64 x0))], hp := [(4, AObj.row 22 1 (.ints .u32 l1) n0)], nx := 5 }) (.normal) { n := 60, fr := [(0, AV.sl 1 (.ints .u32 a) ta), (1, AV.sl 1 (.ints .u32 b) tb), (6, AV.row 4 0 n1 n1 false), (7, AV.sl 1 (.ints .u32 (dig (nat (dig (nat l0 * 2)) - nat b))) false), (8, AV.v (.int .i64 (x0 - (1 : Int))))], hp := [(4, AObj.row 22 1 (.ints .u32 (l1.set (ixPlus 0 (x0.tdiv (32 : Int)).toNat) (bitsOf BinOp.or IntKind.u32 (l1.getD (ixPlus 0 (x0.tdiv (32 : Int)).toNat) (0 : Int)) ((1 : Int) * (2 : Int) ^ min (x0.tmod (32 : Int) % (18446744073709551616 : Int)).toNat 32)))) l1.length)], nx := 5 } :=
  evW_to hm sok13 (hs := [CHint.ops 4 [(1, Hint.b true)], CHint.ops 7 [(10, Hint.b false)], CHint.ops 9 [(3, Hint.b true)]]) (slots := [0, 1, 6, 7, 8]) (keys := [4]) (nx := 5) (c := _) (by kernel_rfl) h
theorem halvedL0_4 (a b : List Int) (ta tb : Bool) (x0 : Int) (l0 : List Int) (l1 : List Int) (n0 : Nat) (n1 : Nat) (t0 : Bool) (h : AllP [decide (x0 ≥ (0 : Int)) = true, Words l0, (0 : Int) ≤ (1 : Int), (1 : Int) + (↑l0.length : Int) + (2 : Int) ≤ (1000000000000 : Int), (32 : Int) ≠ (0 : Int), inR IntKind.i64 (x0.tdiv (32 : Int)), (0 : Int) ≤ x0.tdiv (32 : Int) ∧ x0.tdiv (32 : Int) < (↑a.length : Int), (32 : Int) ≠ (0 : Int), (0 : Int) ≤ x0.tmod (32 : Int) % (18446744073709551616 : Int), (bitsOf BinOp.and IntKind.u32 (a.getD (x0.tdiv (32 : Int)).toNat (0 : Int) / (2 : Int) ^ min (x0.tmod (32 : Int) % (18446744073709551616 : Int)).toNat 32) (1 : Int) == (1 : Int)) = false, Words (dig (nat l0 * 2)), Words b, (dig (nat l0 * 2)).length < lim, b.length < lim, decide (cmpN (nat (dig (nat l0 * 2))) (nat b) ≥ (0 : Int)) = false, inR IntKind.i64 (x0 - (1 : Int))]) : To Try.prog (loopAt Try.f63 0) ({ n := 60, fr := [(0, AV.sl 1 (.ints .u32 a) ta), (1, AV.sl 1 (.ints .u32 b) tb), (6, AV.row 4 0 n1 n1 false), (7, AV.sl 1 (.ints .u32 l0) t0), (8, AV.v (.int .i64 x0))], hp := [(4, AObj.row 22 1 (.ints .u32 l1) n0)], nx := 5 }) (.normal) { n := 60, fr := [(0, AV.sl 1 (.ints .u32 a) ta), (1, AV.sl 1 (.ints .u32 b) tb), (6, AV.row 4 0 n1 n1 false), (7, AV.sl 1 (.ints .u32 (dig (nat l0 * 2))) false), (8, AV.v (.int .i64 (x0 - (1 : Int))))], hp := [(4, AObj.row 22 1 (.ints .u32 l1) n0)], nx := 5 } :=
  evW_to hm sok13 (hs := [CHint.ops 4 [(1, Hint.b true)], CHint.ops 7 [(10, Hint.b false)], CHint.ops 9 [(3, Hint.b false)]]) (slots := [0, 1, 6, 7, 8]) (keys := [4]) (nx := 5) (c := _) (by kernel_rfl) h
theorem halvedL0_5 (a b : List Int) (ta tb : Bool) (x0 : Int) (l0 : List Int) (l1 : List Int) (n0 : Nat) (n1 : Nat) (t0 : Bool) (h : AllP [decide (x0 ≥ (0 : Int)) = false]) : To Try.prog (loopAt Try.f63 0) ({ n := 60, fr := [(0, AV.sl 1 (.ints .u32 a) ta), (1, AV.sl 1 (.ints .u32 b) tb), (6, AV.row 4 0 n1 n1 false), (7, AV.sl 1 (.ints .u32 l0) t0), (8, AV.v (.int .i64 x0))], hp := [(4, AObj.row 22 1 (.ints .u32 l1) n0)], nx := 5 }) (Exit.exit 0) { n := 60, fr := [(6, AV.row 4 0 n1 n1 false), (7, AV.sl 1 (.ints .u32 l0) t0)], hp := [(4, AObj.row 22 1 (.ints .u32 l1) n0)], nx := 5 } :=
  evW_to hm sok13 (hs := [CHint.ops 4 [(1, Hint.b false)]]) (slots := [6, 7]) (keys := [4]) (nx := 5) (c := _) (by kernel_rfl) h
-- 1 paths
theorem halvedF1 (a b : List Int) (ta tb : Bool) (l2 : List Int) (l3 : List Int) (n2 : Nat) (n3 : Nat) (t1 : Bool) (h : AllP [(0 : Int) ≤ (↑a.length : Int) ∧ (↑a.length : Int) ≤ (↑a.length : Int), (↑a.length : Int) * (4 : Int) ≤ (281474976710656 : Int) ∧ (↑a.length : Int) ≤ (9223372036854775807 : Int), inR IntKind.i64 ((32 : Int) * (↑a.length : Int)), inR IntKind.i64 ((32 : Int) * (↑a.length : Int) - (1 : Int)), LoopTo Try.prog (loopAt Try.f63 0) { n := 60, fr := [(0, AV.sl 1 (.ints .u32 a) ta), (1, AV.sl 1 (.ints .u32 b) tb), (6, AV.row 4 0 (↑a.length : Int).toNat (↑a.length : Int).toNat false), (7, AV.sl 1 (.ints .u32 []) true), (8, AV.v (.int .i64 ((32 : Int) * (↑a.length : Int) - (1 : Int))))], hp := [(4, AObj.row 22 1 (.ints .u32 (List.replicate (↑a.length : Int).toNat (0 : Int))) 0)], nx := 5 } (Exit.exit 0) { n := 60, fr := [(6, AV.row 4 0 n3 n3 false), (7, AV.sl 1 (.ints .u32 l2) t1)], hp := [(4, AObj.row 22 1 (.ints .u32 l3) n2)], nx := 5 }, n3 = l3.length, n2 ≤ n3, l3.length ≤ lim4]) : PureTo Try.prog 63 [.sl 1 (.ints .u32 a) ta, .sl 1 (.ints .u32 b) tb] (AV.tup [AV.sl 1 (.ints .u32 (norm l3)) false, AV.sl 1 (.ints .u32 l2) (t1 && false)]) :=
  evFn_pure hm sok13 (fn := Try.f63) rfl rfl (ti := false) (hs := [CHint.ops 2 [(0, Hint.nils 22)], CHint.loop [0, 1, 6, 7, 8] [4] 5 (Exit.exit 0) { n := 60, fr := [(6, AV.row 4 0 n3 n3 false), (7, AV.sl 1 (.ints .u32 l2) t1)], hp := [(4, AObj.row (22 : TypeId) 1 (.ints .u32 l3) n2)], nx := 5 }]) (c := _) (by kernel_rfl) h
end Go.Proofs.Bn

/- Bignum: contract: Shr. -/
set_option maxRecDepth 100000
namespace Go.Proofs.Bn
open Go Go.Ev

theorem pshr_words (a : List Int) (ta : Bool) (n : Int) (L : List Int) (hL : norm a = L) (hw : Words L) (w s : Nat) (C : Cnt n w s) (b : Bool) (hlen : L.length ≤ 35184372088832) (hwl : w < L.length) (hW : (if (L.length : Int) < n.tdiv 32 then (L.length : Int) else n.tdiv 32) = (w : Int)) : ∀ (f i : Nat) (l : List Int), w + i + f = L.length → l = (shrW (L.drop w) s).take i →
    LoopTo Try.prog (loopAt Try.f30 0) (pshrS0 a ta n b i (l ++ List.replicate f 0) (L.length - w) (L.length - w)) (.exit 0) (pshrX0 a ta n b (shrW (L.drop w) s) (L.length - w) (L.length - w)) := by
  have hs := C.rlt
  have hN : ((L.length : Int) - (w : Int)).toNat = L.length - w := by omega
  intro f
  induction f with
  | zero =>
    intro i l hi hl
    have e : l = shrW (L.drop w) s := by rw [hl, List.take_of_length_le (by rw [shrW_length, List.length_drop]; omega)]
    rw [e, List.replicate_zero, List.append_nil]
    exact .done (by simp) (pshrL0_2 a ta n b i _ _ _ ⟨by rw [hL, hW, hN]; simp; omega, trivial⟩)
  | succ f ih =>
    intro i l hi hl
    have hx := wd_bound hw ((w + i : Nat) : Int)
    have hy := wd_bound hw (((w + i : Nat) : Int) + 1)
    have e0 : (w : Int) + (i : Int) = ((w + i : Nat) : Int) := by omega
    have e3 : (2 : Int) ^ min (n.tmod 32).toNat 64 = ((2 ^ s : Nat) : Int) := by rw [C.er, Int.toNat_natCast, Nat.min_eq_left (by omega), two_pow]
    have e4 := (shW_int hs hx hy).2
    have hlenl : l.length = i := by rw [hl, List.length_take, shrW_length, List.length_drop]; omega
    have hg : (shrW (L.drop w) s).getD i 0 = (shW (wd L ((w + i : Nat) : Int)).toNat (wd L (((w + i : Nat) : Int) + 1)).toNat s : Int) := by
      rw [shrW_get _ _ _ (by rw [List.length_drop]; omega)]
      have h1 : (L.drop w).getD i 0 = wd L ((w + i : Nat) : Int) := by rw [wd_nat, List.getD_eq_getElem?_getD, List.getElem?_drop, ← List.getD_eq_getElem?_getD]
      have h2 : (L.drop w).getD (i + 1) 0 = wd L (((w + i : Nat) : Int) + 1) := by
        rw [show ((w + i : Nat) : Int) + 1 = ((w + (i + 1) : Nat) : Int) by omega, wd_nat, List.getD_eq_getElem?_getD, List.getElem?_drop, ← List.getD_eq_getElem?_getD]
      rw [h1, h2]
    have hi2 : i < (shrW (L.drop w) s).length := by rw [shrW_length, List.length_drop]; omega
    have hnext : l ++ [(shW (wd L ((w + i : Nat) : Int)).toNat (wd L (((w + i : Nat) : Int) + 1)).toNat s : Int)] = (shrW (L.drop w) s).take (i + 1) := by
      rw [List.take_succ_eq_append_getElem hi2, hl, ← hg]
      congr 2
      simp [List.getD_eq_getElem?_getD, hi2]
    have hll : (l ++ List.replicate (f + 1) (0 : Int)).length = L.length - w := by simp; omega
    have h1 := pshrL0_1 a ta n b i (l ++ List.replicate (f + 1) 0) (L.length - w) (L.length - w) (by
      rw [hL, hW, hN, e0, C.er]
      refine ⟨by simp; omega, inR64 (by omega) (by omega), inR64 (by omega) (by omega), hw, by omega, inRu64 (by omega) (by omega), inR64 (by omega) (by omega), hw, by omega, by omega, hll.symm, inR64 (by omega) (by omega), trivial⟩)
    have e5 : (l ++ List.replicate (f + 1) (0 : Int)).set i (shW (wd L ((w + i : Nat) : Int)).toNat (wd L (((w + i : Nat) : Int) + 1)).toNat s : Int) = (shrW (L.drop w) s).take (i + 1) ++ List.replicate f 0 := by
      rw [List.set_append_right _ _ (by omega), hlenl, Nat.sub_self, List.replicate_succ, List.set_cons_zero, ← hnext]
      simp
    have ih := ih (i + 1) _ (by omega) rfl
    rw [hL, hW, hN, e0, e3, Int.toNat_natCast, ix0, e4, e5, hll] at h1
    unfold pshrS0
    unfold pshrS0 at ih
    rw [hL, hW, hN] at ih ⊢
    exact .step h1 ih

theorem pshr_pure (a : List Int) (ta : Bool) (n : Int) (ha : Words a) (hl4 : a.length ≤ lim4) (hn : n ≤ 9223372036854775807) : PureTo Try.prog 30 [.sl 1 (.ints .u32 a) ta, .v (.int .i64 n)] (.tup [.sl 1 (.ints .u32 (ShrN (nat a) n).1) false, .v (.bool (ShrN (nat a) n).2)]) := by
  have hle := norm_length_le a
  have hl := lim4_lt hl4
  have hl5 := hl4
  unfold lim4 at hl5
  have hw := words_norm ha
  have hN := nat_lt hw
  rw [nat_norm] at hN
  have hll : (norm a).length < lim := by unfold lim; omega
  unfold ShrN
  by_cases h0 : n < 0
  · rw [if_pos h0, ← norm_eq ha]
    exact pshrF1 a ta n false [] 0 0 ⟨hl, by simpa using h0, by omega, trivial⟩
  · rw [if_neg h0]
    have C := cnt (show 0 ≤ n by omega)
    have hCw := C.ew
    have hCn := C.en
    generalize hw0 : n.toNat / 32 = w at *
    generalize hs0 : n.toNat % 32 = s at *
    have hs := C.rlt
    have hi : inR .i64 (n.tdiv 32) := by rw [hCw]; exact inR64 (by omega) (by omega)
    by_cases h1 : (norm a).length ≤ w
    · have hW : (if ((norm a).length : Int) < n.tdiv 32 then ((norm a).length : Int) else n.tdiv 32) = ((norm a).length : Int) := by rw [hCw]; split <;> omega
      have hb : nat a < 2 ^ n.toNat := by
        refine Nat.lt_of_lt_of_le hN ?_
        rw [show (4294967296 : Nat) = 2 ^ 32 from rfl, ← Nat.pow_mul]
        exact Nat.pow_le_pow_right (by omega) (by omega)
      rw [Nat.div_eq_of_lt hb, Nat.mod_eq_of_lt hb, dig_zero]
      have hall := nat_zero_iff hw
      rw [nat_norm] at hall
      cases hz : decide (nat a ≠ 0) with
      | true =>
        have hz' : nat a ≠ 0 := by simpa using hz
        refine pshrF2 a ta n false [] 0 0 ?_
        rw [hW, Int.toNat_natCast, List.take_length]
        exact ⟨hl, by simpa using h0, by omega, hi, by omega, by rw [decide_eq_false (fun h => hz' (hall.2 h))]; rfl, hll, by simp, trivial⟩
      | false =>
        have hz' : nat a = 0 := by simpa using hz
        refine pshrF4 a ta n false [] 0 0 ?_
        rw [hW, Int.toNat_natCast, List.take_length]
        exact ⟨hl, by simpa using h0, by omega, hi, by omega, by rw [decide_eq_true (hall.1 hz')]; rfl, hll, by simp, trivial⟩
    · have hW : (if ((norm a).length : Int) < n.tdiv 32 then ((norm a).length : Int) else n.tdiv 32) = (w : Int) := by rw [hCw]; split <;> omega
      have hrest := shr_rest hw n.toNat (by omega)
      have hq := shr_quot hw n.toNat (by omega)
      rw [nat_norm, hw0, hs0] at hrest hq
      have hwl := shrW_words ((norm a).drop w) s
      have hsl := shrW_length ((norm a).drop w) s
      rw [List.length_drop] at hsl
      have hsub : (((norm a).length : Int) - (w : Int)).toNat = (norm a).length - w := by omega
      have hx := words_getD hw w
      have hloop : ∀ b, LoopTo Try.prog (loopAt Try.f30 0) (pshrS0 a ta n b (0 : Nat) (List.replicate ((norm a).length - w) 0) ((norm a).length - w) ((norm a).length - w)) (.exit 0) (pshrX0 a ta n b (shrW ((norm a).drop w) s) ((norm a).length - w) ((norm a).length - w)) := fun b => by
        have := pshr_words a ta n (norm a) rfl hw w s C b (by omega) (by omega) hW ((norm a).length - w) 0 [] (by omega) (by simp)
        rw [List.nil_append] at this
        exact this
      have hlr : (List.replicate ((norm a).length - w) (0 : Int)).length = (norm a).length - w := by simp
      have hloop2 : ∀ b, LoopTo Try.prog (loopAt Try.f30 0) { n := 78, fr := [(0, AV.sl 1 (.ints .u32 (norm a)) true), (6, AV.v (.int .i64 (w : Int))), (7, AV.v (.bool b)), (8, AV.v (.int .i64 (n.tmod 32))), (9, AV.row 42 0 ((norm a).length - w) ((norm a).length - w) false), (51, AV.v (.int .i64 (((norm a).length - w : Nat) : Int))), (52, AV.v (.int .i64 0))], hp := [(42, AObj.row 22 1 (.ints .u32 (List.replicate ((norm a).length - w) 0)) 0)], nx := 43 } (.exit 0) (pshrX0 a ta n b (shrW ((norm a).drop w) s) ((norm a).length - w) ((norm a).length - w)) := fun b => by
        refine .raise ?_
        show LoopTo _ _ { n := _, fr := _, hp := [(42, .row 22 1 (.ints .u32 (List.replicate ((norm a).length - w) 0)) (List.replicate ((norm a).length - w) (0 : Int)).length)], nx := _ } _ _
        rw [hlr]
        have := hloop b
        unfold pshrS0 at this
        rw [hW, hsub] at this
        exact this
      have e3 : (1 : Int) * (2 : Int) ^ min (n.tmod 32).toNat 32 = ((2 ^ s : Nat) : Int) := by rw [C.er, Int.toNat_natCast, Nat.min_eq_left (by omega), two_pow, Int.one_mul]
      have hP1 := Nat.pow_pos (n := s) (show 0 < 2 by omega)
      have hP31 : (2 : Nat) ^ s ≤ 2147483648 := Nat.pow_le_pow_right (n := 2) (show 0 < 2 by omega) (show s ≤ 31 by omega)
      have e4 : (((2 ^ s : Nat) : Int) - 1) % 4294967296 = ((2 ^ s - 1 : Nat) : Int) := by omega
      have e5 : bitsOf .and .u32 ((norm a).getD w 0) ((2 ^ s - 1 : Nat) : Int) = ((((norm a).getD w 0).toNat % 2 ^ s : Nat) : Int) := by
        rw [and_low (k := .u32) rfl hx.1 (by show _ < (2 : Int) ^ 32; omega) (show s < 32 from hs), Int.natCast_emod]
        congr 1
        omega
      have ld : (List.take w (norm a)).length < lim := by rw [List.length_take]; omega
      have quot : norm (shrW ((norm a).drop w) s) = dig (nat a / 2 ^ n.toNat) := by rw [norm_eq hwl, hq]
      by_cases hz1 : ∀ x, x ∈ (norm a).take w → x = 0
      · by_cases hz2 : ((norm a).getD w 0).toNat % 2 ^ s = 0
        · have hd : decide (nat a % 2 ^ n.toNat ≠ 0) = false := decide_eq_false fun h => h (hrest.2 ⟨hz1, hz2⟩)
          rw [hd, ← quot]
          refine pshrF6 a ta n false (shrW ((norm a).drop w) s) ((norm a).length - w) ((norm a).length - w) ?_
          rw [hW, hsub, Int.toNat_natCast, e3, e4, e5, hz2]
          exact ⟨hl, by simpa using h0, by omega, hi, by omega, by rw [decide_eq_true hz1]; rfl, ld, by simp; omega, by omega, by omega, by rw [C.er]; omega, ⟨by omega, by omega⟩, by simp, inR64 (by omega) (by omega), by omega, by omega, hloop2 false, hsl.symm, Nat.le_refl _, by rw [hsl]; omega, trivial⟩
        · have hd : decide (nat a % 2 ^ n.toNat ≠ 0) = true := decide_eq_true fun h => hz2 (hrest.1 h).2
          rw [hd, ← quot]
          refine pshrF5 a ta n true (shrW ((norm a).drop w) s) ((norm a).length - w) ((norm a).length - w) ?_
          rw [hW, hsub, Int.toNat_natCast, e3, e4, e5]
          exact ⟨hl, by simpa using h0, by omega, hi, by omega, by rw [decide_eq_true hz1]; rfl, ld, by simp; omega, by omega, by omega, by rw [C.er]; omega, ⟨by omega, by omega⟩, by simp only [bne_iff_ne, ne_eq]; omega, inR64 (by omega) (by omega), by omega, by omega, hloop2 true, hsl.symm, Nat.le_refl _, by rw [hsl]; omega, trivial⟩
      · have hd : decide (nat a % 2 ^ n.toNat ≠ 0) = true := by
          refine decide_eq_true fun h => hz1 (hrest.1 h).1
        rw [hd, ← quot]
        refine pshrF3 a ta n true (shrW ((norm a).drop w) s) ((norm a).length - w) ((norm a).length - w) ?_
        rw [hW, hsub, Int.toNat_natCast]
        exact ⟨hl, by simpa using h0, by omega, hi, by omega, by rw [decide_eq_false hz1]; rfl, ld, by simp; omega, by omega, inR64 (by omega) (by omega), by omega, by omega, hloop2 true, hsl.symm, Nat.le_refl _, by rw [hsl]; omega, trivial⟩

def sigPShr : List AV → Option (AV × List Prop)
  | [.sl 1 (.ints .u32 a) _, .v (.int .i64 n)] => some (.tup [.sl 1 (.ints .u32 (ShrN (nat a) n).1) false, .v (.bool (ShrN (nat a) n).2)], [Words a, a.length ≤ lim4, n ≤ 9223372036854775807])
  | _ => none

def SG14 : SGT := (30, .p sigPShr) :: SG13

theorem sok14 : SigsOK Try.prog SG14 := by
  refine sigs_cons sok13 ?_
  intro ys r c h hc
  unfold sigPShr at h
  split at h
  · cases h; exact pshr_pure _ _ _ hc.1 hc.2.1 hc.2.2.1
  · cases h

theorem shrN_len (m : Nat) (n : Int) : (ShrN m n).1.length ≤ (dig m).length := by
  unfold ShrN
  split
  · exact Nat.le_refl _
  · have : ¬ (dig m).length < (dig (m / 2 ^ n.toNat)).length := by
      rw [dig_len]
      intro h
      have h2 : ¬ (dig m).length < (dig m).length := by omega
      rw [dig_len] at h2
      exact h2 (Nat.le_trans h (Nat.div_le_self _ _))
    exact Nat.not_lt.1 this

theorem shlN_len (m : Nat) (n : Int) : (ShlN m n).1.length ≤ 1024 := by
  unfold ShlN
  repeat' split
  all_goals first | simp; done | skip
  next h => exact small_len (by simpa using h)

end Go.Proofs.Bn

/- Bignum: walks, written by the tool. -/
set_option maxRecDepth 100000
namespace Go.Proofs.Bn
open Go Go.Ev
def smallS0 (a : List Int) (ta : Bool) (d : Int) (x0 : Int) (x1 : Int) (l0 : List Int) (n0 : Nat) (n1 : Nat) : AS := { n := 44, fr := [(0, AV.sl 1 (.ints .u32 a) ta), (1, AV.v (.int .u32 d)), (6, AV.row 4 0 n1 n1 false), (7, AV.v (.int .u64 x0)), (8, AV.v (.int .i64 x1))], hp := [(4, AObj.row 22 1 (.ints .u32 l0) n0)], nx := 5 }
def smallX0 (a : List Int) (ta : Bool) (d : Int) (x2 : Int) (l1 : List Int) (n2 : Nat) (n3 : Nat) : AS := { n := 44, fr := [(6, AV.row 4 0 n3 n3 false), (7, AV.v (.int .u64 x2))], hp := [(4, AObj.row 22 1 (.ints .u32 l1) n2)], nx := 5 }
def rsmallS0 (a : List Int) (ta : Bool) (d : Int) (x0 : Int) (x1 : Int) (l0 : List Int) (n0 : Nat) (n1 : Nat) : AS := { n := 44, fr := [(0, AV.sl 1 (.ints .u32 a) ta), (1, AV.v (.int .u32 d)), (6, AV.row 4 0 n1 n1 false), (7, AV.v (.int .u64 x0)), (8, AV.v (.int .i64 x1))], hp := [(4, AObj.row 22 1 (.ints .u32 l0) n0)], nx := 5 }
def rsmallX0 (a : List Int) (ta : Bool) (d : Int) (x2 : Int) (l1 : List Int) (n2 : Nat) (n3 : Nat) : AS := { n := 44, fr := [(6, AV.row 4 0 n3 n3 false), (7, AV.v (.int .u64 x2))], hp := [(4, AObj.row 22 1 (.ints .u32 l1) n2)], nx := 5 }
def revS0 (l : List Int) (fl n : Nat) (t : Bool) (x0 : Int) (x1 : Int) (l0 : List Int) (n0 : Nat) : AS := { n := 28, fr := [(0, AV.row 4294967296 0 n n t), (2, AV.v (.int .i64 x0)), (3, AV.v (.int .i64 x1))], hp := [(4294967296, AObj.row 5 1 (.ints .u8 l0) n0)], nx := 0 }
def revX0 (l : List Int) (fl n : Nat) (t : Bool) (l1 : List Int) (n1 : Nat) : AS := { n := 28, fr := [], hp := [(4294967296, AObj.row 5 1 (.ints .u8 l1) n1)], nx := 0 }
-- 15 paths
theorem digitF1 (c : Int) (h : AllP [decide (c ≥ (48 : Int)) = true, decide (c ≤ (57 : Int)) = true, inR IntKind.i64 ((c - (48 : Int)) % (256 : Int))]) : PureTo Try.prog 60 [.v (.int .u8 c)] (AV.v (.int .i64 ((c - (48 : Int)) % (256 : Int)))) :=
  evFn_pure hm sok14 (fn := Try.f60) rfl rfl (ti := false) (hs := [CHint.ops 1 [(1, Hint.b true), (4, Hint.b true)], CHint.ops 2 [(1, Hint.wrap)]]) (c := _) (by kernel_rfl) h
theorem digitF2 (c : Int) (h : AllP [decide (c ≥ (48 : Int)) = true, decide (c ≤ (57 : Int)) = false, decide (c ≥ (97 : Int)) = true, decide (c ≤ (122 : Int)) = true, inR IntKind.i64 ((c - (97 : Int)) % (256 : Int)), inR IntKind.i64 ((c - (97 : Int)) % (256 : Int) + (10 : Int))]) : PureTo Try.prog 60 [.v (.int .u8 c)] (AV.v (.int .i64 ((c - (97 : Int)) % (256 : Int) + (10 : Int)))) :=
  evFn_pure hm sok14 (fn := Try.f60) rfl rfl (ti := false) (hs := [CHint.ops 1 [(1, Hint.b true), (4, Hint.b false)], CHint.ops 3 [(1, Hint.b true), (4, Hint.b true)], CHint.ops 4 [(1, Hint.wrap)]]) (c := _) (by kernel_rfl) h
theorem digitF3 (c : Int) (h : AllP [decide (c ≥ (48 : Int)) = true, decide (c ≤ (57 : Int)) = false, decide (c ≥ (97 : Int)) = true, decide (c ≤ (122 : Int)) = false, decide (c ≥ (65 : Int)) = true, decide (c ≤ (90 : Int)) = true, inR IntKind.i64 ((c - (65 : Int)) % (256 : Int)), inR IntKind.i64 ((c - (65 : Int)) % (256 : Int) + (10 : Int))]) : PureTo Try.prog 60 [.v (.int .u8 c)] (AV.v (.int .i64 ((c - (65 : Int)) % (256 : Int) + (10 : Int)))) :=
  evFn_pure hm sok14 (fn := Try.f60) rfl rfl (ti := false) (hs := [CHint.ops 1 [(1, Hint.b true), (4, Hint.b false)], CHint.ops 3 [(1, Hint.b true), (4, Hint.b false)], CHint.ops 5 [(1, Hint.b true), (4, Hint.b true)], CHint.ops 6 [(1, Hint.wrap)]]) (c := _) (by kernel_rfl) h
theorem digitF4 (c : Int) (h : AllP [decide (c ≥ (48 : Int)) = true, decide (c ≤ (57 : Int)) = false, decide (c ≥ (97 : Int)) = true, decide (c ≤ (122 : Int)) = false, decide (c ≥ (65 : Int)) = true, decide (c ≤ (90 : Int)) = false]) : PureTo Try.prog 60 [.v (.int .u8 c)] (AV.v (.int .i64 (99 : Int))) :=
  evFn_pure hm sok14 (fn := Try.f60) rfl rfl (ti := false) (hs := [CHint.ops 1 [(1, Hint.b true), (4, Hint.b false)], CHint.ops 3 [(1, Hint.b true), (4, Hint.b false)], CHint.ops 5 [(1, Hint.b true), (4, Hint.b false)]]) (c := _) (by kernel_rfl) h
theorem digitF5 (c : Int) (h : AllP [decide (c ≥ (48 : Int)) = true, decide (c ≤ (57 : Int)) = false, decide (c ≥ (97 : Int)) = true, decide (c ≤ (122 : Int)) = false, decide (c ≥ (65 : Int)) = false]) : PureTo Try.prog 60 [.v (.int .u8 c)] (AV.v (.int .i64 (99 : Int))) :=
  evFn_pure hm sok14 (fn := Try.f60) rfl rfl (ti := false) (hs := [CHint.ops 1 [(1, Hint.b true), (4, Hint.b false)], CHint.ops 3 [(1, Hint.b true), (4, Hint.b false)], CHint.ops 5 [(1, Hint.b false)]]) (c := _) (by kernel_rfl) h
theorem digitF6 (c : Int) (h : AllP [decide (c ≥ (48 : Int)) = true, decide (c ≤ (57 : Int)) = false, decide (c ≥ (97 : Int)) = false, decide (c ≥ (65 : Int)) = true, decide (c ≤ (90 : Int)) = true, inR IntKind.i64 ((c - (65 : Int)) % (256 : Int)), inR IntKind.i64 ((c - (65 : Int)) % (256 : Int) + (10 : Int))]) : PureTo Try.prog 60 [.v (.int .u8 c)] (AV.v (.int .i64 ((c - (65 : Int)) % (256 : Int) + (10 : Int)))) :=
  evFn_pure hm sok14 (fn := Try.f60) rfl rfl (ti := false) (hs := [CHint.ops 1 [(1, Hint.b true), (4, Hint.b false)], CHint.ops 3 [(1, Hint.b false)], CHint.ops 5 [(1, Hint.b true), (4, Hint.b true)], CHint.ops 6 [(1, Hint.wrap)]]) (c := _) (by kernel_rfl) h
theorem digitF7 (c : Int) (h : AllP [decide (c ≥ (48 : Int)) = true, decide (c ≤ (57 : Int)) = false, decide (c ≥ (97 : Int)) = false, decide (c ≥ (65 : Int)) = true, decide (c ≤ (90 : Int)) = false]) : PureTo Try.prog 60 [.v (.int .u8 c)] (AV.v (.int .i64 (99 : Int))) :=
  evFn_pure hm sok14 (fn := Try.f60) rfl rfl (ti := false) (hs := [CHint.ops 1 [(1, Hint.b true), (4, Hint.b false)], CHint.ops 3 [(1, Hint.b false)], CHint.ops 5 [(1, Hint.b true), (4, Hint.b false)]]) (c := _) (by kernel_rfl) h
theorem digitF8 (c : Int) (h : AllP [decide (c ≥ (48 : Int)) = true, decide (c ≤ (57 : Int)) = false, decide (c ≥ (97 : Int)) = false, decide (c ≥ (65 : Int)) = false]) : PureTo Try.prog 60 [.v (.int .u8 c)] (AV.v (.int .i64 (99 : Int))) :=
  evFn_pure hm sok14 (fn := Try.f60) rfl rfl (ti := false) (hs := [CHint.ops 1 [(1, Hint.b true), (4, Hint.b false)], CHint.ops 3 [(1, Hint.b false)], CHint.ops 5 [(1, Hint.b false)]]) (c := _) (by kernel_rfl) h
theorem digitF9 (c : Int) (h : AllP [decide (c ≥ (48 : Int)) = false, decide (c ≥ (97 : Int)) = true, decide (c ≤ (122 : Int)) = true, inR IntKind.i64 ((c - (97 : Int)) % (256 : Int)), inR IntKind.i64 ((c - (97 : Int)) % (256 : Int) + (10 : Int))]) : PureTo Try.prog 60 [.v (.int .u8 c)] (AV.v (.int .i64 ((c - (97 : Int)) % (256 : Int) + (10 : Int)))) :=
  evFn_pure hm sok14 (fn := Try.f60) rfl rfl (ti := false) (hs := [CHint.ops 1 [(1, Hint.b false)], CHint.ops 3 [(1, Hint.b true), (4, Hint.b true)], CHint.ops 4 [(1, Hint.wrap)]]) (c := _) (by kernel_rfl) h
theorem digitF10 (c : Int) (h : AllP [decide (c ≥ (48 : Int)) = false, decide (c ≥ (97 : Int)) = true, decide (c ≤ (122 : Int)) = false, decide (c ≥ (65 : Int)) = true, decide (c ≤ (90 : Int)) = true, inR IntKind.i64 ((c - (65 : Int)) % (256 : Int)), inR IntKind.i64 ((c - (65 : Int)) % (256 : Int) + (10 : Int))]) : PureTo Try.prog 60 [.v (.int .u8 c)] (AV.v (.int .i64 ((c - (65 : Int)) % (256 : Int) + (10 : Int)))) :=
  evFn_pure hm sok14 (fn := Try.f60) rfl rfl (ti := false) (hs := [CHint.ops 1 [(1, Hint.b false)], CHint.ops 3 [(1, Hint.b true), (4, Hint.b false)], CHint.ops 5 [(1, Hint.b true), (4, Hint.b true)], CHint.ops 6 [(1, Hint.wrap)]]) (c := _) (by kernel_rfl) h
theorem digitF11 (c : Int) (h : AllP [decide (c ≥ (48 : Int)) = false, decide (c ≥ (97 : Int)) = true, decide (c ≤ (122 : Int)) = false, decide (c ≥ (65 : Int)) = true, decide (c ≤ (90 : Int)) = false]) : PureTo Try.prog 60 [.v (.int .u8 c)] (AV.v (.int .i64 (99 : Int))) :=
  evFn_pure hm sok14 (fn := Try.f60) rfl rfl (ti := false) (hs := [CHint.ops 1 [(1, Hint.b false)], CHint.ops 3 [(1, Hint.b true), (4, Hint.b false)], CHint.ops 5 [(1, Hint.b true), (4, Hint.b false)]]) (c := _) (by kernel_rfl) h
theorem digitF12 (c : Int) (h : AllP [decide (c ≥ (48 : Int)) = false, decide (c ≥ (97 : Int)) = true, decide (c ≤ (122 : Int)) = false, decide (c ≥ (65 : Int)) = false]) : PureTo Try.prog 60 [.v (.int .u8 c)] (AV.v (.int .i64 (99 : Int))) :=
  evFn_pure hm sok14 (fn := Try.f60) rfl rfl (ti := false) (hs := [CHint.ops 1 [(1, Hint.b false)], CHint.ops 3 [(1, Hint.b true), (4, Hint.b false)], CHint.ops 5 [(1, Hint.b false)]]) (c := _) (by kernel_rfl) h
theorem digitF13 (c : Int) (h : AllP [decide (c ≥ (48 : Int)) = false, decide (c ≥ (97 : Int)) = false, decide (c ≥ (65 : Int)) = true, decide (c ≤ (90 : Int)) = true, inR IntKind.i64 ((c - (65 : Int)) % (256 : Int)), inR IntKind.i64 ((c - (65 : Int)) % (256 : Int) + (10 : Int))]) : PureTo Try.prog 60 [.v (.int .u8 c)] (AV.v (.int .i64 ((c - (65 : Int)) % (256 : Int) + (10 : Int)))) :=
  evFn_pure hm sok14 (fn := Try.f60) rfl rfl (ti := false) (hs := [CHint.ops 1 [(1, Hint.b false)], CHint.ops 3 [(1, Hint.b false)], CHint.ops 5 [(1, Hint.b true), (4, Hint.b true)], CHint.ops 6 [(1, Hint.wrap)]]) (c := _) (by kernel_rfl) h
theorem digitF14 (c : Int) (h : AllP [decide (c ≥ (48 : Int)) = false, decide (c ≥ (97 : Int)) = false, decide (c ≥ (65 : Int)) = true, decide (c ≤ (90 : Int)) = false]) : PureTo Try.prog 60 [.v (.int .u8 c)] (AV.v (.int .i64 (99 : Int))) :=
  evFn_pure hm sok14 (fn := Try.f60) rfl rfl (ti := false) (hs := [CHint.ops 1 [(1, Hint.b false)], CHint.ops 3 [(1, Hint.b false)], CHint.ops 5 [(1, Hint.b true), (4, Hint.b false)]]) (c := _) (by kernel_rfl) h
theorem digitF15 (c : Int) (h : AllP [decide (c ≥ (48 : Int)) = false, decide (c ≥ (97 : Int)) = false, decide (c ≥ (65 : Int)) = false]) : PureTo Try.prog 60 [.v (.int .u8 c)] (AV.v (.int .i64 (99 : Int))) :=
  evFn_pure hm sok14 (fn := Try.f60) rfl rfl (ti := false) (hs := [CHint.ops 1 [(1, Hint.b false)], CHint.ops 3 [(1, Hint.b false)], CHint.ops 5 [(1, Hint.b false)]]) (c := _) (by kernel_rfl) h
-- 15 paths
theorem rdigitF1 (c : Int) (h : AllP [decide (c ≥ (48 : Int)) = true, decide (c ≤ (57 : Int)) = true, inR IntKind.i64 ((c - (48 : Int)) % (256 : Int))]) : PureTo Try.prog 61 [.v (.int .u8 c)] (AV.v (.int .i64 ((c - (48 : Int)) % (256 : Int)))) :=
  evFn_pure hm sok14 (fn := Try.f61) rfl rfl (ti := false) (hs := [CHint.ops 1 [(1, Hint.b true), (4, Hint.b true)], CHint.ops 2 [(1, Hint.wrap)]]) (c := _) (by kernel_rfl) h
theorem rdigitF2 (c : Int) (h : AllP [decide (c ≥ (48 : Int)) = true, decide (c ≤ (57 : Int)) = false, decide (c ≥ (97 : Int)) = true, decide (c ≤ (122 : Int)) = true, inR IntKind.i64 ((c - (97 : Int)) % (256 : Int)), inR IntKind.i64 ((c - (97 : Int)) % (256 : Int) + (10 : Int))]) : PureTo Try.prog 61 [.v (.int .u8 c)] (AV.v (.int .i64 ((c - (97 : Int)) % (256 : Int) + (10 : Int)))) :=
  evFn_pure hm sok14 (fn := Try.f61) rfl rfl (ti := false) (hs := [CHint.ops 1 [(1, Hint.b true), (4, Hint.b false)], CHint.ops 3 [(1, Hint.b true), (4, Hint.b true)], CHint.ops 4 [(1, Hint.wrap)]]) (c := _) (by kernel_rfl) h
theorem rdigitF3 (c : Int) (h : AllP [decide (c ≥ (48 : Int)) = true, decide (c ≤ (57 : Int)) = false, decide (c ≥ (97 : Int)) = true, decide (c ≤ (122 : Int)) = false, decide (c ≥ (65 : Int)) = true, decide (c ≤ (90 : Int)) = true, inR IntKind.i64 ((c - (65 : Int)) % (256 : Int)), inR IntKind.i64 ((c - (65 : Int)) % (256 : Int) + (10 : Int))]) : PureTo Try.prog 61 [.v (.int .u8 c)] (AV.v (.int .i64 ((c - (65 : Int)) % (256 : Int) + (10 : Int)))) :=
  evFn_pure hm sok14 (fn := Try.f61) rfl rfl (ti := false) (hs := [CHint.ops 1 [(1, Hint.b true), (4, Hint.b false)], CHint.ops 3 [(1, Hint.b true), (4, Hint.b false)], CHint.ops 5 [(1, Hint.b true), (4, Hint.b true)], CHint.ops 6 [(1, Hint.wrap)]]) (c := _) (by kernel_rfl) h
theorem rdigitF4 (c : Int) (h : AllP [decide (c ≥ (48 : Int)) = true, decide (c ≤ (57 : Int)) = false, decide (c ≥ (97 : Int)) = true, decide (c ≤ (122 : Int)) = false, decide (c ≥ (65 : Int)) = true, decide (c ≤ (90 : Int)) = false]) : PureTo Try.prog 61 [.v (.int .u8 c)] (AV.v (.int .i64 (99 : Int))) :=
  evFn_pure hm sok14 (fn := Try.f61) rfl rfl (ti := false) (hs := [CHint.ops 1 [(1, Hint.b true), (4, Hint.b false)], CHint.ops 3 [(1, Hint.b true), (4, Hint.b false)], CHint.ops 5 [(1, Hint.b true), (4, Hint.b false)]]) (c := _) (by kernel_rfl) h
theorem rdigitF5 (c : Int) (h : AllP [decide (c ≥ (48 : Int)) = true, decide (c ≤ (57 : Int)) = false, decide (c ≥ (97 : Int)) = true, decide (c ≤ (122 : Int)) = false, decide (c ≥ (65 : Int)) = false]) : PureTo Try.prog 61 [.v (.int .u8 c)] (AV.v (.int .i64 (99 : Int))) :=
  evFn_pure hm sok14 (fn := Try.f61) rfl rfl (ti := false) (hs := [CHint.ops 1 [(1, Hint.b true), (4, Hint.b false)], CHint.ops 3 [(1, Hint.b true), (4, Hint.b false)], CHint.ops 5 [(1, Hint.b false)]]) (c := _) (by kernel_rfl) h
theorem rdigitF6 (c : Int) (h : AllP [decide (c ≥ (48 : Int)) = true, decide (c ≤ (57 : Int)) = false, decide (c ≥ (97 : Int)) = false, decide (c ≥ (65 : Int)) = true, decide (c ≤ (90 : Int)) = true, inR IntKind.i64 ((c - (65 : Int)) % (256 : Int)), inR IntKind.i64 ((c - (65 : Int)) % (256 : Int) + (10 : Int))]) : PureTo Try.prog 61 [.v (.int .u8 c)] (AV.v (.int .i64 ((c - (65 : Int)) % (256 : Int) + (10 : Int)))) :=
  evFn_pure hm sok14 (fn := Try.f61) rfl rfl (ti := false) (hs := [CHint.ops 1 [(1, Hint.b true), (4, Hint.b false)], CHint.ops 3 [(1, Hint.b false)], CHint.ops 5 [(1, Hint.b true), (4, Hint.b true)], CHint.ops 6 [(1, Hint.wrap)]]) (c := _) (by kernel_rfl) h
theorem rdigitF7 (c : Int) (h : AllP [decide (c ≥ (48 : Int)) = true, decide (c ≤ (57 : Int)) = false, decide (c ≥ (97 : Int)) = false, decide (c ≥ (65 : Int)) = true, decide (c ≤ (90 : Int)) = false]) : PureTo Try.prog 61 [.v (.int .u8 c)] (AV.v (.int .i64 (99 : Int))) :=
  evFn_pure hm sok14 (fn := Try.f61) rfl rfl (ti := false) (hs := [CHint.ops 1 [(1, Hint.b true), (4, Hint.b false)], CHint.ops 3 [(1, Hint.b false)], CHint.ops 5 [(1, Hint.b true), (4, Hint.b false)]]) (c := _) (by kernel_rfl) h
theorem rdigitF8 (c : Int) (h : AllP [decide (c ≥ (48 : Int)) = true, decide (c ≤ (57 : Int)) = false, decide (c ≥ (97 : Int)) = false, decide (c ≥ (65 : Int)) = false]) : PureTo Try.prog 61 [.v (.int .u8 c)] (AV.v (.int .i64 (99 : Int))) :=
  evFn_pure hm sok14 (fn := Try.f61) rfl rfl (ti := false) (hs := [CHint.ops 1 [(1, Hint.b true), (4, Hint.b false)], CHint.ops 3 [(1, Hint.b false)], CHint.ops 5 [(1, Hint.b false)]]) (c := _) (by kernel_rfl) h
theorem rdigitF9 (c : Int) (h : AllP [decide (c ≥ (48 : Int)) = false, decide (c ≥ (97 : Int)) = true, decide (c ≤ (122 : Int)) = true, inR IntKind.i64 ((c - (97 : Int)) % (256 : Int)), inR IntKind.i64 ((c - (97 : Int)) % (256 : Int) + (10 : Int))]) : PureTo Try.prog 61 [.v (.int .u8 c)] (AV.v (.int .i64 ((c - (97 : Int)) % (256 : Int) + (10 : Int)))) :=
  evFn_pure hm sok14 (fn := Try.f61) rfl rfl (ti := false) (hs := [CHint.ops 1 [(1, Hint.b false)], CHint.ops 3 [(1, Hint.b true), (4, Hint.b true)], CHint.ops 4 [(1, Hint.wrap)]]) (c := _) (by kernel_rfl) h
theorem rdigitF10 (c : Int) (h : AllP [decide (c ≥ (48 : Int)) = false, decide (c ≥ (97 : Int)) = true, decide (c ≤ (122 : Int)) = false, decide (c ≥ (65 : Int)) = true, decide (c ≤ (90 : Int)) = true, inR IntKind.i64 ((c - (65 : Int)) % (256 : Int)), inR IntKind.i64 ((c - (65 : Int)) % (256 : Int) + (10 : Int))]) : PureTo Try.prog 61 [.v (.int .u8 c)] (AV.v (.int .i64 ((c - (65 : Int)) % (256 : Int) + (10 : Int)))) :=
  evFn_pure hm sok14 (fn := Try.f61) rfl rfl (ti := false) (hs := [CHint.ops 1 [(1, Hint.b false)], CHint.ops 3 [(1, Hint.b true), (4, Hint.b false)], CHint.ops 5 [(1, Hint.b true), (4, Hint.b true)], CHint.ops 6 [(1, Hint.wrap)]]) (c := _) (by kernel_rfl) h
theorem rdigitF11 (c : Int) (h : AllP [decide (c ≥ (48 : Int)) = false, decide (c ≥ (97 : Int)) = true, decide (c ≤ (122 : Int)) = false, decide (c ≥ (65 : Int)) = true, decide (c ≤ (90 : Int)) = false]) : PureTo Try.prog 61 [.v (.int .u8 c)] (AV.v (.int .i64 (99 : Int))) :=
  evFn_pure hm sok14 (fn := Try.f61) rfl rfl (ti := false) (hs := [CHint.ops 1 [(1, Hint.b false)], CHint.ops 3 [(1, Hint.b true), (4, Hint.b false)], CHint.ops 5 [(1, Hint.b true), (4, Hint.b false)]]) (c := _) (by kernel_rfl) h
theorem rdigitF12 (c : Int) (h : AllP [decide (c ≥ (48 : Int)) = false, decide (c ≥ (97 : Int)) = true, decide (c ≤ (122 : Int)) = false, decide (c ≥ (65 : Int)) = false]) : PureTo Try.prog 61 [.v (.int .u8 c)] (AV.v (.int .i64 (99 : Int))) :=
  evFn_pure hm sok14 (fn := Try.f61) rfl rfl (ti := false) (hs := [CHint.ops 1 [(1, Hint.b false)], CHint.ops 3 [(1, Hint.b true), (4, Hint.b false)], CHint.ops 5 [(1, Hint.b false)]]) (c := _) (by kernel_rfl) h
theorem rdigitF13 (c : Int) (h : AllP [decide (c ≥ (48 : Int)) = false, decide (c ≥ (97 : Int)) = false, decide (c ≥ (65 : Int)) = true, decide (c ≤ (90 : Int)) = true, inR IntKind.i64 ((c - (65 : Int)) % (256 : Int)), inR IntKind.i64 ((c - (65 : Int)) % (256 : Int) + (10 : Int))]) : PureTo Try.prog 61 [.v (.int .u8 c)] (AV.v (.int .i64 ((c - (65 : Int)) % (256 : Int) + (10 : Int)))) :=
  evFn_pure hm sok14 (fn := Try.f61) rfl rfl (ti := false) (hs := [CHint.ops 1 [(1, Hint.b false)], CHint.ops 3 [(1, Hint.b false)], CHint.ops 5 [(1, Hint.b true), (4, Hint.b true)], CHint.ops 6 [(1, Hint.wrap)]]) (c := _) (by kernel_rfl) h
theorem rdigitF14 (c : Int) (h : AllP [decide (c ≥ (48 : Int)) = false, decide (c ≥ (97 : Int)) = false, decide (c ≥ (65 : Int)) = true, decide (c ≤ (90 : Int)) = false]) : PureTo Try.prog 61 [.v (.int .u8 c)] (AV.v (.int .i64 (99 : Int))) :=
  evFn_pure hm sok14 (fn := Try.f61) rfl rfl (ti := false) (hs := [CHint.ops 1 [(1, Hint.b false)], CHint.ops 3 [(1, Hint.b false)], CHint.ops 5 [(1, Hint.b true), (4, Hint.b false)]]) (c := _) (by kernel_rfl) h
theorem rdigitF15 (c : Int) (h : AllP [decide (c ≥ (48 : Int)) = false, decide (c ≥ (97 : Int)) = false, decide (c ≥ (65 : Int)) = false]) : PureTo Try.prog 61 [.v (.int .u8 c)] (AV.v (.int .i64 (99 : Int))) :=
  evFn_pure hm sok14 (fn := Try.f61) rfl rfl (ti := false) (hs := [CHint.ops 1 [(1, Hint.b false)], CHint.ops 3 [(1, Hint.b false)], CHint.ops 5 [(1, Hint.b false)]]) (c := _) (by kernel_rfl) h
-- 2 paths
theorem smallL0_1 (a : List Int) (ta : Bool) (d : Int) (x0 : Int) (x1 : Int) (l0 : List Int) (n0 : Nat) (n1 : Nat) (h : AllP [decide (x1 ≥ (0 : Int)) = true, (0 : Int) ≤ (32 : Int), inR IntKind.u64 (x0 * (4294967296 : Int)), (0 : Int) ≤ x1 ∧ x1 < (↑a.length : Int), inR IntKind.u64 (a.getD x1.toNat (0 : Int)), inR IntKind.u64 d, d ≠ (0 : Int), inR IntKind.u64 ((bitsOf BinOp.or IntKind.u64 (x0 * (4294967296 : Int)) (a.getD x1.toNat (0 : Int))).tdiv d), (0 : Int) ≤ x1 ∧ x1 < (↑n1 : Int), n1 = l0.length, inR IntKind.u64 d, d ≠ (0 : Int), inR IntKind.i64 (x1 - (1 : Int))]) : To Try.prog (loopAt Try.f57 0) ({ n := 44, fr := [(0, AV.sl 1 (.ints .u32 a) ta), (1, AV.v (.int .u32 d)), (6, AV.row 4 0 n1 n1 false), (7, AV.v (.int .u64 x0)), (8, AV.v (.int .i64 x1))], hp := [(4, AObj.row 22 1 (.ints .u32 l0) n0)], nx := 5 }) (.normal) { n := 44, fr := [(0, AV.sl 1 (.ints .u32 a) ta), (1, AV.v (.int .u32 d)), (6, AV.row 4 0 n1 n1 false), (7, AV.v (.int .u64 ((bitsOf BinOp.or IntKind.u64 (x0 * (4294967296 : Int)) (a.getD x1.toNat (0 : Int))).tmod d))), (8, AV.v (.int .i64 (x1 - (1 : Int))))], hp := [(4, AObj.row 22 1 (.ints .u32 (l0.set (ixPlus 0 x1.toNat) ((bitsOf BinOp.or IntKind.u64 (x0 * (4294967296 : Int)) (a.getD x1.toNat (0 : Int))).tdiv d % (4294967296 : Int)))) l0.length)], nx := 5 } :=
  evW_to hm sok14 (hs := [CHint.ops 4 [(1, Hint.b true)]]) (slots := [0, 1, 6, 7, 8]) (keys := [4]) (nx := 5) (c := _) (by kernel_rfl) h
theorem smallL0_2 (a : List Int) (ta : Bool) (d : Int) (x0 : Int) (x1 : Int) (l0 : List Int) (n0 : Nat) (n1 : Nat) (h : AllP [decide (x1 ≥ (0 : Int)) = false]) : To Try.prog (loopAt Try.f57 0) ({ n := 44, fr := [(0, AV.sl 1 (.ints .u32 a) ta), (1, AV.v (.int .u32 d)), (6, AV.row 4 0 n1 n1 false), (7, AV.v (.int .u64 x0)), (8, AV.v (.int .i64 x1))], hp := [(4, AObj.row 22 1 (.ints .u32 l0) n0)], nx := 5 }) (Exit.exit 0) { n := 44, fr := [(6, AV.row 4 0 n1 n1 false), (7, AV.v (.int .u64 x0))], hp := [(4, AObj.row 22 1 (.ints .u32 l0) n0)], nx := 5 } :=
  evW_to hm sok14 (hs := [CHint.ops 4 [(1, Hint.b false)]]) (slots := [6, 7]) (keys := [4]) (nx := 5) (c := _) (by kernel_rfl) h
-- 1 paths
theorem smallF1 (a : List Int) (ta : Bool) (d : Int) (x2 : Int) (l1 : List Int) (n2 : Nat) (n3 : Nat) (h : AllP [(0 : Int) ≤ (↑a.length : Int) ∧ (↑a.length : Int) ≤ (↑a.length : Int), (↑a.length : Int) * (4 : Int) ≤ (281474976710656 : Int) ∧ (↑a.length : Int) ≤ (9223372036854775807 : Int), inR IntKind.i64 ((↑a.length : Int) - (1 : Int)), LoopTo Try.prog (loopAt Try.f57 0) { n := 44, fr := [(0, AV.sl 1 (.ints .u32 a) ta), (1, AV.v (.int .u32 d)), (6, AV.row 4 0 (↑a.length : Int).toNat (↑a.length : Int).toNat false), (7, AV.v (.int .u64 (0 : Int))), (8, AV.v (.int .i64 ((↑a.length : Int) - (1 : Int))))], hp := [(4, AObj.row 22 1 (.ints .u32 (List.replicate (↑a.length : Int).toNat (0 : Int))) 0)], nx := 5 } (Exit.exit 0) { n := 44, fr := [(6, AV.row 4 0 n3 n3 false), (7, AV.v (.int .u64 x2))], hp := [(4, AObj.row 22 1 (.ints .u32 l1) n2)], nx := 5 }, n3 = l1.length, n2 ≤ n3, l1.length < lim]) : PureTo Try.prog 57 [.sl 1 (.ints .u32 a) ta, .v (.int .u32 d)] (AV.tup [AV.sl 1 (.ints .u32 (norm l1)) false, AV.v (.int .u32 (x2 % (4294967296 : Int)))]) :=
  evFn_pure hm sok14 (fn := Try.f57) rfl rfl (ti := false) (hs := [CHint.loop [0, 1, 6, 7, 8] [4] 5 (Exit.exit 0) { n := 44, fr := [(6, AV.row 4 0 n3 n3 false), (7, AV.v (.int .u64 x2))], hp := [(4, AObj.row (22 : TypeId) 1 (.ints .u32 l1) n2)], nx := 5 }]) (c := _) (by kernel_rfl) h
-- 2 paths
theorem rsmallL0_1 (a : List Int) (ta : Bool) (d : Int) (x0 : Int) (x1 : Int) (l0 : List Int) (n0 : Nat) (n1 : Nat) (h : AllP [decide (x1 ≥ (0 : Int)) = true, (0 : Int) ≤ (32 : Int), inR IntKind.u64 (x0 * (4294967296 : Int)), (0 : Int) ≤ x1 ∧ x1 < (↑a.length : Int), inR IntKind.u64 (a.getD x1.toNat (0 : Int)), inR IntKind.u64 d, d ≠ (0 : Int), inR IntKind.u64 ((bitsOf BinOp.or IntKind.u64 (x0 * (4294967296 : Int)) (a.getD x1.toNat (0 : Int))).tdiv d), (0 : Int) ≤ x1 ∧ x1 < (↑n1 : Int), n1 = l0.length, inR IntKind.u64 d, d ≠ (0 : Int), inR IntKind.i64 (x1 - (1 : Int))]) : To Try.prog (loopAt Try.f59 0) ({ n := 44, fr := [(0, AV.sl 1 (.ints .u32 a) ta), (1, AV.v (.int .u32 d)), (6, AV.row 4 0 n1 n1 false), (7, AV.v (.int .u64 x0)), (8, AV.v (.int .i64 x1))], hp := [(4, AObj.row 22 1 (.ints .u32 l0) n0)], nx := 5 }) (.normal) { n := 44, fr := [(0, AV.sl 1 (.ints .u32 a) ta), (1, AV.v (.int .u32 d)), (6, AV.row 4 0 n1 n1 false), (7, AV.v (.int .u64 ((bitsOf BinOp.or IntKind.u64 (x0 * (4294967296 : Int)) (a.getD x1.toNat (0 : Int))).tmod d))), (8, AV.v (.int .i64 (x1 - (1 : Int))))], hp := [(4, AObj.row 22 1 (.ints .u32 (l0.set (ixPlus 0 x1.toNat) ((bitsOf BinOp.or IntKind.u64 (x0 * (4294967296 : Int)) (a.getD x1.toNat (0 : Int))).tdiv d % (4294967296 : Int)))) l0.length)], nx := 5 } :=
  evW_to hm sok14 (hs := [CHint.ops 4 [(1, Hint.b true)]]) (slots := [0, 1, 6, 7, 8]) (keys := [4]) (nx := 5) (c := _) (by kernel_rfl) h
theorem rsmallL0_2 (a : List Int) (ta : Bool) (d : Int) (x0 : Int) (x1 : Int) (l0 : List Int) (n0 : Nat) (n1 : Nat) (h : AllP [decide (x1 ≥ (0 : Int)) = false]) : To Try.prog (loopAt Try.f59 0) ({ n := 44, fr := [(0, AV.sl 1 (.ints .u32 a) ta), (1, AV.v (.int .u32 d)), (6, AV.row 4 0 n1 n1 false), (7, AV.v (.int .u64 x0)), (8, AV.v (.int .i64 x1))], hp := [(4, AObj.row 22 1 (.ints .u32 l0) n0)], nx := 5 }) (Exit.exit 0) { n := 44, fr := [(6, AV.row 4 0 n1 n1 false), (7, AV.v (.int .u64 x0))], hp := [(4, AObj.row 22 1 (.ints .u32 l0) n0)], nx := 5 } :=
  evW_to hm sok14 (hs := [CHint.ops 4 [(1, Hint.b false)]]) (slots := [6, 7]) (keys := [4]) (nx := 5) (c := _) (by kernel_rfl) h
-- 1 paths
theorem rsmallF1 (a : List Int) (ta : Bool) (d : Int) (x2 : Int) (l1 : List Int) (n2 : Nat) (n3 : Nat) (h : AllP [(0 : Int) ≤ (↑a.length : Int) ∧ (↑a.length : Int) ≤ (↑a.length : Int), (↑a.length : Int) * (4 : Int) ≤ (281474976710656 : Int) ∧ (↑a.length : Int) ≤ (9223372036854775807 : Int), inR IntKind.i64 ((↑a.length : Int) - (1 : Int)), LoopTo Try.prog (loopAt Try.f59 0) { n := 44, fr := [(0, AV.sl 1 (.ints .u32 a) ta), (1, AV.v (.int .u32 d)), (6, AV.row 4 0 (↑a.length : Int).toNat (↑a.length : Int).toNat false), (7, AV.v (.int .u64 (0 : Int))), (8, AV.v (.int .i64 ((↑a.length : Int) - (1 : Int))))], hp := [(4, AObj.row 22 1 (.ints .u32 (List.replicate (↑a.length : Int).toNat (0 : Int))) 0)], nx := 5 } (Exit.exit 0) { n := 44, fr := [(6, AV.row 4 0 n3 n3 false), (7, AV.v (.int .u64 x2))], hp := [(4, AObj.row 22 1 (.ints .u32 l1) n2)], nx := 5 }, n3 = l1.length, n2 ≤ n3, l1.length ≤ lim4]) : PureTo Try.prog 59 [.sl 1 (.ints .u32 a) ta, .v (.int .u32 d)] (AV.tup [AV.sl 1 (.ints .u32 (norm l1)) false, AV.v (.int .u32 (x2 % (4294967296 : Int)))]) :=
  evFn_pure hm sok14 (fn := Try.f59) rfl rfl (ti := false) (hs := [CHint.loop [0, 1, 6, 7, 8] [4] 5 (Exit.exit 0) { n := 44, fr := [(6, AV.row 4 0 n3 n3 false), (7, AV.v (.int .u64 x2))], hp := [(4, AObj.row (22 : TypeId) 1 (.ints .u32 l1) n2)], nx := 5 }]) (c := _) (by kernel_rfl) h
-- 2 paths
theorem revL0_1 (l : List Int) (fl n : Nat) (t : Bool) (x0 : Int) (x1 : Int) (l0 : List Int) (n0 : Nat) (h : AllP [decide (x0 < x1) = true, (0 : Int) ≤ x1 ∧ x1 < (↑n : Int), n0 ≤ n, (0 : Int) ≤ x0 ∧ x0 < (↑n : Int), n0 ≤ n, (0 : Int) ≤ x0 ∧ x0 < (↑n : Int), n = l0.length, (0 : Int) ≤ x1 ∧ x1 < (↑n : Int), n = (l0.set (ixPlus 0 x0.toNat) (l0.getD (ixPlus 0 x1.toNat) (0 : Int))).length, inR IntKind.i64 (x0 + (1 : Int)), inR IntKind.i64 (x1 - (1 : Int))]) : To Try.prog (loopAt Try.f58 0) ({ n := 28, fr := [(0, AV.row 4294967296 0 n n t), (2, AV.v (.int .i64 x0)), (3, AV.v (.int .i64 x1))], hp := [(4294967296, AObj.row 5 1 (.ints .u8 l0) n0)], nx := 0 }) (.normal) { n := 28, fr := [(0, AV.row 4294967296 0 n n t), (2, AV.v (.int .i64 (x0 + (1 : Int)))), (3, AV.v (.int .i64 (x1 - (1 : Int))))], hp := [(4294967296, AObj.row 5 1 (.ints .u8 ((l0.set (ixPlus 0 x0.toNat) (l0.getD (ixPlus 0 x1.toNat) (0 : Int))).set (ixPlus 0 x1.toNat) (l0.getD (ixPlus 0 x0.toNat) (0 : Int)))) (l0.set (ixPlus 0 x0.toNat) (l0.getD (ixPlus 0 x1.toNat) (0 : Int))).length)], nx := 0 } :=
  evW_to hm sok14 (hs := [CHint.ops 1 [(2, Hint.b true)]]) (slots := [0, 2, 3]) (keys := [4294967296]) (nx := 0) (c := _) (by kernel_rfl) h
theorem revL0_2 (l : List Int) (fl n : Nat) (t : Bool) (x0 : Int) (x1 : Int) (l0 : List Int) (n0 : Nat) (h : AllP [decide (x0 < x1) = false]) : To Try.prog (loopAt Try.f58 0) ({ n := 28, fr := [(0, AV.row 4294967296 0 n n t), (2, AV.v (.int .i64 x0)), (3, AV.v (.int .i64 x1))], hp := [(4294967296, AObj.row 5 1 (.ints .u8 l0) n0)], nx := 0 }) (Exit.exit 0) { n := 28, fr := [], hp := [(4294967296, AObj.row 5 1 (.ints .u8 l0) n0)], nx := 0 } :=
  evW_to hm sok14 (hs := [CHint.ops 1 [(2, Hint.b false)]]) (slots := []) (keys := [4294967296]) (nx := 0) (c := _) (by kernel_rfl) h
-- 1 paths
theorem revF1 (l : List Int) (fl n : Nat) (t : Bool) (l1 : List Int) (n1 : Nat) (h : AllP [inR IntKind.i64 ((↑n : Int) - (1 : Int)), LoopTo Try.prog (loopAt Try.f58 0) { n := 28, fr := [(0, AV.row 4294967296 0 n n t), (2, AV.v (.int .i64 (0 : Int))), (3, AV.v (.int .i64 ((↑n : Int) - (1 : Int))))], hp := [(4294967296, AObj.row 5 1 (.ints .u8 l) fl)], nx := 0 } (Exit.exit 0) { n := 28, fr := [], hp := [(4294967296, AObj.row 5 1 (.ints .u8 l1) n1)], nx := 0 }]) : SharedTo Try.prog 58 [.row 5 1 (.ints .u8 l) fl] [.row rsv 0 n n t] (AV.tup []) [AObj.row 5 1 (.ints .u8 l1) n1] :=
  evFn_shared hm sok14 (fn := Try.f58) rfl rfl (ti := false) (ex := []) (hs := [CHint.loop [0, 2, 3] [4294967296] 0 (Exit.exit 0) { n := 28, fr := [], hp := [(4294967296, AObj.row (5 : TypeId) 1 (.ints .u8 l1) n1)], nx := 0 }]) (c := _) (by kernel_rfl) h
end Go.Proofs.Bn

/- Bignum: contracts: small, digit, Reverse. -/
set_option maxRecDepth 100000
namespace Go.Proofs.Bn
open Go Go.Ev

/-- a byte's worth as a digit -/
def dg (c : Int) : Int := if 48 ≤ c ∧ c ≤ 57 then c - 48 else if 97 ≤ c ∧ c ≤ 122 then c - 87 else if 65 ≤ c ∧ c ≤ 90 then c - 55 else 99

theorem pure_as {p : Program} {i : FuncId} {a : List AV} {v w : AV} (e : v = w) (h : PureTo p i a v) : PureTo p i a w := e ▸ h

theorem digit_pure (c : Int) (h0 : 0 ≤ c) (h1 : c < 256) : PureTo Try.prog 60 [.v (.int .u8 c)] (.v (.int .i64 (dg c))) := by
  by_cases a1 : c ≥ 48 <;> by_cases a2 : c ≤ 57 <;> by_cases a3 : c ≥ 97 <;> by_cases a4 : c ≤ 122 <;> by_cases a5 : c ≥ 65 <;> by_cases a6 : c ≤ 90 <;> first
    | (exfalso; omega)
    | (refine pure_as (congrArg (fun z => AV.v (.int .i64 z)) ?_) (digitF1 c ?_); (focus (unfold dg; (repeat' split) <;> omega)); (focus (simp only [AllP, inR, decide_eq_false_iff_not, decide_eq_true_eq, bne_iff_ne, beq_iff_eq, ne_eq, bne_eq_false_iff_eq, beq_eq_false_iff_ne]; (repeat' apply And.intro) <;> first | omega | exact trivial)))
    | (refine pure_as (congrArg (fun z => AV.v (.int .i64 z)) ?_) (digitF2 c ?_); (focus (unfold dg; (repeat' split) <;> omega)); (focus (simp only [AllP, inR, decide_eq_false_iff_not, decide_eq_true_eq, bne_iff_ne, beq_iff_eq, ne_eq, bne_eq_false_iff_eq, beq_eq_false_iff_ne]; (repeat' apply And.intro) <;> first | omega | exact trivial)))
    | (refine pure_as (congrArg (fun z => AV.v (.int .i64 z)) ?_) (digitF3 c ?_); (focus (unfold dg; (repeat' split) <;> omega)); (focus (simp only [AllP, inR, decide_eq_false_iff_not, decide_eq_true_eq, bne_iff_ne, beq_iff_eq, ne_eq, bne_eq_false_iff_eq, beq_eq_false_iff_ne]; (repeat' apply And.intro) <;> first | omega | exact trivial)))
    | (refine pure_as (congrArg (fun z => AV.v (.int .i64 z)) ?_) (digitF4 c ?_); (focus (unfold dg; (repeat' split) <;> omega)); (focus (simp only [AllP, inR, decide_eq_false_iff_not, decide_eq_true_eq, bne_iff_ne, beq_iff_eq, ne_eq, bne_eq_false_iff_eq, beq_eq_false_iff_ne]; (repeat' apply And.intro) <;> first | omega | exact trivial)))
    | (refine pure_as (congrArg (fun z => AV.v (.int .i64 z)) ?_) (digitF5 c ?_); (focus (unfold dg; (repeat' split) <;> omega)); (focus (simp only [AllP, inR, decide_eq_false_iff_not, decide_eq_true_eq, bne_iff_ne, beq_iff_eq, ne_eq, bne_eq_false_iff_eq, beq_eq_false_iff_ne]; (repeat' apply And.intro) <;> first | omega | exact trivial)))
    | (refine pure_as (congrArg (fun z => AV.v (.int .i64 z)) ?_) (digitF6 c ?_); (focus (unfold dg; (repeat' split) <;> omega)); (focus (simp only [AllP, inR, decide_eq_false_iff_not, decide_eq_true_eq, bne_iff_ne, beq_iff_eq, ne_eq, bne_eq_false_iff_eq, beq_eq_false_iff_ne]; (repeat' apply And.intro) <;> first | omega | exact trivial)))
    | (refine pure_as (congrArg (fun z => AV.v (.int .i64 z)) ?_) (digitF7 c ?_); (focus (unfold dg; (repeat' split) <;> omega)); (focus (simp only [AllP, inR, decide_eq_false_iff_not, decide_eq_true_eq, bne_iff_ne, beq_iff_eq, ne_eq, bne_eq_false_iff_eq, beq_eq_false_iff_ne]; (repeat' apply And.intro) <;> first | omega | exact trivial)))
    | (refine pure_as (congrArg (fun z => AV.v (.int .i64 z)) ?_) (digitF8 c ?_); (focus (unfold dg; (repeat' split) <;> omega)); (focus (simp only [AllP, inR, decide_eq_false_iff_not, decide_eq_true_eq, bne_iff_ne, beq_iff_eq, ne_eq, bne_eq_false_iff_eq, beq_eq_false_iff_ne]; (repeat' apply And.intro) <;> first | omega | exact trivial)))
    | (refine pure_as (congrArg (fun z => AV.v (.int .i64 z)) ?_) (digitF9 c ?_); (focus (unfold dg; (repeat' split) <;> omega)); (focus (simp only [AllP, inR, decide_eq_false_iff_not, decide_eq_true_eq, bne_iff_ne, beq_iff_eq, ne_eq, bne_eq_false_iff_eq, beq_eq_false_iff_ne]; (repeat' apply And.intro) <;> first | omega | exact trivial)))
    | (refine pure_as (congrArg (fun z => AV.v (.int .i64 z)) ?_) (digitF10 c ?_); (focus (unfold dg; (repeat' split) <;> omega)); (focus (simp only [AllP, inR, decide_eq_false_iff_not, decide_eq_true_eq, bne_iff_ne, beq_iff_eq, ne_eq, bne_eq_false_iff_eq, beq_eq_false_iff_ne]; (repeat' apply And.intro) <;> first | omega | exact trivial)))
    | (refine pure_as (congrArg (fun z => AV.v (.int .i64 z)) ?_) (digitF11 c ?_); (focus (unfold dg; (repeat' split) <;> omega)); (focus (simp only [AllP, inR, decide_eq_false_iff_not, decide_eq_true_eq, bne_iff_ne, beq_iff_eq, ne_eq, bne_eq_false_iff_eq, beq_eq_false_iff_ne]; (repeat' apply And.intro) <;> first | omega | exact trivial)))
    | (refine pure_as (congrArg (fun z => AV.v (.int .i64 z)) ?_) (digitF12 c ?_); (focus (unfold dg; (repeat' split) <;> omega)); (focus (simp only [AllP, inR, decide_eq_false_iff_not, decide_eq_true_eq, bne_iff_ne, beq_iff_eq, ne_eq, bne_eq_false_iff_eq, beq_eq_false_iff_ne]; (repeat' apply And.intro) <;> first | omega | exact trivial)))
    | (refine pure_as (congrArg (fun z => AV.v (.int .i64 z)) ?_) (digitF13 c ?_); (focus (unfold dg; (repeat' split) <;> omega)); (focus (simp only [AllP, inR, decide_eq_false_iff_not, decide_eq_true_eq, bne_iff_ne, beq_iff_eq, ne_eq, bne_eq_false_iff_eq, beq_eq_false_iff_ne]; (repeat' apply And.intro) <;> first | omega | exact trivial)))
    | (refine pure_as (congrArg (fun z => AV.v (.int .i64 z)) ?_) (digitF14 c ?_); (focus (unfold dg; (repeat' split) <;> omega)); (focus (simp only [AllP, inR, decide_eq_false_iff_not, decide_eq_true_eq, bne_iff_ne, beq_iff_eq, ne_eq, bne_eq_false_iff_eq, beq_eq_false_iff_ne]; (repeat' apply And.intro) <;> first | omega | exact trivial)))
    | (refine pure_as (congrArg (fun z => AV.v (.int .i64 z)) ?_) (digitF15 c ?_); (focus (unfold dg; (repeat' split) <;> omega)); (focus (simp only [AllP, inR, decide_eq_false_iff_not, decide_eq_true_eq, bne_iff_ne, beq_iff_eq, ne_eq, bne_eq_false_iff_eq, beq_eq_false_iff_ne]; (repeat' apply And.intro) <;> first | omega | exact trivial)))

theorem rdigit_pure (c : Int) (h0 : 0 ≤ c) (h1 : c < 256) : PureTo Try.prog 61 [.v (.int .u8 c)] (.v (.int .i64 (dg c))) := by
  by_cases a1 : c ≥ 48 <;> by_cases a2 : c ≤ 57 <;> by_cases a3 : c ≥ 97 <;> by_cases a4 : c ≤ 122 <;> by_cases a5 : c ≥ 65 <;> by_cases a6 : c ≤ 90 <;> first
    | (exfalso; omega)
    | (refine pure_as (congrArg (fun z => AV.v (.int .i64 z)) ?_) (rdigitF1 c ?_); (focus (unfold dg; (repeat' split) <;> omega)); (focus (simp only [AllP, inR, decide_eq_false_iff_not, decide_eq_true_eq, bne_iff_ne, beq_iff_eq, ne_eq, bne_eq_false_iff_eq, beq_eq_false_iff_ne]; (repeat' apply And.intro) <;> first | omega | exact trivial)))
    | (refine pure_as (congrArg (fun z => AV.v (.int .i64 z)) ?_) (rdigitF2 c ?_); (focus (unfold dg; (repeat' split) <;> omega)); (focus (simp only [AllP, inR, decide_eq_false_iff_not, decide_eq_true_eq, bne_iff_ne, beq_iff_eq, ne_eq, bne_eq_false_iff_eq, beq_eq_false_iff_ne]; (repeat' apply And.intro) <;> first | omega | exact trivial)))
    | (refine pure_as (congrArg (fun z => AV.v (.int .i64 z)) ?_) (rdigitF3 c ?_); (focus (unfold dg; (repeat' split) <;> omega)); (focus (simp only [AllP, inR, decide_eq_false_iff_not, decide_eq_true_eq, bne_iff_ne, beq_iff_eq, ne_eq, bne_eq_false_iff_eq, beq_eq_false_iff_ne]; (repeat' apply And.intro) <;> first | omega | exact trivial)))
    | (refine pure_as (congrArg (fun z => AV.v (.int .i64 z)) ?_) (rdigitF4 c ?_); (focus (unfold dg; (repeat' split) <;> omega)); (focus (simp only [AllP, inR, decide_eq_false_iff_not, decide_eq_true_eq, bne_iff_ne, beq_iff_eq, ne_eq, bne_eq_false_iff_eq, beq_eq_false_iff_ne]; (repeat' apply And.intro) <;> first | omega | exact trivial)))
    | (refine pure_as (congrArg (fun z => AV.v (.int .i64 z)) ?_) (rdigitF5 c ?_); (focus (unfold dg; (repeat' split) <;> omega)); (focus (simp only [AllP, inR, decide_eq_false_iff_not, decide_eq_true_eq, bne_iff_ne, beq_iff_eq, ne_eq, bne_eq_false_iff_eq, beq_eq_false_iff_ne]; (repeat' apply And.intro) <;> first | omega | exact trivial)))
    | (refine pure_as (congrArg (fun z => AV.v (.int .i64 z)) ?_) (rdigitF6 c ?_); (focus (unfold dg; (repeat' split) <;> omega)); (focus (simp only [AllP, inR, decide_eq_false_iff_not, decide_eq_true_eq, bne_iff_ne, beq_iff_eq, ne_eq, bne_eq_false_iff_eq, beq_eq_false_iff_ne]; (repeat' apply And.intro) <;> first | omega | exact trivial)))
    | (refine pure_as (congrArg (fun z => AV.v (.int .i64 z)) ?_) (rdigitF7 c ?_); (focus (unfold dg; (repeat' split) <;> omega)); (focus (simp only [AllP, inR, decide_eq_false_iff_not, decide_eq_true_eq, bne_iff_ne, beq_iff_eq, ne_eq, bne_eq_false_iff_eq, beq_eq_false_iff_ne]; (repeat' apply And.intro) <;> first | omega | exact trivial)))
    | (refine pure_as (congrArg (fun z => AV.v (.int .i64 z)) ?_) (rdigitF8 c ?_); (focus (unfold dg; (repeat' split) <;> omega)); (focus (simp only [AllP, inR, decide_eq_false_iff_not, decide_eq_true_eq, bne_iff_ne, beq_iff_eq, ne_eq, bne_eq_false_iff_eq, beq_eq_false_iff_ne]; (repeat' apply And.intro) <;> first | omega | exact trivial)))
    | (refine pure_as (congrArg (fun z => AV.v (.int .i64 z)) ?_) (rdigitF9 c ?_); (focus (unfold dg; (repeat' split) <;> omega)); (focus (simp only [AllP, inR, decide_eq_false_iff_not, decide_eq_true_eq, bne_iff_ne, beq_iff_eq, ne_eq, bne_eq_false_iff_eq, beq_eq_false_iff_ne]; (repeat' apply And.intro) <;> first | omega | exact trivial)))
    | (refine pure_as (congrArg (fun z => AV.v (.int .i64 z)) ?_) (rdigitF10 c ?_); (focus (unfold dg; (repeat' split) <;> omega)); (focus (simp only [AllP, inR, decide_eq_false_iff_not, decide_eq_true_eq, bne_iff_ne, beq_iff_eq, ne_eq, bne_eq_false_iff_eq, beq_eq_false_iff_ne]; (repeat' apply And.intro) <;> first | omega | exact trivial)))
    | (refine pure_as (congrArg (fun z => AV.v (.int .i64 z)) ?_) (rdigitF11 c ?_); (focus (unfold dg; (repeat' split) <;> omega)); (focus (simp only [AllP, inR, decide_eq_false_iff_not, decide_eq_true_eq, bne_iff_ne, beq_iff_eq, ne_eq, bne_eq_false_iff_eq, beq_eq_false_iff_ne]; (repeat' apply And.intro) <;> first | omega | exact trivial)))
    | (refine pure_as (congrArg (fun z => AV.v (.int .i64 z)) ?_) (rdigitF12 c ?_); (focus (unfold dg; (repeat' split) <;> omega)); (focus (simp only [AllP, inR, decide_eq_false_iff_not, decide_eq_true_eq, bne_iff_ne, beq_iff_eq, ne_eq, bne_eq_false_iff_eq, beq_eq_false_iff_ne]; (repeat' apply And.intro) <;> first | omega | exact trivial)))
    | (refine pure_as (congrArg (fun z => AV.v (.int .i64 z)) ?_) (rdigitF13 c ?_); (focus (unfold dg; (repeat' split) <;> omega)); (focus (simp only [AllP, inR, decide_eq_false_iff_not, decide_eq_true_eq, bne_iff_ne, beq_iff_eq, ne_eq, bne_eq_false_iff_eq, beq_eq_false_iff_ne]; (repeat' apply And.intro) <;> first | omega | exact trivial)))
    | (refine pure_as (congrArg (fun z => AV.v (.int .i64 z)) ?_) (rdigitF14 c ?_); (focus (unfold dg; (repeat' split) <;> omega)); (focus (simp only [AllP, inR, decide_eq_false_iff_not, decide_eq_true_eq, bne_iff_ne, beq_iff_eq, ne_eq, bne_eq_false_iff_eq, beq_eq_false_iff_ne]; (repeat' apply And.intro) <;> first | omega | exact trivial)))
    | (refine pure_as (congrArg (fun z => AV.v (.int .i64 z)) ?_) (rdigitF15 c ?_); (focus (unfold dg; (repeat' split) <;> omega)); (focus (simp only [AllP, inR, decide_eq_false_iff_not, decide_eq_true_eq, bne_iff_ne, beq_iff_eq, ne_eq, bne_eq_false_iff_eq, beq_eq_false_iff_ne]; (repeat' apply And.intro) <;> first | omega | exact trivial)))

/-! ### small -/

/-- one word of a quotient by one word -/
theorem small_word {x d rest : Int} (hd : 0 < d ∧ d < 4294967296) (hx : 0 ≤ x ∧ x < 4294967296) (hr : 0 ≤ rest ∧ rest < d) :
    bitsOf .or .u64 (rest * 4294967296) x = rest * 4294967296 + x ∧ (rest * 4294967296 + x).tdiv d = (rest * 4294967296 + x) / d ∧ (rest * 4294967296 + x).tmod d = (rest * 4294967296 + x) % d ∧
    0 ≤ (rest * 4294967296 + x) / d ∧ (rest * 4294967296 + x) / d < 4294967296 ∧ 0 ≤ (rest * 4294967296 + x) % d ∧ (rest * 4294967296 + x) % d < d := by
  have h0 : 0 ≤ rest * 4294967296 + x := by omega
  have h1 : rest * 4294967296 + x < 18446744073709551616 := by omega
  refine ⟨?_, Int.tdiv_eq_ediv_of_nonneg h0, Int.tmod_eq_emod_of_nonneg h0, Int.ediv_nonneg h0 (by omega), ?_, Int.emod_nonneg _ (by omega), Int.emod_lt_of_pos _ hd.1⟩
  · rw [(or_add (k := .u64) (s := 32) (x := x) (y := rest * 4294967296) rfl hx.1 (by simp; omega) (by omega) (by show _ < (2 : Int) ^ 64; omega) (by simp) (by decide)).2, Int.add_comm]
  · rw [Int.ediv_lt_iff_lt_mul hd.1]
    have : (rest + 1) * 4294967296 ≤ d * 4294967296 := Int.mul_le_mul_of_nonneg_right (by omega) (by omega)
    rw [Int.mul_comm 4294967296 d]
    omega

structure SmallInv (a o : List Int) (d rest : Int) (i : Nat) : Prop where
  len : o.length = a.length
  words : Words o
  rng : 0 ≤ rest ∧ rest < d
  num : (nat (o.drop i) : Int) * d + rest = nat (a.drop i)

theorem small_next {a o : List Int} {d rest : Int} {i : Nat} (ha : Words a) (hd : 0 < d ∧ d < 4294967296) (hi : i < a.length) (I : SmallInv a o d rest (i + 1)) :
    SmallInv a (o.set i ((rest * 4294967296 + a.getD i 0) / d)) d ((rest * 4294967296 + a.getD i 0) % d) i := by
  have hx := words_getD ha i
  obtain ⟨_, _, _, b1, b2, b3, b4⟩ := small_word hd hx I.rng
  have hio : i < o.length := by rw [I.len]; exact hi
  refine ⟨by rw [List.length_set]; exact I.len, words_set I.words _ b1 b2, ⟨b3, b4⟩, ?_⟩
  rw [List.drop_eq_getElem_cons (by rw [List.length_set]; exact hio), List.drop_eq_getElem_cons hi, List.getElem_set_self, List.drop_set_of_lt (by omega), nat, nat]
  have e : a[i] = a.getD i 0 := by simp [List.getD_eq_getElem?_getD, hi]
  rw [e]
  have hn := I.num
  have hdm := Int.mul_ediv_add_emod (rest * 4294967296 + a.getD i 0) d
  generalize hq : (rest * 4294967296 + a.getD i 0) / d = q at *
  generalize (rest * 4294967296 + a.getD i 0) % d = m at *
  generalize a.getD i 0 = x at *
  rw [Int.natCast_add, Int.natCast_add, Int.natCast_mul, Int.natCast_mul, ← hn]
  have e1 : ((q.toNat : Nat) : Int) = q := by omega
  have e2 : ((x.toNat : Nat) : Int) = x := by omega
  rw [e1, e2]
  generalize ((nat (List.drop (i + 1) o) : Nat) : Int) = N at *
  grind


theorem small_loop (a : List Int) (ta : Bool) (d : Int) (ha : Words a) (hd : 0 < d ∧ d < 4294967296) (hl : a.length ≤ lim4) : ∀ (i : Nat) (o : List Int) (rest : Int), i ≤ a.length → SmallInv a o d rest i →
    ∃ l1 : List Int, ∃ r1 : Int, SmallInv a l1 d r1 0 ∧ LoopTo Try.prog (loopAt Try.f57 0) (smallS0 a ta d rest ((i : Int) - 1) o a.length a.length) (.exit 0) (smallX0 a ta d r1 l1 a.length a.length) := by
  unfold lim4 at hl
  intro i
  induction i with
  | zero =>
    intro o rest _ I
    exact ⟨o, rest, I, .done (by simp) (smallL0_2 a ta d rest _ o a.length a.length ⟨by simp, trivial⟩)⟩
  | succ i ih =>
    intro o rest hi I
    have hx := words_getD ha i
    obtain ⟨b0, b1, b2, b3, b4, b5, b6⟩ := small_word hd hx I.rng
    have hr := I.rng
    have e : ((i + 1 : Nat) : Int) - 1 = (i : Int) := by omega
    have h1 := smallL0_1 a ta d rest i o a.length a.length (by
      rw [Int.toNat_natCast, b0, b1]
      exact ⟨by simp, by omega, inRu64 (by omega) (by omega), by omega, inRu64 (by omega) (by omega), inRu64 (by omega) (by omega), by omega, inRu64 b3 (by omega), by omega, I.len.symm, inRu64 (by omega) (by omega), by omega, inR64 (by omega) (by omega), trivial⟩)
    rw [Int.toNat_natCast, ix0, b0, b1, b2, Int.emod_eq_of_lt b3 b4, I.len] at h1
    obtain ⟨l1, r1, g1, g2⟩ := ih _ _ (by omega) (small_next ha hd (by omega) I)
    rw [e]
    exact ⟨l1, r1, g1, .step h1 g2⟩

theorem small_pure (a : List Int) (ta : Bool) (d : Int) (ha : Words a) (hd : 0 < d ∧ d < 4294967296) (hl : a.length ≤ lim4) : PureTo Try.prog 57 [.sl 1 (.ints .u32 a) ta, .v (.int .u32 d)] (.tup [.sl 1 (.ints .u32 (dig (nat a / d.toNat))) false, .v (.int .u32 (nat a % d.toNat : Nat))]) := by
  have hl2 := hl
  unfold lim4 at hl2
  obtain ⟨l1, r1, g1, g2⟩ := small_loop a ta d ha hd hl a.length (List.replicate a.length 0) 0 (Nat.le_refl _) ⟨by simp, zeros_words _, by omega, by
    rw [List.drop_eq_nil_of_le (by simp), List.drop_eq_nil_of_le (Nat.le_refl _)]
    simp [nat]⟩
  have hn := g1.num
  have hr := g1.rng
  rw [List.drop_zero, List.drop_zero] at hn
  obtain ⟨D, rfl⟩ : ∃ D : Nat, d = D := ⟨d.toNat, by omega⟩
  obtain ⟨R, rfl⟩ : ∃ R : Nat, r1 = R := ⟨r1.toNat, by omega⟩
  have hn2 : nat l1 * D + R = nat a := by
    have : ((nat l1 * D + R : Nat) : Int) = nat a := by rw [Int.natCast_add, Int.natCast_mul]; exact hn
    exact Int.ofNat.inj this
  have hq : nat a / D = nat l1 := by rw [← hn2, Nat.mul_comm, Nat.mul_add_div (by omega), Nat.div_eq_of_lt (by omega), Nat.add_zero]
  have hm : nat a % D = R := by rw [← hn2, Nat.mul_comm, Nat.mul_add_mod, Nat.mod_eq_of_lt (by omega)]
  have h := smallF1 a ta D R l1 a.length a.length ⟨by omega, by omega, inR64 (by omega) (by omega), .raise (by
    have e : (List.replicate a.length (0 : Int)).length = a.length := by simp
    rw [Int.toNat_natCast]
    show LoopTo _ _ { n := _, fr := _, hp := [(4, .row 22 1 (.ints .u32 (List.replicate a.length 0)) (List.replicate a.length (0 : Int)).length)], nx := _ } _ _
    rw [e]
    exact g2), g1.len.symm, Nat.le_refl _, by rw [g1.len]; first | exact lim4_lt hl | exact hl, trivial⟩
  rw [Int.emod_eq_of_lt (by omega) (by omega), norm_eq g1.words] at h
  rw [Int.toNat_natCast, hq, hm]
  exact h

theorem rsmall_loop (a : List Int) (ta : Bool) (d : Int) (ha : Words a) (hd : 0 < d ∧ d < 4294967296) (hl : a.length ≤ lim4) : ∀ (i : Nat) (o : List Int) (rest : Int), i ≤ a.length → SmallInv a o d rest i →
    ∃ l1 : List Int, ∃ r1 : Int, SmallInv a l1 d r1 0 ∧ LoopTo Try.prog (loopAt Try.f59 0) (rsmallS0 a ta d rest ((i : Int) - 1) o a.length a.length) (.exit 0) (rsmallX0 a ta d r1 l1 a.length a.length) := by
  unfold lim4 at hl
  intro i
  induction i with
  | zero =>
    intro o rest _ I
    exact ⟨o, rest, I, .done (by simp) (rsmallL0_2 a ta d rest _ o a.length a.length ⟨by simp, trivial⟩)⟩
  | succ i ih =>
    intro o rest hi I
    have hx := words_getD ha i
    obtain ⟨b0, b1, b2, b3, b4, b5, b6⟩ := small_word hd hx I.rng
    have hr := I.rng
    have e : ((i + 1 : Nat) : Int) - 1 = (i : Int) := by omega
    have h1 := rsmallL0_1 a ta d rest i o a.length a.length (by
      rw [Int.toNat_natCast, b0, b1]
      exact ⟨by simp, by omega, inRu64 (by omega) (by omega), by omega, inRu64 (by omega) (by omega), inRu64 (by omega) (by omega), by omega, inRu64 b3 (by omega), by omega, I.len.symm, inRu64 (by omega) (by omega), by omega, inR64 (by omega) (by omega), trivial⟩)
    rw [Int.toNat_natCast, ix0, b0, b1, b2, Int.emod_eq_of_lt b3 b4, I.len] at h1
    obtain ⟨l1, r1, g1, g2⟩ := ih _ _ (by omega) (small_next ha hd (by omega) I)
    rw [e]
    exact ⟨l1, r1, g1, .step h1 g2⟩

theorem rsmall_pure (a : List Int) (ta : Bool) (d : Int) (ha : Words a) (hd : 0 < d ∧ d < 4294967296) (hl : a.length ≤ lim4) : PureTo Try.prog 59 [.sl 1 (.ints .u32 a) ta, .v (.int .u32 d)] (.tup [.sl 1 (.ints .u32 (dig (nat a / d.toNat))) false, .v (.int .u32 (nat a % d.toNat : Nat))]) := by
  have hl2 := hl
  unfold lim4 at hl2
  obtain ⟨l1, r1, g1, g2⟩ := rsmall_loop a ta d ha hd hl a.length (List.replicate a.length 0) 0 (Nat.le_refl _) ⟨by simp, zeros_words _, by omega, by
    rw [List.drop_eq_nil_of_le (by simp), List.drop_eq_nil_of_le (Nat.le_refl _)]
    simp [nat]⟩
  have hn := g1.num
  have hr := g1.rng
  rw [List.drop_zero, List.drop_zero] at hn
  obtain ⟨D, rfl⟩ : ∃ D : Nat, d = D := ⟨d.toNat, by omega⟩
  obtain ⟨R, rfl⟩ : ∃ R : Nat, r1 = R := ⟨r1.toNat, by omega⟩
  have hn2 : nat l1 * D + R = nat a := by
    have : ((nat l1 * D + R : Nat) : Int) = nat a := by rw [Int.natCast_add, Int.natCast_mul]; exact hn
    exact Int.ofNat.inj this
  have hq : nat a / D = nat l1 := by rw [← hn2, Nat.mul_comm, Nat.mul_add_div (by omega), Nat.div_eq_of_lt (by omega), Nat.add_zero]
  have hm : nat a % D = R := by rw [← hn2, Nat.mul_comm, Nat.mul_add_mod, Nat.mod_eq_of_lt (by omega)]
  have h := rsmallF1 a ta D R l1 a.length a.length ⟨by omega, by omega, inR64 (by omega) (by omega), .raise (by
    have e : (List.replicate a.length (0 : Int)).length = a.length := by simp
    rw [Int.toNat_natCast]
    show LoopTo _ _ { n := _, fr := _, hp := [(4, .row 22 1 (.ints .u32 (List.replicate a.length 0)) (List.replicate a.length (0 : Int)).length)], nx := _ } _ _
    rw [e]
    exact g2), g1.len.symm, Nat.le_refl _, by rw [g1.len]; first | exact lim4_lt hl | exact hl, trivial⟩
  rw [Int.emod_eq_of_lt (by omega) (by omega), norm_eq g1.words] at h
  rw [Int.toNat_natCast, hq, hm]
  exact h

/-! ### Reverse -/

/-- a list of which the first i elements and the last i are exchanged -/
structure RevInv (l o : List Int) (i : Nat) : Prop where
  len : o.length = l.length
  get : ∀ k, k < l.length → o.getD k 0 = if k < i ∨ l.length - i ≤ k then l.getD (l.length - 1 - k) 0 else l.getD k 0

theorem rev_start (l : List Int) : RevInv l l 0 := ⟨rfl, fun k hk => by rw [if_neg (by omega)]⟩

theorem rev_next {l o : List Int} {i : Nat} (hi : 2 * i + 1 < l.length) (I : RevInv l o i) : RevInv l ((o.set i (o.getD (l.length - 1 - i) 0)).set (l.length - 1 - i) (o.getD i 0)) (i + 1) := by
  have hl := I.len
  refine ⟨by simp [hl], fun k hk => ?_⟩
  rw [getD_set _ _ _ _ (by rw [List.length_set]; omega), getD_set _ _ _ _ (by omega)]
  have g1 := I.get (l.length - 1 - i) (by omega)
  have g2 := I.get i (by omega)
  rw [if_neg (by omega)] at g1 g2
  by_cases h1 : k = l.length - 1 - i
  · rw [if_pos h1, if_pos (by omega), g2]
    congr 1
    omega
  · rw [if_neg h1]
    by_cases h2 : k = i
    · rw [if_pos h2, if_pos (by omega), g1, h2]
    · rw [if_neg h2, I.get k hk]
      by_cases h3 : k < i ∨ l.length - i ≤ k
      · rw [if_pos h3, if_pos (by omega)]
      · rw [if_neg h3, if_neg (by omega)]

theorem rev_end {l o : List Int} {i : Nat} (hi : l.length ≤ 2 * i + 1) (I : RevInv l o i) : o = l.reverse := by
  refine List.ext_getElem (by simp [I.len]) fun k h1 h2 => ?_
  have hk : k < l.length := by rw [← I.len]; exact h1
  have g := I.get k hk
  have e1 : o.getD k 0 = o[k] := by simp [List.getD_eq_getElem?_getD, h1]
  rw [e1] at g
  rw [g, List.getElem_reverse]
  have e2 : ∀ j (hj : j < l.length), l.getD j 0 = l[j] := fun j hj => by simp [List.getD_eq_getElem?_getD, hj]
  split
  · exact e2 _ (by omega)
  · next h => rw [e2 _ hk]; congr 1; omega

theorem rev_loop (l : List Int) (fl : Nat) (t : Bool) (hl : l.length < 9000000000000000) : ∀ (f i : Nat) (o : List Int), i + f = l.length → RevInv l o i →
    LoopTo Try.prog (loopAt Try.f58 0) (revS0 l fl l.length t i ((l.length : Int) - 1 - i) o l.length) (.exit 0) (revX0 l fl l.length t l.reverse l.length) := by
  intro f
  induction f with
  | zero =>
    intro i o hi I
    have := rev_end (by omega) I
    subst this
    exact .done (by simp) (revL0_2 l fl l.length t i _ _ l.length ⟨by simp; omega, trivial⟩)
  | succ f ih =>
    intro i o hi I
    by_cases h : 2 * i + 1 < l.length
    · have e1 : ((l.length : Int) - 1 - (i : Int)).toNat = l.length - 1 - i := by omega
      have e2 : (l.length : Int) - 1 - (i : Int) - 1 = (l.length : Int) - 1 - ((i + 1 : Nat) : Int) := by omega
      have h1 := revL0_1 l fl l.length t i ((l.length : Int) - 1 - i) o l.length (by
        rw [Int.toNat_natCast, e1]
        exact ⟨by simp; omega, by omega, Nat.le_refl _, by omega, Nat.le_refl _, by omega, I.len.symm, by omega, by rw [List.length_set]; exact I.len.symm, inR64 (by omega) (by omega), inR64 (by omega) (by omega), trivial⟩)
      rw [Int.toNat_natCast, e1, ix0, ix0, List.length_set, I.len, e2] at h1
      exact .step h1 (ih (i + 1) _ (by omega) (rev_next h I))
    · have := rev_end (by omega) I
      subst this
      exact .done (by simp) (revL0_2 l fl l.length t i _ _ l.length ⟨by simp; omega, trivial⟩)

theorem rev_shared (l : List Int) (fl : Nat) (t : Bool) (hl : l.length < 9000000000000000) : SharedTo Try.prog 58 [.row 5 1 (.ints .u8 l) fl] [.row rsv 0 l.length l.length t] (.tup []) [.row 5 1 (.ints .u8 l.reverse) l.length] :=
  revF1 l fl l.length t l.reverse l.length ⟨inR64 (by omega) (by omega), .raise (by
    have := rev_loop l fl t hl l.length 0 l (by omega) (rev_start l)
    rw [Int.natCast_zero, Int.sub_zero] at this
    exact this), trivial⟩

end Go.Proofs.Bn

/- Bignum: contracts of small, digit and Reverse, in the table. -/
set_option maxRecDepth 100000
namespace Go.Proofs.Bn
open Go Go.Ev

def sigSmall : List AV → Option (AV × List Prop)
  | [.sl 1 (.ints .u32 a) _, .v (.int .u32 d)] => some (.tup [.sl 1 (.ints .u32 (dig (nat a / d.toNat))) false, .v (.int .u32 (nat a % d.toNat : Nat))], [Words a, 0 < d ∧ d < 4294967296, a.length ≤ lim4])
  | _ => none

def sigDigit : List AV → Option (AV × List Prop)
  | [.v (.int .u8 c)] => some (.v (.int .i64 (dg c)), [0 ≤ c, c < 256])
  | _ => none

def sigRev : List AObj → List AV → Option (AV × List AObj × List Prop)
  | [.row 5 1 (.ints .u8 l) _], [.row k 0 n m _] => some (.tup [], [.row 5 1 (.ints .u8 l.reverse) l.length], [k = rsv, n = l.length, m = l.length, l.length < 9000000000000000])
  | _, _ => none

def SG15 : SGT := (57, .p sigSmall) :: (59, .p sigSmall) :: (60, .p sigDigit) :: (61, .p sigDigit) :: (58, .s [true] sigRev) :: SG14

theorem sok15 : SigsOK Try.prog SG15 := by
  refine sigs_cons (sigs_cons (sigs_cons (sigs_cons (sigs_s sok14 ?_) ?_) ?_) ?_) ?_
  · intro os ys r os' c h hc
    unfold sigRev at h
    split at h
    · cases h
      obtain ⟨rfl, rfl, rfl, h4, _⟩ := hc
      exact rev_shared _ _ _ h4
    · cases h
  · intro ys r c h hc
    unfold sigDigit at h
    split at h
    · cases h; exact rdigit_pure _ hc.1 hc.2.1
    · cases h
  · intro ys r c h hc
    unfold sigDigit at h
    split at h
    · cases h; exact digit_pure _ hc.1 hc.2.1
    · cases h
  · intro ys r c h hc
    unfold sigSmall at h
    split at h
    · cases h; exact rsmall_pure _ _ _ hc.1 hc.2.1 hc.2.2.1
    · cases h
  · intro ys r c h hc
    unfold sigSmall at h
    split at h
    · cases h; exact small_pure _ _ _ hc.1 hc.2.1 hc.2.2.1
    · cases h

end Go.Proofs.Bn

/- Bignum: walks, written by the tool. -/
set_option maxRecDepth 100000
namespace Go.Proofs.Bn
open Go Go.Ev
def textS0 (a : List Int) (ta : Bool) (r : Int) (l0 : List Int) (l1 : List Int) (n0 : Nat) (t0 : Bool) : AS := { n := 43, fr := [(0, AV.sl 1 (.ints .u32 l0) t0), (1, AV.v (.int .i64 r)), (6, AV.row 17 0 l1.length l1.length false)], hp := [(17, AObj.row 5 1 (.ints .u8 l1) n0)], nx := 18 }
def textX0 (a : List Int) (ta : Bool) (r : Int) (l2 : List Int) (n1 : Nat) : AS := { n := 43, fr := [(6, AV.row 17 0 l2.length l2.length false)], hp := [(17, AObj.row 5 1 (.ints .u8 l2) n1)], nx := 18 }
def rtextS0 (a : List Int) (ta : Bool) (r : Int) (l0 : List Int) (l1 : List Int) (n0 : Nat) (t0 : Bool) : AS := { n := 70, fr := [(0, AV.sl 1 (.ints .u32 l0) t0), (1, AV.v (.int .i64 r)), (6, AV.row 16 0 l1.length l1.length false)], hp := [(16, AObj.row 5 1 (.ints .u8 l1) n0)], nx := 17 }
def rtextX0 (a : List Int) (ta : Bool) (r : Int) (l2 : List Int) (n1 : Nat) : AS := { n := 70, fr := [(6, AV.row 16 0 l2.length l2.length false)], hp := [(16, AObj.row 5 1 (.ints .u8 l2) n1)], nx := 17 }
def rtextS1 (a : List Int) (ta : Bool) (r : Int) (x0 : Int) (l3 : List Int) (n2 : Nat) (n3 : Nat) : AS := { n := 70, fr := [(6, AV.row 16 0 n3 n3 false), (9, AV.v (.int .i64 x0))], hp := [(16, AObj.row 5 1 (.ints .u8 l3) n2)], nx := 17 }
def rtextX1 (a : List Int) (ta : Bool) (r : Int) (l4 : List Int) (n4 : Nat) (n5 : Nat) : AS := { n := 70, fr := [(6, AV.row 16 0 n5 n5 false)], hp := [(16, AObj.row 5 1 (.ints .u8 l4) n4)], nx := 17 }
def parseS0 (s : ByteArray) (r : Int) (x0 : Int) : AS := { n := 77, fr := [(0, AV.v (.string s)), (1, AV.v (.int .i64 r)), (21, AV.v (.int .i64 (↑s.size : Int))), (22, AV.v (.int .i64 x0))], hp := [], nx := 0 }
def parseX0 (s : ByteArray) (r : Int)  : AS := { n := 77, fr := [(0, AV.v (.string s)), (1, AV.v (.int .i64 r))], hp := [], nx := 0 }
def parseX0_1 (s : ByteArray) (r : Int) (x1 : Int) : AS := { n := 77, fr := [(4, AV.v (.slice none 0 0)), (5, AV.v (.int .i64 x1))], hp := [], nx := 0 }
def parseS1 (s : ByteArray) (r : Int) (x2 : Int) (l0 : List Int) (n0 : Nat) : AS := { n := 77, fr := [(0, AV.v (.string s)), (1, AV.v (.int .i64 r)), (7, AV.row 0 0 l0.length l0.length false), (33, AV.v (.int .i64 (↑s.size : Int))), (34, AV.v (.int .i64 x2))], hp := [(0, AObj.row 22 1 (.ints .u32 l0) n0)], nx := 1 }
def parseX1 (s : ByteArray) (r : Int) (l1 : List Int) (n1 : Nat) : AS := { n := 77, fr := [(7, AV.row 0 0 l1.length l1.length false)], hp := [(0, AObj.row 22 1 (.ints .u32 l1) n1)], nx := 1 }
def parseX1_1 (s : ByteArray) (r : Int)  : AS := { n := 77, fr := [(4, AV.v (.slice none 0 0)), (5, AV.v (.int .i64 (3 : Int)))], hp := [], nx := 1 }
def parseS2 (s : ByteArray) (r : Int) (x2 : Int) (x3 : Int) (x4 : Int) (l0 : List Int) (l2 : List Int) (n2 : Nat) (n3 : Nat) : AS := { n := 77, fr := [(0, AV.v (.string s)), (1, AV.v (.int .i64 r)), (7, AV.row 0 0 n3 n3 false), (9, AV.v (.int .u64 x3)), (33, AV.v (.int .i64 (↑s.size : Int))), (34, AV.v (.int .i64 x2)), (43, AV.v (.int .i64 (↑l0.length : Int))), (44, AV.v (.int .i64 x4))], hp := [(0, AObj.row 22 1 (.ints .u32 l2) n2)], nx := 1 }
def parseX2 (s : ByteArray) (r : Int) (x2 : Int) (x5 : Int) (l3 : List Int) (n4 : Nat) (n5 : Nat) : AS := { n := 77, fr := [(0, AV.v (.string s)), (1, AV.v (.int .i64 r)), (7, AV.row 0 0 n5 n5 false), (9, AV.v (.int .u64 x5)), (33, AV.v (.int .i64 (↑s.size : Int))), (34, AV.v (.int .i64 x2))], hp := [(0, AObj.row 22 1 (.ints .u32 l3) n4)], nx := 1 }
def rparseS0 (s : ByteArray) (r : Int) (x0 : Int) : AS := { n := 51, fr := [(0, AV.v (.string s)), (1, AV.v (.int .i64 r)), (6, AV.v (.int .i64 x0))], hp := [], nx := 0 }
def rparseX0 (s : ByteArray) (r : Int)  : AS := { n := 51, fr := [(0, AV.v (.string s)), (1, AV.v (.int .i64 r))], hp := [], nx := 0 }
def rparseX0_1 (s : ByteArray) (r : Int) (x1 : Int) : AS := { n := 51, fr := [(4, AV.v (.slice none 0 0)), (5, AV.v (.int .i64 x1))], hp := [], nx := 0 }
def rparseS1 (s : ByteArray) (r : Int) (x2 : Int) (l0 : List Int) (n0 : Nat) : AS := { n := 51, fr := [(0, AV.v (.string s)), (1, AV.v (.int .i64 r)), (7, AV.row 3 0 l0.length l0.length false), (8, AV.v (.int .i64 x2))], hp := [(3, AObj.row 22 1 (.ints .u32 l0) n0)], nx := 4 }
def rparseX1 (s : ByteArray) (r : Int) (l1 : List Int) (n1 : Nat) : AS := { n := 51, fr := [(7, AV.row 3 0 l1.length l1.length false)], hp := [(3, AObj.row 22 1 (.ints .u32 l1) n1)], nx := 4 }
def rparseX1_1 (s : ByteArray) (r : Int)  : AS := { n := 51, fr := [(4, AV.v (.slice none 0 0)), (5, AV.v (.int .i64 (3 : Int)))], hp := [], nx := 4 }
def bnWHtab0 : ByteArray := { data := #[(48 : UInt8), (49 : UInt8), (50 : UInt8), (51 : UInt8), (52 : UInt8), (53 : UInt8), (54 : UInt8), (55 : UInt8), (56 : UInt8), (57 : UInt8), (97 : UInt8), (98 : UInt8), (99 : UInt8), (100 : UInt8), (101 : UInt8), (102 : UInt8), (103 : UInt8), (104 : UInt8), (105 : UInt8), (106 : UInt8), (107 : UInt8), (108 : UInt8), (109 : UInt8), (110 : UInt8), (111 : UInt8), (112 : UInt8), (113 : UInt8), (114 : UInt8), (115 : UInt8), (116 : UInt8), (117 : UInt8), (118 : UInt8), (119 : UInt8), (120 : UInt8), (121 : UInt8), (122 : UInt8)] }
-- 2 paths
theorem textL0_1 (a : List Int) (ta : Bool) (r : Int) (l0 : List Int) (l1 : List Int) (n0 : Nat) (t0 : Bool) (h : AllP [decide ((↑l0.length : Int) > (0 : Int)) = true, Words l0, (0 : Int) < r % (4294967296 : Int) ∧ r % (4294967296 : Int) < (4294967296 : Int), l0.length ≤ lim4, (0 : Int) ≤ (↑(nat l0 % (r % (4294967296 : Int)).toNat) : Int) ∧ (↑(nat l0 % (r % (4294967296 : Int)).toNat) : Int) < (36 : Int), l1.length = l1.length, l1.length = l1.length, (l1 ++ [byteAt bnWHtab0 (↑(nat l0 % (r % (4294967296 : Int)).toNat) : Int).toNat]).length * 1 ≤ 140737488355328]) : To Try.prog (loopAt Try.f33 0) ({ n := 43, fr := [(0, AV.sl 1 (.ints .u32 l0) t0), (1, AV.v (.int .i64 r)), (6, AV.row 17 0 l1.length l1.length false)], hp := [(17, AObj.row 5 1 (.ints .u8 l1) n0)], nx := 18 }) (.normal) { n := 43, fr := [(0, AV.sl 1 (.ints .u32 (dig (nat l0 / (r % (4294967296 : Int)).toNat))) false), (1, AV.v (.int .i64 r)), (6, AV.row 17 0 (l1 ++ [byteAt bnWHtab0 (↑(nat l0 % (r % (4294967296 : Int)).toNat) : Int).toNat]).length (l1 ++ [byteAt bnWHtab0 (↑(nat l0 % (r % (4294967296 : Int)).toNat) : Int).toNat]).length false)], hp := [(17, AObj.row 5 1 (.ints .u8 (l1 ++ [byteAt bnWHtab0 (↑(nat l0 % (r % (4294967296 : Int)).toNat) : Int).toNat])) n0)], nx := 18 } :=
  evW_to hm sok15 (hs := [CHint.ops 9 [(2, Hint.b true)]]) (slots := [0, 1, 6]) (keys := [17]) (nx := 18) (c := _) (by kernel_rfl) h
theorem textL0_2 (a : List Int) (ta : Bool) (r : Int) (l0 : List Int) (l1 : List Int) (n0 : Nat) (t0 : Bool) (h : AllP [decide ((↑l0.length : Int) > (0 : Int)) = false]) : To Try.prog (loopAt Try.f33 0) ({ n := 43, fr := [(0, AV.sl 1 (.ints .u32 l0) t0), (1, AV.v (.int .i64 r)), (6, AV.row 17 0 l1.length l1.length false)], hp := [(17, AObj.row 5 1 (.ints .u8 l1) n0)], nx := 18 }) (Exit.exit 0) { n := 43, fr := [(6, AV.row 17 0 l1.length l1.length false)], hp := [(17, AObj.row 5 1 (.ints .u8 l1) n0)], nx := 18 } :=
  evW_to hm sok15 (hs := [CHint.ops 9 [(2, Hint.b false)]]) (slots := [6]) (keys := [17]) (nx := 18) (c := _) (by kernel_rfl) h
-- 5 paths
theorem textF1 (a : List Int) (ta : Bool) (r : Int) (l2 : List Int) (n1 : Nat) (h : AllP [decide (r < (2 : Int)) = true]) : PureTo Try.prog 33 [.sl 1 (.ints .u32 a) ta, .v (.int .i64 r)] (AV.tup [AV.v (.string (ByteArray.mk #[])), AV.v (.int .i64 (1 : Int))]) :=
  evFn_pure hm sok15 (fn := Try.f33) rfl rfl (ti := false) (hs := [CHint.ops 1 [(1, Hint.b true)]]) (c := _) (by kernel_rfl) h
theorem textF2 (a : List Int) (ta : Bool) (r : Int) (l2 : List Int) (n1 : Nat) (h : AllP [decide (r < (2 : Int)) = false, decide (r > (36 : Int)) = true]) : PureTo Try.prog 33 [.sl 1 (.ints .u32 a) ta, .v (.int .i64 r)] (AV.tup [AV.v (.string (ByteArray.mk #[])), AV.v (.int .i64 (1 : Int))]) :=
  evFn_pure hm sok15 (fn := Try.f33) rfl rfl (ti := false) (hs := [CHint.ops 1 [(1, Hint.b false), (4, Hint.b true)]]) (c := _) (by kernel_rfl) h
theorem textF3 (a : List Int) (ta : Bool) (r : Int) (l2 : List Int) (n1 : Nat) (h : AllP [decide (r < (2 : Int)) = false, decide (r > (36 : Int)) = false, over a = true, a.length < lim]) : PureTo Try.prog 33 [.sl 1 (.ints .u32 a) ta, .v (.int .i64 r)] (AV.tup [AV.v (.string (ByteArray.mk #[])), AV.v (.int .i64 (3 : Int))]) :=
  evFn_pure hm sok15 (fn := Try.f33) rfl rfl (ti := false) (hs := [CHint.ops 1 [(1, Hint.b false), (4, Hint.b false)], CHint.ops 3 [(2, Hint.b true)]]) (c := _) (by kernel_rfl) h
theorem textF4 (a : List Int) (ta : Bool) (r : Int) (l2 : List Int) (n1 : Nat) (h : AllP [decide (r < (2 : Int)) = false, decide (r > (36 : Int)) = false, over a = false, a.length < lim, a.length < lim, ((↑(norm a).length : Int) == (0 : Int)) = true]) : PureTo Try.prog 33 [.sl 1 (.ints .u32 a) ta, .v (.int .i64 r)] (AV.tup [AV.v (.string (ByteArray.mk #[(48 : UInt8)])), AV.v (.int .i64 (0 : Int))]) :=
  evFn_pure hm sok15 (fn := Try.f33) rfl rfl (ti := false) (hs := [CHint.ops 1 [(1, Hint.b false), (4, Hint.b false)], CHint.ops 3 [(2, Hint.b false)], CHint.ops 6 [(2, Hint.b true)]]) (c := _) (by kernel_rfl) h
theorem textF5 (a : List Int) (ta : Bool) (r : Int) (l2 : List Int) (n1 : Nat) (h : AllP [decide (r < (2 : Int)) = false, decide (r > (36 : Int)) = false, over a = false, a.length < lim, a.length < lim, ((↑(norm a).length : Int) == (0 : Int)) = false, LoopTo Try.prog (loopAt Try.f33 0) { n := 43, fr := [(0, AV.sl 1 (.ints .u32 (norm a)) true), (1, AV.v (.int .i64 r)), (6, AV.row 17 0 0 0 false)], hp := [(17, AObj.row 5 1 (.ints .u8 []) 0)], nx := 18 } (Exit.exit 0) { n := 43, fr := [(6, AV.row 17 0 l2.length l2.length false)], hp := [(17, AObj.row 5 1 (.ints .u8 l2) n1)], nx := 18 }, 4294967296 = rsv, l2.length = l2.length, l2.length = l2.length, l2.length < 9000000000000000, l2.length = l2.reverse.length, l2.reverse.length ≤ l2.length]) : PureTo Try.prog 33 [.sl 1 (.ints .u32 a) ta, .v (.int .i64 r)] (AV.tup [AV.v (.string (strOfInts l2.reverse)), AV.v (.int .i64 (0 : Int))]) :=
  evFn_pure hm sok15 (fn := Try.f33) rfl rfl (ti := false) (hs := [CHint.ops 1 [(1, Hint.b false), (4, Hint.b false)], CHint.ops 3 [(2, Hint.b false)], CHint.ops 6 [(2, Hint.b false)], CHint.ops 8 [(0, Hint.nil 5)], CHint.loop [0, 1, 6] [17] 18 (Exit.exit 0) { n := 43, fr := [(6, AV.row 17 0 l2.length l2.length false)], hp := [(17, AObj.row (5 : TypeId) 1 (.ints .u8 l2) n1)], nx := 18 }]) (c := _) (by kernel_rfl) h
-- 2 paths
theorem rtextL0_1 (a : List Int) (ta : Bool) (r : Int) (l0 : List Int) (l1 : List Int) (n0 : Nat) (t0 : Bool) (h : AllP [decide ((↑l0.length : Int) > (0 : Int)) = true, Words l0, (0 : Int) < r % (4294967296 : Int) ∧ r % (4294967296 : Int) < (4294967296 : Int), l0.length ≤ lim4, (0 : Int) ≤ (↑(nat l0 % (r % (4294967296 : Int)).toNat) : Int) ∧ (↑(nat l0 % (r % (4294967296 : Int)).toNat) : Int) < (36 : Int), l1.length = l1.length, l1.length = l1.length, (l1 ++ [byteAt bnWHtab0 (↑(nat l0 % (r % (4294967296 : Int)).toNat) : Int).toNat]).length * 1 ≤ 140737488355328]) : To Try.prog (loopAt Try.f34 0) ({ n := 70, fr := [(0, AV.sl 1 (.ints .u32 l0) t0), (1, AV.v (.int .i64 r)), (6, AV.row 16 0 l1.length l1.length false)], hp := [(16, AObj.row 5 1 (.ints .u8 l1) n0)], nx := 17 }) (.normal) { n := 70, fr := [(0, AV.sl 1 (.ints .u32 (dig (nat l0 / (r % (4294967296 : Int)).toNat))) false), (1, AV.v (.int .i64 r)), (6, AV.row 16 0 (l1 ++ [byteAt bnWHtab0 (↑(nat l0 % (r % (4294967296 : Int)).toNat) : Int).toNat]).length (l1 ++ [byteAt bnWHtab0 (↑(nat l0 % (r % (4294967296 : Int)).toNat) : Int).toNat]).length false)], hp := [(16, AObj.row 5 1 (.ints .u8 (l1 ++ [byteAt bnWHtab0 (↑(nat l0 % (r % (4294967296 : Int)).toNat) : Int).toNat])) n0)], nx := 17 } :=
  evW_to hm sok15 (hs := [CHint.ops 9 [(2, Hint.b true)]]) (slots := [0, 1, 6]) (keys := [16]) (nx := 17) (c := _) (by kernel_rfl) h
theorem rtextL0_2 (a : List Int) (ta : Bool) (r : Int) (l0 : List Int) (l1 : List Int) (n0 : Nat) (t0 : Bool) (h : AllP [decide ((↑l0.length : Int) > (0 : Int)) = false]) : To Try.prog (loopAt Try.f34 0) ({ n := 70, fr := [(0, AV.sl 1 (.ints .u32 l0) t0), (1, AV.v (.int .i64 r)), (6, AV.row 16 0 l1.length l1.length false)], hp := [(16, AObj.row 5 1 (.ints .u8 l1) n0)], nx := 17 }) (Exit.exit 0) { n := 70, fr := [(6, AV.row 16 0 l1.length l1.length false)], hp := [(16, AObj.row 5 1 (.ints .u8 l1) n0)], nx := 17 } :=
  evW_to hm sok15 (hs := [CHint.ops 9 [(2, Hint.b false)]]) (slots := [6]) (keys := [16]) (nx := 17) (c := _) (by kernel_rfl) h
-- 2 paths
theorem rtextL1_1 (a : List Int) (ta : Bool) (r : Int) (x0 : Int) (l3 : List Int) (n2 : Nat) (n3 : Nat) (h : AllP [(2 : Int) ≠ (0 : Int), inR IntKind.i64 ((↑n3 : Int).tdiv (2 : Int)), decide (x0 < (↑n3 : Int).tdiv (2 : Int)) = true, inR IntKind.i64 ((↑n3 : Int) - (1 : Int)), inR IntKind.i64 ((↑n3 : Int) - (1 : Int) - x0), inR IntKind.i64 ((↑n3 : Int) - (1 : Int)), inR IntKind.i64 ((↑n3 : Int) - (1 : Int) - x0), (0 : Int) ≤ (↑n3 : Int) - (1 : Int) - x0 ∧ (↑n3 : Int) - (1 : Int) - x0 < (↑n3 : Int), n2 ≤ n3, (0 : Int) ≤ x0 ∧ x0 < (↑n3 : Int), n2 ≤ n3, (0 : Int) ≤ x0 ∧ x0 < (↑n3 : Int), n3 = l3.length, (0 : Int) ≤ (↑n3 : Int) - (1 : Int) - x0 ∧ (↑n3 : Int) - (1 : Int) - x0 < (↑n3 : Int), n3 = (l3.set (ixPlus 0 x0.toNat) (l3.getD (ixPlus 0 ((↑n3 : Int) - (1 : Int) - x0).toNat) (0 : Int))).length, inR IntKind.i64 (x0 + (1 : Int))]) : To Try.prog (loopAt Try.f34 1) ({ n := 70, fr := [(6, AV.row 16 0 n3 n3 false), (9, AV.v (.int .i64 x0))], hp := [(16, AObj.row 5 1 (.ints .u8 l3) n2)], nx := 17 }) (.normal) { n := 70, fr := [(6, AV.row 16 0 n3 n3 false), (9, AV.v (.int .i64 (x0 + (1 : Int))))], hp := [(16, AObj.row 5 1 (.ints .u8 ((l3.set (ixPlus 0 x0.toNat) (l3.getD (ixPlus 0 ((↑n3 : Int) - (1 : Int) - x0).toNat) (0 : Int))).set (ixPlus 0 ((↑n3 : Int) - (1 : Int) - x0).toNat) (l3.getD (ixPlus 0 x0.toNat) (0 : Int)))) (l3.set (ixPlus 0 x0.toNat) (l3.getD (ixPlus 0 ((↑n3 : Int) - (1 : Int) - x0).toNat) (0 : Int))).length)], nx := 17 } :=
  evW_to hm sok15 (hs := [CHint.ops 14 [(4, Hint.b true)]]) (slots := [6, 9]) (keys := [16]) (nx := 17) (c := _) (by kernel_rfl) h
theorem rtextL1_2 (a : List Int) (ta : Bool) (r : Int) (x0 : Int) (l3 : List Int) (n2 : Nat) (n3 : Nat) (h : AllP [(2 : Int) ≠ (0 : Int), inR IntKind.i64 ((↑n3 : Int).tdiv (2 : Int)), decide (x0 < (↑n3 : Int).tdiv (2 : Int)) = false]) : To Try.prog (loopAt Try.f34 1) ({ n := 70, fr := [(6, AV.row 16 0 n3 n3 false), (9, AV.v (.int .i64 x0))], hp := [(16, AObj.row 5 1 (.ints .u8 l3) n2)], nx := 17 }) (Exit.exit 2) { n := 70, fr := [(6, AV.row 16 0 n3 n3 false)], hp := [(16, AObj.row 5 1 (.ints .u8 l3) n2)], nx := 17 } :=
  evW_to hm sok15 (hs := [CHint.ops 14 [(4, Hint.b false)]]) (slots := [6]) (keys := [16]) (nx := 17) (c := _) (by kernel_rfl) h
-- 5 paths
theorem rtextF1 (a : List Int) (ta : Bool) (r : Int) (l2 : List Int) (l4 : List Int) (n1 : Nat) (n4 : Nat) (n5 : Nat) (h : AllP [decide (r < (2 : Int)) = true]) : PureTo Try.prog 34 [.sl 1 (.ints .u32 a) ta, .v (.int .i64 r)] (AV.tup [AV.v (.string (ByteArray.mk #[])), AV.v (.int .i64 (1 : Int))]) :=
  evFn_pure hm sok15 (fn := Try.f34) rfl rfl (ti := false) (hs := [CHint.ops 1 [(1, Hint.b true)]]) (c := _) (by kernel_rfl) h
theorem rtextF2 (a : List Int) (ta : Bool) (r : Int) (l2 : List Int) (l4 : List Int) (n1 : Nat) (n4 : Nat) (n5 : Nat) (h : AllP [decide (r < (2 : Int)) = false, decide (r > (36 : Int)) = true]) : PureTo Try.prog 34 [.sl 1 (.ints .u32 a) ta, .v (.int .i64 r)] (AV.tup [AV.v (.string (ByteArray.mk #[])), AV.v (.int .i64 (1 : Int))]) :=
  evFn_pure hm sok15 (fn := Try.f34) rfl rfl (ti := false) (hs := [CHint.ops 1 [(1, Hint.b false), (4, Hint.b true)]]) (c := _) (by kernel_rfl) h
theorem rtextF3 (a : List Int) (ta : Bool) (r : Int) (l2 : List Int) (l4 : List Int) (n1 : Nat) (n4 : Nat) (n5 : Nat) (h : AllP [decide (r < (2 : Int)) = false, decide (r > (36 : Int)) = false, over a = true, a.length ≤ lim4]) : PureTo Try.prog 34 [.sl 1 (.ints .u32 a) ta, .v (.int .i64 r)] (AV.tup [AV.v (.string (ByteArray.mk #[])), AV.v (.int .i64 (3 : Int))]) :=
  evFn_pure hm sok15 (fn := Try.f34) rfl rfl (ti := false) (hs := [CHint.ops 1 [(1, Hint.b false), (4, Hint.b false)], CHint.ops 3 [(1, Hint.b true)]]) (c := _) (by kernel_rfl) h
theorem rtextF4 (a : List Int) (ta : Bool) (r : Int) (l2 : List Int) (l4 : List Int) (n1 : Nat) (n4 : Nat) (n5 : Nat) (h : AllP [decide (r < (2 : Int)) = false, decide (r > (36 : Int)) = false, over a = false, a.length ≤ lim4, a.length ≤ lim4, ((↑(norm a).length : Int) == (0 : Int)) = true]) : PureTo Try.prog 34 [.sl 1 (.ints .u32 a) ta, .v (.int .i64 r)] (AV.tup [AV.v (.string (ByteArray.mk #[(48 : UInt8)])), AV.v (.int .i64 (0 : Int))]) :=
  evFn_pure hm sok15 (fn := Try.f34) rfl rfl (ti := false) (hs := [CHint.ops 1 [(1, Hint.b false), (4, Hint.b false)], CHint.ops 3 [(1, Hint.b false)], CHint.ops 6 [(2, Hint.b true)]]) (c := _) (by kernel_rfl) h
theorem rtextF5 (a : List Int) (ta : Bool) (r : Int) (l2 : List Int) (l4 : List Int) (n1 : Nat) (n4 : Nat) (n5 : Nat) (h : AllP [decide (r < (2 : Int)) = false, decide (r > (36 : Int)) = false, over a = false, a.length ≤ lim4, a.length ≤ lim4, ((↑(norm a).length : Int) == (0 : Int)) = false, LoopTo Try.prog (loopAt Try.f34 0) { n := 70, fr := [(0, AV.sl 1 (.ints .u32 (norm a)) false), (1, AV.v (.int .i64 r)), (6, AV.row 16 0 0 0 false)], hp := [(16, AObj.row 5 1 (.ints .u8 []) 0)], nx := 17 } (Exit.exit 0) { n := 70, fr := [(6, AV.row 16 0 l2.length l2.length false)], hp := [(16, AObj.row 5 1 (.ints .u8 l2) n1)], nx := 17 }, LoopTo Try.prog (loopAt Try.f34 1) { n := 70, fr := [(6, AV.row 16 0 l2.length l2.length false), (9, AV.v (.int .i64 (0 : Int)))], hp := [(16, AObj.row 5 1 (.ints .u8 l2) n1)], nx := 17 } (Exit.exit 2) { n := 70, fr := [(6, AV.row 16 0 n5 n5 false)], hp := [(16, AObj.row 5 1 (.ints .u8 l4) n4)], nx := 17 }, n5 = l4.length, n4 ≤ n5]) : PureTo Try.prog 34 [.sl 1 (.ints .u32 a) ta, .v (.int .i64 r)] (AV.tup [AV.v (.string (strOfInts l4)), AV.v (.int .i64 (0 : Int))]) :=
  evFn_pure hm sok15 (fn := Try.f34) rfl rfl (ti := false) (hs := [CHint.ops 1 [(1, Hint.b false), (4, Hint.b false)], CHint.ops 3 [(1, Hint.b false)], CHint.ops 6 [(2, Hint.b false)], CHint.ops 8 [(0, Hint.nil 5)], CHint.loop [0, 1, 6] [16] 17 (Exit.exit 0) { n := 70, fr := [(6, AV.row 16 0 l2.length l2.length false)], hp := [(16, AObj.row (5 : TypeId) 1 (.ints .u8 l2) n1)], nx := 17 }, CHint.loop [6, 9] [16] 17 (Exit.exit 2) { n := 70, fr := [(6, AV.row 16 0 n5 n5 false)], hp := [(16, AObj.row (5 : TypeId) 1 (.ints .u8 l4) n4)], nx := 17 }]) (c := _) (by kernel_rfl) h
-- 3 paths
theorem parseL0_1 (s : ByteArray) (r : Int) (x0 : Int) (h : AllP [decide (x0 < (↑s.size : Int)) = true, (0 : Int) ≤ x0 ∧ x0 < (↑s.size : Int), (0 : Int) ≤ byteAt s x0.toNat, byteAt s x0.toNat < (256 : Int), decide (dg (byteAt s x0.toNat) ≥ r) = true]) : To Try.prog (loopAt Try.f35 0) ({ n := 77, fr := [(0, AV.v (.string s)), (1, AV.v (.int .i64 r)), (21, AV.v (.int .i64 (↑s.size : Int))), (22, AV.v (.int .i64 x0))], hp := [], nx := 0 }) (Exit.ret) { n := 77, fr := [(4, AV.v (.slice none 0 0)), (5, AV.v (.int .i64 (4 : Int)))], hp := [], nx := 0 } :=
  evW_to hm sok15 (hs := [CHint.ops 6 [(0, Hint.b true)], CHint.ops 8 [(5, Hint.b true)]]) (slots := [4, 5]) (keys := []) (nx := 0) (c := _) (by kernel_rfl) h
theorem parseL0_2 (s : ByteArray) (r : Int) (x0 : Int) (h : AllP [decide (x0 < (↑s.size : Int)) = true, (0 : Int) ≤ x0 ∧ x0 < (↑s.size : Int), (0 : Int) ≤ byteAt s x0.toNat, byteAt s x0.toNat < (256 : Int), decide (dg (byteAt s x0.toNat) ≥ r) = false, inR IntKind.i64 (x0 + (1 : Int))]) : To Try.prog (loopAt Try.f35 0) ({ n := 77, fr := [(0, AV.v (.string s)), (1, AV.v (.int .i64 r)), (21, AV.v (.int .i64 (↑s.size : Int))), (22, AV.v (.int .i64 x0))], hp := [], nx := 0 }) (.normal) { n := 77, fr := [(0, AV.v (.string s)), (1, AV.v (.int .i64 r)), (21, AV.v (.int .i64 (↑s.size : Int))), (22, AV.v (.int .i64 (x0 + (1 : Int))))], hp := [], nx := 0 } :=
  evW_to hm sok15 (hs := [CHint.ops 6 [(0, Hint.b true)], CHint.ops 8 [(5, Hint.b false)]]) (slots := [0, 1, 21, 22]) (keys := []) (nx := 0) (c := _) (by kernel_rfl) h
theorem parseL0_3 (s : ByteArray) (r : Int) (x0 : Int) (h : AllP [decide (x0 < (↑s.size : Int)) = false]) : To Try.prog (loopAt Try.f35 0) ({ n := 77, fr := [(0, AV.v (.string s)), (1, AV.v (.int .i64 r)), (21, AV.v (.int .i64 (↑s.size : Int))), (22, AV.v (.int .i64 x0))], hp := [], nx := 0 }) (Exit.exit 0) { n := 77, fr := [(0, AV.v (.string s)), (1, AV.v (.int .i64 r))], hp := [], nx := 0 } :=
  evW_to hm sok15 (hs := [CHint.ops 6 [(0, Hint.b false)]]) (slots := [0, 1]) (keys := []) (nx := 0) (c := _) (by kernel_rfl) h
-- 5 paths
theorem parseL1_1 (s : ByteArray) (r : Int) (x2 : Int) (x5 : Int) (l0 : List Int) (l3 : List Int) (n0 : Nat) (n4 : Nat) (n5 : Nat) (h : AllP [decide (x2 < (↑s.size : Int)) = true, (0 : Int) ≤ x2 ∧ x2 < (↑s.size : Int), (0 : Int) ≤ byteAt s x2.toNat, byteAt s x2.toNat < (256 : Int), LoopTo Try.prog (loopAt Try.f35 2) { n := 77, fr := [(0, AV.v (.string s)), (1, AV.v (.int .i64 r)), (7, AV.row 0 0 l0.length l0.length false), (9, AV.v (.int .u64 (dg (byteAt s x2.toNat) % (18446744073709551616 : Int)))), (33, AV.v (.int .i64 (↑s.size : Int))), (34, AV.v (.int .i64 x2)), (43, AV.v (.int .i64 (↑l0.length : Int))), (44, AV.v (.int .i64 (0 : Int)))], hp := [(0, AObj.row 22 1 (.ints .u32 l0) n0)], nx := 1 } (Exit.exit 4) { n := 77, fr := [(0, AV.v (.string s)), (1, AV.v (.int .i64 r)), (7, AV.row 0 0 n5 n5 false), (9, AV.v (.int .u64 x5)), (33, AV.v (.int .i64 (↑s.size : Int))), (34, AV.v (.int .i64 x2))], hp := [(0, AObj.row 22 1 (.ints .u32 l3) n4)], nx := 1 }, decide (x5 > (0 : Int)) = true, n5 = l3.length, n5 = l3.length, (l3 ++ [x5 % (4294967296 : Int)]).length * 4 ≤ 140737488355328, decide ((↑(l3 ++ [x5 % (4294967296 : Int)]).length : Int) > (1024 : Int)) = true]) : To Try.prog (loopAt Try.f35 1) ({ n := 77, fr := [(0, AV.v (.string s)), (1, AV.v (.int .i64 r)), (7, AV.row 0 0 l0.length l0.length false), (33, AV.v (.int .i64 (↑s.size : Int))), (34, AV.v (.int .i64 x2))], hp := [(0, AObj.row 22 1 (.ints .u32 l0) n0)], nx := 1 }) (Exit.ret) { n := 77, fr := [(4, AV.v (.slice none 0 0)), (5, AV.v (.int .i64 (3 : Int)))], hp := [], nx := 1 } :=
  evW_to hm sok15 (hs := [CHint.ops 13 [(0, Hint.b true)], CHint.loop [0, 1, 7, 9, 33, 34, 43, 44] [0] 1 (Exit.exit 4) { n := 77, fr := [(0, AV.v (.string s)), (1, AV.v (.int .i64 r)), (7, AV.row 0 0 n5 n5 false), (9, AV.v (.int .u64 x5)), (33, AV.v (.int .i64 (↑s.size : Int))), (34, AV.v (.int .i64 x2))], hp := [(0, AObj.row (22 : TypeId) 1 (.ints .u32 l3) n4)], nx := 1 }, CHint.ops 23 [(1, Hint.b true)], CHint.ops 25 [(2, Hint.b true)]]) (slots := [4, 5]) (keys := []) (nx := 1) (c := _) (by kernel_rfl) h
theorem parseL1_2 (s : ByteArray) (r : Int) (x2 : Int) (x5 : Int) (l0 : List Int) (l3 : List Int) (n0 : Nat) (n4 : Nat) (n5 : Nat) (h : AllP [decide (x2 < (↑s.size : Int)) = true, (0 : Int) ≤ x2 ∧ x2 < (↑s.size : Int), (0 : Int) ≤ byteAt s x2.toNat, byteAt s x2.toNat < (256 : Int), LoopTo Try.prog (loopAt Try.f35 2) { n := 77, fr := [(0, AV.v (.string s)), (1, AV.v (.int .i64 r)), (7, AV.row 0 0 l0.length l0.length false), (9, AV.v (.int .u64 (dg (byteAt s x2.toNat) % (18446744073709551616 : Int)))), (33, AV.v (.int .i64 (↑s.size : Int))), (34, AV.v (.int .i64 x2)), (43, AV.v (.int .i64 (↑l0.length : Int))), (44, AV.v (.int .i64 (0 : Int)))], hp := [(0, AObj.row 22 1 (.ints .u32 l0) n0)], nx := 1 } (Exit.exit 4) { n := 77, fr := [(0, AV.v (.string s)), (1, AV.v (.int .i64 r)), (7, AV.row 0 0 n5 n5 false), (9, AV.v (.int .u64 x5)), (33, AV.v (.int .i64 (↑s.size : Int))), (34, AV.v (.int .i64 x2))], hp := [(0, AObj.row 22 1 (.ints .u32 l3) n4)], nx := 1 }, decide (x5 > (0 : Int)) = true, n5 = l3.length, n5 = l3.length, (l3 ++ [x5 % (4294967296 : Int)]).length * 4 ≤ 140737488355328, decide ((↑(l3 ++ [x5 % (4294967296 : Int)]).length : Int) > (1024 : Int)) = false, inR IntKind.i64 (x2 + (1 : Int))]) : To Try.prog (loopAt Try.f35 1) ({ n := 77, fr := [(0, AV.v (.string s)), (1, AV.v (.int .i64 r)), (7, AV.row 0 0 l0.length l0.length false), (33, AV.v (.int .i64 (↑s.size : Int))), (34, AV.v (.int .i64 x2))], hp := [(0, AObj.row 22 1 (.ints .u32 l0) n0)], nx := 1 }) (.normal) { n := 77, fr := [(0, AV.v (.string s)), (1, AV.v (.int .i64 r)), (7, AV.row 0 0 (l3 ++ [x5 % (4294967296 : Int)]).length (l3 ++ [x5 % (4294967296 : Int)]).length false), (33, AV.v (.int .i64 (↑s.size : Int))), (34, AV.v (.int .i64 (x2 + (1 : Int))))], hp := [(0, AObj.row 22 1 (.ints .u32 (l3 ++ [x5 % (4294967296 : Int)])) n4)], nx := 1 } :=
  evW_to hm sok15 (hs := [CHint.ops 13 [(0, Hint.b true)], CHint.loop [0, 1, 7, 9, 33, 34, 43, 44] [0] 1 (Exit.exit 4) { n := 77, fr := [(0, AV.v (.string s)), (1, AV.v (.int .i64 r)), (7, AV.row 0 0 n5 n5 false), (9, AV.v (.int .u64 x5)), (33, AV.v (.int .i64 (↑s.size : Int))), (34, AV.v (.int .i64 x2))], hp := [(0, AObj.row (22 : TypeId) 1 (.ints .u32 l3) n4)], nx := 1 }, CHint.ops 23 [(1, Hint.b true)], CHint.ops 25 [(2, Hint.b false)]]) (slots := [0, 1, 7, 33, 34]) (keys := [0]) (nx := 1) (c := _) (by kernel_rfl) h
theorem parseL1_3 (s : ByteArray) (r : Int) (x2 : Int) (x5 : Int) (l0 : List Int) (l3 : List Int) (n0 : Nat) (n4 : Nat) (n5 : Nat) (h : AllP [decide (x2 < (↑s.size : Int)) = true, (0 : Int) ≤ x2 ∧ x2 < (↑s.size : Int), (0 : Int) ≤ byteAt s x2.toNat, byteAt s x2.toNat < (256 : Int), LoopTo Try.prog (loopAt Try.f35 2) { n := 77, fr := [(0, AV.v (.string s)), (1, AV.v (.int .i64 r)), (7, AV.row 0 0 l0.length l0.length false), (9, AV.v (.int .u64 (dg (byteAt s x2.toNat) % (18446744073709551616 : Int)))), (33, AV.v (.int .i64 (↑s.size : Int))), (34, AV.v (.int .i64 x2)), (43, AV.v (.int .i64 (↑l0.length : Int))), (44, AV.v (.int .i64 (0 : Int)))], hp := [(0, AObj.row 22 1 (.ints .u32 l0) n0)], nx := 1 } (Exit.exit 4) { n := 77, fr := [(0, AV.v (.string s)), (1, AV.v (.int .i64 r)), (7, AV.row 0 0 n5 n5 false), (9, AV.v (.int .u64 x5)), (33, AV.v (.int .i64 (↑s.size : Int))), (34, AV.v (.int .i64 x2))], hp := [(0, AObj.row 22 1 (.ints .u32 l3) n4)], nx := 1 }, decide (x5 > (0 : Int)) = false, decide ((↑n5 : Int) > (1024 : Int)) = true]) : To Try.prog (loopAt Try.f35 1) ({ n := 77, fr := [(0, AV.v (.string s)), (1, AV.v (.int .i64 r)), (7, AV.row 0 0 l0.length l0.length false), (33, AV.v (.int .i64 (↑s.size : Int))), (34, AV.v (.int .i64 x2))], hp := [(0, AObj.row 22 1 (.ints .u32 l0) n0)], nx := 1 }) (Exit.ret) { n := 77, fr := [(4, AV.v (.slice none 0 0)), (5, AV.v (.int .i64 (3 : Int)))], hp := [], nx := 1 } :=
  evW_to hm sok15 (hs := [CHint.ops 13 [(0, Hint.b true)], CHint.loop [0, 1, 7, 9, 33, 34, 43, 44] [0] 1 (Exit.exit 4) { n := 77, fr := [(0, AV.v (.string s)), (1, AV.v (.int .i64 r)), (7, AV.row 0 0 n5 n5 false), (9, AV.v (.int .u64 x5)), (33, AV.v (.int .i64 (↑s.size : Int))), (34, AV.v (.int .i64 x2))], hp := [(0, AObj.row (22 : TypeId) 1 (.ints .u32 l3) n4)], nx := 1 }, CHint.ops 23 [(1, Hint.b false)], CHint.ops 25 [(2, Hint.b true)]]) (slots := [4, 5]) (keys := []) (nx := 1) (c := _) (by kernel_rfl) h
theorem parseL1_4 (s : ByteArray) (r : Int) (x2 : Int) (x5 : Int) (l0 : List Int) (l3 : List Int) (n0 : Nat) (n4 : Nat) (n5 : Nat) (h : AllP [decide (x2 < (↑s.size : Int)) = true, (0 : Int) ≤ x2 ∧ x2 < (↑s.size : Int), (0 : Int) ≤ byteAt s x2.toNat, byteAt s x2.toNat < (256 : Int), LoopTo Try.prog (loopAt Try.f35 2) { n := 77, fr := [(0, AV.v (.string s)), (1, AV.v (.int .i64 r)), (7, AV.row 0 0 l0.length l0.length false), (9, AV.v (.int .u64 (dg (byteAt s x2.toNat) % (18446744073709551616 : Int)))), (33, AV.v (.int .i64 (↑s.size : Int))), (34, AV.v (.int .i64 x2)), (43, AV.v (.int .i64 (↑l0.length : Int))), (44, AV.v (.int .i64 (0 : Int)))], hp := [(0, AObj.row 22 1 (.ints .u32 l0) n0)], nx := 1 } (Exit.exit 4) { n := 77, fr := [(0, AV.v (.string s)), (1, AV.v (.int .i64 r)), (7, AV.row 0 0 n5 n5 false), (9, AV.v (.int .u64 x5)), (33, AV.v (.int .i64 (↑s.size : Int))), (34, AV.v (.int .i64 x2))], hp := [(0, AObj.row 22 1 (.ints .u32 l3) n4)], nx := 1 }, decide (x5 > (0 : Int)) = false, decide ((↑n5 : Int) > (1024 : Int)) = false, inR IntKind.i64 (x2 + (1 : Int))]) : To Try.prog (loopAt Try.f35 1) ({ n := 77, fr := [(0, AV.v (.string s)), (1, AV.v (.int .i64 r)), (7, AV.row 0 0 l0.length l0.length false), (33, AV.v (.int .i64 (↑s.size : Int))), (34, AV.v (.int .i64 x2))], hp := [(0, AObj.row 22 1 (.ints .u32 l0) n0)], nx := 1 }) (.normal) { n := 77, fr := [(0, AV.v (.string s)), (1, AV.v (.int .i64 r)), (7, AV.row 0 0 n5 n5 false), (33, AV.v (.int .i64 (↑s.size : Int))), (34, AV.v (.int .i64 (x2 + (1 : Int))))], hp := [(0, AObj.row 22 1 (.ints .u32 l3) n4)], nx := 1 } :=
  evW_to hm sok15 (hs := [CHint.ops 13 [(0, Hint.b true)], CHint.loop [0, 1, 7, 9, 33, 34, 43, 44] [0] 1 (Exit.exit 4) { n := 77, fr := [(0, AV.v (.string s)), (1, AV.v (.int .i64 r)), (7, AV.row 0 0 n5 n5 false), (9, AV.v (.int .u64 x5)), (33, AV.v (.int .i64 (↑s.size : Int))), (34, AV.v (.int .i64 x2))], hp := [(0, AObj.row (22 : TypeId) 1 (.ints .u32 l3) n4)], nx := 1 }, CHint.ops 23 [(1, Hint.b false)], CHint.ops 25 [(2, Hint.b false)]]) (slots := [0, 1, 7, 33, 34]) (keys := [0]) (nx := 1) (c := _) (by kernel_rfl) h
theorem parseL1_5 (s : ByteArray) (r : Int) (x2 : Int) (x5 : Int) (l0 : List Int) (l3 : List Int) (n0 : Nat) (n4 : Nat) (n5 : Nat) (h : AllP [decide (x2 < (↑s.size : Int)) = false]) : To Try.prog (loopAt Try.f35 1) ({ n := 77, fr := [(0, AV.v (.string s)), (1, AV.v (.int .i64 r)), (7, AV.row 0 0 l0.length l0.length false), (33, AV.v (.int .i64 (↑s.size : Int))), (34, AV.v (.int .i64 x2))], hp := [(0, AObj.row 22 1 (.ints .u32 l0) n0)], nx := 1 }) (Exit.exit 2) { n := 77, fr := [(7, AV.row 0 0 l0.length l0.length false)], hp := [(0, AObj.row 22 1 (.ints .u32 l0) n0)], nx := 1 } :=
  evW_to hm sok15 (hs := [CHint.ops 13 [(0, Hint.b false)]]) (slots := [7]) (keys := [0]) (nx := 1) (c := _) (by kernel_rfl) h
-- 2 paths
theorem parseL2_1 (s : ByteArray) (r : Int) (x2 : Int) (x3 : Int) (x4 : Int) (l0 : List Int) (l2 : List Int) (n2 : Nat) (n3 : Nat) (h : AllP [decide (x4 < (↑l0.length : Int)) = true, (0 : Int) ≤ x4 ∧ x4 < (↑n3 : Int), n2 ≤ n3, inR IntKind.u64 (l2.getD (ixPlus 0 x4.toNat) (0 : Int)), inR IntKind.u64 (l2.getD (ixPlus 0 x4.toNat) (0 : Int) * (r % (18446744073709551616 : Int))), inR IntKind.u64 (l2.getD (ixPlus 0 x4.toNat) (0 : Int) * (r % (18446744073709551616 : Int)) + x3), (0 : Int) ≤ x4 ∧ x4 < (↑n3 : Int), n3 = l2.length, (0 : Int) ≤ (32 : Int), inR IntKind.i64 (x4 + (1 : Int))]) : To Try.prog (loopAt Try.f35 2) ({ n := 77, fr := [(0, AV.v (.string s)), (1, AV.v (.int .i64 r)), (7, AV.row 0 0 n3 n3 false), (9, AV.v (.int .u64 x3)), (33, AV.v (.int .i64 (↑s.size : Int))), (34, AV.v (.int .i64 x2)), (43, AV.v (.int .i64 (↑l0.length : Int))), (44, AV.v (.int .i64 x4))], hp := [(0, AObj.row 22 1 (.ints .u32 l2) n2)], nx := 1 }) (.normal) { n := 77, fr := [(0, AV.v (.string s)), (1, AV.v (.int .i64 r)), (7, AV.row 0 0 n3 n3 false), (9, AV.v (.int .u64 ((l2.getD (ixPlus 0 x4.toNat) (0 : Int) * (r % (18446744073709551616 : Int)) + x3) / (4294967296 : Int)))), (33, AV.v (.int .i64 (↑s.size : Int))), (34, AV.v (.int .i64 x2)), (43, AV.v (.int .i64 (↑l0.length : Int))), (44, AV.v (.int .i64 (x4 + (1 : Int))))], hp := [(0, AObj.row 22 1 (.ints .u32 (l2.set (ixPlus 0 x4.toNat) ((l2.getD (ixPlus 0 x4.toNat) (0 : Int) * (r % (18446744073709551616 : Int)) + x3) % (4294967296 : Int)))) l2.length)], nx := 1 } :=
  evW_to hm sok15 (hs := [CHint.ops 17 [(0, Hint.b true)]]) (slots := [0, 1, 7, 9, 33, 34, 43, 44]) (keys := [0]) (nx := 1) (c := _) (by kernel_rfl) h
theorem parseL2_2 (s : ByteArray) (r : Int) (x2 : Int) (x3 : Int) (x4 : Int) (l0 : List Int) (l2 : List Int) (n2 : Nat) (n3 : Nat) (h : AllP [decide (x4 < (↑l0.length : Int)) = false]) : To Try.prog (loopAt Try.f35 2) ({ n := 77, fr := [(0, AV.v (.string s)), (1, AV.v (.int .i64 r)), (7, AV.row 0 0 n3 n3 false), (9, AV.v (.int .u64 x3)), (33, AV.v (.int .i64 (↑s.size : Int))), (34, AV.v (.int .i64 x2)), (43, AV.v (.int .i64 (↑l0.length : Int))), (44, AV.v (.int .i64 x4))], hp := [(0, AObj.row 22 1 (.ints .u32 l2) n2)], nx := 1 }) (Exit.exit 4) { n := 77, fr := [(0, AV.v (.string s)), (1, AV.v (.int .i64 r)), (7, AV.row 0 0 n3 n3 false), (9, AV.v (.int .u64 x3)), (33, AV.v (.int .i64 (↑s.size : Int))), (34, AV.v (.int .i64 x2))], hp := [(0, AObj.row 22 1 (.ints .u32 l2) n2)], nx := 1 } :=
  evW_to hm sok15 (hs := [CHint.ops 17 [(0, Hint.b false)]]) (slots := [0, 1, 7, 9, 33, 34]) (keys := [0]) (nx := 1) (c := _) (by kernel_rfl) h
-- 6 paths
theorem parseF1 (s : ByteArray) (r : Int) (x1 : Int) (l1 : List Int) (n1 : Nat) (h : AllP [decide (r < (2 : Int)) = true]) : PureTo Try.prog 35 [.v (.string s), .v (.int .i64 r)] (AV.tup [AV.sl 1 (.ints .u32 []) false, AV.v (.int .i64 (1 : Int))]) :=
  evFn_pure hm sok15 (fn := Try.f35) rfl rfl (ti := false) (hs := [CHint.ops 1 [(1, Hint.b true)]]) (c := _) (by kernel_rfl) h
theorem parseF2 (s : ByteArray) (r : Int) (x1 : Int) (l1 : List Int) (n1 : Nat) (h : AllP [decide (r < (2 : Int)) = false, decide (r > (36 : Int)) = true]) : PureTo Try.prog 35 [.v (.string s), .v (.int .i64 r)] (AV.tup [AV.sl 1 (.ints .u32 []) false, AV.v (.int .i64 (1 : Int))]) :=
  evFn_pure hm sok15 (fn := Try.f35) rfl rfl (ti := false) (hs := [CHint.ops 1 [(1, Hint.b false), (4, Hint.b true)]]) (c := _) (by kernel_rfl) h
theorem parseF3 (s : ByteArray) (r : Int) (x1 : Int) (l1 : List Int) (n1 : Nat) (h : AllP [decide (r < (2 : Int)) = false, decide (r > (36 : Int)) = false, (s.toList == (ByteArray.mk #[]).toList) = true]) : PureTo Try.prog 35 [.v (.string s), .v (.int .i64 r)] (AV.tup [AV.sl 1 (.ints .u32 []) false, AV.v (.int .i64 (4 : Int))]) :=
  evFn_pure hm sok15 (fn := Try.f35) rfl rfl (ti := false) (hs := [CHint.ops 1 [(1, Hint.b false), (4, Hint.b false)], CHint.ops 3 [(1, Hint.b true)]]) (c := _) (by kernel_rfl) h
theorem parseF4 (s : ByteArray) (r : Int) (x1 : Int) (l1 : List Int) (n1 : Nat) (h : AllP [decide (r < (2 : Int)) = false, decide (r > (36 : Int)) = false, (s.toList == (ByteArray.mk #[]).toList) = false, LoopTo Try.prog (loopAt Try.f35 0) { n := 77, fr := [(0, AV.v (.string s)), (1, AV.v (.int .i64 r)), (21, AV.v (.int .i64 (↑s.size : Int))), (22, AV.v (.int .i64 (0 : Int)))], hp := [], nx := 0 } (Exit.exit 0) { n := 77, fr := [(0, AV.v (.string s)), (1, AV.v (.int .i64 r))], hp := [], nx := 0 }, LoopTo Try.prog (loopAt Try.f35 1) { n := 77, fr := [(0, AV.v (.string s)), (1, AV.v (.int .i64 r)), (7, AV.row 0 0 0 0 false), (33, AV.v (.int .i64 (↑s.size : Int))), (34, AV.v (.int .i64 (0 : Int)))], hp := [(0, AObj.row 22 1 (.ints .u32 []) 0)], nx := 1 } (Exit.exit 2) { n := 77, fr := [(7, AV.row 0 0 l1.length l1.length false)], hp := [(0, AObj.row 22 1 (.ints .u32 l1) n1)], nx := 1 }, l1.length = l1.length, n1 ≤ l1.length]) : PureTo Try.prog 35 [.v (.string s), .v (.int .i64 r)] (AV.tup [AV.sl 1 (.ints .u32 l1) false, AV.v (.int .i64 (0 : Int))]) :=
  evFn_pure hm sok15 (fn := Try.f35) rfl rfl (ti := false) (hs := [CHint.ops 1 [(1, Hint.b false), (4, Hint.b false)], CHint.ops 3 [(1, Hint.b false)], CHint.loop [0, 1, 21, 22] [] 0 (Exit.exit 0) { n := 77, fr := [(0, AV.v (.string s)), (1, AV.v (.int .i64 r))], hp := [], nx := 0 }, CHint.ops 11 [(0, Hint.nil 22)], CHint.loop [0, 1, 7, 33, 34] [0] 1 (Exit.exit 2) { n := 77, fr := [(7, AV.row 0 0 l1.length l1.length false)], hp := [(0, AObj.row (22 : TypeId) 1 (.ints .u32 l1) n1)], nx := 1 }]) (c := _) (by kernel_rfl) h
theorem parseF5 (s : ByteArray) (r : Int) (x1 : Int) (l1 : List Int) (n1 : Nat) (h : AllP [decide (r < (2 : Int)) = false, decide (r > (36 : Int)) = false, (s.toList == (ByteArray.mk #[]).toList) = false, LoopTo Try.prog (loopAt Try.f35 0) { n := 77, fr := [(0, AV.v (.string s)), (1, AV.v (.int .i64 r)), (21, AV.v (.int .i64 (↑s.size : Int))), (22, AV.v (.int .i64 (0 : Int)))], hp := [], nx := 0 } (Exit.exit 0) { n := 77, fr := [(0, AV.v (.string s)), (1, AV.v (.int .i64 r))], hp := [], nx := 0 }, LoopTo Try.prog (loopAt Try.f35 1) { n := 77, fr := [(0, AV.v (.string s)), (1, AV.v (.int .i64 r)), (7, AV.row 0 0 0 0 false), (33, AV.v (.int .i64 (↑s.size : Int))), (34, AV.v (.int .i64 (0 : Int)))], hp := [(0, AObj.row 22 1 (.ints .u32 []) 0)], nx := 1 } Exit.ret { n := 77, fr := [(4, AV.v (.slice none 0 0)), (5, AV.v (.int .i64 (3 : Int)))], hp := [], nx := 1 }]) : PureTo Try.prog 35 [.v (.string s), .v (.int .i64 r)] (AV.tup [AV.sl 1 (.ints .u32 []) false, AV.v (.int .i64 (3 : Int))]) :=
  evFn_pure hm sok15 (fn := Try.f35) rfl rfl (ti := false) (hs := [CHint.ops 1 [(1, Hint.b false), (4, Hint.b false)], CHint.ops 3 [(1, Hint.b false)], CHint.loop [0, 1, 21, 22] [] 0 (Exit.exit 0) { n := 77, fr := [(0, AV.v (.string s)), (1, AV.v (.int .i64 r))], hp := [], nx := 0 }, CHint.ops 11 [(0, Hint.nil 22)], CHint.loop [0, 1, 7, 33, 34] [0] 1 Exit.ret { n := 77, fr := [(4, AV.v (.slice none 0 0)), (5, AV.v (.int .i64 (3 : Int)))], hp := [], nx := 1 }]) (c := _) (by kernel_rfl) h
theorem parseF6 (s : ByteArray) (r : Int) (x1 : Int) (l1 : List Int) (n1 : Nat) (h : AllP [decide (r < (2 : Int)) = false, decide (r > (36 : Int)) = false, (s.toList == (ByteArray.mk #[]).toList) = false, LoopTo Try.prog (loopAt Try.f35 0) { n := 77, fr := [(0, AV.v (.string s)), (1, AV.v (.int .i64 r)), (21, AV.v (.int .i64 (↑s.size : Int))), (22, AV.v (.int .i64 (0 : Int)))], hp := [], nx := 0 } Exit.ret { n := 77, fr := [(4, AV.v (.slice none 0 0)), (5, AV.v (.int .i64 x1))], hp := [], nx := 0 }]) : PureTo Try.prog 35 [.v (.string s), .v (.int .i64 r)] (AV.tup [AV.sl 1 (.ints .u32 []) false, AV.v (.int .i64 x1)]) :=
  evFn_pure hm sok15 (fn := Try.f35) rfl rfl (ti := false) (hs := [CHint.ops 1 [(1, Hint.b false), (4, Hint.b false)], CHint.ops 3 [(1, Hint.b false)], CHint.loop [0, 1, 21, 22] [] 0 Exit.ret { n := 77, fr := [(4, AV.v (.slice none 0 0)), (5, AV.v (.int .i64 x1))], hp := [], nx := 0 }]) (c := _) (by kernel_rfl) h
-- 3 paths
theorem rparseL0_1 (s : ByteArray) (r : Int) (x0 : Int) (h : AllP [decide (x0 < (↑s.size : Int)) = true, (0 : Int) ≤ x0 ∧ x0 < (↑s.size : Int), (0 : Int) ≤ byteAt s x0.toNat, byteAt s x0.toNat < (256 : Int), decide (dg (byteAt s x0.toNat) ≥ r) = true]) : To Try.prog (loopAt Try.f36 0) ({ n := 51, fr := [(0, AV.v (.string s)), (1, AV.v (.int .i64 r)), (6, AV.v (.int .i64 x0))], hp := [], nx := 0 }) (Exit.ret) { n := 51, fr := [(4, AV.v (.slice none 0 0)), (5, AV.v (.int .i64 (4 : Int)))], hp := [], nx := 0 } :=
  evW_to hm sok15 (hs := [CHint.ops 4 [(3, Hint.b true)], CHint.ops 6 [(5, Hint.b true)]]) (slots := [4, 5]) (keys := []) (nx := 0) (c := _) (by kernel_rfl) h
theorem rparseL0_2 (s : ByteArray) (r : Int) (x0 : Int) (h : AllP [decide (x0 < (↑s.size : Int)) = true, (0 : Int) ≤ x0 ∧ x0 < (↑s.size : Int), (0 : Int) ≤ byteAt s x0.toNat, byteAt s x0.toNat < (256 : Int), decide (dg (byteAt s x0.toNat) ≥ r) = false, inR IntKind.i64 (x0 + (1 : Int))]) : To Try.prog (loopAt Try.f36 0) ({ n := 51, fr := [(0, AV.v (.string s)), (1, AV.v (.int .i64 r)), (6, AV.v (.int .i64 x0))], hp := [], nx := 0 }) (.normal) { n := 51, fr := [(0, AV.v (.string s)), (1, AV.v (.int .i64 r)), (6, AV.v (.int .i64 (x0 + (1 : Int))))], hp := [], nx := 0 } :=
  evW_to hm sok15 (hs := [CHint.ops 4 [(3, Hint.b true)], CHint.ops 6 [(5, Hint.b false)]]) (slots := [0, 1, 6]) (keys := []) (nx := 0) (c := _) (by kernel_rfl) h
theorem rparseL0_3 (s : ByteArray) (r : Int) (x0 : Int) (h : AllP [decide (x0 < (↑s.size : Int)) = false]) : To Try.prog (loopAt Try.f36 0) ({ n := 51, fr := [(0, AV.v (.string s)), (1, AV.v (.int .i64 r)), (6, AV.v (.int .i64 x0))], hp := [], nx := 0 }) (Exit.exit 0) { n := 51, fr := [(0, AV.v (.string s)), (1, AV.v (.int .i64 r))], hp := [], nx := 0 } :=
  evW_to hm sok15 (hs := [CHint.ops 4 [(3, Hint.b false)]]) (slots := [0, 1]) (keys := []) (nx := 0) (c := _) (by kernel_rfl) h
-- 3 paths
theorem rparseL1_1 (s : ByteArray) (r : Int) (x2 : Int) (l0 : List Int) (n0 : Nat) (h : AllP [decide (x2 < (↑s.size : Int)) = true, l0.length = l0.length, n0 ≤ l0.length, Words l0, Words [r % (4294967296 : Int)], l0.length + [r % (4294967296 : Int)].length + 1 ≤ lim4, (0 : Int) ≤ x2 ∧ x2 < (↑s.size : Int), (0 : Int) ≤ byteAt s x2.toNat, byteAt s x2.toNat < (256 : Int), Words (dig (nat l0 * nat [r % (4294967296 : Int)])), Words [dg (byteAt s x2.toNat) % (4294967296 : Int)], (dig (nat l0 * nat [r % (4294967296 : Int)])).length + 1 ≤ lim4, [dg (byteAt s x2.toNat) % (4294967296 : Int)].length + 1 ≤ lim4, over (dig (nat (dig (nat l0 * nat [r % (4294967296 : Int)])) + nat [dg (byteAt s x2.toNat) % (4294967296 : Int)])) = true, (dig (nat (dig (nat l0 * nat [r % (4294967296 : Int)])) + nat [dg (byteAt s x2.toNat) % (4294967296 : Int)])).length ≤ lim4]) : To Try.prog (loopAt Try.f36 1) ({ n := 51, fr := [(0, AV.v (.string s)), (1, AV.v (.int .i64 r)), (7, AV.row 3 0 l0.length l0.length false), (8, AV.v (.int .i64 x2))], hp := [(3, AObj.row 22 1 (.ints .u32 l0) n0)], nx := 4 }) (Exit.ret) { n := 51, fr := [(4, AV.v (.slice none 0 0)), (5, AV.v (.int .i64 (3 : Int)))], hp := [], nx := 4 } :=
  evW_to hm sok15 (hs := [CHint.ops 12 [(3, Hint.b true)], CHint.ops 15 [(1, Hint.b true)]]) (slots := [4, 5]) (keys := []) (nx := 4) (c := _) (by kernel_rfl) h
theorem rparseL1_2 (s : ByteArray) (r : Int) (x2 : Int) (l0 : List Int) (n0 : Nat) (h : AllP [decide (x2 < (↑s.size : Int)) = true, l0.length = l0.length, n0 ≤ l0.length, Words l0, Words [r % (4294967296 : Int)], l0.length + [r % (4294967296 : Int)].length + 1 ≤ lim4, (0 : Int) ≤ x2 ∧ x2 < (↑s.size : Int), (0 : Int) ≤ byteAt s x2.toNat, byteAt s x2.toNat < (256 : Int), Words (dig (nat l0 * nat [r % (4294967296 : Int)])), Words [dg (byteAt s x2.toNat) % (4294967296 : Int)], (dig (nat l0 * nat [r % (4294967296 : Int)])).length + 1 ≤ lim4, [dg (byteAt s x2.toNat) % (4294967296 : Int)].length + 1 ≤ lim4, over (dig (nat (dig (nat l0 * nat [r % (4294967296 : Int)])) + nat [dg (byteAt s x2.toNat) % (4294967296 : Int)])) = false, (dig (nat (dig (nat l0 * nat [r % (4294967296 : Int)])) + nat [dg (byteAt s x2.toNat) % (4294967296 : Int)])).length ≤ lim4, inR IntKind.i64 (x2 + (1 : Int))]) : To Try.prog (loopAt Try.f36 1) ({ n := 51, fr := [(0, AV.v (.string s)), (1, AV.v (.int .i64 r)), (7, AV.row 3 0 l0.length l0.length false), (8, AV.v (.int .i64 x2))], hp := [(3, AObj.row 22 1 (.ints .u32 l0) n0)], nx := 4 }) (.normal) { n := 51, fr := [(0, AV.v (.string s)), (1, AV.v (.int .i64 r)), (7, AV.sl 1 (.ints .u32 (dig (nat (dig (nat l0 * nat [r % (4294967296 : Int)])) + nat [dg (byteAt s x2.toNat) % (4294967296 : Int)]))) false), (8, AV.v (.int .i64 (x2 + (1 : Int))))], hp := [], nx := 4 } :=
  evW_to hm sok15 (hs := [CHint.ops 12 [(3, Hint.b true)], CHint.ops 15 [(1, Hint.b false)]]) (slots := [0, 1, 7, 8]) (keys := [3]) (nx := 4) (c := _) (by kernel_rfl) h
theorem rparseL1_3 (s : ByteArray) (r : Int) (x2 : Int) (l0 : List Int) (n0 : Nat) (h : AllP [decide (x2 < (↑s.size : Int)) = false]) : To Try.prog (loopAt Try.f36 1) ({ n := 51, fr := [(0, AV.v (.string s)), (1, AV.v (.int .i64 r)), (7, AV.row 3 0 l0.length l0.length false), (8, AV.v (.int .i64 x2))], hp := [(3, AObj.row 22 1 (.ints .u32 l0) n0)], nx := 4 }) (Exit.exit 2) { n := 51, fr := [(7, AV.row 3 0 l0.length l0.length false)], hp := [(3, AObj.row 22 1 (.ints .u32 l0) n0)], nx := 4 } :=
  evW_to hm sok15 (hs := [CHint.ops 12 [(3, Hint.b false)]]) (slots := [7]) (keys := [3]) (nx := 4) (c := _) (by kernel_rfl) h
-- 6 paths
theorem rparseF1 (s : ByteArray) (r : Int) (x1 : Int) (l1 : List Int) (n1 : Nat) (h : AllP [decide (r < (2 : Int)) = true]) : PureTo Try.prog 36 [.v (.string s), .v (.int .i64 r)] (AV.tup [AV.sl 1 (.ints .u32 []) false, AV.v (.int .i64 (1 : Int))]) :=
  evFn_pure hm sok15 (fn := Try.f36) rfl rfl (ti := false) (hs := [CHint.ops 1 [(1, Hint.b true)]]) (c := _) (by kernel_rfl) h
theorem rparseF2 (s : ByteArray) (r : Int) (x1 : Int) (l1 : List Int) (n1 : Nat) (h : AllP [decide (r < (2 : Int)) = false, decide (r > (36 : Int)) = true]) : PureTo Try.prog 36 [.v (.string s), .v (.int .i64 r)] (AV.tup [AV.sl 1 (.ints .u32 []) false, AV.v (.int .i64 (1 : Int))]) :=
  evFn_pure hm sok15 (fn := Try.f36) rfl rfl (ti := false) (hs := [CHint.ops 1 [(1, Hint.b false), (4, Hint.b true)]]) (c := _) (by kernel_rfl) h
theorem rparseF3 (s : ByteArray) (r : Int) (x1 : Int) (l1 : List Int) (n1 : Nat) (h : AllP [decide (r < (2 : Int)) = false, decide (r > (36 : Int)) = false, LoopTo Try.prog (loopAt Try.f36 0) { n := 51, fr := [(0, AV.v (.string s)), (1, AV.v (.int .i64 r)), (6, AV.v (.int .i64 (0 : Int)))], hp := [], nx := 0 } (Exit.exit 0) { n := 51, fr := [(0, AV.v (.string s)), (1, AV.v (.int .i64 r))], hp := [], nx := 0 }, ((↑s.size : Int) == (0 : Int)) = true]) : PureTo Try.prog 36 [.v (.string s), .v (.int .i64 r)] (AV.tup [AV.sl 1 (.ints .u32 []) false, AV.v (.int .i64 (4 : Int))]) :=
  evFn_pure hm sok15 (fn := Try.f36) rfl rfl (ti := false) (hs := [CHint.ops 1 [(1, Hint.b false), (4, Hint.b false)], CHint.loop [0, 1, 6] [] 0 (Exit.exit 0) { n := 51, fr := [(0, AV.v (.string s)), (1, AV.v (.int .i64 r))], hp := [], nx := 0 }, CHint.ops 8 [(2, Hint.b true)]]) (c := _) (by kernel_rfl) h
theorem rparseF4 (s : ByteArray) (r : Int) (x1 : Int) (l1 : List Int) (n1 : Nat) (h : AllP [decide (r < (2 : Int)) = false, decide (r > (36 : Int)) = false, LoopTo Try.prog (loopAt Try.f36 0) { n := 51, fr := [(0, AV.v (.string s)), (1, AV.v (.int .i64 r)), (6, AV.v (.int .i64 (0 : Int)))], hp := [], nx := 0 } (Exit.exit 0) { n := 51, fr := [(0, AV.v (.string s)), (1, AV.v (.int .i64 r))], hp := [], nx := 0 }, ((↑s.size : Int) == (0 : Int)) = false, LoopTo Try.prog (loopAt Try.f36 1) { n := 51, fr := [(0, AV.v (.string s)), (1, AV.v (.int .i64 r)), (7, AV.row 3 0 0 0 false), (8, AV.v (.int .i64 (0 : Int)))], hp := [(3, AObj.row 22 1 (.ints .u32 []) 0)], nx := 4 } (Exit.exit 2) { n := 51, fr := [(7, AV.row 3 0 l1.length l1.length false)], hp := [(3, AObj.row 22 1 (.ints .u32 l1) n1)], nx := 4 }, l1.length = l1.length, n1 ≤ l1.length]) : PureTo Try.prog 36 [.v (.string s), .v (.int .i64 r)] (AV.tup [AV.sl 1 (.ints .u32 l1) false, AV.v (.int .i64 (0 : Int))]) :=
  evFn_pure hm sok15 (fn := Try.f36) rfl rfl (ti := false) (hs := [CHint.ops 1 [(1, Hint.b false), (4, Hint.b false)], CHint.loop [0, 1, 6] [] 0 (Exit.exit 0) { n := 51, fr := [(0, AV.v (.string s)), (1, AV.v (.int .i64 r))], hp := [], nx := 0 }, CHint.ops 8 [(2, Hint.b false)], CHint.ops 10 [(0, Hint.nil 22)], CHint.loop [0, 1, 7, 8] [3] 4 (Exit.exit 2) { n := 51, fr := [(7, AV.row 3 0 l1.length l1.length false)], hp := [(3, AObj.row (22 : TypeId) 1 (.ints .u32 l1) n1)], nx := 4 }]) (c := _) (by kernel_rfl) h
theorem rparseF5 (s : ByteArray) (r : Int) (x1 : Int) (l1 : List Int) (n1 : Nat) (h : AllP [decide (r < (2 : Int)) = false, decide (r > (36 : Int)) = false, LoopTo Try.prog (loopAt Try.f36 0) { n := 51, fr := [(0, AV.v (.string s)), (1, AV.v (.int .i64 r)), (6, AV.v (.int .i64 (0 : Int)))], hp := [], nx := 0 } (Exit.exit 0) { n := 51, fr := [(0, AV.v (.string s)), (1, AV.v (.int .i64 r))], hp := [], nx := 0 }, ((↑s.size : Int) == (0 : Int)) = false, LoopTo Try.prog (loopAt Try.f36 1) { n := 51, fr := [(0, AV.v (.string s)), (1, AV.v (.int .i64 r)), (7, AV.row 3 0 0 0 false), (8, AV.v (.int .i64 (0 : Int)))], hp := [(3, AObj.row 22 1 (.ints .u32 []) 0)], nx := 4 } Exit.ret { n := 51, fr := [(4, AV.v (.slice none 0 0)), (5, AV.v (.int .i64 (3 : Int)))], hp := [], nx := 4 }]) : PureTo Try.prog 36 [.v (.string s), .v (.int .i64 r)] (AV.tup [AV.sl 1 (.ints .u32 []) false, AV.v (.int .i64 (3 : Int))]) :=
  evFn_pure hm sok15 (fn := Try.f36) rfl rfl (ti := false) (hs := [CHint.ops 1 [(1, Hint.b false), (4, Hint.b false)], CHint.loop [0, 1, 6] [] 0 (Exit.exit 0) { n := 51, fr := [(0, AV.v (.string s)), (1, AV.v (.int .i64 r))], hp := [], nx := 0 }, CHint.ops 8 [(2, Hint.b false)], CHint.ops 10 [(0, Hint.nil 22)], CHint.loop [0, 1, 7, 8] [3] 4 Exit.ret { n := 51, fr := [(4, AV.v (.slice none 0 0)), (5, AV.v (.int .i64 (3 : Int)))], hp := [], nx := 4 }]) (c := _) (by kernel_rfl) h
theorem rparseF6 (s : ByteArray) (r : Int) (x1 : Int) (l1 : List Int) (n1 : Nat) (h : AllP [decide (r < (2 : Int)) = false, decide (r > (36 : Int)) = false, LoopTo Try.prog (loopAt Try.f36 0) { n := 51, fr := [(0, AV.v (.string s)), (1, AV.v (.int .i64 r)), (6, AV.v (.int .i64 (0 : Int)))], hp := [], nx := 0 } Exit.ret { n := 51, fr := [(4, AV.v (.slice none 0 0)), (5, AV.v (.int .i64 x1))], hp := [], nx := 0 }]) : PureTo Try.prog 36 [.v (.string s), .v (.int .i64 r)] (AV.tup [AV.sl 1 (.ints .u32 []) false, AV.v (.int .i64 x1)]) :=
  evFn_pure hm sok15 (fn := Try.f36) rfl rfl (ti := false) (hs := [CHint.ops 1 [(1, Hint.b false), (4, Hint.b false)], CHint.loop [0, 1, 6] [] 0 Exit.ret { n := 51, fr := [(4, AV.v (.slice none 0 0)), (5, AV.v (.int .i64 x1))], hp := [], nx := 0 }]) (c := _) (by kernel_rfl) h
end Go.Proofs.Bn

/- Bignum: contracts: Text. -/
set_option maxRecDepth 100000
set_option exponentiation.threshold 40000
namespace Go.Proofs.Bn
open Go Go.Ev

/-- the digits of m, the least first -/
def tx (r m : Nat) : List Int :=
  if h : 2 ≤ r ∧ m ≠ 0 then byteAt bnWHtab0 (m % r) :: tx r (m / r) else []
  termination_by m
  decreasing_by exact Nat.div_lt_self (by omega) (by omega)

theorem tx_zero (r : Nat) : tx r 0 = [] := by rw [tx]; simp
theorem tx_pos {r m : Nat} (hr : 2 ≤ r) (h : m ≠ 0) : tx r m = byteAt bnWHtab0 (m % r) :: tx r (m / r) := by rw [tx, dif_pos ⟨hr, h⟩]

theorem tx_len (r : Nat) : ∀ (k m : Nat), m < 2 ^ k → (tx r m).length ≤ k := by
  intro k
  induction k with
  | zero => intro m h; have : m = 0 := by simpa using h
            subst this; rw [tx_zero]; exact Nat.le_refl _
  | succ k ih =>
    intro m h
    by_cases hr : 2 ≤ r ∧ m ≠ 0
    · rw [tx_pos hr.1 hr.2, List.length_cons]
      refine Nat.succ_le_succ (ih _ ?_)
      rw [Nat.div_lt_iff_lt_mul (by omega)]
      have h2 : 2 ^ k * 2 ≤ 2 ^ k * r := Nat.mul_le_mul_left _ hr.1
      rw [Nat.pow_succ] at h
      omega
    · rw [tx, dif_neg hr]; exact Nat.zero_le _

theorem dig_length_pos {m : Nat} (h : m ≠ 0) : 0 < (dig m).length := by rw [dig_pos h, List.length_cons]; omega

theorem pow_words (k : Nat) : (4294967296 : Nat) ^ k = 2 ^ (32 * k) := by rw [Nat.pow_mul]

theorem small_bits {m : Nat} (h : big m = false) : m < 2 ^ 32768 := by
  have h1 := small_len h
  have h2 := nat_lt (words_dig m)
  rw [nat_dig, pow_words] at h2
  exact Nat.lt_of_lt_of_le h2 (Nat.pow_le_pow_right (by decide) (by omega))

theorem dig_short {m k : Nat} (h : m < 2 ^ k) : (dig m).length ≤ k := by
  refine Nat.le_of_not_lt fun h1 => ?_
  have h2 := (dig_len k m).1 h1
  have h3 : (2 : Nat) ^ k ≤ 4294967296 ^ k := Nat.pow_le_pow_left (by omega) k
  omega

theorem text_loop (a : List Int) (ta : Bool) (r : Nat) (hr : 2 ≤ r ∧ r ≤ 36) : ∀ (k m : Nat) (l1 : List Int) (t : Bool), m < 2 ^ k → l1.length + k ≤ 1000000 →
    LoopTo Try.prog (loopAt Try.f33 0) (textS0 a ta r (dig m) l1 0 t) (.exit 0) (textX0 a ta r (l1 ++ tx r m) 0) := by
  intro k
  induction k with
  | zero =>
    intro m l1 t h _
    have : m = 0 := by simpa using h
    subst this
    rw [tx_zero, List.append_nil, dig_zero]
    exact .done (by simp) (textL0_2 a ta r [] l1 0 t ⟨by simp, trivial⟩)
  | succ k ih =>
    intro m l1 t h hl
    by_cases hm : m = 0
    · subst hm
      rw [tx_zero, List.append_nil, dig_zero]
      exact .done (by simp) (textL0_2 a ta r [] l1 0 t ⟨by simp, trivial⟩)
    · have e : ((r : Int) % (4294967296 : Int)) = r := Int.emod_eq_of_lt (by omega) (by omega)
      have hp := dig_length_pos hm
      have hs := dig_short h
      have hmod := Nat.mod_lt m (show r > 0 by omega)
      have hd : m / r < 2 ^ k := by
        rw [Nat.div_lt_iff_lt_mul (by omega)]
        have h2 : 2 ^ k * 2 ≤ 2 ^ k * r := Nat.mul_le_mul_left _ hr.1
        rw [Nat.pow_succ] at h
        omega
      have h1 := textL0_1 a ta r (dig m) l1 0 t (by
        rw [e, Int.toNat_natCast, nat_dig]
        exact ⟨by simp; omega, words_dig m, ⟨by omega, by omega⟩, by unfold lim4; omega, ⟨by omega, by omega⟩, rfl, rfl, by rw [List.length_append, List.length_singleton]; omega, trivial⟩)
      rw [e, Int.toNat_natCast, nat_dig, Int.toNat_natCast] at h1
      have h2 := ih (m / r) (l1 ++ [byteAt bnWHtab0 (m % r)]) false hd (by rw [List.length_append, List.length_singleton]; omega)
      rw [List.append_assoc, List.singleton_append, ← tx_pos hr.1 hm] at h2
      exact .step h1 h2

theorem rtext_loop (a : List Int) (ta : Bool) (r : Nat) (hr : 2 ≤ r ∧ r ≤ 36) : ∀ (k m : Nat) (l1 : List Int) (t : Bool), m < 2 ^ k → l1.length + k ≤ 1000000 →
    LoopTo Try.prog (loopAt Try.f34 0) (rtextS0 a ta r (dig m) l1 0 t) (.exit 0) (rtextX0 a ta r (l1 ++ tx r m) 0) := by
  intro k
  induction k with
  | zero =>
    intro m l1 t h _
    have : m = 0 := by simpa using h
    subst this
    rw [tx_zero, List.append_nil, dig_zero]
    exact .done (by simp) (rtextL0_2 a ta r [] l1 0 t ⟨by simp, trivial⟩)
  | succ k ih =>
    intro m l1 t h hl
    by_cases hm : m = 0
    · subst hm
      rw [tx_zero, List.append_nil, dig_zero]
      exact .done (by simp) (rtextL0_2 a ta r [] l1 0 t ⟨by simp, trivial⟩)
    · have e : ((r : Int) % (4294967296 : Int)) = r := Int.emod_eq_of_lt (by omega) (by omega)
      have hp := dig_length_pos hm
      have hs := dig_short h
      have hmod := Nat.mod_lt m (show r > 0 by omega)
      have hd : m / r < 2 ^ k := by
        rw [Nat.div_lt_iff_lt_mul (by omega)]
        have h2 : 2 ^ k * 2 ≤ 2 ^ k * r := Nat.mul_le_mul_left _ hr.1
        rw [Nat.pow_succ] at h
        omega
      have h1 := rtextL0_1 a ta r (dig m) l1 0 t (by
        rw [e, Int.toNat_natCast, nat_dig]
        exact ⟨by simp; omega, words_dig m, ⟨by omega, by omega⟩, by unfold lim4; omega, ⟨by omega, by omega⟩, rfl, rfl, by rw [List.length_append, List.length_singleton]; omega, trivial⟩)
      rw [e, Int.toNat_natCast, nat_dig, Int.toNat_natCast] at h1
      have h2 := ih (m / r) (l1 ++ [byteAt bnWHtab0 (m % r)]) false hd (by rw [List.length_append, List.length_singleton]; omega)
      rw [List.append_assoc, List.singleton_append, ← tx_pos hr.1 hm] at h2
      exact .step h1 h2

theorem rrev_loop (a : List Int) (ta : Bool) (r : Int) (l : List Int) (hl : l.length < 9000000000000000) : ∀ (f i : Nat) (o : List Int), i + f = l.length / 2 → RevInv l o i →
    LoopTo Try.prog (loopAt Try.f34 1) (rtextS1 a ta r i o l.length l.length) (.exit 2) (rtextX1 a ta r l.reverse l.length l.length) := by
  have ed : (l.length : Int).tdiv 2 = ((l.length / 2 : Nat) : Int) := by rw [Int.tdiv_eq_ediv_of_nonneg (by omega)]; rfl
  intro f
  induction f with
  | zero =>
    intro i o hi I
    have := rev_end (by omega) I
    subst this
    exact .done (by simp) (rtextL1_2 a ta r i _ l.length l.length (by rw [ed]; exact ⟨by omega, inR64 (by omega) (by omega), by simp; omega, trivial⟩))
  | succ f ih =>
    intro i o hi I
    have e1 : ((l.length : Int) - 1 - (i : Int)).toNat = l.length - 1 - i := by omega
    have h1 := rtextL1_1 a ta r i o l.length l.length (by
      rw [Int.toNat_natCast, e1, ed]
      exact ⟨by omega, inR64 (by omega) (by omega), by simp; omega, inR64 (by omega) (by omega), inR64 (by omega) (by omega), inR64 (by omega) (by omega), inR64 (by omega) (by omega), by omega, Nat.le_refl _, by omega, Nat.le_refl _, by omega, I.len.symm, by omega, by rw [List.length_set]; exact I.len.symm, inR64 (by omega) (by omega), trivial⟩)
    rw [Int.toNat_natCast, e1, ix0, ix0, List.length_set, I.len] at h1
    exact .step h1 (ih (i + 1) _ (by omega) (rev_next (by omega) I))

/-- what Text answers -/
def Txt (a : List Int) (r : Int) : ByteArray × Int :=
  if r < 2 then (ByteArray.mk #[], 1) else if 36 < r then (ByteArray.mk #[], 1) else if over a then (ByteArray.mk #[], 3)
  else if nat a = 0 then (ByteArray.mk #[48], 0) else (strOfInts (tx r.toNat (nat a)).reverse, 0)

theorem text_pure (a : List Int) (ta : Bool) (r : Int) (ha : Words a) (hl : a.length ≤ lim4) : PureTo Try.prog 33 [.sl 1 (.ints .u32 a) ta, .v (.int .i64 r)] (.tup [.v (.string (Txt a r).1), .v (.int .i64 (Txt a r).2)]) := by
  have hl2 : a.length < lim := lim4_lt hl
  unfold Txt
  by_cases h1 : r < 2
  · rw [if_pos h1]; exact textF1 a ta r [] 0 ⟨by simpa using h1, trivial⟩
  by_cases h2 : 36 < r
  · rw [if_neg h1, if_pos h2]; exact textF2 a ta r [] 0 ⟨by simpa using h1, by simpa using h2, trivial⟩
  rw [if_neg h1, if_neg h2]
  cases h3 : over a with
  | true => rw [if_pos rfl]; exact textF3 a ta r [] 0 ⟨by simpa using h1, by simpa using h2, h3, hl2, trivial⟩
  | false =>
    rw [if_neg (by simp)]
    by_cases h4 : nat a = 0
    · rw [if_pos h4]
      exact textF4 a ta r [] 0 ⟨by simpa using h1, by simpa using h2, h3, hl2, hl2, by rw [norm_eq ha, h4, dig_zero]; rfl, trivial⟩
    · rw [if_neg h4]
      obtain ⟨R, rfl⟩ : ∃ R : Nat, r = R := ⟨r.toNat, by omega⟩
      rw [Int.toNat_natCast]
      have h5 : big (nat a) = false := by unfold over at h3; unfold big; rw [← norm_eq ha]; exact h3
      have h6 := small_bits h5
      have h7 := tx_len R _ _ h6
      have hloop := text_loop a ta R (by omega) 32768 (nat a) [] true h6 (by simp)
      rw [List.nil_append] at hloop
      refine textF5 a ta R (tx R (nat a)) 0 ⟨by simpa using h1, by simpa using h2, h3, hl2, hl2, ?_, ?_, rfl, rfl, rfl, by omega, by rw [List.length_reverse], by rw [List.length_reverse]; exact Nat.le_refl _, trivial⟩
      · rw [norm_eq ha]
        have := dig_length_pos h4
        clear h6 hloop
        rw [beq_eq_false_iff_ne]
        omega
      · rw [norm_eq ha]; exact hloop

theorem rtext_pure (a : List Int) (ta : Bool) (r : Int) (ha : Words a) (hl : a.length ≤ lim4) : PureTo Try.prog 34 [.sl 1 (.ints .u32 a) ta, .v (.int .i64 r)] (.tup [.v (.string (Txt a r).1), .v (.int .i64 (Txt a r).2)]) := by
  unfold Txt
  by_cases h1 : r < 2
  · rw [if_pos h1]; exact rtextF1 a ta r [] [] 0 0 0 ⟨by simpa using h1, trivial⟩
  by_cases h2 : 36 < r
  · rw [if_neg h1, if_pos h2]; exact rtextF2 a ta r [] [] 0 0 0 ⟨by simpa using h1, by simpa using h2, trivial⟩
  rw [if_neg h1, if_neg h2]
  cases h3 : over a with
  | true => rw [if_pos rfl]; exact rtextF3 a ta r [] [] 0 0 0 ⟨by simpa using h1, by simpa using h2, h3, hl, trivial⟩
  | false =>
    rw [if_neg (by simp)]
    by_cases h4 : nat a = 0
    · rw [if_pos h4]
      exact rtextF4 a ta r [] [] 0 0 0 ⟨by simpa using h1, by simpa using h2, h3, hl, hl, by rw [norm_eq ha, h4, dig_zero]; rfl, trivial⟩
    · rw [if_neg h4]
      obtain ⟨R, rfl⟩ : ∃ R : Nat, r = R := ⟨r.toNat, by omega⟩
      rw [Int.toNat_natCast]
      have h5 : big (nat a) = false := by unfold over at h3; unfold big; rw [← norm_eq ha]; exact h3
      have h6 := small_bits h5
      have h7 := tx_len R _ _ h6
      have hloop := rtext_loop a ta R (by omega) 32768 (nat a) [] false h6 (by simp)
      rw [List.nil_append] at hloop
      have hrev := rrev_loop a ta R (tx R (nat a)) (by omega) _ 0 _ (Nat.zero_add _) (rev_start _)
      refine rtextF5 a ta R (tx R (nat a)) (tx R (nat a)).reverse 0 (tx R (nat a)).length (tx R (nat a)).length ⟨by simpa using h1, by simpa using h2, h3, hl, hl, ?_, ?_, .raise hrev, by rw [List.length_reverse], Nat.le_refl _, trivial⟩
      · rw [norm_eq ha]
        have := dig_length_pos h4
        clear h6 hloop
        rw [beq_eq_false_iff_ne]
        omega
      · rw [norm_eq ha]; exact hloop

end Go.Proofs.Bn

/- Bignum: walks, written by the tool. -/
set_option maxRecDepth 100000
namespace Go.Proofs.Bn
open Go Go.Ev
def sparseS0 (s : ByteArray) (r : Int) (x0 : Int) : AS := { n := 51, fr := [(0, AV.v (.string s)), (1, AV.v (.int .i64 r)), (6, AV.v (.int .i64 x0))], hp := [], nx := 0 }
def sparseX0 (s : ByteArray) (r : Int)  : AS := { n := 51, fr := [(0, AV.v (.string s)), (1, AV.v (.int .i64 r))], hp := [], nx := 0 }
def sparseX0_1 (s : ByteArray) (r : Int) (x1 : Int) : AS := { n := 51, fr := [(4, AV.v (.slice none 0 0)), (5, AV.v (.int .i64 x1))], hp := [], nx := 0 }
def sparseS1 (s : ByteArray) (r : Int) (x2 : Int) (l0 : List Int) (t0 : Bool) : AS := { n := 51, fr := [(0, AV.v (.string s)), (1, AV.v (.int .i64 r)), (7, AV.sl 1 (.ints .u32 l0) t0), (8, AV.v (.int .i64 x2))], hp := [], nx := 0 }
def sparseX1 (s : ByteArray) (r : Int) (l1 : List Int) (t1 : Bool) : AS := { n := 51, fr := [(7, AV.sl 1 (.ints .u32 l1) t1)], hp := [], nx := 0 }
def sparseX1_1 (s : ByteArray) (r : Int)  : AS := { n := 51, fr := [(4, AV.v (.slice none 0 0)), (5, AV.v (.int .i64 (3 : Int)))], hp := [], nx := 0 }
-- 3 paths
theorem sparseL0_1 (s : ByteArray) (r : Int) (x0 : Int) (h : AllP [decide (x0 < (↑s.size : Int)) = true, (0 : Int) ≤ x0 ∧ x0 < (↑s.size : Int), (0 : Int) ≤ byteAt s x0.toNat, byteAt s x0.toNat < (256 : Int), decide (dg (byteAt s x0.toNat) ≥ r) = true]) : To Try.prog (loopAt Try.f36 0) ({ n := 51, fr := [(0, AV.v (.string s)), (1, AV.v (.int .i64 r)), (6, AV.v (.int .i64 x0))], hp := [], nx := 0 }) (Exit.ret) { n := 51, fr := [(4, AV.v (.slice none 0 0)), (5, AV.v (.int .i64 (4 : Int)))], hp := [], nx := 0 } :=
  evW_to hm sok15 (hs := [CHint.ops 4 [(3, Hint.b true)], CHint.ops 6 [(5, Hint.b true)]]) (slots := [4, 5]) (keys := []) (nx := 0) (c := _) (by kernel_rfl) h
theorem sparseL0_2 (s : ByteArray) (r : Int) (x0 : Int) (h : AllP [decide (x0 < (↑s.size : Int)) = true, (0 : Int) ≤ x0 ∧ x0 < (↑s.size : Int), (0 : Int) ≤ byteAt s x0.toNat, byteAt s x0.toNat < (256 : Int), decide (dg (byteAt s x0.toNat) ≥ r) = false, inR IntKind.i64 (x0 + (1 : Int))]) : To Try.prog (loopAt Try.f36 0) ({ n := 51, fr := [(0, AV.v (.string s)), (1, AV.v (.int .i64 r)), (6, AV.v (.int .i64 x0))], hp := [], nx := 0 }) (.normal) { n := 51, fr := [(0, AV.v (.string s)), (1, AV.v (.int .i64 r)), (6, AV.v (.int .i64 (x0 + (1 : Int))))], hp := [], nx := 0 } :=
  evW_to hm sok15 (hs := [CHint.ops 4 [(3, Hint.b true)], CHint.ops 6 [(5, Hint.b false)]]) (slots := [0, 1, 6]) (keys := []) (nx := 0) (c := _) (by kernel_rfl) h
theorem sparseL0_3 (s : ByteArray) (r : Int) (x0 : Int) (h : AllP [decide (x0 < (↑s.size : Int)) = false]) : To Try.prog (loopAt Try.f36 0) ({ n := 51, fr := [(0, AV.v (.string s)), (1, AV.v (.int .i64 r)), (6, AV.v (.int .i64 x0))], hp := [], nx := 0 }) (Exit.exit 0) { n := 51, fr := [(0, AV.v (.string s)), (1, AV.v (.int .i64 r))], hp := [], nx := 0 } :=
  evW_to hm sok15 (hs := [CHint.ops 4 [(3, Hint.b false)]]) (slots := [0, 1]) (keys := []) (nx := 0) (c := _) (by kernel_rfl) h
-- 3 paths
theorem sparseL1_1 (s : ByteArray) (r : Int) (x2 : Int) (l0 : List Int) (t0 : Bool) (h : AllP [decide (x2 < (↑s.size : Int)) = true, Words l0, Words [r % (4294967296 : Int)], l0.length + [r % (4294967296 : Int)].length + 1 ≤ lim4, (0 : Int) ≤ x2 ∧ x2 < (↑s.size : Int), (0 : Int) ≤ byteAt s x2.toNat, byteAt s x2.toNat < (256 : Int), Words (dig (nat l0 * nat [r % (4294967296 : Int)])), Words [dg (byteAt s x2.toNat) % (4294967296 : Int)], (dig (nat l0 * nat [r % (4294967296 : Int)])).length + 1 ≤ lim4, [dg (byteAt s x2.toNat) % (4294967296 : Int)].length + 1 ≤ lim4, over (dig (nat (dig (nat l0 * nat [r % (4294967296 : Int)])) + nat [dg (byteAt s x2.toNat) % (4294967296 : Int)])) = true, (dig (nat (dig (nat l0 * nat [r % (4294967296 : Int)])) + nat [dg (byteAt s x2.toNat) % (4294967296 : Int)])).length ≤ lim4]) : To Try.prog (loopAt Try.f36 1) ({ n := 51, fr := [(0, AV.v (.string s)), (1, AV.v (.int .i64 r)), (7, AV.sl 1 (.ints .u32 l0) t0), (8, AV.v (.int .i64 x2))], hp := [], nx := 0 }) (Exit.ret) { n := 51, fr := [(4, AV.v (.slice none 0 0)), (5, AV.v (.int .i64 (3 : Int)))], hp := [], nx := 0 } :=
  evW_to hm sok15 (hs := [CHint.ops 12 [(3, Hint.b true)], CHint.ops 15 [(1, Hint.b true)]]) (slots := [4, 5]) (keys := []) (nx := 0) (c := _) (by kernel_rfl) h
theorem sparseL1_2 (s : ByteArray) (r : Int) (x2 : Int) (l0 : List Int) (t0 : Bool) (h : AllP [decide (x2 < (↑s.size : Int)) = true, Words l0, Words [r % (4294967296 : Int)], l0.length + [r % (4294967296 : Int)].length + 1 ≤ lim4, (0 : Int) ≤ x2 ∧ x2 < (↑s.size : Int), (0 : Int) ≤ byteAt s x2.toNat, byteAt s x2.toNat < (256 : Int), Words (dig (nat l0 * nat [r % (4294967296 : Int)])), Words [dg (byteAt s x2.toNat) % (4294967296 : Int)], (dig (nat l0 * nat [r % (4294967296 : Int)])).length + 1 ≤ lim4, [dg (byteAt s x2.toNat) % (4294967296 : Int)].length + 1 ≤ lim4, over (dig (nat (dig (nat l0 * nat [r % (4294967296 : Int)])) + nat [dg (byteAt s x2.toNat) % (4294967296 : Int)])) = false, (dig (nat (dig (nat l0 * nat [r % (4294967296 : Int)])) + nat [dg (byteAt s x2.toNat) % (4294967296 : Int)])).length ≤ lim4, inR IntKind.i64 (x2 + (1 : Int))]) : To Try.prog (loopAt Try.f36 1) ({ n := 51, fr := [(0, AV.v (.string s)), (1, AV.v (.int .i64 r)), (7, AV.sl 1 (.ints .u32 l0) t0), (8, AV.v (.int .i64 x2))], hp := [], nx := 0 }) (.normal) { n := 51, fr := [(0, AV.v (.string s)), (1, AV.v (.int .i64 r)), (7, AV.sl 1 (.ints .u32 (dig (nat (dig (nat l0 * nat [r % (4294967296 : Int)])) + nat [dg (byteAt s x2.toNat) % (4294967296 : Int)]))) false), (8, AV.v (.int .i64 (x2 + (1 : Int))))], hp := [], nx := 0 } :=
  evW_to hm sok15 (hs := [CHint.ops 12 [(3, Hint.b true)], CHint.ops 15 [(1, Hint.b false)]]) (slots := [0, 1, 7, 8]) (keys := []) (nx := 0) (c := _) (by kernel_rfl) h
theorem sparseL1_3 (s : ByteArray) (r : Int) (x2 : Int) (l0 : List Int) (t0 : Bool) (h : AllP [decide (x2 < (↑s.size : Int)) = false]) : To Try.prog (loopAt Try.f36 1) ({ n := 51, fr := [(0, AV.v (.string s)), (1, AV.v (.int .i64 r)), (7, AV.sl 1 (.ints .u32 l0) t0), (8, AV.v (.int .i64 x2))], hp := [], nx := 0 }) (Exit.exit 2) { n := 51, fr := [(7, AV.sl 1 (.ints .u32 l0) t0)], hp := [], nx := 0 } :=
  evW_to hm sok15 (hs := [CHint.ops 12 [(3, Hint.b false)]]) (slots := [7]) (keys := []) (nx := 0) (c := _) (by kernel_rfl) h
-- 6 paths
theorem sparseF1 (s : ByteArray) (r : Int) (x1 : Int) (l1 : List Int) (t1 : Bool) (h : AllP [decide (r < (2 : Int)) = true]) : PureTo Try.prog 36 [.v (.string s), .v (.int .i64 r)] (AV.tup [AV.sl 1 (.ints .u32 []) false, AV.v (.int .i64 (1 : Int))]) :=
  evFn_pure hm sok15 (fn := Try.f36) rfl rfl (ti := false) (hs := [CHint.ops 1 [(1, Hint.b true)]]) (c := _) (by kernel_rfl) h
theorem sparseF2 (s : ByteArray) (r : Int) (x1 : Int) (l1 : List Int) (t1 : Bool) (h : AllP [decide (r < (2 : Int)) = false, decide (r > (36 : Int)) = true]) : PureTo Try.prog 36 [.v (.string s), .v (.int .i64 r)] (AV.tup [AV.sl 1 (.ints .u32 []) false, AV.v (.int .i64 (1 : Int))]) :=
  evFn_pure hm sok15 (fn := Try.f36) rfl rfl (ti := false) (hs := [CHint.ops 1 [(1, Hint.b false), (4, Hint.b true)]]) (c := _) (by kernel_rfl) h
theorem sparseF3 (s : ByteArray) (r : Int) (x1 : Int) (l1 : List Int) (t1 : Bool) (h : AllP [decide (r < (2 : Int)) = false, decide (r > (36 : Int)) = false, LoopTo Try.prog (loopAt Try.f36 0) { n := 51, fr := [(0, AV.v (.string s)), (1, AV.v (.int .i64 r)), (6, AV.v (.int .i64 (0 : Int)))], hp := [], nx := 0 } (Exit.exit 0) { n := 51, fr := [(0, AV.v (.string s)), (1, AV.v (.int .i64 r))], hp := [], nx := 0 }, ((↑s.size : Int) == (0 : Int)) = true]) : PureTo Try.prog 36 [.v (.string s), .v (.int .i64 r)] (AV.tup [AV.sl 1 (.ints .u32 []) false, AV.v (.int .i64 (4 : Int))]) :=
  evFn_pure hm sok15 (fn := Try.f36) rfl rfl (ti := false) (hs := [CHint.ops 1 [(1, Hint.b false), (4, Hint.b false)], CHint.loop [0, 1, 6] [] 0 (Exit.exit 0) { n := 51, fr := [(0, AV.v (.string s)), (1, AV.v (.int .i64 r))], hp := [], nx := 0 }, CHint.ops 8 [(2, Hint.b true)]]) (c := _) (by kernel_rfl) h
theorem sparseF4 (s : ByteArray) (r : Int) (x1 : Int) (l1 : List Int) (t1 : Bool) (h : AllP [decide (r < (2 : Int)) = false, decide (r > (36 : Int)) = false, LoopTo Try.prog (loopAt Try.f36 0) { n := 51, fr := [(0, AV.v (.string s)), (1, AV.v (.int .i64 r)), (6, AV.v (.int .i64 (0 : Int)))], hp := [], nx := 0 } (Exit.exit 0) { n := 51, fr := [(0, AV.v (.string s)), (1, AV.v (.int .i64 r))], hp := [], nx := 0 }, ((↑s.size : Int) == (0 : Int)) = false, LoopTo Try.prog (loopAt Try.f36 1) { n := 51, fr := [(0, AV.v (.string s)), (1, AV.v (.int .i64 r)), (7, AV.sl 1 (.ints .u32 []) true), (8, AV.v (.int .i64 (0 : Int)))], hp := [], nx := 0 } (Exit.exit 2) { n := 51, fr := [(7, AV.sl 1 (.ints .u32 l1) t1)], hp := [], nx := 0 }]) : PureTo Try.prog 36 [.v (.string s), .v (.int .i64 r)] (AV.tup [AV.sl 1 (.ints .u32 l1) (t1 && false), AV.v (.int .i64 (0 : Int))]) :=
  evFn_pure hm sok15 (fn := Try.f36) rfl rfl (ti := false) (hs := [CHint.ops 1 [(1, Hint.b false), (4, Hint.b false)], CHint.loop [0, 1, 6] [] 0 (Exit.exit 0) { n := 51, fr := [(0, AV.v (.string s)), (1, AV.v (.int .i64 r))], hp := [], nx := 0 }, CHint.ops 8 [(2, Hint.b false)], CHint.ops 10 [(0, Hint.nils 22)], CHint.loop [0, 1, 7, 8] [] 0 (Exit.exit 2) { n := 51, fr := [(7, AV.sl 1 (.ints .u32 l1) t1)], hp := [], nx := 0 }]) (c := _) (by kernel_rfl) h
theorem sparseF5 (s : ByteArray) (r : Int) (x1 : Int) (l1 : List Int) (t1 : Bool) (h : AllP [decide (r < (2 : Int)) = false, decide (r > (36 : Int)) = false, LoopTo Try.prog (loopAt Try.f36 0) { n := 51, fr := [(0, AV.v (.string s)), (1, AV.v (.int .i64 r)), (6, AV.v (.int .i64 (0 : Int)))], hp := [], nx := 0 } (Exit.exit 0) { n := 51, fr := [(0, AV.v (.string s)), (1, AV.v (.int .i64 r))], hp := [], nx := 0 }, ((↑s.size : Int) == (0 : Int)) = false, LoopTo Try.prog (loopAt Try.f36 1) { n := 51, fr := [(0, AV.v (.string s)), (1, AV.v (.int .i64 r)), (7, AV.sl 1 (.ints .u32 []) true), (8, AV.v (.int .i64 (0 : Int)))], hp := [], nx := 0 } Exit.ret { n := 51, fr := [(4, AV.v (.slice none 0 0)), (5, AV.v (.int .i64 (3 : Int)))], hp := [], nx := 0 }]) : PureTo Try.prog 36 [.v (.string s), .v (.int .i64 r)] (AV.tup [AV.sl 1 (.ints .u32 []) false, AV.v (.int .i64 (3 : Int))]) :=
  evFn_pure hm sok15 (fn := Try.f36) rfl rfl (ti := false) (hs := [CHint.ops 1 [(1, Hint.b false), (4, Hint.b false)], CHint.loop [0, 1, 6] [] 0 (Exit.exit 0) { n := 51, fr := [(0, AV.v (.string s)), (1, AV.v (.int .i64 r))], hp := [], nx := 0 }, CHint.ops 8 [(2, Hint.b false)], CHint.ops 10 [(0, Hint.nils 22)], CHint.loop [0, 1, 7, 8] [] 0 Exit.ret { n := 51, fr := [(4, AV.v (.slice none 0 0)), (5, AV.v (.int .i64 (3 : Int)))], hp := [], nx := 0 }]) (c := _) (by kernel_rfl) h
theorem sparseF6 (s : ByteArray) (r : Int) (x1 : Int) (l1 : List Int) (t1 : Bool) (h : AllP [decide (r < (2 : Int)) = false, decide (r > (36 : Int)) = false, LoopTo Try.prog (loopAt Try.f36 0) { n := 51, fr := [(0, AV.v (.string s)), (1, AV.v (.int .i64 r)), (6, AV.v (.int .i64 (0 : Int)))], hp := [], nx := 0 } Exit.ret { n := 51, fr := [(4, AV.v (.slice none 0 0)), (5, AV.v (.int .i64 x1))], hp := [], nx := 0 }]) : PureTo Try.prog 36 [.v (.string s), .v (.int .i64 r)] (AV.tup [AV.sl 1 (.ints .u32 []) false, AV.v (.int .i64 x1)]) :=
  evFn_pure hm sok15 (fn := Try.f36) rfl rfl (ti := false) (hs := [CHint.ops 1 [(1, Hint.b false), (4, Hint.b false)], CHint.loop [0, 1, 6] [] 0 Exit.ret { n := 51, fr := [(4, AV.v (.slice none 0 0)), (5, AV.v (.int .i64 x1))], hp := [], nx := 0 }]) (c := _) (by kernel_rfl) h
end Go.Proofs.Bn

/- Bignum: contracts: Parse. -/
set_option maxRecDepth 100000
set_option exponentiation.threshold 40000
namespace Go.Proofs.Bn
open Go Go.Ev

theorem byteAt_range (s : ByteArray) (i : Nat) : 0 ≤ byteAt s i ∧ byteAt s i < 256 := by
  unfold byteAt
  have := UInt8.toNat_lt (s.data.toList.getD i 0)
  omega

theorem dg_nonneg {c : Int} : 0 ≤ dg c := by unfold dg; (repeat' split) <;> omega

/-- the first i digits' number -/
def pv (s : ByteArray) (r : Nat) : Nat → Nat
  | 0 => 0
  | i + 1 => pv s r i * r + (dg (byteAt s i)).toNat

theorem pv_le (s : ByteArray) {r : Nat} (hr : 2 ≤ r) (i : Nat) : pv s r i ≤ pv s r (i + 1) := by
  rw [pv]
  have : pv s r i * 1 ≤ pv s r i * r := Nat.mul_le_mul_left _ (by omega)
  omega

theorem pv_mono (s : ByteArray) {r : Nat} (hr : 2 ≤ r) (i : Nat) : ∀ f, pv s r i ≤ pv s r (i + f) := by
  intro f
  induction f with
  | zero => exact Nat.le_refl _
  | succ f ih => exact Nat.le_trans ih (pv_le s hr _)

def Digits (s : ByteArray) (r : Int) : Prop := ∀ i, i < s.size → dg (byteAt s i) < r

/-- words times r, and c -/
def mulc (r : Int) : List Int → Int → List Int × Int
  | [], c => ([], c)
  | x :: l, c => ((x * r + c) % 4294967296 :: (mulc r l ((x * r + c) / 4294967296)).1, (mulc r l ((x * r + c) / 4294967296)).2)

theorem mulc_word {x c : Int} {R : Nat} (hx : 0 ≤ x ∧ x < 4294967296) (hc : 0 ≤ c ∧ c ≤ 36) (hR : R ≤ 36) :
    0 ≤ x * (R : Int) ∧ x * (R : Int) ≤ 4294967295 * 36 ∧ 0 ≤ (x * (R : Int) + c) / 4294967296 ∧ (x * (R : Int) + c) / 4294967296 ≤ 36 := by
  have h1 : 0 ≤ x * (R : Int) := Int.mul_nonneg hx.1 (by omega)
  have h2 : x * (R : Int) ≤ 4294967295 * 36 := Int.mul_le_mul (by omega) (by omega) (by omega) (by omega)
  refine ⟨h1, h2, by omega, by omega⟩

theorem mulc_is (R : Nat) (hR : R ≤ 36) : ∀ (l : List Int) (c : Int), Words l → 0 ≤ c ∧ c ≤ 36 →
    Words (mulc R l c).1 ∧ (mulc R l c).1.length = l.length ∧ (0 ≤ (mulc R l c).2 ∧ (mulc R l c).2 ≤ 36) ∧ nat ((mulc R l c).1 ++ [(mulc R l c).2]) = nat l * R + c.toNat := by
  intro l
  induction l with
  | nil => intro c _ hc; exact ⟨by simp [mulc, Words], rfl, hc, by simp [mulc, nat]⟩
  | cons x l ih =>
    intro c hw hc
    have hx := hw x List.mem_cons_self
    obtain ⟨b1, b2, b3, b4⟩ := mulc_word hx hc hR
    obtain ⟨i1, i2, i3, i4⟩ := ih _ (words_tail hw) ⟨b3, b4⟩
    rw [mulc]
    refine ⟨?_, by simp [i2], i3, ?_⟩
    · intro y hy
      rcases List.mem_cons.1 hy with rfl | hy
      · exact ⟨by omega, by omega⟩
      · exact i1 y hy
    · rw [List.cons_append, nat, i4, nat]
      obtain ⟨X, rfl⟩ : ∃ X : Nat, x = X := ⟨x.toNat, by omega⟩
      obtain ⟨C, rfl⟩ : ∃ C : Nat, c = C := ⟨c.toNat, by omega⟩
      have e1 : ((X : Int) * (R : Int) + (C : Int)) = ((X * R + C : Nat) : Int) := by rw [Int.natCast_add, Int.natCast_mul]
      rw [e1]
      have hy : (X + 4294967296 * nat l) * R + C = (X * R + C) + 4294967296 * (nat l * R) := by rw [Nat.add_mul, Nat.mul_assoc]; omega
      rw [Int.toNat_natCast, Int.toNat_natCast, hy]
      generalize X * R + C = y at *
      generalize nat l * R = q at *
      rw [show (y : Int) % 4294967296 = ((y % 4294967296 : Nat) : Int) from rfl, show (y : Int) / 4294967296 = ((y / 4294967296 : Nat) : Int) from rfl]
      simp only [Int.toNat_natCast]
      omega

theorem canon {l : List Int} (h : Words l) (hl : l.length ≤ (dig (nat l)).length) : dig (nat l) = l := by
  rw [← norm_eq h] at hl ⊢
  rw [norm_length] at hl
  unfold norm
  exact List.take_of_length_le hl

theorem dig_mono {m n : Nat} (h : m ≤ n) : (dig m).length ≤ (dig n).length := by
  refine Nat.le_of_not_lt fun h1 => ?_
  have h2 := (dig_len _ m).1 h1
  have h3 := (dig_len (dig n).length n).2 (Nat.le_trans h2 h)
  omega

/-- a number's words times R, and d -/
theorem mulc_dig (R : Nat) (hR : 1 ≤ R ∧ R ≤ 36) (m : Nat) (d : Int) (hd : 0 ≤ d ∧ d ≤ 36) :
    dig (m * R + d.toNat) = if 0 < (mulc R (dig m) d).2 then (mulc R (dig m) d).1 ++ [(mulc R (dig m) d).2] else (mulc R (dig m) d).1 := by
  obtain ⟨i1, i2, i3, i4⟩ := mulc_is R hR.2 (dig m) d (words_dig m) hd
  rw [nat_dig] at i4
  generalize (mulc R (dig m) d).1 = o at *
  generalize (mulc R (dig m) d).2 = c at *
  split
  · next h =>
    rw [← i4]
    refine canon (words_append.2 ⟨i1, words_one ⟨by omega, by omega⟩⟩) ?_
    rw [List.length_append, List.length_singleton]
    refine (dig_len _ _).2 ?_
    rw [nat_append, nat_word (by omega)]
    have : 4294967296 ^ o.length * 1 ≤ 4294967296 ^ o.length * c.toNat := Nat.mul_le_mul_left _ (by omega)
    omega
  · next h =>
    have hc : c = 0 := by omega
    subst hc
    rw [nat_append, nat_word (by omega), Int.toNat_zero, Nat.mul_zero, Nat.add_zero] at i4
    rw [← i4]
    refine canon i1 ?_
    rw [i2, i4]
    refine dig_mono ?_
    have : m * 1 ≤ m * R := Nat.mul_le_mul_left _ hR.1
    omega

theorem parse_mul (s : ByteArray) (R : Nat) (hR : R ≤ 36) (x2 : Int) (l0 : List Int) (hl : l0.length ≤ 2000) : ∀ (rest pre : List Int) (c : Int), Words rest → 0 ≤ c ∧ c ≤ 36 → pre.length + rest.length = l0.length →
    LoopTo Try.prog (loopAt Try.f35 2) (parseS2 s R x2 c pre.length l0 (pre ++ rest) l0.length l0.length) (.exit 4) (parseX2 s R x2 (mulc R rest c).2 (pre ++ (mulc R rest c).1) l0.length l0.length) := by
  intro rest
  induction rest with
  | nil =>
    intro pre c _ hc h
    rw [mulc]
    exact .done (by simp) (parseL2_2 s R x2 c pre.length l0 _ l0.length l0.length ⟨by simp at h; simp; omega, trivial⟩)
  | cons x rest ih =>
    intro pre c hw hc h
    have hx := hw x List.mem_cons_self
    obtain ⟨b1, b2, b3, b4⟩ := mulc_word hx hc hR
    rw [List.length_cons] at h
    have e : (R : Int) % 18446744073709551616 = R := Int.emod_eq_of_lt (by omega) (by omega)
    have eg : (pre ++ x :: rest).getD pre.length 0 = x := by simp [List.getD_eq_getElem?_getD]
    have es : ∀ v : Int, (pre ++ x :: rest).set pre.length v = (pre ++ [v]) ++ rest := fun v => by simp
    have hlen : (pre ++ x :: rest).length = l0.length := by rw [List.length_append, List.length_cons]; omega
    have h1 := parseL2_1 s R x2 c pre.length l0 (pre ++ x :: rest) l0.length l0.length (by
      rw [Int.toNat_natCast, ix0, eg, e]
      exact ⟨by simp; omega, by omega, Nat.le_refl _, inRu64 (by omega) (by omega), inRu64 (by omega) (by omega), inRu64 (by omega) (by omega), by omega, hlen.symm, by omega, inR64 (by omega) (by omega), trivial⟩)
    rw [Int.toNat_natCast, ix0, eg, e, es, hlen] at h1
    have h2 := ih (pre ++ [(x * (R : Int) + c) % 4294967296]) _ (words_tail hw) ⟨b3, b4⟩ (by rw [List.length_append, List.length_singleton]; omega)
    rw [mulc]
    rw [List.length_append, List.length_singleton, List.append_assoc pre _ (mulc _ _ _).1, List.singleton_append] at h2
    exact .step h1 h2

theorem digits_loop (s : ByteArray) (r : Int) (hs : s.size < 9000000000000000) : ∀ (f i : Nat), i + f = s.size → (∀ j, i ≤ j → j < s.size → dg (byteAt s j) < r) →
    LoopTo Try.prog (loopAt Try.f35 0) (parseS0 s r i) (.exit 0) (parseX0 s r) := by
  intro f
  induction f with
  | zero => intro i hi _; exact .done (by simp) (parseL0_3 s r i ⟨by simp; omega, trivial⟩)
  | succ f ih =>
    intro i hi h
    have hb := byteAt_range s i
    have hd := h i (Nat.le_refl _) (by omega)
    have h1 := parseL0_2 s r i (by rw [Int.toNat_natCast]; exact ⟨by simp; omega, by omega, hb.1, hb.2, by simpa using hd, inR64 (by omega) (by omega), trivial⟩)
    exact .step h1 (ih (i + 1) (by omega) fun j hj => h j (by omega))

theorem digits_bad (s : ByteArray) (r : Int) (hs : s.size < 9000000000000000) : ∀ (f i : Nat), i + f = s.size → (¬ ∀ j, i ≤ j → j < s.size → dg (byteAt s j) < r) →
    LoopTo Try.prog (loopAt Try.f35 0) (parseS0 s r i) .ret (parseX0_1 s r 4) := by
  intro f
  induction f with
  | zero => intro i hi h; exact absurd (fun j h1 h2 => by omega) h
  | succ f ih =>
    intro i hi h
    have hb := byteAt_range s i
    by_cases hd : dg (byteAt s i) < r
    · have h1 := parseL0_2 s r i (by rw [Int.toNat_natCast]; exact ⟨by simp; omega, by omega, hb.1, hb.2, by simpa using hd, inR64 (by omega) (by omega), trivial⟩)
      refine .step h1 (ih (i + 1) (by omega) fun h2 => h fun j h3 h4 => ?_)
      by_cases h5 : j = i
      · subst h5; exact hd
      · exact h2 j (by omega) h4
    · exact .done (by simp) (parseL0_1 s r i (by rw [Int.toNat_natCast]; exact ⟨by simp; omega, by omega, hb.1, hb.2, by simp; omega, trivial⟩))

theorem rdigits_loop (s : ByteArray) (r : Int) (hs : s.size < 9000000000000000) : ∀ (f i : Nat), i + f = s.size → (∀ j, i ≤ j → j < s.size → dg (byteAt s j) < r) →
    LoopTo Try.prog (loopAt Try.f36 0) (sparseS0 s r i) (.exit 0) (sparseX0 s r) := by
  intro f
  induction f with
  | zero => intro i hi _; exact .done (by simp) (sparseL0_3 s r i ⟨by simp; omega, trivial⟩)
  | succ f ih =>
    intro i hi h
    have hb := byteAt_range s i
    have hd := h i (Nat.le_refl _) (by omega)
    have h1 := sparseL0_2 s r i (by rw [Int.toNat_natCast]; exact ⟨by simp; omega, by omega, hb.1, hb.2, by simpa using hd, inR64 (by omega) (by omega), trivial⟩)
    exact .step h1 (ih (i + 1) (by omega) fun j hj => h j (by omega))

theorem rdigits_bad (s : ByteArray) (r : Int) (hs : s.size < 9000000000000000) : ∀ (f i : Nat), i + f = s.size → (¬ ∀ j, i ≤ j → j < s.size → dg (byteAt s j) < r) →
    LoopTo Try.prog (loopAt Try.f36 0) (sparseS0 s r i) .ret (sparseX0_1 s r 4) := by
  intro f
  induction f with
  | zero => intro i hi h; exact absurd (fun j h1 h2 => by omega) h
  | succ f ih =>
    intro i hi h
    have hb := byteAt_range s i
    by_cases hd : dg (byteAt s i) < r
    · have h1 := sparseL0_2 s r i (by rw [Int.toNat_natCast]; exact ⟨by simp; omega, by omega, hb.1, hb.2, by simpa using hd, inR64 (by omega) (by omega), trivial⟩)
      refine .step h1 (ih (i + 1) (by omega) fun h2 => h fun j h3 h4 => ?_)
      by_cases h5 : j = i
      · subst h5; exact hd
      · exact h2 j (by omega) h4
    · exact .done (by simp) (sparseL0_1 s r i (by rw [Int.toNat_natCast]; exact ⟨by simp; omega, by omega, hb.1, hb.2, by simp; omega, trivial⟩))

end Go.Proofs.Bn
