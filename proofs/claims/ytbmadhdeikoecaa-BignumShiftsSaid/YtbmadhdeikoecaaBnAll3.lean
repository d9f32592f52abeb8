/- Contracts of the program's functions, and the plain law behind them. No condition beyond those in each statement. -/
import Derived.Test.YtbmadhdeikoecaaBnAll1
import Derived.Test.YtbmadhdeikoecaaEvAll3
import Derived.Test.YtbmadhdeikoecaaBnAll2
set_option linter.unusedSimpArgs false
set_option linter.unusedVariables false
set_option linter.unusedSectionVars false
/- Naturals times and divided by powers of 2, word by word: plain law. -/
set_option maxRecDepth 100000
namespace Go.Proofs.Bn
open Go Go.Ev

theorem pow_split {s : Nat} (h : s ≤ 32) : (2 : Nat) ^ s * 2 ^ (32 - s) = 4294967296 := by
  rw [← Nat.pow_add, show s + (32 - s) = 32 by omega]

theorem pow32 (n : Nat) : (2 : Nat) ^ n = 4294967296 ^ (n / 32) * 2 ^ (n % 32) := by
  rw [show (4294967296 : Nat) = 2 ^ 32 from rfl, ← Nat.pow_mul, ← Nat.pow_add]
  congr 1
  omega

/-- one word of what is left of two -/
def shW (x y : Nat) (s : Nat) : Nat := (y * 4294967296 + x) / 2 ^ s % 4294967296

/-- the words of a natural divided by 2^s -/
def shrW : List Int → Nat → List Int
  | [], _ => []
  | x :: r, s => (shW x.toNat (r.getD 0 0).toNat s : Int) :: shrW r s

theorem shrW_length (l : List Int) (s : Nat) : (shrW l s).length = l.length := by
  induction l with
  | nil => rfl
  | cons x r ih => simp [shrW, ih]

theorem shrW_words (l : List Int) (s : Nat) : Words (shrW l s) := by
  induction l with
  | nil => exact fun x hx => by cases hx
  | cons x r ih =>
    intro y hy
    rcases List.mem_cons.1 hy with rfl | hy
    · have := Nat.mod_lt ((r.getD 0 0).toNat * 4294967296 + x.toNat) (show 0 < 4294967296 by omega)
      unfold shW
      omega
    · exact ih y hy

theorem shrW_get (l : List Int) (s i : Nat) (h : i < l.length) : (shrW l s).getD i 0 = (shW (l.getD i 0).toNat (l.getD (i + 1) 0).toNat s : Int) := by
  induction l generalizing i with
  | nil => simp at h
  | cons x r ih =>
    cases i with
    | zero => rfl
    | succ i => exact ih i (by simpa using h)

theorem nat_mod_low (x : Int) (r : List Int) {s : Nat} (hs : s < 32) : nat (x :: r) % 2 ^ s = x.toNat % 2 ^ s := by
  have h := pow_split (s := s) (by omega)
  simp only [nat]
  rw [← h, Nat.mul_assoc, Nat.add_mul_mod_self_left]

theorem shr_step {X y R P Q : Nat} (hP0 : 0 < P) (hXB : X < P * Q) (hlow : R % P = y % P) : (y * (P * Q) + X) / P % (P * Q) + P * Q * (R / P) = (X + P * Q * R) / P := by
  have d1 : (y * (P * Q) + X) / P = y * Q + X / P := by
    rw [show y * (P * Q) + X = X + P * (y * Q) by grind, Nat.add_mul_div_left _ _ hP0]
    omega
  have d2 : (X + P * Q * R) / P = Q * R + X / P := by
    rw [show X + P * Q * R = X + P * (Q * R) by grind, Nat.add_mul_div_left _ _ hP0]
    omega
  rw [d1, d2]
  have hXQ : X / P < Q := by rw [Nat.div_lt_iff_lt_mul hP0, Nat.mul_comm]; exact hXB
  have hy1 : y * Q = P * Q * (y / P) + (y % P) * Q := by
    have := Nat.div_add_mod y P
    calc y * Q = (P * (y / P) + y % P) * Q := by rw [this]
      _ = _ := by grind
  have hR1 : Q * R = P * Q * (R / P) + (y % P) * Q := by
    have := Nat.div_add_mod R P
    rw [← hlow]
    calc Q * R = Q * (P * (R / P) + R % P) := by rw [this]
      _ = _ := by grind
  have hbound : (y % P) * Q + X / P < P * Q := by
    have h1 : y % P + 1 ≤ P := Nat.mod_lt y hP0
    have h2 := Nat.mul_le_mul_right Q h1
    rw [Nat.add_mul, Nat.one_mul] at h2
    omega
  rw [hy1, hR1, Nat.add_assoc, Nat.mul_add_mod, Nat.mod_eq_of_lt hbound]
  omega

theorem nat_shrW (l : List Int) (hw : Words l) {s : Nat} (hs : s < 32) : nat (shrW l s) = nat l / 2 ^ s := by
  induction l with
  | nil => simp [shrW, nat]
  | cons x r ih =>
    have h := pow_split (s := s) (by omega)
    have hx := hw x (by simp)
    have ih := ih (words_tail hw)
    have e1 : nat (shrW (x :: r) s) = shW x.toNat (r.getD 0 0).toNat s + 4294967296 * nat (shrW r s) := by
      rw [shrW, nat, Int.toNat_natCast]
    have e2 : nat (x :: r) = x.toNat + 4294967296 * nat r := by rw [nat]
    rw [e1, e2, ih]
    clear e1 e2
    generalize hR : nat r = R
    -- the next word holds the low bits of what follows
    have hlow : R % 2 ^ s = (r.getD 0 0).toNat % 2 ^ s := by
      rw [← hR]
      cases r with
      | nil => simp [nat]
      | cons y t => exact nat_mod_low y t hs
    unfold shW
    generalize (r.getD 0 0).toNat = y at *
    generalize hX : x.toNat = X
    have hXB : X < 4294967296 := by omega
    have hP0 : 0 < 2 ^ s := Nat.pow_pos (n := s) (show 0 < 2 by omega)
    clear ih hx hR hw hX
    generalize (2 : Nat) ^ s = P at *
    generalize (2 : Nat) ^ (32 - s) = Q at *
    generalize (4294967296 : Nat) = B at *
    subst h
    exact shr_step hP0 hXB hlow

theorem nat_take_drop (a : List Int) (w : Nat) (h : w ≤ a.length) : nat a = nat (a.take w) + 4294967296 ^ w * nat (a.drop w) := by
  have := nat_append (a.take w) (a.drop w)
  rw [List.take_append_drop, List.length_take, Nat.min_eq_left h] at this
  exact this

theorem nat_zero_iff {a : List Int} (h : Words a) : nat a = 0 ↔ ∀ x, x ∈ a → x = 0 := by
  refine ⟨fun h0 => ?_, nat_zeros⟩
  induction a with
  | nil => exact fun x hx => by cases hx
  | cons y r ih =>
    have hy := h y (by simp)
    simp only [nat] at h0
    intro x hx
    rcases List.mem_cons.1 hx with rfl | hx
    · omega
    · exact ih (words_tail h) (by omega) x hx

/-- the quotient by a power of 2 -/
theorem shr_quot {a : List Int} (h : Words a) (n : Nat) (hw : n / 32 ≤ a.length) : nat (shrW (a.drop (n / 32)) (n % 32)) = nat a / 2 ^ n := by
  rw [nat_shrW _ (words_drop h _) (by omega), pow32 n, ← Nat.div_div_eq_div_mul, nat_take_drop a (n / 32) hw, Nat.add_mul_div_left _ _ (Nat.pow_pos (by omega))]
  have h1 := nat_lt (words_take h (n / 32))
  rw [List.length_take, Nat.min_eq_left hw] at h1
  rw [Nat.div_eq_of_lt h1, Nat.zero_add]

/-- what is lost -/
theorem shr_rest {a : List Int} (h : Words a) (n : Nat) (hw : n / 32 < a.length) : nat a % 2 ^ n = 0 ↔ (∀ x, x ∈ a.take (n / 32) → x = 0) ∧ (a.getD (n / 32) 0).toNat % 2 ^ (n % 32) = 0 := by
  have h1 := nat_lt (words_take h (n / 32))
  rw [List.length_take, Nat.min_eq_left (by omega)] at h1
  have hp : 0 < 4294967296 ^ (n / 32) := Nat.pow_pos (by omega)
  rw [pow32 n, nat_take_drop a (n / 32) (by omega), Nat.mod_mul, Nat.add_mul_mod_self_left, Nat.mod_eq_of_lt h1, Nat.add_mul_div_left _ _ hp, Nat.div_eq_of_lt h1, Nat.zero_add]
  have h2 : nat (a.drop (n / 32)) % 2 ^ (n % 32) = (a.getD (n / 32) 0).toNat % 2 ^ (n % 32) := by
    rw [List.drop_eq_getElem_cons hw, nat_mod_low _ _ (by omega)]
    simp [List.getD_eq_getElem?_getD, hw]
  rw [h2, ← nat_zero_iff (words_take h _), Nat.add_eq_zero_iff, Nat.mul_eq_zero]
  constructor
  · rintro ⟨p, q⟩
    exact ⟨p, q.resolve_left (by omega)⟩
  · rintro ⟨p, q⟩
    exact ⟨p, .inr q⟩

/-- one bit more -/
theorem mod_bit (N i : Nat) : N % 2 ^ (i + 1) = 0 ↔ N % 2 ^ i = 0 ∧ N / 2 ^ i % 2 = 0 := by
  have hp : 0 < 2 ^ i := Nat.pow_pos (n := i) (show 0 < 2 by omega)
  rw [Nat.pow_succ, Nat.mod_mul, Nat.add_eq_zero_iff, Nat.mul_eq_zero]
  constructor
  · rintro ⟨p, q⟩
    exact ⟨p, q.resolve_left (by omega)⟩
  · rintro ⟨p, q⟩
    exact ⟨p, .inr q⟩

/-- a number's bit in its words -/
theorem word_bit {a : List Int} (h : Words a) (i : Nat) (hi : i < 32 * a.length) : nat a / 2 ^ i % 2 = (a.getD (i / 32) 0).toNat / 2 ^ (i % 32) % 2 := by
  have h1 := nat_lt (words_take h (i / 32))
  have hw : i / 32 < a.length := by omega
  rw [List.length_take, Nat.min_eq_left (by omega)] at h1
  have hp : 0 < 4294967296 ^ (i / 32) := Nat.pow_pos (by omega)
  rw [pow32 i, ← Nat.div_div_eq_div_mul, nat_take_drop a (i / 32) (by omega), Nat.add_mul_div_left _ _ hp, Nat.div_eq_of_lt h1, Nat.zero_add, List.drop_eq_getElem_cons hw]
  simp only [nat]
  have e : a.getD (i / 32) 0 = a[i / 32] := by simp [List.getD_eq_getElem?_getD, hw]
  rw [e]
  have hs := pow_split (s := i % 32) (by omega)
  rw [← hs, Nat.mul_assoc, Nat.add_mul_div_left _ _ (Nat.pow_pos (by omega))]
  have hq : (2 : Nat) ^ (32 - i % 32) = 2 * 2 ^ (31 - i % 32) := by
    rw [← Nat.pow_succ']
    congr 1
    omega
  rw [hq, Nat.mul_assoc, Nat.add_mul_mod_self_left]

/-- quotient and loss in numbers -/
def ShrN (m : Nat) (n : Int) : List Int × Bool := if n < 0 then (dig m, false) else (dig (m / 2 ^ n.toNat), decide (m % 2 ^ n.toNat ≠ 0))

/-- a natural times a power of 2 -/
def ShlN (m : Nat) (n : Int) : List Int × Int := if big m then ([], 3) else if n < 0 then ([], 1) else if m = 0 then ([], 0) else if 32768 < n then ([], 3) else if big (m * 2 ^ n.toNat) then ([], 3) else (dig (m * 2 ^ n.toNat), 0)

/-- one word more of a natural times 2^s: c: what the words ahead of it left -/
theorem shl_word {x c : Int} {s : Nat} (hs : s < 32) (hx : 0 ≤ x ∧ x < 4294967296) (hc : 0 ≤ c ∧ c < (2 ^ s : Nat)) :
    0 ≤ x * (2 ^ s : Nat) ∧ x * (2 ^ s : Nat) < 9223372036854775808 ∧ (x * (2 ^ s : Nat)) % (2 ^ s : Nat) = 0 ∧ (x * (2 ^ s : Nat) % 4294967296) % (2 ^ s : Nat) = 0 ∧ x * (2 ^ s : Nat) / 4294967296 < (2 ^ s : Nat) ∧
    (x * (2 ^ s : Nat) + c) / 4294967296 < (2 ^ s : Nat) ∧ x * (2 ^ s : Nat) % 4294967296 + c < 4294967296 := by
  obtain ⟨X, rfl⟩ : ∃ X : Nat, x = X := ⟨x.toNat, by omega⟩
  obtain ⟨C, rfl⟩ : ∃ C : Nat, c = C := ⟨c.toNat, by omega⟩
  have h := pow_split (s := s) (by omega)
  have hP31 : (2 : Nat) ^ s ≤ 2147483648 := Nat.pow_le_pow_right (n := 2) (show 0 < 2 by omega) (show s ≤ 31 by omega)
  generalize hP : (2 : Nat) ^ s = P at *
  generalize hQ : (2 : Nat) ^ (32 - s) = Q at *
  have hP0 : 0 < P := by omega
  have b1 : X * P ≤ 4294967295 * P := Nat.mul_le_mul_right P (by omega)
  have b2 : X * P + P ≤ 4294967296 * P := by omega
  have m1 : (X * P) % 4294967296 = P * (X % Q) := by rw [← h, Nat.mul_comm X P, Nat.mul_mod_mul_left]
  have hQ0 : 0 < Q := by
    rcases Nat.eq_zero_or_pos Q with h0 | h0
    · rw [h0, Nat.mul_zero] at h; omega
    · exact h0
  have m2 : X % Q + 1 ≤ Q := Nat.mod_lt X hQ0
  have m3 := Nat.mul_le_mul_left P m2
  rw [Nat.mul_add, Nat.mul_one, h] at m3
  have m4 : P * (X % Q) % P = 0 := Nat.mul_mod_right P _
  have d1 : X * P / 4294967296 < P := by rw [Nat.div_lt_iff_lt_mul (by omega)]; omega
  have d2 : (X * P + C) / 4294967296 < P := by rw [Nat.div_lt_iff_lt_mul (by omega)]; omega
  rw [← Int.natCast_mul]
  have m5 : X * P % P = 0 := Nat.mul_mod_left X P
  refine ⟨by omega, by omega, by omega, ?_, by omega, by omega, by omega⟩
  have e : ((X * P : Nat) : Int) % 4294967296 = ((P * (X % Q) : Nat) : Int) := by omega
  rw [e]
  omega

end Go.Proofs.Bn

/- Bignum: contracts: shl, Up. -/
set_option maxRecDepth 100000
namespace Go.Proofs.Bn
open Go Go.Ev

theorem getD_set (l : List Int) (j k : Nat) (v : Int) (h : j < l.length) : (l.set j v).getD k 0 = if k = j then v else l.getD k 0 := by
  rw [List.getD_eq_getElem?_getD, List.getD_eq_getElem?_getD, List.getElem?_set]
  by_cases e : j = k
  · subst e
    simp [h]
  · have e2 : k ≠ j := fun h => e h.symm
    simp [e, e2]

/-- the kinds of a shift's counts -/
structure Cnt (n : Int) (w r : Nat) : Prop where
  h0 : 0 ≤ n
  ew : n.tdiv 32 = (w : Int)
  er : n.tmod 32 = (r : Int)
  rlt : r < 32
  en : n = 32 * (w : Int) + r

theorem cnt {n : Int} (h : 0 ≤ n) : Cnt n (n.toNat / 32) (n.toNat % 32) := by
  refine ⟨h, ?_, ?_, by omega, by omega⟩
  · rw [Int.tdiv_eq_ediv_of_nonneg h]; omega
  · rw [Int.tmod_eq_emod_of_nonneg h]; omega

theorem two_pow (r : Nat) : (2 : Int) ^ r = ((2 ^ r : Nat) : Int) := by rw [Int.natCast_pow]; rfl

theorem pow_int_mul (m n : Nat) : (4294967296 : Int) ^ m * 4294967296 ^ n = 4294967296 ^ (m + n) := by rw [Int.pow_add]

/-! ### Up -/

theorem up_step {a l : List Int} {c P : Int} {w i : Nat} (ha : Words a) (hl : l.length = w + i) (h0 : 0 ≤ wd a i * P + c) (hinv : (nat l : Int) + c * 4294967296 ^ (w + i) = P * 4294967296 ^ w * natW a i) :
    (nat (l ++ [(wd a i * P + c) % 4294967296]) : Int) + (wd a i * P + c) / 4294967296 * 4294967296 ^ (w + (i + 1)) = P * 4294967296 ^ w * natW a (i + 1) := by
  rw [nat_snoc _ _ (by omega), natW_next ha, hl, show w + (i + 1) = (w + i) + 1 from rfl, Int.pow_succ]
  have e : (wd a i * P + c) % 4294967296 = (wd a i * P + c) - 4294967296 * ((wd a i * P + c) / 4294967296) := by omega
  rw [e]
  generalize (wd a i * P + c) / 4294967296 = q
  have hp := pow_int_mul w i
  rw [← hp] at hinv ⊢
  generalize (4294967296 : Int) ^ w = W at *
  generalize (4294967296 : Int) ^ i = I at *
  generalize wd a i = x at *
  grind

theorem up_loop (a : List Int) (ta : Bool) (n : Int) (w r : Nat) (C : Cnt n w r) (ha : Words a) (hlim : w + a.length + 2 ≤ 1000000000000) : ∀ (f i : Nat) (l : List Int) (c : Int), i + f = a.length → l.length = w + i → Words l → (0 ≤ c ∧ c < (2 ^ r : Nat)) →
    (nat l : Int) + c * 4294967296 ^ (w + i) = (2 ^ r : Nat) * 4294967296 ^ w * natW a i →
    ∃ l1 : List Int, ∃ c1 : Int, l1.length = w + a.length ∧ Words l1 ∧ (0 ≤ c1 ∧ c1 < (2 ^ r : Nat)) ∧ (nat l1 : Int) + c1 * 4294967296 ^ (w + a.length) = (2 ^ r : Nat) * 4294967296 ^ w * natW a a.length ∧
      LoopTo Try.prog (loopAt Try.f54 0) (upS0 a ta n c i l 0) (.exit 0) (upX0 a ta n c1 l1 0) := by
  have hr := C.rlt
  intro f
  induction f with
  | zero =>
    intro i l c hi hl hw hc hinv
    have : i = a.length := by omega
    subst this
    exact ⟨l, c, hl, hw, hc, hinv, .done (by simp) (upL0_2 a ta n c a.length l 0 ⟨by simp, trivial⟩)⟩
  | succ f ih =>
    intro i l c hi hl hw hc hinv
    have hx := wd_bound ha i
    have hg := wd_nat a i
    obtain ⟨b1, b2, b3, b4, b5, b6, b7⟩ := shl_word hr hx hc
    have e1 : (n.tmod 32 % 18446744073709551616) = (r : Int) := by rw [C.er]; omega
    have e2 : (2 : Int) ^ min (n.tmod 32 % 18446744073709551616).toNat 64 = (2 ^ r : Nat) := by rw [e1, Int.toNat_natCast, Nat.min_eq_left (by omega), two_pow]
    have e3 : bitsOf .or .u64 (wd a i * (2 ^ r : Nat)) c = wd a i * (2 ^ r : Nat) + c := by
      rw [(or_add (k := .u64) rfl hc.1 hc.2 b1 (by show _ < (2 : Int) ^ 64; omega) b3 (show r ≤ 64 by omega)).2, Int.add_comm]
    have h1 := upL0_1 a ta n c i l 0 (by
      rw [e2, Int.toNat_natCast, ← hg, e3]
      refine ⟨by simp; omega, by omega, inRu64 (by omega) (by omega), by omega, by rw [e1]; omega, inRu64 b1 (by omega), rfl, rfl, ?_, by omega, inR64 (by omega) (by omega), trivial⟩
      simp
      omega)
    rw [e2, Int.toNat_natCast, ← hg, e3] at h1
    obtain ⟨l1, c1, g1, g2, g3, g4, g5⟩ := ih (i + 1) (l ++ [(wd a i * (2 ^ r : Nat) + c) % 4294967296]) ((wd a i * (2 ^ r : Nat) + c) / 4294967296) (by omega) (by simp [hl]; omega) (words_snoc hw (by omega) (by omega)) ⟨by omega, b6⟩ (up_step ha hl (by omega) hinv)
    exact ⟨l1, c1, g1, g2, g3, g4, .step h1 g5⟩

theorem zeros_nat (w : Nat) : nat (List.replicate w (0 : Int)) = 0 := nat_zeros fun x hx => (List.mem_replicate.1 hx).2

theorem up_pure (a : List Int) (ta : Bool) (n : Int) (ha : Words a) (hn : 0 ≤ n) (hlim : n + a.length + 2 ≤ 1000000000000) : PureTo Try.prog 54 [.sl 1 (.ints .u32 a) ta, .v (.int .i64 n)] (.sl 1 (.ints .u32 (dig (nat a * 2 ^ n.toNat))) false) := by
  have C := cnt hn
  generalize hw : n.toNat / 32 = w at *
  generalize hr : n.toNat % 32 = r at *
  by_cases h0 : (norm a).length = 0
  · have e : nat a = 0 := by
      rw [← nat_norm, List.eq_nil_of_length_eq_zero h0]
      rfl
    rw [e, Nat.zero_mul, dig_zero]
    exact upF1 a ta n 0 [] 0 ⟨by unfold lim4; omega, by simp [h0], trivial⟩
  · obtain ⟨l1, c1, g1, g2, g3, g4, g5⟩ := up_loop a ta n w r C ha (by omega) a.length 0 (List.replicate w 0) 0 (by omega) (by simp) (zeros_words w) ⟨by omega, by have := Nat.pow_pos (n := r) (show 0 < 2 by omega); omega⟩ (by simp [natW, zeros_nat])
    have hc32 : c1 < 4294967296 := by
      have : (2 : Nat) ^ r ≤ 2 ^ 32 := Nat.pow_le_pow_right (by omega) (by omega)
      omega
    have hw2 : Words (l1 ++ [c1 % 4294967296]) := words_snoc g2 (by omega) (by omega)
    have hval : nat (l1 ++ [c1 % 4294967296]) = nat a * 2 ^ n.toNat := by
      have h1 := nat_snoc l1 (c1 % 4294967296) (by omega)
      rw [g1, Int.emod_eq_of_lt g3.1 hc32] at h1
      rw [natW_all _ _ (Nat.le_refl _)] at g4
      rw [Int.emod_eq_of_lt g3.1 hc32]
      have h2 : ((nat a * 2 ^ n.toNat : Nat) : Int) = (2 ^ r : Nat) * 4294967296 ^ w * nat a := by
        rw [pow32 n.toNat, hw, hr, Int.natCast_mul, Int.natCast_mul, ← pow_int]
        grind
      have h3 : ((nat (l1 ++ [c1]) : Nat) : Int) = ((nat a * 2 ^ n.toNat : Nat) : Int) := by
        rw [h1, h2, ← g4, Int.mul_comm (4294967296 ^ _)]
      exact Int.ofNat.inj h3
    have hlen : (l1 ++ [c1 % 4294967296]).length = w + a.length + 1 := by simp [g1]
    have hCw := C.ew
    have hCn := C.en
    have e5 : (n.tdiv 32).toNat = w := by rw [hCw]; omega
    have h := upF2 a ta n c1 l1 0 (by
      rw [e5, hlen]
      refine ⟨by unfold lim4; omega, by simpa using h0, by omega, by rw [hCw]; exact inR64 (by omega) (by omega), by rw [hCw]; omega, by rw [hCw]; omega, ?_, rfl, rfl, by omega, rfl, by omega, by unfold lim4; omega, trivial⟩
      have := g5
      unfold upS0 at this
      simp only [List.length_replicate] at this
      exact this)
    rw [norm_eq hw2, hval] at h
    exact h

/-! ### shl -/

structure ShlInv (a o : List Int) (w r i : Nat) : Prop where
  words : Words o
  low : o.getD (w + i) 0 < (2 ^ r : Nat)
  zero : ∀ j, w + i < j → o.getD j 0 = 0
  num : (val o : Int) = (2 ^ r : Nat) * 4294967296 ^ w * natW a i

theorem shl_next {a o : List Int} {w r i : Nat} (ha : Words a) (hr : r < 32) (hlen : w + i + 1 < o.length) (I : ShlInv a o w r i) :
    ShlInv a ((o.set (w + i) (o.getD (w + i) 0 + wd a i * (2 ^ r : Nat) % 4294967296)).set (w + i + 1) (wd a i * (2 ^ r : Nat) / 4294967296)) w r (i + 1) := by
  have hx := wd_bound ha i
  have hc := words_getD I.words (w + i)
  obtain ⟨b1, b2, b3, b4, b5, b6, b7⟩ := shl_word hr hx ⟨hc.1, I.low⟩
  have hP31 : (2 : Nat) ^ r ≤ 2147483648 := Nat.pow_le_pow_right (n := 2) (show 0 < 2 by omega) (show r ≤ 31 by omega)
  refine ⟨words_set (words_set I.words _ (by omega) (by omega)) _ (by omega) (by omega), ?_, fun j hj => ?_, ?_⟩
  · rw [getD_set _ _ _ _ (by simpa using hlen), if_pos (by omega)]
    exact b5
  · rw [getD_set _ _ _ _ (by simpa using hlen), if_neg (by omega), getD_set _ _ _ _ (by omega), if_neg (by omega)]
    exact I.zero j (by omega)
  · have v1 := val_set o (w + i) (o.getD (w + i) 0 + wd a i * (2 ^ r : Nat) % 4294967296) (by omega)
    have v2 := val_set (o.set (w + i) (o.getD (w + i) 0 + wd a i * (2 ^ r : Nat) % 4294967296)) (w + i + 1) (wd a i * (2 ^ r : Nat) / 4294967296) (by simpa using hlen)
    rw [getD_set _ _ _ _ (by omega), if_neg (by omega), I.zero (w + i + 1) (by omega), Int.zero_mul, Int.add_zero] at v2
    rw [v2, natW_next ha]
    have hn := I.num
    rw [Int.pow_succ]
    have hp := pow_int_mul w i
    rw [← hp] at v1 ⊢
    generalize (4294967296 : Int) ^ w = W at *
    generalize (4294967296 : Int) ^ i = J at *
    generalize val (o.set (w + i) (o.getD (w + i) 0 + wd a i * (2 ^ r : Nat) % 4294967296)) = V at *
    generalize o.getD (w + i) 0 = c at *
    generalize ((2 ^ r : Nat) : Int) = P at *
    have e : wd a i * P % 4294967296 = wd a i * P - 4294967296 * (wd a i * P / 4294967296) := by omega
    rw [e] at v1
    generalize wd a i * P / 4294967296 = q at *
    generalize wd a i = x at *
    rw [hn] at v1
    grind

theorem shl_loop (a : List Int) (ta : Bool) (n : Int) (w r N : Nat) (C : Cnt n w r) (ha : Words (norm a)) (hN : N = w + (norm a).length + 1) (hlim : N ≤ 1000000000000) : ∀ (f i : Nat) (o : List Int), i + f = (norm a).length → o.length = N → ShlInv (norm a) o w r i →
    ∃ l1 : List Int, l1.length = N ∧ ShlInv (norm a) l1 w r (norm a).length ∧ LoopTo Try.prog (loopAt Try.f53 0) (shlS0 a ta n i o N N) (.exit 0) (shlX0 a ta n l1 N N) := by
  have hr := C.rlt
  intro f
  induction f with
  | zero =>
    intro i o hi hl I
    have : i = (norm a).length := by omega
    subst this
    exact ⟨o, hl, I, .done (by simp) (shlL0_2 a ta n (norm a).length o N N ⟨by simp, trivial⟩)⟩
  | succ f ih =>
    intro i o hi hl I
    have hx := wd_bound ha i
    have hg := wd_nat (norm a) i
    have hc := words_getD I.words (w + i)
    obtain ⟨b1, b2, b3, b4, b5, b6, b7⟩ := shl_word hr hx ⟨hc.1, I.low⟩
    have hP31 : (2 : Nat) ^ r ≤ 2147483648 := Nat.pow_le_pow_right (n := 2) (show 0 < 2 by omega) (show r ≤ 31 by omega)
    have e2 : (2 : Int) ^ min (n.tmod 32).toNat 64 = (2 ^ r : Nat) := by rw [C.er, Int.toNat_natCast, Nat.min_eq_left (by omega), two_pow]
    have e4 : (n.tdiv 32 + (i : Int)).toNat = w + i := by rw [C.ew]; omega
    have e5 : (n.tdiv 32 + (i : Int) + 1).toNat = w + i + 1 := by rw [C.ew]; omega
    have e6 : bitsOf .or .u32 (o.getD (w + i) 0) (wd (norm a) i * (2 ^ r : Nat) % 4294967296) = o.getD (w + i) 0 + wd (norm a) i * (2 ^ r : Nat) % 4294967296 :=
      (or_add (k := .u32) rfl hc.1 I.low (by omega) (by show _ < (2 : Int) ^ 32; omega) b4 (show r ≤ 32 by omega)).1
    have e7 : ∀ v, (o.set (w + i) v).getD (w + i + 1) 0 = 0 := fun v => by
      rw [getD_set _ _ _ _ (by omega), if_neg (by omega)]
      exact I.zero _ (by omega)
    have e8 : bitsOf .or .u32 0 (wd (norm a) i * (2 ^ r : Nat) / 4294967296 % 4294967296) = wd (norm a) i * (2 ^ r : Nat) / 4294967296 := by
      have := (or_add (k := .u32) (s := 0) (x := 0) (y := wd (norm a) i * (2 ^ r : Nat) / 4294967296 % 4294967296) rfl (by omega) (by simp) (by omega) (by show _ < (2 : Int) ^ 32; omega) (by omega) (by omega)).1
      rw [this]
      omega
    have hCw := C.ew
    have h1 := shlL0_1 a ta n i o N N (by
      rw [e2, Int.toNat_natCast, ← hg, e4, ix0]
      refine ⟨by simp; omega, by omega, inRu64 (by omega) (by omega), by omega, by rw [C.er]; omega, inRu64 b1 (by omega), by omega, by rw [hCw]; exact inR64 (by omega) (by omega), by rw [hCw]; exact inR64 (by omega) (by omega), by rw [hCw]; omega, Nat.le_refl _, by rw [hCw]; omega, hl.symm, by omega, by rw [hCw]; exact inR64 (by omega) (by omega), by rw [hCw]; exact inR64 (by omega) (by omega), by rw [hCw]; exact inR64 (by omega) (by omega), by rw [hCw]; omega, by omega, by omega, by rw [hCw]; omega, by rw [List.length_set]; exact hl.symm, inR64 (by omega) (by omega), trivial⟩)
    rw [e2, Int.toNat_natCast, ← hg, e4, e5, ix0, ix0, e6, e7, e8, List.length_set, hl] at h1
    obtain ⟨l1, g1, g2, g3⟩ := ih (i + 1) _ (by omega) (by rw [List.length_set, List.length_set]; exact hl) (shl_next ha hr (by omega) I)
    exact ⟨l1, g1, g2, .step h1 g3⟩

theorem shl_pure (a : List Int) (ta : Bool) (n : Int) (ha : Words a) (hn : 0 ≤ n) (hlim : n + a.length + 2 ≤ 1000000000000) : PureTo Try.prog 53 [.sl 1 (.ints .u32 a) ta, .v (.int .i64 n)] (.sl 1 (.ints .u32 (dig (nat a * 2 ^ n.toNat))) true) := by
  have C := cnt hn
  generalize hw : n.toNat / 32 = w at *
  generalize hr : n.toNat % 32 = r at *
  have hle := norm_length_le a
  have hCw := C.ew
  have hCn := C.en
  have hP := Nat.pow_pos (n := r) (show 0 < 2 by omega)
  have hlen : (List.replicate (w + (norm a).length + 1) (0 : Int)).length = w + (norm a).length + 1 := by simp
  have I0 : ShlInv (norm a) (List.replicate (w + (norm a).length + 1) 0) w r 0 := by
    have hz : ∀ j, (List.replicate (w + (norm a).length + 1) (0 : Int)).getD j 0 = 0 := fun j => by
      rw [List.getD_eq_getElem?_getD, List.getElem?_replicate]
      split <;> rfl
    refine ⟨zeros_words _, by rw [hz]; omega, fun j _ => hz j, ?_⟩
    rw [val_zeros]
    simp [natW]
  obtain ⟨l1, g1, g2, g3⟩ := shl_loop a ta n w r (w + (norm a).length + 1) C (words_norm ha) rfl (by omega) (norm a).length 0 _ (by omega) hlen I0
  have e5 : (n.tdiv 32 + ((norm a).length : Int) + 1).toNat = w + (norm a).length + 1 := by rw [hCw]; omega
  have hval : nat l1 = nat a * 2 ^ n.toNat := by
    have h1 := g2.num
    rw [natW_all _ _ (Nat.le_refl _), nat_norm, val_nat g2.words] at h1
    have h2 : ((nat a * 2 ^ n.toNat : Nat) : Int) = (2 ^ r : Nat) * 4294967296 ^ w * nat a := by
      rw [pow32 n.toNat, hw, hr, Int.natCast_mul, Int.natCast_mul, ← pow_int]
      grind
    exact Int.ofNat.inj (h1.trans h2.symm)
  have h := shlF1 a ta n l1 (w + (norm a).length + 1) (w + (norm a).length + 1) (by
    rw [e5]
    refine ⟨by unfold lim; omega, by omega, by rw [hCw]; exact inR64 (by omega) (by omega), by rw [hCw]; exact inR64 (by omega) (by omega), by rw [hCw]; exact inR64 (by omega) (by omega), by rw [hCw]; omega, by rw [hCw]; omega, .raise ?_, g1.symm, Nat.le_refl _, by rw [g1]; unfold lim; omega, trivial⟩
    show LoopTo _ _ { n := _, fr := _, hp := [(10, .row 22 1 (.ints .u32 (List.replicate (w + (norm a).length + 1) 0)) (List.replicate (w + (norm a).length + 1) (0 : Int)).length)], nx := _ } _ _
    rw [hlen]
    exact g3)
  rw [norm_eq g2.words, hval] at h
  exact h

end Go.Proofs.Bn

/- Bignum: contracts of shl, Up, and 'is a word not 0'. -/
set_option maxRecDepth 100000
namespace Go.Proofs.Bn
open Go Go.Ev

def sigNz : List AV → Option (AV × List Prop)
  | [.v (.int .u32 x)] => some (.v (.bool (x != 0)), [])
  | _ => none
def sigShlW : List AV → Option (AV × List Prop)
  | [.sl 1 (.ints .u32 a) _, .v (.int .i64 n)] => some (.sl 1 (.ints .u32 (dig (nat a * 2 ^ n.toNat))) true, [Words a, 0 ≤ n, n + a.length + 2 ≤ 1000000000000])
  | _ => none
def sigUp : List AV → Option (AV × List Prop)
  | [.sl 1 (.ints .u32 a) _, .v (.int .i64 n)] => some (.sl 1 (.ints .u32 (dig (nat a * 2 ^ n.toNat))) false, [Words a, 0 ≤ n, n + a.length + 2 ≤ 1000000000000])
  | _ => none

def SG11 : SGT := (56, .p sigNz) :: (53, .p sigShlW) :: (54, .p sigUp) :: SG10

theorem sok11 : SigsOK Try.prog SG11 := by
  refine sigs_cons (sigs_cons (sigs_cons sok10 ?_) ?_) ?_
  · intro ys r c h hc
    unfold sigUp at h
    split at h
    · cases h; exact up_pure _ _ _ hc.1 hc.2.1 hc.2.2.1
    · cases h
  · intro ys r c h hc
    unfold sigShlW at h
    split at h
    · cases h; exact shl_pure _ _ _ hc.1 hc.2.1 hc.2.2.1
    · cases h
  · intro ys r c h hc
    unfold sigNz at h
    split at h
    · cases h; exact nzF1 _ hc
    · cases h

end Go.Proofs.Bn

/- Bignum: walks, written by the tool. -/
set_option maxRecDepth 100000
namespace Go.Proofs.Bn
open Go Go.Ev
def ixfS0 (a : List Int) (ta : Bool) (x0 : Int) : AS := { n := 19, fr := [(0, AV.sl 1 (.ints .u32 a) ta), (1, AV.fnv (Fn.func 56) [] []), (7, AV.v (.int .i64 (↑a.length : Int))), (8, AV.v (.int .i64 x0))], hp := [], nx := 0 }
def ixfX0 (a : List Int) (ta : Bool)  : AS := { n := 19, fr := [], hp := [], nx := 0 }
def ixfX0_1 (a : List Int) (ta : Bool) (x1 : Int) : AS := { n := 19, fr := [(4, AV.v (.int .i64 x1))], hp := [], nx := 0 }
def rshrS0 (a : List Int) (ta : Bool) (n : Int) (x0 : Int) (b0 : Bool) : AS := { n := 72, fr := [(0, AV.sl 1 (.ints .u32 (norm a)) false), (1, AV.v (.int .i64 n)), (6, AV.v (.bool b0)), (7, AV.v (.int .i64 x0))], hp := [], nx := 0 }
def rshrX0 (a : List Int) (ta : Bool) (n : Int) (b1 : Bool) : AS := { n := 72, fr := [(0, AV.sl 1 (.ints .u32 (norm a)) false), (1, AV.v (.int .i64 n)), (6, AV.v (.bool b1))], hp := [], nx := 0 }
def rshrS1 (a : List Int) (ta : Bool) (n : Int) (x1 : Int) (b1 : Bool) (l0 : List Int) (n0 : Nat) : AS := { n := 72, fr := [(0, AV.sl 1 (.ints .u32 (norm a)) false), (1, AV.v (.int .i64 n)), (6, AV.v (.bool b1)), (8, AV.row 0 0 l0.length l0.length false), (9, AV.v (.int .i64 x1))], hp := [(0, AObj.row 22 1 (.ints .u32 l0) n0)], nx := 1 }
def rshrX1 (a : List Int) (ta : Bool) (n : Int) (b1 : Bool) (l1 : List Int) (n1 : Nat) : AS := { n := 72, fr := [(6, AV.v (.bool b1)), (8, AV.row 0 0 l1.length l1.length false)], hp := [(0, AObj.row 22 1 (.ints .u32 l1) n1)], nx := 1 }
-- 5 paths
theorem pshlF1 (a : List Int) (ta : Bool) (n : Int) (h : AllP [a.length < lim, over (norm a) = true, (norm a).length < lim]) : PureTo Try.prog 28 [.sl 1 (.ints .u32 a) ta, .v (.int .i64 n)] (AV.tup [AV.sl 1 (.ints .u32 []) false, AV.v (.int .i64 (3 : Int))]) :=
  evFn_pure hm sok11 (fn := Try.f28) rfl rfl (ti := false) (hs := [CHint.ops 2 [(2, Hint.b true)]]) (c := _) (by kernel_rfl) h
theorem pshlF2 (a : List Int) (ta : Bool) (n : Int) (h : AllP [a.length < lim, over (norm a) = false, (norm a).length < lim, decide (n < (0 : Int)) = true]) : PureTo Try.prog 28 [.sl 1 (.ints .u32 a) ta, .v (.int .i64 n)] (AV.tup [AV.sl 1 (.ints .u32 []) false, AV.v (.int .i64 (1 : Int))]) :=
  evFn_pure hm sok11 (fn := Try.f28) rfl rfl (ti := false) (hs := [CHint.ops 2 [(2, Hint.b false)], CHint.ops 4 [(1, Hint.b true)]]) (c := _) (by kernel_rfl) h
theorem pshlF3 (a : List Int) (ta : Bool) (n : Int) (h : AllP [a.length < lim, over (norm a) = false, (norm a).length < lim, decide (n < (0 : Int)) = false, ((↑(norm a).length : Int) == (0 : Int)) = true]) : PureTo Try.prog 28 [.sl 1 (.ints .u32 a) ta, .v (.int .i64 n)] (AV.tup [AV.sl 1 (.ints .u32 []) false, AV.v (.int .i64 (0 : Int))]) :=
  evFn_pure hm sok11 (fn := Try.f28) rfl rfl (ti := false) (hs := [CHint.ops 2 [(2, Hint.b false)], CHint.ops 4 [(1, Hint.b false)], CHint.ops 6 [(2, Hint.b true)]]) (c := _) (by kernel_rfl) h
theorem pshlF4 (a : List Int) (ta : Bool) (n : Int) (h : AllP [a.length < lim, over (norm a) = false, (norm a).length < lim, decide (n < (0 : Int)) = false, ((↑(norm a).length : Int) == (0 : Int)) = false, decide (n > (32768 : Int)) = true]) : PureTo Try.prog 28 [.sl 1 (.ints .u32 a) ta, .v (.int .i64 n)] (AV.tup [AV.sl 1 (.ints .u32 []) false, AV.v (.int .i64 (3 : Int))]) :=
  evFn_pure hm sok11 (fn := Try.f28) rfl rfl (ti := false) (hs := [CHint.ops 2 [(2, Hint.b false)], CHint.ops 4 [(1, Hint.b false)], CHint.ops 6 [(2, Hint.b false)], CHint.ops 8 [(1, Hint.b true)]]) (c := _) (by kernel_rfl) h
theorem pshlF5 (a : List Int) (ta : Bool) (n : Int) (h : AllP [a.length < lim, over (norm a) = false, (norm a).length < lim, decide (n < (0 : Int)) = false, ((↑(norm a).length : Int) == (0 : Int)) = false, decide (n > (32768 : Int)) = false, Words (norm a), (0 : Int) ≤ n, n + (↑(norm a).length : Int) + (2 : Int) ≤ (1000000000000 : Int), (dig (nat (norm a) * 2 ^ n.toNat)).length < lim]) : PureTo Try.prog 28 [.sl 1 (.ints .u32 a) ta, .v (.int .i64 n)] (AV.tup [AV.sl 1 (.ints .u32 (toldL (dig (nat (norm a) * 2 ^ n.toNat)))) false, AV.v (.int .i64 (toldE (dig (nat (norm a) * 2 ^ n.toNat))))]) :=
  evFn_pure hm sok11 (fn := Try.f28) rfl rfl (ti := false) (hs := [CHint.ops 2 [(2, Hint.b false)], CHint.ops 4 [(1, Hint.b false)], CHint.ops 6 [(2, Hint.b false)], CHint.ops 8 [(1, Hint.b false)]]) (c := _) (by kernel_rfl) h
-- 5 paths
theorem rshlF1 (a : List Int) (ta : Bool) (n : Int) (h : AllP [over a = true, a.length ≤ lim4]) : PureTo Try.prog 29 [.sl 1 (.ints .u32 a) ta, .v (.int .i64 n)] (AV.tup [AV.sl 1 (.ints .u32 []) false, AV.v (.int .i64 (3 : Int))]) :=
  evFn_pure hm sok11 (fn := Try.f29) rfl rfl (ti := false) (hs := [CHint.ops 1 [(1, Hint.b true)]]) (c := _) (by kernel_rfl) h
theorem rshlF2 (a : List Int) (ta : Bool) (n : Int) (h : AllP [over a = false, a.length ≤ lim4, decide (n < (0 : Int)) = true]) : PureTo Try.prog 29 [.sl 1 (.ints .u32 a) ta, .v (.int .i64 n)] (AV.tup [AV.sl 1 (.ints .u32 []) false, AV.v (.int .i64 (1 : Int))]) :=
  evFn_pure hm sok11 (fn := Try.f29) rfl rfl (ti := false) (hs := [CHint.ops 1 [(1, Hint.b false)], CHint.ops 3 [(1, Hint.b true)]]) (c := _) (by kernel_rfl) h
theorem rshlF3 (a : List Int) (ta : Bool) (n : Int) (h : AllP [over a = false, a.length ≤ lim4, decide (n < (0 : Int)) = false, Words a, a.length ≤ lim4, ((↑(bl (nat a)) : Int) == (0 : Int)) = true]) : PureTo Try.prog 29 [.sl 1 (.ints .u32 a) ta, .v (.int .i64 n)] (AV.tup [AV.sl 1 (.ints .u32 []) false, AV.v (.int .i64 (0 : Int))]) :=
  evFn_pure hm sok11 (fn := Try.f29) rfl rfl (ti := false) (hs := [CHint.ops 1 [(1, Hint.b false)], CHint.ops 3 [(1, Hint.b false)], CHint.ops 5 [(2, Hint.b true)]]) (c := _) (by kernel_rfl) h
theorem rshlF4 (a : List Int) (ta : Bool) (n : Int) (h : AllP [over a = false, a.length ≤ lim4, decide (n < (0 : Int)) = false, Words a, a.length ≤ lim4, ((↑(bl (nat a)) : Int) == (0 : Int)) = false, decide (n > (32768 : Int)) = true]) : PureTo Try.prog 29 [.sl 1 (.ints .u32 a) ta, .v (.int .i64 n)] (AV.tup [AV.sl 1 (.ints .u32 []) false, AV.v (.int .i64 (3 : Int))]) :=
  evFn_pure hm sok11 (fn := Try.f29) rfl rfl (ti := false) (hs := [CHint.ops 1 [(1, Hint.b false)], CHint.ops 3 [(1, Hint.b false)], CHint.ops 5 [(2, Hint.b false)], CHint.ops 7 [(1, Hint.b true)]]) (c := _) (by kernel_rfl) h
theorem rshlF5 (a : List Int) (ta : Bool) (n : Int) (h : AllP [over a = false, a.length ≤ lim4, decide (n < (0 : Int)) = false, Words a, a.length ≤ lim4, ((↑(bl (nat a)) : Int) == (0 : Int)) = false, decide (n > (32768 : Int)) = false, a.length ≤ lim4, Words (norm a), (0 : Int) ≤ n, n + (↑(norm a).length : Int) + (2 : Int) ≤ (1000000000000 : Int), Words (dig (nat (norm a) * 2 ^ n.toNat)), (dig (nat (norm a) * 2 ^ n.toNat)).length ≤ lim4]) : PureTo Try.prog 29 [.sl 1 (.ints .u32 a) ta, .v (.int .i64 n)] (AV.tup [AV.sl 1 (.ints .u32 (if big (nat (dig (nat (norm a) * 2 ^ n.toNat))) = true then [] else dig (nat (dig (nat (norm a) * 2 ^ n.toNat))))) false, AV.v (.int .i64 (if big (nat (dig (nat (norm a) * 2 ^ n.toNat))) = true then (3 : Int) else (0 : Int)))]) :=
  evFn_pure hm sok11 (fn := Try.f29) rfl rfl (ti := false) (hs := [CHint.ops 1 [(1, Hint.b false)], CHint.ops 3 [(1, Hint.b false)], CHint.ops 5 [(2, Hint.b false)], CHint.ops 7 [(1, Hint.b false)]]) (c := _) (by kernel_rfl) h
-- 3 paths
theorem ixfL0_1 (a : List Int) (ta : Bool) (x0 : Int) (h : AllP [decide (x0 < (↑a.length : Int)) = true, (0 : Int) ≤ x0 ∧ x0 < (↑a.length : Int), (a.getD x0.toNat (0 : Int) != (0 : Int)) = true]) : To Try.prog (loopAt Try.f66 0) ({ n := 19, fr := [(0, AV.sl 1 (.ints .u32 a) ta), (1, AV.fnv (Fn.func 56) [] []), (7, AV.v (.int .i64 (↑a.length : Int))), (8, AV.v (.int .i64 x0))], hp := [], nx := 0 }) (Exit.ret) { n := 19, fr := [(4, AV.v (.int .i64 x0))], hp := [], nx := 0 } :=
  evW_to hm sok11 (hs := [CHint.ops 2 [(0, Hint.b true)], CHint.ops 4 [(5, Hint.b true)]]) (slots := [4]) (keys := []) (nx := 0) (c := _) (by kernel_rfl) h
theorem ixfL0_2 (a : List Int) (ta : Bool) (x0 : Int) (h : AllP [decide (x0 < (↑a.length : Int)) = true, (0 : Int) ≤ x0 ∧ x0 < (↑a.length : Int), (a.getD x0.toNat (0 : Int) != (0 : Int)) = false, inR IntKind.i64 (x0 + (1 : Int))]) : To Try.prog (loopAt Try.f66 0) ({ n := 19, fr := [(0, AV.sl 1 (.ints .u32 a) ta), (1, AV.fnv (Fn.func 56) [] []), (7, AV.v (.int .i64 (↑a.length : Int))), (8, AV.v (.int .i64 x0))], hp := [], nx := 0 }) (.normal) { n := 19, fr := [(0, AV.sl 1 (.ints .u32 a) ta), (1, AV.fnv (Fn.func 56) [] []), (7, AV.v (.int .i64 (↑a.length : Int))), (8, AV.v (.int .i64 (x0 + (1 : Int))))], hp := [], nx := 0 } :=
  evW_to hm sok11 (hs := [CHint.ops 2 [(0, Hint.b true)], CHint.ops 4 [(5, Hint.b false)]]) (slots := [0, 1, 7, 8]) (keys := []) (nx := 0) (c := _) (by kernel_rfl) h
theorem ixfL0_3 (a : List Int) (ta : Bool) (x0 : Int) (h : AllP [decide (x0 < (↑a.length : Int)) = false]) : To Try.prog (loopAt Try.f66 0) ({ n := 19, fr := [(0, AV.sl 1 (.ints .u32 a) ta), (1, AV.fnv (Fn.func 56) [] []), (7, AV.v (.int .i64 (↑a.length : Int))), (8, AV.v (.int .i64 x0))], hp := [], nx := 0 }) (Exit.exit 0) { n := 19, fr := [], hp := [], nx := 0 } :=
  evW_to hm sok11 (hs := [CHint.ops 2 [(0, Hint.b false)]]) (slots := []) (keys := []) (nx := 0) (c := _) (by kernel_rfl) h
-- 2 paths
theorem ixfF1 (a : List Int) (ta : Bool) (x1 : Int) (h : AllP [LoopTo Try.prog (loopAt Try.f66 0) { n := 19, fr := [(0, AV.sl 1 (.ints .u32 a) ta), (1, AV.fnv (Fn.func 56) [] []), (7, AV.v (.int .i64 (↑a.length : Int))), (8, AV.v (.int .i64 (0 : Int)))], hp := [], nx := 0 } (Exit.exit 0) { n := 19, fr := [], hp := [], nx := 0 }]) : PureTo Try.prog 66 [.sl 1 (.ints .u32 a) ta, .fnv (.func 56) [] []] (AV.v (.int .i64 (-1 : Int))) :=
  evFn_pure hm sok11 (fn := Try.f66) rfl rfl (ti := false) (hs := [CHint.loop [0, 1, 7, 8] [] 0 (Exit.exit 0) { n := 19, fr := [], hp := [], nx := 0 }]) (c := _) (by kernel_rfl) h
theorem ixfF2 (a : List Int) (ta : Bool) (x1 : Int) (h : AllP [LoopTo Try.prog (loopAt Try.f66 0) { n := 19, fr := [(0, AV.sl 1 (.ints .u32 a) ta), (1, AV.fnv (Fn.func 56) [] []), (7, AV.v (.int .i64 (↑a.length : Int))), (8, AV.v (.int .i64 (0 : Int)))], hp := [], nx := 0 } Exit.ret { n := 19, fr := [(4, AV.v (.int .i64 x1))], hp := [], nx := 0 }]) : PureTo Try.prog 66 [.sl 1 (.ints .u32 a) ta, .fnv (.func 56) [] []] (AV.v (.int .i64 x1)) :=
  evFn_pure hm sok11 (fn := Try.f66) rfl rfl (ti := false) (hs := [CHint.loop [0, 1, 7, 8] [] 0 Exit.ret { n := 19, fr := [(4, AV.v (.int .i64 x1))], hp := [], nx := 0 }]) (c := _) (by kernel_rfl) h
-- 4 paths
theorem rshrL0_1 (a : List Int) (ta : Bool) (n : Int) (x0 : Int) (b0 : Bool) (h : AllP [decide (x0 < n) = true, b0 = true, inR IntKind.i64 (x0 + (1 : Int))]) : To Try.prog (loopAt Try.f31 0) ({ n := 72, fr := [(0, AV.sl 1 (.ints .u32 (norm a)) false), (1, AV.v (.int .i64 n)), (6, AV.v (.bool b0)), (7, AV.v (.int .i64 x0))], hp := [], nx := 0 }) (.normal) { n := 72, fr := [(0, AV.sl 1 (.ints .u32 (norm a)) false), (1, AV.v (.int .i64 n)), (6, AV.v (.bool true)), (7, AV.v (.int .i64 (x0 + (1 : Int))))], hp := [], nx := 0 } :=
  evW_to hm sok11 (hs := [CHint.ops 8 [(2, Hint.b true)], CHint.ops 10 [(1, Hint.b true)]]) (slots := [0, 1, 6, 7]) (keys := []) (nx := 0) (c := _) (by kernel_rfl) h
theorem rshrL0_2 (a : List Int) (ta : Bool) (n : Int) (x0 : Int) (b0 : Bool) (h : AllP [decide (x0 < n) = true, b0 = false, (32 : Int) ≠ (0 : Int), inR IntKind.i64 (x0.tdiv (32 : Int)), (0 : Int) ≤ x0.tdiv (32 : Int) ∧ x0.tdiv (32 : Int) < (↑(norm a).length : Int), (32 : Int) ≠ (0 : Int), (0 : Int) ≤ x0.tmod (32 : Int) % (18446744073709551616 : Int), (bitsOf BinOp.and IntKind.u32 ((norm a).getD (x0.tdiv (32 : Int)).toNat (0 : Int) / (2 : Int) ^ min (x0.tmod (32 : Int) % (18446744073709551616 : Int)).toNat 32) (1 : Int) == (1 : Int)) = true, inR IntKind.i64 (x0 + (1 : Int))]) : To Try.prog (loopAt Try.f31 0) ({ n := 72, fr := [(0, AV.sl 1 (.ints .u32 (norm a)) false), (1, AV.v (.int .i64 n)), (6, AV.v (.bool b0)), (7, AV.v (.int .i64 x0))], hp := [], nx := 0 }) (.normal) { n := 72, fr := [(0, AV.sl 1 (.ints .u32 (norm a)) false), (1, AV.v (.int .i64 n)), (6, AV.v (.bool true)), (7, AV.v (.int .i64 (x0 + (1 : Int))))], hp := [], nx := 0 } :=
  evW_to hm sok11 (hs := [CHint.ops 8 [(2, Hint.b true)], CHint.ops 10 [(1, Hint.b false), (12, Hint.b true)]]) (slots := [0, 1, 6, 7]) (keys := []) (nx := 0) (c := _) (by kernel_rfl) h
theorem rshrL0_3 (a : List Int) (ta : Bool) (n : Int) (x0 : Int) (b0 : Bool) (h : AllP [decide (x0 < n) = true, b0 = false, (32 : Int) ≠ (0 : Int), inR IntKind.i64 (x0.tdiv (32 : Int)), (0 : Int) ≤ x0.tdiv (32 : Int) ∧ x0.tdiv (32 : Int) < (↑(norm a).length : Int), (32 : Int) ≠ (0 : Int), (0 : Int) ≤ x0.tmod (32 : Int) % (18446744073709551616 : Int), (bitsOf BinOp.and IntKind.u32 ((norm a).getD (x0.tdiv (32 : Int)).toNat (0 : Int) / (2 : Int) ^ min (x0.tmod (32 : Int) % (18446744073709551616 : Int)).toNat 32) (1 : Int) == (1 : Int)) = false, inR IntKind.i64 (x0 + (1 : Int))]) : To Try.prog (loopAt Try.f31 0) ({ n := 72, fr := [(0, AV.sl 1 (.ints .u32 (norm a)) false), (1, AV.v (.int .i64 n)), (6, AV.v (.bool b0)), (7, AV.v (.int .i64 x0))], hp := [], nx := 0 }) (.normal) { n := 72, fr := [(0, AV.sl 1 (.ints .u32 (norm a)) false), (1, AV.v (.int .i64 n)), (6, AV.v (.bool false)), (7, AV.v (.int .i64 (x0 + (1 : Int))))], hp := [], nx := 0 } :=
  evW_to hm sok11 (hs := [CHint.ops 8 [(2, Hint.b true)], CHint.ops 10 [(1, Hint.b false), (12, Hint.b false)]]) (slots := [0, 1, 6, 7]) (keys := []) (nx := 0) (c := _) (by kernel_rfl) h
theorem rshrL0_4 (a : List Int) (ta : Bool) (n : Int) (x0 : Int) (b0 : Bool) (h : AllP [decide (x0 < n) = false]) : To Try.prog (loopAt Try.f31 0) ({ n := 72, fr := [(0, AV.sl 1 (.ints .u32 (norm a)) false), (1, AV.v (.int .i64 n)), (6, AV.v (.bool b0)), (7, AV.v (.int .i64 x0))], hp := [], nx := 0 }) (Exit.exit 0) { n := 72, fr := [(0, AV.sl 1 (.ints .u32 (norm a)) false), (1, AV.v (.int .i64 n)), (6, AV.v (.bool b0))], hp := [], nx := 0 } :=
  evW_to hm sok11 (hs := [CHint.ops 8 [(2, Hint.b false)]]) (slots := [0, 1, 6]) (keys := []) (nx := 0) (c := _) (by kernel_rfl) h
-- 2 paths
theorem rshrL1_1 (a : List Int) (ta : Bool) (n : Int) (x1 : Int) (b1 : Bool) (l0 : List Int) (n0 : Nat) (h : AllP [decide (x1 < (↑(norm a).length : Int)) = true, Words (norm a), (0 : Int) ≤ x1, inR IntKind.i64 (x1 + (1 : Int)), Words (norm a), (0 : Int) ≤ x1 + (1 : Int), (0 : Int) ≤ (32 : Int), inR IntKind.u64 (wd (norm a) (x1 + (1 : Int)) * (4294967296 : Int)), (32 : Int) ≠ (0 : Int), (0 : Int) ≤ n.tmod (32 : Int) % (18446744073709551616 : Int), l0.length = l0.length, l0.length = l0.length, (l0 ++ [bitsOf BinOp.or IntKind.u64 (wd (norm a) x1) (wd (norm a) (x1 + (1 : Int)) * (4294967296 : Int)) / (2 : Int) ^ min (n.tmod (32 : Int) % (18446744073709551616 : Int)).toNat 64 % (4294967296 : Int)]).length * 4 ≤ 140737488355328, inR IntKind.i64 (x1 + (1 : Int))]) : To Try.prog (loopAt Try.f31 1) ({ n := 72, fr := [(0, AV.sl 1 (.ints .u32 (norm a)) false), (1, AV.v (.int .i64 n)), (6, AV.v (.bool b1)), (8, AV.row 0 0 l0.length l0.length false), (9, AV.v (.int .i64 x1))], hp := [(0, AObj.row 22 1 (.ints .u32 l0) n0)], nx := 1 }) (.normal) { n := 72, fr := [(0, AV.sl 1 (.ints .u32 (norm a)) false), (1, AV.v (.int .i64 n)), (6, AV.v (.bool b1)), (8, AV.row 0 0 (l0 ++ [bitsOf BinOp.or IntKind.u64 (wd (norm a) x1) (wd (norm a) (x1 + (1 : Int)) * (4294967296 : Int)) / (2 : Int) ^ min (n.tmod (32 : Int) % (18446744073709551616 : Int)).toNat 64 % (4294967296 : Int)]).length (l0 ++ [bitsOf BinOp.or IntKind.u64 (wd (norm a) x1) (wd (norm a) (x1 + (1 : Int)) * (4294967296 : Int)) / (2 : Int) ^ min (n.tmod (32 : Int) % (18446744073709551616 : Int)).toNat 64 % (4294967296 : Int)]).length false), (9, AV.v (.int .i64 (x1 + (1 : Int))))], hp := [(0, AObj.row 22 1 (.ints .u32 (l0 ++ [bitsOf BinOp.or IntKind.u64 (wd (norm a) x1) (wd (norm a) (x1 + (1 : Int)) * (4294967296 : Int)) / (2 : Int) ^ min (n.tmod (32 : Int) % (18446744073709551616 : Int)).toNat 64 % (4294967296 : Int)])) n0)], nx := 1 } :=
  evW_to hm sok11 (hs := [CHint.ops 13 [(3, Hint.b true)]]) (slots := [0, 1, 6, 8, 9]) (keys := [0]) (nx := 1) (c := _) (by kernel_rfl) h
theorem rshrL1_2 (a : List Int) (ta : Bool) (n : Int) (x1 : Int) (b1 : Bool) (l0 : List Int) (n0 : Nat) (h : AllP [decide (x1 < (↑(norm a).length : Int)) = false]) : To Try.prog (loopAt Try.f31 1) ({ n := 72, fr := [(0, AV.sl 1 (.ints .u32 (norm a)) false), (1, AV.v (.int .i64 n)), (6, AV.v (.bool b1)), (8, AV.row 0 0 l0.length l0.length false), (9, AV.v (.int .i64 x1))], hp := [(0, AObj.row 22 1 (.ints .u32 l0) n0)], nx := 1 }) (Exit.exit 2) { n := 72, fr := [(6, AV.v (.bool b1)), (8, AV.row 0 0 l0.length l0.length false)], hp := [(0, AObj.row 22 1 (.ints .u32 l0) n0)], nx := 1 } :=
  evW_to hm sok11 (hs := [CHint.ops 13 [(3, Hint.b false)]]) (slots := [6, 8]) (keys := [0]) (nx := 1) (c := _) (by kernel_rfl) h
-- 4 paths
theorem rshrF1 (a : List Int) (ta : Bool) (n : Int) (b1 : Bool) (l1 : List Int) (n1 : Nat) (h : AllP [a.length ≤ lim4, decide (n ≤ (0 : Int)) = true]) : PureTo Try.prog 31 [.sl 1 (.ints .u32 a) ta, .v (.int .i64 n)] (AV.tup [AV.sl 1 (.ints .u32 (norm a)) false, AV.v (.bool false)]) :=
  evFn_pure hm sok11 (fn := Try.f31) rfl rfl (ti := false) (hs := [CHint.ops 2 [(1, Hint.b true)]]) (c := _) (by kernel_rfl) h
theorem rshrF2 (a : List Int) (ta : Bool) (n : Int) (b1 : Bool) (l1 : List Int) (n1 : Nat) (h : AllP [a.length ≤ lim4, decide (n ≤ (0 : Int)) = false, inR IntKind.i64 ((32 : Int) * (↑(norm a).length : Int)), decide (n ≥ (32 : Int) * (↑(norm a).length : Int)) = true, decide ((↑(norm a).length : Int) > (0 : Int)) = true]) : PureTo Try.prog 31 [.sl 1 (.ints .u32 a) ta, .v (.int .i64 n)] (AV.tup [AV.sl 1 (.ints .u32 []) false, AV.v (.bool true)]) :=
  evFn_pure hm sok11 (fn := Try.f31) rfl rfl (ti := false) (hs := [CHint.ops 2 [(1, Hint.b false)], CHint.ops 4 [(4, Hint.b true)], CHint.ops 5 [(2, Hint.b true)]]) (c := _) (by kernel_rfl) h
theorem rshrF3 (a : List Int) (ta : Bool) (n : Int) (b1 : Bool) (l1 : List Int) (n1 : Nat) (h : AllP [a.length ≤ lim4, decide (n ≤ (0 : Int)) = false, inR IntKind.i64 ((32 : Int) * (↑(norm a).length : Int)), decide (n ≥ (32 : Int) * (↑(norm a).length : Int)) = true, decide ((↑(norm a).length : Int) > (0 : Int)) = false]) : PureTo Try.prog 31 [.sl 1 (.ints .u32 a) ta, .v (.int .i64 n)] (AV.tup [AV.sl 1 (.ints .u32 []) false, AV.v (.bool false)]) :=
  evFn_pure hm sok11 (fn := Try.f31) rfl rfl (ti := false) (hs := [CHint.ops 2 [(1, Hint.b false)], CHint.ops 4 [(4, Hint.b true)], CHint.ops 5 [(2, Hint.b false)]]) (c := _) (by kernel_rfl) h
theorem rshrF4 (a : List Int) (ta : Bool) (n : Int) (b1 : Bool) (l1 : List Int) (n1 : Nat) (h : AllP [a.length ≤ lim4, decide (n ≤ (0 : Int)) = false, inR IntKind.i64 ((32 : Int) * (↑(norm a).length : Int)), decide (n ≥ (32 : Int) * (↑(norm a).length : Int)) = false, LoopTo Try.prog (loopAt Try.f31 0) { n := 72, fr := [(0, AV.sl 1 (.ints .u32 (norm a)) false), (1, AV.v (.int .i64 n)), (6, AV.v (.bool false)), (7, AV.v (.int .i64 (0 : Int)))], hp := [], nx := 0 } (Exit.exit 0) { n := 72, fr := [(0, AV.sl 1 (.ints .u32 (norm a)) false), (1, AV.v (.int .i64 n)), (6, AV.v (.bool b1))], hp := [], nx := 0 }, (32 : Int) ≠ (0 : Int), inR IntKind.i64 (n.tdiv (32 : Int)), LoopTo Try.prog (loopAt Try.f31 1) { n := 72, fr := [(0, AV.sl 1 (.ints .u32 (norm a)) false), (1, AV.v (.int .i64 n)), (6, AV.v (.bool b1)), (8, AV.row 0 0 0 0 false), (9, AV.v (.int .i64 (n.tdiv (32 : Int))))], hp := [(0, AObj.row 22 1 (.ints .u32 []) 0)], nx := 1 } (Exit.exit 2) { n := 72, fr := [(6, AV.v (.bool b1)), (8, AV.row 0 0 l1.length l1.length false)], hp := [(0, AObj.row 22 1 (.ints .u32 l1) n1)], nx := 1 }, l1.length = l1.length, n1 ≤ l1.length, l1.length ≤ lim4]) : PureTo Try.prog 31 [.sl 1 (.ints .u32 a) ta, .v (.int .i64 n)] (AV.tup [AV.sl 1 (.ints .u32 (norm l1)) false, AV.v (.bool b1)]) :=
  evFn_pure hm sok11 (fn := Try.f31) rfl rfl (ti := false) (hs := [CHint.ops 2 [(1, Hint.b false)], CHint.ops 4 [(4, Hint.b false)], CHint.loop [0, 1, 6, 7] [] 0 (Exit.exit 0) { n := 72, fr := [(0, AV.sl 1 (.ints .u32 (norm a)) false), (1, AV.v (.int .i64 n)), (6, AV.v (.bool b1))], hp := [], nx := 0 }, CHint.ops 11 [(0, Hint.nil 22)], CHint.loop [0, 1, 6, 8, 9] [0] 1 (Exit.exit 2) { n := 72, fr := [(6, AV.v (.bool b1)), (8, AV.row 0 0 l1.length l1.length false)], hp := [(0, AObj.row (22 : TypeId) 1 (.ints .u32 l1) n1)], nx := 1 }]) (c := _) (by kernel_rfl) h
end Go.Proofs.Bn

/- Bignum: contracts: IndexFunc of a word that is not 0, Shl, and what is defined of Shl and Shr. -/
set_option maxRecDepth 100000
namespace Go.Proofs.Bn
open Go Go.Ev

/-- the first word that is not 0; -1: there is none -/
def fz (a : List Int) : Int := if ∀ x, x ∈ a → x = 0 then -1 else (a.findIdx (· != 0) : Nat)

theorem fz_sign (a : List Int) : decide (fz a ≥ 0) = !decide (∀ x, x ∈ a → x = 0) := by
  unfold fz
  split
  · next h => rw [decide_eq_true h]; rfl
  · next h => rw [decide_eq_false h]; simp

theorem ixf_loop (a : List Int) (ta : Bool) (hl : a.length < lim) : ∀ f i : Nat, i + f = a.length → (∀ j, j < i → a.getD j 0 = 0) →
    ((∀ x, x ∈ a → x = 0) → LoopTo Try.prog (loopAt Try.f66 0) (ixfS0 a ta i) (.exit 0) (ixfX0 a ta)) ∧
    (¬ (∀ x, x ∈ a → x = 0) → LoopTo Try.prog (loopAt Try.f66 0) (ixfS0 a ta i) .ret (ixfX0_1 a ta (a.findIdx (· != 0) : Nat))) := by
  unfold lim at hl
  intro f
  induction f with
  | zero =>
    intro i hi hz
    refine ⟨fun _ => .done (by simp) (ixfL0_3 a ta i ⟨by simp; omega, trivial⟩), fun hn => absurd (fun x hx => ?_) hn⟩
    obtain ⟨j, hj, rfl⟩ := List.getElem_of_mem hx
    have := hz j (by omega)
    simpa [List.getD_eq_getElem?_getD, hj] using this
  | succ f ih =>
    intro i hi hz
    have hi2 : i < a.length := by omega
    have e : a.getD i 0 = a[i] := by simp [List.getD_eq_getElem?_getD, hi2]
    by_cases h0 : a.getD i 0 = 0
    · obtain ⟨g1, g2⟩ := ih (i + 1) (by omega) fun j hj => by
        rcases Nat.lt_or_ge j i with h | h
        · exact hz j h
        · have : j = i := by omega
          subst this
          exact h0
      have hs := ixfL0_2 a ta i ⟨by simp; omega, by omega, by rw [Int.toNat_natCast]; simpa using h0, inR64 (by omega) (by omega), trivial⟩
      exact ⟨fun h => .step hs (g1 h), fun h => .step hs (g2 h)⟩
    · refine ⟨fun h => absurd (h _ (List.getElem_mem hi2)) (by rw [← e]; exact h0), fun _ => ?_⟩
      have hidx : a.findIdx (· != 0) = i := by
        refine (List.findIdx_eq hi2).2 ⟨by simpa [← e] using h0, fun j hj => ?_⟩
        have := hz j hj
        simp [List.getD_eq_getElem?_getD, show j < a.length by omega] at this
        simp [this]
      rw [hidx]
      exact .done (by simp) (ixfL0_1 a ta i ⟨by simp; omega, by omega, by rw [Int.toNat_natCast]; simpa using h0, trivial⟩)

theorem ixf_pure (a : List Int) (ta : Bool) (hl : a.length < lim) : PureTo Try.prog 66 [.sl 1 (.ints .u32 a) ta, .fnv (.func 56) [] []] (.v (.int .i64 (fz a))) := by
  obtain ⟨h1, h2⟩ := ixf_loop a ta hl a.length 0 (by omega) (fun j hj => by omega)
  unfold fz
  split
  · next h => exact ixfF1 a ta 0 ⟨h1 h, trivial⟩
  · next h => exact ixfF2 a ta _ ⟨h2 h, trivial⟩

theorem over_norm {a : List Int} (ha : Words a) : over (norm a) = over a := by rw [over_big (words_norm ha), over_big ha, nat_norm]

theorem norm_nil {a : List Int} (ha : Words a) : (norm a).length = 0 ↔ nat a = 0 := by
  rw [norm_eq ha]
  constructor
  · intro h
    have := nat_dig (nat a)
    rw [List.eq_nil_of_length_eq_zero h] at this
    exact this.symm
  · intro h
    rw [h, dig_zero]
    rfl

set_option exponentiation.threshold 100000 in
theorem dig_shl_len {m : Nat} {n : Int} (hm : m < 4294967296 ^ 1024) (hn : n ≤ 32768) : (dig (m * 2 ^ n.toNat)).length ≤ 2048 := by
  have h : ¬ 2048 < (dig (m * 2 ^ n.toNat)).length := by
    rw [dig_len]
    have h1 : (2 : Nat) ^ n.toNat ≤ 2 ^ 32768 := Nat.pow_le_pow_right (by omega) (by omega)
    have h2 : (2 : Nat) ^ 32768 = 4294967296 ^ 1024 := by rw [show (4294967296 : Nat) = 2 ^ 32 from rfl, ← Nat.pow_mul]
    have h3 : (4294967296 : Nat) ^ 2048 = 4294967296 ^ 1024 * 4294967296 ^ 1024 := by rw [← Nat.pow_add]
    rw [h2] at h1
    have h4 : m * 2 ^ n.toNat < 4294967296 ^ 1024 * 4294967296 ^ 1024 := by
      refine Nat.lt_of_le_of_lt (Nat.mul_le_mul_left m h1) ?_
      exact Nat.mul_lt_mul_of_pos_right hm (Nat.pow_pos (by omega))
    rw [h3]
    exact Nat.not_le.2 h4
  omega

theorem lt_of_over {a : List Int} (ha : Words a) (h : over a = false) : nat a < 4294967296 ^ 1024 := by
  have h3 : ¬ 1024 < (norm a).length := by have := small_of_over h; omega
  rw [norm_len ha] at h3
  exact Nat.not_le.1 h3

theorem told_dig (m : Nat) : toldL (dig m) = (if big m then [] else dig m) ∧ toldE (dig m) = (if big m then 3 else 0) := by
  unfold toldL toldE
  rw [over_big (words_dig m), norm_eq (words_dig m), nat_dig]
  exact ⟨rfl, rfl⟩

theorem pshl_pure (a : List Int) (ta : Bool) (n : Int) (ha : Words a) (hl : a.length < lim) : PureTo Try.prog 28 [.sl 1 (.ints .u32 a) ta, .v (.int .i64 n)] (.tup [.sl 1 (.ints .u32 (ShlN (nat a) n).1) false, .v (.int .i64 (ShlN (nat a) n).2)]) := by
  have hle := norm_length_le a
  have hl2 : (norm a).length < lim := by omega
  have ho := over_norm ha
  have hz := norm_nil ha
  unfold ShlN
  rw [← over_big ha]
  cases h0 : over a with
  | true => exact pshlF1 a ta n ⟨hl, by rw [ho]; exact h0, hl2, trivial⟩
  | false =>
    have hov : over (norm a) = false := by rw [ho]; exact h0
    by_cases h1 : n < 0
    · simp only [Bool.false_eq_true, if_false, if_pos h1]
      exact pshlF2 a ta n ⟨hl, hov, hl2, by simpa using h1, trivial⟩
    · by_cases h2 : nat a = 0
      · simp only [Bool.false_eq_true, if_false, if_neg h1, if_pos h2]
        exact pshlF3 a ta n ⟨hl, hov, hl2, by simpa using h1, by simpa using hz.2 h2, trivial⟩
      · have h2' : ¬ (norm a).length = 0 := fun e => h2 (hz.1 e)
        by_cases h3 : 32768 < n
        · simp only [Bool.false_eq_true, if_false, if_neg h1, if_neg h2, if_pos h3]
          exact pshlF4 a ta n ⟨hl, hov, hl2, by simpa using h1, by simpa using h2', by simpa using h3, trivial⟩
        · simp only [Bool.false_eq_true, if_false, if_neg h1, if_neg h2, if_neg h3]
          have hsm := small_of_over h0
          have hd := dig_shl_len (lt_of_over ha h0) (show n ≤ 32768 by omega)
          have h := pshlF5 a ta n ⟨hl, hov, hl2, by simpa using h1, by simpa using h2', by simpa using h3, words_norm ha, by omega, by omega, by rw [nat_norm]; unfold lim; omega, trivial⟩
          rw [nat_norm, (told_dig _).1, (told_dig _).2] at h
          cases hb : big (nat a * 2 ^ n.toNat) <;> (rw [hb] at h; exact h)

theorem rshl_pure (a : List Int) (ta : Bool) (n : Int) (ha : Words a) (hl : a.length ≤ lim4) : PureTo Try.prog 29 [.sl 1 (.ints .u32 a) ta, .v (.int .i64 n)] (.tup [.sl 1 (.ints .u32 (ShlN (nat a) n).1) false, .v (.int .i64 (ShlN (nat a) n).2)]) := by
  have hle := norm_length_le a
  unfold ShlN
  rw [← over_big ha]
  cases h0 : over a with
  | true => exact rshlF1 a ta n ⟨h0, hl, trivial⟩
  | false =>
    by_cases h1 : n < 0
    · simp only [Bool.false_eq_true, if_false, if_pos h1]
      exact rshlF2 a ta n ⟨h0, hl, by simpa using h1, trivial⟩
    · by_cases h2 : nat a = 0
      · simp only [Bool.false_eq_true, if_false, if_neg h1, if_pos h2]
        exact rshlF3 a ta n ⟨h0, hl, by simpa using h1, ha, hl, by simpa using bl_zero.2 h2, trivial⟩
      · have h2' : ¬ bl (nat a) = 0 := fun e => h2 (bl_zero.1 e)
        by_cases h3 : 32768 < n
        · simp only [Bool.false_eq_true, if_false, if_neg h1, if_neg h2, if_pos h3]
          exact rshlF4 a ta n ⟨h0, hl, by simpa using h1, ha, hl, by simpa using h2', by simpa using h3, trivial⟩
        · simp only [Bool.false_eq_true, if_false, if_neg h1, if_neg h2, if_neg h3]
          have hsm := small_of_over h0
          have hd := dig_shl_len (lt_of_over ha h0) (show n ≤ 32768 by omega)
          have h := rshlF5 a ta n ⟨h0, hl, by simpa using h1, ha, hl, by simpa using h2', by simpa using h3, hl, words_norm ha, by omega, by omega, words_dig _, by rw [nat_norm]; unfold lim4; omega, trivial⟩
          rw [nat_norm, nat_dig] at h
          cases hb : big (nat a * 2 ^ n.toNat) <;> (rw [hb] at h; exact h)

/-! ### ref.Shr -/

theorem rshr_bits (a : List Int) (ta : Bool) (n : Int) (L : List Int) (hL : norm a = L) (hw : Words L) (h0 : 0 ≤ n) (hlt : n < 32 * (L.length : Int)) (hlen : L.length ≤ 35184372088832) : ∀ f i : Nat, (i : Int) + f = n →
    LoopTo Try.prog (loopAt Try.f31 0) (rshrS0 a ta n i (decide (nat L % 2 ^ i ≠ 0))) (.exit 0) (rshrX0 a ta n (decide (nat L % 2 ^ n.toNat ≠ 0))) := by
  intro f
  induction f with
  | zero =>
    intro i hi
    have e : n.toNat = i := by omega
    rw [e]
    exact .done (by simp) (rshrL0_4 a ta n i _ ⟨by simp; omega, trivial⟩)
  | succ f ih =>
    intro i hi
    have ih := ih (i + 1) (by omega)
    have hb := mod_bit (nat L) i
    by_cases hz : nat L % 2 ^ i = 0
    · have hi2 : i < 32 * L.length := by omega
      have hx := words_getD hw (i / 32)
      have hbit := word_bit hw i hi2
      have e1 : (i : Int).tdiv 32 = ((i / 32 : Nat) : Int) := by rw [Int.tdiv_eq_ediv_of_nonneg (by omega)]; omega
      have e2 : (i : Int).tmod 32 % 18446744073709551616 = ((i % 32 : Nat) : Int) := by rw [Int.tmod_eq_emod_of_nonneg (by omega)]; omega
      have e3 : (2 : Int) ^ min ((i : Int).tmod 32 % 18446744073709551616).toNat 32 = ((2 ^ (i % 32) : Nat) : Int) := by
        rw [e2, Int.toNat_natCast, Nat.min_eq_left (by omega), two_pow]
      have e4 : bitsOf .and .u32 (L.getD (i / 32) 0 / ((2 ^ (i % 32) : Nat) : Int)) 1 = (((L.getD (i / 32) 0).toNat / 2 ^ (i % 32) % 2 : Nat) : Int) := by
        have hq : L.getD (i / 32) 0 / ((2 ^ (i % 32) : Nat) : Int) = (((L.getD (i / 32) 0).toNat / 2 ^ (i % 32) : Nat) : Int) := by
          rw [Int.natCast_ediv]
          congr 1
          omega
        rw [hq]
        have hle2 := Nat.div_le_self (L.getD (i / 32) 0).toNat (2 ^ (i % 32))
        have := and_low (k := .u32) (s := 1) (x := (((L.getD (i / 32) 0).toNat / 2 ^ (i % 32) : Nat) : Int)) rfl (Int.natCast_nonneg _) (by show _ < (2 : Int) ^ 32; omega) (by decide)
        rw [Int.natCast_emod]
        exact this
      have hfalse : decide (nat L % 2 ^ i ≠ 0) = false := by simp [hz]
      cases hbv : decide (nat L / 2 ^ i % 2 = 1) with
      | true =>
        have hbv' : nat L / 2 ^ i % 2 = 1 := by simpa using hbv
        have hne : decide (nat L % 2 ^ (i + 1) ≠ 0) = true := by
          simp only [ne_eq, decide_not, hb, hz, true_and]
          simp [hbv']
        have h1 := rshrL0_2 a ta n i (decide (nat L % 2 ^ i ≠ 0)) (by
          rw [hL, e1, e3, Int.toNat_natCast, e4, ← hbit, hbv', e2]
          exact ⟨by simp; omega, hfalse, by omega, inR64 (by omega) (by omega), by omega, by omega, by omega, by simp, inR64 (by omega) (by omega), trivial⟩)
        rw [hne] at ih
        exact .step h1 ih
      | false =>
        have hbv' : nat L / 2 ^ i % 2 = 0 := by
          have : ¬ nat L / 2 ^ i % 2 = 1 := by simpa using hbv
          omega
        have hne : decide (nat L % 2 ^ (i + 1) ≠ 0) = false := by
          simp only [ne_eq, decide_not, hb, hz, true_and]
          simp [hbv']
        have h1 := rshrL0_3 a ta n i (decide (nat L % 2 ^ i ≠ 0)) (by
          rw [hL, e1, e3, Int.toNat_natCast, e4, ← hbit, hbv', e2]
          exact ⟨by simp; omega, hfalse, by omega, inR64 (by omega) (by omega), by omega, by omega, by omega, by simp, inR64 (by omega) (by omega), trivial⟩)
        rw [hne] at ih
        exact .step h1 ih
    · have htrue : decide (nat L % 2 ^ i ≠ 0) = true := by simp [hz]
      have hne : decide (nat L % 2 ^ (i + 1) ≠ 0) = true := by
        simp only [ne_eq, decide_not, hb]
        simp [hz]
      have h1 := rshrL0_1 a ta n i (decide (nat L % 2 ^ i ≠ 0)) ⟨by simp; omega, htrue, inR64 (by omega) (by omega), trivial⟩
      rw [hne] at ih
      exact .step h1 ih

theorem shW_int {x y : Int} {s : Nat} (hs : s < 32) (hx : 0 ≤ x ∧ x < 4294967296) (hy : 0 ≤ y ∧ y < 4294967296) : bitsOf .or .u64 x (y * 4294967296) / ((2 ^ s : Nat) : Int) % 4294967296 = (shW x.toNat y.toNat s : Int) ∧ bitsOf .or .u64 (y * 4294967296) x / ((2 ^ s : Nat) : Int) % 4294967296 = (shW x.toNat y.toNat s : Int) := by
  obtain ⟨a, b⟩ := or_add (k := .u64) (s := 32) (x := x) (y := y * 4294967296) rfl hx.1 (by simp; omega) (by omega) (by show _ < (2 : Int) ^ 64; omega) (by simp) (by decide)
  have e : x + y * 4294967296 = ((y.toNat * 4294967296 + x.toNat : Nat) : Int) := by omega
  rw [a, b, e, ← Int.natCast_ediv]
  unfold shW
  constructor <;> omega

theorem rshr_words (a : List Int) (ta : Bool) (n : Int) (L : List Int) (hL : norm a = L) (hw : Words L) (w s : Nat) (C : Cnt n w s) (b : Bool) (hlen : L.length ≤ 35184372088832) : ∀ (f i : Nat) (l : List Int), w + i + f = L.length → l = (shrW (L.drop w) s).take i →
    LoopTo Try.prog (loopAt Try.f31 1) (rshrS1 a ta n ((w + i : Nat) : Int) b l 0) (.exit 2) (rshrX1 a ta n b (shrW (L.drop w) s) 0) := by
  have hs := C.rlt
  intro f
  induction f with
  | zero =>
    intro i l hi hl
    have e : l = shrW (L.drop w) s := by rw [hl, List.take_of_length_le (by rw [shrW_length, List.length_drop]; omega)]
    rw [e]
    exact .done (by simp) (rshrL1_2 a ta n _ b _ 0 ⟨by rw [hL]; simp; omega, trivial⟩)
  | succ f ih =>
    intro i l hi hl
    have hx := wd_bound hw ((w + i : Nat) : Int)
    have hy := wd_bound hw (((w + i : Nat) : Int) + 1)
    have e2 : n.tmod 32 % 18446744073709551616 = (s : Int) := by rw [C.er]; omega
    have e3 : (2 : Int) ^ min (n.tmod 32 % 18446744073709551616).toNat 64 = ((2 ^ s : Nat) : Int) := by rw [e2, Int.toNat_natCast, Nat.min_eq_left (by omega), two_pow]
    have e4 := (shW_int hs hx hy).1
    have hlenl : l.length = i := by rw [hl, List.length_take, shrW_length, List.length_drop]; omega
    have hg : (shrW (L.drop w) s).getD i 0 = (shW (wd L ((w + i : Nat) : Int)).toNat (wd L (((w + i : Nat) : Int) + 1)).toNat s : Int) := by
      rw [shrW_get _ _ _ (by rw [List.length_drop]; omega)]
      have h1 : (L.drop w).getD i 0 = wd L ((w + i : Nat) : Int) := by rw [wd_nat, List.getD_eq_getElem?_getD, List.getElem?_drop, ← List.getD_eq_getElem?_getD]
      have h2 : (L.drop w).getD (i + 1) 0 = wd L (((w + i : Nat) : Int) + 1) := by
        rw [show ((w + i : Nat) : Int) + 1 = ((w + (i + 1) : Nat) : Int) by omega, wd_nat, List.getD_eq_getElem?_getD, List.getElem?_drop, ← List.getD_eq_getElem?_getD]
      rw [h1, h2]
    have hi2 : i < (shrW (L.drop w) s).length := by rw [shrW_length, List.length_drop]; omega
    have hnext : l ++ [(shW (wd L ((w + i : Nat) : Int)).toNat (wd L (((w + i : Nat) : Int) + 1)).toNat s : Int)] = (shrW (L.drop w) s).take (i + 1) := by
      rw [List.take_succ_eq_append_getElem hi2, hl, ← hg]
      congr 2
      simp [List.getD_eq_getElem?_getD, hi2]
    have h1 := rshrL1_1 a ta n ((w + i : Nat) : Int) b l 0 (by
      rw [hL, e3, e4, e2]
      refine ⟨by simp; omega, hw, by omega, inR64 (by omega) (by omega), hw, by omega, by omega, inRu64 (by omega) (by omega), by omega, by omega, rfl, rfl, by simp; omega, inR64 (by omega) (by omega), trivial⟩)
    rw [hL, e3, e4, hnext] at h1
    have ih := ih (i + 1) _ (by omega) rfl
    have e5 : ((w + i : Nat) : Int) + 1 = ((w + (i + 1) : Nat) : Int) := by omega
    rw [e5] at h1
    unfold rshrS1
    unfold rshrS1 at ih
    rw [hL] at ih ⊢
    exact .step h1 ih

theorem rshr_pure (a : List Int) (ta : Bool) (n : Int) (ha : Words a) (hl4 : a.length ≤ lim4) : PureTo Try.prog 31 [.sl 1 (.ints .u32 a) ta, .v (.int .i64 n)] (.tup [.sl 1 (.ints .u32 (ShrN (nat a) n).1) false, .v (.bool (ShrN (nat a) n).2)]) := by
  have hle := norm_length_le a
  have hl := hl4
  unfold lim4 at hl
  have hw := words_norm ha
  have hz := norm_nil ha
  have hN := nat_lt hw
  rw [nat_norm] at hN
  unfold ShrN
  by_cases h0 : n ≤ 0
  · have e : (if n < 0 then ((dig (nat a), false) : List Int × Bool) else (dig (nat a / 2 ^ n.toNat), decide (nat a % 2 ^ n.toNat ≠ 0))) = (norm a, false) := by
      split
      · rw [norm_eq ha]
      · have : n.toNat = 0 := by omega
        rw [this, Nat.pow_zero, Nat.div_one, Nat.mod_one, norm_eq ha]
        rfl
    rw [e]
    exact rshrF1 a ta n false [] 0 ⟨hl4, by simpa using h0, trivial⟩
  · rw [if_neg (by omega)]
    have hi : inR .i64 (32 * ((norm a).length : Int)) := inR64 (by omega) (by omega)
    by_cases h1 : n ≥ 32 * ((norm a).length : Int)
    · have hb : nat a < 2 ^ n.toNat := by
        refine Nat.lt_of_lt_of_le hN ?_
        rw [show (4294967296 : Nat) = 2 ^ 32 from rfl, ← Nat.pow_mul]
        exact Nat.pow_le_pow_right (by omega) (by omega)
      rw [Nat.div_eq_of_lt hb, Nat.mod_eq_of_lt hb, dig_zero]
      by_cases h2 : (norm a).length = 0
      · have : nat a = 0 := hz.1 h2
        have e : decide (nat a ≠ 0) = false := by simp [this]
        simp only [e]
        exact rshrF3 a ta n false [] 0 ⟨hl4, by simpa using h0, hi, by simpa using h1, by simp [h2], trivial⟩
      · have : nat a ≠ 0 := fun e => h2 (hz.2 e)
        have e : decide (nat a ≠ 0) = true := by simp [this]
        simp only [e]
        exact rshrF2 a ta n false [] 0 ⟨hl4, by simpa using h0, hi, by simpa using h1, by simp; omega, trivial⟩
    · have C := cnt (show 0 ≤ n by omega)
      have hbits := rshr_bits a ta n (norm a) rfl hw (by omega) (by omega) (by omega) n.toNat 0 (by omega)
      rw [Nat.pow_zero, Nat.mod_one] at hbits
      have hwords := rshr_words a ta n (norm a) rfl hw _ _ C (decide (nat (norm a) % 2 ^ n.toNat ≠ 0)) (by omega) ((norm a).length - n.toNat / 32) 0 [] (by omega) (by simp)
      have hq := shr_quot hw n.toNat (by omega)
      rw [nat_norm] at hq
      have hwl := shrW_words ((norm a).drop (n.toNat / 32)) (n.toNat % 32)
      have hll := shrW_length ((norm a).drop (n.toNat / 32)) (n.toNat % 32)
      rw [List.length_drop] at hll
      have h := rshrF4 a ta n (decide (nat (norm a) % 2 ^ n.toNat ≠ 0)) (shrW ((norm a).drop (n.toNat / 32)) (n.toNat % 32)) 0 ⟨hl4, by simpa using h0, hi, by simpa using h1, hbits, by omega, by rw [C.ew]; exact inR64 (by omega) (by omega), by
        rw [C.ew]
        exact hwords, rfl, by omega, by unfold lim4; omega, trivial⟩
      rw [norm_eq hwl, hq, nat_norm] at h
      exact h

end Go.Proofs.Bn

/- Bignum: contracts of Shl and the defined Shr, for walks. -/
set_option maxRecDepth 100000
namespace Go.Proofs.Bn
open Go Go.Ev

def sigIxf : List AV → Option (AV × List Prop)
  | [.sl 1 (.ints .u32 a) _, .fnv (.func 56) [] []] => some (.v (.int .i64 (fz a)), [a.length < lim])
  | _ => none
def sigShlN : List AV → Option (AV × List Prop)
  | [.sl 1 (.ints .u32 a) _, .v (.int .i64 n)] => some (.tup [.sl 1 (.ints .u32 (ShlN (nat a) n).1) false, .v (.int .i64 (ShlN (nat a) n).2)], [Words a, a.length ≤ lim4])
  | _ => none
def sigShrN : List AV → Option (AV × List Prop)
  | [.sl 1 (.ints .u32 a) _, .v (.int .i64 n)] => some (.tup [.sl 1 (.ints .u32 (ShrN (nat a) n).1) false, .v (.bool (ShrN (nat a) n).2)], [Words a, a.length ≤ lim4])
  | _ => none

def SG12 : SGT := (66, .p sigIxf) :: (28, .p sigShlN) :: (29, .p sigShlN) :: (31, .p sigShrN) :: SG11

theorem sok12 : SigsOK Try.prog SG12 := by
  refine sigs_cons (sigs_cons (sigs_cons (sigs_cons sok11 ?_) ?_) ?_) ?_
  · intro ys r c h hc
    unfold sigShrN at h
    split at h
    · cases h; exact rshr_pure _ _ _ hc.1 hc.2.1
    · cases h
  · intro ys r c h hc
    unfold sigShlN at h
    split at h
    · cases h; exact rshl_pure _ _ _ hc.1 hc.2.1
    · cases h
  · intro ys r c h hc
    unfold sigShlN at h
    split at h
    · cases h; exact pshl_pure _ _ _ hc.1 (lim4_lt hc.2.1)
    · cases h
  · intro ys r c h hc
    unfold sigIxf at h
    split at h
    · cases h; exact ixf_pure _ _ hc.1
    · cases h

end Go.Proofs.Bn

/- Bignum: walks, written by the tool. -/
set_option maxRecDepth 100000
namespace Go.Proofs.Bn
open Go Go.Ev

-- 1 paths
theorem conF1 (a : List Int) (ta : Bool) (h : AllP [a.length < lim]) : PureTo Try.prog 55 [.sl 1 (.ints .u32 a) ta, .fnv (.func 56) [] []] (AV.v (.bool (decide (fz a ≥ (0 : Int))))) :=
  evFn_pure hm sok12 (fn := Try.f55) rfl rfl (ti := false) (hs := []) (c := _) (by kernel_rfl) h
theorem con_pure (a : List Int) (ta : Bool) (h : a.length < lim) : PureTo Try.prog 55 [.sl 1 (.ints .u32 a) ta, .fnv (.func 56) [] []] (.v (.bool (!decide (∀ x, x ∈ a → x = 0)))) := by
  rw [← fz_sign]
  exact conF1 a ta ⟨h, trivial⟩
def sigCon : List AV → Option (AV × List Prop)
  | [.sl 1 (.ints .u32 a) _, .fnv (.func 56) [] []] => some (.v (.bool (!decide (∀ x, x ∈ a → x = 0))), [a.length < lim])
  | _ => none
def SG13 : SGT := (55, .p sigCon) :: SG12
theorem sok13 : SigsOK Try.prog SG13 := by
  refine sigs_cons sok12 ?_
  intro ys r c h hc
  unfold sigCon at h
  split at h
  · cases h; exact con_pure _ _ hc.1
  · cases h
end Go.Proofs.Bn

/- Bignum: walks, written by the tool. -/
set_option maxRecDepth 100000
namespace Go.Proofs.Bn
open Go Go.Ev
def pshrS0 (a : List Int) (ta : Bool) (n : Int) (bb : Bool) (x0 : Int) (l0 : List Int) (n0 : Nat) (n1 : Nat) : AS := { n := 78, fr := [(0, AV.sl 1 (.ints .u32 (norm a)) true), (6, AV.v (.int .i64 (if (↑(norm a).length : Int) < n.tdiv (32 : Int) then (↑(norm a).length : Int) else n.tdiv (32 : Int)))), (7, AV.v (.bool bb)), (8, AV.v (.int .i64 (n.tmod (32 : Int)))), (9, AV.row 42 0 n1 n1 false), (51, AV.v (.int .i64 (↑((↑(norm a).length : Int) - if (↑(norm a).length : Int) < n.tdiv (32 : Int) then (↑(norm a).length : Int) else n.tdiv (32 : Int)).toNat : Int))), (52, AV.v (.int .i64 x0))], hp := [(42, AObj.row 22 1 (.ints .u32 l0) n0)], nx := 43 }
def pshrX0 (a : List Int) (ta : Bool) (n : Int) (bb : Bool) (l1 : List Int) (n2 : Nat) (n3 : Nat) : AS := { n := 78, fr := [(7, AV.v (.bool bb)), (9, AV.row 42 0 n3 n3 false)], hp := [(42, AObj.row 22 1 (.ints .u32 l1) n2)], nx := 43 }
def halvedS0 (a b : List Int) (ta tb : Bool) (x0 : Int) (l0 : List Int) (l1 : List Int) (n0 : Nat) (n1 : Nat) (t0 : Bool) : AS := { n := 60, fr := [(0, AV.sl 1 (.ints .u32 a) ta), (1, AV.sl 1 (.ints .u32 b) tb), (6, AV.row 4 0 n1 n1 false), (7, AV.sl 1 (.ints .u32 l0) t0), (8, AV.v (.int .i64 x0))], hp := [(4, AObj.row 22 1 (.ints .u32 l1) n0)], nx := 5 }
def halvedX0 (a b : List Int) (ta tb : Bool) (l2 : List Int) (l3 : List Int) (n2 : Nat) (n3 : Nat) (t1 : Bool) : AS := { n := 60, fr := [(6, AV.row 4 0 n3 n3 false), (7, AV.sl 1 (.ints .u32 l2) t1)], hp := [(4, AObj.row 22 1 (.ints .u32 l3) n2)], nx := 5 }
-- 2 paths
theorem pshrL0_1 (a : List Int) (ta : Bool) (n : Int) (bb : Bool) (x0 : Int) (l0 : List Int) (n0 : Nat) (n1 : Nat) (h : AllP [decide (x0 < (↑((↑(norm a).length : Int) - if (↑(norm a).length : Int) < n.tdiv (32 : Int) then (↑(norm a).length : Int) else n.tdiv (32 : Int)).toNat : Int)) = true, inR IntKind.i64 ((if (↑(norm a).length : Int) < n.tdiv (32 : Int) then (↑(norm a).length : Int) else n.tdiv (32 : Int)) + x0), inR IntKind.i64 ((if (↑(norm a).length : Int) < n.tdiv (32 : Int) then (↑(norm a).length : Int) else n.tdiv (32 : Int)) + x0 + (1 : Int)), Words (norm a), (0 : Int) ≤ (32 : Int), inR IntKind.u64 (wd (norm a) ((if (↑(norm a).length : Int) < n.tdiv (32 : Int) then (↑(norm a).length : Int) else n.tdiv (32 : Int)) + x0 + (1 : Int)) * (4294967296 : Int)), inR IntKind.i64 ((if (↑(norm a).length : Int) < n.tdiv (32 : Int) then (↑(norm a).length : Int) else n.tdiv (32 : Int)) + x0), Words (norm a), (0 : Int) ≤ n.tmod (32 : Int), (0 : Int) ≤ x0 ∧ x0 < (↑n1 : Int), n1 = l0.length, inR IntKind.i64 (x0 + (1 : Int))]) : To Try.prog (loopAt Try.f30 0) ({ n := 78, fr := [(0, AV.sl 1 (.ints .u32 (norm a)) true), (6, AV.v (.int .i64 (if (↑(norm a).length : Int) < n.tdiv (32 : Int) then (↑(norm a).length : Int) else n.tdiv (32 : Int)))), (7, AV.v (.bool bb)), (8, AV.v (.int .i64 (n.tmod (32 : Int)))), (9, AV.row 42 0 n1 n1 false), (51, AV.v (.int .i64 (↑((↑(norm a).length : Int) - if (↑(norm a).length : Int) < n.tdiv (32 : Int) then (↑(norm a).length : Int) else n.tdiv (32 : Int)).toNat : Int))), (52, AV.v (.int .i64 x0))], hp := [(42, AObj.row 22 1 (.ints .u32 l0) n0)], nx := 43 }) (.normal) { n := 78, fr := [(0, AV.sl 1 (.ints .u32 (norm a)) true), (6, AV.v (.int .i64 (if (↑(norm a).length : Int) < n.tdiv (32 : Int) then (↑(norm a).length : Int) else n.tdiv (32 : Int)))), (7, AV.v (.bool bb)), (8, AV.v (.int .i64 (n.tmod (32 : Int)))), (9, AV.row 42 0 n1 n1 false), (51, AV.v (.int .i64 (↑((↑(norm a).length : Int) - if (↑(norm a).length : Int) < n.tdiv (32 : Int) then (↑(norm a).length : Int) else n.tdiv (32 : Int)).toNat : Int))), (52, AV.v (.int .i64 (x0 + (1 : Int))))], hp := [(42, AObj.row 22 1 (.ints .u32 (l0.set (ixPlus 0 x0.toNat) (bitsOf BinOp.or IntKind.u64 (wd (norm a) ((if (↑(norm a).length : Int) < n.tdiv (32 : Int) then (↑(norm a).length : Int) else n.tdiv (32 : Int)) + x0 + (1 : Int)) * (4294967296 : Int)) (wd (norm a) ((if (↑(norm a).length : Int) < n.tdiv (32 : Int) then (↑(norm a).length : Int) else n.tdiv (32 : Int)) + x0)) / (2 : Int) ^ min (n.tmod (32 : Int)).toNat 64 % (4294967296 : Int)))) l0.length)], nx := 43 } :=
  evW_to hm sok13 (hs := [CHint.ops 12 [(0, Hint.b true)]]) (slots := [0, 6, 7, 8, 9, 51, 52]) (keys := [42]) (nx := 43) (c := _) (by kernel_rfl) h
theorem pshrL0_2 (a : List Int) (ta : Bool) (n : Int) (bb : Bool) (x0 : Int) (l0 : List Int) (n0 : Nat) (n1 : Nat) (h : AllP [decide (x0 < (↑((↑(norm a).length : Int) - if (↑(norm a).length : Int) < n.tdiv (32 : Int) then (↑(norm a).length : Int) else n.tdiv (32 : Int)).toNat : Int)) = false]) : To Try.prog (loopAt Try.f30 0) ({ n := 78, fr := [(0, AV.sl 1 (.ints .u32 (norm a)) true), (6, AV.v (.int .i64 (if (↑(norm a).length : Int) < n.tdiv (32 : Int) then (↑(norm a).length : Int) else n.tdiv (32 : Int)))), (7, AV.v (.bool bb)), (8, AV.v (.int .i64 (n.tmod (32 : Int)))), (9, AV.row 42 0 n1 n1 false), (51, AV.v (.int .i64 (↑((↑(norm a).length : Int) - if (↑(norm a).length : Int) < n.tdiv (32 : Int) then (↑(norm a).length : Int) else n.tdiv (32 : Int)).toNat : Int))), (52, AV.v (.int .i64 x0))], hp := [(42, AObj.row 22 1 (.ints .u32 l0) n0)], nx := 43 }) (Exit.exit 0) { n := 78, fr := [(7, AV.v (.bool bb)), (9, AV.row 42 0 n1 n1 false)], hp := [(42, AObj.row 22 1 (.ints .u32 l0) n0)], nx := 43 } :=
  evW_to hm sok13 (hs := [CHint.ops 12 [(0, Hint.b false)]]) (slots := [7, 9]) (keys := [42]) (nx := 43) (c := _) (by kernel_rfl) h
-- 6 paths
theorem pshrF1 (a : List Int) (ta : Bool) (n : Int) (bb : Bool) (l1 : List Int) (n2 : Nat) (n3 : Nat) (h : AllP [a.length < lim, decide (n < (0 : Int)) = true, (norm a).length ≤ lim4]) : PureTo Try.prog 30 [.sl 1 (.ints .u32 a) ta, .v (.int .i64 n)] (AV.tup [AV.sl 1 (.ints .u32 (norm a)) false, AV.v (.bool false)]) :=
  evFn_pure hm sok13 (fn := Try.f30) rfl rfl (ti := false) (hs := [CHint.ops 2 [(1, Hint.b true)]]) (c := _) (by kernel_rfl) h
theorem pshrF2 (a : List Int) (ta : Bool) (n : Int) (bb : Bool) (l1 : List Int) (n2 : Nat) (n3 : Nat) (h : AllP [a.length < lim, decide (n < (0 : Int)) = false, (32 : Int) ≠ (0 : Int), inR IntKind.i64 (n.tdiv (32 : Int)), ((0 : Int) ≤ if (↑(norm a).length : Int) < n.tdiv (32 : Int) then (↑(norm a).length : Int) else n.tdiv (32 : Int)) ∧ (if (↑(norm a).length : Int) < n.tdiv (32 : Int) then (↑(norm a).length : Int) else n.tdiv (32 : Int)) ≤ (↑(norm a).length : Int), (!decide (∀ (x : Int), x ∈ List.take (if (↑(norm a).length : Int) < n.tdiv (32 : Int) then (↑(norm a).length : Int) else n.tdiv (32 : Int)).toNat (norm a) → x = (0 : Int))) = true, (List.take (if (↑(norm a).length : Int) < n.tdiv (32 : Int) then (↑(norm a).length : Int) else n.tdiv (32 : Int)).toNat (norm a)).length < lim, ((if (↑(norm a).length : Int) < n.tdiv (32 : Int) then (↑(norm a).length : Int) else n.tdiv (32 : Int)) == (↑(norm a).length : Int)) = true]) : PureTo Try.prog 30 [.sl 1 (.ints .u32 a) ta, .v (.int .i64 n)] (AV.tup [AV.sl 1 (.ints .u32 []) false, AV.v (.bool true)]) :=
  evFn_pure hm sok13 (fn := Try.f30) rfl rfl (ti := false) (hs := [CHint.ops 2 [(1, Hint.b false)], CHint.ops 5 [(3, Hint.b true)], CHint.ops 6 [(3, Hint.b true)]]) (c := _) (by kernel_rfl) h
theorem pshrF3 (a : List Int) (ta : Bool) (n : Int) (bb : Bool) (l1 : List Int) (n2 : Nat) (n3 : Nat) (h : AllP [a.length < lim, decide (n < (0 : Int)) = false, (32 : Int) ≠ (0 : Int), inR IntKind.i64 (n.tdiv (32 : Int)), ((0 : Int) ≤ if (↑(norm a).length : Int) < n.tdiv (32 : Int) then (↑(norm a).length : Int) else n.tdiv (32 : Int)) ∧ (if (↑(norm a).length : Int) < n.tdiv (32 : Int) then (↑(norm a).length : Int) else n.tdiv (32 : Int)) ≤ (↑(norm a).length : Int), (!decide (∀ (x : Int), x ∈ List.take (if (↑(norm a).length : Int) < n.tdiv (32 : Int) then (↑(norm a).length : Int) else n.tdiv (32 : Int)).toNat (norm a) → x = (0 : Int))) = true, (List.take (if (↑(norm a).length : Int) < n.tdiv (32 : Int) then (↑(norm a).length : Int) else n.tdiv (32 : Int)).toNat (norm a)).length < lim, ((if (↑(norm a).length : Int) < n.tdiv (32 : Int) then (↑(norm a).length : Int) else n.tdiv (32 : Int)) == (↑(norm a).length : Int)) = false, (32 : Int) ≠ (0 : Int), inR IntKind.i64 ((↑(norm a).length : Int) - if (↑(norm a).length : Int) < n.tdiv (32 : Int) then (↑(norm a).length : Int) else n.tdiv (32 : Int)), ((0 : Int) ≤ (↑(norm a).length : Int) - if (↑(norm a).length : Int) < n.tdiv (32 : Int) then (↑(norm a).length : Int) else n.tdiv (32 : Int)) ∧ ((↑(norm a).length : Int) - if (↑(norm a).length : Int) < n.tdiv (32 : Int) then (↑(norm a).length : Int) else n.tdiv (32 : Int)) ≤ (↑(norm a).length : Int) - if (↑(norm a).length : Int) < n.tdiv (32 : Int) then (↑(norm a).length : Int) else n.tdiv (32 : Int), ((↑(norm a).length : Int) - if (↑(norm a).length : Int) < n.tdiv (32 : Int) then (↑(norm a).length : Int) else n.tdiv (32 : Int)) * (4 : Int) ≤ (281474976710656 : Int) ∧ ((↑(norm a).length : Int) - if (↑(norm a).length : Int) < n.tdiv (32 : Int) then (↑(norm a).length : Int) else n.tdiv (32 : Int)) ≤ (9223372036854775807 : Int), LoopTo Try.prog (loopAt Try.f30 0) { n := 78, fr := [(0, AV.sl 1 (.ints .u32 (norm a)) true), (6, AV.v (.int .i64 (if (↑(norm a).length : Int) < n.tdiv (32 : Int) then (↑(norm a).length : Int) else n.tdiv (32 : Int)))), (7, AV.v (.bool true)), (8, AV.v (.int .i64 (n.tmod (32 : Int)))), (9, AV.row 42 0 ((↑(norm a).length : Int) - if (↑(norm a).length : Int) < n.tdiv (32 : Int) then (↑(norm a).length : Int) else n.tdiv (32 : Int)).toNat ((↑(norm a).length : Int) - if (↑(norm a).length : Int) < n.tdiv (32 : Int) then (↑(norm a).length : Int) else n.tdiv (32 : Int)).toNat false), (51, AV.v (.int .i64 (↑((↑(norm a).length : Int) - if (↑(norm a).length : Int) < n.tdiv (32 : Int) then (↑(norm a).length : Int) else n.tdiv (32 : Int)).toNat : Int))), (52, AV.v (.int .i64 (0 : Int)))], hp := [(42, AObj.row 22 1 (.ints .u32 (List.replicate ((↑(norm a).length : Int) - if (↑(norm a).length : Int) < n.tdiv (32 : Int) then (↑(norm a).length : Int) else n.tdiv (32 : Int)).toNat (0 : Int))) 0)], nx := 43 } (Exit.exit 0) { n := 78, fr := [(7, AV.v (.bool bb)), (9, AV.row 42 0 n3 n3 false)], hp := [(42, AObj.row 22 1 (.ints .u32 l1) n2)], nx := 43 }, n3 = l1.length, n2 ≤ n3, l1.length < lim]) : PureTo Try.prog 30 [.sl 1 (.ints .u32 a) ta, .v (.int .i64 n)] (AV.tup [AV.sl 1 (.ints .u32 (norm l1)) false, AV.v (.bool bb)]) :=
  evFn_pure hm sok13 (fn := Try.f30) rfl rfl (ti := false) (hs := [CHint.ops 2 [(1, Hint.b false)], CHint.ops 5 [(3, Hint.b true)], CHint.ops 6 [(3, Hint.b false)], CHint.ops 9 [(8, Hint.wrap)], CHint.loop [0, 6, 7, 8, 9, 51, 52] [42] 43 (Exit.exit 0) { n := 78, fr := [(7, AV.v (.bool bb)), (9, AV.row 42 0 n3 n3 false)], hp := [(42, AObj.row (22 : TypeId) 1 (.ints .u32 l1) n2)], nx := 43 }]) (c := _) (by kernel_rfl) h
theorem pshrF4 (a : List Int) (ta : Bool) (n : Int) (bb : Bool) (l1 : List Int) (n2 : Nat) (n3 : Nat) (h : AllP [a.length < lim, decide (n < (0 : Int)) = false, (32 : Int) ≠ (0 : Int), inR IntKind.i64 (n.tdiv (32 : Int)), ((0 : Int) ≤ if (↑(norm a).length : Int) < n.tdiv (32 : Int) then (↑(norm a).length : Int) else n.tdiv (32 : Int)) ∧ (if (↑(norm a).length : Int) < n.tdiv (32 : Int) then (↑(norm a).length : Int) else n.tdiv (32 : Int)) ≤ (↑(norm a).length : Int), (!decide (∀ (x : Int), x ∈ List.take (if (↑(norm a).length : Int) < n.tdiv (32 : Int) then (↑(norm a).length : Int) else n.tdiv (32 : Int)).toNat (norm a) → x = (0 : Int))) = false, (List.take (if (↑(norm a).length : Int) < n.tdiv (32 : Int) then (↑(norm a).length : Int) else n.tdiv (32 : Int)).toNat (norm a)).length < lim, ((if (↑(norm a).length : Int) < n.tdiv (32 : Int) then (↑(norm a).length : Int) else n.tdiv (32 : Int)) == (↑(norm a).length : Int)) = true]) : PureTo Try.prog 30 [.sl 1 (.ints .u32 a) ta, .v (.int .i64 n)] (AV.tup [AV.sl 1 (.ints .u32 []) false, AV.v (.bool false)]) :=
  evFn_pure hm sok13 (fn := Try.f30) rfl rfl (ti := false) (hs := [CHint.ops 2 [(1, Hint.b false)], CHint.ops 5 [(3, Hint.b false)], CHint.ops 6 [(3, Hint.b true)]]) (c := _) (by kernel_rfl) h
theorem pshrF5 (a : List Int) (ta : Bool) (n : Int) (bb : Bool) (l1 : List Int) (n2 : Nat) (n3 : Nat) (h : AllP [a.length < lim, decide (n < (0 : Int)) = false, (32 : Int) ≠ (0 : Int), inR IntKind.i64 (n.tdiv (32 : Int)), ((0 : Int) ≤ if (↑(norm a).length : Int) < n.tdiv (32 : Int) then (↑(norm a).length : Int) else n.tdiv (32 : Int)) ∧ (if (↑(norm a).length : Int) < n.tdiv (32 : Int) then (↑(norm a).length : Int) else n.tdiv (32 : Int)) ≤ (↑(norm a).length : Int), (!decide (∀ (x : Int), x ∈ List.take (if (↑(norm a).length : Int) < n.tdiv (32 : Int) then (↑(norm a).length : Int) else n.tdiv (32 : Int)).toNat (norm a) → x = (0 : Int))) = false, (List.take (if (↑(norm a).length : Int) < n.tdiv (32 : Int) then (↑(norm a).length : Int) else n.tdiv (32 : Int)).toNat (norm a)).length < lim, ((if (↑(norm a).length : Int) < n.tdiv (32 : Int) then (↑(norm a).length : Int) else n.tdiv (32 : Int)) == (↑(norm a).length : Int)) = false, (32 : Int) ≠ (0 : Int), ((0 : Int) ≤ if (↑(norm a).length : Int) < n.tdiv (32 : Int) then (↑(norm a).length : Int) else n.tdiv (32 : Int)) ∧ (if (↑(norm a).length : Int) < n.tdiv (32 : Int) then (↑(norm a).length : Int) else n.tdiv (32 : Int)) < (↑(norm a).length : Int), (0 : Int) ≤ n.tmod (32 : Int), inR IntKind.u32 ((1 : Int) * (2 : Int) ^ min (n.tmod (32 : Int)).toNat 32), (bitsOf BinOp.and IntKind.u32 ((norm a).getD (if (↑(norm a).length : Int) < n.tdiv (32 : Int) then (↑(norm a).length : Int) else n.tdiv (32 : Int)).toNat (0 : Int)) (((1 : Int) * (2 : Int) ^ min (n.tmod (32 : Int)).toNat 32 - (1 : Int)) % (4294967296 : Int)) != (0 : Int)) = true, inR IntKind.i64 ((↑(norm a).length : Int) - if (↑(norm a).length : Int) < n.tdiv (32 : Int) then (↑(norm a).length : Int) else n.tdiv (32 : Int)), ((0 : Int) ≤ (↑(norm a).length : Int) - if (↑(norm a).length : Int) < n.tdiv (32 : Int) then (↑(norm a).length : Int) else n.tdiv (32 : Int)) ∧ ((↑(norm a).length : Int) - if (↑(norm a).length : Int) < n.tdiv (32 : Int) then (↑(norm a).length : Int) else n.tdiv (32 : Int)) ≤ (↑(norm a).length : Int) - if (↑(norm a).length : Int) < n.tdiv (32 : Int) then (↑(norm a).length : Int) else n.tdiv (32 : Int), ((↑(norm a).length : Int) - if (↑(norm a).length : Int) < n.tdiv (32 : Int) then (↑(norm a).length : Int) else n.tdiv (32 : Int)) * (4 : Int) ≤ (281474976710656 : Int) ∧ ((↑(norm a).length : Int) - if (↑(norm a).length : Int) < n.tdiv (32 : Int) then (↑(norm a).length : Int) else n.tdiv (32 : Int)) ≤ (9223372036854775807 : Int), LoopTo Try.prog (loopAt Try.f30 0) { n := 78, fr := [(0, AV.sl 1 (.ints .u32 (norm a)) true), (6, AV.v (.int .i64 (if (↑(norm a).length : Int) < n.tdiv (32 : Int) then (↑(norm a).length : Int) else n.tdiv (32 : Int)))), (7, AV.v (.bool true)), (8, AV.v (.int .i64 (n.tmod (32 : Int)))), (9, AV.row 42 0 ((↑(norm a).length : Int) - if (↑(norm a).length : Int) < n.tdiv (32 : Int) then (↑(norm a).length : Int) else n.tdiv (32 : Int)).toNat ((↑(norm a).length : Int) - if (↑(norm a).length : Int) < n.tdiv (32 : Int) then (↑(norm a).length : Int) else n.tdiv (32 : Int)).toNat false), (51, AV.v (.int .i64 (↑((↑(norm a).length : Int) - if (↑(norm a).length : Int) < n.tdiv (32 : Int) then (↑(norm a).length : Int) else n.tdiv (32 : Int)).toNat : Int))), (52, AV.v (.int .i64 (0 : Int)))], hp := [(42, AObj.row 22 1 (.ints .u32 (List.replicate ((↑(norm a).length : Int) - if (↑(norm a).length : Int) < n.tdiv (32 : Int) then (↑(norm a).length : Int) else n.tdiv (32 : Int)).toNat (0 : Int))) 0)], nx := 43 } (Exit.exit 0) { n := 78, fr := [(7, AV.v (.bool bb)), (9, AV.row 42 0 n3 n3 false)], hp := [(42, AObj.row 22 1 (.ints .u32 l1) n2)], nx := 43 }, n3 = l1.length, n2 ≤ n3, l1.length < lim]) : PureTo Try.prog 30 [.sl 1 (.ints .u32 a) ta, .v (.int .i64 n)] (AV.tup [AV.sl 1 (.ints .u32 (norm l1)) false, AV.v (.bool bb)]) :=
  evFn_pure hm sok13 (fn := Try.f30) rfl rfl (ti := false) (hs := [CHint.ops 2 [(1, Hint.b false)], CHint.ops 5 [(3, Hint.b false)], CHint.ops 6 [(3, Hint.b false)], CHint.ops 9 [(8, Hint.wrap), (10, Hint.b true)], CHint.loop [0, 6, 7, 8, 9, 51, 52] [42] 43 (Exit.exit 0) { n := 78, fr := [(7, AV.v (.bool bb)), (9, AV.row 42 0 n3 n3 false)], hp := [(42, AObj.row (22 : TypeId) 1 (.ints .u32 l1) n2)], nx := 43 }]) (c := _) (by kernel_rfl) h
theorem pshrF6 (a : List Int) (ta : Bool) (n : Int) (bb : Bool) (l1 : List Int) (n2 : Nat) (n3 : Nat) (h : AllP [a.length < lim, decide (n < (0 : Int)) = false, (32 : Int) ≠ (0 : Int), inR IntKind.i64 (n.tdiv (32 : Int)), ((0 : Int) ≤ if (↑(norm a).length : Int) < n.tdiv (32 : Int) then (↑(norm a).length : Int) else n.tdiv (32 : Int)) ∧ (if (↑(norm a).length : Int) < n.tdiv (32 : Int) then (↑(norm a).length : Int) else n.tdiv (32 : Int)) ≤ (↑(norm a).length : Int), (!decide (∀ (x : Int), x ∈ List.take (if (↑(norm a).length : Int) < n.tdiv (32 : Int) then (↑(norm a).length : Int) else n.tdiv (32 : Int)).toNat (norm a) → x = (0 : Int))) = false, (List.take (if (↑(norm a).length : Int) < n.tdiv (32 : Int) then (↑(norm a).length : Int) else n.tdiv (32 : Int)).toNat (norm a)).length < lim, ((if (↑(norm a).length : Int) < n.tdiv (32 : Int) then (↑(norm a).length : Int) else n.tdiv (32 : Int)) == (↑(norm a).length : Int)) = false, (32 : Int) ≠ (0 : Int), ((0 : Int) ≤ if (↑(norm a).length : Int) < n.tdiv (32 : Int) then (↑(norm a).length : Int) else n.tdiv (32 : Int)) ∧ (if (↑(norm a).length : Int) < n.tdiv (32 : Int) then (↑(norm a).length : Int) else n.tdiv (32 : Int)) < (↑(norm a).length : Int), (0 : Int) ≤ n.tmod (32 : Int), inR IntKind.u32 ((1 : Int) * (2 : Int) ^ min (n.tmod (32 : Int)).toNat 32), (bitsOf BinOp.and IntKind.u32 ((norm a).getD (if (↑(norm a).length : Int) < n.tdiv (32 : Int) then (↑(norm a).length : Int) else n.tdiv (32 : Int)).toNat (0 : Int)) (((1 : Int) * (2 : Int) ^ min (n.tmod (32 : Int)).toNat 32 - (1 : Int)) % (4294967296 : Int)) != (0 : Int)) = false, inR IntKind.i64 ((↑(norm a).length : Int) - if (↑(norm a).length : Int) < n.tdiv (32 : Int) then (↑(norm a).length : Int) else n.tdiv (32 : Int)), ((0 : Int) ≤ (↑(norm a).length : Int) - if (↑(norm a).length : Int) < n.tdiv (32 : Int) then (↑(norm a).length : Int) else n.tdiv (32 : Int)) ∧ ((↑(norm a).length : Int) - if (↑(norm a).length : Int) < n.tdiv (32 : Int) then (↑(norm a).length : Int) else n.tdiv (32 : Int)) ≤ (↑(norm a).length : Int) - if (↑(norm a).length : Int) < n.tdiv (32 : Int) then (↑(norm a).length : Int) else n.tdiv (32 : Int), ((↑(norm a).length : Int) - if (↑(norm a).length : Int) < n.tdiv (32 : Int) then (↑(norm a).length : Int) else n.tdiv (32 : Int)) * (4 : Int) ≤ (281474976710656 : Int) ∧ ((↑(norm a).length : Int) - if (↑(norm a).length : Int) < n.tdiv (32 : Int) then (↑(norm a).length : Int) else n.tdiv (32 : Int)) ≤ (9223372036854775807 : Int), LoopTo Try.prog (loopAt Try.f30 0) { n := 78, fr := [(0, AV.sl 1 (.ints .u32 (norm a)) true), (6, AV.v (.int .i64 (if (↑(norm a).length : Int) < n.tdiv (32 : Int) then (↑(norm a).length : Int) else n.tdiv (32 : Int)))), (7, AV.v (.bool false)), (8, AV.v (.int .i64 (n.tmod (32 : Int)))), (9, AV.row 42 0 ((↑(norm a).length : Int) - if (↑(norm a).length : Int) < n.tdiv (32 : Int) then (↑(norm a).length : Int) else n.tdiv (32 : Int)).toNat ((↑(norm a).length : Int) - if (↑(norm a).length : Int) < n.tdiv (32 : Int) then (↑(norm a).length : Int) else n.tdiv (32 : Int)).toNat false), (51, AV.v (.int .i64 (↑((↑(norm a).length : Int) - if (↑(norm a).length : Int) < n.tdiv (32 : Int) then (↑(norm a).length : Int) else n.tdiv (32 : Int)).toNat : Int))), (52, AV.v (.int .i64 (0 : Int)))], hp := [(42, AObj.row 22 1 (.ints .u32 (List.replicate ((↑(norm a).length : Int) - if (↑(norm a).length : Int) < n.tdiv (32 : Int) then (↑(norm a).length : Int) else n.tdiv (32 : Int)).toNat (0 : Int))) 0)], nx := 43 } (Exit.exit 0) { n := 78, fr := [(7, AV.v (.bool bb)), (9, AV.row 42 0 n3 n3 false)], hp := [(42, AObj.row 22 1 (.ints .u32 l1) n2)], nx := 43 }, n3 = l1.length, n2 ≤ n3, l1.length < lim]) : PureTo Try.prog 30 [.sl 1 (.ints .u32 a) ta, .v (.int .i64 n)] (AV.tup [AV.sl 1 (.ints .u32 (norm l1)) false, AV.v (.bool bb)]) :=
  evFn_pure hm sok13 (fn := Try.f30) rfl rfl (ti := false) (hs := [CHint.ops 2 [(1, Hint.b false)], CHint.ops 5 [(3, Hint.b false)], CHint.ops 6 [(3, Hint.b false)], CHint.ops 9 [(8, Hint.wrap), (10, Hint.b false)], CHint.loop [0, 6, 7, 8, 9, 51, 52] [42] 43 (Exit.exit 0) { n := 78, fr := [(7, AV.v (.bool bb)), (9, AV.row 42 0 n3 n3 false)], hp := [(42, AObj.row (22 : TypeId) 1 (.ints .u32 l1) n2)], nx := 43 }]) (c := _) (by kernel_rfl) h
-- 5 paths
theorem halvedL0_1 (a b : List Int) (ta tb : Bool) (x0 : Int) (l0 : List Int) (l1 : List Int) (n0 : Nat) (n1 : Nat) (t0 : Bool) (h : AllP [decide (x0 ≥ (0 : Int)) = true, Words l0, (0 : Int) ≤ (1 : Int), (1 : Int) + (↑l0.length : Int) + (2 : Int) ≤ (1000000000000 : Int), (32 : Int) ≠ (0 : Int), inR IntKind.i64 (x0.tdiv (32 : Int)), (0 : Int) ≤ x0.tdiv (32 : Int) ∧ x0.tdiv (32 : Int) < (↑a.length : Int), (32 : Int) ≠ (0 : Int), (0 : Int) ≤ x0.tmod (32 : Int) % (18446744073709551616 : Int), (bitsOf BinOp.and IntKind.u32 (a.getD (x0.tdiv (32 : Int)).toNat (0 : Int) / (2 : Int) ^ min (x0.tmod (32 : Int) % (18446744073709551616 : Int)).toNat 32) (1 : Int) == (1 : Int)) = true, Words (dig (nat l0 * 2)), Words [(1 : Int)], (dig (nat l0 * 2)).length + 1 ≤ lim4, 2 ≤ lim4, Words (dig (nat (dig (nat l0 * 2)) + nat [(1 : Int)])), Words b, (dig (nat (dig (nat l0 * 2)) + nat [(1 : Int)])).length < lim, b.length < lim, decide (cmpN (nat (dig (nat (dig (nat l0 * 2)) + nat [(1 : Int)]))) (nat b) ≥ (0 : Int)) = true, Words (dig (nat (dig (nat l0 * 2)) + nat [(1 : Int)])), Words b, (dig (nat (dig (nat l0 * 2)) + nat [(1 : Int)])).length + 1 ≤ lim4, b.length ≤ (dig (nat (dig (nat l0 * 2)) + nat [(1 : Int)])).length, nat b ≤ nat (dig (nat (dig (nat l0 * 2)) + nat [(1 : Int)])), (32 : Int) ≠ (0 : Int), inR IntKind.i64 (x0.tdiv (32 : Int)), (32 : Int) ≠ (0 : Int), inR IntKind.i64 (x0.tdiv (32 : Int)), (0 : Int) ≤ x0.tdiv (32 : Int) ∧ x0.tdiv (32 : Int) < (↑n1 : Int), n0 ≤ n1, (32 : Int) ≠ (0 : Int), (0 : Int) ≤ x0.tmod (32 : Int) % (18446744073709551616 : Int), inR IntKind.u32 ((1 : Int) * (2 : Int) ^ min (x0.tmod (32 : Int) % (18446744073709551616 : Int)).toNat 32), (0 : Int) ≤ x0.tdiv (32 : Int) ∧ x0.tdiv (32 : Int) < (↑n1 : Int), n1 = l1.length, inR IntKind.i64 (x0 - (1 : Int))]) : To Try.prog (loopAt Try.f63 0) ({ n := 60, fr := [(0, AV.sl 1 (.ints .u32 a) ta), (1, AV.sl 1 (.ints .u32 b) tb), (6, AV.row 4 0 n1 n1 false), (7, AV.sl 1 (.ints .u32 l0) t0), (8, AV.v (.int .i64 x0))], hp := [(4, AObj.row 22 1 (.ints .u32 l1) n0)], nx := 5 }) (.normal) { n := 60, fr := [(0, AV.sl 1 (.ints .u32 a) ta), (1, AV.sl 1 (.ints .u32 b) tb), (6, AV.row 4 0 n1 n1 false), (7, AV.sl 1 (.ints .u32 (dig (nat (dig (nat (dig (nat l0 * 2)) + nat [(1 : Int)])) - nat b))) false), (8, AV.v (.int .i64 (x0 - (1 : Int))))], hp := [(4, AObj.row 22 1 (.ints .u32 (l1.set (ixPlus 0 (x0.tdiv (32 : Int)).toNat) (bitsOf BinOp.or IntKind.u32 (l1.getD (ixPlus 0 (x0.tdiv (32 : Int)).toNat) (0 : Int)) ((1 : Int) * (2 : Int) ^ min (x0.tmod (32 : Int) % (18446744073709551616 : Int)).toNat 32)))) l1.length)], nx := 5 } :=
  evW_to hm sok13 (hs := [CHint.ops 4 [(1, Hint.b true)], CHint.ops 7 [(10, Hint.b true)], CHint.ops 9 [(3, Hint.b true)]]) (slots := [0, 1, 6, 7, 8]) (keys := [4]) (nx := 5) (c := _) (by kernel_rfl) h
theorem halvedL0_2 (a b : List Int) (ta tb : Bool) (x0 : Int) (l0 : List Int) (l1 : List Int) (n0 : Nat) (n1 : Nat) (t0 : Bool) (h : AllP [decide (x0 ≥ (0 : Int)) = true, Words l0, (0 : Int) ≤ (1 : Int), (1 : Int) + (↑l0.length : Int) + (2 : Int) ≤ (1000000000000 : Int), (32 : Int) ≠ (0 : Int), inR IntKind.i64 (x0.tdiv (32 : Int)), (0 : Int) ≤ x0.tdiv (32 : Int) ∧ x0.tdiv (32 : Int) < (↑a.length : Int), (32 : Int) ≠ (0 : Int), (0 : Int) ≤ x0.tmod (32 : Int) % (18446744073709551616 : Int), (bitsOf BinOp.and IntKind.u32 (a.getD (x0.tdiv (32 : Int)).toNat (0 : Int) / (2 : Int) ^ min (x0.tmod (32 : Int) % (18446744073709551616 : Int)).toNat 32) (1 : Int) == (1 : Int)) = true, Words (dig (nat l0 * 2)), Words [(1 : Int)], (dig (nat l0 * 2)).length + 1 ≤ lim4, 2 ≤ lim4, Words (dig (nat (dig (nat l0 * 2)) + nat [(1 : Int)])), Words b, (dig (nat (dig (nat l0 * 2)) + nat [(1 : Int)])).length < lim, b.length < lim, decide (cmpN (nat (dig (nat (dig (nat l0 * 2)) + nat [(1 : Int)]))) (nat b) ≥ (0 : Int)) = false, inR IntKind.i64 (x0 - (1 : Int))]) : To Try.prog (loopAt Try.f63 0) ({ n := 60, fr := [(0, AV.sl 1 (.ints .u32 a) ta), (1, AV.sl 1 (.ints .u32 b) tb), (6, AV.row 4 0 n1 n1 false), (7, AV.sl 1 (.ints .u32 l0) t0), (8, AV.v (.int .i64 x0))], hp := [(4, AObj.row 22 1 (.ints .u32 l1) n0)], nx := 5 }) (.normal) { n := 60, fr := [(0, AV.sl 1 (.ints .u32 a) ta), (1, AV.sl 1 (.ints .u32 b) tb), (6, AV.row 4 0 n1 n1 false), (7, AV.sl 1 (.ints .u32 (dig (nat (dig (nat l0 * 2)) + nat [(1 : Int)]))) false), (8, AV.v (.int .i64 (x0 - (1 : Int))))], hp := [(4, AObj.row 22 1 (.ints .u32 l1) n0)], nx := 5 } :=
  evW_to hm sok13 (hs := [CHint.ops 4 [(1, Hint.b true)], CHint.ops 7 [(10, Hint.b true)], CHint.ops 9 [(3, Hint.b false)]]) (slots := [0, 1, 6, 7, 8]) (keys := [4]) (nx := 5) (c := _) (by kernel_rfl) h
theorem halvedL0_3 (a b : List Int) (ta tb : Bool) (x0 : Int) (l0 : List Int) (l1 : List Int) (n0 : Nat) (n1 : Nat) (t0 : Bool) (h : AllP [decide (x0 ≥ (0 : Int)) = true, Words l0, (0 : Int) ≤ (1 : Int), (1 : Int) + (↑l0.length : Int) + (2 : Int) ≤ (1000000000000 : Int), (32 : Int) ≠ (0 : Int), inR IntKind.i64 (x0.tdiv (32 : Int)), (0 : Int) ≤ x0.tdiv (32 : Int) ∧ x0.tdiv (32 : Int) < (↑a.length : Int), (32 : Int) ≠ (0 : Int), (0 : Int) ≤ x0.tmod (32 : Int) % (18446744073709551616 : Int), (bitsOf BinOp.and IntKind.u32 (a.getD (x0.tdiv (32 : Int)).toNat (0 : Int) / (2 : Int) ^ min (x0.tmod (32 : Int) % (18446744073709551616 : Int)).toNat 32) (1 : Int) == (1 : Int)) = false, Words (dig (nat l0 * 2)), Words b, (dig (nat l0 * 2)).length < lim, b.length < lim, decide (cmpN (nat (dig (nat l0 * 2))) (nat b) ≥ (0 : Int)) = true, Words (dig (nat l0 * 2)), Words b, (dig (nat l0 * 2)).length + 1 ≤ lim4, b.length ≤ (dig (nat l0 * 2)).length, nat b ≤ nat (dig (nat l0 * 2)), (32 : Int) ≠ (0 : Int), inR IntKind.i64 (x0.tdiv (32 : Int)), (32 : Int) ≠ (0 : Int), inR IntKind.i64 (x0.tdiv (32 : Int)), (0 : Int) ≤ x0.tdiv (32 : Int) ∧ x0.tdiv (32 : Int) < (↑n1 : Int), n0 ≤ n1, (32 : Int) ≠ (0 : Int), (0 : Int) ≤ x0.tmod (32 : Int) % (18446744073709551616 : Int), inR IntKind.u32 ((1 : Int) * (2 : Int) ^ min (x0.tmod (32 : Int) % (18446744073709551616 : Int)).toNat 32), (0 : Int) ≤ x0.tdiv (32 : Int) ∧ x0.tdiv (32 : Int) < (↑n1 : Int), n1 = l1.length, inR IntKind.i64 (x0 - (1 : Int))]) : To Try.prog (loopAt Try.f63 0) ({ n := 60, fr := [(0, AV.sl 1 (.ints .u32 a) ta), (1, AV.sl 1 (.ints .u32 b) tb), (6, AV.row 4 0 n1 n1 false), (7, AV.sl 1 (.ints .u32 l0) t0), (8, AV.v (.int .i64 x0))], hp := [(4, AObj.row 22 1 (.ints .u32 l1) n0)], nx := 5 }) (.normal) { n := 60, fr := [(0, AV.sl 1 (.ints .u32 a) ta), (1, AV.sl 1 (.ints .u32 b) tb), (6, AV.row 4 0 n1 n1 false), (7, AV.sl 1 (.ints .u32 (dig (nat (dig (nat l0 * 2)) - nat b))) false), (8, AV.v (.int .i64 (x0 - (1 : Int))))], hp := [(4, AObj.row 22 1 (.ints .u32 (l1.set (ixPlus 0 (x0.tdiv (32 : Int)).toNat) (bitsOf BinOp.or IntKind.u32 (l1.getD (ixPlus 0 (x0.tdiv (32 : Int)).toNat) (0 : Int)) ((1 : Int) * (2 : Int) ^ min (x0.tmod (32 : Int) % (18446744073709551616 : Int)).toNat 32)))) l1.length)], nx := 5 } :=
  evW_to hm sok13 (hs := [CHint.ops 4 [(1, Hint.b true)], CHint.ops 7 [(10, Hint.b false)], CHint.ops 9 [(3, Hint.b true)]]) (slots := [0, 1, 6, 7, 8]) (keys := [4]) (nx := 5) (c := _) (by kernel_rfl) h
theorem halvedL0_4 (a b : List Int) (ta tb : Bool) (x0 : Int) (l0 : List Int) (l1 : List Int) (n0 : Nat) (n1 : Nat) (t0 : Bool) (h : AllP [decide (x0 ≥ (0 : Int)) = true, Words l0, (0 : Int) ≤ (1 : Int), (1 : Int) + (↑l0.length : Int) + (2 : Int) ≤ (1000000000000 : Int), (32 : Int) ≠ (0 : Int), inR IntKind.i64 (x0.tdiv (32 : Int)), (0 : Int) ≤ x0.tdiv (32 : Int) ∧ x0.tdiv (32 : Int) < (↑a.length : Int), (32 : Int) ≠ (0 : Int), (0 : Int) ≤ x0.tmod (32 : Int) % (18446744073709551616 : Int), (bitsOf BinOp.and IntKind.u32 (a.getD (x0.tdiv (32 : Int)).toNat (0 : Int) / (2 : Int) ^ min (x0.tmod (32 : Int) % (18446744073709551616 : Int)).toNat 32) (1 : Int) == (1 : Int)) = false, Words (dig (nat l0 * 2)), Words b, (dig (nat l0 * 2)).length < lim, b.length < lim, decide (cmpN (nat (dig (nat l0 * 2))) (nat b) ≥ (0 : Int)) = false, inR IntKind.i64 (x0 - (1 : Int))]) : To Try.prog (loopAt Try.f63 0) ({ n := 60, fr := [(0, AV.sl 1 (.ints .u32 a) ta), (1, AV.sl 1 (.ints .u32 b) tb), (6, AV.row 4 0 n1 n1 false), (7, AV.sl 1 (.ints .u32 l0) t0), (8, AV.v (.int .i64 x0))], hp := [(4, AObj.row 22 1 (.ints .u32 l1) n0)], nx := 5 }) (.normal) { n := 60, fr := [(0, AV.sl 1 (.ints .u32 a) ta), (1, AV.sl 1 (.ints .u32 b) tb), (6, AV.row 4 0 n1 n1 false), (7, AV.sl 1 (.ints .u32 (dig (nat l0 * 2))) false), (8, AV.v (.int .i64 (x0 - (1 : Int))))], hp := [(4, AObj.row 22 1 (.ints .u32 l1) n0)], nx := 5 } :=
  evW_to hm sok13 (hs := [CHint.ops 4 [(1, Hint.b true)], CHint.ops 7 [(10, Hint.b false)], CHint.ops 9 [(3, Hint.b false)]]) (slots := [0, 1, 6, 7, 8]) (keys := [4]) (nx := 5) (c := _) (by kernel_rfl) h
theorem halvedL0_5 (a b : List Int) (ta tb : Bool) (x0 : Int) (l0 : List Int) (l1 : List Int) (n0 : Nat) (n1 : Nat) (t0 : Bool) (h : AllP [decide (x0 ≥ (0 : Int)) = false]) : To Try.prog (loopAt Try.f63 0) ({ n := 60, fr := [(0, AV.sl 1 (.ints .u32 a) ta), (1, AV.sl 1 (.ints .u32 b) tb), (6, AV.row 4 0 n1 n1 false), (7, AV.sl 1 (.ints .u32 l0) t0), (8, AV.v (.int .i64 x0))], hp := [(4, AObj.row 22 1 (.ints .u32 l1) n0)], nx := 5 }) (Exit.exit 0) { n := 60, fr := [(6, AV.row 4 0 n1 n1 false), (7, AV.sl 1 (.ints .u32 l0) t0)], hp := [(4, AObj.row 22 1 (.ints .u32 l1) n0)], nx := 5 } :=
  evW_to hm sok13 (hs := [CHint.ops 4 [(1, Hint.b false)]]) (slots := [6, 7]) (keys := [4]) (nx := 5) (c := _) (by kernel_rfl) h
-- 1 paths
theorem halvedF1 (a b : List Int) (ta tb : Bool) (l2 : List Int) (l3 : List Int) (n2 : Nat) (n3 : Nat) (t1 : Bool) (h : AllP [(0 : Int) ≤ (↑a.length : Int) ∧ (↑a.length : Int) ≤ (↑a.length : Int), (↑a.length : Int) * (4 : Int) ≤ (281474976710656 : Int) ∧ (↑a.length : Int) ≤ (9223372036854775807 : Int), inR IntKind.i64 ((32 : Int) * (↑a.length : Int)), inR IntKind.i64 ((32 : Int) * (↑a.length : Int) - (1 : Int)), LoopTo Try.prog (loopAt Try.f63 0) { n := 60, fr := [(0, AV.sl 1 (.ints .u32 a) ta), (1, AV.sl 1 (.ints .u32 b) tb), (6, AV.row 4 0 (↑a.length : Int).toNat (↑a.length : Int).toNat false), (7, AV.sl 1 (.ints .u32 []) true), (8, AV.v (.int .i64 ((32 : Int) * (↑a.length : Int) - (1 : Int))))], hp := [(4, AObj.row 22 1 (.ints .u32 (List.replicate (↑a.length : Int).toNat (0 : Int))) 0)], nx := 5 } (Exit.exit 0) { n := 60, fr := [(6, AV.row 4 0 n3 n3 false), (7, AV.sl 1 (.ints .u32 l2) t1)], hp := [(4, AObj.row 22 1 (.ints .u32 l3) n2)], nx := 5 }, n3 = l3.length, n2 ≤ n3, l3.length ≤ lim4]) : PureTo Try.prog 63 [.sl 1 (.ints .u32 a) ta, .sl 1 (.ints .u32 b) tb] (AV.tup [AV.sl 1 (.ints .u32 (norm l3)) false, AV.sl 1 (.ints .u32 l2) (t1 && false)]) :=
  evFn_pure hm sok13 (fn := Try.f63) rfl rfl (ti := false) (hs := [CHint.ops 2 [(0, Hint.nils 22)], CHint.loop [0, 1, 6, 7, 8] [4] 5 (Exit.exit 0) { n := 60, fr := [(6, AV.row 4 0 n3 n3 false), (7, AV.sl 1 (.ints .u32 l2) t1)], hp := [(4, AObj.row (22 : TypeId) 1 (.ints .u32 l3) n2)], nx := 5 }]) (c := _) (by kernel_rfl) h
end Go.Proofs.Bn

/- Bignum: contract: Shr. -/
set_option maxRecDepth 100000
namespace Go.Proofs.Bn
open Go Go.Ev

theorem pshr_words (a : List Int) (ta : Bool) (n : Int) (L : List Int) (hL : norm a = L) (hw : Words L) (w s : Nat) (C : Cnt n w s) (b : Bool) (hlen : L.length ≤ 35184372088832) (hwl : w < L.length) (hW : (if (L.length : Int) < n.tdiv 32 then (L.length : Int) else n.tdiv 32) = (w : Int)) : ∀ (f i : Nat) (l : List Int), w + i + f = L.length → l = (shrW (L.drop w) s).take i →
    LoopTo Try.prog (loopAt Try.f30 0) (pshrS0 a ta n b i (l ++ List.replicate f 0) (L.length - w) (L.length - w)) (.exit 0) (pshrX0 a ta n b (shrW (L.drop w) s) (L.length - w) (L.length - w)) := by
  have hs := C.rlt
  have hN : ((L.length : Int) - (w : Int)).toNat = L.length - w := by omega
  intro f
  induction f with
  | zero =>
    intro i l hi hl
    have e : l = shrW (L.drop w) s := by rw [hl, List.take_of_length_le (by rw [shrW_length, List.length_drop]; omega)]
    rw [e, List.replicate_zero, List.append_nil]
    exact .done (by simp) (pshrL0_2 a ta n b i _ _ _ ⟨by rw [hL, hW, hN]; simp; omega, trivial⟩)
  | succ f ih =>
    intro i l hi hl
    have hx := wd_bound hw ((w + i : Nat) : Int)
    have hy := wd_bound hw (((w + i : Nat) : Int) + 1)
    have e0 : (w : Int) + (i : Int) = ((w + i : Nat) : Int) := by omega
    have e3 : (2 : Int) ^ min (n.tmod 32).toNat 64 = ((2 ^ s : Nat) : Int) := by rw [C.er, Int.toNat_natCast, Nat.min_eq_left (by omega), two_pow]
    have e4 := (shW_int hs hx hy).2
    have hlenl : l.length = i := by rw [hl, List.length_take, shrW_length, List.length_drop]; omega
    have hg : (shrW (L.drop w) s).getD i 0 = (shW (wd L ((w + i : Nat) : Int)).toNat (wd L (((w + i : Nat) : Int) + 1)).toNat s : Int) := by
      rw [shrW_get _ _ _ (by rw [List.length_drop]; omega)]
      have h1 : (L.drop w).getD i 0 = wd L ((w + i : Nat) : Int) := by rw [wd_nat, List.getD_eq_getElem?_getD, List.getElem?_drop, ← List.getD_eq_getElem?_getD]
      have h2 : (L.drop w).getD (i + 1) 0 = wd L (((w + i : Nat) : Int) + 1) := by
        rw [show ((w + i : Nat) : Int) + 1 = ((w + (i + 1) : Nat) : Int) by omega, wd_nat, List.getD_eq_getElem?_getD, List.getElem?_drop, ← List.getD_eq_getElem?_getD]
      rw [h1, h2]
    have hi2 : i < (shrW (L.drop w) s).length := by rw [shrW_length, List.length_drop]; omega
    have hnext : l ++ [(shW (wd L ((w + i : Nat) : Int)).toNat (wd L (((w + i : Nat) : Int) + 1)).toNat s : Int)] = (shrW (L.drop w) s).take (i + 1) := by
      rw [List.take_succ_eq_append_getElem hi2, hl, ← hg]
      congr 2
      simp [List.getD_eq_getElem?_getD, hi2]
    have hll : (l ++ List.replicate (f + 1) (0 : Int)).length = L.length - w := by simp; omega
    have h1 := pshrL0_1 a ta n b i (l ++ List.replicate (f + 1) 0) (L.length - w) (L.length - w) (by
      rw [hL, hW, hN, e0, C.er]
      refine ⟨by simp; omega, inR64 (by omega) (by omega), inR64 (by omega) (by omega), hw, by omega, inRu64 (by omega) (by omega), inR64 (by omega) (by omega), hw, by omega, by omega, hll.symm, inR64 (by omega) (by omega), trivial⟩)
    have e5 : (l ++ List.replicate (f + 1) (0 : Int)).set i (shW (wd L ((w + i : Nat) : Int)).toNat (wd L (((w + i : Nat) : Int) + 1)).toNat s : Int) = (shrW (L.drop w) s).take (i + 1) ++ List.replicate f 0 := by
      rw [List.set_append_right _ _ (by omega), hlenl, Nat.sub_self, List.replicate_succ, List.set_cons_zero, ← hnext]
      simp
    have ih := ih (i + 1) _ (by omega) rfl
    rw [hL, hW, hN, e0, e3, Int.toNat_natCast, ix0, e4, e5, hll] at h1
    unfold pshrS0
    unfold pshrS0 at ih
    rw [hL, hW, hN] at ih ⊢
    exact .step h1 ih

theorem pshr_pure (a : List Int) (ta : Bool) (n : Int) (ha : Words a) (hl4 : a.length ≤ lim4) (hn : n ≤ 9223372036854775807) : PureTo Try.prog 30 [.sl 1 (.ints .u32 a) ta, .v (.int .i64 n)] (.tup [.sl 1 (.ints .u32 (ShrN (nat a) n).1) false, .v (.bool (ShrN (nat a) n).2)]) := by
  have hle := norm_length_le a
  have hl := lim4_lt hl4
  have hl5 := hl4
  unfold lim4 at hl5
  have hw := words_norm ha
  have hN := nat_lt hw
  rw [nat_norm] at hN
  have hll : (norm a).length < lim := by unfold lim; omega
  unfold ShrN
  by_cases h0 : n < 0
  · rw [if_pos h0, ← norm_eq ha]
    exact pshrF1 a ta n false [] 0 0 ⟨hl, by simpa using h0, by omega, trivial⟩
  · rw [if_neg h0]
    have C := cnt (show 0 ≤ n by omega)
    have hCw := C.ew
    have hCn := C.en
    generalize hw0 : n.toNat / 32 = w at *
    generalize hs0 : n.toNat % 32 = s at *
    have hs := C.rlt
    have hi : inR .i64 (n.tdiv 32) := by rw [hCw]; exact inR64 (by omega) (by omega)
    by_cases h1 : (norm a).length ≤ w
    · have hW : (if ((norm a).length : Int) < n.tdiv 32 then ((norm a).length : Int) else n.tdiv 32) = ((norm a).length : Int) := by rw [hCw]; split <;> omega
      have hb : nat a < 2 ^ n.toNat := by
        refine Nat.lt_of_lt_of_le hN ?_
        rw [show (4294967296 : Nat) = 2 ^ 32 from rfl, ← Nat.pow_mul]
        exact Nat.pow_le_pow_right (by omega) (by omega)
      rw [Nat.div_eq_of_lt hb, Nat.mod_eq_of_lt hb, dig_zero]
      have hall := nat_zero_iff hw
      rw [nat_norm] at hall
      cases hz : decide (nat a ≠ 0) with
      | true =>
        have hz' : nat a ≠ 0 := by simpa using hz
        refine pshrF2 a ta n false [] 0 0 ?_
        rw [hW, Int.toNat_natCast, List.take_length]
        exact ⟨hl, by simpa using h0, by omega, hi, by omega, by rw [decide_eq_false (fun h => hz' (hall.2 h))]; rfl, hll, by simp, trivial⟩
      | false =>
        have hz' : nat a = 0 := by simpa using hz
        refine pshrF4 a ta n false [] 0 0 ?_
        rw [hW, Int.toNat_natCast, List.take_length]
        exact ⟨hl, by simpa using h0, by omega, hi, by omega, by rw [decide_eq_true (hall.1 hz')]; rfl, hll, by simp, trivial⟩
    · have hW : (if ((norm a).length : Int) < n.tdiv 32 then ((norm a).length : Int) else n.tdiv 32) = (w : Int) := by rw [hCw]; split <;> omega
      have hrest := shr_rest hw n.toNat (by omega)
      have hq := shr_quot hw n.toNat (by omega)
      rw [nat_norm, hw0, hs0] at hrest hq
      have hwl := shrW_words ((norm a).drop w) s
      have hsl := shrW_length ((norm a).drop w) s
      rw [List.length_drop] at hsl
      have hsub : (((norm a).length : Int) - (w : Int)).toNat = (norm a).length - w := by omega
      have hx := words_getD hw w
      have hloop : ∀ b, LoopTo Try.prog (loopAt Try.f30 0) (pshrS0 a ta n b (0 : Nat) (List.replicate ((norm a).length - w) 0) ((norm a).length - w) ((norm a).length - w)) (.exit 0) (pshrX0 a ta n b (shrW ((norm a).drop w) s) ((norm a).length - w) ((norm a).length - w)) := fun b => by
        have := pshr_words a ta n (norm a) rfl hw w s C b (by omega) (by omega) hW ((norm a).length - w) 0 [] (by omega) (by simp)
        rw [List.nil_append] at this
        exact this
      have hlr : (List.replicate ((norm a).length - w) (0 : Int)).length = (norm a).length - w := by simp
      have hloop2 : ∀ b, LoopTo Try.prog (loopAt Try.f30 0) { n := 78, fr := [(0, AV.sl 1 (.ints .u32 (norm a)) true), (6, AV.v (.int .i64 (w : Int))), (7, AV.v (.bool b)), (8, AV.v (.int .i64 (n.tmod 32))), (9, AV.row 42 0 ((norm a).length - w) ((norm a).length - w) false), (51, AV.v (.int .i64 (((norm a).length - w : Nat) : Int))), (52, AV.v (.int .i64 0))], hp := [(42, AObj.row 22 1 (.ints .u32 (List.replicate ((norm a).length - w) 0)) 0)], nx := 43 } (.exit 0) (pshrX0 a ta n b (shrW ((norm a).drop w) s) ((norm a).length - w) ((norm a).length - w)) := fun b => by
        refine .raise ?_
        show LoopTo _ _ { n := _, fr := _, hp := [(42, .row 22 1 (.ints .u32 (List.replicate ((norm a).length - w) 0)) (List.replicate ((norm a).length - w) (0 : Int)).length)], nx := _ } _ _
        rw [hlr]
        have := hloop b
        unfold pshrS0 at this
        rw [hW, hsub] at this
        exact this
      have e3 : (1 : Int) * (2 : Int) ^ min (n.tmod 32).toNat 32 = ((2 ^ s : Nat) : Int) := by rw [C.er, Int.toNat_natCast, Nat.min_eq_left (by omega), two_pow, Int.one_mul]
      have hP1 := Nat.pow_pos (n := s) (show 0 < 2 by omega)
      have hP31 : (2 : Nat) ^ s ≤ 2147483648 := Nat.pow_le_pow_right (n := 2) (show 0 < 2 by omega) (show s ≤ 31 by omega)
      have e4 : (((2 ^ s : Nat) : Int) - 1) % 4294967296 = ((2 ^ s - 1 : Nat) : Int) := by omega
      have e5 : bitsOf .and .u32 ((norm a).getD w 0) ((2 ^ s - 1 : Nat) : Int) = ((((norm a).getD w 0).toNat % 2 ^ s : Nat) : Int) := by
        rw [and_low (k := .u32) rfl hx.1 (by show _ < (2 : Int) ^ 32; omega) (show s < 32 from hs), Int.natCast_emod]
        congr 1
        omega
      have ld : (List.take w (norm a)).length < lim := by rw [List.length_take]; omega
      have quot : norm (shrW ((norm a).drop w) s) = dig (nat a / 2 ^ n.toNat) := by rw [norm_eq hwl, hq]
      by_cases hz1 : ∀ x, x ∈ (norm a).take w → x = 0
      · by_cases hz2 : ((norm a).getD w 0).toNat % 2 ^ s = 0
        · have hd : decide (nat a % 2 ^ n.toNat ≠ 0) = false := decide_eq_false fun h => h (hrest.2 ⟨hz1, hz2⟩)
          rw [hd, ← quot]
          refine pshrF6 a ta n false (shrW ((norm a).drop w) s) ((norm a).length - w) ((norm a).length - w) ?_
          rw [hW, hsub, Int.toNat_natCast, e3, e4, e5, hz2]
          exact ⟨hl, by simpa using h0, by omega, hi, by omega, by rw [decide_eq_true hz1]; rfl, ld, by simp; omega, by omega, by omega, by rw [C.er]; omega, ⟨by omega, by omega⟩, by simp, inR64 (by omega) (by omega), by omega, by omega, hloop2 false, hsl.symm, Nat.le_refl _, by rw [hsl]; omega, trivial⟩
        · have hd : decide (nat a % 2 ^ n.toNat ≠ 0) = true := decide_eq_true fun h => hz2 (hrest.1 h).2
          rw [hd, ← quot]
          refine pshrF5 a ta n true (shrW ((norm a).drop w) s) ((norm a).length - w) ((norm a).length - w) ?_
          rw [hW, hsub, Int.toNat_natCast, e3, e4, e5]
          exact ⟨hl, by simpa using h0, by omega, hi, by omega, by rw [decide_eq_true hz1]; rfl, ld, by simp; omega, by omega, by omega, by rw [C.er]; omega, ⟨by omega, by omega⟩, by simp only [bne_iff_ne, ne_eq]; omega, inR64 (by omega) (by omega), by omega, by omega, hloop2 true, hsl.symm, Nat.le_refl _, by rw [hsl]; omega, trivial⟩
      · have hd : decide (nat a % 2 ^ n.toNat ≠ 0) = true := by
          refine decide_eq_true fun h => hz1 (hrest.1 h).1
        rw [hd, ← quot]
        refine pshrF3 a ta n true (shrW ((norm a).drop w) s) ((norm a).length - w) ((norm a).length - w) ?_
        rw [hW, hsub, Int.toNat_natCast]
        exact ⟨hl, by simpa using h0, by omega, hi, by omega, by rw [decide_eq_false hz1]; rfl, ld, by simp; omega, by omega, inR64 (by omega) (by omega), by omega, by omega, hloop2 true, hsl.symm, Nat.le_refl _, by rw [hsl]; omega, trivial⟩

def sigPShr : List AV → Option (AV × List Prop)
  | [.sl 1 (.ints .u32 a) _, .v (.int .i64 n)] => some (.tup [.sl 1 (.ints .u32 (ShrN (nat a) n).1) false, .v (.bool (ShrN (nat a) n).2)], [Words a, a.length ≤ lim4, n ≤ 9223372036854775807])
  | _ => none

def SG14 : SGT := (30, .p sigPShr) :: SG13

theorem sok14 : SigsOK Try.prog SG14 := by
  refine sigs_cons sok13 ?_
  intro ys r c h hc
  unfold sigPShr at h
  split at h
  · cases h; exact pshr_pure _ _ _ hc.1 hc.2.1 hc.2.2.1
  · cases h

theorem shrN_len (m : Nat) (n : Int) : (ShrN m n).1.length ≤ (dig m).length := by
  unfold ShrN
  split
  · exact Nat.le_refl _
  · have : ¬ (dig m).length < (dig (m / 2 ^ n.toNat)).length := by
      rw [dig_len]
      intro h
      have h2 : ¬ (dig m).length < (dig m).length := by omega
      rw [dig_len] at h2
      exact h2 (Nat.le_trans h (Nat.div_le_self _ _))
    exact Nat.not_lt.1 this

theorem shlN_len (m : Nat) (n : Int) : (ShlN m n).1.length ≤ 1024 := by
  unfold ShlN
  repeat' split
  all_goals first | simp; done | skip
  next h => exact small_len (by simpa using h)

end Go.Proofs.Bn

/- Bignum: walks, written by the tool. -/
set_option maxRecDepth 100000
namespace Go.Proofs.Bn
open Go Go.Ev

-- 4 paths
theorem shiftsF1 (a : List Int) (n : Int) (h : AllP [a.length ≤ lim4, Words a, a.length ≤ lim4, Words a, a.length ≤ lim4, a.length ≤ lim4, Words a, a.length ≤ lim4, n ≤ (9223372036854775807 : Int), (ShrN (nat a) n).snd = true, Words a, a.length ≤ lim4, (ShrN (nat a) n).snd = true, decide ((ShlN (nat a) n).fst = (ShlN (nat a) n).fst) = true, (ShlN (nat a) n).fst.length < lim, ((ShlN (nat a) n).snd == (ShlN (nat a) n).snd) = true, decide ((ShrN (nat a) n).fst = (ShrN (nat a) n).fst) = true, (ShrN (nat a) n).fst.length < lim]) : PureTo Try.prog 6 [.sl 1 (.ints .u32 a) false, .v (.int .i64 n)] (AV.v (.bool true)) :=
  evFn_pure hm sok14 (fn := Try.f6) rfl rfl (ti := false) (hs := [CHint.ops 3 [(6, Hint.b true)], CHint.ops 4 [(5, Hint.b true)], CHint.ops 5 [(2, Hint.b true), (6, Hint.b true), (11, Hint.b true)]]) (c := _) (by kernel_rfl) h
theorem shiftsF2 (a : List Int) (n : Int) (h : AllP [a.length ≤ lim4, Words a, a.length ≤ lim4, Words a, a.length ≤ lim4, a.length ≤ lim4, Words a, a.length ≤ lim4, n ≤ (9223372036854775807 : Int), (ShrN (nat a) n).snd = true, Words a, a.length ≤ lim4, (ShrN (nat a) n).snd = false, decide ((ShlN (nat a) n).fst = (ShlN (nat a) n).fst) = true, (ShlN (nat a) n).fst.length < lim, ((ShlN (nat a) n).snd == (ShlN (nat a) n).snd) = true, decide ((ShrN (nat a) n).fst = (ShrN (nat a) n).fst) = true, (ShrN (nat a) n).fst.length < lim]) : PureTo Try.prog 6 [.sl 1 (.ints .u32 a) false, .v (.int .i64 n)] (AV.v (.bool false)) :=
  evFn_pure hm sok14 (fn := Try.f6) rfl rfl (ti := false) (hs := [CHint.ops 3 [(6, Hint.b true)], CHint.ops 4 [(5, Hint.b false)], CHint.ops 5 [(2, Hint.b true), (6, Hint.b true), (11, Hint.b true)]]) (c := _) (by kernel_rfl) h
theorem shiftsF3 (a : List Int) (n : Int) (h : AllP [a.length ≤ lim4, Words a, a.length ≤ lim4, Words a, a.length ≤ lim4, a.length ≤ lim4, Words a, a.length ≤ lim4, n ≤ (9223372036854775807 : Int), (ShrN (nat a) n).snd = false, Words a, a.length ≤ lim4, (ShrN (nat a) n).snd = true, decide ((ShlN (nat a) n).fst = (ShlN (nat a) n).fst) = true, (ShlN (nat a) n).fst.length < lim, ((ShlN (nat a) n).snd == (ShlN (nat a) n).snd) = true, decide ((ShrN (nat a) n).fst = (ShrN (nat a) n).fst) = true, (ShrN (nat a) n).fst.length < lim]) : PureTo Try.prog 6 [.sl 1 (.ints .u32 a) false, .v (.int .i64 n)] (AV.v (.bool false)) :=
  evFn_pure hm sok14 (fn := Try.f6) rfl rfl (ti := false) (hs := [CHint.ops 3 [(6, Hint.b false)], CHint.ops 4 [(5, Hint.b true)], CHint.ops 5 [(2, Hint.b true), (6, Hint.b true), (11, Hint.b true)]]) (c := _) (by kernel_rfl) h
theorem shiftsF4 (a : List Int) (n : Int) (h : AllP [a.length ≤ lim4, Words a, a.length ≤ lim4, Words a, a.length ≤ lim4, a.length ≤ lim4, Words a, a.length ≤ lim4, n ≤ (9223372036854775807 : Int), (ShrN (nat a) n).snd = false, Words a, a.length ≤ lim4, (ShrN (nat a) n).snd = false, decide ((ShlN (nat a) n).fst = (ShlN (nat a) n).fst) = true, (ShlN (nat a) n).fst.length < lim, ((ShlN (nat a) n).snd == (ShlN (nat a) n).snd) = true, decide ((ShrN (nat a) n).fst = (ShrN (nat a) n).fst) = true, (ShrN (nat a) n).fst.length < lim]) : PureTo Try.prog 6 [.sl 1 (.ints .u32 a) false, .v (.int .i64 n)] (AV.v (.bool true)) :=
  evFn_pure hm sok14 (fn := Try.f6) rfl rfl (ti := false) (hs := [CHint.ops 3 [(6, Hint.b false)], CHint.ops 4 [(5, Hint.b false)], CHint.ops 5 [(2, Hint.b true), (6, Hint.b true), (11, Hint.b true)]]) (c := _) (by kernel_rfl) h
end Go.Proofs.Bn
