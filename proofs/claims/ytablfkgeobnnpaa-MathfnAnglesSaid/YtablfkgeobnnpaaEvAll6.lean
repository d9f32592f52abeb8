/- An evaluator of the model's code, proved right. No condition. -/
import Derived.Test.YtablfkgeobnnpaaEvAll5
set_option linter.unusedSimpArgs false
set_option linter.unusedVariables false
set_option linter.unusedSectionVars false
/- Floats as rationals: an operation is the exact result, rounded monotonically; magnitudes. -/
set_option exponentiation.threshold 2200
namespace Go.Ev
open Go Ieee

/-- r is a / b least units, rounded -/
structure RN (a b r : Nat) : Prop where
  fin : r ≤ 9218868437227405312
  le : ∀ c, c ≤ 9218868437227405312 → a ≤ valN c * b → r ≤ c
  ge : ∀ c, c ≤ 9218868437227405312 → valN c * b ≤ a → c ≤ r

theorem fadd_RN {x y : Nat} (hx : Fit x) (hy : Fit y) : ∃ r, fadd x y = wordOf (if V x + V y = 0 then sg x && sg y else decide (V x + V y < 0)) r ∧ RN (V x + V y).natAbs 1 r :=
  ⟨_, fadd_V hx hy, rd_inf _, fun c _ h => rd_le (by omega), fun c hc h => rd_ge hc (by omega)⟩
theorem fsub_RN {x y : Nat} (hx : Fit x) (hy : Fit y) : ∃ r, fsub x y = wordOf (if V x - V y = 0 then sg x && !sg y else decide (V x - V y < 0)) r ∧ RN (V x - V y).natAbs 1 r :=
  ⟨_, fsub_V hx hy, rd_inf _, fun c _ h => rd_le (by omega), fun c hc h => rd_ge hc (by omega)⟩

theorem fmul_RN {x y : Nat} (hx : Fit x) (hy : Fit y) : ∃ r, fmul x y = wordOf (sg x ^^ sg y) r ∧ RN (valN (rg x) * valN (rg y)) U r := by
  refine ⟨rungOf (sigM (rg x) * sigM (rg y)) (-1074 + (sigK (rg x) : Int) + (-1074 + (sigK (rg y) : Int))), ?_, rungOf_le _ _, fun c _ h => ?_, fun c hc h => ?_⟩
  · unfold fmul Format.mul
    rw [read_fin hx, read_fin hy]
    show FloatKind.f64.format.nearest _ _ _ = _
    rw [nearest_eq]
  · refine rung_le (a := sigK (rg x) + sigK (rg y)) (b := 1074) (by omega) ?_
    unfold valN at h
    rw [Nat.pow_add, show sigM (rg x) * sigM (rg y) * (2 ^ sigK (rg x) * 2 ^ sigK (rg y)) = sigM (rg x) * 2 ^ sigK (rg x) * (sigM (rg y) * 2 ^ sigK (rg y)) by ac_rfl]
    exact h
  · refine rung_ge (a := sigK (rg x) + sigK (rg y)) (b := 1074) hc (by omega) ?_
    unfold valN at h
    rw [Nat.pow_add, show sigM (rg x) * sigM (rg y) * (2 ^ sigK (rg x) * 2 ^ sigK (rg y)) = sigM (rg x) * 2 ^ sigK (rg x) * (sigM (rg y) * 2 ^ sigK (rg y)) by ac_rfl]
    exact h

theorem sigM_null {r : Nat} : sigM r = 0 ↔ r = 0 := by
  unfold sigM
  split
  · exact Iff.rfl
  · constructor <;> intro h <;> omega

/-- the quotient's digits -/
theorem quo_digits {m n : Nat} (hm : m ≠ 0) (hn : n ≠ 0) (hm53 : m < 2 ^ 53) : 2 ^ 53 ≤ m * 2 ^ (54 + n.log2 - m.log2) / n := by
  have h1 : 2 ^ m.log2 ≤ m := Nat.log2_self_le hm
  have h2 : n < 2 ^ (n.log2 + 1) := Nat.lt_log2_self
  have h3 : m.log2 < 53 := (Nat.log2_lt hm).2 hm53
  refine (Nat.le_div_iff_mul_le (by omega)).2 ?_
  have h4 : 2 ^ (54 + n.log2) ≤ m * 2 ^ (54 + n.log2 - m.log2) := by
    have := Nat.mul_le_mul_right (2 ^ (54 + n.log2 - m.log2)) h1
    rwa [← Nat.pow_add, show m.log2 + (54 + n.log2 - m.log2) = 54 + n.log2 by omega] at this
  have h5 : 2 ^ 53 * n ≤ 2 ^ 53 * 2 ^ (n.log2 + 1) := Nat.mul_le_mul_left _ (by omega)
  rw [← Nat.pow_add, show 53 + (n.log2 + 1) = 54 + n.log2 by omega] at h5
  omega

/-- a float's multiple of 2 ^ e against A = 2 ^ f: a multiple of A, or below 2 ^ 52 * A -/
theorem grain (c e f : Nat) : (2 ^ f ∣ valN c * 2 ^ e) ∨ valN c * 2 ^ e < 2 ^ 53 * 2 ^ f := by
  obtain ⟨s1, s2, s3⟩ := sig_parts c
  have e1 : valN c * 2 ^ e = sigM c * 2 ^ (sigK c + e) := by unfold valN; rw [Nat.mul_assoc, ← Nat.pow_add]
  rw [e1]
  rcases Nat.lt_or_ge (sigK c + e) f with h | h
  · right
    calc sigM c * 2 ^ (sigK c + e) < 2 ^ 53 * 2 ^ (sigK c + e) := Nat.mul_lt_mul_of_pos_right s2 (Nat.two_pow_pos _)
      _ ≤ 2 ^ 53 * 2 ^ f := Nat.mul_le_mul_left _ (Nat.pow_le_pow_right (by decide) (by omega))
  · left
    exact Nat.dvd_mul_left_of_dvd (Nat.pow_dvd_pow 2 h) _

theorem quo_round {D n A B v d : Nat} (hn : 0 < n) (hA : 0 < A) (hd : D / n = d) (hv : A ∣ v * B ∨ v * B < 2 ^ 53 * A) (hbig : D % n ≠ 0 → 2 ^ 53 ≤ d) :
    (D * A ≤ v * n * B → (2 * d + (D % n != 0).toNat) * A ≤ v * (2 * B)) ∧ (v * n * B ≤ D * A → v * (2 * B) ≤ (2 * d + (D % n != 0).toNat) * A) := by
  have hD : n * d + D % n = D := by rw [← hd]; exact Nat.div_add_mod D n
  have hr := Nat.mod_lt D hn
  generalize D % n = ρ at *
  have e1 : v * n * B = n * (v * B) := by rw [Nat.mul_comm v n, Nat.mul_assoc]
  have e2 : v * (2 * B) = 2 * (v * B) := by rw [← Nat.mul_assoc, Nat.mul_comm v 2, Nat.mul_assoc]
  rw [e1, e2, ← hD]
  generalize v * B = w at *
  clear hd hD e1 e2
  by_cases h0 : ρ = 0
  · subst h0
    simp only [Nat.add_zero, bne_self_eq_false, Bool.toNat_false]
    constructor <;> intro h
    · rw [Nat.mul_assoc] at h ⊢
      have := Nat.le_of_mul_le_mul_left h hn
      omega
    · rw [Nat.mul_assoc] at h ⊢
      have := Nat.le_of_mul_le_mul_left h hn
      omega
  · have hb := hbig h0
    have e3 : (ρ != 0) = true := by simpa using h0
    rw [e3, Bool.toNat_true]
    constructor <;> intro h
    · -- n d A < n w
      have h1 : n * d * A < n * w := by
        have : 0 < ρ * A := Nat.mul_pos (by omega) hA
        rw [Nat.add_mul] at h
        omega
      rw [Nat.mul_assoc] at h1
      have h2 := Nat.lt_of_mul_lt_mul_left h1
      rcases hv with ⟨q, rfl⟩ | hv
      · rw [Nat.mul_comm d A] at h2
        have h3 := Nat.lt_of_mul_lt_mul_left h2
        have h4 : A * (2 * d + 1) ≤ A * (2 * q) := Nat.mul_le_mul_left _ (by omega)
        rw [Nat.mul_comm (2 * d + 1) A, show 2 * (A * q) = A * (2 * q) by ac_rfl]
        exact h4
      · exfalso
        have := Nat.mul_le_mul_right A hb
        omega
    · have h1 : n * w < n * ((d + 1) * A) := by
        have : ρ * A < n * A := Nat.mul_lt_mul_of_pos_right hr hA
        have e4 : n * ((d + 1) * A) = n * d * A + n * A := by rw [Nat.add_mul, Nat.one_mul, Nat.mul_add, Nat.mul_assoc]
        rw [Nat.add_mul] at h
        omega
      have h2 := Nat.lt_of_mul_lt_mul_left h1
      have h5 : 2 * (d * A) ≤ (2 * d + 1) * A := by
        rw [← Nat.mul_assoc]
        exact Nat.mul_le_mul_right _ (by omega)
      rcases hv with ⟨q, rfl⟩ | hv
      · rw [Nat.mul_comm (d + 1) A] at h2
        have h3 := Nat.lt_of_mul_lt_mul_left h2
        have h4 : A * q ≤ A * d := Nat.mul_le_mul_left _ (by omega)
        rw [Nat.mul_comm d A] at h5
        omega
      · have := Nat.mul_le_mul_right A hb
        omega

theorem fdiv_RN {x y : Nat} (hx : Fit x) (hy : Fit y) (hy0 : rg y ≠ 0) : ∃ r, fdiv x y = wordOf (sg x ^^ sg y) r ∧ RN (valN (rg x) * U) (valN (rg y)) r := by
  have hn : sigM (rg y) ≠ 0 := fun h => hy0 (sigM_null.1 h)
  obtain ⟨p1, p2, _⟩ := sig_parts (rg x)
  generalize hmore : 54 + (sigM (rg y)).log2 - (sigM (rg x)).log2 = more
  have hgr : ∀ c, 2 ^ (sigK (rg x) + 1074) ∣ valN c * 2 ^ (sigK (rg y) + more) ∨ valN c * 2 ^ (sigK (rg y) + more) < 2 ^ 53 * 2 ^ (sigK (rg x) + 1074) := fun c => grain c _ _
  have key : ∀ c, _ := fun c => quo_round (D := sigM (rg x) * 2 ^ more) (n := sigM (rg y)) (A := 2 ^ (sigK (rg x) + 1074)) (B := 2 ^ (sigK (rg y) + more)) (v := valN c) (d := sigM (rg x) * 2 ^ more / sigM (rg y))
    (by omega) (Nat.two_pow_pos _) rfl (hgr c) (fun h => by
      have hm : sigM (rg x) ≠ 0 := by intro h0; rw [h0, Nat.zero_mul, Nat.zero_mod] at h; exact h rfl
      have := quo_digits hm hn p2
      rwa [hmore] at this)
  have e1 : ∀ c, valN c * sigM (rg y) * 2 ^ (sigK (rg y) + more) = valN c * valN (rg y) * 2 ^ more := fun c => by
    have : valN (rg y) = sigM (rg y) * 2 ^ sigK (rg y) := rfl
    rw [this, Nat.pow_add]; ac_rfl
  have e2 : sigM (rg x) * 2 ^ more * 2 ^ (sigK (rg x) + 1074) = valN (rg x) * U * 2 ^ more := by
    have : valN (rg x) = sigM (rg x) * 2 ^ sigK (rg x) := rfl
    rw [this, Nat.pow_add]; unfold U; ac_rfl
  have e3 : (2 * 2 ^ (sigK (rg y) + more) : Nat) = 2 ^ (sigK (rg y) + more + 1) := by rw [Nat.pow_succ, Nat.mul_comm]
  refine ⟨rungOf (2 * (sigM (rg x) * 2 ^ more / sigM (rg y)) + (sigM (rg x) * 2 ^ more % sigM (rg y) != 0).toNat) (-1074 + (sigK (rg x) : Int) - (-1074 + (sigK (rg y) : Int)) - more - 1), ?_, rungOf_le _ _, fun c _ h => ?_, fun c hc h => ?_⟩
  · unfold fdiv Format.div
    rw [read_fin hx, read_fin hy]
    show ((Datum.quotient 54 _ _).map _).getD _ = _
    unfold Datum.quotient
    simp only [if_neg hn, Nat.shiftLeft_eq, hmore]
    show FloatKind.f64.format.nearest _ _ _ = _
    rw [nearest_eq]
  · refine rung_le (a := sigK (rg x) + 1074) (b := sigK (rg y) + more + 1) (by omega) ?_
    have := (key c).1
    rw [e1, e2, e3] at this
    exact this (Nat.mul_le_mul_right _ h)
  · refine rung_ge (a := sigK (rg x) + 1074) (b := sigK (rg y) + more + 1) hc (by omega) ?_
    have := (key c).2
    rw [e1, e2, e3] at this
    exact this (Nat.mul_le_mul_right _ h)

/-! ### magnitudes -/

/-- at most 2 ^ k -/
structure Mag (x k : Nat) : Prop where
  word : FWord x
  fit : Fit x
  le : valN (rg x) ≤ 2 ^ k * U

def pk (k : Nat) : Nat := (k + 1023) * 4503599627370496
theorem pk_val (k : Nat) : valN (pk k) = 2 ^ k * U := by
  have h1 : ¬ pk k < 4503599627370496 := by unfold pk; omega
  have h2 : sigK (pk k) = k + 1022 := by unfold sigK; rw [if_neg h1]; unfold pk; omega
  have h3 : sigM (pk k) = 4503599627370496 := by unfold sigM; rw [if_neg h1]; unfold pk; omega
  unfold valN U
  rw [h2, h3, show (4503599627370496 : Nat) = 2 ^ 52 by decide, ← Nat.pow_add, ← Nat.pow_add, show 52 + (k + 1022) = k + 1074 by omega]
theorem pk_le {k : Nat} (h : k ≤ 1023) : pk k < 9218868437227405312 := by unfold pk; omega

theorem Mag.num {x k : Nat} (h : Mag x k) : Num x := h.fit.num
theorem Mag.up {x k l : Nat} (h : Mag x k) (hl : k ≤ l) : Mag x l :=
  ⟨h.word, h.fit, Nat.le_trans h.le (Nat.mul_le_mul_right _ (Nat.pow_le_pow_right (by decide) hl))⟩
theorem mag_word {s : Bool} {a b r k : Nat} (h : RN a b r) (hk : k ≤ 1023) (ha : a ≤ 2 ^ k * U * b) : Mag (wordOf s r) k := by
  have hr : r ≤ pk k := h.le _ (Nat.le_of_lt (pk_le hk)) (by rw [pk_val]; exact ha)
  have hlt := pk_le hk
  refine ⟨word_wordOf h.fin, ?_, ?_⟩
  · unfold Fit; rw [rg_wordOf h.fin]; omega
  · rw [rg_wordOf h.fin, ← pk_val]; exact valN_le_iff.2 hr
theorem V_abs (x : Nat) : (V x).natAbs = valN (rg x) := by
  unfold V sv; split <;> omega
theorem two_pows {a b k : Nat} (ha : a ≤ k) (hb : b ≤ k) (u : Nat) : 2 ^ a * u + 2 ^ b * u ≤ 2 ^ (k + 1) * u := by
  have h1 := Nat.mul_le_mul_right u (Nat.pow_le_pow_right (by decide : 0 < 2) ha)
  have h2 := Nat.mul_le_mul_right u (Nat.pow_le_pow_right (by decide : 0 < 2) hb)
  rw [Nat.pow_succ, Nat.mul_right_comm]
  omega
theorem mag_add {x y a b k : Nat} (hx : Mag x a) (hy : Mag y b) (ha : a ≤ k) (hb : b ≤ k) (hk : k + 1 ≤ 1023) : Mag (fadd x y) (k + 1) := by
  obtain ⟨r, h1, h2⟩ := fadd_RN hx.fit hy.fit
  rw [h1]
  refine mag_word h2 hk ?_
  have := V_abs x
  have := V_abs y
  have := hx.le
  have := hy.le
  have := two_pows ha hb U
  rw [Nat.mul_one]
  omega
theorem mag_sub {x y a b k : Nat} (hx : Mag x a) (hy : Mag y b) (ha : a ≤ k) (hb : b ≤ k) (hk : k + 1 ≤ 1023) : Mag (fsub x y) (k + 1) := by
  obtain ⟨r, h1, h2⟩ := fsub_RN hx.fit hy.fit
  rw [h1]
  refine mag_word h2 hk ?_
  have := V_abs x
  have := V_abs y
  have := hx.le
  have := hy.le
  have := two_pows ha hb U
  rw [Nat.mul_one]
  omega
theorem mag_mul {x y a b k : Nat} (hx : Mag x a) (hy : Mag y b) (hk : a + b = k) (hk2 : k ≤ 1023) : Mag (fmul x y) k := by
  obtain ⟨r, h1, h2⟩ := fmul_RN hx.fit hy.fit
  rw [h1]
  refine mag_word h2 hk2 ?_
  have := Nat.mul_le_mul hx.le hy.le
  rw [show 2 ^ a * U * (2 ^ b * U) = 2 ^ a * 2 ^ b * U * U by ac_rfl, ← Nat.pow_add, hk] at this
  exact this
/-- divided by one or more -/
theorem mag_div {x y a : Nat} (hx : Mag x a) (hy : Fit y) (h1 : U ≤ valN (rg y)) (ha : a ≤ 1023) : Mag (fdiv x y) a := by
  have h0 : rg y ≠ 0 := by
    intro h; rw [h, valN_zero] at h1; have := U_pos; omega
  obtain ⟨r, h2, h3⟩ := fdiv_RN hx.fit hy h0
  rw [h2]
  exact mag_word h3 ha (Nat.le_trans (Nat.mul_le_mul_right _ hx.le) (Nat.mul_le_mul_left _ h1))
theorem mag_int {i : Int} (h1 : i.natAbs < 9007199254740992) {k : Nat} (h2 : i.natAbs ≤ 2 ^ k) : Mag (fofI i) k := by
  obtain ⟨r, r1, r2⟩ := whole_rep (n := i.natAbs) h1
  have e : fofI i = wordOf (decide (i < 0)) r := by rw [fofI_V, ← r2, rd_val (Nat.le_of_lt r1)]
  rw [e]
  refine ⟨word_wordOf (Nat.le_of_lt r1), ?_, ?_⟩
  · unfold Fit; rw [rg_wordOf (Nat.le_of_lt r1)]; exact r1
  · rw [rg_wordOf (Nat.le_of_lt r1), r2]; exact Nat.mul_le_mul_right _ h2
theorem int_one {i : Int} (h1 : 1 ≤ i.natAbs) (h2 : i.natAbs < 9007199254740992) : Fit (fofI i) ∧ U ≤ valN (rg (fofI i)) := by
  obtain ⟨r, r1, r2⟩ := whole_rep (n := i.natAbs) h2
  have e : fofI i = wordOf (decide (i < 0)) r := by rw [fofI_V, ← r2, rd_val (Nat.le_of_lt r1)]
  rw [e]
  refine ⟨by unfold Fit; rw [rg_wordOf (Nat.le_of_lt r1)]; exact r1, ?_⟩
  rw [rg_wordOf (Nat.le_of_lt r1), r2]
  calc U = 1 * U := (Nat.one_mul _).symm
    _ ≤ _ := Nat.mul_le_mul_right _ h1
theorem mag_neg {x a : Nat} (hx : Mag x a) : Mag (fneg x) a := ⟨word_fneg hx.word, fin_fneg hx.fit, by rw [rg_fneg]; exact hx.le⟩
theorem floor_bound {k : Int} {u b : Nat} {v : Int} (hu : 0 < u) (h1 : k * u ≤ v) (h2 : v < (k + 1) * u) (h3 : v.natAbs ≤ b * u) : k.natAbs ≤ b := by
  have hu' : (0 : Int) < u := by omega
  have a1 : k * (u : Int) ≤ (b : Int) * u := by
    have : ((b * u : Nat) : Int) = (b : Int) * u := by push_cast; rfl
    omega
  have a2 := Int.le_of_mul_le_mul_right a1 hu'
  have a3 : -(b : Int) * u < (k + 1) * u := by
    have : ((b * u : Nat) : Int) = (b : Int) * u := by push_cast; rfl
    have : -(b : Int) * u = -((b : Int) * u) := Int.neg_mul _ _
    omega
  have a4 := Int.lt_of_mul_lt_mul_right a3 (by omega)
  omega
theorem mag_floor {x a : Nat} (hx : Mag x a) : Mag (intW .down x) a ∧ ∃ k : Int, V (intW .down x) = k * U ∧ k.natAbs ≤ 2 ^ a := by
  obtain ⟨k, r, hr, hw, hk, hlo, hhi⟩ := floor_V hx.fit
  have hb := floor_bound U_pos hlo hhi (by rw [V_abs]; exact hx.le)
  have hv : valN r = k.natAbs * U := by
    have h1 := V_abs (intW .down x)
    rw [hw, rg_wordOf (Nat.le_of_lt hr), ← hw, hk, Int.natAbs_mul] at h1
    rw [← h1]; rfl
  refine ⟨⟨?_, ?_, ?_⟩, k, hk, hb⟩
  · rw [hw]; exact word_wordOf (Nat.le_of_lt hr)
  · rw [hw]; unfold Fit; rw [rg_wordOf (Nat.le_of_lt hr)]; exact hr
  · rw [hw, rg_wordOf (Nat.le_of_lt hr), hv]; exact Nat.mul_le_mul_right _ hb
end Go.Ev
