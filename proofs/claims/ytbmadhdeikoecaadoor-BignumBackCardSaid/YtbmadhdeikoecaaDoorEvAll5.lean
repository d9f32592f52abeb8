/- An evaluator of the model's code, proved right. No condition. -/
import Derived.Test.YtbmadhdeikoecaaDoorEvAll3
set_option linter.unusedSimpArgs false
set_option linter.unusedVariables false
set_option linter.unusedSectionVars false
/- Bits of numbers. -/
namespace Go.Ev
variable [Globs]

theorem ofInt_nat (b n : Nat) : BitVec.ofInt b (n : Int) = BitVec.ofNat b n := by
  apply BitVec.eq_of_toNat_eq
  simp

theorem wrap_u {k : IntKind} (hk : k.signed = false) {n : Nat} (h : n < 2 ^ k.bits) : k.wrap (n : Int) = n := by
  have h1 : ((n : Int) % ((2 : Int) ^ k.bits)) = n := by
    have e : ((2 : Int) ^ k.bits) = ((2 ^ k.bits : Nat) : Int) := by rw [Int.natCast_pow]; rfl
    rw [e, ← Int.natCast_emod, Nat.mod_eq_of_lt h]
  simp [IntKind.wrap, hk, h1]

theorem bits_or {k : IntKind} (hk : k.signed = false) {m n : Nat} (hm : m < 2 ^ k.bits) (hn : n < 2 ^ k.bits) : bitsOf .or k m n = ((m ||| n : Nat) : Int) := by
  show k.wrap (BitVec.ofInt k.bits (m : Int) ||| BitVec.ofInt k.bits (n : Int)).toNat = _
  rw [ofInt_nat, ofInt_nat, BitVec.toNat_or, BitVec.toNat_ofNat, BitVec.toNat_ofNat, Nat.mod_eq_of_lt hm, Nat.mod_eq_of_lt hn]
  exact wrap_u hk (Nat.or_lt_two_pow hm hn)

theorem bits_and {k : IntKind} (hk : k.signed = false) {m n : Nat} (hm : m < 2 ^ k.bits) (hn : n < 2 ^ k.bits) : bitsOf .and k m n = ((m &&& n : Nat) : Int) := by
  show k.wrap (BitVec.ofInt k.bits (m : Int) &&& BitVec.ofInt k.bits (n : Int)).toNat = _
  rw [ofInt_nat, ofInt_nat, BitVec.toNat_and, BitVec.toNat_ofNat, BitVec.toNat_ofNat, Nat.mod_eq_of_lt hm, Nat.mod_eq_of_lt hn]
  exact wrap_u hk (Nat.and_lt_two_pow m hn)

theorem bits_xor {k : IntKind} (hk : k.signed = false) {m n : Nat} (hm : m < 2 ^ k.bits) (hn : n < 2 ^ k.bits) : bitsOf .xor k m n = ((m ^^^ n : Nat) : Int) := by
  show k.wrap (BitVec.ofInt k.bits (m : Int) ^^^ BitVec.ofInt k.bits (n : Int)).toNat = _
  rw [ofInt_nat, ofInt_nat, BitVec.toNat_xor, BitVec.toNat_ofNat, BitVec.toNat_ofNat, Nat.mod_eq_of_lt hm, Nat.mod_eq_of_lt hn]
  exact wrap_u hk (Nat.xor_lt_two_pow hm hn)

/-- the low bits -/
theorem and_low {k : IntKind} (hk : k.signed = false) {x : Int} {s : Nat} (h0 : 0 ≤ x) (h1 : x < 2 ^ k.bits) (hs : s < k.bits) : bitsOf .and k x ((2 ^ s - 1 : Nat) : Int) = x % (2 ^ s : Nat) := by
  obtain ⟨m, rfl⟩ : ∃ m : Nat, x = m := ⟨x.toNat, by omega⟩
  have hp : (2 : Nat) ^ s < 2 ^ k.bits := Nat.pow_lt_pow_right (by omega) hs
  have h2 : m < 2 ^ k.bits := by
    have e : ((2 : Int) ^ k.bits) = ((2 ^ k.bits : Nat) : Int) := by rw [Int.natCast_pow]; rfl
    rw [e] at h1
    omega
  rw [bits_and hk h2 (by omega), Nat.and_two_pow_sub_one_eq_mod, Int.natCast_emod]

/-- bits that do not meet -/
theorem or_add {k : IntKind} (hk : k.signed = false) {x y : Int} {s : Nat} (hx0 : 0 ≤ x) (hx : x < (2 ^ s : Nat)) (hy0 : 0 ≤ y) (hy : y < 2 ^ k.bits) (hm : y % (2 ^ s : Nat) = 0) (hs : s ≤ k.bits) : bitsOf .or k x y = x + y ∧ bitsOf .or k y x = x + y := by
  obtain ⟨m, rfl⟩ : ∃ m : Nat, x = m := ⟨x.toNat, by omega⟩
  obtain ⟨n, rfl⟩ : ∃ n : Nat, y = n := ⟨y.toNat, by omega⟩
  have hp : (2 : Nat) ^ s ≤ 2 ^ k.bits := Nat.pow_le_pow_right (by omega) hs
  have h2 : n < 2 ^ k.bits := by
    have e : ((2 : Int) ^ k.bits) = ((2 ^ k.bits : Nat) : Int) := by rw [Int.natCast_pow]; rfl
    rw [e] at hy
    omega
  have h1 : m < 2 ^ s := by omega
  have h3 : n % 2 ^ s = 0 := by omega
  have e : n = 2 ^ s * (n / 2 ^ s) := (Nat.mul_div_cancel' (Nat.dvd_of_mod_eq_zero h3)).symm
  have e2 : n ||| m = n + m := by
    rw [e, ← Nat.two_pow_add_eq_or_of_lt h1]
  refine ⟨?_, ?_⟩
  · rw [bits_or hk (by omega) h2, Nat.or_comm, e2]
    omega
  · rw [bits_or hk h2 (by omega), e2]
    omega

end Go.Ev
