/- BignumRing: for every argument the law returns true. No condition. -/
import Derived.Test.YtbmadhdeikoecaaRows
import Derived.Test.YtbmadhdeikoecaaBnAll2
import Derived.Test.YtbmadhdeikoecaaEvAll3
set_option linter.unusedSimpArgs false
set_option linter.unusedVariables false

set_option maxRecDepth 100000
namespace Go.Proofs.Ytbmadhdeikoecaa.bignumRing
open Go Go.Ev Go.Proofs.Bn
open Go.ChangeShapes Go.WideShapes Go.ChangeAt Go.RowKit

theorem own : ownKnob Try.prog.godebug = none := by kernel_rfl
theorem laid : laidOutB Try.prog = true := by kernel_rfl

set_option exponentiation.threshold 3000
theorem nat_small {a : List Int} (h : Words a) {k : Nat} (hk : a.length ≤ k) : nat a < 4294967296 ^ k :=
  Nat.lt_of_lt_of_le (nat_lt h) (Nat.pow_le_pow_right (by omega) hk)

theorem not_big {n : Nat} (h : n < 4294967296 ^ 1024) : big n = false := by
  cases hb : big n with
  | false => rfl
  | true => rw [big_iff] at hb; omega

theorem add_num {m n : Nat} (h : m + n < 4294967296 ^ 1024) : AddN m n = (dig (m + n), 0) := by
  unfold AddN
  rw [not_big (show m < _ by omega), not_big (show n < _ by omega), not_big h]
  rfl

theorem mul_num' {m n : Nat} (hm : m < 4294967296 ^ 1024) (hn : n < 4294967296 ^ 1024) (h : m * n < 4294967296 ^ 1024) : Bn.Mul m n = (dig (m * n), 0) := by
  unfold Bn.Mul
  rw [not_big hm, not_big hn, not_big h]
  rfl

theorem sub_num {m n : Nat} (h : m < 4294967296 ^ 1024) (hn : n ≤ m) : SubN m n = (dig (m - n), 0) := by
  unfold SubN
  rw [not_big h, not_big (show n < _ by omega)]
  simp only [Bool.or_self, Bool.false_eq_true, if_false]
  rw [if_neg (by omega)]

theorem law (a : List Int) (wa : ∀ x, x ∈ a → inR .u32 x) (na : a.length * 4 ≤ 140737488351232) (b : List Int) (wb : ∀ x, x ∈ b → inR .u32 x) (nb : b.length * 4 ≤ 140737488351232) (c : List Int) (wc : ∀ x, x ∈ c → inR .u32 x) (nc : c.length * 4 ≤ 140737488351232) :
    PureTo Try.prog 7 [.sl 1 (.ints .u32 a) false, .sl 1 (.ints .u32 b) false, .sl 1 (.ints .u32 c) false] (.v (.bool true)) := by
  have ha := words_of wa
  have hb := words_of wb
  have hc := words_of wc
  have hr : inR .i64 ((a.length : Int) + (b.length : Int)) := inR64 (by omega) (by omega)
  by_cases g1 : (a.length : Int) + b.length > 400
  · exact ringF1 a b c ⟨hr, by simpa using g1, trivial⟩
  · by_cases g2 : (c.length : Int) > 400
    · exact ringF2 a b c ⟨hr, by simpa using g1, by simpa using g2, trivial⟩
    · have A : nat a < 4294967296 ^ 400 := nat_small ha (by omega)
      have B : nat b < 4294967296 ^ 400 := nat_small hb (by omega)
      have C : nat c < 4294967296 ^ 400 := nat_small hc (by omega)
      have p1 : (4294967296 : Nat) ^ 401 = 4294967296 ^ 400 * 4294967296 := by rw [show 401 = 400 + 1 from rfl, Nat.pow_succ]
      have AB : nat a + nat b < 4294967296 ^ 401 := by omega
      have p2 : (4294967296 : Nat) ^ 401 * 4294967296 ^ 400 = 4294967296 ^ 801 := by rw [← Nat.pow_add]
      have p3 : (4294967296 : Nat) ^ 801 ≤ 4294967296 ^ 1024 := Nat.pow_le_pow_right (by omega) (by omega)
      have p4 : (4294967296 : Nat) ^ 401 ≤ 4294967296 ^ 801 := Nat.pow_le_pow_right (by omega) (by omega)
      have ABC : (nat a + nat b) * nat c < 4294967296 ^ 801 := by rw [← p2]; exact Nat.mul_lt_mul'' AB C
      have e1 : (nat a + nat b) * nat c = nat a * nat c + nat c * nat b := by rw [Nat.add_mul, Nat.mul_comm (nat b)]
      have x1 : AddN (nat a) (nat b) = (dig (nat a + nat b), 0) := add_num (by omega)
      have x2 : AddN (nat b) (nat a) = (dig (nat a + nat b), 0) := by rw [add_num (by omega), Nat.add_comm]
      have x3 : Bn.Mul (nat a + nat b) (nat c) = (dig (nat a * nat c + nat c * nat b), 0) := by rw [← e1]; exact mul_num' (by omega) (by omega) (by omega)
      have x4 : Bn.Mul (nat a) (nat c) = (dig (nat a * nat c), 0) := mul_num' (by omega) (by omega) (by omega)
      have x5 : Bn.Mul (nat c) (nat b) = (dig (nat c * nat b), 0) := mul_num' (by omega) (by omega) (by omega)
      have x6 : AddN (nat a * nat c) (nat c * nat b) = (dig (nat a * nat c + nat c * nat b), 0) := add_num (by omega)
      have x7 : SubN (nat a + nat b) (nat b) = (dig (nat a), 0) := by rw [sub_num (by omega) (by omega), Nat.add_sub_cancel]
      have len : ∀ n, n < 4294967296 ^ 1024 → (dig n).length ≤ 1024 := fun n hn => small_len (not_big hn)
      have l1 := len (nat a + nat b) (by omega)
      have l2 := len (nat a * nat c) (by omega)
      have l3 := len (nat c * nat b) (by omega)
      have l4 := len (nat a * nat c + nat c * nat b) (by omega)
      have l5 := len (nat a) (by omega)
      have hn : norm a = dig (nat a) := norm_eq ha
      refine ringF10 a b c ?_
      simp only [x1, x2, nat_dig, x3, x4, x5, x6, x7, hn, AllP]
      clear A B C p1 AB p2 p3 p4 ABC e1 x1 x2 x3 x4 x5 x6 x7 len
      have k1 : ∀ n, n ≤ 1024 → n ≤ lim4 ∧ n + 1 ≤ lim4 ∧ n < lim := fun n h => by unfold lim4 lim; omega
      have ka := k1 a.length (by omega)
      have kb := k1 b.length (by omega)
      have kc := k1 c.length (by omega)
      have m1 := k1 _ l1
      have m2 := k1 _ l2
      have m3 := k1 _ l3
      have m4 := k1 _ l4
      have m5 := k1 _ l5
      (repeat' apply And.intro) <;> first | exact trivial | exact words_dig _ | assumption | (simp; done) | omega | (simp; omega)

theorem lifted (os : Os) (started : os.Started) (H : Type) (enc : TypeId × Value → H) :
    ReturnsInHanded {} Try.checked os 7 .any (Rows.bignumRingSpec.pre6 enc Try.prog Try.f7 Rows.bignumRingRow.domain false) (Rows.bignumRingSpec.post enc Try.prog Try.f7 false true false false) := by
  refine returnsInHanded_of_change_sized (C := Try.checked) own started (by kernel_rfl) Try.func7
    (ChangeSpec.witness6 (enc := enc) (C := Try.checked) false ⟨#[], #[.slice none 0 0, .slice none 0 0, .slice none 0 0], []⟩ 8 (by kernel_rfl) (by kernel_rfl) (by kernel_rfl) (by kernel_rfl)) ?_
  intro W base args ds gs before hval0 hW hcnd hsz0 _
  have hval : ∀ (j : Nat) t v, Try.f7.params[j]? = some t → args[j]? = some v → Value.okWide Try.prog W .any base t v := hval0
  have hW' := hW
  obtain ⟨p, q, hA0, hV, rfl, hfz, hnd⟩ := hW
  obtain ⟨rfl, rfl⟩ := trodVars_none (hV : DataW.TrodVars enc Try.prog W (fun _ => true) [] gs q)
  have hsz : (DataW.weightsEach Try.prog Try.f7.params.toList ds).all (· ≤ reachBytes) = true := by
    have h := hsz0
    rw [List.append_nil] at h
    exact h
  have hA : DataW.TrodAll enc Try.prog W 0 (fun _ => true) true Try.f7.params.toList args.toList ds p := hA0
  rw [Try.params7] at hA hval
  obtain ⟨v0, vs0, d0, ds0, p0, q0, hargs, rfl, rfl, h0, r0⟩ := trodAll_cons hA
  obtain ⟨v1, vs1, d1, ds1, p1, q1, rfl, rfl, rfl, h1, r1⟩ := trodAll_cons r0
  obtain ⟨v2, vs2, d2, ds2, p2, q2, rfl, rfl, rfl, h2, r2⟩ := trodAll_cons r1
  obtain ⟨rfl, rfl, rfl⟩ := trodAll_nil r2
  obtain rfl : args = #[v0, v1, v2] := by cases args; simp_all
  obtain ⟨l0, rep0, w0, e0⟩ := read_ints (by kernel_rfl : Try.prog.underlying 23 = some (.slice 22)) (by kernel_rfl : Try.prog.underlying 22 = some (.int .u32)) (by kernel_rfl) (hval 0 23 v0 rfl rfl) h0
  have n0 := ints_len (j := 0) (b := 4) hsz (by kernel_rfl) rfl (by kernel_rfl : Try.prog.underlying 23 = some (.slice 22)) (by kernel_rfl) e0
  obtain ⟨l1, rep1, w1, e1⟩ := read_ints (by kernel_rfl : Try.prog.underlying 23 = some (.slice 22)) (by kernel_rfl : Try.prog.underlying 22 = some (.int .u32)) (by kernel_rfl) (hval 1 23 v1 rfl rfl) h1
  have n1 := ints_len (j := 1) (b := 4) hsz (by kernel_rfl) rfl (by kernel_rfl : Try.prog.underlying 23 = some (.slice 22)) (by kernel_rfl) e1
  obtain ⟨l2, rep2, w2, e2⟩ := read_ints (by kernel_rfl : Try.prog.underlying 23 = some (.slice 22)) (by kernel_rfl : Try.prog.underlying 22 = some (.int .u32)) (by kernel_rfl) (hval 2 23 v2 rfl rfl) h2
  have n2 := ints_len (j := 2) (b := 4) hsz (by kernel_rfl) rfl (by kernel_rfl : Try.prog.underlying 23 = some (.slice 22)) (by kernel_rfl) e2
  have hcall := (law l0 w0 n0 l1 w1 n1 l2 w2 n2).calls (W := W) (vals := [v0, v1, v2]) Try.func7 rfl rfl ⟨rfl, fun i h1 h2 => by
    match i with
    | 0 => exact rep0
    | 1 => exact rep1
    | 2 => exact rep2⟩
  refine hcall.mono fun e W' ⟨he, hg⟩ => ?_
  exact ⟨_, he, post_true laid (by kernel_rfl) rfl (tb := 4) (by kernel_rfl) (by kernel_rfl) hW' rfl hg⟩

theorem over : Rows.bignumRingRow.holds Try.pinned (OpenSpec.ofChange Rows.bignumRingSpec) :=
  OpenClaim.holds_of_wide 7 Try.f7 rfl rfl rfl rfl rfl rfl rfl ⟨rfl, rfl, rfl, rfl, rfl⟩ rfl rfl rfl rfl rfl (by kernel_rfl) Try.func7 (by kernel_rfl)
    (of_decide_eq_true (by kernel_rfl)) (by unfold Func.isWrapper; first | (rw [if_pos (by decide +kernel)]; kernel_rfl) | (rw [if_neg (by decide +kernel)]; exact ⟨rfl, rfl⟩))
    (fun os started H enc _ => lifted os started H enc)

theorem proved : Rows.BignumRingSaid :=
  over
#print axioms proved
end Go.Proofs.Ytbmadhdeikoecaa.bignumRing
