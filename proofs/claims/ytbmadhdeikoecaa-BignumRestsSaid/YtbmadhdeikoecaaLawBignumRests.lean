/- BignumRests: for every argument the law returns true. No condition. -/
import Derived.Test.YtbmadhdeikoecaaRows
import Derived.Test.YtbmadhdeikoecaaBnAll4
import Derived.Test.YtbmadhdeikoecaaEvAll4
set_option linter.unusedSimpArgs false
set_option linter.unusedVariables false

set_option maxRecDepth 100000
namespace Go.Proofs.Ytbmadhdeikoecaa.bignumRests
open Go Go.Ev Go.Proofs.Bn
open Go.ChangeShapes Go.WideShapes Go.ChangeAt Go.RowKit

theorem own : ownKnob Try.prog.godebug = none := by kernel_rfl
theorem laid : laidOutB Try.prog = true := by kernel_rfl

theorem not_big {m : Nat} (h : (dig m).length ≤ 1024) : big m = false := by
  unfold big
  rw [decide_eq_false_iff_not]
  omega

theorem law (a : List Int) (wa : ∀ x, x ∈ a → inR .u32 x) (na : a.length * 4 ≤ 140737488351232) (b : List Int) (wb : ∀ x, x ∈ b → inR .u32 x) (nb : b.length * 4 ≤ 140737488351232) (n : Int) (wn : inR .u8 n) :
    PureTo Try.prog 10 [.sl 1 (.ints .u32 a) false, .sl 1 (.ints .u32 b) false, .v (.int .u8 n)] (.v (.bool true)) := by
  have ha := words_of wa
  have hb := words_of wb
  have hlim : lim4 = 35184372088832 := rfl
  have hlim2 : lim = 281474976710656 := rfl
  have hn0 : 0 ≤ n := wn.1
  have hn1 : n ≤ 255 := wn.2
  by_cases h1 : (400 : Int) < (a.length : Int)
  · exact restsF1 a b n ⟨by rw [decide_eq_true_eq]; exact h1, trivial⟩
  by_cases h2 : (400 : Int) < (b.length : Int)
  · exact restsF2 a b n ⟨by rw [decide_eq_false_iff_not]; exact h1, by rw [decide_eq_true_eq]; exact h2, trivial⟩
  have lb4 : b.length ≤ lim4 := by omega
  have la4 : a.length ≤ lim4 := by omega
  by_cases h3 : nat b = 0
  · exact restsF3 a b n ⟨by rw [decide_eq_false_iff_not]; exact h1, by rw [decide_eq_false_iff_not]; exact h2, hb, lb4, by rw [bl_zero.2 h3]; rfl, trivial⟩
  have hbl : bl (nat b) ≠ 0 := fun h => h3 (bl_zero.1 h)
  have ea := norm_eq ha
  have eb := norm_eq hb
  have lA : (dig (nat a)).length ≤ 400 := by have := norm_length_le a; rw [ea] at this; omega
  have lB : (dig (nat b)).length ≤ 400 := by have := norm_length_le b; rw [eb] at this; omega
  have lq : (dig (nat a / nat b)).length ≤ 400 := Nat.le_trans (dig_mono (Nat.div_le_self _ _)) lA
  have lr : (dig (nat a % nat b)).length ≤ 400 := Nat.le_trans (dig_mono (Nat.mod_le _ _)) lA
  have lp : (dig (nat a / nat b * nat b)).length ≤ 400 := Nat.le_trans (dig_mono (Nat.div_mul_le_self _ _)) lA
  have hdiv : DivN (nat a) (nat b) = (dig (nat a / nat b), dig (nat a % nat b), 0) := by
    unfold DivN
    rw [not_big (by omega), not_big (by omega), if_neg (by simp), if_neg h3]
  have hmul : Bn.Mul (nat a / nat b) (nat b) = (dig (nat a / nat b * nat b), 0) := by
    unfold Bn.Mul
    rw [not_big (by omega), not_big (by omega), not_big (by omega), if_neg (by simp)]
  have hsum : nat a / nat b * nat b + nat a % nat b = nat a := by rw [Nat.mul_comm]; exact Nat.div_add_mod _ _
  have hadd : AddN (nat a / nat b * nat b) (nat a % nat b) = (dig (nat a), 0) := by
    unfold AddN
    rw [hsum, not_big (by omega), not_big (by omega), not_big (by omega)]
    rfl
  have hpw : (dig (2 ^ n.toNat)).length ≤ 256 := dig_short (Nat.pow_lt_pow_right (by decide) (by omega))
  have lS : (dig (nat a * 2 ^ n.toNat)).length ≤ 656 := Nat.le_trans (dig_mul_add _ _) (by omega)
  have hshl : ShlN (nat a) n = (dig (nat a * 2 ^ n.toNat), 0) := by
    unfold ShlN
    rw [not_big (by omega), if_neg (by simp), if_neg (by omega)]
    by_cases h0 : nat a = 0
    · rw [if_pos h0, h0, Nat.zero_mul, dig_zero]
    · rw [if_neg h0, if_neg (by omega), not_big (by omega), if_neg (by simp)]
  have hshr : ShrN (nat a * 2 ^ n.toNat) n = (dig (nat a), false) := by
    unfold ShrN
    rw [if_neg (by omega), Nat.mul_div_cancel _ (Nat.pow_pos (by decide)), Nat.mul_mod_left]
    rfl
  have hcmp : cmpN (nat a % nat b) (nat b) < 0 := cmp_lt.2 (Nat.mod_lt _ (by omega))
  have hin : inR .i64 n := inR64 (by omega) (by omega)
  refine restsF13 a b n ?_
  rw [hdiv]
  simp only [nat_dig]
  rw [hmul]
  simp only [nat_dig]
  rw [hadd, hshl]
  simp only [nat_dig]
  rw [hshr, ea]
  exact ⟨by rw [decide_eq_false_iff_not]; exact h1, by rw [decide_eq_false_iff_not]; exact h2, hb, lb4, by rw [beq_eq_false_iff_ne]; omega, la4, lb4, ha, hb, la4, lb4, by omega, lb4, words_dig _, hb, by omega, by omega, by omega, by omega, words_dig _, words_dig _, by omega, by omega,
    la4, hin, ha, la4, by omega, hin, words_dig _, by omega, by omega, rfl, rfl, rfl, rfl, rfl, la4, by simp, by omega, words_dig _, hb, by omega, by omega, by rw [decide_eq_true_eq]; exact hcmp, la4, by simp, by show (dig (nat a)).length < lim; omega, trivial⟩

theorem lifted (os : Os) (started : os.Started) (H : Type) (enc : TypeId × Value → H) :
    ReturnsInHanded {} Try.checked os 10 .any (Rows.bignumRestsSpec.pre6 enc Try.prog Try.f10 Rows.bignumRestsRow.domain false) (Rows.bignumRestsSpec.post enc Try.prog Try.f10 false true false false) := by
  refine returnsInHanded_of_change_sized (C := Try.checked) own started (by kernel_rfl) Try.func10
    (ChangeSpec.witness6 (enc := enc) (C := Try.checked) false ⟨#[], #[.slice none 0 0, .slice none 0 0, .int .u8 0], []⟩ 8 (by kernel_rfl) (by kernel_rfl) (by kernel_rfl) (by kernel_rfl)) ?_
  intro W base args ds gs before hval0 hW hcnd hsz0 _
  have hval : ∀ (j : Nat) t v, Try.f10.params[j]? = some t → args[j]? = some v → Value.okWide Try.prog W .any base t v := hval0
  have hW' := hW
  obtain ⟨p, q, hA0, hV, rfl, hfz, hnd⟩ := hW
  obtain ⟨rfl, rfl⟩ := trodVars_none (hV : DataW.TrodVars enc Try.prog W (fun _ => true) [] gs q)
  have hsz : (DataW.weightsEach Try.prog Try.f10.params.toList ds).all (· ≤ reachBytes) = true := by
    have h := hsz0
    rw [List.append_nil] at h
    exact h
  have hA : DataW.TrodAll enc Try.prog W 0 (fun _ => true) true Try.f10.params.toList args.toList ds p := hA0
  rw [Try.params10] at hA hval
  obtain ⟨v0, vs0, d0, ds0, p0, q0, hargs, rfl, rfl, h0, r0⟩ := trodAll_cons hA
  obtain ⟨v1, vs1, d1, ds1, p1, q1, rfl, rfl, rfl, h1, r1⟩ := trodAll_cons r0
  obtain ⟨v2, vs2, d2, ds2, p2, q2, rfl, rfl, rfl, h2, r2⟩ := trodAll_cons r1
  obtain ⟨rfl, rfl, rfl⟩ := trodAll_nil r2
  obtain rfl : args = #[v0, v1, v2] := by cases args; simp_all
  obtain ⟨l0, rep0, w0, e0⟩ := read_ints (by kernel_rfl : Try.prog.underlying 23 = some (.slice 22)) (by kernel_rfl : Try.prog.underlying 22 = some (.int .u32)) (by kernel_rfl) (hval 0 23 v0 rfl rfl) h0
  have n0 := ints_len (j := 0) (b := 4) hsz (by kernel_rfl) rfl (by kernel_rfl : Try.prog.underlying 23 = some (.slice 22)) (by kernel_rfl) e0
  obtain ⟨l1, rep1, w1, e1⟩ := read_ints (by kernel_rfl : Try.prog.underlying 23 = some (.slice 22)) (by kernel_rfl : Try.prog.underlying 22 = some (.int .u32)) (by kernel_rfl) (hval 1 23 v1 rfl rfl) h1
  have n1 := ints_len (j := 1) (b := 4) hsz (by kernel_rfl) rfl (by kernel_rfl : Try.prog.underlying 23 = some (.slice 22)) (by kernel_rfl) e1
  obtain ⟨x2, rfl, e2, w2⟩ := read_int (by kernel_rfl : Try.prog.underlying 5 = some (.int .u8)) (hval 2 5 v2 rfl rfl) h2
  have hcall := (law l0 w0 n0 l1 w1 n1 x2 w2).calls (W := W) (vals := [v0, v1, .int .u8 x2]) Try.func10 rfl rfl ⟨rfl, fun i h1 h2 => by
    match i with
    | 0 => exact rep0
    | 1 => exact rep1
    | 2 => exact .v _ trivial⟩
  refine hcall.mono fun e W' ⟨he, hg⟩ => ?_
  exact ⟨_, he, post_true laid (by kernel_rfl) rfl (tb := 4) (by kernel_rfl) (by kernel_rfl) hW' rfl hg⟩

theorem over : Rows.bignumRestsRow.holds Try.pinned (OpenSpec.ofChange Rows.bignumRestsSpec) :=
  OpenClaim.holds_of_wide 10 Try.f10 rfl rfl rfl rfl rfl rfl rfl ⟨rfl, rfl, rfl, rfl, rfl⟩ rfl rfl rfl rfl rfl (by kernel_rfl) Try.func10 (by kernel_rfl)
    (of_decide_eq_true (by kernel_rfl)) (by unfold Func.isWrapper; first | (rw [if_pos (by decide +kernel)]; kernel_rfl) | (rw [if_neg (by decide +kernel)]; exact ⟨rfl, rfl⟩))
    (fun os started H enc _ => lifted os started H enc)

theorem proved : Rows.BignumRestsSaid :=
  over
#print axioms proved
end Go.Proofs.Ytbmadhdeikoecaa.bignumRests
