/- Contracts of the program's functions, and the plain law behind them. No condition beyond those in each statement. -/
import Derived.Test.YthceebioiinhiaaNuAll7
import Derived.Test.YthceebioiinhiaaEvAll10
import Derived.Test.YthceebioiinhiaaEvAll6
set_option linter.unusedSimpArgs false
set_option linter.unusedVariables false
set_option linter.unusedSectionVars false
/- Numbers: Round, and the reference's. -/
set_option maxRecDepth 100000
set_option exponentiation.threshold 2200
namespace Go.Proofs.Nu
open Go Go.Ev

theorem toldW_num {x : Nat} (h : Num x) : toldW x = x := by unfold toldW; rw [if_neg]; rw [isNaN_num.2 h]; decide
theorem toldW_nan {x : Nat} (h : ¬ Num x) : toldW x = qnan := by
  unfold toldW
  rw [if_pos]
  exact isNaN_iff.2 (Classical.not_not.1 fun hn => h (num_iff.2 hn))
theorem not_num_qnan : ¬ Num qnan := by unfold Num; decide
theorem toldW_told (x : Nat) : toldW (toldW x) = toldW x := by
  by_cases h : Num x
  · rw [toldW_num h, toldW_num h]
  · rw [toldW_nan h, toldW_nan not_num_qnan]

theorem sgn_sg (x : Nat) : sgn x = sg x := by
  rw [sgn_eq]
  unfold sg
  by_cases h : x / 9223372036854775808 % 2 = 1
  · rw [decide_eq_true h, h]; rfl
  · rw [decide_eq_false h]; symm; rw [beq_eq_false_iff_ne]; exact h
theorem cs_word (x y : Nat) : cs x y = wordOf (sg y) (rg x) := by
  rw [cs_eq]
  unfold wordOf rg sg
  rcases Nat.mod_two_eq_zero_or_one (y / 9223372036854775808) with h | h <;> rw [h] <;> simp <;> omega

theorem isNaN_of {x : Nat} (h : ¬ Num x) : isNaN x = true := by
  cases hn : isNaN x with
  | true => rfl
  | false => exact (h (isNaN_num.1 hn)).elim
theorem fin_iff {x : Nat} : fin x = true ↔ Fit x := by
  unfold fin Fit
  by_cases h : Num x
  · rw [isNaN_num.2 h, isInf_eq]
    unfold Num at h
    by_cases h2 : rg x = 9218868437227405312
    · rw [decide_eq_true h2]; simp; omega
    · rw [decide_eq_false h2]; simp; omega
  · rw [isNaN_of h]
    unfold Num at h
    simp; omega

def oneW : Nat := 4607182418800017408
theorem fin_one : Fit oneW := by unfold Fit; decide
theorem V_one : V oneW = U := by
  have : oneW = wordOf false oneR := rfl
  rw [this, V_wordOf (by decide), valN_one]; rfl
theorem sg_one : sg oneW = false := by decide
theorem fin_zero : Fit 0 := by unfold Fit; decide
theorem V_null : V 0 = 0 := rfl

/-- a float's word is its sign and its number, but for zeros -/
theorem word_of_V {x y : Nat} (hx : FWord x) (hy : FWord y) (hs : sg x = sg y) (hv : V x = V y) : x = y := by
  rw [wordOf_of hx, wordOf_of hy, hs]
  unfold V sv at hv
  rw [hs] at hv
  have : valN (rg x) = valN (rg y) := by cases h : sg y <;> rw [h] at hv <;> simp at hv <;> omega
  rw [valN_inj.1 this]

/-- the half or more that is left -/
def halfB (x : Nat) : Bool := fgt .f64 (fsub x (intW .down x)) 4602678819172646912 || feq .f64 (fsub x (intW .down x)) 4602678819172646912
/-- Round before it is told -/
def upW (x : Nat) : Nat := bif halfB x then fadd (intW .down x) 4607182418800017408 else intW .down x
theorem round_def (x : Nat) : round x = bif !bif feq .f64 (upW x) 0 then (bif flt .f64 x 0 then true else sgn x) else false then toldW (upW x) else cs 0 13830554455654793216 := by
  rfl

theorem qn_sub {x y : Nat} (h : ¬ Num y) : fsub x y = qnan := by
  unfold fsub Ieee.Format.sub
  obtain ⟨s, t, e⟩ := nan_read (Classical.not_not.1 fun hn => h (num_iff.2 hn))
  rw [e]
  cases FloatKind.f64.format.read x <;> rfl
theorem inf_sub {x : Nat} (h : rg x = 9218868437227405312) : fsub x x = qnan := by
  unfold fsub Ieee.Format.sub
  rw [read_inf h]
  generalize (x / 9223372036854775808 % 2 == 1) = s
  cases s <;> rfl

theorem round_nan {x : Nat} (h : ¬ Num x) : round x = qnan := by
  have h1 : intW .down x = qnan := by
    obtain ⟨s, t, e⟩ := nan_read (Classical.not_not.1 fun hn => h (num_iff.2 hn))
    unfold intW FloatKind.decode
    rw [e]
  have h2 : halfB x = false := by
    unfold halfB
    rw [h1, qn_sub not_num_qnan]
    decide
  have h3 : upW x = qnan := by unfold upW; rw [h2, h1]; rfl
  rw [round_def, h3, (nan_cmp (.inl not_num_qnan)).2.1, toldW_nan not_num_qnan]
  rfl
theorem round_inf {x : Nat} (hw : FWord x) (h : rg x = 9218868437227405312) : round x = x := by
  have h1 := intW_inf .down hw h
  have h2 : halfB x = false := by
    unfold halfB
    rw [h1, inf_sub h]
    decide
  have h3 : upW x = x := by unfold upW; rw [h2, h1]; rfl
  have hn : Num x := by unfold Num; omega
  have h4 : feq .f64 x 0 = false := by
    rw [feq_V hn fin_zero.num, V_null, decide_eq_false]
    rw [V_zero, h]; decide
  rw [round_def, h3, h4, toldW_num hn]
  rfl

theorem sv_zero (s : Bool) : sv s 0 = 0 := by cases s <;> rfl
theorem sv_pos {n : Nat} : sv false n = n := rfl
theorem sv_neg {n : Nat} : sv true n = -(n : Int) := rfl
theorem V_pos {x : Nat} (h : sg x = false) : 0 ≤ V x := by unfold V; rw [h, sv_pos]; omega
theorem V_neg {x : Nat} (h : sg x = true) : V x ≤ 0 := by unfold V; rw [h, sv_neg]; omega

structure RoundFacts (x : Nat) : Prop where
  fl : Fit (intW .down x)
  word : FWord (intW .down x)
  sign : sg (intW .down x) = sg x

/-- f + 1 -/
theorem up_one {f : Nat} (hf : Fit f) {k : Int} (hk : V f = k * U) : (sg f = false → ∃ r, oneR ≤ r ∧ r ≤ 9218868437227405312 ∧ fadd f oneW = wordOf false r) ∧ (sg f = true → V f + U = 0 → fadd f oneW = 0) ∧ (V f + U < 0 → ∃ r, oneR ≤ r ∧ r ≤ 9218868437227405312 ∧ fadd f oneW = wordOf true r) := by
  rw [fadd_V hf fin_one, V_one, sg_one, Bool.and_false]
  have hU := U_pos
  refine ⟨fun h => ?_, fun h h0 => ?_, fun h => ?_⟩
  · have := V_pos h
    refine ⟨rd (V f + U).natAbs, rd_ge (by decide) ?_, rd_inf _, ?_⟩
    · rw [valN_one]; omega
    · rw [if_neg (by omega), decide_eq_false (by omega)]
  · rw [h0, if_pos rfl]; rfl
  · refine ⟨rd (V f + U).natAbs, rd_ge (by decide) ?_, rd_inf _, ?_⟩
    · rw [valN_one]
      have : V f + U ≤ -U := by
        rw [hk] at h ⊢
        have h1 : (k + 1) * (U : Int) < 0 := by rw [Int.add_mul]; omega
        have h2 : k + 1 < 0 := by
          rcases Int.lt_or_le (k + 1) 0 with h2 | h2
          · exact h2
          · have := Int.mul_nonneg h2 (by omega : (0 : Int) ≤ U); omega
        have h3 : (k + 1) * (U : Int) ≤ (-1) * U := Int.mul_le_mul_of_nonneg_right (by omega) (by omega)
        rw [Int.add_mul] at h3
        omega
      omega
    · rw [if_neg (by omega), decide_eq_true h]

theorem V_big {s : Bool} {r : Nat} (h1 : oneR ≤ r) (h2 : r ≤ 9218868437227405312) : V (wordOf s r) ≠ 0 := by
  rw [Ne, V_zero, rg_wordOf h2]
  have : oneR = 4607182418800017408 := rfl
  omega

/-- THE REFERENCE'S ROUND IS ROUND -/
theorem rround_c {x : Nat} (hw : FWord x) : PureTo Try.prog 45 [.v (.float .f64 x)] (.v (.float .f64 (round x))) := by
  cases hfin : fin x with
  | false =>
    have h := rround4 x ⟨hfin, trivial⟩
    by_cases hn : Num x
    · have hi : rg x = 9218868437227405312 := by
        have : ¬ Fit x := fun h => by rw [fin_iff.2 h] at hfin; cases hfin
        unfold Fit at this
        unfold Num at hn
        omega
      rw [toldW_num hn] at h
      rwa [round_inf hw hi]
    · rw [toldW_nan hn] at h
      rwa [round_nan hn]
  | true =>
    have hx := fin_iff.1 hfin
    obtain ⟨k, r, hr, hf, hk, hlo, hhi⟩ := floor_V hx
    have hff : Fit (intW .down x) := by unfold Fit; rw [hf, rg_wordOf (Nat.le_of_lt hr)]; exact hr
    have hfw : FWord (intW .down x) := by rw [hf]; exact word_wordOf (Nat.le_of_lt hr)
    have hfs : sg (intW .down x) = sg x := by rw [hf, sg_wordOf (Nat.le_of_lt hr)]
    have hU := U_pos
    cases heq : feq FloatKind.f64 (intW Ieee.Toward.down x) x with
    | true =>
      have h := rround1 x ⟨hfin, heq, trivial⟩
      rw [feq_V hff.num hx.num, decide_eq_true_eq] at heq
      have hfx : intW .down x = x := word_of_V hfw hw hfs heq
      have hsub : fsub x x = 0 := by
        rw [fsub_V hx hx, Int.sub_self, if_pos rfl]
        have : (sg x && !sg x) = false := by cases sg x <;> rfl
        rw [this]
        rfl
      have h2 : halfB x = false := by unfold halfB; rw [hfx, hsub]; decide
      have h3 : upW x = x := by unfold upW; rw [h2, hfx]; rfl
      rw [toldW_num hx.num] at h
      suffices hr : round x = x by rwa [hr]
      rw [round_def, h3, feq_V hx.num fin_zero.num, V_null, toldW_num hx.num]
      by_cases hz : V x = 0
      · rw [decide_eq_true hz, flt_V hx.num fin_zero.num, V_null, decide_eq_false (by omega), sgn_sg]
        cases hs : sg x with
        | false => rfl
        | true =>
          show cs 0 13830554455654793216 = x
          rw [cs_word, wordOf_of hw, hs, V_zero.1 hz]
          rfl
      · rw [decide_eq_false hz]; rfl
    | false =>
      have hne : V (intW .down x) ≠ V x := by
        intro h
        rw [feq_V hff.num hx.num, decide_eq_true h] at heq
        cases heq
      have hone : (4607182418800017408 : Nat) = oneW := rfl
      cases hh : halfB x with
      | true =>
        have h := rround2 x ⟨hfin, heq, hh, trivial⟩
        have h3 : upW x = fadd (intW .down x) oneW := by unfold upW; rw [hh]; rfl
        rw [hone, ← h3] at h
        obtain ⟨u1, u2, u3⟩ := up_one hff hk
        rw [← h3] at u1 u2 u3
        have finish : ∀ s r, sg x = s → oneR ≤ r → r ≤ 9218868437227405312 → upW x = wordOf s r → PureTo Try.prog 45 [.v (.float .f64 x)] (.v (.float .f64 (round x))) := by
          intro s r hs h1 h2 e
          have hn : Num (wordOf s r) := by unfold Num; rw [rg_wordOf h2]; exact h2
          have hc : cs (upW x) x = wordOf s r := by rw [cs_word, e, rg_wordOf h2, hs]
          have hr : round x = wordOf s r := by
            rw [round_def, e, feq_V hn fin_zero.num, V_null, decide_eq_false (V_big h1 h2), toldW_num hn]
            rfl
          rw [hr, ← hc]
          rw [hc] at h ⊢
          exact h.ans (.num _ (num_iff.1 hn))
        cases hs : sg x with
        | false =>
          obtain ⟨r', a1, a2, a3⟩ := u1 (hfs.trans hs)
          exact finish false r' hs a1 a2 a3
        | true =>
          have hvx : V x < 0 := by
            have := V_neg hs
            rcases Int.lt_or_eq_of_le this with h | h
            · exact h
            · exfalso
              have h9 := V_neg (hfs.trans hs)
              rw [h] at hhi hne
              rw [hk] at hne h9
              rw [Int.add_mul] at hhi
              have h1 : k * (U : Int) < 0 := by omega
              have h2 : k < 0 := by
                rcases Int.lt_or_le k 0 with h2 | h2
                · exact h2
                · have := Int.mul_nonneg h2 (by omega : (0 : Int) ≤ U); omega
              have h3 : k * (U : Int) ≤ (-1) * U := Int.mul_le_mul_of_nonneg_right (by omega) (by omega)
              omega
          have hkneg : k * (U : Int) + U ≤ 0 := by
            have h2 : k < 0 := by
              rcases Int.lt_or_le k 0 with h2 | h2
              · exact h2
              · have := Int.mul_nonneg h2 (by omega : (0 : Int) ≤ U); omega
            have h3 : k * (U : Int) ≤ (-1) * U := Int.mul_le_mul_of_nonneg_right (by omega) (by omega)
            omega
          rcases Int.lt_or_eq_of_le hkneg with h0 | h0
          · obtain ⟨r', a1, a2, a3⟩ := u3 (by rw [hk]; exact h0)
            exact finish true r' hs a1 a2 a3
          · have e := u2 (hfs.trans hs) (by rw [hk]; exact h0)
            have hc : cs (upW x) x = 9223372036854775808 := by rw [cs_word, e, hs]; rfl
            have hr : round x = 9223372036854775808 := by
              rw [round_def, e, feq_V fin_zero.num fin_zero.num, flt_V hx.num fin_zero.num, V_null, decide_eq_true hvx, decide_eq_true rfl]
              show cs 0 13830554455654793216 = _
              rw [cs_word]; rfl
            rw [hr]
            rw [hc] at h
            exact h.ans (.num _ (num_iff.1 (by unfold Num; decide)))
      | false =>
        have h := rround3 x ⟨hfin, heq, hh, trivial⟩
        have h3 : upW x = intW .down x := by unfold upW; rw [hh]; rfl
        have hc : cs (intW .down x) x = intW .down x := by rw [cs_word, ← hfs]; exact (wordOf_of hfw).symm
        have hr : round x = intW .down x := by
          rw [round_def, h3, feq_V hff.num fin_zero.num, flt_V hx.num fin_zero.num, V_null, sgn_sg, toldW_num hff.num]
          by_cases hz : V (intW .down x) = 0
          · have hxp : ¬ V x < 0 := by omega
            rw [decide_eq_true hz, decide_eq_false hxp]
            cases hs : sg x with
            | false => rfl
            | true => have := V_neg hs; omega
          · rw [decide_eq_false hz]; rfl
        rw [hr]
        rw [hc] at h
        exact h.ans (.num _ (num_iff.1 hff.num))
end Go.Proofs.Nu

/- Numbers: the table with the reference's Round. -/
set_option maxRecDepth 100000
namespace Go.Proofs.Nu
open Go Go.Ev
def sigRR : List AV → Option (AV × List Prop)
  | [.v (.float .f64 x)] => some (.v (.float .f64 (round x)), [FWord x])
  | _ => none
def SN9 : SGT := (45, .p sigRR) :: SN8
theorem soN9 : SigsOK Try.prog SN9 := by
  refine sigs_cons soN8 ?_
  intro ys r c hs hc
  unfold sigRR at hs
  split at hs
  · cases hs; exact rround_c hc.1
  · cases hs
end Go.Proofs.Nu

/- Numbers: floors. -/
set_option maxRecDepth 100000
set_option exponentiation.threshold 2200
namespace Go.Proofs.Nu
open Go Go.Ev

theorem feq_self {x : Nat} (h : Num x) : feq .f64 x x = true := by rw [feq_key h h]; simp

theorem round_up {x : Nat} (hu : Num (upW x)) : feq .f64 (round x) (upW x) = true := by
  rw [round_def]
  cases h : feq .f64 (upW x) 0 with
  | false => rw [toldW_num hu]; exact feq_self hu
  | true =>
    cases h2 : (bif flt .f64 x 0 then true else sgn x) with
    | false => rw [toldW_num hu]; exact feq_self hu
    | true =>
      show feq .f64 (cs 0 13830554455654793216) (upW x) = true
      have e : cs 0 13830554455654793216 = wordOf true 0 := by rw [cs_word]; rfl
      have hn : Num (wordOf true 0) := by unfold Num; decide
      rw [e, feq_V hn hu]
      rw [feq_V hu fin_zero.num, V_null, decide_eq_true_eq] at h
      rw [h, decide_eq_true (show V (wordOf true 0) = 0 from rfl)]

theorem floors_c {x : Nat} (hw : FWord x) : PureTo Try.prog 7 [.v (.float .f64 x)] (.v (.bool true)) := by
  by_cases hn : Num x
  · by_cases hi : rg x = 9218868437227405312
    · have hf : floor x = x := by unfold floor; rw [intW_inf .down hw hi, toldW_num hn]
      exact flrL9 x ⟨isNaN_num.2 hn, by rw [isInf_eq, decide_eq_true hi], isNaN_num.2 hn, by rw [hf]; exact feq_self hn, trivial⟩
    · have hx : Fit x := by unfold Fit; unfold Num at hn; omega
      obtain ⟨k, r, hr, hfw, hk, hlo, hhi⟩ := floor_V hx
      have hff : Fit (intW .down x) := by unfold Fit; rw [hfw, rg_wordOf (Nat.le_of_lt hr)]; exact hr
      have hfs : sg (intW .down x) = sg x := by rw [hfw, sg_wordOf (Nat.le_of_lt hr)]
      have hf : floor x = intW .down x := by unfold floor; rw [toldW_num hff.num]
      have hone : (4607182418800017408 : Nat) = oneW := rfl
      rw [Int.add_mul] at hhi
      have c1 : (flt FloatKind.f64 (floor x) x || feq FloatKind.f64 (floor x) x) = true := by
        rw [hf, flt_V hff.num hx.num, feq_V hff.num hx.num, hk]
        by_cases h : k * (U : Int) < V x
        · rw [decide_eq_true h]; rfl
        · rw [decide_eq_false h, decide_eq_true (by omega)]; rfl
      have hs := fsub_V hx hff
      have hsn : Num (fsub x (intW .down x)) := by rw [hs]; unfold Num; rw [rg_wordOf (rd_inf _)]; exact rd_inf _
      have c2 : (flt FloatKind.f64 (fsub x (floor x)) 4607182418800017408 || feq FloatKind.f64 (fsub x (floor x)) 4607182418800017408) = true := by
        rw [hf, hone, flt_V hsn fin_one.num, feq_V hsn fin_one.num, V_one]
        have h1 : V (fsub x (intW .down x)) ≤ U := by
          rw [hs, V_wordOf (rd_inf _)]
          have h2 : rd (V x - V (intW .down x)).natAbs ≤ oneR := rd_le (by rw [valN_one, hk]; omega)
          have h3 := valN_le_iff.2 h2
          rw [valN_one] at h3
          unfold sv
          split <;> omega
        by_cases h : V (fsub x (intW .down x)) < U
        · rw [decide_eq_true h]; rfl
        · rw [decide_eq_false h, decide_eq_true (by omega)]; rfl
      have c3 : feq FloatKind.f64 (ceil x) (fneg (floor (fneg x))) = true := by
        obtain ⟨k', r', hr', hfw', _⟩ := floor_V (fin_fneg hx)
        have hff' : Fit (intW .down (fneg x)) := by unfold Fit; rw [hfw', rg_wordOf (Nat.le_of_lt hr')]; exact hr'
        have e1 : floor (fneg x) = intW .down (fneg x) := by unfold floor; rw [toldW_num hff'.num]
        have e2 : ceil x = fneg (intW .down (fneg x)) := by unfold ceil; rw [ceil_neg hx, toldW_num (fin_fneg hff').num]
        rw [e1, e2]
        exact feq_self (fin_fneg hff').num
      have hni : isInf x 0 = false := by rw [isInf_eq, decide_eq_false hi]
      cases hh : halfB x with
      | true =>
        have e : upW x = fadd (intW .down x) 4607182418800017408 := by unfold upW; rw [hh]; rfl
        have hu : Num (upW x) := by rw [e, hone, fadd_V hff fin_one]; unfold Num; rw [rg_wordOf (rd_inf _)]; exact rd_inf _
        have c4 := round_up hu
        rw [e] at c4
        exact flrL11 x ⟨isNaN_num.2 hn, hni, by rw [hf]; exact hh, c1, c2, c3, by rw [hf]; exact c4, trivial⟩
      | false =>
        have e : upW x = intW .down x := by unfold upW; rw [hh]; rfl
        have hu : Num (upW x) := by rw [e]; exact hff.num
        have c4 := round_up hu
        rw [e] at c4
        exact flrL16 x ⟨isNaN_num.2 hn, hni, by rw [hf]; exact hh, c1, c2, c3, by rw [hf]; exact c4, trivial⟩
  · have hf : floor x = qnan := by
      have h1 : intW .down x = qnan := by
        obtain ⟨s, t, e⟩ := nan_read (Classical.not_not.1 fun h => hn (num_iff.2 h))
        unfold intW FloatKind.decode
        rw [e]
      unfold floor
      rw [h1, toldW_nan not_num_qnan]
    exact flrL1 x ⟨isNaN_of hn, isNaN_of hn, by rw [hf]; exact isNaN_of not_num_qnan, trivial⟩
end Go.Proofs.Nu

/- Numbers: another exponent; parts of numbers; products that are exact. -/
set_option maxRecDepth 100000
set_option exponentiation.threshold 2200
namespace Go.Proofs.Nu
open Go Go.Ev Ieee

theorem low52 (x : Nat) : (BitVec.ofNat 64 x &&& ~~~9218868437227405312#64) = BitVec.ofNat 64 (2 ^ 63 * (x / 2 ^ 63) + x % 2 ^ 52) := by
  apply BitVec.eq_of_getLsbD_eq
  intro i hi
  have e : (9218868437227405312#64).getLsbD i = decide (52 ≤ i ∧ i < 63) := by
    have e1 : (9218868437227405312#64) = BitVec.ofNat 64 ((2 ^ 11 - 1) * 2 ^ 52) := rfl
    rw [e1, BitVec.getLsbD_ofNat, Nat.testBit_mul_two_pow]
    by_cases h : 52 ≤ i
    · rw [Nat.testBit_two_pow_sub_one]
      simp only [hi, h, decide_true, Bool.true_and, true_and]
      by_cases h2 : i < 63
      · rw [decide_eq_true h2, decide_eq_true (by omega)]
      · rw [decide_eq_false h2, decide_eq_false (by omega)]
    · simp [h]
  simp only [BitVec.getLsbD_and, BitVec.getLsbD_not, hi, decide_true, Bool.true_and, BitVec.getLsbD_ofNat, e]
  have hm : x % 2 ^ 52 < 2 ^ 63 := Nat.lt_of_lt_of_le (Nat.mod_lt _ (by decide)) (by decide)
  rw [Nat.testBit_two_pow_mul_add _ hm, Nat.testBit_mod_two_pow, Nat.testBit_div_two_pow]
  by_cases h1 : i < 52
  · rw [if_pos (by omega), decide_eq_false (by omega), decide_eq_true h1]; simp
  · by_cases h2 : i < 63
    · rw [if_pos h2, decide_eq_true (by omega), decide_eq_false h1]; simp
    · rw [if_neg h2, decide_eq_false (by omega), show i - 63 + 63 = i by omega]; simp

/-- another exponent -/
theorem exp_word {y E : Nat} (hw : FWord y) (hE : E < 2048) : (bitsOf BinOp.or IntKind.u64 (bitsOf BinOp.andNot IntKind.u64 (↑y : Int) (9218868437227405312 : Int)) ((E * 4503599627370496 : Nat) : Int)).toNat = wordOf (sg y) (E * 4503599627370496 + y % 4503599627370496) := by
  unfold FWord at hw
  have h1 : bitsOf BinOp.andNot IntKind.u64 (↑y : Int) (9218868437227405312 : Int) = ((2 ^ 63 * (y / 2 ^ 63) + y % 2 ^ 52 : Nat) : Int) := by
    have e : bitsOf BinOp.andNot IntKind.u64 (↑y : Int) (9218868437227405312 : Int) = IntKind.u64.wrap ((BitVec.ofInt 64 (y : Int) &&& ~~~9218868437227405312#64).toNat : Int) := rfl
    rw [e, ofInt_nat, low52, BitVec.toNat_ofNat]
    show (((2 ^ 63 * (y / 2 ^ 63) + y % 2 ^ 52) % 2 ^ 64 : Nat) : Int) % 18446744073709551616 = _
    omega
  have hm : y % 2 ^ 52 < 2 ^ 52 := Nat.mod_lt _ (by decide)
  have hm63 : y % 2 ^ 52 < 2 ^ 63 := Nat.lt_of_lt_of_le hm (by decide)
  rw [h1, bits_or (k := .u64) rfl (by show _ < 2 ^ 64; omega) (by show _ < 2 ^ 64; omega), Int.toNat_natCast]
  have e1 : E * 4503599627370496 = 2 ^ 52 * E := by rw [Nat.mul_comm]
  have hlt : 2 ^ 52 * E + y % 2 ^ 52 < 2 ^ 63 := by
    have : 2 ^ 52 * E ≤ 2 ^ 52 * 2047 := Nat.mul_le_mul_left _ (by omega)
    have h63 : (2 : Nat) ^ 63 = 2 ^ 52 * 2048 := by decide
    rw [h63]
    omega
  rw [e1, Nat.two_pow_add_eq_or_of_lt hm63, Nat.or_assoc, Nat.or_comm (y % 2 ^ 52), ← Nat.two_pow_add_eq_or_of_lt hm, ← Nat.two_pow_add_eq_or_of_lt hlt]
  unfold wordOf sg
  rcases Nat.mod_two_eq_zero_or_one (y / 9223372036854775808) with h | h
  · rw [h]
    have : y / 9223372036854775808 = 0 := by omega
    rw [show y / 2 ^ 63 = 0 from this]
    rw [show ((0 : Nat) == 1) = false from rfl, if_neg (by decide)]
  · rw [h]
    have : y / 9223372036854775808 = 1 := by omega
    rw [show y / 2 ^ 63 = 1 from this]
    rw [show ((1 : Nat) == 1) = true from rfl, if_pos rfl]

/-- AN EXACT PRODUCT -/
theorem fmul_exact {x y r : Nat} (hx : Fit x) (hy : Fit y) (hr : r ≤ 9218868437227405312) (h : valN (rg x) * valN (rg y) = valN r * U) : fmul x y = wordOf (sg x ^^ sg y) r := by
  unfold fmul Format.mul
  rw [read_fin hx, read_fin hy]
  show FloatKind.f64.format.nearest _ _ _ = _
  rw [nearest_eq, rung_exact (a := sigK (rg x) + sigK (rg y)) (b := 1074) hr (by omega)]
  unfold valN at h
  rw [Nat.pow_add]
  rw [show sigM (rg x) * sigM (rg y) * (2 ^ sigK (rg x) * 2 ^ sigK (rg y)) = sigM (rg x) * 2 ^ sigK (rg x) * (sigM (rg y) * 2 ^ sigK (rg y)) by ac_rfl, h]
  rfl

/-- a normal float's number -/
theorem valN_normal {E m : Nat} (hE : 1 ≤ E) (hm : m < 4503599627370496) : valN (E * 4503599627370496 + m) = (4503599627370496 + m) * 2 ^ (E - 1) ∧ sigK (E * 4503599627370496 + m) = E - 1 ∧ sigM (E * 4503599627370496 + m) = 4503599627370496 + m := by
  have h1 : ¬ E * 4503599627370496 + m < 4503599627370496 := by omega
  have h2 : sigK (E * 4503599627370496 + m) = E - 1 := by unfold sigK; rw [if_neg h1]; omega
  have h3 : sigM (E * 4503599627370496 + m) = 4503599627370496 + m := by unfold sigM; rw [if_neg h1]; omega
  exact ⟨by unfold valN; rw [h2, h3], h2, h3⟩

/-- a normal float of the same digits: x = (mantissa) * 2 ^ (its place), in least units, times 2 ^ 52 -/
structure Norm (x : Nat) (E m : Nat) (c : Int) : Prop where
  lo : 1 ≤ E
  hi : E < 2047
  dig : m < 4503599627370496
  nw : normF x = wordOf (sg x) (E * 4503599627370496 + m)
  ne : normE x = c
  val : (valN (rg x) * 2 ^ 52 = (4503599627370496 + m) * 2 ^ (E - 1) ∧ c = -52) ∨ (valN (rg x) = (4503599627370496 + m) * 2 ^ (E - 1) ∧ c = 0)

theorem norm_of {x : Nat} (hw : FWord x) (hx : Fit x) (h0 : rg x ≠ 0) : ∃ E m c, Norm x E m c := by
  have hn := hx.num
  unfold Fit at hx
  by_cases h : rg x < 4503599627370496
  · -- below the least normal one
    obtain ⟨r, h1, h2⟩ := rep (rg x) 52 (by have : (2 : Nat) ^ 53 = 9007199254740992 := by decide
                                            omega) (by decide)
    have hv : valN (rg x) = rg x := by unfold valN sigM sigK; rw [if_pos h, if_pos h]; simp
    have hge : 4503599627370496 ≤ r := by
      rw [← valN_le_iff, h2]
      have : valN 4503599627370496 = 1 * 2 ^ 52 := by decide
      rw [this]
      exact Nat.mul_le_mul_right _ (by omega)
    have hf : normF x = wordOf (sg x) r := by
      rw [normF_eq hn, if_pos h]
      have hc : Fit 4841369599423283200 := by unfold Fit; decide
      have := fmul_exact (x := x) (y := 4841369599423283200) (r := r) hx hc (Nat.le_of_lt h1) (by
        rw [h2, hv]
        have e1 : sigM (rg 4841369599423283200) = 2 ^ 52 := by decide
        have e2 : sigK (rg 4841369599423283200) = 1074 := by decide
        have e : valN (rg 4841369599423283200) = 2 ^ 52 * U := by unfold valN U; rw [e1, e2]
        rw [e, Nat.mul_assoc])
      rw [this, show sg 4841369599423283200 = false by decide, Bool.xor_false]
    refine ⟨r / 4503599627370496, r % 4503599627370496, -52, by omega, by omega, by omega, ?_, by rw [normE_eq hn, if_pos h], .inl ⟨?_, rfl⟩⟩
    · rw [hf]; congr 1; omega
    · rw [hv, ← h2, ← (valN_normal (E := r / 4503599627370496) (m := r % 4503599627370496) (by omega) (by omega)).1]
      congr 1; omega
  · refine ⟨rg x / 4503599627370496, rg x % 4503599627370496, 0, by omega, by omega, by omega, ?_, by rw [normE_eq hn, if_neg h], .inr ⟨?_, rfl⟩⟩
    · rw [normF_eq hn, if_neg h]
      rw [show rg x / 4503599627370496 * 4503599627370496 + rg x % 4503599627370496 = rg x by omega]
      exact wordOf_of hw
    · rw [← (valN_normal (E := rg x / 4503599627370496) (m := rg x % 4503599627370496) (by omega) (by omega)).1]
      congr 1; omega

theorem Norm.rgN {x E m : Nat} {c : Int} (h : Norm x E m c) : E * 4503599627370496 + m < 9218868437227405312 := by
  have := h.hi
  have := h.dig
  omega
theorem wordOf_parts {s : Bool} {E m : Nat} (hE : E < 2047) (hm : m < 4503599627370496) : expo (wordOf s (E * 4503599627370496 + m)) = E ∧ wordOf s (E * 4503599627370496 + m) % 4503599627370496 = m := by
  unfold expo wordOf
  cases s
  · rw [if_neg (by decide)]; omega
  · rw [if_pos rfl]; omega

theorem notZero {x : Nat} (hx : Fit x) (h0 : rg x ≠ 0) : feq .f64 x 0 = false := by
  rw [feq_V hx.num fin_zero.num, V_null, decide_eq_false]
  rw [V_zero]; exact h0
theorem notInf {x : Nat} (hx : Fit x) : isInf x 0 = false := by
  rw [isInf_eq, decide_eq_false]
  unfold Fit at hx; omega

/-- FREXP -/
theorem frexp_V {x E m : Nat} {c : Int} (hx : Fit x) (h0 : rg x ≠ 0) (h : Norm x E m c) : frexp_1 x = wordOf (sg x) (1022 * 4503599627370496 + m) ∧ frexp_2 x = c + (E - 1022) := by
  have hr := h.rgN
  obtain ⟨e1, e2⟩ := wordOf_parts (s := sg x) h.hi h.dig
  have hword : FWord (wordOf (sg x) (E * 4503599627370496 + m)) := word_wordOf (Nat.le_of_lt hr)
  constructor
  · unfold frexp_1
    rw [notZero hx h0, notInf hx, isNaN_num.2 hx.num]
    show (bitsOf BinOp.or IntKind.u64 (bitsOf BinOp.andNot IntKind.u64 (↑(normF x) : Int) (9218868437227405312 : Int)) (4602678819172646912 : Int)).toNat = _
    rw [h.nw]
    have := exp_word (E := 1022) hword (by decide)
    rw [e2, sg_wordOf (Nat.le_of_lt hr)] at this
    exact this
  · unfold frexp_2
    rw [notZero hx h0, notInf hx, isNaN_num.2 hx.num]
    show normE x + (IntKind.i64.wrap (bitsOf BinOp.and IntKind.u64 ((↑(normF x) : Int) / (4503599627370496 : Int)) (2047 : Int)) - (1023 : Int) + (1 : Int)) = _
    rw [h.nw, h.ne, expo_bits hword, e1, IntKind.wrap_i64]
    have := h.hi
    omega

theorem lt_inf {F m : Nat} (hF : F ≤ 2046) (hm : m < 4503599627370496) : F * 4503599627370496 + m < 9218868437227405312 := by omega
/-- LDEXP upward, where it fits -/
theorem ldexp_V {x E m : Nat} {c : Int} (hx : Fit x) (h0 : rg x ≠ 0) (h : Norm x E m c) (k r : Nat) (hr : r < 9218868437227405312) (hv : valN (rg x) * 2 ^ k = valN r) : ldexpW x k = wordOf (sg x) r := by
  have hn := h.rgN
  obtain ⟨e1, e2⟩ := wordOf_parts (s := sg x) h.hi h.dig
  have hword : FWord (wordOf (sg x) (E * 4503599627370496 + m)) := word_wordOf (Nat.le_of_lt hn)
  have hlo := h.lo
  have hhi := h.hi
  have hdig := h.dig
  have e53 : (2 : Nat) ^ 53 = 9007199254740992 := by decide
  have e52 : (2 : Nat) ^ 52 = 4503599627370496 := by decide
  unfold ldexpW
  simp only [notZero hx h0, notInf hx, isNaN_num.2 hx.num, Bool.false_eq_true, if_false]
  rw [h.ne, h.nw, e1]
  -- the product's digits and place
  have hval : valN r * 2 ^ 52 = (4503599627370496 + m) * 2 ^ (E - 1 + k) ∧ c = -52 ∨ valN r = (4503599627370496 + m) * 2 ^ (E - 1 + k) ∧ c = 0 := by
    rcases h.val with ⟨h1, h2⟩ | ⟨h1, h2⟩
    · refine .inl ⟨?_, h2⟩
      rw [← hv, Nat.mul_right_comm, h1, Nat.mul_assoc, ← Nat.pow_add]
    · refine .inr ⟨?_, h2⟩
      rw [← hv, h1, Nat.mul_assoc, ← Nat.pow_add]
  have hc : c = -52 ∨ c = 0 := by rcases hval with h | h <;> omega
  obtain ⟨s1, s2, s3⟩ := sig_parts r
  have hK : sigK r ≤ 2045 := by omega
  have hvr : valN r < 2 ^ (53 + 2045) := by
    have a1 : valN r < 2 ^ 53 * 2 ^ sigK r := Nat.mul_lt_mul_of_pos_right s2 (Nat.two_pow_pos _)
    refine Nat.lt_of_lt_of_le a1 ?_
    rw [← Nat.pow_add]
    exact Nat.pow_le_pow_right (by decide) (by omega)
  -- no overflow
  have hE : (E : Int) - 1 + k + c ≤ 2045 := by
    rcases Int.lt_or_le 2045 ((E : Int) - 1 + k + c) with hh | hh
    · exfalso
      rcases hval with ⟨h1, h2⟩ | ⟨h1, h2⟩
      · have a1 : 2 ^ (52 + (E - 1 + k)) ≤ valN r * 2 ^ 52 := by
          rw [h1, Nat.pow_add, e52]; exact Nat.mul_le_mul_right _ (by omega)
        have a2 : valN r * 2 ^ 52 < 2 ^ (53 + 2045) * 2 ^ 52 := Nat.mul_lt_mul_of_pos_right hvr (Nat.two_pow_pos _)
        rw [← Nat.pow_add] at a2
        have a3 : 2 ^ (53 + 2045 + 52) ≤ 2 ^ (52 + (E - 1 + k)) := Nat.pow_le_pow_right (by decide) (by omega)
        omega
      · have a1 : 2 ^ (52 + (E - 1 + k)) ≤ valN r := by
          rw [h1, Nat.pow_add, e52]; exact Nat.mul_le_mul_right _ (by omega)
        have a3 : 2 ^ (53 + 2045) ≤ 2 ^ (52 + (E - 1 + k)) := Nat.pow_le_pow_right (by decide) (by omega)
        omega
    · exact hh
  rw [if_neg (by omega), if_neg (by omega)]
  have hset : ∀ F : Nat, F < 2048 → setE (wordOf (sg x) (E * 4503599627370496 + m)) (F : Int) = wordOf (sg x) (F * 4503599627370496 + m) := by
    intro F hF
    unfold setE
    have h9 : ((F : Int) % (18446744073709551616 : Int) * (4503599627370496 : Int)) = ((F * 4503599627370496 : Nat) : Int) := by omega
    rw [h9, exp_word hword hF, e2, sg_wordOf (Nat.le_of_lt hn)]
  by_cases hsmall : (k : Int) + c + ((E : Int) - 1023) < -1022
  · rw [if_pos hsmall]
    -- then c = -52 and the result is below the least normal one
    have hc52 : c = -52 := by omega
    have hval1 : valN r * 2 ^ 52 = (4503599627370496 + m) * 2 ^ (E - 1 + k) := by
      rcases hval with ⟨h1, h2⟩ | ⟨h1, h2⟩
      · exact h1
      · omega
    obtain ⟨F, hF⟩ : ∃ F : Nat, (k : Int) + c + ((E : Int) - 1023) + 53 + 1023 = F := ⟨((k : Int) + c + ((E : Int) - 1023) + 53 + 1023).toNat, by omega⟩
    rw [hF, hset F (by omega)]
    have hF1 : F = E + k + 1 := by omega
    have hrF : F * 4503599627370496 + m < 9218868437227405312 := lt_inf (by omega) hdig
    have hfit : Fit (wordOf (sg x) (F * 4503599627370496 + m)) := by unfold Fit; rw [rg_wordOf (Nat.le_of_lt hrF)]; exact hrF
    have hc : Fit 4368491638549381120 := by unfold Fit; decide
    rw [fmul_exact hc hfit (Nat.le_of_lt hr), show sg 4368491638549381120 = false by decide, sg_wordOf (Nat.le_of_lt hrF), Bool.false_xor]
    rw [rg_wordOf (Nat.le_of_lt hrF), (valN_normal (E := F) (m := m) (by omega) hdig).1]
    have f1 : sigM (rg 4368491638549381120) = 2 ^ 52 := by decide
    have f2 : sigK (rg 4368491638549381120) = 969 := by decide
    have f : valN (rg 4368491638549381120) = 2 ^ 1021 := by unfold valN; rw [f1, f2, ← Nat.pow_add]
    have hFs : F - 1 = (E - 1 + k) + 1 := by omega
    rw [f, hFs]
    unfold U
    rw [Nat.pow_add 2 (E - 1 + k) 1, ← Nat.mul_assoc (4503599627370496 + m), ← hval1]
    rw [show valN r * 2 ^ 52 * 2 ^ 1 = valN r * 2 ^ 53 by rw [Nat.mul_assoc, ← Nat.pow_add], Nat.mul_comm, Nat.mul_assoc, ← Nat.pow_add]
  · rw [if_neg hsmall]
    obtain ⟨F, hF⟩ : ∃ F : Nat, (k : Int) + c + ((E : Int) - 1023) + 1023 = F := ⟨((k : Int) + c + ((E : Int) - 1023) + 1023).toNat, by omega⟩
    rw [hF, hset F (by omega)]
    have hrF : F * 4503599627370496 + m < 9218868437227405312 := lt_inf (by omega) hdig
    have hfit : Fit (wordOf (sg x) (F * 4503599627370496 + m)) := by unfold Fit; rw [rg_wordOf (Nat.le_of_lt hrF)]; exact hrF
    have hone : Fit 4607182418800017408 := by unfold Fit; decide
    have hvF := (valN_normal (E := F) (m := m) (by omega) hdig).1
    have hreq : r = F * 4503599627370496 + m := by
      refine valN_inj.1 ?_
      rw [hvF]
      rcases hval with ⟨h1, h2⟩ | ⟨h1, h2⟩
      · have hFs : E - 1 + k = F - 1 + 52 := by omega
        rw [hFs, Nat.pow_add, ← Nat.mul_assoc] at h1
        exact Nat.eq_of_mul_eq_mul_right (Nat.two_pow_pos 52) h1
      · have hFs : E - 1 + k = F - 1 := by omega
        rw [hFs] at h1
        exact h1
    rw [fmul_exact hone hfit (Nat.le_of_lt hr), show sg 4607182418800017408 = false by decide, sg_wordOf (Nat.le_of_lt hrF), Bool.false_xor]
    rw [rg_wordOf (Nat.le_of_lt hrF), ← hreq, show rg 4607182418800017408 = oneR by decide, valN_one, Nat.mul_comm]

end Go.Proofs.Nu

/- Numbers: math.Mod is the rest. -/
set_option maxRecDepth 100000
set_option exponentiation.threshold 2200
namespace Go.Proofs.Nu
open Go Go.Ev Ieee

theorem valN_bound {r : Nat} (hr : r < 9218868437227405312) : valN r < 2 ^ 53 * 2 ^ 2045 := by
  obtain ⟨s1, s2, s3⟩ := sig_parts r
  have h1 : sigK r ≤ 2045 := by omega
  have a1 : valN r < 2 ^ 53 * 2 ^ sigK r := Nat.mul_lt_mul_of_pos_right s2 (Nat.two_pow_pos _)
  exact Nat.lt_of_lt_of_le a1 (Nat.mul_le_mul_left _ (Nat.pow_le_pow_right (by decide) h1))

theorem rep2 {m c r0 : Nat} (hm : m < 2 ^ 53) (hr : r0 < 9218868437227405312) (h : m * 2 ^ c ≤ valN r0) : ∃ r, r < 9218868437227405312 ∧ valN r = m * 2 ^ c := by
  rcases Nat.lt_or_ge 2045 c with hc | hc
  · obtain ⟨d, rfl⟩ : ∃ d, c = 2045 + d := ⟨c - 2045, by omega⟩
    rw [show m * 2 ^ (2045 + d) = m * 2 ^ d * 2 ^ 2045 by rw [Nat.mul_assoc, ← Nat.pow_add, Nat.add_comm]] at h ⊢
    have h1 := Nat.lt_of_le_of_lt h (valN_bound hr)
    exact rep (m * 2 ^ d) 2045 (Nat.lt_of_mul_lt_mul_right h1) (Nat.le_refl _)
  · exact rep m c hm hc

theorem quot_place {A B Mr My P Q d : Nat} (hA : A * 2 ^ d = Mr * 2 ^ P) (hB : B * 2 ^ d = My * 2 ^ Q) (r1 : 2 ^ 52 ≤ Mr) (r2 : Mr < 2 ^ 53) (y1 : 2 ^ 52 ≤ My) (y2 : My < 2 ^ 53) (hBA : B ≤ A) :
    ∃ k, P = Q + k + (if Mr < My then 1 else 0) ∧ B * 2 ^ k ≤ A ∧ A < B * 2 ^ k * 2 := by
  have hd : 0 < 2 ^ d := Nat.two_pow_pos _
  have e53 : (2 : Nat) ^ 53 = 2 ^ 52 * 2 := by decide
  have hQP : My * 2 ^ Q ≤ Mr * 2 ^ P := by rw [← hA, ← hB]; exact Nat.mul_le_mul_right _ hBA
  have hle : Q ≤ P := by
    rcases Nat.lt_or_ge P Q with h | h
    · exfalso
      have a1 : Mr * 2 ^ P < 2 ^ 53 * 2 ^ P := Nat.mul_lt_mul_of_pos_right r2 (Nat.two_pow_pos _)
      have a2 : 2 ^ 52 * 2 ^ Q ≤ My * 2 ^ Q := Nat.mul_le_mul_right _ y1
      have a3 : 2 ^ (53 + P) ≤ 2 ^ (52 + Q) := Nat.pow_le_pow_right (by decide) (by omega)
      rw [Nat.pow_add 2 53, Nat.pow_add 2 52] at a3
      omega
    · exact h
  obtain ⟨g, rfl⟩ : ∃ g, P = Q + g := ⟨P - Q, by omega⟩
  by_cases hδ : Mr < My
  · rw [if_pos hδ]
    rcases Nat.eq_zero_or_pos g with h0 | h0
    · subst h0
      have := Nat.le_of_mul_le_mul_right hQP (Nat.two_pow_pos _)
      omega
    · obtain ⟨k, rfl⟩ : ∃ k, g = k + 1 := ⟨g - 1, by omega⟩
      refine ⟨k, by omega, ?_, ?_⟩
      · refine Nat.le_of_mul_le_mul_right ?_ hd
        rw [hA, Nat.mul_right_comm, hB, Nat.mul_assoc, ← Nat.pow_add, show Q + (k + 1) = Q + k + 1 by omega, Nat.pow_succ 2 (Q + k), Nat.mul_comm (2 ^ (Q + k)) 2, ← Nat.mul_assoc]
        exact Nat.mul_le_mul_right _ (by omega)
      · refine Nat.lt_of_mul_lt_mul_right (a := 2 ^ d) ?_
        rw [hA, show B * 2 ^ k * 2 * 2 ^ d = B * 2 ^ d * 2 ^ k * 2 by ac_rfl, hB, show Q + (k + 1) = Q + k + 1 by omega, Nat.pow_succ 2 (Q + k), Nat.mul_assoc My, ← Nat.pow_add, ← Nat.mul_assoc]
        exact Nat.mul_lt_mul_of_pos_right (Nat.mul_lt_mul_of_pos_right hδ (Nat.two_pow_pos _)) (by decide)
  · rw [if_neg hδ]
    refine ⟨g, by omega, ?_, ?_⟩
    · refine Nat.le_of_mul_le_mul_right ?_ hd
      rw [hA, Nat.mul_right_comm, hB, Nat.mul_assoc, ← Nat.pow_add]
      exact Nat.mul_le_mul_right _ (by omega)
    · refine Nat.lt_of_mul_lt_mul_right (a := 2 ^ d) ?_
      rw [hA, show B * 2 ^ g * 2 * 2 ^ d = B * 2 ^ d * 2 ^ g * 2 by ac_rfl, hB, Nat.mul_assoc My, ← Nat.pow_add, Nat.mul_right_comm]
      exact Nat.mul_lt_mul_of_pos_right (by omega) (Nat.two_pow_pos _)

theorem sigK_mono {r s : Nat} (h : r ≤ s) : sigK r ≤ sigK s := by
  unfold sigK
  split <;> split <;> omega

/-- a difference of near ones is exact -/
theorem near_sub {r l : Nat} (hr : r < 9218868437227405312) (h1 : valN l ≤ valN r) (h2 : valN r < valN l * 2) : ∃ s, s < 9218868437227405312 ∧ valN s = valN r - valN l := by
  have hl : l ≤ r := valN_le_iff.1 h1
  have hk := sigK_mono hl
  obtain ⟨s1, s2, s3⟩ := sig_parts l
  obtain ⟨g, hg⟩ : ∃ g, sigK r = sigK l + g := ⟨sigK r - sigK l, by omega⟩
  have er : valN r = sigM r * 2 ^ g * 2 ^ sigK l := by unfold valN; rw [hg, Nat.pow_add, Nat.mul_comm (2 ^ sigK l), Nat.mul_assoc]
  have el : valN l = sigM l * 2 ^ sigK l := rfl
  have e : valN r - valN l = (sigM r * 2 ^ g - sigM l) * 2 ^ sigK l := by rw [er, el, Nat.sub_mul]
  have hlt : sigM r * 2 ^ g - sigM l < 2 ^ 53 := by
    have a1 : (sigM r * 2 ^ g - sigM l) * 2 ^ sigK l < 2 ^ 53 * 2 ^ sigK l := by
      rw [← e]
      have : valN l < 2 ^ 53 * 2 ^ sigK l := Nat.mul_lt_mul_of_pos_right s2 (Nat.two_pow_pos _)
      omega
    exact Nat.lt_of_mul_lt_mul_right a1
  obtain ⟨s, a1, a2⟩ := rep2 hlt hr (c := sigK l) (by rw [← e]; omega)
  exact ⟨s, a1, by rw [a2, e]⟩

theorem abs_word (x : Nat) : abs x = wordOf false (rg x) := by rw [abs_eq]; unfold wordOf rg; simp

def modX (x r : Nat) : AS := { n := 62, fr := [(0, AV.v (.float FloatKind.f64 x)), (7, AV.fl FloatKind.f64 r)], hp := [], nx := 0 }

theorem skey_word {r : Nat} (h : r ≤ 9218868437227405312) : skey (wordOf false r) = r := by
  have e : skey (wordOf false r) = sv (sg (wordOf false r)) (rg (wordOf false r)) := rfl
  rw [e, rg_wordOf h, sg_wordOf h]; rfl
theorem num_word {s : Bool} {r : Nat} (h : r ≤ 9218868437227405312) : Num (wordOf s r) := by unfold Num; rw [rg_wordOf h]; exact h
theorem fit_word {s : Bool} {r : Nat} (h : r < 9218868437227405312) : Fit (wordOf s r) := by unfold Fit; rw [rg_wordOf (Nat.le_of_lt h)]; exact h

theorem Norm.sum {x E m : Nat} {c : Int} (h : Norm x E m c) : ∃ a : Nat, c = -(a : Int) ∧ a ≤ 52 ∧ valN (rg x) * 2 ^ a = (4503599627370496 + m) * 2 ^ (E - 1) := by
  rcases h.val with ⟨h1, h2⟩ | ⟨h1, h2⟩
  · exact ⟨52, h2, Nat.le_refl _, h1⟩
  · exact ⟨0, h2, by decide, by simpa using h1⟩

theorem ge_V {r y : Nat} (hr : Num r) (hy : Num y) : (fgt FloatKind.f64 r y || feq FloatKind.f64 r y) = decide (V y ≤ V r) := by
  rw [fgt_V hr hy, feq_V hr hy]
  by_cases h : V r > V y
  · rw [decide_eq_true h, decide_eq_true (by omega : V y ≤ V r)]; rfl
  · rw [decide_eq_false h, Bool.false_or]
    by_cases h2 : V r = V y
    · rw [decide_eq_true h2, decide_eq_true (by omega)]
    · rw [decide_eq_false h2, decide_eq_false (by omega)]

/-- ONE TURN: r less y times the greatest power of 2 that fits -/
theorem mod_turn {x y r : Nat} (hy : Fit y) (hy0 : rg y ≠ 0) (hw : FWord r) (hr : Fit r) (hs : sg r = false) (hge : valN (rg y) ≤ valN (rg r)) :
    ∃ s k, s < 9218868437227405312 ∧ valN s + valN (rg y) * 2 ^ k = valN (rg r) ∧ To Try.prog (loopAt Try.f90 0) (modA x y (.fl .f64 r)) .normal (modA x y (.fl .f64 (wordOf false s))) := by
  have hay : abs y = wordOf false (rg y) := abs_word y
  have hya : Fit (abs y) := by rw [hay]; exact fit_word hy
  have hyw : FWord (abs y) := by rw [hay]; exact word_wordOf (Nat.le_of_lt hy)
  have hyr : rg (abs y) = rg y := rg_abs y
  have hys : sg (abs y) = false := by rw [hay]; exact sg_wordOf (Nat.le_of_lt hy)
  have hr0 : rg r ≠ 0 := by
    intro h
    rw [h, valN_zero] at hge
    have := valN_lt (show 0 < rg y by omega)
    rw [valN_zero] at this
    omega
  obtain ⟨E, m, c, hn⟩ := norm_of hw hr hr0
  obtain ⟨F, q, d, hny⟩ := norm_of hyw hya (by rw [hyr]; exact hy0)
  obtain ⟨a, ha1, ha2, ha3⟩ := hn.sum
  obtain ⟨b, hb1, hb2, hb3⟩ := hny.sum
  rw [hyr] at hb3
  have h1 := hn.lo
  have h2 := hn.hi
  have h3 := hn.dig
  have h4 := hny.lo
  have h5 := hny.hi
  have h6 := hny.dig
  have e53 : (2 : Nat) ^ 53 = 9007199254740992 := by decide
  have e52 : (2 : Nat) ^ 52 = 4503599627370496 := by decide
  obtain ⟨k, k1, k2, k3⟩ := quot_place (A := valN (rg r)) (B := valN (rg y)) (Mr := 4503599627370496 + m) (My := 4503599627370496 + q) (P := E - 1 + b) (Q := F - 1 + a) (d := a + b)
    (by rw [Nat.pow_add, ← Nat.mul_assoc, ha3, Nat.mul_assoc, ← Nat.pow_add]) (by rw [Nat.add_comm, Nat.pow_add, ← Nat.mul_assoc, hb3, Nat.mul_assoc, ← Nat.pow_add])
    (by omega) (by omega) (by omega) (by omega) hge
  clear e53 e52
  obtain ⟨f1, f2⟩ := frexp_V hr hr0 hn
  obtain ⟨g1, g2⟩ := frexp_V hya (by rw [hyr]; exact hy0) hny
  -- the part that is taken away
  obtain ⟨l, l1, l2⟩ : ∃ l, l < 9218868437227405312 ∧ valN l = valN (rg y) * 2 ^ k := by
    obtain ⟨s1, s2, s3⟩ := sig_parts (rg y)
    have e : valN (rg y) * 2 ^ k = sigM (rg y) * 2 ^ (sigK (rg y) + k) := by unfold valN; rw [Nat.mul_assoc, ← Nat.pow_add]
    obtain ⟨l, a1, a2⟩ := rep2 s2 hr (c := sigK (rg y) + k) (by rw [← e]; exact k2)
    exact ⟨l, a1, by rw [a2, e]⟩
  have hld : ldexpW (abs y) k = wordOf false l := by
    have := ldexp_V hya (by rw [hyr]; exact hy0) hny k l l1 (by rw [hyr]; exact l2.symm)
    rw [hys] at this
    exact this
  obtain ⟨s, s1, s2⟩ := near_sub hr (l := l) (by rw [l2]; exact k2) (by rw [l2]; exact k3)
  have hVr : V r = valN (rg r) := by unfold V; rw [hs]; rfl
  have hVl : V (wordOf false l) = valN l := V_wordOf (Nat.le_of_lt l1)
  have hle : valN l ≤ valN (rg r) := by rw [l2]; exact k2
  have hsub : fsub r (wordOf false l) = wordOf false s := by
    rw [fsub_V hr (fit_word l1), hVr, hVl, hs, Bool.false_and]
    have e1 : ((valN (rg r) : Int) - (valN l : Int)).natAbs = valN s := by omega
    rw [e1, rd_val (Nat.le_of_lt s1)]
    congr 1
    rw [decide_eq_false (by omega)]
    simp
  refine ⟨s, k, s1, by omega, ?_⟩
  have hcond : (fgt FloatKind.f64 r (abs y) || feq FloatKind.f64 r (abs y)) = true := by
    rw [ge_V hr.num hya.num, decide_eq_true]
    rw [hVr, hay, V_wordOf (Nat.le_of_lt hy)]
    show (valN (rg y) : Int) ≤ _
    omega
  have hnum := num_iff.1 hr.num
  have hlt : flt FloatKind.f64 (frexp_1 r) (frexp_1 (abs y)) = decide (m < q) := by
    rw [f1, g1, hs, hys]
    have b1 : 1022 * 4503599627370496 + m ≤ 9218868437227405312 := by omega
    have b2 : 1022 * 4503599627370496 + q ≤ 9218868437227405312 := by omega
    rw [flt_key (num_word b1) (num_word b2), skey_word b1, skey_word b2]
    by_cases h : m < q
    · rw [decide_eq_true h, decide_eq_true (by omega)]
    · rw [decide_eq_false h, decide_eq_false (by omega)]
  by_cases hm : m < q
  · rw [if_pos (by omega)] at k1
    have hk : frexp_2 r - (1 : Int) - frexp_2 (abs y) = k := by rw [f2, g2, ha1, hb1]; omega
    have hkb : (k : Int) ≤ 5000 := by omega
    have := modL0_1 x y r ⟨hcond, hw, hnum, by rw [hlt, decide_eq_true hm], by rw [f2]; simp only [inR]; omega, by rw [hk]; simp only [inR]; omega, hyw, by rw [hk]; omega, by rw [hk]; omega, trivial⟩
    rw [hk, hld, hsub] at this
    exact this
  · rw [if_neg (by omega)] at k1
    have hk : frexp_2 r - frexp_2 (abs y) = k := by rw [f2, g2, ha1, hb1]; omega
    have hkb : (k : Int) ≤ 5000 := by omega
    have := modL0_2 x y r ⟨hcond, hw, hnum, by rw [hlt, decide_eq_false hm], by rw [hk]; simp only [inR]; omega, hyw, by rw [hk]; omega, by rw [hk]; omega, trivial⟩
    rw [hk, hld, hsub] at this
    exact this

theorem mod_end {x y r : Nat} (hr : Num r) (hy : Num y) (h : V r < valN (rg y)) : LoopTo Try.prog (loopAt Try.f90 0) (modA x y (.fl .f64 r)) (.exit 0) (modX x r) := by
  have hay : abs y = wordOf false (rg y) := abs_word y
  refine LoopTo.done (by intro h; cases h) (modL0_3 x y r ⟨?_, trivial⟩)
  rw [ge_V hr (by rw [hay]; exact num_word hy), decide_eq_false]
  rw [hay, V_wordOf hy]
  show ¬ (valN (rg y) : Int) ≤ _
  omega

/-- ALL TURNS -/
theorem mod_loop {x y : Nat} (hy : Fit y) (hy0 : rg y ≠ 0) : ∀ n s, valN s = n → s < 9218868437227405312 → ∃ s', s' < 9218868437227405312 ∧ valN s' = n % valN (rg y) ∧ LoopTo Try.prog (loopAt Try.f90 0) (modA x y (.fl .f64 (wordOf false s))) (.exit 0) (modX x (wordOf false s')) := by
  intro n
  induction n using Nat.strongRecOn with
  | ind n ih =>
    intro s hs hlt
    have hyp : 0 < valN (rg y) := by
      have := valN_lt (show 0 < rg y by omega)
      rw [valN_zero] at this
      omega
    rcases Nat.lt_or_ge n (valN (rg y)) with h | h
    · refine ⟨s, hlt, by rw [hs, Nat.mod_eq_of_lt h], mod_end (num_word (Nat.le_of_lt hlt)) (Nat.le_of_lt hy) ?_⟩
      rw [V_wordOf (Nat.le_of_lt hlt), hs]
      show (n : Int) < _
      omega
    · obtain ⟨t, k, t1, t2, t3⟩ := mod_turn (x := x) hy hy0 (word_wordOf (s := false) (Nat.le_of_lt hlt)) (fit_word hlt) (sg_wordOf (Nat.le_of_lt hlt)) (by rw [rg_wordOf (Nat.le_of_lt hlt), hs]; exact h)
      rw [rg_wordOf (Nat.le_of_lt hlt), hs] at t2
      have hp : 0 < valN (rg y) * 2 ^ k := Nat.mul_pos hyp (Nat.two_pow_pos _)
      obtain ⟨s', a1, a2, a3⟩ := ih (valN t) (by omega) t rfl t1
      refine ⟨s', a1, ?_, LoopTo.step t3 a3⟩
      rw [a2, ← t2, Nat.add_mul_mod_self_left]

def modNaN : Nat := 9221120237041090561
/-- the rest of two numbers -/
def modR (x y : Nat) : Nat := if rg y = 9218868437227405312 then x else wordOf (sg x) (rd (valN (rg x) % valN (rg y)))
instance (x : Nat) : Decidable (Fit x) := inferInstanceAs (Decidable (rg x < 9218868437227405312))
instance (x : Nat) : Decidable (Num x) := inferInstanceAs (Decidable (rg x ≤ 9218868437227405312))
def modW (x y : Nat) : Nat := if ¬ Fit x ∨ ¬ Num y ∨ rg y = 0 then modNaN else modR x y

theorem mod_c {x y : Nat} (hx : FWord x) (hy : FWord y) : PureTo Try.prog 90 [.v (.float .f64 x), .v (.float .f64 y)] (.fl .f64 (modW x y)) := by
  have known : ∀ {a : Nat}, PureTo Try.prog 90 [.v (.float .f64 x), .v (.float .f64 y)] (.v (.float .f64 a)) → PureTo Try.prog 90 [.v (.float .f64 x), .v (.float .f64 y)] (.fl .f64 a) := fun h => h.ans (.fl _)
  by_cases hbad : ¬ Fit x ∨ ¬ Num y ∨ rg y = 0
  · have e : modW x y = modNaN := by unfold modW; rw [if_pos hbad]
    rw [e]
    cases h1 : feq FloatKind.f64 y 0 with
    | true => exact known (modF1 x y 0 ⟨h1, trivial⟩)
    | false =>
      cases h2 : isInf x 0 with
      | true => exact known (modF2 x y 0 ⟨h1, h2, trivial⟩)
      | false =>
        cases h3 : isNaN x with
        | true => exact known (modF3 x y 0 ⟨h1, h2, h3, trivial⟩)
        | false =>
          cases h4 : isNaN y with
          | true => exact known (modF4 x y 0 ⟨h1, h2, h3, h4, trivial⟩)
          | false =>
            exfalso
            have n1 := isNaN_num.1 h3
            have n2 := isNaN_num.1 h4
            rw [isInf_eq] at h2
            have h2' := of_decide_eq_false h2
            rw [feq_V n2 fin_zero.num, V_null] at h1
            have h1' := of_decide_eq_false h1
            rw [V_zero] at h1'
            unfold Num at n1
            unfold Fit at hbad
            rcases hbad with h | h | h
            · omega
            · exact h n2
            · exact h1' h
  · have e : modW x y = modR x y := by unfold modW; rw [if_neg hbad]
    rw [e]
    have hfx : Fit x := Classical.not_not.1 fun h => hbad (.inl h)
    have hny : Num y := Classical.not_not.1 fun h => hbad (.inr (.inl h))
    have hy0 : rg y ≠ 0 := fun h => hbad (.inr (.inr h))
    have h1 : feq FloatKind.f64 y 0 = false := by rw [feq_V hny fin_zero.num, V_null, decide_eq_false]; rw [V_zero]; exact hy0
    have h2 := notInf hfx
    have h3 := isNaN_num.2 hfx.num
    have h4 := isNaN_num.2 hny
    have hwy : W (abs y) := by rw [abs_word]; exact word_wordOf hny
    have hyp : 0 < valN (rg y) := by
      have := valN_lt (show 0 < rg y by omega)
      rw [valN_zero] at this
      omega
    -- the loop from s on
    have key : ∀ s, s < 9218868437227405312 → s = rg x → ∃ s', s' < 9218868437227405312 ∧ modR x y = wordOf (sg x) s' ∧ LoopTo Try.prog (loopAt Try.f90 0) (modA x y (.fl .f64 (wordOf false s))) (.exit 0) (modX x (wordOf false s')) := by
      intro s hs hsx
      by_cases hyi : rg y = 9218868437227405312
      · refine ⟨s, hs, ?_, mod_end (num_word (Nat.le_of_lt hs)) hny ?_⟩
        · unfold modR; rw [if_pos hyi, hsx]; exact wordOf_of hx
        · rw [V_wordOf (Nat.le_of_lt hs), hyi]
          have := valN_lt hs
          show (valN s : Int) < _
          omega
      · have hfy : Fit y := by unfold Fit; unfold Num at hny; omega
        obtain ⟨s', a1, a2, a3⟩ := mod_loop (x := x) hfy hy0 (valN s) s rfl hs
        refine ⟨s', a1, ?_, a3⟩
        unfold modR
        rw [if_neg hyi, ← hsx, ← a2, rd_val (Nat.le_of_lt a1)]
    by_cases hneg : V x < 0
    · have h5 : flt FloatKind.f64 x 0 = true := by rw [flt_V hfx.num fin_zero.num, V_null, decide_eq_true hneg]
      have hsx : sg x = true := by
        cases h : sg x with
        | true => rfl
        | false => have := V_pos h; omega
      obtain ⟨s', a1, a2, a3⟩ := key (rg x) hfx rfl
      have hfn : fneg x = wordOf false (rg x) := by rw [wordOf_of (word_fneg hx), sg_fneg, rg_fneg, hsx]; rfl
      have := modF5 x y (wordOf false s') ⟨h1, h2, h3, h4, hwy, h5, by rw [hfn]; exact mod_begin a3, h5, trivial⟩
      rw [fneg_wordOf (Nat.le_of_lt a1)] at this
      rw [a2, hsx]
      exact this
    · have h5 : flt FloatKind.f64 x 0 = false := by rw [flt_V hfx.num fin_zero.num, V_null, decide_eq_false hneg]
      cases hsx : sg x with
      | false =>
        obtain ⟨s', a1, a2, a3⟩ := key (rg x) hfx rfl
        have hfn : x = wordOf false (rg x) := by rw [← hsx]; exact wordOf_of hx
        have := modF8 x y (wordOf false s') ⟨h1, h2, h3, h4, hwy, h5, by rw [hfn] at a3 ⊢; rw [← hfn] at a3 ⊢; exact mod_begin (by rw [← hfn] at a3; exact a3), h5, trivial⟩
        rw [a2, hsx]
        exact this
      | true =>
        have hx0 : rg x = 0 := by
          have := V_neg hsx
          exact V_zero.1 (by omega)
        have hv0 : V x = 0 := V_zero.2 hx0
        have := modF8 x y x ⟨h1, h2, h3, h4, hwy, h5, mod_begin (mod_end hfx.num hny (by omega)), h5, trivial⟩
        have e2 : modR x y = x := by
          unfold modR
          split
          · rfl
          · rw [hx0, valN_zero, Nat.zero_mod, ← valN_zero, rd_val (by decide), ← hx0]
            exact (wordOf_of hx).symm
        rw [e2]
        exact this
end Go.Proofs.Nu

/- Numbers: the table with the rest. -/
set_option maxRecDepth 100000
namespace Go.Proofs.Nu
open Go Go.Ev
def sigMod : List AV → Option (AV × List Prop)
  | [.v (.float .f64 x), .v (.float .f64 y)] => some (.fl .f64 (modW x y), [FWord x, FWord y])
  | [.fl .f64 x, .v (.float .f64 y)] => some (.fl .f64 (modW x y), [FWord x, FWord y, ¬ nanB .f64 x])
  | _ => none
theorem sigMod_ok {i : FuncId} (h : ∀ x y, FWord x → FWord y → PureTo Try.prog i [.v (.float .f64 x), .v (.float .f64 y)] (.fl .f64 (modW x y))) : ∀ ys r c, sigMod ys = some (r, c) → AllP c → PureTo Try.prog i ys r := by
  intro ys r c hs hc
  unfold sigMod at hs
  split at hs
  · cases hs; exact h _ _ hc.1 hc.2.1
  · cases hs
    exact (h _ _ hc.1 hc.2.1).args rfl fun i h1 h2 => by
      have : i = 0 ∨ i = 1 := by simp at h1; omega
      rcases this with rfl | rfl
      · exact .num _ hc.2.2.1
      · exact .same _
  · cases hs
def SM0 : SGT := (90, .p sigMod) :: SN9
theorem soM0 : SigsOK Try.prog SM0 := sigs_cons soN9 (sigMod_ok fun x y a b => mod_c a b)
end Go.Proofs.Nu

/- Numbers: walks, written by the tool. -/
set_option maxRecDepth 100000
namespace Go.Proofs.Nu
open Go Go.Ev

-- 1 paths
theorem mMod1 (x y : Nat) (h : AllP [FWord x, FWord y]) : PureTo Try.prog 61 [.v (.float .f64 x), .v (.float .f64 y)] (AV.fl FloatKind.f64 (modW x y)) :=
  evFn_pure hm soM0 (fn := Try.f61) rfl rfl (ti := false) (hs := []) (c := _) (by kernel_rfl) h
end Go.Proofs.Nu

/- Numbers: the table with math.Mod. -/
set_option maxRecDepth 100000
namespace Go.Proofs.Nu
open Go Go.Ev
def SM1 : SGT := (61, .p sigMod) :: SM0
theorem soM1 : SigsOK Try.prog SM1 := sigs_cons soM0 (sigMod_ok fun x y a b => mMod1 x y ⟨a, b, trivial⟩)
end Go.Proofs.Nu

/- Numbers: walks, written by the tool. -/
set_option maxRecDepth 100000
namespace Go.Proofs.Nu
open Go Go.Ev

-- 4 paths
theorem u321 (x : Nat) (h : AllP [isNaN x = true]) : PureTo Try.prog 22 [.v (.float .f64 x)] (AV.v (.int .u32 (0 : Int))) :=
  evFn_pure hm soM1 (fn := Try.f22) rfl rfl (ti := false) (hs := [CHint.ops 1 [(1, Hint.b true)]]) (c := _) (by kernel_rfl) h
theorem u322 (x : Nat) (h : AllP [isNaN x = false, isInf x (0 : Int) = true]) : PureTo Try.prog 22 [.v (.float .f64 x)] (AV.v (.int .u32 (0 : Int))) :=
  evFn_pure hm soM1 (fn := Try.f22) rfl rfl (ti := false) (hs := [CHint.ops 1 [(1, Hint.b false), (4, Hint.b true)]]) (c := _) (by kernel_rfl) h
theorem u323 (x : Nat) (h : AllP [isNaN x = false, isInf x (0 : Int) = false, FWord (intW Ieee.Toward.zero x), FWord 4751297606875873280, ¬nanB FloatKind.f64 (intW Ieee.Toward.zero x), flt FloatKind.f64 (modW (intW Ieee.Toward.zero x) 4751297606875873280) 0 = true, fhasI (fadd (modW (intW Ieee.Toward.zero x) 4751297606875873280) 4751297606875873280), inR IntKind.u32 (ftoI (fadd (modW (intW Ieee.Toward.zero x) 4751297606875873280) 4751297606875873280))]) : PureTo Try.prog 22 [.v (.float .f64 x)] (AV.v (.int .u32 (ftoI (fadd (modW (intW Ieee.Toward.zero x) 4751297606875873280) 4751297606875873280)))) :=
  evFn_pure hm soM1 (fn := Try.f22) rfl rfl (ti := false) (hs := [CHint.ops 1 [(1, Hint.b false), (4, Hint.b false)], CHint.ops 4 [(1, Hint.b true)]]) (c := _) (by kernel_rfl) h
theorem u324 (x : Nat) (h : AllP [isNaN x = false, isInf x (0 : Int) = false, FWord (intW Ieee.Toward.zero x), FWord 4751297606875873280, ¬nanB FloatKind.f64 (intW Ieee.Toward.zero x), flt FloatKind.f64 (modW (intW Ieee.Toward.zero x) 4751297606875873280) 0 = false, fhasI (modW (intW Ieee.Toward.zero x) 4751297606875873280), inR IntKind.u32 (ftoI (modW (intW Ieee.Toward.zero x) 4751297606875873280))]) : PureTo Try.prog 22 [.v (.float .f64 x)] (AV.v (.int .u32 (ftoI (modW (intW Ieee.Toward.zero x) 4751297606875873280)))) :=
  evFn_pure hm soM1 (fn := Try.f22) rfl rfl (ti := false) (hs := [CHint.ops 1 [(1, Hint.b false), (4, Hint.b false)], CHint.ops 4 [(1, Hint.b false)]]) (c := _) (by kernel_rfl) h
-- 1 paths
theorem op0_1 (x y : Nat) (h : AllP []) : PureTo Try.prog 75 [.v (.float .f64 x), .v (.float .f64 y)] (AV.fl FloatKind.f64 (fadd x y)) :=
  evFn_pure hm soM1 (fn := Try.f75) rfl rfl (ti := false) (hs := []) (c := _) (by kernel_rfl) h
-- 1 paths
theorem op1_1 (x y : Nat) (h : AllP []) : PureTo Try.prog 76 [.v (.float .f64 x), .v (.float .f64 y)] (AV.fl FloatKind.f64 (fsub x y)) :=
  evFn_pure hm soM1 (fn := Try.f76) rfl rfl (ti := false) (hs := []) (c := _) (by kernel_rfl) h
-- 1 paths
theorem op2_1 (x y : Nat) (h : AllP []) : PureTo Try.prog 77 [.v (.float .f64 x), .v (.float .f64 y)] (AV.fl FloatKind.f64 (fmul x y)) :=
  evFn_pure hm soM1 (fn := Try.f77) rfl rfl (ti := false) (hs := []) (c := _) (by kernel_rfl) h
-- 1 paths
theorem op3_1 (x y : Nat) (h : AllP []) : PureTo Try.prog 78 [.v (.float .f64 x), .v (.float .f64 y)] (AV.fl FloatKind.f64 (fdiv x y)) :=
  evFn_pure hm soM1 (fn := Try.f78) rfl rfl (ti := false) (hs := []) (c := _) (by kernel_rfl) h
end Go.Proofs.Nu

/- Numbers: Uint32. -/
set_option maxRecDepth 100000
set_option exponentiation.threshold 2200
namespace Go.Proofs.Nu
open Go Go.Ev

/-- a number's whole part, with its sign -/
def wholeI (x : Nat) : Int := sv (sg x) (valN (rg x) / U)
def u32N (x : Nat) : Int := if Fit x then wholeI x % 4294967296 else 0

def c32 : Nat := 4751297606875873280
theorem valN_c32 : valN (rg c32) = 4294967296 * U := by
  have e1 : sigM (rg c32) = 2 ^ 52 := by decide
  have e2 : sigK (rg c32) = 1054 := by decide
  have e3 : (4294967296 : Nat) = 2 ^ 32 := by decide
  unfold valN U
  rw [e1, e2, e3, ← Nat.pow_add]

theorem lt53 {n : Nat} (h : n < 9007199254740992) : n < 2 ^ 53 := h
/-- the rest by 2 ^ 32 -/
theorem mod32 {x : Nat} (hx : Fit x) : ∃ r, r < 9218868437227405312 ∧ valN r = valN (rg x) / U % 4294967296 * U ∧ modW (intW .zero x) c32 = wordOf (sg x) r := by
  obtain ⟨t, t1, t2, t3⟩ := trunc_V hx
  obtain ⟨r, r1, r2⟩ := whole_rep (n := valN (rg x) / U % 4294967296) (lt53 (by omega))
  refine ⟨r, r1, r2, ?_⟩
  have hc : Fit c32 := by decide
  have hb : ¬ (¬ Fit (intW .zero x) ∨ ¬ Num c32 ∨ rg c32 = 0) := by
    rw [t3]
    rintro (h | h | h)
    · exact h (fit_word t1)
    · exact h hc.num
    · exact absurd h (by decide)
  unfold modW
  rw [if_neg hb, t3]
  unfold modR
  rw [if_neg (by decide), sg_wordOf (Nat.le_of_lt t1), rg_wordOf (Nat.le_of_lt t1), t2, valN_c32, Nat.mul_mod_mul_right, ← r2, rd_val (Nat.le_of_lt r1)]

theorem V_c32 : V c32 = ((4294967296 * U : Nat) : Int) := by
  have h1 : V c32 = sv (sg c32) (valN (rg c32)) := rfl
  have h2 : sg c32 = false := by decide
  rw [h1, h2, valN_c32]; rfl
theorem fit_c32 : Fit c32 := by decide
theorem add_core {r z a b c : Nat} (hr : r < 9218868437227405312) (hz : z < 9218868437227405312) (hc : Fit c) (hv : valN r = a) (hb : V c = (b : Int)) (h : valN z = b - a) (hab : a < b) : fadd (wordOf true r) c = wordOf false z := by
  have hVr : V (wordOf true r) = -(a : Int) := by rw [V_wordOf (Nat.le_of_lt hr), hv]; rfl
  have hf : Fit (wordOf true r) := fit_word hr
  have e : (-(a : Int) + (b : Int)).natAbs = valN z := by rw [h]; omega
  have n1 : ¬ (-(a : Int) + (b : Int) = 0) := by omega
  have n2 : ¬ (-(a : Int) + (b : Int) < 0) := by omega
  rw [fadd_V hf hc, hVr, hb, e, rd_val (Nat.le_of_lt hz), if_neg n1, decide_eq_false n2]
theorem sub_scale (a b u : Nat) : (b - a) * u = b * u - a * u := Nat.sub_mul _ _ _
theorem lt_scale {a b u : Nat} (h : a < b) (hu : 0 < u) : a * u < b * u := Nat.mul_lt_mul_of_pos_right h hu
/-- 2 ^ 32 more -/
theorem add32 {r q : Nat} (hr : r < 9218868437227405312) (hq : q < 4294967296) (h0 : q ≠ 0) (hv : valN r = q * U) : ∃ z, z < 9218868437227405312 ∧ valN z = (4294967296 - q) * U ∧ fadd (wordOf true r) c32 = wordOf false z := by
  obtain ⟨z, z1, z2⟩ := whole_rep (n := 4294967296 - q) (lt53 (by omega))
  exact ⟨z, z1, z2, add_core hr z1 fit_c32 hv V_c32 (z2.trans (sub_scale q 4294967296 U)) (lt_scale hq U_pos)⟩

theorem ftoI_word {s : Bool} {r n : Nat} (hr : r < 9218868437227405312) (hv : valN r = n * U) : fhasI (wordOf s r) ∧ ftoI (wordOf s r) = sv s n := by
  obtain ⟨i1, i2⟩ := ftoI_V (x := wordOf s r) (fit_word hr)
  rw [sg_wordOf (Nat.le_of_lt hr), rg_wordOf (Nat.le_of_lt hr), hv, Nat.mul_div_cancel _ U_pos] at i2
  exact ⟨i1, i2⟩
theorem lt_zero_word {s : Bool} {r : Nat} (hr : r < 9218868437227405312) : flt .f64 (wordOf s r) 0 = (s && decide (r ≠ 0)) := by
  rw [flt_V (num_word (Nat.le_of_lt hr)) fin_zero.num, V_null, V_wordOf (Nat.le_of_lt hr)]
  cases s with
  | false => rw [sv_pos, Bool.false_and, decide_eq_false (by omega)]
  | true =>
    rw [sv_neg, Bool.true_and]
    have h := @valN_inj r 0
    rw [valN_zero] at h
    by_cases h0 : r = 0
    · rw [decide_eq_false (p := r ≠ 0) (fun h' => h' h0), decide_eq_false]
      have := h.2 h0
      omega
    · rw [decide_eq_true h0, decide_eq_true]
      have : valN r ≠ 0 := fun h' => h0 (h.1 h')
      omega

theorem u32_c {x : Nat} (hw : FWord x) : PureTo Try.prog 22 [.v (.float .f64 x)] (.v (.int .u32 (u32N x))) := by
  by_cases hx : Fit x
  · obtain ⟨t, t1, t2, t3⟩ := trunc_V hx
    obtain ⟨r, r1, r2, r3⟩ := mod32 hx
    have c1 := isNaN_num.2 hx.num
    have c2 := notInf hx
    have c3 : FWord (intW .zero x) := by rw [t3]; exact word_wordOf (Nat.le_of_lt t1)
    have c4 : ¬ nanB .f64 (intW .zero x) := num_iff.1 (by rw [t3]; exact num_word (Nat.le_of_lt t1))
    have hl := lt_zero_word (s := sg x) r1
    have hc : (4751297606875873280 : Nat) = c32 := rfl
    have hcw : FWord c32 := by unfold FWord; decide
    unfold u32N wholeI
    rw [if_pos hx]
    generalize valN (rg x) / U = q at *
    have hq : q % 4294967296 < 4294967296 := Nat.mod_lt _ (by decide)
    have hr0 : r = 0 ↔ q % 4294967296 = 0 := by
      have h := @valN_inj r 0
      rw [valN_zero, r2] at h
      rw [← h]
      exact ⟨fun h => by
        rcases Nat.mul_eq_zero.1 h with h | h
        · exact h
        · have := U_pos; omega, fun h => by rw [h, Nat.zero_mul]⟩
    by_cases hneg : sg x = true ∧ q % 4294967296 ≠ 0
    · obtain ⟨hs, h0⟩ := hneg
      have hr0' : r ≠ 0 := fun h => h0 (hr0.1 h)
      rw [hs] at r3 hl
      rw [decide_eq_true hr0'] at hl
      obtain ⟨z, z1, z2, z3⟩ := add32 r1 hq h0 r2
      obtain ⟨i1, i2⟩ := ftoI_word (s := false) z1 z2
      have hres : ftoI (wordOf false z) = sv (sg x) q % 4294967296 := by
        rw [i2, hs, sv_neg, sv_pos]
        omega
      have := u323 x
      rw [hc, r3, z3, hres] at this
      exact this ⟨c1, c2, c3, hcw, c4, hl, i1, by simp only [inR]; omega, trivial⟩
    · have hlt : flt FloatKind.f64 (wordOf (sg x) r) 0 = false := by
        rw [hl]
        cases hs : sg x with
        | false => rfl
        | true =>
          have h0 : q % 4294967296 = 0 := Classical.not_not.1 fun h => hneg ⟨hs, h⟩
          rw [decide_eq_false (fun h => h (hr0.2 h0))]; rfl
      obtain ⟨i1, i2⟩ := ftoI_word (s := sg x) r1 r2
      have hres : ftoI (wordOf (sg x) r) = sv (sg x) q % 4294967296 := by
        rw [i2]
        cases hs : sg x with
        | false => rw [sv_pos, sv_pos]; omega
        | true =>
          have h0 : q % 4294967296 = 0 := Classical.not_not.1 fun h => hneg ⟨hs, h⟩
          rw [h0, sv_neg, sv_neg]
          omega
      have := u324 x
      rw [hc, r3, hres] at this
      exact this ⟨c1, c2, c3, hcw, c4, hlt, i1, by simp only [inR]; omega, trivial⟩
  · unfold u32N
    rw [if_neg hx]
    by_cases hn : Num x
    · refine u322 x ⟨isNaN_num.2 hn, ?_, trivial⟩
      rw [isInf_eq, decide_eq_true]
      unfold Fit at hx
      unfold Num at hn
      omega
    · exact u321 x ⟨isNaN_of hn, trivial⟩
def sigU32 : List AV → Option (AV × List Prop)
  | [.v (.float .f64 x)] => some (.v (.int .u32 (u32N x)), [FWord x])
  | _ => none
def SM2 : SGT := (22, .p sigU32) :: (55, .p sigOps) :: SM1
theorem sigOps_ok : ∀ ys r c, sigOps ys = some (r, c) → AllP c → PureTo Try.prog 55 ys r := by
  intro ys r c hs hc
  unfold sigOps at hs
  split at hs
  · cases hs; exact operators_pure
  · cases hs
theorem sigU32_ok : ∀ ys r c, sigU32 ys = some (r, c) → AllP c → PureTo Try.prog 22 ys r := by
  intro ys r c hs hc
  unfold sigU32 at hs
  split at hs
  · cases hs; exact u32_c hc.1
  · cases hs
theorem soM2 : SigsOK Try.prog SM2 := sigs_cons (sigs_cons soM1 sigOps_ok) sigU32_ok
end Go.Proofs.Nu

/- Numbers: walks, written by the tool. -/
set_option maxRecDepth 100000
namespace Go.Proofs.Nu
open Go Go.Ev

-- 1 paths
theorem i321 (x : Nat) (h : AllP [FWord x]) : PureTo Try.prog 23 [.v (.float .f64 x)] (AV.v (.int .i32 (IntKind.i32.wrap (u32N x)))) :=
  evFn_pure hm soM2 (fn := Try.f23) rfl rfl (ti := false) (hs := []) (c := _) (by kernel_rfl) h
-- 1 paths
theorem u161 (x : Nat) (h : AllP [FWord x]) : PureTo Try.prog 39 [.v (.float .f64 x)] (AV.v (.int .u16 (u32N x % (65536 : Int)))) :=
  evFn_pure hm soM2 (fn := Try.f39) rfl rfl (ti := false) (hs := []) (c := _) (by kernel_rfl) h
end Go.Proofs.Nu

/- Numbers: the table with Int32. -/
set_option maxRecDepth 100000
namespace Go.Proofs.Nu
open Go Go.Ev
def i32N (x : Nat) : Int := IntKind.i32.wrap (u32N x)
def sigI32 : List AV → Option (AV × List Prop)
  | [.v (.float .f64 x)] => some (.v (.int .i32 (i32N x)), [FWord x])
  | _ => none
theorem sigI32_ok : ∀ ys r c, sigI32 ys = some (r, c) → AllP c → PureTo Try.prog 23 ys r := by
  intro ys r c hs hc
  unfold sigI32 at hs
  split at hs
  · cases hs; exact i321 _ ⟨hc.1, trivial⟩
  · cases hs
def SM3 : SGT := (23, .p sigI32) :: SM2
theorem soM3 : SigsOK Try.prog SM3 := sigs_cons soM2 sigI32_ok
end Go.Proofs.Nu

/- Numbers: walks, written by the tool. -/
set_option maxRecDepth 100000
namespace Go.Proofs.Nu
open Go Go.Ev

-- 1 paths
theorem op5_1 (x y : Nat) (h : AllP [FWord x, FWord y, (32 : Int) ≠ (0 : Int), (0 : Int) ≤ (u32N y).tmod (32 : Int)]) : PureTo Try.prog 79 [.v (.float .f64 x), .v (.float .f64 y)] (AV.v (.float FloatKind.f64 (fofI (IntKind.i32.wrap (i32N x * (2 : Int) ^ min ((u32N y).tmod (32 : Int)).toNat 32))))) :=
  evFn_pure hm soM3 (fn := Try.f79) rfl rfl (ti := false) (hs := [CHint.ops 1 [(5, Hint.wrap)]]) (c := _) (by kernel_rfl) h
-- 1 paths
theorem op6_1 (x y : Nat) (h : AllP [FWord x, FWord y, (32 : Int) ≠ (0 : Int), (0 : Int) ≤ (u32N y).tmod (32 : Int)]) : PureTo Try.prog 80 [.v (.float .f64 x), .v (.float .f64 y)] (AV.v (.float FloatKind.f64 (fofI (i32N x / (2 : Int) ^ min ((u32N y).tmod (32 : Int)).toNat 32)))) :=
  evFn_pure hm soM3 (fn := Try.f80) rfl rfl (ti := false) (hs := []) (c := _) (by kernel_rfl) h
-- 1 paths
theorem op7_1 (x y : Nat) (h : AllP [FWord x, FWord y, (32 : Int) ≠ (0 : Int), (0 : Int) ≤ (u32N y).tmod (32 : Int)]) : PureTo Try.prog 81 [.v (.float .f64 x), .v (.float .f64 y)] (AV.v (.float FloatKind.f64 (fofI (u32N x / (2 : Int) ^ min ((u32N y).tmod (32 : Int)).toNat 32)))) :=
  evFn_pure hm soM3 (fn := Try.f81) rfl rfl (ti := false) (hs := []) (c := _) (by kernel_rfl) h
-- 1 paths
theorem op8_1 (x y : Nat) (h : AllP [FWord x, FWord y]) : PureTo Try.prog 82 [.v (.float .f64 x), .v (.float .f64 y)] (AV.v (.float FloatKind.f64 (fofI (bitsOf BinOp.and IntKind.i32 (i32N x) (i32N y))))) :=
  evFn_pure hm soM3 (fn := Try.f82) rfl rfl (ti := false) (hs := []) (c := _) (by kernel_rfl) h
-- 1 paths
theorem op9_1 (x y : Nat) (h : AllP [FWord x, FWord y]) : PureTo Try.prog 83 [.v (.float .f64 x), .v (.float .f64 y)] (AV.v (.float FloatKind.f64 (fofI (bitsOf BinOp.or IntKind.i32 (i32N x) (i32N y))))) :=
  evFn_pure hm soM3 (fn := Try.f83) rfl rfl (ti := false) (hs := []) (c := _) (by kernel_rfl) h
-- 1 paths
theorem opA_1 (x y : Nat) (h : AllP [FWord x, FWord y]) : PureTo Try.prog 84 [.v (.float .f64 x), .v (.float .f64 y)] (AV.v (.float FloatKind.f64 (fofI (bitsOf BinOp.xor IntKind.i32 (i32N x) (i32N y))))) :=
  evFn_pure hm soM3 (fn := Try.f84) rfl rfl (ti := false) (hs := []) (c := _) (by kernel_rfl) h
end Go.Proofs.Nu

/- Numbers: the operators' functions; the table. -/
set_option maxRecDepth 100000
namespace Go.Proofs.Nu
open Go Go.Ev

def shiftN (y : Nat) : Nat := ((u32N y).tmod 32).toNat
def shlI (x y : Nat) : Int := IntKind.i32.wrap (i32N x * (2 : Int) ^ min (shiftN y) 32)
def shrI (x y : Nat) : Int := i32N x / (2 : Int) ^ min (shiftN y) 32
def shuI (x y : Nat) : Int := u32N x / (2 : Int) ^ min (shiftN y) 32
def andI (x y : Nat) : Int := bitsOf BinOp.and IntKind.i32 (i32N x) (i32N y)
def orI (x y : Nat) : Int := bitsOf BinOp.or IntKind.i32 (i32N x) (i32N y)
def xorI (x y : Nat) : Int := bitsOf BinOp.xor IntKind.i32 (i32N x) (i32N y)

theorem u32N_range (x : Nat) : 0 ≤ u32N x ∧ u32N x < 4294967296 := by
  unfold u32N
  split
  · omega
  · omega
theorem shift_nonneg (y : Nat) : (0 : Int) ≤ (u32N y).tmod 32 := by
  have := u32N_range y
  rw [Int.tmod_eq_emod_of_nonneg this.1]
  omega

def sigWW (g : Nat → Nat → AV) : List AV → Option (AV × List Prop)
  | [.v (.float .f64 x), .v (.float .f64 y)] => some (g x y, [FWord x, FWord y])
  | _ => none
theorem cons_WW {SG : SGT} {f : FuncId} (g : Nat → Nat → AV) (h : SigsOK Try.prog SG) (hf : ∀ x y, FWord x → FWord y → PureTo Try.prog f [.v (.float .f64 x), .v (.float .f64 y)] (g x y)) : SigsOK Try.prog ((f, .p (sigWW g)) :: SG) := by
  refine sigs_cons h ?_
  intro ys r c hs hc
  unfold sigWW at hs
  split at hs
  · cases hs; exact hf _ _ hc.1 hc.2.1
  · cases hs

def SM4 : SGT := (75, .p (sigWW fun x y => .fl .f64 (fadd x y))) :: (76, .p (sigWW fun x y => .fl .f64 (fsub x y))) :: (77, .p (sigWW fun x y => .fl .f64 (fmul x y))) :: (78, .p (sigWW fun x y => .fl .f64 (fdiv x y))) ::
  (79, .p (sigWW fun x y => .v (.float .f64 (fofI (shlI x y))))) :: (80, .p (sigWW fun x y => .v (.float .f64 (fofI (shrI x y))))) :: (81, .p (sigWW fun x y => .v (.float .f64 (fofI (shuI x y))))) ::
  (82, .p (sigWW fun x y => .v (.float .f64 (fofI (andI x y))))) :: (83, .p (sigWW fun x y => .v (.float .f64 (fofI (orI x y))))) :: (84, .p (sigWW fun x y => .v (.float .f64 (fofI (xorI x y))))) :: SM3
theorem soM4 : SigsOK Try.prog SM4 := by
  have a1 := cons_WW (fun x y => .v (.float .f64 (fofI (xorI x y)))) soM3 fun x y a b => opA_1 x y ⟨a, b, trivial⟩
  have a2 := cons_WW (fun x y => .v (.float .f64 (fofI (orI x y)))) a1 fun x y a b => op9_1 x y ⟨a, b, trivial⟩
  have a3 := cons_WW (fun x y => .v (.float .f64 (fofI (andI x y)))) a2 fun x y a b => op8_1 x y ⟨a, b, trivial⟩
  have a4 := cons_WW (fun x y => .v (.float .f64 (fofI (shuI x y)))) a3 fun x y a b => op7_1 x y ⟨a, b, by decide, shift_nonneg y, trivial⟩
  have a5 := cons_WW (fun x y => .v (.float .f64 (fofI (shrI x y)))) a4 fun x y a b => op6_1 x y ⟨a, b, by decide, shift_nonneg y, trivial⟩
  have a6 := cons_WW (fun x y => .v (.float .f64 (fofI (shlI x y)))) a5 fun x y a b => op5_1 x y ⟨a, b, by decide, shift_nonneg y, trivial⟩
  have a7 := cons_WW (fun x y => .fl .f64 (fdiv x y)) a6 fun x y _ _ => op3_1 x y trivial
  have a8 := cons_WW (fun x y => .fl .f64 (fmul x y)) a7 fun x y _ _ => op2_1 x y trivial
  have a9 := cons_WW (fun x y => .fl .f64 (fsub x y)) a8 fun x y _ _ => op1_1 x y trivial
  exact cons_WW (fun x y => .fl .f64 (fadd x y)) a9 fun x y _ _ => op0_1 x y trivial
end Go.Proofs.Nu

/- Numbers: walks, written by the tool. -/
set_option maxRecDepth 100000
namespace Go.Proofs.Nu
open Go Go.Ev

-- 1 paths
theorem bin0_1 (s : ByteArray) (x y : Nat) (h : AllP [s = opNames.getD 0 ByteArray.empty ∧ ∀ (k : ByteArray), k ∈ List.take 0 opNames → k ≠ s, FWord x, FWord y]) : PureTo Try.prog 12 [.v (.string s), .v (.float .f64 x), .v (.float .f64 y)] (AV.tup [AV.v (.float FloatKind.f64 (toldW (fadd x y))), AV.v (.int .i64 (0 : Int))]) :=
  evFn_pure hm soM4 (fn := Try.f12) rfl rfl (ti := false) (hs := [CHint.ops 1 [(2, Hint.at 0)]]) (c := _) (by kernel_rfl) h
-- 1 paths
theorem bin1_1 (s : ByteArray) (x y : Nat) (h : AllP [s = opNames.getD 1 ByteArray.empty ∧ ∀ (k : ByteArray), k ∈ List.take 1 opNames → k ≠ s, FWord x, FWord y]) : PureTo Try.prog 12 [.v (.string s), .v (.float .f64 x), .v (.float .f64 y)] (AV.tup [AV.v (.float FloatKind.f64 (toldW (fsub x y))), AV.v (.int .i64 (0 : Int))]) :=
  evFn_pure hm soM4 (fn := Try.f12) rfl rfl (ti := false) (hs := [CHint.ops 1 [(2, Hint.at 1)]]) (c := _) (by kernel_rfl) h
-- 1 paths
theorem bin2_1 (s : ByteArray) (x y : Nat) (h : AllP [s = opNames.getD 2 ByteArray.empty ∧ ∀ (k : ByteArray), k ∈ List.take 2 opNames → k ≠ s, FWord x, FWord y]) : PureTo Try.prog 12 [.v (.string s), .v (.float .f64 x), .v (.float .f64 y)] (AV.tup [AV.v (.float FloatKind.f64 (toldW (fmul x y))), AV.v (.int .i64 (0 : Int))]) :=
  evFn_pure hm soM4 (fn := Try.f12) rfl rfl (ti := false) (hs := [CHint.ops 1 [(2, Hint.at 2)]]) (c := _) (by kernel_rfl) h
-- 1 paths
theorem bin3_1 (s : ByteArray) (x y : Nat) (h : AllP [s = opNames.getD 3 ByteArray.empty ∧ ∀ (k : ByteArray), k ∈ List.take 3 opNames → k ≠ s, FWord x, FWord y]) : PureTo Try.prog 12 [.v (.string s), .v (.float .f64 x), .v (.float .f64 y)] (AV.tup [AV.v (.float FloatKind.f64 (toldW (fdiv x y))), AV.v (.int .i64 (0 : Int))]) :=
  evFn_pure hm soM4 (fn := Try.f12) rfl rfl (ti := false) (hs := [CHint.ops 1 [(2, Hint.at 3)]]) (c := _) (by kernel_rfl) h
-- 1 paths
theorem bin4_1 (s : ByteArray) (x y : Nat) (h : AllP [s = opNames.getD 4 ByteArray.empty ∧ ∀ (k : ByteArray), k ∈ List.take 4 opNames → k ≠ s, FWord x, FWord y]) : PureTo Try.prog 12 [.v (.string s), .v (.float .f64 x), .v (.float .f64 y)] (AV.tup [AV.v (.float FloatKind.f64 (toldW (modW x y))), AV.v (.int .i64 (0 : Int))]) :=
  evFn_pure hm soM4 (fn := Try.f12) rfl rfl (ti := false) (hs := [CHint.ops 1 [(2, Hint.at 4)]]) (c := _) (by kernel_rfl) h
-- 1 paths
theorem bin5_1 (s : ByteArray) (x y : Nat) (h : AllP [s = opNames.getD 5 ByteArray.empty ∧ ∀ (k : ByteArray), k ∈ List.take 5 opNames → k ≠ s, FWord x, FWord y]) : PureTo Try.prog 12 [.v (.string s), .v (.float .f64 x), .v (.float .f64 y)] (AV.tup [AV.v (.float FloatKind.f64 (toldW (fofI (shlI x y)))), AV.v (.int .i64 (0 : Int))]) :=
  evFn_pure hm soM4 (fn := Try.f12) rfl rfl (ti := false) (hs := [CHint.ops 1 [(2, Hint.at 5)]]) (c := _) (by kernel_rfl) h
-- 1 paths
theorem bin6_1 (s : ByteArray) (x y : Nat) (h : AllP [s = opNames.getD 6 ByteArray.empty ∧ ∀ (k : ByteArray), k ∈ List.take 6 opNames → k ≠ s, FWord x, FWord y]) : PureTo Try.prog 12 [.v (.string s), .v (.float .f64 x), .v (.float .f64 y)] (AV.tup [AV.v (.float FloatKind.f64 (toldW (fofI (shrI x y)))), AV.v (.int .i64 (0 : Int))]) :=
  evFn_pure hm soM4 (fn := Try.f12) rfl rfl (ti := false) (hs := [CHint.ops 1 [(2, Hint.at 6)]]) (c := _) (by kernel_rfl) h
-- 1 paths
theorem bin7_1 (s : ByteArray) (x y : Nat) (h : AllP [s = opNames.getD 7 ByteArray.empty ∧ ∀ (k : ByteArray), k ∈ List.take 7 opNames → k ≠ s, FWord x, FWord y]) : PureTo Try.prog 12 [.v (.string s), .v (.float .f64 x), .v (.float .f64 y)] (AV.tup [AV.v (.float FloatKind.f64 (toldW (fofI (shuI x y)))), AV.v (.int .i64 (0 : Int))]) :=
  evFn_pure hm soM4 (fn := Try.f12) rfl rfl (ti := false) (hs := [CHint.ops 1 [(2, Hint.at 7)]]) (c := _) (by kernel_rfl) h
-- 1 paths
theorem bin8_1 (s : ByteArray) (x y : Nat) (h : AllP [s = opNames.getD 8 ByteArray.empty ∧ ∀ (k : ByteArray), k ∈ List.take 8 opNames → k ≠ s, FWord x, FWord y]) : PureTo Try.prog 12 [.v (.string s), .v (.float .f64 x), .v (.float .f64 y)] (AV.tup [AV.v (.float FloatKind.f64 (toldW (fofI (andI x y)))), AV.v (.int .i64 (0 : Int))]) :=
  evFn_pure hm soM4 (fn := Try.f12) rfl rfl (ti := false) (hs := [CHint.ops 1 [(2, Hint.at 8)]]) (c := _) (by kernel_rfl) h
-- 1 paths
theorem bin9_1 (s : ByteArray) (x y : Nat) (h : AllP [s = opNames.getD 9 ByteArray.empty ∧ ∀ (k : ByteArray), k ∈ List.take 9 opNames → k ≠ s, FWord x, FWord y]) : PureTo Try.prog 12 [.v (.string s), .v (.float .f64 x), .v (.float .f64 y)] (AV.tup [AV.v (.float FloatKind.f64 (toldW (fofI (orI x y)))), AV.v (.int .i64 (0 : Int))]) :=
  evFn_pure hm soM4 (fn := Try.f12) rfl rfl (ti := false) (hs := [CHint.ops 1 [(2, Hint.at 9)]]) (c := _) (by kernel_rfl) h
-- 1 paths
theorem bin10_1 (s : ByteArray) (x y : Nat) (h : AllP [s = opNames.getD 10 ByteArray.empty ∧ ∀ (k : ByteArray), k ∈ List.take 10 opNames → k ≠ s, FWord x, FWord y]) : PureTo Try.prog 12 [.v (.string s), .v (.float .f64 x), .v (.float .f64 y)] (AV.tup [AV.v (.float FloatKind.f64 (toldW (fofI (xorI x y)))), AV.v (.int .i64 (0 : Int))]) :=
  evFn_pure hm soM4 (fn := Try.f12) rfl rfl (ti := false) (hs := [CHint.ops 1 [(2, Hint.at 10)]]) (c := _) (by kernel_rfl) h
-- 1 paths
theorem binX_1 (s : ByteArray) (x y : Nat) (h : AllP [∀ (k : ByteArray), k ∈ opNames → k ≠ s]) : PureTo Try.prog 12 [.v (.string s), .v (.float .f64 x), .v (.float .f64 y)] (AV.tup [AV.v (.float FloatKind.f64 0), AV.v (.int .i64 (1 : Int))]) :=
  evFn_pure hm soM4 (fn := Try.f12) rfl rfl (ti := false) (hs := []) (c := _) (by kernel_rfl) h
-- 4 paths
theorem una1 (s : ByteArray) (x : Nat) (h : AllP [(s.toList == (ByteArray.mk #[(45 : UInt8)]).toList) = true]) : PureTo Try.prog 20 [.v (.string s), .v (.float .f64 x)] (AV.tup [AV.v (.float FloatKind.f64 (toldW (fneg x))), AV.v (.int .i64 (0 : Int))]) :=
  evFn_pure hm soM4 (fn := Try.f20) rfl rfl (ti := false) (hs := [CHint.ops 2 [(0, Hint.b true)]]) (c := _) (by kernel_rfl) h
theorem una2 (s : ByteArray) (x : Nat) (h : AllP [(s.toList == (ByteArray.mk #[(45 : UInt8)]).toList) = false, (s.toList == (ByteArray.mk #[(43 : UInt8)]).toList) = true]) : PureTo Try.prog 20 [.v (.string s), .v (.float .f64 x)] (AV.tup [AV.v (.float FloatKind.f64 (toldW x)), AV.v (.int .i64 (0 : Int))]) :=
  evFn_pure hm soM4 (fn := Try.f20) rfl rfl (ti := false) (hs := [CHint.ops 2 [(0, Hint.b false)], CHint.ops 4 [(0, Hint.b true)]]) (c := _) (by kernel_rfl) h
theorem una3 (s : ByteArray) (x : Nat) (h : AllP [(s.toList == (ByteArray.mk #[(45 : UInt8)]).toList) = false, (s.toList == (ByteArray.mk #[(43 : UInt8)]).toList) = false, (s.toList == (ByteArray.mk #[(126 : UInt8)]).toList) = true, FWord x]) : PureTo Try.prog 20 [.v (.string s), .v (.float .f64 x)] (AV.tup [AV.v (.float FloatKind.f64 (fofI (bitsOf BinOp.xor IntKind.i32 (if IntKind.i32.signed = true then (-1 : Int) else IntKind.i32.max) (i32N x)))), AV.v (.int .i64 (0 : Int))]) :=
  evFn_pure hm soM4 (fn := Try.f20) rfl rfl (ti := false) (hs := [CHint.ops 2 [(0, Hint.b false)], CHint.ops 4 [(0, Hint.b false)], CHint.ops 6 [(0, Hint.b true)]]) (c := _) (by kernel_rfl) h
theorem una4 (s : ByteArray) (x : Nat) (h : AllP [(s.toList == (ByteArray.mk #[(45 : UInt8)]).toList) = false, (s.toList == (ByteArray.mk #[(43 : UInt8)]).toList) = false, (s.toList == (ByteArray.mk #[(126 : UInt8)]).toList) = false]) : PureTo Try.prog 20 [.v (.string s), .v (.float .f64 x)] (AV.tup [AV.v (.float FloatKind.f64 0), AV.v (.int .i64 (1 : Int))]) :=
  evFn_pure hm soM4 (fn := Try.f20) rfl rfl (ti := false) (hs := [CHint.ops 2 [(0, Hint.b false)], CHint.ops 4 [(0, Hint.b false)], CHint.ops 6 [(0, Hint.b false)]]) (c := _) (by kernel_rfl) h
end Go.Proofs.Nu

/- Numbers: Binary and Unary; the table. -/
set_option maxRecDepth 100000
namespace Go.Proofs.Nu
open Go Go.Ev

/-- what an operator makes of two numbers -/
def opW (i : Option Nat) (x y : Nat) : Nat :=
  match i with
  | some 0 => toldW (fadd x y)
  | some 1 => toldW (fsub x y)
  | some 2 => toldW (fmul x y)
  | some 3 => toldW (fdiv x y)
  | some 4 => toldW (modW x y)
  | some 5 => toldW (fofI (shlI x y))
  | some 6 => toldW (fofI (shrI x y))
  | some 7 => toldW (fofI (shuI x y))
  | some 8 => toldW (fofI (andI x y))
  | some 9 => toldW (fofI (orI x y))
  | some 10 => toldW (fofI (xorI x y))
  | _ => 0
def opIx (s : ByteArray) : Option Nat := opNames.findIdx? (fun k => decide (k = s))
def binW (s : ByteArray) (x y : Nat) : Nat := opW (opIx s) x y
def binE (s : ByteArray) : Int := if (opIx s).isSome then 0 else 1

theorem opIx_none {s : ByteArray} (h : ∀ k, k ∈ opNames → k ≠ s) : opIx s = none := by
  unfold opIx
  rw [List.findIdx?_eq_none_iff]
  exact fun k hk => by simpa using h k hk

theorem bin_c {s : ByteArray} {x y : Nat} (hx : FWord x) (hy : FWord y) : PureTo Try.prog 12 [.v (.string s), .v (.float .f64 x), .v (.float .f64 y)] (.tup [.v (.float .f64 (binW s x y)), .v (.int .i64 (binE s))]) := by
  by_cases h : ∀ k, k ∈ opNames → k ≠ s
  · have e := opIx_none h
    unfold binW binE
    rw [e]
    exact binX_1 s x y ⟨h, trivial⟩
  · have hs : s ∈ opNames := Classical.not_not.1 fun hn => h fun k hk hks => hn (hks ▸ hk)
    clear h
    unfold opNames at hs
    simp only [List.mem_cons, List.not_mem_nil, or_false] at hs
    rcases hs with rfl | rfl | rfl | rfl | rfl | rfl | rfl | rfl | rfl | rfl | rfl
    · exact bin0_1 _ x y ⟨⟨rfl, by decide⟩, hx, hy, trivial⟩
    · exact bin1_1 _ x y ⟨⟨rfl, by decide⟩, hx, hy, trivial⟩
    · exact bin2_1 _ x y ⟨⟨rfl, by decide⟩, hx, hy, trivial⟩
    · exact bin3_1 _ x y ⟨⟨rfl, by decide⟩, hx, hy, trivial⟩
    · exact bin4_1 _ x y ⟨⟨rfl, by decide⟩, hx, hy, trivial⟩
    · exact bin5_1 _ x y ⟨⟨rfl, by decide⟩, hx, hy, trivial⟩
    · exact bin6_1 _ x y ⟨⟨rfl, by decide⟩, hx, hy, trivial⟩
    · exact bin7_1 _ x y ⟨⟨rfl, by decide⟩, hx, hy, trivial⟩
    · exact bin8_1 _ x y ⟨⟨rfl, by decide⟩, hx, hy, trivial⟩
    · exact bin9_1 _ x y ⟨⟨rfl, by decide⟩, hx, hy, trivial⟩
    · exact bin10_1 _ x y ⟨⟨rfl, by decide⟩, hx, hy, trivial⟩

def notI (x : Nat) : Int := bitsOf BinOp.xor IntKind.i32 (-1) (i32N x)
def unK (s : ByteArray) : Nat := if (s.toList == (ByteArray.mk #[(45 : UInt8)]).toList) = true then 0 else if (s.toList == (ByteArray.mk #[(43 : UInt8)]).toList) = true then 1 else if (s.toList == (ByteArray.mk #[(126 : UInt8)]).toList) = true then 2 else 3
def unF (i x : Nat) : Nat :=
  match i with
  | 0 => toldW (fneg x)
  | 1 => toldW x
  | 2 => fofI (notI x)
  | _ => 0
def unW (s : ByteArray) (x : Nat) : Nat := unF (unK s) x
def unE (s : ByteArray) : Int := if unK s = 3 then 1 else 0
theorem una_c {s : ByteArray} {x : Nat} (hx : FWord x) : PureTo Try.prog 20 [.v (.string s), .v (.float .f64 x)] (.tup [.v (.float .f64 (unW s x)), .v (.int .i64 (unE s))]) := by
  unfold unW unE unK
  by_cases h1 : (s.toList == (ByteArray.mk #[(45 : UInt8)]).toList) = true
  · rw [if_pos h1]
    exact una1 s x ⟨h1, trivial⟩
  rw [if_neg h1]
  have h1' : (s.toList == (ByteArray.mk #[(45 : UInt8)]).toList) = false := by simpa using h1
  by_cases h2 : (s.toList == (ByteArray.mk #[(43 : UInt8)]).toList) = true
  · rw [if_pos h2]
    exact una2 s x ⟨h1', h2, trivial⟩
  rw [if_neg h2]
  have h2' : (s.toList == (ByteArray.mk #[(43 : UInt8)]).toList) = false := by simpa using h2
  by_cases h3 : (s.toList == (ByteArray.mk #[(126 : UInt8)]).toList) = true
  · rw [if_pos h3]
    exact una3 s x ⟨h1', h2', h3, hx, trivial⟩
  rw [if_neg h3]
  have h3' : (s.toList == (ByteArray.mk #[(126 : UInt8)]).toList) = false := by simpa using h3
  exact una4 s x ⟨h1', h2', h3', trivial⟩

def sigBin : List AV → Option (AV × List Prop)
  | [.v (.string s), .v (.float .f64 x), .v (.float .f64 y)] => some (.tup [.v (.float .f64 (binW s x y)), .v (.int .i64 (binE s))], [FWord x, FWord y])
  | [.v (.string s), .fl .f64 x, .v (.float .f64 y)] => some (.tup [.v (.float .f64 (binW s x y)), .v (.int .i64 (binE s))], [FWord x, FWord y, ¬ nanB .f64 x])
  | [.v (.string s), .fl .f64 x, .fl .f64 y] => some (.tup [.v (.float .f64 (binW s x y)), .v (.int .i64 (binE s))], [FWord x, FWord y, ¬ nanB .f64 x, ¬ nanB .f64 y])
  | _ => none
def sigUn : List AV → Option (AV × List Prop)
  | [.v (.string s), .v (.float .f64 x)] => some (.tup [.v (.float .f64 (unW s x)), .v (.int .i64 (unE s))], [FWord x])
  | _ => none
theorem sigBin_ok : ∀ ys r c, sigBin ys = some (r, c) → AllP c → PureTo Try.prog 12 ys r := by
  intro ys r c hs hc
  unfold sigBin at hs
  split at hs
  · cases hs; exact bin_c hc.1 hc.2.1
  · cases hs
    exact (bin_c hc.1 hc.2.1).args rfl fun i h1 h2 => by
      have : i = 0 ∨ i = 1 ∨ i = 2 := by simp at h1; omega
      rcases this with rfl | rfl | rfl
      · exact .same _
      · exact .num _ hc.2.2.1
      · exact .same _
  · cases hs
    exact (bin_c hc.1 hc.2.1).args rfl fun i h1 h2 => by
      have : i = 0 ∨ i = 1 ∨ i = 2 := by simp at h1; omega
      rcases this with rfl | rfl | rfl
      · exact .same _
      · exact .num _ hc.2.2.1
      · exact .num _ hc.2.2.2.1
  · cases hs
theorem sigUn_ok : ∀ ys r c, sigUn ys = some (r, c) → AllP c → PureTo Try.prog 20 ys r := by
  intro ys r c hs hc
  unfold sigUn at hs
  split at hs
  · cases hs; exact una_c hc.1
  · cases hs
def SM5 : SGT := (12, .p sigBin) :: (20, .p sigUn) :: SM3
theorem soM5 : SigsOK Try.prog SM5 := sigs_cons (sigs_cons soM3 sigUn_ok) sigBin_ok
end Go.Proofs.Nu

/- Numbers: walks, written by the tool. -/
set_option maxRecDepth 100000
namespace Go.Proofs.Nu
open Go Go.Ev

-- 10 paths
theorem bitsL1 (a b : Int) (x : Nat) (h : AllP [FWord (fofI a), FWord (fofI b), FWord (fofI a), FWord (fofI b), FWord (fofI a), FWord (fofI b), FWord (fofI a), FWord (fofI a), FWord 4629700416936869888, FWord x, FWord x, (IntKind.i32.wrap (u32N x) == i32N x) = true, FWord (fofI a), (i32N (fofI a) == a) = true, FWord (fofI (a % (4294967296 : Int))), (i32N (fofI (a % (4294967296 : Int))) == a) = true, FWord (fofI (a % (4294967296 : Int))), (u32N (fofI (a % (4294967296 : Int))) == a % (4294967296 : Int)) = true, feq FloatKind.f64 (binW (ByteArray.mk #[(38 : UInt8)]) (fofI a) (fofI b)) (fofI (bitsOf BinOp.and IntKind.i32 a b)) = true, feq FloatKind.f64 (binW (ByteArray.mk #[(124 : UInt8)]) (fofI a) (fofI b)) (fofI (bitsOf BinOp.or IntKind.i32 a b)) = true, feq FloatKind.f64 (binW (ByteArray.mk #[(94 : UInt8)]) (fofI a) (fofI b)) (fofI (bitsOf BinOp.xor IntKind.i32 a b)) = true, feq FloatKind.f64 (unW (ByteArray.mk #[(126 : UInt8)]) (fofI a)) (fofI (bitsOf BinOp.xor IntKind.i32 (if IntKind.i32.signed = true then (-1 : Int) else IntKind.i32.max) a)) = true, feq FloatKind.f64 (binW (ByteArray.mk #[(60 : UInt8), (60 : UInt8)]) (fofI a) 4629700416936869888) (fofI a) = true]) : PureTo Try.prog 6 [.v (.int .i32 a), .v (.int .i32 b), .v (.float .f64 x)] (AV.v (.bool true)) :=
  evFn_pure hm soM5 (fn := Try.f6) rfl rfl (ti := false) (hs := [CHint.ops 8 [(7, Hint.b true), (14, Hint.b true), (20, Hint.b true), (27, Hint.b true), (35, Hint.b true), (43, Hint.b true), (51, Hint.b true), (58, Hint.b true), (64, Hint.b true)]]) (c := _) (by kernel_rfl) h
theorem bitsL2 (a b : Int) (x : Nat) (h : AllP [FWord (fofI a), FWord (fofI b), FWord (fofI a), FWord (fofI b), FWord (fofI a), FWord (fofI b), FWord (fofI a), FWord (fofI a), FWord 4629700416936869888, FWord x, FWord x, (IntKind.i32.wrap (u32N x) == i32N x) = true, FWord (fofI a), (i32N (fofI a) == a) = true, FWord (fofI (a % (4294967296 : Int))), (i32N (fofI (a % (4294967296 : Int))) == a) = true, FWord (fofI (a % (4294967296 : Int))), (u32N (fofI (a % (4294967296 : Int))) == a % (4294967296 : Int)) = true, feq FloatKind.f64 (binW (ByteArray.mk #[(38 : UInt8)]) (fofI a) (fofI b)) (fofI (bitsOf BinOp.and IntKind.i32 a b)) = true, feq FloatKind.f64 (binW (ByteArray.mk #[(124 : UInt8)]) (fofI a) (fofI b)) (fofI (bitsOf BinOp.or IntKind.i32 a b)) = true, feq FloatKind.f64 (binW (ByteArray.mk #[(94 : UInt8)]) (fofI a) (fofI b)) (fofI (bitsOf BinOp.xor IntKind.i32 a b)) = true, feq FloatKind.f64 (unW (ByteArray.mk #[(126 : UInt8)]) (fofI a)) (fofI (bitsOf BinOp.xor IntKind.i32 (if IntKind.i32.signed = true then (-1 : Int) else IntKind.i32.max) a)) = true, feq FloatKind.f64 (binW (ByteArray.mk #[(60 : UInt8), (60 : UInt8)]) (fofI a) 4629700416936869888) (fofI a) = false]) : PureTo Try.prog 6 [.v (.int .i32 a), .v (.int .i32 b), .v (.float .f64 x)] (AV.v (.bool false)) :=
  evFn_pure hm soM5 (fn := Try.f6) rfl rfl (ti := false) (hs := [CHint.ops 8 [(7, Hint.b true), (14, Hint.b true), (20, Hint.b true), (27, Hint.b true), (35, Hint.b true), (43, Hint.b true), (51, Hint.b true), (58, Hint.b true), (64, Hint.b false)]]) (c := _) (by kernel_rfl) h
theorem bitsL3 (a b : Int) (x : Nat) (h : AllP [FWord (fofI a), FWord (fofI b), FWord (fofI a), FWord (fofI b), FWord (fofI a), FWord (fofI b), FWord (fofI a), FWord (fofI a), FWord 4629700416936869888, FWord x, FWord x, (IntKind.i32.wrap (u32N x) == i32N x) = true, FWord (fofI a), (i32N (fofI a) == a) = true, FWord (fofI (a % (4294967296 : Int))), (i32N (fofI (a % (4294967296 : Int))) == a) = true, FWord (fofI (a % (4294967296 : Int))), (u32N (fofI (a % (4294967296 : Int))) == a % (4294967296 : Int)) = true, feq FloatKind.f64 (binW (ByteArray.mk #[(38 : UInt8)]) (fofI a) (fofI b)) (fofI (bitsOf BinOp.and IntKind.i32 a b)) = true, feq FloatKind.f64 (binW (ByteArray.mk #[(124 : UInt8)]) (fofI a) (fofI b)) (fofI (bitsOf BinOp.or IntKind.i32 a b)) = true, feq FloatKind.f64 (binW (ByteArray.mk #[(94 : UInt8)]) (fofI a) (fofI b)) (fofI (bitsOf BinOp.xor IntKind.i32 a b)) = true, feq FloatKind.f64 (unW (ByteArray.mk #[(126 : UInt8)]) (fofI a)) (fofI (bitsOf BinOp.xor IntKind.i32 (if IntKind.i32.signed = true then (-1 : Int) else IntKind.i32.max) a)) = false]) : PureTo Try.prog 6 [.v (.int .i32 a), .v (.int .i32 b), .v (.float .f64 x)] (AV.v (.bool false)) :=
  evFn_pure hm soM5 (fn := Try.f6) rfl rfl (ti := false) (hs := [CHint.ops 8 [(7, Hint.b true), (14, Hint.b true), (20, Hint.b true), (27, Hint.b true), (35, Hint.b true), (43, Hint.b true), (51, Hint.b true), (58, Hint.b false)]]) (c := _) (by kernel_rfl) h
theorem bitsL4 (a b : Int) (x : Nat) (h : AllP [FWord (fofI a), FWord (fofI b), FWord (fofI a), FWord (fofI b), FWord (fofI a), FWord (fofI b), FWord (fofI a), FWord (fofI a), FWord 4629700416936869888, FWord x, FWord x, (IntKind.i32.wrap (u32N x) == i32N x) = true, FWord (fofI a), (i32N (fofI a) == a) = true, FWord (fofI (a % (4294967296 : Int))), (i32N (fofI (a % (4294967296 : Int))) == a) = true, FWord (fofI (a % (4294967296 : Int))), (u32N (fofI (a % (4294967296 : Int))) == a % (4294967296 : Int)) = true, feq FloatKind.f64 (binW (ByteArray.mk #[(38 : UInt8)]) (fofI a) (fofI b)) (fofI (bitsOf BinOp.and IntKind.i32 a b)) = true, feq FloatKind.f64 (binW (ByteArray.mk #[(124 : UInt8)]) (fofI a) (fofI b)) (fofI (bitsOf BinOp.or IntKind.i32 a b)) = true, feq FloatKind.f64 (binW (ByteArray.mk #[(94 : UInt8)]) (fofI a) (fofI b)) (fofI (bitsOf BinOp.xor IntKind.i32 a b)) = false]) : PureTo Try.prog 6 [.v (.int .i32 a), .v (.int .i32 b), .v (.float .f64 x)] (AV.v (.bool false)) :=
  evFn_pure hm soM5 (fn := Try.f6) rfl rfl (ti := false) (hs := [CHint.ops 8 [(7, Hint.b true), (14, Hint.b true), (20, Hint.b true), (27, Hint.b true), (35, Hint.b true), (43, Hint.b true), (51, Hint.b false)]]) (c := _) (by kernel_rfl) h
theorem bitsL5 (a b : Int) (x : Nat) (h : AllP [FWord (fofI a), FWord (fofI b), FWord (fofI a), FWord (fofI b), FWord (fofI a), FWord (fofI b), FWord (fofI a), FWord (fofI a), FWord 4629700416936869888, FWord x, FWord x, (IntKind.i32.wrap (u32N x) == i32N x) = true, FWord (fofI a), (i32N (fofI a) == a) = true, FWord (fofI (a % (4294967296 : Int))), (i32N (fofI (a % (4294967296 : Int))) == a) = true, FWord (fofI (a % (4294967296 : Int))), (u32N (fofI (a % (4294967296 : Int))) == a % (4294967296 : Int)) = true, feq FloatKind.f64 (binW (ByteArray.mk #[(38 : UInt8)]) (fofI a) (fofI b)) (fofI (bitsOf BinOp.and IntKind.i32 a b)) = true, feq FloatKind.f64 (binW (ByteArray.mk #[(124 : UInt8)]) (fofI a) (fofI b)) (fofI (bitsOf BinOp.or IntKind.i32 a b)) = false]) : PureTo Try.prog 6 [.v (.int .i32 a), .v (.int .i32 b), .v (.float .f64 x)] (AV.v (.bool false)) :=
  evFn_pure hm soM5 (fn := Try.f6) rfl rfl (ti := false) (hs := [CHint.ops 8 [(7, Hint.b true), (14, Hint.b true), (20, Hint.b true), (27, Hint.b true), (35, Hint.b true), (43, Hint.b false)]]) (c := _) (by kernel_rfl) h
theorem bitsL6 (a b : Int) (x : Nat) (h : AllP [FWord (fofI a), FWord (fofI b), FWord (fofI a), FWord (fofI b), FWord (fofI a), FWord (fofI b), FWord (fofI a), FWord (fofI a), FWord 4629700416936869888, FWord x, FWord x, (IntKind.i32.wrap (u32N x) == i32N x) = true, FWord (fofI a), (i32N (fofI a) == a) = true, FWord (fofI (a % (4294967296 : Int))), (i32N (fofI (a % (4294967296 : Int))) == a) = true, FWord (fofI (a % (4294967296 : Int))), (u32N (fofI (a % (4294967296 : Int))) == a % (4294967296 : Int)) = true, feq FloatKind.f64 (binW (ByteArray.mk #[(38 : UInt8)]) (fofI a) (fofI b)) (fofI (bitsOf BinOp.and IntKind.i32 a b)) = false]) : PureTo Try.prog 6 [.v (.int .i32 a), .v (.int .i32 b), .v (.float .f64 x)] (AV.v (.bool false)) :=
  evFn_pure hm soM5 (fn := Try.f6) rfl rfl (ti := false) (hs := [CHint.ops 8 [(7, Hint.b true), (14, Hint.b true), (20, Hint.b true), (27, Hint.b true), (35, Hint.b false)]]) (c := _) (by kernel_rfl) h
theorem bitsL7 (a b : Int) (x : Nat) (h : AllP [FWord (fofI a), FWord (fofI b), FWord (fofI a), FWord (fofI b), FWord (fofI a), FWord (fofI b), FWord (fofI a), FWord (fofI a), FWord 4629700416936869888, FWord x, FWord x, (IntKind.i32.wrap (u32N x) == i32N x) = true, FWord (fofI a), (i32N (fofI a) == a) = true, FWord (fofI (a % (4294967296 : Int))), (i32N (fofI (a % (4294967296 : Int))) == a) = true, FWord (fofI (a % (4294967296 : Int))), (u32N (fofI (a % (4294967296 : Int))) == a % (4294967296 : Int)) = false]) : PureTo Try.prog 6 [.v (.int .i32 a), .v (.int .i32 b), .v (.float .f64 x)] (AV.v (.bool false)) :=
  evFn_pure hm soM5 (fn := Try.f6) rfl rfl (ti := false) (hs := [CHint.ops 8 [(7, Hint.b true), (14, Hint.b true), (20, Hint.b true), (27, Hint.b false)]]) (c := _) (by kernel_rfl) h
theorem bitsL8 (a b : Int) (x : Nat) (h : AllP [FWord (fofI a), FWord (fofI b), FWord (fofI a), FWord (fofI b), FWord (fofI a), FWord (fofI b), FWord (fofI a), FWord (fofI a), FWord 4629700416936869888, FWord x, FWord x, (IntKind.i32.wrap (u32N x) == i32N x) = true, FWord (fofI a), (i32N (fofI a) == a) = true, FWord (fofI (a % (4294967296 : Int))), (i32N (fofI (a % (4294967296 : Int))) == a) = false]) : PureTo Try.prog 6 [.v (.int .i32 a), .v (.int .i32 b), .v (.float .f64 x)] (AV.v (.bool false)) :=
  evFn_pure hm soM5 (fn := Try.f6) rfl rfl (ti := false) (hs := [CHint.ops 8 [(7, Hint.b true), (14, Hint.b true), (20, Hint.b false)]]) (c := _) (by kernel_rfl) h
theorem bitsL9 (a b : Int) (x : Nat) (h : AllP [FWord (fofI a), FWord (fofI b), FWord (fofI a), FWord (fofI b), FWord (fofI a), FWord (fofI b), FWord (fofI a), FWord (fofI a), FWord 4629700416936869888, FWord x, FWord x, (IntKind.i32.wrap (u32N x) == i32N x) = true, FWord (fofI a), (i32N (fofI a) == a) = false]) : PureTo Try.prog 6 [.v (.int .i32 a), .v (.int .i32 b), .v (.float .f64 x)] (AV.v (.bool false)) :=
  evFn_pure hm soM5 (fn := Try.f6) rfl rfl (ti := false) (hs := [CHint.ops 8 [(7, Hint.b true), (14, Hint.b false)]]) (c := _) (by kernel_rfl) h
theorem bitsL10 (a b : Int) (x : Nat) (h : AllP [FWord (fofI a), FWord (fofI b), FWord (fofI a), FWord (fofI b), FWord (fofI a), FWord (fofI b), FWord (fofI a), FWord (fofI a), FWord 4629700416936869888, FWord x, FWord x, (IntKind.i32.wrap (u32N x) == i32N x) = false]) : PureTo Try.prog 6 [.v (.int .i32 a), .v (.int .i32 b), .v (.float .f64 x)] (AV.v (.bool false)) :=
  evFn_pure hm soM5 (fn := Try.f6) rfl rfl (ti := false) (hs := [CHint.ops 8 [(7, Hint.b false)]]) (c := _) (by kernel_rfl) h
-- 16 paths
theorem restL1 (n : Int) (y : Nat) (p : Int) (h : AllP [isNaN y = true]) : PureTo Try.prog 4 [.v (.int .i32 n), .v (.float .f64 y), .v (.int .u16 p)] (AV.v (.bool true)) :=
  evFn_pure hm soM5 (fn := Try.f4) rfl rfl (ti := false) (hs := [CHint.ops 1 [(1, Hint.b true)]]) (c := _) (by kernel_rfl) h
theorem restL2 (n : Int) (y : Nat) (p : Int) (h : AllP [isNaN y = false, isInf y (0 : Int) = true]) : PureTo Try.prog 4 [.v (.int .i32 n), .v (.float .f64 y), .v (.int .u16 p)] (AV.v (.bool true)) :=
  evFn_pure hm soM5 (fn := Try.f4) rfl rfl (ti := false) (hs := [CHint.ops 1 [(1, Hint.b false), (4, Hint.b true)]]) (c := _) (by kernel_rfl) h
theorem restL3 (n : Int) (y : Nat) (p : Int) (h : AllP [isNaN y = false, isInf y (0 : Int) = false, feq FloatKind.f64 y 0 = true]) : PureTo Try.prog 4 [.v (.int .i32 n), .v (.float .f64 y), .v (.int .u16 p)] (AV.v (.bool true)) :=
  evFn_pure hm soM5 (fn := Try.f4) rfl rfl (ti := false) (hs := [CHint.ops 1 [(1, Hint.b false), (4, Hint.b false), (8, Hint.b true)]]) (c := _) (by kernel_rfl) h
theorem restL4 (n : Int) (y : Nat) (p : Int) (h : AllP [isNaN y = false, isInf y (0 : Int) = false, feq FloatKind.f64 y 0 = false, FWord (fofI n), FWord y, (fgt FloatKind.f64 (abs (binW (ByteArray.mk #[(37 : UInt8)]) (fofI n) y)) (abs y) || feq FloatKind.f64 (abs (binW (ByteArray.mk #[(37 : UInt8)]) (fofI n) y)) (abs y)) = true]) : PureTo Try.prog 4 [.v (.int .i32 n), .v (.float .f64 y), .v (.int .u16 p)] (AV.v (.bool false)) :=
  evFn_pure hm soM5 (fn := Try.f4) rfl rfl (ti := false) (hs := [CHint.ops 1 [(1, Hint.b false), (4, Hint.b false), (8, Hint.b false)], CHint.ops 4 [(7, Hint.b true)]]) (c := _) (by kernel_rfl) h
theorem restL5 (n : Int) (y : Nat) (p : Int) (h : AllP [isNaN y = false, isInf y (0 : Int) = false, feq FloatKind.f64 y 0 = false, FWord (fofI n), FWord y, (fgt FloatKind.f64 (abs (binW (ByteArray.mk #[(37 : UInt8)]) (fofI n) y)) (abs y) || feq FloatKind.f64 (abs (binW (ByteArray.mk #[(37 : UInt8)]) (fofI n) y)) (abs y)) = false, sgn (binW (ByteArray.mk #[(37 : UInt8)]) (fofI n) y) = true, decide (n < (0 : Int)) = true, inR IntKind.i64 p, inR IntKind.i64 (p + (1 : Int)), FWord (fadd (fmul (fofI n) (fofI (p + (1 : Int)))) 0), FWord (fofI (p + (1 : Int))), ¬nanB FloatKind.f64 (fadd (fmul (fofI n) (fofI (p + (1 : Int)))) 0), feq FloatKind.f64 (binW (ByteArray.mk #[(37 : UInt8)]) (fadd (fmul (fofI n) (fofI (p + (1 : Int)))) 0) (fofI (p + (1 : Int)))) 0 = true, sgn (binW (ByteArray.mk #[(37 : UInt8)]) (fadd (fmul (fofI n) (fofI (p + (1 : Int)))) 0) (fofI (p + (1 : Int)))) = true, decide (n < (0 : Int)) = true]) : PureTo Try.prog 4 [.v (.int .i32 n), .v (.float .f64 y), .v (.int .u16 p)] (AV.v (.bool true)) :=
  evFn_pure hm soM5 (fn := Try.f4) rfl rfl (ti := false) (hs := [CHint.ops 1 [(1, Hint.b false), (4, Hint.b false), (8, Hint.b false)], CHint.ops 4 [(7, Hint.b false), (11, Hint.b true), (13, Hint.b true)], CHint.ops 9 [(4, Hint.b true), (8, Hint.b true), (10, Hint.b true)]]) (c := _) (by kernel_rfl) h
theorem restL6 (n : Int) (y : Nat) (p : Int) (h : AllP [isNaN y = false, isInf y (0 : Int) = false, feq FloatKind.f64 y 0 = false, FWord (fofI n), FWord y, (fgt FloatKind.f64 (abs (binW (ByteArray.mk #[(37 : UInt8)]) (fofI n) y)) (abs y) || feq FloatKind.f64 (abs (binW (ByteArray.mk #[(37 : UInt8)]) (fofI n) y)) (abs y)) = false, sgn (binW (ByteArray.mk #[(37 : UInt8)]) (fofI n) y) = true, decide (n < (0 : Int)) = true, inR IntKind.i64 p, inR IntKind.i64 (p + (1 : Int)), FWord (fadd (fmul (fofI n) (fofI (p + (1 : Int)))) 0), FWord (fofI (p + (1 : Int))), ¬nanB FloatKind.f64 (fadd (fmul (fofI n) (fofI (p + (1 : Int)))) 0), feq FloatKind.f64 (binW (ByteArray.mk #[(37 : UInt8)]) (fadd (fmul (fofI n) (fofI (p + (1 : Int)))) 0) (fofI (p + (1 : Int)))) 0 = true, sgn (binW (ByteArray.mk #[(37 : UInt8)]) (fadd (fmul (fofI n) (fofI (p + (1 : Int)))) 0) (fofI (p + (1 : Int)))) = true, decide (n < (0 : Int)) = false]) : PureTo Try.prog 4 [.v (.int .i32 n), .v (.float .f64 y), .v (.int .u16 p)] (AV.v (.bool false)) :=
  evFn_pure hm soM5 (fn := Try.f4) rfl rfl (ti := false) (hs := [CHint.ops 1 [(1, Hint.b false), (4, Hint.b false), (8, Hint.b false)], CHint.ops 4 [(7, Hint.b false), (11, Hint.b true), (13, Hint.b true)], CHint.ops 9 [(4, Hint.b true), (8, Hint.b true), (10, Hint.b false)]]) (c := _) (by kernel_rfl) h
theorem restL7 (n : Int) (y : Nat) (p : Int) (h : AllP [isNaN y = false, isInf y (0 : Int) = false, feq FloatKind.f64 y 0 = false, FWord (fofI n), FWord y, (fgt FloatKind.f64 (abs (binW (ByteArray.mk #[(37 : UInt8)]) (fofI n) y)) (abs y) || feq FloatKind.f64 (abs (binW (ByteArray.mk #[(37 : UInt8)]) (fofI n) y)) (abs y)) = false, sgn (binW (ByteArray.mk #[(37 : UInt8)]) (fofI n) y) = true, decide (n < (0 : Int)) = true, inR IntKind.i64 p, inR IntKind.i64 (p + (1 : Int)), FWord (fadd (fmul (fofI n) (fofI (p + (1 : Int)))) 0), FWord (fofI (p + (1 : Int))), ¬nanB FloatKind.f64 (fadd (fmul (fofI n) (fofI (p + (1 : Int)))) 0), feq FloatKind.f64 (binW (ByteArray.mk #[(37 : UInt8)]) (fadd (fmul (fofI n) (fofI (p + (1 : Int)))) 0) (fofI (p + (1 : Int)))) 0 = true, sgn (binW (ByteArray.mk #[(37 : UInt8)]) (fadd (fmul (fofI n) (fofI (p + (1 : Int)))) 0) (fofI (p + (1 : Int)))) = false, decide (n < (0 : Int)) = true]) : PureTo Try.prog 4 [.v (.int .i32 n), .v (.float .f64 y), .v (.int .u16 p)] (AV.v (.bool false)) :=
  evFn_pure hm soM5 (fn := Try.f4) rfl rfl (ti := false) (hs := [CHint.ops 1 [(1, Hint.b false), (4, Hint.b false), (8, Hint.b false)], CHint.ops 4 [(7, Hint.b false), (11, Hint.b true), (13, Hint.b true)], CHint.ops 9 [(4, Hint.b true), (8, Hint.b false), (10, Hint.b true)]]) (c := _) (by kernel_rfl) h
theorem restL8 (n : Int) (y : Nat) (p : Int) (h : AllP [isNaN y = false, isInf y (0 : Int) = false, feq FloatKind.f64 y 0 = false, FWord (fofI n), FWord y, (fgt FloatKind.f64 (abs (binW (ByteArray.mk #[(37 : UInt8)]) (fofI n) y)) (abs y) || feq FloatKind.f64 (abs (binW (ByteArray.mk #[(37 : UInt8)]) (fofI n) y)) (abs y)) = false, sgn (binW (ByteArray.mk #[(37 : UInt8)]) (fofI n) y) = true, decide (n < (0 : Int)) = true, inR IntKind.i64 p, inR IntKind.i64 (p + (1 : Int)), FWord (fadd (fmul (fofI n) (fofI (p + (1 : Int)))) 0), FWord (fofI (p + (1 : Int))), ¬nanB FloatKind.f64 (fadd (fmul (fofI n) (fofI (p + (1 : Int)))) 0), feq FloatKind.f64 (binW (ByteArray.mk #[(37 : UInt8)]) (fadd (fmul (fofI n) (fofI (p + (1 : Int)))) 0) (fofI (p + (1 : Int)))) 0 = true, sgn (binW (ByteArray.mk #[(37 : UInt8)]) (fadd (fmul (fofI n) (fofI (p + (1 : Int)))) 0) (fofI (p + (1 : Int)))) = false, decide (n < (0 : Int)) = false]) : PureTo Try.prog 4 [.v (.int .i32 n), .v (.float .f64 y), .v (.int .u16 p)] (AV.v (.bool true)) :=
  evFn_pure hm soM5 (fn := Try.f4) rfl rfl (ti := false) (hs := [CHint.ops 1 [(1, Hint.b false), (4, Hint.b false), (8, Hint.b false)], CHint.ops 4 [(7, Hint.b false), (11, Hint.b true), (13, Hint.b true)], CHint.ops 9 [(4, Hint.b true), (8, Hint.b false), (10, Hint.b false)]]) (c := _) (by kernel_rfl) h
theorem restL9 (n : Int) (y : Nat) (p : Int) (h : AllP [isNaN y = false, isInf y (0 : Int) = false, feq FloatKind.f64 y 0 = false, FWord (fofI n), FWord y, (fgt FloatKind.f64 (abs (binW (ByteArray.mk #[(37 : UInt8)]) (fofI n) y)) (abs y) || feq FloatKind.f64 (abs (binW (ByteArray.mk #[(37 : UInt8)]) (fofI n) y)) (abs y)) = false, sgn (binW (ByteArray.mk #[(37 : UInt8)]) (fofI n) y) = true, decide (n < (0 : Int)) = true, inR IntKind.i64 p, inR IntKind.i64 (p + (1 : Int)), FWord (fadd (fmul (fofI n) (fofI (p + (1 : Int)))) 0), FWord (fofI (p + (1 : Int))), ¬nanB FloatKind.f64 (fadd (fmul (fofI n) (fofI (p + (1 : Int)))) 0), feq FloatKind.f64 (binW (ByteArray.mk #[(37 : UInt8)]) (fadd (fmul (fofI n) (fofI (p + (1 : Int)))) 0) (fofI (p + (1 : Int)))) 0 = false]) : PureTo Try.prog 4 [.v (.int .i32 n), .v (.float .f64 y), .v (.int .u16 p)] (AV.v (.bool false)) :=
  evFn_pure hm soM5 (fn := Try.f4) rfl rfl (ti := false) (hs := [CHint.ops 1 [(1, Hint.b false), (4, Hint.b false), (8, Hint.b false)], CHint.ops 4 [(7, Hint.b false), (11, Hint.b true), (13, Hint.b true)], CHint.ops 9 [(4, Hint.b false)]]) (c := _) (by kernel_rfl) h
theorem restL10 (n : Int) (y : Nat) (p : Int) (h : AllP [isNaN y = false, isInf y (0 : Int) = false, feq FloatKind.f64 y 0 = false, FWord (fofI n), FWord y, (fgt FloatKind.f64 (abs (binW (ByteArray.mk #[(37 : UInt8)]) (fofI n) y)) (abs y) || feq FloatKind.f64 (abs (binW (ByteArray.mk #[(37 : UInt8)]) (fofI n) y)) (abs y)) = false, sgn (binW (ByteArray.mk #[(37 : UInt8)]) (fofI n) y) = true, decide (n < (0 : Int)) = false]) : PureTo Try.prog 4 [.v (.int .i32 n), .v (.float .f64 y), .v (.int .u16 p)] (AV.v (.bool false)) :=
  evFn_pure hm soM5 (fn := Try.f4) rfl rfl (ti := false) (hs := [CHint.ops 1 [(1, Hint.b false), (4, Hint.b false), (8, Hint.b false)], CHint.ops 4 [(7, Hint.b false), (11, Hint.b true), (13, Hint.b false)]]) (c := _) (by kernel_rfl) h
theorem restL11 (n : Int) (y : Nat) (p : Int) (h : AllP [isNaN y = false, isInf y (0 : Int) = false, feq FloatKind.f64 y 0 = false, FWord (fofI n), FWord y, (fgt FloatKind.f64 (abs (binW (ByteArray.mk #[(37 : UInt8)]) (fofI n) y)) (abs y) || feq FloatKind.f64 (abs (binW (ByteArray.mk #[(37 : UInt8)]) (fofI n) y)) (abs y)) = false, sgn (binW (ByteArray.mk #[(37 : UInt8)]) (fofI n) y) = false, decide (n < (0 : Int)) = true]) : PureTo Try.prog 4 [.v (.int .i32 n), .v (.float .f64 y), .v (.int .u16 p)] (AV.v (.bool false)) :=
  evFn_pure hm soM5 (fn := Try.f4) rfl rfl (ti := false) (hs := [CHint.ops 1 [(1, Hint.b false), (4, Hint.b false), (8, Hint.b false)], CHint.ops 4 [(7, Hint.b false), (11, Hint.b false), (13, Hint.b true)]]) (c := _) (by kernel_rfl) h
theorem restL12 (n : Int) (y : Nat) (p : Int) (h : AllP [isNaN y = false, isInf y (0 : Int) = false, feq FloatKind.f64 y 0 = false, FWord (fofI n), FWord y, (fgt FloatKind.f64 (abs (binW (ByteArray.mk #[(37 : UInt8)]) (fofI n) y)) (abs y) || feq FloatKind.f64 (abs (binW (ByteArray.mk #[(37 : UInt8)]) (fofI n) y)) (abs y)) = false, sgn (binW (ByteArray.mk #[(37 : UInt8)]) (fofI n) y) = false, decide (n < (0 : Int)) = false, inR IntKind.i64 p, inR IntKind.i64 (p + (1 : Int)), FWord (fadd (fmul (fofI n) (fofI (p + (1 : Int)))) 0), FWord (fofI (p + (1 : Int))), ¬nanB FloatKind.f64 (fadd (fmul (fofI n) (fofI (p + (1 : Int)))) 0), feq FloatKind.f64 (binW (ByteArray.mk #[(37 : UInt8)]) (fadd (fmul (fofI n) (fofI (p + (1 : Int)))) 0) (fofI (p + (1 : Int)))) 0 = true, sgn (binW (ByteArray.mk #[(37 : UInt8)]) (fadd (fmul (fofI n) (fofI (p + (1 : Int)))) 0) (fofI (p + (1 : Int)))) = true, decide (n < (0 : Int)) = true]) : PureTo Try.prog 4 [.v (.int .i32 n), .v (.float .f64 y), .v (.int .u16 p)] (AV.v (.bool true)) :=
  evFn_pure hm soM5 (fn := Try.f4) rfl rfl (ti := false) (hs := [CHint.ops 1 [(1, Hint.b false), (4, Hint.b false), (8, Hint.b false)], CHint.ops 4 [(7, Hint.b false), (11, Hint.b false), (13, Hint.b false)], CHint.ops 9 [(4, Hint.b true), (8, Hint.b true), (10, Hint.b true)]]) (c := _) (by kernel_rfl) h
theorem restL13 (n : Int) (y : Nat) (p : Int) (h : AllP [isNaN y = false, isInf y (0 : Int) = false, feq FloatKind.f64 y 0 = false, FWord (fofI n), FWord y, (fgt FloatKind.f64 (abs (binW (ByteArray.mk #[(37 : UInt8)]) (fofI n) y)) (abs y) || feq FloatKind.f64 (abs (binW (ByteArray.mk #[(37 : UInt8)]) (fofI n) y)) (abs y)) = false, sgn (binW (ByteArray.mk #[(37 : UInt8)]) (fofI n) y) = false, decide (n < (0 : Int)) = false, inR IntKind.i64 p, inR IntKind.i64 (p + (1 : Int)), FWord (fadd (fmul (fofI n) (fofI (p + (1 : Int)))) 0), FWord (fofI (p + (1 : Int))), ¬nanB FloatKind.f64 (fadd (fmul (fofI n) (fofI (p + (1 : Int)))) 0), feq FloatKind.f64 (binW (ByteArray.mk #[(37 : UInt8)]) (fadd (fmul (fofI n) (fofI (p + (1 : Int)))) 0) (fofI (p + (1 : Int)))) 0 = true, sgn (binW (ByteArray.mk #[(37 : UInt8)]) (fadd (fmul (fofI n) (fofI (p + (1 : Int)))) 0) (fofI (p + (1 : Int)))) = true, decide (n < (0 : Int)) = false]) : PureTo Try.prog 4 [.v (.int .i32 n), .v (.float .f64 y), .v (.int .u16 p)] (AV.v (.bool false)) :=
  evFn_pure hm soM5 (fn := Try.f4) rfl rfl (ti := false) (hs := [CHint.ops 1 [(1, Hint.b false), (4, Hint.b false), (8, Hint.b false)], CHint.ops 4 [(7, Hint.b false), (11, Hint.b false), (13, Hint.b false)], CHint.ops 9 [(4, Hint.b true), (8, Hint.b true), (10, Hint.b false)]]) (c := _) (by kernel_rfl) h
theorem restL14 (n : Int) (y : Nat) (p : Int) (h : AllP [isNaN y = false, isInf y (0 : Int) = false, feq FloatKind.f64 y 0 = false, FWord (fofI n), FWord y, (fgt FloatKind.f64 (abs (binW (ByteArray.mk #[(37 : UInt8)]) (fofI n) y)) (abs y) || feq FloatKind.f64 (abs (binW (ByteArray.mk #[(37 : UInt8)]) (fofI n) y)) (abs y)) = false, sgn (binW (ByteArray.mk #[(37 : UInt8)]) (fofI n) y) = false, decide (n < (0 : Int)) = false, inR IntKind.i64 p, inR IntKind.i64 (p + (1 : Int)), FWord (fadd (fmul (fofI n) (fofI (p + (1 : Int)))) 0), FWord (fofI (p + (1 : Int))), ¬nanB FloatKind.f64 (fadd (fmul (fofI n) (fofI (p + (1 : Int)))) 0), feq FloatKind.f64 (binW (ByteArray.mk #[(37 : UInt8)]) (fadd (fmul (fofI n) (fofI (p + (1 : Int)))) 0) (fofI (p + (1 : Int)))) 0 = true, sgn (binW (ByteArray.mk #[(37 : UInt8)]) (fadd (fmul (fofI n) (fofI (p + (1 : Int)))) 0) (fofI (p + (1 : Int)))) = false, decide (n < (0 : Int)) = true]) : PureTo Try.prog 4 [.v (.int .i32 n), .v (.float .f64 y), .v (.int .u16 p)] (AV.v (.bool false)) :=
  evFn_pure hm soM5 (fn := Try.f4) rfl rfl (ti := false) (hs := [CHint.ops 1 [(1, Hint.b false), (4, Hint.b false), (8, Hint.b false)], CHint.ops 4 [(7, Hint.b false), (11, Hint.b false), (13, Hint.b false)], CHint.ops 9 [(4, Hint.b true), (8, Hint.b false), (10, Hint.b true)]]) (c := _) (by kernel_rfl) h
theorem restL15 (n : Int) (y : Nat) (p : Int) (h : AllP [isNaN y = false, isInf y (0 : Int) = false, feq FloatKind.f64 y 0 = false, FWord (fofI n), FWord y, (fgt FloatKind.f64 (abs (binW (ByteArray.mk #[(37 : UInt8)]) (fofI n) y)) (abs y) || feq FloatKind.f64 (abs (binW (ByteArray.mk #[(37 : UInt8)]) (fofI n) y)) (abs y)) = false, sgn (binW (ByteArray.mk #[(37 : UInt8)]) (fofI n) y) = false, decide (n < (0 : Int)) = false, inR IntKind.i64 p, inR IntKind.i64 (p + (1 : Int)), FWord (fadd (fmul (fofI n) (fofI (p + (1 : Int)))) 0), FWord (fofI (p + (1 : Int))), ¬nanB FloatKind.f64 (fadd (fmul (fofI n) (fofI (p + (1 : Int)))) 0), feq FloatKind.f64 (binW (ByteArray.mk #[(37 : UInt8)]) (fadd (fmul (fofI n) (fofI (p + (1 : Int)))) 0) (fofI (p + (1 : Int)))) 0 = true, sgn (binW (ByteArray.mk #[(37 : UInt8)]) (fadd (fmul (fofI n) (fofI (p + (1 : Int)))) 0) (fofI (p + (1 : Int)))) = false, decide (n < (0 : Int)) = false]) : PureTo Try.prog 4 [.v (.int .i32 n), .v (.float .f64 y), .v (.int .u16 p)] (AV.v (.bool true)) :=
  evFn_pure hm soM5 (fn := Try.f4) rfl rfl (ti := false) (hs := [CHint.ops 1 [(1, Hint.b false), (4, Hint.b false), (8, Hint.b false)], CHint.ops 4 [(7, Hint.b false), (11, Hint.b false), (13, Hint.b false)], CHint.ops 9 [(4, Hint.b true), (8, Hint.b false), (10, Hint.b false)]]) (c := _) (by kernel_rfl) h
theorem restL16 (n : Int) (y : Nat) (p : Int) (h : AllP [isNaN y = false, isInf y (0 : Int) = false, feq FloatKind.f64 y 0 = false, FWord (fofI n), FWord y, (fgt FloatKind.f64 (abs (binW (ByteArray.mk #[(37 : UInt8)]) (fofI n) y)) (abs y) || feq FloatKind.f64 (abs (binW (ByteArray.mk #[(37 : UInt8)]) (fofI n) y)) (abs y)) = false, sgn (binW (ByteArray.mk #[(37 : UInt8)]) (fofI n) y) = false, decide (n < (0 : Int)) = false, inR IntKind.i64 p, inR IntKind.i64 (p + (1 : Int)), FWord (fadd (fmul (fofI n) (fofI (p + (1 : Int)))) 0), FWord (fofI (p + (1 : Int))), ¬nanB FloatKind.f64 (fadd (fmul (fofI n) (fofI (p + (1 : Int)))) 0), feq FloatKind.f64 (binW (ByteArray.mk #[(37 : UInt8)]) (fadd (fmul (fofI n) (fofI (p + (1 : Int)))) 0) (fofI (p + (1 : Int)))) 0 = false]) : PureTo Try.prog 4 [.v (.int .i32 n), .v (.float .f64 y), .v (.int .u16 p)] (AV.v (.bool false)) :=
  evFn_pure hm soM5 (fn := Try.f4) rfl rfl (ti := false) (hs := [CHint.ops 1 [(1, Hint.b false), (4, Hint.b false), (8, Hint.b false)], CHint.ops 4 [(7, Hint.b false), (11, Hint.b false), (13, Hint.b false)], CHint.ops 9 [(4, Hint.b false)]]) (c := _) (by kernel_rfl) h
end Go.Proofs.Nu

/- Numbers: bits and rests. -/
set_option maxRecDepth 100000
set_option exponentiation.threshold 2200
namespace Go.Proofs.Nu
open Go Go.Ev

/-- a small whole number as a float -/
theorem fofI_word {n : Int} (h : n.natAbs < 9007199254740992) : ∃ r, r < 9218868437227405312 ∧ valN r = n.natAbs * U ∧ fofI n = wordOf (decide (n < 0)) r := by
  obtain ⟨r, r1, r2⟩ := whole_rep (n := n.natAbs) (lt53 h)
  exact ⟨r, r1, r2, by rw [fofI_V, ← r2, rd_val (Nat.le_of_lt r1)]⟩
theorem fofI_FWord {n : Int} (h : n.natAbs < 9007199254740992) : FWord (fofI n) := by
  obtain ⟨r, r1, _, e⟩ := fofI_word h
  rw [e]; exact word_wordOf (Nat.le_of_lt r1)
theorem fofI_Fit {n : Int} (h : n.natAbs < 9007199254740992) : Fit (fofI n) := by
  obtain ⟨r, r1, _, e⟩ := fofI_word h
  rw [e]; exact fit_word r1
theorem sv_natAbs (n : Int) : sv (decide (n < 0)) n.natAbs = n := by
  by_cases h : n < 0
  · rw [decide_eq_true h, sv_neg]; omega
  · rw [decide_eq_false h, sv_pos]; omega
theorem wholeI_fofI {n : Int} (h : n.natAbs < 9007199254740992) : wholeI (fofI n) = n := by
  obtain ⟨r, r1, r2, e⟩ := fofI_word h
  unfold wholeI
  rw [e, sg_wordOf (Nat.le_of_lt r1), rg_wordOf (Nat.le_of_lt r1), r2, Nat.mul_div_cancel _ U_pos]
  exact sv_natAbs n
theorem u32_fofI {n : Int} (h : n.natAbs < 9007199254740992) : u32N (fofI n) = n % 4294967296 := by
  unfold u32N
  rw [if_pos (fofI_Fit h), wholeI_fofI h]
theorem i32_fofI {n : Int} (h : inR .i32 n) : i32N (fofI n) = n := by
  simp only [inR] at h
  unfold i32N
  rw [u32_fofI (by omega), IntKind.wrap_i32]
  omega
theorem i32_fofU {n : Int} (h : inR .i32 n) : i32N (fofI (n % 4294967296)) = n := by
  simp only [inR] at h
  unfold i32N
  rw [u32_fofI (by omega), IntKind.wrap_i32]
  omega
theorem wrap_small (k : IntKind) (n : Int) (hk : k = .i32) : (k.wrap n).natAbs < 9007199254740992 := by
  subst hk
  rw [IntKind.wrap_i32]
  omega
theorem told_fofI {n : Int} (h : n.natAbs < 9007199254740992) : toldW (fofI n) = fofI n := toldW_num (fofI_Fit h).num

theorem bits_law {a b : Int} (ha : inR .i32 a) (hb : inR .i32 b) {x : Nat} (hx : FWord x) : PureTo Try.prog 6 [.v (.int .i32 a), .v (.int .i32 b), .v (.float .f64 x)] (.v (.bool true)) := by
  have sa : a.natAbs < 9007199254740992 := by simp only [inR] at ha; omega
  have sb : b.natAbs < 9007199254740992 := by simp only [inR] at hb; omega
  have su : (a % 4294967296).natAbs < 9007199254740992 := by omega
  have fa := fofI_FWord sa
  have fb := fofI_FWord sb
  have fu := fofI_FWord su
  have self : ∀ n : Int, n.natAbs < 9007199254740992 → feq .f64 (toldW (fofI n)) (fofI n) = true := fun n hn => by
    rw [told_fofI hn]; exact feq_self (fofI_Fit hn).num
  have e1 : binW (ByteArray.mk #[(38 : UInt8)]) (fofI a) (fofI b) = toldW (fofI (bitsOf BinOp.and IntKind.i32 a b)) := by
    show toldW (fofI (bitsOf BinOp.and IntKind.i32 (i32N (fofI a)) (i32N (fofI b)))) = _
    rw [i32_fofI ha, i32_fofI hb]
  have e2 : binW (ByteArray.mk #[(124 : UInt8)]) (fofI a) (fofI b) = toldW (fofI (bitsOf BinOp.or IntKind.i32 a b)) := by
    show toldW (fofI (bitsOf BinOp.or IntKind.i32 (i32N (fofI a)) (i32N (fofI b)))) = _
    rw [i32_fofI ha, i32_fofI hb]
  have e3 : binW (ByteArray.mk #[(94 : UInt8)]) (fofI a) (fofI b) = toldW (fofI (bitsOf BinOp.xor IntKind.i32 a b)) := by
    show toldW (fofI (bitsOf BinOp.xor IntKind.i32 (i32N (fofI a)) (i32N (fofI b)))) = _
    rw [i32_fofI ha, i32_fofI hb]
  have k4 : unK (ByteArray.mk #[(126 : UInt8)]) = 2 := by decide +kernel
  have e4 : unW (ByteArray.mk #[(126 : UInt8)]) (fofI a) = fofI (bitsOf BinOp.xor IntKind.i32 (-1) a) := by
    unfold unW
    rw [k4]
    show fofI (bitsOf BinOp.xor IntKind.i32 (-1) (i32N (fofI a))) = _
    rw [i32_fofI ha]
  have h32 : (4629700416936869888 : Nat) = fofI 32 := by decide +kernel
  have e5 : binW (ByteArray.mk #[(60 : UInt8), (60 : UInt8)]) (fofI a) 4629700416936869888 = toldW (fofI a) := by
    show toldW (fofI (IntKind.i32.wrap (i32N (fofI a) * (2 : Int) ^ min (shiftN 4629700416936869888) 32))) = _
    have hs : shiftN 4629700416936869888 = 0 := by
      unfold shiftN
      rw [h32, u32_fofI (by decide)]
      decide
    rw [hs, i32_fofI ha, show min 0 32 = 0 from rfl, Int.pow_zero, Int.mul_one, IntKind.wrap_i32]
    simp only [inR] at ha
    congr 2
    omega
  refine bitsL1 a b x ⟨fa, fb, fa, fb, fa, fb, fa, fa, by unfold FWord; decide, hx, hx, by unfold i32N; simp, fa, by rw [i32_fofI ha]; simp, fu, by rw [i32_fofU ha]; simp, fu, by rw [u32_fofI su]; simp, ?_, ?_, ?_, ?_, ?_, trivial⟩
  · rw [e1]; exact self _ (wrap_small .i32 _ rfl)
  · rw [e2]; exact self _ (wrap_small .i32 _ rfl)
  · rw [e3]; exact self _ (wrap_small .i32 _ rfl)
  · rw [e4]; exact feq_self (fofI_Fit (wrap_small .i32 _ rfl)).num
  · rw [e5]; exact self _ sa

/-- the rest of numbers, as words -/
theorem modW_word {s : Bool} {r y : Nat} (hr : r < 9218868437227405312) (hy : Fit y) (hy0 : rg y ≠ 0) : modW (wordOf s r) y = wordOf s (rd (valN r % valN (rg y))) := by
  unfold modW
  rw [if_neg (by
    rintro (h | h | h)
    · exact h (fit_word hr)
    · exact h hy.num
    · exact hy0 h)]
  unfold modR
  unfold Fit at hy
  rw [if_neg (by omega), sg_wordOf (Nat.le_of_lt hr), rg_wordOf (Nat.le_of_lt hr)]

theorem rests_law {n : Int} (hn : inR .i32 n) {y : Nat} (hyw : FWord y) {p : Int} (hp : inR .u16 p) : PureTo Try.prog 4 [.v (.int .i32 n), .v (.float .f64 y), .v (.int .u16 p)] (.v (.bool true)) := by
  simp only [inR] at hn hp
  cases h1 : isNaN y with
  | true => exact restL1 n y p ⟨h1, trivial⟩
  | false =>
    cases h2 : isInf y 0 with
    | true => exact restL2 n y p ⟨h1, h2, trivial⟩
    | false =>
      cases h3 : feq .f64 y 0 with
      | true => exact restL3 n y p ⟨h1, h2, h3, trivial⟩
      | false =>
        have hny := isNaN_num.1 h1
        have hy : Fit y := by
          rw [isInf_eq] at h2
          have := of_decide_eq_false h2
          unfold Num at hny; unfold Fit; omega
        have hy0 : rg y ≠ 0 := by
          rw [feq_V hny fin_zero.num, V_null] at h3
          have := of_decide_eq_false h3
          rwa [V_zero] at this
        have hyp : 0 < valN (rg y) := by
          have := valN_lt (show 0 < rg y by omega)
          rw [valN_zero] at this
          omega
        obtain ⟨r, r1, r2, r3⟩ := fofI_word (n := n) (by omega)
        obtain ⟨m, m1, m2, m3⟩ := fofI_word (n := p + 1) (by omega)
        have hmfalse : decide (p + 1 < 0) = false := decide_eq_false (by omega)
        rw [hmfalse] at m3
        -- the first rest
        have hb1 : binW (ByteArray.mk #[(37 : UInt8)]) (fofI n) y = toldW (modW (fofI n) y) := rfl
        have hr4 : rd (valN r % valN (rg y)) ≤ rg y - 1 := by
          have hlt := Nat.mod_lt (valN r) hyp
          have h1 : rd (valN r % valN (rg y)) ≤ rg y := rd_le (Nat.le_of_lt hlt)
          rcases Nat.lt_or_eq_of_le h1 with h | h
          · omega
          · exfalso
            -- what is told is exact
            obtain ⟨s', a1, a2, _⟩ := mod_loop (x := y) hy hy0 (valN r) r rfl r1
            rw [← a2, rd_val (Nat.le_of_lt a1)] at h
            rw [h] at a2
            omega
        unfold Fit at hy
        have hrn : Num (wordOf (decide (n < 0)) (rd (valN r % valN (rg y)))) := num_word (by omega)
        have hb2 : binW (ByteArray.mk #[(37 : UInt8)]) (fofI n) y = wordOf (decide (n < 0)) (rd (valN r % valN (rg y))) := by
          rw [hb1, r3, modW_word r1 hy hy0, toldW_num hrn]
        have hge : (fgt FloatKind.f64 (abs (binW (ByteArray.mk #[(37 : UInt8)]) (fofI n) y)) (abs y) || feq FloatKind.f64 (abs (binW (ByteArray.mk #[(37 : UInt8)]) (fofI n) y)) (abs y)) = false := by
          rw [hb2, ge_V (num_abs.2 hrn) (num_abs.2 hny), decide_eq_false]
          rw [abs_word, abs_word, rg_wordOf (by omega), V_wordOf (by omega), V_wordOf (by omega), sv_pos, sv_pos]
          have := valN_lt (show rd (valN r % valN (rg y)) < rg y by omega)
          omega
        have hsg : sgn (binW (ByteArray.mk #[(37 : UInt8)]) (fofI n) y) = decide (n < 0) := by
          rw [hb2, sgn_sg, sg_wordOf (by omega)]
        -- the product
        have hprod : n.natAbs * (p + 1).natAbs < 9007199254740992 := by
          have a1 : n.natAbs * (p + 1).natAbs ≤ 2147483648 * 65536 := Nat.mul_le_mul (by omega) (by omega)
          omega
        obtain ⟨t, t1, t2⟩ := whole_rep (n := n.natAbs * (p + 1).natAbs) (lt53 hprod)
        have hmul : fmul (fofI n) (fofI (p + 1)) = wordOf (decide (n < 0)) t := by
          rw [r3, m3, fmul_exact (fit_word r1) (fit_word m1) (Nat.le_of_lt t1) (by rw [rg_wordOf (Nat.le_of_lt r1), rg_wordOf (Nat.le_of_lt m1), r2, m2, t2]; ac_rfl), sg_wordOf (Nat.le_of_lt r1), sg_wordOf (Nat.le_of_lt m1), Bool.xor_false]
        have hVt : V (wordOf (decide (n < 0)) t) = sv (decide (n < 0)) (valN t) := V_wordOf (Nat.le_of_lt t1)
        have hadd : fadd (wordOf (decide (n < 0)) t) 0 = wordOf (decide (n < 0)) t := by
          rw [fadd_V (fit_word t1) fin_zero, V_null, Int.add_zero, hVt, sg_wordOf (Nat.le_of_lt t1), show sg 0 = false by decide, Bool.and_false]
          have ht0 : valN t = 0 ↔ t = 0 := by
            have := @valN_inj t 0
            rwa [valN_zero] at this
          by_cases hneg : n < 0
          · rw [decide_eq_true hneg, sv_neg]
            have hpos : 0 < valN t := by
              rw [t2]
              exact Nat.mul_pos (Nat.mul_pos (by omega) (by omega)) U_pos
            have e : (-(valN t : Int)).natAbs = valN t := by omega
            rw [if_neg (by omega), e, rd_val (Nat.le_of_lt t1), decide_eq_true (show -(valN t : Int) < 0 by omega)]
          · rw [decide_eq_false hneg, sv_pos]
            have e : ((valN t : Int)).natAbs = valN t := by omega
            rw [e, rd_val (Nat.le_of_lt t1), decide_eq_false (show ¬ (valN t : Int) < 0 by omega)]
            simp
        have hm0 : rg (fofI (p + 1)) ≠ 0 := by
          rw [m3, rg_wordOf (Nat.le_of_lt m1)]
          intro h
          rw [h, valN_zero] at m2
          have : 0 < (p + 1).natAbs * U := Nat.mul_pos (by omega) U_pos
          omega
        have hb3 : binW (ByteArray.mk #[(37 : UInt8)]) (fadd (fmul (fofI n) (fofI (p + (1 : Int)))) 0) (fofI (p + (1 : Int))) = wordOf (decide (n < 0)) 0 := by
          have e0 : binW (ByteArray.mk #[(37 : UInt8)]) (fadd (fmul (fofI n) (fofI (p + (1 : Int)))) 0) (fofI (p + (1 : Int))) = toldW (modW (fadd (fmul (fofI n) (fofI (p + (1 : Int)))) 0) (fofI (p + (1 : Int)))) := rfl
          have e1 : n.natAbs * (p + 1).natAbs * U % ((p + 1).natAbs * U) = 0 := by rw [Nat.mul_assoc]; exact Nat.mul_mod_left _ _
          rw [e0, hmul, hadd, modW_word t1 (by rw [m3]; exact fit_word m1) hm0, m3, rg_wordOf (Nat.le_of_lt m1), t2, m2, e1, show rd 0 = 0 from rfl, toldW_num (num_word (by decide))]
        have hword : FWord (fadd (fmul (fofI n) (fofI (p + (1 : Int)))) 0) := by rw [hmul, hadd]; exact word_wordOf (Nat.le_of_lt t1)
        have hnum : ¬ nanB .f64 (fadd (fmul (fofI n) (fofI (p + (1 : Int)))) 0) := by rw [hmul, hadd]; exact num_iff.1 (num_word (Nat.le_of_lt t1))
        have hz : feq FloatKind.f64 (binW (ByteArray.mk #[(37 : UInt8)]) (fadd (fmul (fofI n) (fofI (p + (1 : Int)))) 0) (fofI (p + (1 : Int)))) 0 = true := by
          rw [hb3, feq_V (num_word (by decide)) fin_zero.num, V_null, V_wordOf (by decide), valN_zero, sv_zero]; simp
        have hsg2 : sgn (binW (ByteArray.mk #[(37 : UInt8)]) (fadd (fmul (fofI n) (fofI (p + (1 : Int)))) 0) (fofI (p + (1 : Int)))) = decide (n < 0) := by
          rw [hb3, sgn_sg, sg_wordOf (by decide)]
        have fn : FWord (fofI n) := fofI_FWord (by omega)
        have fp : FWord (fofI (p + 1)) := fofI_FWord (by omega)
        by_cases hneg : n < 0
        · have hd := decide_eq_true hneg
          rw [hd] at hsg hsg2
          exact restL5 n y p ⟨h1, h2, h3, fn, hyw, hge, hsg, hd, by simp only [inR]; omega, by simp only [inR]; omega, hword, fp, hnum, hz, hsg2, hd, trivial⟩
        · have hd := decide_eq_false hneg
          rw [hd] at hsg hsg2
          exact restL15 n y p ⟨h1, h2, h3, fn, hyw, hge, hsg, hd, by simp only [inR]; omega, by simp only [inR]; omega, hword, fp, hnum, hz, hsg2, hd, trivial⟩
end Go.Proofs.Nu
