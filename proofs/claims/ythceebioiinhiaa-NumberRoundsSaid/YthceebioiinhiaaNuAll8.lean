/- Contracts of the program's functions, and the plain law behind them. No condition beyond those in each statement. -/
import Derived.Test.YthceebioiinhiaaNuAll7
import Derived.Test.YthceebioiinhiaaEvAll10
import Derived.Test.YthceebioiinhiaaEvAll6
set_option linter.unusedSimpArgs false
set_option linter.unusedVariables false
set_option linter.unusedSectionVars false
/- Numbers: Round, and the reference's. -/
set_option maxRecDepth 100000
set_option exponentiation.threshold 2200
namespace Go.Proofs.Nu
open Go Go.Ev

theorem toldW_num {x : Nat} (h : Num x) : toldW x = x := by unfold toldW; rw [if_neg]; rw [isNaN_num.2 h]; decide
theorem toldW_nan {x : Nat} (h : ¬ Num x) : toldW x = qnan := by
  unfold toldW
  rw [if_pos]
  exact isNaN_iff.2 (Classical.not_not.1 fun hn => h (num_iff.2 hn))
theorem not_num_qnan : ¬ Num qnan := by unfold Num; decide
theorem toldW_told (x : Nat) : toldW (toldW x) = toldW x := by
  by_cases h : Num x
  · rw [toldW_num h, toldW_num h]
  · rw [toldW_nan h, toldW_nan not_num_qnan]

theorem sgn_sg (x : Nat) : sgn x = sg x := by
  rw [sgn_eq]
  unfold sg
  by_cases h : x / 9223372036854775808 % 2 = 1
  · rw [decide_eq_true h, h]; rfl
  · rw [decide_eq_false h]; symm; rw [beq_eq_false_iff_ne]; exact h
theorem cs_word (x y : Nat) : cs x y = wordOf (sg y) (rg x) := by
  rw [cs_eq]
  unfold wordOf rg sg
  rcases Nat.mod_two_eq_zero_or_one (y / 9223372036854775808) with h | h <;> rw [h] <;> simp <;> omega

theorem isNaN_of {x : Nat} (h : ¬ Num x) : isNaN x = true := by
  cases hn : isNaN x with
  | true => rfl
  | false => exact (h (isNaN_num.1 hn)).elim
theorem fin_iff {x : Nat} : fin x = true ↔ Fit x := by
  unfold fin Fit
  by_cases h : Num x
  · rw [isNaN_num.2 h, isInf_eq]
    unfold Num at h
    by_cases h2 : rg x = 9218868437227405312
    · rw [decide_eq_true h2]; simp; omega
    · rw [decide_eq_false h2]; simp; omega
  · rw [isNaN_of h]
    unfold Num at h
    simp; omega

def oneW : Nat := 4607182418800017408
theorem fin_one : Fit oneW := by unfold Fit; decide
theorem V_one : V oneW = U := by
  have : oneW = wordOf false oneR := rfl
  rw [this, V_wordOf (by decide), valN_one]; rfl
theorem sg_one : sg oneW = false := by decide
theorem fin_zero : Fit 0 := by unfold Fit; decide
theorem V_null : V 0 = 0 := rfl

/-- a float's word is its sign and its number, but for zeros -/
theorem word_of_V {x y : Nat} (hx : FWord x) (hy : FWord y) (hs : sg x = sg y) (hv : V x = V y) : x = y := by
  rw [wordOf_of hx, wordOf_of hy, hs]
  unfold V sv at hv
  rw [hs] at hv
  have : valN (rg x) = valN (rg y) := by cases h : sg y <;> rw [h] at hv <;> simp at hv <;> omega
  rw [valN_inj.1 this]

/-- the half or more that is left -/
def halfB (x : Nat) : Bool := fgt .f64 (fsub x (intW .down x)) 4602678819172646912 || feq .f64 (fsub x (intW .down x)) 4602678819172646912
/-- Round before it is told -/
def upW (x : Nat) : Nat := bif halfB x then fadd (intW .down x) 4607182418800017408 else intW .down x
theorem round_def (x : Nat) : round x = bif !bif feq .f64 (upW x) 0 then (bif flt .f64 x 0 then true else sgn x) else false then toldW (upW x) else cs 0 13830554455654793216 := by
  rfl

theorem qn_sub {x y : Nat} (h : ¬ Num y) : fsub x y = qnan := by
  unfold fsub Ieee.Format.sub
  obtain ⟨s, t, e⟩ := nan_read (Classical.not_not.1 fun hn => h (num_iff.2 hn))
  rw [e]
  cases FloatKind.f64.format.read x <;> rfl
theorem inf_sub {x : Nat} (h : rg x = 9218868437227405312) : fsub x x = qnan := by
  unfold fsub Ieee.Format.sub
  rw [read_inf h]
  generalize (x / 9223372036854775808 % 2 == 1) = s
  cases s <;> rfl

theorem round_nan {x : Nat} (h : ¬ Num x) : round x = qnan := by
  have h1 : intW .down x = qnan := by
    obtain ⟨s, t, e⟩ := nan_read (Classical.not_not.1 fun hn => h (num_iff.2 hn))
    unfold intW FloatKind.decode
    rw [e]
  have h2 : halfB x = false := by
    unfold halfB
    rw [h1, qn_sub not_num_qnan]
    decide
  have h3 : upW x = qnan := by unfold upW; rw [h2, h1]; rfl
  rw [round_def, h3, (nan_cmp (.inl not_num_qnan)).2.1, toldW_nan not_num_qnan]
  rfl
theorem round_inf {x : Nat} (hw : FWord x) (h : rg x = 9218868437227405312) : round x = x := by
  have h1 := intW_inf .down hw h
  have h2 : halfB x = false := by
    unfold halfB
    rw [h1, inf_sub h]
    decide
  have h3 : upW x = x := by unfold upW; rw [h2, h1]; rfl
  have hn : Num x := by unfold Num; omega
  have h4 : feq .f64 x 0 = false := by
    rw [feq_V hn fin_zero.num, V_null, decide_eq_false]
    rw [V_zero, h]; decide
  rw [round_def, h3, h4, toldW_num hn]
  rfl

theorem sv_zero (s : Bool) : sv s 0 = 0 := by cases s <;> rfl
theorem sv_pos {n : Nat} : sv false n = n := rfl
theorem sv_neg {n : Nat} : sv true n = -(n : Int) := rfl
theorem V_pos {x : Nat} (h : sg x = false) : 0 ≤ V x := by unfold V; rw [h, sv_pos]; omega
theorem V_neg {x : Nat} (h : sg x = true) : V x ≤ 0 := by unfold V; rw [h, sv_neg]; omega

structure RoundFacts (x : Nat) : Prop where
  fl : Fit (intW .down x)
  word : FWord (intW .down x)
  sign : sg (intW .down x) = sg x

/-- f + 1 -/
theorem up_one {f : Nat} (hf : Fit f) {k : Int} (hk : V f = k * U) : (sg f = false → ∃ r, oneR ≤ r ∧ r ≤ 9218868437227405312 ∧ fadd f oneW = wordOf false r) ∧ (sg f = true → V f + U = 0 → fadd f oneW = 0) ∧ (V f + U < 0 → ∃ r, oneR ≤ r ∧ r ≤ 9218868437227405312 ∧ fadd f oneW = wordOf true r) := by
  rw [fadd_V hf fin_one, V_one, sg_one, Bool.and_false]
  have hU := U_pos
  refine ⟨fun h => ?_, fun h h0 => ?_, fun h => ?_⟩
  · have := V_pos h
    refine ⟨rd (V f + U).natAbs, rd_ge (by decide) ?_, rd_inf _, ?_⟩
    · rw [valN_one]; omega
    · rw [if_neg (by omega), decide_eq_false (by omega)]
  · rw [h0, if_pos rfl]; rfl
  · refine ⟨rd (V f + U).natAbs, rd_ge (by decide) ?_, rd_inf _, ?_⟩
    · rw [valN_one]
      have : V f + U ≤ -U := by
        rw [hk] at h ⊢
        have h1 : (k + 1) * (U : Int) < 0 := by rw [Int.add_mul]; omega
        have h2 : k + 1 < 0 := by
          rcases Int.lt_or_le (k + 1) 0 with h2 | h2
          · exact h2
          · have := Int.mul_nonneg h2 (by omega : (0 : Int) ≤ U); omega
        have h3 : (k + 1) * (U : Int) ≤ (-1) * U := Int.mul_le_mul_of_nonneg_right (by omega) (by omega)
        rw [Int.add_mul] at h3
        omega
      omega
    · rw [if_neg (by omega), decide_eq_true h]

theorem V_big {s : Bool} {r : Nat} (h1 : oneR ≤ r) (h2 : r ≤ 9218868437227405312) : V (wordOf s r) ≠ 0 := by
  rw [Ne, V_zero, rg_wordOf h2]
  have : oneR = 4607182418800017408 := rfl
  omega

/-- THE REFERENCE'S ROUND IS ROUND -/
theorem rround_c {x : Nat} (hw : FWord x) : PureTo Try.prog 45 [.v (.float .f64 x)] (.v (.float .f64 (round x))) := by
  cases hfin : fin x with
  | false =>
    have h := rround4 x ⟨hfin, trivial⟩
    by_cases hn : Num x
    · have hi : rg x = 9218868437227405312 := by
        have : ¬ Fit x := fun h => by rw [fin_iff.2 h] at hfin; cases hfin
        unfold Fit at this
        unfold Num at hn
        omega
      rw [toldW_num hn] at h
      rwa [round_inf hw hi]
    · rw [toldW_nan hn] at h
      rwa [round_nan hn]
  | true =>
    have hx := fin_iff.1 hfin
    obtain ⟨k, r, hr, hf, hk, hlo, hhi⟩ := floor_V hx
    have hff : Fit (intW .down x) := by unfold Fit; rw [hf, rg_wordOf (Nat.le_of_lt hr)]; exact hr
    have hfw : FWord (intW .down x) := by rw [hf]; exact word_wordOf (Nat.le_of_lt hr)
    have hfs : sg (intW .down x) = sg x := by rw [hf, sg_wordOf (Nat.le_of_lt hr)]
    have hU := U_pos
    cases heq : feq FloatKind.f64 (intW Ieee.Toward.down x) x with
    | true =>
      have h := rround1 x ⟨hfin, heq, trivial⟩
      rw [feq_V hff.num hx.num, decide_eq_true_eq] at heq
      have hfx : intW .down x = x := word_of_V hfw hw hfs heq
      have hsub : fsub x x = 0 := by
        rw [fsub_V hx hx, Int.sub_self, if_pos rfl]
        have : (sg x && !sg x) = false := by cases sg x <;> rfl
        rw [this]
        rfl
      have h2 : halfB x = false := by unfold halfB; rw [hfx, hsub]; decide
      have h3 : upW x = x := by unfold upW; rw [h2, hfx]; rfl
      rw [toldW_num hx.num] at h
      suffices hr : round x = x by rwa [hr]
      rw [round_def, h3, feq_V hx.num fin_zero.num, V_null, toldW_num hx.num]
      by_cases hz : V x = 0
      · rw [decide_eq_true hz, flt_V hx.num fin_zero.num, V_null, decide_eq_false (by omega), sgn_sg]
        cases hs : sg x with
        | false => rfl
        | true =>
          show cs 0 13830554455654793216 = x
          rw [cs_word, wordOf_of hw, hs, V_zero.1 hz]
          rfl
      · rw [decide_eq_false hz]; rfl
    | false =>
      have hne : V (intW .down x) ≠ V x := by
        intro h
        rw [feq_V hff.num hx.num, decide_eq_true h] at heq
        cases heq
      have hone : (4607182418800017408 : Nat) = oneW := rfl
      cases hh : halfB x with
      | true =>
        have h := rround2 x ⟨hfin, heq, hh, trivial⟩
        have h3 : upW x = fadd (intW .down x) oneW := by unfold upW; rw [hh]; rfl
        rw [hone, ← h3] at h
        obtain ⟨u1, u2, u3⟩ := up_one hff hk
        rw [← h3] at u1 u2 u3
        have finish : ∀ s r, sg x = s → oneR ≤ r → r ≤ 9218868437227405312 → upW x = wordOf s r → PureTo Try.prog 45 [.v (.float .f64 x)] (.v (.float .f64 (round x))) := by
          intro s r hs h1 h2 e
          have hn : Num (wordOf s r) := by unfold Num; rw [rg_wordOf h2]; exact h2
          have hc : cs (upW x) x = wordOf s r := by rw [cs_word, e, rg_wordOf h2, hs]
          have hr : round x = wordOf s r := by
            rw [round_def, e, feq_V hn fin_zero.num, V_null, decide_eq_false (V_big h1 h2), toldW_num hn]
            rfl
          rw [hr, ← hc]
          rw [hc] at h ⊢
          exact h.ans (.num _ (num_iff.1 hn))
        cases hs : sg x with
        | false =>
          obtain ⟨r', a1, a2, a3⟩ := u1 (hfs.trans hs)
          exact finish false r' hs a1 a2 a3
        | true =>
          have hvx : V x < 0 := by
            have := V_neg hs
            rcases Int.lt_or_eq_of_le this with h | h
            · exact h
            · exfalso
              have h9 := V_neg (hfs.trans hs)
              rw [h] at hhi hne
              rw [hk] at hne h9
              rw [Int.add_mul] at hhi
              have h1 : k * (U : Int) < 0 := by omega
              have h2 : k < 0 := by
                rcases Int.lt_or_le k 0 with h2 | h2
                · exact h2
                · have := Int.mul_nonneg h2 (by omega : (0 : Int) ≤ U); omega
              have h3 : k * (U : Int) ≤ (-1) * U := Int.mul_le_mul_of_nonneg_right (by omega) (by omega)
              omega
          have hkneg : k * (U : Int) + U ≤ 0 := by
            have h2 : k < 0 := by
              rcases Int.lt_or_le k 0 with h2 | h2
              · exact h2
              · have := Int.mul_nonneg h2 (by omega : (0 : Int) ≤ U); omega
            have h3 : k * (U : Int) ≤ (-1) * U := Int.mul_le_mul_of_nonneg_right (by omega) (by omega)
            omega
          rcases Int.lt_or_eq_of_le hkneg with h0 | h0
          · obtain ⟨r', a1, a2, a3⟩ := u3 (by rw [hk]; exact h0)
            exact finish true r' hs a1 a2 a3
          · have e := u2 (hfs.trans hs) (by rw [hk]; exact h0)
            have hc : cs (upW x) x = 9223372036854775808 := by rw [cs_word, e, hs]; rfl
            have hr : round x = 9223372036854775808 := by
              rw [round_def, e, feq_V fin_zero.num fin_zero.num, flt_V hx.num fin_zero.num, V_null, decide_eq_true hvx, decide_eq_true rfl]
              show cs 0 13830554455654793216 = _
              rw [cs_word]; rfl
            rw [hr]
            rw [hc] at h
            exact h.ans (.num _ (num_iff.1 (by unfold Num; decide)))
      | false =>
        have h := rround3 x ⟨hfin, heq, hh, trivial⟩
        have h3 : upW x = intW .down x := by unfold upW; rw [hh]; rfl
        have hc : cs (intW .down x) x = intW .down x := by rw [cs_word, ← hfs]; exact (wordOf_of hfw).symm
        have hr : round x = intW .down x := by
          rw [round_def, h3, feq_V hff.num fin_zero.num, flt_V hx.num fin_zero.num, V_null, sgn_sg, toldW_num hff.num]
          by_cases hz : V (intW .down x) = 0
          · have hxp : ¬ V x < 0 := by omega
            rw [decide_eq_true hz, decide_eq_false hxp]
            cases hs : sg x with
            | false => rfl
            | true => have := V_neg hs; omega
          · rw [decide_eq_false hz]; rfl
        rw [hr]
        rw [hc] at h
        exact h.ans (.num _ (num_iff.1 hff.num))
end Go.Proofs.Nu

/- Numbers: the table with the reference's Round. -/
set_option maxRecDepth 100000
namespace Go.Proofs.Nu
open Go Go.Ev
def sigRR : List AV → Option (AV × List Prop)
  | [.v (.float .f64 x)] => some (.v (.float .f64 (round x)), [FWord x])
  | _ => none
def SN9 : SGT := (45, .p sigRR) :: SN8
theorem soN9 : SigsOK Try.prog SN9 := by
  refine sigs_cons soN8 ?_
  intro ys r c hs hc
  unfold sigRR at hs
  split at hs
  · cases hs; exact rround_c hc.1
  · cases hs
end Go.Proofs.Nu

/- Numbers: walks, written by the tool. -/
set_option maxRecDepth 100000
namespace Go.Proofs.Nu
open Go Go.Ev

-- 6 paths
theorem rndL1 (x : Nat) (h : AllP [samB (floor x) (floor x) = true, samB (ceil x) (ceil x) = true, FWord x, samB (round x) (round x) = true, samB (nabs x) (nabs x) = true, samB (nsqrt x) (nsqrt x) = true]) : PureTo Try.prog 10 [.v (.float .f64 x)] (AV.v (.bool true)) :=
  evFn_pure hm soN9 (fn := Try.f10) rfl rfl (ti := false) (hs := [CHint.ops 1 [(4, Hint.b true), (10, Hint.b true), (17, Hint.b true), (24, Hint.b true), (31, Hint.b true)]]) (c := _) (by kernel_rfl) h
theorem rndL2 (x : Nat) (h : AllP [samB (floor x) (floor x) = true, samB (ceil x) (ceil x) = true, FWord x, samB (round x) (round x) = true, samB (nabs x) (nabs x) = true, samB (nsqrt x) (nsqrt x) = false]) : PureTo Try.prog 10 [.v (.float .f64 x)] (AV.v (.bool false)) :=
  evFn_pure hm soN9 (fn := Try.f10) rfl rfl (ti := false) (hs := [CHint.ops 1 [(4, Hint.b true), (10, Hint.b true), (17, Hint.b true), (24, Hint.b true), (31, Hint.b false)]]) (c := _) (by kernel_rfl) h
theorem rndL3 (x : Nat) (h : AllP [samB (floor x) (floor x) = true, samB (ceil x) (ceil x) = true, FWord x, samB (round x) (round x) = true, samB (nabs x) (nabs x) = false]) : PureTo Try.prog 10 [.v (.float .f64 x)] (AV.v (.bool false)) :=
  evFn_pure hm soN9 (fn := Try.f10) rfl rfl (ti := false) (hs := [CHint.ops 1 [(4, Hint.b true), (10, Hint.b true), (17, Hint.b true), (24, Hint.b false)]]) (c := _) (by kernel_rfl) h
theorem rndL4 (x : Nat) (h : AllP [samB (floor x) (floor x) = true, samB (ceil x) (ceil x) = true, FWord x, samB (round x) (round x) = false]) : PureTo Try.prog 10 [.v (.float .f64 x)] (AV.v (.bool false)) :=
  evFn_pure hm soN9 (fn := Try.f10) rfl rfl (ti := false) (hs := [CHint.ops 1 [(4, Hint.b true), (10, Hint.b true), (17, Hint.b false)]]) (c := _) (by kernel_rfl) h
theorem rndL5 (x : Nat) (h : AllP [samB (floor x) (floor x) = true, samB (ceil x) (ceil x) = false]) : PureTo Try.prog 10 [.v (.float .f64 x)] (AV.v (.bool false)) :=
  evFn_pure hm soN9 (fn := Try.f10) rfl rfl (ti := false) (hs := [CHint.ops 1 [(4, Hint.b true), (10, Hint.b false)]]) (c := _) (by kernel_rfl) h
theorem rndL6 (x : Nat) (h : AllP [samB (floor x) (floor x) = false]) : PureTo Try.prog 10 [.v (.float .f64 x)] (AV.v (.bool false)) :=
  evFn_pure hm soN9 (fn := Try.f10) rfl rfl (ti := false) (hs := [CHint.ops 1 [(4, Hint.b false)]]) (c := _) (by kernel_rfl) h
end Go.Proofs.Nu
