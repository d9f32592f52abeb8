/- Contracts of the program's functions, and the plain law behind them. No condition beyond those in each statement. -/
import Derived.Test.YtbmadhdeikoecaaBnAll3
import Derived.Test.YtbmadhdeikoecaaBnAll1
set_option linter.unusedSimpArgs false
set_option linter.unusedVariables false
set_option linter.unusedSectionVars false
/- Bignum: contracts: Parse, joined. -/
set_option maxRecDepth 100000
set_option exponentiation.threshold 40000
set_option linter.unusedSectionVars false
namespace Go.Proofs.Bn
open Go Go.Ev

theorem parse_in (s : ByteArray) (R : Nat) (hR : R ≤ 36) (x2 : Int) (m : Nat) (d : Int) (hb : big m = false) (hd : 0 ≤ d ∧ d ≤ 36) (n : Nat) :
    LoopTo Try.prog (loopAt Try.f35 2) (parseS2 s R x2 d 0 (dig m) (dig m) n (dig m).length) (.exit 4) (parseX2 s R x2 (mulc R (dig m) d).2 (mulc R (dig m) d).1 (mulc R (dig m) d).1.length (mulc R (dig m) d).1.length) := by
  have hl := small_len hb
  obtain ⟨i1, i2, i3, i4⟩ := mulc_is R hR (dig m) d (words_dig m) hd
  have h := parse_mul s R hR x2 (dig m) (by omega) (dig m) [] d (words_dig m) hd (by simp)
  rw [List.nil_append, List.nil_append, List.length_nil, Int.natCast_zero] at h
  rw [i2]
  exact .raise h

section
variable (s : ByteArray) (R : Nat) (hR : 2 ≤ R ∧ R ≤ 36) (hs : s.size < 9000000000000000) (hd : ∀ i, i < s.size → dg (byteAt s i) < R)
include hR hs hd

theorem parse_ok (hb : big (pv s R s.size) = false) : ∀ (f i n : Nat), i + f = s.size →
    LoopTo Try.prog (loopAt Try.f35 1) (parseS1 s R i (dig (pv s R i)) n) (.exit 2) (parseX1 s R (dig (pv s R s.size)) (dig (pv s R s.size)).length) := by
  intro f
  induction f with
  | zero =>
    intro i n hi
    have : i = s.size := by omega
    subst this
    exact .raise (.done (by simp) (parseL1_5 s R s.size 0 (dig (pv s R s.size)) [] (dig (pv s R s.size)).length 0 0 ⟨by simp, trivial⟩))
  | succ f ih =>
    intro i n hi
    have hbi : ∀ g, i + g ≤ s.size → big (pv s R (i + g)) = false := fun g hg => by
      have := pv_mono s hR.1 (i + g) (s.size - (i + g))
      rw [show i + g + (s.size - (i + g)) = s.size by omega] at this
      cases hh : big (pv s R (i + g)) with
      | false => rfl
      | true => rw [big_mono this hh] at hb; cases hb
    have hb0 := hbi 0 (by omega)
    have hb1 := hbi 1 (by omega)
    rw [Nat.add_zero] at hb0
    have hB := byteAt_range s i
    have hD0 := dg_nonneg (c := byteAt s i)
    have hD1 := hd i (by omega)
    have hin := parse_in s R hR.2 i (pv s R i) (dg (byteAt s i)) hb0 ⟨hD0, by omega⟩ n
    have hm := mulc_dig R ⟨by omega, hR.2⟩ (pv s R i) (dg (byteAt s i)) ⟨hD0, by omega⟩
    have hmi := mulc_is R hR.2 (dig (pv s R i)) (dg (byteAt s i)) (words_dig _) ⟨hD0, by omega⟩
    have hnext := ih (i + 1) (mulc R (dig (pv s R i)) (dg (byteAt s i))).1.length (by omega)
    have hlen := small_len hb1
    rw [pv] at hnext hlen
    have ed : dg (byteAt s i) % 18446744073709551616 = dg (byteAt s i) := Int.emod_eq_of_lt hD0 (by omega)
    generalize mulc R (dig (pv s R i)) (dg (byteAt s i)) = oc at *
    have ec : oc.2 % 4294967296 = oc.2 := Int.emod_eq_of_lt hmi.2.2.1.1 (by omega)
    by_cases hc : 0 < oc.2
    · rw [if_pos hc] at hm
      rw [hm] at hnext hlen
      have h1 := parseL1_2 s R i oc.2 (dig (pv s R i)) oc.1 n oc.1.length oc.1.length (by
        rw [Int.toNat_natCast, ed, ec]
        exact ⟨by simp; omega, by omega, hB.1, hB.2, hin, by simpa using hc, rfl, rfl, by omega, by rw [decide_eq_false_iff_not]; omega, inR64 (by omega) (by omega), trivial⟩)
      rw [ec] at h1
      exact .step h1 hnext
    · rw [if_neg hc] at hm
      rw [hm] at hnext hlen
      have h1 := parseL1_4 s R i oc.2 (dig (pv s R i)) oc.1 n oc.1.length oc.1.length (by
        rw [Int.toNat_natCast, ed]
        exact ⟨by simp; omega, by omega, hB.1, hB.2, hin, by simpa using hc, by rw [decide_eq_false_iff_not]; omega, inR64 (by omega) (by omega), trivial⟩)
      exact .step h1 hnext

theorem parse_long (hb : big (pv s R s.size) = true) : ∀ (f i n : Nat), i + f = s.size → big (pv s R i) = false →
    LoopTo Try.prog (loopAt Try.f35 1) (parseS1 s R i (dig (pv s R i)) n) .ret (parseX1_1 s R) := by
  intro f
  induction f with
  | zero =>
    intro i n hi hb0
    have : i = s.size := by omega
    subst this
    rw [hb] at hb0
    cases hb0
  | succ f ih =>
    intro i n hi hb0
    have hB := byteAt_range s i
    have hD0 := dg_nonneg (c := byteAt s i)
    have hD1 := hd i (by omega)
    have hin := parse_in s R hR.2 i (pv s R i) (dg (byteAt s i)) hb0 ⟨hD0, by omega⟩ n
    have hm := mulc_dig R ⟨by omega, hR.2⟩ (pv s R i) (dg (byteAt s i)) ⟨hD0, by omega⟩
    have hmi := mulc_is R hR.2 (dig (pv s R i)) (dg (byteAt s i)) (words_dig _) ⟨hD0, by omega⟩
    have hnext := ih (i + 1) (mulc R (dig (pv s R i)) (dg (byteAt s i))).1.length (by omega)
    have hl0 := small_len hb0
    have ed : dg (byteAt s i) % 18446744073709551616 = dg (byteAt s i) := Int.emod_eq_of_lt hD0 (by omega)
    have ebig : big (pv s R (i + 1)) = decide (1024 < (dig (pv s R (i + 1))).length) := rfl
    rw [pv] at hnext ebig
    generalize mulc R (dig (pv s R i)) (dg (byteAt s i)) = oc at *
    have ec : oc.2 % 4294967296 = oc.2 := Int.emod_eq_of_lt hmi.2.2.1.1 (by omega)
    have hl1 := hmi.2.1
    by_cases hc : 0 < oc.2
    · rw [if_pos hc] at hm
      rw [hm] at hnext ebig
      by_cases hl : 1024 < (oc.1 ++ [oc.2]).length
      · exact .done (by simp) (parseL1_1 s R i oc.2 (dig (pv s R i)) oc.1 n oc.1.length oc.1.length (by
          rw [Int.toNat_natCast, ed, ec]
          exact ⟨by simp; omega, by omega, hB.1, hB.2, hin, by simpa using hc, rfl, rfl, by rw [List.length_append, List.length_singleton]; omega, by rw [decide_eq_true_eq]; omega, trivial⟩))
      · rw [decide_eq_false hl] at ebig
        have h1 := parseL1_2 s R i oc.2 (dig (pv s R i)) oc.1 n oc.1.length oc.1.length (by
          rw [Int.toNat_natCast, ed, ec]
          exact ⟨by simp; omega, by omega, hB.1, hB.2, hin, by simpa using hc, rfl, rfl, by omega, by rw [decide_eq_false_iff_not]; omega, inR64 (by omega) (by omega), trivial⟩)
        rw [ec] at h1
        exact .step h1 (hnext ebig)
    · rw [if_neg hc] at hm
      rw [hm] at hnext ebig
      have hl : ¬ 1024 < oc.1.length := by omega
      rw [decide_eq_false hl] at ebig
      have h1 := parseL1_4 s R i oc.2 (dig (pv s R i)) oc.1 n oc.1.length oc.1.length (by
        rw [Int.toNat_natCast, ed]
        exact ⟨by simp; omega, by omega, hB.1, hB.2, hin, by simpa using hc, by rw [decide_eq_false_iff_not]; omega, inR64 (by omega) (by omega), trivial⟩)
      exact .step h1 (hnext ebig)

theorem rstep (i m : Nat) (hi : i < s.size) (hb : big m = false) :
    nat [((R : Int) % 4294967296)] = R ∧ nat [dg (byteAt s i) % 4294967296] = (dg (byteAt s i)).toNat ∧ Words [((R : Int) % 4294967296)] ∧ Words [dg (byteAt s i) % 4294967296] ∧
    (dig m).length + 1 + 1 ≤ lim4 ∧ (dig (m * R)).length + 1 ≤ lim4 ∧ (dig (m * R + (dg (byteAt s i)).toNat)).length ≤ lim4 := by
  have hD0 := dg_nonneg (c := byteAt s i)
  have hD1 := hd i hi
  have h1 := small_len hb
  have h2 := dig_mul_len (x := R) hb (by omega)
  have h3 : (dig (m * R + (dg (byteAt s i)).toNat)).length ≤ (dig (m * R)).length + 1 := by
    have := mulc_dig R ⟨by omega, hR.2⟩ m (dg (byteAt s i)) ⟨hD0, by omega⟩
    have hmi := mulc_is R hR.2 (dig m) (dg (byteAt s i)) (words_dig _) ⟨hD0, by omega⟩
    have hmono : (dig m).length ≤ (dig (m * R)).length := dig_mono (by
      have : m * 1 ≤ m * R := Nat.mul_le_mul_left _ (by omega)
      omega)
    rw [this]
    split
    · rw [List.length_append, List.length_singleton]; omega
    · omega
  have e1 : (R : Int) % 4294967296 = R := Int.emod_eq_of_lt (by omega) (by omega)
  have e2 : dg (byteAt s i) % 4294967296 = dg (byteAt s i) := Int.emod_eq_of_lt hD0 (by omega)
  rw [e1, e2]
  unfold lim4
  exact ⟨by rw [nat_word (by omega), Int.toNat_natCast], nat_word hD0, words_one ⟨by omega, by omega⟩, words_one ⟨hD0, by omega⟩, by omega, by omega, by omega⟩

theorem sparse_ok (hb : big (pv s R s.size) = false) : ∀ (f i : Nat) (t : Bool), i + f = s.size →
    ∃ t1 : Bool, LoopTo Try.prog (loopAt Try.f36 1) (sparseS1 s R i (dig (pv s R i)) t) (.exit 2) (sparseX1 s R (dig (pv s R s.size)) t1) := by
  intro f
  induction f with
  | zero =>
    intro i t hi
    have : i = s.size := by omega
    subst this
    exact ⟨t, .done (by simp) (sparseL1_3 s R s.size (dig (pv s R s.size)) t ⟨by simp, trivial⟩)⟩
  | succ f ih =>
    intro i t hi
    have hbi : ∀ g, i + g ≤ s.size → big (pv s R (i + g)) = false := fun g hg => by
      have := pv_mono s hR.1 (i + g) (s.size - (i + g))
      rw [show i + g + (s.size - (i + g)) = s.size by omega] at this
      cases hh : big (pv s R (i + g)) with
      | false => rfl
      | true => rw [big_mono this hh] at hb; cases hb
    have hb0 := hbi 0 (by omega)
    have hb1 := hbi 1 (by omega)
    rw [Nat.add_zero] at hb0
    have hB := byteAt_range s i
    obtain ⟨t1, hnext⟩ := ih (i + 1) false (by omega)
    refine ⟨t1, ?_⟩
    rw [pv] at hnext hb1
    generalize pv s R i = m at *
    obtain ⟨e1, e2, w1, w2, l1, l2, l3⟩ := rstep s R hR hs hd i m (by omega) hb0
    have h1 := sparseL1_2 s R i (dig m) t (by
      rw [Int.toNat_natCast, nat_dig, nat_dig, e1, e2]
      exact ⟨by simp; omega, words_dig _, w1, l1, by omega, hB.1, hB.2, words_dig _, w2, l2, by simp [lim4], by rw [over_big (words_dig _), nat_dig]; exact hb1, l3, inR64 (by omega) (by omega), trivial⟩)
    rw [Int.toNat_natCast, nat_dig, nat_dig, e1, e2] at h1
    exact .step h1 hnext

theorem sparse_long (hb : big (pv s R s.size) = true) : ∀ (f i : Nat) (t : Bool), i + f = s.size → big (pv s R i) = false →
    LoopTo Try.prog (loopAt Try.f36 1) (sparseS1 s R i (dig (pv s R i)) t) .ret (sparseX1_1 s R) := by
  intro f
  induction f with
  | zero =>
    intro i t hi hb0
    have : i = s.size := by omega
    subst this
    rw [hb] at hb0
    cases hb0
  | succ f ih =>
    intro i t hi hb0
    have hB := byteAt_range s i
    have hnext := ih (i + 1) false (by omega)
    rw [pv] at hnext
    generalize pv s R i = m at *
    obtain ⟨e1, e2, w1, w2, l1, l2, l3⟩ := rstep s R hR hs hd i m (by omega) hb0
    cases hb1 : big (m * R + (dg (byteAt s i)).toNat) with
    | true =>
      exact .done (by simp) (sparseL1_1 s R i (dig m) t (by
        rw [Int.toNat_natCast, nat_dig, nat_dig, e1, e2]
        exact ⟨by simp; omega, words_dig _, w1, l1, by omega, hB.1, hB.2, words_dig _, w2, l2, by simp [lim4], by rw [over_big (words_dig _), nat_dig]; exact hb1, l3, trivial⟩))
    | false =>
      have h1 := sparseL1_2 s R i (dig m) t (by
        rw [Int.toNat_natCast, nat_dig, nat_dig, e1, e2]
        exact ⟨by simp; omega, words_dig _, w1, l1, by omega, hB.1, hB.2, words_dig _, w2, l2, by simp [lim4], by rw [over_big (words_dig _), nat_dig]; exact hb1, l3, inR64 (by omega) (by omega), trivial⟩)
      rw [Int.toNat_natCast, nat_dig, nat_dig, e1, e2] at h1
      exact .step h1 (hnext hb1)

end

open Classical in
/-- what Parse answers -/
noncomputable def Prs (s : ByteArray) (r : Int) : List Int × Int :=
  if r < 2 then ([], 1) else if 36 < r then ([], 1) else if s.size = 0 then ([], 4) else if ¬ (∀ j, 0 ≤ j → j < s.size → dg (byteAt s j) < r) then ([], 4)
  else if big (pv s r.toNat s.size) then ([], 3) else (dig (pv s r.toNat s.size), 0)

theorem big_zero : big 0 = false := by unfold big; rw [dig_zero]; rfl

theorem loop_length (s : ByteArray) : ∀ (f i : Nat) (r : List UInt8), i + f = s.size → (ByteArray.toList.loop s i r).length = f + r.length := by
  intro f
  induction f with
  | zero => intro i r h; rw [ByteArray.toList.loop, if_neg (by omega), List.length_reverse, Nat.zero_add]
  | succ f ih => intro i r h; rw [ByteArray.toList.loop, if_pos (by omega), ih (i + 1) _ (by omega), List.length_cons]; omega

theorem toList_length (s : ByteArray) : s.toList.length = s.size := by
  rw [ByteArray.toList, loop_length s s.size 0 [] (by omega), List.length_nil, Nat.add_zero]

theorem toList_empty : (ByteArray.mk #[]).toList = [] := List.eq_nil_of_length_eq_zero (toList_length _)

theorem parse_pure (s : ByteArray) (r : Int) (hs : s.size < 9000000000000000) : PureTo Try.prog 35 [.v (.string s), .v (.int .i64 r)] (.tup [.sl 1 (.ints .u32 (Prs s r).1) false, .v (.int .i64 (Prs s r).2)]) := by
  unfold Prs
  by_cases h1 : r < 2
  · rw [if_pos h1]; exact parseF1 s r 0 [] 0 ⟨by simpa using h1, trivial⟩
  by_cases h2 : 36 < r
  · rw [if_neg h1, if_pos h2]; exact parseF2 s r 0 [] 0 ⟨by simpa using h1, by simpa using h2, trivial⟩
  rw [if_neg h1, if_neg h2]
  have hl := toList_length s
  by_cases h3 : s.size = 0
  · rw [if_pos h3]
    have h4 : s.toList = [] := List.eq_nil_of_length_eq_zero (by omega)
    exact parseF3 s r 0 [] 0 ⟨by simpa using h1, by simpa using h2, by rw [h4, toList_empty]; rfl, trivial⟩
  have h4 : (s.toList == (ByteArray.mk #[]).toList) = false := by
    rw [beq_eq_false_iff_ne]
    intro h
    rw [h, toList_empty] at hl
    exact h3 hl.symm
  rw [if_neg h3]
  by_cases h5 : ∀ j, 0 ≤ j → j < s.size → dg (byteAt s j) < r
  · rw [if_neg (fun h => h h5)]
    have g1 := digits_loop s r hs s.size 0 (by omega) h5
    obtain ⟨R, rfl⟩ : ∃ R : Nat, r = R := ⟨r.toNat, by omega⟩
    rw [Int.toNat_natCast]
    cases h6 : big (pv s R s.size) with
    | true =>
      rw [if_pos rfl]
      have g2 := parse_long s R (by omega) hs (fun i hi => h5 i (by omega) hi) h6 s.size 0 0 (by omega) big_zero
      rw [pv, dig_zero] at g2
      exact parseF5 s R 0 [] 0 ⟨by simpa using h1, by simpa using h2, h4, g1, g2, trivial⟩
    | false =>
      rw [if_neg (by simp)]
      have g2 := parse_ok s R (by omega) hs (fun i hi => h5 i (by omega) hi) h6 s.size 0 0 (by omega)
      rw [pv, dig_zero] at g2
      exact parseF4 s R 0 _ _ ⟨by simpa using h1, by simpa using h2, h4, g1, g2, rfl, Nat.le_refl _, trivial⟩
  · rw [if_pos h5]
    have g1 := digits_bad s r hs s.size 0 (by omega) h5
    exact parseF6 s r 4 [] 0 ⟨by simpa using h1, by simpa using h2, h4, g1, trivial⟩

theorem rparse_pure (s : ByteArray) (r : Int) (hs : s.size < 9000000000000000) : PureTo Try.prog 36 [.v (.string s), .v (.int .i64 r)] (.tup [.sl 1 (.ints .u32 (Prs s r).1) false, .v (.int .i64 (Prs s r).2)]) := by
  unfold Prs
  by_cases h1 : r < 2
  · rw [if_pos h1]; exact sparseF1 s r 0 [] false ⟨by simpa using h1, trivial⟩
  by_cases h2 : 36 < r
  · rw [if_neg h1, if_pos h2]; exact sparseF2 s r 0 [] false ⟨by simpa using h1, by simpa using h2, trivial⟩
  rw [if_neg h1, if_neg h2]
  by_cases h3 : s.size = 0
  · rw [if_pos h3]
    have g1 := rdigits_loop s r hs s.size 0 (by omega) (fun j _ hj => by omega)
    exact sparseF3 s r 0 [] false ⟨by simpa using h1, by simpa using h2, g1, by rw [h3]; rfl, trivial⟩
  have h4 : ((s.size : Int) == 0) = false := by rw [beq_eq_false_iff_ne]; omega
  rw [if_neg h3]
  by_cases h5 : ∀ j, 0 ≤ j → j < s.size → dg (byteAt s j) < r
  · rw [if_neg (fun h => h h5)]
    have g1 := rdigits_loop s r hs s.size 0 (by omega) h5
    obtain ⟨R, rfl⟩ : ∃ R : Nat, r = R := ⟨r.toNat, by omega⟩
    rw [Int.toNat_natCast]
    cases h6 : big (pv s R s.size) with
    | true =>
      rw [if_pos rfl]
      have g2 := sparse_long s R (by omega) hs (fun i hi => h5 i (by omega) hi) h6 s.size 0 true (by omega) big_zero
      rw [pv, dig_zero] at g2
      exact sparseF5 s R 0 [] false ⟨by simpa using h1, by simpa using h2, g1, h4, g2, trivial⟩
    | false =>
      rw [if_neg (by simp)]
      obtain ⟨t1, g2⟩ := sparse_ok s R (by omega) hs (fun i hi => h5 i (by omega) hi) h6 s.size 0 true (by omega)
      rw [pv, dig_zero] at g2
      have := sparseF4 s R 0 (dig (pv s R s.size)) t1 ⟨by simpa using h1, by simpa using h2, g1, h4, g2, trivial⟩
      rw [Bool.and_false] at this
      exact this
  · rw [if_pos h5]
    have g1 := rdigits_bad s r hs s.size 0 (by omega) h5
    exact sparseF6 s r 4 [] false ⟨by simpa using h1, by simpa using h2, g1, trivial⟩

end Go.Proofs.Bn

/- Bignum: Text and Parse, in the table. -/
set_option maxRecDepth 100000
namespace Go.Proofs.Bn
open Go Go.Ev

def sigText : List AV → Option (AV × List Prop)
  | [.sl 1 (.ints .u32 a) _, .v (.int .i64 r)] => some (.tup [.v (.string (Txt a r).1), .v (.int .i64 (Txt a r).2)], [Words a, a.length ≤ lim4])
  | _ => none

noncomputable def sigParse : List AV → Option (AV × List Prop)
  | [.v (.string s), .v (.int .i64 r)] => some (.tup [.sl 1 (.ints .u32 (Prs s r).1) false, .v (.int .i64 (Prs s r).2)], [s.size < 9000000000000000])
  | _ => none

noncomputable def SG16 : SGT := (33, .p sigText) :: (34, .p sigText) :: (35, .p sigParse) :: (36, .p sigParse) :: SG15

theorem sok16 : SigsOK Try.prog SG16 := by
  refine sigs_cons (sigs_cons (sigs_cons (sigs_cons sok15 ?_) ?_) ?_) ?_
  · intro ys r c h hc
    unfold sigParse at h
    split at h
    · cases h; exact rparse_pure _ _ hc.1
    · cases h
  · intro ys r c h hc
    unfold sigParse at h
    split at h
    · cases h; exact parse_pure _ _ hc.1
    · cases h
  · intro ys r c h hc
    unfold sigText at h
    split at h
    · cases h; exact rtext_pure _ _ _ hc.1 hc.2.1
    · cases h
  · intro ys r c h hc
    unfold sigText at h
    split at h
    · cases h; exact text_pure _ _ _ hc.1 hc.2.1
    · cases h

end Go.Proofs.Bn

/- Bignum: contract: ref.Halved. -/
set_option maxRecDepth 100000
namespace Go.Proofs.Bn
open Go Go.Ev

theorem half_div {Q B d : Nat} (hB : 0 < B) (hd : d ≤ 1) :
    (2 * Q + d) / B = 2 * (Q / B) + (if B ≤ 2 * (Q % B) + d then 1 else 0) ∧ (2 * Q + d) % B = (if B ≤ 2 * (Q % B) + d then 2 * (Q % B) + d - B else 2 * (Q % B) + d) := by
  have h1 := Nat.div_add_mod Q B
  have h2 := Nat.mod_lt Q hB
  generalize Q / B = k at *
  generalize Q % B = r at *
  have e : 2 * Q + d = (2 * r + d) + B * (2 * k) := by
    rw [← h1, Nat.mul_left_comm B 2 k]; omega
  rw [e, Nat.add_mul_div_left _ _ hB, Nat.add_mul_mod_self_left]
  split
  · next h =>
    have e1 : (2 * r + d) / B = 1 := Nat.div_eq_of_lt_le (by omega) (by omega)
    have e2 : (2 * r + d) % B = 2 * r + d - B := by
      rw [Nat.mod_eq_sub_mod h, Nat.mod_eq_of_lt (by omega)]
    rw [e1, e2]
    omega
  · next h =>
    rw [Nat.div_eq_of_lt (by omega), Nat.mod_eq_of_lt (by omega)]
    omega

theorem half_up (A i : Nat) : A / 2 ^ i = 2 * (A / 2 ^ (i + 1)) + A / 2 ^ i % 2 := by
  rw [Nat.pow_succ, ← Nat.div_div_eq_div_mul]
  omega

/-- a bit is set -/
theorem set_bit {o : List Int} {i : Nat} (hw : Words o) (hi : i < 32 * o.length) (hz : nat o % 2 ^ (i + 1) = 0) :
    bitsOf .or .u32 (o.getD (i / 32) 0) ((2 ^ (i % 32) : Nat) : Int) = ((2 ^ (i % 32) : Nat) : Int) + o.getD (i / 32) 0 ∧
    ((2 ^ (i % 32) : Nat) : Int) + o.getD (i / 32) 0 < 4294967296 ∧
    nat (o.set (i / 32) (((2 ^ (i % 32) : Nat) : Int) + o.getD (i / 32) 0)) = nat o + 2 ^ i := by
  have hx := words_getD hw (i / 32)
  have hlt : i / 32 < o.length := by omega
  have hb := (mod_bit (nat o) i).1 hz
  have h1 := ((shr_rest hw i hlt).1 hb.1).2
  have h2 := word_bit hw i hi
  rw [hb.2] at h2
  have h3 := (mod_bit (o.getD (i / 32) 0).toNat (i % 32)).2 ⟨h1, h2.symm⟩
  have hp : 2 ^ (i % 32) < 2 ^ (i % 32 + 1) := Nat.pow_lt_pow_right (by omega) (by omega)
  have hs : i % 32 + 1 ≤ 32 := by omega
  have hdv : 2 ^ (i % 32 + 1) * 2 ^ (32 - (i % 32 + 1)) = 4294967296 := pow_split hs
  have hm : o.getD (i / 32) 0 % ((2 ^ (i % 32 + 1) : Nat) : Int) = 0 := by
    have : ((o.getD (i / 32) 0).toNat : Int) = o.getD (i / 32) 0 := by omega
    rw [← this, ← Int.natCast_emod, h3]; rfl
  have hor := (or_add (k := .u32) (s := i % 32 + 1) (x := ((2 ^ (i % 32) : Nat) : Int)) (y := o.getD (i / 32) 0) rfl (Int.natCast_nonneg _) (by omega) hx.1 (by show _ < (2 : Int) ^ 32; omega) hm hs).2
  have hlt2 : ((2 ^ (i % 32) : Nat) : Int) + o.getD (i / 32) 0 < 4294967296 := by
    obtain ⟨X, hX⟩ : ∃ X : Nat, o.getD (i / 32) 0 = X := ⟨(o.getD (i / 32) 0).toNat, by omega⟩
    rw [hX] at h3 hx ⊢
    rw [Int.toNat_natCast] at h3
    obtain ⟨c, hc⟩ := Nat.dvd_of_mod_eq_zero h3
    have h4 : c < 2 ^ (32 - (i % 32 + 1)) := by
      refine Nat.lt_of_mul_lt_mul_left (a := 2 ^ (i % 32 + 1)) ?_
      rw [hdv, ← hc]; omega
    have h5 : 2 ^ (i % 32 + 1) * (c + 1) ≤ 2 ^ (i % 32 + 1) * 2 ^ (32 - (i % 32 + 1)) := Nat.mul_le_mul_left _ h4
    rw [hdv, Nat.mul_add, ← hc] at h5
    omega
  refine ⟨by rw [hor, Int.add_comm], hlt2, ?_⟩
  have hv := val_set o (i / 32) (((2 ^ (i % 32) : Nat) : Int) + o.getD (i / 32) 0) hlt
  have hn : (0 : Int) ≤ ((2 ^ (i % 32) : Nat) : Int) := Int.natCast_nonneg _
  rw [val_nat (words_set hw _ (by omega) hlt2), val_nat hw, Int.add_mul] at hv
  have hpw : ((2 ^ i : Nat) : Int) = ((2 ^ (i % 32) : Nat) : Int) * 4294967296 ^ (i / 32) := by
    rw [pow32 i, Int.natCast_mul, Int.mul_comm, Int.natCast_pow]; rfl
  rw [← hpw] at hv
  omega

theorem cmp_ge {m n : Nat} : cmpN m n ≥ 0 ↔ n ≤ m := by
  unfold cmpN
  split
  · omega
  · split <;> omega

structure HalfInv (A B N : Nat) (o : List Int) (r i : Nat) : Prop where
  len : o.length = N
  words : Words o
  quot : nat o = A / 2 ^ i / B * 2 ^ i
  rest : r = A / 2 ^ i % B

theorem half_no {A B N : Nat} {o : List Int} {r i d : Nat} (hB : 0 < B) (hd : A / 2 ^ i % 2 = d) (I : HalfInv A B N o r (i + 1)) (hlt : ¬ B ≤ r * 2 + d) : HalfInv A B N o (r * 2 + d) i := by
  have hu := half_up A i
  have hd1 : d ≤ 1 := by omega
  rw [hd] at hu
  have h := half_div (Q := A / 2 ^ (i + 1)) hB hd1
  rw [← I.rest, if_neg (by omega), if_neg (by omega), ← hu] at h
  refine ⟨I.len, I.words, ?_, ?_⟩
  · rw [I.quot, h.1, Nat.pow_succ, Nat.mul_comm (2 ^ i) 2, Nat.add_zero, Nat.mul_comm 2 (_ / B), Nat.mul_assoc]
  · rw [h.2]; omega

theorem half_yes {A B N : Nat} {o : List Int} {r i d : Nat} (hB : 0 < B) (hd : A / 2 ^ i % 2 = d) (hi : i < 32 * N) (I : HalfInv A B N o r (i + 1)) (hle : B ≤ r * 2 + d) :
    HalfInv A B N (o.set (i / 32) (bitsOf .or .u32 (o.getD (i / 32) 0) ((2 ^ (i % 32) : Nat) : Int))) (r * 2 + d - B) i := by
  have hu := half_up A i
  have hd1 : d ≤ 1 := by omega
  rw [hd] at hu
  have h := half_div (Q := A / 2 ^ (i + 1)) hB hd1
  rw [← I.rest, if_pos (by omega), if_pos (by omega), ← hu] at h
  have hz : nat o % 2 ^ (i + 1) = 0 := by rw [I.quot]; exact Nat.mul_mod_left _ _
  obtain ⟨s1, s2, s3⟩ := set_bit I.words (by rw [I.len]; exact hi) hz
  have hx := words_getD I.words (i / 32)
  have hn : (0 : Int) ≤ ((2 ^ (i % 32) : Nat) : Int) := Int.natCast_nonneg _
  refine ⟨by rw [List.length_set]; exact I.len, ?_, ?_, ?_⟩
  · rw [s1]; exact words_set I.words _ (by omega) s2
  · rw [s1, s3, I.quot, h.1, Nat.pow_succ, Nat.mul_comm (2 ^ i) 2, Nat.add_mul, Nat.one_mul, Nat.mul_comm 2 (_ / B), Nat.mul_assoc]
  · rw [h.2]; omega

end Go.Proofs.Bn

/- Bignum: contract: ref.Halved: the loop. -/
set_option maxRecDepth 100000
namespace Go.Proofs.Bn
open Go Go.Ev

theorem bit_word {a : List Int} (hw : Words a) {i : Nat} (hi : i < 32 * a.length) :
    bitsOf .and .u32 (a.getD (i / 32) 0 / ((2 ^ (i % 32) : Nat) : Int)) 1 = ((nat a / 2 ^ i % 2 : Nat) : Int) := by
  have hx := words_getD hw (i / 32)
  rw [word_bit hw i hi]
  have hq : a.getD (i / 32) 0 / ((2 ^ (i % 32) : Nat) : Int) = (((a.getD (i / 32) 0).toNat / 2 ^ (i % 32) : Nat) : Int) := by
    rw [Int.natCast_ediv]
    congr 1
    omega
  rw [hq]
  have hle2 := Nat.div_le_self (a.getD (i / 32) 0).toNat (2 ^ (i % 32))
  have := and_low (k := .u32) (s := 1) (x := (((a.getD (i / 32) 0).toNat / 2 ^ (i % 32) : Nat) : Int)) rfl (Int.natCast_nonneg _) (by show _ < (2 : Int) ^ 32; omega) (by decide)
  rw [Int.natCast_emod]
  exact this

theorem dig_two {r B d : Nat} (hd : d ≤ 1) (hr : r < B) (hl : (dig B).length ≤ 2000) : (dig r).length ≤ 2000 ∧ (dig (r * 2)).length ≤ 2001 ∧ (dig (r * 2 + d)).length ≤ 2001 := by
  have h1 : (dig (B * 2)).length ≤ 2001 := dig_mul_le hl (by omega)
  have h2 : (dig r).length ≤ (dig B).length := dig_mono (by omega)
  have h3 : (dig (r * 2)).length ≤ (dig (B * 2)).length := dig_mono (by omega)
  have h4 : (dig (r * 2 + d)).length ≤ (dig (B * 2)).length := dig_mono (by omega)
  omega

theorem halved_loop (a : List Int) (ta tb : Bool) (B : Nat) (ha : Words a) (hB : 0 < B) (hla : a.length ≤ 2000) (hlb : (dig B).length ≤ 2000) : ∀ (i r : Nat) (o : List Int) (t : Bool), i ≤ 32 * a.length → HalfInv (nat a) B a.length o r i →
    ∃ (l3 : List Int) (t1 : Bool), HalfInv (nat a) B a.length l3 (nat a % B) 0 ∧
    LoopTo Try.prog (loopAt Try.f63 0) (halvedS0 a (dig B) ta tb ((i : Int) - 1) (dig r) o a.length a.length t) (.exit 0) (halvedX0 a (dig B) ta tb (dig (nat a % B)) l3 a.length a.length t1) := by
  have n1 : nat [(1 : Int)] = 1 := rfl
  have w1 : Words [(1 : Int)] := words_one ⟨by omega, by omega⟩
  intro i
  induction i with
  | zero =>
    intro r o t _ I
    have hr := I.rest
    rw [Nat.pow_zero, Nat.div_one] at hr
    subst hr
    exact ⟨o, t, I, .done (by simp) (halvedL0_5 a (dig B) ta tb _ _ o a.length a.length t ⟨by simp, trivial⟩)⟩
  | succ i ih =>
    intro r o t hi I
    have e : ((i + 1 : Nat) : Int) - 1 = (i : Int) := by omega
    have e1 : (i : Int).tdiv 32 = ((i / 32 : Nat) : Int) := by rw [Int.tdiv_eq_ediv_of_nonneg (by omega)]; omega
    have e2 : (i : Int).tmod 32 % 18446744073709551616 = ((i % 32 : Nat) : Int) := by rw [Int.tmod_eq_emod_of_nonneg (by omega)]; omega
    have e3 : (2 : Int) ^ min ((i : Int).tmod 32 % 18446744073709551616).toNat 32 = ((2 ^ (i % 32) : Nat) : Int) := by
      rw [e2, Int.toNat_natCast, Nat.min_eq_left (by omega), two_pow]
    have e4 := bit_word ha (i := i) (by omega)
    have hr : r < B := by rw [I.rest]; exact Nat.mod_lt _ hB
    have hp : (1 : Int) * ((2 ^ (i % 32) : Nat) : Int) = ((2 ^ (i % 32) : Nat) : Int) := Int.one_mul _
    have hpl : 2 ^ (i % 32) < 4294967296 := by
      have := Nat.pow_lt_pow_right (a := 2) (by omega) (show i % 32 < 32 by omega)
      omega
    have hp0 : (0 : Int) ≤ ((2 ^ (i % 32) : Nat) : Int) := Int.natCast_nonneg _
    have hlim : lim4 = 35184372088832 := rfl
    have hlim2 : lim = 281474976710656 := rfl
    generalize hd : nat a / 2 ^ i % 2 = d at e4
    have hd1 : d ≤ 1 := by omega
    obtain ⟨g1, g2, g3⟩ := dig_two hd1 hr hlb
    rw [e]
    by_cases hle : B ≤ r * 2 + d
    · have J := half_yes hB hd (by omega) I hle
      obtain ⟨l3, t1, K, hl⟩ := ih _ _ false (by omega) J
      refine ⟨l3, t1, K, ?_⟩
      have hdm : (dig B).length ≤ (dig (r * 2 + d)).length := dig_mono hle
      by_cases h1 : d = 1
      · have h := halvedL0_1 a (dig B) ta tb i (dig r) o a.length a.length t (by
          rw [e1, e2, Int.toNat_natCast, Int.toNat_natCast, Nat.min_eq_left (by omega : i % 32 ≤ 32), two_pow, e4, h1, hp]
          simp only [nat_dig, n1]
          rw [h1] at g3 hle hdm
          exact ⟨by simp, words_dig _, by omega, by omega, by omega, inR64 (by omega) (by omega), by omega, by omega, by omega, rfl, words_dig _, w1, by omega, by omega, words_dig _, words_dig _, by omega, by omega, by rw [decide_eq_true_eq]; exact cmp_ge.2 hle, words_dig _, words_dig _, by omega, hdm, hle,
            by omega, inR64 (by omega) (by omega), by omega, inR64 (by omega) (by omega), by omega, Nat.le_refl _, by omega, by omega, by simp only [inR]; omega, by omega, I.len.symm, inR64 (by omega) (by omega), trivial⟩)
        rw [e1, e2, Int.toNat_natCast, Int.toNat_natCast, Nat.min_eq_left (by omega : i % 32 ≤ 32), two_pow, hp, ix0, I.len] at h
        simp only [nat_dig, n1] at h
        rw [h1] at hl
        exact .step h hl
      · have h0 : d = 0 := by omega
        have h := halvedL0_3 a (dig B) ta tb i (dig r) o a.length a.length t (by
          rw [e1, e2, Int.toNat_natCast, Int.toNat_natCast, Nat.min_eq_left (by omega : i % 32 ≤ 32), two_pow, e4, h0, hp]
          simp only [nat_dig]
          rw [h0] at g3 hle hdm
          exact ⟨by simp, words_dig _, by omega, by omega, by omega, inR64 (by omega) (by omega), by omega, by omega, by omega, rfl, words_dig _, words_dig _, by omega, by omega, by rw [decide_eq_true_eq]; exact cmp_ge.2 hle, words_dig _, words_dig _, by omega, hdm, hle,
            by omega, inR64 (by omega) (by omega), by omega, inR64 (by omega) (by omega), by omega, Nat.le_refl _, by omega, by omega, by simp only [inR]; omega, by omega, I.len.symm, inR64 (by omega) (by omega), trivial⟩)
        rw [e1, e2, Int.toNat_natCast, Int.toNat_natCast, Nat.min_eq_left (by omega : i % 32 ≤ 32), two_pow, hp, ix0, I.len] at h
        simp only [nat_dig] at h
        rw [h0] at hl
        exact .step h hl
    · have J := half_no hB hd I hle
      obtain ⟨l3, t1, K, hl⟩ := ih _ _ false (by omega) J
      refine ⟨l3, t1, K, ?_⟩
      by_cases h1 : d = 1
      · have h := halvedL0_2 a (dig B) ta tb i (dig r) o a.length a.length t (by
          rw [e1, e2, Int.toNat_natCast, Int.toNat_natCast, Nat.min_eq_left (by omega : i % 32 ≤ 32), two_pow, e4, h1]
          simp only [nat_dig, n1]
          rw [h1] at g3 hle
          exact ⟨by simp, words_dig _, by omega, by omega, by omega, inR64 (by omega) (by omega), by omega, by omega, by omega, rfl, words_dig _, w1, by omega, by omega, words_dig _, words_dig _, by omega, by omega, by rw [decide_eq_false_iff_not]; exact fun h => hle (cmp_ge.1 h), inR64 (by omega) (by omega), trivial⟩)
        simp only [nat_dig, n1] at h
        rw [h1] at hl
        exact .step h hl
      · have h0 : d = 0 := by omega
        have h := halvedL0_4 a (dig B) ta tb i (dig r) o a.length a.length t (by
          rw [e1, e2, Int.toNat_natCast, Int.toNat_natCast, Nat.min_eq_left (by omega : i % 32 ≤ 32), two_pow, e4, h0]
          simp only [nat_dig]
          rw [h0] at g3 hle
          exact ⟨by simp, words_dig _, by omega, by omega, by omega, inR64 (by omega) (by omega), by omega, by omega, by omega, rfl, words_dig _, words_dig _, by omega, by omega, by rw [decide_eq_false_iff_not]; exact fun h => hle (cmp_ge.1 h), inR64 (by omega) (by omega), trivial⟩)
        simp only [nat_dig] at h
        rw [h0] at hl
        exact .step h hl

theorem halved_pure (a : List Int) (ta tb : Bool) (B : Nat) (ha : Words a) (hB : 0 < B) (hla : a.length ≤ 2000) (hlb : (dig B).length ≤ 2000) :
    PureTo Try.prog 63 [.sl 1 (.ints .u32 a) ta, .sl 1 (.ints .u32 (dig B)) tb] (.tup [.sl 1 (.ints .u32 (dig (nat a / B))) false, .sl 1 (.ints .u32 (dig (nat a % B))) false]) := by
  have hbig : nat a / 2 ^ (32 * a.length) = 0 := by
    refine Nat.div_eq_of_lt ?_
    have := nat_lt ha
    rw [Nat.pow_mul]
    exact this
  obtain ⟨l3, t1, K, hl⟩ := halved_loop a ta tb B ha hB hla hlb (32 * a.length) 0 (List.replicate a.length 0) true (Nat.le_refl _)
    ⟨by simp, zeros_words _, by rw [hbig, zeros_nat, Nat.zero_div, Nat.zero_mul], by rw [hbig, Nat.zero_mod]⟩
  rw [dig_zero] at hl
  have hq := K.quot
  rw [Nat.pow_zero, Nat.div_one, Nat.mul_one] at hq
  have e : ((32 * a.length : Nat) : Int) - 1 = 32 * (a.length : Int) - 1 := by omega
  rw [e] at hl
  have h := halvedF1 a (dig B) ta tb (dig (nat a % B)) l3 a.length a.length t1 (by
    rw [Int.toNat_natCast]
    exact ⟨by omega, by omega, inR64 (by omega) (by omega), inR64 (by omega) (by omega), .raise (by
      have e : (List.replicate a.length (0 : Int)).length = a.length := by simp
      show LoopTo _ _ { n := _, fr := _, hp := [(4, .row 22 1 (.ints .u32 (List.replicate a.length 0)) (List.replicate a.length (0 : Int)).length)], nx := _ } _ _
      rw [e]
      exact hl), K.len.symm, Nat.le_refl _, by rw [K.len]; unfold lim4; omega, trivial⟩)
  rw [norm_eq K.words, hq, Bool.and_false] at h
  exact h

end Go.Proofs.Bn

/- Bignum: Halved, in the table. -/
set_option maxRecDepth 100000
namespace Go.Proofs.Bn
open Go Go.Ev

def sigHalved : List AV → Option (AV × List Prop)
  | [.sl 1 (.ints .u32 a) _, .sl 1 (.ints .u32 b) _] => some (.tup [.sl 1 (.ints .u32 (dig (nat a / nat b))) false, .sl 1 (.ints .u32 (dig (nat a % nat b))) false], [Words a, b = dig (nat b), 0 < nat b, a.length ≤ 2000, b.length ≤ 2000])
  | _ => none

noncomputable def SG17 : SGT := (63, .p sigHalved) :: SG16

theorem sok17 : SigsOK Try.prog SG17 := by
  refine sigs_cons sok16 ?_
  intro ys r c h hc
  unfold sigHalved at h
  split at h
  · next a ta b tb =>
    cases h
    obtain ⟨h1, h2, h3, h4, h5, _⟩ := hc
    have := halved_pure a ta tb (nat b) h1 h3 h4 (by rw [← h2]; exact h5)
    rw [← h2] at this
    exact this
  · cases h

end Go.Proofs.Bn

/- Bignum: walks, written by the tool. -/
set_option maxRecDepth 100000
namespace Go.Proofs.Bn
open Go Go.Ev
def stpS0 (l v : List Int) (g : Int) (fl off n ver : Nat) (t tv : Bool) (x0 : Int) (x1 : Int) (x2 : Int) (l0 : List Int) (n0 : Nat) : AS := { n := 76, fr := [(0, AV.row 4294967296 off n ver t), (1, AV.sl 1 (.ints .u32 v) tv), (2, AV.v (.int .u64 g)), (7, AV.v (.int .u64 x0)), (8, AV.v (.int .u64 x1)), (15, AV.v (.int .i64 (↑n : Int))), (16, AV.v (.int .i64 x2))], hp := [(4294967296, AObj.row 22 1 (.ints .u32 l0) n0)], nx := 0 }
def stpX0 (l v : List Int) (g : Int) (fl off n ver : Nat) (t tv : Bool) (x3 : Int) (l1 : List Int) (n1 : Nat) : AS := { n := 76, fr := [(0, AV.row 4294967296 off n ver t), (1, AV.sl 1 (.ints .u32 v) tv), (2, AV.v (.int .u64 g)), (7, AV.v (.int .u64 x3))], hp := [(4294967296, AObj.row 22 1 (.ints .u32 l1) n1)], nx := 0 }
def stpS1 (l v : List Int) (g : Int) (fl off n ver : Nat) (t tv : Bool) (x4 : Int) (x5 : Int) (l2 : List Int) (n2 : Nat) : AS := { n := 76, fr := [(0, AV.row 4294967296 off n ver t), (1, AV.sl 1 (.ints .u32 v) tv), (2, AV.v (.int .u64 g)), (8, AV.v (.int .u64 x4)), (51, AV.v (.int .i64 (↑n : Int))), (52, AV.v (.int .i64 x5))], hp := [(4294967296, AObj.row 22 1 (.ints .u32 l2) n2)], nx := 0 }
def stpX1 (l v : List Int) (g : Int) (fl off n ver : Nat) (t tv : Bool) (l3 : List Int) (n3 : Nat) : AS := { n := 76, fr := [(2, AV.v (.int .u64 g))], hp := [(4294967296, AObj.row 22 1 (.ints .u32 l3) n3)], nx := 0 }
-- 3 paths
theorem rmulF1 (a b : List Int) (ta tb : Bool) (h : AllP [over a = true, a.length ≤ lim4]) : PureTo Try.prog 37 [.sl 1 (.ints .u32 a) ta, .sl 1 (.ints .u32 b) tb] (AV.tup [AV.sl 1 (.ints .u32 []) false, AV.v (.int .i64 (3 : Int))]) :=
  evFn_pure hm sok17 (fn := Try.f37) rfl rfl (ti := false) (hs := [CHint.ops 1 [(1, Hint.b true)]]) (c := _) (by kernel_rfl) h
theorem rmulF2 (a b : List Int) (ta tb : Bool) (h : AllP [over a = false, a.length ≤ lim4, over b = true, b.length ≤ lim4]) : PureTo Try.prog 37 [.sl 1 (.ints .u32 a) ta, .sl 1 (.ints .u32 b) tb] (AV.tup [AV.sl 1 (.ints .u32 []) false, AV.v (.int .i64 (3 : Int))]) :=
  evFn_pure hm sok17 (fn := Try.f37) rfl rfl (ti := false) (hs := [CHint.ops 1 [(1, Hint.b false), (4, Hint.b true)]]) (c := _) (by kernel_rfl) h
theorem rmulF3 (a b : List Int) (ta tb : Bool) (h : AllP [over a = false, a.length ≤ lim4, over b = false, b.length ≤ lim4, a.length ≤ lim4, b.length ≤ lim4, Words (norm a), Words (norm b), (norm a).length + (norm b).length + 1 ≤ lim4, Words (dig (nat (norm a) * nat (norm b))), (dig (nat (norm a) * nat (norm b))).length ≤ lim4]) : PureTo Try.prog 37 [.sl 1 (.ints .u32 a) ta, .sl 1 (.ints .u32 b) tb] (AV.tup [AV.sl 1 (.ints .u32 (if big (nat (dig (nat (norm a) * nat (norm b)))) = true then [] else dig (nat (dig (nat (norm a) * nat (norm b)))))) false, AV.v (.int .i64 (if big (nat (dig (nat (norm a) * nat (norm b)))) = true then (3 : Int) else (0 : Int)))]) :=
  evFn_pure hm sok17 (fn := Try.f37) rfl rfl (ti := false) (hs := [CHint.ops 1 [(1, Hint.b false), (4, Hint.b false)]]) (c := _) (by kernel_rfl) h
-- 4 paths
theorem rdivF1 (a b : List Int) (ta tb : Bool) (h : AllP [over a = true, a.length ≤ lim4]) : PureTo Try.prog 39 [.sl 1 (.ints .u32 a) ta, .sl 1 (.ints .u32 b) tb] (AV.tup [AV.sl 1 (.ints .u32 []) false, AV.sl 1 (.ints .u32 []) false, AV.v (.int .i64 (3 : Int))]) :=
  evFn_pure hm sok17 (fn := Try.f39) rfl rfl (ti := false) (hs := [CHint.ops 1 [(1, Hint.b true)]]) (c := _) (by kernel_rfl) h
theorem rdivF2 (a b : List Int) (ta tb : Bool) (h : AllP [over a = false, a.length ≤ lim4, over b = true, b.length ≤ lim4]) : PureTo Try.prog 39 [.sl 1 (.ints .u32 a) ta, .sl 1 (.ints .u32 b) tb] (AV.tup [AV.sl 1 (.ints .u32 []) false, AV.sl 1 (.ints .u32 []) false, AV.v (.int .i64 (3 : Int))]) :=
  evFn_pure hm sok17 (fn := Try.f39) rfl rfl (ti := false) (hs := [CHint.ops 1 [(1, Hint.b false), (4, Hint.b true)]]) (c := _) (by kernel_rfl) h
theorem rdivF3 (a b : List Int) (ta tb : Bool) (h : AllP [over a = false, a.length ≤ lim4, over b = false, b.length ≤ lim4, Words b, b.length ≤ lim4, ((↑(bl (nat b)) : Int) == (0 : Int)) = true]) : PureTo Try.prog 39 [.sl 1 (.ints .u32 a) ta, .sl 1 (.ints .u32 b) tb] (AV.tup [AV.sl 1 (.ints .u32 []) false, AV.sl 1 (.ints .u32 []) false, AV.v (.int .i64 (4 : Int))]) :=
  evFn_pure hm sok17 (fn := Try.f39) rfl rfl (ti := false) (hs := [CHint.ops 1 [(1, Hint.b false), (4, Hint.b false)], CHint.ops 3 [(2, Hint.b true)]]) (c := _) (by kernel_rfl) h
theorem rdivF4 (a b : List Int) (ta tb : Bool) (h : AllP [over a = false, a.length ≤ lim4, over b = false, b.length ≤ lim4, Words b, b.length ≤ lim4, ((↑(bl (nat b)) : Int) == (0 : Int)) = false, a.length ≤ lim4, b.length ≤ lim4, Words (norm a), norm b = dig (nat (norm b)), 0 < nat (norm b), (norm a).length ≤ 2000, (norm b).length ≤ 2000]) : PureTo Try.prog 39 [.sl 1 (.ints .u32 a) ta, .sl 1 (.ints .u32 b) tb] (AV.tup [AV.sl 1 (.ints .u32 (dig (nat (norm a) / nat (norm b)))) false, AV.sl 1 (.ints .u32 (dig (nat (norm a) % nat (norm b)))) false, AV.v (.int .i64 (0 : Int))]) :=
  evFn_pure hm sok17 (fn := Try.f39) rfl rfl (ti := false) (hs := [CHint.ops 1 [(1, Hint.b false), (4, Hint.b false)], CHint.ops 3 [(2, Hint.b false)]]) (c := _) (by kernel_rfl) h
-- 2 paths
theorem stpL0_1 (l v : List Int) (g : Int) (fl off n ver : Nat) (t tv : Bool) (x0 : Int) (x1 : Int) (x2 : Int) (l0 : List Int) (n0 : Nat) (h : AllP [decide (x2 < (↑n : Int)) = true, Words v, inR IntKind.u64 (g * wd v x2), inR IntKind.u64 (g * wd v x2 + x1), (0 : Int) ≤ (32 : Int), (0 : Int) ≤ x2 ∧ x2 < (↑n : Int), n0 ≤ ver, inR IntKind.u64 (l0.getD (ixPlus off x2.toNat) (0 : Int)), inR IntKind.u64 ((g * wd v x2 + x1) % (4294967296 : Int)), (0 : Int) ≤ x2 ∧ x2 < (↑n : Int), ver = l0.length, (0 : Int) ≤ (63 : Int), inR IntKind.i64 (x2 + (1 : Int))]) : To Try.prog (loopAt Try.f68 0) ({ n := 76, fr := [(0, AV.row 4294967296 off n ver t), (1, AV.sl 1 (.ints .u32 v) tv), (2, AV.v (.int .u64 g)), (7, AV.v (.int .u64 x0)), (8, AV.v (.int .u64 x1)), (15, AV.v (.int .i64 (↑n : Int))), (16, AV.v (.int .i64 x2))], hp := [(4294967296, AObj.row 22 1 (.ints .u32 l0) n0)], nx := 0 }) (.normal) { n := 76, fr := [(0, AV.row 4294967296 off n ver t), (1, AV.sl 1 (.ints .u32 v) tv), (2, AV.v (.int .u64 g)), (7, AV.v (.int .u64 (((l0.getD (ixPlus off x2.toNat) (0 : Int) - (g * wd v x2 + x1) % (4294967296 : Int)) % (18446744073709551616 : Int) - x0) % (18446744073709551616 : Int) / (9223372036854775808 : Int)))), (8, AV.v (.int .u64 ((g * wd v x2 + x1) / (4294967296 : Int)))), (15, AV.v (.int .i64 (↑n : Int))), (16, AV.v (.int .i64 (x2 + (1 : Int))))], hp := [(4294967296, AObj.row 22 1 (.ints .u32 (l0.set (ixPlus off x2.toNat) (((l0.getD (ixPlus off x2.toNat) (0 : Int) - (g * wd v x2 + x1) % (4294967296 : Int)) % (18446744073709551616 : Int) - x0) % (18446744073709551616 : Int) % (4294967296 : Int)))) l0.length)], nx := 0 } :=
  evW_to hm sok17 (hs := [CHint.ops 3 [(0, Hint.b true)], CHint.ops 7 [(8, Hint.wrap), (10, Hint.wrap)]]) (slots := [0, 1, 2, 7, 8, 15, 16]) (keys := [4294967296]) (nx := 0) (c := _) (by kernel_rfl) h
theorem stpL0_2 (l v : List Int) (g : Int) (fl off n ver : Nat) (t tv : Bool) (x0 : Int) (x1 : Int) (x2 : Int) (l0 : List Int) (n0 : Nat) (h : AllP [decide (x2 < (↑n : Int)) = false]) : To Try.prog (loopAt Try.f68 0) ({ n := 76, fr := [(0, AV.row 4294967296 off n ver t), (1, AV.sl 1 (.ints .u32 v) tv), (2, AV.v (.int .u64 g)), (7, AV.v (.int .u64 x0)), (8, AV.v (.int .u64 x1)), (15, AV.v (.int .i64 (↑n : Int))), (16, AV.v (.int .i64 x2))], hp := [(4294967296, AObj.row 22 1 (.ints .u32 l0) n0)], nx := 0 }) (Exit.exit 0) { n := 76, fr := [(0, AV.row 4294967296 off n ver t), (1, AV.sl 1 (.ints .u32 v) tv), (2, AV.v (.int .u64 g)), (7, AV.v (.int .u64 x0))], hp := [(4294967296, AObj.row 22 1 (.ints .u32 l0) n0)], nx := 0 } :=
  evW_to hm sok17 (hs := [CHint.ops 3 [(0, Hint.b false)]]) (slots := [0, 1, 2, 7]) (keys := [4294967296]) (nx := 0) (c := _) (by kernel_rfl) h
-- 2 paths
theorem stpL1_1 (l v : List Int) (g : Int) (fl off n ver : Nat) (t tv : Bool) (x4 : Int) (x5 : Int) (l2 : List Int) (n2 : Nat) (h : AllP [decide (x5 < (↑n : Int)) = true, (0 : Int) ≤ x5 ∧ x5 < (↑n : Int), n2 ≤ ver, inR IntKind.u64 (l2.getD (ixPlus off x5.toNat) (0 : Int)), Words v, inR IntKind.u64 (l2.getD (ixPlus off x5.toNat) (0 : Int) + wd v x5), inR IntKind.u64 (l2.getD (ixPlus off x5.toNat) (0 : Int) + wd v x5 + x4), (0 : Int) ≤ x5 ∧ x5 < (↑n : Int), ver = l2.length, (0 : Int) ≤ (32 : Int), inR IntKind.i64 (x5 + (1 : Int))]) : To Try.prog (loopAt Try.f68 1) ({ n := 76, fr := [(0, AV.row 4294967296 off n ver t), (1, AV.sl 1 (.ints .u32 v) tv), (2, AV.v (.int .u64 g)), (8, AV.v (.int .u64 x4)), (51, AV.v (.int .i64 (↑n : Int))), (52, AV.v (.int .i64 x5))], hp := [(4294967296, AObj.row 22 1 (.ints .u32 l2) n2)], nx := 0 }) (.normal) { n := 76, fr := [(0, AV.row 4294967296 off n ver t), (1, AV.sl 1 (.ints .u32 v) tv), (2, AV.v (.int .u64 g)), (8, AV.v (.int .u64 ((l2.getD (ixPlus off x5.toNat) (0 : Int) + wd v x5 + x4) / (4294967296 : Int)))), (51, AV.v (.int .i64 (↑n : Int))), (52, AV.v (.int .i64 (x5 + (1 : Int))))], hp := [(4294967296, AObj.row 22 1 (.ints .u32 (l2.set (ixPlus off x5.toNat) ((l2.getD (ixPlus off x5.toNat) (0 : Int) + wd v x5 + x4) % (4294967296 : Int)))) l2.length)], nx := 0 } :=
  evW_to hm sok17 (hs := [CHint.ops 15 [(0, Hint.b true)]]) (slots := [0, 1, 2, 8, 51, 52]) (keys := [4294967296]) (nx := 0) (c := _) (by kernel_rfl) h
theorem stpL1_2 (l v : List Int) (g : Int) (fl off n ver : Nat) (t tv : Bool) (x4 : Int) (x5 : Int) (l2 : List Int) (n2 : Nat) (h : AllP [decide (x5 < (↑n : Int)) = false]) : To Try.prog (loopAt Try.f68 1) ({ n := 76, fr := [(0, AV.row 4294967296 off n ver t), (1, AV.sl 1 (.ints .u32 v) tv), (2, AV.v (.int .u64 g)), (8, AV.v (.int .u64 x4)), (51, AV.v (.int .i64 (↑n : Int))), (52, AV.v (.int .i64 x5))], hp := [(4294967296, AObj.row 22 1 (.ints .u32 l2) n2)], nx := 0 }) (Exit.exit 2) { n := 76, fr := [(2, AV.v (.int .u64 g))], hp := [(4294967296, AObj.row 22 1 (.ints .u32 l2) n2)], nx := 0 } :=
  evW_to hm sok17 (hs := [CHint.ops 15 [(0, Hint.b false)]]) (slots := [2]) (keys := [4294967296]) (nx := 0) (c := _) (by kernel_rfl) h
-- 2 paths
theorem stpF1 (l v : List Int) (g : Int) (fl off n ver : Nat) (t tv : Bool) (x3 : Int) (l1 : List Int) (l3 : List Int) (n1 : Nat) (n3 : Nat) (h : AllP [LoopTo Try.prog (loopAt Try.f68 0) { n := 76, fr := [(0, AV.row 4294967296 off n ver t), (1, AV.sl 1 (.ints .u32 v) tv), (2, AV.v (.int .u64 g)), (7, AV.v (.int .u64 (0 : Int))), (8, AV.v (.int .u64 (0 : Int))), (15, AV.v (.int .i64 (↑n : Int))), (16, AV.v (.int .i64 (0 : Int)))], hp := [(4294967296, AObj.row 22 1 (.ints .u32 l) fl)], nx := 0 } (Exit.exit 0) { n := 76, fr := [(0, AV.row 4294967296 off n ver t), (1, AV.sl 1 (.ints .u32 v) tv), (2, AV.v (.int .u64 g)), (7, AV.v (.int .u64 x3))], hp := [(4294967296, AObj.row 22 1 (.ints .u32 l1) n1)], nx := 0 }, (x3 == (0 : Int)) = true]) : SharedTo Try.prog 68 [.row 22 1 (.ints .u32 l) fl] [.row rsv off n ver t, .sl 1 (.ints .u32 v) tv, .v (.int .u64 g)] (AV.v (.int .u64 g)) [AObj.row 22 1 (.ints .u32 l1) n1] :=
  evFn_shared hm sok17 (fn := Try.f68) rfl rfl (ti := false) (ex := []) (hs := [CHint.loop [0, 1, 2, 7, 8, 15, 16] [4294967296] 0 (Exit.exit 0) { n := 76, fr := [(0, AV.row 4294967296 off n ver t), (1, AV.sl 1 (.ints .u32 v) tv), (2, AV.v (.int .u64 g)), (7, AV.v (.int .u64 x3))], hp := [(4294967296, AObj.row (22 : TypeId) 1 (.ints .u32 l1) n1)], nx := 0 }, CHint.ops 11 [(1, Hint.b true)]]) (c := _) (by kernel_rfl) h
theorem stpF2 (l v : List Int) (g : Int) (fl off n ver : Nat) (t tv : Bool) (x3 : Int) (l1 : List Int) (l3 : List Int) (n1 : Nat) (n3 : Nat) (h : AllP [LoopTo Try.prog (loopAt Try.f68 0) { n := 76, fr := [(0, AV.row 4294967296 off n ver t), (1, AV.sl 1 (.ints .u32 v) tv), (2, AV.v (.int .u64 g)), (7, AV.v (.int .u64 (0 : Int))), (8, AV.v (.int .u64 (0 : Int))), (15, AV.v (.int .i64 (↑n : Int))), (16, AV.v (.int .i64 (0 : Int)))], hp := [(4294967296, AObj.row 22 1 (.ints .u32 l) fl)], nx := 0 } (Exit.exit 0) { n := 76, fr := [(0, AV.row 4294967296 off n ver t), (1, AV.sl 1 (.ints .u32 v) tv), (2, AV.v (.int .u64 g)), (7, AV.v (.int .u64 x3))], hp := [(4294967296, AObj.row 22 1 (.ints .u32 l1) n1)], nx := 0 }, (x3 == (0 : Int)) = false, LoopTo Try.prog (loopAt Try.f68 1) { n := 76, fr := [(0, AV.row 4294967296 off n ver t), (1, AV.sl 1 (.ints .u32 v) tv), (2, AV.v (.int .u64 g)), (8, AV.v (.int .u64 (0 : Int))), (51, AV.v (.int .i64 (↑n : Int))), (52, AV.v (.int .i64 (0 : Int)))], hp := [(4294967296, AObj.row 22 1 (.ints .u32 l1) n1)], nx := 0 } (Exit.exit 2) { n := 76, fr := [(2, AV.v (.int .u64 g))], hp := [(4294967296, AObj.row 22 1 (.ints .u32 l3) n3)], nx := 0 }]) : SharedTo Try.prog 68 [.row 22 1 (.ints .u32 l) fl] [.row rsv off n ver t, .sl 1 (.ints .u32 v) tv, .v (.int .u64 g)] (AV.v (.int .u64 ((g - (1 : Int)) % (18446744073709551616 : Int)))) [AObj.row 22 1 (.ints .u32 l3) n3] :=
  evFn_shared hm sok17 (fn := Try.f68) rfl rfl (ti := false) (ex := []) (hs := [CHint.loop [0, 1, 2, 7, 8, 15, 16] [4294967296] 0 (Exit.exit 0) { n := 76, fr := [(0, AV.row 4294967296 off n ver t), (1, AV.sl 1 (.ints .u32 v) tv), (2, AV.v (.int .u64 g)), (7, AV.v (.int .u64 x3))], hp := [(4294967296, AObj.row (22 : TypeId) 1 (.ints .u32 l1) n1)], nx := 0 }, CHint.ops 11 [(1, Hint.b false)], CHint.loop [0, 1, 2, 8, 51, 52] [4294967296] 0 (Exit.exit 2) { n := 76, fr := [(2, AV.v (.int .u64 g))], hp := [(4294967296, AObj.row (22 : TypeId) 1 (.ints .u32 l3) n3)], nx := 0 }, CHint.ops 21 [(1, Hint.wrap)]]) (c := _) (by kernel_rfl) h
end Go.Proofs.Bn

/- Bignum: step: a divisor taken away so many times, or once less. -/
set_option maxRecDepth 100000
set_option linter.unusedSectionVars false
namespace Go.Proofs.Bn
open Go Go.Ev

/-- n words of a number -/
def wds : Nat → Nat → List Int
  | 0, _ => []
  | n + 1, m => ((m % 4294967296 : Nat) : Int) :: wds n (m / 4294967296)

theorem wds_length (n : Nat) : ∀ m, (wds n m).length = n := by
  induction n with
  | zero => intro m; rfl
  | succ n ih => intro m; rw [wds, List.length_cons, ih]

theorem words_wds (n : Nat) : ∀ m, Words (wds n m) := by
  induction n with
  | zero => intro m x hx; cases hx
  | succ n ih =>
    intro m x hx
    rw [wds] at hx
    rcases List.mem_cons.1 hx with rfl | hx
    · omega
    · exact ih _ x hx

theorem nat_wds (n : Nat) : ∀ m, m < 4294967296 ^ n → nat (wds n m) = m := by
  induction n with
  | zero => intro m h; have : m = 0 := by simpa using h
            subst this; rfl
  | succ n ih =>
    intro m h
    rw [wds, nat, ih, Int.toNat_natCast]
    · omega
    · rw [Nat.pow_succ] at h
      rw [Nat.div_lt_iff_lt_mul (by omega)]; exact h

theorem wds_nat {l : List Int} (h : Words l) : wds l.length (nat l) = l := by
  induction l with
  | nil => rfl
  | cons x l ih =>
    have hx := h x List.mem_cons_self
    obtain ⟨X, rfl⟩ : ∃ X : Nat, x = X := ⟨x.toNat, by omega⟩
    rw [List.length_cons, wds, nat, Int.toNat_natCast]
    have e1 : (X + 4294967296 * nat l) % 4294967296 = X := by omega
    have e2 : (X + 4294967296 * nat l) / 4294967296 = nat l := by omega
    rw [e1, e2, ih (words_tail h)]

/-- k words of v from place i on, as a number -/
def nv (v : List Int) : Nat → Nat → Int
  | _, 0 => 0
  | i, k + 1 => v.getD i 0 + 4294967296 * nv v (i + 1) k

theorem nv_drop {v : List Int} (hv : Words v) : ∀ (k i : Nat), v.length ≤ i + k → nv v i k = (nat (v.drop i) : Int) := by
  intro k
  induction k with
  | zero => intro i h; rw [List.drop_eq_nil_of_le (by omega)]; rfl
  | succ k ih =>
    intro i h
    have hx := words_getD hv i
    rw [nv, ih (i + 1) (by omega)]
    by_cases hi : i < v.length
    · rw [List.drop_eq_getElem_cons hi, nat]
      have e : v[i] = v.getD i 0 := by simp [List.getD_eq_getElem?_getD, hi]
      rw [e]
      omega
    · rw [getD_out (by omega), List.drop_eq_nil_of_le (by omega), List.drop_eq_nil_of_le (by omega)]; rfl

def dP (g : Int) (v : List Int) (i : Nat) (x1 : Int) : Int := g * v.getD i 0 + x1
def dD (x p x0 : Int) : Int := ((x - p % 4294967296) % 18446744073709551616 - x0) % 18446744073709551616

def subw (g : Int) (v : List Int) : List Int → Nat → Int → Int → List Int × Int × Int
  | [], _, x0, x1 => ([], x0, x1)
  | x :: r, i, x0, x1 => (dD x (dP g v i x1) x0 % 4294967296 :: (subw g v r (i + 1) (dD x (dP g v i x1) x0 / 9223372036854775808) (dP g v i x1 / 4294967296)).1,
      (subw g v r (i + 1) (dD x (dP g v i x1) x0 / 9223372036854775808) (dP g v i x1 / 4294967296)).2)

theorem dP_is {g x1 : Int} {v : List Int} (hv : Words v) (hg : 0 ≤ g ∧ g < 4294967296) (hx1 : 0 ≤ x1 ∧ x1 < 4294967296) (i : Nat) :
    0 ≤ g * v.getD i 0 ∧ g * v.getD i 0 ≤ 4294967295 * 4294967295 ∧ 0 ≤ dP g v i x1 ∧ dP g v i x1 < 18446744073709551616 ∧ 0 ≤ dP g v i x1 / 4294967296 ∧ dP g v i x1 / 4294967296 < 4294967296 := by
  have hx := words_getD hv i
  have h1 : 0 ≤ g * v.getD i 0 := Int.mul_nonneg hg.1 hx.1
  have h2 : g * v.getD i 0 ≤ 4294967295 * 4294967295 := Int.mul_le_mul (by omega) (by omega) hx.1 (by omega)
  unfold dP
  omega

theorem dD_is {x p x0 : Int} (hx : 0 ≤ x ∧ x < 4294967296) (hx0 : 0 ≤ x0 ∧ x0 ≤ 1) :
    0 ≤ dD x p x0 ∧ dD x p x0 < 18446744073709551616 ∧ (0 ≤ dD x p x0 / 9223372036854775808 ∧ dD x p x0 / 9223372036854775808 ≤ 1) ∧
    dD x p x0 % 4294967296 - dD x p x0 / 9223372036854775808 * 4294967296 = x - p % 4294967296 - x0 := by
  unfold dD
  omega

theorem subw_is {g : Int} {v : List Int} (hv : Words v) (hg : 0 ≤ g ∧ g < 4294967296) : ∀ (r : List Int) (i : Nat) (x0 x1 : Int), Words r → 0 ≤ x0 ∧ x0 ≤ 1 → 0 ≤ x1 ∧ x1 < 4294967296 →
    (subw g v r i x0 x1).1.length = r.length ∧ Words (subw g v r i x0 x1).1 ∧ (0 ≤ (subw g v r i x0 x1).2.1 ∧ (subw g v r i x0 x1).2.1 ≤ 1) ∧
    (nat (subw g v r i x0 x1).1 : Int) - (subw g v r i x0 x1).2.1 * 4294967296 ^ r.length = nat r - x0 - x1 - g * nv v i r.length + (subw g v r i x0 x1).2.2 * 4294967296 ^ r.length ∧
    (r ≠ [] → v.length + 1 ≤ i + r.length → (subw g v r i x0 x1).2.2 = 0) := by
  intro r
  induction r with
  | nil =>
    intro i x0 x1 _ h0 h1
    refine ⟨rfl, by simp [subw, Words], h0, ?_, fun h => absurd rfl h⟩
    simp only [subw, nat, List.length_nil, nv, Int.pow_zero, Int.mul_one, Int.mul_zero]
    omega
  | cons x r ih =>
    intro i x0 x1 hw h0 h1
    have hx := hw x List.mem_cons_self
    obtain ⟨p1, p2, p3, p4, p5, p6⟩ := dP_is hv hg h1 i
    obtain ⟨d1, d2, d3, d4⟩ := dD_is (p := dP g v i x1) hx h0
    obtain ⟨i1, i2, i3, i4, i5⟩ := ih (i + 1) _ _ (words_tail hw) d3 ⟨p5, p6⟩
    rw [subw]
    refine ⟨by rw [List.length_cons, List.length_cons, i1], ?_, i3, ?_, ?_⟩
    · intro y hy
      rcases List.mem_cons.1 hy with rfl | hy
      · omega
      · exact i2 y hy
    · rw [nat, nat, List.length_cons, nv, Int.pow_succ]
      have e1 : dP g v i x1 = g * v.getD i 0 + x1 := rfl
      have e2 : dP g v i x1 = 4294967296 * (dP g v i x1 / 4294967296) + dP g v i x1 % 4294967296 := by omega
      generalize (subw g v r (i + 1) (dD x (dP g v i x1) x0 / 9223372036854775808) (dP g v i x1 / 4294967296)) = T at *
      generalize dP g v i x1 / 4294967296 = pc at *
      generalize dP g v i x1 % 4294967296 = pr at *
      generalize dP g v i x1 = p at *
      generalize dD x p x0 / 9223372036854775808 = bo at *
      have e3 : ((dD x p x0 % 4294967296).toNat : Int) = dD x p x0 % 4294967296 := by omega
      have e4 : (x.toNat : Int) = x := by omega
      rw [Int.natCast_add, Int.natCast_mul, Int.natCast_add, Int.natCast_mul, e3, e4]
      generalize dD x p x0 % 4294967296 = dr at *
      generalize (4294967296 : Int) ^ r.length = P at *
      generalize nv v (i + 1) r.length = N at *
      generalize v.getD i 0 = y at *
      grind
    · intro _ h
      by_cases hr : r = []
      · subst hr
        rw [List.length_cons, List.length_nil] at h
        have : v.getD i 0 = 0 := getD_out (by omega)
        simp only [subw, dP, this]
        omega
      · exact i5 hr (by rw [List.length_cons] at h; omega)

def addw (v : List Int) : List Int → Nat → Int → List Int × Int
  | [], _, c => ([], c)
  | x :: r, i, c => ((x + v.getD i 0 + c) % 4294967296 :: (addw v r (i + 1) ((x + v.getD i 0 + c) / 4294967296)).1, (addw v r (i + 1) ((x + v.getD i 0 + c) / 4294967296)).2)

theorem addw_is {v : List Int} (hv : Words v) : ∀ (r : List Int) (i : Nat) (c : Int), Words r → 0 ≤ c ∧ c ≤ 1 →
    (addw v r i c).1.length = r.length ∧ Words (addw v r i c).1 ∧ (0 ≤ (addw v r i c).2 ∧ (addw v r i c).2 ≤ 1) ∧
    (nat (addw v r i c).1 : Int) + (addw v r i c).2 * 4294967296 ^ r.length = nat r + c + nv v i r.length := by
  intro r
  induction r with
  | nil =>
    intro i c _ h
    refine ⟨rfl, by simp [addw, Words], h, ?_⟩
    simp only [addw, nat, List.length_nil, nv, Int.pow_zero, Int.mul_one]
    omega
  | cons x r ih =>
    intro i c hw h
    have hx := hw x List.mem_cons_self
    have hy := words_getD hv i
    obtain ⟨i1, i2, i3, i4⟩ := ih (i + 1) ((x + v.getD i 0 + c) / 4294967296) (words_tail hw) (by omega)
    rw [addw]
    refine ⟨by rw [List.length_cons, List.length_cons, i1], ?_, i3, ?_⟩
    · intro y hy
      rcases List.mem_cons.1 hy with rfl | hy
      · omega
      · exact i2 y hy
    · rw [nat, nat, List.length_cons, nv, Int.pow_succ]
      generalize (addw v r (i + 1) ((x + v.getD i 0 + c) / 4294967296)) = T at *
      have e2 : x + v.getD i 0 + c = 4294967296 * ((x + v.getD i 0 + c) / 4294967296) + (x + v.getD i 0 + c) % 4294967296 := by omega
      have e3 : (((x + v.getD i 0 + c) % 4294967296).toNat : Int) = (x + v.getD i 0 + c) % 4294967296 := by omega
      have e4 : (x.toNat : Int) = x := by omega
      rw [Int.natCast_add, Int.natCast_mul, Int.natCast_add, Int.natCast_mul, e3, e4]
      generalize (x + v.getD i 0 + c) / 4294967296 = pc at *
      generalize (x + v.getD i 0 + c) % 4294967296 = pr at *
      generalize (4294967296 : Int) ^ r.length = P at *
      generalize nv v (i + 1) r.length = N at *
      generalize v.getD i 0 = y at *
      grind

theorem ixPlus_add (o i : Nat) : ixPlus o i = o + i := by
  cases o with
  | zero => exact (Nat.zero_add i).symm
  | succ o => rfl

section
variable (l v : List Int) (g : Int) (fl off n ver : Nat) (t tv : Bool) (hv : Words v) (hg : 0 ≤ g ∧ g < 4294967296) (hn : n < 1000000000000)
include hv hg hn

theorem step_sub (post : List Int) : ∀ (r P : List Int) (i : Nat) (x0 x1 : Int), Words r → 0 ≤ x0 ∧ x0 ≤ 1 → 0 ≤ x1 ∧ x1 < 4294967296 → P.length = off + i → i + r.length = n → (P ++ r ++ post).length = ver →
    LoopTo Try.prog (loopAt Try.f68 0) (stpS0 l v g fl off n ver t tv x0 x1 i (P ++ r ++ post) ver) (.exit 0) (stpX0 l v g fl off n ver t tv (subw g v r i x0 x1).2.1 (P ++ (subw g v r i x0 x1).1 ++ post) ver) := by
  intro r
  induction r with
  | nil =>
    intro P i x0 x1 _ _ _ _ h _
    rw [subw]
    exact .done (by simp) (stpL0_2 l v g fl off n ver t tv x0 x1 i _ ver ⟨by simp at h; simp; omega, trivial⟩)
  | cons x r ih =>
    intro P i x0 x1 hw h0 h1 hP hi hver
    have hx := hw x List.mem_cons_self
    rw [List.length_cons] at hi
    obtain ⟨p1, p2, p3, p4, p5, p6⟩ := dP_is hv hg h1 i
    obtain ⟨d1, d2, d3, d4⟩ := dD_is (p := dP g v i x1) hx h0
    have eg : (P ++ x :: r ++ post).getD (off + i) 0 = x := by rw [← hP]; simp [List.getD_eq_getElem?_getD]
    have es : ∀ y : Int, (P ++ x :: r ++ post).set (off + i) y = (P ++ [y]) ++ r ++ post := fun y => by rw [← hP]; simp
    have h := stpL0_1 l v g fl off n ver t tv x0 x1 i (P ++ x :: r ++ post) ver (by
      rw [Int.toNat_natCast, ixPlus_add, eg, wd_nat]
      exact ⟨by simp; omega, hv, inRu64 p1 (by omega), inRu64 p3 p4, by omega, by omega, Nat.le_refl _, inRu64 (by omega) (by omega), inRu64 (by omega) (by omega), by omega, hver.symm, by omega, inR64 (by omega) (by omega), trivial⟩)
    rw [Int.toNat_natCast, ixPlus_add, eg, wd_nat, es, hver] at h
    have h2 := ih (P ++ [dD x (dP g v i x1) x0 % 4294967296]) (i + 1) _ _ (words_tail hw) d3 ⟨p5, p6⟩ (by rw [List.length_append, List.length_singleton]; omega) (by omega) (by
      rw [← hver]; simp)
    rw [subw]
    rw [List.append_assoc P _ (subw _ _ _ _ _ _).1, List.singleton_append] at h2
    exact .step h h2

theorem step_add (post : List Int) : ∀ (r P : List Int) (i : Nat) (c : Int), Words r → 0 ≤ c ∧ c ≤ 1 → P.length = off + i → i + r.length = n → (P ++ r ++ post).length = ver →
    LoopTo Try.prog (loopAt Try.f68 1) (stpS1 l v g fl off n ver t tv c i (P ++ r ++ post) ver) (.exit 2) (stpX1 l v g fl off n ver t tv (P ++ (addw v r i c).1 ++ post) ver) := by
  intro r
  induction r with
  | nil =>
    intro P i c _ _ _ h _
    rw [addw]
    exact .done (by simp) (stpL1_2 l v g fl off n ver t tv c i _ ver ⟨by simp at h; simp; omega, trivial⟩)
  | cons x r ih =>
    intro P i c hw h0 hP hi hver
    have hx := hw x List.mem_cons_self
    have hy := words_getD hv i
    rw [List.length_cons] at hi
    have eg : (P ++ x :: r ++ post).getD (off + i) 0 = x := by rw [← hP]; simp [List.getD_eq_getElem?_getD]
    have es : ∀ y : Int, (P ++ x :: r ++ post).set (off + i) y = (P ++ [y]) ++ r ++ post := fun y => by rw [← hP]; simp
    have h := stpL1_1 l v g fl off n ver t tv c i (P ++ x :: r ++ post) ver (by
      rw [Int.toNat_natCast, ixPlus_add, eg, wd_nat]
      exact ⟨by simp; omega, by omega, Nat.le_refl _, inRu64 (by omega) (by omega), hv, inRu64 (by omega) (by omega), inRu64 (by omega) (by omega), by omega, hver.symm, by omega, inR64 (by omega) (by omega), trivial⟩)
    rw [Int.toNat_natCast, ixPlus_add, eg, wd_nat, es, hver] at h
    have h2 := ih (P ++ [(x + v.getD i 0 + c) % 4294967296]) (i + 1) ((x + v.getD i 0 + c) / 4294967296) (words_tail hw) (by omega) (by rw [List.length_append, List.length_singleton]; omega) (by omega) (by
      rw [← hver]; simp)
    rw [addw]
    rw [List.append_assoc P _ (addw _ _ _ _).1, List.singleton_append] at h2
    exact .step h h2

end

end Go.Proofs.Bn

/- Bignum: step's contract. -/
set_option maxRecDepth 100000
namespace Go.Proofs.Bn
open Go Go.Ev

/-- g, or once less -/
def stepQ (W V G : Nat) : Nat := if G * V ≤ W then G else G - 1

theorem stepQ_le {W V G : Nat} (h : (G - 1) * V ≤ W) : stepQ W V G * V ≤ W := by
  unfold stepQ
  split
  · assumption
  · exact h

theorem step_shared (pre w post v : List Int) (G : Nat) (fl : Nat) (t tv : Bool) (hv : Words v) (hw : Words w) (hG : G < 4294967296) (hn : w.length = v.length + 1) (hl : w.length < 1000000000000) (hq : (G - 1) * nat v ≤ nat w) :
    SharedTo Try.prog 68 [.row 22 1 (.ints .u32 (pre ++ w ++ post)) fl] [.row rsv pre.length w.length (pre ++ w ++ post).length t, .sl 1 (.ints .u32 v) tv, .v (.int .u64 (G : Int))]
      (.v (.int .u64 (stepQ (nat w) (nat v) G : Nat))) [.row 22 1 (.ints .u32 (pre ++ wds w.length (nat w - stepQ (nat w) (nat v) G * nat v) ++ post)) (pre ++ w ++ post).length] := by
  have hg : (0 : Int) ≤ (G : Int) ∧ (G : Int) < 4294967296 := by omega
  have hne : w ≠ [] := fun h => by rw [h] at hn; simp at hn
  obtain ⟨i1, i2, i3, i4, i5⟩ := subw_is hv hg w 0 0 0 hw ⟨by omega, by omega⟩ ⟨by omega, by omega⟩
  have hc := i5 hne (by omega)
  have hnv : nv v 0 w.length = nat v := by rw [nv_drop hv _ _ (by omega), List.drop_zero]
  rw [hc, hnv, Int.zero_mul, Int.add_zero, Int.sub_zero, Int.sub_zero] at i4
  have hloop := step_sub (pre ++ w ++ post) v G fl pre.length w.length (pre ++ w ++ post).length t tv hv hg hl post w pre 0 0 0 hw ⟨by omega, by omega⟩ ⟨by omega, by omega⟩ rfl (Nat.zero_add _) rfl
  rw [Int.natCast_zero] at hloop
  generalize subw G v w 0 0 0 = T at *
  have hb1 : nat T.1 < 4294967296 ^ w.length := by rw [← i1]; exact nat_lt i2
  have hpow : (4294967296 : Int) ^ w.length = ((4294967296 ^ w.length : Nat) : Int) := by rw [Int.natCast_pow]; rfl
  have hGV : (G : Int) * (nat v : Int) = ((G * nat v : Nat) : Int) := (Int.natCast_mul _ _).symm
  rw [hpow, hGV] at i4
  by_cases hbo : T.2.1 = 0
  · rw [hbo, Int.zero_mul, Int.sub_zero] at i4
    have hle : G * nat v ≤ nat w := by omega
    have e : T.1 = wds w.length (nat w - G * nat v) := by
      rw [← i1, ← wds_nat i2]
      have : nat w - G * nat v = nat T.1 := by omega
      rw [this, wds_length]
    rw [show stepQ (nat w) (nat v) G = G from if_pos hle, ← e]
    refine stpF1 (pre ++ w ++ post) v G fl pre.length w.length (pre ++ w ++ post).length t tv T.2.1 _ [] _ 0 ⟨.raise hloop, by rw [hbo]; rfl, trivial⟩
  · have hbo1 : T.2.1 = 1 := by omega
    rw [hbo1, Int.one_mul] at i4
    have hlt : ¬ G * nat v ≤ nat w := by omega
    obtain ⟨a1, a2, a3, a4⟩ := addw_is hv T.1 0 0 i2 ⟨by omega, by omega⟩
    have hloop2 := step_add (pre ++ w ++ post) v G fl pre.length w.length (pre ++ w ++ post).length t tv hv hg hl post T.1 pre 0 0 i2 ⟨by omega, by omega⟩ rfl (by rw [i1]; exact Nat.zero_add _) (by simp [i1])
    rw [Int.natCast_zero] at hloop2
    rw [i1, hnv, hpow, Int.add_zero] at a4
    generalize addw v T.1 0 0 = U at *
    have hb2 : nat U.1 < 4294967296 ^ w.length := by rw [← i1, ← a1]; exact nat_lt a2
    have hG1 : 1 ≤ G := by
      refine Nat.one_le_iff_ne_zero.2 fun h => hlt ?_
      rw [h, Nat.zero_mul]; exact Nat.zero_le _
    have hsub : (G - 1) * nat v + nat v = G * nat v := by
      obtain ⟨k, rfl⟩ : ∃ k, G = k + 1 := ⟨G - 1, by omega⟩
      rw [Nat.add_mul, Nat.one_mul]; rfl
    have hc1 : U.2 = 1 := by
      refine Int.le_antisymm a3.2 (Int.not_lt.1 fun h => ?_)
      have h0 : U.2 = 0 := by omega
      rw [h0, Int.zero_mul] at a4
      omega
    rw [hc1, Int.one_mul] at a4
    have e : U.1 = wds w.length (nat w - (G - 1) * nat v) := by
      rw [← i1, ← a1, ← wds_nat a2]
      have : nat w - (G - 1) * nat v = nat U.1 := by omega
      rw [this, wds_length]
    have eg : (((G : Int) - 1) % 18446744073709551616) = ((G - 1 : Nat) : Int) := by rw [Int.emod_eq_of_lt (by omega) (by omega)]; omega
    rw [show stepQ (nat w) (nat v) G = G - 1 from if_neg hlt, ← e, ← eg]
    exact stpF2 (pre ++ w ++ post) v G fl pre.length w.length (pre ++ w ++ post).length t tv T.2.1 _ _ _ _ ⟨.raise hloop, by rw [hbo1]; rfl, hloop2, trivial⟩

/-- the window of a row -/
def win (l : List Int) (off n : Nat) : List Int := (l.drop off).take n

def sigStep : List AObj → List AV → Option (AV × List AObj × List Prop)
  | [.row 22 1 (.ints .u32 l) _], [.row k off n ver _, .sl 1 (.ints .u32 v) _, .v (.int .u64 g)] =>
    some (.v (.int .u64 (stepQ (nat (win l off n)) (nat v) g.toNat : Nat)), [.row 22 1 (.ints .u32 (l.take off ++ wds n (nat (win l off n) - stepQ (nat (win l off n)) (nat v) g.toNat * nat v) ++ l.drop (off + n))) l.length],
      [k = rsv, ver = l.length, off + n ≤ l.length, n = v.length + 1, Words l, Words v, 0 ≤ g, g < 4294967296, l.length < 1000000000000, (g.toNat - 1) * nat v ≤ nat (win l off n)])
  | _, _ => none

noncomputable def SG18 : SGT := (68, .s [true, false, false] sigStep) :: SG17

theorem win_split (l : List Int) (off n : Nat) : l.take off ++ win l off n ++ l.drop (off + n) = l := by
  unfold win
  rw [List.append_assoc, ← List.drop_drop, List.take_append_drop, List.take_append_drop]

theorem win_length {l : List Int} {off n : Nat} (h : off + n ≤ l.length) : (win l off n).length = n := by
  unfold win
  rw [List.length_take, List.length_drop]; omega

theorem words_win {l : List Int} (h : Words l) (off n : Nat) : Words (win l off n) := words_take (words_drop h _) _

theorem sok18 : SigsOK Try.prog SG18 := by
  refine sigs_s sok17 ?_
  intro os ys r os' c h hc
  unfold sigStep at h
  split at h
  · next l fl k off n ver t v tv g =>
    cases h
    obtain ⟨rfl, rfl, h1, h2, h3, h4, h5, h6, h7, h8, _⟩ := hc
    obtain ⟨G, rfl⟩ : ∃ G : Nat, g = G := ⟨g.toNat, by omega⟩
    rw [Int.toNat_natCast] at h8 ⊢
    have hn := win_length h1
    have ht : (l.take off).length = off := by rw [List.length_take]; omega
    have := step_shared (l.take off) (win l off n) (l.drop (off + n)) v G fl t tv h4 (words_win h3 _ _) (by omega) (by omega) (by omega) h8
    rw [win_split, ht, hn] at this
    exact this
  · cases h

def sigLz : List AV → Option (AV × List Prop)
  | [.v (.int .u32 x)] => some (.v (.int .i64 (32 - (bl x.toNat : Nat) : Int)), [0 ≤ x, x < 4294967296])
  | _ => none

noncomputable def SG19 : SGT := (67, .p sigLz) :: SG18

theorem lz_pure (x : Int) (h0 : 0 ≤ x) (h1 : x < 4294967296) : PureTo Try.prog 67 [.v (.int .u32 x)] (.v (.int .i64 (32 - (bl x.toNat : Nat) : Int))) := by
  have : bl x.toNat ≤ 32 := (bl_le _ _).2 (by omega)
  exact lz32F1 x ⟨h0, h1, inR64 (by omega) (by omega), trivial⟩

theorem sok19 : SigsOK Try.prog SG19 := by
  refine sigs_cons sok18 ?_
  intro ys r c h hc
  unfold sigLz at h
  split at h
  · cases h; exact lz_pure _ hc.1 hc.2.1
  · cases h

end Go.Proofs.Bn

/- Bignum: walks, written by the tool. -/
set_option maxRecDepth 100000
namespace Go.Proofs.Bn
open Go Go.Ev
def dvS0 (v : List Int) (sh : Int) (x0 : Int) (l0 : List Int) (l1 : List Int) (n0 : Nat) (n1 : Nat) (n2 : Nat) (n3 : Nat) : AS := { n := 143, fr := [(6, AV.v (.int .i64 sh)), (7, AV.sl 1 (.ints .u32 v) true), (8, AV.row 18 0 n2 n2 false), (9, AV.v (.int .i64 (↑v.length : Int))), (11, AV.row 35 0 n3 n3 false), (12, AV.v (.int .i64 x0))], hp := [(35, AObj.row 22 1 (.ints .u32 l0) n0), (18, AObj.row 22 1 (.ints .u32 l1) n1)], nx := 36 }
def dvX0 (v : List Int) (sh : Int) (l2 : List Int) (l3 : List Int) (n4 : Nat) (n5 : Nat) (n6 : Nat) (n7 : Nat) : AS := { n := 143, fr := [(6, AV.v (.int .i64 sh)), (8, AV.row 18 0 n6 n6 false), (11, AV.row 35 0 n7 n7 false)], hp := [(35, AObj.row 22 1 (.ints .u32 l2) n4), (18, AObj.row 22 1 (.ints .u32 l3) n5)], nx := 36 }
def dvS1 (v : List Int) (sh : Int) (x0 : Int) (x1 : Int) (x2 : Int) (l0 : List Int) (l1 : List Int) (n0 : Nat) (n1 : Nat) (n2 : Nat) (n3 : Nat) : AS := { n := 143, fr := [(6, AV.v (.int .i64 sh)), (7, AV.sl 1 (.ints .u32 v) true), (8, AV.row 18 0 n2 n2 false), (9, AV.v (.int .i64 (↑v.length : Int))), (11, AV.row 35 0 n3 n3 false), (12, AV.v (.int .i64 x0)), (14, AV.v (.int .u64 x1)), (15, AV.v (.int .u64 x2))], hp := [(35, AObj.row 22 1 (.ints .u32 l0) n0), (18, AObj.row 22 1 (.ints .u32 l1) n1)], nx := 36 }
def dvX1 (v : List Int) (sh : Int) (x0 : Int) (x3 : Int) (l0 : List Int) (l1 : List Int) (n0 : Nat) (n1 : Nat) (n2 : Nat) (n3 : Nat) : AS := { n := 143, fr := [(6, AV.v (.int .i64 sh)), (7, AV.sl 1 (.ints .u32 v) true), (8, AV.row 18 0 n2 n2 false), (9, AV.v (.int .i64 (↑v.length : Int))), (11, AV.row 35 0 n3 n3 false), (12, AV.v (.int .i64 x0)), (14, AV.v (.int .u64 x3))], hp := [(35, AObj.row 22 1 (.ints .u32 l0) n0), (18, AObj.row 22 1 (.ints .u32 l1) n1)], nx := 36 }
-- 2 paths
theorem dvL0_1 (v : List Int) (sh : Int) (x0 : Int) (x3 : Int) (l0 : List Int) (l1 : List Int) (n0 : Nat) (n1 : Nat) (n2 : Nat) (n3 : Nat) (h : AllP [decide (x0 ≥ (0 : Int)) = true, inR IntKind.i64 (x0 + (↑v.length : Int)), n2 = l1.length, n1 ≤ n2, Words l1, (0 : Int) ≤ (32 : Int), inR IntKind.u64 (wd l1 (x0 + (↑v.length : Int)) * (4294967296 : Int)), inR IntKind.i64 (x0 + (↑v.length : Int)), inR IntKind.i64 (x0 + (↑v.length : Int) - (1 : Int)), (0 : Int) ≤ x0 + (↑v.length : Int) - (1 : Int) ∧ x0 + (↑v.length : Int) - (1 : Int) < (↑n2 : Int), n1 ≤ n2, inR IntKind.u64 (l1.getD (ixPlus 0 (x0 + (↑v.length : Int) - (1 : Int)).toNat) (0 : Int)), inR IntKind.i64 ((↑v.length : Int) - (1 : Int)), (0 : Int) ≤ (↑v.length : Int) - (1 : Int) ∧ (↑v.length : Int) - (1 : Int) < (↑v.length : Int), inR IntKind.u64 (v.getD ((↑v.length : Int) - (1 : Int)).toNat (0 : Int)), v.getD ((↑v.length : Int) - (1 : Int)).toNat (0 : Int) ≠ (0 : Int), inR IntKind.u64 ((bitsOf BinOp.or IntKind.u64 (wd l1 (x0 + (↑v.length : Int)) * (4294967296 : Int)) (l1.getD (ixPlus 0 (x0 + (↑v.length : Int) - (1 : Int)).toNat) (0 : Int))).tdiv (v.getD ((↑v.length : Int) - (1 : Int)).toNat (0 : Int))), inR IntKind.i64 ((↑v.length : Int) - (1 : Int)), (0 : Int) ≤ (↑v.length : Int) - (1 : Int) ∧ (↑v.length : Int) - (1 : Int) < (↑v.length : Int), inR IntKind.u64 (v.getD ((↑v.length : Int) - (1 : Int)).toNat (0 : Int)), v.getD ((↑v.length : Int) - (1 : Int)).toNat (0 : Int) ≠ (0 : Int), LoopTo Try.prog (loopAt Try.f62 1) { n := 143, fr := [(6, AV.v (.int .i64 sh)), (7, AV.sl 1 (.ints .u32 v) true), (8, AV.row 18 0 n2 n2 false), (9, AV.v (.int .i64 (↑v.length : Int))), (11, AV.row 35 0 n3 n3 false), (12, AV.v (.int .i64 x0)), (14, AV.v (.int .u64 ((bitsOf BinOp.or IntKind.u64 (wd l1 (x0 + (↑v.length : Int)) * (4294967296 : Int)) (l1.getD (ixPlus 0 (x0 + (↑v.length : Int) - (1 : Int)).toNat) (0 : Int))).tdiv (v.getD ((↑v.length : Int) - (1 : Int)).toNat (0 : Int))))), (15, AV.v (.int .u64 ((bitsOf BinOp.or IntKind.u64 (wd l1 (x0 + (↑v.length : Int)) * (4294967296 : Int)) (l1.getD (ixPlus 0 (x0 + (↑v.length : Int) - (1 : Int)).toNat) (0 : Int))).tmod (v.getD ((↑v.length : Int) - (1 : Int)).toNat (0 : Int)))))], hp := [(35, AObj.row 22 1 (.ints .u32 l0) n0), (18, AObj.row 22 1 (.ints .u32 l1) n1)], nx := 36 } (Exit.exit 2) { n := 143, fr := [(6, AV.v (.int .i64 sh)), (7, AV.sl 1 (.ints .u32 v) true), (8, AV.row 18 0 n2 n2 false), (9, AV.v (.int .i64 (↑v.length : Int))), (11, AV.row 35 0 n3 n3 false), (12, AV.v (.int .i64 x0)), (14, AV.v (.int .u64 x3))], hp := [(35, AObj.row 22 1 (.ints .u32 l0) n0), (18, AObj.row 22 1 (.ints .u32 l1) n1)], nx := 36 }, inR IntKind.i64 (x0 + (↑v.length : Int)), inR IntKind.i64 (x0 + (↑v.length : Int) + (1 : Int)), (0 : Int) ≤ x0 + (↑v.length : Int) + (1 : Int) ∧ x0 + (↑v.length : Int) + (1 : Int) ≤ (↑n2 : Int), (0 : Int) ≤ x0 ∧ x0 ≤ (↑(x0 + (↑v.length : Int) + (1 : Int)).toNat : Int), 4294967296 = rsv, n2 = l1.length, rowOff (some AV.junk) 0 x0.toNat + rowLen (some AV.junk) x0.toNat (x0 + (↑v.length : Int) + (1 : Int)).toNat ≤ l1.length, rowLen (some AV.junk) x0.toNat (x0 + (↑v.length : Int) + (1 : Int)).toNat = v.length + 1, Words l1, Words v, (0 : Int) ≤ x3, x3 < (4294967296 : Int), l1.length < 1000000000000, (x3.toNat - 1) * nat v ≤ nat (win l1 (rowOff (some AV.junk) 0 x0.toNat) (rowLen (some AV.junk) x0.toNat (x0 + (↑v.length : Int) + (1 : Int)).toNat)), (0 : Int) ≤ x0 ∧ x0 < (↑n3 : Int), n3 = l0.length, inR IntKind.i64 (x0 - (1 : Int))]) : To Try.prog (loopAt Try.f62 0) ({ n := 143, fr := [(6, AV.v (.int .i64 sh)), (7, AV.sl 1 (.ints .u32 v) true), (8, AV.row 18 0 n2 n2 false), (9, AV.v (.int .i64 (↑v.length : Int))), (11, AV.row 35 0 n3 n3 false), (12, AV.v (.int .i64 x0))], hp := [(35, AObj.row 22 1 (.ints .u32 l0) n0), (18, AObj.row 22 1 (.ints .u32 l1) n1)], nx := 36 }) (.normal) { n := 143, fr := [(6, AV.v (.int .i64 sh)), (7, AV.sl 1 (.ints .u32 v) true), (8, AV.row 18 0 n2 n2 false), (9, AV.v (.int .i64 (↑v.length : Int))), (11, AV.row 35 0 n3 n3 false), (12, AV.v (.int .i64 (x0 - (1 : Int))))], hp := [(35, AObj.row 22 1 (.ints .u32 (l0.set (ixPlus 0 x0.toNat) ((↑(stepQ (nat (win l1 (rowOff (some AV.junk) 0 x0.toNat) (rowLen (some AV.junk) x0.toNat (x0 + (↑v.length : Int) + (1 : Int)).toNat))) (nat v) x3.toNat) : Int) % (4294967296 : Int)))) l0.length), (18, AObj.row 22 1 (.ints .u32 (List.take (rowOff (some AV.junk) 0 x0.toNat) l1 ++ wds (rowLen (some AV.junk) x0.toNat (x0 + (↑v.length : Int) + (1 : Int)).toNat) (nat (win l1 (rowOff (some AV.junk) 0 x0.toNat) (rowLen (some AV.junk) x0.toNat (x0 + (↑v.length : Int) + (1 : Int)).toNat)) - stepQ (nat (win l1 (rowOff (some AV.junk) 0 x0.toNat) (rowLen (some AV.junk) x0.toNat (x0 + (↑v.length : Int) + (1 : Int)).toNat))) (nat v) x3.toNat * nat v) ++ List.drop (rowOff (some AV.junk) 0 x0.toNat + rowLen (some AV.junk) x0.toNat (x0 + (↑v.length : Int) + (1 : Int)).toNat) l1)) (List.take (rowOff (some AV.junk) 0 x0.toNat) l1 ++ wds (rowLen (some AV.junk) x0.toNat (x0 + (↑v.length : Int) + (1 : Int)).toNat) (nat (win l1 (rowOff (some AV.junk) 0 x0.toNat) (rowLen (some AV.junk) x0.toNat (x0 + (↑v.length : Int) + (1 : Int)).toNat)) - stepQ (nat (win l1 (rowOff (some AV.junk) 0 x0.toNat) (rowLen (some AV.junk) x0.toNat (x0 + (↑v.length : Int) + (1 : Int)).toNat))) (nat v) x3.toNat * nat v) ++ List.drop (rowOff (some AV.junk) 0 x0.toNat + rowLen (some AV.junk) x0.toNat (x0 + (↑v.length : Int) + (1 : Int)).toNat) l1).length)], nx := 36 } :=
  evW_to hm sok19 (hs := [CHint.ops 10 [(1, Hint.b true)], CHint.loop [6, 7, 8, 9, 11, 12, 14, 15] [35, 18] 36 (Exit.exit 2) { n := 143, fr := [(6, AV.v (.int .i64 sh)), (7, AV.sl 1 (.ints .u32 v) true), (8, AV.row 18 0 n2 n2 false), (9, AV.v (.int .i64 (↑v.length : Int))), (11, AV.row 35 0 n3 n3 false), (12, AV.v (.int .i64 x0)), (14, AV.v (.int .u64 x3))], hp := [(35, AObj.row (22 : TypeId) 1 (.ints .u32 l0) n0), (18, AObj.row (22 : TypeId) 1 (.ints .u32 l1) n1)], nx := 36 }]) (slots := [6, 7, 8, 9, 11, 12]) (keys := [35, 18]) (nx := 36) (c := _) (by kernel_rfl) h
theorem dvL0_2 (v : List Int) (sh : Int) (x0 : Int) (x3 : Int) (l0 : List Int) (l1 : List Int) (n0 : Nat) (n1 : Nat) (n2 : Nat) (n3 : Nat) (h : AllP [decide (x0 ≥ (0 : Int)) = false]) : To Try.prog (loopAt Try.f62 0) ({ n := 143, fr := [(6, AV.v (.int .i64 sh)), (7, AV.sl 1 (.ints .u32 v) true), (8, AV.row 18 0 n2 n2 false), (9, AV.v (.int .i64 (↑v.length : Int))), (11, AV.row 35 0 n3 n3 false), (12, AV.v (.int .i64 x0))], hp := [(35, AObj.row 22 1 (.ints .u32 l0) n0), (18, AObj.row 22 1 (.ints .u32 l1) n1)], nx := 36 }) (Exit.exit 0) { n := 143, fr := [(6, AV.v (.int .i64 sh)), (8, AV.row 18 0 n2 n2 false), (11, AV.row 35 0 n3 n3 false)], hp := [(35, AObj.row 22 1 (.ints .u32 l0) n0), (18, AObj.row 22 1 (.ints .u32 l1) n1)], nx := 36 } :=
  evW_to hm sok19 (hs := [CHint.ops 10 [(1, Hint.b false)]]) (slots := [6, 8, 11]) (keys := [35, 18]) (nx := 36) (c := _) (by kernel_rfl) h
-- 5 paths
theorem dvL1_1 (v : List Int) (sh : Int) (x0 : Int) (x1 : Int) (x2 : Int) (l0 : List Int) (l1 : List Int) (n0 : Nat) (n1 : Nat) (n2 : Nat) (n3 : Nat) (h : AllP [decide (x1 ≥ (4294967296 : Int)) = true, inR IntKind.i64 ((↑v.length : Int) - (1 : Int)), (0 : Int) ≤ (↑v.length : Int) - (1 : Int) ∧ (↑v.length : Int) - (1 : Int) < (↑v.length : Int), inR IntKind.u64 (v.getD ((↑v.length : Int) - (1 : Int)).toNat (0 : Int)), inR IntKind.u64 (x2 + v.getD ((↑v.length : Int) - (1 : Int)).toNat (0 : Int)), decide (x2 + v.getD ((↑v.length : Int) - (1 : Int)).toNat (0 : Int) ≥ (4294967296 : Int)) = true]) : To Try.prog (loopAt Try.f62 1) ({ n := 143, fr := [(6, AV.v (.int .i64 sh)), (7, AV.sl 1 (.ints .u32 v) true), (8, AV.row 18 0 n2 n2 false), (9, AV.v (.int .i64 (↑v.length : Int))), (11, AV.row 35 0 n3 n3 false), (12, AV.v (.int .i64 x0)), (14, AV.v (.int .u64 x1)), (15, AV.v (.int .u64 x2))], hp := [(35, AObj.row 22 1 (.ints .u32 l0) n0), (18, AObj.row 22 1 (.ints .u32 l1) n1)], nx := 36 }) (Exit.exit 2) { n := 143, fr := [(6, AV.v (.int .i64 sh)), (7, AV.sl 1 (.ints .u32 v) true), (8, AV.row 18 0 n2 n2 false), (9, AV.v (.int .i64 (↑v.length : Int))), (11, AV.row 35 0 n3 n3 false), (12, AV.v (.int .i64 x0)), (14, AV.v (.int .u64 ((x1 - (1 : Int)) % (18446744073709551616 : Int))))], hp := [(35, AObj.row 22 1 (.ints .u32 l0) n0), (18, AObj.row 22 1 (.ints .u32 l1) n1)], nx := 36 } :=
  evW_to hm sok19 (hs := [CHint.ops 14 [(1, Hint.b true)], CHint.ops 15 [(1, Hint.wrap)], CHint.ops 17 [(1, Hint.b true)]]) (slots := [6, 7, 8, 9, 11, 12, 14]) (keys := [35, 18]) (nx := 36) (c := _) (by kernel_rfl) h
theorem dvL1_2 (v : List Int) (sh : Int) (x0 : Int) (x1 : Int) (x2 : Int) (l0 : List Int) (l1 : List Int) (n0 : Nat) (n1 : Nat) (n2 : Nat) (n3 : Nat) (h : AllP [decide (x1 ≥ (4294967296 : Int)) = true, inR IntKind.i64 ((↑v.length : Int) - (1 : Int)), (0 : Int) ≤ (↑v.length : Int) - (1 : Int) ∧ (↑v.length : Int) - (1 : Int) < (↑v.length : Int), inR IntKind.u64 (v.getD ((↑v.length : Int) - (1 : Int)).toNat (0 : Int)), inR IntKind.u64 (x2 + v.getD ((↑v.length : Int) - (1 : Int)).toNat (0 : Int)), decide (x2 + v.getD ((↑v.length : Int) - (1 : Int)).toNat (0 : Int) ≥ (4294967296 : Int)) = false]) : To Try.prog (loopAt Try.f62 1) ({ n := 143, fr := [(6, AV.v (.int .i64 sh)), (7, AV.sl 1 (.ints .u32 v) true), (8, AV.row 18 0 n2 n2 false), (9, AV.v (.int .i64 (↑v.length : Int))), (11, AV.row 35 0 n3 n3 false), (12, AV.v (.int .i64 x0)), (14, AV.v (.int .u64 x1)), (15, AV.v (.int .u64 x2))], hp := [(35, AObj.row 22 1 (.ints .u32 l0) n0), (18, AObj.row 22 1 (.ints .u32 l1) n1)], nx := 36 }) (.normal) { n := 143, fr := [(6, AV.v (.int .i64 sh)), (7, AV.sl 1 (.ints .u32 v) true), (8, AV.row 18 0 n2 n2 false), (9, AV.v (.int .i64 (↑v.length : Int))), (11, AV.row 35 0 n3 n3 false), (12, AV.v (.int .i64 x0)), (14, AV.v (.int .u64 ((x1 - (1 : Int)) % (18446744073709551616 : Int)))), (15, AV.v (.int .u64 (x2 + v.getD ((↑v.length : Int) - (1 : Int)).toNat (0 : Int))))], hp := [(35, AObj.row 22 1 (.ints .u32 l0) n0), (18, AObj.row 22 1 (.ints .u32 l1) n1)], nx := 36 } :=
  evW_to hm sok19 (hs := [CHint.ops 14 [(1, Hint.b true)], CHint.ops 15 [(1, Hint.wrap)], CHint.ops 17 [(1, Hint.b false)]]) (slots := [6, 7, 8, 9, 11, 12, 14, 15]) (keys := [35, 18]) (nx := 36) (c := _) (by kernel_rfl) h
theorem dvL1_3 (v : List Int) (sh : Int) (x0 : Int) (x1 : Int) (x2 : Int) (l0 : List Int) (l1 : List Int) (n0 : Nat) (n1 : Nat) (n2 : Nat) (n3 : Nat) (h : AllP [decide (x1 ≥ (4294967296 : Int)) = false, inR IntKind.i64 ((↑v.length : Int) - (2 : Int)), (0 : Int) ≤ (↑v.length : Int) - (2 : Int) ∧ (↑v.length : Int) - (2 : Int) < (↑v.length : Int), inR IntKind.u64 (v.getD ((↑v.length : Int) - (2 : Int)).toNat (0 : Int)), inR IntKind.u64 (x1 * v.getD ((↑v.length : Int) - (2 : Int)).toNat (0 : Int)), (0 : Int) ≤ (32 : Int), inR IntKind.u64 (x2 * (4294967296 : Int)), inR IntKind.i64 (x0 + (↑v.length : Int)), inR IntKind.i64 (x0 + (↑v.length : Int) - (2 : Int)), (0 : Int) ≤ x0 + (↑v.length : Int) - (2 : Int) ∧ x0 + (↑v.length : Int) - (2 : Int) < (↑n2 : Int), n1 ≤ n2, inR IntKind.u64 (l1.getD (ixPlus 0 (x0 + (↑v.length : Int) - (2 : Int)).toNat) (0 : Int)), decide (x1 * v.getD ((↑v.length : Int) - (2 : Int)).toNat (0 : Int) > bitsOf BinOp.or IntKind.u64 (x2 * (4294967296 : Int)) (l1.getD (ixPlus 0 (x0 + (↑v.length : Int) - (2 : Int)).toNat) (0 : Int))) = true, inR IntKind.i64 ((↑v.length : Int) - (1 : Int)), (0 : Int) ≤ (↑v.length : Int) - (1 : Int) ∧ (↑v.length : Int) - (1 : Int) < (↑v.length : Int), inR IntKind.u64 (v.getD ((↑v.length : Int) - (1 : Int)).toNat (0 : Int)), inR IntKind.u64 (x2 + v.getD ((↑v.length : Int) - (1 : Int)).toNat (0 : Int)), decide (x2 + v.getD ((↑v.length : Int) - (1 : Int)).toNat (0 : Int) ≥ (4294967296 : Int)) = true]) : To Try.prog (loopAt Try.f62 1) ({ n := 143, fr := [(6, AV.v (.int .i64 sh)), (7, AV.sl 1 (.ints .u32 v) true), (8, AV.row 18 0 n2 n2 false), (9, AV.v (.int .i64 (↑v.length : Int))), (11, AV.row 35 0 n3 n3 false), (12, AV.v (.int .i64 x0)), (14, AV.v (.int .u64 x1)), (15, AV.v (.int .u64 x2))], hp := [(35, AObj.row 22 1 (.ints .u32 l0) n0), (18, AObj.row 22 1 (.ints .u32 l1) n1)], nx := 36 }) (Exit.exit 2) { n := 143, fr := [(6, AV.v (.int .i64 sh)), (7, AV.sl 1 (.ints .u32 v) true), (8, AV.row 18 0 n2 n2 false), (9, AV.v (.int .i64 (↑v.length : Int))), (11, AV.row 35 0 n3 n3 false), (12, AV.v (.int .i64 x0)), (14, AV.v (.int .u64 ((x1 - (1 : Int)) % (18446744073709551616 : Int))))], hp := [(35, AObj.row 22 1 (.ints .u32 l0) n0), (18, AObj.row 22 1 (.ints .u32 l1) n1)], nx := 36 } :=
  evW_to hm sok19 (hs := [CHint.ops 14 [(1, Hint.b false), (22, Hint.b true)], CHint.ops 15 [(1, Hint.wrap)], CHint.ops 17 [(1, Hint.b true)]]) (slots := [6, 7, 8, 9, 11, 12, 14]) (keys := [35, 18]) (nx := 36) (c := _) (by kernel_rfl) h
theorem dvL1_4 (v : List Int) (sh : Int) (x0 : Int) (x1 : Int) (x2 : Int) (l0 : List Int) (l1 : List Int) (n0 : Nat) (n1 : Nat) (n2 : Nat) (n3 : Nat) (h : AllP [decide (x1 ≥ (4294967296 : Int)) = false, inR IntKind.i64 ((↑v.length : Int) - (2 : Int)), (0 : Int) ≤ (↑v.length : Int) - (2 : Int) ∧ (↑v.length : Int) - (2 : Int) < (↑v.length : Int), inR IntKind.u64 (v.getD ((↑v.length : Int) - (2 : Int)).toNat (0 : Int)), inR IntKind.u64 (x1 * v.getD ((↑v.length : Int) - (2 : Int)).toNat (0 : Int)), (0 : Int) ≤ (32 : Int), inR IntKind.u64 (x2 * (4294967296 : Int)), inR IntKind.i64 (x0 + (↑v.length : Int)), inR IntKind.i64 (x0 + (↑v.length : Int) - (2 : Int)), (0 : Int) ≤ x0 + (↑v.length : Int) - (2 : Int) ∧ x0 + (↑v.length : Int) - (2 : Int) < (↑n2 : Int), n1 ≤ n2, inR IntKind.u64 (l1.getD (ixPlus 0 (x0 + (↑v.length : Int) - (2 : Int)).toNat) (0 : Int)), decide (x1 * v.getD ((↑v.length : Int) - (2 : Int)).toNat (0 : Int) > bitsOf BinOp.or IntKind.u64 (x2 * (4294967296 : Int)) (l1.getD (ixPlus 0 (x0 + (↑v.length : Int) - (2 : Int)).toNat) (0 : Int))) = true, inR IntKind.i64 ((↑v.length : Int) - (1 : Int)), (0 : Int) ≤ (↑v.length : Int) - (1 : Int) ∧ (↑v.length : Int) - (1 : Int) < (↑v.length : Int), inR IntKind.u64 (v.getD ((↑v.length : Int) - (1 : Int)).toNat (0 : Int)), inR IntKind.u64 (x2 + v.getD ((↑v.length : Int) - (1 : Int)).toNat (0 : Int)), decide (x2 + v.getD ((↑v.length : Int) - (1 : Int)).toNat (0 : Int) ≥ (4294967296 : Int)) = false]) : To Try.prog (loopAt Try.f62 1) ({ n := 143, fr := [(6, AV.v (.int .i64 sh)), (7, AV.sl 1 (.ints .u32 v) true), (8, AV.row 18 0 n2 n2 false), (9, AV.v (.int .i64 (↑v.length : Int))), (11, AV.row 35 0 n3 n3 false), (12, AV.v (.int .i64 x0)), (14, AV.v (.int .u64 x1)), (15, AV.v (.int .u64 x2))], hp := [(35, AObj.row 22 1 (.ints .u32 l0) n0), (18, AObj.row 22 1 (.ints .u32 l1) n1)], nx := 36 }) (.normal) { n := 143, fr := [(6, AV.v (.int .i64 sh)), (7, AV.sl 1 (.ints .u32 v) true), (8, AV.row 18 0 n2 n2 false), (9, AV.v (.int .i64 (↑v.length : Int))), (11, AV.row 35 0 n3 n3 false), (12, AV.v (.int .i64 x0)), (14, AV.v (.int .u64 ((x1 - (1 : Int)) % (18446744073709551616 : Int)))), (15, AV.v (.int .u64 (x2 + v.getD ((↑v.length : Int) - (1 : Int)).toNat (0 : Int))))], hp := [(35, AObj.row 22 1 (.ints .u32 l0) n0), (18, AObj.row 22 1 (.ints .u32 l1) n1)], nx := 36 } :=
  evW_to hm sok19 (hs := [CHint.ops 14 [(1, Hint.b false), (22, Hint.b true)], CHint.ops 15 [(1, Hint.wrap)], CHint.ops 17 [(1, Hint.b false)]]) (slots := [6, 7, 8, 9, 11, 12, 14, 15]) (keys := [35, 18]) (nx := 36) (c := _) (by kernel_rfl) h
theorem dvL1_5 (v : List Int) (sh : Int) (x0 : Int) (x1 : Int) (x2 : Int) (l0 : List Int) (l1 : List Int) (n0 : Nat) (n1 : Nat) (n2 : Nat) (n3 : Nat) (h : AllP [decide (x1 ≥ (4294967296 : Int)) = false, inR IntKind.i64 ((↑v.length : Int) - (2 : Int)), (0 : Int) ≤ (↑v.length : Int) - (2 : Int) ∧ (↑v.length : Int) - (2 : Int) < (↑v.length : Int), inR IntKind.u64 (v.getD ((↑v.length : Int) - (2 : Int)).toNat (0 : Int)), inR IntKind.u64 (x1 * v.getD ((↑v.length : Int) - (2 : Int)).toNat (0 : Int)), (0 : Int) ≤ (32 : Int), inR IntKind.u64 (x2 * (4294967296 : Int)), inR IntKind.i64 (x0 + (↑v.length : Int)), inR IntKind.i64 (x0 + (↑v.length : Int) - (2 : Int)), (0 : Int) ≤ x0 + (↑v.length : Int) - (2 : Int) ∧ x0 + (↑v.length : Int) - (2 : Int) < (↑n2 : Int), n1 ≤ n2, inR IntKind.u64 (l1.getD (ixPlus 0 (x0 + (↑v.length : Int) - (2 : Int)).toNat) (0 : Int)), decide (x1 * v.getD ((↑v.length : Int) - (2 : Int)).toNat (0 : Int) > bitsOf BinOp.or IntKind.u64 (x2 * (4294967296 : Int)) (l1.getD (ixPlus 0 (x0 + (↑v.length : Int) - (2 : Int)).toNat) (0 : Int))) = false]) : To Try.prog (loopAt Try.f62 1) ({ n := 143, fr := [(6, AV.v (.int .i64 sh)), (7, AV.sl 1 (.ints .u32 v) true), (8, AV.row 18 0 n2 n2 false), (9, AV.v (.int .i64 (↑v.length : Int))), (11, AV.row 35 0 n3 n3 false), (12, AV.v (.int .i64 x0)), (14, AV.v (.int .u64 x1)), (15, AV.v (.int .u64 x2))], hp := [(35, AObj.row 22 1 (.ints .u32 l0) n0), (18, AObj.row 22 1 (.ints .u32 l1) n1)], nx := 36 }) (Exit.exit 2) { n := 143, fr := [(6, AV.v (.int .i64 sh)), (7, AV.sl 1 (.ints .u32 v) true), (8, AV.row 18 0 n2 n2 false), (9, AV.v (.int .i64 (↑v.length : Int))), (11, AV.row 35 0 n3 n3 false), (12, AV.v (.int .i64 x0)), (14, AV.v (.int .u64 x1))], hp := [(35, AObj.row 22 1 (.ints .u32 l0) n0), (18, AObj.row 22 1 (.ints .u32 l1) n1)], nx := 36 } :=
  evW_to hm sok19 (hs := [CHint.ops 14 [(1, Hint.b false), (22, Hint.b false)]]) (slots := [6, 7, 8, 9, 11, 12, 14]) (keys := [35, 18]) (nx := 36) (c := _) (by kernel_rfl) h
end Go.Proofs.Bn

/- Bignum: divide: one word of a quotient guessed. -/
set_option maxRecDepth 100000
namespace Go.Proofs.Bn
open Go Go.Ev

/-- the first words of a dividend W and of a divisor V -/
structure Est (E T u2 v1 v2 wl vl W V : Nat) : Prop where
  hW : W = (T * 4294967296 + u2) * E + wl
  hV : V = (v1 * 4294967296 + v2) * E + vl
  hwl : wl < E
  hvl : vl < E
  hu2 : u2 < 4294967296
  hv2 : v2 < 4294967296
  hv1 : 1 ≤ v1 ∧ v1 < 4294967296
  hlt : W < 4294967296 * V

section
variable {E T u2 v1 v2 wl vl W V : Nat} (h : Est E T u2 v1 v2 wl vl W V)
include h

theorem Est.T3 : T * 4294967296 + u2 < 4294967296 * (v1 * 4294967296 + v2 + 1) := by
  refine Nat.lt_of_mul_lt_mul_right (a := E) ?_
  have h1 := h.hlt
  have h2 := h.hW
  have h3 : 4294967296 * V < 4294967296 * ((v1 * 4294967296 + v2 + 1) * E) := by
    rw [h.hV, Nat.add_mul (v1 * 4294967296 + v2) 1 E, Nat.one_mul]
    have := h.hvl
    omega
  rw [Nat.mul_assoc]
  omega

theorem Est.T_le : T ≤ v1 * 4294967296 + v2 := by
  have := h.T3
  omega

theorem Est.low {g : Nat} (hg : T * 4294967296 + u2 < g * (v1 * 4294967296 + v2)) : W / V < g := by
  have h0 := h.hv1
  have hV0 : 0 < V := by
    have h1 := h.hlt
    omega
  rw [Nat.div_lt_iff_lt_mul hV0]
  have h1 : (T * 4294967296 + u2 + 1) * E ≤ g * (v1 * 4294967296 + v2) * E := Nat.mul_le_mul_right _ hg
  have h2 : g * V = g * (v1 * 4294967296 + v2) * E + g * vl := by rw [h.hV, Nat.mul_add, Nat.mul_assoc]
  have h3 := h.hW
  have h4 := h.hwl
  rw [Nat.add_mul, Nat.one_mul] at h1
  rw [h2]
  generalize (T * 4294967296 + u2) * E = X at *
  generalize g * (v1 * 4294967296 + v2) * E = Y at *
  generalize g * vl = Z at *
  omega

theorem Est.high {g : Nat} (hg : g * (v1 * 4294967296 + v2) ≤ T * 4294967296 + u2) (hB : g ≤ 4294967296) : (g - 1) * V ≤ W := by
  cases g with
  | zero => simp
  | succ k =>
    rw [Nat.add_sub_cancel]
    have h1 : (k + 1) * (v1 * 4294967296 + v2) * E ≤ (T * 4294967296 + u2) * E := Nat.mul_le_mul_right _ hg
    have h2 : k * V = k * (v1 * 4294967296 + v2) * E + k * vl := by rw [h.hV, Nat.mul_add, Nat.mul_assoc]
    have h0 := h.hv1
    have h5 := h.hvl
    have h3 : k * vl ≤ (v1 * 4294967296 + v2) * E := Nat.mul_le_mul (by omega) (by omega)
    have h4 := h.hW
    rw [Nat.add_mul, Nat.add_mul, Nat.one_mul] at h1
    rw [h2]
    omega

theorem Est.first : W / V ≤ T / v1 := by
  refine Nat.le_of_lt_succ (h.low ?_)
  have h0 := h.hv1
  have h1 := Nat.div_add_mod T v1
  have h2 := Nat.mod_lt T h0.1
  have h3 : (T / v1).succ * (v1 * 4294967296 + v2) = (v1 * (T / v1) + v1) * 4294967296 + (T / v1 + 1) * v2 := by
    rw [Nat.succ_eq_add_one, Nat.mul_add, ← Nat.mul_assoc, Nat.add_mul, Nat.one_mul, Nat.mul_comm (T / v1) v1]
  have h4 := h.hu2
  rw [h3]
  generalize (T / v1 + 1) * v2 = Z at *
  generalize v1 * (T / v1) = X at *
  omega

theorem Est.q_lt : W / V < 4294967296 := by
  have h1 := h.hlt
  have hV0 : 0 < V := by omega
  rw [Nat.div_lt_iff_lt_mul hV0]
  exact h1

/-- the rest of a guess has grown beyond a word -/
theorem Est.break {g r : Nat} (hT : g * v1 + r = T) (hr : 4294967296 ≤ r) : g < 4294967296 ∧ (g - 1) * V ≤ W := by
  have h1 := h.T_le
  have h2 := h.hv2
  have hg : g < 4294967296 := by
    refine Nat.lt_of_not_le fun hge => ?_
    have : 4294967296 * v1 ≤ g * v1 := Nat.mul_le_mul_right _ hge
    omega
  refine ⟨hg, h.high ?_ (by omega)⟩
  have h3 : g * v2 ≤ 4294967296 * 4294967296 := Nat.mul_le_mul (by omega) (by omega)
  rw [Nat.mul_add, ← Nat.mul_assoc, ← hT, Nat.add_mul]
  omega

end

theorem lt_lift {A r u C : Nat} (h : r * 4294967296 + u < C) : A * 4294967296 + r * 4294967296 + u < A * 4294967296 + C := by rw [Nat.add_assoc (A * 4294967296)]; exact Nat.add_lt_add_left h _

theorem dv_inner {E T u2 v1 v2 wl vl W V : Nat} (H : Est E T u2 v1 v2 wl vl W V) (v : List Int) (sh : Int) (j : Nat) (l0 l1 : List Int) (n0 n3 : Nat) (hn : 2 ≤ v.length) (hl : l1.length < 1000000000000)
    (hj : j + v.length < l1.length) (e1 : v.getD (v.length - 1) 0 = (v1 : Int)) (e2 : v.getD (v.length - 2) 0 = (v2 : Int)) (e3 : l1.getD (j + v.length - 2) 0 = (u2 : Int)) :
    ∀ (g r : Nat), g * v1 + r = T → r < 4294967296 → W / V ≤ g → g < 18446744073709551616 → ∃ g' : Nat, W / V ≤ g' ∧ g' < 4294967296 ∧ (g' - 1) * V ≤ W ∧
      LoopTo Try.prog (loopAt Try.f62 1) (dvS1 v sh j g r l0 l1 n0 l1.length l1.length n3) (.exit 2) (dvX1 v sh j g' l0 l1 n0 l1.length l1.length n3) := by
  have a1 : ((v.length : Int) - 1).toNat = v.length - 1 := by omega
  have a2 : ((v.length : Int) - 2).toNat = v.length - 2 := by omega
  have a3 : ((j : Int) + (v.length : Int) - 2).toNat = j + v.length - 2 := by omega
  have b1 := H.hv1
  have b2 := H.hv2
  have b3 := H.hu2
  intro g
  induction g with
  | zero =>
    intro r hT hr hq hg
    have hor := (or_add (k := .u64) (s := 32) (x := (u2 : Int)) (y := (r : Int) * 4294967296) rfl (by omega) (by simp; omega) (by omega) (by show _ < (2 : Int) ^ 64; omega) (by simp) (by decide)).2
    refine ⟨0, hq, by omega, by simp, .done (by simp) (dvL1_5 v sh j (0 : Nat) r l0 l1 n0 l1.length l1.length n3 ?_)⟩
    rw [a2, a3, ix0, e2, e3, hor]
    exact ⟨by simp, inR64 (by omega) (by omega), by omega, inRu64 (by omega) (by omega), by simp only [inR]; omega, by omega, inRu64 (by omega) (by omega), inR64 (by omega) (by omega), inR64 (by omega) (by omega), by omega, Nat.le_refl _, inRu64 (by omega) (by omega), by rw [decide_eq_false_iff_not]; omega, trivial⟩
  | succ g ih =>
    intro r hT hr hq hg
    have eg : (((g + 1 : Nat) : Int) - 1) % 18446744073709551616 = (g : Int) := by rw [Int.emod_eq_of_lt (by omega) (by omega)]; omega
    have hT2 : g * v1 + (r + v1) = T := by rw [← hT, Nat.add_mul, Nat.one_mul]; omega
    have hor := (or_add (k := .u64) (s := 32) (x := (u2 : Int)) (y := (r : Int) * 4294967296) rfl (by omega) (by simp; omega) (by omega) (by show _ < (2 : Int) ^ 64; omega) (by simp) (by decide)).2
    by_cases hB : 4294967296 ≤ g + 1
    · have hq1 : W / V ≤ g := by have := H.q_lt; omega
      by_cases hbr : 4294967296 ≤ r + v1
      · obtain ⟨k1, k2⟩ := H.break hT2 hbr
        refine ⟨g, hq1, k1, k2, .done (by simp) ?_⟩
        have h1 := dvL1_1 v sh j (g + 1 : Nat) r l0 l1 n0 l1.length l1.length n3 (by
          rw [a1, e1]
          exact ⟨by rw [decide_eq_true_eq]; omega, inR64 (by omega) (by omega), by omega, inRu64 (by omega) (by omega), inRu64 (by omega) (by omega), by rw [decide_eq_true_eq]; omega, trivial⟩)
        rw [eg] at h1
        exact h1
      · obtain ⟨g', k1, k2, k3, hl2⟩ := ih (r + v1) hT2 (by omega) hq1 (by omega)
        refine ⟨g', k1, k2, k3, ?_⟩
        have h1 := dvL1_2 v sh j (g + 1 : Nat) r l0 l1 n0 l1.length l1.length n3 (by
          rw [a1, e1]
          exact ⟨by rw [decide_eq_true_eq]; omega, inR64 (by omega) (by omega), by omega, inRu64 (by omega) (by omega), inRu64 (by omega) (by omega), by rw [decide_eq_false_iff_not]; omega, trivial⟩)
        rw [eg, a1, e1] at h1
        exact .step h1 hl2
    · have c1 : ((g + 1 : Nat) : Int) * (v2 : Int) = (((g + 1) * v2 : Nat) : Int) := (Int.natCast_mul _ _).symm
      have c2 : (g + 1) * v2 ≤ 4294967296 * 4294967295 := Nat.mul_le_mul (by omega) (by omega)
      by_cases hgt : r * 4294967296 + u2 < (g + 1) * v2
      · have hq1 : W / V ≤ g := by
          refine Nat.le_of_lt_succ (H.low ?_)
          rw [← hT, Nat.succ_eq_add_one, Nat.mul_add, ← Nat.mul_assoc, Nat.add_mul ((g + 1) * v1)]
          exact lt_lift hgt
        by_cases hbr : 4294967296 ≤ r + v1
        · obtain ⟨k1, k2⟩ := H.break hT2 hbr
          refine ⟨g, hq1, k1, k2, .done (by simp) ?_⟩
          have h1 := dvL1_3 v sh j (g + 1 : Nat) r l0 l1 n0 l1.length l1.length n3 (by
            rw [a1, a2, a3, ix0, e1, e2, e3, hor, c1]
            exact ⟨by rw [decide_eq_false_iff_not]; omega, inR64 (by omega) (by omega), by omega, inRu64 (by omega) (by omega), inRu64 (by omega) (by omega), by omega, inRu64 (by omega) (by omega), inR64 (by omega) (by omega), inR64 (by omega) (by omega), by omega, Nat.le_refl _, inRu64 (by omega) (by omega), by rw [decide_eq_true_eq]; omega,
              inR64 (by omega) (by omega), by omega, inRu64 (by omega) (by omega), inRu64 (by omega) (by omega), by rw [decide_eq_true_eq]; omega, trivial⟩)
          rw [eg] at h1
          exact h1
        · obtain ⟨g', k1, k2, k3, hl2⟩ := ih (r + v1) hT2 (by omega) hq1 (by omega)
          refine ⟨g', k1, k2, k3, ?_⟩
          have h1 := dvL1_4 v sh j (g + 1 : Nat) r l0 l1 n0 l1.length l1.length n3 (by
            rw [a1, a2, a3, ix0, e1, e2, e3, hor, c1]
            exact ⟨by rw [decide_eq_false_iff_not]; omega, inR64 (by omega) (by omega), by omega, inRu64 (by omega) (by omega), inRu64 (by omega) (by omega), by omega, inRu64 (by omega) (by omega), inR64 (by omega) (by omega), inR64 (by omega) (by omega), by omega, Nat.le_refl _, inRu64 (by omega) (by omega), by rw [decide_eq_true_eq]; omega,
              inR64 (by omega) (by omega), by omega, inRu64 (by omega) (by omega), inRu64 (by omega) (by omega), by rw [decide_eq_false_iff_not]; omega, trivial⟩)
          rw [eg, a1, e1] at h1
          exact .step h1 hl2
      · have k3 : (g + 1 - 1) * V ≤ W := by
          refine H.high ?_ (by omega)
          rw [← hT, Nat.mul_add, ← Nat.mul_assoc, Nat.add_mul ((g + 1) * v1)]
          omega
        refine ⟨g + 1, hq, by omega, k3, .done (by simp) (dvL1_5 v sh j (g + 1 : Nat) r l0 l1 n0 l1.length l1.length n3 ?_)⟩
        rw [a2, a3, ix0, e2, e3, hor, c1]
        exact ⟨by rw [decide_eq_false_iff_not]; omega, inR64 (by omega) (by omega), by omega, inRu64 (by omega) (by omega), inRu64 (by omega) (by omega), by omega, inRu64 (by omega) (by omega), inR64 (by omega) (by omega), inR64 (by omega) (by omega), by omega, Nat.le_refl _, inRu64 (by omega) (by omega), by rw [decide_eq_false_iff_not]; omega, trivial⟩

end Go.Proofs.Bn

/- Bignum: divide: the loop. -/
set_option maxRecDepth 100000
namespace Go.Proofs.Bn
open Go Go.Ev

theorem drop_step {l : List Int} {k : Nat} (h : k < l.length) : nat (l.drop k) = (l.getD k 0).toNat + 4294967296 * nat (l.drop (k + 1)) := by
  rw [List.drop_eq_getElem_cons h, nat]
  have e : l[k] = l.getD k 0 := by simp [List.getD_eq_getElem?_getD, h]
  rw [e]

theorem drop_split (l : List Int) (j k : Nat) (h : j + k ≤ l.length) : nat (l.drop j) = nat (win l j k) + 4294967296 ^ k * nat (l.drop (j + k)) := by
  rw [nat_take_drop (l.drop j) k (by rw [List.length_drop]; omega), List.drop_drop]; rfl

theorem est_of {l v : List Int} {j : Nat} (hl : Words l) (hv : Words v) (hn : 2 ≤ v.length) (htop : v.getD (v.length - 1) 0 ≠ 0) (hj : j + v.length < l.length) (hr : nat (l.drop (j + 1)) < nat v) :
    nat (l.drop (j + v.length + 1)) = 0 ∧
    Est (4294967296 ^ (v.length - 2)) ((l.getD (j + v.length) 0).toNat * 4294967296 + (l.getD (j + v.length - 1) 0).toNat) (l.getD (j + v.length - 2) 0).toNat (v.getD (v.length - 1) 0).toNat (v.getD (v.length - 2) 0).toNat
      (nat (win l j (v.length - 2))) (nat (win v 0 (v.length - 2))) (nat (l.drop j)) (nat v) := by
  have hz : nat (l.drop (j + v.length + 1)) = 0 := by
    have h1 := drop_split l (j + 1) v.length (by omega)
    have h2 := nat_lt hv
    rw [show j + 1 + v.length = j + v.length + 1 by omega] at h1
    refine Nat.eq_zero_of_not_pos fun h3 => ?_
    have h4 : 4294967296 ^ v.length * 1 ≤ 4294967296 ^ v.length * nat (l.drop (j + v.length + 1)) := Nat.mul_le_mul_left _ h3
    omega
  refine ⟨hz, ?_⟩
  have hx := words_getD hv (v.length - 1)
  have hx2 := words_getD hv (v.length - 2)
  have hu2 := words_getD hl (j + v.length - 2)
  have hu0 := words_getD hl j
  refine ⟨?_, ?_, ?_, ?_, by omega, by omega, by omega, ?_⟩
  · rw [drop_split l j (v.length - 2) (by omega), show j + (v.length - 2) = j + v.length - 2 by omega, drop_step (l := l) (k := j + v.length - 2) (by omega), show j + v.length - 2 + 1 = j + v.length - 1 by omega,
      drop_step (l := l) (k := j + v.length - 1) (by omega), show j + v.length - 1 + 1 = j + v.length by omega, drop_step (l := l) (k := j + v.length) (by omega), hz]
    generalize (l.getD (j + v.length) 0).toNat = a
    generalize (l.getD (j + v.length - 1) 0).toNat = b
    generalize (l.getD (j + v.length - 2) 0).toNat = c
    generalize (4294967296 : Nat) ^ (v.length - 2) = E
    rw [Nat.mul_zero, Nat.add_zero, Nat.mul_comm E, Nat.add_comm]
    congr 2
    omega
  · have h1 := drop_split v 0 (v.length - 2) (by omega)
    rw [List.drop_zero, Nat.zero_add, drop_step (l := v) (k := v.length - 2) (by omega), show v.length - 2 + 1 = v.length - 1 by omega, drop_step (l := v) (k := v.length - 1) (by omega), List.drop_eq_nil_of_le (by omega)] at h1
    rw [h1]
    generalize (v.getD (v.length - 1) 0).toNat = b
    generalize (v.getD (v.length - 2) 0).toNat = c
    generalize (4294967296 : Nat) ^ (v.length - 2) = E
    rw [nat, Nat.mul_zero, Nat.add_zero, Nat.mul_comm E, Nat.add_comm]
    congr 2
    omega
  · have := nat_lt (words_win hl j (v.length - 2))
    rw [win_length (by omega)] at this
    exact this
  · have := nat_lt (words_win hv 0 (v.length - 2))
    rw [win_length (by omega)] at this
    exact this
  · rw [drop_step (l := l) (k := j) (by omega)]
    omega

structure DivInv (U V N M : Nat) (l0 l1 : List Int) (j : Nat) : Prop where
  len0 : l0.length = M
  len1 : l1.length = N
  w0 : Words l0
  w1 : Words l1
  sum : nat l0 * V + nat l1 = U
  low : ∀ k, k < j → l0.getD k 0 = 0
  rem : nat (l1.drop j) < V

theorem quot_is {W V g : Nat} (hV : 0 < V) (h1 : W / V ≤ g) (h2 : (g - 1) * V ≤ W) : stepQ W V g = W / V := by
  unfold stepQ
  split
  · next h => exact Nat.le_antisymm ((Nat.le_div_iff_mul_le hV).2 h) h1
  · next h =>
    have h3 : g - 1 ≤ W / V := (Nat.le_div_iff_mul_le hV).2 h2
    have h4 : W / V < g := by rw [Nat.div_lt_iff_lt_mul hV]; omega
    omega

theorem div_next {U N M j : Nat} {l0 l1 v : List Int} (hv : Words v) (hn : 2 ≤ v.length) (hj : j + v.length < N) (hjM : j < M) (I : DivInv U (nat v) N M l0 l1 (j + 1)) (hz : nat (l1.drop (j + v.length + 1)) = 0) (hq : nat (l1.drop j) / nat v < 4294967296) :
    DivInv U (nat v) N M (l0.set j ((nat (l1.drop j) / nat v : Nat) : Int))
      (l1.take j ++ wds (v.length + 1) (nat (l1.drop j) - nat (l1.drop j) / nat v * nat v) ++ l1.drop (j + (v.length + 1))) j := by
  have hN := I.len1
  have q0 : (0 : Int) ≤ ((nat (l1.drop j) / nat v : Nat) : Int) := Int.natCast_nonneg _
  have q1 : ((nat (l1.drop j) / nat v : Nat) : Int) < 4294967296 := Int.ofNat_lt.2 hq
  have hV0 : 0 < nat v := Nat.lt_of_le_of_lt (Nat.zero_le _) I.rem
  have hmod : nat (l1.drop j) - nat (l1.drop j) / nat v * nat v = nat (l1.drop j) % nat v := by
    have := Nat.div_add_mod (nat (l1.drop j)) (nat v)
    rw [Nat.mul_comm (nat v)] at this
    omega
  have hdm := Nat.div_add_mod (nat (l1.drop j)) (nat v)
  have hmlt := Nat.mod_lt (nat (l1.drop j)) hV0
  have hvl := nat_lt hv
  have hpow : (4294967296 : Nat) ^ v.length ≤ 4294967296 ^ (v.length + 1) := Nat.pow_le_pow_right (by omega) (by omega)
  have ht : (l1.take j).length = j := by rw [List.length_take]; omega
  have hw := nat_wds (v.length + 1) (nat (l1.drop j) % nat v) (by omega)
  rw [hmod]
  have hnew : nat (wds (v.length + 1) (nat (l1.drop j) % nat v) ++ l1.drop (j + (v.length + 1))) = nat (l1.drop j) % nat v := by
    rw [nat_append, hw, show j + (v.length + 1) = j + v.length + 1 by omega, hz, Nat.mul_zero, Nat.add_zero]
  have hold := nat_take_drop l1 j (by omega)
  refine ⟨by rw [List.length_set]; exact I.len0, ?_, words_set I.w0 _ q0 q1, ?_, ?_, ?_, ?_⟩
  · rw [List.length_append, List.length_append, ht, wds_length, List.length_drop]; omega
  · exact words_append.2 ⟨words_append.2 ⟨words_take I.w1 _, words_wds _ _⟩, words_drop I.w1 _⟩
  · have hs := I.sum
    have hset : nat (l0.set j ((nat (l1.drop j) / nat v : Nat) : Int)) = nat l0 + nat (l1.drop j) / nat v * 4294967296 ^ j := by
      have h1 := val_set l0 j ((nat (l1.drop j) / nat v : Nat) : Int) (by rw [I.len0]; exact hjM)
      rw [I.low j (by omega), Int.zero_mul, Int.add_zero, val_nat (words_set I.w0 _ q0 q1), val_nat I.w0] at h1
      have h2 : (4294967296 : Int) ^ j = ((4294967296 ^ j : Nat) : Int) := by rw [Int.natCast_pow]; rfl
      rw [h2, ← Int.natCast_mul, ← Int.natCast_add] at h1
      exact Int.ofNat.inj h1
    rw [List.append_assoc, nat_append, ht, hnew, hset]
    rw [hold] at hs
    generalize nat (l1.drop j) % nat v = R at *
    generalize nat (l1.drop j) / nat v = Q at *
    generalize (4294967296 : Nat) ^ j = P at *
    generalize nat (l1.take j) = L at *
    generalize nat (l1.drop j) = W at *
    subst hdm
    rw [← hs]
    grind
  · intro k hk
    rw [getD_set _ _ _ _ (by rw [I.len0]; exact hjM), if_neg (by omega)]
    exact I.low k (by omega)
  · have : (l1.take j ++ wds (v.length + 1) (nat (l1.drop j) % nat v) ++ l1.drop (j + (v.length + 1))).drop j = wds (v.length + 1) (nat (l1.drop j) % nat v) ++ l1.drop (j + (v.length + 1)) := by
      rw [List.append_assoc, List.drop_append_of_le_length (by omega), List.drop_eq_nil_of_le (by omega), List.nil_append]
    rw [this, hnew]
    exact hmlt

theorem dv_loop (v : List Int) (sh : Int) (U N M : Nat) (hv : Words v) (hn : 2 ≤ v.length) (htop : v.getD (v.length - 1) 0 ≠ 0) (hNM : N = M + v.length) (hN : N < 1000000000000) : ∀ (j : Nat) (l0 l1 : List Int), j ≤ M → DivInv U (nat v) N M l0 l1 j →
    ∃ l2 l3 : List Int, DivInv U (nat v) N M l2 l3 0 ∧ LoopTo Try.prog (loopAt Try.f62 0) (dvS0 v sh ((j : Int) - 1) l0 l1 M N N M) (.exit 0) (dvX0 v sh l2 l3 M N N M) := by
  intro j
  induction j with
  | zero =>
    intro l0 l1 _ I
    exact ⟨l0, l1, I, .done (by simp) (dvL0_2 v sh _ 0 l0 l1 M N N M ⟨by simp, trivial⟩)⟩
  | succ j ih =>
    intro l0 l1 hj I
    have hlen1 := I.len1
    have hlen0 := I.len0
    obtain ⟨hz, H⟩ := est_of I.w1 hv hn htop (j := j) (by omega) I.rem
    have hV0 : 0 < nat v := Nat.lt_of_le_of_lt (Nat.zero_le _) I.rem
    have e : ((j + 1 : Nat) : Int) - 1 = (j : Int) := by omega
    have x1 := words_getD hv (v.length - 1)
    have x2 := words_getD hv (v.length - 2)
    have y0 := words_getD I.w1 (j + v.length)
    have y1 := words_getD I.w1 (j + v.length - 1)
    have y2 := words_getD I.w1 (j + v.length - 2)
    have z1 : v.getD (v.length - 1) 0 = (((v.getD (v.length - 1) 0).toNat : Nat) : Int) := by omega
    have z2 : v.getD (v.length - 2) 0 = (((v.getD (v.length - 2) 0).toNat : Nat) : Int) := by omega
    have z3 : l1.getD (j + v.length - 2) 0 = (((l1.getD (j + v.length - 2) 0).toNat : Nat) : Int) := by omega
    have z4 : l1.getD (j + v.length) 0 = (((l1.getD (j + v.length) 0).toNat : Nat) : Int) := by omega
    have z5 : l1.getD (j + v.length - 1) 0 = (((l1.getD (j + v.length - 1) 0).toNat : Nat) : Int) := by omega
    have hT := Nat.div_add_mod ((l1.getD (j + v.length) 0).toNat * 4294967296 + (l1.getD (j + v.length - 1) 0).toNat) (v.getD (v.length - 1) 0).toNat
    have hTm := Nat.mod_lt ((l1.getD (j + v.length) 0).toNat * 4294967296 + (l1.getD (j + v.length - 1) 0).toNat) (y := (v.getD (v.length - 1) 0).toNat) (by omega)
    have hTd := Nat.div_le_self ((l1.getD (j + v.length) 0).toNat * 4294967296 + (l1.getD (j + v.length - 1) 0).toNat) (v.getD (v.length - 1) 0).toNat
    rw [Nat.mul_comm] at hT
    have hfirst := H.first
    have hq := H.q_lt
    obtain ⟨g, k1, k2, k3, hin⟩ := dv_inner H v sh j l0 l1 M M hn (by omega) (by omega) z1 z2 z3 _ _ hT (by omega) hfirst (by omega)
    rw [hlen1] at hin
    have hor := (or_add (k := .u64) (s := 32) (x := l1.getD (j + v.length - 1) 0) (y := l1.getD (j + v.length) 0 * 4294967296) rfl (by omega) (by rw [show ((2 ^ 32 : Nat) : Int) = 4294967296 by decide]; exact y1.2) (by omega) (by show _ < (2 : Int) ^ 64; omega) (by simp) (by decide)).2
    have htopc : l1.getD (j + v.length - 1) 0 + l1.getD (j + v.length) 0 * 4294967296 = (((l1.getD (j + v.length) 0).toNat * 4294967296 + (l1.getD (j + v.length - 1) 0).toNat : Nat) : Int) := by omega
    have hwin : nat (win l1 j (v.length + 1)) = nat (l1.drop j) := by
      rw [drop_split l1 j (v.length + 1) (by omega), show j + (v.length + 1) = j + v.length + 1 by omega, hz, Nat.mul_zero]; rfl
    have hsq := quot_is hV0 k1 k3
    have J := div_next hv hn (by omega) (by omega) I hz hq
    obtain ⟨l2, l3, K, hl⟩ := ih _ _ (by omega) J
    refine ⟨l2, l3, K, ?_⟩
    rw [e]
    have a1 : ((v.length : Int) - 1).toNat = v.length - 1 := by omega
    have a2 : ((j : Int) + (v.length : Int) - 1).toNat = j + v.length - 1 := by omega
    have a3 : (j : Int) + (v.length : Int) = ((j + v.length : Nat) : Int) := by omega
    have r1 : rowOff (some AV.junk) 0 j = j := rfl
    have r2 : rowLen (some AV.junk) j (((j + v.length : Nat) : Int) + 1).toNat = v.length + 1 := by
      show (((j + v.length : Nat) : Int) + 1).toNat - j = _
      omega
    have a4 : (((j + v.length : Nat) : Int) - 1).toNat = j + v.length - 1 := by omega
    generalize hTt : (l1.getD (j + v.length) 0).toNat * 4294967296 + (l1.getD (j + v.length - 1) 0).toNat = T at *
    have d1 : ((T : Nat) : Int).tdiv (((v.getD (v.length - 1) 0).toNat : Nat) : Int) = ((T / (v.getD (v.length - 1) 0).toNat : Nat) : Int) := rfl
    have d2 : ((T : Nat) : Int).tmod (((v.getD (v.length - 1) 0).toNat : Nat) : Int) = ((T % (v.getD (v.length - 1) 0).toNat : Nat) : Int) := rfl
    have h1 := dvL0_1 v sh j g l0 l1 M N N M (by
      rw [a1, a3, Int.toNat_natCast j, r1, r2, wd_nat, a4, ix0, hor, htopc, z1, d1, d2, Int.toNat_natCast g, hwin]
      refine ⟨by simp, inR64 (by omega) (by omega), hlen1.symm, Nat.le_refl _, I.w1, by omega, inRu64 (by omega) (by omega), inR64 (by omega) (by omega), inR64 (by omega) (by omega), by omega, Nat.le_refl _, inRu64 (by omega) (by omega), inR64 (by omega) (by omega), by omega, inRu64 (by omega) (by omega), by omega, inRu64 (by omega) (by omega),
        inR64 (by omega) (by omega), by omega, inRu64 (by omega) (by omega), by omega, hin, inR64 (by omega) (by omega), inR64 (by omega) (by omega), by omega, by omega, rfl, hlen1.symm, by omega, rfl, I.w1, hv, by omega, by omega, by omega, k3, by omega, hlen0.symm, inR64 (by omega) (by omega), trivial⟩)
    rw [a3, Int.toNat_natCast j, r1, r2, hwin, Int.toNat_natCast g, hsq, ix0, show ((nat (l1.drop j) / nat v : Nat) : Int) % 4294967296 = ((nat (l1.drop j) / nat v : Nat) : Int) from Int.emod_eq_of_lt (Int.natCast_nonneg _) (Int.ofNat_lt.2 hq), hlen0, J.len1] at h1
    exact .step h1 hl

end Go.Proofs.Bn

/- Bignum: walks, written by the tool. -/
set_option maxRecDepth 100000
namespace Go.Proofs.Bn
open Go Go.Ev
def divideS0 (a b : List Int) (ta tb : Bool) (x0 : Int) (l0 : List Int) (l1 : List Int) (n0 : Nat) (n1 : Nat) (n2 : Nat) (n3 : Nat) : AS := { n := 143, fr := [(6, AV.v (.int .i64 ((32 : Int) - (↑(bl (b.getD ((↑b.length : Int) - (1 : Int)).toNat (0 : Int)).toNat) : Int)))), (7, AV.sl 1 (.ints .u32 (dig (nat b * 2 ^ ((32 : Int) - (↑(bl (b.getD ((↑b.length : Int) - (1 : Int)).toNat (0 : Int)).toNat) : Int)).toNat))) true), (8, AV.row 18 0 n2 n2 false), (9, AV.v (.int .i64 (↑(dig (nat b * 2 ^ ((32 : Int) - (↑(bl (b.getD ((↑b.length : Int) - (1 : Int)).toNat (0 : Int)).toNat) : Int)).toNat)).length : Int))), (11, AV.row 35 0 n3 n3 false), (12, AV.v (.int .i64 x0))], hp := [(35, AObj.row 22 1 (.ints .u32 l0) n0), (18, AObj.row 22 1 (.ints .u32 l1) n1)], nx := 36 }
def divideX0 (a b : List Int) (ta tb : Bool) (l2 : List Int) (l3 : List Int) (n4 : Nat) (n5 : Nat) (n6 : Nat) (n7 : Nat) : AS := { n := 143, fr := [(6, AV.v (.int .i64 ((32 : Int) - (↑(bl (b.getD ((↑b.length : Int) - (1 : Int)).toNat (0 : Int)).toNat) : Int)))), (8, AV.row 18 0 n6 n6 false), (11, AV.row 35 0 n7 n7 false)], hp := [(35, AObj.row 22 1 (.ints .u32 l2) n4), (18, AObj.row 22 1 (.ints .u32 l3) n5)], nx := 36 }
def divideS1 (a b : List Int) (ta tb : Bool) (x0 : Int) (x1 : Int) (x2 : Int) (l0 : List Int) (l1 : List Int) (n0 : Nat) (n1 : Nat) (n2 : Nat) (n3 : Nat) : AS := { n := 143, fr := [(6, AV.v (.int .i64 ((32 : Int) - (↑(bl (b.getD ((↑b.length : Int) - (1 : Int)).toNat (0 : Int)).toNat) : Int)))), (7, AV.sl 1 (.ints .u32 (dig (nat b * 2 ^ ((32 : Int) - (↑(bl (b.getD ((↑b.length : Int) - (1 : Int)).toNat (0 : Int)).toNat) : Int)).toNat))) true), (8, AV.row 18 0 n2 n2 false), (9, AV.v (.int .i64 (↑(dig (nat b * 2 ^ ((32 : Int) - (↑(bl (b.getD ((↑b.length : Int) - (1 : Int)).toNat (0 : Int)).toNat) : Int)).toNat)).length : Int))), (11, AV.row 35 0 n3 n3 false), (12, AV.v (.int .i64 x0)), (14, AV.v (.int .u64 x1)), (15, AV.v (.int .u64 x2))], hp := [(35, AObj.row 22 1 (.ints .u32 l0) n0), (18, AObj.row 22 1 (.ints .u32 l1) n1)], nx := 36 }
def divideX1 (a b : List Int) (ta tb : Bool) (x0 : Int) (x3 : Int) (l0 : List Int) (l1 : List Int) (n0 : Nat) (n1 : Nat) (n2 : Nat) (n3 : Nat) : AS := { n := 143, fr := [(6, AV.v (.int .i64 ((32 : Int) - (↑(bl (b.getD ((↑b.length : Int) - (1 : Int)).toNat (0 : Int)).toNat) : Int)))), (7, AV.sl 1 (.ints .u32 (dig (nat b * 2 ^ ((32 : Int) - (↑(bl (b.getD ((↑b.length : Int) - (1 : Int)).toNat (0 : Int)).toNat) : Int)).toNat))) true), (8, AV.row 18 0 n2 n2 false), (9, AV.v (.int .i64 (↑(dig (nat b * 2 ^ ((32 : Int) - (↑(bl (b.getD ((↑b.length : Int) - (1 : Int)).toNat (0 : Int)).toNat) : Int)).toNat)).length : Int))), (11, AV.row 35 0 n3 n3 false), (12, AV.v (.int .i64 x0)), (14, AV.v (.int .u64 x3))], hp := [(35, AObj.row 22 1 (.ints .u32 l0) n0), (18, AObj.row 22 1 (.ints .u32 l1) n1)], nx := 36 }
-- 2 paths
theorem divideL0_1 (a b : List Int) (ta tb : Bool) (x0 : Int) (x3 : Int) (l0 : List Int) (l1 : List Int) (n0 : Nat) (n1 : Nat) (n2 : Nat) (n3 : Nat) (h : AllP [decide (x0 ≥ (0 : Int)) = true, inR IntKind.i64 (x0 + (↑(dig (nat b * 2 ^ ((32 : Int) - (↑(bl (b.getD ((↑b.length : Int) - (1 : Int)).toNat (0 : Int)).toNat) : Int)).toNat)).length : Int)), n2 = l1.length, n1 ≤ n2, Words l1, (0 : Int) ≤ (32 : Int), inR IntKind.u64 (wd l1 (x0 + (↑(dig (nat b * 2 ^ ((32 : Int) - (↑(bl (b.getD ((↑b.length : Int) - (1 : Int)).toNat (0 : Int)).toNat) : Int)).toNat)).length : Int)) * (4294967296 : Int)), inR IntKind.i64 (x0 + (↑(dig (nat b * 2 ^ ((32 : Int) - (↑(bl (b.getD ((↑b.length : Int) - (1 : Int)).toNat (0 : Int)).toNat) : Int)).toNat)).length : Int)), inR IntKind.i64 (x0 + (↑(dig (nat b * 2 ^ ((32 : Int) - (↑(bl (b.getD ((↑b.length : Int) - (1 : Int)).toNat (0 : Int)).toNat) : Int)).toNat)).length : Int) - (1 : Int)), (0 : Int) ≤ x0 + (↑(dig (nat b * 2 ^ ((32 : Int) - (↑(bl (b.getD ((↑b.length : Int) - (1 : Int)).toNat (0 : Int)).toNat) : Int)).toNat)).length : Int) - (1 : Int) ∧ x0 + (↑(dig (nat b * 2 ^ ((32 : Int) - (↑(bl (b.getD ((↑b.length : Int) - (1 : Int)).toNat (0 : Int)).toNat) : Int)).toNat)).length : Int) - (1 : Int) < (↑n2 : Int), n1 ≤ n2, inR IntKind.u64 (l1.getD (ixPlus 0 (x0 + (↑(dig (nat b * 2 ^ ((32 : Int) - (↑(bl (b.getD ((↑b.length : Int) - (1 : Int)).toNat (0 : Int)).toNat) : Int)).toNat)).length : Int) - (1 : Int)).toNat) (0 : Int)), inR IntKind.i64 ((↑(dig (nat b * 2 ^ ((32 : Int) - (↑(bl (b.getD ((↑b.length : Int) - (1 : Int)).toNat (0 : Int)).toNat) : Int)).toNat)).length : Int) - (1 : Int)), (0 : Int) ≤ (↑(dig (nat b * 2 ^ ((32 : Int) - (↑(bl (b.getD ((↑b.length : Int) - (1 : Int)).toNat (0 : Int)).toNat) : Int)).toNat)).length : Int) - (1 : Int) ∧ (↑(dig (nat b * 2 ^ ((32 : Int) - (↑(bl (b.getD ((↑b.length : Int) - (1 : Int)).toNat (0 : Int)).toNat) : Int)).toNat)).length : Int) - (1 : Int) < (↑(dig (nat b * 2 ^ ((32 : Int) - (↑(bl (b.getD ((↑b.length : Int) - (1 : Int)).toNat (0 : Int)).toNat) : Int)).toNat)).length : Int), inR IntKind.u64 ((dig (nat b * 2 ^ ((32 : Int) - (↑(bl (b.getD ((↑b.length : Int) - (1 : Int)).toNat (0 : Int)).toNat) : Int)).toNat)).getD ((↑(dig (nat b * 2 ^ ((32 : Int) - (↑(bl (b.getD ((↑b.length : Int) - (1 : Int)).toNat (0 : Int)).toNat) : Int)).toNat)).length : Int) - (1 : Int)).toNat (0 : Int)), (dig (nat b * 2 ^ ((32 : Int) - (↑(bl (b.getD ((↑b.length : Int) - (1 : Int)).toNat (0 : Int)).toNat) : Int)).toNat)).getD ((↑(dig (nat b * 2 ^ ((32 : Int) - (↑(bl (b.getD ((↑b.length : Int) - (1 : Int)).toNat (0 : Int)).toNat) : Int)).toNat)).length : Int) - (1 : Int)).toNat (0 : Int) ≠ (0 : Int), inR IntKind.u64 ((bitsOf BinOp.or IntKind.u64 (wd l1 (x0 + (↑(dig (nat b * 2 ^ ((32 : Int) - (↑(bl (b.getD ((↑b.length : Int) - (1 : Int)).toNat (0 : Int)).toNat) : Int)).toNat)).length : Int)) * (4294967296 : Int)) (l1.getD (ixPlus 0 (x0 + (↑(dig (nat b * 2 ^ ((32 : Int) - (↑(bl (b.getD ((↑b.length : Int) - (1 : Int)).toNat (0 : Int)).toNat) : Int)).toNat)).length : Int) - (1 : Int)).toNat) (0 : Int))).tdiv ((dig (nat b * 2 ^ ((32 : Int) - (↑(bl (b.getD ((↑b.length : Int) - (1 : Int)).toNat (0 : Int)).toNat) : Int)).toNat)).getD ((↑(dig (nat b * 2 ^ ((32 : Int) - (↑(bl (b.getD ((↑b.length : Int) - (1 : Int)).toNat (0 : Int)).toNat) : Int)).toNat)).length : Int) - (1 : Int)).toNat (0 : Int))), inR IntKind.i64 ((↑(dig (nat b * 2 ^ ((32 : Int) - (↑(bl (b.getD ((↑b.length : Int) - (1 : Int)).toNat (0 : Int)).toNat) : Int)).toNat)).length : Int) - (1 : Int)), (0 : Int) ≤ (↑(dig (nat b * 2 ^ ((32 : Int) - (↑(bl (b.getD ((↑b.length : Int) - (1 : Int)).toNat (0 : Int)).toNat) : Int)).toNat)).length : Int) - (1 : Int) ∧ (↑(dig (nat b * 2 ^ ((32 : Int) - (↑(bl (b.getD ((↑b.length : Int) - (1 : Int)).toNat (0 : Int)).toNat) : Int)).toNat)).length : Int) - (1 : Int) < (↑(dig (nat b * 2 ^ ((32 : Int) - (↑(bl (b.getD ((↑b.length : Int) - (1 : Int)).toNat (0 : Int)).toNat) : Int)).toNat)).length : Int), inR IntKind.u64 ((dig (nat b * 2 ^ ((32 : Int) - (↑(bl (b.getD ((↑b.length : Int) - (1 : Int)).toNat (0 : Int)).toNat) : Int)).toNat)).getD ((↑(dig (nat b * 2 ^ ((32 : Int) - (↑(bl (b.getD ((↑b.length : Int) - (1 : Int)).toNat (0 : Int)).toNat) : Int)).toNat)).length : Int) - (1 : Int)).toNat (0 : Int)), (dig (nat b * 2 ^ ((32 : Int) - (↑(bl (b.getD ((↑b.length : Int) - (1 : Int)).toNat (0 : Int)).toNat) : Int)).toNat)).getD ((↑(dig (nat b * 2 ^ ((32 : Int) - (↑(bl (b.getD ((↑b.length : Int) - (1 : Int)).toNat (0 : Int)).toNat) : Int)).toNat)).length : Int) - (1 : Int)).toNat (0 : Int) ≠ (0 : Int), LoopTo Try.prog (loopAt Try.f62 1) { n := 143, fr := [(6, AV.v (.int .i64 ((32 : Int) - (↑(bl (b.getD ((↑b.length : Int) - (1 : Int)).toNat (0 : Int)).toNat) : Int)))), (7, AV.sl 1 (.ints .u32 (dig (nat b * 2 ^ ((32 : Int) - (↑(bl (b.getD ((↑b.length : Int) - (1 : Int)).toNat (0 : Int)).toNat) : Int)).toNat))) true), (8, AV.row 18 0 n2 n2 false), (9, AV.v (.int .i64 (↑(dig (nat b * 2 ^ ((32 : Int) - (↑(bl (b.getD ((↑b.length : Int) - (1 : Int)).toNat (0 : Int)).toNat) : Int)).toNat)).length : Int))), (11, AV.row 35 0 n3 n3 false), (12, AV.v (.int .i64 x0)), (14, AV.v (.int .u64 ((bitsOf BinOp.or IntKind.u64 (wd l1 (x0 + (↑(dig (nat b * 2 ^ ((32 : Int) - (↑(bl (b.getD ((↑b.length : Int) - (1 : Int)).toNat (0 : Int)).toNat) : Int)).toNat)).length : Int)) * (4294967296 : Int)) (l1.getD (ixPlus 0 (x0 + (↑(dig (nat b * 2 ^ ((32 : Int) - (↑(bl (b.getD ((↑b.length : Int) - (1 : Int)).toNat (0 : Int)).toNat) : Int)).toNat)).length : Int) - (1 : Int)).toNat) (0 : Int))).tdiv ((dig (nat b * 2 ^ ((32 : Int) - (↑(bl (b.getD ((↑b.length : Int) - (1 : Int)).toNat (0 : Int)).toNat) : Int)).toNat)).getD ((↑(dig (nat b * 2 ^ ((32 : Int) - (↑(bl (b.getD ((↑b.length : Int) - (1 : Int)).toNat (0 : Int)).toNat) : Int)).toNat)).length : Int) - (1 : Int)).toNat (0 : Int))))), (15, AV.v (.int .u64 ((bitsOf BinOp.or IntKind.u64 (wd l1 (x0 + (↑(dig (nat b * 2 ^ ((32 : Int) - (↑(bl (b.getD ((↑b.length : Int) - (1 : Int)).toNat (0 : Int)).toNat) : Int)).toNat)).length : Int)) * (4294967296 : Int)) (l1.getD (ixPlus 0 (x0 + (↑(dig (nat b * 2 ^ ((32 : Int) - (↑(bl (b.getD ((↑b.length : Int) - (1 : Int)).toNat (0 : Int)).toNat) : Int)).toNat)).length : Int) - (1 : Int)).toNat) (0 : Int))).tmod ((dig (nat b * 2 ^ ((32 : Int) - (↑(bl (b.getD ((↑b.length : Int) - (1 : Int)).toNat (0 : Int)).toNat) : Int)).toNat)).getD ((↑(dig (nat b * 2 ^ ((32 : Int) - (↑(bl (b.getD ((↑b.length : Int) - (1 : Int)).toNat (0 : Int)).toNat) : Int)).toNat)).length : Int) - (1 : Int)).toNat (0 : Int)))))], hp := [(35, AObj.row 22 1 (.ints .u32 l0) n0), (18, AObj.row 22 1 (.ints .u32 l1) n1)], nx := 36 } (Exit.exit 2) { n := 143, fr := [(6, AV.v (.int .i64 ((32 : Int) - (↑(bl (b.getD ((↑b.length : Int) - (1 : Int)).toNat (0 : Int)).toNat) : Int)))), (7, AV.sl 1 (.ints .u32 (dig (nat b * 2 ^ ((32 : Int) - (↑(bl (b.getD ((↑b.length : Int) - (1 : Int)).toNat (0 : Int)).toNat) : Int)).toNat))) true), (8, AV.row 18 0 n2 n2 false), (9, AV.v (.int .i64 (↑(dig (nat b * 2 ^ ((32 : Int) - (↑(bl (b.getD ((↑b.length : Int) - (1 : Int)).toNat (0 : Int)).toNat) : Int)).toNat)).length : Int))), (11, AV.row 35 0 n3 n3 false), (12, AV.v (.int .i64 x0)), (14, AV.v (.int .u64 x3))], hp := [(35, AObj.row 22 1 (.ints .u32 l0) n0), (18, AObj.row 22 1 (.ints .u32 l1) n1)], nx := 36 }, inR IntKind.i64 (x0 + (↑(dig (nat b * 2 ^ ((32 : Int) - (↑(bl (b.getD ((↑b.length : Int) - (1 : Int)).toNat (0 : Int)).toNat) : Int)).toNat)).length : Int)), inR IntKind.i64 (x0 + (↑(dig (nat b * 2 ^ ((32 : Int) - (↑(bl (b.getD ((↑b.length : Int) - (1 : Int)).toNat (0 : Int)).toNat) : Int)).toNat)).length : Int) + (1 : Int)), (0 : Int) ≤ x0 + (↑(dig (nat b * 2 ^ ((32 : Int) - (↑(bl (b.getD ((↑b.length : Int) - (1 : Int)).toNat (0 : Int)).toNat) : Int)).toNat)).length : Int) + (1 : Int) ∧ x0 + (↑(dig (nat b * 2 ^ ((32 : Int) - (↑(bl (b.getD ((↑b.length : Int) - (1 : Int)).toNat (0 : Int)).toNat) : Int)).toNat)).length : Int) + (1 : Int) ≤ (↑n2 : Int), (0 : Int) ≤ x0 ∧ x0 ≤ (↑(x0 + (↑(dig (nat b * 2 ^ ((32 : Int) - (↑(bl (b.getD ((↑b.length : Int) - (1 : Int)).toNat (0 : Int)).toNat) : Int)).toNat)).length : Int) + (1 : Int)).toNat : Int), 4294967296 = rsv, n2 = l1.length, rowOff (Option.map (evalA [(127, AV.v (.int .i64 (x0 + (↑(dig (nat b * 2 ^ ((32 : Int) - (↑(bl (b.getD ((↑b.length : Int) - (1 : Int)).toNat (0 : Int)).toNat) : Int)).toNat)).length : Int) + (1 : Int)))), (126, AV.v (.int .i64 (x0 + (↑(dig (nat b * 2 ^ ((32 : Int) - (↑(bl (b.getD ((↑b.length : Int) - (1 : Int)).toNat (0 : Int)).toNat) : Int)).toNat)).length : Int)))), (125, AV.v (.int .i64 (↑(dig (nat b * 2 ^ ((32 : Int) - (↑(bl (b.getD ((↑b.length : Int) - (1 : Int)).toNat (0 : Int)).toNat) : Int)).toNat)).length : Int))), (124, AV.v (.int .i64 x0)), (123, AV.v (.int .i64 x0)), (122, AV.row 18 0 n2 n2 false), (121, AV.v (.int .i64 x0)), (120, AV.row 35 0 n3 n3 false), (6, AV.v (.int .i64 ((32 : Int) - (↑(bl (b.getD ((↑b.length : Int) - (1 : Int)).toNat (0 : Int)).toNat) : Int)))), (7, AV.sl 1 (.ints .u32 (dig (nat b * 2 ^ ((32 : Int) - (↑(bl (b.getD ((↑b.length : Int) - (1 : Int)).toNat (0 : Int)).toNat) : Int)).toNat))) true), (8, AV.row 18 0 n2 n2 false), (9, AV.v (.int .i64 (↑(dig (nat b * 2 ^ ((32 : Int) - (↑(bl (b.getD ((↑b.length : Int) - (1 : Int)).toNat (0 : Int)).toNat) : Int)).toNat)).length : Int))), (11, AV.row 35 0 n3 n3 false), (12, AV.v (.int .i64 x0)), (14, AV.v (.int .u64 x3))]) (some (Operand.tmp 123))) 0 x0.toNat + rowLen (Option.map (evalA [(127, AV.v (.int .i64 (x0 + (↑(dig (nat b * 2 ^ ((32 : Int) - (↑(bl (b.getD ((↑b.length : Int) - (1 : Int)).toNat (0 : Int)).toNat) : Int)).toNat)).length : Int) + (1 : Int)))), (126, AV.v (.int .i64 (x0 + (↑(dig (nat b * 2 ^ ((32 : Int) - (↑(bl (b.getD ((↑b.length : Int) - (1 : Int)).toNat (0 : Int)).toNat) : Int)).toNat)).length : Int)))), (125, AV.v (.int .i64 (↑(dig (nat b * 2 ^ ((32 : Int) - (↑(bl (b.getD ((↑b.length : Int) - (1 : Int)).toNat (0 : Int)).toNat) : Int)).toNat)).length : Int))), (124, AV.v (.int .i64 x0)), (123, AV.v (.int .i64 x0)), (122, AV.row 18 0 n2 n2 false), (121, AV.v (.int .i64 x0)), (120, AV.row 35 0 n3 n3 false), (6, AV.v (.int .i64 ((32 : Int) - (↑(bl (b.getD ((↑b.length : Int) - (1 : Int)).toNat (0 : Int)).toNat) : Int)))), (7, AV.sl 1 (.ints .u32 (dig (nat b * 2 ^ ((32 : Int) - (↑(bl (b.getD ((↑b.length : Int) - (1 : Int)).toNat (0 : Int)).toNat) : Int)).toNat))) true), (8, AV.row 18 0 n2 n2 false), (9, AV.v (.int .i64 (↑(dig (nat b * 2 ^ ((32 : Int) - (↑(bl (b.getD ((↑b.length : Int) - (1 : Int)).toNat (0 : Int)).toNat) : Int)).toNat)).length : Int))), (11, AV.row 35 0 n3 n3 false), (12, AV.v (.int .i64 x0)), (14, AV.v (.int .u64 x3))]) (some (Operand.tmp 123))) x0.toNat (x0 + (↑(dig (nat b * 2 ^ ((32 : Int) - (↑(bl (b.getD ((↑b.length : Int) - (1 : Int)).toNat (0 : Int)).toNat) : Int)).toNat)).length : Int) + (1 : Int)).toNat ≤ l1.length, rowLen (Option.map (evalA [(127, AV.v (.int .i64 (x0 + (↑(dig (nat b * 2 ^ ((32 : Int) - (↑(bl (b.getD ((↑b.length : Int) - (1 : Int)).toNat (0 : Int)).toNat) : Int)).toNat)).length : Int) + (1 : Int)))), (126, AV.v (.int .i64 (x0 + (↑(dig (nat b * 2 ^ ((32 : Int) - (↑(bl (b.getD ((↑b.length : Int) - (1 : Int)).toNat (0 : Int)).toNat) : Int)).toNat)).length : Int)))), (125, AV.v (.int .i64 (↑(dig (nat b * 2 ^ ((32 : Int) - (↑(bl (b.getD ((↑b.length : Int) - (1 : Int)).toNat (0 : Int)).toNat) : Int)).toNat)).length : Int))), (124, AV.v (.int .i64 x0)), (123, AV.v (.int .i64 x0)), (122, AV.row 18 0 n2 n2 false), (121, AV.v (.int .i64 x0)), (120, AV.row 35 0 n3 n3 false), (6, AV.v (.int .i64 ((32 : Int) - (↑(bl (b.getD ((↑b.length : Int) - (1 : Int)).toNat (0 : Int)).toNat) : Int)))), (7, AV.sl 1 (.ints .u32 (dig (nat b * 2 ^ ((32 : Int) - (↑(bl (b.getD ((↑b.length : Int) - (1 : Int)).toNat (0 : Int)).toNat) : Int)).toNat))) true), (8, AV.row 18 0 n2 n2 false), (9, AV.v (.int .i64 (↑(dig (nat b * 2 ^ ((32 : Int) - (↑(bl (b.getD ((↑b.length : Int) - (1 : Int)).toNat (0 : Int)).toNat) : Int)).toNat)).length : Int))), (11, AV.row 35 0 n3 n3 false), (12, AV.v (.int .i64 x0)), (14, AV.v (.int .u64 x3))]) (some (Operand.tmp 123))) x0.toNat (x0 + (↑(dig (nat b * 2 ^ ((32 : Int) - (↑(bl (b.getD ((↑b.length : Int) - (1 : Int)).toNat (0 : Int)).toNat) : Int)).toNat)).length : Int) + (1 : Int)).toNat = (dig (nat b * 2 ^ ((32 : Int) - (↑(bl (b.getD ((↑b.length : Int) - (1 : Int)).toNat (0 : Int)).toNat) : Int)).toNat)).length + 1, Words l1, Words (dig (nat b * 2 ^ ((32 : Int) - (↑(bl (b.getD ((↑b.length : Int) - (1 : Int)).toNat (0 : Int)).toNat) : Int)).toNat)), (0 : Int) ≤ x3, x3 < (4294967296 : Int), l1.length < 1000000000000, (x3.toNat - 1) * nat (dig (nat b * 2 ^ ((32 : Int) - (↑(bl (b.getD ((↑b.length : Int) - (1 : Int)).toNat (0 : Int)).toNat) : Int)).toNat)) ≤ nat (win l1 (rowOff (Option.map (evalA [(127, AV.v (.int .i64 (x0 + (↑(dig (nat b * 2 ^ ((32 : Int) - (↑(bl (b.getD ((↑b.length : Int) - (1 : Int)).toNat (0 : Int)).toNat) : Int)).toNat)).length : Int) + (1 : Int)))), (126, AV.v (.int .i64 (x0 + (↑(dig (nat b * 2 ^ ((32 : Int) - (↑(bl (b.getD ((↑b.length : Int) - (1 : Int)).toNat (0 : Int)).toNat) : Int)).toNat)).length : Int)))), (125, AV.v (.int .i64 (↑(dig (nat b * 2 ^ ((32 : Int) - (↑(bl (b.getD ((↑b.length : Int) - (1 : Int)).toNat (0 : Int)).toNat) : Int)).toNat)).length : Int))), (124, AV.v (.int .i64 x0)), (123, AV.v (.int .i64 x0)), (122, AV.row 18 0 n2 n2 false), (121, AV.v (.int .i64 x0)), (120, AV.row 35 0 n3 n3 false), (6, AV.v (.int .i64 ((32 : Int) - (↑(bl (b.getD ((↑b.length : Int) - (1 : Int)).toNat (0 : Int)).toNat) : Int)))), (7, AV.sl 1 (.ints .u32 (dig (nat b * 2 ^ ((32 : Int) - (↑(bl (b.getD ((↑b.length : Int) - (1 : Int)).toNat (0 : Int)).toNat) : Int)).toNat))) true), (8, AV.row 18 0 n2 n2 false), (9, AV.v (.int .i64 (↑(dig (nat b * 2 ^ ((32 : Int) - (↑(bl (b.getD ((↑b.length : Int) - (1 : Int)).toNat (0 : Int)).toNat) : Int)).toNat)).length : Int))), (11, AV.row 35 0 n3 n3 false), (12, AV.v (.int .i64 x0)), (14, AV.v (.int .u64 x3))]) (some (Operand.tmp 123))) 0 x0.toNat) (rowLen (Option.map (evalA [(127, AV.v (.int .i64 (x0 + (↑(dig (nat b * 2 ^ ((32 : Int) - (↑(bl (b.getD ((↑b.length : Int) - (1 : Int)).toNat (0 : Int)).toNat) : Int)).toNat)).length : Int) + (1 : Int)))), (126, AV.v (.int .i64 (x0 + (↑(dig (nat b * 2 ^ ((32 : Int) - (↑(bl (b.getD ((↑b.length : Int) - (1 : Int)).toNat (0 : Int)).toNat) : Int)).toNat)).length : Int)))), (125, AV.v (.int .i64 (↑(dig (nat b * 2 ^ ((32 : Int) - (↑(bl (b.getD ((↑b.length : Int) - (1 : Int)).toNat (0 : Int)).toNat) : Int)).toNat)).length : Int))), (124, AV.v (.int .i64 x0)), (123, AV.v (.int .i64 x0)), (122, AV.row 18 0 n2 n2 false), (121, AV.v (.int .i64 x0)), (120, AV.row 35 0 n3 n3 false), (6, AV.v (.int .i64 ((32 : Int) - (↑(bl (b.getD ((↑b.length : Int) - (1 : Int)).toNat (0 : Int)).toNat) : Int)))), (7, AV.sl 1 (.ints .u32 (dig (nat b * 2 ^ ((32 : Int) - (↑(bl (b.getD ((↑b.length : Int) - (1 : Int)).toNat (0 : Int)).toNat) : Int)).toNat))) true), (8, AV.row 18 0 n2 n2 false), (9, AV.v (.int .i64 (↑(dig (nat b * 2 ^ ((32 : Int) - (↑(bl (b.getD ((↑b.length : Int) - (1 : Int)).toNat (0 : Int)).toNat) : Int)).toNat)).length : Int))), (11, AV.row 35 0 n3 n3 false), (12, AV.v (.int .i64 x0)), (14, AV.v (.int .u64 x3))]) (some (Operand.tmp 123))) x0.toNat (x0 + (↑(dig (nat b * 2 ^ ((32 : Int) - (↑(bl (b.getD ((↑b.length : Int) - (1 : Int)).toNat (0 : Int)).toNat) : Int)).toNat)).length : Int) + (1 : Int)).toNat)), (0 : Int) ≤ x0 ∧ x0 < (↑n3 : Int), n3 = l0.length, inR IntKind.i64 (x0 - (1 : Int))]) : To Try.prog (loopAt Try.f62 0) ({ n := 143, fr := [(6, AV.v (.int .i64 ((32 : Int) - (↑(bl (b.getD ((↑b.length : Int) - (1 : Int)).toNat (0 : Int)).toNat) : Int)))), (7, AV.sl 1 (.ints .u32 (dig (nat b * 2 ^ ((32 : Int) - (↑(bl (b.getD ((↑b.length : Int) - (1 : Int)).toNat (0 : Int)).toNat) : Int)).toNat))) true), (8, AV.row 18 0 n2 n2 false), (9, AV.v (.int .i64 (↑(dig (nat b * 2 ^ ((32 : Int) - (↑(bl (b.getD ((↑b.length : Int) - (1 : Int)).toNat (0 : Int)).toNat) : Int)).toNat)).length : Int))), (11, AV.row 35 0 n3 n3 false), (12, AV.v (.int .i64 x0))], hp := [(35, AObj.row 22 1 (.ints .u32 l0) n0), (18, AObj.row 22 1 (.ints .u32 l1) n1)], nx := 36 }) (.normal) { n := 143, fr := [(6, AV.v (.int .i64 ((32 : Int) - (↑(bl (b.getD ((↑b.length : Int) - (1 : Int)).toNat (0 : Int)).toNat) : Int)))), (7, AV.sl 1 (.ints .u32 (dig (nat b * 2 ^ ((32 : Int) - (↑(bl (b.getD ((↑b.length : Int) - (1 : Int)).toNat (0 : Int)).toNat) : Int)).toNat))) true), (8, AV.row 18 0 n2 n2 false), (9, AV.v (.int .i64 (↑(dig (nat b * 2 ^ ((32 : Int) - (↑(bl (b.getD ((↑b.length : Int) - (1 : Int)).toNat (0 : Int)).toNat) : Int)).toNat)).length : Int))), (11, AV.row 35 0 n3 n3 false), (12, AV.v (.int .i64 (x0 - (1 : Int))))], hp := [(35, AObj.row 22 1 (.ints .u32 (l0.set (ixPlus 0 x0.toNat) ((↑(stepQ (nat (win l1 (rowOff (Option.map (evalA [(127, AV.v (.int .i64 (x0 + (↑(dig (nat b * 2 ^ ((32 : Int) - (↑(bl (b.getD ((↑b.length : Int) - (1 : Int)).toNat (0 : Int)).toNat) : Int)).toNat)).length : Int) + (1 : Int)))), (126, AV.v (.int .i64 (x0 + (↑(dig (nat b * 2 ^ ((32 : Int) - (↑(bl (b.getD ((↑b.length : Int) - (1 : Int)).toNat (0 : Int)).toNat) : Int)).toNat)).length : Int)))), (125, AV.v (.int .i64 (↑(dig (nat b * 2 ^ ((32 : Int) - (↑(bl (b.getD ((↑b.length : Int) - (1 : Int)).toNat (0 : Int)).toNat) : Int)).toNat)).length : Int))), (124, AV.v (.int .i64 x0)), (123, AV.v (.int .i64 x0)), (122, AV.row 18 0 n2 n2 false), (121, AV.v (.int .i64 x0)), (120, AV.row 35 0 n3 n3 false), (6, AV.v (.int .i64 ((32 : Int) - (↑(bl (b.getD ((↑b.length : Int) - (1 : Int)).toNat (0 : Int)).toNat) : Int)))), (7, AV.sl 1 (.ints .u32 (dig (nat b * 2 ^ ((32 : Int) - (↑(bl (b.getD ((↑b.length : Int) - (1 : Int)).toNat (0 : Int)).toNat) : Int)).toNat))) true), (8, AV.row 18 0 n2 n2 false), (9, AV.v (.int .i64 (↑(dig (nat b * 2 ^ ((32 : Int) - (↑(bl (b.getD ((↑b.length : Int) - (1 : Int)).toNat (0 : Int)).toNat) : Int)).toNat)).length : Int))), (11, AV.row 35 0 n3 n3 false), (12, AV.v (.int .i64 x0)), (14, AV.v (.int .u64 x3))]) (some (Operand.tmp 123))) 0 x0.toNat) (rowLen (Option.map (evalA [(127, AV.v (.int .i64 (x0 + (↑(dig (nat b * 2 ^ ((32 : Int) - (↑(bl (b.getD ((↑b.length : Int) - (1 : Int)).toNat (0 : Int)).toNat) : Int)).toNat)).length : Int) + (1 : Int)))), (126, AV.v (.int .i64 (x0 + (↑(dig (nat b * 2 ^ ((32 : Int) - (↑(bl (b.getD ((↑b.length : Int) - (1 : Int)).toNat (0 : Int)).toNat) : Int)).toNat)).length : Int)))), (125, AV.v (.int .i64 (↑(dig (nat b * 2 ^ ((32 : Int) - (↑(bl (b.getD ((↑b.length : Int) - (1 : Int)).toNat (0 : Int)).toNat) : Int)).toNat)).length : Int))), (124, AV.v (.int .i64 x0)), (123, AV.v (.int .i64 x0)), (122, AV.row 18 0 n2 n2 false), (121, AV.v (.int .i64 x0)), (120, AV.row 35 0 n3 n3 false), (6, AV.v (.int .i64 ((32 : Int) - (↑(bl (b.getD ((↑b.length : Int) - (1 : Int)).toNat (0 : Int)).toNat) : Int)))), (7, AV.sl 1 (.ints .u32 (dig (nat b * 2 ^ ((32 : Int) - (↑(bl (b.getD ((↑b.length : Int) - (1 : Int)).toNat (0 : Int)).toNat) : Int)).toNat))) true), (8, AV.row 18 0 n2 n2 false), (9, AV.v (.int .i64 (↑(dig (nat b * 2 ^ ((32 : Int) - (↑(bl (b.getD ((↑b.length : Int) - (1 : Int)).toNat (0 : Int)).toNat) : Int)).toNat)).length : Int))), (11, AV.row 35 0 n3 n3 false), (12, AV.v (.int .i64 x0)), (14, AV.v (.int .u64 x3))]) (some (Operand.tmp 123))) x0.toNat (x0 + (↑(dig (nat b * 2 ^ ((32 : Int) - (↑(bl (b.getD ((↑b.length : Int) - (1 : Int)).toNat (0 : Int)).toNat) : Int)).toNat)).length : Int) + (1 : Int)).toNat))) (nat (dig (nat b * 2 ^ ((32 : Int) - (↑(bl (b.getD ((↑b.length : Int) - (1 : Int)).toNat (0 : Int)).toNat) : Int)).toNat))) x3.toNat) : Int) % (4294967296 : Int)))) l0.length), (18, AObj.row 22 1 (.ints .u32 (List.take (rowOff (Option.map (evalA [(127, AV.v (.int .i64 (x0 + (↑(dig (nat b * 2 ^ ((32 : Int) - (↑(bl (b.getD ((↑b.length : Int) - (1 : Int)).toNat (0 : Int)).toNat) : Int)).toNat)).length : Int) + (1 : Int)))), (126, AV.v (.int .i64 (x0 + (↑(dig (nat b * 2 ^ ((32 : Int) - (↑(bl (b.getD ((↑b.length : Int) - (1 : Int)).toNat (0 : Int)).toNat) : Int)).toNat)).length : Int)))), (125, AV.v (.int .i64 (↑(dig (nat b * 2 ^ ((32 : Int) - (↑(bl (b.getD ((↑b.length : Int) - (1 : Int)).toNat (0 : Int)).toNat) : Int)).toNat)).length : Int))), (124, AV.v (.int .i64 x0)), (123, AV.v (.int .i64 x0)), (122, AV.row 18 0 n2 n2 false), (121, AV.v (.int .i64 x0)), (120, AV.row 35 0 n3 n3 false), (6, AV.v (.int .i64 ((32 : Int) - (↑(bl (b.getD ((↑b.length : Int) - (1 : Int)).toNat (0 : Int)).toNat) : Int)))), (7, AV.sl 1 (.ints .u32 (dig (nat b * 2 ^ ((32 : Int) - (↑(bl (b.getD ((↑b.length : Int) - (1 : Int)).toNat (0 : Int)).toNat) : Int)).toNat))) true), (8, AV.row 18 0 n2 n2 false), (9, AV.v (.int .i64 (↑(dig (nat b * 2 ^ ((32 : Int) - (↑(bl (b.getD ((↑b.length : Int) - (1 : Int)).toNat (0 : Int)).toNat) : Int)).toNat)).length : Int))), (11, AV.row 35 0 n3 n3 false), (12, AV.v (.int .i64 x0)), (14, AV.v (.int .u64 x3))]) (some (Operand.tmp 123))) 0 x0.toNat) l1 ++ wds (rowLen (Option.map (evalA [(127, AV.v (.int .i64 (x0 + (↑(dig (nat b * 2 ^ ((32 : Int) - (↑(bl (b.getD ((↑b.length : Int) - (1 : Int)).toNat (0 : Int)).toNat) : Int)).toNat)).length : Int) + (1 : Int)))), (126, AV.v (.int .i64 (x0 + (↑(dig (nat b * 2 ^ ((32 : Int) - (↑(bl (b.getD ((↑b.length : Int) - (1 : Int)).toNat (0 : Int)).toNat) : Int)).toNat)).length : Int)))), (125, AV.v (.int .i64 (↑(dig (nat b * 2 ^ ((32 : Int) - (↑(bl (b.getD ((↑b.length : Int) - (1 : Int)).toNat (0 : Int)).toNat) : Int)).toNat)).length : Int))), (124, AV.v (.int .i64 x0)), (123, AV.v (.int .i64 x0)), (122, AV.row 18 0 n2 n2 false), (121, AV.v (.int .i64 x0)), (120, AV.row 35 0 n3 n3 false), (6, AV.v (.int .i64 ((32 : Int) - (↑(bl (b.getD ((↑b.length : Int) - (1 : Int)).toNat (0 : Int)).toNat) : Int)))), (7, AV.sl 1 (.ints .u32 (dig (nat b * 2 ^ ((32 : Int) - (↑(bl (b.getD ((↑b.length : Int) - (1 : Int)).toNat (0 : Int)).toNat) : Int)).toNat))) true), (8, AV.row 18 0 n2 n2 false), (9, AV.v (.int .i64 (↑(dig (nat b * 2 ^ ((32 : Int) - (↑(bl (b.getD ((↑b.length : Int) - (1 : Int)).toNat (0 : Int)).toNat) : Int)).toNat)).length : Int))), (11, AV.row 35 0 n3 n3 false), (12, AV.v (.int .i64 x0)), (14, AV.v (.int .u64 x3))]) (some (Operand.tmp 123))) x0.toNat (x0 + (↑(dig (nat b * 2 ^ ((32 : Int) - (↑(bl (b.getD ((↑b.length : Int) - (1 : Int)).toNat (0 : Int)).toNat) : Int)).toNat)).length : Int) + (1 : Int)).toNat) (nat (win l1 (rowOff (Option.map (evalA [(127, AV.v (.int .i64 (x0 + (↑(dig (nat b * 2 ^ ((32 : Int) - (↑(bl (b.getD ((↑b.length : Int) - (1 : Int)).toNat (0 : Int)).toNat) : Int)).toNat)).length : Int) + (1 : Int)))), (126, AV.v (.int .i64 (x0 + (↑(dig (nat b * 2 ^ ((32 : Int) - (↑(bl (b.getD ((↑b.length : Int) - (1 : Int)).toNat (0 : Int)).toNat) : Int)).toNat)).length : Int)))), (125, AV.v (.int .i64 (↑(dig (nat b * 2 ^ ((32 : Int) - (↑(bl (b.getD ((↑b.length : Int) - (1 : Int)).toNat (0 : Int)).toNat) : Int)).toNat)).length : Int))), (124, AV.v (.int .i64 x0)), (123, AV.v (.int .i64 x0)), (122, AV.row 18 0 n2 n2 false), (121, AV.v (.int .i64 x0)), (120, AV.row 35 0 n3 n3 false), (6, AV.v (.int .i64 ((32 : Int) - (↑(bl (b.getD ((↑b.length : Int) - (1 : Int)).toNat (0 : Int)).toNat) : Int)))), (7, AV.sl 1 (.ints .u32 (dig (nat b * 2 ^ ((32 : Int) - (↑(bl (b.getD ((↑b.length : Int) - (1 : Int)).toNat (0 : Int)).toNat) : Int)).toNat))) true), (8, AV.row 18 0 n2 n2 false), (9, AV.v (.int .i64 (↑(dig (nat b * 2 ^ ((32 : Int) - (↑(bl (b.getD ((↑b.length : Int) - (1 : Int)).toNat (0 : Int)).toNat) : Int)).toNat)).length : Int))), (11, AV.row 35 0 n3 n3 false), (12, AV.v (.int .i64 x0)), (14, AV.v (.int .u64 x3))]) (some (Operand.tmp 123))) 0 x0.toNat) (rowLen (Option.map (evalA [(127, AV.v (.int .i64 (x0 + (↑(dig (nat b * 2 ^ ((32 : Int) - (↑(bl (b.getD ((↑b.length : Int) - (1 : Int)).toNat (0 : Int)).toNat) : Int)).toNat)).length : Int) + (1 : Int)))), (126, AV.v (.int .i64 (x0 + (↑(dig (nat b * 2 ^ ((32 : Int) - (↑(bl (b.getD ((↑b.length : Int) - (1 : Int)).toNat (0 : Int)).toNat) : Int)).toNat)).length : Int)))), (125, AV.v (.int .i64 (↑(dig (nat b * 2 ^ ((32 : Int) - (↑(bl (b.getD ((↑b.length : Int) - (1 : Int)).toNat (0 : Int)).toNat) : Int)).toNat)).length : Int))), (124, AV.v (.int .i64 x0)), (123, AV.v (.int .i64 x0)), (122, AV.row 18 0 n2 n2 false), (121, AV.v (.int .i64 x0)), (120, AV.row 35 0 n3 n3 false), (6, AV.v (.int .i64 ((32 : Int) - (↑(bl (b.getD ((↑b.length : Int) - (1 : Int)).toNat (0 : Int)).toNat) : Int)))), (7, AV.sl 1 (.ints .u32 (dig (nat b * 2 ^ ((32 : Int) - (↑(bl (b.getD ((↑b.length : Int) - (1 : Int)).toNat (0 : Int)).toNat) : Int)).toNat))) true), (8, AV.row 18 0 n2 n2 false), (9, AV.v (.int .i64 (↑(dig (nat b * 2 ^ ((32 : Int) - (↑(bl (b.getD ((↑b.length : Int) - (1 : Int)).toNat (0 : Int)).toNat) : Int)).toNat)).length : Int))), (11, AV.row 35 0 n3 n3 false), (12, AV.v (.int .i64 x0)), (14, AV.v (.int .u64 x3))]) (some (Operand.tmp 123))) x0.toNat (x0 + (↑(dig (nat b * 2 ^ ((32 : Int) - (↑(bl (b.getD ((↑b.length : Int) - (1 : Int)).toNat (0 : Int)).toNat) : Int)).toNat)).length : Int) + (1 : Int)).toNat)) - stepQ (nat (win l1 (rowOff (Option.map (evalA [(127, AV.v (.int .i64 (x0 + (↑(dig (nat b * 2 ^ ((32 : Int) - (↑(bl (b.getD ((↑b.length : Int) - (1 : Int)).toNat (0 : Int)).toNat) : Int)).toNat)).length : Int) + (1 : Int)))), (126, AV.v (.int .i64 (x0 + (↑(dig (nat b * 2 ^ ((32 : Int) - (↑(bl (b.getD ((↑b.length : Int) - (1 : Int)).toNat (0 : Int)).toNat) : Int)).toNat)).length : Int)))), (125, AV.v (.int .i64 (↑(dig (nat b * 2 ^ ((32 : Int) - (↑(bl (b.getD ((↑b.length : Int) - (1 : Int)).toNat (0 : Int)).toNat) : Int)).toNat)).length : Int))), (124, AV.v (.int .i64 x0)), (123, AV.v (.int .i64 x0)), (122, AV.row 18 0 n2 n2 false), (121, AV.v (.int .i64 x0)), (120, AV.row 35 0 n3 n3 false), (6, AV.v (.int .i64 ((32 : Int) - (↑(bl (b.getD ((↑b.length : Int) - (1 : Int)).toNat (0 : Int)).toNat) : Int)))), (7, AV.sl 1 (.ints .u32 (dig (nat b * 2 ^ ((32 : Int) - (↑(bl (b.getD ((↑b.length : Int) - (1 : Int)).toNat (0 : Int)).toNat) : Int)).toNat))) true), (8, AV.row 18 0 n2 n2 false), (9, AV.v (.int .i64 (↑(dig (nat b * 2 ^ ((32 : Int) - (↑(bl (b.getD ((↑b.length : Int) - (1 : Int)).toNat (0 : Int)).toNat) : Int)).toNat)).length : Int))), (11, AV.row 35 0 n3 n3 false), (12, AV.v (.int .i64 x0)), (14, AV.v (.int .u64 x3))]) (some (Operand.tmp 123))) 0 x0.toNat) (rowLen (Option.map (evalA [(127, AV.v (.int .i64 (x0 + (↑(dig (nat b * 2 ^ ((32 : Int) - (↑(bl (b.getD ((↑b.length : Int) - (1 : Int)).toNat (0 : Int)).toNat) : Int)).toNat)).length : Int) + (1 : Int)))), (126, AV.v (.int .i64 (x0 + (↑(dig (nat b * 2 ^ ((32 : Int) - (↑(bl (b.getD ((↑b.length : Int) - (1 : Int)).toNat (0 : Int)).toNat) : Int)).toNat)).length : Int)))), (125, AV.v (.int .i64 (↑(dig (nat b * 2 ^ ((32 : Int) - (↑(bl (b.getD ((↑b.length : Int) - (1 : Int)).toNat (0 : Int)).toNat) : Int)).toNat)).length : Int))), (124, AV.v (.int .i64 x0)), (123, AV.v (.int .i64 x0)), (122, AV.row 18 0 n2 n2 false), (121, AV.v (.int .i64 x0)), (120, AV.row 35 0 n3 n3 false), (6, AV.v (.int .i64 ((32 : Int) - (↑(bl (b.getD ((↑b.length : Int) - (1 : Int)).toNat (0 : Int)).toNat) : Int)))), (7, AV.sl 1 (.ints .u32 (dig (nat b * 2 ^ ((32 : Int) - (↑(bl (b.getD ((↑b.length : Int) - (1 : Int)).toNat (0 : Int)).toNat) : Int)).toNat))) true), (8, AV.row 18 0 n2 n2 false), (9, AV.v (.int .i64 (↑(dig (nat b * 2 ^ ((32 : Int) - (↑(bl (b.getD ((↑b.length : Int) - (1 : Int)).toNat (0 : Int)).toNat) : Int)).toNat)).length : Int))), (11, AV.row 35 0 n3 n3 false), (12, AV.v (.int .i64 x0)), (14, AV.v (.int .u64 x3))]) (some (Operand.tmp 123))) x0.toNat (x0 + (↑(dig (nat b * 2 ^ ((32 : Int) - (↑(bl (b.getD ((↑b.length : Int) - (1 : Int)).toNat (0 : Int)).toNat) : Int)).toNat)).length : Int) + (1 : Int)).toNat))) (nat (dig (nat b * 2 ^ ((32 : Int) - (↑(bl (b.getD ((↑b.length : Int) - (1 : Int)).toNat (0 : Int)).toNat) : Int)).toNat))) x3.toNat * nat (dig (nat b * 2 ^ ((32 : Int) - (↑(bl (b.getD ((↑b.length : Int) - (1 : Int)).toNat (0 : Int)).toNat) : Int)).toNat))) ++ List.drop (rowOff (Option.map (evalA [(127, AV.v (.int .i64 (x0 + (↑(dig (nat b * 2 ^ ((32 : Int) - (↑(bl (b.getD ((↑b.length : Int) - (1 : Int)).toNat (0 : Int)).toNat) : Int)).toNat)).length : Int) + (1 : Int)))), (126, AV.v (.int .i64 (x0 + (↑(dig (nat b * 2 ^ ((32 : Int) - (↑(bl (b.getD ((↑b.length : Int) - (1 : Int)).toNat (0 : Int)).toNat) : Int)).toNat)).length : Int)))), (125, AV.v (.int .i64 (↑(dig (nat b * 2 ^ ((32 : Int) - (↑(bl (b.getD ((↑b.length : Int) - (1 : Int)).toNat (0 : Int)).toNat) : Int)).toNat)).length : Int))), (124, AV.v (.int .i64 x0)), (123, AV.v (.int .i64 x0)), (122, AV.row 18 0 n2 n2 false), (121, AV.v (.int .i64 x0)), (120, AV.row 35 0 n3 n3 false), (6, AV.v (.int .i64 ((32 : Int) - (↑(bl (b.getD ((↑b.length : Int) - (1 : Int)).toNat (0 : Int)).toNat) : Int)))), (7, AV.sl 1 (.ints .u32 (dig (nat b * 2 ^ ((32 : Int) - (↑(bl (b.getD ((↑b.length : Int) - (1 : Int)).toNat (0 : Int)).toNat) : Int)).toNat))) true), (8, AV.row 18 0 n2 n2 false), (9, AV.v (.int .i64 (↑(dig (nat b * 2 ^ ((32 : Int) - (↑(bl (b.getD ((↑b.length : Int) - (1 : Int)).toNat (0 : Int)).toNat) : Int)).toNat)).length : Int))), (11, AV.row 35 0 n3 n3 false), (12, AV.v (.int .i64 x0)), (14, AV.v (.int .u64 x3))]) (some (Operand.tmp 123))) 0 x0.toNat + rowLen (Option.map (evalA [(127, AV.v (.int .i64 (x0 + (↑(dig (nat b * 2 ^ ((32 : Int) - (↑(bl (b.getD ((↑b.length : Int) - (1 : Int)).toNat (0 : Int)).toNat) : Int)).toNat)).length : Int) + (1 : Int)))), (126, AV.v (.int .i64 (x0 + (↑(dig (nat b * 2 ^ ((32 : Int) - (↑(bl (b.getD ((↑b.length : Int) - (1 : Int)).toNat (0 : Int)).toNat) : Int)).toNat)).length : Int)))), (125, AV.v (.int .i64 (↑(dig (nat b * 2 ^ ((32 : Int) - (↑(bl (b.getD ((↑b.length : Int) - (1 : Int)).toNat (0 : Int)).toNat) : Int)).toNat)).length : Int))), (124, AV.v (.int .i64 x0)), (123, AV.v (.int .i64 x0)), (122, AV.row 18 0 n2 n2 false), (121, AV.v (.int .i64 x0)), (120, AV.row 35 0 n3 n3 false), (6, AV.v (.int .i64 ((32 : Int) - (↑(bl (b.getD ((↑b.length : Int) - (1 : Int)).toNat (0 : Int)).toNat) : Int)))), (7, AV.sl 1 (.ints .u32 (dig (nat b * 2 ^ ((32 : Int) - (↑(bl (b.getD ((↑b.length : Int) - (1 : Int)).toNat (0 : Int)).toNat) : Int)).toNat))) true), (8, AV.row 18 0 n2 n2 false), (9, AV.v (.int .i64 (↑(dig (nat b * 2 ^ ((32 : Int) - (↑(bl (b.getD ((↑b.length : Int) - (1 : Int)).toNat (0 : Int)).toNat) : Int)).toNat)).length : Int))), (11, AV.row 35 0 n3 n3 false), (12, AV.v (.int .i64 x0)), (14, AV.v (.int .u64 x3))]) (some (Operand.tmp 123))) x0.toNat (x0 + (↑(dig (nat b * 2 ^ ((32 : Int) - (↑(bl (b.getD ((↑b.length : Int) - (1 : Int)).toNat (0 : Int)).toNat) : Int)).toNat)).length : Int) + (1 : Int)).toNat) l1)) (List.take (rowOff (Option.map (evalA [(127, AV.v (.int .i64 (x0 + (↑(dig (nat b * 2 ^ ((32 : Int) - (↑(bl (b.getD ((↑b.length : Int) - (1 : Int)).toNat (0 : Int)).toNat) : Int)).toNat)).length : Int) + (1 : Int)))), (126, AV.v (.int .i64 (x0 + (↑(dig (nat b * 2 ^ ((32 : Int) - (↑(bl (b.getD ((↑b.length : Int) - (1 : Int)).toNat (0 : Int)).toNat) : Int)).toNat)).length : Int)))), (125, AV.v (.int .i64 (↑(dig (nat b * 2 ^ ((32 : Int) - (↑(bl (b.getD ((↑b.length : Int) - (1 : Int)).toNat (0 : Int)).toNat) : Int)).toNat)).length : Int))), (124, AV.v (.int .i64 x0)), (123, AV.v (.int .i64 x0)), (122, AV.row 18 0 n2 n2 false), (121, AV.v (.int .i64 x0)), (120, AV.row 35 0 n3 n3 false), (6, AV.v (.int .i64 ((32 : Int) - (↑(bl (b.getD ((↑b.length : Int) - (1 : Int)).toNat (0 : Int)).toNat) : Int)))), (7, AV.sl 1 (.ints .u32 (dig (nat b * 2 ^ ((32 : Int) - (↑(bl (b.getD ((↑b.length : Int) - (1 : Int)).toNat (0 : Int)).toNat) : Int)).toNat))) true), (8, AV.row 18 0 n2 n2 false), (9, AV.v (.int .i64 (↑(dig (nat b * 2 ^ ((32 : Int) - (↑(bl (b.getD ((↑b.length : Int) - (1 : Int)).toNat (0 : Int)).toNat) : Int)).toNat)).length : Int))), (11, AV.row 35 0 n3 n3 false), (12, AV.v (.int .i64 x0)), (14, AV.v (.int .u64 x3))]) (some (Operand.tmp 123))) 0 x0.toNat) l1 ++ wds (rowLen (Option.map (evalA [(127, AV.v (.int .i64 (x0 + (↑(dig (nat b * 2 ^ ((32 : Int) - (↑(bl (b.getD ((↑b.length : Int) - (1 : Int)).toNat (0 : Int)).toNat) : Int)).toNat)).length : Int) + (1 : Int)))), (126, AV.v (.int .i64 (x0 + (↑(dig (nat b * 2 ^ ((32 : Int) - (↑(bl (b.getD ((↑b.length : Int) - (1 : Int)).toNat (0 : Int)).toNat) : Int)).toNat)).length : Int)))), (125, AV.v (.int .i64 (↑(dig (nat b * 2 ^ ((32 : Int) - (↑(bl (b.getD ((↑b.length : Int) - (1 : Int)).toNat (0 : Int)).toNat) : Int)).toNat)).length : Int))), (124, AV.v (.int .i64 x0)), (123, AV.v (.int .i64 x0)), (122, AV.row 18 0 n2 n2 false), (121, AV.v (.int .i64 x0)), (120, AV.row 35 0 n3 n3 false), (6, AV.v (.int .i64 ((32 : Int) - (↑(bl (b.getD ((↑b.length : Int) - (1 : Int)).toNat (0 : Int)).toNat) : Int)))), (7, AV.sl 1 (.ints .u32 (dig (nat b * 2 ^ ((32 : Int) - (↑(bl (b.getD ((↑b.length : Int) - (1 : Int)).toNat (0 : Int)).toNat) : Int)).toNat))) true), (8, AV.row 18 0 n2 n2 false), (9, AV.v (.int .i64 (↑(dig (nat b * 2 ^ ((32 : Int) - (↑(bl (b.getD ((↑b.length : Int) - (1 : Int)).toNat (0 : Int)).toNat) : Int)).toNat)).length : Int))), (11, AV.row 35 0 n3 n3 false), (12, AV.v (.int .i64 x0)), (14, AV.v (.int .u64 x3))]) (some (Operand.tmp 123))) x0.toNat (x0 + (↑(dig (nat b * 2 ^ ((32 : Int) - (↑(bl (b.getD ((↑b.length : Int) - (1 : Int)).toNat (0 : Int)).toNat) : Int)).toNat)).length : Int) + (1 : Int)).toNat) (nat (win l1 (rowOff (Option.map (evalA [(127, AV.v (.int .i64 (x0 + (↑(dig (nat b * 2 ^ ((32 : Int) - (↑(bl (b.getD ((↑b.length : Int) - (1 : Int)).toNat (0 : Int)).toNat) : Int)).toNat)).length : Int) + (1 : Int)))), (126, AV.v (.int .i64 (x0 + (↑(dig (nat b * 2 ^ ((32 : Int) - (↑(bl (b.getD ((↑b.length : Int) - (1 : Int)).toNat (0 : Int)).toNat) : Int)).toNat)).length : Int)))), (125, AV.v (.int .i64 (↑(dig (nat b * 2 ^ ((32 : Int) - (↑(bl (b.getD ((↑b.length : Int) - (1 : Int)).toNat (0 : Int)).toNat) : Int)).toNat)).length : Int))), (124, AV.v (.int .i64 x0)), (123, AV.v (.int .i64 x0)), (122, AV.row 18 0 n2 n2 false), (121, AV.v (.int .i64 x0)), (120, AV.row 35 0 n3 n3 false), (6, AV.v (.int .i64 ((32 : Int) - (↑(bl (b.getD ((↑b.length : Int) - (1 : Int)).toNat (0 : Int)).toNat) : Int)))), (7, AV.sl 1 (.ints .u32 (dig (nat b * 2 ^ ((32 : Int) - (↑(bl (b.getD ((↑b.length : Int) - (1 : Int)).toNat (0 : Int)).toNat) : Int)).toNat))) true), (8, AV.row 18 0 n2 n2 false), (9, AV.v (.int .i64 (↑(dig (nat b * 2 ^ ((32 : Int) - (↑(bl (b.getD ((↑b.length : Int) - (1 : Int)).toNat (0 : Int)).toNat) : Int)).toNat)).length : Int))), (11, AV.row 35 0 n3 n3 false), (12, AV.v (.int .i64 x0)), (14, AV.v (.int .u64 x3))]) (some (Operand.tmp 123))) 0 x0.toNat) (rowLen (Option.map (evalA [(127, AV.v (.int .i64 (x0 + (↑(dig (nat b * 2 ^ ((32 : Int) - (↑(bl (b.getD ((↑b.length : Int) - (1 : Int)).toNat (0 : Int)).toNat) : Int)).toNat)).length : Int) + (1 : Int)))), (126, AV.v (.int .i64 (x0 + (↑(dig (nat b * 2 ^ ((32 : Int) - (↑(bl (b.getD ((↑b.length : Int) - (1 : Int)).toNat (0 : Int)).toNat) : Int)).toNat)).length : Int)))), (125, AV.v (.int .i64 (↑(dig (nat b * 2 ^ ((32 : Int) - (↑(bl (b.getD ((↑b.length : Int) - (1 : Int)).toNat (0 : Int)).toNat) : Int)).toNat)).length : Int))), (124, AV.v (.int .i64 x0)), (123, AV.v (.int .i64 x0)), (122, AV.row 18 0 n2 n2 false), (121, AV.v (.int .i64 x0)), (120, AV.row 35 0 n3 n3 false), (6, AV.v (.int .i64 ((32 : Int) - (↑(bl (b.getD ((↑b.length : Int) - (1 : Int)).toNat (0 : Int)).toNat) : Int)))), (7, AV.sl 1 (.ints .u32 (dig (nat b * 2 ^ ((32 : Int) - (↑(bl (b.getD ((↑b.length : Int) - (1 : Int)).toNat (0 : Int)).toNat) : Int)).toNat))) true), (8, AV.row 18 0 n2 n2 false), (9, AV.v (.int .i64 (↑(dig (nat b * 2 ^ ((32 : Int) - (↑(bl (b.getD ((↑b.length : Int) - (1 : Int)).toNat (0 : Int)).toNat) : Int)).toNat)).length : Int))), (11, AV.row 35 0 n3 n3 false), (12, AV.v (.int .i64 x0)), (14, AV.v (.int .u64 x3))]) (some (Operand.tmp 123))) x0.toNat (x0 + (↑(dig (nat b * 2 ^ ((32 : Int) - (↑(bl (b.getD ((↑b.length : Int) - (1 : Int)).toNat (0 : Int)).toNat) : Int)).toNat)).length : Int) + (1 : Int)).toNat)) - stepQ (nat (win l1 (rowOff (Option.map (evalA [(127, AV.v (.int .i64 (x0 + (↑(dig (nat b * 2 ^ ((32 : Int) - (↑(bl (b.getD ((↑b.length : Int) - (1 : Int)).toNat (0 : Int)).toNat) : Int)).toNat)).length : Int) + (1 : Int)))), (126, AV.v (.int .i64 (x0 + (↑(dig (nat b * 2 ^ ((32 : Int) - (↑(bl (b.getD ((↑b.length : Int) - (1 : Int)).toNat (0 : Int)).toNat) : Int)).toNat)).length : Int)))), (125, AV.v (.int .i64 (↑(dig (nat b * 2 ^ ((32 : Int) - (↑(bl (b.getD ((↑b.length : Int) - (1 : Int)).toNat (0 : Int)).toNat) : Int)).toNat)).length : Int))), (124, AV.v (.int .i64 x0)), (123, AV.v (.int .i64 x0)), (122, AV.row 18 0 n2 n2 false), (121, AV.v (.int .i64 x0)), (120, AV.row 35 0 n3 n3 false), (6, AV.v (.int .i64 ((32 : Int) - (↑(bl (b.getD ((↑b.length : Int) - (1 : Int)).toNat (0 : Int)).toNat) : Int)))), (7, AV.sl 1 (.ints .u32 (dig (nat b * 2 ^ ((32 : Int) - (↑(bl (b.getD ((↑b.length : Int) - (1 : Int)).toNat (0 : Int)).toNat) : Int)).toNat))) true), (8, AV.row 18 0 n2 n2 false), (9, AV.v (.int .i64 (↑(dig (nat b * 2 ^ ((32 : Int) - (↑(bl (b.getD ((↑b.length : Int) - (1 : Int)).toNat (0 : Int)).toNat) : Int)).toNat)).length : Int))), (11, AV.row 35 0 n3 n3 false), (12, AV.v (.int .i64 x0)), (14, AV.v (.int .u64 x3))]) (some (Operand.tmp 123))) 0 x0.toNat) (rowLen (Option.map (evalA [(127, AV.v (.int .i64 (x0 + (↑(dig (nat b * 2 ^ ((32 : Int) - (↑(bl (b.getD ((↑b.length : Int) - (1 : Int)).toNat (0 : Int)).toNat) : Int)).toNat)).length : Int) + (1 : Int)))), (126, AV.v (.int .i64 (x0 + (↑(dig (nat b * 2 ^ ((32 : Int) - (↑(bl (b.getD ((↑b.length : Int) - (1 : Int)).toNat (0 : Int)).toNat) : Int)).toNat)).length : Int)))), (125, AV.v (.int .i64 (↑(dig (nat b * 2 ^ ((32 : Int) - (↑(bl (b.getD ((↑b.length : Int) - (1 : Int)).toNat (0 : Int)).toNat) : Int)).toNat)).length : Int))), (124, AV.v (.int .i64 x0)), (123, AV.v (.int .i64 x0)), (122, AV.row 18 0 n2 n2 false), (121, AV.v (.int .i64 x0)), (120, AV.row 35 0 n3 n3 false), (6, AV.v (.int .i64 ((32 : Int) - (↑(bl (b.getD ((↑b.length : Int) - (1 : Int)).toNat (0 : Int)).toNat) : Int)))), (7, AV.sl 1 (.ints .u32 (dig (nat b * 2 ^ ((32 : Int) - (↑(bl (b.getD ((↑b.length : Int) - (1 : Int)).toNat (0 : Int)).toNat) : Int)).toNat))) true), (8, AV.row 18 0 n2 n2 false), (9, AV.v (.int .i64 (↑(dig (nat b * 2 ^ ((32 : Int) - (↑(bl (b.getD ((↑b.length : Int) - (1 : Int)).toNat (0 : Int)).toNat) : Int)).toNat)).length : Int))), (11, AV.row 35 0 n3 n3 false), (12, AV.v (.int .i64 x0)), (14, AV.v (.int .u64 x3))]) (some (Operand.tmp 123))) x0.toNat (x0 + (↑(dig (nat b * 2 ^ ((32 : Int) - (↑(bl (b.getD ((↑b.length : Int) - (1 : Int)).toNat (0 : Int)).toNat) : Int)).toNat)).length : Int) + (1 : Int)).toNat))) (nat (dig (nat b * 2 ^ ((32 : Int) - (↑(bl (b.getD ((↑b.length : Int) - (1 : Int)).toNat (0 : Int)).toNat) : Int)).toNat))) x3.toNat * nat (dig (nat b * 2 ^ ((32 : Int) - (↑(bl (b.getD ((↑b.length : Int) - (1 : Int)).toNat (0 : Int)).toNat) : Int)).toNat))) ++ List.drop (rowOff (Option.map (evalA [(127, AV.v (.int .i64 (x0 + (↑(dig (nat b * 2 ^ ((32 : Int) - (↑(bl (b.getD ((↑b.length : Int) - (1 : Int)).toNat (0 : Int)).toNat) : Int)).toNat)).length : Int) + (1 : Int)))), (126, AV.v (.int .i64 (x0 + (↑(dig (nat b * 2 ^ ((32 : Int) - (↑(bl (b.getD ((↑b.length : Int) - (1 : Int)).toNat (0 : Int)).toNat) : Int)).toNat)).length : Int)))), (125, AV.v (.int .i64 (↑(dig (nat b * 2 ^ ((32 : Int) - (↑(bl (b.getD ((↑b.length : Int) - (1 : Int)).toNat (0 : Int)).toNat) : Int)).toNat)).length : Int))), (124, AV.v (.int .i64 x0)), (123, AV.v (.int .i64 x0)), (122, AV.row 18 0 n2 n2 false), (121, AV.v (.int .i64 x0)), (120, AV.row 35 0 n3 n3 false), (6, AV.v (.int .i64 ((32 : Int) - (↑(bl (b.getD ((↑b.length : Int) - (1 : Int)).toNat (0 : Int)).toNat) : Int)))), (7, AV.sl 1 (.ints .u32 (dig (nat b * 2 ^ ((32 : Int) - (↑(bl (b.getD ((↑b.length : Int) - (1 : Int)).toNat (0 : Int)).toNat) : Int)).toNat))) true), (8, AV.row 18 0 n2 n2 false), (9, AV.v (.int .i64 (↑(dig (nat b * 2 ^ ((32 : Int) - (↑(bl (b.getD ((↑b.length : Int) - (1 : Int)).toNat (0 : Int)).toNat) : Int)).toNat)).length : Int))), (11, AV.row 35 0 n3 n3 false), (12, AV.v (.int .i64 x0)), (14, AV.v (.int .u64 x3))]) (some (Operand.tmp 123))) 0 x0.toNat + rowLen (Option.map (evalA [(127, AV.v (.int .i64 (x0 + (↑(dig (nat b * 2 ^ ((32 : Int) - (↑(bl (b.getD ((↑b.length : Int) - (1 : Int)).toNat (0 : Int)).toNat) : Int)).toNat)).length : Int) + (1 : Int)))), (126, AV.v (.int .i64 (x0 + (↑(dig (nat b * 2 ^ ((32 : Int) - (↑(bl (b.getD ((↑b.length : Int) - (1 : Int)).toNat (0 : Int)).toNat) : Int)).toNat)).length : Int)))), (125, AV.v (.int .i64 (↑(dig (nat b * 2 ^ ((32 : Int) - (↑(bl (b.getD ((↑b.length : Int) - (1 : Int)).toNat (0 : Int)).toNat) : Int)).toNat)).length : Int))), (124, AV.v (.int .i64 x0)), (123, AV.v (.int .i64 x0)), (122, AV.row 18 0 n2 n2 false), (121, AV.v (.int .i64 x0)), (120, AV.row 35 0 n3 n3 false), (6, AV.v (.int .i64 ((32 : Int) - (↑(bl (b.getD ((↑b.length : Int) - (1 : Int)).toNat (0 : Int)).toNat) : Int)))), (7, AV.sl 1 (.ints .u32 (dig (nat b * 2 ^ ((32 : Int) - (↑(bl (b.getD ((↑b.length : Int) - (1 : Int)).toNat (0 : Int)).toNat) : Int)).toNat))) true), (8, AV.row 18 0 n2 n2 false), (9, AV.v (.int .i64 (↑(dig (nat b * 2 ^ ((32 : Int) - (↑(bl (b.getD ((↑b.length : Int) - (1 : Int)).toNat (0 : Int)).toNat) : Int)).toNat)).length : Int))), (11, AV.row 35 0 n3 n3 false), (12, AV.v (.int .i64 x0)), (14, AV.v (.int .u64 x3))]) (some (Operand.tmp 123))) x0.toNat (x0 + (↑(dig (nat b * 2 ^ ((32 : Int) - (↑(bl (b.getD ((↑b.length : Int) - (1 : Int)).toNat (0 : Int)).toNat) : Int)).toNat)).length : Int) + (1 : Int)).toNat) l1).length)], nx := 36 } :=
  evW_to hm sok19 (hs := [CHint.ops 10 [(1, Hint.b true)], CHint.loop [6, 7, 8, 9, 11, 12, 14, 15] [35, 18] 36 (Exit.exit 2) { n := 143, fr := [(6, AV.v (.int .i64 ((32 : Int) - (↑(bl (b.getD ((↑b.length : Int) - (1 : Int)).toNat (0 : Int)).toNat) : Int)))), (7, AV.sl 1 (.ints .u32 (dig (nat b * 2 ^ ((32 : Int) - (↑(bl (b.getD ((↑b.length : Int) - (1 : Int)).toNat (0 : Int)).toNat) : Int)).toNat))) true), (8, AV.row 18 0 n2 n2 false), (9, AV.v (.int .i64 (↑(dig (nat b * 2 ^ ((32 : Int) - (↑(bl (b.getD ((↑b.length : Int) - (1 : Int)).toNat (0 : Int)).toNat) : Int)).toNat)).length : Int))), (11, AV.row 35 0 n3 n3 false), (12, AV.v (.int .i64 x0)), (14, AV.v (.int .u64 x3))], hp := [(35, AObj.row (22 : TypeId) 1 (.ints .u32 l0) n0), (18, AObj.row (22 : TypeId) 1 (.ints .u32 l1) n1)], nx := 36 }]) (slots := [6, 7, 8, 9, 11, 12]) (keys := [35, 18]) (nx := 36) (c := _) (by kernel_rfl) h
theorem divideL0_2 (a b : List Int) (ta tb : Bool) (x0 : Int) (x3 : Int) (l0 : List Int) (l1 : List Int) (n0 : Nat) (n1 : Nat) (n2 : Nat) (n3 : Nat) (h : AllP [decide (x0 ≥ (0 : Int)) = false]) : To Try.prog (loopAt Try.f62 0) ({ n := 143, fr := [(6, AV.v (.int .i64 ((32 : Int) - (↑(bl (b.getD ((↑b.length : Int) - (1 : Int)).toNat (0 : Int)).toNat) : Int)))), (7, AV.sl 1 (.ints .u32 (dig (nat b * 2 ^ ((32 : Int) - (↑(bl (b.getD ((↑b.length : Int) - (1 : Int)).toNat (0 : Int)).toNat) : Int)).toNat))) true), (8, AV.row 18 0 n2 n2 false), (9, AV.v (.int .i64 (↑(dig (nat b * 2 ^ ((32 : Int) - (↑(bl (b.getD ((↑b.length : Int) - (1 : Int)).toNat (0 : Int)).toNat) : Int)).toNat)).length : Int))), (11, AV.row 35 0 n3 n3 false), (12, AV.v (.int .i64 x0))], hp := [(35, AObj.row 22 1 (.ints .u32 l0) n0), (18, AObj.row 22 1 (.ints .u32 l1) n1)], nx := 36 }) (Exit.exit 0) { n := 143, fr := [(6, AV.v (.int .i64 ((32 : Int) - (↑(bl (b.getD ((↑b.length : Int) - (1 : Int)).toNat (0 : Int)).toNat) : Int)))), (8, AV.row 18 0 n2 n2 false), (11, AV.row 35 0 n3 n3 false)], hp := [(35, AObj.row 22 1 (.ints .u32 l0) n0), (18, AObj.row 22 1 (.ints .u32 l1) n1)], nx := 36 } :=
  evW_to hm sok19 (hs := [CHint.ops 10 [(1, Hint.b false)]]) (slots := [6, 8, 11]) (keys := [35, 18]) (nx := 36) (c := _) (by kernel_rfl) h
-- 5 paths
theorem divideL1_1 (a b : List Int) (ta tb : Bool) (x0 : Int) (x1 : Int) (x2 : Int) (l0 : List Int) (l1 : List Int) (n0 : Nat) (n1 : Nat) (n2 : Nat) (n3 : Nat) (h : AllP [decide (x1 ≥ (4294967296 : Int)) = true, inR IntKind.i64 ((↑(dig (nat b * 2 ^ ((32 : Int) - (↑(bl (b.getD ((↑b.length : Int) - (1 : Int)).toNat (0 : Int)).toNat) : Int)).toNat)).length : Int) - (1 : Int)), (0 : Int) ≤ (↑(dig (nat b * 2 ^ ((32 : Int) - (↑(bl (b.getD ((↑b.length : Int) - (1 : Int)).toNat (0 : Int)).toNat) : Int)).toNat)).length : Int) - (1 : Int) ∧ (↑(dig (nat b * 2 ^ ((32 : Int) - (↑(bl (b.getD ((↑b.length : Int) - (1 : Int)).toNat (0 : Int)).toNat) : Int)).toNat)).length : Int) - (1 : Int) < (↑(dig (nat b * 2 ^ ((32 : Int) - (↑(bl (b.getD ((↑b.length : Int) - (1 : Int)).toNat (0 : Int)).toNat) : Int)).toNat)).length : Int), inR IntKind.u64 ((dig (nat b * 2 ^ ((32 : Int) - (↑(bl (b.getD ((↑b.length : Int) - (1 : Int)).toNat (0 : Int)).toNat) : Int)).toNat)).getD ((↑(dig (nat b * 2 ^ ((32 : Int) - (↑(bl (b.getD ((↑b.length : Int) - (1 : Int)).toNat (0 : Int)).toNat) : Int)).toNat)).length : Int) - (1 : Int)).toNat (0 : Int)), inR IntKind.u64 (x2 + (dig (nat b * 2 ^ ((32 : Int) - (↑(bl (b.getD ((↑b.length : Int) - (1 : Int)).toNat (0 : Int)).toNat) : Int)).toNat)).getD ((↑(dig (nat b * 2 ^ ((32 : Int) - (↑(bl (b.getD ((↑b.length : Int) - (1 : Int)).toNat (0 : Int)).toNat) : Int)).toNat)).length : Int) - (1 : Int)).toNat (0 : Int)), decide (x2 + (dig (nat b * 2 ^ ((32 : Int) - (↑(bl (b.getD ((↑b.length : Int) - (1 : Int)).toNat (0 : Int)).toNat) : Int)).toNat)).getD ((↑(dig (nat b * 2 ^ ((32 : Int) - (↑(bl (b.getD ((↑b.length : Int) - (1 : Int)).toNat (0 : Int)).toNat) : Int)).toNat)).length : Int) - (1 : Int)).toNat (0 : Int) ≥ (4294967296 : Int)) = true]) : To Try.prog (loopAt Try.f62 1) ({ n := 143, fr := [(6, AV.v (.int .i64 ((32 : Int) - (↑(bl (b.getD ((↑b.length : Int) - (1 : Int)).toNat (0 : Int)).toNat) : Int)))), (7, AV.sl 1 (.ints .u32 (dig (nat b * 2 ^ ((32 : Int) - (↑(bl (b.getD ((↑b.length : Int) - (1 : Int)).toNat (0 : Int)).toNat) : Int)).toNat))) true), (8, AV.row 18 0 n2 n2 false), (9, AV.v (.int .i64 (↑(dig (nat b * 2 ^ ((32 : Int) - (↑(bl (b.getD ((↑b.length : Int) - (1 : Int)).toNat (0 : Int)).toNat) : Int)).toNat)).length : Int))), (11, AV.row 35 0 n3 n3 false), (12, AV.v (.int .i64 x0)), (14, AV.v (.int .u64 x1)), (15, AV.v (.int .u64 x2))], hp := [(35, AObj.row 22 1 (.ints .u32 l0) n0), (18, AObj.row 22 1 (.ints .u32 l1) n1)], nx := 36 }) (Exit.exit 2) { n := 143, fr := [(6, AV.v (.int .i64 ((32 : Int) - (↑(bl (b.getD ((↑b.length : Int) - (1 : Int)).toNat (0 : Int)).toNat) : Int)))), (7, AV.sl 1 (.ints .u32 (dig (nat b * 2 ^ ((32 : Int) - (↑(bl (b.getD ((↑b.length : Int) - (1 : Int)).toNat (0 : Int)).toNat) : Int)).toNat))) true), (8, AV.row 18 0 n2 n2 false), (9, AV.v (.int .i64 (↑(dig (nat b * 2 ^ ((32 : Int) - (↑(bl (b.getD ((↑b.length : Int) - (1 : Int)).toNat (0 : Int)).toNat) : Int)).toNat)).length : Int))), (11, AV.row 35 0 n3 n3 false), (12, AV.v (.int .i64 x0)), (14, AV.v (.int .u64 ((x1 - (1 : Int)) % (18446744073709551616 : Int))))], hp := [(35, AObj.row 22 1 (.ints .u32 l0) n0), (18, AObj.row 22 1 (.ints .u32 l1) n1)], nx := 36 } :=
  evW_to hm sok19 (hs := [CHint.ops 14 [(1, Hint.b true)], CHint.ops 15 [(1, Hint.wrap)], CHint.ops 17 [(1, Hint.b true)]]) (slots := [6, 7, 8, 9, 11, 12, 14]) (keys := [35, 18]) (nx := 36) (c := _) (by kernel_rfl) h
theorem divideL1_2 (a b : List Int) (ta tb : Bool) (x0 : Int) (x1 : Int) (x2 : Int) (l0 : List Int) (l1 : List Int) (n0 : Nat) (n1 : Nat) (n2 : Nat) (n3 : Nat) (h : AllP [decide (x1 ≥ (4294967296 : Int)) = true, inR IntKind.i64 ((↑(dig (nat b * 2 ^ ((32 : Int) - (↑(bl (b.getD ((↑b.length : Int) - (1 : Int)).toNat (0 : Int)).toNat) : Int)).toNat)).length : Int) - (1 : Int)), (0 : Int) ≤ (↑(dig (nat b * 2 ^ ((32 : Int) - (↑(bl (b.getD ((↑b.length : Int) - (1 : Int)).toNat (0 : Int)).toNat) : Int)).toNat)).length : Int) - (1 : Int) ∧ (↑(dig (nat b * 2 ^ ((32 : Int) - (↑(bl (b.getD ((↑b.length : Int) - (1 : Int)).toNat (0 : Int)).toNat) : Int)).toNat)).length : Int) - (1 : Int) < (↑(dig (nat b * 2 ^ ((32 : Int) - (↑(bl (b.getD ((↑b.length : Int) - (1 : Int)).toNat (0 : Int)).toNat) : Int)).toNat)).length : Int), inR IntKind.u64 ((dig (nat b * 2 ^ ((32 : Int) - (↑(bl (b.getD ((↑b.length : Int) - (1 : Int)).toNat (0 : Int)).toNat) : Int)).toNat)).getD ((↑(dig (nat b * 2 ^ ((32 : Int) - (↑(bl (b.getD ((↑b.length : Int) - (1 : Int)).toNat (0 : Int)).toNat) : Int)).toNat)).length : Int) - (1 : Int)).toNat (0 : Int)), inR IntKind.u64 (x2 + (dig (nat b * 2 ^ ((32 : Int) - (↑(bl (b.getD ((↑b.length : Int) - (1 : Int)).toNat (0 : Int)).toNat) : Int)).toNat)).getD ((↑(dig (nat b * 2 ^ ((32 : Int) - (↑(bl (b.getD ((↑b.length : Int) - (1 : Int)).toNat (0 : Int)).toNat) : Int)).toNat)).length : Int) - (1 : Int)).toNat (0 : Int)), decide (x2 + (dig (nat b * 2 ^ ((32 : Int) - (↑(bl (b.getD ((↑b.length : Int) - (1 : Int)).toNat (0 : Int)).toNat) : Int)).toNat)).getD ((↑(dig (nat b * 2 ^ ((32 : Int) - (↑(bl (b.getD ((↑b.length : Int) - (1 : Int)).toNat (0 : Int)).toNat) : Int)).toNat)).length : Int) - (1 : Int)).toNat (0 : Int) ≥ (4294967296 : Int)) = false]) : To Try.prog (loopAt Try.f62 1) ({ n := 143, fr := [(6, AV.v (.int .i64 ((32 : Int) - (↑(bl (b.getD ((↑b.length : Int) - (1 : Int)).toNat (0 : Int)).toNat) : Int)))), (7, AV.sl 1 (.ints .u32 (dig (nat b * 2 ^ ((32 : Int) - (↑(bl (b.getD ((↑b.length : Int) - (1 : Int)).toNat (0 : Int)).toNat) : Int)).toNat))) true), (8, AV.row 18 0 n2 n2 false), (9, AV.v (.int .i64 (↑(dig (nat b * 2 ^ ((32 : Int) - (↑(bl (b.getD ((↑b.length : Int) - (1 : Int)).toNat (0 : Int)).toNat) : Int)).toNat)).length : Int))), (11, AV.row 35 0 n3 n3 false), (12, AV.v (.int .i64 x0)), (14, AV.v (.int .u64 x1)), (15, AV.v (.int .u64 x2))], hp := [(35, AObj.row 22 1 (.ints .u32 l0) n0), (18, AObj.row 22 1 (.ints .u32 l1) n1)], nx := 36 }) (.normal) { n := 143, fr := [(6, AV.v (.int .i64 ((32 : Int) - (↑(bl (b.getD ((↑b.length : Int) - (1 : Int)).toNat (0 : Int)).toNat) : Int)))), (7, AV.sl 1 (.ints .u32 (dig (nat b * 2 ^ ((32 : Int) - (↑(bl (b.getD ((↑b.length : Int) - (1 : Int)).toNat (0 : Int)).toNat) : Int)).toNat))) true), (8, AV.row 18 0 n2 n2 false), (9, AV.v (.int .i64 (↑(dig (nat b * 2 ^ ((32 : Int) - (↑(bl (b.getD ((↑b.length : Int) - (1 : Int)).toNat (0 : Int)).toNat) : Int)).toNat)).length : Int))), (11, AV.row 35 0 n3 n3 false), (12, AV.v (.int .i64 x0)), (14, AV.v (.int .u64 ((x1 - (1 : Int)) % (18446744073709551616 : Int)))), (15, AV.v (.int .u64 (x2 + (dig (nat b * 2 ^ ((32 : Int) - (↑(bl (b.getD ((↑b.length : Int) - (1 : Int)).toNat (0 : Int)).toNat) : Int)).toNat)).getD ((↑(dig (nat b * 2 ^ ((32 : Int) - (↑(bl (b.getD ((↑b.length : Int) - (1 : Int)).toNat (0 : Int)).toNat) : Int)).toNat)).length : Int) - (1 : Int)).toNat (0 : Int))))], hp := [(35, AObj.row 22 1 (.ints .u32 l0) n0), (18, AObj.row 22 1 (.ints .u32 l1) n1)], nx := 36 } :=
  evW_to hm sok19 (hs := [CHint.ops 14 [(1, Hint.b true)], CHint.ops 15 [(1, Hint.wrap)], CHint.ops 17 [(1, Hint.b false)]]) (slots := [6, 7, 8, 9, 11, 12, 14, 15]) (keys := [35, 18]) (nx := 36) (c := _) (by kernel_rfl) h
theorem divideL1_3 (a b : List Int) (ta tb : Bool) (x0 : Int) (x1 : Int) (x2 : Int) (l0 : List Int) (l1 : List Int) (n0 : Nat) (n1 : Nat) (n2 : Nat) (n3 : Nat) (h : AllP [decide (x1 ≥ (4294967296 : Int)) = false, inR IntKind.i64 ((↑(dig (nat b * 2 ^ ((32 : Int) - (↑(bl (b.getD ((↑b.length : Int) - (1 : Int)).toNat (0 : Int)).toNat) : Int)).toNat)).length : Int) - (2 : Int)), (0 : Int) ≤ (↑(dig (nat b * 2 ^ ((32 : Int) - (↑(bl (b.getD ((↑b.length : Int) - (1 : Int)).toNat (0 : Int)).toNat) : Int)).toNat)).length : Int) - (2 : Int) ∧ (↑(dig (nat b * 2 ^ ((32 : Int) - (↑(bl (b.getD ((↑b.length : Int) - (1 : Int)).toNat (0 : Int)).toNat) : Int)).toNat)).length : Int) - (2 : Int) < (↑(dig (nat b * 2 ^ ((32 : Int) - (↑(bl (b.getD ((↑b.length : Int) - (1 : Int)).toNat (0 : Int)).toNat) : Int)).toNat)).length : Int), inR IntKind.u64 ((dig (nat b * 2 ^ ((32 : Int) - (↑(bl (b.getD ((↑b.length : Int) - (1 : Int)).toNat (0 : Int)).toNat) : Int)).toNat)).getD ((↑(dig (nat b * 2 ^ ((32 : Int) - (↑(bl (b.getD ((↑b.length : Int) - (1 : Int)).toNat (0 : Int)).toNat) : Int)).toNat)).length : Int) - (2 : Int)).toNat (0 : Int)), inR IntKind.u64 (x1 * (dig (nat b * 2 ^ ((32 : Int) - (↑(bl (b.getD ((↑b.length : Int) - (1 : Int)).toNat (0 : Int)).toNat) : Int)).toNat)).getD ((↑(dig (nat b * 2 ^ ((32 : Int) - (↑(bl (b.getD ((↑b.length : Int) - (1 : Int)).toNat (0 : Int)).toNat) : Int)).toNat)).length : Int) - (2 : Int)).toNat (0 : Int)), (0 : Int) ≤ (32 : Int), inR IntKind.u64 (x2 * (4294967296 : Int)), inR IntKind.i64 (x0 + (↑(dig (nat b * 2 ^ ((32 : Int) - (↑(bl (b.getD ((↑b.length : Int) - (1 : Int)).toNat (0 : Int)).toNat) : Int)).toNat)).length : Int)), inR IntKind.i64 (x0 + (↑(dig (nat b * 2 ^ ((32 : Int) - (↑(bl (b.getD ((↑b.length : Int) - (1 : Int)).toNat (0 : Int)).toNat) : Int)).toNat)).length : Int) - (2 : Int)), (0 : Int) ≤ x0 + (↑(dig (nat b * 2 ^ ((32 : Int) - (↑(bl (b.getD ((↑b.length : Int) - (1 : Int)).toNat (0 : Int)).toNat) : Int)).toNat)).length : Int) - (2 : Int) ∧ x0 + (↑(dig (nat b * 2 ^ ((32 : Int) - (↑(bl (b.getD ((↑b.length : Int) - (1 : Int)).toNat (0 : Int)).toNat) : Int)).toNat)).length : Int) - (2 : Int) < (↑n2 : Int), n1 ≤ n2, inR IntKind.u64 (l1.getD (ixPlus 0 (x0 + (↑(dig (nat b * 2 ^ ((32 : Int) - (↑(bl (b.getD ((↑b.length : Int) - (1 : Int)).toNat (0 : Int)).toNat) : Int)).toNat)).length : Int) - (2 : Int)).toNat) (0 : Int)), decide (x1 * (dig (nat b * 2 ^ ((32 : Int) - (↑(bl (b.getD ((↑b.length : Int) - (1 : Int)).toNat (0 : Int)).toNat) : Int)).toNat)).getD ((↑(dig (nat b * 2 ^ ((32 : Int) - (↑(bl (b.getD ((↑b.length : Int) - (1 : Int)).toNat (0 : Int)).toNat) : Int)).toNat)).length : Int) - (2 : Int)).toNat (0 : Int) > bitsOf BinOp.or IntKind.u64 (x2 * (4294967296 : Int)) (l1.getD (ixPlus 0 (x0 + (↑(dig (nat b * 2 ^ ((32 : Int) - (↑(bl (b.getD ((↑b.length : Int) - (1 : Int)).toNat (0 : Int)).toNat) : Int)).toNat)).length : Int) - (2 : Int)).toNat) (0 : Int))) = true, inR IntKind.i64 ((↑(dig (nat b * 2 ^ ((32 : Int) - (↑(bl (b.getD ((↑b.length : Int) - (1 : Int)).toNat (0 : Int)).toNat) : Int)).toNat)).length : Int) - (1 : Int)), (0 : Int) ≤ (↑(dig (nat b * 2 ^ ((32 : Int) - (↑(bl (b.getD ((↑b.length : Int) - (1 : Int)).toNat (0 : Int)).toNat) : Int)).toNat)).length : Int) - (1 : Int) ∧ (↑(dig (nat b * 2 ^ ((32 : Int) - (↑(bl (b.getD ((↑b.length : Int) - (1 : Int)).toNat (0 : Int)).toNat) : Int)).toNat)).length : Int) - (1 : Int) < (↑(dig (nat b * 2 ^ ((32 : Int) - (↑(bl (b.getD ((↑b.length : Int) - (1 : Int)).toNat (0 : Int)).toNat) : Int)).toNat)).length : Int), inR IntKind.u64 ((dig (nat b * 2 ^ ((32 : Int) - (↑(bl (b.getD ((↑b.length : Int) - (1 : Int)).toNat (0 : Int)).toNat) : Int)).toNat)).getD ((↑(dig (nat b * 2 ^ ((32 : Int) - (↑(bl (b.getD ((↑b.length : Int) - (1 : Int)).toNat (0 : Int)).toNat) : Int)).toNat)).length : Int) - (1 : Int)).toNat (0 : Int)), inR IntKind.u64 (x2 + (dig (nat b * 2 ^ ((32 : Int) - (↑(bl (b.getD ((↑b.length : Int) - (1 : Int)).toNat (0 : Int)).toNat) : Int)).toNat)).getD ((↑(dig (nat b * 2 ^ ((32 : Int) - (↑(bl (b.getD ((↑b.length : Int) - (1 : Int)).toNat (0 : Int)).toNat) : Int)).toNat)).length : Int) - (1 : Int)).toNat (0 : Int)), decide (x2 + (dig (nat b * 2 ^ ((32 : Int) - (↑(bl (b.getD ((↑b.length : Int) - (1 : Int)).toNat (0 : Int)).toNat) : Int)).toNat)).getD ((↑(dig (nat b * 2 ^ ((32 : Int) - (↑(bl (b.getD ((↑b.length : Int) - (1 : Int)).toNat (0 : Int)).toNat) : Int)).toNat)).length : Int) - (1 : Int)).toNat (0 : Int) ≥ (4294967296 : Int)) = true]) : To Try.prog (loopAt Try.f62 1) ({ n := 143, fr := [(6, AV.v (.int .i64 ((32 : Int) - (↑(bl (b.getD ((↑b.length : Int) - (1 : Int)).toNat (0 : Int)).toNat) : Int)))), (7, AV.sl 1 (.ints .u32 (dig (nat b * 2 ^ ((32 : Int) - (↑(bl (b.getD ((↑b.length : Int) - (1 : Int)).toNat (0 : Int)).toNat) : Int)).toNat))) true), (8, AV.row 18 0 n2 n2 false), (9, AV.v (.int .i64 (↑(dig (nat b * 2 ^ ((32 : Int) - (↑(bl (b.getD ((↑b.length : Int) - (1 : Int)).toNat (0 : Int)).toNat) : Int)).toNat)).length : Int))), (11, AV.row 35 0 n3 n3 false), (12, AV.v (.int .i64 x0)), (14, AV.v (.int .u64 x1)), (15, AV.v (.int .u64 x2))], hp := [(35, AObj.row 22 1 (.ints .u32 l0) n0), (18, AObj.row 22 1 (.ints .u32 l1) n1)], nx := 36 }) (Exit.exit 2) { n := 143, fr := [(6, AV.v (.int .i64 ((32 : Int) - (↑(bl (b.getD ((↑b.length : Int) - (1 : Int)).toNat (0 : Int)).toNat) : Int)))), (7, AV.sl 1 (.ints .u32 (dig (nat b * 2 ^ ((32 : Int) - (↑(bl (b.getD ((↑b.length : Int) - (1 : Int)).toNat (0 : Int)).toNat) : Int)).toNat))) true), (8, AV.row 18 0 n2 n2 false), (9, AV.v (.int .i64 (↑(dig (nat b * 2 ^ ((32 : Int) - (↑(bl (b.getD ((↑b.length : Int) - (1 : Int)).toNat (0 : Int)).toNat) : Int)).toNat)).length : Int))), (11, AV.row 35 0 n3 n3 false), (12, AV.v (.int .i64 x0)), (14, AV.v (.int .u64 ((x1 - (1 : Int)) % (18446744073709551616 : Int))))], hp := [(35, AObj.row 22 1 (.ints .u32 l0) n0), (18, AObj.row 22 1 (.ints .u32 l1) n1)], nx := 36 } :=
  evW_to hm sok19 (hs := [CHint.ops 14 [(1, Hint.b false), (22, Hint.b true)], CHint.ops 15 [(1, Hint.wrap)], CHint.ops 17 [(1, Hint.b true)]]) (slots := [6, 7, 8, 9, 11, 12, 14]) (keys := [35, 18]) (nx := 36) (c := _) (by kernel_rfl) h
theorem divideL1_4 (a b : List Int) (ta tb : Bool) (x0 : Int) (x1 : Int) (x2 : Int) (l0 : List Int) (l1 : List Int) (n0 : Nat) (n1 : Nat) (n2 : Nat) (n3 : Nat) (h : AllP [decide (x1 ≥ (4294967296 : Int)) = false, inR IntKind.i64 ((↑(dig (nat b * 2 ^ ((32 : Int) - (↑(bl (b.getD ((↑b.length : Int) - (1 : Int)).toNat (0 : Int)).toNat) : Int)).toNat)).length : Int) - (2 : Int)), (0 : Int) ≤ (↑(dig (nat b * 2 ^ ((32 : Int) - (↑(bl (b.getD ((↑b.length : Int) - (1 : Int)).toNat (0 : Int)).toNat) : Int)).toNat)).length : Int) - (2 : Int) ∧ (↑(dig (nat b * 2 ^ ((32 : Int) - (↑(bl (b.getD ((↑b.length : Int) - (1 : Int)).toNat (0 : Int)).toNat) : Int)).toNat)).length : Int) - (2 : Int) < (↑(dig (nat b * 2 ^ ((32 : Int) - (↑(bl (b.getD ((↑b.length : Int) - (1 : Int)).toNat (0 : Int)).toNat) : Int)).toNat)).length : Int), inR IntKind.u64 ((dig (nat b * 2 ^ ((32 : Int) - (↑(bl (b.getD ((↑b.length : Int) - (1 : Int)).toNat (0 : Int)).toNat) : Int)).toNat)).getD ((↑(dig (nat b * 2 ^ ((32 : Int) - (↑(bl (b.getD ((↑b.length : Int) - (1 : Int)).toNat (0 : Int)).toNat) : Int)).toNat)).length : Int) - (2 : Int)).toNat (0 : Int)), inR IntKind.u64 (x1 * (dig (nat b * 2 ^ ((32 : Int) - (↑(bl (b.getD ((↑b.length : Int) - (1 : Int)).toNat (0 : Int)).toNat) : Int)).toNat)).getD ((↑(dig (nat b * 2 ^ ((32 : Int) - (↑(bl (b.getD ((↑b.length : Int) - (1 : Int)).toNat (0 : Int)).toNat) : Int)).toNat)).length : Int) - (2 : Int)).toNat (0 : Int)), (0 : Int) ≤ (32 : Int), inR IntKind.u64 (x2 * (4294967296 : Int)), inR IntKind.i64 (x0 + (↑(dig (nat b * 2 ^ ((32 : Int) - (↑(bl (b.getD ((↑b.length : Int) - (1 : Int)).toNat (0 : Int)).toNat) : Int)).toNat)).length : Int)), inR IntKind.i64 (x0 + (↑(dig (nat b * 2 ^ ((32 : Int) - (↑(bl (b.getD ((↑b.length : Int) - (1 : Int)).toNat (0 : Int)).toNat) : Int)).toNat)).length : Int) - (2 : Int)), (0 : Int) ≤ x0 + (↑(dig (nat b * 2 ^ ((32 : Int) - (↑(bl (b.getD ((↑b.length : Int) - (1 : Int)).toNat (0 : Int)).toNat) : Int)).toNat)).length : Int) - (2 : Int) ∧ x0 + (↑(dig (nat b * 2 ^ ((32 : Int) - (↑(bl (b.getD ((↑b.length : Int) - (1 : Int)).toNat (0 : Int)).toNat) : Int)).toNat)).length : Int) - (2 : Int) < (↑n2 : Int), n1 ≤ n2, inR IntKind.u64 (l1.getD (ixPlus 0 (x0 + (↑(dig (nat b * 2 ^ ((32 : Int) - (↑(bl (b.getD ((↑b.length : Int) - (1 : Int)).toNat (0 : Int)).toNat) : Int)).toNat)).length : Int) - (2 : Int)).toNat) (0 : Int)), decide (x1 * (dig (nat b * 2 ^ ((32 : Int) - (↑(bl (b.getD ((↑b.length : Int) - (1 : Int)).toNat (0 : Int)).toNat) : Int)).toNat)).getD ((↑(dig (nat b * 2 ^ ((32 : Int) - (↑(bl (b.getD ((↑b.length : Int) - (1 : Int)).toNat (0 : Int)).toNat) : Int)).toNat)).length : Int) - (2 : Int)).toNat (0 : Int) > bitsOf BinOp.or IntKind.u64 (x2 * (4294967296 : Int)) (l1.getD (ixPlus 0 (x0 + (↑(dig (nat b * 2 ^ ((32 : Int) - (↑(bl (b.getD ((↑b.length : Int) - (1 : Int)).toNat (0 : Int)).toNat) : Int)).toNat)).length : Int) - (2 : Int)).toNat) (0 : Int))) = true, inR IntKind.i64 ((↑(dig (nat b * 2 ^ ((32 : Int) - (↑(bl (b.getD ((↑b.length : Int) - (1 : Int)).toNat (0 : Int)).toNat) : Int)).toNat)).length : Int) - (1 : Int)), (0 : Int) ≤ (↑(dig (nat b * 2 ^ ((32 : Int) - (↑(bl (b.getD ((↑b.length : Int) - (1 : Int)).toNat (0 : Int)).toNat) : Int)).toNat)).length : Int) - (1 : Int) ∧ (↑(dig (nat b * 2 ^ ((32 : Int) - (↑(bl (b.getD ((↑b.length : Int) - (1 : Int)).toNat (0 : Int)).toNat) : Int)).toNat)).length : Int) - (1 : Int) < (↑(dig (nat b * 2 ^ ((32 : Int) - (↑(bl (b.getD ((↑b.length : Int) - (1 : Int)).toNat (0 : Int)).toNat) : Int)).toNat)).length : Int), inR IntKind.u64 ((dig (nat b * 2 ^ ((32 : Int) - (↑(bl (b.getD ((↑b.length : Int) - (1 : Int)).toNat (0 : Int)).toNat) : Int)).toNat)).getD ((↑(dig (nat b * 2 ^ ((32 : Int) - (↑(bl (b.getD ((↑b.length : Int) - (1 : Int)).toNat (0 : Int)).toNat) : Int)).toNat)).length : Int) - (1 : Int)).toNat (0 : Int)), inR IntKind.u64 (x2 + (dig (nat b * 2 ^ ((32 : Int) - (↑(bl (b.getD ((↑b.length : Int) - (1 : Int)).toNat (0 : Int)).toNat) : Int)).toNat)).getD ((↑(dig (nat b * 2 ^ ((32 : Int) - (↑(bl (b.getD ((↑b.length : Int) - (1 : Int)).toNat (0 : Int)).toNat) : Int)).toNat)).length : Int) - (1 : Int)).toNat (0 : Int)), decide (x2 + (dig (nat b * 2 ^ ((32 : Int) - (↑(bl (b.getD ((↑b.length : Int) - (1 : Int)).toNat (0 : Int)).toNat) : Int)).toNat)).getD ((↑(dig (nat b * 2 ^ ((32 : Int) - (↑(bl (b.getD ((↑b.length : Int) - (1 : Int)).toNat (0 : Int)).toNat) : Int)).toNat)).length : Int) - (1 : Int)).toNat (0 : Int) ≥ (4294967296 : Int)) = false]) : To Try.prog (loopAt Try.f62 1) ({ n := 143, fr := [(6, AV.v (.int .i64 ((32 : Int) - (↑(bl (b.getD ((↑b.length : Int) - (1 : Int)).toNat (0 : Int)).toNat) : Int)))), (7, AV.sl 1 (.ints .u32 (dig (nat b * 2 ^ ((32 : Int) - (↑(bl (b.getD ((↑b.length : Int) - (1 : Int)).toNat (0 : Int)).toNat) : Int)).toNat))) true), (8, AV.row 18 0 n2 n2 false), (9, AV.v (.int .i64 (↑(dig (nat b * 2 ^ ((32 : Int) - (↑(bl (b.getD ((↑b.length : Int) - (1 : Int)).toNat (0 : Int)).toNat) : Int)).toNat)).length : Int))), (11, AV.row 35 0 n3 n3 false), (12, AV.v (.int .i64 x0)), (14, AV.v (.int .u64 x1)), (15, AV.v (.int .u64 x2))], hp := [(35, AObj.row 22 1 (.ints .u32 l0) n0), (18, AObj.row 22 1 (.ints .u32 l1) n1)], nx := 36 }) (.normal) { n := 143, fr := [(6, AV.v (.int .i64 ((32 : Int) - (↑(bl (b.getD ((↑b.length : Int) - (1 : Int)).toNat (0 : Int)).toNat) : Int)))), (7, AV.sl 1 (.ints .u32 (dig (nat b * 2 ^ ((32 : Int) - (↑(bl (b.getD ((↑b.length : Int) - (1 : Int)).toNat (0 : Int)).toNat) : Int)).toNat))) true), (8, AV.row 18 0 n2 n2 false), (9, AV.v (.int .i64 (↑(dig (nat b * 2 ^ ((32 : Int) - (↑(bl (b.getD ((↑b.length : Int) - (1 : Int)).toNat (0 : Int)).toNat) : Int)).toNat)).length : Int))), (11, AV.row 35 0 n3 n3 false), (12, AV.v (.int .i64 x0)), (14, AV.v (.int .u64 ((x1 - (1 : Int)) % (18446744073709551616 : Int)))), (15, AV.v (.int .u64 (x2 + (dig (nat b * 2 ^ ((32 : Int) - (↑(bl (b.getD ((↑b.length : Int) - (1 : Int)).toNat (0 : Int)).toNat) : Int)).toNat)).getD ((↑(dig (nat b * 2 ^ ((32 : Int) - (↑(bl (b.getD ((↑b.length : Int) - (1 : Int)).toNat (0 : Int)).toNat) : Int)).toNat)).length : Int) - (1 : Int)).toNat (0 : Int))))], hp := [(35, AObj.row 22 1 (.ints .u32 l0) n0), (18, AObj.row 22 1 (.ints .u32 l1) n1)], nx := 36 } :=
  evW_to hm sok19 (hs := [CHint.ops 14 [(1, Hint.b false), (22, Hint.b true)], CHint.ops 15 [(1, Hint.wrap)], CHint.ops 17 [(1, Hint.b false)]]) (slots := [6, 7, 8, 9, 11, 12, 14, 15]) (keys := [35, 18]) (nx := 36) (c := _) (by kernel_rfl) h
theorem divideL1_5 (a b : List Int) (ta tb : Bool) (x0 : Int) (x1 : Int) (x2 : Int) (l0 : List Int) (l1 : List Int) (n0 : Nat) (n1 : Nat) (n2 : Nat) (n3 : Nat) (h : AllP [decide (x1 ≥ (4294967296 : Int)) = false, inR IntKind.i64 ((↑(dig (nat b * 2 ^ ((32 : Int) - (↑(bl (b.getD ((↑b.length : Int) - (1 : Int)).toNat (0 : Int)).toNat) : Int)).toNat)).length : Int) - (2 : Int)), (0 : Int) ≤ (↑(dig (nat b * 2 ^ ((32 : Int) - (↑(bl (b.getD ((↑b.length : Int) - (1 : Int)).toNat (0 : Int)).toNat) : Int)).toNat)).length : Int) - (2 : Int) ∧ (↑(dig (nat b * 2 ^ ((32 : Int) - (↑(bl (b.getD ((↑b.length : Int) - (1 : Int)).toNat (0 : Int)).toNat) : Int)).toNat)).length : Int) - (2 : Int) < (↑(dig (nat b * 2 ^ ((32 : Int) - (↑(bl (b.getD ((↑b.length : Int) - (1 : Int)).toNat (0 : Int)).toNat) : Int)).toNat)).length : Int), inR IntKind.u64 ((dig (nat b * 2 ^ ((32 : Int) - (↑(bl (b.getD ((↑b.length : Int) - (1 : Int)).toNat (0 : Int)).toNat) : Int)).toNat)).getD ((↑(dig (nat b * 2 ^ ((32 : Int) - (↑(bl (b.getD ((↑b.length : Int) - (1 : Int)).toNat (0 : Int)).toNat) : Int)).toNat)).length : Int) - (2 : Int)).toNat (0 : Int)), inR IntKind.u64 (x1 * (dig (nat b * 2 ^ ((32 : Int) - (↑(bl (b.getD ((↑b.length : Int) - (1 : Int)).toNat (0 : Int)).toNat) : Int)).toNat)).getD ((↑(dig (nat b * 2 ^ ((32 : Int) - (↑(bl (b.getD ((↑b.length : Int) - (1 : Int)).toNat (0 : Int)).toNat) : Int)).toNat)).length : Int) - (2 : Int)).toNat (0 : Int)), (0 : Int) ≤ (32 : Int), inR IntKind.u64 (x2 * (4294967296 : Int)), inR IntKind.i64 (x0 + (↑(dig (nat b * 2 ^ ((32 : Int) - (↑(bl (b.getD ((↑b.length : Int) - (1 : Int)).toNat (0 : Int)).toNat) : Int)).toNat)).length : Int)), inR IntKind.i64 (x0 + (↑(dig (nat b * 2 ^ ((32 : Int) - (↑(bl (b.getD ((↑b.length : Int) - (1 : Int)).toNat (0 : Int)).toNat) : Int)).toNat)).length : Int) - (2 : Int)), (0 : Int) ≤ x0 + (↑(dig (nat b * 2 ^ ((32 : Int) - (↑(bl (b.getD ((↑b.length : Int) - (1 : Int)).toNat (0 : Int)).toNat) : Int)).toNat)).length : Int) - (2 : Int) ∧ x0 + (↑(dig (nat b * 2 ^ ((32 : Int) - (↑(bl (b.getD ((↑b.length : Int) - (1 : Int)).toNat (0 : Int)).toNat) : Int)).toNat)).length : Int) - (2 : Int) < (↑n2 : Int), n1 ≤ n2, inR IntKind.u64 (l1.getD (ixPlus 0 (x0 + (↑(dig (nat b * 2 ^ ((32 : Int) - (↑(bl (b.getD ((↑b.length : Int) - (1 : Int)).toNat (0 : Int)).toNat) : Int)).toNat)).length : Int) - (2 : Int)).toNat) (0 : Int)), decide (x1 * (dig (nat b * 2 ^ ((32 : Int) - (↑(bl (b.getD ((↑b.length : Int) - (1 : Int)).toNat (0 : Int)).toNat) : Int)).toNat)).getD ((↑(dig (nat b * 2 ^ ((32 : Int) - (↑(bl (b.getD ((↑b.length : Int) - (1 : Int)).toNat (0 : Int)).toNat) : Int)).toNat)).length : Int) - (2 : Int)).toNat (0 : Int) > bitsOf BinOp.or IntKind.u64 (x2 * (4294967296 : Int)) (l1.getD (ixPlus 0 (x0 + (↑(dig (nat b * 2 ^ ((32 : Int) - (↑(bl (b.getD ((↑b.length : Int) - (1 : Int)).toNat (0 : Int)).toNat) : Int)).toNat)).length : Int) - (2 : Int)).toNat) (0 : Int))) = false]) : To Try.prog (loopAt Try.f62 1) ({ n := 143, fr := [(6, AV.v (.int .i64 ((32 : Int) - (↑(bl (b.getD ((↑b.length : Int) - (1 : Int)).toNat (0 : Int)).toNat) : Int)))), (7, AV.sl 1 (.ints .u32 (dig (nat b * 2 ^ ((32 : Int) - (↑(bl (b.getD ((↑b.length : Int) - (1 : Int)).toNat (0 : Int)).toNat) : Int)).toNat))) true), (8, AV.row 18 0 n2 n2 false), (9, AV.v (.int .i64 (↑(dig (nat b * 2 ^ ((32 : Int) - (↑(bl (b.getD ((↑b.length : Int) - (1 : Int)).toNat (0 : Int)).toNat) : Int)).toNat)).length : Int))), (11, AV.row 35 0 n3 n3 false), (12, AV.v (.int .i64 x0)), (14, AV.v (.int .u64 x1)), (15, AV.v (.int .u64 x2))], hp := [(35, AObj.row 22 1 (.ints .u32 l0) n0), (18, AObj.row 22 1 (.ints .u32 l1) n1)], nx := 36 }) (Exit.exit 2) { n := 143, fr := [(6, AV.v (.int .i64 ((32 : Int) - (↑(bl (b.getD ((↑b.length : Int) - (1 : Int)).toNat (0 : Int)).toNat) : Int)))), (7, AV.sl 1 (.ints .u32 (dig (nat b * 2 ^ ((32 : Int) - (↑(bl (b.getD ((↑b.length : Int) - (1 : Int)).toNat (0 : Int)).toNat) : Int)).toNat))) true), (8, AV.row 18 0 n2 n2 false), (9, AV.v (.int .i64 (↑(dig (nat b * 2 ^ ((32 : Int) - (↑(bl (b.getD ((↑b.length : Int) - (1 : Int)).toNat (0 : Int)).toNat) : Int)).toNat)).length : Int))), (11, AV.row 35 0 n3 n3 false), (12, AV.v (.int .i64 x0)), (14, AV.v (.int .u64 x1))], hp := [(35, AObj.row 22 1 (.ints .u32 l0) n0), (18, AObj.row 22 1 (.ints .u32 l1) n1)], nx := 36 } :=
  evW_to hm sok19 (hs := [CHint.ops 14 [(1, Hint.b false), (22, Hint.b false)]]) (slots := [6, 7, 8, 9, 11, 12, 14]) (keys := [35, 18]) (nx := 36) (c := _) (by kernel_rfl) h
-- 3 paths
theorem divideF1 (a b : List Int) (ta tb : Bool) (l2 : List Int) (l3 : List Int) (n4 : Nat) (n5 : Nat) (n6 : Nat) (n7 : Nat) (h : AllP [inR IntKind.i64 ((↑b.length : Int) - (1 : Int)), (0 : Int) ≤ (↑b.length : Int) - (1 : Int) ∧ (↑b.length : Int) - (1 : Int) < (↑b.length : Int), (0 : Int) ≤ b.getD ((↑b.length : Int) - (1 : Int)).toNat (0 : Int), b.getD ((↑b.length : Int) - (1 : Int)).toNat (0 : Int) < (4294967296 : Int), Words b, (0 : Int) ≤ (32 : Int) - (↑(bl (b.getD ((↑b.length : Int) - (1 : Int)).toNat (0 : Int)).toNat) : Int), (32 : Int) - (↑(bl (b.getD ((↑b.length : Int) - (1 : Int)).toNat (0 : Int)).toNat) : Int) + (↑b.length : Int) + (2 : Int) ≤ (1000000000000 : Int), Words a, (0 : Int) ≤ (32 : Int) - (↑(bl (b.getD ((↑b.length : Int) - (1 : Int)).toNat (0 : Int)).toNat) : Int), (32 : Int) - (↑(bl (b.getD ((↑b.length : Int) - (1 : Int)).toNat (0 : Int)).toNat) : Int) + (↑a.length : Int) + (2 : Int) ≤ (1000000000000 : Int), 1 ≤ 2, (dig (nat a * 2 ^ ((32 : Int) - (↑(bl (b.getD ((↑b.length : Int) - (1 : Int)).toNat (0 : Int)).toNat) : Int)).toNat) ++ [(0 : Int), (0 : Int)]).length * 4 ≤ 140737488355328, decide ((↑(dig (nat a * 2 ^ ((32 : Int) - (↑(bl (b.getD ((↑b.length : Int) - (1 : Int)).toNat (0 : Int)).toNat) : Int)).toNat) ++ [(0 : Int), (0 : Int)]).length : Int) ≤ (↑(dig (nat b * 2 ^ ((32 : Int) - (↑(bl (b.getD ((↑b.length : Int) - (1 : Int)).toNat (0 : Int)).toNat) : Int)).toNat)).length : Int)) = true]) : PureTo Try.prog 62 [.sl 1 (.ints .u32 a) ta, .sl 1 (.ints .u32 b) tb] (AV.tup [AV.sl 1 (.ints .u32 []) false, AV.sl 1 (.ints .u32 a) (ta && false)]) :=
  evFn_pure hm sok19 (fn := Try.f62) rfl rfl (ti := false) (hs := [CHint.ops 5 [(3, Hint.b true)]]) (c := _) (by kernel_rfl) h
theorem divideF2 (a b : List Int) (ta tb : Bool) (l2 : List Int) (l3 : List Int) (n4 : Nat) (n5 : Nat) (n6 : Nat) (n7 : Nat) (h : AllP [inR IntKind.i64 ((↑b.length : Int) - (1 : Int)), (0 : Int) ≤ (↑b.length : Int) - (1 : Int) ∧ (↑b.length : Int) - (1 : Int) < (↑b.length : Int), (0 : Int) ≤ b.getD ((↑b.length : Int) - (1 : Int)).toNat (0 : Int), b.getD ((↑b.length : Int) - (1 : Int)).toNat (0 : Int) < (4294967296 : Int), Words b, (0 : Int) ≤ (32 : Int) - (↑(bl (b.getD ((↑b.length : Int) - (1 : Int)).toNat (0 : Int)).toNat) : Int), (32 : Int) - (↑(bl (b.getD ((↑b.length : Int) - (1 : Int)).toNat (0 : Int)).toNat) : Int) + (↑b.length : Int) + (2 : Int) ≤ (1000000000000 : Int), Words a, (0 : Int) ≤ (32 : Int) - (↑(bl (b.getD ((↑b.length : Int) - (1 : Int)).toNat (0 : Int)).toNat) : Int), (32 : Int) - (↑(bl (b.getD ((↑b.length : Int) - (1 : Int)).toNat (0 : Int)).toNat) : Int) + (↑a.length : Int) + (2 : Int) ≤ (1000000000000 : Int), 1 ≤ 2, (dig (nat a * 2 ^ ((32 : Int) - (↑(bl (b.getD ((↑b.length : Int) - (1 : Int)).toNat (0 : Int)).toNat) : Int)).toNat) ++ [(0 : Int), (0 : Int)]).length * 4 ≤ 140737488355328, decide ((↑(dig (nat a * 2 ^ ((32 : Int) - (↑(bl (b.getD ((↑b.length : Int) - (1 : Int)).toNat (0 : Int)).toNat) : Int)).toNat) ++ [(0 : Int), (0 : Int)]).length : Int) ≤ (↑(dig (nat b * 2 ^ ((32 : Int) - (↑(bl (b.getD ((↑b.length : Int) - (1 : Int)).toNat (0 : Int)).toNat) : Int)).toNat)).length : Int)) = false, inR IntKind.i64 ((↑(dig (nat a * 2 ^ ((32 : Int) - (↑(bl (b.getD ((↑b.length : Int) - (1 : Int)).toNat (0 : Int)).toNat) : Int)).toNat) ++ [(0 : Int), (0 : Int)]).length : Int) - (↑(dig (nat b * 2 ^ ((32 : Int) - (↑(bl (b.getD ((↑b.length : Int) - (1 : Int)).toNat (0 : Int)).toNat) : Int)).toNat)).length : Int)), inR IntKind.i64 ((↑(dig (nat a * 2 ^ ((32 : Int) - (↑(bl (b.getD ((↑b.length : Int) - (1 : Int)).toNat (0 : Int)).toNat) : Int)).toNat) ++ [(0 : Int), (0 : Int)]).length : Int) - (↑(dig (nat b * 2 ^ ((32 : Int) - (↑(bl (b.getD ((↑b.length : Int) - (1 : Int)).toNat (0 : Int)).toNat) : Int)).toNat)).length : Int) - (1 : Int)), inR IntKind.i64 ((↑(dig (nat a * 2 ^ ((32 : Int) - (↑(bl (b.getD ((↑b.length : Int) - (1 : Int)).toNat (0 : Int)).toNat) : Int)).toNat) ++ [(0 : Int), (0 : Int)]).length : Int) - (↑(dig (nat b * 2 ^ ((32 : Int) - (↑(bl (b.getD ((↑b.length : Int) - (1 : Int)).toNat (0 : Int)).toNat) : Int)).toNat)).length : Int) - (1 : Int) + (1 : Int)), (0 : Int) ≤ (↑(dig (nat a * 2 ^ ((32 : Int) - (↑(bl (b.getD ((↑b.length : Int) - (1 : Int)).toNat (0 : Int)).toNat) : Int)).toNat) ++ [(0 : Int), (0 : Int)]).length : Int) - (↑(dig (nat b * 2 ^ ((32 : Int) - (↑(bl (b.getD ((↑b.length : Int) - (1 : Int)).toNat (0 : Int)).toNat) : Int)).toNat)).length : Int) - (1 : Int) + (1 : Int) ∧ (↑(dig (nat a * 2 ^ ((32 : Int) - (↑(bl (b.getD ((↑b.length : Int) - (1 : Int)).toNat (0 : Int)).toNat) : Int)).toNat) ++ [(0 : Int), (0 : Int)]).length : Int) - (↑(dig (nat b * 2 ^ ((32 : Int) - (↑(bl (b.getD ((↑b.length : Int) - (1 : Int)).toNat (0 : Int)).toNat) : Int)).toNat)).length : Int) - (1 : Int) + (1 : Int) ≤ (↑(dig (nat a * 2 ^ ((32 : Int) - (↑(bl (b.getD ((↑b.length : Int) - (1 : Int)).toNat (0 : Int)).toNat) : Int)).toNat) ++ [(0 : Int), (0 : Int)]).length : Int) - (↑(dig (nat b * 2 ^ ((32 : Int) - (↑(bl (b.getD ((↑b.length : Int) - (1 : Int)).toNat (0 : Int)).toNat) : Int)).toNat)).length : Int) - (1 : Int) + (1 : Int), ((↑(dig (nat a * 2 ^ ((32 : Int) - (↑(bl (b.getD ((↑b.length : Int) - (1 : Int)).toNat (0 : Int)).toNat) : Int)).toNat) ++ [(0 : Int), (0 : Int)]).length : Int) - (↑(dig (nat b * 2 ^ ((32 : Int) - (↑(bl (b.getD ((↑b.length : Int) - (1 : Int)).toNat (0 : Int)).toNat) : Int)).toNat)).length : Int) - (1 : Int) + (1 : Int)) * (4 : Int) ≤ (281474976710656 : Int) ∧ (↑(dig (nat a * 2 ^ ((32 : Int) - (↑(bl (b.getD ((↑b.length : Int) - (1 : Int)).toNat (0 : Int)).toNat) : Int)).toNat) ++ [(0 : Int), (0 : Int)]).length : Int) - (↑(dig (nat b * 2 ^ ((32 : Int) - (↑(bl (b.getD ((↑b.length : Int) - (1 : Int)).toNat (0 : Int)).toNat) : Int)).toNat)).length : Int) - (1 : Int) + (1 : Int) ≤ (9223372036854775807 : Int), LoopTo Try.prog (loopAt Try.f62 0) { n := 143, fr := [(6, AV.v (.int .i64 ((32 : Int) - (↑(bl (b.getD ((↑b.length : Int) - (1 : Int)).toNat (0 : Int)).toNat) : Int)))), (7, AV.sl 1 (.ints .u32 (dig (nat b * 2 ^ ((32 : Int) - (↑(bl (b.getD ((↑b.length : Int) - (1 : Int)).toNat (0 : Int)).toNat) : Int)).toNat))) true), (8, AV.row 18 0 (dig (nat a * 2 ^ ((32 : Int) - (↑(bl (b.getD ((↑b.length : Int) - (1 : Int)).toNat (0 : Int)).toNat) : Int)).toNat) ++ [(0 : Int), (0 : Int)]).length (dig (nat a * 2 ^ ((32 : Int) - (↑(bl (b.getD ((↑b.length : Int) - (1 : Int)).toNat (0 : Int)).toNat) : Int)).toNat) ++ [(0 : Int), (0 : Int)]).length false), (9, AV.v (.int .i64 (↑(dig (nat b * 2 ^ ((32 : Int) - (↑(bl (b.getD ((↑b.length : Int) - (1 : Int)).toNat (0 : Int)).toNat) : Int)).toNat)).length : Int))), (11, AV.row 35 0 ((↑(dig (nat a * 2 ^ ((32 : Int) - (↑(bl (b.getD ((↑b.length : Int) - (1 : Int)).toNat (0 : Int)).toNat) : Int)).toNat) ++ [(0 : Int), (0 : Int)]).length : Int) - (↑(dig (nat b * 2 ^ ((32 : Int) - (↑(bl (b.getD ((↑b.length : Int) - (1 : Int)).toNat (0 : Int)).toNat) : Int)).toNat)).length : Int) - (1 : Int) + (1 : Int)).toNat ((↑(dig (nat a * 2 ^ ((32 : Int) - (↑(bl (b.getD ((↑b.length : Int) - (1 : Int)).toNat (0 : Int)).toNat) : Int)).toNat) ++ [(0 : Int), (0 : Int)]).length : Int) - (↑(dig (nat b * 2 ^ ((32 : Int) - (↑(bl (b.getD ((↑b.length : Int) - (1 : Int)).toNat (0 : Int)).toNat) : Int)).toNat)).length : Int) - (1 : Int) + (1 : Int)).toNat false), (12, AV.v (.int .i64 ((↑(dig (nat a * 2 ^ ((32 : Int) - (↑(bl (b.getD ((↑b.length : Int) - (1 : Int)).toNat (0 : Int)).toNat) : Int)).toNat) ++ [(0 : Int), (0 : Int)]).length : Int) - (↑(dig (nat b * 2 ^ ((32 : Int) - (↑(bl (b.getD ((↑b.length : Int) - (1 : Int)).toNat (0 : Int)).toNat) : Int)).toNat)).length : Int) - (1 : Int))))], hp := [(35, AObj.row 22 1 (.ints .u32 (List.replicate ((↑(dig (nat a * 2 ^ ((32 : Int) - (↑(bl (b.getD ((↑b.length : Int) - (1 : Int)).toNat (0 : Int)).toNat) : Int)).toNat) ++ [(0 : Int), (0 : Int)]).length : Int) - (↑(dig (nat b * 2 ^ ((32 : Int) - (↑(bl (b.getD ((↑b.length : Int) - (1 : Int)).toNat (0 : Int)).toNat) : Int)).toNat)).length : Int) - (1 : Int) + (1 : Int)).toNat (0 : Int))) 0), (18, AObj.row 22 1 (.ints .u32 (dig (nat a * 2 ^ ((32 : Int) - (↑(bl (b.getD ((↑b.length : Int) - (1 : Int)).toNat (0 : Int)).toNat) : Int)).toNat) ++ [(0 : Int), (0 : Int)])) 0)], nx := 36 } (Exit.exit 0) { n := 143, fr := [(6, AV.v (.int .i64 ((32 : Int) - (↑(bl (b.getD ((↑b.length : Int) - (1 : Int)).toNat (0 : Int)).toNat) : Int)))), (8, AV.row 18 0 n6 n6 false), (11, AV.row 35 0 n7 n7 false)], hp := [(35, AObj.row 22 1 (.ints .u32 l2) n4), (18, AObj.row 22 1 (.ints .u32 l3) n5)], nx := 36 }, n6 = l3.length, n5 ≤ n6, Words l3, l3.length ≤ lim4, (32 : Int) - (↑(bl (b.getD ((↑b.length : Int) - (1 : Int)).toNat (0 : Int)).toNat) : Int) ≤ (9223372036854775807 : Int), (ShrN (nat l3) ((32 : Int) - (↑(bl (b.getD ((↑b.length : Int) - (1 : Int)).toNat (0 : Int)).toNat) : Int))).snd = true, n7 = l2.length, n4 ≤ n7, l2.length < lim]) : PureTo Try.prog 62 [.sl 1 (.ints .u32 a) ta, .sl 1 (.ints .u32 b) tb] (AV.tup [AV.sl 1 (.ints .u32 (norm l2)) false, AV.sl 1 (.ints .u32 (ShrN (nat l3) ((32 : Int) - (↑(bl (b.getD ((↑b.length : Int) - (1 : Int)).toNat (0 : Int)).toNat) : Int))).fst) false]) :=
  evFn_pure hm sok19 (fn := Try.f62) rfl rfl (ti := false) (hs := [CHint.ops 5 [(3, Hint.b false)], CHint.loop [6, 7, 8, 9, 11, 12] [35, 18] 36 (Exit.exit 0) { n := 143, fr := [(6, AV.v (.int .i64 ((32 : Int) - (↑(bl (b.getD ((↑b.length : Int) - (1 : Int)).toNat (0 : Int)).toNat) : Int)))), (8, AV.row 18 0 n6 n6 false), (11, AV.row 35 0 n7 n7 false)], hp := [(35, AObj.row (22 : TypeId) 1 (.ints .u32 l2) n4), (18, AObj.row (22 : TypeId) 1 (.ints .u32 l3) n5)], nx := 36 }, CHint.ops 19 [(5, Hint.b true)]]) (c := _) (by kernel_rfl) h
theorem divideF3 (a b : List Int) (ta tb : Bool) (l2 : List Int) (l3 : List Int) (n4 : Nat) (n5 : Nat) (n6 : Nat) (n7 : Nat) (h : AllP [inR IntKind.i64 ((↑b.length : Int) - (1 : Int)), (0 : Int) ≤ (↑b.length : Int) - (1 : Int) ∧ (↑b.length : Int) - (1 : Int) < (↑b.length : Int), (0 : Int) ≤ b.getD ((↑b.length : Int) - (1 : Int)).toNat (0 : Int), b.getD ((↑b.length : Int) - (1 : Int)).toNat (0 : Int) < (4294967296 : Int), Words b, (0 : Int) ≤ (32 : Int) - (↑(bl (b.getD ((↑b.length : Int) - (1 : Int)).toNat (0 : Int)).toNat) : Int), (32 : Int) - (↑(bl (b.getD ((↑b.length : Int) - (1 : Int)).toNat (0 : Int)).toNat) : Int) + (↑b.length : Int) + (2 : Int) ≤ (1000000000000 : Int), Words a, (0 : Int) ≤ (32 : Int) - (↑(bl (b.getD ((↑b.length : Int) - (1 : Int)).toNat (0 : Int)).toNat) : Int), (32 : Int) - (↑(bl (b.getD ((↑b.length : Int) - (1 : Int)).toNat (0 : Int)).toNat) : Int) + (↑a.length : Int) + (2 : Int) ≤ (1000000000000 : Int), 1 ≤ 2, (dig (nat a * 2 ^ ((32 : Int) - (↑(bl (b.getD ((↑b.length : Int) - (1 : Int)).toNat (0 : Int)).toNat) : Int)).toNat) ++ [(0 : Int), (0 : Int)]).length * 4 ≤ 140737488355328, decide ((↑(dig (nat a * 2 ^ ((32 : Int) - (↑(bl (b.getD ((↑b.length : Int) - (1 : Int)).toNat (0 : Int)).toNat) : Int)).toNat) ++ [(0 : Int), (0 : Int)]).length : Int) ≤ (↑(dig (nat b * 2 ^ ((32 : Int) - (↑(bl (b.getD ((↑b.length : Int) - (1 : Int)).toNat (0 : Int)).toNat) : Int)).toNat)).length : Int)) = false, inR IntKind.i64 ((↑(dig (nat a * 2 ^ ((32 : Int) - (↑(bl (b.getD ((↑b.length : Int) - (1 : Int)).toNat (0 : Int)).toNat) : Int)).toNat) ++ [(0 : Int), (0 : Int)]).length : Int) - (↑(dig (nat b * 2 ^ ((32 : Int) - (↑(bl (b.getD ((↑b.length : Int) - (1 : Int)).toNat (0 : Int)).toNat) : Int)).toNat)).length : Int)), inR IntKind.i64 ((↑(dig (nat a * 2 ^ ((32 : Int) - (↑(bl (b.getD ((↑b.length : Int) - (1 : Int)).toNat (0 : Int)).toNat) : Int)).toNat) ++ [(0 : Int), (0 : Int)]).length : Int) - (↑(dig (nat b * 2 ^ ((32 : Int) - (↑(bl (b.getD ((↑b.length : Int) - (1 : Int)).toNat (0 : Int)).toNat) : Int)).toNat)).length : Int) - (1 : Int)), inR IntKind.i64 ((↑(dig (nat a * 2 ^ ((32 : Int) - (↑(bl (b.getD ((↑b.length : Int) - (1 : Int)).toNat (0 : Int)).toNat) : Int)).toNat) ++ [(0 : Int), (0 : Int)]).length : Int) - (↑(dig (nat b * 2 ^ ((32 : Int) - (↑(bl (b.getD ((↑b.length : Int) - (1 : Int)).toNat (0 : Int)).toNat) : Int)).toNat)).length : Int) - (1 : Int) + (1 : Int)), (0 : Int) ≤ (↑(dig (nat a * 2 ^ ((32 : Int) - (↑(bl (b.getD ((↑b.length : Int) - (1 : Int)).toNat (0 : Int)).toNat) : Int)).toNat) ++ [(0 : Int), (0 : Int)]).length : Int) - (↑(dig (nat b * 2 ^ ((32 : Int) - (↑(bl (b.getD ((↑b.length : Int) - (1 : Int)).toNat (0 : Int)).toNat) : Int)).toNat)).length : Int) - (1 : Int) + (1 : Int) ∧ (↑(dig (nat a * 2 ^ ((32 : Int) - (↑(bl (b.getD ((↑b.length : Int) - (1 : Int)).toNat (0 : Int)).toNat) : Int)).toNat) ++ [(0 : Int), (0 : Int)]).length : Int) - (↑(dig (nat b * 2 ^ ((32 : Int) - (↑(bl (b.getD ((↑b.length : Int) - (1 : Int)).toNat (0 : Int)).toNat) : Int)).toNat)).length : Int) - (1 : Int) + (1 : Int) ≤ (↑(dig (nat a * 2 ^ ((32 : Int) - (↑(bl (b.getD ((↑b.length : Int) - (1 : Int)).toNat (0 : Int)).toNat) : Int)).toNat) ++ [(0 : Int), (0 : Int)]).length : Int) - (↑(dig (nat b * 2 ^ ((32 : Int) - (↑(bl (b.getD ((↑b.length : Int) - (1 : Int)).toNat (0 : Int)).toNat) : Int)).toNat)).length : Int) - (1 : Int) + (1 : Int), ((↑(dig (nat a * 2 ^ ((32 : Int) - (↑(bl (b.getD ((↑b.length : Int) - (1 : Int)).toNat (0 : Int)).toNat) : Int)).toNat) ++ [(0 : Int), (0 : Int)]).length : Int) - (↑(dig (nat b * 2 ^ ((32 : Int) - (↑(bl (b.getD ((↑b.length : Int) - (1 : Int)).toNat (0 : Int)).toNat) : Int)).toNat)).length : Int) - (1 : Int) + (1 : Int)) * (4 : Int) ≤ (281474976710656 : Int) ∧ (↑(dig (nat a * 2 ^ ((32 : Int) - (↑(bl (b.getD ((↑b.length : Int) - (1 : Int)).toNat (0 : Int)).toNat) : Int)).toNat) ++ [(0 : Int), (0 : Int)]).length : Int) - (↑(dig (nat b * 2 ^ ((32 : Int) - (↑(bl (b.getD ((↑b.length : Int) - (1 : Int)).toNat (0 : Int)).toNat) : Int)).toNat)).length : Int) - (1 : Int) + (1 : Int) ≤ (9223372036854775807 : Int), LoopTo Try.prog (loopAt Try.f62 0) { n := 143, fr := [(6, AV.v (.int .i64 ((32 : Int) - (↑(bl (b.getD ((↑b.length : Int) - (1 : Int)).toNat (0 : Int)).toNat) : Int)))), (7, AV.sl 1 (.ints .u32 (dig (nat b * 2 ^ ((32 : Int) - (↑(bl (b.getD ((↑b.length : Int) - (1 : Int)).toNat (0 : Int)).toNat) : Int)).toNat))) true), (8, AV.row 18 0 (dig (nat a * 2 ^ ((32 : Int) - (↑(bl (b.getD ((↑b.length : Int) - (1 : Int)).toNat (0 : Int)).toNat) : Int)).toNat) ++ [(0 : Int), (0 : Int)]).length (dig (nat a * 2 ^ ((32 : Int) - (↑(bl (b.getD ((↑b.length : Int) - (1 : Int)).toNat (0 : Int)).toNat) : Int)).toNat) ++ [(0 : Int), (0 : Int)]).length false), (9, AV.v (.int .i64 (↑(dig (nat b * 2 ^ ((32 : Int) - (↑(bl (b.getD ((↑b.length : Int) - (1 : Int)).toNat (0 : Int)).toNat) : Int)).toNat)).length : Int))), (11, AV.row 35 0 ((↑(dig (nat a * 2 ^ ((32 : Int) - (↑(bl (b.getD ((↑b.length : Int) - (1 : Int)).toNat (0 : Int)).toNat) : Int)).toNat) ++ [(0 : Int), (0 : Int)]).length : Int) - (↑(dig (nat b * 2 ^ ((32 : Int) - (↑(bl (b.getD ((↑b.length : Int) - (1 : Int)).toNat (0 : Int)).toNat) : Int)).toNat)).length : Int) - (1 : Int) + (1 : Int)).toNat ((↑(dig (nat a * 2 ^ ((32 : Int) - (↑(bl (b.getD ((↑b.length : Int) - (1 : Int)).toNat (0 : Int)).toNat) : Int)).toNat) ++ [(0 : Int), (0 : Int)]).length : Int) - (↑(dig (nat b * 2 ^ ((32 : Int) - (↑(bl (b.getD ((↑b.length : Int) - (1 : Int)).toNat (0 : Int)).toNat) : Int)).toNat)).length : Int) - (1 : Int) + (1 : Int)).toNat false), (12, AV.v (.int .i64 ((↑(dig (nat a * 2 ^ ((32 : Int) - (↑(bl (b.getD ((↑b.length : Int) - (1 : Int)).toNat (0 : Int)).toNat) : Int)).toNat) ++ [(0 : Int), (0 : Int)]).length : Int) - (↑(dig (nat b * 2 ^ ((32 : Int) - (↑(bl (b.getD ((↑b.length : Int) - (1 : Int)).toNat (0 : Int)).toNat) : Int)).toNat)).length : Int) - (1 : Int))))], hp := [(35, AObj.row 22 1 (.ints .u32 (List.replicate ((↑(dig (nat a * 2 ^ ((32 : Int) - (↑(bl (b.getD ((↑b.length : Int) - (1 : Int)).toNat (0 : Int)).toNat) : Int)).toNat) ++ [(0 : Int), (0 : Int)]).length : Int) - (↑(dig (nat b * 2 ^ ((32 : Int) - (↑(bl (b.getD ((↑b.length : Int) - (1 : Int)).toNat (0 : Int)).toNat) : Int)).toNat)).length : Int) - (1 : Int) + (1 : Int)).toNat (0 : Int))) 0), (18, AObj.row 22 1 (.ints .u32 (dig (nat a * 2 ^ ((32 : Int) - (↑(bl (b.getD ((↑b.length : Int) - (1 : Int)).toNat (0 : Int)).toNat) : Int)).toNat) ++ [(0 : Int), (0 : Int)])) 0)], nx := 36 } (Exit.exit 0) { n := 143, fr := [(6, AV.v (.int .i64 ((32 : Int) - (↑(bl (b.getD ((↑b.length : Int) - (1 : Int)).toNat (0 : Int)).toNat) : Int)))), (8, AV.row 18 0 n6 n6 false), (11, AV.row 35 0 n7 n7 false)], hp := [(35, AObj.row 22 1 (.ints .u32 l2) n4), (18, AObj.row 22 1 (.ints .u32 l3) n5)], nx := 36 }, n6 = l3.length, n5 ≤ n6, Words l3, l3.length ≤ lim4, (32 : Int) - (↑(bl (b.getD ((↑b.length : Int) - (1 : Int)).toNat (0 : Int)).toNat) : Int) ≤ (9223372036854775807 : Int), (ShrN (nat l3) ((32 : Int) - (↑(bl (b.getD ((↑b.length : Int) - (1 : Int)).toNat (0 : Int)).toNat) : Int))).snd = false, n7 = l2.length, n4 ≤ n7, l2.length < lim]) : PureTo Try.prog 62 [.sl 1 (.ints .u32 a) ta, .sl 1 (.ints .u32 b) tb] (AV.tup [AV.sl 1 (.ints .u32 (norm l2)) false, AV.sl 1 (.ints .u32 (ShrN (nat l3) ((32 : Int) - (↑(bl (b.getD ((↑b.length : Int) - (1 : Int)).toNat (0 : Int)).toNat) : Int))).fst) false]) :=
  evFn_pure hm sok19 (fn := Try.f62) rfl rfl (ti := false) (hs := [CHint.ops 5 [(3, Hint.b false)], CHint.loop [6, 7, 8, 9, 11, 12] [35, 18] 36 (Exit.exit 0) { n := 143, fr := [(6, AV.v (.int .i64 ((32 : Int) - (↑(bl (b.getD ((↑b.length : Int) - (1 : Int)).toNat (0 : Int)).toNat) : Int)))), (8, AV.row 18 0 n6 n6 false), (11, AV.row 35 0 n7 n7 false)], hp := [(35, AObj.row (22 : TypeId) 1 (.ints .u32 l2) n4), (18, AObj.row (22 : TypeId) 1 (.ints .u32 l3) n5)], nx := 36 }, CHint.ops 19 [(5, Hint.b false)]]) (c := _) (by kernel_rfl) h
end Go.Proofs.Bn

/- Bignum: divide's contract. -/
set_option maxRecDepth 100000
namespace Go.Proofs.Bn
open Go Go.Ev

theorem dig_top {m : Nat} (h : m ≠ 0) : (dig m).getD ((dig m).length - 1) 0 ≠ 0 := by
  have h1 := norm_length (dig m)
  rw [norm_eq (words_dig m), nat_dig] at h1
  have h2 := cutN_last (dig m) (dig m).length (by have := dig_length_pos h; omega)
  rw [← h1] at h2
  exact h2

theorem two_words {b : List Int} (hl : 2 ≤ b.length) (htop : b.getD (b.length - 1) 0 ≠ 0) (hb : Words b) : 4294967296 ≤ nat b := by
  have h1 := drop_split b 0 (b.length - 1) (by omega)
  have hx := words_getD hb (b.length - 1)
  rw [List.drop_zero, Nat.zero_add, drop_step (l := b) (k := b.length - 1) (by omega)] at h1
  have h2 : 4294967296 ^ 1 ≤ 4294967296 ^ (b.length - 1) := Nat.pow_le_pow_right (by decide) (by omega)
  have h3 : 4294967296 ^ (b.length - 1) * 1 ≤ 4294967296 ^ (b.length - 1) * ((b.getD (b.length - 1) 0).toNat + 4294967296 * nat (b.drop (b.length - 1 + 1))) := Nat.mul_le_mul_left _ (by omega)
  rw [h1]
  omega

theorem div_start {A V : Nat} (hV : 4294967296 ≤ V) (hle : V ≤ A) :
    2 ≤ (dig V).length ∧ (dig V).length ≤ (dig A).length ∧
    DivInv A (nat (dig V)) (dig A ++ [0, 0]).length ((dig A).length + 2 - (dig V).length) (List.replicate ((dig A).length + 2 - (dig V).length) 0) (dig A ++ [0, 0]) ((dig A).length + 2 - (dig V).length) := by
  have h2 : 1 < (dig V).length := (dig_len 1 V).2 (by omega)
  have h3 : (dig V).length ≤ (dig A).length := dig_mono hle
  have hz : nat [(0 : Int), 0] = 0 := rfl
  refine ⟨h2, h3, by simp, rfl, zeros_words _, words_append.2 ⟨words_dig A, zeros_words 2⟩, ?_, ?_, ?_⟩
  · rw [zeros_nat, Nat.zero_mul, Nat.zero_add, nat_append, hz, Nat.mul_zero, nat_dig]; rfl
  · intro k hk
    simp [List.getD_eq_getElem?_getD, hk]
  · rw [List.drop_append_of_le_length (by omega), nat_append, hz, Nat.mul_zero, nat_dig]
    have h4 := nat_lt (words_drop (words_dig A) ((dig A).length + 2 - (dig V).length))
    rw [List.length_drop] at h4
    have h5 := (dig_len ((dig V).length - 1) V).1 (by omega)
    have h6 : (4294967296 : Nat) ^ ((dig A).length - ((dig A).length + 2 - (dig V).length)) ≤ 4294967296 ^ ((dig V).length - 1) := Nat.pow_le_pow_right (by decide) (by omega)
    exact Nat.lt_of_lt_of_le h4 (Nat.le_trans h6 h5)

theorem divide_pure (a b : List Int) (ta tb : Bool) (ha : Words a) (hb : Words b) (hlb : 2 ≤ b.length) (htop : b.getD (b.length - 1) 0 ≠ 0) (hle : nat b ≤ nat a) (hla : a.length ≤ 2000) (hlb2 : b.length ≤ 2000) :
    PureTo Try.prog 62 [.sl 1 (.ints .u32 a) ta, .sl 1 (.ints .u32 b) tb] (.tup [.sl 1 (.ints .u32 (dig (nat a / nat b))) false, .sl 1 (.ints .u32 (dig (nat a % nat b))) false]) := by
  have hx := words_getD hb (b.length - 1)
  have e1 : ((b.length : Int) - 1).toNat = b.length - 1 := by omega
  have hbl : bl (b.getD (b.length - 1) 0).toNat ≤ 32 := (bl_le _ _).2 (by omega)
  obtain ⟨s, hs, hs32⟩ : ∃ s : Nat, (32 : Int) - (bl (b.getD ((b.length : Int) - 1).toNat 0).toNat : Int) = s ∧ s ≤ 32 := ⟨32 - bl (b.getD (b.length - 1) 0).toNat, by rw [e1]; omega, by omega⟩
  have hp : 1 ≤ 2 ^ s := Nat.one_le_two_pow
  have hbB := two_words hlb htop hb
  have hV : 4294967296 ≤ nat b * 2 ^ s := by
    have : nat b * 1 ≤ nat b * 2 ^ s := Nat.mul_le_mul_left _ hp
    omega
  have hVA : nat b * 2 ^ s ≤ nat a * 2 ^ s := Nat.mul_le_mul_right _ hle
  obtain ⟨g1, g2, I⟩ := div_start hV hVA
  have hAlen : (dig (nat a * 2 ^ s)).length ≤ 2033 := by
    have h1 := nat_lt ha
    have h2 : (4294967296 : Nat) ^ a.length ≤ 4294967296 ^ 2000 := Nat.pow_le_pow_right (by decide) hla
    have h3 : (dig (nat a)).length ≤ 2000 := by
      have := norm_length_le a
      rw [norm_eq ha] at this
      omega
    have h4 : (dig (nat a * 2 ^ 31)).length ≤ 2001 := dig_mul_le h3 (by decide)
    have h5 : (dig (nat a * 2 ^ 31 * 2)).length ≤ 2002 := dig_mul_le h4 (by decide)
    have h6 : nat a * 2 ^ s ≤ nat a * 2 ^ 31 * 2 := by
      rw [Nat.mul_assoc]
      exact Nat.mul_le_mul_left _ (by
        have : 2 ^ s ≤ 2 ^ 32 := Nat.pow_le_pow_right (by decide) hs32
        omega)
    have h7 := dig_mono h6
    omega
  have hN : (dig (nat a * 2 ^ s) ++ [0, 0]).length = (dig (nat a * 2 ^ s)).length + 2 := by rw [List.length_append]; rfl
  obtain ⟨l2, l3, K, hl⟩ := dv_loop (dig (nat b * 2 ^ s)) s (nat a * 2 ^ s) (dig (nat a * 2 ^ s) ++ [0, 0]).length ((dig (nat a * 2 ^ s)).length + 2 - (dig (nat b * 2 ^ s)).length) (words_dig _) g1 (dig_top (by omega)) (by omega) (by omega) _ _ _ (Nat.le_refl _) I
  have hrem := K.rem
  have hsum := K.sum
  rw [List.drop_zero, nat_dig] at hrem
  rw [nat_dig] at hsum
  have hpos : 0 < nat b * 2 ^ s := by omega
  have hq : nat l2 = nat a / nat b := by
    rw [← Nat.mul_div_mul_right (nat a) (nat b) (show 0 < 2 ^ s by omega), ← hsum, Nat.add_comm, Nat.mul_comm, Nat.add_mul_div_left _ _ hpos, Nat.div_eq_of_lt hrem, Nat.zero_add]
  have hr : nat l3 = nat a % nat b * 2 ^ s := by
    rw [← Nat.mul_mod_mul_right, ← hsum, Nat.add_comm, Nat.mul_comm (nat l2), Nat.add_mul_mod_self_left, Nat.mod_eq_of_lt hrem]
  have hshr : (ShrN (nat l3) s).1 = dig (nat a % nat b) := by
    unfold ShrN
    rw [if_neg (by omega), Int.toNat_natCast, hr, Nat.mul_div_cancel _ (by omega)]
  have k0 := K.len0
  have k1 := K.len1
  generalize hu : dig (nat a * 2 ^ s) ++ [0, 0] = u at *
  generalize hv : dig (nat b * 2 ^ s) = v at *
  generalize hM : (dig (nat a * 2 ^ s)).length + 2 - v.length = M at *
  have m1 : ((u.length : Int) - (v.length : Int) - 1 + 1).toNat = M := by omega
  have m2 : (u.length : Int) - (v.length : Int) - 1 = (M : Int) - 1 := by omega
  have hlim : lim4 = 35184372088832 := rfl
  have hlim2 : lim = 281474976710656 := rfl
  have hloop : LoopTo Try.prog (loopAt Try.f62 0) { n := 143, fr := [(6, AV.v (.int .i64 s)), (7, AV.sl 1 (.ints .u32 v) true), (8, AV.row 18 0 u.length u.length false), (9, AV.v (.int .i64 (v.length : Int))), (11, AV.row 35 0 M M false), (12, AV.v (.int .i64 ((M : Int) - 1)))], hp := [(35, AObj.row 22 1 (.ints .u32 (List.replicate M 0)) 0), (18, AObj.row 22 1 (.ints .u32 u) 0)], nx := 36 } (.exit 0) (dvX0 v s l2 l3 M u.length u.length M) := .raise (by
    show LoopTo _ _ { n := _, fr := _, hp := [(35, .row 22 1 (.ints .u32 (List.replicate M 0)) (List.replicate M (0 : Int)).length), (18, .row 22 1 (.ints .u32 u) u.length)], nx := _ } _ _
    rw [List.length_replicate]
    exact hl)
  rw [← hshr, ← hq, ← norm_eq K.w0]
  cases hlost : (ShrN (nat l3) s).2 with
  | true =>
    have h := divideF2 a b ta tb l2 l3 M u.length u.length M (by
      rw [hs, Int.toNat_natCast s, hu, hv, m1, m2, e1]
      exact ⟨inR64 (by omega) (by omega), by omega, hx.1, hx.2, hb, by omega, by omega, ha, by omega, by omega, by omega, by omega, by rw [decide_eq_false_iff_not]; omega, inR64 (by omega) (by omega), inR64 (by omega) (by omega), inR64 (by omega) (by omega), by omega, by omega, hloop, k1.symm, Nat.le_refl _, K.w1, by omega, by omega, hlost, k0.symm, Nat.le_refl _, by omega, trivial⟩)
    rw [hs] at h
    exact h
  | false =>
    have h := divideF3 a b ta tb l2 l3 M u.length u.length M (by
      rw [hs, Int.toNat_natCast s, hu, hv, m1, m2, e1]
      exact ⟨inR64 (by omega) (by omega), by omega, hx.1, hx.2, hb, by omega, by omega, ha, by omega, by omega, by omega, by omega, by rw [decide_eq_false_iff_not]; omega, inR64 (by omega) (by omega), inR64 (by omega) (by omega), inR64 (by omega) (by omega), by omega, by omega, hloop, k1.symm, Nat.le_refl _, K.w1, by omega, by omega, hlost, k0.symm, Nat.le_refl _, by omega, trivial⟩)
    rw [hs] at h
    exact h

end Go.Proofs.Bn

/- Bignum: divide, in the table. -/
set_option maxRecDepth 100000
namespace Go.Proofs.Bn
open Go Go.Ev

def sigDivide : List AV → Option (AV × List Prop)
  | [.sl 1 (.ints .u32 a) _, .sl 1 (.ints .u32 b) _] => some (.tup [.sl 1 (.ints .u32 (dig (nat a / nat b))) false, .sl 1 (.ints .u32 (dig (nat a % nat b))) false],
      [Words a, Words b, 2 ≤ b.length, b.getD (b.length - 1) 0 ≠ 0, nat b ≤ nat a, a.length ≤ 2000, b.length ≤ 2000])
  | _ => none

noncomputable def SG20 : SGT := (62, .p sigDivide) :: SG19

theorem sok20 : SigsOK Try.prog SG20 := by
  refine sigs_cons sok19 ?_
  intro ys r c h hc
  unfold sigDivide at h
  split at h
  · cases h
    obtain ⟨h1, h2, h3, h4, h5, h6, h7, _⟩ := hc
    exact divide_pure _ _ _ _ h1 h2 h3 h4 h5 h6 h7
  · cases h

end Go.Proofs.Bn

/- Bignum: walks, written by the tool. -/
set_option maxRecDepth 100000
namespace Go.Proofs.Bn
open Go Go.Ev

-- 5 paths
theorem pdivF1 (a b : List Int) (ta tb : Bool) (h : AllP [(over a || over b) = true, a.length < lim, b.length < lim]) : PureTo Try.prog 38 [.sl 1 (.ints .u32 a) ta, .sl 1 (.ints .u32 b) tb] (AV.tup [AV.sl 1 (.ints .u32 []) false, AV.sl 1 (.ints .u32 []) false, AV.v (.int .i64 (3 : Int))]) :=
  evFn_pure hm sok20 (fn := Try.f38) rfl rfl (ti := false) (hs := [CHint.ops 1 [(3, Hint.b true)]]) (c := _) (by kernel_rfl) h
theorem pdivF2 (a b : List Int) (ta tb : Bool) (h : AllP [(over a || over b) = false, a.length < lim, b.length < lim, a.length < lim, b.length < lim, ((↑(norm b).length : Int) == (0 : Int)) = true]) : PureTo Try.prog 38 [.sl 1 (.ints .u32 a) ta, .sl 1 (.ints .u32 b) tb] (AV.tup [AV.sl 1 (.ints .u32 []) false, AV.sl 1 (.ints .u32 []) false, AV.v (.int .i64 (4 : Int))]) :=
  evFn_pure hm sok20 (fn := Try.f38) rfl rfl (ti := false) (hs := [CHint.ops 1 [(3, Hint.b false)], CHint.ops 4 [(2, Hint.b true)]]) (c := _) (by kernel_rfl) h
theorem pdivF3 (a b : List Int) (ta tb : Bool) (h : AllP [(over a || over b) = false, a.length < lim, b.length < lim, a.length < lim, b.length < lim, ((↑(norm b).length : Int) == (0 : Int)) = false, Words (norm a), Words (norm b), (norm a).length < lim, (norm b).length < lim, decide (cmpN (nat (norm a)) (nat (norm b)) < (0 : Int)) = true, (norm a).length ≤ lim4]) : PureTo Try.prog 38 [.sl 1 (.ints .u32 a) ta, .sl 1 (.ints .u32 b) tb] (AV.tup [AV.sl 1 (.ints .u32 []) false, AV.sl 1 (.ints .u32 (norm a)) false, AV.v (.int .i64 (0 : Int))]) :=
  evFn_pure hm sok20 (fn := Try.f38) rfl rfl (ti := false) (hs := [CHint.ops 1 [(3, Hint.b false)], CHint.ops 4 [(2, Hint.b false)], CHint.ops 6 [(3, Hint.b true)]]) (c := _) (by kernel_rfl) h
theorem pdivF4 (a b : List Int) (ta tb : Bool) (h : AllP [(over a || over b) = false, a.length < lim, b.length < lim, a.length < lim, b.length < lim, ((↑(norm b).length : Int) == (0 : Int)) = false, Words (norm a), Words (norm b), (norm a).length < lim, (norm b).length < lim, decide (cmpN (nat (norm a)) (nat (norm b)) < (0 : Int)) = false, ((↑(norm b).length : Int) == (1 : Int)) = true, (0 : Int) ≤ (0 : Int) ∧ (0 : Int) < (↑(norm b).length : Int), Words (norm a), (0 : Int) < (norm b).getD 0 (0 : Int) ∧ (norm b).getD 0 (0 : Int) < (4294967296 : Int), (norm a).length ≤ lim4, inR IntKind.u64 (↑(nat (norm a) % ((norm b).getD 0 (0 : Int)).toNat) : Int), (0 : Int) ≤ (↑(nat (norm a) % ((norm b).getD 0 (0 : Int)).toNat) : Int), (↑(nat (norm a) % ((norm b).getD 0 (0 : Int)).toNat) : Int) < (18446744073709551616 : Int)]) : PureTo Try.prog 38 [.sl 1 (.ints .u32 a) ta, .sl 1 (.ints .u32 b) tb] (AV.tup [AV.sl 1 (.ints .u32 (dig (nat (norm a) / ((norm b).getD 0 (0 : Int)).toNat))) false, AV.sl 1 (.ints .u32 (dig (↑(nat (norm a) % ((norm b).getD 0 (0 : Int)).toNat) : Int).toNat)) false, AV.v (.int .i64 (0 : Int))]) :=
  evFn_pure hm sok20 (fn := Try.f38) rfl rfl (ti := false) (hs := [CHint.ops 1 [(3, Hint.b false)], CHint.ops 4 [(2, Hint.b false)], CHint.ops 6 [(3, Hint.b false)], CHint.ops 8 [(2, Hint.b true)]]) (c := _) (by kernel_rfl) h
theorem pdivF5 (a b : List Int) (ta tb : Bool) (h : AllP [(over a || over b) = false, a.length < lim, b.length < lim, a.length < lim, b.length < lim, ((↑(norm b).length : Int) == (0 : Int)) = false, Words (norm a), Words (norm b), (norm a).length < lim, (norm b).length < lim, decide (cmpN (nat (norm a)) (nat (norm b)) < (0 : Int)) = false, ((↑(norm b).length : Int) == (1 : Int)) = false, Words (norm a), Words (norm b), 2 ≤ (norm b).length, (norm b).getD ((norm b).length - 1) (0 : Int) ≠ (0 : Int), nat (norm b) ≤ nat (norm a), (norm a).length ≤ 2000, (norm b).length ≤ 2000]) : PureTo Try.prog 38 [.sl 1 (.ints .u32 a) ta, .sl 1 (.ints .u32 b) tb] (AV.tup [AV.sl 1 (.ints .u32 (dig (nat (norm a) / nat (norm b)))) false, AV.sl 1 (.ints .u32 (dig (nat (norm a) % nat (norm b)))) false, AV.v (.int .i64 (0 : Int))]) :=
  evFn_pure hm sok20 (fn := Try.f38) rfl rfl (ti := false) (hs := [CHint.ops 1 [(3, Hint.b false)], CHint.ops 4 [(2, Hint.b false)], CHint.ops 6 [(3, Hint.b false)], CHint.ops 8 [(2, Hint.b false)]]) (c := _) (by kernel_rfl) h
end Go.Proofs.Bn

/- Bignum: contracts: Div, ref.Div, ref.Mul. -/
set_option maxRecDepth 100000
namespace Go.Proofs.Bn
open Go Go.Ev

/-- what Div answers -/
def DivN (m n : Nat) : List Int × List Int × Int := if big m || big n then ([], [], 3) else if n = 0 then ([], [], 4) else (dig (m / n), dig (m % n), 0)

theorem dig_lt (m : Nat) : m < 4294967296 ^ (dig m).length := by
  have := nat_lt (words_dig m)
  rw [nat_dig] at this
  exact this

theorem dig_mul_add (m n : Nat) : (dig (m * n)).length ≤ (dig m).length + (dig n).length := by
  refine Nat.le_of_not_lt fun h => ?_
  have h1 := (dig_len _ _).1 h
  rw [Nat.pow_add] at h1
  have h2 := dig_lt m
  have h3 := dig_lt n
  have h4 : m * n < 4294967296 ^ (dig m).length * 4294967296 ^ (dig n).length := Nat.mul_lt_mul_of_lt_of_le h2 (Nat.le_of_lt h3) (Nat.pow_pos (by decide))
  omega

theorem cmp_lt {m n : Nat} : cmpN m n < 0 ↔ m < n := by
  unfold cmpN
  split
  · omega
  · split <;> omega

theorem pdiv_pure (a b : List Int) (ta tb : Bool) (ha : Words a) (hb : Words b) (hla : a.length < lim) (hlb : b.length < lim) :
    PureTo Try.prog 38 [.sl 1 (.ints .u32 a) ta, .sl 1 (.ints .u32 b) tb] (.tup [.sl 1 (.ints .u32 (DivN (nat a) (nat b)).1) false, .sl 1 (.ints .u32 (DivN (nat a) (nat b)).2.1) false, .v (.int .i64 (DivN (nat a) (nat b)).2.2)]) := by
  have hlim : lim4 = 35184372088832 := rfl
  have hlim2 : lim = 281474976710656 := rfl
  unfold DivN
  rw [← over_big ha, ← over_big hb]
  cases ho : (over a || over b) with
  | true => rw [if_pos rfl]; exact pdivF1 a b ta tb ⟨ho, hla, hlb, trivial⟩
  | false =>
    rw [if_neg (by simp)]
    have hoa : big (nat a) = false := by rw [← over_big ha]; simp at ho; exact ho.1
    have hob : big (nat b) = false := by rw [← over_big hb]; simp at ho; exact ho.2
    have la := small_len hoa
    have lb := small_len hob
    have ea := norm_eq ha
    have eb := norm_eq hb
    by_cases h0 : nat b = 0
    · rw [if_pos h0]
      exact pdivF2 a b ta tb ⟨ho, hla, hlb, hla, hlb, by rw [eb, h0, dig_zero]; rfl, trivial⟩
    · rw [if_neg h0]
      have hp := dig_length_pos h0
      have hne : (((norm b).length : Int) == (0 : Int)) = false := by rw [eb, beq_eq_false_iff_ne]; omega
      by_cases hlt : nat a < nat b
      · have h := pdivF3 a b ta tb ⟨ho, hla, hlb, hla, hlb, hne, words_norm ha, words_norm hb, by rw [ea]; omega, by rw [eb]; omega, by rw [nat_norm, nat_norm, decide_eq_true_eq]; exact cmp_lt.2 hlt, by rw [ea]; omega, trivial⟩
        rw [Nat.div_eq_of_lt hlt, Nat.mod_eq_of_lt hlt, dig_zero, ← ea]
        exact h
      · have hcmp : decide (cmpN (nat (norm a)) (nat (norm b)) < (0 : Int)) = false := by rw [nat_norm, nat_norm, decide_eq_false_iff_not]; exact fun h => hlt (cmp_lt.1 h)
        by_cases h1 : (dig (nat b)).length = 1
        · have hsm : nat b < 4294967296 := by
            have := dig_lt (nat b)
            rw [h1, Nat.pow_one] at this
            exact this
          have hd := dig_one h0 hsm
          have hg : (norm b).getD 0 0 = (nat b : Int) := by rw [eb, hd]; rfl
          have hm := Nat.mod_lt (nat a) (show nat b > 0 by omega)
          have h := pdivF4 a b ta tb (by
            rw [hg, Int.toNat_natCast, nat_norm]
            exact ⟨ho, hla, hlb, hla, hlb, hne, words_norm ha, words_norm hb, by rw [ea]; omega, by rw [eb]; omega, by rw [nat_norm] at hcmp; exact hcmp, by rw [eb, h1]; rfl, by rw [eb, h1]; omega, words_norm ha, by omega, by rw [ea]; omega, inRu64 (Int.natCast_nonneg _) (by omega), Int.natCast_nonneg _, by omega, trivial⟩)
          rw [hg, Int.toNat_natCast, nat_norm, Int.toNat_natCast] at h
          exact h
        · have h := pdivF5 a b ta tb ⟨ho, hla, hlb, hla, hlb, hne, words_norm ha, words_norm hb, by rw [ea]; omega, by rw [eb]; omega, hcmp, by rw [eb, beq_eq_false_iff_ne]; omega, words_norm ha, words_norm hb, by rw [eb]; omega, by rw [eb]; exact dig_top h0,
            by rw [nat_norm, nat_norm]; omega, by rw [ea]; omega, by rw [eb]; omega, trivial⟩
          rw [nat_norm, nat_norm] at h
          exact h

theorem rdiv_pure (a b : List Int) (ta tb : Bool) (ha : Words a) (hb : Words b) (hla : a.length ≤ lim4) (hlb : b.length ≤ lim4) :
    PureTo Try.prog 39 [.sl 1 (.ints .u32 a) ta, .sl 1 (.ints .u32 b) tb] (.tup [.sl 1 (.ints .u32 (DivN (nat a) (nat b)).1) false, .sl 1 (.ints .u32 (DivN (nat a) (nat b)).2.1) false, .v (.int .i64 (DivN (nat a) (nat b)).2.2)]) := by
  unfold DivN
  rw [← over_big ha, ← over_big hb]
  cases hoa : over a with
  | true => rw [Bool.true_or, if_pos rfl]; exact rdivF1 a b ta tb ⟨hoa, hla, trivial⟩
  | false =>
    rw [Bool.false_or]
    cases hob : over b with
    | true => rw [if_pos rfl]; exact rdivF2 a b ta tb ⟨hoa, hla, hob, hlb, trivial⟩
    | false =>
      rw [if_neg (by simp)]
      have la := small_len (by rw [← over_big ha]; exact hoa : big (nat a) = false)
      have lb := small_len (by rw [← over_big hb]; exact hob : big (nat b) = false)
      by_cases h0 : nat b = 0
      · rw [if_pos h0]
        exact rdivF3 a b ta tb ⟨hoa, hla, hob, hlb, hb, hlb, by rw [bl_zero.2 h0]; rfl, trivial⟩
      · rw [if_neg h0]
        have hbl : bl (nat b) ≠ 0 := fun h => h0 (bl_zero.1 h)
        have h := rdivF4 a b ta tb ⟨hoa, hla, hob, hlb, hb, hlb, by rw [beq_eq_false_iff_ne]; omega, hla, hlb, words_norm ha, by rw [nat_norm]; exact norm_eq hb, by rw [nat_norm]; omega, by rw [norm_eq ha]; omega, by rw [norm_eq hb]; omega, trivial⟩
        rw [nat_norm, nat_norm] at h
        exact h

theorem rmul_pure (a b : List Int) (ta tb : Bool) (ha : Words a) (hb : Words b) (hla : a.length ≤ lim4) (hlb : b.length ≤ lim4) :
    PureTo Try.prog 37 [.sl 1 (.ints .u32 a) ta, .sl 1 (.ints .u32 b) tb] (.tup [.sl 1 (.ints .u32 (Mul (nat a) (nat b)).1) false, .v (.int .i64 (Mul (nat a) (nat b)).2)]) := by
  have hlim : lim4 = 35184372088832 := rfl
  unfold Mul
  rw [← over_big ha, ← over_big hb]
  cases hoa : over a with
  | true => rw [Bool.true_or, Bool.true_or, if_pos rfl]; exact rmulF1 a b ta tb ⟨hoa, hla, trivial⟩
  | false =>
    cases hob : over b with
    | true => rw [Bool.false_or, Bool.true_or, if_pos rfl]; exact rmulF2 a b ta tb ⟨hoa, hla, hob, hlb, trivial⟩
    | false =>
      rw [Bool.false_or, Bool.false_or]
      have la := small_len (by rw [← over_big ha]; exact hoa : big (nat a) = false)
      have lb := small_len (by rw [← over_big hb]; exact hob : big (nat b) = false)
      have lm := dig_mul_add (nat a) (nat b)
      have h := rmulF3 a b ta tb ⟨hoa, hla, hob, hlb, hla, hlb, words_norm ha, words_norm hb, by rw [norm_eq ha, norm_eq hb]; omega, words_dig _, by rw [nat_norm, nat_norm]; omega, trivial⟩
      rw [nat_norm, nat_norm, nat_dig] at h
      cases hm : big (nat a * nat b) with
      | true => rw [hm] at h; exact h
      | false => rw [hm] at h; exact h

def sigDiv : List AV → Option (AV × List Prop)
  | [.sl 1 (.ints .u32 a) _, .sl 1 (.ints .u32 b) _] => some (.tup [.sl 1 (.ints .u32 (DivN (nat a) (nat b)).1) false, .sl 1 (.ints .u32 (DivN (nat a) (nat b)).2.1) false, .v (.int .i64 (DivN (nat a) (nat b)).2.2)], [Words a, Words b, a.length ≤ lim4, b.length ≤ lim4])
  | _ => none
def sigRMul : List AV → Option (AV × List Prop)
  | [.sl 1 (.ints .u32 a) _, .sl 1 (.ints .u32 b) _] => some (.tup [.sl 1 (.ints .u32 (Mul (nat a) (nat b)).1) false, .v (.int .i64 (Mul (nat a) (nat b)).2)], [Words a, Words b, a.length ≤ lim4, b.length ≤ lim4])
  | _ => none

noncomputable def SG21 : SGT := (38, .p sigDiv) :: (39, .p sigDiv) :: (37, .p sigRMul) :: SG20

theorem sok21 : SigsOK Try.prog SG21 := by
  refine sigs_cons (sigs_cons (sigs_cons sok20 ?_) ?_) ?_
  · intro ys r c h hc
    unfold sigRMul at h
    split at h
    · cases h; exact rmul_pure _ _ _ _ hc.1 hc.2.1 hc.2.2.1 hc.2.2.2.1
    · cases h
  · intro ys r c h hc
    unfold sigDiv at h
    split at h
    · cases h; exact rdiv_pure _ _ _ _ hc.1 hc.2.1 hc.2.2.1 hc.2.2.2.1
    · cases h
  · intro ys r c h hc
    unfold sigDiv at h
    split at h
    · cases h; exact pdiv_pure _ _ _ _ hc.1 hc.2.1 (lim4_lt hc.2.2.1) (lim4_lt hc.2.2.2.1)
    · cases h

end Go.Proofs.Bn

/- Bignum: walks, written by the tool. -/
set_option maxRecDepth 100000
namespace Go.Proofs.Bn
open Go Go.Ev

-- 1 paths
theorem productsF1 (a b : List Int) (h : AllP [a.length ≤ lim4, b.length ≤ lim4, Words a, Words b, a.length < lim, b.length < lim, Words a, Words b, a.length ≤ lim4, b.length ≤ lim4, a.length ≤ lim4, b.length ≤ lim4, Words a, Words b, a.length ≤ lim4, b.length ≤ lim4, Words a, Words b, a.length ≤ lim4, b.length ≤ lim4, decide ((Bn.Mul (nat a) (nat b)).fst = (Bn.Mul (nat a) (nat b)).fst) = true, (Bn.Mul (nat a) (nat b)).fst.length < lim, ((Bn.Mul (nat a) (nat b)).snd == (Bn.Mul (nat a) (nat b)).snd) = true, decide ((DivN (nat a) (nat b)).fst = (DivN (nat a) (nat b)).fst) = true, (DivN (nat a) (nat b)).fst.length < lim, decide ((DivN (nat a) (nat b)).snd.fst = (DivN (nat a) (nat b)).snd.fst) = true, (DivN (nat a) (nat b)).snd.fst.length < lim, ((DivN (nat a) (nat b)).snd.snd == (DivN (nat a) (nat b)).snd.snd) = true]) : PureTo Try.prog 9 [.sl 1 (.ints .u32 a) false, .sl 1 (.ints .u32 b) false] (AV.v (.bool true)) :=
  evFn_pure hm sok21 (fn := Try.f9) rfl rfl (ti := false) (hs := [CHint.ops 5 [(2, Hint.b true), (6, Hint.b true), (11, Hint.b true), (16, Hint.b true), (21, Hint.b true)]]) (c := _) (by kernel_rfl) h
-- 16 paths
theorem restsF1 (a b : List Int) (n : Int) (h : AllP [decide ((↑a.length : Int) > (400 : Int)) = true]) : PureTo Try.prog 10 [.sl 1 (.ints .u32 a) false, .sl 1 (.ints .u32 b) false, .v (.int .u8 n)] (AV.v (.bool true)) :=
  evFn_pure hm sok21 (fn := Try.f10) rfl rfl (ti := false) (hs := [CHint.ops 1 [(2, Hint.b true)]]) (c := _) (by kernel_rfl) h
theorem restsF2 (a b : List Int) (n : Int) (h : AllP [decide ((↑a.length : Int) > (400 : Int)) = false, decide ((↑b.length : Int) > (400 : Int)) = true]) : PureTo Try.prog 10 [.sl 1 (.ints .u32 a) false, .sl 1 (.ints .u32 b) false, .v (.int .u8 n)] (AV.v (.bool true)) :=
  evFn_pure hm sok21 (fn := Try.f10) rfl rfl (ti := false) (hs := [CHint.ops 1 [(2, Hint.b false), (6, Hint.b true)]]) (c := _) (by kernel_rfl) h
theorem restsF3 (a b : List Int) (n : Int) (h : AllP [decide ((↑a.length : Int) > (400 : Int)) = false, decide ((↑b.length : Int) > (400 : Int)) = false, Words b, b.length ≤ lim4, ((↑(bl (nat b)) : Int) == (0 : Int)) = true]) : PureTo Try.prog 10 [.sl 1 (.ints .u32 a) false, .sl 1 (.ints .u32 b) false, .v (.int .u8 n)] (AV.v (.bool true)) :=
  evFn_pure hm sok21 (fn := Try.f10) rfl rfl (ti := false) (hs := [CHint.ops 1 [(2, Hint.b false), (6, Hint.b false), (11, Hint.b true)]]) (c := _) (by kernel_rfl) h
theorem restsF4 (a b : List Int) (n : Int) (h : AllP [decide ((↑a.length : Int) > (400 : Int)) = false, decide ((↑b.length : Int) > (400 : Int)) = false, Words b, b.length ≤ lim4, ((↑(bl (nat b)) : Int) == (0 : Int)) = false, a.length ≤ lim4, b.length ≤ lim4, Words a, Words b, a.length ≤ lim4, b.length ≤ lim4, (DivN (nat a) (nat b)).fst.length ≤ lim4, b.length ≤ lim4, Words (DivN (nat a) (nat b)).fst, Words b, (DivN (nat a) (nat b)).fst.length < lim, b.length < lim, (Bn.Mul (nat (DivN (nat a) (nat b)).fst) (nat b)).fst.length ≤ lim4, (DivN (nat a) (nat b)).snd.fst.length ≤ lim4, Words (Bn.Mul (nat (DivN (nat a) (nat b)).fst) (nat b)).fst, Words (DivN (nat a) (nat b)).snd.fst, (Bn.Mul (nat (DivN (nat a) (nat b)).fst) (nat b)).fst.length < lim, (DivN (nat a) (nat b)).snd.fst.length < lim, a.length ≤ lim4, inR IntKind.i64 n, Words a, a.length ≤ lim4, (ShlN (nat a) n).fst.length ≤ lim4, inR IntKind.i64 n, Words (ShlN (nat a) n).fst, (ShlN (nat a) n).fst.length ≤ lim4, n ≤ (9223372036854775807 : Int), (ShrN (nat (ShlN (nat a) n).fst) n).snd = true, ((DivN (nat a) (nat b)).snd.snd != (0 : Int)) = true]) : PureTo Try.prog 10 [.sl 1 (.ints .u32 a) false, .sl 1 (.ints .u32 b) false, .v (.int .u8 n)] (AV.v (.bool false)) :=
  evFn_pure hm sok21 (fn := Try.f10) rfl rfl (ti := false) (hs := [CHint.ops 1 [(2, Hint.b false), (6, Hint.b false), (11, Hint.b false)], CHint.ops 7 [(7, Hint.b true)], CHint.ops 8 [(1, Hint.b true)]]) (c := _) (by kernel_rfl) h
theorem restsF5 (a b : List Int) (n : Int) (h : AllP [decide ((↑a.length : Int) > (400 : Int)) = false, decide ((↑b.length : Int) > (400 : Int)) = false, Words b, b.length ≤ lim4, ((↑(bl (nat b)) : Int) == (0 : Int)) = false, a.length ≤ lim4, b.length ≤ lim4, Words a, Words b, a.length ≤ lim4, b.length ≤ lim4, (DivN (nat a) (nat b)).fst.length ≤ lim4, b.length ≤ lim4, Words (DivN (nat a) (nat b)).fst, Words b, (DivN (nat a) (nat b)).fst.length < lim, b.length < lim, (Bn.Mul (nat (DivN (nat a) (nat b)).fst) (nat b)).fst.length ≤ lim4, (DivN (nat a) (nat b)).snd.fst.length ≤ lim4, Words (Bn.Mul (nat (DivN (nat a) (nat b)).fst) (nat b)).fst, Words (DivN (nat a) (nat b)).snd.fst, (Bn.Mul (nat (DivN (nat a) (nat b)).fst) (nat b)).fst.length < lim, (DivN (nat a) (nat b)).snd.fst.length < lim, a.length ≤ lim4, inR IntKind.i64 n, Words a, a.length ≤ lim4, (ShlN (nat a) n).fst.length ≤ lim4, inR IntKind.i64 n, Words (ShlN (nat a) n).fst, (ShlN (nat a) n).fst.length ≤ lim4, n ≤ (9223372036854775807 : Int), (ShrN (nat (ShlN (nat a) n).fst) n).snd = true, ((DivN (nat a) (nat b)).snd.snd != (0 : Int)) = false, ((Bn.Mul (nat (DivN (nat a) (nat b)).fst) (nat b)).snd != (0 : Int)) = true]) : PureTo Try.prog 10 [.sl 1 (.ints .u32 a) false, .sl 1 (.ints .u32 b) false, .v (.int .u8 n)] (AV.v (.bool false)) :=
  evFn_pure hm sok21 (fn := Try.f10) rfl rfl (ti := false) (hs := [CHint.ops 1 [(2, Hint.b false), (6, Hint.b false), (11, Hint.b false)], CHint.ops 7 [(7, Hint.b true)], CHint.ops 8 [(1, Hint.b false), (4, Hint.b true)]]) (c := _) (by kernel_rfl) h
theorem restsF6 (a b : List Int) (n : Int) (h : AllP [decide ((↑a.length : Int) > (400 : Int)) = false, decide ((↑b.length : Int) > (400 : Int)) = false, Words b, b.length ≤ lim4, ((↑(bl (nat b)) : Int) == (0 : Int)) = false, a.length ≤ lim4, b.length ≤ lim4, Words a, Words b, a.length ≤ lim4, b.length ≤ lim4, (DivN (nat a) (nat b)).fst.length ≤ lim4, b.length ≤ lim4, Words (DivN (nat a) (nat b)).fst, Words b, (DivN (nat a) (nat b)).fst.length < lim, b.length < lim, (Bn.Mul (nat (DivN (nat a) (nat b)).fst) (nat b)).fst.length ≤ lim4, (DivN (nat a) (nat b)).snd.fst.length ≤ lim4, Words (Bn.Mul (nat (DivN (nat a) (nat b)).fst) (nat b)).fst, Words (DivN (nat a) (nat b)).snd.fst, (Bn.Mul (nat (DivN (nat a) (nat b)).fst) (nat b)).fst.length < lim, (DivN (nat a) (nat b)).snd.fst.length < lim, a.length ≤ lim4, inR IntKind.i64 n, Words a, a.length ≤ lim4, (ShlN (nat a) n).fst.length ≤ lim4, inR IntKind.i64 n, Words (ShlN (nat a) n).fst, (ShlN (nat a) n).fst.length ≤ lim4, n ≤ (9223372036854775807 : Int), (ShrN (nat (ShlN (nat a) n).fst) n).snd = true, ((DivN (nat a) (nat b)).snd.snd != (0 : Int)) = false, ((Bn.Mul (nat (DivN (nat a) (nat b)).fst) (nat b)).snd != (0 : Int)) = false, ((AddN (nat (Bn.Mul (nat (DivN (nat a) (nat b)).fst) (nat b)).fst) (nat (DivN (nat a) (nat b)).snd.fst)).snd != (0 : Int)) = true]) : PureTo Try.prog 10 [.sl 1 (.ints .u32 a) false, .sl 1 (.ints .u32 b) false, .v (.int .u8 n)] (AV.v (.bool false)) :=
  evFn_pure hm sok21 (fn := Try.f10) rfl rfl (ti := false) (hs := [CHint.ops 1 [(2, Hint.b false), (6, Hint.b false), (11, Hint.b false)], CHint.ops 7 [(7, Hint.b true)], CHint.ops 8 [(1, Hint.b false), (4, Hint.b false), (8, Hint.b true)]]) (c := _) (by kernel_rfl) h
theorem restsF7 (a b : List Int) (n : Int) (h : AllP [decide ((↑a.length : Int) > (400 : Int)) = false, decide ((↑b.length : Int) > (400 : Int)) = false, Words b, b.length ≤ lim4, ((↑(bl (nat b)) : Int) == (0 : Int)) = false, a.length ≤ lim4, b.length ≤ lim4, Words a, Words b, a.length ≤ lim4, b.length ≤ lim4, (DivN (nat a) (nat b)).fst.length ≤ lim4, b.length ≤ lim4, Words (DivN (nat a) (nat b)).fst, Words b, (DivN (nat a) (nat b)).fst.length < lim, b.length < lim, (Bn.Mul (nat (DivN (nat a) (nat b)).fst) (nat b)).fst.length ≤ lim4, (DivN (nat a) (nat b)).snd.fst.length ≤ lim4, Words (Bn.Mul (nat (DivN (nat a) (nat b)).fst) (nat b)).fst, Words (DivN (nat a) (nat b)).snd.fst, (Bn.Mul (nat (DivN (nat a) (nat b)).fst) (nat b)).fst.length < lim, (DivN (nat a) (nat b)).snd.fst.length < lim, a.length ≤ lim4, inR IntKind.i64 n, Words a, a.length ≤ lim4, (ShlN (nat a) n).fst.length ≤ lim4, inR IntKind.i64 n, Words (ShlN (nat a) n).fst, (ShlN (nat a) n).fst.length ≤ lim4, n ≤ (9223372036854775807 : Int), (ShrN (nat (ShlN (nat a) n).fst) n).snd = true, ((DivN (nat a) (nat b)).snd.snd != (0 : Int)) = false, ((Bn.Mul (nat (DivN (nat a) (nat b)).fst) (nat b)).snd != (0 : Int)) = false, ((AddN (nat (Bn.Mul (nat (DivN (nat a) (nat b)).fst) (nat b)).fst) (nat (DivN (nat a) (nat b)).snd.fst)).snd != (0 : Int)) = false, ((ShlN (nat a) n).snd != (0 : Int)) = true]) : PureTo Try.prog 10 [.sl 1 (.ints .u32 a) false, .sl 1 (.ints .u32 b) false, .v (.int .u8 n)] (AV.v (.bool false)) :=
  evFn_pure hm sok21 (fn := Try.f10) rfl rfl (ti := false) (hs := [CHint.ops 1 [(2, Hint.b false), (6, Hint.b false), (11, Hint.b false)], CHint.ops 7 [(7, Hint.b true)], CHint.ops 8 [(1, Hint.b false), (4, Hint.b false), (8, Hint.b false), (12, Hint.b true)]]) (c := _) (by kernel_rfl) h
theorem restsF8 (a b : List Int) (n : Int) (h : AllP [decide ((↑a.length : Int) > (400 : Int)) = false, decide ((↑b.length : Int) > (400 : Int)) = false, Words b, b.length ≤ lim4, ((↑(bl (nat b)) : Int) == (0 : Int)) = false, a.length ≤ lim4, b.length ≤ lim4, Words a, Words b, a.length ≤ lim4, b.length ≤ lim4, (DivN (nat a) (nat b)).fst.length ≤ lim4, b.length ≤ lim4, Words (DivN (nat a) (nat b)).fst, Words b, (DivN (nat a) (nat b)).fst.length < lim, b.length < lim, (Bn.Mul (nat (DivN (nat a) (nat b)).fst) (nat b)).fst.length ≤ lim4, (DivN (nat a) (nat b)).snd.fst.length ≤ lim4, Words (Bn.Mul (nat (DivN (nat a) (nat b)).fst) (nat b)).fst, Words (DivN (nat a) (nat b)).snd.fst, (Bn.Mul (nat (DivN (nat a) (nat b)).fst) (nat b)).fst.length < lim, (DivN (nat a) (nat b)).snd.fst.length < lim, a.length ≤ lim4, inR IntKind.i64 n, Words a, a.length ≤ lim4, (ShlN (nat a) n).fst.length ≤ lim4, inR IntKind.i64 n, Words (ShlN (nat a) n).fst, (ShlN (nat a) n).fst.length ≤ lim4, n ≤ (9223372036854775807 : Int), (ShrN (nat (ShlN (nat a) n).fst) n).snd = true, ((DivN (nat a) (nat b)).snd.snd != (0 : Int)) = false, ((Bn.Mul (nat (DivN (nat a) (nat b)).fst) (nat b)).snd != (0 : Int)) = false, ((AddN (nat (Bn.Mul (nat (DivN (nat a) (nat b)).fst) (nat b)).fst) (nat (DivN (nat a) (nat b)).snd.fst)).snd != (0 : Int)) = false, ((ShlN (nat a) n).snd != (0 : Int)) = false]) : PureTo Try.prog 10 [.sl 1 (.ints .u32 a) false, .sl 1 (.ints .u32 b) false, .v (.int .u8 n)] (AV.v (.bool false)) :=
  evFn_pure hm sok21 (fn := Try.f10) rfl rfl (ti := false) (hs := [CHint.ops 1 [(2, Hint.b false), (6, Hint.b false), (11, Hint.b false)], CHint.ops 7 [(7, Hint.b true)], CHint.ops 8 [(1, Hint.b false), (4, Hint.b false), (8, Hint.b false), (12, Hint.b false)]]) (c := _) (by kernel_rfl) h
theorem restsF9 (a b : List Int) (n : Int) (h : AllP [decide ((↑a.length : Int) > (400 : Int)) = false, decide ((↑b.length : Int) > (400 : Int)) = false, Words b, b.length ≤ lim4, ((↑(bl (nat b)) : Int) == (0 : Int)) = false, a.length ≤ lim4, b.length ≤ lim4, Words a, Words b, a.length ≤ lim4, b.length ≤ lim4, (DivN (nat a) (nat b)).fst.length ≤ lim4, b.length ≤ lim4, Words (DivN (nat a) (nat b)).fst, Words b, (DivN (nat a) (nat b)).fst.length < lim, b.length < lim, (Bn.Mul (nat (DivN (nat a) (nat b)).fst) (nat b)).fst.length ≤ lim4, (DivN (nat a) (nat b)).snd.fst.length ≤ lim4, Words (Bn.Mul (nat (DivN (nat a) (nat b)).fst) (nat b)).fst, Words (DivN (nat a) (nat b)).snd.fst, (Bn.Mul (nat (DivN (nat a) (nat b)).fst) (nat b)).fst.length < lim, (DivN (nat a) (nat b)).snd.fst.length < lim, a.length ≤ lim4, inR IntKind.i64 n, Words a, a.length ≤ lim4, (ShlN (nat a) n).fst.length ≤ lim4, inR IntKind.i64 n, Words (ShlN (nat a) n).fst, (ShlN (nat a) n).fst.length ≤ lim4, n ≤ (9223372036854775807 : Int), (ShrN (nat (ShlN (nat a) n).fst) n).snd = false, ((DivN (nat a) (nat b)).snd.snd != (0 : Int)) = true]) : PureTo Try.prog 10 [.sl 1 (.ints .u32 a) false, .sl 1 (.ints .u32 b) false, .v (.int .u8 n)] (AV.v (.bool false)) :=
  evFn_pure hm sok21 (fn := Try.f10) rfl rfl (ti := false) (hs := [CHint.ops 1 [(2, Hint.b false), (6, Hint.b false), (11, Hint.b false)], CHint.ops 7 [(7, Hint.b false)], CHint.ops 8 [(1, Hint.b true)]]) (c := _) (by kernel_rfl) h
theorem restsF10 (a b : List Int) (n : Int) (h : AllP [decide ((↑a.length : Int) > (400 : Int)) = false, decide ((↑b.length : Int) > (400 : Int)) = false, Words b, b.length ≤ lim4, ((↑(bl (nat b)) : Int) == (0 : Int)) = false, a.length ≤ lim4, b.length ≤ lim4, Words a, Words b, a.length ≤ lim4, b.length ≤ lim4, (DivN (nat a) (nat b)).fst.length ≤ lim4, b.length ≤ lim4, Words (DivN (nat a) (nat b)).fst, Words b, (DivN (nat a) (nat b)).fst.length < lim, b.length < lim, (Bn.Mul (nat (DivN (nat a) (nat b)).fst) (nat b)).fst.length ≤ lim4, (DivN (nat a) (nat b)).snd.fst.length ≤ lim4, Words (Bn.Mul (nat (DivN (nat a) (nat b)).fst) (nat b)).fst, Words (DivN (nat a) (nat b)).snd.fst, (Bn.Mul (nat (DivN (nat a) (nat b)).fst) (nat b)).fst.length < lim, (DivN (nat a) (nat b)).snd.fst.length < lim, a.length ≤ lim4, inR IntKind.i64 n, Words a, a.length ≤ lim4, (ShlN (nat a) n).fst.length ≤ lim4, inR IntKind.i64 n, Words (ShlN (nat a) n).fst, (ShlN (nat a) n).fst.length ≤ lim4, n ≤ (9223372036854775807 : Int), (ShrN (nat (ShlN (nat a) n).fst) n).snd = false, ((DivN (nat a) (nat b)).snd.snd != (0 : Int)) = false, ((Bn.Mul (nat (DivN (nat a) (nat b)).fst) (nat b)).snd != (0 : Int)) = true]) : PureTo Try.prog 10 [.sl 1 (.ints .u32 a) false, .sl 1 (.ints .u32 b) false, .v (.int .u8 n)] (AV.v (.bool false)) :=
  evFn_pure hm sok21 (fn := Try.f10) rfl rfl (ti := false) (hs := [CHint.ops 1 [(2, Hint.b false), (6, Hint.b false), (11, Hint.b false)], CHint.ops 7 [(7, Hint.b false)], CHint.ops 8 [(1, Hint.b false), (4, Hint.b true)]]) (c := _) (by kernel_rfl) h
theorem restsF11 (a b : List Int) (n : Int) (h : AllP [decide ((↑a.length : Int) > (400 : Int)) = false, decide ((↑b.length : Int) > (400 : Int)) = false, Words b, b.length ≤ lim4, ((↑(bl (nat b)) : Int) == (0 : Int)) = false, a.length ≤ lim4, b.length ≤ lim4, Words a, Words b, a.length ≤ lim4, b.length ≤ lim4, (DivN (nat a) (nat b)).fst.length ≤ lim4, b.length ≤ lim4, Words (DivN (nat a) (nat b)).fst, Words b, (DivN (nat a) (nat b)).fst.length < lim, b.length < lim, (Bn.Mul (nat (DivN (nat a) (nat b)).fst) (nat b)).fst.length ≤ lim4, (DivN (nat a) (nat b)).snd.fst.length ≤ lim4, Words (Bn.Mul (nat (DivN (nat a) (nat b)).fst) (nat b)).fst, Words (DivN (nat a) (nat b)).snd.fst, (Bn.Mul (nat (DivN (nat a) (nat b)).fst) (nat b)).fst.length < lim, (DivN (nat a) (nat b)).snd.fst.length < lim, a.length ≤ lim4, inR IntKind.i64 n, Words a, a.length ≤ lim4, (ShlN (nat a) n).fst.length ≤ lim4, inR IntKind.i64 n, Words (ShlN (nat a) n).fst, (ShlN (nat a) n).fst.length ≤ lim4, n ≤ (9223372036854775807 : Int), (ShrN (nat (ShlN (nat a) n).fst) n).snd = false, ((DivN (nat a) (nat b)).snd.snd != (0 : Int)) = false, ((Bn.Mul (nat (DivN (nat a) (nat b)).fst) (nat b)).snd != (0 : Int)) = false, ((AddN (nat (Bn.Mul (nat (DivN (nat a) (nat b)).fst) (nat b)).fst) (nat (DivN (nat a) (nat b)).snd.fst)).snd != (0 : Int)) = true]) : PureTo Try.prog 10 [.sl 1 (.ints .u32 a) false, .sl 1 (.ints .u32 b) false, .v (.int .u8 n)] (AV.v (.bool false)) :=
  evFn_pure hm sok21 (fn := Try.f10) rfl rfl (ti := false) (hs := [CHint.ops 1 [(2, Hint.b false), (6, Hint.b false), (11, Hint.b false)], CHint.ops 7 [(7, Hint.b false)], CHint.ops 8 [(1, Hint.b false), (4, Hint.b false), (8, Hint.b true)]]) (c := _) (by kernel_rfl) h
theorem restsF12 (a b : List Int) (n : Int) (h : AllP [decide ((↑a.length : Int) > (400 : Int)) = false, decide ((↑b.length : Int) > (400 : Int)) = false, Words b, b.length ≤ lim4, ((↑(bl (nat b)) : Int) == (0 : Int)) = false, a.length ≤ lim4, b.length ≤ lim4, Words a, Words b, a.length ≤ lim4, b.length ≤ lim4, (DivN (nat a) (nat b)).fst.length ≤ lim4, b.length ≤ lim4, Words (DivN (nat a) (nat b)).fst, Words b, (DivN (nat a) (nat b)).fst.length < lim, b.length < lim, (Bn.Mul (nat (DivN (nat a) (nat b)).fst) (nat b)).fst.length ≤ lim4, (DivN (nat a) (nat b)).snd.fst.length ≤ lim4, Words (Bn.Mul (nat (DivN (nat a) (nat b)).fst) (nat b)).fst, Words (DivN (nat a) (nat b)).snd.fst, (Bn.Mul (nat (DivN (nat a) (nat b)).fst) (nat b)).fst.length < lim, (DivN (nat a) (nat b)).snd.fst.length < lim, a.length ≤ lim4, inR IntKind.i64 n, Words a, a.length ≤ lim4, (ShlN (nat a) n).fst.length ≤ lim4, inR IntKind.i64 n, Words (ShlN (nat a) n).fst, (ShlN (nat a) n).fst.length ≤ lim4, n ≤ (9223372036854775807 : Int), (ShrN (nat (ShlN (nat a) n).fst) n).snd = false, ((DivN (nat a) (nat b)).snd.snd != (0 : Int)) = false, ((Bn.Mul (nat (DivN (nat a) (nat b)).fst) (nat b)).snd != (0 : Int)) = false, ((AddN (nat (Bn.Mul (nat (DivN (nat a) (nat b)).fst) (nat b)).fst) (nat (DivN (nat a) (nat b)).snd.fst)).snd != (0 : Int)) = false, ((ShlN (nat a) n).snd != (0 : Int)) = true]) : PureTo Try.prog 10 [.sl 1 (.ints .u32 a) false, .sl 1 (.ints .u32 b) false, .v (.int .u8 n)] (AV.v (.bool false)) :=
  evFn_pure hm sok21 (fn := Try.f10) rfl rfl (ti := false) (hs := [CHint.ops 1 [(2, Hint.b false), (6, Hint.b false), (11, Hint.b false)], CHint.ops 7 [(7, Hint.b false)], CHint.ops 8 [(1, Hint.b false), (4, Hint.b false), (8, Hint.b false), (12, Hint.b true)]]) (c := _) (by kernel_rfl) h
theorem restsF13 (a b : List Int) (n : Int) (h : AllP [decide ((↑a.length : Int) > (400 : Int)) = false, decide ((↑b.length : Int) > (400 : Int)) = false, Words b, b.length ≤ lim4, ((↑(bl (nat b)) : Int) == (0 : Int)) = false, a.length ≤ lim4, b.length ≤ lim4, Words a, Words b, a.length ≤ lim4, b.length ≤ lim4, (DivN (nat a) (nat b)).fst.length ≤ lim4, b.length ≤ lim4, Words (DivN (nat a) (nat b)).fst, Words b, (DivN (nat a) (nat b)).fst.length < lim, b.length < lim, (Bn.Mul (nat (DivN (nat a) (nat b)).fst) (nat b)).fst.length ≤ lim4, (DivN (nat a) (nat b)).snd.fst.length ≤ lim4, Words (Bn.Mul (nat (DivN (nat a) (nat b)).fst) (nat b)).fst, Words (DivN (nat a) (nat b)).snd.fst, (Bn.Mul (nat (DivN (nat a) (nat b)).fst) (nat b)).fst.length < lim, (DivN (nat a) (nat b)).snd.fst.length < lim, a.length ≤ lim4, inR IntKind.i64 n, Words a, a.length ≤ lim4, (ShlN (nat a) n).fst.length ≤ lim4, inR IntKind.i64 n, Words (ShlN (nat a) n).fst, (ShlN (nat a) n).fst.length ≤ lim4, n ≤ (9223372036854775807 : Int), (ShrN (nat (ShlN (nat a) n).fst) n).snd = false, ((DivN (nat a) (nat b)).snd.snd != (0 : Int)) = false, ((Bn.Mul (nat (DivN (nat a) (nat b)).fst) (nat b)).snd != (0 : Int)) = false, ((AddN (nat (Bn.Mul (nat (DivN (nat a) (nat b)).fst) (nat b)).fst) (nat (DivN (nat a) (nat b)).snd.fst)).snd != (0 : Int)) = false, ((ShlN (nat a) n).snd != (0 : Int)) = false, a.length ≤ lim4, decide ((AddN (nat (Bn.Mul (nat (DivN (nat a) (nat b)).fst) (nat b)).fst) (nat (DivN (nat a) (nat b)).snd.fst)).fst = norm a) = true, (AddN (nat (Bn.Mul (nat (DivN (nat a) (nat b)).fst) (nat b)).fst) (nat (DivN (nat a) (nat b)).snd.fst)).fst.length < lim, Words (DivN (nat a) (nat b)).snd.fst, Words b, (DivN (nat a) (nat b)).snd.fst.length < lim, b.length < lim, decide (cmpN (nat (DivN (nat a) (nat b)).snd.fst) (nat b) < (0 : Int)) = true, a.length ≤ lim4, decide ((ShrN (nat (ShlN (nat a) n).fst) n).fst = norm a) = true, (ShrN (nat (ShlN (nat a) n).fst) n).fst.length < lim]) : PureTo Try.prog 10 [.sl 1 (.ints .u32 a) false, .sl 1 (.ints .u32 b) false, .v (.int .u8 n)] (AV.v (.bool true)) :=
  evFn_pure hm sok21 (fn := Try.f10) rfl rfl (ti := false) (hs := [CHint.ops 1 [(2, Hint.b false), (6, Hint.b false), (11, Hint.b false)], CHint.ops 7 [(7, Hint.b false)], CHint.ops 8 [(1, Hint.b false), (4, Hint.b false), (8, Hint.b false), (12, Hint.b false)], CHint.ops 10 [(3, Hint.b true), (8, Hint.b true), (14, Hint.b true)]]) (c := _) (by kernel_rfl) h
theorem restsF14 (a b : List Int) (n : Int) (h : AllP [decide ((↑a.length : Int) > (400 : Int)) = false, decide ((↑b.length : Int) > (400 : Int)) = false, Words b, b.length ≤ lim4, ((↑(bl (nat b)) : Int) == (0 : Int)) = false, a.length ≤ lim4, b.length ≤ lim4, Words a, Words b, a.length ≤ lim4, b.length ≤ lim4, (DivN (nat a) (nat b)).fst.length ≤ lim4, b.length ≤ lim4, Words (DivN (nat a) (nat b)).fst, Words b, (DivN (nat a) (nat b)).fst.length < lim, b.length < lim, (Bn.Mul (nat (DivN (nat a) (nat b)).fst) (nat b)).fst.length ≤ lim4, (DivN (nat a) (nat b)).snd.fst.length ≤ lim4, Words (Bn.Mul (nat (DivN (nat a) (nat b)).fst) (nat b)).fst, Words (DivN (nat a) (nat b)).snd.fst, (Bn.Mul (nat (DivN (nat a) (nat b)).fst) (nat b)).fst.length < lim, (DivN (nat a) (nat b)).snd.fst.length < lim, a.length ≤ lim4, inR IntKind.i64 n, Words a, a.length ≤ lim4, (ShlN (nat a) n).fst.length ≤ lim4, inR IntKind.i64 n, Words (ShlN (nat a) n).fst, (ShlN (nat a) n).fst.length ≤ lim4, n ≤ (9223372036854775807 : Int), (ShrN (nat (ShlN (nat a) n).fst) n).snd = false, ((DivN (nat a) (nat b)).snd.snd != (0 : Int)) = false, ((Bn.Mul (nat (DivN (nat a) (nat b)).fst) (nat b)).snd != (0 : Int)) = false, ((AddN (nat (Bn.Mul (nat (DivN (nat a) (nat b)).fst) (nat b)).fst) (nat (DivN (nat a) (nat b)).snd.fst)).snd != (0 : Int)) = false, ((ShlN (nat a) n).snd != (0 : Int)) = false, a.length ≤ lim4, decide ((AddN (nat (Bn.Mul (nat (DivN (nat a) (nat b)).fst) (nat b)).fst) (nat (DivN (nat a) (nat b)).snd.fst)).fst = norm a) = true, (AddN (nat (Bn.Mul (nat (DivN (nat a) (nat b)).fst) (nat b)).fst) (nat (DivN (nat a) (nat b)).snd.fst)).fst.length < lim, Words (DivN (nat a) (nat b)).snd.fst, Words b, (DivN (nat a) (nat b)).snd.fst.length < lim, b.length < lim, decide (cmpN (nat (DivN (nat a) (nat b)).snd.fst) (nat b) < (0 : Int)) = true, a.length ≤ lim4, decide ((ShrN (nat (ShlN (nat a) n).fst) n).fst = norm a) = false, (ShrN (nat (ShlN (nat a) n).fst) n).fst.length < lim]) : PureTo Try.prog 10 [.sl 1 (.ints .u32 a) false, .sl 1 (.ints .u32 b) false, .v (.int .u8 n)] (AV.v (.bool false)) :=
  evFn_pure hm sok21 (fn := Try.f10) rfl rfl (ti := false) (hs := [CHint.ops 1 [(2, Hint.b false), (6, Hint.b false), (11, Hint.b false)], CHint.ops 7 [(7, Hint.b false)], CHint.ops 8 [(1, Hint.b false), (4, Hint.b false), (8, Hint.b false), (12, Hint.b false)], CHint.ops 10 [(3, Hint.b true), (8, Hint.b true), (14, Hint.b false)]]) (c := _) (by kernel_rfl) h
theorem restsF15 (a b : List Int) (n : Int) (h : AllP [decide ((↑a.length : Int) > (400 : Int)) = false, decide ((↑b.length : Int) > (400 : Int)) = false, Words b, b.length ≤ lim4, ((↑(bl (nat b)) : Int) == (0 : Int)) = false, a.length ≤ lim4, b.length ≤ lim4, Words a, Words b, a.length ≤ lim4, b.length ≤ lim4, (DivN (nat a) (nat b)).fst.length ≤ lim4, b.length ≤ lim4, Words (DivN (nat a) (nat b)).fst, Words b, (DivN (nat a) (nat b)).fst.length < lim, b.length < lim, (Bn.Mul (nat (DivN (nat a) (nat b)).fst) (nat b)).fst.length ≤ lim4, (DivN (nat a) (nat b)).snd.fst.length ≤ lim4, Words (Bn.Mul (nat (DivN (nat a) (nat b)).fst) (nat b)).fst, Words (DivN (nat a) (nat b)).snd.fst, (Bn.Mul (nat (DivN (nat a) (nat b)).fst) (nat b)).fst.length < lim, (DivN (nat a) (nat b)).snd.fst.length < lim, a.length ≤ lim4, inR IntKind.i64 n, Words a, a.length ≤ lim4, (ShlN (nat a) n).fst.length ≤ lim4, inR IntKind.i64 n, Words (ShlN (nat a) n).fst, (ShlN (nat a) n).fst.length ≤ lim4, n ≤ (9223372036854775807 : Int), (ShrN (nat (ShlN (nat a) n).fst) n).snd = false, ((DivN (nat a) (nat b)).snd.snd != (0 : Int)) = false, ((Bn.Mul (nat (DivN (nat a) (nat b)).fst) (nat b)).snd != (0 : Int)) = false, ((AddN (nat (Bn.Mul (nat (DivN (nat a) (nat b)).fst) (nat b)).fst) (nat (DivN (nat a) (nat b)).snd.fst)).snd != (0 : Int)) = false, ((ShlN (nat a) n).snd != (0 : Int)) = false, a.length ≤ lim4, decide ((AddN (nat (Bn.Mul (nat (DivN (nat a) (nat b)).fst) (nat b)).fst) (nat (DivN (nat a) (nat b)).snd.fst)).fst = norm a) = true, (AddN (nat (Bn.Mul (nat (DivN (nat a) (nat b)).fst) (nat b)).fst) (nat (DivN (nat a) (nat b)).snd.fst)).fst.length < lim, Words (DivN (nat a) (nat b)).snd.fst, Words b, (DivN (nat a) (nat b)).snd.fst.length < lim, b.length < lim, decide (cmpN (nat (DivN (nat a) (nat b)).snd.fst) (nat b) < (0 : Int)) = false]) : PureTo Try.prog 10 [.sl 1 (.ints .u32 a) false, .sl 1 (.ints .u32 b) false, .v (.int .u8 n)] (AV.v (.bool false)) :=
  evFn_pure hm sok21 (fn := Try.f10) rfl rfl (ti := false) (hs := [CHint.ops 1 [(2, Hint.b false), (6, Hint.b false), (11, Hint.b false)], CHint.ops 7 [(7, Hint.b false)], CHint.ops 8 [(1, Hint.b false), (4, Hint.b false), (8, Hint.b false), (12, Hint.b false)], CHint.ops 10 [(3, Hint.b true), (8, Hint.b false)]]) (c := _) (by kernel_rfl) h
theorem restsF16 (a b : List Int) (n : Int) (h : AllP [decide ((↑a.length : Int) > (400 : Int)) = false, decide ((↑b.length : Int) > (400 : Int)) = false, Words b, b.length ≤ lim4, ((↑(bl (nat b)) : Int) == (0 : Int)) = false, a.length ≤ lim4, b.length ≤ lim4, Words a, Words b, a.length ≤ lim4, b.length ≤ lim4, (DivN (nat a) (nat b)).fst.length ≤ lim4, b.length ≤ lim4, Words (DivN (nat a) (nat b)).fst, Words b, (DivN (nat a) (nat b)).fst.length < lim, b.length < lim, (Bn.Mul (nat (DivN (nat a) (nat b)).fst) (nat b)).fst.length ≤ lim4, (DivN (nat a) (nat b)).snd.fst.length ≤ lim4, Words (Bn.Mul (nat (DivN (nat a) (nat b)).fst) (nat b)).fst, Words (DivN (nat a) (nat b)).snd.fst, (Bn.Mul (nat (DivN (nat a) (nat b)).fst) (nat b)).fst.length < lim, (DivN (nat a) (nat b)).snd.fst.length < lim, a.length ≤ lim4, inR IntKind.i64 n, Words a, a.length ≤ lim4, (ShlN (nat a) n).fst.length ≤ lim4, inR IntKind.i64 n, Words (ShlN (nat a) n).fst, (ShlN (nat a) n).fst.length ≤ lim4, n ≤ (9223372036854775807 : Int), (ShrN (nat (ShlN (nat a) n).fst) n).snd = false, ((DivN (nat a) (nat b)).snd.snd != (0 : Int)) = false, ((Bn.Mul (nat (DivN (nat a) (nat b)).fst) (nat b)).snd != (0 : Int)) = false, ((AddN (nat (Bn.Mul (nat (DivN (nat a) (nat b)).fst) (nat b)).fst) (nat (DivN (nat a) (nat b)).snd.fst)).snd != (0 : Int)) = false, ((ShlN (nat a) n).snd != (0 : Int)) = false, a.length ≤ lim4, decide ((AddN (nat (Bn.Mul (nat (DivN (nat a) (nat b)).fst) (nat b)).fst) (nat (DivN (nat a) (nat b)).snd.fst)).fst = norm a) = false, (AddN (nat (Bn.Mul (nat (DivN (nat a) (nat b)).fst) (nat b)).fst) (nat (DivN (nat a) (nat b)).snd.fst)).fst.length < lim]) : PureTo Try.prog 10 [.sl 1 (.ints .u32 a) false, .sl 1 (.ints .u32 b) false, .v (.int .u8 n)] (AV.v (.bool false)) :=
  evFn_pure hm sok21 (fn := Try.f10) rfl rfl (ti := false) (hs := [CHint.ops 1 [(2, Hint.b false), (6, Hint.b false), (11, Hint.b false)], CHint.ops 7 [(7, Hint.b false)], CHint.ops 8 [(1, Hint.b false), (4, Hint.b false), (8, Hint.b false), (12, Hint.b false)], CHint.ops 10 [(3, Hint.b false)]]) (c := _) (by kernel_rfl) h
end Go.Proofs.Bn
