/- Contracts of the program's functions, and the plain law behind them. No condition beyond those in each statement. -/
import Derived.Test.YtbmadhdeikoecaaBnAll3
set_option linter.unusedSimpArgs false
set_option linter.unusedVariables false
set_option linter.unusedSectionVars false
/- Bignum: contracts: Parse, joined. -/
set_option maxRecDepth 100000
set_option exponentiation.threshold 40000
set_option linter.unusedSectionVars false
namespace Go.Proofs.Bn
open Go Go.Ev

theorem parse_in (s : ByteArray) (R : Nat) (hR : R ≤ 36) (x2 : Int) (m : Nat) (d : Int) (hb : big m = false) (hd : 0 ≤ d ∧ d ≤ 36) (n : Nat) :
    LoopTo Try.prog (loopAt Try.f35 2) (parseS2 s R x2 d 0 (dig m) (dig m) n (dig m).length) (.exit 4) (parseX2 s R x2 (mulc R (dig m) d).2 (mulc R (dig m) d).1 (mulc R (dig m) d).1.length (mulc R (dig m) d).1.length) := by
  have hl := small_len hb
  obtain ⟨i1, i2, i3, i4⟩ := mulc_is R hR (dig m) d (words_dig m) hd
  have h := parse_mul s R hR x2 (dig m) (by omega) (dig m) [] d (words_dig m) hd (by simp)
  rw [List.nil_append, List.nil_append, List.length_nil, Int.natCast_zero] at h
  rw [i2]
  exact .raise h

section
variable (s : ByteArray) (R : Nat) (hR : 2 ≤ R ∧ R ≤ 36) (hs : s.size < 9000000000000000) (hd : ∀ i, i < s.size → dg (byteAt s i) < R)
include hR hs hd

theorem parse_ok (hb : big (pv s R s.size) = false) : ∀ (f i n : Nat), i + f = s.size →
    LoopTo Try.prog (loopAt Try.f35 1) (parseS1 s R i (dig (pv s R i)) n) (.exit 2) (parseX1 s R (dig (pv s R s.size)) (dig (pv s R s.size)).length) := by
  intro f
  induction f with
  | zero =>
    intro i n hi
    have : i = s.size := by omega
    subst this
    exact .raise (.done (by simp) (parseL1_5 s R s.size 0 (dig (pv s R s.size)) [] (dig (pv s R s.size)).length 0 0 ⟨by simp, trivial⟩))
  | succ f ih =>
    intro i n hi
    have hbi : ∀ g, i + g ≤ s.size → big (pv s R (i + g)) = false := fun g hg => by
      have := pv_mono s hR.1 (i + g) (s.size - (i + g))
      rw [show i + g + (s.size - (i + g)) = s.size by omega] at this
      cases hh : big (pv s R (i + g)) with
      | false => rfl
      | true => rw [big_mono this hh] at hb; cases hb
    have hb0 := hbi 0 (by omega)
    have hb1 := hbi 1 (by omega)
    rw [Nat.add_zero] at hb0
    have hB := byteAt_range s i
    have hD0 := dg_nonneg (c := byteAt s i)
    have hD1 := hd i (by omega)
    have hin := parse_in s R hR.2 i (pv s R i) (dg (byteAt s i)) hb0 ⟨hD0, by omega⟩ n
    have hm := mulc_dig R ⟨by omega, hR.2⟩ (pv s R i) (dg (byteAt s i)) ⟨hD0, by omega⟩
    have hmi := mulc_is R hR.2 (dig (pv s R i)) (dg (byteAt s i)) (words_dig _) ⟨hD0, by omega⟩
    have hnext := ih (i + 1) (mulc R (dig (pv s R i)) (dg (byteAt s i))).1.length (by omega)
    have hlen := small_len hb1
    rw [pv] at hnext hlen
    have ed : dg (byteAt s i) % 18446744073709551616 = dg (byteAt s i) := Int.emod_eq_of_lt hD0 (by omega)
    generalize mulc R (dig (pv s R i)) (dg (byteAt s i)) = oc at *
    have ec : oc.2 % 4294967296 = oc.2 := Int.emod_eq_of_lt hmi.2.2.1.1 (by omega)
    by_cases hc : 0 < oc.2
    · rw [if_pos hc] at hm
      rw [hm] at hnext hlen
      have h1 := parseL1_2 s R i oc.2 (dig (pv s R i)) oc.1 n oc.1.length oc.1.length (by
        rw [Int.toNat_natCast, ed, ec]
        exact ⟨by simp; omega, by omega, hB.1, hB.2, hin, by simpa using hc, rfl, rfl, by omega, by rw [decide_eq_false_iff_not]; omega, inR64 (by omega) (by omega), trivial⟩)
      rw [ec] at h1
      exact .step h1 hnext
    · rw [if_neg hc] at hm
      rw [hm] at hnext hlen
      have h1 := parseL1_4 s R i oc.2 (dig (pv s R i)) oc.1 n oc.1.length oc.1.length (by
        rw [Int.toNat_natCast, ed]
        exact ⟨by simp; omega, by omega, hB.1, hB.2, hin, by simpa using hc, by rw [decide_eq_false_iff_not]; omega, inR64 (by omega) (by omega), trivial⟩)
      exact .step h1 hnext

theorem parse_long (hb : big (pv s R s.size) = true) : ∀ (f i n : Nat), i + f = s.size → big (pv s R i) = false →
    LoopTo Try.prog (loopAt Try.f35 1) (parseS1 s R i (dig (pv s R i)) n) .ret (parseX1_1 s R) := by
  intro f
  induction f with
  | zero =>
    intro i n hi hb0
    have : i = s.size := by omega
    subst this
    rw [hb] at hb0
    cases hb0
  | succ f ih =>
    intro i n hi hb0
    have hB := byteAt_range s i
    have hD0 := dg_nonneg (c := byteAt s i)
    have hD1 := hd i (by omega)
    have hin := parse_in s R hR.2 i (pv s R i) (dg (byteAt s i)) hb0 ⟨hD0, by omega⟩ n
    have hm := mulc_dig R ⟨by omega, hR.2⟩ (pv s R i) (dg (byteAt s i)) ⟨hD0, by omega⟩
    have hmi := mulc_is R hR.2 (dig (pv s R i)) (dg (byteAt s i)) (words_dig _) ⟨hD0, by omega⟩
    have hnext := ih (i + 1) (mulc R (dig (pv s R i)) (dg (byteAt s i))).1.length (by omega)
    have hl0 := small_len hb0
    have ed : dg (byteAt s i) % 18446744073709551616 = dg (byteAt s i) := Int.emod_eq_of_lt hD0 (by omega)
    have ebig : big (pv s R (i + 1)) = decide (1024 < (dig (pv s R (i + 1))).length) := rfl
    rw [pv] at hnext ebig
    generalize mulc R (dig (pv s R i)) (dg (byteAt s i)) = oc at *
    have ec : oc.2 % 4294967296 = oc.2 := Int.emod_eq_of_lt hmi.2.2.1.1 (by omega)
    have hl1 := hmi.2.1
    by_cases hc : 0 < oc.2
    · rw [if_pos hc] at hm
      rw [hm] at hnext ebig
      by_cases hl : 1024 < (oc.1 ++ [oc.2]).length
      · exact .done (by simp) (parseL1_1 s R i oc.2 (dig (pv s R i)) oc.1 n oc.1.length oc.1.length (by
          rw [Int.toNat_natCast, ed, ec]
          exact ⟨by simp; omega, by omega, hB.1, hB.2, hin, by simpa using hc, rfl, rfl, by rw [List.length_append, List.length_singleton]; omega, by rw [decide_eq_true_eq]; omega, trivial⟩))
      · rw [decide_eq_false hl] at ebig
        have h1 := parseL1_2 s R i oc.2 (dig (pv s R i)) oc.1 n oc.1.length oc.1.length (by
          rw [Int.toNat_natCast, ed, ec]
          exact ⟨by simp; omega, by omega, hB.1, hB.2, hin, by simpa using hc, rfl, rfl, by omega, by rw [decide_eq_false_iff_not]; omega, inR64 (by omega) (by omega), trivial⟩)
        rw [ec] at h1
        exact .step h1 (hnext ebig)
    · rw [if_neg hc] at hm
      rw [hm] at hnext ebig
      have hl : ¬ 1024 < oc.1.length := by omega
      rw [decide_eq_false hl] at ebig
      have h1 := parseL1_4 s R i oc.2 (dig (pv s R i)) oc.1 n oc.1.length oc.1.length (by
        rw [Int.toNat_natCast, ed]
        exact ⟨by simp; omega, by omega, hB.1, hB.2, hin, by simpa using hc, by rw [decide_eq_false_iff_not]; omega, inR64 (by omega) (by omega), trivial⟩)
      exact .step h1 (hnext ebig)

theorem rstep (i m : Nat) (hi : i < s.size) (hb : big m = false) :
    nat [((R : Int) % 4294967296)] = R ∧ nat [dg (byteAt s i) % 4294967296] = (dg (byteAt s i)).toNat ∧ Words [((R : Int) % 4294967296)] ∧ Words [dg (byteAt s i) % 4294967296] ∧
    (dig m).length + 1 + 1 ≤ lim4 ∧ (dig (m * R)).length + 1 ≤ lim4 ∧ (dig (m * R + (dg (byteAt s i)).toNat)).length ≤ lim4 := by
  have hD0 := dg_nonneg (c := byteAt s i)
  have hD1 := hd i hi
  have h1 := small_len hb
  have h2 := dig_mul_len (x := R) hb (by omega)
  have h3 : (dig (m * R + (dg (byteAt s i)).toNat)).length ≤ (dig (m * R)).length + 1 := by
    have := mulc_dig R ⟨by omega, hR.2⟩ m (dg (byteAt s i)) ⟨hD0, by omega⟩
    have hmi := mulc_is R hR.2 (dig m) (dg (byteAt s i)) (words_dig _) ⟨hD0, by omega⟩
    have hmono : (dig m).length ≤ (dig (m * R)).length := dig_mono (by
      have : m * 1 ≤ m * R := Nat.mul_le_mul_left _ (by omega)
      omega)
    rw [this]
    split
    · rw [List.length_append, List.length_singleton]; omega
    · omega
  have e1 : (R : Int) % 4294967296 = R := Int.emod_eq_of_lt (by omega) (by omega)
  have e2 : dg (byteAt s i) % 4294967296 = dg (byteAt s i) := Int.emod_eq_of_lt hD0 (by omega)
  rw [e1, e2]
  unfold lim4
  exact ⟨by rw [nat_word (by omega), Int.toNat_natCast], nat_word hD0, words_one ⟨by omega, by omega⟩, words_one ⟨hD0, by omega⟩, by omega, by omega, by omega⟩

theorem sparse_ok (hb : big (pv s R s.size) = false) : ∀ (f i : Nat) (t : Bool), i + f = s.size →
    ∃ t1 : Bool, LoopTo Try.prog (loopAt Try.f36 1) (sparseS1 s R i (dig (pv s R i)) t) (.exit 2) (sparseX1 s R (dig (pv s R s.size)) t1) := by
  intro f
  induction f with
  | zero =>
    intro i t hi
    have : i = s.size := by omega
    subst this
    exact ⟨t, .done (by simp) (sparseL1_3 s R s.size (dig (pv s R s.size)) t ⟨by simp, trivial⟩)⟩
  | succ f ih =>
    intro i t hi
    have hbi : ∀ g, i + g ≤ s.size → big (pv s R (i + g)) = false := fun g hg => by
      have := pv_mono s hR.1 (i + g) (s.size - (i + g))
      rw [show i + g + (s.size - (i + g)) = s.size by omega] at this
      cases hh : big (pv s R (i + g)) with
      | false => rfl
      | true => rw [big_mono this hh] at hb; cases hb
    have hb0 := hbi 0 (by omega)
    have hb1 := hbi 1 (by omega)
    rw [Nat.add_zero] at hb0
    have hB := byteAt_range s i
    obtain ⟨t1, hnext⟩ := ih (i + 1) false (by omega)
    refine ⟨t1, ?_⟩
    rw [pv] at hnext hb1
    generalize pv s R i = m at *
    obtain ⟨e1, e2, w1, w2, l1, l2, l3⟩ := rstep s R hR hs hd i m (by omega) hb0
    have h1 := sparseL1_2 s R i (dig m) t (by
      rw [Int.toNat_natCast, nat_dig, nat_dig, e1, e2]
      exact ⟨by simp; omega, words_dig _, w1, l1, by omega, hB.1, hB.2, words_dig _, w2, l2, by simp [lim4], by rw [over_big (words_dig _), nat_dig]; exact hb1, l3, inR64 (by omega) (by omega), trivial⟩)
    rw [Int.toNat_natCast, nat_dig, nat_dig, e1, e2] at h1
    exact .step h1 hnext

theorem sparse_long (hb : big (pv s R s.size) = true) : ∀ (f i : Nat) (t : Bool), i + f = s.size → big (pv s R i) = false →
    LoopTo Try.prog (loopAt Try.f36 1) (sparseS1 s R i (dig (pv s R i)) t) .ret (sparseX1_1 s R) := by
  intro f
  induction f with
  | zero =>
    intro i t hi hb0
    have : i = s.size := by omega
    subst this
    rw [hb] at hb0
    cases hb0
  | succ f ih =>
    intro i t hi hb0
    have hB := byteAt_range s i
    have hnext := ih (i + 1) false (by omega)
    rw [pv] at hnext
    generalize pv s R i = m at *
    obtain ⟨e1, e2, w1, w2, l1, l2, l3⟩ := rstep s R hR hs hd i m (by omega) hb0
    cases hb1 : big (m * R + (dg (byteAt s i)).toNat) with
    | true =>
      exact .done (by simp) (sparseL1_1 s R i (dig m) t (by
        rw [Int.toNat_natCast, nat_dig, nat_dig, e1, e2]
        exact ⟨by simp; omega, words_dig _, w1, l1, by omega, hB.1, hB.2, words_dig _, w2, l2, by simp [lim4], by rw [over_big (words_dig _), nat_dig]; exact hb1, l3, trivial⟩))
    | false =>
      have h1 := sparseL1_2 s R i (dig m) t (by
        rw [Int.toNat_natCast, nat_dig, nat_dig, e1, e2]
        exact ⟨by simp; omega, words_dig _, w1, l1, by omega, hB.1, hB.2, words_dig _, w2, l2, by simp [lim4], by rw [over_big (words_dig _), nat_dig]; exact hb1, l3, inR64 (by omega) (by omega), trivial⟩)
      rw [Int.toNat_natCast, nat_dig, nat_dig, e1, e2] at h1
      exact .step h1 (hnext hb1)

end

open Classical in
/-- what Parse answers -/
noncomputable def Prs (s : ByteArray) (r : Int) : List Int × Int :=
  if r < 2 then ([], 1) else if 36 < r then ([], 1) else if s.size = 0 then ([], 4) else if ¬ (∀ j, 0 ≤ j → j < s.size → dg (byteAt s j) < r) then ([], 4)
  else if big (pv s r.toNat s.size) then ([], 3) else (dig (pv s r.toNat s.size), 0)

theorem big_zero : big 0 = false := by unfold big; rw [dig_zero]; rfl

theorem loop_length (s : ByteArray) : ∀ (f i : Nat) (r : List UInt8), i + f = s.size → (ByteArray.toList.loop s i r).length = f + r.length := by
  intro f
  induction f with
  | zero => intro i r h; rw [ByteArray.toList.loop, if_neg (by omega), List.length_reverse, Nat.zero_add]
  | succ f ih => intro i r h; rw [ByteArray.toList.loop, if_pos (by omega), ih (i + 1) _ (by omega), List.length_cons]; omega

theorem toList_length (s : ByteArray) : s.toList.length = s.size := by
  rw [ByteArray.toList, loop_length s s.size 0 [] (by omega), List.length_nil, Nat.add_zero]

theorem toList_empty : (ByteArray.mk #[]).toList = [] := List.eq_nil_of_length_eq_zero (toList_length _)

theorem parse_pure (s : ByteArray) (r : Int) (hs : s.size < 9000000000000000) : PureTo Try.prog 35 [.v (.string s), .v (.int .i64 r)] (.tup [.sl 1 (.ints .u32 (Prs s r).1) false, .v (.int .i64 (Prs s r).2)]) := by
  unfold Prs
  by_cases h1 : r < 2
  · rw [if_pos h1]; exact parseF1 s r 0 [] 0 ⟨by simpa using h1, trivial⟩
  by_cases h2 : 36 < r
  · rw [if_neg h1, if_pos h2]; exact parseF2 s r 0 [] 0 ⟨by simpa using h1, by simpa using h2, trivial⟩
  rw [if_neg h1, if_neg h2]
  have hl := toList_length s
  by_cases h3 : s.size = 0
  · rw [if_pos h3]
    have h4 : s.toList = [] := List.eq_nil_of_length_eq_zero (by omega)
    exact parseF3 s r 0 [] 0 ⟨by simpa using h1, by simpa using h2, by rw [h4, toList_empty]; rfl, trivial⟩
  have h4 : (s.toList == (ByteArray.mk #[]).toList) = false := by
    rw [beq_eq_false_iff_ne]
    intro h
    rw [h, toList_empty] at hl
    exact h3 hl.symm
  rw [if_neg h3]
  by_cases h5 : ∀ j, 0 ≤ j → j < s.size → dg (byteAt s j) < r
  · rw [if_neg (fun h => h h5)]
    have g1 := digits_loop s r hs s.size 0 (by omega) h5
    obtain ⟨R, rfl⟩ : ∃ R : Nat, r = R := ⟨r.toNat, by omega⟩
    rw [Int.toNat_natCast]
    cases h6 : big (pv s R s.size) with
    | true =>
      rw [if_pos rfl]
      have g2 := parse_long s R (by omega) hs (fun i hi => h5 i (by omega) hi) h6 s.size 0 0 (by omega) big_zero
      rw [pv, dig_zero] at g2
      exact parseF5 s R 0 [] 0 ⟨by simpa using h1, by simpa using h2, h4, g1, g2, trivial⟩
    | false =>
      rw [if_neg (by simp)]
      have g2 := parse_ok s R (by omega) hs (fun i hi => h5 i (by omega) hi) h6 s.size 0 0 (by omega)
      rw [pv, dig_zero] at g2
      exact parseF4 s R 0 _ _ ⟨by simpa using h1, by simpa using h2, h4, g1, g2, rfl, Nat.le_refl _, trivial⟩
  · rw [if_pos h5]
    have g1 := digits_bad s r hs s.size 0 (by omega) h5
    exact parseF6 s r 4 [] 0 ⟨by simpa using h1, by simpa using h2, h4, g1, trivial⟩

theorem rparse_pure (s : ByteArray) (r : Int) (hs : s.size < 9000000000000000) : PureTo Try.prog 36 [.v (.string s), .v (.int .i64 r)] (.tup [.sl 1 (.ints .u32 (Prs s r).1) false, .v (.int .i64 (Prs s r).2)]) := by
  unfold Prs
  by_cases h1 : r < 2
  · rw [if_pos h1]; exact sparseF1 s r 0 [] false ⟨by simpa using h1, trivial⟩
  by_cases h2 : 36 < r
  · rw [if_neg h1, if_pos h2]; exact sparseF2 s r 0 [] false ⟨by simpa using h1, by simpa using h2, trivial⟩
  rw [if_neg h1, if_neg h2]
  by_cases h3 : s.size = 0
  · rw [if_pos h3]
    have g1 := rdigits_loop s r hs s.size 0 (by omega) (fun j _ hj => by omega)
    exact sparseF3 s r 0 [] false ⟨by simpa using h1, by simpa using h2, g1, by rw [h3]; rfl, trivial⟩
  have h4 : ((s.size : Int) == 0) = false := by rw [beq_eq_false_iff_ne]; omega
  rw [if_neg h3]
  by_cases h5 : ∀ j, 0 ≤ j → j < s.size → dg (byteAt s j) < r
  · rw [if_neg (fun h => h h5)]
    have g1 := rdigits_loop s r hs s.size 0 (by omega) h5
    obtain ⟨R, rfl⟩ : ∃ R : Nat, r = R := ⟨r.toNat, by omega⟩
    rw [Int.toNat_natCast]
    cases h6 : big (pv s R s.size) with
    | true =>
      rw [if_pos rfl]
      have g2 := sparse_long s R (by omega) hs (fun i hi => h5 i (by omega) hi) h6 s.size 0 true (by omega) big_zero
      rw [pv, dig_zero] at g2
      exact sparseF5 s R 0 [] false ⟨by simpa using h1, by simpa using h2, g1, h4, g2, trivial⟩
    | false =>
      rw [if_neg (by simp)]
      obtain ⟨t1, g2⟩ := sparse_ok s R (by omega) hs (fun i hi => h5 i (by omega) hi) h6 s.size 0 true (by omega)
      rw [pv, dig_zero] at g2
      have := sparseF4 s R 0 (dig (pv s R s.size)) t1 ⟨by simpa using h1, by simpa using h2, g1, h4, g2, trivial⟩
      rw [Bool.and_false] at this
      exact this
  · rw [if_pos h5]
    have g1 := rdigits_bad s r hs s.size 0 (by omega) h5
    exact sparseF6 s r 4 [] false ⟨by simpa using h1, by simpa using h2, g1, trivial⟩

end Go.Proofs.Bn

/- Bignum: Text and Parse, in the table. -/
set_option maxRecDepth 100000
namespace Go.Proofs.Bn
open Go Go.Ev

def sigText : List AV → Option (AV × List Prop)
  | [.sl 1 (.ints .u32 a) _, .v (.int .i64 r)] => some (.tup [.v (.string (Txt a r).1), .v (.int .i64 (Txt a r).2)], [Words a, a.length ≤ lim4])
  | _ => none

noncomputable def sigParse : List AV → Option (AV × List Prop)
  | [.v (.string s), .v (.int .i64 r)] => some (.tup [.sl 1 (.ints .u32 (Prs s r).1) false, .v (.int .i64 (Prs s r).2)], [s.size < 9000000000000000])
  | _ => none

noncomputable def SG16 : SGT := (33, .p sigText) :: (34, .p sigText) :: (35, .p sigParse) :: (36, .p sigParse) :: SG15

theorem sok16 : SigsOK Try.prog SG16 := by
  refine sigs_cons (sigs_cons (sigs_cons (sigs_cons sok15 ?_) ?_) ?_) ?_
  · intro ys r c h hc
    unfold sigParse at h
    split at h
    · cases h; exact rparse_pure _ _ hc.1
    · cases h
  · intro ys r c h hc
    unfold sigParse at h
    split at h
    · cases h; exact parse_pure _ _ hc.1
    · cases h
  · intro ys r c h hc
    unfold sigText at h
    split at h
    · cases h; exact rtext_pure _ _ _ hc.1 hc.2.1
    · cases h
  · intro ys r c h hc
    unfold sigText at h
    split at h
    · cases h; exact text_pure _ _ _ hc.1 hc.2.1
    · cases h

end Go.Proofs.Bn

/- Bignum: walks, written by the tool. -/
set_option maxRecDepth 100000
namespace Go.Proofs.Bn
open Go Go.Ev

-- 1 paths
theorem textsF1 (a : List Int) (s : ByteArray) (r : Int) (h : AllP [a.length ≤ lim4, Words a, a.length ≤ lim4, Words a, a.length ≤ lim4, s.size < 9000000000000000, s.size < 9000000000000000, ((Txt a r).fst.toList == (Txt a r).fst.toList) = true, ((Txt a r).snd == (Txt a r).snd) = true, decide ((Prs s r).fst = (Prs s r).fst) = true, (Prs s r).fst.length < lim, ((Prs s r).snd == (Prs s r).snd) = true]) : PureTo Try.prog 8 [.sl 1 (.ints .u32 a) false, .v (.string s), .v (.int .i64 r)] (AV.v (.bool true)) :=
  evFn_pure hm sok16 (fn := Try.f8) rfl rfl (ti := false) (hs := [CHint.ops 5 [(2, Hint.b true), (6, Hint.b true), (11, Hint.b true), (16, Hint.b true)]]) (c := _) (by kernel_rfl) h
end Go.Proofs.Bn
