/- Contracts of the program's functions, and the plain law behind them. No condition beyond those in each statement. -/
import Derived.Test.YtnmhaemjffcjaaaPrAll3
import Derived.Test.YtnmhaemjffcjaaaFlAll1
set_option linter.unusedSimpArgs false
set_option linter.unusedVariables false
set_option linter.unusedSectionVars false
/- Property: the three laws, in plain terms. -/
set_option maxRecDepth 100000
namespace Go.Proofs.Pr
open Go Go.Ev

theorem isnan_spec (x : Nat) : isnan x = (FloatKind.f64.format.read x).isNaN := by
  unfold isnan
  rw [Fl.eq_self]
  simp

theorem isnan_zero : isnan 0 = false := by decide

theorem loop_length (s : ByteArray) : ∀ (f i : Nat) (r : List UInt8), i + f = s.size → (ByteArray.toList.loop s i r).length = f + r.length := by
  intro f
  induction f with
  | zero => intro i r h; rw [ByteArray.toList.loop, if_neg (by omega), List.length_reverse, Nat.zero_add]
  | succ f ih => intro i r h; rw [ByteArray.toList.loop, if_pos (by omega), ih (i + 1) _ (by omega), List.length_cons]; omega

theorem toList_length (s : ByteArray) : s.toList.length = s.size := by
  rw [ByteArray.toList, loop_length s s.size 0 [] (by omega), List.length_nil, Nat.add_zero]

theorem toList_empty : (ByteArray.mk #[]).toList = [] := List.eq_nil_of_length_eq_zero (toList_length _)

theorem nat_int_zero (x : Nat) : ((x : Int) == 0) = (x == 0) := by
  cases x with
  | zero => rfl
  | succ n => rfl

theorem may_check (v : Val) : may v = (check v == 0) := by
  obtain ⟨k, b, x, s, o⟩ := v
  unfold may check told
  simp only [bne]
  have hn : ((x : Int) == 0) = true → isnan x = false := fun h => by
    rw [nat_int_zero] at h
    rw [show x = 0 by simpa using h]; exact isnan_zero
  have hq : ((((bif isnan x then 9221120237041090560 else x : Nat) : Nat) : Int) == (x : Int)) = (!(isnan x) || ((x : Int) == 9221120237041090560)) := by
    cases isnan x
    · simp
    · show (((9221120237041090560 : Nat) : Int) == (x : Int)) = _
      rw [Bool.eq_iff_iff]; simp only [beq_iff_eq, Bool.not_true, Bool.false_or]; omega
  have hgt : decide (o > 0) = (!(decide (o < 0)) && !(o == 0)) := by
    rw [Bool.eq_iff_iff]; simp only [decide_eq_true_eq, Bool.and_eq_true, Bool.not_eq_true', decide_eq_false_iff_not, beq_eq_false_iff_ne, ne_eq]; omega
  have hodd : ((s.size : Int).tmod 2 == 1) = !((s.size : Int).tmod 2 == 0) := by
    rw [Bool.eq_iff_iff]; simp only [beq_iff_eq, Bool.not_eq_true', beq_eq_false_iff_ne, ne_eq]
    have h1 : (s.size : Int).tmod 2 = (s.size : Int) % 2 := Int.tmod_eq_emod_of_nonneg (by omega)
    omega
  have hlt : decide (o < 0) = true → (o == 0) = false := fun h => by
    have := of_decide_eq_true h
    simp only [beq_eq_false_iff_ne, ne_eq]; omega
  have hempty : (s.toList == (ByteArray.mk #[]).toList) = true → ((s.size : Int).tmod 2 == 0) = true := fun h => by
    have h := eq_of_beq h
    have e : s.toList.length = s.size := by exact toList_length s
    rw [h] at e
    have : s.size = 0 := by rw [← e, toList_empty]; rfl
    rw [this]; rfl
  rw [hq, hgt, hodd]
  generalize decide (o < 0) = olt at *
  generalize (o == 0) = oz at *
  generalize ((x : Int) == 9221120237041090560) = xq at *
  generalize ((x : Int) == 0) = xz at *
  generalize isnan x = nn at *
  generalize ((s.size : Int).tmod 2 == 0) = ev at *
  generalize (s.toList == (ByteArray.mk #[]).toList) = e at *
  clear hq hgt hodd
  have fin : ∀ {p : Prop}, ((xz = true ∧ nn = true) ∨ (olt = true ∧ oz = true) ∨ (e = true ∧ ev = false)) → p := fun h => by
    rcases h with ⟨a, b⟩ | ⟨a, b⟩ | ⟨a, b⟩
    · rw [hn a] at b; cases b
    · rw [hlt a] at b; cases b
    · rw [hempty a] at b; cases b
  by_cases h0 : k = 0
  · subst h0; clear hn hlt hempty; cases olt <;> cases oz <;> cases xq <;> cases xz <;> cases nn <;> cases ev <;> cases e <;> cases b <;> first | rfl | exact fin (by decide)
  by_cases h1 : k = 1
  · subst h1; clear hn hlt hempty; cases olt <;> cases oz <;> cases xq <;> cases xz <;> cases nn <;> cases ev <;> cases e <;> cases b <;> first | rfl | exact fin (by decide)
  by_cases h2 : k = 2
  · subst h2; clear hn hlt hempty; cases olt <;> cases oz <;> cases xq <;> cases xz <;> cases nn <;> cases ev <;> cases e <;> cases b <;> first | rfl | exact fin (by decide)
  by_cases h3 : k = 3
  · subst h3; clear hn hlt hempty; cases olt <;> cases oz <;> cases xq <;> cases xz <;> cases nn <;> cases ev <;> cases e <;> cases b <;> first | rfl | exact fin (by decide)
  by_cases h4 : k = 4
  · subst h4; clear hn hlt hempty; cases olt <;> cases oz <;> cases xq <;> cases xz <;> cases nn <;> cases ev <;> cases e <;> cases b <;> first | rfl | exact fin (by decide)
  by_cases h5 : k = 5
  · subst h5; clear hn hlt hempty; cases olt <;> cases oz <;> cases xq <;> cases xz <;> cases nn <;> cases ev <;> cases e <;> cases b <;> first | rfl | exact fin (by decide)
  · have e0 : (k == 0) = false := by simpa using h0
    have e1 : (k == 1) = false := by simpa using h1
    have e2 : (k == 2) = false := by simpa using h2
    have e3 : (k == 3) = false := by simpa using h3
    have e4 : (k == 4) = false := by simpa using h4
    have e5 : (k == 5) = false := by simpa using h5
    have e6 : (bif decide (k ≥ 0) then decide (k ≤ 5) else false) = false := by
      cases h : decide (k ≥ 0)
      · rfl
      · have := of_decide_eq_true h
        show decide (k ≤ 5) = false
        rw [decide_eq_false_iff_not]; omega
    simp only [e0, e1, e2, e3, e4, e5, e6, cond_false]
    rfl


/-! ### bits -/

theorem rhas_eq (p : PropV) (n : Int) : rhas p n = has p n := rfl
theorem raccessor_eq (p : PropV) : raccessor p = accessor p := rfl
theorem rdata_eq (p : PropV) : rdata p = data p := rfl
theorem accessor_eq (p : PropV) : accessor p = has p 6 := by unfold accessor; cases has p 6 <;> rfl
theorem data_eq (p : PropV) : data p = has p 9 := by unfold data; cases has p 9 <;> rfl
theorem zero_eq (v : Val) : zero v = rzero v := by
  unfold zero rzero
  rw [may_check]
  cases (v.k == 0) <;> cases (check v == 0) <;> rfl
theorem call_eq (v : Val) : call v = callee v := by
  unfold call callee
  rw [may_check]
  cases (check v == 0) <;> cases (v.k == 0) <;> cases (v.k == 5) <;> rfl

theorem andNot_63 {n : Int} (h : -9223372036854775808 ≤ n ∧ n ≤ 9223372036854775807) : (bitsOf .andNot .i64 n 63 != 0) = (decide (n < 0) || decide (n > 63)) := by
  have e : bitsOf .andNot .i64 n 63 = IntKind.i64.wrap ((BitVec.ofInt 64 n &&& ~~~63#64).toNat : Int) := rfl
  have hx : (BitVec.ofInt 64 n).toNat = (n % 18446744073709551616).toNat := by rw [BitVec.toNat_ofInt]; rfl
  have hwrap : ∀ m : Nat, m < 18446744073709551616 → (IntKind.i64.wrap (m : Int) = 0 ↔ m = 0) := by
    intro m hm
    have e : IntKind.i64.wrap (m : Int) = (if decide ((m : Int) % 18446744073709551616 ≥ 9223372036854775808) = true then (m : Int) % 18446744073709551616 - 18446744073709551616 else (m : Int) % 18446744073709551616) := rfl
    rw [e]
    by_cases hd : (m : Int) % 18446744073709551616 ≥ 9223372036854775808
    · rw [if_pos (decide_eq_true hd)]
      constructor
      · intro h0; omega
      · intro h0; omega
    · rw [if_neg (by simpa using hd)]
      constructor
      · intro h0; omega
      · intro h0; omega
  have hlow : (BitVec.ofInt 64 n &&& ~~~63#64).toNat = 0 ↔ (BitVec.ofInt 64 n).toNat < 64 := by
    generalize BitVec.ofInt 64 n = X
    constructor
    · intro h0
      have hz : X &&& ~~~63#64 = 0#64 := BitVec.eq_of_toNat_eq (by rw [h0]; rfl)
      refine Nat.lt_pow_two_of_testBit (n := 6) X.toNat fun i hi => ?_
      have hb := congrArg (fun Y => Y.getLsbD i) hz
      simp only [BitVec.getLsbD_and, BitVec.getLsbD_not, BitVec.getLsbD_zero] at hb
      show X.getLsbD i = false
      by_cases h64 : i < 64
      · have h63 : (63#64).getLsbD i = false := by
          show Nat.testBit 63 i = false
          exact Nat.testBit_lt_two_pow (Nat.lt_of_lt_of_le (by decide) (Nat.pow_le_pow_right (n := 2) (by omega) hi))
        have h63' : (63#64)[i] = false := h63
        have := hb
        simp only [h64, h63, decide_true, Bool.not_false, Bool.and_true] at this
        exact this
      · exact BitVec.getLsbD_of_ge X i (by omega)
    · intro hlt
      have : X &&& ~~~63#64 = 0#64 := by
        refine BitVec.eq_of_getLsbD_eq fun i hi => ?_
        simp only [BitVec.getLsbD_and, BitVec.getLsbD_not, BitVec.getLsbD_zero]
        by_cases h6 : i < 6
        · have : (63#64).getLsbD i = true := by
            have : i = 0 ∨ i = 1 ∨ i = 2 ∨ i = 3 ∨ i = 4 ∨ i = 5 := by omega
            rcases this with rfl | rfl | rfl | rfl | rfl | rfl <;> rfl
          simp [this]
        · have : X.getLsbD i = false := by
            show Nat.testBit X.toNat i = false
            exact Nat.testBit_lt_two_pow (Nat.lt_of_lt_of_le hlt (Nat.pow_le_pow_right (n := 2) (by omega) (show 6 ≤ i by omega)))
          simp [this]
      rw [this]; rfl
  rw [e, Bool.eq_iff_iff]
  simp only [bne_iff_ne, ne_eq, Bool.or_eq_true, decide_eq_true_eq]
  rw [hwrap _ (BitVec.isLt _), hlow, hx]
  omega

/-- the numbers that a property is made of lie within their kinds -/
def WfV (v : Val) : Prop := v.x < 18446744073709551616
def WfP (p : PropV) : Prop := (-9223372036854775808 ≤ p.has ∧ p.has ≤ 9223372036854775807) ∧ WfV p.val ∧ WfV p.get ∧ WfV p.set

theorem pcheck_eq {p : PropV} (h : WfP p) : pcheck p = rcheck p := by
  unfold pcheck rcheck rmay
  rw [andNot_63 h.1]
  simp only [rhas_eq, zero_eq, call_eq, accessor_eq, data_eq, may_check p.val, bne]
  generalize decide (p.has < 0) = a1
  generalize decide (p.has > 63) = a2
  generalize has p 1 = b1
  generalize has p 2 = b2
  generalize has p 4 = b3
  generalize has p 8 = b4
  generalize has p 16 = b5
  generalize has p 32 = b6
  generalize has p 9 = b7
  generalize has p 6 = b8
  generalize rzero p.val = c1
  generalize rzero p.get = c2
  generalize rzero p.set = c3
  generalize callee p.get = c4
  generalize callee p.set = c5
  generalize (check p.val == 0) = c6
  generalize p.w = d1
  generalize p.e = d2
  generalize p.c = d3
  cases a1 <;> simp <;> cases a2 <;> simp <;> cases b7 <;> cases b8 <;> simp <;> cases b1 <;> cases c1 <;> simp <;> cases b2 <;> cases c2 <;> simp <;> cases b3 <;> cases c3 <;> simp <;> cases b4 <;> cases d1 <;> simp <;> cases b5 <;> cases d2 <;> simp <;> cases b6 <;> cases d3 <;> simp <;> cases c4 <;> simp <;> cases c5 <;> simp <;> cases c6 <;> simp


/-! ### the same values -/

theorem rbits_self (v : Val) : rbits v v = true := by
  unfold rbits alike
  simp

theorem rpsame_self (p : PropV) : rpsame p p = true := by
  unfold rpsame
  simp [rbits_self]

theorem eq_zero_zero : Op.floatEq .f64 0 0 = true := by decide

theorem equal_rbits (v u : Val) : equal v u = rbits v u := by
  unfold equal rbits alike
  rw [eq_zero_zero]
  cases ((v.x : Int) == (u.x : Int)) <;> cases (v.k == u.k) <;> cases (v.b == u.b) <;> cases (v.s.toList == u.s.toList) <;> cases (v.o == u.o) <;> rfl

theorem psame_eq (p q : PropV) : psame p q = rpsame p q := by
  unfold psame rpsame
  simp only [equal_rbits]

theorem floatEq_nan {x y : Nat} (h : isnan x = true ∨ isnan y = true) : Op.floatEq .f64 x y = false := by
  unfold Op.floatEq
  rw [Fl.nan_order (by simpa [isnan_spec] using h)]
  rfl

theorem rnsame_eq (x y : Nat) : rnsame x y = nsame x y := by
  unfold rnsame nsame
  cases hx : isnan x <;> cases hy : isnan y
  · rfl
  · rw [floatEq_nan (.inr hy)]; rfl
  · rw [floatEq_nan (.inl hx)]; rfl
  · rfl

/-- what a value that may be is like -/
theorem may_spec {v : Val} (h : may v = true) : (v.k ≠ 2 → v.b = false) ∧ (v.k ≠ 3 → v.x = 0) ∧ (v.k = 3 → isnan v.x = true → v.x = 9221120237041090560) ∧ (v.k ≠ 4 → v.s.toList = []) ∧ (v.k ≠ 5 → v.o = 0) := by
  unfold may at h
  simp only [Bool.cond_eq_ite, Bool.ite_eq_true_distrib, Bool.if_false_right, Bool.and_eq_true, decide_eq_true_eq, Bool.not_eq_true', beq_iff_eq, Bool.if_true_left, Bool.or_eq_true, toList_empty] at h
  obtain ⟨⟨⟨⟨_, h1⟩, h2⟩, h3⟩, h4⟩ := h
  refine ⟨fun hk => ?_, fun hk => ?_, fun hk hn => ?_, fun hk => ?_, fun hk => ?_⟩
  · rcases h1 with h | h
    · exact h
    · exact absurd h hk
  · rcases h2 with h | h
    · exact_mod_cast h
    · exact absurd h.1 hk
  · rcases h2 with h | h
    · have : v.x = 0 := by exact_mod_cast h
      rw [this, isnan_zero] at hn; cases hn
    · have h := h.2
      unfold told at h
      rw [hn] at h
      have h : ((9221120237041090560 : Nat) : Int) = (v.x : Int) := h
      omega
  · rcases h3 with h | h
    · exact h
    · exact absurd h.1 hk
  · rcases h4 with h | h
    · exact h
    · exact absurd h.1 hk

end Go.Proofs.Pr

/- Property: the three laws, in plain terms, continued. -/
set_option maxRecDepth 100000
namespace Go.Proofs.Pr
open Go Go.Ev

theorem nsame_self (x : Nat) : nsame x x = true := by
  unfold nsame
  cases h : isnan x
  · have : Op.floatEq .f64 x x = true := by unfold isnan at h; simpa using h
    rw [this]
    cases sgn x <;> rfl
  · rfl

theorem vsame_eq {v u : Val} (hv : may v = true) (hu : may u = true) : vsame v u = rvsame v u := by
  obtain ⟨v1, v2, v3, v4, v5⟩ := may_spec hv
  obtain ⟨u1, u2, u3, u4, u5⟩ := may_spec hu
  unfold vsame rvsame
  rw [rnsame_eq]
  by_cases h1 : v.k = 3
  · by_cases h2 : u.k = 3
    · have e : alike v u = true := by
        unfold alike
        rw [v1 (by omega), u1 (by omega), v4 (by omega), u4 (by omega), v5 (by omega), u5 (by omega)]
        rfl
      rw [e, h1, h2]
      cases nsame v.x u.x <;> rfl
    · have e1 : (v.k == 3) = true := by simpa using h1
      have e2 : (u.k == 3) = false := by simpa using h2
      have e3 : (v.k == u.k) = false := by simp; omega
      rw [e1, e2, e3]
      rfl
  · have e1 : (v.k == 3) = false := by simpa using h1
    rw [e1]
    by_cases h3 : v.k = u.k
    · have e3 : (v.k == u.k) = true := by simpa using h3
      rw [e3, v2 h1, u2 (by omega), eq_zero_zero, nsame_self]
      unfold alike
      cases (v.b == u.b) <;> cases (v.s.toList == u.s.toList) <;> cases (v.o == u.o) <;> rfl
    · have e3 : (v.k == u.k) = false := by simpa using h3
      rw [e3]
      rfl

theorem sgn_iff {x : Nat} (h : x < 18446744073709551616) : sgn x = true ↔ ¬ x < 9223372036854775808 := by
  unfold sgn
  have e : IntKind.i64.wrap (x : Int) = (if decide ((x : Int) % 18446744073709551616 ≥ 9223372036854775808) = true then (x : Int) % 18446744073709551616 - 18446744073709551616 else (x : Int) % 18446744073709551616) := rfl
  rw [e, decide_eq_true_eq]
  by_cases hd : (x : Int) % 18446744073709551616 ≥ 9223372036854775808
  · rw [if_pos (decide_eq_true hd)]
    constructor
    · intro h0; omega
    · intro h0; omega
  · rw [if_neg (by simpa using hd)]
    constructor
    · intro h0; omega
    · intro h0; omega

/-- the same number: the same bits -/
theorem nsame_bits {x y : Nat} (hx : x < 18446744073709551616) (hy : y < 18446744073709551616) (h : nsame x y = true) (hn : isnan x = true → isnan y = true → x = y) : x = y := by
  unfold nsame at h
  cases h1 : isnan x <;> cases h2 : isnan y <;> rw [h1, h2] at h
  · cases h3 : Op.floatEq .f64 x y <;> rw [h3] at h
    · cases h
    · refine Fl.eq_bits hx hy h3 ?_
      have s1 := sgn_iff hx
      have s2 := sgn_iff hy
      cases h4 : sgn x <;> cases h5 : sgn y <;> rw [h4, h5] at h
      · rw [h4] at s1; rw [h5] at s2; simp at s1 s2; omega
      · cases h
      · cases h
      · rw [h4] at s1; rw [h5] at s2; simp at s1 s2; omega
  · cases h
  · cases h
  · exact hn h1 h2

theorem vsame_bits {v u : Val} (wv : WfV v) (wu : WfV u) (hv : may v = true) (hu : may u = true) (h : vsame v u = true) : rbits v u = true := by
  obtain ⟨v1, v2, v3, v4, v5⟩ := may_spec hv
  obtain ⟨u1, u2, u3, u4, u5⟩ := may_spec hu
  rw [vsame_eq hv hu] at h
  unfold rvsame at h
  rw [rnsame_eq] at h
  unfold rbits
  cases h1 : (v.k == u.k) <;> rw [h1] at h
  · cases h
  · cases h2 : alike v u <;> rw [h2] at h
    · cases h
    · cases h3 : nsame v.x u.x <;> rw [h3] at h
      · cases h
      · have hk : v.k = u.k := by simpa using h1
        have : v.x = u.x := nsame_bits wv wu h3 fun n1 n2 => by
          by_cases h3 : v.k = 3
          · rw [v3 h3 n1, u3 (by omega) n2]
          · rw [v2 h3, u2 (by omega)]
        rw [this]
        simp

theorem rvsame_self (v : Val) : rvsame v v = true := by
  unfold rvsame alike
  rw [rnsame_eq, nsame_self]
  simp

theorem vsame_self {v : Val} (h : may v = true) : vsame v v = true := by rw [vsame_eq h h, rvsame_self]

theorem callee_may {v : Val} (h : callee v = true) : may v = true := by
  unfold callee at h
  cases hm : may v
  · rw [hm] at h; cases h
  · rfl

theorem may_nul : may Val.nul = true := by
  rw [may_check]
  unfold check
  simp only [Val.nul, bne, toList_empty]
  rfl
theorem rzero_nul : rzero Val.nul = true := by
  unfold rzero
  rw [may_nul]
  rfl
theorem callee_nul : callee Val.nul = true := by
  unfold callee
  rw [may_nul]
  rfl

structure MayP (p : PropV) : Prop where
  r : 0 ≤ p.has ∧ p.has ≤ 63
  both : (has p 9 && has p 6) = false
  h1 : (has p 1 || rzero p.val) = true
  h2 : (has p 2 || rzero p.get) = true
  h4 : (has p 4 || rzero p.set) = true
  h8 : (has p 8 || !p.w) = true
  h16 : (has p 16 || !p.e) = true
  h32 : (has p 32 || !p.c) = true
  val : may p.val = true
  get : callee p.get = true
  set : callee p.set = true

theorem bif_or (a b : Bool) : (bif a then true else b) = (a || b) := by cases a <;> rfl
theorem bif_and (a b : Bool) : (bif a then b else false) = (a && b) := by cases a <;> rfl

theorem rmay_iff (p : PropV) : rmay p = true ↔ MayP p := by
  have hr : (0 ≤ p.has ∧ p.has ≤ 63) ↔ (!decide (p.has < 0)) = true ∧ (!decide (p.has > 63)) = true := by
    simp only [Bool.not_eq_true', decide_eq_false_iff_not]; omega
  have hb : (has p 9 && has p 6) = false ↔ (!has p 9 || !has p 6) = true := by cases has p 9 <;> cases has p 6 <;> simp
  have : MayP p ↔ ((0 ≤ p.has ∧ p.has ≤ 63) ∧ (has p 9 && has p 6) = false ∧ (has p 1 || rzero p.val) = true ∧ (has p 2 || rzero p.get) = true ∧ (has p 4 || rzero p.set) = true ∧ (has p 8 || !p.w) = true ∧ (has p 16 || !p.e) = true ∧ (has p 32 || !p.c) = true ∧ may p.val = true ∧ callee p.get = true ∧ callee p.set = true) :=
    ⟨fun ⟨a, b, c, d, e, f, g, h, i, j, k⟩ => ⟨a, b, c, d, e, f, g, h, i, j, k⟩, fun ⟨a, b, c, d, e, f, g, h, i, j, k⟩ => ⟨a, b, c, d, e, f, g, h, i, j, k⟩⟩
  rw [this, hr, hb]
  unfold rmay
  simp only [rhas_eq, bif_or, bif_and, Bool.not_or, Bool.not_and, Bool.not_not, Bool.and_eq_true, and_assoc]

/-- the bits of a number below 64 -/
def bit (n k : Int) : Bool := bitsOf .and .i64 n k != 0
theorem has_bit (p : PropV) (k : Int) : has p k = bit p.has k := by
  unfold has bit
  cases (bitsOf .and .i64 p.has k != 0) <;> rfl

theorem all64 {Q : Int → Prop} (h : ∀ n : Fin 64, Q (n.val : Int)) {n : Int} (hn : 0 ≤ n ∧ n ≤ 63) : Q n := by
  have := h ⟨n.toNat, by omega⟩
  have e : ((n.toNat : Nat) : Int) = n := by omega
  simpa [e] using this

theorem bit6 {n : Int} (h : 0 ≤ n ∧ n ≤ 63) : bit n 6 = (bit n 2 || bit n 4) := all64 (Q := fun n => bit n 6 = (bit n 2 || bit n 4)) (by decide +kernel) h
theorem bit9 {n : Int} (h : 0 ≤ n ∧ n ≤ 63) : bit n 9 = (bit n 1 || bit n 8) := all64 (Q := fun n => bit n 9 = (bit n 1 || bit n 8)) (by decide +kernel) h

end Go.Proofs.Pr

/- Property: the three laws, in plain terms, ended. -/
set_option maxRecDepth 100000
namespace Go.Proofs.Pr
open Go Go.Ev

theorem bars_fixed {p q : PropV} (hp : MayP p) (hq : MayP q) : bars p q = !fixed p q := by
  unfold bars fixed
  simp only [rhas_eq, raccessor_eq, rdata_eq]
  rw [vsame_eq hq.val hp.val, vsame_eq (callee_may hq.get) (callee_may hp.get), vsame_eq (callee_may hq.set) (callee_may hp.set)]
  have h8 := hq.h8
  have h32 := hq.h32
  generalize has q 32 = b32 at *
  generalize has q 16 = b16 at *
  generalize has q 8 = b8 at *
  generalize has q 1 = b1 at *
  generalize has q 2 = b2 at *
  generalize has q 4 = b4 at *
  generalize accessor q = aq at *
  generalize data q = dq at *
  generalize accessor p = ap at *
  generalize rvsame q.val p.val = s1 at *
  generalize rvsame q.get p.get = s2 at *
  generalize rvsame q.set p.set = s3 at *
  generalize (q.e == p.e) = ee at *
  generalize q.w = qw at *
  generalize q.c = qc at *
  generalize p.w = pw at *
  clear hp hq
  simp only [bif_or, bif_and]
  cases b32 <;> cases qc <;> simp at h32 <;> cases b16 <;> cases ee <;> simp <;> cases aq <;> cases dq <;> simp <;> cases ap <;> simp <;> cases pw <;> simp <;> cases b8 <;> cases qw <;> simp at h8 <;> simp [Bool.or_comm]

theorem turned_eq (a : Bool) (p : PropV) : turned2 a p = turned a p := by cases a <;> rfl

theorem isfull_iff (p : PropV) : isfull p = true ↔ MayP p ∧ (p.has = 54 ∨ p.has = 57) := by
  unfold isfull
  rw [bif_and, bif_or, Bool.and_eq_true, Bool.or_eq_true, rmay_iff, beq_iff_eq, beq_iff_eq]

theorem ok_eq {p q : PropV} (hp : MayP p) (hq : MayP q) : changeOk p q = rchangeOk p q := by
  unfold changeOk rchangeOk
  rw [bars_fixed hp hq]
  cases p.c <;> cases fixed p q <;> rfl

theorem change_eq {p q : PropV} (hp : MayP p) (hq : MayP q) : change p q = rchange p q := by
  unfold change rchange
  rw [ok_eq hp hq, turned_eq]
  rfl

theorem changes_true (p q : PropV) : changes p q = true := by
  have e : changes p q = bif !bif !isfull p then true else !rmay q then bif rpsame (change p q) (rchange p q) then bif changeOk p q == rchangeOk p q then bif psame p q == rpsame p q then true else false else bif false then true else false else bif false then bif psame p q == rpsame p q then true else false else bif false then true else false else true := rfl
  rw [e]
  cases h1 : isfull p
  · rfl
  · cases h2 : rmay q
    · rfl
    · have hp := ((isfull_iff p).1 h1).1
      have hq := (rmay_iff q).1 h2
      rw [change_eq hp hq, ok_eq hp hq, psame_eq, rpsame_self]
      simp

theorem full_rfull (p : PropV) : rfull p = full p := by
  unfold rfull full
  rw [raccessor_eq]
  cases accessor p <;> rfl

theorem checks_true {p : PropV} (h : WfP p) : checks p = true := by
  have e : checks p = bif !pcheck p != rcheck p then bif !rmay p then bif true then true else false else bif accessor p == raccessor p then bif data p == rdata p then bif rpsame (full p) (rfull p) then true else false else bif false then true else false else bif false then bif rpsame (full p) (rfull p) then true else false else bif false then true else false else false := rfl
  rw [e, pcheck_eq h, full_rfull, rpsame_self, raccessor_eq, rdata_eq]
  cases rmay p <;> simp

/-! ### Keeps -/

theorem bits54 (p : PropV) (h : p.has = 54) : has p 1 = false ∧ has p 2 = true ∧ has p 4 = true ∧ has p 8 = false ∧ has p 16 = true ∧ has p 32 = true ∧ has p 6 = true ∧ has p 9 = false := by
  simp only [has_bit, h]
  decide +kernel
theorem bits57 (p : PropV) (h : p.has = 57) : has p 1 = true ∧ has p 2 = false ∧ has p 4 = false ∧ has p 8 = true ∧ has p 16 = true ∧ has p 32 = true ∧ has p 6 = false ∧ has p 9 = true := by
  simp only [has_bit, h]
  decide +kernel

/-- a full property behind one that may be laid over it -/
def laid (p q : PropV) : PropV := over (has q) q { PropV.mix (sorts p q) (turned (accessor q) p) p with e := p.e, c := p.c }

theorem change_laid {p q : PropV} (h : changeOk p q = true) : change p q = laid p q := by
  unfold change laid
  rw [h, turned_eq, PropV.mix_eq]
  rfl

theorem sorts_eq {p q : PropV} (hq : MayP q) : sorts p q = ((has q 6 || has q 9) && !(has q 6 == has p 6)) := by
  unfold sorts
  rw [accessor_eq, accessor_eq, data_eq]
  cases has q 6 <;> cases has q 9 <;> cases has p 6 <;> rfl

end Go.Proofs.Pr

/- Property: what Change keeps. -/
set_option maxRecDepth 100000
namespace Go.Proofs.Pr
open Go Go.Ev

theorem laid_val (p q : PropV) : (laid p q).val = bif has q 1 then q.val else bif sorts p q then Val.nul else p.val := by
  show Val.mix _ _ (Val.mix _ _ _) = _
  rw [Val.mix_eq, Val.mix_eq]; rfl
theorem laid_get (p q : PropV) : (laid p q).get = bif has q 2 then q.get else bif sorts p q then Val.nul else p.get := by
  show Val.mix _ _ (Val.mix _ _ _) = _
  rw [Val.mix_eq, Val.mix_eq]; rfl
theorem laid_set (p q : PropV) : (laid p q).set = bif has q 4 then q.set else bif sorts p q then Val.nul else p.set := by
  show Val.mix _ _ (Val.mix _ _ _) = _
  rw [Val.mix_eq, Val.mix_eq]; rfl
theorem laid_has (p q : PropV) : (laid p q).has = bif sorts p q then (bif accessor q then 54 else 57) else p.has := by
  show (bif sorts p q then (turned (accessor q) p).has else p.has) = _
  cases accessor q <;> rfl
theorem laid_w (p q : PropV) : (laid p q).w = bif has q 8 then q.w else bif sorts p q then false else p.w := rfl
theorem laid_e (p q : PropV) : (laid p q).e = bif has q 16 then q.e else p.e := rfl
theorem laid_c (p q : PropV) : (laid p q).c = bif has q 32 then q.c else p.c := rfl

structure Kinds (p q : PropV) : Prop where
  full : (laid p q).has = 54 ∨ (laid p q).has = 57
  a : (laid p q).has = 54 → has q 1 = false ∧ has q 8 = false ∧ has q 9 = false ∧ rzero (laid p q).val = true ∧ (laid p q).w = false
  d : (laid p q).has = 57 → has q 2 = false ∧ has q 4 = false ∧ has q 6 = false ∧ rzero (laid p q).get = true ∧ rzero (laid p q).set = true

theorem bl1 : ∀ a b : Bool, (b && a) = false → false = ((a || b) && !(a == true)) → b = false := by decide
theorem bl2 : ∀ a b : Bool, false = ((a || b) && !(a == false)) → a = false := by decide

theorem kinds {p q : PropV} (hp : MayP p) (hf : p.has = 54 ∨ p.has = 57) (hq : MayP q) : Kinds p q := by
  have b6 := bit6 hq.r
  have b9 := bit9 hq.r
  rw [← has_bit, ← has_bit, ← has_bit] at b6 b9
  have both := hq.both
  have hs := sorts_eq (p := p) hq
  have hh := laid_has p q
  have hv := laid_val p q
  have hg := laid_get p q
  have hse := laid_set p q
  have hw := laid_w p q
  rw [accessor_eq] at hh
  have no9 : has q 9 = false → has q 1 = false ∧ has q 8 = false := fun h => by rw [h] at b9; simpa using b9.symm
  have no6 : has q 6 = false → has q 2 = false ∧ has q 4 = false := fun h => by rw [h] at b6; simpa using b6.symm
  cases hso : sorts p q
  · rw [hso] at hh hv hg hse hw hs
    simp only [cond_false] at hh hv hg hse hw
    rcases hf with hf | hf
    · have hb := bits54 p hf
      have h9 : has q 9 = false := by
        rw [hb.2.2.2.2.2.2.1] at hs
        exact bl1 _ _ both hs
      obtain ⟨h1, h8⟩ := no9 h9
      rw [h1] at hv; rw [h8] at hw
      refine ⟨.inl (hh.trans hf), fun _ => ⟨h1, h8, h9, ?_, ?_⟩, fun h => by omega⟩
      · rw [hv]; have := hp.h1; rw [hb.1] at this; simpa using this
      · rw [hw]; have := hp.h8; rw [hb.2.2.2.1] at this; simpa using this
    · have hb := bits57 p hf
      have h6 : has q 6 = false := by
        rw [hb.2.2.2.2.2.2.1] at hs
        exact bl2 _ _ hs
      obtain ⟨h2, h4⟩ := no6 h6
      rw [h2] at hg; rw [h4] at hse
      refine ⟨.inr (hh.trans hf), fun h => by omega, fun _ => ⟨h2, h4, h6, ?_, ?_⟩⟩
      · rw [hg]; have := hp.h2; rw [hb.2.1] at this; simpa using this
      · rw [hse]; have := hp.h4; rw [hb.2.2.1] at this; simpa using this
  · rw [hso] at hh hv hg hse hw hs
    simp only [cond_true] at hh hv hg hse hw
    cases h6 : has q 6
    · rw [h6] at hh
      simp only [cond_false] at hh
      obtain ⟨h2, h4⟩ := no6 h6
      rw [h2] at hg; rw [h4] at hse
      refine ⟨.inr hh, fun h => by omega, fun _ => ⟨h2, h4, h6, ?_, ?_⟩⟩
      · rw [hg]; exact rzero_nul
      · rw [hse]; exact rzero_nul
    · rw [h6] at hh both
      simp only [cond_true] at hh
      have h9 : has q 9 = false := by simpa using both
      obtain ⟨h1, h8⟩ := no9 h9
      rw [h1] at hv; rw [h8] at hw
      refine ⟨.inl hh, fun _ => ⟨h1, h8, h9, ?_, ?_⟩, fun h => by omega⟩
      · rw [hv]; exact rzero_nul
      · rw [hw]; rfl

theorem laid_may {p q : PropV} (hp : MayP p) (hf : p.has = 54 ∨ p.has = 57) (hq : MayP q) : MayP (laid p q) := by
  have k := kinds hp hf hq
  have hval : may (laid p q).val = true := by
    rw [laid_val]; cases has q 1
    · cases sorts p q
      · exact hp.val
      · exact may_nul
    · exact hq.val
  have hget : callee (laid p q).get = true := by
    rw [laid_get]; cases has q 2
    · cases sorts p q
      · exact hp.get
      · exact callee_nul
    · exact hq.get
  have hset : callee (laid p q).set = true := by
    rw [laid_set]; cases has q 4
    · cases sorts p q
      · exact hp.set
      · exact callee_nul
    · exact hq.set
  rcases k.full with h | h
  · have hb := bits54 _ h
    have ha := k.a h
    refine ⟨by omega, by rw [hb.2.2.2.2.2.2.2]; rfl, by rw [ha.2.2.2.1]; simp, by rw [hb.2.1]; rfl, by rw [hb.2.2.1]; rfl, by rw [ha.2.2.2.2]; simp, by rw [hb.2.2.2.2.1]; rfl, by rw [hb.2.2.2.2.2.1]; rfl, hval, hget, hset⟩
  · have hb := bits57 _ h
    have ha := k.d h
    refine ⟨by omega, by rw [hb.2.2.2.2.2.2.1]; simp, by rw [hb.1]; rfl, by rw [ha.2.2.2.1]; simp, by rw [ha.2.2.2.2]; simp, by rw [hb.2.2.2.1]; rfl, by rw [hb.2.2.2.2.1]; rfl, by rw [hb.2.2.2.2.2.1]; rfl, hval, hget, hset⟩

/-- no other kind is asked for -/
theorem laid_sorts {p q : PropV} (hp : MayP p) (hf : p.has = 54 ∨ p.has = 57) (hq : MayP q) : sorts (laid p q) q = false := by
  have k := kinds hp hf hq
  rw [sorts_eq hq]
  have both := hq.both
  rcases k.full with h | h
  · have hb := bits54 _ h
    have ha := k.a h
    rw [ha.2.2.1, hb.2.2.2.2.2.2.1]
    cases has q 6 <;> rfl
  · have hb := bits57 _ h
    have ha := k.d h
    rw [ha.2.2.1, hb.2.2.2.2.2.2.1]
    simp

/-- twice is once -/
theorem laid_twice {p q : PropV} (hp : MayP p) (hf : p.has = 54 ∨ p.has = 57) (hq : MayP q) : laid (laid p q) q = laid p q := by
  have hs := laid_sorts hp hf hq
  have e : ∀ a b : PropV, a.has = b.has → a.val = b.val → a.get = b.get → a.set = b.set → a.w = b.w → a.e = b.e → a.c = b.c → a = b := by
    intro a b h1 h2 h3 h4 h5 h6 h7
    cases a; cases b; simp_all
  refine e _ _ ?_ ?_ ?_ ?_ ?_ ?_ ?_
  · rw [laid_has (laid p q) q, hs]; rfl
  · rw [laid_val (laid p q) q, hs]
    cases h : has q 1
    · rfl
    · rw [laid_val, h]; rfl
  · rw [laid_get (laid p q) q, hs]
    cases h : has q 2
    · rfl
    · rw [laid_get, h]; rfl
  · rw [laid_set (laid p q) q, hs]
    cases h : has q 4
    · rfl
    · rw [laid_set, h]; rfl
  · rw [laid_w (laid p q) q, hs]
    cases h : has q 8
    · rfl
    · rw [laid_w, h]; rfl
  · rw [laid_e (laid p q) q]
    cases h : has q 16
    · rfl
    · rw [laid_e, h]; rfl
  · rw [laid_c (laid p q) q]
    cases h : has q 32
    · rfl
    · rw [laid_c, h]; rfl

theorem fine_again {p q : PropV} (hp : MayP p) (hf : p.has = 54 ∨ p.has = 57) (hq : MayP q) : changeOk (laid p q) q = true := by
  have k := kinds hp hf hq
  have hL := laid_may hp hf hq
  have hs := laid_sorts hp hf hq
  rw [sorts_eq hq] at hs
  unfold changeOk bars
  rw [accessor_eq, accessor_eq, data_eq]
  have hc := laid_c p q
  have he := laid_e p q
  have hw := laid_w p q
  have sv : has q 1 = true → vsame q.val (laid p q).val = true := fun h => by rw [laid_val, h]; exact vsame_self hq.val
  have sg : has q 2 = true → vsame q.get (laid p q).get = true := fun h => by rw [laid_get, h]; exact vsame_self (callee_may hq.get)
  have ss : has q 4 = true → vsame q.set (laid p q).set = true := fun h => by rw [laid_set, h]; exact vsame_self (callee_may hq.set)
  generalize vsame q.val (laid p q).val = s1 at *
  generalize vsame q.get (laid p q).get = s2 at *
  generalize vsame q.set (laid p q).set = s3 at *
  generalize (laid p q).c = lc at *
  generalize (laid p q).e = le at *
  generalize (laid p q).w = lw at *
  generalize has (laid p q) 6 = l6 at *
  clear k hL
  have h16 : (bif has q 16 then !(q.e == le) else false) = false := by
    rw [he]; cases has q 16 <;> simp
  rw [h16]
  clear h16 he
  generalize has q 32 = b32 at *
  generalize has q 8 = b8 at *
  generalize has q 1 = b1 at *
  generalize has q 2 = b2 at *
  generalize has q 4 = b4 at *
  generalize has q 6 = b6 at *
  generalize has q 9 = b9 at *
  simp only [bif_or, bif_and]
  cases b32 <;> simp at hc <;> cases lc <;> simp <;> (try simp at hc) <;> simp_all <;> (cases b6 <;> cases b9 <;> cases l6 <;> cases b8 <;> simp_all)

end Go.Proofs.Pr

/- Property: what Change keeps, ended. -/
set_option maxRecDepth 100000
namespace Go.Proofs.Pr
open Go Go.Ev

theorem nul_bits (k : Int) : has PropV.nul k = false := by
  rw [has_bit]
  show bit 0 k = false
  show (IntKind.i64.wrap ((0#64 &&& BitVec.ofInt 64 k).toNat : Int) != 0) = false
  rw [BitVec.zero_and]
  rfl

theorem nul_may : MayP PropV.nul := by
  refine ⟨by decide, by rw [nul_bits]; rfl, ?_, ?_, ?_, rfl, ?_, ?_, may_nul, callee_nul, callee_nul⟩
  · show (_ || rzero Val.nul) = true; rw [rzero_nul]; simp
  · show (_ || rzero Val.nul) = true; rw [rzero_nul]; simp
  · show (_ || rzero Val.nul) = true; rw [rzero_nul]; simp
  · rw [nul_bits]; rfl
  · rw [nul_bits]; rfl

theorem stays_ok (a : PropV) : changeOk a PropV.nul = true := by
  unfold changeOk bars
  rw [accessor_eq PropV.nul, data_eq PropV.nul]
  simp only [nul_bits]
  cases a.c <;> rfl

theorem stays_laid (a : PropV) : laid a PropV.nul = a := by
  have hs : sorts a PropV.nul = false := by rw [sorts_eq nul_may, nul_bits, nul_bits]; rfl
  have e : ∀ a b : PropV, a.has = b.has → a.val = b.val → a.get = b.get → a.set = b.set → a.w = b.w → a.e = b.e → a.c = b.c → a = b := by
    intro a b h1 h2 h3 h4 h5 h6 h7
    cases a; cases b; simp_all
  refine e _ _ ?_ ?_ ?_ ?_ ?_ ?_ ?_
  · rw [laid_has, hs]; rfl
  · rw [laid_val, hs, nul_bits]; rfl
  · rw [laid_get, hs, nul_bits]; rfl
  · rw [laid_set, hs, nul_bits]; rfl
  · rw [laid_w, hs, nul_bits]; rfl
  · rw [laid_e, nul_bits]; rfl
  · rw [laid_c, nul_bits]; rfl

def full1 (n : Int) : Int := bitsOf .or .i64 (bif bit n 6 then bitsOf .or .i64 n 6 else bitsOf .or .i64 n 9) 48

theorem full_has (p : PropV) : (full p).has = full1 p.has := by
  show bitsOf .or .i64 (bif accessor p then _ else _) 48 = _
  rw [accessor_eq, has_bit]; rfl

theorem full1_spec {n : Int} (h : 0 ≤ n ∧ n ≤ 63) (hb : (bit n 9 && bit n 6) = false) : full1 (full1 n) = bif bit n 6 then 54 else 57 :=
  all64 (Q := fun n => (bit n 9 && bit n 6) = false → full1 (full1 n) = bif bit n 6 then 54 else 57) (by decide +kernel) h hb

theorem full_full {q : PropV} (hq : MayP q) : isfull (full (full q)) = true := by
  rw [isfull_iff]
  have hh : (full (full q)).has = bif bit q.has 6 then 54 else 57 := by
    rw [full_has, full_has]
    exact full1_spec hq.r (by rw [← has_bit, ← has_bit]; exact hq.both)
  have b6 := bit6 hq.r
  have b9 := bit9 hq.r
  have both := hq.both
  rw [has_bit, has_bit] at both
  cases h6 : bit q.has 6
  · rw [h6] at hh b6
    have hh : (full (full q)).has = 57 := hh
    have h2 : bit q.has 2 = false ∧ bit q.has 4 = false := by simpa using b6.symm
    have hb := bits57 _ hh
    have g := hq.h2
    have s := hq.h4
    rw [has_bit, h2.1] at g
    rw [has_bit, h2.2] at s
    refine ⟨⟨by omega, by rw [hb.2.2.2.2.2.2.1]; simp, by rw [hb.1]; rfl, ?_, ?_, by rw [hb.2.2.2.1]; rfl, by rw [hb.2.2.2.2.1]; rfl, by rw [hb.2.2.2.2.2.1]; rfl, hq.val, hq.get, hq.set⟩, .inr hh⟩
    · show (_ || rzero q.get) = true; rw [show rzero q.get = true by simpa using g]; simp
    · show (_ || rzero q.set) = true; rw [show rzero q.set = true by simpa using s]; simp
  · rw [h6] at hh both
    have hh : (full (full q)).has = 54 := hh
    have h9 : bit q.has 9 = false := by simpa using both
    rw [h9] at b9
    have h1 : bit q.has 1 = false ∧ bit q.has 8 = false := by simpa using b9.symm
    have hb := bits54 _ hh
    have v := hq.h1
    have w := hq.h8
    rw [has_bit, h1.1] at v
    rw [has_bit, h1.2] at w
    refine ⟨⟨by omega, by rw [hb.2.2.2.2.2.2.2]; rfl, ?_, by rw [hb.2.1]; rfl, by rw [hb.2.2.1]; rfl, ?_, by rw [hb.2.2.2.2.1]; rfl, by rw [hb.2.2.2.2.2.1]; rfl, hq.val, hq.get, hq.set⟩, .inl hh⟩
    · show (_ || rzero q.val) = true; rw [show rzero q.val = true by simpa using v]; simp
    · show (_ || !q.w) = true; rw [show (!q.w) = true by simpa using w]; simp

theorem bl3 : ∀ a b : Bool, (bif !(bif !a then !b else false) then false else true) = true → a = false ∧ b = false := by decide

/-- what is neither to be configured nor to be written stays -/
theorem stays {p q : PropV} (hp : MayP p) (hq : MayP q) (wp : WfP p) (wq : WfP q) (hc : p.c = false) (hw : p.w = false) (hok : changeOk p q = true) : rpsame (laid p q) p = true := by
  have b6 := bit6 hq.r
  have b9 := bit9 hq.r
  rw [← has_bit, ← has_bit, ← has_bit] at b6 b9
  have hs := sorts_eq (p := p) hq
  unfold changeOk bars at hok
  rw [hc, hw, accessor_eq, accessor_eq, data_eq] at hok
  simp only [bif_or, bif_and, Bool.not_false, Bool.true_and, Bool.not_eq_true'] at hok
  have both := hq.both
  have h8 := hq.h8
  -- the parts
  have same : sorts p q = false ∧ (has q 32 = true → q.c = false) ∧ (has q 16 = true → q.e = p.e) ∧ (has q 8 = true → q.w = false) ∧ (has q 1 = true → vsame q.val p.val = true) ∧ (has q 2 = true → vsame q.get p.get = true) ∧ (has q 4 = true → vsame q.set p.set = true) := by
    rw [hs]
    have he : (has q 16 && !(q.e == p.e)) = false → (has q 16 = true → q.e = p.e) := fun h h16 => by
      rw [h16] at h; simpa using h
    generalize hee : (has q 16 && !(q.e == p.e)) = ee at *
    cases ee
    · refine ⟨?_, ?_, he rfl, ?_, ?_, ?_, ?_⟩ <;> clear he hee hs hp hq wp wq h8 <;>
        generalize has q 32 = b32 at * <;> generalize has q 8 = b8 at * <;> generalize has q 1 = b1 at * <;> generalize has q 2 = b2 at * <;> generalize has q 4 = b4 at * <;> generalize has q 6 = b6' at * <;> generalize has q 9 = b9' at * <;> generalize has p 6 = p6 at * <;>
        generalize vsame q.val p.val = s1 at * <;> generalize vsame q.get p.get = s2 at * <;> generalize vsame q.set p.set = s3 at * <;> generalize q.c = qc at * <;> generalize q.w = qw at * <;> subst b6 <;> subst b9 <;>
        cases b32 <;> cases qc <;> simp at hok ⊢ <;> cases b1 <;> cases b8 <;> cases b2 <;> cases b4 <;> simp at both hok ⊢ <;> cases p6 <;> simp_all
    · exfalso
      revert hok
      cases (has q 32 && q.c) <;> simp
  obtain ⟨k0, k32, k16, k8, k1, k2, k4⟩ := same
  have hh : (laid p q).has = p.has := by rw [laid_has, k0]; rfl
  have hv : rbits (laid p q).val p.val = true := by
    rw [laid_val, k0]
    cases h : has q 1
    · exact rbits_self _
    · exact vsame_bits wq.2.1 wp.2.1 hq.val hp.val (k1 h)
  have hg : rbits (laid p q).get p.get = true := by
    rw [laid_get, k0]
    cases h : has q 2
    · exact rbits_self _
    · exact vsame_bits wq.2.2.1 wp.2.2.1 (callee_may hq.get) (callee_may hp.get) (k2 h)
  have hse : rbits (laid p q).set p.set = true := by
    rw [laid_set, k0]
    cases h : has q 4
    · exact rbits_self _
    · exact vsame_bits wq.2.2.2 wp.2.2.2 (callee_may hq.set) (callee_may hp.set) (k4 h)
  have hww : (laid p q).w = p.w := by
    rw [laid_w, k0, hw]
    cases h : has q 8
    · rfl
    · exact k8 h
  have hee : (laid p q).e = p.e := by
    rw [laid_e]
    cases h : has q 16
    · rfl
    · exact k16 h
  have hcc : (laid p q).c = p.c := by
    rw [laid_c, hc]
    cases h : has q 32
    · rfl
    · exact k32 h
  unfold rpsame
  rw [hh, hv, hg, hse, hww, hee, hcc]
  simp

theorem keeps_true {p q : PropV} (wp : WfP p) (wq : WfP q) : keeps p q = true := by
  have e : keeps p q = bif !bif !isfull p then true else !rmay q then bif !!changeOk p q then bif !!isfull (change p q) then bif !bif !changeOk (change p q) q then true else !rpsame (change (change p q) q) (change p q) then
      bif !bif bif !changeOk (change p q) PropV.nul then true else !rpsame (change (change p q) PropV.nul) (change p q) then true else !isfull (full (full q)) then bif bif bif p.c then true else p.w then true else rpsame (change p q) p then true else false else false else false else false else bif !p.c then true else false else true := rfl
  rw [e]
  cases h1 : isfull p
  · rfl
  · cases h2 : rmay q
    · rfl
    · obtain ⟨hp, hf⟩ := (isfull_iff p).1 h1
      have hq := (rmay_iff q).1 h2
      cases hok : changeOk p q
      · have : p.c = false := by
          unfold changeOk at hok
          cases hc : p.c
          · rfl
          · rw [hc] at hok; cases hok
        rw [this]; rfl
      · rw [change_laid hok]
        have k := kinds hp hf hq
        have hL := laid_may hp hf hq
        have hfull : isfull (laid p q) = true := (isfull_iff _).2 ⟨hL, k.full⟩
        have hfine := fine_again hp hf hq
        rw [hfull, hfine, change_laid hfine, laid_twice hp hf hq, rpsame_self, stays_ok, change_laid (stays_ok _), stays_laid, rpsame_self, full_full hq]
        cases hc : p.c
        · cases hw : p.w
          · rw [stays hp hq wp wq hc hw hok]; rfl
          · rfl
        · rfl

end Go.Proofs.Pr
