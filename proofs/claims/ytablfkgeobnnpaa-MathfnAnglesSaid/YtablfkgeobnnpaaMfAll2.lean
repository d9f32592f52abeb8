/- Contracts of the program's functions, and the plain law behind them. No condition beyond those in each statement. -/
import Derived.Test.YtablfkgeobnnpaaMfAll1
import Derived.Test.YtablfkgeobnnpaaPlAll1
import Derived.Test.YtablfkgeobnnpaaEvAll3
set_option linter.unusedSimpArgs false
set_option linter.unusedVariables false
set_option linter.unusedSectionVars false
/- Contracts of functions, taken over from another seat; no condition beyond those in each statement. -/
set_option maxRecDepth 100000
namespace Go.Proofs.Bn
open Go Go.Ev

theorem hm : Try.prog.follows .mixedOrders = true := Go.Proofs.Mf.hm

theorem sok0 : SigsOK Try.prog [] := Go.Proofs.Mf.sok0

/-- a length that no list in memory passes -/
def lim : Nat := 281474976710656

theorem inR64 {x : Int} (h0 : -9223372036854775808 ≤ x) (h1 : x ≤ 9223372036854775807) : inR .i64 x := ⟨h0, h1⟩

/-- a length of words that append bears -/
def lim4 : Nat := 35184372088832

theorem inRu64 {x : Int} (h0 : 0 ≤ x) (h1 : x < 18446744073709551616) : inR .u64 x := ⟨h0, by omega⟩

theorem ix0 (j : Nat) : ixPlus 0 j = j := rfl

theorem lim4_lt {n : Nat} (h : n ≤ lim4) : n < lim := by unfold lim4 at h; unfold lim; omega

theorem pow_int (n : Nat) : (4294967296 : Int) ^ n = ((4294967296 ^ n : Nat) : Int) := by rw [Int.natCast_pow]; rfl

/-- the kinds of a shift's counts -/
structure Cnt (n : Int) (w r : Nat) : Prop where
  h0 : 0 ≤ n
  ew : n.tdiv 32 = (w : Int)
  er : n.tmod 32 = (r : Int)
  rlt : r < 32
  en : n = 32 * (w : Int) + r

theorem cnt {n : Int} (h : 0 ≤ n) : Cnt n (n.toNat / 32) (n.toNat % 32) := by
  refine ⟨h, ?_, ?_, by omega, by omega⟩
  · rw [Int.tdiv_eq_ediv_of_nonneg h]; omega
  · rw [Int.tmod_eq_emod_of_nonneg h]; omega

theorem two_pow (r : Nat) : (2 : Int) ^ r = ((2 ^ r : Nat) : Int) := by rw [Int.natCast_pow]; rfl

theorem pow_int_mul (m n : Nat) : (4294967296 : Int) ^ m * 4294967296 ^ n = 4294967296 ^ (m + n) := by rw [Int.pow_add]

theorem zeros_nat (w : Nat) : nat (List.replicate w (0 : Int)) = 0 := nat_zeros fun x hx => (List.mem_replicate.1 hx).2

/-- the words of a number of two words -/
def two (x : Int) : List Int := [x % 4294967296, x / 4294967296 % 4294967296]

theorem words_two (x : Int) : Words (two x) := fun y hy => by
  simp only [two, List.mem_cons, List.not_mem_nil, or_false] at hy
  omega

theorem nat_two {x : Int} (h0 : 0 ≤ x) (h1 : x < 18446744073709551616) : nat (two x) = x.toNat := by
  simp only [two, nat]
  omega

theorem norm_nil {a : List Int} (ha : Words a) : (norm a).length = 0 ↔ nat a = 0 := by
  rw [norm_eq ha]
  constructor
  · intro h
    have := nat_dig (nat a)
    rw [List.eq_nil_of_length_eq_zero h] at this
    exact this.symm
  · intro h
    rw [h, dig_zero]
    rfl

theorem shW_int {x y : Int} {s : Nat} (hs : s < 32) (hx : 0 ≤ x ∧ x < 4294967296) (hy : 0 ≤ y ∧ y < 4294967296) : bitsOf .or .u64 x (y * 4294967296) / ((2 ^ s : Nat) : Int) % 4294967296 = (shW x.toNat y.toNat s : Int) ∧ bitsOf .or .u64 (y * 4294967296) x / ((2 ^ s : Nat) : Int) % 4294967296 = (shW x.toNat y.toNat s : Int) := by
  obtain ⟨a, b⟩ := or_add (k := .u64) (s := 32) (x := x) (y := y * 4294967296) rfl hx.1 (by simp; omega) (by omega) (by show _ < (2 : Int) ^ 64; omega) (by simp) (by decide)
  have e : x + y * 4294967296 = ((y.toNat * 4294967296 + x.toNat : Nat) : Int) := by omega
  rw [a, b, e, ← Int.natCast_ediv]
  unfold shW
  constructor <;> omega

theorem bl_small {n k : Nat} (h : n < 2 ^ k) : bl n ≤ k := (bl_le n k).2 h

theorem normL1 (a : List Int) (ta : Bool) (i : Nat) (h : AllP [decide ((↑i : Int) > (0 : Int)) = true, inR IntKind.i64 ((↑i : Int) - (1 : Int)), (0 : Int) ≤ (↑i : Int) - (1 : Int) ∧ (↑i : Int) - (1 : Int) < (↑a.length : Int), (a.getD ((↑i : Int) - (1 : Int)).toNat (0 : Int) == (0 : Int)) = true, inR IntKind.i64 ((↑i : Int) - (1 : Int))]) : To Try.prog (loopAt Try.f108 0) (⟨24, [(0, .sl 1 (.ints .u32 a) ta), (3, .v (.int .i64 i))], [], 0⟩) (.normal) { n := 24, fr := [(0, AV.sl 1 (.ints .u32 a) ta), (3, AV.v (.int .i64 ((↑i : Int) - (1 : Int))))], hp := [], nx := 0 } :=
  evW_to hm sok0 (hs := [CHint.ops 2 [(1, Hint.b true), (8, Hint.b true)]]) (slots := [0,3]) (keys := []) (nx := 0) (c := _) (by kernel_rfl) h

theorem normL2 (a : List Int) (ta : Bool) (i : Nat) (h : AllP [decide ((↑i : Int) > (0 : Int)) = true, inR IntKind.i64 ((↑i : Int) - (1 : Int)), (0 : Int) ≤ (↑i : Int) - (1 : Int) ∧ (↑i : Int) - (1 : Int) < (↑a.length : Int), (a.getD ((↑i : Int) - (1 : Int)).toNat (0 : Int) == (0 : Int)) = false]) : To Try.prog (loopAt Try.f108 0) (⟨24, [(0, .sl 1 (.ints .u32 a) ta), (3, .v (.int .i64 i))], [], 0⟩) (Exit.exit 0) { n := 24, fr := [(0, AV.sl 1 (.ints .u32 a) ta), (3, AV.v (.int .i64 (↑i : Int)))], hp := [], nx := 0 } :=
  evW_to hm sok0 (hs := [CHint.ops 2 [(1, Hint.b true), (8, Hint.b false)]]) (slots := [0,3]) (keys := []) (nx := 0) (c := _) (by kernel_rfl) h

theorem normL3 (a : List Int) (ta : Bool) (i : Nat) (h : AllP [decide ((↑i : Int) > (0 : Int)) = false]) : To Try.prog (loopAt Try.f108 0) (⟨24, [(0, .sl 1 (.ints .u32 a) ta), (3, .v (.int .i64 i))], [], 0⟩) (Exit.exit 0) { n := 24, fr := [(0, AV.sl 1 (.ints .u32 a) ta), (3, AV.v (.int .i64 (↑i : Int)))], hp := [], nx := 0 } :=
  evW_to hm sok0 (hs := [CHint.ops 2 [(1, Hint.b false)]]) (slots := [0,3]) (keys := []) (nx := 0) (c := _) (by kernel_rfl) h
-- 1 paths

theorem normF1 (a : List Int) (ta : Bool) (n : Nat) (h : AllP [LoopTo Try.prog (loopAt Try.f108 0) { n := 24, fr := [(0, AV.sl 1 (.ints .u32 a) ta), (3, AV.v (.int .i64 (↑a.length : Int)))], hp := [], nx := 0 } (Exit.exit 0) { n := 24, fr := [(0, AV.sl 1 (.ints .u32 a) ta), (3, AV.v (.int .i64 (↑n : Int)))], hp := [], nx := 0 }, (0 : Int) ≤ (↑n : Int) ∧ (↑n : Int) ≤ (↑a.length : Int), (List.take (↑n : Int).toNat a).length * 4 ≤ 140737488355328, (List.take (↑n : Int).toNat a).length = (List.take (↑n : Int).toNat a).length, 0 ≤ (List.take (↑n : Int).toNat a).length]) : PureTo Try.prog 108 [.sl 1 (.ints .u32 a) ta] (AV.sl 1 (.ints .u32 (List.take (↑n : Int).toNat a)) false) :=
  evFn_pure hm sok0 (fn := Try.f108) rfl rfl (ti := false) (hs := [CHint.loop [0, 3] [] 0 (Exit.exit 0) { n := 24, fr := [(0, AV.sl 1 (.ints .u32 a) ta), (3, AV.v (.int .i64 (↑n : Int)))], hp := [], nx := 0 }]) (c := _) (by kernel_rfl) h

theorem norm_loop (a : List Int) (ta : Bool) (hl : a.length < lim) : ∀ n : Nat, n ≤ a.length →
    LoopTo Try.prog (loopAt Try.f108 0) ⟨24, [(0, .sl 1 (.ints .u32 a) ta), (3, .v (.int .i64 n))], [], 0⟩ (.exit 0) ⟨24, [(0, .sl 1 (.ints .u32 a) ta), (3, .v (.int .i64 (cutN a n)))], [], 0⟩ := by
  unfold lim at hl
  intro n
  induction n with
  | zero =>
    intro _
    exact .done (by simp) (normL3 a ta 0 ⟨by simp, trivial⟩)
  | succ n ih =>
    intro hn
    have e : ((n + 1 : Nat) : Int) - 1 = (n : Int) := by omega
    by_cases hz : a.getD n 0 = 0
    · have h1 := normL1 a ta (n + 1) (by rw [e]; exact ⟨by simp, inR64 (by omega) (by omega), by omega, by simpa using hz, inR64 (by omega) (by omega), trivial⟩)
      rw [e] at h1
      have := LoopTo.step h1 (ih (by omega))
      simp only [cutN, if_pos hz]
      exact this
    · have h1 := normL2 a ta (n + 1) (by rw [e]; exact ⟨by simp, inR64 (by omega) (by omega), by omega, by simpa using hz, trivial⟩)
      simp only [cutN, if_neg hz]
      exact .done (by simp) h1

theorem norm_pure (a : List Int) (ta : Bool) (hl : a.length ≤ lim4) : PureTo Try.prog 108 [.sl 1 (.ints .u32 a) ta] (.sl 1 (.ints .u32 (norm a)) false) := by
  have := cutN_le a a.length
  unfold lim4 at hl
  have h := normF1 a ta (cutN a a.length) ⟨norm_loop a ta (by unfold lim; omega) a.length (Nat.le_refl _), by omega, by rw [Int.toNat_natCast, List.length_take]; omega, rfl, Nat.zero_le _, trivial⟩
  rw [Int.toNat_natCast] at h
  exact h

def sigNorm : List AV → Option (AV × List Prop)
  | [.sl 1 (.ints .u32 a) _] => some (.sl 1 (.ints .u32 (norm a)) false, [a.length ≤ lim4])
  | _ => none

def RS1 : SGT := (108, .p sigNorm) :: []

theorem rsok1 : SigsOK Try.prog RS1 := by
  refine sigs_cons sok0 ?_
  · intro ys r c h hc
    unfold sigNorm at h
    split at h
    · cases h; exact norm_pure _ _ hc.1
    · cases h

theorem wordF1 (a : List Int) (ta : Bool) (i : Int) (h : AllP [decide (i < (↑a.length : Int)) = true, (0 : Int) ≤ i ∧ i < (↑a.length : Int), inR IntKind.u64 (a.getD i.toNat (0 : Int))]) : PureTo Try.prog 111 [.sl 1 (.ints .u32 a) ta, .v (.int .i64 i)] (AV.v (.int .u64 (a.getD i.toNat (0 : Int)))) :=
  evFn_pure hm rsok1 (fn := Try.f111) rfl rfl (ti := false) (hs := [CHint.ops 1 [(3, Hint.b true)]]) (c := _) (by kernel_rfl) h

theorem wordF2 (a : List Int) (ta : Bool) (i : Int) (h : AllP [decide (i < (↑a.length : Int)) = false]) : PureTo Try.prog 111 [.sl 1 (.ints .u32 a) ta, .v (.int .i64 i)] (AV.v (.int .u64 (0 : Int))) :=
  evFn_pure hm rsok1 (fn := Try.f111) rfl rfl (ti := false) (hs := [CHint.ops 1 [(3, Hint.b false)]]) (c := _) (by kernel_rfl) h
-- 1 paths

theorem rofF1 (x : Int) (h : AllP [(0 : Int) ≤ (32 : Int), [x % (4294967296 : Int), x / (4294967296 : Int) % (4294967296 : Int)].length ≤ lim4]) : PureTo Try.prog 104 [.v (.int .u64 x)] (AV.sl 1 (.ints .u32 (norm [x % (4294967296 : Int), x / (4294967296 : Int) % (4294967296 : Int)])) false) :=
  evFn_pure hm rsok1 (fn := Try.f104) rfl rfl (ti := false) (hs := []) (c := _) (by kernel_rfl) h
-- 2 paths

theorem rbitsL0_1 (a : List Int) (ta : Bool) (x0 : Int) (x1 : Int) (h : AllP [decide (x1 > (0 : Int)) = true, inR IntKind.i64 (x0 + (1 : Int)), (0 : Int) ≤ (1 : Int)]) : To Try.prog (loopAt Try.f109 0) ({ n := 28, fr := [(4, AV.v (.int .i64 x0)), (5, AV.v (.int .u32 x1))], hp := [], nx := 0 }) (.normal) { n := 28, fr := [(4, AV.v (.int .i64 (x0 + (1 : Int)))), (5, AV.v (.int .u32 (x1 / (2 : Int))))], hp := [], nx := 0 } :=
  evW_to hm rsok1 (hs := [CHint.ops 6 [(1, Hint.b true)]]) (slots := [4, 5]) (keys := []) (nx := 0) (c := _) (by kernel_rfl) h

theorem rbitsL0_2 (a : List Int) (ta : Bool) (x0 : Int) (x1 : Int) (h : AllP [decide (x1 > (0 : Int)) = false]) : To Try.prog (loopAt Try.f109 0) ({ n := 28, fr := [(4, AV.v (.int .i64 x0)), (5, AV.v (.int .u32 x1))], hp := [], nx := 0 }) (Exit.exit 0) { n := 28, fr := [(4, AV.v (.int .i64 x0))], hp := [], nx := 0 } :=
  evW_to hm rsok1 (hs := [CHint.ops 6 [(1, Hint.b false)]]) (slots := [4]) (keys := []) (nx := 0) (c := _) (by kernel_rfl) h
-- 2 paths

theorem rbitsF1 (a : List Int) (ta : Bool) (x2 : Int) (h : AllP [a.length ≤ lim4, ((↑(norm a).length : Int) == (0 : Int)) = true]) : PureTo Try.prog 109 [.sl 1 (.ints .u32 a) ta] (AV.v (.int .i64 (0 : Int))) :=
  evFn_pure hm rsok1 (fn := Try.f109) rfl rfl (ti := false) (hs := [CHint.ops 2 [(2, Hint.b true)]]) (c := _) (by kernel_rfl) h

theorem rbitsF2 (a : List Int) (ta : Bool) (x2 : Int) (h : AllP [a.length ≤ lim4, ((↑(norm a).length : Int) == (0 : Int)) = false, inR IntKind.i64 ((↑(norm a).length : Int) - (1 : Int)), inR IntKind.i64 ((32 : Int) * ((↑(norm a).length : Int) - (1 : Int))), inR IntKind.i64 ((↑(norm a).length : Int) - (1 : Int)), (0 : Int) ≤ (↑(norm a).length : Int) - (1 : Int) ∧ (↑(norm a).length : Int) - (1 : Int) < (↑(norm a).length : Int), LoopTo Try.prog (loopAt Try.f109 0) { n := 28, fr := [(4, AV.v (.int .i64 ((32 : Int) * ((↑(norm a).length : Int) - (1 : Int))))), (5, AV.v (.int .u32 ((norm a).getD ((↑(norm a).length : Int) - (1 : Int)).toNat (0 : Int))))], hp := [], nx := 0 } (Exit.exit 0) { n := 28, fr := [(4, AV.v (.int .i64 x2))], hp := [], nx := 0 }]) : PureTo Try.prog 109 [.sl 1 (.ints .u32 a) ta] (AV.v (.int .i64 x2)) :=
  evFn_pure hm rsok1 (fn := Try.f109) rfl rfl (ti := false) (hs := [CHint.ops 2 [(2, Hint.b false)], CHint.loop [4, 5] [] 0 (Exit.exit 0) { n := 28, fr := [(4, AV.v (.int .i64 x2))], hp := [], nx := 0 }]) (c := _) (by kernel_rfl) h

theorem word_pure (a : List Int) (ta : Bool) (i : Int) (h : Words a) (h0 : 0 ≤ i) : PureTo Try.prog 111 [.sl 1 (.ints .u32 a) ta, .v (.int .i64 i)] (.v (.int .u64 (wd a i))) := by
  unfold wd
  rw [if_pos h0]
  by_cases h1 : i < a.length
  · have := words_getD h i.toNat
    exact wordF1 a ta i (by simp only [AllP, inR, decide_eq_false_iff_not, decide_eq_true_eq, bne_iff_ne, beq_iff_eq, ne_eq, bne_eq_false_iff_eq, beq_eq_false_iff_ne]; (repeat' apply And.intro) <;> first | omega | exact trivial)
  · have e : a.getD i.toNat 0 = 0 := getD_out (by omega)
    rw [e]
    exact wordF2 a ta i (by simp only [AllP, inR, decide_eq_false_iff_not, decide_eq_true_eq, bne_iff_ne, beq_iff_eq, ne_eq, bne_eq_false_iff_eq, beq_eq_false_iff_ne]; (repeat' apply And.intro) <;> first | omega | exact trivial)

theorem rof_pure (x : Int) (h0 : 0 ≤ x) (h1 : x < 18446744073709551616) : PureTo Try.prog 104 [.v (.int .u64 x)] (.sl 1 (.ints .u32 (dig x.toNat)) false) := by
  have h := rofF1 x (by simp only [AllP, lim, lim4, List.length_cons, List.length_nil]; (repeat' apply And.intro) <;> first | omega | exact trivial)
  have e : norm (two x) = dig x.toNat := by rw [norm_eq (words_two x), nat_two h0 h1]
  rw [← e]
  exact h

theorem rbits_loop (a : List Int) (ta : Bool) : ∀ (f n : Nat) (x : Int), bl n = f → n < 4294967296 → 0 ≤ x → x + f < 1000000000000000000 →
    LoopTo Try.prog (loopAt Try.f109 0) { n := 28, fr := [(4, AV.v (.int .i64 x)), (5, AV.v (.int .u32 n))], hp := [], nx := 0 } (.exit 0) { n := 28, fr := [(4, AV.v (.int .i64 (x + f)))], hp := [], nx := 0 } := by
  intro f
  induction f with
  | zero =>
    intro n x hb hn h0 h1
    have : n = 0 := bl_zero.1 hb
    subst this
    rw [show (x + ((0 : Nat) : Int)) = x by omega]
    exact .done (by simp) (rbitsL0_2 a ta x 0 ⟨by simp, trivial⟩)
  | succ f ih =>
    intro n x hb hn h0 h1
    have hn0 : n ≠ 0 := fun e => by rw [bl_zero.2 e] at hb; omega
    have hs := bl_shift n 1
    have h2 := ih (n / 2) (x + 1) (by rw [show n / 2 = n / 2 ^ 1 from rfl, hs]; omega) (by omega) (by omega) (by omega)
    have e : (x + 1 + (f : Int)) = x + ((f + 1 : Nat) : Int) := by omega
    rw [e] at h2
    have h3 := rbitsL0_1 a ta x n (by
      refine ⟨by simp; omega, ?_⟩
      simp only [AllP, inR]
      (repeat' apply And.intro) <;> first | omega | exact trivial)
    exact .step h3 h2

theorem rbits_pure (a : List Int) (ta : Bool) (h : Words a) (hl : a.length ≤ lim4) : PureTo Try.prog 109 [.sl 1 (.ints .u32 a) ta] (.v (.int .i64 (bl (nat a)))) := by
  have h1 := norm_length_le a
  have hl2 := hl
  unfold lim4 at hl2
  by_cases h0 : (norm a).length = 0
  · have e : nat a = 0 := by
      rw [← nat_norm, List.eq_nil_of_length_eq_zero h0]
      rfl
    rw [e]
    exact rbitsF1 a ta 0 ⟨hl, by simp [h0], trivial⟩
  · obtain ⟨e1, e2⟩ := bl_words h h0
    have e3 : ((norm a).length - 1 : Int).toNat = (norm a).length - 1 := by omega
    have hw := words_getD (words_norm h) ((norm a).length - 1)
    generalize hx : (norm a).getD ((norm a).length - 1) 0 = x at *
    have hb32 : bl x.toNat ≤ 32 := bl_small (by omega)
    have hlp := rbits_loop a ta (bl x.toNat) x.toNat (32 * (((norm a).length : Int) - 1)) rfl (by omega) (by omega) (by omega)
    have ex : ((x.toNat : Nat) : Int) = x := by omega
    rw [ex] at hlp
    have := rbitsF2 a ta (32 * (((norm a).length : Int) - 1) + (bl x.toNat : Int)) (by
      rw [e3, hx]
      refine ⟨hl, by simpa using h0, ?_, ?_, ?_, ?_, hlp, trivial⟩
      all_goals first | (simp only [inR]; omega) | omega)
    have e4 : ((bl (nat a) : Nat) : Int) = 32 * (((norm a).length : Int) - 1) + (bl x.toNat : Int) := by omega
    rw [e4]
    exact this

def sigWord : List AV → Option (AV × List Prop)
  | [.sl 1 (.ints .u32 a) _, .v (.int .i64 i)] => some (.v (.int .u64 (wd a i)), [Words a, 0 ≤ i])
  | _ => none

def sigROf : List AV → Option (AV × List Prop)
  | [.v (.int .u64 x)] => some (.sl 1 (.ints .u32 (dig x.toNat)) false, [0 ≤ x, x < 18446744073709551616])
  | _ => none

def sigRBits : List AV → Option (AV × List Prop)
  | [.sl 1 (.ints .u32 a) _] => some (.v (.int .i64 (bl (nat a))), [Words a, a.length ≤ lim4])
  | _ => none

def RS2 : SGT := (111, .p sigWord) :: (104, .p sigROf) :: (109, .p sigRBits) :: RS1

theorem rsok2 : SigsOK Try.prog RS2 := by
  refine sigs_cons (sigs_cons (sigs_cons rsok1 ?_) ?_) ?_
  · intro ys r c h hc
    unfold sigRBits at h
    split at h
    · cases h; exact rbits_pure _ _ hc.1 hc.2.1
    · cases h
  · intro ys r c h hc
    unfold sigROf at h
    split at h
    · cases h; exact rof_pure _ hc.1 hc.2.1
    · cases h
  · intro ys r c h hc
    unfold sigWord at h
    split at h
    · cases h; exact word_pure _ _ _ hc.1 hc.2.1
    · cases h

def rcmS0 (a b : List Int) (ta tb : Bool) (x0 : Int) : AS := { n := 35, fr := [(0, AV.sl 1 (.ints .u32 a) ta), (1, AV.sl 1 (.ints .u32 b) tb), (6, AV.v (.int .i64 x0))], hp := [], nx := 0 }

def rcmX0 (a b : List Int) (ta tb : Bool)  : AS := { n := 35, fr := [], hp := [], nx := 0 }

def rcmX0_1 (a b : List Int) (ta tb : Bool) (x1 : Int) : AS := { n := 35, fr := [(4, AV.v (.int .i64 x1))], hp := [], nx := 0 }

def plusS0 (a b : List Int) (ta tb : Bool) (x0 : Int) (x1 : Int) (l0 : List Int) (n0 : Nat) : AS := { n := 43, fr := [(0, AV.sl 1 (.ints .u32 a) ta), (1, AV.sl 1 (.ints .u32 b) tb), (5, AV.row 1 0 l0.length l0.length false), (6, AV.v (.int .u64 x0)), (7, AV.v (.int .i64 x1))], hp := [(1, AObj.row 59 1 (.ints .u32 l0) n0)], nx := 2 }

def plusX0 (a b : List Int) (ta tb : Bool) (x2 : Int) (l1 : List Int) (n1 : Nat) : AS := { n := 43, fr := [(5, AV.row 1 0 l1.length l1.length false), (6, AV.v (.int .u64 x2))], hp := [(1, AObj.row 59 1 (.ints .u32 l1) n1)], nx := 2 }

def lessS0 (a b : List Int) (ta tb : Bool) (x0 : Int) (x1 : Int) (l0 : List Int) (n0 : Nat) : AS := { n := 33, fr := [(0, AV.sl 1 (.ints .u32 a) ta), (1, AV.sl 1 (.ints .u32 b) tb), (5, AV.row 1 0 l0.length l0.length false), (6, AV.v (.int .u64 x0)), (7, AV.v (.int .i64 x1))], hp := [(1, AObj.row 59 1 (.ints .u32 l0) n0)], nx := 2 }

def lessX0 (a b : List Int) (ta tb : Bool) (l1 : List Int) (n1 : Nat) : AS := { n := 33, fr := [(5, AV.row 1 0 l1.length l1.length false)], hp := [(1, AObj.row 59 1 (.ints .u32 l1) n1)], nx := 2 }
-- 4 paths

theorem rcmL0_1 (a b : List Int) (ta tb : Bool) (x0 : Int) (h : AllP [decide (x0 ≥ (0 : Int)) = true, Words a, (0 : Int) ≤ x0, Words b, (0 : Int) ≤ x0, decide (wd a x0 < wd b x0) = true]) : To Try.prog (loopAt Try.f106 0) ({ n := 35, fr := [(0, AV.sl 1 (.ints .u32 a) ta), (1, AV.sl 1 (.ints .u32 b) tb), (6, AV.v (.int .i64 x0))], hp := [], nx := 0 }) (Exit.ret) { n := 35, fr := [(4, AV.v (.int .i64 (-1 : Int)))], hp := [], nx := 0 } :=
  evW_to hm rsok2 (hs := [CHint.ops 5 [(1, Hint.b true)], CHint.ops 7 [(6, Hint.b true)]]) (slots := [4]) (keys := []) (nx := 0) (c := _) (by kernel_rfl) h

theorem rcmL0_2 (a b : List Int) (ta tb : Bool) (x0 : Int) (h : AllP [decide (x0 ≥ (0 : Int)) = true, Words a, (0 : Int) ≤ x0, Words b, (0 : Int) ≤ x0, decide (wd a x0 < wd b x0) = false, Words a, (0 : Int) ≤ x0, Words b, (0 : Int) ≤ x0, decide (wd a x0 > wd b x0) = true]) : To Try.prog (loopAt Try.f106 0) ({ n := 35, fr := [(0, AV.sl 1 (.ints .u32 a) ta), (1, AV.sl 1 (.ints .u32 b) tb), (6, AV.v (.int .i64 x0))], hp := [], nx := 0 }) (Exit.ret) { n := 35, fr := [(4, AV.v (.int .i64 (1 : Int)))], hp := [], nx := 0 } :=
  evW_to hm rsok2 (hs := [CHint.ops 5 [(1, Hint.b true)], CHint.ops 7 [(6, Hint.b false)], CHint.ops 9 [(6, Hint.b true)]]) (slots := [4]) (keys := []) (nx := 0) (c := _) (by kernel_rfl) h

theorem rcmL0_3 (a b : List Int) (ta tb : Bool) (x0 : Int) (h : AllP [decide (x0 ≥ (0 : Int)) = true, Words a, (0 : Int) ≤ x0, Words b, (0 : Int) ≤ x0, decide (wd a x0 < wd b x0) = false, Words a, (0 : Int) ≤ x0, Words b, (0 : Int) ≤ x0, decide (wd a x0 > wd b x0) = false, inR IntKind.i64 (x0 - (1 : Int))]) : To Try.prog (loopAt Try.f106 0) ({ n := 35, fr := [(0, AV.sl 1 (.ints .u32 a) ta), (1, AV.sl 1 (.ints .u32 b) tb), (6, AV.v (.int .i64 x0))], hp := [], nx := 0 }) (.normal) { n := 35, fr := [(0, AV.sl 1 (.ints .u32 a) ta), (1, AV.sl 1 (.ints .u32 b) tb), (6, AV.v (.int .i64 (x0 - (1 : Int))))], hp := [], nx := 0 } :=
  evW_to hm rsok2 (hs := [CHint.ops 5 [(1, Hint.b true)], CHint.ops 7 [(6, Hint.b false)], CHint.ops 9 [(6, Hint.b false)]]) (slots := [0, 1, 6]) (keys := []) (nx := 0) (c := _) (by kernel_rfl) h

theorem rcmL0_4 (a b : List Int) (ta tb : Bool) (x0 : Int) (h : AllP [decide (x0 ≥ (0 : Int)) = false]) : To Try.prog (loopAt Try.f106 0) ({ n := 35, fr := [(0, AV.sl 1 (.ints .u32 a) ta), (1, AV.sl 1 (.ints .u32 b) tb), (6, AV.v (.int .i64 x0))], hp := [], nx := 0 }) (Exit.exit 0) { n := 35, fr := [], hp := [], nx := 0 } :=
  evW_to hm rsok2 (hs := [CHint.ops 5 [(1, Hint.b false)]]) (slots := []) (keys := []) (nx := 0) (c := _) (by kernel_rfl) h
-- 4 paths

theorem rcmF1 (a b : List Int) (ta tb : Bool) (x1 : Int) (h : AllP [decide ((↑b.length : Int) > (↑a.length : Int)) = true, inR IntKind.i64 ((↑b.length : Int) - (1 : Int)), LoopTo Try.prog (loopAt Try.f106 0) { n := 35, fr := [(0, AV.sl 1 (.ints .u32 a) ta), (1, AV.sl 1 (.ints .u32 b) tb), (6, AV.v (.int .i64 ((↑b.length : Int) - (1 : Int))))], hp := [], nx := 0 } (Exit.exit 0) { n := 35, fr := [], hp := [], nx := 0 }]) : PureTo Try.prog 106 [.sl 1 (.ints .u32 a) ta, .sl 1 (.ints .u32 b) tb] (AV.v (.int .i64 (0 : Int))) :=
  evFn_pure hm rsok2 (fn := Try.f106) rfl rfl (ti := false) (hs := [CHint.ops 2 [(3, Hint.b true)], CHint.loop [0, 1, 6] [] 0 (Exit.exit 0) { n := 35, fr := [], hp := [], nx := 0 }]) (c := _) (by kernel_rfl) h

theorem rcmF2 (a b : List Int) (ta tb : Bool) (x1 : Int) (h : AllP [decide ((↑b.length : Int) > (↑a.length : Int)) = true, inR IntKind.i64 ((↑b.length : Int) - (1 : Int)), LoopTo Try.prog (loopAt Try.f106 0) { n := 35, fr := [(0, AV.sl 1 (.ints .u32 a) ta), (1, AV.sl 1 (.ints .u32 b) tb), (6, AV.v (.int .i64 ((↑b.length : Int) - (1 : Int))))], hp := [], nx := 0 } Exit.ret { n := 35, fr := [(4, AV.v (.int .i64 x1))], hp := [], nx := 0 }]) : PureTo Try.prog 106 [.sl 1 (.ints .u32 a) ta, .sl 1 (.ints .u32 b) tb] (AV.v (.int .i64 x1)) :=
  evFn_pure hm rsok2 (fn := Try.f106) rfl rfl (ti := false) (hs := [CHint.ops 2 [(3, Hint.b true)], CHint.loop [0, 1, 6] [] 0 Exit.ret { n := 35, fr := [(4, AV.v (.int .i64 x1))], hp := [], nx := 0 }]) (c := _) (by kernel_rfl) h

theorem rcmF3 (a b : List Int) (ta tb : Bool) (x1 : Int) (h : AllP [decide ((↑b.length : Int) > (↑a.length : Int)) = false, inR IntKind.i64 ((↑a.length : Int) - (1 : Int)), LoopTo Try.prog (loopAt Try.f106 0) { n := 35, fr := [(0, AV.sl 1 (.ints .u32 a) ta), (1, AV.sl 1 (.ints .u32 b) tb), (6, AV.v (.int .i64 ((↑a.length : Int) - (1 : Int))))], hp := [], nx := 0 } (Exit.exit 0) { n := 35, fr := [], hp := [], nx := 0 }]) : PureTo Try.prog 106 [.sl 1 (.ints .u32 a) ta, .sl 1 (.ints .u32 b) tb] (AV.v (.int .i64 (0 : Int))) :=
  evFn_pure hm rsok2 (fn := Try.f106) rfl rfl (ti := false) (hs := [CHint.ops 2 [(3, Hint.b false)], CHint.loop [0, 1, 6] [] 0 (Exit.exit 0) { n := 35, fr := [], hp := [], nx := 0 }]) (c := _) (by kernel_rfl) h

theorem rcmF4 (a b : List Int) (ta tb : Bool) (x1 : Int) (h : AllP [decide ((↑b.length : Int) > (↑a.length : Int)) = false, inR IntKind.i64 ((↑a.length : Int) - (1 : Int)), LoopTo Try.prog (loopAt Try.f106 0) { n := 35, fr := [(0, AV.sl 1 (.ints .u32 a) ta), (1, AV.sl 1 (.ints .u32 b) tb), (6, AV.v (.int .i64 ((↑a.length : Int) - (1 : Int))))], hp := [], nx := 0 } Exit.ret { n := 35, fr := [(4, AV.v (.int .i64 x1))], hp := [], nx := 0 }]) : PureTo Try.prog 106 [.sl 1 (.ints .u32 a) ta, .sl 1 (.ints .u32 b) tb] (AV.v (.int .i64 x1)) :=
  evFn_pure hm rsok2 (fn := Try.f106) rfl rfl (ti := false) (hs := [CHint.ops 2 [(3, Hint.b false)], CHint.loop [0, 1, 6] [] 0 Exit.ret { n := 35, fr := [(4, AV.v (.int .i64 x1))], hp := [], nx := 0 }]) (c := _) (by kernel_rfl) h
-- 3 paths

theorem plusL0_1 (a b : List Int) (ta tb : Bool) (x0 : Int) (x1 : Int) (l0 : List Int) (n0 : Nat) (h : AllP [decide (x1 < (↑a.length : Int)) = true, Words a, (0 : Int) ≤ x1, Words b, (0 : Int) ≤ x1, inR IntKind.u64 (wd a x1 + wd b x1), inR IntKind.u64 (wd a x1 + wd b x1 + x0), l0.length = l0.length, l0.length = l0.length, (l0 ++ [(wd a x1 + wd b x1 + x0) % (4294967296 : Int)]).length * 4 ≤ 140737488355328, (0 : Int) ≤ (32 : Int), inR IntKind.i64 (x1 + (1 : Int))]) : To Try.prog (loopAt Try.f105 0) ({ n := 43, fr := [(0, AV.sl 1 (.ints .u32 a) ta), (1, AV.sl 1 (.ints .u32 b) tb), (5, AV.row 1 0 l0.length l0.length false), (6, AV.v (.int .u64 x0)), (7, AV.v (.int .i64 x1))], hp := [(1, AObj.row 59 1 (.ints .u32 l0) n0)], nx := 2 }) (.normal) { n := 43, fr := [(0, AV.sl 1 (.ints .u32 a) ta), (1, AV.sl 1 (.ints .u32 b) tb), (5, AV.row 1 0 (l0 ++ [(wd a x1 + wd b x1 + x0) % (4294967296 : Int)]).length (l0 ++ [(wd a x1 + wd b x1 + x0) % (4294967296 : Int)]).length false), (6, AV.v (.int .u64 ((wd a x1 + wd b x1 + x0) / (4294967296 : Int)))), (7, AV.v (.int .i64 (x1 + (1 : Int))))], hp := [(1, AObj.row 59 1 (.ints .u32 (l0 ++ [(wd a x1 + wd b x1 + x0) % (4294967296 : Int)])) n0)], nx := 2 } :=
  evW_to hm rsok2 (hs := [CHint.ops 4 [(3, Hint.b true)]]) (slots := [0, 1, 5, 6, 7]) (keys := [1]) (nx := 2) (c := _) (by kernel_rfl) h

theorem plusL0_2 (a b : List Int) (ta tb : Bool) (x0 : Int) (x1 : Int) (l0 : List Int) (n0 : Nat) (h : AllP [decide (x1 < (↑a.length : Int)) = false, decide (x1 < (↑b.length : Int)) = true, Words a, (0 : Int) ≤ x1, Words b, (0 : Int) ≤ x1, inR IntKind.u64 (wd a x1 + wd b x1), inR IntKind.u64 (wd a x1 + wd b x1 + x0), l0.length = l0.length, l0.length = l0.length, (l0 ++ [(wd a x1 + wd b x1 + x0) % (4294967296 : Int)]).length * 4 ≤ 140737488355328, (0 : Int) ≤ (32 : Int), inR IntKind.i64 (x1 + (1 : Int))]) : To Try.prog (loopAt Try.f105 0) ({ n := 43, fr := [(0, AV.sl 1 (.ints .u32 a) ta), (1, AV.sl 1 (.ints .u32 b) tb), (5, AV.row 1 0 l0.length l0.length false), (6, AV.v (.int .u64 x0)), (7, AV.v (.int .i64 x1))], hp := [(1, AObj.row 59 1 (.ints .u32 l0) n0)], nx := 2 }) (.normal) { n := 43, fr := [(0, AV.sl 1 (.ints .u32 a) ta), (1, AV.sl 1 (.ints .u32 b) tb), (5, AV.row 1 0 (l0 ++ [(wd a x1 + wd b x1 + x0) % (4294967296 : Int)]).length (l0 ++ [(wd a x1 + wd b x1 + x0) % (4294967296 : Int)]).length false), (6, AV.v (.int .u64 ((wd a x1 + wd b x1 + x0) / (4294967296 : Int)))), (7, AV.v (.int .i64 (x1 + (1 : Int))))], hp := [(1, AObj.row 59 1 (.ints .u32 (l0 ++ [(wd a x1 + wd b x1 + x0) % (4294967296 : Int)])) n0)], nx := 2 } :=
  evW_to hm rsok2 (hs := [CHint.ops 4 [(3, Hint.b false), (8, Hint.b true)]]) (slots := [0, 1, 5, 6, 7]) (keys := [1]) (nx := 2) (c := _) (by kernel_rfl) h

theorem plusL0_3 (a b : List Int) (ta tb : Bool) (x0 : Int) (x1 : Int) (l0 : List Int) (n0 : Nat) (h : AllP [decide (x1 < (↑a.length : Int)) = false, decide (x1 < (↑b.length : Int)) = false]) : To Try.prog (loopAt Try.f105 0) ({ n := 43, fr := [(0, AV.sl 1 (.ints .u32 a) ta), (1, AV.sl 1 (.ints .u32 b) tb), (5, AV.row 1 0 l0.length l0.length false), (6, AV.v (.int .u64 x0)), (7, AV.v (.int .i64 x1))], hp := [(1, AObj.row 59 1 (.ints .u32 l0) n0)], nx := 2 }) (Exit.exit 0) { n := 43, fr := [(5, AV.row 1 0 l0.length l0.length false), (6, AV.v (.int .u64 x0))], hp := [(1, AObj.row 59 1 (.ints .u32 l0) n0)], nx := 2 } :=
  evW_to hm rsok2 (hs := [CHint.ops 4 [(3, Hint.b false), (8, Hint.b false)]]) (slots := [5, 6]) (keys := [1]) (nx := 2) (c := _) (by kernel_rfl) h
-- 1 paths

theorem plusF1 (a b : List Int) (ta tb : Bool) (x2 : Int) (l1 : List Int) (n1 : Nat) (h : AllP [LoopTo Try.prog (loopAt Try.f105 0) { n := 43, fr := [(0, AV.sl 1 (.ints .u32 a) ta), (1, AV.sl 1 (.ints .u32 b) tb), (5, AV.row 1 0 0 0 false), (6, AV.v (.int .u64 (0 : Int))), (7, AV.v (.int .i64 (0 : Int)))], hp := [(1, AObj.row 59 1 (.ints .u32 []) 0)], nx := 2 } (Exit.exit 0) { n := 43, fr := [(5, AV.row 1 0 l1.length l1.length false), (6, AV.v (.int .u64 x2))], hp := [(1, AObj.row 59 1 (.ints .u32 l1) n1)], nx := 2 }, l1.length = l1.length, l1.length = l1.length, (l1 ++ [x2 % (4294967296 : Int)]).length * 4 ≤ 140737488355328, (l1 ++ [x2 % (4294967296 : Int)]).length = (l1 ++ [x2 % (4294967296 : Int)]).length, n1 ≤ (l1 ++ [x2 % (4294967296 : Int)]).length, (l1 ++ [x2 % (4294967296 : Int)]).length ≤ lim4]) : PureTo Try.prog 105 [.sl 1 (.ints .u32 a) ta, .sl 1 (.ints .u32 b) tb] (AV.sl 1 (.ints .u32 (norm (l1 ++ [x2 % (4294967296 : Int)]))) false) :=
  evFn_pure hm rsok2 (fn := Try.f105) rfl rfl (ti := false) (hs := [CHint.ops 1 [(0, Hint.nil 59)], CHint.loop [0, 1, 5, 6, 7] [1] 2 (Exit.exit 0) { n := 43, fr := [(5, AV.row 1 0 l1.length l1.length false), (6, AV.v (.int .u64 x2))], hp := [(1, AObj.row (59 : TypeId) 1 (.ints .u32 l1) n1)], nx := 2 }]) (c := _) (by kernel_rfl) h
-- 2 paths

theorem lessL0_1 (a b : List Int) (ta tb : Bool) (x0 : Int) (x1 : Int) (l0 : List Int) (n0 : Nat) (h : AllP [decide (x1 < (↑a.length : Int)) = true, Words a, (0 : Int) ≤ x1, Words b, (0 : Int) ≤ x1, l0.length = l0.length, l0.length = l0.length, (l0 ++ [((wd a x1 - wd b x1) % (18446744073709551616 : Int) - x0) % (18446744073709551616 : Int) % (4294967296 : Int)]).length * 4 ≤ 140737488355328, (0 : Int) ≤ (63 : Int), inR IntKind.i64 (x1 + (1 : Int))]) : To Try.prog (loopAt Try.f107 0) ({ n := 33, fr := [(0, AV.sl 1 (.ints .u32 a) ta), (1, AV.sl 1 (.ints .u32 b) tb), (5, AV.row 1 0 l0.length l0.length false), (6, AV.v (.int .u64 x0)), (7, AV.v (.int .i64 x1))], hp := [(1, AObj.row 59 1 (.ints .u32 l0) n0)], nx := 2 }) (.normal) { n := 33, fr := [(0, AV.sl 1 (.ints .u32 a) ta), (1, AV.sl 1 (.ints .u32 b) tb), (5, AV.row 1 0 (l0 ++ [((wd a x1 - wd b x1) % (18446744073709551616 : Int) - x0) % (18446744073709551616 : Int) % (4294967296 : Int)]).length (l0 ++ [((wd a x1 - wd b x1) % (18446744073709551616 : Int) - x0) % (18446744073709551616 : Int) % (4294967296 : Int)]).length false), (6, AV.v (.int .u64 (((wd a x1 - wd b x1) % (18446744073709551616 : Int) - x0) % (18446744073709551616 : Int) / (9223372036854775808 : Int)))), (7, AV.v (.int .i64 (x1 + (1 : Int))))], hp := [(1, AObj.row 59 1 (.ints .u32 (l0 ++ [((wd a x1 - wd b x1) % (18446744073709551616 : Int) - x0) % (18446744073709551616 : Int) % (4294967296 : Int)])) n0)], nx := 2 } :=
  evW_to hm rsok2 (hs := [CHint.ops 4 [(3, Hint.b true)], CHint.ops 6 [(6, Hint.wrap), (8, Hint.wrap)]]) (slots := [0, 1, 5, 6, 7]) (keys := [1]) (nx := 2) (c := _) (by kernel_rfl) h

theorem lessL0_2 (a b : List Int) (ta tb : Bool) (x0 : Int) (x1 : Int) (l0 : List Int) (n0 : Nat) (h : AllP [decide (x1 < (↑a.length : Int)) = false]) : To Try.prog (loopAt Try.f107 0) ({ n := 33, fr := [(0, AV.sl 1 (.ints .u32 a) ta), (1, AV.sl 1 (.ints .u32 b) tb), (5, AV.row 1 0 l0.length l0.length false), (6, AV.v (.int .u64 x0)), (7, AV.v (.int .i64 x1))], hp := [(1, AObj.row 59 1 (.ints .u32 l0) n0)], nx := 2 }) (Exit.exit 0) { n := 33, fr := [(5, AV.row 1 0 l0.length l0.length false)], hp := [(1, AObj.row 59 1 (.ints .u32 l0) n0)], nx := 2 } :=
  evW_to hm rsok2 (hs := [CHint.ops 4 [(3, Hint.b false)]]) (slots := [5]) (keys := [1]) (nx := 2) (c := _) (by kernel_rfl) h
-- 1 paths

theorem lessF1 (a b : List Int) (ta tb : Bool) (l1 : List Int) (n1 : Nat) (h : AllP [LoopTo Try.prog (loopAt Try.f107 0) { n := 33, fr := [(0, AV.sl 1 (.ints .u32 a) ta), (1, AV.sl 1 (.ints .u32 b) tb), (5, AV.row 1 0 0 0 false), (6, AV.v (.int .u64 (0 : Int))), (7, AV.v (.int .i64 (0 : Int)))], hp := [(1, AObj.row 59 1 (.ints .u32 []) 0)], nx := 2 } (Exit.exit 0) { n := 33, fr := [(5, AV.row 1 0 l1.length l1.length false)], hp := [(1, AObj.row 59 1 (.ints .u32 l1) n1)], nx := 2 }, l1.length = l1.length, n1 ≤ l1.length, l1.length ≤ lim4]) : PureTo Try.prog 107 [.sl 1 (.ints .u32 a) ta, .sl 1 (.ints .u32 b) tb] (AV.sl 1 (.ints .u32 (norm l1)) false) :=
  evFn_pure hm rsok2 (fn := Try.f107) rfl rfl (ti := false) (hs := [CHint.ops 1 [(0, Hint.nil 59)], CHint.loop [0, 1, 5, 6, 7] [1] 2 (Exit.exit 0) { n := 33, fr := [(5, AV.row 1 0 l1.length l1.length false)], hp := [(1, AObj.row (59 : TypeId) 1 (.ints .u32 l1) n1)], nx := 2 }]) (c := _) (by kernel_rfl) h

theorem rcm_loop (a b : List Int) (ta tb : Bool) (ha : Words a) (hb : Words b) : ∀ i : Nat, i < 1000000000000000 →
    (cmpN (natW a i) (natW b i) = 0 → LoopTo Try.prog (loopAt Try.f106 0) (rcmS0 a b ta tb ((i : Int) - 1)) (.exit 0) (rcmX0 a b ta tb)) ∧
    (cmpN (natW a i) (natW b i) ≠ 0 → LoopTo Try.prog (loopAt Try.f106 0) (rcmS0 a b ta tb ((i : Int) - 1)) .ret (rcmX0_1 a b ta tb (cmpN (natW a i) (natW b i)))) := by
  intro i
  induction i with
  | zero =>
    intro h3
    refine ⟨fun _ => .done (by simp) (rcmL0_4 a b ta tb _ ⟨by simp, trivial⟩), fun h => absurd rfl h⟩
  | succ i ih =>
    intro h3
    have ih := ih (by omega)
    rw [cmp_step ha hb]
    have e : ((i + 1 : Nat) : Int) - 1 = (i : Int) := by omega
    rw [e]
    have wa := wd_nat a i
    have wb := wd_nat b i
    by_cases c1 : a.getD i 0 < b.getD i 0
    · simp only [if_pos c1]
      exact ⟨fun h => (by cases h), fun _ => .done (by simp) (rcmL0_1 a b ta tb i (by rw [wa, wb]; exact ⟨by simp, ha, by omega, hb, by omega, by simpa using c1, trivial⟩))⟩
    · by_cases c2 : b.getD i 0 < a.getD i 0
      · simp only [if_neg c1, if_pos c2]
        exact ⟨fun h => (by cases h), fun _ => .done (by simp) (rcmL0_2 a b ta tb i (by rw [wa, wb]; exact ⟨by simp, ha, by omega, hb, by omega, by simpa using c1, ha, by omega, hb, by omega, by simpa using c2, trivial⟩))⟩
      · simp only [if_neg c1, if_neg c2]
        have hs := rcmL0_3 a b ta tb i (by rw [wa, wb]; exact ⟨by simp, ha, by omega, hb, by omega, by simpa using c1, ha, by omega, hb, by omega, by simpa using c2, inR64 (by omega) (by omega), trivial⟩)
        exact ⟨fun h => .step hs (ih.1 h), fun h => .step hs (ih.2 h)⟩

theorem rcm_pure (a b : List Int) (ta tb : Bool) (ha : Words a) (hb : Words b) (hla : a.length < lim) (hlb : b.length < lim) : PureTo Try.prog 106 [.sl 1 (.ints .u32 a) ta, .sl 1 (.ints .u32 b) tb] (.v (.int .i64 (cmpN (nat a) (nat b)))) := by
  unfold lim at hla hlb
  by_cases c1 : a.length < b.length
  · have h := rcm_loop a b ta tb ha hb b.length (by omega)
    rw [natW_all a _ (by omega), natW_all b _ (Nat.le_refl _)] at h
    by_cases c2 : cmpN (nat a) (nat b) = 0
    · rw [c2]
      exact rcmF1 a b ta tb 0 ⟨by simpa using c1, inR64 (by omega) (by omega), h.1 c2, trivial⟩
    · exact rcmF2 a b ta tb _ ⟨by simpa using c1, inR64 (by omega) (by omega), h.2 c2, trivial⟩
  · have h := rcm_loop a b ta tb ha hb a.length (by omega)
    rw [natW_all a _ (Nat.le_refl _), natW_all b _ (by omega)] at h
    by_cases c2 : cmpN (nat a) (nat b) = 0
    · rw [c2]
      exact rcmF3 a b ta tb 0 ⟨by simpa using c1, inR64 (by omega) (by omega), h.1 c2, trivial⟩
    · exact rcmF4 a b ta tb _ ⟨by simpa using c1, inR64 (by omega) (by omega), h.2 c2, trivial⟩

theorem plus_loop (a b : List Int) (ta tb : Bool) (ha : Words a) (hb : Words b) (n : Nat) (h1 : a.length ≤ n) (h2 : b.length ≤ n) (h3 : n = a.length ∨ n = b.length) (hlim : n + 1 ≤ lim4) : ∀ (f i : Nat) (l : List Int) (c : Int), i + f = n → l.length = i → Words l → (0 ≤ c ∧ c ≤ 1) →
    (nat l : Int) + c * 4294967296 ^ i = natW a i + natW b i →
    ∃ l1 : List Int, ∃ c1 : Int, l1.length = n ∧ Words l1 ∧ (0 ≤ c1 ∧ c1 ≤ 1) ∧ (nat l1 : Int) + c1 * 4294967296 ^ n = natW a n + natW b n ∧ LoopTo Try.prog (loopAt Try.f105 0) (plusS0 a b ta tb c i l 0) (.exit 0) (plusX0 a b ta tb c1 l1 0) := by
  unfold lim4 at hlim
  intro f
  induction f with
  | zero =>
    intro i l c hi hl hw hc hinv
    have : i = n := by omega
    subst this
    exact ⟨l, c, hl, hw, hc, hinv, .done (by simp) (plusL0_3 a b ta tb c i l 0 ⟨by simp; omega, by simp; omega, trivial⟩)⟩
  | succ f ih =>
    intro i l c hi hl hw hc hinv
    have hx := wd_bound ha i
    have hy := wd_bound hb i
    have hs : 0 ≤ wd a i + wd b i + c := by omega
    obtain ⟨l1, c1, g1, g2, g3, g4, g5⟩ := ih (i + 1) (l ++ [(wd a i + wd b i + c) % 4294967296]) ((wd a i + wd b i + c) / 4294967296) (by omega) (by simp [hl]) (words_snoc hw (by omega) (by omega)) (by omega) (add_step ha hb hl rfl hs hinv)
    have hlen : (l ++ [(wd a i + wd b i + c) % 4294967296]).length * 4 ≤ 140737488355328 := by simp; omega
    by_cases hia : i < a.length
    · have h1 := plusL0_1 a b ta tb c i l 0 ⟨by simp; omega, ha, by omega, hb, by omega, ⟨by omega, by omega⟩, ⟨by omega, by omega⟩, rfl, rfl, hlen, by omega, inR64 (by omega) (by omega), trivial⟩
      exact ⟨l1, c1, g1, g2, g3, g4, .step h1 g5⟩
    · have h1 := plusL0_2 a b ta tb c i l 0 ⟨by simp; omega, by simp; omega, ha, by omega, hb, by omega, ⟨by omega, by omega⟩, ⟨by omega, by omega⟩, rfl, rfl, hlen, by omega, inR64 (by omega) (by omega), trivial⟩
      exact ⟨l1, c1, g1, g2, g3, g4, .step h1 g5⟩

theorem plus_pure (a b : List Int) (ta tb : Bool) (ha : Words a) (hb : Words b) (hla : a.length + 1 ≤ lim4) (hlb : b.length + 1 ≤ lim4) : PureTo Try.prog 105 [.sl 1 (.ints .u32 a) ta, .sl 1 (.ints .u32 b) tb] (.sl 1 (.ints .u32 (dig (nat a + nat b))) false) := by
  obtain ⟨n, h1, h2, h3, h4⟩ : ∃ n, a.length ≤ n ∧ b.length ≤ n ∧ (n = a.length ∨ n = b.length) ∧ n + 1 ≤ lim4 := by
    rcases Nat.le_total a.length b.length with h | h
    · exact ⟨b.length, h, Nat.le_refl _, .inr rfl, hlb⟩
    · exact ⟨a.length, Nat.le_refl _, h, .inl rfl, hla⟩
  obtain ⟨l1, c1, g1, g2, g3, g4, g5⟩ := plus_loop a b ta tb ha hb n h1 h2 h3 h4 n 0 [] 0 (by omega) rfl (fun x hx => by cases hx) (by omega) (by simp [natW, nat])
  rw [natW_all _ _ h1, natW_all _ _ h2] at g4
  have hw : Words (l1 ++ [c1 % 4294967296]) := words_snoc g2 (by omega) (by omega)
  have hsum : nat (l1 ++ [c1 % 4294967296]) = nat a + nat b := by
    have := nat_snoc l1 (c1 % 4294967296) (by omega)
    rw [g1, Int.emod_eq_of_lt g3.1 (by omega), Int.mul_comm] at this
    rw [Int.emod_eq_of_lt g3.1 (by omega)]
    omega
  have hlen : (l1 ++ [c1 % 4294967296]).length = n + 1 := by simp [g1]
  unfold lim4 at h4
  have h := plusF1 a b ta tb c1 l1 0 ⟨g5, rfl, rfl, by rw [hlen]; omega, rfl, by omega, by rw [hlen]; unfold lim4; omega, trivial⟩
  rw [norm_eq hw, hsum] at h
  exact h

theorem dif_end {a b l : List Int} {c : Int} (ha : Words a) (hb : Words b) (hl : Words l) (hlen : l.length = a.length) (hc : 0 ≤ c ∧ c ≤ 1) (hlb : b.length ≤ a.length) (hle : nat b ≤ nat a)
    (hinv : (natW a a.length : Int) + c * 4294967296 ^ a.length = natW b a.length + nat l) : nat l = nat a - nat b := by
  rw [natW_all _ _ (Nat.le_refl _), natW_all _ _ hlb, pow_int] at hinv
  have h1 := nat_lt hl
  rw [hlen] at h1
  have : c = 0 := by
    rcases (show c = 0 ∨ c = 1 by omega) with h | h
    · exact h
    · subst h; omega
  subst this
  omega

theorem less_loop (a b : List Int) (ta tb : Bool) (ha : Words a) (hb : Words b) (hlim : a.length + 1 ≤ lim4) : ∀ (f i : Nat) (l : List Int) (c : Int), i + f = a.length → l.length = i → Words l → (0 ≤ c ∧ c ≤ 1) →
    (natW a i : Int) + c * 4294967296 ^ i = natW b i + nat l →
    ∃ l1 : List Int, ∃ c1 : Int, l1.length = a.length ∧ Words l1 ∧ (0 ≤ c1 ∧ c1 ≤ 1) ∧ (natW a a.length : Int) + c1 * 4294967296 ^ a.length = natW b a.length + nat l1 ∧
      LoopTo Try.prog (loopAt Try.f107 0) (lessS0 a b ta tb c i l 0) (.exit 0) (lessX0 a b ta tb l1 0) := by
  unfold lim4 at hlim
  intro f
  induction f with
  | zero =>
    intro i l c hi hl hw hc hinv
    have : i = a.length := by omega
    subst this
    exact ⟨l, c, hl, hw, hc, hinv, .done (by simp) (lessL0_2 a b ta tb c a.length l 0 ⟨by simp, trivial⟩)⟩
  | succ f ih =>
    intro i l c hi hl hw hc hinv
    have hx := wd_bound ha i
    have hy := wd_bound hb i
    obtain ⟨e1, e2⟩ := borrow_word hx hy hc
    have h1 := lessL0_1 a b ta tb c i l 0 ⟨by simp; omega, ha, by omega, hb, by omega, rfl, rfl, by simp; omega, by omega, inR64 (by omega) (by omega), trivial⟩
    rw [e1, e2] at h1
    generalize hw2 : (wd a i - wd b i - c) + 4294967296 * (if wd a i - wd b i - c < 0 then (1 : Int) else 0) = w at *
    have hwb : 0 ≤ w ∧ w < 4294967296 := by rw [← hw2]; split <;> omega
    obtain ⟨l1, c1, g1, g2, g3, g4, g5⟩ := ih (i + 1) (l ++ [w]) (if wd a i - wd b i - c < 0 then 1 else 0) (by omega) (by simp [hl]) (words_snoc hw hwb.1 hwb.2) (by split <;> omega) (sub_step ha hb hl rfl hw2.symm hwb.1 hinv)
    exact ⟨l1, c1, g1, g2, g3, g4, .step h1 g5⟩

theorem less_pure (a b : List Int) (ta tb : Bool) (ha : Words a) (hb : Words b) (hla : a.length + 1 ≤ lim4) (hlb : b.length ≤ a.length) (hle : nat b ≤ nat a) : PureTo Try.prog 107 [.sl 1 (.ints .u32 a) ta, .sl 1 (.ints .u32 b) tb] (.sl 1 (.ints .u32 (dig (nat a - nat b))) false) := by
  obtain ⟨l1, c1, g1, g2, g3, g4, g5⟩ := less_loop a b ta tb ha hb hla a.length 0 [] 0 (by omega) rfl (fun x hx => by cases hx) (by omega) (by simp [natW, nat])
  have hd := dif_end ha hb g2 g1 g3 hlb hle g4
  have h := lessF1 a b ta tb l1 0 ⟨g5, rfl, by omega, by omega, trivial⟩
  rw [norm_eq g2, hd] at h
  exact h

def sigCmp : List AV → Option (AV × List Prop)
  | [.sl 1 (.ints .u32 a) _, .sl 1 (.ints .u32 b) _] => some (.v (.int .i64 (cmpN (nat a) (nat b))), [Words a, Words b, a.length < lim, b.length < lim])
  | _ => none

def sigPlus : List AV → Option (AV × List Prop)
  | [.sl 1 (.ints .u32 a) _, .sl 1 (.ints .u32 b) _] => some (.sl 1 (.ints .u32 (dig (nat a + nat b))) false, [Words a, Words b, a.length + 1 ≤ lim4, b.length + 1 ≤ lim4])
  | _ => none

def sigLess : List AV → Option (AV × List Prop)
  | [.sl 1 (.ints .u32 a) _, .sl 1 (.ints .u32 b) _] => some (.sl 1 (.ints .u32 (dig (nat a - nat b))) false, [Words a, Words b, a.length + 1 ≤ lim4, b.length ≤ a.length, nat b ≤ nat a])
  | _ => none

def RS3 : SGT := (106, .p sigCmp) :: (105, .p sigPlus) :: (107, .p sigLess) :: RS2

theorem rsok3 : SigsOK Try.prog RS3 := by
  refine sigs_cons (sigs_cons (sigs_cons rsok2 ?_) ?_) ?_
  · intro ys r c h hc
    unfold sigLess at h
    split at h
    · cases h; exact less_pure _ _ _ _ hc.1 hc.2.1 hc.2.2.1 hc.2.2.2.1 hc.2.2.2.2.1
    · cases h
  · intro ys r c h hc
    unfold sigPlus at h
    split at h
    · cases h; exact plus_pure _ _ _ _ hc.1 hc.2.1 hc.2.2.1 hc.2.2.2.1
    · cases h
  · intro ys r c h hc
    unfold sigCmp at h
    split at h
    · cases h; exact rcm_pure _ _ _ _ hc.1 hc.2.1 hc.2.2.1 hc.2.2.2.1
    · cases h

def upS0 (a : List Int) (ta : Bool) (n : Int) (x0 : Int) (x1 : Int) (l0 : List Int) (n0 : Nat) : AS := { n := 46, fr := [(0, AV.sl 1 (.ints .u32 a) ta), (1, AV.v (.int .i64 n)), (5, AV.row 7 0 l0.length l0.length false), (6, AV.v (.int .u64 x0)), (7, AV.v (.int .i64 x1))], hp := [(7, AObj.row 59 1 (.ints .u32 l0) n0)], nx := 8 }

def upX0 (a : List Int) (ta : Bool) (n : Int) (x2 : Int) (l1 : List Int) (n1 : Nat) : AS := { n := 46, fr := [(5, AV.row 7 0 l1.length l1.length false), (6, AV.v (.int .u64 x2))], hp := [(7, AObj.row 59 1 (.ints .u32 l1) n1)], nx := 8 }

def rshrS0 (a : List Int) (ta : Bool) (n : Int) (x0 : Int) (b0 : Bool) : AS := { n := 72, fr := [(0, AV.sl 1 (.ints .u32 (norm a)) false), (1, AV.v (.int .i64 n)), (6, AV.v (.bool b0)), (7, AV.v (.int .i64 x0))], hp := [], nx := 0 }

def rshrX0 (a : List Int) (ta : Bool) (n : Int) (b1 : Bool) : AS := { n := 72, fr := [(0, AV.sl 1 (.ints .u32 (norm a)) false), (1, AV.v (.int .i64 n)), (6, AV.v (.bool b1))], hp := [], nx := 0 }

def rshrS1 (a : List Int) (ta : Bool) (n : Int) (x1 : Int) (b1 : Bool) (l0 : List Int) (n0 : Nat) : AS := { n := 72, fr := [(0, AV.sl 1 (.ints .u32 (norm a)) false), (1, AV.v (.int .i64 n)), (6, AV.v (.bool b1)), (8, AV.row 0 0 l0.length l0.length false), (9, AV.v (.int .i64 x1))], hp := [(0, AObj.row 59 1 (.ints .u32 l0) n0)], nx := 1 }

def rshrX1 (a : List Int) (ta : Bool) (n : Int) (b1 : Bool) (l1 : List Int) (n1 : Nat) : AS := { n := 72, fr := [(6, AV.v (.bool b1)), (8, AV.row 0 0 l1.length l1.length false)], hp := [(0, AObj.row 59 1 (.ints .u32 l1) n1)], nx := 1 }
-- 2 paths

theorem upL0_1 (a : List Int) (ta : Bool) (n : Int) (x0 : Int) (x1 : Int) (l0 : List Int) (n0 : Nat) (h : AllP [decide (x1 < (↑a.length : Int)) = true, (0 : Int) ≤ x1 ∧ x1 < (↑a.length : Int), inR IntKind.u64 (a.getD x1.toNat (0 : Int)), (32 : Int) ≠ (0 : Int), (0 : Int) ≤ n.tmod (32 : Int) % (18446744073709551616 : Int), inR IntKind.u64 (a.getD x1.toNat (0 : Int) * (2 : Int) ^ min (n.tmod (32 : Int) % (18446744073709551616 : Int)).toNat 64), l0.length = l0.length, l0.length = l0.length, (l0 ++ [bitsOf BinOp.or IntKind.u64 (a.getD x1.toNat (0 : Int) * (2 : Int) ^ min (n.tmod (32 : Int) % (18446744073709551616 : Int)).toNat 64) x0 % (4294967296 : Int)]).length * 4 ≤ 140737488355328, (0 : Int) ≤ (32 : Int), inR IntKind.i64 (x1 + (1 : Int))]) : To Try.prog (loopAt Try.f88 0) ({ n := 46, fr := [(0, AV.sl 1 (.ints .u32 a) ta), (1, AV.v (.int .i64 n)), (5, AV.row 7 0 l0.length l0.length false), (6, AV.v (.int .u64 x0)), (7, AV.v (.int .i64 x1))], hp := [(7, AObj.row 59 1 (.ints .u32 l0) n0)], nx := 8 }) (.normal) { n := 46, fr := [(0, AV.sl 1 (.ints .u32 a) ta), (1, AV.v (.int .i64 n)), (5, AV.row 7 0 (l0 ++ [bitsOf BinOp.or IntKind.u64 (a.getD x1.toNat (0 : Int) * (2 : Int) ^ min (n.tmod (32 : Int) % (18446744073709551616 : Int)).toNat 64) x0 % (4294967296 : Int)]).length (l0 ++ [bitsOf BinOp.or IntKind.u64 (a.getD x1.toNat (0 : Int) * (2 : Int) ^ min (n.tmod (32 : Int) % (18446744073709551616 : Int)).toNat 64) x0 % (4294967296 : Int)]).length false), (6, AV.v (.int .u64 (bitsOf BinOp.or IntKind.u64 (a.getD x1.toNat (0 : Int) * (2 : Int) ^ min (n.tmod (32 : Int) % (18446744073709551616 : Int)).toNat 64) x0 / (4294967296 : Int)))), (7, AV.v (.int .i64 (x1 + (1 : Int))))], hp := [(7, AObj.row 59 1 (.ints .u32 (l0 ++ [bitsOf BinOp.or IntKind.u64 (a.getD x1.toNat (0 : Int) * (2 : Int) ^ min (n.tmod (32 : Int) % (18446744073709551616 : Int)).toNat 64) x0 % (4294967296 : Int)])) n0)], nx := 8 } :=
  evW_to hm rsok3 (hs := [CHint.ops 6 [(3, Hint.b true)]]) (slots := [0, 1, 5, 6, 7]) (keys := [7]) (nx := 8) (c := _) (by kernel_rfl) h

theorem upL0_2 (a : List Int) (ta : Bool) (n : Int) (x0 : Int) (x1 : Int) (l0 : List Int) (n0 : Nat) (h : AllP [decide (x1 < (↑a.length : Int)) = false]) : To Try.prog (loopAt Try.f88 0) ({ n := 46, fr := [(0, AV.sl 1 (.ints .u32 a) ta), (1, AV.v (.int .i64 n)), (5, AV.row 7 0 l0.length l0.length false), (6, AV.v (.int .u64 x0)), (7, AV.v (.int .i64 x1))], hp := [(7, AObj.row 59 1 (.ints .u32 l0) n0)], nx := 8 }) (Exit.exit 0) { n := 46, fr := [(5, AV.row 7 0 l0.length l0.length false), (6, AV.v (.int .u64 x0))], hp := [(7, AObj.row 59 1 (.ints .u32 l0) n0)], nx := 8 } :=
  evW_to hm rsok3 (hs := [CHint.ops 6 [(3, Hint.b false)]]) (slots := [5, 6]) (keys := [7]) (nx := 8) (c := _) (by kernel_rfl) h
-- 2 paths

theorem upF1 (a : List Int) (ta : Bool) (n : Int) (x2 : Int) (l1 : List Int) (n1 : Nat) (h : AllP [a.length ≤ lim4, ((↑(norm a).length : Int) == (0 : Int)) = true]) : PureTo Try.prog 88 [.sl 1 (.ints .u32 a) ta, .v (.int .i64 n)] (AV.sl 1 (.ints .u32 []) false) :=
  evFn_pure hm rsok3 (fn := Try.f88) rfl rfl (ti := false) (hs := [CHint.ops 1 [(3, Hint.b true)]]) (c := _) (by kernel_rfl) h

theorem upF2 (a : List Int) (ta : Bool) (n : Int) (x2 : Int) (l1 : List Int) (n1 : Nat) (h : AllP [a.length ≤ lim4, ((↑(norm a).length : Int) == (0 : Int)) = false, (32 : Int) ≠ (0 : Int), inR IntKind.i64 (n.tdiv (32 : Int)), (0 : Int) ≤ n.tdiv (32 : Int) ∧ n.tdiv (32 : Int) ≤ n.tdiv (32 : Int), n.tdiv (32 : Int) * (4 : Int) ≤ (281474976710656 : Int) ∧ n.tdiv (32 : Int) ≤ (9223372036854775807 : Int), LoopTo Try.prog (loopAt Try.f88 0) { n := 46, fr := [(0, AV.sl 1 (.ints .u32 a) ta), (1, AV.v (.int .i64 n)), (5, AV.row 7 0 (n.tdiv (32 : Int)).toNat (n.tdiv (32 : Int)).toNat false), (6, AV.v (.int .u64 (0 : Int))), (7, AV.v (.int .i64 (0 : Int)))], hp := [(7, AObj.row 59 1 (.ints .u32 (List.replicate (n.tdiv (32 : Int)).toNat (0 : Int))) 0)], nx := 8 } (Exit.exit 0) { n := 46, fr := [(5, AV.row 7 0 l1.length l1.length false), (6, AV.v (.int .u64 x2))], hp := [(7, AObj.row 59 1 (.ints .u32 l1) n1)], nx := 8 }, l1.length = l1.length, l1.length = l1.length, (l1 ++ [x2 % (4294967296 : Int)]).length * 4 ≤ 140737488355328, (l1 ++ [x2 % (4294967296 : Int)]).length = (l1 ++ [x2 % (4294967296 : Int)]).length, n1 ≤ (l1 ++ [x2 % (4294967296 : Int)]).length, (l1 ++ [x2 % (4294967296 : Int)]).length ≤ lim4]) : PureTo Try.prog 88 [.sl 1 (.ints .u32 a) ta, .v (.int .i64 n)] (AV.sl 1 (.ints .u32 (norm (l1 ++ [x2 % (4294967296 : Int)]))) false) :=
  evFn_pure hm rsok3 (fn := Try.f88) rfl rfl (ti := false) (hs := [CHint.ops 1 [(3, Hint.b false)], CHint.loop [0, 1, 5, 6, 7] [7] 8 (Exit.exit 0) { n := 46, fr := [(5, AV.row 7 0 l1.length l1.length false), (6, AV.v (.int .u64 x2))], hp := [(7, AObj.row (59 : TypeId) 1 (.ints .u32 l1) n1)], nx := 8 }]) (c := _) (by kernel_rfl) h
-- 4 paths

theorem rshrL0_1 (a : List Int) (ta : Bool) (n : Int) (x0 : Int) (b0 : Bool) (h : AllP [decide (x0 < n) = true, b0 = true, inR IntKind.i64 (x0 + (1 : Int))]) : To Try.prog (loopAt Try.f110 0) ({ n := 72, fr := [(0, AV.sl 1 (.ints .u32 (norm a)) false), (1, AV.v (.int .i64 n)), (6, AV.v (.bool b0)), (7, AV.v (.int .i64 x0))], hp := [], nx := 0 }) (.normal) { n := 72, fr := [(0, AV.sl 1 (.ints .u32 (norm a)) false), (1, AV.v (.int .i64 n)), (6, AV.v (.bool true)), (7, AV.v (.int .i64 (x0 + (1 : Int))))], hp := [], nx := 0 } :=
  evW_to hm rsok3 (hs := [CHint.ops 8 [(2, Hint.b true)], CHint.ops 10 [(1, Hint.b true)]]) (slots := [0, 1, 6, 7]) (keys := []) (nx := 0) (c := _) (by kernel_rfl) h

theorem rshrL0_2 (a : List Int) (ta : Bool) (n : Int) (x0 : Int) (b0 : Bool) (h : AllP [decide (x0 < n) = true, b0 = false, (32 : Int) ≠ (0 : Int), inR IntKind.i64 (x0.tdiv (32 : Int)), (0 : Int) ≤ x0.tdiv (32 : Int) ∧ x0.tdiv (32 : Int) < (↑(norm a).length : Int), (32 : Int) ≠ (0 : Int), (0 : Int) ≤ x0.tmod (32 : Int) % (18446744073709551616 : Int), (bitsOf BinOp.and IntKind.u32 ((norm a).getD (x0.tdiv (32 : Int)).toNat (0 : Int) / (2 : Int) ^ min (x0.tmod (32 : Int) % (18446744073709551616 : Int)).toNat 32) (1 : Int) == (1 : Int)) = true, inR IntKind.i64 (x0 + (1 : Int))]) : To Try.prog (loopAt Try.f110 0) ({ n := 72, fr := [(0, AV.sl 1 (.ints .u32 (norm a)) false), (1, AV.v (.int .i64 n)), (6, AV.v (.bool b0)), (7, AV.v (.int .i64 x0))], hp := [], nx := 0 }) (.normal) { n := 72, fr := [(0, AV.sl 1 (.ints .u32 (norm a)) false), (1, AV.v (.int .i64 n)), (6, AV.v (.bool true)), (7, AV.v (.int .i64 (x0 + (1 : Int))))], hp := [], nx := 0 } :=
  evW_to hm rsok3 (hs := [CHint.ops 8 [(2, Hint.b true)], CHint.ops 10 [(1, Hint.b false), (12, Hint.b true)]]) (slots := [0, 1, 6, 7]) (keys := []) (nx := 0) (c := _) (by kernel_rfl) h

theorem rshrL0_3 (a : List Int) (ta : Bool) (n : Int) (x0 : Int) (b0 : Bool) (h : AllP [decide (x0 < n) = true, b0 = false, (32 : Int) ≠ (0 : Int), inR IntKind.i64 (x0.tdiv (32 : Int)), (0 : Int) ≤ x0.tdiv (32 : Int) ∧ x0.tdiv (32 : Int) < (↑(norm a).length : Int), (32 : Int) ≠ (0 : Int), (0 : Int) ≤ x0.tmod (32 : Int) % (18446744073709551616 : Int), (bitsOf BinOp.and IntKind.u32 ((norm a).getD (x0.tdiv (32 : Int)).toNat (0 : Int) / (2 : Int) ^ min (x0.tmod (32 : Int) % (18446744073709551616 : Int)).toNat 32) (1 : Int) == (1 : Int)) = false, inR IntKind.i64 (x0 + (1 : Int))]) : To Try.prog (loopAt Try.f110 0) ({ n := 72, fr := [(0, AV.sl 1 (.ints .u32 (norm a)) false), (1, AV.v (.int .i64 n)), (6, AV.v (.bool b0)), (7, AV.v (.int .i64 x0))], hp := [], nx := 0 }) (.normal) { n := 72, fr := [(0, AV.sl 1 (.ints .u32 (norm a)) false), (1, AV.v (.int .i64 n)), (6, AV.v (.bool false)), (7, AV.v (.int .i64 (x0 + (1 : Int))))], hp := [], nx := 0 } :=
  evW_to hm rsok3 (hs := [CHint.ops 8 [(2, Hint.b true)], CHint.ops 10 [(1, Hint.b false), (12, Hint.b false)]]) (slots := [0, 1, 6, 7]) (keys := []) (nx := 0) (c := _) (by kernel_rfl) h

theorem rshrL0_4 (a : List Int) (ta : Bool) (n : Int) (x0 : Int) (b0 : Bool) (h : AllP [decide (x0 < n) = false]) : To Try.prog (loopAt Try.f110 0) ({ n := 72, fr := [(0, AV.sl 1 (.ints .u32 (norm a)) false), (1, AV.v (.int .i64 n)), (6, AV.v (.bool b0)), (7, AV.v (.int .i64 x0))], hp := [], nx := 0 }) (Exit.exit 0) { n := 72, fr := [(0, AV.sl 1 (.ints .u32 (norm a)) false), (1, AV.v (.int .i64 n)), (6, AV.v (.bool b0))], hp := [], nx := 0 } :=
  evW_to hm rsok3 (hs := [CHint.ops 8 [(2, Hint.b false)]]) (slots := [0, 1, 6]) (keys := []) (nx := 0) (c := _) (by kernel_rfl) h
-- 2 paths

theorem rshrL1_1 (a : List Int) (ta : Bool) (n : Int) (x1 : Int) (b1 : Bool) (l0 : List Int) (n0 : Nat) (h : AllP [decide (x1 < (↑(norm a).length : Int)) = true, Words (norm a), (0 : Int) ≤ x1, inR IntKind.i64 (x1 + (1 : Int)), Words (norm a), (0 : Int) ≤ x1 + (1 : Int), (0 : Int) ≤ (32 : Int), inR IntKind.u64 (wd (norm a) (x1 + (1 : Int)) * (4294967296 : Int)), (32 : Int) ≠ (0 : Int), (0 : Int) ≤ n.tmod (32 : Int) % (18446744073709551616 : Int), l0.length = l0.length, l0.length = l0.length, (l0 ++ [bitsOf BinOp.or IntKind.u64 (wd (norm a) x1) (wd (norm a) (x1 + (1 : Int)) * (4294967296 : Int)) / (2 : Int) ^ min (n.tmod (32 : Int) % (18446744073709551616 : Int)).toNat 64 % (4294967296 : Int)]).length * 4 ≤ 140737488355328, inR IntKind.i64 (x1 + (1 : Int))]) : To Try.prog (loopAt Try.f110 1) ({ n := 72, fr := [(0, AV.sl 1 (.ints .u32 (norm a)) false), (1, AV.v (.int .i64 n)), (6, AV.v (.bool b1)), (8, AV.row 0 0 l0.length l0.length false), (9, AV.v (.int .i64 x1))], hp := [(0, AObj.row 59 1 (.ints .u32 l0) n0)], nx := 1 }) (.normal) { n := 72, fr := [(0, AV.sl 1 (.ints .u32 (norm a)) false), (1, AV.v (.int .i64 n)), (6, AV.v (.bool b1)), (8, AV.row 0 0 (l0 ++ [bitsOf BinOp.or IntKind.u64 (wd (norm a) x1) (wd (norm a) (x1 + (1 : Int)) * (4294967296 : Int)) / (2 : Int) ^ min (n.tmod (32 : Int) % (18446744073709551616 : Int)).toNat 64 % (4294967296 : Int)]).length (l0 ++ [bitsOf BinOp.or IntKind.u64 (wd (norm a) x1) (wd (norm a) (x1 + (1 : Int)) * (4294967296 : Int)) / (2 : Int) ^ min (n.tmod (32 : Int) % (18446744073709551616 : Int)).toNat 64 % (4294967296 : Int)]).length false), (9, AV.v (.int .i64 (x1 + (1 : Int))))], hp := [(0, AObj.row 59 1 (.ints .u32 (l0 ++ [bitsOf BinOp.or IntKind.u64 (wd (norm a) x1) (wd (norm a) (x1 + (1 : Int)) * (4294967296 : Int)) / (2 : Int) ^ min (n.tmod (32 : Int) % (18446744073709551616 : Int)).toNat 64 % (4294967296 : Int)])) n0)], nx := 1 } :=
  evW_to hm rsok3 (hs := [CHint.ops 13 [(3, Hint.b true)]]) (slots := [0, 1, 6, 8, 9]) (keys := [0]) (nx := 1) (c := _) (by kernel_rfl) h

theorem rshrL1_2 (a : List Int) (ta : Bool) (n : Int) (x1 : Int) (b1 : Bool) (l0 : List Int) (n0 : Nat) (h : AllP [decide (x1 < (↑(norm a).length : Int)) = false]) : To Try.prog (loopAt Try.f110 1) ({ n := 72, fr := [(0, AV.sl 1 (.ints .u32 (norm a)) false), (1, AV.v (.int .i64 n)), (6, AV.v (.bool b1)), (8, AV.row 0 0 l0.length l0.length false), (9, AV.v (.int .i64 x1))], hp := [(0, AObj.row 59 1 (.ints .u32 l0) n0)], nx := 1 }) (Exit.exit 2) { n := 72, fr := [(6, AV.v (.bool b1)), (8, AV.row 0 0 l0.length l0.length false)], hp := [(0, AObj.row 59 1 (.ints .u32 l0) n0)], nx := 1 } :=
  evW_to hm rsok3 (hs := [CHint.ops 13 [(3, Hint.b false)]]) (slots := [6, 8]) (keys := [0]) (nx := 1) (c := _) (by kernel_rfl) h
-- 4 paths

theorem rshrF1 (a : List Int) (ta : Bool) (n : Int) (b1 : Bool) (l1 : List Int) (n1 : Nat) (h : AllP [a.length ≤ lim4, decide (n ≤ (0 : Int)) = true]) : PureTo Try.prog 110 [.sl 1 (.ints .u32 a) ta, .v (.int .i64 n)] (AV.tup [AV.sl 1 (.ints .u32 (norm a)) false, AV.v (.bool false)]) :=
  evFn_pure hm rsok3 (fn := Try.f110) rfl rfl (ti := false) (hs := [CHint.ops 2 [(1, Hint.b true)]]) (c := _) (by kernel_rfl) h

theorem rshrF2 (a : List Int) (ta : Bool) (n : Int) (b1 : Bool) (l1 : List Int) (n1 : Nat) (h : AllP [a.length ≤ lim4, decide (n ≤ (0 : Int)) = false, inR IntKind.i64 ((32 : Int) * (↑(norm a).length : Int)), decide (n ≥ (32 : Int) * (↑(norm a).length : Int)) = true, decide ((↑(norm a).length : Int) > (0 : Int)) = true]) : PureTo Try.prog 110 [.sl 1 (.ints .u32 a) ta, .v (.int .i64 n)] (AV.tup [AV.sl 1 (.ints .u32 []) false, AV.v (.bool true)]) :=
  evFn_pure hm rsok3 (fn := Try.f110) rfl rfl (ti := false) (hs := [CHint.ops 2 [(1, Hint.b false)], CHint.ops 4 [(4, Hint.b true)], CHint.ops 5 [(2, Hint.b true)]]) (c := _) (by kernel_rfl) h

theorem rshrF3 (a : List Int) (ta : Bool) (n : Int) (b1 : Bool) (l1 : List Int) (n1 : Nat) (h : AllP [a.length ≤ lim4, decide (n ≤ (0 : Int)) = false, inR IntKind.i64 ((32 : Int) * (↑(norm a).length : Int)), decide (n ≥ (32 : Int) * (↑(norm a).length : Int)) = true, decide ((↑(norm a).length : Int) > (0 : Int)) = false]) : PureTo Try.prog 110 [.sl 1 (.ints .u32 a) ta, .v (.int .i64 n)] (AV.tup [AV.sl 1 (.ints .u32 []) false, AV.v (.bool false)]) :=
  evFn_pure hm rsok3 (fn := Try.f110) rfl rfl (ti := false) (hs := [CHint.ops 2 [(1, Hint.b false)], CHint.ops 4 [(4, Hint.b true)], CHint.ops 5 [(2, Hint.b false)]]) (c := _) (by kernel_rfl) h

theorem rshrF4 (a : List Int) (ta : Bool) (n : Int) (b1 : Bool) (l1 : List Int) (n1 : Nat) (h : AllP [a.length ≤ lim4, decide (n ≤ (0 : Int)) = false, inR IntKind.i64 ((32 : Int) * (↑(norm a).length : Int)), decide (n ≥ (32 : Int) * (↑(norm a).length : Int)) = false, LoopTo Try.prog (loopAt Try.f110 0) { n := 72, fr := [(0, AV.sl 1 (.ints .u32 (norm a)) false), (1, AV.v (.int .i64 n)), (6, AV.v (.bool false)), (7, AV.v (.int .i64 (0 : Int)))], hp := [], nx := 0 } (Exit.exit 0) { n := 72, fr := [(0, AV.sl 1 (.ints .u32 (norm a)) false), (1, AV.v (.int .i64 n)), (6, AV.v (.bool b1))], hp := [], nx := 0 }, (32 : Int) ≠ (0 : Int), inR IntKind.i64 (n.tdiv (32 : Int)), LoopTo Try.prog (loopAt Try.f110 1) { n := 72, fr := [(0, AV.sl 1 (.ints .u32 (norm a)) false), (1, AV.v (.int .i64 n)), (6, AV.v (.bool b1)), (8, AV.row 0 0 0 0 false), (9, AV.v (.int .i64 (n.tdiv (32 : Int))))], hp := [(0, AObj.row 59 1 (.ints .u32 []) 0)], nx := 1 } (Exit.exit 2) { n := 72, fr := [(6, AV.v (.bool b1)), (8, AV.row 0 0 l1.length l1.length false)], hp := [(0, AObj.row 59 1 (.ints .u32 l1) n1)], nx := 1 }, l1.length = l1.length, n1 ≤ l1.length, l1.length ≤ lim4]) : PureTo Try.prog 110 [.sl 1 (.ints .u32 a) ta, .v (.int .i64 n)] (AV.tup [AV.sl 1 (.ints .u32 (norm l1)) false, AV.v (.bool b1)]) :=
  evFn_pure hm rsok3 (fn := Try.f110) rfl rfl (ti := false) (hs := [CHint.ops 2 [(1, Hint.b false)], CHint.ops 4 [(4, Hint.b false)], CHint.loop [0, 1, 6, 7] [] 0 (Exit.exit 0) { n := 72, fr := [(0, AV.sl 1 (.ints .u32 (norm a)) false), (1, AV.v (.int .i64 n)), (6, AV.v (.bool b1))], hp := [], nx := 0 }, CHint.ops 11 [(0, Hint.nil 59)], CHint.loop [0, 1, 6, 8, 9] [0] 1 (Exit.exit 2) { n := 72, fr := [(6, AV.v (.bool b1)), (8, AV.row 0 0 l1.length l1.length false)], hp := [(0, AObj.row (59 : TypeId) 1 (.ints .u32 l1) n1)], nx := 1 }]) (c := _) (by kernel_rfl) h

theorem up_step {a l : List Int} {c P : Int} {w i : Nat} (ha : Words a) (hl : l.length = w + i) (h0 : 0 ≤ wd a i * P + c) (hinv : (nat l : Int) + c * 4294967296 ^ (w + i) = P * 4294967296 ^ w * natW a i) :
    (nat (l ++ [(wd a i * P + c) % 4294967296]) : Int) + (wd a i * P + c) / 4294967296 * 4294967296 ^ (w + (i + 1)) = P * 4294967296 ^ w * natW a (i + 1) := by
  rw [nat_snoc _ _ (by omega), natW_next ha, hl, show w + (i + 1) = (w + i) + 1 from rfl, Int.pow_succ]
  have e : (wd a i * P + c) % 4294967296 = (wd a i * P + c) - 4294967296 * ((wd a i * P + c) / 4294967296) := by omega
  rw [e]
  generalize (wd a i * P + c) / 4294967296 = q
  have hp := pow_int_mul w i
  rw [← hp] at hinv ⊢
  generalize (4294967296 : Int) ^ w = W at *
  generalize (4294967296 : Int) ^ i = I at *
  generalize wd a i = x at *
  grind

theorem up_loop (a : List Int) (ta : Bool) (n : Int) (w r : Nat) (C : Cnt n w r) (ha : Words a) (hlim : w + a.length + 2 ≤ 1000000000000) : ∀ (f i : Nat) (l : List Int) (c : Int), i + f = a.length → l.length = w + i → Words l → (0 ≤ c ∧ c < (2 ^ r : Nat)) →
    (nat l : Int) + c * 4294967296 ^ (w + i) = (2 ^ r : Nat) * 4294967296 ^ w * natW a i →
    ∃ l1 : List Int, ∃ c1 : Int, l1.length = w + a.length ∧ Words l1 ∧ (0 ≤ c1 ∧ c1 < (2 ^ r : Nat)) ∧ (nat l1 : Int) + c1 * 4294967296 ^ (w + a.length) = (2 ^ r : Nat) * 4294967296 ^ w * natW a a.length ∧
      LoopTo Try.prog (loopAt Try.f88 0) (upS0 a ta n c i l 0) (.exit 0) (upX0 a ta n c1 l1 0) := by
  have hr := C.rlt
  intro f
  induction f with
  | zero =>
    intro i l c hi hl hw hc hinv
    have : i = a.length := by omega
    subst this
    exact ⟨l, c, hl, hw, hc, hinv, .done (by simp) (upL0_2 a ta n c a.length l 0 ⟨by simp, trivial⟩)⟩
  | succ f ih =>
    intro i l c hi hl hw hc hinv
    have hx := wd_bound ha i
    have hg := wd_nat a i
    obtain ⟨b1, b2, b3, b4, b5, b6, b7⟩ := shl_word hr hx hc
    have e1 : (n.tmod 32 % 18446744073709551616) = (r : Int) := by rw [C.er]; omega
    have e2 : (2 : Int) ^ min (n.tmod 32 % 18446744073709551616).toNat 64 = (2 ^ r : Nat) := by rw [e1, Int.toNat_natCast, Nat.min_eq_left (by omega), two_pow]
    have e3 : bitsOf .or .u64 (wd a i * (2 ^ r : Nat)) c = wd a i * (2 ^ r : Nat) + c := by
      rw [(or_add (k := .u64) rfl hc.1 hc.2 b1 (by show _ < (2 : Int) ^ 64; omega) b3 (show r ≤ 64 by omega)).2, Int.add_comm]
    have h1 := upL0_1 a ta n c i l 0 (by
      rw [e2, Int.toNat_natCast, ← hg, e3]
      refine ⟨by simp; omega, by omega, inRu64 (by omega) (by omega), by omega, by rw [e1]; omega, inRu64 b1 (by omega), rfl, rfl, ?_, by omega, inR64 (by omega) (by omega), trivial⟩
      simp
      omega)
    rw [e2, Int.toNat_natCast, ← hg, e3] at h1
    obtain ⟨l1, c1, g1, g2, g3, g4, g5⟩ := ih (i + 1) (l ++ [(wd a i * (2 ^ r : Nat) + c) % 4294967296]) ((wd a i * (2 ^ r : Nat) + c) / 4294967296) (by omega) (by simp [hl]; omega) (words_snoc hw (by omega) (by omega)) ⟨by omega, b6⟩ (up_step ha hl (by omega) hinv)
    exact ⟨l1, c1, g1, g2, g3, g4, .step h1 g5⟩

theorem up_pure (a : List Int) (ta : Bool) (n : Int) (ha : Words a) (hn : 0 ≤ n) (hlim : n + a.length + 2 ≤ 1000000000000) : PureTo Try.prog 88 [.sl 1 (.ints .u32 a) ta, .v (.int .i64 n)] (.sl 1 (.ints .u32 (dig (nat a * 2 ^ n.toNat))) false) := by
  have C := cnt hn
  generalize hw : n.toNat / 32 = w at *
  generalize hr : n.toNat % 32 = r at *
  by_cases h0 : (norm a).length = 0
  · have e : nat a = 0 := by
      rw [← nat_norm, List.eq_nil_of_length_eq_zero h0]
      rfl
    rw [e, Nat.zero_mul, dig_zero]
    exact upF1 a ta n 0 [] 0 ⟨by unfold lim4; omega, by simp [h0], trivial⟩
  · obtain ⟨l1, c1, g1, g2, g3, g4, g5⟩ := up_loop a ta n w r C ha (by omega) a.length 0 (List.replicate w 0) 0 (by omega) (by simp) (zeros_words w) ⟨by omega, by have := Nat.pow_pos (n := r) (show 0 < 2 by omega); omega⟩ (by simp [natW, zeros_nat])
    have hc32 : c1 < 4294967296 := by
      have : (2 : Nat) ^ r ≤ 2 ^ 32 := Nat.pow_le_pow_right (by omega) (by omega)
      omega
    have hw2 : Words (l1 ++ [c1 % 4294967296]) := words_snoc g2 (by omega) (by omega)
    have hval : nat (l1 ++ [c1 % 4294967296]) = nat a * 2 ^ n.toNat := by
      have h1 := nat_snoc l1 (c1 % 4294967296) (by omega)
      rw [g1, Int.emod_eq_of_lt g3.1 hc32] at h1
      rw [natW_all _ _ (Nat.le_refl _)] at g4
      rw [Int.emod_eq_of_lt g3.1 hc32]
      have h2 : ((nat a * 2 ^ n.toNat : Nat) : Int) = (2 ^ r : Nat) * 4294967296 ^ w * nat a := by
        rw [pow32 n.toNat, hw, hr, Int.natCast_mul, Int.natCast_mul, ← pow_int]
        grind
      have h3 : ((nat (l1 ++ [c1]) : Nat) : Int) = ((nat a * 2 ^ n.toNat : Nat) : Int) := by
        rw [h1, h2, ← g4, Int.mul_comm (4294967296 ^ _)]
      exact Int.ofNat.inj h3
    have hlen : (l1 ++ [c1 % 4294967296]).length = w + a.length + 1 := by simp [g1]
    have hCw := C.ew
    have hCn := C.en
    have e5 : (n.tdiv 32).toNat = w := by rw [hCw]; omega
    have h := upF2 a ta n c1 l1 0 (by
      rw [e5, hlen]
      refine ⟨by unfold lim4; omega, by simpa using h0, by omega, by rw [hCw]; exact inR64 (by omega) (by omega), by rw [hCw]; omega, by rw [hCw]; omega, ?_, rfl, rfl, by omega, rfl, by omega, by unfold lim4; omega, trivial⟩
      have := g5
      unfold upS0 at this
      simp only [List.length_replicate] at this
      exact this)
    rw [norm_eq hw2, hval] at h
    exact h

theorem rshr_bits (a : List Int) (ta : Bool) (n : Int) (L : List Int) (hL : norm a = L) (hw : Words L) (h0 : 0 ≤ n) (hlt : n < 32 * (L.length : Int)) (hlen : L.length ≤ 35184372088832) : ∀ f i : Nat, (i : Int) + f = n →
    LoopTo Try.prog (loopAt Try.f110 0) (rshrS0 a ta n i (decide (nat L % 2 ^ i ≠ 0))) (.exit 0) (rshrX0 a ta n (decide (nat L % 2 ^ n.toNat ≠ 0))) := by
  intro f
  induction f with
  | zero =>
    intro i hi
    have e : n.toNat = i := by omega
    rw [e]
    exact .done (by simp) (rshrL0_4 a ta n i _ ⟨by simp; omega, trivial⟩)
  | succ f ih =>
    intro i hi
    have ih := ih (i + 1) (by omega)
    have hb := mod_bit (nat L) i
    by_cases hz : nat L % 2 ^ i = 0
    · have hi2 : i < 32 * L.length := by omega
      have hx := words_getD hw (i / 32)
      have hbit := word_bit hw i hi2
      have e1 : (i : Int).tdiv 32 = ((i / 32 : Nat) : Int) := by rw [Int.tdiv_eq_ediv_of_nonneg (by omega)]; omega
      have e2 : (i : Int).tmod 32 % 18446744073709551616 = ((i % 32 : Nat) : Int) := by rw [Int.tmod_eq_emod_of_nonneg (by omega)]; omega
      have e3 : (2 : Int) ^ min ((i : Int).tmod 32 % 18446744073709551616).toNat 32 = ((2 ^ (i % 32) : Nat) : Int) := by
        rw [e2, Int.toNat_natCast, Nat.min_eq_left (by omega), two_pow]
      have e4 : bitsOf .and .u32 (L.getD (i / 32) 0 / ((2 ^ (i % 32) : Nat) : Int)) 1 = (((L.getD (i / 32) 0).toNat / 2 ^ (i % 32) % 2 : Nat) : Int) := by
        have hq : L.getD (i / 32) 0 / ((2 ^ (i % 32) : Nat) : Int) = (((L.getD (i / 32) 0).toNat / 2 ^ (i % 32) : Nat) : Int) := by
          rw [Int.natCast_ediv]
          congr 1
          omega
        rw [hq]
        have hle2 := Nat.div_le_self (L.getD (i / 32) 0).toNat (2 ^ (i % 32))
        have := and_low (k := .u32) (s := 1) (x := (((L.getD (i / 32) 0).toNat / 2 ^ (i % 32) : Nat) : Int)) rfl (Int.natCast_nonneg _) (by show _ < (2 : Int) ^ 32; omega) (by decide)
        rw [Int.natCast_emod]
        exact this
      have hfalse : decide (nat L % 2 ^ i ≠ 0) = false := by simp [hz]
      cases hbv : decide (nat L / 2 ^ i % 2 = 1) with
      | true =>
        have hbv' : nat L / 2 ^ i % 2 = 1 := by simpa using hbv
        have hne : decide (nat L % 2 ^ (i + 1) ≠ 0) = true := by
          simp only [ne_eq, decide_not, hb, hz, true_and]
          simp [hbv']
        have h1 := rshrL0_2 a ta n i (decide (nat L % 2 ^ i ≠ 0)) (by
          rw [hL, e1, e3, Int.toNat_natCast, e4, ← hbit, hbv', e2]
          exact ⟨by simp; omega, hfalse, by omega, inR64 (by omega) (by omega), by omega, by omega, by omega, by simp, inR64 (by omega) (by omega), trivial⟩)
        rw [hne] at ih
        exact .step h1 ih
      | false =>
        have hbv' : nat L / 2 ^ i % 2 = 0 := by
          have : ¬ nat L / 2 ^ i % 2 = 1 := by simpa using hbv
          omega
        have hne : decide (nat L % 2 ^ (i + 1) ≠ 0) = false := by
          simp only [ne_eq, decide_not, hb, hz, true_and]
          simp [hbv']
        have h1 := rshrL0_3 a ta n i (decide (nat L % 2 ^ i ≠ 0)) (by
          rw [hL, e1, e3, Int.toNat_natCast, e4, ← hbit, hbv', e2]
          exact ⟨by simp; omega, hfalse, by omega, inR64 (by omega) (by omega), by omega, by omega, by omega, by simp, inR64 (by omega) (by omega), trivial⟩)
        rw [hne] at ih
        exact .step h1 ih
    · have htrue : decide (nat L % 2 ^ i ≠ 0) = true := by simp [hz]
      have hne : decide (nat L % 2 ^ (i + 1) ≠ 0) = true := by
        simp only [ne_eq, decide_not, hb]
        simp [hz]
      have h1 := rshrL0_1 a ta n i (decide (nat L % 2 ^ i ≠ 0)) ⟨by simp; omega, htrue, inR64 (by omega) (by omega), trivial⟩
      rw [hne] at ih
      exact .step h1 ih

theorem rshr_words (a : List Int) (ta : Bool) (n : Int) (L : List Int) (hL : norm a = L) (hw : Words L) (w s : Nat) (C : Cnt n w s) (b : Bool) (hlen : L.length ≤ 35184372088832) : ∀ (f i : Nat) (l : List Int), w + i + f = L.length → l = (shrW (L.drop w) s).take i →
    LoopTo Try.prog (loopAt Try.f110 1) (rshrS1 a ta n ((w + i : Nat) : Int) b l 0) (.exit 2) (rshrX1 a ta n b (shrW (L.drop w) s) 0) := by
  have hs := C.rlt
  intro f
  induction f with
  | zero =>
    intro i l hi hl
    have e : l = shrW (L.drop w) s := by rw [hl, List.take_of_length_le (by rw [shrW_length, List.length_drop]; omega)]
    rw [e]
    exact .done (by simp) (rshrL1_2 a ta n _ b _ 0 ⟨by rw [hL]; simp; omega, trivial⟩)
  | succ f ih =>
    intro i l hi hl
    have hx := wd_bound hw ((w + i : Nat) : Int)
    have hy := wd_bound hw (((w + i : Nat) : Int) + 1)
    have e2 : n.tmod 32 % 18446744073709551616 = (s : Int) := by rw [C.er]; omega
    have e3 : (2 : Int) ^ min (n.tmod 32 % 18446744073709551616).toNat 64 = ((2 ^ s : Nat) : Int) := by rw [e2, Int.toNat_natCast, Nat.min_eq_left (by omega), two_pow]
    have e4 := (shW_int hs hx hy).1
    have hlenl : l.length = i := by rw [hl, List.length_take, shrW_length, List.length_drop]; omega
    have hg : (shrW (L.drop w) s).getD i 0 = (shW (wd L ((w + i : Nat) : Int)).toNat (wd L (((w + i : Nat) : Int) + 1)).toNat s : Int) := by
      rw [shrW_get _ _ _ (by rw [List.length_drop]; omega)]
      have h1 : (L.drop w).getD i 0 = wd L ((w + i : Nat) : Int) := by rw [wd_nat, List.getD_eq_getElem?_getD, List.getElem?_drop, ← List.getD_eq_getElem?_getD]
      have h2 : (L.drop w).getD (i + 1) 0 = wd L (((w + i : Nat) : Int) + 1) := by
        rw [show ((w + i : Nat) : Int) + 1 = ((w + (i + 1) : Nat) : Int) by omega, wd_nat, List.getD_eq_getElem?_getD, List.getElem?_drop, ← List.getD_eq_getElem?_getD]
      rw [h1, h2]
    have hi2 : i < (shrW (L.drop w) s).length := by rw [shrW_length, List.length_drop]; omega
    have hnext : l ++ [(shW (wd L ((w + i : Nat) : Int)).toNat (wd L (((w + i : Nat) : Int) + 1)).toNat s : Int)] = (shrW (L.drop w) s).take (i + 1) := by
      rw [List.take_succ_eq_append_getElem hi2, hl, ← hg]
      congr 2
      simp [List.getD_eq_getElem?_getD, hi2]
    have h1 := rshrL1_1 a ta n ((w + i : Nat) : Int) b l 0 (by
      rw [hL, e3, e4, e2]
      refine ⟨by simp; omega, hw, by omega, inR64 (by omega) (by omega), hw, by omega, by omega, inRu64 (by omega) (by omega), by omega, by omega, rfl, rfl, by simp; omega, inR64 (by omega) (by omega), trivial⟩)
    rw [hL, e3, e4, hnext] at h1
    have ih := ih (i + 1) _ (by omega) rfl
    have e5 : ((w + i : Nat) : Int) + 1 = ((w + (i + 1) : Nat) : Int) := by omega
    rw [e5] at h1
    unfold rshrS1
    unfold rshrS1 at ih
    rw [hL] at ih ⊢
    exact .step h1 ih

theorem rshr_pure (a : List Int) (ta : Bool) (n : Int) (ha : Words a) (hl4 : a.length ≤ lim4) : PureTo Try.prog 110 [.sl 1 (.ints .u32 a) ta, .v (.int .i64 n)] (.tup [.sl 1 (.ints .u32 (ShrN (nat a) n).1) false, .v (.bool (ShrN (nat a) n).2)]) := by
  have hle := norm_length_le a
  have hl := hl4
  unfold lim4 at hl
  have hw := words_norm ha
  have hz := norm_nil ha
  have hN := nat_lt hw
  rw [nat_norm] at hN
  unfold ShrN
  by_cases h0 : n ≤ 0
  · have e : (if n < 0 then ((dig (nat a), false) : List Int × Bool) else (dig (nat a / 2 ^ n.toNat), decide (nat a % 2 ^ n.toNat ≠ 0))) = (norm a, false) := by
      split
      · rw [norm_eq ha]
      · have : n.toNat = 0 := by omega
        rw [this, Nat.pow_zero, Nat.div_one, Nat.mod_one, norm_eq ha]
        rfl
    rw [e]
    exact rshrF1 a ta n false [] 0 ⟨hl4, by simpa using h0, trivial⟩
  · rw [if_neg (by omega)]
    have hi : inR .i64 (32 * ((norm a).length : Int)) := inR64 (by omega) (by omega)
    by_cases h1 : n ≥ 32 * ((norm a).length : Int)
    · have hb : nat a < 2 ^ n.toNat := by
        refine Nat.lt_of_lt_of_le hN ?_
        rw [show (4294967296 : Nat) = 2 ^ 32 from rfl, ← Nat.pow_mul]
        exact Nat.pow_le_pow_right (by omega) (by omega)
      rw [Nat.div_eq_of_lt hb, Nat.mod_eq_of_lt hb, dig_zero]
      by_cases h2 : (norm a).length = 0
      · have : nat a = 0 := hz.1 h2
        have e : decide (nat a ≠ 0) = false := by simp [this]
        simp only [e]
        exact rshrF3 a ta n false [] 0 ⟨hl4, by simpa using h0, hi, by simpa using h1, by simp [h2], trivial⟩
      · have : nat a ≠ 0 := fun e => h2 (hz.2 e)
        have e : decide (nat a ≠ 0) = true := by simp [this]
        simp only [e]
        exact rshrF2 a ta n false [] 0 ⟨hl4, by simpa using h0, hi, by simpa using h1, by simp; omega, trivial⟩
    · have C := cnt (show 0 ≤ n by omega)
      have hbits := rshr_bits a ta n (norm a) rfl hw (by omega) (by omega) (by omega) n.toNat 0 (by omega)
      rw [Nat.pow_zero, Nat.mod_one] at hbits
      have hwords := rshr_words a ta n (norm a) rfl hw _ _ C (decide (nat (norm a) % 2 ^ n.toNat ≠ 0)) (by omega) ((norm a).length - n.toNat / 32) 0 [] (by omega) (by simp)
      have hq := shr_quot hw n.toNat (by omega)
      rw [nat_norm] at hq
      have hwl := shrW_words ((norm a).drop (n.toNat / 32)) (n.toNat % 32)
      have hll := shrW_length ((norm a).drop (n.toNat / 32)) (n.toNat % 32)
      rw [List.length_drop] at hll
      have h := rshrF4 a ta n (decide (nat (norm a) % 2 ^ n.toNat ≠ 0)) (shrW ((norm a).drop (n.toNat / 32)) (n.toNat % 32)) 0 ⟨hl4, by simpa using h0, hi, by simpa using h1, hbits, by omega, by rw [C.ew]; exact inR64 (by omega) (by omega), by
        rw [C.ew]
        exact hwords, rfl, by omega, by unfold lim4; omega, trivial⟩
      rw [norm_eq hwl, hq, nat_norm] at h
      exact h

def sigUp : List AV → Option (AV × List Prop)
  | [.sl 1 (.ints .u32 a) _, .v (.int .i64 n)] => some (.sl 1 (.ints .u32 (dig (nat a * 2 ^ n.toNat))) false, [Words a, 0 ≤ n, n + a.length + 2 ≤ 1000000000000])
  | _ => none

def sigRShr : List AV → Option (AV × List Prop)
  | [.sl 1 (.ints .u32 a) _, .v (.int .i64 n)] => some (.tup [.sl 1 (.ints .u32 (ShrN (nat a) n).1) false, .v (.bool (ShrN (nat a) n).2)], [Words a, a.length ≤ lim4])
  | _ => none

def RS4 : SGT := (88, .p sigUp) :: (110, .p sigRShr) :: RS3

theorem rsok4 : SigsOK Try.prog RS4 := by
  refine sigs_cons (sigs_cons rsok3 ?_) ?_
  · intro ys r c h hc
    unfold sigRShr at h
    split at h
    · cases h; exact rshr_pure _ _ _ hc.1 hc.2.1
    · cases h
  · intro ys r c h hc
    unfold sigUp at h
    split at h
    · cases h; exact up_pure _ _ _ hc.1 hc.2.1 hc.2.2.1
    · cases h

def halvedS0 (a b : List Int) (ta tb : Bool) (x0 : Int) (l0 : List Int) (l1 : List Int) (n0 : Nat) (n1 : Nat) (t0 : Bool) : AS := { n := 60, fr := [(0, AV.sl 1 (.ints .u32 a) ta), (1, AV.sl 1 (.ints .u32 b) tb), (6, AV.row 4 0 n1 n1 false), (7, AV.sl 1 (.ints .u32 l0) t0), (8, AV.v (.int .i64 x0))], hp := [(4, AObj.row 59 1 (.ints .u32 l1) n0)], nx := 5 }

def halvedX0 (a b : List Int) (ta tb : Bool) (l2 : List Int) (l3 : List Int) (n2 : Nat) (n3 : Nat) (t1 : Bool) : AS := { n := 60, fr := [(6, AV.row 4 0 n3 n3 false), (7, AV.sl 1 (.ints .u32 l2) t1)], hp := [(4, AObj.row 59 1 (.ints .u32 l3) n2)], nx := 5 }
-- 5 paths

theorem halvedL0_1 (a b : List Int) (ta tb : Bool) (x0 : Int) (l0 : List Int) (l1 : List Int) (n0 : Nat) (n1 : Nat) (t0 : Bool) (h : AllP [decide (x0 ≥ (0 : Int)) = true, Words l0, (0 : Int) ≤ (1 : Int), (1 : Int) + (↑l0.length : Int) + (2 : Int) ≤ (1000000000000 : Int), (32 : Int) ≠ (0 : Int), inR IntKind.i64 (x0.tdiv (32 : Int)), (0 : Int) ≤ x0.tdiv (32 : Int) ∧ x0.tdiv (32 : Int) < (↑a.length : Int), (32 : Int) ≠ (0 : Int), (0 : Int) ≤ x0.tmod (32 : Int) % (18446744073709551616 : Int), (bitsOf BinOp.and IntKind.u32 (a.getD (x0.tdiv (32 : Int)).toNat (0 : Int) / (2 : Int) ^ min (x0.tmod (32 : Int) % (18446744073709551616 : Int)).toNat 32) (1 : Int) == (1 : Int)) = true, Words (dig (nat l0 * 2)), Words [(1 : Int)], (dig (nat l0 * 2)).length + 1 ≤ lim4, 2 ≤ lim4, Words (dig (nat (dig (nat l0 * 2)) + nat [(1 : Int)])), Words b, (dig (nat (dig (nat l0 * 2)) + nat [(1 : Int)])).length < lim, b.length < lim, decide (cmpN (nat (dig (nat (dig (nat l0 * 2)) + nat [(1 : Int)]))) (nat b) ≥ (0 : Int)) = true, Words (dig (nat (dig (nat l0 * 2)) + nat [(1 : Int)])), Words b, (dig (nat (dig (nat l0 * 2)) + nat [(1 : Int)])).length + 1 ≤ lim4, b.length ≤ (dig (nat (dig (nat l0 * 2)) + nat [(1 : Int)])).length, nat b ≤ nat (dig (nat (dig (nat l0 * 2)) + nat [(1 : Int)])), (32 : Int) ≠ (0 : Int), inR IntKind.i64 (x0.tdiv (32 : Int)), (32 : Int) ≠ (0 : Int), inR IntKind.i64 (x0.tdiv (32 : Int)), (0 : Int) ≤ x0.tdiv (32 : Int) ∧ x0.tdiv (32 : Int) < (↑n1 : Int), n0 ≤ n1, (32 : Int) ≠ (0 : Int), (0 : Int) ≤ x0.tmod (32 : Int) % (18446744073709551616 : Int), inR IntKind.u32 ((1 : Int) * (2 : Int) ^ min (x0.tmod (32 : Int) % (18446744073709551616 : Int)).toNat 32), (0 : Int) ≤ x0.tdiv (32 : Int) ∧ x0.tdiv (32 : Int) < (↑n1 : Int), n1 = l1.length, inR IntKind.i64 (x0 - (1 : Int))]) : To Try.prog (loopAt Try.f87 0) ({ n := 60, fr := [(0, AV.sl 1 (.ints .u32 a) ta), (1, AV.sl 1 (.ints .u32 b) tb), (6, AV.row 4 0 n1 n1 false), (7, AV.sl 1 (.ints .u32 l0) t0), (8, AV.v (.int .i64 x0))], hp := [(4, AObj.row 59 1 (.ints .u32 l1) n0)], nx := 5 }) (.normal) { n := 60, fr := [(0, AV.sl 1 (.ints .u32 a) ta), (1, AV.sl 1 (.ints .u32 b) tb), (6, AV.row 4 0 n1 n1 false), (7, AV.sl 1 (.ints .u32 (dig (nat (dig (nat (dig (nat l0 * 2)) + nat [(1 : Int)])) - nat b))) false), (8, AV.v (.int .i64 (x0 - (1 : Int))))], hp := [(4, AObj.row 59 1 (.ints .u32 (l1.set (ixPlus 0 (x0.tdiv (32 : Int)).toNat) (bitsOf BinOp.or IntKind.u32 (l1.getD (ixPlus 0 (x0.tdiv (32 : Int)).toNat) (0 : Int)) ((1 : Int) * (2 : Int) ^ min (x0.tmod (32 : Int) % (18446744073709551616 : Int)).toNat 32)))) l1.length)], nx := 5 } :=
  evW_to hm rsok4 (hs := [CHint.ops 4 [(1, Hint.b true)], CHint.ops 7 [(10, Hint.b true)], CHint.ops 9 [(3, Hint.b true)]]) (slots := [0, 1, 6, 7, 8]) (keys := [4]) (nx := 5) (c := _) (by kernel_rfl) h

theorem halvedL0_2 (a b : List Int) (ta tb : Bool) (x0 : Int) (l0 : List Int) (l1 : List Int) (n0 : Nat) (n1 : Nat) (t0 : Bool) (h : AllP [decide (x0 ≥ (0 : Int)) = true, Words l0, (0 : Int) ≤ (1 : Int), (1 : Int) + (↑l0.length : Int) + (2 : Int) ≤ (1000000000000 : Int), (32 : Int) ≠ (0 : Int), inR IntKind.i64 (x0.tdiv (32 : Int)), (0 : Int) ≤ x0.tdiv (32 : Int) ∧ x0.tdiv (32 : Int) < (↑a.length : Int), (32 : Int) ≠ (0 : Int), (0 : Int) ≤ x0.tmod (32 : Int) % (18446744073709551616 : Int), (bitsOf BinOp.and IntKind.u32 (a.getD (x0.tdiv (32 : Int)).toNat (0 : Int) / (2 : Int) ^ min (x0.tmod (32 : Int) % (18446744073709551616 : Int)).toNat 32) (1 : Int) == (1 : Int)) = true, Words (dig (nat l0 * 2)), Words [(1 : Int)], (dig (nat l0 * 2)).length + 1 ≤ lim4, 2 ≤ lim4, Words (dig (nat (dig (nat l0 * 2)) + nat [(1 : Int)])), Words b, (dig (nat (dig (nat l0 * 2)) + nat [(1 : Int)])).length < lim, b.length < lim, decide (cmpN (nat (dig (nat (dig (nat l0 * 2)) + nat [(1 : Int)]))) (nat b) ≥ (0 : Int)) = false, inR IntKind.i64 (x0 - (1 : Int))]) : To Try.prog (loopAt Try.f87 0) ({ n := 60, fr := [(0, AV.sl 1 (.ints .u32 a) ta), (1, AV.sl 1 (.ints .u32 b) tb), (6, AV.row 4 0 n1 n1 false), (7, AV.sl 1 (.ints .u32 l0) t0), (8, AV.v (.int .i64 x0))], hp := [(4, AObj.row 59 1 (.ints .u32 l1) n0)], nx := 5 }) (.normal) { n := 60, fr := [(0, AV.sl 1 (.ints .u32 a) ta), (1, AV.sl 1 (.ints .u32 b) tb), (6, AV.row 4 0 n1 n1 false), (7, AV.sl 1 (.ints .u32 (dig (nat (dig (nat l0 * 2)) + nat [(1 : Int)]))) false), (8, AV.v (.int .i64 (x0 - (1 : Int))))], hp := [(4, AObj.row 59 1 (.ints .u32 l1) n0)], nx := 5 } :=
  evW_to hm rsok4 (hs := [CHint.ops 4 [(1, Hint.b true)], CHint.ops 7 [(10, Hint.b true)], CHint.ops 9 [(3, Hint.b false)]]) (slots := [0, 1, 6, 7, 8]) (keys := [4]) (nx := 5) (c := _) (by kernel_rfl) h

theorem halvedL0_3 (a b : List Int) (ta tb : Bool) (x0 : Int) (l0 : List Int) (l1 : List Int) (n0 : Nat) (n1 : Nat) (t0 : Bool) (h : AllP [decide (x0 ≥ (0 : Int)) = true, Words l0, (0 : Int) ≤ (1 : Int), (1 : Int) + (↑l0.length : Int) + (2 : Int) ≤ (1000000000000 : Int), (32 : Int) ≠ (0 : Int), inR IntKind.i64 (x0.tdiv (32 : Int)), (0 : Int) ≤ x0.tdiv (32 : Int) ∧ x0.tdiv (32 : Int) < (↑a.length : Int), (32 : Int) ≠ (0 : Int), (0 : Int) ≤ x0.tmod (32 : Int) % (18446744073709551616 : Int), (bitsOf BinOp.and IntKind.u32 (a.getD (x0.tdiv (32 : Int)).toNat (0 : Int) / (2 : Int) ^ min (x0.tmod (32 : Int) % (18446744073709551616 : Int)).toNat 32) (1 : Int) == (1 : Int)) = false, Words (dig (nat l0 * 2)), Words b, (dig (nat l0 * 2)).length < lim, b.length < lim, decide (cmpN (nat (dig (nat l0 * 2))) (nat b) ≥ (0 : Int)) = true, Words (dig (nat l0 * 2)), Words b, (dig (nat l0 * 2)).length + 1 ≤ lim4, b.length ≤ (dig (nat l0 * 2)).length, nat b ≤ nat (dig (nat l0 * 2)), (32 : Int) ≠ (0 : Int), inR IntKind.i64 (x0.tdiv (32 : Int)), (32 : Int) ≠ (0 : Int), inR IntKind.i64 (x0.tdiv (32 : Int)), (0 : Int) ≤ x0.tdiv (32 : Int) ∧ x0.tdiv (32 : Int) < (↑n1 : Int), n0 ≤ n1, (32 : Int) ≠ (0 : Int), (0 : Int) ≤ x0.tmod (32 : Int) % (18446744073709551616 : Int), inR IntKind.u32 ((1 : Int) * (2 : Int) ^ min (x0.tmod (32 : Int) % (18446744073709551616 : Int)).toNat 32), (0 : Int) ≤ x0.tdiv (32 : Int) ∧ x0.tdiv (32 : Int) < (↑n1 : Int), n1 = l1.length, inR IntKind.i64 (x0 - (1 : Int))]) : To Try.prog (loopAt Try.f87 0) ({ n := 60, fr := [(0, AV.sl 1 (.ints .u32 a) ta), (1, AV.sl 1 (.ints .u32 b) tb), (6, AV.row 4 0 n1 n1 false), (7, AV.sl 1 (.ints .u32 l0) t0), (8, AV.v (.int .i64 x0))], hp := [(4, AObj.row 59 1 (.ints .u32 l1) n0)], nx := 5 }) (.normal) { n := 60, fr := [(0, AV.sl 1 (.ints .u32 a) ta), (1, AV.sl 1 (.ints .u32 b) tb), (6, AV.row 4 0 n1 n1 false), (7, AV.sl 1 (.ints .u32 (dig (nat (dig (nat l0 * 2)) - nat b))) false), (8, AV.v (.int .i64 (x0 - (1 : Int))))], hp := [(4, AObj.row 59 1 (.ints .u32 (l1.set (ixPlus 0 (x0.tdiv (32 : Int)).toNat) (bitsOf BinOp.or IntKind.u32 (l1.getD (ixPlus 0 (x0.tdiv (32 : Int)).toNat) (0 : Int)) ((1 : Int) * (2 : Int) ^ min (x0.tmod (32 : Int) % (18446744073709551616 : Int)).toNat 32)))) l1.length)], nx := 5 } :=
  evW_to hm rsok4 (hs := [CHint.ops 4 [(1, Hint.b true)], CHint.ops 7 [(10, Hint.b false)], CHint.ops 9 [(3, Hint.b true)]]) (slots := [0, 1, 6, 7, 8]) (keys := [4]) (nx := 5) (c := _) (by kernel_rfl) h

theorem halvedL0_4 (a b : List Int) (ta tb : Bool) (x0 : Int) (l0 : List Int) (l1 : List Int) (n0 : Nat) (n1 : Nat) (t0 : Bool) (h : AllP [decide (x0 ≥ (0 : Int)) = true, Words l0, (0 : Int) ≤ (1 : Int), (1 : Int) + (↑l0.length : Int) + (2 : Int) ≤ (1000000000000 : Int), (32 : Int) ≠ (0 : Int), inR IntKind.i64 (x0.tdiv (32 : Int)), (0 : Int) ≤ x0.tdiv (32 : Int) ∧ x0.tdiv (32 : Int) < (↑a.length : Int), (32 : Int) ≠ (0 : Int), (0 : Int) ≤ x0.tmod (32 : Int) % (18446744073709551616 : Int), (bitsOf BinOp.and IntKind.u32 (a.getD (x0.tdiv (32 : Int)).toNat (0 : Int) / (2 : Int) ^ min (x0.tmod (32 : Int) % (18446744073709551616 : Int)).toNat 32) (1 : Int) == (1 : Int)) = false, Words (dig (nat l0 * 2)), Words b, (dig (nat l0 * 2)).length < lim, b.length < lim, decide (cmpN (nat (dig (nat l0 * 2))) (nat b) ≥ (0 : Int)) = false, inR IntKind.i64 (x0 - (1 : Int))]) : To Try.prog (loopAt Try.f87 0) ({ n := 60, fr := [(0, AV.sl 1 (.ints .u32 a) ta), (1, AV.sl 1 (.ints .u32 b) tb), (6, AV.row 4 0 n1 n1 false), (7, AV.sl 1 (.ints .u32 l0) t0), (8, AV.v (.int .i64 x0))], hp := [(4, AObj.row 59 1 (.ints .u32 l1) n0)], nx := 5 }) (.normal) { n := 60, fr := [(0, AV.sl 1 (.ints .u32 a) ta), (1, AV.sl 1 (.ints .u32 b) tb), (6, AV.row 4 0 n1 n1 false), (7, AV.sl 1 (.ints .u32 (dig (nat l0 * 2))) false), (8, AV.v (.int .i64 (x0 - (1 : Int))))], hp := [(4, AObj.row 59 1 (.ints .u32 l1) n0)], nx := 5 } :=
  evW_to hm rsok4 (hs := [CHint.ops 4 [(1, Hint.b true)], CHint.ops 7 [(10, Hint.b false)], CHint.ops 9 [(3, Hint.b false)]]) (slots := [0, 1, 6, 7, 8]) (keys := [4]) (nx := 5) (c := _) (by kernel_rfl) h

theorem halvedL0_5 (a b : List Int) (ta tb : Bool) (x0 : Int) (l0 : List Int) (l1 : List Int) (n0 : Nat) (n1 : Nat) (t0 : Bool) (h : AllP [decide (x0 ≥ (0 : Int)) = false]) : To Try.prog (loopAt Try.f87 0) ({ n := 60, fr := [(0, AV.sl 1 (.ints .u32 a) ta), (1, AV.sl 1 (.ints .u32 b) tb), (6, AV.row 4 0 n1 n1 false), (7, AV.sl 1 (.ints .u32 l0) t0), (8, AV.v (.int .i64 x0))], hp := [(4, AObj.row 59 1 (.ints .u32 l1) n0)], nx := 5 }) (Exit.exit 0) { n := 60, fr := [(6, AV.row 4 0 n1 n1 false), (7, AV.sl 1 (.ints .u32 l0) t0)], hp := [(4, AObj.row 59 1 (.ints .u32 l1) n0)], nx := 5 } :=
  evW_to hm rsok4 (hs := [CHint.ops 4 [(1, Hint.b false)]]) (slots := [6, 7]) (keys := [4]) (nx := 5) (c := _) (by kernel_rfl) h
-- 1 paths

theorem halvedF1 (a b : List Int) (ta tb : Bool) (l2 : List Int) (l3 : List Int) (n2 : Nat) (n3 : Nat) (t1 : Bool) (h : AllP [(0 : Int) ≤ (↑a.length : Int) ∧ (↑a.length : Int) ≤ (↑a.length : Int), (↑a.length : Int) * (4 : Int) ≤ (281474976710656 : Int) ∧ (↑a.length : Int) ≤ (9223372036854775807 : Int), inR IntKind.i64 ((32 : Int) * (↑a.length : Int)), inR IntKind.i64 ((32 : Int) * (↑a.length : Int) - (1 : Int)), LoopTo Try.prog (loopAt Try.f87 0) { n := 60, fr := [(0, AV.sl 1 (.ints .u32 a) ta), (1, AV.sl 1 (.ints .u32 b) tb), (6, AV.row 4 0 (↑a.length : Int).toNat (↑a.length : Int).toNat false), (7, AV.sl 1 (.ints .u32 []) true), (8, AV.v (.int .i64 ((32 : Int) * (↑a.length : Int) - (1 : Int))))], hp := [(4, AObj.row 59 1 (.ints .u32 (List.replicate (↑a.length : Int).toNat (0 : Int))) 0)], nx := 5 } (Exit.exit 0) { n := 60, fr := [(6, AV.row 4 0 n3 n3 false), (7, AV.sl 1 (.ints .u32 l2) t1)], hp := [(4, AObj.row 59 1 (.ints .u32 l3) n2)], nx := 5 }, n3 = l3.length, n2 ≤ n3, l3.length ≤ lim4]) : PureTo Try.prog 87 [.sl 1 (.ints .u32 a) ta, .sl 1 (.ints .u32 b) tb] (AV.tup [AV.sl 1 (.ints .u32 (norm l3)) false, AV.sl 1 (.ints .u32 l2) (t1 && false)]) :=
  evFn_pure hm rsok4 (fn := Try.f87) rfl rfl (ti := false) (hs := [CHint.ops 2 [(0, Hint.nils 59)], CHint.loop [0, 1, 6, 7, 8] [4] 5 (Exit.exit 0) { n := 60, fr := [(6, AV.row 4 0 n3 n3 false), (7, AV.sl 1 (.ints .u32 l2) t1)], hp := [(4, AObj.row (59 : TypeId) 1 (.ints .u32 l3) n2)], nx := 5 }]) (c := _) (by kernel_rfl) h

theorem dig_mono {m n : Nat} (h : m ≤ n) : (dig m).length ≤ (dig n).length := by
  refine Nat.le_of_not_lt fun h1 => ?_
  have h2 := (dig_len _ m).1 h1
  have h3 := (dig_len (dig n).length n).2 (Nat.le_trans h2 h)
  omega

theorem half_div {Q B d : Nat} (hB : 0 < B) (hd : d ≤ 1) :
    (2 * Q + d) / B = 2 * (Q / B) + (if B ≤ 2 * (Q % B) + d then 1 else 0) ∧ (2 * Q + d) % B = (if B ≤ 2 * (Q % B) + d then 2 * (Q % B) + d - B else 2 * (Q % B) + d) := by
  have h1 := Nat.div_add_mod Q B
  have h2 := Nat.mod_lt Q hB
  generalize Q / B = k at *
  generalize Q % B = r at *
  have e : 2 * Q + d = (2 * r + d) + B * (2 * k) := by
    rw [← h1, Nat.mul_left_comm B 2 k]; omega
  rw [e, Nat.add_mul_div_left _ _ hB, Nat.add_mul_mod_self_left]
  split
  · next h =>
    have e1 : (2 * r + d) / B = 1 := Nat.div_eq_of_lt_le (by omega) (by omega)
    have e2 : (2 * r + d) % B = 2 * r + d - B := by
      rw [Nat.mod_eq_sub_mod h, Nat.mod_eq_of_lt (by omega)]
    rw [e1, e2]
    omega
  · next h =>
    rw [Nat.div_eq_of_lt (by omega), Nat.mod_eq_of_lt (by omega)]
    omega

theorem half_up (A i : Nat) : A / 2 ^ i = 2 * (A / 2 ^ (i + 1)) + A / 2 ^ i % 2 := by
  rw [Nat.pow_succ, ← Nat.div_div_eq_div_mul]
  omega

/-- a bit is set -/
theorem set_bit {o : List Int} {i : Nat} (hw : Words o) (hi : i < 32 * o.length) (hz : nat o % 2 ^ (i + 1) = 0) :
    bitsOf .or .u32 (o.getD (i / 32) 0) ((2 ^ (i % 32) : Nat) : Int) = ((2 ^ (i % 32) : Nat) : Int) + o.getD (i / 32) 0 ∧
    ((2 ^ (i % 32) : Nat) : Int) + o.getD (i / 32) 0 < 4294967296 ∧
    nat (o.set (i / 32) (((2 ^ (i % 32) : Nat) : Int) + o.getD (i / 32) 0)) = nat o + 2 ^ i := by
  have hx := words_getD hw (i / 32)
  have hlt : i / 32 < o.length := by omega
  have hb := (mod_bit (nat o) i).1 hz
  have h1 := ((shr_rest hw i hlt).1 hb.1).2
  have h2 := word_bit hw i hi
  rw [hb.2] at h2
  have h3 := (mod_bit (o.getD (i / 32) 0).toNat (i % 32)).2 ⟨h1, h2.symm⟩
  have hp : 2 ^ (i % 32) < 2 ^ (i % 32 + 1) := Nat.pow_lt_pow_right (by omega) (by omega)
  have hs : i % 32 + 1 ≤ 32 := by omega
  have hdv : 2 ^ (i % 32 + 1) * 2 ^ (32 - (i % 32 + 1)) = 4294967296 := pow_split hs
  have hm : o.getD (i / 32) 0 % ((2 ^ (i % 32 + 1) : Nat) : Int) = 0 := by
    have : ((o.getD (i / 32) 0).toNat : Int) = o.getD (i / 32) 0 := by omega
    rw [← this, ← Int.natCast_emod, h3]; rfl
  have hor := (or_add (k := .u32) (s := i % 32 + 1) (x := ((2 ^ (i % 32) : Nat) : Int)) (y := o.getD (i / 32) 0) rfl (Int.natCast_nonneg _) (by omega) hx.1 (by show _ < (2 : Int) ^ 32; omega) hm hs).2
  have hlt2 : ((2 ^ (i % 32) : Nat) : Int) + o.getD (i / 32) 0 < 4294967296 := by
    obtain ⟨X, hX⟩ : ∃ X : Nat, o.getD (i / 32) 0 = X := ⟨(o.getD (i / 32) 0).toNat, by omega⟩
    rw [hX] at h3 hx ⊢
    rw [Int.toNat_natCast] at h3
    obtain ⟨c, hc⟩ := Nat.dvd_of_mod_eq_zero h3
    have h4 : c < 2 ^ (32 - (i % 32 + 1)) := by
      refine Nat.lt_of_mul_lt_mul_left (a := 2 ^ (i % 32 + 1)) ?_
      rw [hdv, ← hc]; omega
    have h5 : 2 ^ (i % 32 + 1) * (c + 1) ≤ 2 ^ (i % 32 + 1) * 2 ^ (32 - (i % 32 + 1)) := Nat.mul_le_mul_left _ h4
    rw [hdv, Nat.mul_add, ← hc] at h5
    omega
  refine ⟨by rw [hor, Int.add_comm], hlt2, ?_⟩
  have hv := val_set o (i / 32) (((2 ^ (i % 32) : Nat) : Int) + o.getD (i / 32) 0) hlt
  have hn : (0 : Int) ≤ ((2 ^ (i % 32) : Nat) : Int) := Int.natCast_nonneg _
  rw [val_nat (words_set hw _ (by omega) hlt2), val_nat hw, Int.add_mul] at hv
  have hpw : ((2 ^ i : Nat) : Int) = ((2 ^ (i % 32) : Nat) : Int) * 4294967296 ^ (i / 32) := by
    rw [pow32 i, Int.natCast_mul, Int.mul_comm, Int.natCast_pow]; rfl
  rw [← hpw] at hv
  omega

theorem cmp_ge {m n : Nat} : cmpN m n ≥ 0 ↔ n ≤ m := by
  unfold cmpN
  split
  · omega
  · split <;> omega

structure HalfInv (A B N : Nat) (o : List Int) (r i : Nat) : Prop where
  len : o.length = N
  words : Words o
  quot : nat o = A / 2 ^ i / B * 2 ^ i
  rest : r = A / 2 ^ i % B

theorem half_no {A B N : Nat} {o : List Int} {r i d : Nat} (hB : 0 < B) (hd : A / 2 ^ i % 2 = d) (I : HalfInv A B N o r (i + 1)) (hlt : ¬ B ≤ r * 2 + d) : HalfInv A B N o (r * 2 + d) i := by
  have hu := half_up A i
  have hd1 : d ≤ 1 := by omega
  rw [hd] at hu
  have h := half_div (Q := A / 2 ^ (i + 1)) hB hd1
  rw [← I.rest, if_neg (by omega), if_neg (by omega), ← hu] at h
  refine ⟨I.len, I.words, ?_, ?_⟩
  · rw [I.quot, h.1, Nat.pow_succ, Nat.mul_comm (2 ^ i) 2, Nat.add_zero, Nat.mul_comm 2 (_ / B), Nat.mul_assoc]
  · rw [h.2]; omega

theorem half_yes {A B N : Nat} {o : List Int} {r i d : Nat} (hB : 0 < B) (hd : A / 2 ^ i % 2 = d) (hi : i < 32 * N) (I : HalfInv A B N o r (i + 1)) (hle : B ≤ r * 2 + d) :
    HalfInv A B N (o.set (i / 32) (bitsOf .or .u32 (o.getD (i / 32) 0) ((2 ^ (i % 32) : Nat) : Int))) (r * 2 + d - B) i := by
  have hu := half_up A i
  have hd1 : d ≤ 1 := by omega
  rw [hd] at hu
  have h := half_div (Q := A / 2 ^ (i + 1)) hB hd1
  rw [← I.rest, if_pos (by omega), if_pos (by omega), ← hu] at h
  have hz : nat o % 2 ^ (i + 1) = 0 := by rw [I.quot]; exact Nat.mul_mod_left _ _
  obtain ⟨s1, s2, s3⟩ := set_bit I.words (by rw [I.len]; exact hi) hz
  have hx := words_getD I.words (i / 32)
  have hn : (0 : Int) ≤ ((2 ^ (i % 32) : Nat) : Int) := Int.natCast_nonneg _
  refine ⟨by rw [List.length_set]; exact I.len, ?_, ?_, ?_⟩
  · rw [s1]; exact words_set I.words _ (by omega) s2
  · rw [s1, s3, I.quot, h.1, Nat.pow_succ, Nat.mul_comm (2 ^ i) 2, Nat.add_mul, Nat.one_mul, Nat.mul_comm 2 (_ / B), Nat.mul_assoc]
  · rw [h.2]; omega

theorem bit_word {a : List Int} (hw : Words a) {i : Nat} (hi : i < 32 * a.length) :
    bitsOf .and .u32 (a.getD (i / 32) 0 / ((2 ^ (i % 32) : Nat) : Int)) 1 = ((nat a / 2 ^ i % 2 : Nat) : Int) := by
  have hx := words_getD hw (i / 32)
  rw [word_bit hw i hi]
  have hq : a.getD (i / 32) 0 / ((2 ^ (i % 32) : Nat) : Int) = (((a.getD (i / 32) 0).toNat / 2 ^ (i % 32) : Nat) : Int) := by
    rw [Int.natCast_ediv]
    congr 1
    omega
  rw [hq]
  have hle2 := Nat.div_le_self (a.getD (i / 32) 0).toNat (2 ^ (i % 32))
  have := and_low (k := .u32) (s := 1) (x := (((a.getD (i / 32) 0).toNat / 2 ^ (i % 32) : Nat) : Int)) rfl (Int.natCast_nonneg _) (by show _ < (2 : Int) ^ 32; omega) (by decide)
  rw [Int.natCast_emod]
  exact this

theorem dig_two {r B d : Nat} (hd : d ≤ 1) (hr : r < B) (hl : (dig B).length ≤ 2000) : (dig r).length ≤ 2000 ∧ (dig (r * 2)).length ≤ 2001 ∧ (dig (r * 2 + d)).length ≤ 2001 := by
  have h1 : (dig (B * 2)).length ≤ 2001 := dig_mul_le hl (by omega)
  have h2 : (dig r).length ≤ (dig B).length := dig_mono (by omega)
  have h3 : (dig (r * 2)).length ≤ (dig (B * 2)).length := dig_mono (by omega)
  have h4 : (dig (r * 2 + d)).length ≤ (dig (B * 2)).length := dig_mono (by omega)
  omega

theorem halved_loop (a : List Int) (ta tb : Bool) (B : Nat) (ha : Words a) (hB : 0 < B) (hla : a.length ≤ 2000) (hlb : (dig B).length ≤ 2000) : ∀ (i r : Nat) (o : List Int) (t : Bool), i ≤ 32 * a.length → HalfInv (nat a) B a.length o r i →
    ∃ (l3 : List Int) (t1 : Bool), HalfInv (nat a) B a.length l3 (nat a % B) 0 ∧
    LoopTo Try.prog (loopAt Try.f87 0) (halvedS0 a (dig B) ta tb ((i : Int) - 1) (dig r) o a.length a.length t) (.exit 0) (halvedX0 a (dig B) ta tb (dig (nat a % B)) l3 a.length a.length t1) := by
  have n1 : nat [(1 : Int)] = 1 := rfl
  have w1 : Words [(1 : Int)] := words_one ⟨by omega, by omega⟩
  intro i
  induction i with
  | zero =>
    intro r o t _ I
    have hr := I.rest
    rw [Nat.pow_zero, Nat.div_one] at hr
    subst hr
    exact ⟨o, t, I, .done (by simp) (halvedL0_5 a (dig B) ta tb _ _ o a.length a.length t ⟨by simp, trivial⟩)⟩
  | succ i ih =>
    intro r o t hi I
    have e : ((i + 1 : Nat) : Int) - 1 = (i : Int) := by omega
    have e1 : (i : Int).tdiv 32 = ((i / 32 : Nat) : Int) := by rw [Int.tdiv_eq_ediv_of_nonneg (by omega)]; omega
    have e2 : (i : Int).tmod 32 % 18446744073709551616 = ((i % 32 : Nat) : Int) := by rw [Int.tmod_eq_emod_of_nonneg (by omega)]; omega
    have e3 : (2 : Int) ^ min ((i : Int).tmod 32 % 18446744073709551616).toNat 32 = ((2 ^ (i % 32) : Nat) : Int) := by
      rw [e2, Int.toNat_natCast, Nat.min_eq_left (by omega), two_pow]
    have e4 := bit_word ha (i := i) (by omega)
    have hr : r < B := by rw [I.rest]; exact Nat.mod_lt _ hB
    have hp : (1 : Int) * ((2 ^ (i % 32) : Nat) : Int) = ((2 ^ (i % 32) : Nat) : Int) := Int.one_mul _
    have hpl : 2 ^ (i % 32) < 4294967296 := by
      have := Nat.pow_lt_pow_right (a := 2) (by omega) (show i % 32 < 32 by omega)
      omega
    have hp0 : (0 : Int) ≤ ((2 ^ (i % 32) : Nat) : Int) := Int.natCast_nonneg _
    have hlim : lim4 = 35184372088832 := rfl
    have hlim2 : lim = 281474976710656 := rfl
    generalize hd : nat a / 2 ^ i % 2 = d at e4
    have hd1 : d ≤ 1 := by omega
    obtain ⟨g1, g2, g3⟩ := dig_two hd1 hr hlb
    rw [e]
    by_cases hle : B ≤ r * 2 + d
    · have J := half_yes hB hd (by omega) I hle
      obtain ⟨l3, t1, K, hl⟩ := ih _ _ false (by omega) J
      refine ⟨l3, t1, K, ?_⟩
      have hdm : (dig B).length ≤ (dig (r * 2 + d)).length := dig_mono hle
      by_cases h1 : d = 1
      · have h := halvedL0_1 a (dig B) ta tb i (dig r) o a.length a.length t (by
          rw [e1, e2, Int.toNat_natCast, Int.toNat_natCast, Nat.min_eq_left (by omega : i % 32 ≤ 32), two_pow, e4, h1, hp]
          simp only [nat_dig, n1]
          rw [h1] at g3 hle hdm
          exact ⟨by simp, words_dig _, by omega, by omega, by omega, inR64 (by omega) (by omega), by omega, by omega, by omega, rfl, words_dig _, w1, by omega, by omega, words_dig _, words_dig _, by omega, by omega, by rw [decide_eq_true_eq]; exact cmp_ge.2 hle, words_dig _, words_dig _, by omega, hdm, hle,
            by omega, inR64 (by omega) (by omega), by omega, inR64 (by omega) (by omega), by omega, Nat.le_refl _, by omega, by omega, by simp only [inR]; omega, by omega, I.len.symm, inR64 (by omega) (by omega), trivial⟩)
        rw [e1, e2, Int.toNat_natCast, Int.toNat_natCast, Nat.min_eq_left (by omega : i % 32 ≤ 32), two_pow, hp, ix0, I.len] at h
        simp only [nat_dig, n1] at h
        rw [h1] at hl
        exact .step h hl
      · have h0 : d = 0 := by omega
        have h := halvedL0_3 a (dig B) ta tb i (dig r) o a.length a.length t (by
          rw [e1, e2, Int.toNat_natCast, Int.toNat_natCast, Nat.min_eq_left (by omega : i % 32 ≤ 32), two_pow, e4, h0, hp]
          simp only [nat_dig]
          rw [h0] at g3 hle hdm
          exact ⟨by simp, words_dig _, by omega, by omega, by omega, inR64 (by omega) (by omega), by omega, by omega, by omega, rfl, words_dig _, words_dig _, by omega, by omega, by rw [decide_eq_true_eq]; exact cmp_ge.2 hle, words_dig _, words_dig _, by omega, hdm, hle,
            by omega, inR64 (by omega) (by omega), by omega, inR64 (by omega) (by omega), by omega, Nat.le_refl _, by omega, by omega, by simp only [inR]; omega, by omega, I.len.symm, inR64 (by omega) (by omega), trivial⟩)
        rw [e1, e2, Int.toNat_natCast, Int.toNat_natCast, Nat.min_eq_left (by omega : i % 32 ≤ 32), two_pow, hp, ix0, I.len] at h
        simp only [nat_dig] at h
        rw [h0] at hl
        exact .step h hl
    · have J := half_no hB hd I hle
      obtain ⟨l3, t1, K, hl⟩ := ih _ _ false (by omega) J
      refine ⟨l3, t1, K, ?_⟩
      by_cases h1 : d = 1
      · have h := halvedL0_2 a (dig B) ta tb i (dig r) o a.length a.length t (by
          rw [e1, e2, Int.toNat_natCast, Int.toNat_natCast, Nat.min_eq_left (by omega : i % 32 ≤ 32), two_pow, e4, h1]
          simp only [nat_dig, n1]
          rw [h1] at g3 hle
          exact ⟨by simp, words_dig _, by omega, by omega, by omega, inR64 (by omega) (by omega), by omega, by omega, by omega, rfl, words_dig _, w1, by omega, by omega, words_dig _, words_dig _, by omega, by omega, by rw [decide_eq_false_iff_not]; exact fun h => hle (cmp_ge.1 h), inR64 (by omega) (by omega), trivial⟩)
        simp only [nat_dig, n1] at h
        rw [h1] at hl
        exact .step h hl
      · have h0 : d = 0 := by omega
        have h := halvedL0_4 a (dig B) ta tb i (dig r) o a.length a.length t (by
          rw [e1, e2, Int.toNat_natCast, Int.toNat_natCast, Nat.min_eq_left (by omega : i % 32 ≤ 32), two_pow, e4, h0]
          simp only [nat_dig]
          rw [h0] at g3 hle
          exact ⟨by simp, words_dig _, by omega, by omega, by omega, inR64 (by omega) (by omega), by omega, by omega, by omega, rfl, words_dig _, words_dig _, by omega, by omega, by rw [decide_eq_false_iff_not]; exact fun h => hle (cmp_ge.1 h), inR64 (by omega) (by omega), trivial⟩)
        simp only [nat_dig] at h
        rw [h0] at hl
        exact .step h hl

theorem halved_pure (a : List Int) (ta tb : Bool) (B : Nat) (ha : Words a) (hB : 0 < B) (hla : a.length ≤ 2000) (hlb : (dig B).length ≤ 2000) :
    PureTo Try.prog 87 [.sl 1 (.ints .u32 a) ta, .sl 1 (.ints .u32 (dig B)) tb] (.tup [.sl 1 (.ints .u32 (dig (nat a / B))) false, .sl 1 (.ints .u32 (dig (nat a % B))) false]) := by
  have hbig : nat a / 2 ^ (32 * a.length) = 0 := by
    refine Nat.div_eq_of_lt ?_
    have := nat_lt ha
    rw [Nat.pow_mul]
    exact this
  obtain ⟨l3, t1, K, hl⟩ := halved_loop a ta tb B ha hB hla hlb (32 * a.length) 0 (List.replicate a.length 0) true (Nat.le_refl _)
    ⟨by simp, zeros_words _, by rw [hbig, zeros_nat, Nat.zero_div, Nat.zero_mul], by rw [hbig, Nat.zero_mod]⟩
  rw [dig_zero] at hl
  have hq := K.quot
  rw [Nat.pow_zero, Nat.div_one, Nat.mul_one] at hq
  have e : ((32 * a.length : Nat) : Int) - 1 = 32 * (a.length : Int) - 1 := by omega
  rw [e] at hl
  have h := halvedF1 a (dig B) ta tb (dig (nat a % B)) l3 a.length a.length t1 (by
    rw [Int.toNat_natCast]
    exact ⟨by omega, by omega, inR64 (by omega) (by omega), inR64 (by omega) (by omega), .raise (by
      have e : (List.replicate a.length (0 : Int)).length = a.length := by simp
      show LoopTo _ _ { n := _, fr := _, hp := [(4, .row 59 1 (.ints .u32 (List.replicate a.length 0)) (List.replicate a.length (0 : Int)).length)], nx := _ } _ _
      rw [e]
      exact hl), K.len.symm, Nat.le_refl _, by rw [K.len]; unfold lim4; omega, trivial⟩)
  rw [norm_eq K.words, hq, Bool.and_false] at h
  exact h

def sigHalved : List AV → Option (AV × List Prop)
  | [.sl 1 (.ints .u32 a) _, .sl 1 (.ints .u32 b) _] => some (.tup [.sl 1 (.ints .u32 (dig (nat a / nat b))) false, .sl 1 (.ints .u32 (dig (nat a % nat b))) false], [Words a, b = dig (nat b), 0 < nat b, a.length ≤ 2000, b.length ≤ 2000])
  | _ => none

def RS5 : SGT := (87, .p sigHalved) :: RS4

theorem rsok5 : SigsOK Try.prog RS5 := by
  refine sigs_cons rsok4 ?_
  intro ys r c h hc
  unfold sigHalved at h
  split at h
  · next a ta b tb =>
    cases h
    obtain ⟨h1, h2, h3, h4, h5, _⟩ := hc
    have := halved_pure a ta tb (nat b) h1 h3 h4 (by rw [← h2]; exact h5)
    rw [← h2] at this
    exact this
  · cases h

end Go.Proofs.Bn
