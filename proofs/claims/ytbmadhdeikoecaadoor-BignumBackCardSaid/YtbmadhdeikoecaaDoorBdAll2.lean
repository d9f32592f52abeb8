/- Contracts of the program's functions, and the plain law behind them. No condition beyond those in each statement. -/
import Derived.Test.YtbmadhdeikoecaaDoorBdAll1
import Derived.Test.YtbmadhdeikoecaaDoorPlAll1
import Derived.Test.YtbmadhdeikoecaaDoorEvAll3
import Derived.Test.YtbmadhdeikoecaaDoorEvAll5
set_option linter.unusedSimpArgs false
set_option linter.unusedVariables false
set_option linter.unusedSectionVars false
/- Contracts of functions, taken over from another seat; no condition beyond those in each statement. -/
set_option maxRecDepth 100000
namespace Go.Proofs.Bn
open Go Go.Ev

theorem hm : Tryd.prog.follows .mixedOrders = true := Go.Proofs.Bd.hm

theorem sok0 : SigsOK Tryd.prog [] := Go.Proofs.Bd.sok0

/-- a length that no list in memory passes -/
def lim : Nat := 281474976710656

theorem inR64 {x : Int} (h0 : -9223372036854775808 ≤ x) (h1 : x ≤ 9223372036854775807) : inR .i64 x := ⟨h0, h1⟩

/-- a length of words that append bears -/
def lim4 : Nat := 35184372088832

theorem inRu64 {x : Int} (h0 : 0 ≤ x) (h1 : x < 18446744073709551616) : inR .u64 x := ⟨h0, by omega⟩

theorem lim4_lt {n : Nat} (h : n ≤ lim4) : n < lim := by unfold lim4 at h; unfold lim; omega

/-- the kinds of a shift's counts -/
structure Cnt (n : Int) (w r : Nat) : Prop where
  h0 : 0 ≤ n
  ew : n.tdiv 32 = (w : Int)
  er : n.tmod 32 = (r : Int)
  rlt : r < 32
  en : n = 32 * (w : Int) + r

theorem cnt {n : Int} (h : 0 ≤ n) : Cnt n (n.toNat / 32) (n.toNat % 32) := by
  refine ⟨h, ?_, ?_, by omega, by omega⟩
  · rw [Int.tdiv_eq_ediv_of_nonneg h]; omega
  · rw [Int.tmod_eq_emod_of_nonneg h]; omega

theorem two_pow (r : Nat) : (2 : Int) ^ r = ((2 ^ r : Nat) : Int) := by rw [Int.natCast_pow]; rfl

/-- the words of a number of two words -/
def two (x : Int) : List Int := [x % 4294967296, x / 4294967296 % 4294967296]

theorem words_two (x : Int) : Words (two x) := fun y hy => by
  simp only [two, List.mem_cons, List.not_mem_nil, or_false] at hy
  omega

theorem nat_two {x : Int} (h0 : 0 ≤ x) (h1 : x < 18446744073709551616) : nat (two x) = x.toNat := by
  simp only [two, nat]
  omega

theorem norm_nil {a : List Int} (ha : Words a) : (norm a).length = 0 ↔ nat a = 0 := by
  rw [norm_eq ha]
  constructor
  · intro h
    have := nat_dig (nat a)
    rw [List.eq_nil_of_length_eq_zero h] at this
    exact this.symm
  · intro h
    rw [h, dig_zero]
    rfl

theorem shW_int {x y : Int} {s : Nat} (hs : s < 32) (hx : 0 ≤ x ∧ x < 4294967296) (hy : 0 ≤ y ∧ y < 4294967296) : bitsOf .or .u64 x (y * 4294967296) / ((2 ^ s : Nat) : Int) % 4294967296 = (shW x.toNat y.toNat s : Int) ∧ bitsOf .or .u64 (y * 4294967296) x / ((2 ^ s : Nat) : Int) % 4294967296 = (shW x.toNat y.toNat s : Int) := by
  obtain ⟨a, b⟩ := or_add (k := .u64) (s := 32) (x := x) (y := y * 4294967296) rfl hx.1 (by simp; omega) (by omega) (by show _ < (2 : Int) ^ 64; omega) (by simp) (by decide)
  have e : x + y * 4294967296 = ((y.toNat * 4294967296 + x.toNat : Nat) : Int) := by omega
  rw [a, b, e, ← Int.natCast_ediv]
  unfold shW
  constructor <;> omega

theorem bl_small {n k : Nat} (h : n < 2 ^ k) : bl n ≤ k := (bl_le n k).2 h

theorem normL1 (a : List Int) (ta : Bool) (i : Nat) (h : AllP [decide ((↑i : Int) > (0 : Int)) = true, inR IntKind.i64 ((↑i : Int) - (1 : Int)), (0 : Int) ≤ (↑i : Int) - (1 : Int) ∧ (↑i : Int) - (1 : Int) < (↑a.length : Int), (a.getD ((↑i : Int) - (1 : Int)).toNat (0 : Int) == (0 : Int)) = true, inR IntKind.i64 ((↑i : Int) - (1 : Int))]) : To Tryd.prog (loopAt Tryd.f15 0) (⟨24, [(0, .sl 1 (.ints .u32 a) ta), (3, .v (.int .i64 i))], [], 0⟩) (.normal) { n := 24, fr := [(0, AV.sl 1 (.ints .u32 a) ta), (3, AV.v (.int .i64 ((↑i : Int) - (1 : Int))))], hp := [], nx := 0 } :=
  evW_to hm sok0 (hs := [CHint.ops 2 [(1, Hint.b true), (8, Hint.b true)]]) (slots := [0,3]) (keys := []) (nx := 0) (c := _) (by kernel_rfl) h

theorem normL2 (a : List Int) (ta : Bool) (i : Nat) (h : AllP [decide ((↑i : Int) > (0 : Int)) = true, inR IntKind.i64 ((↑i : Int) - (1 : Int)), (0 : Int) ≤ (↑i : Int) - (1 : Int) ∧ (↑i : Int) - (1 : Int) < (↑a.length : Int), (a.getD ((↑i : Int) - (1 : Int)).toNat (0 : Int) == (0 : Int)) = false]) : To Tryd.prog (loopAt Tryd.f15 0) (⟨24, [(0, .sl 1 (.ints .u32 a) ta), (3, .v (.int .i64 i))], [], 0⟩) (Exit.exit 0) { n := 24, fr := [(0, AV.sl 1 (.ints .u32 a) ta), (3, AV.v (.int .i64 (↑i : Int)))], hp := [], nx := 0 } :=
  evW_to hm sok0 (hs := [CHint.ops 2 [(1, Hint.b true), (8, Hint.b false)]]) (slots := [0,3]) (keys := []) (nx := 0) (c := _) (by kernel_rfl) h

theorem normL3 (a : List Int) (ta : Bool) (i : Nat) (h : AllP [decide ((↑i : Int) > (0 : Int)) = false]) : To Tryd.prog (loopAt Tryd.f15 0) (⟨24, [(0, .sl 1 (.ints .u32 a) ta), (3, .v (.int .i64 i))], [], 0⟩) (Exit.exit 0) { n := 24, fr := [(0, AV.sl 1 (.ints .u32 a) ta), (3, AV.v (.int .i64 (↑i : Int)))], hp := [], nx := 0 } :=
  evW_to hm sok0 (hs := [CHint.ops 2 [(1, Hint.b false)]]) (slots := [0,3]) (keys := []) (nx := 0) (c := _) (by kernel_rfl) h
-- 1 paths

theorem normF1 (a : List Int) (ta : Bool) (n : Nat) (h : AllP [LoopTo Tryd.prog (loopAt Tryd.f15 0) { n := 24, fr := [(0, AV.sl 1 (.ints .u32 a) ta), (3, AV.v (.int .i64 (↑a.length : Int)))], hp := [], nx := 0 } (Exit.exit 0) { n := 24, fr := [(0, AV.sl 1 (.ints .u32 a) ta), (3, AV.v (.int .i64 (↑n : Int)))], hp := [], nx := 0 }, (0 : Int) ≤ (↑n : Int) ∧ (↑n : Int) ≤ (↑a.length : Int), (List.take (↑n : Int).toNat a).length * 4 ≤ 140737488355328, (List.take (↑n : Int).toNat a).length = (List.take (↑n : Int).toNat a).length, 0 ≤ (List.take (↑n : Int).toNat a).length]) : PureTo Tryd.prog 15 [.sl 1 (.ints .u32 a) ta] (AV.sl 1 (.ints .u32 (List.take (↑n : Int).toNat a)) false) :=
  evFn_pure hm sok0 (fn := Tryd.f15) rfl rfl (ti := false) (hs := [CHint.loop [0, 3] [] 0 (Exit.exit 0) { n := 24, fr := [(0, AV.sl 1 (.ints .u32 a) ta), (3, AV.v (.int .i64 (↑n : Int)))], hp := [], nx := 0 }]) (c := _) (by kernel_rfl) h

theorem norm_loop (a : List Int) (ta : Bool) (hl : a.length < lim) : ∀ n : Nat, n ≤ a.length →
    LoopTo Tryd.prog (loopAt Tryd.f15 0) ⟨24, [(0, .sl 1 (.ints .u32 a) ta), (3, .v (.int .i64 n))], [], 0⟩ (.exit 0) ⟨24, [(0, .sl 1 (.ints .u32 a) ta), (3, .v (.int .i64 (cutN a n)))], [], 0⟩ := by
  unfold lim at hl
  intro n
  induction n with
  | zero =>
    intro _
    exact .done (by simp) (normL3 a ta 0 ⟨by simp, trivial⟩)
  | succ n ih =>
    intro hn
    have e : ((n + 1 : Nat) : Int) - 1 = (n : Int) := by omega
    by_cases hz : a.getD n 0 = 0
    · have h1 := normL1 a ta (n + 1) (by rw [e]; exact ⟨by simp, inR64 (by omega) (by omega), by omega, by simpa using hz, inR64 (by omega) (by omega), trivial⟩)
      rw [e] at h1
      have := LoopTo.step h1 (ih (by omega))
      simp only [cutN, if_pos hz]
      exact this
    · have h1 := normL2 a ta (n + 1) (by rw [e]; exact ⟨by simp, inR64 (by omega) (by omega), by omega, by simpa using hz, trivial⟩)
      simp only [cutN, if_neg hz]
      exact .done (by simp) h1

theorem norm_pure (a : List Int) (ta : Bool) (hl : a.length ≤ lim4) : PureTo Tryd.prog 15 [.sl 1 (.ints .u32 a) ta] (.sl 1 (.ints .u32 (norm a)) false) := by
  have := cutN_le a a.length
  unfold lim4 at hl
  have h := normF1 a ta (cutN a a.length) ⟨norm_loop a ta (by unfold lim; omega) a.length (Nat.le_refl _), by omega, by rw [Int.toNat_natCast, List.length_take]; omega, rfl, Nat.zero_le _, trivial⟩
  rw [Int.toNat_natCast] at h
  exact h

def sigNorm : List AV → Option (AV × List Prop)
  | [.sl 1 (.ints .u32 a) _] => some (.sl 1 (.ints .u32 (norm a)) false, [a.length ≤ lim4])
  | _ => none

def RS1 : SGT := (15, .p sigNorm) :: []

theorem rsok1 : SigsOK Tryd.prog RS1 := by
  refine sigs_cons sok0 ?_
  · intro ys r c h hc
    unfold sigNorm at h
    split at h
    · cases h; exact norm_pure _ _ hc.1
    · cases h

theorem wordF1 (a : List Int) (ta : Bool) (i : Int) (h : AllP [decide (i < (↑a.length : Int)) = true, (0 : Int) ≤ i ∧ i < (↑a.length : Int), inR IntKind.u64 (a.getD i.toNat (0 : Int))]) : PureTo Tryd.prog 50 [.sl 1 (.ints .u32 a) ta, .v (.int .i64 i)] (AV.v (.int .u64 (a.getD i.toNat (0 : Int)))) :=
  evFn_pure hm rsok1 (fn := Tryd.f50) rfl rfl (ti := false) (hs := [CHint.ops 1 [(3, Hint.b true)]]) (c := _) (by kernel_rfl) h

theorem wordF2 (a : List Int) (ta : Bool) (i : Int) (h : AllP [decide (i < (↑a.length : Int)) = false]) : PureTo Tryd.prog 50 [.sl 1 (.ints .u32 a) ta, .v (.int .i64 i)] (AV.v (.int .u64 (0 : Int))) :=
  evFn_pure hm rsok1 (fn := Tryd.f50) rfl rfl (ti := false) (hs := [CHint.ops 1 [(3, Hint.b false)]]) (c := _) (by kernel_rfl) h
-- 1 paths

theorem rofF1 (x : Int) (h : AllP [(0 : Int) ≤ (32 : Int), [x % (4294967296 : Int), x / (4294967296 : Int) % (4294967296 : Int)].length ≤ lim4]) : PureTo Tryd.prog 22 [.v (.int .u64 x)] (AV.sl 1 (.ints .u32 (norm [x % (4294967296 : Int), x / (4294967296 : Int) % (4294967296 : Int)])) false) :=
  evFn_pure hm rsok1 (fn := Tryd.f22) rfl rfl (ti := false) (hs := []) (c := _) (by kernel_rfl) h
-- 2 paths

theorem rbitsL0_1 (a : List Int) (ta : Bool) (x0 : Int) (x1 : Int) (h : AllP [decide (x1 > (0 : Int)) = true, inR IntKind.i64 (x0 + (1 : Int)), (0 : Int) ≤ (1 : Int)]) : To Tryd.prog (loopAt Tryd.f47 0) ({ n := 28, fr := [(4, AV.v (.int .i64 x0)), (5, AV.v (.int .u32 x1))], hp := [], nx := 0 }) (.normal) { n := 28, fr := [(4, AV.v (.int .i64 (x0 + (1 : Int)))), (5, AV.v (.int .u32 (x1 / (2 : Int))))], hp := [], nx := 0 } :=
  evW_to hm rsok1 (hs := [CHint.ops 6 [(1, Hint.b true)]]) (slots := [4, 5]) (keys := []) (nx := 0) (c := _) (by kernel_rfl) h

theorem rbitsL0_2 (a : List Int) (ta : Bool) (x0 : Int) (x1 : Int) (h : AllP [decide (x1 > (0 : Int)) = false]) : To Tryd.prog (loopAt Tryd.f47 0) ({ n := 28, fr := [(4, AV.v (.int .i64 x0)), (5, AV.v (.int .u32 x1))], hp := [], nx := 0 }) (Exit.exit 0) { n := 28, fr := [(4, AV.v (.int .i64 x0))], hp := [], nx := 0 } :=
  evW_to hm rsok1 (hs := [CHint.ops 6 [(1, Hint.b false)]]) (slots := [4]) (keys := []) (nx := 0) (c := _) (by kernel_rfl) h
-- 2 paths

theorem rbitsF1 (a : List Int) (ta : Bool) (x2 : Int) (h : AllP [a.length ≤ lim4, ((↑(norm a).length : Int) == (0 : Int)) = true]) : PureTo Tryd.prog 47 [.sl 1 (.ints .u32 a) ta] (AV.v (.int .i64 (0 : Int))) :=
  evFn_pure hm rsok1 (fn := Tryd.f47) rfl rfl (ti := false) (hs := [CHint.ops 2 [(2, Hint.b true)]]) (c := _) (by kernel_rfl) h

theorem rbitsF2 (a : List Int) (ta : Bool) (x2 : Int) (h : AllP [a.length ≤ lim4, ((↑(norm a).length : Int) == (0 : Int)) = false, inR IntKind.i64 ((↑(norm a).length : Int) - (1 : Int)), inR IntKind.i64 ((32 : Int) * ((↑(norm a).length : Int) - (1 : Int))), inR IntKind.i64 ((↑(norm a).length : Int) - (1 : Int)), (0 : Int) ≤ (↑(norm a).length : Int) - (1 : Int) ∧ (↑(norm a).length : Int) - (1 : Int) < (↑(norm a).length : Int), LoopTo Tryd.prog (loopAt Tryd.f47 0) { n := 28, fr := [(4, AV.v (.int .i64 ((32 : Int) * ((↑(norm a).length : Int) - (1 : Int))))), (5, AV.v (.int .u32 ((norm a).getD ((↑(norm a).length : Int) - (1 : Int)).toNat (0 : Int))))], hp := [], nx := 0 } (Exit.exit 0) { n := 28, fr := [(4, AV.v (.int .i64 x2))], hp := [], nx := 0 }]) : PureTo Tryd.prog 47 [.sl 1 (.ints .u32 a) ta] (AV.v (.int .i64 x2)) :=
  evFn_pure hm rsok1 (fn := Tryd.f47) rfl rfl (ti := false) (hs := [CHint.ops 2 [(2, Hint.b false)], CHint.loop [4, 5] [] 0 (Exit.exit 0) { n := 28, fr := [(4, AV.v (.int .i64 x2))], hp := [], nx := 0 }]) (c := _) (by kernel_rfl) h

theorem word_pure (a : List Int) (ta : Bool) (i : Int) (h : Words a) (h0 : 0 ≤ i) : PureTo Tryd.prog 50 [.sl 1 (.ints .u32 a) ta, .v (.int .i64 i)] (.v (.int .u64 (wd a i))) := by
  unfold wd
  rw [if_pos h0]
  by_cases h1 : i < a.length
  · have := words_getD h i.toNat
    exact wordF1 a ta i (by simp only [AllP, inR, decide_eq_false_iff_not, decide_eq_true_eq, bne_iff_ne, beq_iff_eq, ne_eq, bne_eq_false_iff_eq, beq_eq_false_iff_ne]; (repeat' apply And.intro) <;> first | omega | exact trivial)
  · have e : a.getD i.toNat 0 = 0 := getD_out (by omega)
    rw [e]
    exact wordF2 a ta i (by simp only [AllP, inR, decide_eq_false_iff_not, decide_eq_true_eq, bne_iff_ne, beq_iff_eq, ne_eq, bne_eq_false_iff_eq, beq_eq_false_iff_ne]; (repeat' apply And.intro) <;> first | omega | exact trivial)

theorem rof_pure (x : Int) (h0 : 0 ≤ x) (h1 : x < 18446744073709551616) : PureTo Tryd.prog 22 [.v (.int .u64 x)] (.sl 1 (.ints .u32 (dig x.toNat)) false) := by
  have h := rofF1 x (by simp only [AllP, lim, lim4, List.length_cons, List.length_nil]; (repeat' apply And.intro) <;> first | omega | exact trivial)
  have e : norm (two x) = dig x.toNat := by rw [norm_eq (words_two x), nat_two h0 h1]
  rw [← e]
  exact h

theorem rbits_loop (a : List Int) (ta : Bool) : ∀ (f n : Nat) (x : Int), bl n = f → n < 4294967296 → 0 ≤ x → x + f < 1000000000000000000 →
    LoopTo Tryd.prog (loopAt Tryd.f47 0) { n := 28, fr := [(4, AV.v (.int .i64 x)), (5, AV.v (.int .u32 n))], hp := [], nx := 0 } (.exit 0) { n := 28, fr := [(4, AV.v (.int .i64 (x + f)))], hp := [], nx := 0 } := by
  intro f
  induction f with
  | zero =>
    intro n x hb hn h0 h1
    have : n = 0 := bl_zero.1 hb
    subst this
    rw [show (x + ((0 : Nat) : Int)) = x by omega]
    exact .done (by simp) (rbitsL0_2 a ta x 0 ⟨by simp, trivial⟩)
  | succ f ih =>
    intro n x hb hn h0 h1
    have hn0 : n ≠ 0 := fun e => by rw [bl_zero.2 e] at hb; omega
    have hs := bl_shift n 1
    have h2 := ih (n / 2) (x + 1) (by rw [show n / 2 = n / 2 ^ 1 from rfl, hs]; omega) (by omega) (by omega) (by omega)
    have e : (x + 1 + (f : Int)) = x + ((f + 1 : Nat) : Int) := by omega
    rw [e] at h2
    have h3 := rbitsL0_1 a ta x n (by
      refine ⟨by simp; omega, ?_⟩
      simp only [AllP, inR]
      (repeat' apply And.intro) <;> first | omega | exact trivial)
    exact .step h3 h2

theorem rbits_pure (a : List Int) (ta : Bool) (h : Words a) (hl : a.length ≤ lim4) : PureTo Tryd.prog 47 [.sl 1 (.ints .u32 a) ta] (.v (.int .i64 (bl (nat a)))) := by
  have h1 := norm_length_le a
  have hl2 := hl
  unfold lim4 at hl2
  by_cases h0 : (norm a).length = 0
  · have e : nat a = 0 := by
      rw [← nat_norm, List.eq_nil_of_length_eq_zero h0]
      rfl
    rw [e]
    exact rbitsF1 a ta 0 ⟨hl, by simp [h0], trivial⟩
  · obtain ⟨e1, e2⟩ := bl_words h h0
    have e3 : ((norm a).length - 1 : Int).toNat = (norm a).length - 1 := by omega
    have hw := words_getD (words_norm h) ((norm a).length - 1)
    generalize hx : (norm a).getD ((norm a).length - 1) 0 = x at *
    have hb32 : bl x.toNat ≤ 32 := bl_small (by omega)
    have hlp := rbits_loop a ta (bl x.toNat) x.toNat (32 * (((norm a).length : Int) - 1)) rfl (by omega) (by omega) (by omega)
    have ex : ((x.toNat : Nat) : Int) = x := by omega
    rw [ex] at hlp
    have := rbitsF2 a ta (32 * (((norm a).length : Int) - 1) + (bl x.toNat : Int)) (by
      rw [e3, hx]
      refine ⟨hl, by simpa using h0, ?_, ?_, ?_, ?_, hlp, trivial⟩
      all_goals first | (simp only [inR]; omega) | omega)
    have e4 : ((bl (nat a) : Nat) : Int) = 32 * (((norm a).length : Int) - 1) + (bl x.toNat : Int) := by omega
    rw [e4]
    exact this

def sigWord : List AV → Option (AV × List Prop)
  | [.sl 1 (.ints .u32 a) _, .v (.int .i64 i)] => some (.v (.int .u64 (wd a i)), [Words a, 0 ≤ i])
  | _ => none

def sigROf : List AV → Option (AV × List Prop)
  | [.v (.int .u64 x)] => some (.sl 1 (.ints .u32 (dig x.toNat)) false, [0 ≤ x, x < 18446744073709551616])
  | _ => none

def sigRBits : List AV → Option (AV × List Prop)
  | [.sl 1 (.ints .u32 a) _] => some (.v (.int .i64 (bl (nat a))), [Words a, a.length ≤ lim4])
  | _ => none

def RS2 : SGT := (50, .p sigWord) :: (22, .p sigROf) :: (47, .p sigRBits) :: RS1

theorem rsok2 : SigsOK Tryd.prog RS2 := by
  refine sigs_cons (sigs_cons (sigs_cons rsok1 ?_) ?_) ?_
  · intro ys r c h hc
    unfold sigRBits at h
    split at h
    · cases h; exact rbits_pure _ _ hc.1 hc.2.1
    · cases h
  · intro ys r c h hc
    unfold sigROf at h
    split at h
    · cases h; exact rof_pure _ hc.1 hc.2.1
    · cases h
  · intro ys r c h hc
    unfold sigWord at h
    split at h
    · cases h; exact word_pure _ _ _ hc.1 hc.2.1
    · cases h

def plusS0 (a b : List Int) (ta tb : Bool) (x0 : Int) (x1 : Int) (l0 : List Int) (n0 : Nat) : AS := { n := 43, fr := [(0, AV.sl 1 (.ints .u32 a) ta), (1, AV.sl 1 (.ints .u32 b) tb), (5, AV.row 1 0 l0.length l0.length false), (6, AV.v (.int .u64 x0)), (7, AV.v (.int .i64 x1))], hp := [(1, AObj.row 54 1 (.ints .u32 l0) n0)], nx := 2 }

def plusX0 (a b : List Int) (ta tb : Bool) (x2 : Int) (l1 : List Int) (n1 : Nat) : AS := { n := 43, fr := [(5, AV.row 1 0 l1.length l1.length false), (6, AV.v (.int .u64 x2))], hp := [(1, AObj.row 54 1 (.ints .u32 l1) n1)], nx := 2 }

theorem plusL0_1 (a b : List Int) (ta tb : Bool) (x0 : Int) (x1 : Int) (l0 : List Int) (n0 : Nat) (h : AllP [decide (x1 < (↑a.length : Int)) = true, Words a, (0 : Int) ≤ x1, Words b, (0 : Int) ≤ x1, inR IntKind.u64 (wd a x1 + wd b x1), inR IntKind.u64 (wd a x1 + wd b x1 + x0), l0.length = l0.length, l0.length = l0.length, (l0 ++ [(wd a x1 + wd b x1 + x0) % (4294967296 : Int)]).length * 4 ≤ 140737488355328, (0 : Int) ≤ (32 : Int), inR IntKind.i64 (x1 + (1 : Int))]) : To Tryd.prog (loopAt Tryd.f49 0) ({ n := 43, fr := [(0, AV.sl 1 (.ints .u32 a) ta), (1, AV.sl 1 (.ints .u32 b) tb), (5, AV.row 1 0 l0.length l0.length false), (6, AV.v (.int .u64 x0)), (7, AV.v (.int .i64 x1))], hp := [(1, AObj.row 54 1 (.ints .u32 l0) n0)], nx := 2 }) (.normal) { n := 43, fr := [(0, AV.sl 1 (.ints .u32 a) ta), (1, AV.sl 1 (.ints .u32 b) tb), (5, AV.row 1 0 (l0 ++ [(wd a x1 + wd b x1 + x0) % (4294967296 : Int)]).length (l0 ++ [(wd a x1 + wd b x1 + x0) % (4294967296 : Int)]).length false), (6, AV.v (.int .u64 ((wd a x1 + wd b x1 + x0) / (4294967296 : Int)))), (7, AV.v (.int .i64 (x1 + (1 : Int))))], hp := [(1, AObj.row 54 1 (.ints .u32 (l0 ++ [(wd a x1 + wd b x1 + x0) % (4294967296 : Int)])) n0)], nx := 2 } :=
  evW_to hm rsok2 (hs := [CHint.ops 4 [(3, Hint.b true)]]) (slots := [0, 1, 5, 6, 7]) (keys := [1]) (nx := 2) (c := _) (by kernel_rfl) h

theorem plusL0_2 (a b : List Int) (ta tb : Bool) (x0 : Int) (x1 : Int) (l0 : List Int) (n0 : Nat) (h : AllP [decide (x1 < (↑a.length : Int)) = false, decide (x1 < (↑b.length : Int)) = true, Words a, (0 : Int) ≤ x1, Words b, (0 : Int) ≤ x1, inR IntKind.u64 (wd a x1 + wd b x1), inR IntKind.u64 (wd a x1 + wd b x1 + x0), l0.length = l0.length, l0.length = l0.length, (l0 ++ [(wd a x1 + wd b x1 + x0) % (4294967296 : Int)]).length * 4 ≤ 140737488355328, (0 : Int) ≤ (32 : Int), inR IntKind.i64 (x1 + (1 : Int))]) : To Tryd.prog (loopAt Tryd.f49 0) ({ n := 43, fr := [(0, AV.sl 1 (.ints .u32 a) ta), (1, AV.sl 1 (.ints .u32 b) tb), (5, AV.row 1 0 l0.length l0.length false), (6, AV.v (.int .u64 x0)), (7, AV.v (.int .i64 x1))], hp := [(1, AObj.row 54 1 (.ints .u32 l0) n0)], nx := 2 }) (.normal) { n := 43, fr := [(0, AV.sl 1 (.ints .u32 a) ta), (1, AV.sl 1 (.ints .u32 b) tb), (5, AV.row 1 0 (l0 ++ [(wd a x1 + wd b x1 + x0) % (4294967296 : Int)]).length (l0 ++ [(wd a x1 + wd b x1 + x0) % (4294967296 : Int)]).length false), (6, AV.v (.int .u64 ((wd a x1 + wd b x1 + x0) / (4294967296 : Int)))), (7, AV.v (.int .i64 (x1 + (1 : Int))))], hp := [(1, AObj.row 54 1 (.ints .u32 (l0 ++ [(wd a x1 + wd b x1 + x0) % (4294967296 : Int)])) n0)], nx := 2 } :=
  evW_to hm rsok2 (hs := [CHint.ops 4 [(3, Hint.b false), (8, Hint.b true)]]) (slots := [0, 1, 5, 6, 7]) (keys := [1]) (nx := 2) (c := _) (by kernel_rfl) h

theorem plusL0_3 (a b : List Int) (ta tb : Bool) (x0 : Int) (x1 : Int) (l0 : List Int) (n0 : Nat) (h : AllP [decide (x1 < (↑a.length : Int)) = false, decide (x1 < (↑b.length : Int)) = false]) : To Tryd.prog (loopAt Tryd.f49 0) ({ n := 43, fr := [(0, AV.sl 1 (.ints .u32 a) ta), (1, AV.sl 1 (.ints .u32 b) tb), (5, AV.row 1 0 l0.length l0.length false), (6, AV.v (.int .u64 x0)), (7, AV.v (.int .i64 x1))], hp := [(1, AObj.row 54 1 (.ints .u32 l0) n0)], nx := 2 }) (Exit.exit 0) { n := 43, fr := [(5, AV.row 1 0 l0.length l0.length false), (6, AV.v (.int .u64 x0))], hp := [(1, AObj.row 54 1 (.ints .u32 l0) n0)], nx := 2 } :=
  evW_to hm rsok2 (hs := [CHint.ops 4 [(3, Hint.b false), (8, Hint.b false)]]) (slots := [5, 6]) (keys := [1]) (nx := 2) (c := _) (by kernel_rfl) h
-- 1 paths

theorem plusF1 (a b : List Int) (ta tb : Bool) (x2 : Int) (l1 : List Int) (n1 : Nat) (h : AllP [LoopTo Tryd.prog (loopAt Tryd.f49 0) { n := 43, fr := [(0, AV.sl 1 (.ints .u32 a) ta), (1, AV.sl 1 (.ints .u32 b) tb), (5, AV.row 1 0 0 0 false), (6, AV.v (.int .u64 (0 : Int))), (7, AV.v (.int .i64 (0 : Int)))], hp := [(1, AObj.row 54 1 (.ints .u32 []) 0)], nx := 2 } (Exit.exit 0) { n := 43, fr := [(5, AV.row 1 0 l1.length l1.length false), (6, AV.v (.int .u64 x2))], hp := [(1, AObj.row 54 1 (.ints .u32 l1) n1)], nx := 2 }, l1.length = l1.length, l1.length = l1.length, (l1 ++ [x2 % (4294967296 : Int)]).length * 4 ≤ 140737488355328, (l1 ++ [x2 % (4294967296 : Int)]).length = (l1 ++ [x2 % (4294967296 : Int)]).length, n1 ≤ (l1 ++ [x2 % (4294967296 : Int)]).length, (l1 ++ [x2 % (4294967296 : Int)]).length ≤ lim4]) : PureTo Tryd.prog 49 [.sl 1 (.ints .u32 a) ta, .sl 1 (.ints .u32 b) tb] (AV.sl 1 (.ints .u32 (norm (l1 ++ [x2 % (4294967296 : Int)]))) false) :=
  evFn_pure hm rsok2 (fn := Tryd.f49) rfl rfl (ti := false) (hs := [CHint.ops 1 [(0, Hint.nil 54)], CHint.loop [0, 1, 5, 6, 7] [1] 2 (Exit.exit 0) { n := 43, fr := [(5, AV.row 1 0 l1.length l1.length false), (6, AV.v (.int .u64 x2))], hp := [(1, AObj.row (54 : TypeId) 1 (.ints .u32 l1) n1)], nx := 2 }]) (c := _) (by kernel_rfl) h
-- 2 paths

theorem plus_loop (a b : List Int) (ta tb : Bool) (ha : Words a) (hb : Words b) (n : Nat) (h1 : a.length ≤ n) (h2 : b.length ≤ n) (h3 : n = a.length ∨ n = b.length) (hlim : n + 1 ≤ lim4) : ∀ (f i : Nat) (l : List Int) (c : Int), i + f = n → l.length = i → Words l → (0 ≤ c ∧ c ≤ 1) →
    (nat l : Int) + c * 4294967296 ^ i = natW a i + natW b i →
    ∃ l1 : List Int, ∃ c1 : Int, l1.length = n ∧ Words l1 ∧ (0 ≤ c1 ∧ c1 ≤ 1) ∧ (nat l1 : Int) + c1 * 4294967296 ^ n = natW a n + natW b n ∧ LoopTo Tryd.prog (loopAt Tryd.f49 0) (plusS0 a b ta tb c i l 0) (.exit 0) (plusX0 a b ta tb c1 l1 0) := by
  unfold lim4 at hlim
  intro f
  induction f with
  | zero =>
    intro i l c hi hl hw hc hinv
    have : i = n := by omega
    subst this
    exact ⟨l, c, hl, hw, hc, hinv, .done (by simp) (plusL0_3 a b ta tb c i l 0 ⟨by simp; omega, by simp; omega, trivial⟩)⟩
  | succ f ih =>
    intro i l c hi hl hw hc hinv
    have hx := wd_bound ha i
    have hy := wd_bound hb i
    have hs : 0 ≤ wd a i + wd b i + c := by omega
    obtain ⟨l1, c1, g1, g2, g3, g4, g5⟩ := ih (i + 1) (l ++ [(wd a i + wd b i + c) % 4294967296]) ((wd a i + wd b i + c) / 4294967296) (by omega) (by simp [hl]) (words_snoc hw (by omega) (by omega)) (by omega) (add_step ha hb hl rfl hs hinv)
    have hlen : (l ++ [(wd a i + wd b i + c) % 4294967296]).length * 4 ≤ 140737488355328 := by simp; omega
    by_cases hia : i < a.length
    · have h1 := plusL0_1 a b ta tb c i l 0 ⟨by simp; omega, ha, by omega, hb, by omega, ⟨by omega, by omega⟩, ⟨by omega, by omega⟩, rfl, rfl, hlen, by omega, inR64 (by omega) (by omega), trivial⟩
      exact ⟨l1, c1, g1, g2, g3, g4, .step h1 g5⟩
    · have h1 := plusL0_2 a b ta tb c i l 0 ⟨by simp; omega, by simp; omega, ha, by omega, hb, by omega, ⟨by omega, by omega⟩, ⟨by omega, by omega⟩, rfl, rfl, hlen, by omega, inR64 (by omega) (by omega), trivial⟩
      exact ⟨l1, c1, g1, g2, g3, g4, .step h1 g5⟩

theorem plus_pure (a b : List Int) (ta tb : Bool) (ha : Words a) (hb : Words b) (hla : a.length + 1 ≤ lim4) (hlb : b.length + 1 ≤ lim4) : PureTo Tryd.prog 49 [.sl 1 (.ints .u32 a) ta, .sl 1 (.ints .u32 b) tb] (.sl 1 (.ints .u32 (dig (nat a + nat b))) false) := by
  obtain ⟨n, h1, h2, h3, h4⟩ : ∃ n, a.length ≤ n ∧ b.length ≤ n ∧ (n = a.length ∨ n = b.length) ∧ n + 1 ≤ lim4 := by
    rcases Nat.le_total a.length b.length with h | h
    · exact ⟨b.length, h, Nat.le_refl _, .inr rfl, hlb⟩
    · exact ⟨a.length, Nat.le_refl _, h, .inl rfl, hla⟩
  obtain ⟨l1, c1, g1, g2, g3, g4, g5⟩ := plus_loop a b ta tb ha hb n h1 h2 h3 h4 n 0 [] 0 (by omega) rfl (fun x hx => by cases hx) (by omega) (by simp [natW, nat])
  rw [natW_all _ _ h1, natW_all _ _ h2] at g4
  have hw : Words (l1 ++ [c1 % 4294967296]) := words_snoc g2 (by omega) (by omega)
  have hsum : nat (l1 ++ [c1 % 4294967296]) = nat a + nat b := by
    have := nat_snoc l1 (c1 % 4294967296) (by omega)
    rw [g1, Int.emod_eq_of_lt g3.1 (by omega), Int.mul_comm] at this
    rw [Int.emod_eq_of_lt g3.1 (by omega)]
    omega
  have hlen : (l1 ++ [c1 % 4294967296]).length = n + 1 := by simp [g1]
  unfold lim4 at h4
  have h := plusF1 a b ta tb c1 l1 0 ⟨g5, rfl, rfl, by rw [hlen]; omega, rfl, by omega, by rw [hlen]; unfold lim4; omega, trivial⟩
  rw [norm_eq hw, hsum] at h
  exact h

def sigPlus : List AV → Option (AV × List Prop)
  | [.sl 1 (.ints .u32 a) _, .sl 1 (.ints .u32 b) _] => some (.sl 1 (.ints .u32 (dig (nat a + nat b))) false, [Words a, Words b, a.length + 1 ≤ lim4, b.length + 1 ≤ lim4])
  | _ => none

def RS3 : SGT := (49, .p sigPlus) :: RS2

theorem rsok3 : SigsOK Tryd.prog RS3 := by
  refine sigs_cons rsok2 ?_
  · intro ys r c h hc
    unfold sigPlus at h
    split at h
    · cases h; exact plus_pure _ _ _ _ hc.1 hc.2.1 hc.2.2.1 hc.2.2.2.1
    · cases h


def rshrS0 (a : List Int) (ta : Bool) (n : Int) (x0 : Int) (b0 : Bool) : AS := { n := 72, fr := [(0, AV.sl 1 (.ints .u32 (norm a)) false), (1, AV.v (.int .i64 n)), (6, AV.v (.bool b0)), (7, AV.v (.int .i64 x0))], hp := [], nx := 0 }

def rshrX0 (a : List Int) (ta : Bool) (n : Int) (b1 : Bool) : AS := { n := 72, fr := [(0, AV.sl 1 (.ints .u32 (norm a)) false), (1, AV.v (.int .i64 n)), (6, AV.v (.bool b1))], hp := [], nx := 0 }

def rshrS1 (a : List Int) (ta : Bool) (n : Int) (x1 : Int) (b1 : Bool) (l0 : List Int) (n0 : Nat) : AS := { n := 72, fr := [(0, AV.sl 1 (.ints .u32 (norm a)) false), (1, AV.v (.int .i64 n)), (6, AV.v (.bool b1)), (8, AV.row 0 0 l0.length l0.length false), (9, AV.v (.int .i64 x1))], hp := [(0, AObj.row 54 1 (.ints .u32 l0) n0)], nx := 1 }

def rshrX1 (a : List Int) (ta : Bool) (n : Int) (b1 : Bool) (l1 : List Int) (n1 : Nat) : AS := { n := 72, fr := [(6, AV.v (.bool b1)), (8, AV.row 0 0 l1.length l1.length false)], hp := [(0, AObj.row 54 1 (.ints .u32 l1) n1)], nx := 1 }
-- 2 paths

theorem rshrL0_1 (a : List Int) (ta : Bool) (n : Int) (x0 : Int) (b0 : Bool) (h : AllP [decide (x0 < n) = true, b0 = true, inR IntKind.i64 (x0 + (1 : Int))]) : To Tryd.prog (loopAt Tryd.f48 0) ({ n := 72, fr := [(0, AV.sl 1 (.ints .u32 (norm a)) false), (1, AV.v (.int .i64 n)), (6, AV.v (.bool b0)), (7, AV.v (.int .i64 x0))], hp := [], nx := 0 }) (.normal) { n := 72, fr := [(0, AV.sl 1 (.ints .u32 (norm a)) false), (1, AV.v (.int .i64 n)), (6, AV.v (.bool true)), (7, AV.v (.int .i64 (x0 + (1 : Int))))], hp := [], nx := 0 } :=
  evW_to hm rsok3 (hs := [CHint.ops 8 [(2, Hint.b true)], CHint.ops 10 [(1, Hint.b true)]]) (slots := [0, 1, 6, 7]) (keys := []) (nx := 0) (c := _) (by kernel_rfl) h

theorem rshrL0_2 (a : List Int) (ta : Bool) (n : Int) (x0 : Int) (b0 : Bool) (h : AllP [decide (x0 < n) = true, b0 = false, (32 : Int) ≠ (0 : Int), inR IntKind.i64 (x0.tdiv (32 : Int)), (0 : Int) ≤ x0.tdiv (32 : Int) ∧ x0.tdiv (32 : Int) < (↑(norm a).length : Int), (32 : Int) ≠ (0 : Int), (0 : Int) ≤ x0.tmod (32 : Int) % (18446744073709551616 : Int), (bitsOf BinOp.and IntKind.u32 ((norm a).getD (x0.tdiv (32 : Int)).toNat (0 : Int) / (2 : Int) ^ min (x0.tmod (32 : Int) % (18446744073709551616 : Int)).toNat 32) (1 : Int) == (1 : Int)) = true, inR IntKind.i64 (x0 + (1 : Int))]) : To Tryd.prog (loopAt Tryd.f48 0) ({ n := 72, fr := [(0, AV.sl 1 (.ints .u32 (norm a)) false), (1, AV.v (.int .i64 n)), (6, AV.v (.bool b0)), (7, AV.v (.int .i64 x0))], hp := [], nx := 0 }) (.normal) { n := 72, fr := [(0, AV.sl 1 (.ints .u32 (norm a)) false), (1, AV.v (.int .i64 n)), (6, AV.v (.bool true)), (7, AV.v (.int .i64 (x0 + (1 : Int))))], hp := [], nx := 0 } :=
  evW_to hm rsok3 (hs := [CHint.ops 8 [(2, Hint.b true)], CHint.ops 10 [(1, Hint.b false), (12, Hint.b true)]]) (slots := [0, 1, 6, 7]) (keys := []) (nx := 0) (c := _) (by kernel_rfl) h

theorem rshrL0_3 (a : List Int) (ta : Bool) (n : Int) (x0 : Int) (b0 : Bool) (h : AllP [decide (x0 < n) = true, b0 = false, (32 : Int) ≠ (0 : Int), inR IntKind.i64 (x0.tdiv (32 : Int)), (0 : Int) ≤ x0.tdiv (32 : Int) ∧ x0.tdiv (32 : Int) < (↑(norm a).length : Int), (32 : Int) ≠ (0 : Int), (0 : Int) ≤ x0.tmod (32 : Int) % (18446744073709551616 : Int), (bitsOf BinOp.and IntKind.u32 ((norm a).getD (x0.tdiv (32 : Int)).toNat (0 : Int) / (2 : Int) ^ min (x0.tmod (32 : Int) % (18446744073709551616 : Int)).toNat 32) (1 : Int) == (1 : Int)) = false, inR IntKind.i64 (x0 + (1 : Int))]) : To Tryd.prog (loopAt Tryd.f48 0) ({ n := 72, fr := [(0, AV.sl 1 (.ints .u32 (norm a)) false), (1, AV.v (.int .i64 n)), (6, AV.v (.bool b0)), (7, AV.v (.int .i64 x0))], hp := [], nx := 0 }) (.normal) { n := 72, fr := [(0, AV.sl 1 (.ints .u32 (norm a)) false), (1, AV.v (.int .i64 n)), (6, AV.v (.bool false)), (7, AV.v (.int .i64 (x0 + (1 : Int))))], hp := [], nx := 0 } :=
  evW_to hm rsok3 (hs := [CHint.ops 8 [(2, Hint.b true)], CHint.ops 10 [(1, Hint.b false), (12, Hint.b false)]]) (slots := [0, 1, 6, 7]) (keys := []) (nx := 0) (c := _) (by kernel_rfl) h

theorem rshrL0_4 (a : List Int) (ta : Bool) (n : Int) (x0 : Int) (b0 : Bool) (h : AllP [decide (x0 < n) = false]) : To Tryd.prog (loopAt Tryd.f48 0) ({ n := 72, fr := [(0, AV.sl 1 (.ints .u32 (norm a)) false), (1, AV.v (.int .i64 n)), (6, AV.v (.bool b0)), (7, AV.v (.int .i64 x0))], hp := [], nx := 0 }) (Exit.exit 0) { n := 72, fr := [(0, AV.sl 1 (.ints .u32 (norm a)) false), (1, AV.v (.int .i64 n)), (6, AV.v (.bool b0))], hp := [], nx := 0 } :=
  evW_to hm rsok3 (hs := [CHint.ops 8 [(2, Hint.b false)]]) (slots := [0, 1, 6]) (keys := []) (nx := 0) (c := _) (by kernel_rfl) h
-- 2 paths

theorem rshrL1_1 (a : List Int) (ta : Bool) (n : Int) (x1 : Int) (b1 : Bool) (l0 : List Int) (n0 : Nat) (h : AllP [decide (x1 < (↑(norm a).length : Int)) = true, Words (norm a), (0 : Int) ≤ x1, inR IntKind.i64 (x1 + (1 : Int)), Words (norm a), (0 : Int) ≤ x1 + (1 : Int), (0 : Int) ≤ (32 : Int), inR IntKind.u64 (wd (norm a) (x1 + (1 : Int)) * (4294967296 : Int)), (32 : Int) ≠ (0 : Int), (0 : Int) ≤ n.tmod (32 : Int) % (18446744073709551616 : Int), l0.length = l0.length, l0.length = l0.length, (l0 ++ [bitsOf BinOp.or IntKind.u64 (wd (norm a) x1) (wd (norm a) (x1 + (1 : Int)) * (4294967296 : Int)) / (2 : Int) ^ min (n.tmod (32 : Int) % (18446744073709551616 : Int)).toNat 64 % (4294967296 : Int)]).length * 4 ≤ 140737488355328, inR IntKind.i64 (x1 + (1 : Int))]) : To Tryd.prog (loopAt Tryd.f48 1) ({ n := 72, fr := [(0, AV.sl 1 (.ints .u32 (norm a)) false), (1, AV.v (.int .i64 n)), (6, AV.v (.bool b1)), (8, AV.row 0 0 l0.length l0.length false), (9, AV.v (.int .i64 x1))], hp := [(0, AObj.row 54 1 (.ints .u32 l0) n0)], nx := 1 }) (.normal) { n := 72, fr := [(0, AV.sl 1 (.ints .u32 (norm a)) false), (1, AV.v (.int .i64 n)), (6, AV.v (.bool b1)), (8, AV.row 0 0 (l0 ++ [bitsOf BinOp.or IntKind.u64 (wd (norm a) x1) (wd (norm a) (x1 + (1 : Int)) * (4294967296 : Int)) / (2 : Int) ^ min (n.tmod (32 : Int) % (18446744073709551616 : Int)).toNat 64 % (4294967296 : Int)]).length (l0 ++ [bitsOf BinOp.or IntKind.u64 (wd (norm a) x1) (wd (norm a) (x1 + (1 : Int)) * (4294967296 : Int)) / (2 : Int) ^ min (n.tmod (32 : Int) % (18446744073709551616 : Int)).toNat 64 % (4294967296 : Int)]).length false), (9, AV.v (.int .i64 (x1 + (1 : Int))))], hp := [(0, AObj.row 54 1 (.ints .u32 (l0 ++ [bitsOf BinOp.or IntKind.u64 (wd (norm a) x1) (wd (norm a) (x1 + (1 : Int)) * (4294967296 : Int)) / (2 : Int) ^ min (n.tmod (32 : Int) % (18446744073709551616 : Int)).toNat 64 % (4294967296 : Int)])) n0)], nx := 1 } :=
  evW_to hm rsok3 (hs := [CHint.ops 13 [(3, Hint.b true)]]) (slots := [0, 1, 6, 8, 9]) (keys := [0]) (nx := 1) (c := _) (by kernel_rfl) h

theorem rshrL1_2 (a : List Int) (ta : Bool) (n : Int) (x1 : Int) (b1 : Bool) (l0 : List Int) (n0 : Nat) (h : AllP [decide (x1 < (↑(norm a).length : Int)) = false]) : To Tryd.prog (loopAt Tryd.f48 1) ({ n := 72, fr := [(0, AV.sl 1 (.ints .u32 (norm a)) false), (1, AV.v (.int .i64 n)), (6, AV.v (.bool b1)), (8, AV.row 0 0 l0.length l0.length false), (9, AV.v (.int .i64 x1))], hp := [(0, AObj.row 54 1 (.ints .u32 l0) n0)], nx := 1 }) (Exit.exit 2) { n := 72, fr := [(6, AV.v (.bool b1)), (8, AV.row 0 0 l0.length l0.length false)], hp := [(0, AObj.row 54 1 (.ints .u32 l0) n0)], nx := 1 } :=
  evW_to hm rsok3 (hs := [CHint.ops 13 [(3, Hint.b false)]]) (slots := [6, 8]) (keys := [0]) (nx := 1) (c := _) (by kernel_rfl) h
-- 4 paths

theorem rshrF1 (a : List Int) (ta : Bool) (n : Int) (b1 : Bool) (l1 : List Int) (n1 : Nat) (h : AllP [a.length ≤ lim4, decide (n ≤ (0 : Int)) = true]) : PureTo Tryd.prog 48 [.sl 1 (.ints .u32 a) ta, .v (.int .i64 n)] (AV.tup [AV.sl 1 (.ints .u32 (norm a)) false, AV.v (.bool false)]) :=
  evFn_pure hm rsok3 (fn := Tryd.f48) rfl rfl (ti := false) (hs := [CHint.ops 2 [(1, Hint.b true)]]) (c := _) (by kernel_rfl) h

theorem rshrF2 (a : List Int) (ta : Bool) (n : Int) (b1 : Bool) (l1 : List Int) (n1 : Nat) (h : AllP [a.length ≤ lim4, decide (n ≤ (0 : Int)) = false, inR IntKind.i64 ((32 : Int) * (↑(norm a).length : Int)), decide (n ≥ (32 : Int) * (↑(norm a).length : Int)) = true, decide ((↑(norm a).length : Int) > (0 : Int)) = true]) : PureTo Tryd.prog 48 [.sl 1 (.ints .u32 a) ta, .v (.int .i64 n)] (AV.tup [AV.sl 1 (.ints .u32 []) false, AV.v (.bool true)]) :=
  evFn_pure hm rsok3 (fn := Tryd.f48) rfl rfl (ti := false) (hs := [CHint.ops 2 [(1, Hint.b false)], CHint.ops 4 [(4, Hint.b true)], CHint.ops 5 [(2, Hint.b true)]]) (c := _) (by kernel_rfl) h

theorem rshrF3 (a : List Int) (ta : Bool) (n : Int) (b1 : Bool) (l1 : List Int) (n1 : Nat) (h : AllP [a.length ≤ lim4, decide (n ≤ (0 : Int)) = false, inR IntKind.i64 ((32 : Int) * (↑(norm a).length : Int)), decide (n ≥ (32 : Int) * (↑(norm a).length : Int)) = true, decide ((↑(norm a).length : Int) > (0 : Int)) = false]) : PureTo Tryd.prog 48 [.sl 1 (.ints .u32 a) ta, .v (.int .i64 n)] (AV.tup [AV.sl 1 (.ints .u32 []) false, AV.v (.bool false)]) :=
  evFn_pure hm rsok3 (fn := Tryd.f48) rfl rfl (ti := false) (hs := [CHint.ops 2 [(1, Hint.b false)], CHint.ops 4 [(4, Hint.b true)], CHint.ops 5 [(2, Hint.b false)]]) (c := _) (by kernel_rfl) h

theorem rshrF4 (a : List Int) (ta : Bool) (n : Int) (b1 : Bool) (l1 : List Int) (n1 : Nat) (h : AllP [a.length ≤ lim4, decide (n ≤ (0 : Int)) = false, inR IntKind.i64 ((32 : Int) * (↑(norm a).length : Int)), decide (n ≥ (32 : Int) * (↑(norm a).length : Int)) = false, LoopTo Tryd.prog (loopAt Tryd.f48 0) { n := 72, fr := [(0, AV.sl 1 (.ints .u32 (norm a)) false), (1, AV.v (.int .i64 n)), (6, AV.v (.bool false)), (7, AV.v (.int .i64 (0 : Int)))], hp := [], nx := 0 } (Exit.exit 0) { n := 72, fr := [(0, AV.sl 1 (.ints .u32 (norm a)) false), (1, AV.v (.int .i64 n)), (6, AV.v (.bool b1))], hp := [], nx := 0 }, (32 : Int) ≠ (0 : Int), inR IntKind.i64 (n.tdiv (32 : Int)), LoopTo Tryd.prog (loopAt Tryd.f48 1) { n := 72, fr := [(0, AV.sl 1 (.ints .u32 (norm a)) false), (1, AV.v (.int .i64 n)), (6, AV.v (.bool b1)), (8, AV.row 0 0 0 0 false), (9, AV.v (.int .i64 (n.tdiv (32 : Int))))], hp := [(0, AObj.row 54 1 (.ints .u32 []) 0)], nx := 1 } (Exit.exit 2) { n := 72, fr := [(6, AV.v (.bool b1)), (8, AV.row 0 0 l1.length l1.length false)], hp := [(0, AObj.row 54 1 (.ints .u32 l1) n1)], nx := 1 }, l1.length = l1.length, n1 ≤ l1.length, l1.length ≤ lim4]) : PureTo Tryd.prog 48 [.sl 1 (.ints .u32 a) ta, .v (.int .i64 n)] (AV.tup [AV.sl 1 (.ints .u32 (norm l1)) false, AV.v (.bool b1)]) :=
  evFn_pure hm rsok3 (fn := Tryd.f48) rfl rfl (ti := false) (hs := [CHint.ops 2 [(1, Hint.b false)], CHint.ops 4 [(4, Hint.b false)], CHint.loop [0, 1, 6, 7] [] 0 (Exit.exit 0) { n := 72, fr := [(0, AV.sl 1 (.ints .u32 (norm a)) false), (1, AV.v (.int .i64 n)), (6, AV.v (.bool b1))], hp := [], nx := 0 }, CHint.ops 11 [(0, Hint.nil 54)], CHint.loop [0, 1, 6, 8, 9] [0] 1 (Exit.exit 2) { n := 72, fr := [(6, AV.v (.bool b1)), (8, AV.row 0 0 l1.length l1.length false)], hp := [(0, AObj.row (54 : TypeId) 1 (.ints .u32 l1) n1)], nx := 1 }]) (c := _) (by kernel_rfl) h

theorem rshr_bits (a : List Int) (ta : Bool) (n : Int) (L : List Int) (hL : norm a = L) (hw : Words L) (h0 : 0 ≤ n) (hlt : n < 32 * (L.length : Int)) (hlen : L.length ≤ 35184372088832) : ∀ f i : Nat, (i : Int) + f = n →
    LoopTo Tryd.prog (loopAt Tryd.f48 0) (rshrS0 a ta n i (decide (nat L % 2 ^ i ≠ 0))) (.exit 0) (rshrX0 a ta n (decide (nat L % 2 ^ n.toNat ≠ 0))) := by
  intro f
  induction f with
  | zero =>
    intro i hi
    have e : n.toNat = i := by omega
    rw [e]
    exact .done (by simp) (rshrL0_4 a ta n i _ ⟨by simp; omega, trivial⟩)
  | succ f ih =>
    intro i hi
    have ih := ih (i + 1) (by omega)
    have hb := mod_bit (nat L) i
    by_cases hz : nat L % 2 ^ i = 0
    · have hi2 : i < 32 * L.length := by omega
      have hx := words_getD hw (i / 32)
      have hbit := word_bit hw i hi2
      have e1 : (i : Int).tdiv 32 = ((i / 32 : Nat) : Int) := by rw [Int.tdiv_eq_ediv_of_nonneg (by omega)]; omega
      have e2 : (i : Int).tmod 32 % 18446744073709551616 = ((i % 32 : Nat) : Int) := by rw [Int.tmod_eq_emod_of_nonneg (by omega)]; omega
      have e3 : (2 : Int) ^ min ((i : Int).tmod 32 % 18446744073709551616).toNat 32 = ((2 ^ (i % 32) : Nat) : Int) := by
        rw [e2, Int.toNat_natCast, Nat.min_eq_left (by omega), two_pow]
      have e4 : bitsOf .and .u32 (L.getD (i / 32) 0 / ((2 ^ (i % 32) : Nat) : Int)) 1 = (((L.getD (i / 32) 0).toNat / 2 ^ (i % 32) % 2 : Nat) : Int) := by
        have hq : L.getD (i / 32) 0 / ((2 ^ (i % 32) : Nat) : Int) = (((L.getD (i / 32) 0).toNat / 2 ^ (i % 32) : Nat) : Int) := by
          rw [Int.natCast_ediv]
          congr 1
          omega
        rw [hq]
        have hle2 := Nat.div_le_self (L.getD (i / 32) 0).toNat (2 ^ (i % 32))
        have := and_low (k := .u32) (s := 1) (x := (((L.getD (i / 32) 0).toNat / 2 ^ (i % 32) : Nat) : Int)) rfl (Int.natCast_nonneg _) (by show _ < (2 : Int) ^ 32; omega) (by decide)
        rw [Int.natCast_emod]
        exact this
      have hfalse : decide (nat L % 2 ^ i ≠ 0) = false := by simp [hz]
      cases hbv : decide (nat L / 2 ^ i % 2 = 1) with
      | true =>
        have hbv' : nat L / 2 ^ i % 2 = 1 := by simpa using hbv
        have hne : decide (nat L % 2 ^ (i + 1) ≠ 0) = true := by
          simp only [ne_eq, decide_not, hb, hz, true_and]
          simp [hbv']
        have h1 := rshrL0_2 a ta n i (decide (nat L % 2 ^ i ≠ 0)) (by
          rw [hL, e1, e3, Int.toNat_natCast, e4, ← hbit, hbv', e2]
          exact ⟨by simp; omega, hfalse, by omega, inR64 (by omega) (by omega), by omega, by omega, by omega, by simp, inR64 (by omega) (by omega), trivial⟩)
        rw [hne] at ih
        exact .step h1 ih
      | false =>
        have hbv' : nat L / 2 ^ i % 2 = 0 := by
          have : ¬ nat L / 2 ^ i % 2 = 1 := by simpa using hbv
          omega
        have hne : decide (nat L % 2 ^ (i + 1) ≠ 0) = false := by
          simp only [ne_eq, decide_not, hb, hz, true_and]
          simp [hbv']
        have h1 := rshrL0_3 a ta n i (decide (nat L % 2 ^ i ≠ 0)) (by
          rw [hL, e1, e3, Int.toNat_natCast, e4, ← hbit, hbv', e2]
          exact ⟨by simp; omega, hfalse, by omega, inR64 (by omega) (by omega), by omega, by omega, by omega, by simp, inR64 (by omega) (by omega), trivial⟩)
        rw [hne] at ih
        exact .step h1 ih
    · have htrue : decide (nat L % 2 ^ i ≠ 0) = true := by simp [hz]
      have hne : decide (nat L % 2 ^ (i + 1) ≠ 0) = true := by
        simp only [ne_eq, decide_not, hb]
        simp [hz]
      have h1 := rshrL0_1 a ta n i (decide (nat L % 2 ^ i ≠ 0)) ⟨by simp; omega, htrue, inR64 (by omega) (by omega), trivial⟩
      rw [hne] at ih
      exact .step h1 ih

theorem rshr_words (a : List Int) (ta : Bool) (n : Int) (L : List Int) (hL : norm a = L) (hw : Words L) (w s : Nat) (C : Cnt n w s) (b : Bool) (hlen : L.length ≤ 35184372088832) : ∀ (f i : Nat) (l : List Int), w + i + f = L.length → l = (shrW (L.drop w) s).take i →
    LoopTo Tryd.prog (loopAt Tryd.f48 1) (rshrS1 a ta n ((w + i : Nat) : Int) b l 0) (.exit 2) (rshrX1 a ta n b (shrW (L.drop w) s) 0) := by
  have hs := C.rlt
  intro f
  induction f with
  | zero =>
    intro i l hi hl
    have e : l = shrW (L.drop w) s := by rw [hl, List.take_of_length_le (by rw [shrW_length, List.length_drop]; omega)]
    rw [e]
    exact .done (by simp) (rshrL1_2 a ta n _ b _ 0 ⟨by rw [hL]; simp; omega, trivial⟩)
  | succ f ih =>
    intro i l hi hl
    have hx := wd_bound hw ((w + i : Nat) : Int)
    have hy := wd_bound hw (((w + i : Nat) : Int) + 1)
    have e2 : n.tmod 32 % 18446744073709551616 = (s : Int) := by rw [C.er]; omega
    have e3 : (2 : Int) ^ min (n.tmod 32 % 18446744073709551616).toNat 64 = ((2 ^ s : Nat) : Int) := by rw [e2, Int.toNat_natCast, Nat.min_eq_left (by omega), two_pow]
    have e4 := (shW_int hs hx hy).1
    have hlenl : l.length = i := by rw [hl, List.length_take, shrW_length, List.length_drop]; omega
    have hg : (shrW (L.drop w) s).getD i 0 = (shW (wd L ((w + i : Nat) : Int)).toNat (wd L (((w + i : Nat) : Int) + 1)).toNat s : Int) := by
      rw [shrW_get _ _ _ (by rw [List.length_drop]; omega)]
      have h1 : (L.drop w).getD i 0 = wd L ((w + i : Nat) : Int) := by rw [wd_nat, List.getD_eq_getElem?_getD, List.getElem?_drop, ← List.getD_eq_getElem?_getD]
      have h2 : (L.drop w).getD (i + 1) 0 = wd L (((w + i : Nat) : Int) + 1) := by
        rw [show ((w + i : Nat) : Int) + 1 = ((w + (i + 1) : Nat) : Int) by omega, wd_nat, List.getD_eq_getElem?_getD, List.getElem?_drop, ← List.getD_eq_getElem?_getD]
      rw [h1, h2]
    have hi2 : i < (shrW (L.drop w) s).length := by rw [shrW_length, List.length_drop]; omega
    have hnext : l ++ [(shW (wd L ((w + i : Nat) : Int)).toNat (wd L (((w + i : Nat) : Int) + 1)).toNat s : Int)] = (shrW (L.drop w) s).take (i + 1) := by
      rw [List.take_succ_eq_append_getElem hi2, hl, ← hg]
      congr 2
      simp [List.getD_eq_getElem?_getD, hi2]
    have h1 := rshrL1_1 a ta n ((w + i : Nat) : Int) b l 0 (by
      rw [hL, e3, e4, e2]
      refine ⟨by simp; omega, hw, by omega, inR64 (by omega) (by omega), hw, by omega, by omega, inRu64 (by omega) (by omega), by omega, by omega, rfl, rfl, by simp; omega, inR64 (by omega) (by omega), trivial⟩)
    rw [hL, e3, e4, hnext] at h1
    have ih := ih (i + 1) _ (by omega) rfl
    have e5 : ((w + i : Nat) : Int) + 1 = ((w + (i + 1) : Nat) : Int) := by omega
    rw [e5] at h1
    unfold rshrS1
    unfold rshrS1 at ih
    rw [hL] at ih ⊢
    exact .step h1 ih

theorem rshr_pure (a : List Int) (ta : Bool) (n : Int) (ha : Words a) (hl4 : a.length ≤ lim4) : PureTo Tryd.prog 48 [.sl 1 (.ints .u32 a) ta, .v (.int .i64 n)] (.tup [.sl 1 (.ints .u32 (ShrN (nat a) n).1) false, .v (.bool (ShrN (nat a) n).2)]) := by
  have hle := norm_length_le a
  have hl := hl4
  unfold lim4 at hl
  have hw := words_norm ha
  have hz := norm_nil ha
  have hN := nat_lt hw
  rw [nat_norm] at hN
  unfold ShrN
  by_cases h0 : n ≤ 0
  · have e : (if n < 0 then ((dig (nat a), false) : List Int × Bool) else (dig (nat a / 2 ^ n.toNat), decide (nat a % 2 ^ n.toNat ≠ 0))) = (norm a, false) := by
      split
      · rw [norm_eq ha]
      · have : n.toNat = 0 := by omega
        rw [this, Nat.pow_zero, Nat.div_one, Nat.mod_one, norm_eq ha]
        rfl
    rw [e]
    exact rshrF1 a ta n false [] 0 ⟨hl4, by simpa using h0, trivial⟩
  · rw [if_neg (by omega)]
    have hi : inR .i64 (32 * ((norm a).length : Int)) := inR64 (by omega) (by omega)
    by_cases h1 : n ≥ 32 * ((norm a).length : Int)
    · have hb : nat a < 2 ^ n.toNat := by
        refine Nat.lt_of_lt_of_le hN ?_
        rw [show (4294967296 : Nat) = 2 ^ 32 from rfl, ← Nat.pow_mul]
        exact Nat.pow_le_pow_right (by omega) (by omega)
      rw [Nat.div_eq_of_lt hb, Nat.mod_eq_of_lt hb, dig_zero]
      by_cases h2 : (norm a).length = 0
      · have : nat a = 0 := hz.1 h2
        have e : decide (nat a ≠ 0) = false := by simp [this]
        simp only [e]
        exact rshrF3 a ta n false [] 0 ⟨hl4, by simpa using h0, hi, by simpa using h1, by simp [h2], trivial⟩
      · have : nat a ≠ 0 := fun e => h2 (hz.2 e)
        have e : decide (nat a ≠ 0) = true := by simp [this]
        simp only [e]
        exact rshrF2 a ta n false [] 0 ⟨hl4, by simpa using h0, hi, by simpa using h1, by simp; omega, trivial⟩
    · have C := cnt (show 0 ≤ n by omega)
      have hbits := rshr_bits a ta n (norm a) rfl hw (by omega) (by omega) (by omega) n.toNat 0 (by omega)
      rw [Nat.pow_zero, Nat.mod_one] at hbits
      have hwords := rshr_words a ta n (norm a) rfl hw _ _ C (decide (nat (norm a) % 2 ^ n.toNat ≠ 0)) (by omega) ((norm a).length - n.toNat / 32) 0 [] (by omega) (by simp)
      have hq := shr_quot hw n.toNat (by omega)
      rw [nat_norm] at hq
      have hwl := shrW_words ((norm a).drop (n.toNat / 32)) (n.toNat % 32)
      have hll := shrW_length ((norm a).drop (n.toNat / 32)) (n.toNat % 32)
      rw [List.length_drop] at hll
      have h := rshrF4 a ta n (decide (nat (norm a) % 2 ^ n.toNat ≠ 0)) (shrW ((norm a).drop (n.toNat / 32)) (n.toNat % 32)) 0 ⟨hl4, by simpa using h0, hi, by simpa using h1, hbits, by omega, by rw [C.ew]; exact inR64 (by omega) (by omega), by
        rw [C.ew]
        exact hwords, rfl, by omega, by unfold lim4; omega, trivial⟩
      rw [norm_eq hwl, hq, nat_norm] at h
      exact h

def sigRShr : List AV → Option (AV × List Prop)
  | [.sl 1 (.ints .u32 a) _, .v (.int .i64 n)] => some (.tup [.sl 1 (.ints .u32 (ShrN (nat a) n).1) false, .v (.bool (ShrN (nat a) n).2)], [Words a, a.length ≤ lim4])
  | _ => none

def RS4 : SGT := (48, .p sigRShr) :: RS3

theorem rsok4 : SigsOK Tryd.prog RS4 := by
  refine sigs_cons rsok3 ?_
  · intro ys r c h hc
    unfold sigRShr at h
    split at h
    · cases h; exact rshr_pure _ _ _ hc.1 hc.2.1
    · cases h


end Go.Proofs.Bn

/- Contracts of functions, taken over from another seat; no condition beyond those in each statement. -/
set_option maxRecDepth 100000
namespace Go.Proofs.Bd
open Go Go.Ev Bn

/-- a length that no list in memory passes -/
def lim : Nat := 281474976710656

namespace Same

theorem body_ne (a b : List Int) (ta tb : Bool) (i : Nat) (h : AllP [decide ((↑i : Int) < (↑a.length : Int)) = true, 0 ≤ (↑i : Int) ∧ (↑i : Int) < (↑a.length : Int), 0 ≤ (↑i : Int) ∧ (↑i : Int) < (↑b.length : Int), (a.getD (↑i : Int).toNat 0 != b.getD (↑i : Int).toNat 0) = true]) : To Tryd.prog (loopAt Tryd.f11 0) (⟨26, [(0, .sl 1 (.ints .u32 a) ta), (1, .sl 1 (.ints .u32 b) tb), (4, .v (.bool false)), (5, .v (.int .i64 i))], [], 0⟩) (Exit.ret) { n := 26, fr := [(4, AV.v (Value.bool false))], hp := [], nx := 0 } :=
  evW_to hm sok0 (hs := [CHint.ops 4 [(3, Hint.b true)], CHint.ops 6 [(8, Hint.b true)]]) (slots := [4]) (keys := []) (nx := 0) (c := _) (by kernel_rfl) h

theorem body_eq (a b : List Int) (ta tb : Bool) (i : Nat) (h : AllP [decide ((↑i : Int) < (↑a.length : Int)) = true, 0 ≤ (↑i : Int) ∧ (↑i : Int) < (↑a.length : Int), 0 ≤ (↑i : Int) ∧ (↑i : Int) < (↑b.length : Int), (a.getD (↑i : Int).toNat 0 != b.getD (↑i : Int).toNat 0) = false, inR IntKind.i64 ((↑i : Int) + 1)]) : To Tryd.prog (loopAt Tryd.f11 0) (⟨26, [(0, .sl 1 (.ints .u32 a) ta), (1, .sl 1 (.ints .u32 b) tb), (4, .v (.bool false)), (5, .v (.int .i64 i))], [], 0⟩) (.normal) (⟨26, [(0, .sl 1 (.ints .u32 a) ta), (1, .sl 1 (.ints .u32 b) tb), (4, .v (.bool false)), (5, .v (.int .i64 (i + 1 : Nat)))], [], 0⟩) :=
  evW_to hm sok0 (hs := [CHint.ops 4 [(3, Hint.b true)], CHint.ops 6 [(8, Hint.b false)]]) (slots := [0,1,4,5]) (keys := []) (nx := 0) (c := _) (by kernel_rfl) h

theorem body_end (a b : List Int) (ta tb : Bool) (i : Nat) (h : AllP [decide ((↑i : Int) < (↑a.length : Int)) = false]) : To Tryd.prog (loopAt Tryd.f11 0) (⟨26, [(0, .sl 1 (.ints .u32 a) ta), (1, .sl 1 (.ints .u32 b) tb), (4, .v (.bool false)), (5, .v (.int .i64 i))], [], 0⟩) (Exit.exit 0) { n := 26, fr := [], hp := [], nx := 0 } :=
  evW_to hm sok0 (hs := [CHint.ops 4 [(3, Hint.b false)]]) (slots := []) (keys := []) (nx := 0) (c := _) (by kernel_rfl) h

theorem loop_eq (a : List Int) (ta tb : Bool) (hl : a.length < lim) : ∀ n i, i + n = a.length → LoopTo Tryd.prog (loopAt Tryd.f11 0) (⟨26, [(0, .sl 1 (.ints .u32 a) ta), (1, .sl 1 (.ints .u32 a) tb), (4, .v (.bool false)), (5, .v (.int .i64 i))], [], 0⟩) (Exit.exit 0) { n := 26, fr := [], hp := [], nx := 0 } := by
  intro n
  induction n with
  | zero =>
    intro i hi
    exact .done (by simp) (body_end a a ta tb i ⟨by simp; omega, trivial⟩)
  | succ n ih =>
    intro i hi
    refine .step (body_eq a a ta tb i ⟨by simp; omega, by omega, by omega, by simp, ?_, trivial⟩) (ih (i + 1) (by omega))
    unfold lim at hl
    simp [inR, IntKind.min, IntKind.max, IntKind.signed, IntKind.bits]
    omega

theorem loop_ne (a b : List Int) (ta tb : Bool) (hl : a.length < lim) (hab : a.length = b.length) : ∀ n i, i + n = a.length → a.drop i ≠ b.drop i → LoopTo Tryd.prog (loopAt Tryd.f11 0) (⟨26, [(0, .sl 1 (.ints .u32 a) ta), (1, .sl 1 (.ints .u32 b) tb), (4, .v (.bool false)), (5, .v (.int .i64 i))], [], 0⟩) Exit.ret { n := 26, fr := [(4, AV.v (Value.bool false))], hp := [], nx := 0 } := by
  intro n
  induction n with
  | zero =>
    intro i hi hne
    exfalso
    apply hne
    rw [List.drop_eq_nil_of_le (by omega), List.drop_eq_nil_of_le (by omega)]
  | succ n ih =>
    intro i hi hne
    have ha : i < a.length := by omega
    have hb : i < b.length := by omega
    by_cases hd : a[i] = b[i]
    · refine .step (body_eq a b ta tb i ⟨by simp; omega, by omega, by omega, by simp [ha, hb, hd], ?_, trivial⟩) (ih (i + 1) (by omega) ?_)
      · unfold lim at hl
        simp [inR, IntKind.min, IntKind.max, IntKind.signed, IntKind.bits]
        omega
      · intro he
        apply hne
        rw [List.drop_eq_getElem_cons ha, List.drop_eq_getElem_cons hb, hd, he]
    · exact .done (by simp) (body_ne a b ta tb i ⟨by simp; omega, by omega, by omega, by simp [ha, hb, hd], trivial⟩)

theorem f1 (a b : List Int) (ta tb : Bool) (h : AllP [((↑a.length : Int) != (↑b.length : Int)) = true]) : PureTo Tryd.prog 11 [.sl 1 (.ints .u32 a) ta, .sl 1 (.ints .u32 b) tb] (AV.v (Value.bool false)) :=
  evFn_pure hm sok0 (fn := Tryd.f11) rfl rfl (ti := false) (hs := [CHint.ops 1 [(4, Hint.b true)]]) (c := _) (by kernel_rfl) h

theorem f2 (a b : List Int) (ta tb : Bool) (h : AllP [((↑a.length : Int) != (↑b.length : Int)) = false, LoopTo Tryd.prog (loopAt Tryd.f11 0) { n := 26, fr := [(0, AV.sl 1 (Seq.ints IntKind.u32 a) ta), (1, AV.sl 1 (Seq.ints IntKind.u32 b) tb), (4, AV.v (Value.bool false)), (5, AV.v (Value.int IntKind.i64 0))], hp := [], nx := 0 } Exit.ret { n := 26, fr := [(4, AV.v (Value.bool false))], hp := [], nx := 0 }]) : PureTo Tryd.prog 11 [.sl 1 (.ints .u32 a) ta, .sl 1 (.ints .u32 b) tb] (AV.v (Value.bool false)) :=
  evFn_pure hm sok0 (fn := Tryd.f11) rfl rfl (ti := false) (hs := [CHint.ops 1 [(4, Hint.b false)], CHint.loop [0, 1, 4, 5] [] 0 Exit.ret { n := 26, fr := [(4, AV.v (Value.bool false))], hp := [], nx := 0 }]) (c := _) (by kernel_rfl) h

theorem f3 (a b : List Int) (ta tb : Bool) (h : AllP [((↑a.length : Int) != (↑b.length : Int)) = false, LoopTo Tryd.prog (loopAt Tryd.f11 0) { n := 26, fr := [(0, AV.sl 1 (Seq.ints IntKind.u32 a) ta), (1, AV.sl 1 (Seq.ints IntKind.u32 b) tb), (4, AV.v (Value.bool false)), (5, AV.v (Value.int IntKind.i64 0))], hp := [], nx := 0 } (Exit.exit 0) { n := 26, fr := [], hp := [], nx := 0 }]) : PureTo Tryd.prog 11 [.sl 1 (.ints .u32 a) ta, .sl 1 (.ints .u32 b) tb] (AV.v (Value.bool true)) :=
  evFn_pure hm sok0 (fn := Tryd.f11) rfl rfl (ti := false) (hs := [CHint.ops 1 [(4, Hint.b false)], CHint.loop [0, 1, 4, 5] [] 0 (Exit.exit 0) { n := 26, fr := [], hp := [], nx := 0 }]) (c := _) (by kernel_rfl) h

theorem pure (a b : List Int) (ta tb : Bool) (hl : a.length < lim) : PureTo Tryd.prog 11 [.sl 1 (.ints .u32 a) ta, .sl 1 (.ints .u32 b) tb] (.v (.bool (decide (a = b)))) := by
  by_cases hab : a = b
  · subst hab
    simp only [decide_true]
    exact f3 a a ta tb ⟨by simp, loop_eq a ta tb hl a.length 0 (by omega), trivial⟩
  · simp only [hab, decide_false]
    by_cases hlen : a.length = b.length
    · exact f2 a b ta tb ⟨by simp [hlen], loop_ne a b ta tb hl hlen a.length 0 (by omega) (by simpa using hab), trivial⟩
    · exact f1 a b ta tb ⟨by simp; omega, trivial⟩

end Same

theorem cutL1 (a : List Int) (ta : Bool) (i : Nat) (h : AllP [decide ((↑i : Int) > 0) = true, inR IntKind.i64 ((↑i : Int) - 1), 0 ≤ (↑i : Int) - 1 ∧ (↑i : Int) - 1 < (↑a.length : Int), (a.getD ((↑i : Int) - 1).toNat 0 == 0) = true, inR IntKind.i64 ((↑i : Int) - 1)]) : To Tryd.prog (loopAt Tryd.f23 0) (⟨22, [(0, .sl 1 (.ints .u32 a) ta), (3, .v (.int .i64 i))], [], 0⟩) (.normal) { n := 22, fr := [(0, AV.sl 1 (Seq.ints IntKind.u32 a) ta), (3, AV.v (Value.int IntKind.i64 ((↑i : Int) - 1)))], hp := [], nx := 0 } :=
  evW_to hm sok0 (hs := [CHint.ops 2 [(1, Hint.b true), (8, Hint.b true)]]) (slots := [0,3]) (keys := []) (nx := 0) (c := _) (by kernel_rfl) h

theorem cutL2 (a : List Int) (ta : Bool) (i : Nat) (h : AllP [decide ((↑i : Int) > 0) = true, inR IntKind.i64 ((↑i : Int) - 1), 0 ≤ (↑i : Int) - 1 ∧ (↑i : Int) - 1 < (↑a.length : Int), (a.getD ((↑i : Int) - 1).toNat 0 == 0) = false]) : To Tryd.prog (loopAt Tryd.f23 0) (⟨22, [(0, .sl 1 (.ints .u32 a) ta), (3, .v (.int .i64 i))], [], 0⟩) (Exit.exit 0) { n := 22, fr := [(0, AV.sl 1 (Seq.ints IntKind.u32 a) ta), (3, AV.v (Value.int IntKind.i64 (↑i : Int)))], hp := [], nx := 0 } :=
  evW_to hm sok0 (hs := [CHint.ops 2 [(1, Hint.b true), (8, Hint.b false)]]) (slots := [0,3]) (keys := []) (nx := 0) (c := _) (by kernel_rfl) h

theorem cutL3 (a : List Int) (ta : Bool) (i : Nat) (h : AllP [decide ((↑i : Int) > 0) = false]) : To Tryd.prog (loopAt Tryd.f23 0) (⟨22, [(0, .sl 1 (.ints .u32 a) ta), (3, .v (.int .i64 i))], [], 0⟩) (Exit.exit 0) { n := 22, fr := [(0, AV.sl 1 (Seq.ints IntKind.u32 a) ta), (3, AV.v (Value.int IntKind.i64 (↑i : Int)))], hp := [], nx := 0 } :=
  evW_to hm sok0 (hs := [CHint.ops 2 [(1, Hint.b false)]]) (slots := [0,3]) (keys := []) (nx := 0) (c := _) (by kernel_rfl) h
-- 1 paths

theorem cutF1 (a : List Int) (ta : Bool) (n : Nat) (h : AllP [LoopTo Tryd.prog (loopAt Tryd.f23 0) { n := 22, fr := [(0, AV.sl 1 (Seq.ints IntKind.u32 a) ta), (3, AV.v (Value.int IntKind.i64 (↑a.length : Int)))], hp := [], nx := 0 } (Exit.exit 0) { n := 22, fr := [(0, AV.sl 1 (Seq.ints IntKind.u32 a) ta), (3, AV.v (Value.int IntKind.i64 (↑n : Int)))], hp := [], nx := 0 }, 0 ≤ (↑n : Int) ∧ (↑n : Int) ≤ (↑a.length : Int), (↑n : Int) = (↑(↑n : Int).toNat : Int)]) : PureTo Tryd.prog 23 [.sl 1 (.ints .u32 a) ta] (AV.sl 1 (Seq.ints IntKind.u32 (List.take (↑n : Int).toNat a)) true) :=
  evFn_pure hm sok0 (fn := Tryd.f23) rfl rfl (ti := true) (hs := [CHint.loop [0, 3] [] 0 (Exit.exit 0) { n := 22, fr := [(0, AV.sl 1 (Seq.ints IntKind.u32 a) ta), (3, AV.v (Value.int IntKind.i64 (↑n : Int)))], hp := [], nx := 0 }]) (c := _) (by kernel_rfl) h
-- 3 paths

theorem normL1 (a : List Int) (ta : Bool) (i : Nat) (h : AllP [decide ((↑i : Int) > 0) = true, inR IntKind.i64 ((↑i : Int) - 1), 0 ≤ (↑i : Int) - 1 ∧ (↑i : Int) - 1 < (↑a.length : Int), (a.getD ((↑i : Int) - 1).toNat 0 == 0) = true, inR IntKind.i64 ((↑i : Int) - 1)]) : To Tryd.prog (loopAt Tryd.f15 0) (⟨24, [(0, .sl 1 (.ints .u32 a) ta), (3, .v (.int .i64 i))], [], 0⟩) (.normal) { n := 24, fr := [(0, AV.sl 1 (Seq.ints IntKind.u32 a) ta), (3, AV.v (Value.int IntKind.i64 ((↑i : Int) - 1)))], hp := [], nx := 0 } :=
  evW_to hm sok0 (hs := [CHint.ops 2 [(1, Hint.b true), (8, Hint.b true)]]) (slots := [0,3]) (keys := []) (nx := 0) (c := _) (by kernel_rfl) h

theorem normL2 (a : List Int) (ta : Bool) (i : Nat) (h : AllP [decide ((↑i : Int) > 0) = true, inR IntKind.i64 ((↑i : Int) - 1), 0 ≤ (↑i : Int) - 1 ∧ (↑i : Int) - 1 < (↑a.length : Int), (a.getD ((↑i : Int) - 1).toNat 0 == 0) = false]) : To Tryd.prog (loopAt Tryd.f15 0) (⟨24, [(0, .sl 1 (.ints .u32 a) ta), (3, .v (.int .i64 i))], [], 0⟩) (Exit.exit 0) { n := 24, fr := [(0, AV.sl 1 (Seq.ints IntKind.u32 a) ta), (3, AV.v (Value.int IntKind.i64 (↑i : Int)))], hp := [], nx := 0 } :=
  evW_to hm sok0 (hs := [CHint.ops 2 [(1, Hint.b true), (8, Hint.b false)]]) (slots := [0,3]) (keys := []) (nx := 0) (c := _) (by kernel_rfl) h

theorem normL3 (a : List Int) (ta : Bool) (i : Nat) (h : AllP [decide ((↑i : Int) > 0) = false]) : To Tryd.prog (loopAt Tryd.f15 0) (⟨24, [(0, .sl 1 (.ints .u32 a) ta), (3, .v (.int .i64 i))], [], 0⟩) (Exit.exit 0) { n := 24, fr := [(0, AV.sl 1 (Seq.ints IntKind.u32 a) ta), (3, AV.v (Value.int IntKind.i64 (↑i : Int)))], hp := [], nx := 0 } :=
  evW_to hm sok0 (hs := [CHint.ops 2 [(1, Hint.b false)]]) (slots := [0,3]) (keys := []) (nx := 0) (c := _) (by kernel_rfl) h
-- 1 paths

theorem normF1 (a : List Int) (ta : Bool) (n : Nat) (h : AllP [LoopTo Tryd.prog (loopAt Tryd.f15 0) { n := 24, fr := [(0, AV.sl 1 (Seq.ints IntKind.u32 a) ta), (3, AV.v (Value.int IntKind.i64 (↑a.length : Int)))], hp := [], nx := 0 } (Exit.exit 0) { n := 24, fr := [(0, AV.sl 1 (Seq.ints IntKind.u32 a) ta), (3, AV.v (Value.int IntKind.i64 (↑n : Int)))], hp := [], nx := 0 }, 0 ≤ (↑n : Int) ∧ (↑n : Int) ≤ (↑a.length : Int), (List.take (↑n : Int).toNat a).length * (3 + 1) ≤ 140737488355328, (List.take (↑n : Int).toNat a).length = (List.take (↑n : Int).toNat a).length, 0 ≤ (List.take (↑n : Int).toNat a).length]) : PureTo Tryd.prog 15 [.sl 1 (.ints .u32 a) ta] (AV.sl 1 (Seq.ints IntKind.u32 (List.take (↑n : Int).toNat a)) false) :=
  evFn_pure hm sok0 (fn := Tryd.f15) rfl rfl (ti := false) (hs := [CHint.loop [0, 3] [] 0 (Exit.exit 0) { n := 24, fr := [(0, AV.sl 1 (Seq.ints IntKind.u32 a) ta), (3, AV.v (Value.int IntKind.i64 (↑n : Int)))], hp := [], nx := 0 }]) (c := _) (by kernel_rfl) h
-- 1 paths

theorem ownF1 (a : List Int) (ta : Bool) (h : AllP [a.length * (3 + 1) ≤ 140737488355328, a.length = a.length, 0 ≤ a.length]) : PureTo Tryd.prog 9 [.sl 1 (.ints .u32 a) ta] (AV.sl 1 (Seq.ints IntKind.u32 a) false) :=
  evFn_pure hm sok0 (fn := Tryd.f9) rfl rfl (ti := false) (hs := []) (c := _) (by kernel_rfl) h

theorem inR64 {x : Int} (h0 : -9223372036854775808 ≤ x) (h1 : x ≤ 9223372036854775807) : inR .i64 x := ⟨h0, h1⟩

theorem cut_loop (a : List Int) (ta : Bool) (hl : a.length < lim) : ∀ n : Nat, n ≤ a.length →
    LoopTo Tryd.prog (loopAt Tryd.f23 0) ⟨22, [(0, .sl 1 (.ints .u32 a) ta), (3, .v (.int .i64 n))], [], 0⟩ (.exit 0) ⟨22, [(0, .sl 1 (.ints .u32 a) ta), (3, .v (.int .i64 (cutN a n)))], [], 0⟩ := by
  unfold lim at hl
  intro n
  induction n with
  | zero =>
    intro _
    exact .done (by simp) (cutL3 a ta 0 ⟨by simp, trivial⟩)
  | succ n ih =>
    intro hn
    have e : ((n + 1 : Nat) : Int) - 1 = (n : Int) := by omega
    by_cases hz : a.getD n 0 = 0
    · have h1 := cutL1 a ta (n + 1) (by rw [e]; exact ⟨by simp, inR64 (by omega) (by omega), by omega, by simpa using hz, inR64 (by omega) (by omega), trivial⟩)
      rw [e] at h1
      have := LoopTo.step h1 (ih (by omega))
      simp only [cutN, if_pos hz]
      exact this
    · have h1 := cutL2 a ta (n + 1) (by rw [e]; exact ⟨by simp, inR64 (by omega) (by omega), by omega, by simpa using hz, trivial⟩)
      simp only [cutN, if_neg hz]
      exact .done (by simp) h1

theorem cut_pure (a : List Int) (ta : Bool) (hl : a.length < lim) : PureTo Tryd.prog 23 [.sl 1 (.ints .u32 a) ta] (.sl 1 (.ints .u32 (norm a)) true) := by
  have := cutN_le a a.length
  have h := cutF1 a ta (cutN a a.length) ⟨cut_loop a ta hl a.length (Nat.le_refl _), by omega, by omega, trivial⟩
  rw [Int.toNat_natCast] at h
  exact h

theorem norm_loop (a : List Int) (ta : Bool) (hl : a.length < lim) : ∀ n : Nat, n ≤ a.length →
    LoopTo Tryd.prog (loopAt Tryd.f15 0) ⟨24, [(0, .sl 1 (.ints .u32 a) ta), (3, .v (.int .i64 n))], [], 0⟩ (.exit 0) ⟨24, [(0, .sl 1 (.ints .u32 a) ta), (3, .v (.int .i64 (cutN a n)))], [], 0⟩ := by
  unfold lim at hl
  intro n
  induction n with
  | zero =>
    intro _
    exact .done (by simp) (normL3 a ta 0 ⟨by simp, trivial⟩)
  | succ n ih =>
    intro hn
    have e : ((n + 1 : Nat) : Int) - 1 = (n : Int) := by omega
    by_cases hz : a.getD n 0 = 0
    · have h1 := normL1 a ta (n + 1) (by rw [e]; exact ⟨by simp, inR64 (by omega) (by omega), by omega, by simpa using hz, inR64 (by omega) (by omega), trivial⟩)
      rw [e] at h1
      have := LoopTo.step h1 (ih (by omega))
      simp only [cutN, if_pos hz]
      exact this
    · have h1 := normL2 a ta (n + 1) (by rw [e]; exact ⟨by simp, inR64 (by omega) (by omega), by omega, by simpa using hz, trivial⟩)
      simp only [cutN, if_neg hz]
      exact .done (by simp) h1

/-- a length of words that append bears -/
def lim4 : Nat := 35184372088832

theorem norm_pure (a : List Int) (ta : Bool) (hl : a.length ≤ lim4) : PureTo Tryd.prog 15 [.sl 1 (.ints .u32 a) ta] (.sl 1 (.ints .u32 (norm a)) false) := by
  have := cutN_le a a.length
  unfold lim4 at hl
  have h := normF1 a ta (cutN a a.length) ⟨norm_loop a ta (by unfold lim; omega) a.length (Nat.le_refl _), by omega, by rw [Int.toNat_natCast, List.length_take]; omega, rfl, Nat.zero_le _, trivial⟩
  rw [Int.toNat_natCast] at h
  exact h

theorem own_pure (a : List Int) (ta : Bool) (hl : a.length ≤ lim4) : PureTo Tryd.prog 9 [.sl 1 (.ints .u32 a) ta] (.sl 1 (.ints .u32 a) false) :=
  ownF1 a ta ⟨by unfold lim4 at hl; omega, rfl, Nat.zero_le _, trivial⟩

def sigCut : List AV → Option (AV × List Prop)
  | [.sl 1 (.ints .u32 a) _] => some (.sl 1 (.ints .u32 (norm a)) true, [a.length < lim])
  | _ => none

def sigNorm : List AV → Option (AV × List Prop)
  | [.sl 1 (.ints .u32 a) _] => some (.sl 1 (.ints .u32 (norm a)) false, [a.length ≤ lim4])
  | _ => none

def sigOwn : List AV → Option (AV × List Prop)
  | [.sl 1 (.ints .u32 a) _] => some (.sl 1 (.ints .u32 a) false, [a.length ≤ lim4])
  | _ => none

def sigSame : List AV → Option (AV × List Prop)
  | [.sl 1 (.ints .u32 a) _, .sl 1 (.ints .u32 b) _] => some (.v (.bool (decide (a = b))), [a.length < lim])
  | _ => none

def SG1 : SGT := [(23, .p sigCut), (15, .p sigNorm), (9, .p sigOwn), (11, .p sigSame)]

theorem sok1 : SigsOK Tryd.prog SG1 := by
  refine sigs_cons (sigs_cons (sigs_cons (sigs_cons sok0 ?_) ?_) ?_) ?_
  · intro ys r c h hc
    unfold sigSame at h
    split at h
    · cases h; exact Same.pure _ _ _ _ hc.1
    · cases h
  · intro ys r c h hc
    unfold sigOwn at h
    split at h
    · cases h; exact own_pure _ _ hc.1
    · cases h
  · intro ys r c h hc
    unfold sigNorm at h
    split at h
    · cases h; exact norm_pure _ _ hc.1
    · cases h
  · intro ys r c h hc
    unfold sigCut at h
    split at h
    · cases h; exact cut_pure _ _ hc.1
    · cases h

theorem longF1 (a : List Int) (ta : Bool) (h : AllP [a.length < lim, decide ((↑(norm a).length : Int) > 1024) = true]) : PureTo Tryd.prog 52 [.sl 1 (.ints .u32 a) ta] (AV.v (Value.bool true)) :=
  evFn_pure hm sok1 (fn := Tryd.f52) rfl rfl (ti := false) (hs := [CHint.ops 1 [(4, Hint.b true)]]) (c := _) (by kernel_rfl) h

theorem longF2 (a : List Int) (ta : Bool) (h : AllP [a.length < lim, decide ((↑(norm a).length : Int) > 1024) = false]) : PureTo Tryd.prog 52 [.sl 1 (.ints .u32 a) ta] (AV.v (Value.bool false)) :=
  evFn_pure hm sok1 (fn := Tryd.f52) rfl rfl (ti := false) (hs := [CHint.ops 1 [(4, Hint.b false)]]) (c := _) (by kernel_rfl) h
-- 2 paths

theorem toldF1 (a : List Int) (ta : Bool) (h : AllP [a.length < lim, decide ((↑(norm a).length : Int) > 1024) = true]) : PureTo Tryd.prog 35 [.sl 1 (.ints .u32 a) ta] (AV.tup [AV.sl 1 (Seq.ints IntKind.u32 []) true, AV.v (Value.int IntKind.i64 3)]) :=
  evFn_pure hm sok1 (fn := Tryd.f35) rfl rfl (ti := true) (hs := [CHint.ops 2 [(2, Hint.b true)]]) (c := _) (by kernel_rfl) h

theorem toldF2 (a : List Int) (ta : Bool) (h : AllP [a.length < lim, decide ((↑(norm a).length : Int) > 1024) = false]) : PureTo Tryd.prog 35 [.sl 1 (.ints .u32 a) ta] (AV.tup [AV.sl 1 (Seq.ints IntKind.u32 (norm a)) true, AV.v (Value.int IntKind.i64 0)]) :=
  evFn_pure hm sok1 (fn := Tryd.f35) rfl rfl (ti := true) (hs := [CHint.ops 2 [(2, Hint.b false)]]) (c := _) (by kernel_rfl) h
-- 2 paths

/-- more words than may be -/
def over (a : List Int) : Bool := decide (1024 < (norm a).length)

theorem long1_pure (a : List Int) (ta : Bool) (hl : a.length < lim) : PureTo Tryd.prog 52 [.sl 1 (.ints .u32 a) ta] (.v (.bool (over a))) := by
  unfold over
  by_cases h : 1024 < (norm a).length
  · rw [decide_eq_true h]; exact longF1 a ta ⟨hl, by simp; omega, trivial⟩
  · rw [decide_eq_false h]; exact longF2 a ta ⟨hl, by simp; omega, trivial⟩

def toldL (a : List Int) : List Int := if over a then [] else norm a

def toldE (a : List Int) : Int := if over a then 3 else 0

theorem told_pure (a : List Int) (ta : Bool) (hl : a.length < lim) : PureTo Tryd.prog 35 [.sl 1 (.ints .u32 a) ta] (.tup [.sl 1 (.ints .u32 (toldL a)) true, .v (.int .i64 (toldE a))]) := by
  unfold toldL toldE over
  by_cases h : 1024 < (norm a).length
  · simp only [decide_eq_true h, if_true]; exact toldF1 a ta ⟨hl, by simp; omega, trivial⟩
  · simp only [decide_eq_false h]; exact toldF2 a ta ⟨hl, by simp; omega, trivial⟩

def sigLong1 : List AV → Option (AV × List Prop)
  | [.sl 1 (.ints .u32 a) _] => some (.v (.bool (over a)), [a.length < lim])
  | _ => none

def sigTold : List AV → Option (AV × List Prop)
  | [.sl 1 (.ints .u32 a) _] => some (.tup [.sl 1 (.ints .u32 (toldL a)) true, .v (.int .i64 (toldE a))], [a.length < lim])
  | _ => none

def SG2 : SGT := (52, .p sigLong1) :: (35, .p sigTold) :: SG1

theorem sok2 : SigsOK Tryd.prog SG2 := by
  refine sigs_cons (sigs_cons sok1 ?_) ?_
  · intro ys r c h hc
    unfold sigTold at h
    split at h
    · cases h; exact told_pure _ _ hc.1
    · cases h
  · intro ys r c h hc
    unfold sigLong1 at h
    split at h
    · cases h; exact long1_pure _ _ hc.1
    · cases h


theorem ix1_0_1 (a : List Int) (ta : Bool) (h : AllP [(0 : Int) ≤ (0 : Int) ∧ (0 : Int) < (↑[AV.sl (1 : Nat) (Seq.ints IntKind.u32 a) ta].length : Int), over a = true, a.length < lim]) : To Tryd.prog (loopAt Tryd.f56 0) (⟨19, [(0, .sl 1 (.avs [.sl 1 (.ints .u32 a) ta]) true), (1, .fnv (.func 52) [] []), (4, .v (.int .i64 0)), (6, .sl 1 (.avs [.sl 1 (.ints .u32 a) ta]) true), (7, .v (.int .i64 1)), (8, .v (.int .i64 0))], [], 0⟩) (Exit.ret) { n := (19 : Nat), fr := [((4 : Nat), AV.v (Value.int IntKind.i64 (0 : Int)))], hp := [], nx := (0 : Nat) } :=
  evW_to hm sok2 (hs := [CHint.ops (nat_lit 4) [(nat_lit 5, Hint.b true)]]) (slots := [4]) (keys := []) (nx := 0) (c := _) (by kernel_rfl) h

theorem ix1_0_2 (a : List Int) (ta : Bool) (h : AllP [(0 : Int) ≤ (0 : Int) ∧ (0 : Int) < (↑[AV.sl (1 : Nat) (Seq.ints IntKind.u32 a) ta].length : Int), over a = false, a.length < lim, inR IntKind.i64 ((0 : Int) + (1 : Int))]) : To Tryd.prog (loopAt Tryd.f56 0) (⟨19, [(0, .sl 1 (.avs [.sl 1 (.ints .u32 a) ta]) true), (1, .fnv (.func 52) [] []), (4, .v (.int .i64 0)), (6, .sl 1 (.avs [.sl 1 (.ints .u32 a) ta]) true), (7, .v (.int .i64 1)), (8, .v (.int .i64 0))], [], 0⟩) (.normal) { n := (19 : Nat), fr := [((0 : Nat), AV.sl (1 : Nat) (Seq.avs [AV.sl (1 : Nat) (Seq.ints IntKind.u32 a) ta]) true), ((1 : Nat), AV.fnv (Fn.func (52 : Nat)) [] []), ((4 : Nat), AV.v (Value.int IntKind.i64 (0 : Int))), ((6 : Nat), AV.sl (1 : Nat) (Seq.avs [AV.sl (1 : Nat) (Seq.ints IntKind.u32 a) ta]) true), ((7 : Nat), AV.v (Value.int IntKind.i64 (1 : Int))), ((8 : Nat), AV.v (Value.int IntKind.i64 ((0 : Int) + (1 : Int))))], hp := [], nx := (0 : Nat) } :=
  evW_to hm sok2 (hs := [CHint.ops (nat_lit 4) [(nat_lit 5, Hint.b false)]]) (slots := [0,1,4,6,7,8]) (keys := []) (nx := 0) (c := _) (by kernel_rfl) h
-- 1 paths

theorem ix1_1_1 (a : List Int) (ta : Bool) (h : AllP []) : To Tryd.prog (loopAt Tryd.f56 0) (⟨19, [(0, .sl 1 (.avs [.sl 1 (.ints .u32 a) ta]) true), (1, .fnv (.func 52) [] []), (4, .v (.int .i64 0)), (6, .sl 1 (.avs [.sl 1 (.ints .u32 a) ta]) true), (7, .v (.int .i64 1)), (8, .v (.int .i64 1))], [], 0⟩) (Exit.exit (0 : Nat)) { n := (19 : Nat), fr := [((4 : Nat), AV.v (Value.int IntKind.i64 (0 : Int)))], hp := [], nx := (0 : Nat) } :=
  evW_to hm sok2 (hs := []) (slots := [4]) (keys := []) (nx := 0) (c := _) (by kernel_rfl) h
-- 1 paths

theorem ixF11 (a : List Int) (ta : Bool) (h : AllP [LoopTo Tryd.prog (loopAt Tryd.f56 (0 : Nat)) { n := (19 : Nat), fr := [((0 : Nat), AV.sl (1 : Nat) (Seq.avs [AV.sl (1 : Nat) (Seq.ints IntKind.u32 a) ta]) true), ((1 : Nat), AV.fnv (Fn.func (52 : Nat)) [] []), ((4 : Nat), AV.v (Value.int IntKind.i64 (0 : Int))), ((6 : Nat), AV.sl (1 : Nat) (Seq.avs [AV.sl (1 : Nat) (Seq.ints IntKind.u32 a) ta]) true), ((7 : Nat), AV.v (Value.int IntKind.i64 (↑[AV.sl (1 : Nat) (Seq.ints IntKind.u32 a) ta].length : Int))), ((8 : Nat), AV.v (Value.int IntKind.i64 (0 : Int)))], hp := [], nx := (0 : Nat) } (Exit.exit (0 : Nat)) { n := (19 : Nat), fr := [((4 : Nat), AV.v (Value.int IntKind.i64 (0 : Int)))], hp := [], nx := (0 : Nat) }]) : PureTo Tryd.prog 56 [.sl 1 (.avs [.sl 1 (.ints .u32 a) ta]) true, .fnv (.func 52) [] []] (AV.v (Value.int IntKind.i64 (-1 : Int))) :=
  evFn_pure hm sok2 (fn := Tryd.f56) rfl rfl (ti := false) (hs := [CHint.loop [(0 : Nat), (1 : Nat), (4 : Nat), (6 : Nat), (7 : Nat), (8 : Nat)] [] (0 : Nat) (Exit.exit (0 : Nat)) { n := (19 : Nat), fr := [((4 : Nat), AV.v (Value.int IntKind.i64 (0 : Int)))], hp := [], nx := (0 : Nat) }]) (c := _) (by kernel_rfl) h
-- 1 paths

theorem ixG11 (a : List Int) (ta : Bool) (k : Int) (h : AllP [LoopTo Tryd.prog (loopAt Tryd.f56 (0 : Nat)) { n := (19 : Nat), fr := [((0 : Nat), AV.sl (1 : Nat) (Seq.avs [AV.sl (1 : Nat) (Seq.ints IntKind.u32 a) ta]) true), ((1 : Nat), AV.fnv (Fn.func (52 : Nat)) [] []), ((4 : Nat), AV.v (Value.int IntKind.i64 (0 : Int))), ((6 : Nat), AV.sl (1 : Nat) (Seq.avs [AV.sl (1 : Nat) (Seq.ints IntKind.u32 a) ta]) true), ((7 : Nat), AV.v (Value.int IntKind.i64 (↑[AV.sl (1 : Nat) (Seq.ints IntKind.u32 a) ta].length : Int))), ((8 : Nat), AV.v (Value.int IntKind.i64 (0 : Int)))], hp := [], nx := (0 : Nat) } Exit.ret { n := (19 : Nat), fr := [((4 : Nat), AV.v (Value.int IntKind.i64 k))], hp := [], nx := (0 : Nat) }]) : PureTo Tryd.prog 56 [.sl 1 (.avs [.sl 1 (.ints .u32 a) ta]) true, .fnv (.func 52) [] []] (AV.v (Value.int IntKind.i64 k)) :=
  evFn_pure hm sok2 (fn := Tryd.f56) rfl rfl (ti := false) (hs := [CHint.loop [(0 : Nat), (1 : Nat), (4 : Nat), (6 : Nat), (7 : Nat), (8 : Nat)] [] (0 : Nat) Exit.ret { n := (19 : Nat), fr := [((4 : Nat), AV.v (Value.int IntKind.i64 k))], hp := [], nx := (0 : Nat) }]) (c := _) (by kernel_rfl) h
-- 2 paths

theorem ix2_0_1 (a b : List Int) (ta tb : Bool) (h : AllP [(0 : Int) ≤ (0 : Int) ∧ (0 : Int) < (↑[AV.sl (1 : Nat) (Seq.ints IntKind.u32 a) ta, AV.sl (1 : Nat) (Seq.ints IntKind.u32 b) tb].length : Int), over a = true, a.length < lim]) : To Tryd.prog (loopAt Tryd.f56 0) (⟨19, [(0, .sl 1 (.avs [.sl 1 (.ints .u32 a) ta, .sl 1 (.ints .u32 b) tb]) true), (1, .fnv (.func 52) [] []), (4, .v (.int .i64 0)), (6, .sl 1 (.avs [.sl 1 (.ints .u32 a) ta, .sl 1 (.ints .u32 b) tb]) true), (7, .v (.int .i64 2)), (8, .v (.int .i64 0))], [], 0⟩) (Exit.ret) { n := (19 : Nat), fr := [((4 : Nat), AV.v (Value.int IntKind.i64 (0 : Int)))], hp := [], nx := (0 : Nat) } :=
  evW_to hm sok2 (hs := [CHint.ops (nat_lit 4) [(nat_lit 5, Hint.b true)]]) (slots := [4]) (keys := []) (nx := 0) (c := _) (by kernel_rfl) h

theorem ix2_0_2 (a b : List Int) (ta tb : Bool) (h : AllP [(0 : Int) ≤ (0 : Int) ∧ (0 : Int) < (↑[AV.sl (1 : Nat) (Seq.ints IntKind.u32 a) ta, AV.sl (1 : Nat) (Seq.ints IntKind.u32 b) tb].length : Int), over a = false, a.length < lim, inR IntKind.i64 ((0 : Int) + (1 : Int))]) : To Tryd.prog (loopAt Tryd.f56 0) (⟨19, [(0, .sl 1 (.avs [.sl 1 (.ints .u32 a) ta, .sl 1 (.ints .u32 b) tb]) true), (1, .fnv (.func 52) [] []), (4, .v (.int .i64 0)), (6, .sl 1 (.avs [.sl 1 (.ints .u32 a) ta, .sl 1 (.ints .u32 b) tb]) true), (7, .v (.int .i64 2)), (8, .v (.int .i64 0))], [], 0⟩) (.normal) { n := (19 : Nat), fr := [((0 : Nat), AV.sl (1 : Nat) (Seq.avs [AV.sl (1 : Nat) (Seq.ints IntKind.u32 a) ta, AV.sl (1 : Nat) (Seq.ints IntKind.u32 b) tb]) true), ((1 : Nat), AV.fnv (Fn.func (52 : Nat)) [] []), ((4 : Nat), AV.v (Value.int IntKind.i64 (0 : Int))), ((6 : Nat), AV.sl (1 : Nat) (Seq.avs [AV.sl (1 : Nat) (Seq.ints IntKind.u32 a) ta, AV.sl (1 : Nat) (Seq.ints IntKind.u32 b) tb]) true), ((7 : Nat), AV.v (Value.int IntKind.i64 (2 : Int))), ((8 : Nat), AV.v (Value.int IntKind.i64 ((0 : Int) + (1 : Int))))], hp := [], nx := (0 : Nat) } :=
  evW_to hm sok2 (hs := [CHint.ops (nat_lit 4) [(nat_lit 5, Hint.b false)]]) (slots := [0,1,4,6,7,8]) (keys := []) (nx := 0) (c := _) (by kernel_rfl) h
-- 2 paths

theorem ix2_1_1 (a b : List Int) (ta tb : Bool) (h : AllP [(0 : Int) ≤ (1 : Int) ∧ (1 : Int) < (↑[AV.sl (1 : Nat) (Seq.ints IntKind.u32 a) ta, AV.sl (1 : Nat) (Seq.ints IntKind.u32 b) tb].length : Int), over b = true, b.length < lim]) : To Tryd.prog (loopAt Tryd.f56 0) (⟨19, [(0, .sl 1 (.avs [.sl 1 (.ints .u32 a) ta, .sl 1 (.ints .u32 b) tb]) true), (1, .fnv (.func 52) [] []), (4, .v (.int .i64 0)), (6, .sl 1 (.avs [.sl 1 (.ints .u32 a) ta, .sl 1 (.ints .u32 b) tb]) true), (7, .v (.int .i64 2)), (8, .v (.int .i64 1))], [], 0⟩) (Exit.ret) { n := (19 : Nat), fr := [((4 : Nat), AV.v (Value.int IntKind.i64 (1 : Int)))], hp := [], nx := (0 : Nat) } :=
  evW_to hm sok2 (hs := [CHint.ops (nat_lit 4) [(nat_lit 5, Hint.b true)]]) (slots := [4]) (keys := []) (nx := 0) (c := _) (by kernel_rfl) h

theorem ix2_1_2 (a b : List Int) (ta tb : Bool) (h : AllP [(0 : Int) ≤ (1 : Int) ∧ (1 : Int) < (↑[AV.sl (1 : Nat) (Seq.ints IntKind.u32 a) ta, AV.sl (1 : Nat) (Seq.ints IntKind.u32 b) tb].length : Int), over b = false, b.length < lim, inR IntKind.i64 ((1 : Int) + (1 : Int))]) : To Tryd.prog (loopAt Tryd.f56 0) (⟨19, [(0, .sl 1 (.avs [.sl 1 (.ints .u32 a) ta, .sl 1 (.ints .u32 b) tb]) true), (1, .fnv (.func 52) [] []), (4, .v (.int .i64 0)), (6, .sl 1 (.avs [.sl 1 (.ints .u32 a) ta, .sl 1 (.ints .u32 b) tb]) true), (7, .v (.int .i64 2)), (8, .v (.int .i64 1))], [], 0⟩) (.normal) { n := (19 : Nat), fr := [((0 : Nat), AV.sl (1 : Nat) (Seq.avs [AV.sl (1 : Nat) (Seq.ints IntKind.u32 a) ta, AV.sl (1 : Nat) (Seq.ints IntKind.u32 b) tb]) true), ((1 : Nat), AV.fnv (Fn.func (52 : Nat)) [] []), ((4 : Nat), AV.v (Value.int IntKind.i64 (0 : Int))), ((6 : Nat), AV.sl (1 : Nat) (Seq.avs [AV.sl (1 : Nat) (Seq.ints IntKind.u32 a) ta, AV.sl (1 : Nat) (Seq.ints IntKind.u32 b) tb]) true), ((7 : Nat), AV.v (Value.int IntKind.i64 (2 : Int))), ((8 : Nat), AV.v (Value.int IntKind.i64 ((1 : Int) + (1 : Int))))], hp := [], nx := (0 : Nat) } :=
  evW_to hm sok2 (hs := [CHint.ops (nat_lit 4) [(nat_lit 5, Hint.b false)]]) (slots := [0,1,4,6,7,8]) (keys := []) (nx := 0) (c := _) (by kernel_rfl) h
-- 1 paths

theorem ix2_2_1 (a b : List Int) (ta tb : Bool) (h : AllP []) : To Tryd.prog (loopAt Tryd.f56 0) (⟨19, [(0, .sl 1 (.avs [.sl 1 (.ints .u32 a) ta, .sl 1 (.ints .u32 b) tb]) true), (1, .fnv (.func 52) [] []), (4, .v (.int .i64 0)), (6, .sl 1 (.avs [.sl 1 (.ints .u32 a) ta, .sl 1 (.ints .u32 b) tb]) true), (7, .v (.int .i64 2)), (8, .v (.int .i64 2))], [], 0⟩) (Exit.exit (0 : Nat)) { n := (19 : Nat), fr := [((4 : Nat), AV.v (Value.int IntKind.i64 (0 : Int)))], hp := [], nx := (0 : Nat) } :=
  evW_to hm sok2 (hs := []) (slots := [4]) (keys := []) (nx := 0) (c := _) (by kernel_rfl) h
-- 1 paths

theorem ixF21 (a b : List Int) (ta tb : Bool) (h : AllP [LoopTo Tryd.prog (loopAt Tryd.f56 (0 : Nat)) { n := (19 : Nat), fr := [((0 : Nat), AV.sl (1 : Nat) (Seq.avs [AV.sl (1 : Nat) (Seq.ints IntKind.u32 a) ta, AV.sl (1 : Nat) (Seq.ints IntKind.u32 b) tb]) true), ((1 : Nat), AV.fnv (Fn.func (52 : Nat)) [] []), ((4 : Nat), AV.v (Value.int IntKind.i64 (0 : Int))), ((6 : Nat), AV.sl (1 : Nat) (Seq.avs [AV.sl (1 : Nat) (Seq.ints IntKind.u32 a) ta, AV.sl (1 : Nat) (Seq.ints IntKind.u32 b) tb]) true), ((7 : Nat), AV.v (Value.int IntKind.i64 (↑[AV.sl (1 : Nat) (Seq.ints IntKind.u32 a) ta, AV.sl (1 : Nat) (Seq.ints IntKind.u32 b) tb].length : Int))), ((8 : Nat), AV.v (Value.int IntKind.i64 (0 : Int)))], hp := [], nx := (0 : Nat) } (Exit.exit (0 : Nat)) { n := (19 : Nat), fr := [((4 : Nat), AV.v (Value.int IntKind.i64 (0 : Int)))], hp := [], nx := (0 : Nat) }]) : PureTo Tryd.prog 56 [.sl 1 (.avs [.sl 1 (.ints .u32 a) ta, .sl 1 (.ints .u32 b) tb]) true, .fnv (.func 52) [] []] (AV.v (Value.int IntKind.i64 (-1 : Int))) :=
  evFn_pure hm sok2 (fn := Tryd.f56) rfl rfl (ti := false) (hs := [CHint.loop [(0 : Nat), (1 : Nat), (4 : Nat), (6 : Nat), (7 : Nat), (8 : Nat)] [] (0 : Nat) (Exit.exit (0 : Nat)) { n := (19 : Nat), fr := [((4 : Nat), AV.v (Value.int IntKind.i64 (0 : Int)))], hp := [], nx := (0 : Nat) }]) (c := _) (by kernel_rfl) h
-- 1 paths

theorem ixG21 (a b : List Int) (ta tb : Bool) (k : Int) (h : AllP [LoopTo Tryd.prog (loopAt Tryd.f56 (0 : Nat)) { n := (19 : Nat), fr := [((0 : Nat), AV.sl (1 : Nat) (Seq.avs [AV.sl (1 : Nat) (Seq.ints IntKind.u32 a) ta, AV.sl (1 : Nat) (Seq.ints IntKind.u32 b) tb]) true), ((1 : Nat), AV.fnv (Fn.func (52 : Nat)) [] []), ((4 : Nat), AV.v (Value.int IntKind.i64 (0 : Int))), ((6 : Nat), AV.sl (1 : Nat) (Seq.avs [AV.sl (1 : Nat) (Seq.ints IntKind.u32 a) ta, AV.sl (1 : Nat) (Seq.ints IntKind.u32 b) tb]) true), ((7 : Nat), AV.v (Value.int IntKind.i64 (↑[AV.sl (1 : Nat) (Seq.ints IntKind.u32 a) ta, AV.sl (1 : Nat) (Seq.ints IntKind.u32 b) tb].length : Int))), ((8 : Nat), AV.v (Value.int IntKind.i64 (0 : Int)))], hp := [], nx := (0 : Nat) } Exit.ret { n := (19 : Nat), fr := [((4 : Nat), AV.v (Value.int IntKind.i64 k))], hp := [], nx := (0 : Nat) }]) : PureTo Tryd.prog 56 [.sl 1 (.avs [.sl 1 (.ints .u32 a) ta, .sl 1 (.ints .u32 b) tb]) true, .fnv (.func 52) [] []] (AV.v (Value.int IntKind.i64 k)) :=
  evFn_pure hm sok2 (fn := Tryd.f56) rfl rfl (ti := false) (hs := [CHint.loop [(0 : Nat), (1 : Nat), (4 : Nat), (6 : Nat), (7 : Nat), (8 : Nat)] [] (0 : Nat) Exit.ret { n := (19 : Nat), fr := [((4 : Nat), AV.v (Value.int IntKind.i64 k))], hp := [], nx := (0 : Nat) }]) (c := _) (by kernel_rfl) h

def at1 (a : List Int) : Int := if over a then 0 else -1

def at2 (a b : List Int) : Int := if over a then 0 else if over b then 1 else -1

theorem index1_pure (a : List Int) (ta : Bool) (ha : a.length < lim) : PureTo Tryd.prog 56 [.sl 1 (.avs [.sl 1 (.ints .u32 a) ta]) true, .fnv (.func 52) [] []] (.v (.int .i64 (at1 a))) := by
  unfold at1
  cases h : over a with
  | true => exact ixG11 a ta 0 ⟨.done (by simp) (ix1_0_1 a ta ⟨by simp, h, ha, trivial⟩), trivial⟩
  | false => exact ixF11 a ta ⟨.step (ix1_0_2 a ta ⟨by simp, h, ha, inR64 (by omega) (by omega), trivial⟩) (.done (by simp) (ix1_1_1 a ta trivial)), trivial⟩

theorem index2_pure (a b : List Int) (ta tb : Bool) (ha : a.length < lim) (hb : b.length < lim) : PureTo Tryd.prog 56 [.sl 1 (.avs [.sl 1 (.ints .u32 a) ta, .sl 1 (.ints .u32 b) tb]) true, .fnv (.func 52) [] []] (.v (.int .i64 (at2 a b))) := by
  unfold at2
  cases h : over a with
  | true => exact ixG21 a b ta tb 0 ⟨.done (by simp) (ix2_0_1 a b ta tb ⟨by simp, h, ha, trivial⟩), trivial⟩
  | false =>
    have s0 := ix2_0_2 a b ta tb ⟨by simp, h, ha, inR64 (by omega) (by omega), trivial⟩
    cases h2 : over b with
    | true => exact ixG21 a b ta tb 1 ⟨.step s0 (.done (by simp) (ix2_1_1 a b ta tb ⟨by simp, h2, hb, trivial⟩)), trivial⟩
    | false => exact ixF21 a b ta tb ⟨.step s0 (.step (ix2_1_2 a b ta tb ⟨by simp, h2, hb, inR64 (by omega) (by omega), trivial⟩) (.done (by simp) (ix2_2_1 a b ta tb trivial))), trivial⟩

def sigIndex : List AV → Option (AV × List Prop)
  | [.sl 1 (.avs [.sl 1 (.ints .u32 a) _]) true, .fnv (.func 52) [] []] => some (.v (.int .i64 (at1 a)), [a.length < lim])
  | [.sl 1 (.avs [.sl 1 (.ints .u32 a) _, .sl 1 (.ints .u32 b) _]) true, .fnv (.func 52) [] []] => some (.v (.int .i64 (at2 a b)), [a.length < lim, b.length < lim])
  | _ => none

def SG3 : SGT := (56, .p sigIndex) :: SG2

theorem sok3 : SigsOK Tryd.prog SG3 := by
  refine sigs_cons sok2 ?_
  intro ys r c h hc
  unfold sigIndex at h
  split at h
  · cases h; exact index1_pure _ _ hc.1
  · cases h; exact index2_pure _ _ _ _ hc.1 hc.2.1
  · cases h

theorem coF1 (a : List Int) (ta : Bool) (h : AllP [a.length < lim]) : PureTo Tryd.prog 51 [.sl 1 (.avs [.sl 1 (.ints .u32 a) ta]) true, .fnv (.func 52) [] []] (AV.v (Value.bool (decide (at1 a ≥ (0 : Int))))) :=
  evFn_pure hm sok3 (fn := Tryd.f51) rfl rfl (ti := false) (hs := []) (c := _) (by kernel_rfl) h
-- 1 paths

theorem coG1 (a b : List Int) (ta tb : Bool) (h : AllP [a.length < lim, b.length < lim]) : PureTo Tryd.prog 51 [.sl 1 (.avs [.sl 1 (.ints .u32 a) ta, .sl 1 (.ints .u32 b) tb]) true, .fnv (.func 52) [] []] (AV.v (Value.bool (decide (at2 a b ≥ (0 : Int))))) :=
  evFn_pure hm sok3 (fn := Tryd.f51) rfl rfl (ti := false) (hs := []) (c := _) (by kernel_rfl) h

theorem contains1_pure (a : List Int) (ta : Bool) (ha : a.length < lim) : PureTo Tryd.prog 51 [.sl 1 (.avs [.sl 1 (.ints .u32 a) ta]) true, .fnv (.func 52) [] []] (.v (.bool (over a))) := by
  have h := coF1 a ta ⟨ha, trivial⟩
  have e : decide (at1 a ≥ 0) = over a := by unfold at1; cases over a <;> simp
  rw [e] at h
  exact h

theorem contains2_pure (a b : List Int) (ta tb : Bool) (ha : a.length < lim) (hb : b.length < lim) : PureTo Tryd.prog 51 [.sl 1 (.avs [.sl 1 (.ints .u32 a) ta, .sl 1 (.ints .u32 b) tb]) true, .fnv (.func 52) [] []] (.v (.bool (over a || over b))) := by
  have h := coG1 a b ta tb ⟨ha, hb, trivial⟩
  have e : decide (at2 a b ≥ 0) = (over a || over b) := by unfold at2; cases over a <;> cases over b <;> simp
  rw [e] at h
  exact h

def sigContains : List AV → Option (AV × List Prop)
  | [.sl 1 (.avs [.sl 1 (.ints .u32 a) _]) true, .fnv (.func 52) [] []] => some (.v (.bool (over a)), [a.length < lim])
  | [.sl 1 (.avs [.sl 1 (.ints .u32 a) _, .sl 1 (.ints .u32 b) _]) true, .fnv (.func 52) [] []] => some (.v (.bool (over a || over b)), [a.length < lim, b.length < lim])
  | _ => none

def SG4 : SGT := (51, .p sigContains) :: SG3

theorem sok4 : SigsOK Tryd.prog SG4 := by
  refine sigs_cons sok3 ?_
  intro ys r c h hc
  unfold sigContains at h
  split at h
  · cases h; exact contains1_pure _ _ hc.1
  · cases h; exact contains2_pure _ _ _ _ hc.1 hc.2.1
  · cases h

theorem loF1 (a : List Int) (ta : Bool) (h : AllP [a.length < lim]) : PureTo Tryd.prog 31 [.sl 1 (.avs [.sl 1 (.ints .u32 a) ta]) true] (AV.v (Value.bool (over a))) :=
  evFn_pure hm sok4 (fn := Tryd.f31) rfl rfl (ti := false) (hs := []) (c := _) (by kernel_rfl) h

theorem loG1 (a b : List Int) (ta tb : Bool) (h : AllP [a.length < lim, b.length < lim]) : PureTo Tryd.prog 31 [.sl 1 (.avs [.sl 1 (.ints .u32 a) ta, .sl 1 (.ints .u32 b) tb]) true] (AV.v (Value.bool (over a || over b))) :=
  evFn_pure hm sok4 (fn := Tryd.f31) rfl rfl (ti := false) (hs := []) (c := _) (by kernel_rfl) h

def sigLongs : List AV → Option (AV × List Prop)
  | [.sl 1 (.avs [.sl 1 (.ints .u32 a) _]) true] => some (.v (.bool (over a)), [a.length < lim])
  | [.sl 1 (.avs [.sl 1 (.ints .u32 a) _, .sl 1 (.ints .u32 b) _]) true] => some (.v (.bool (over a || over b)), [a.length < lim, b.length < lim])
  | _ => none

def SG5 : SGT := (31, .p sigLongs) :: SG4

theorem sok5 : SigsOK Tryd.prog SG5 := by
  refine sigs_cons sok4 ?_
  intro ys r c h hc
  unfold sigLongs at h
  split at h
  · cases h; exact loF1 _ _ hc
  · cases h; exact loG1 _ _ _ _ hc
  · cases h

theorem mulI1 (a b o : List Int) (ta tb : Bool) (n i m k m2 fl : Nat) (c : Int) (h : AllP [decide ((↑k : Int) < (↑m2 : Int)) = true, (0 : Int) ≤ (↑i : Int) ∧ (↑i : Int) < (↑a.length : Int), inR IntKind.u64 (a.getD (↑i : Int).toNat (0 : Int)), (0 : Int) ≤ (↑k : Int) ∧ (↑k : Int) < (↑b.length : Int), inR IntKind.u64 (b.getD (↑k : Int).toNat (0 : Int)), inR IntKind.u64 (a.getD (↑i : Int).toNat (0 : Int) * b.getD (↑k : Int).toNat (0 : Int)), inR IntKind.i64 ((↑i : Int) + (↑k : Int)), (0 : Int) ≤ (↑i : Int) + (↑k : Int) ∧ (↑i : Int) + (↑k : Int) < (↑n : Int), fl ≤ n, inR IntKind.u64 (o.getD (ixPlus (0 : Nat) ((↑i : Int) + (↑k : Int)).toNat) (0 : Int)), inR IntKind.u64 (a.getD (↑i : Int).toNat (0 : Int) * b.getD (↑k : Int).toNat (0 : Int) + o.getD (ixPlus (0 : Nat) ((↑i : Int) + (↑k : Int)).toNat) (0 : Int)), inR IntKind.u64 (a.getD (↑i : Int).toNat (0 : Int) * b.getD (↑k : Int).toNat (0 : Int) + o.getD (ixPlus (0 : Nat) ((↑i : Int) + (↑k : Int)).toNat) (0 : Int) + c), inR IntKind.i64 ((↑i : Int) + (↑k : Int)), (0 : Int) ≤ (↑i : Int) + (↑k : Int) ∧ (↑i : Int) + (↑k : Int) < (↑n : Int), n = o.length, (0 : Int) ≤ (32 : Int), inR IntKind.i64 ((↑k : Int) + (1 : Int))]) : To Tryd.prog (loopAt Tryd.f30 1) (⟨79, [(0, .sl 1 (.ints .u32 a) ta), (1, .sl 1 (.ints .u32 b) tb), (6, .row 17 0 n n false), (7, .v (.int .i64 i)), (8, .v (.int .u64 c)), (26, .v (.int .i64 m)), (27, .v (.int .i64 i)), (31, .v (.int .i64 m2)), (32, .v (.int .i64 k))], [(17, .row 54 1 (.ints .u32 o) fl)], 18⟩) (.normal) { n := (79 : Nat), fr := [((0 : Nat), AV.sl (1 : Nat) (Seq.ints IntKind.u32 a) ta), ((1 : Nat), AV.sl (1 : Nat) (Seq.ints IntKind.u32 b) tb), ((6 : Nat), AV.row (17 : Nat) (0 : Nat) n n false), ((7 : Nat), AV.v (Value.int IntKind.i64 (↑i : Int))), ((8 : Nat), AV.v (Value.int IntKind.u64 ((a.getD (↑i : Int).toNat (0 : Int) * b.getD (↑k : Int).toNat (0 : Int) + o.getD (ixPlus (0 : Nat) ((↑i : Int) + (↑k : Int)).toNat) (0 : Int) + c) / ((2 : Int) ^ min (Int.toNat (32 : Int)) IntKind.u64.bits)))), ((26 : Nat), AV.v (Value.int IntKind.i64 (↑m : Int))), ((27 : Nat), AV.v (Value.int IntKind.i64 (↑i : Int))), ((31 : Nat), AV.v (Value.int IntKind.i64 (↑m2 : Int))), ((32 : Nat), AV.v (Value.int IntKind.i64 ((↑k : Int) + (1 : Int))))], hp := [((17 : Nat), AObj.row (54 : Nat) (1 : Nat) (Seq.ints IntKind.u32 (o.set (ixPlus (0 : Nat) ((↑i : Int) + (↑k : Int)).toNat) (IntKind.u32.wrap (a.getD (↑i : Int).toNat (0 : Int) * b.getD (↑k : Int).toNat (0 : Int) + o.getD (ixPlus (0 : Nat) ((↑i : Int) + (↑k : Int)).toNat) (0 : Int) + c)))) o.length)], nx := (18 : Nat) } :=
  evW_to hm sok5 (hs := [CHint.ops (nat_lit 10) [(nat_lit 0, Hint.b true)]]) (slots := [0,1,6,7,8,26,27,31,32]) (keys := [17]) (nx := 18) (c := _) (by kernel_rfl) h

theorem mulI2 (a b o : List Int) (ta tb : Bool) (n i m k m2 fl : Nat) (c : Int) (h : AllP [decide ((↑k : Int) < (↑m2 : Int)) = false]) : To Tryd.prog (loopAt Tryd.f30 1) (⟨79, [(0, .sl 1 (.ints .u32 a) ta), (1, .sl 1 (.ints .u32 b) tb), (6, .row 17 0 n n false), (7, .v (.int .i64 i)), (8, .v (.int .u64 c)), (26, .v (.int .i64 m)), (27, .v (.int .i64 i)), (31, .v (.int .i64 m2)), (32, .v (.int .i64 k))], [(17, .row 54 1 (.ints .u32 o) fl)], 18⟩) (Exit.exit (2 : Nat)) { n := (79 : Nat), fr := [((0 : Nat), AV.sl (1 : Nat) (Seq.ints IntKind.u32 a) ta), ((1 : Nat), AV.sl (1 : Nat) (Seq.ints IntKind.u32 b) tb), ((6 : Nat), AV.row (17 : Nat) (0 : Nat) n n false), ((7 : Nat), AV.v (Value.int IntKind.i64 (↑i : Int))), ((8 : Nat), AV.v (Value.int IntKind.u64 c)), ((26 : Nat), AV.v (Value.int IntKind.i64 (↑m : Int))), ((27 : Nat), AV.v (Value.int IntKind.i64 (↑i : Int)))], hp := [((17 : Nat), AObj.row (54 : Nat) (1 : Nat) (Seq.ints IntKind.u32 o) fl)], nx := (18 : Nat) } :=
  evW_to hm sok5 (hs := [CHint.ops (nat_lit 10) [(nat_lit 0, Hint.b false)]]) (slots := [0,1,6,7,8,26,27]) (keys := [17]) (nx := 18) (c := _) (by kernel_rfl) h
-- 2 paths

theorem mulO1 (a b o o2 : List Int) (ta tb : Bool) (n i m fl : Nat) (c : Int) (h : AllP [decide ((↑i : Int) < (↑m : Int)) = true, LoopTo Tryd.prog (loopAt Tryd.f30 (1 : Nat)) { n := (79 : Nat), fr := [((0 : Nat), AV.sl (1 : Nat) (Seq.ints IntKind.u32 a) ta), ((1 : Nat), AV.sl (1 : Nat) (Seq.ints IntKind.u32 b) tb), ((6 : Nat), AV.row (17 : Nat) (0 : Nat) n n false), ((7 : Nat), AV.v (Value.int IntKind.i64 (↑i : Int))), ((8 : Nat), AV.v (Value.int IntKind.u64 (0 : Int))), ((26 : Nat), AV.v (Value.int IntKind.i64 (↑m : Int))), ((27 : Nat), AV.v (Value.int IntKind.i64 (↑i : Int))), ((31 : Nat), AV.v (Value.int IntKind.i64 (↑b.length : Int))), ((32 : Nat), AV.v (Value.int IntKind.i64 (0 : Int)))], hp := [((17 : Nat), AObj.row (54 : Nat) (1 : Nat) (Seq.ints IntKind.u32 o) fl)], nx := (18 : Nat) } (Exit.exit (2 : Nat)) { n := (79 : Nat), fr := [((0 : Nat), AV.sl (1 : Nat) (Seq.ints IntKind.u32 a) ta), ((1 : Nat), AV.sl (1 : Nat) (Seq.ints IntKind.u32 b) tb), ((6 : Nat), AV.row (17 : Nat) (0 : Nat) n n false), ((7 : Nat), AV.v (Value.int IntKind.i64 (↑i : Int))), ((8 : Nat), AV.v (Value.int IntKind.u64 c)), ((26 : Nat), AV.v (Value.int IntKind.i64 (↑m : Int))), ((27 : Nat), AV.v (Value.int IntKind.i64 (↑i : Int)))], hp := [((17 : Nat), AObj.row (54 : Nat) (1 : Nat) (Seq.ints IntKind.u32 o2) n)], nx := (18 : Nat) }, inR IntKind.i64 ((↑i : Int) + (↑b.length : Int)), (0 : Int) ≤ (↑i : Int) + (↑b.length : Int) ∧ (↑i : Int) + (↑b.length : Int) < (↑n : Int), n = o2.length, inR IntKind.i64 ((↑i : Int) + (1 : Int))]) : To Tryd.prog (loopAt Tryd.f30 0) (⟨79, [(0, .sl 1 (.ints .u32 a) ta), (1, .sl 1 (.ints .u32 b) tb), (6, .row 17 0 n n false), (26, .v (.int .i64 m)), (27, .v (.int .i64 i))], [(17, .row 54 1 (.ints .u32 o) fl)], 18⟩) (.normal) { n := (79 : Nat), fr := [((0 : Nat), AV.sl (1 : Nat) (Seq.ints IntKind.u32 a) ta), ((1 : Nat), AV.sl (1 : Nat) (Seq.ints IntKind.u32 b) tb), ((6 : Nat), AV.row (17 : Nat) (0 : Nat) n n false), ((26 : Nat), AV.v (Value.int IntKind.i64 (↑m : Int))), ((27 : Nat), AV.v (Value.int IntKind.i64 ((↑i : Int) + (1 : Int))))], hp := [((17 : Nat), AObj.row (54 : Nat) (1 : Nat) (Seq.ints IntKind.u32 (o2.set (ixPlus (0 : Nat) ((↑i : Int) + (↑b.length : Int)).toNat) (IntKind.u32.wrap c))) o2.length)], nx := (18 : Nat) } :=
  evW_to hm sok5 (hs := [CHint.ops (nat_lit 6) [(nat_lit 0, Hint.b true)], CHint.loop [(0 : Nat), (1 : Nat), (6 : Nat), (7 : Nat), (8 : Nat), (26 : Nat), (27 : Nat), (31 : Nat), (32 : Nat)] [(17 : Nat)] (18 : Nat) (Exit.exit (2 : Nat)) { n := (79 : Nat), fr := [((0 : Nat), AV.sl (1 : Nat) (Seq.ints IntKind.u32 a) ta), ((1 : Nat), AV.sl (1 : Nat) (Seq.ints IntKind.u32 b) tb), ((6 : Nat), AV.row (17 : Nat) (0 : Nat) n n false), ((7 : Nat), AV.v (Value.int IntKind.i64 (↑i : Int))), ((8 : Nat), AV.v (Value.int IntKind.u64 c)), ((26 : Nat), AV.v (Value.int IntKind.i64 (↑m : Int))), ((27 : Nat), AV.v (Value.int IntKind.i64 (↑i : Int)))], hp := [((17 : Nat), AObj.row (54 : TypeId) (1 : Nat) (Seq.ints IntKind.u32 o2) n)], nx := (18 : Nat) }]) (slots := [0,1,6,26,27]) (keys := [17]) (nx := 18) (c := _) (by kernel_rfl) h

theorem mulO2 (a b o o2 : List Int) (ta tb : Bool) (n i m fl : Nat) (c : Int) (h : AllP [decide ((↑i : Int) < (↑m : Int)) = false]) : To Tryd.prog (loopAt Tryd.f30 0) (⟨79, [(0, .sl 1 (.ints .u32 a) ta), (1, .sl 1 (.ints .u32 b) tb), (6, .row 17 0 n n false), (26, .v (.int .i64 m)), (27, .v (.int .i64 i))], [(17, .row 54 1 (.ints .u32 o) fl)], 18⟩) (Exit.exit (0 : Nat)) { n := (79 : Nat), fr := [((6 : Nat), AV.row (17 : Nat) (0 : Nat) n n false)], hp := [((17 : Nat), AObj.row (54 : Nat) (1 : Nat) (Seq.ints IntKind.u32 o) fl)], nx := (18 : Nat) } :=
  evW_to hm sok5 (hs := [CHint.ops (nat_lit 6) [(nat_lit 0, Hint.b false)]]) (slots := [6]) (keys := [17]) (nx := 18) (c := _) (by kernel_rfl) h
-- 2 paths

theorem mulF1 (a b o : List Int) (ta tb : Bool) (n : Nat) (h : AllP [(over a || over b) = true, a.length < lim, b.length < lim]) : PureTo Tryd.prog 30 [.sl 1 (.ints .u32 a) ta, .sl 1 (.ints .u32 b) tb] (AV.tup [AV.sl (1 : Nat) (Seq.ints IntKind.u32 []) true, AV.v (Value.int IntKind.i64 (3 : Int))]) :=
  evFn_pure hm sok5 (fn := Tryd.f30) rfl rfl (ti := true) (hs := [CHint.ops (nat_lit 1) [(nat_lit 3, Hint.b true)]]) (c := _) (by kernel_rfl) h

theorem mulF2 (a b o : List Int) (ta tb : Bool) (n : Nat) (h : AllP [(over a || over b) = false, a.length < lim, b.length < lim, a.length < lim, b.length < lim, inR IntKind.i64 ((↑(norm a).length : Int) + (↑(norm b).length : Int)), (0 : Int) ≤ (↑(norm a).length : Int) + (↑(norm b).length : Int) ∧ (↑(norm a).length : Int) + (↑(norm b).length : Int) ≤ (↑(norm a).length : Int) + (↑(norm b).length : Int), ((↑(norm a).length : Int) + (↑(norm b).length : Int)) * (↑Tryd.prog.types[(54 : Nat)].bytes : Int) ≤ (281474976710656 : Int) ∧ (↑(norm a).length : Int) + (↑(norm b).length : Int) ≤ (9223372036854775807 : Int), LoopTo Tryd.prog (loopAt Tryd.f30 (0 : Nat)) { n := (79 : Nat), fr := [((0 : Nat), AV.sl (1 : Nat) (Seq.ints IntKind.u32 (norm a)) true), ((1 : Nat), AV.sl (1 : Nat) (Seq.ints IntKind.u32 (norm b)) true), ((6 : Nat), AV.row (17 : Nat) (0 : Nat) ((↑(norm a).length : Int) + (↑(norm b).length : Int)).toNat ((↑(norm a).length : Int) + (↑(norm b).length : Int)).toNat false), ((26 : Nat), AV.v (Value.int IntKind.i64 (↑(norm a).length : Int))), ((27 : Nat), AV.v (Value.int IntKind.i64 (0 : Int)))], hp := [((17 : Nat), AObj.row (54 : Nat) (1 : Nat) (Seq.ints IntKind.u32 (List.replicate ((↑(norm a).length : Int) + (↑(norm b).length : Int)).toNat (0 : Int))) (0 : Nat))], nx := (18 : Nat) } (Exit.exit (0 : Nat)) { n := (79 : Nat), fr := [((6 : Nat), AV.row (17 : Nat) (0 : Nat) n n false)], hp := [((17 : Nat), AObj.row (54 : Nat) (1 : Nat) (Seq.ints IntKind.u32 o) n)], nx := (18 : Nat) }, n = o.length, n ≤ n, o.length < lim]) : PureTo Tryd.prog 30 [.sl 1 (.ints .u32 a) ta, .sl 1 (.ints .u32 b) tb] (AV.tup [AV.sl (1 : Nat) (Seq.ints IntKind.u32 (toldL o)) true, AV.v (Value.int IntKind.i64 (toldE o))]) :=
  evFn_pure hm sok5 (fn := Tryd.f30) rfl rfl (ti := true) (hs := [CHint.ops (nat_lit 1) [(nat_lit 3, Hint.b false)], CHint.loop [(0 : Nat), (1 : Nat), (6 : Nat), (26 : Nat), (27 : Nat)] [(17 : Nat)] (18 : Nat) (Exit.exit (0 : Nat)) { n := (79 : Nat), fr := [((6 : Nat), AV.row (17 : Nat) (0 : Nat) n n false)], hp := [((17 : Nat), AObj.row (54 : TypeId) (1 : Nat) (Seq.ints IntKind.u32 o) n)], nx := (18 : Nat) }]) (c := _) (by kernel_rfl) h
-- 2 paths

theorem inRu64 {x : Int} (h0 : 0 ≤ x) (h1 : x < 18446744073709551616) : inR .u64 x := ⟨h0, by omega⟩

theorem wrap32 (x : Int) : IntKind.u32.wrap x = x % 4294967296 := by
  simp [IntKind.wrap, IntKind.signed, IntKind.bits]

theorem shr32 (x : Int) : x / ((2 : Int) ^ min (Int.toNat 32) IntKind.u64.bits) = x / 4294967296 := by
  have : (2 : Int) ^ min (Int.toNat 32) IntKind.u64.bits = 4294967296 := by decide
  rw [this]

theorem toNat_two (i k : Nat) : ((i : Int) + (k : Int)).toNat = i + k := by omega

theorem ix0 (j : Nat) : ixPlus 0 j = j := rfl

theorem bytes22 : (Tryd.prog.types[(54 : Nat)].bytes : Int) = 4 := by kernel_rfl

def mulSt (a b : List Int) (ta tb : Bool) (n i m : Nat) (o : List Int) (c : Int) (k : Nat) : AS := ⟨79, [(0, .sl 1 (.ints .u32 a) ta), (1, .sl 1 (.ints .u32 b) tb), (6, .row 17 0 n n false), (7, .v (.int .i64 i)), (8, .v (.int .u64 c)), (26, .v (.int .i64 m)), (27, .v (.int .i64 i)), (31, .v (.int .i64 b.length)), (32, .v (.int .i64 k))], [(17, .row 54 1 (.ints .u32 o) n)], 18⟩

theorem mul_inner (a b : List Int) (ta tb : Bool) (n i m : Nat) (ha : Words a) (hb : Words b) (hi : i < a.length) (hn : n < lim) (hin : i + b.length < n) : ∀ (f k : Nat) (o : List Int) (c : Int), k + f = b.length → o.length = n → Words o → (0 ≤ c ∧ c < 4294967296) →
    LoopTo Tryd.prog (loopAt Tryd.f30 1) (mulSt a b ta tb n i m o c k) (.exit 2)
      ⟨79, [(0, .sl 1 (.ints .u32 a) ta), (1, .sl 1 (.ints .u32 b) tb), (6, .row 17 0 n n false), (7, .v (.int .i64 i)), (8, .v (.int .u64 (rowMul (a.getD i 0) b i f k o c).2)), (26, .v (.int .i64 m)), (27, .v (.int .i64 i))], [(17, .row 54 1 (.ints .u32 (rowMul (a.getD i 0) b i f k o c).1) n)], 18⟩ := by
  unfold lim at hn
  intro f
  induction f with
  | zero =>
    intro k o c hk hl ho hc
    exact .done (by simp) (mulI2 a b o ta tb n i m k b.length n c ⟨by simp; omega, trivial⟩)
  | succ f ih =>
    intro k o c hk hl ho hc
    have hx := words_getD ha i
    have hy := words_getD hb k
    have hz := words_getD ho (i + k)
    have hs := sum_bound hx hy hz hc
    have h1 := mulI1 a b o ta tb n i m k b.length n c (by
      rw [toNat_two, Int.toNat_natCast, Int.toNat_natCast, ix0]
      exact ⟨by simp; omega, by omega, inRu64 (by omega) (by omega), by omega, inRu64 (by omega) (by omega), inRu64 hs.1 (by omega), inR64 (by omega) (by omega), by omega, Nat.le_refl _, inRu64 (by omega) (by omega), inRu64 (by omega) (by omega), inRu64 hs.2.2.1 hs.2.2.2,
        inR64 (by omega) (by omega), by omega, hl.symm, by omega, inR64 (by omega) (by omega), trivial⟩)
    rw [toNat_two, Int.toNat_natCast, Int.toNat_natCast, ix0, wrap32, shr32, hl] at h1
    refine .step h1 ?_
    have h2 := ih (k + 1) (o.set (i + k) ((a.getD i 0 * b.getD k 0 + o.getD (i + k) 0 + c) % 4294967296)) ((a.getD i 0 * b.getD k 0 + o.getD (i + k) 0 + c) / 4294967296) (by omega) (by simpa using hl) (words_set ho _ (by omega) (by omega)) (by omega)
    exact h2

theorem mul_outer (a b : List Int) (ta tb : Bool) (n : Nat) (ha : Words a) (hb : Words b) (hn : n < lim) (hl : n = a.length + b.length) : ∀ (f i : Nat) (o : List Int), i + f = a.length → o.length = n → Words o →
    LoopTo Tryd.prog (loopAt Tryd.f30 0) ⟨79, [(0, .sl 1 (.ints .u32 a) ta), (1, .sl 1 (.ints .u32 b) tb), (6, .row 17 0 n n false), (26, .v (.int .i64 a.length)), (27, .v (.int .i64 i))], [(17, .row 54 1 (.ints .u32 o) n)], 18⟩ (.exit 0)
      ⟨79, [(6, .row 17 0 n n false)], [(17, .row 54 1 (.ints .u32 (mulRows a b f i o)) n)], 18⟩ := by
  intro f
  induction f with
  | zero =>
    intro i o hi ho hw
    exact .done (by simp) (mulO2 a b o o ta tb n i a.length n 0 ⟨by simp; omega, trivial⟩)
  | succ f ih =>
    intro i o hi ho hw
    have hx := words_getD ha i
    have hrow := rowMul_is (a.getD i 0) b i hx hb b.length 0 o 0 hw (by omega) (by omega) (by omega)
    have hin := mul_inner a b ta tb n i a.length ha hb (by omega) hn (by omega) b.length 0 o 0 (by omega) ho hw (by omega)
    have hlen := hrow.length
    have hn' := hn
    unfold lim at hn'
    have h1 := mulO1 a b o (rowMul (a.getD i 0) b i b.length 0 o 0).1 ta tb n i a.length n (rowMul (a.getD i 0) b i b.length 0 o 0).2 ⟨by simp; omega, hin, inR64 (by omega) (by omega), by omega, by omega, inR64 (by omega) (by omega), trivial⟩
    have hc := hrow.carry
    have hmod : (rowMul (a.getD i 0) b i b.length 0 o 0).2 % 4294967296 = (rowMul (a.getD i 0) b i b.length 0 o 0).2 := by omega
    rw [toNat_two, ix0, wrap32, hmod, hlen, ho] at h1
    exact .step h1 (ih (i + 1) _ (by omega) (by rw [List.length_set]; omega) (words_set hrow.words _ hc.1 hc.2))

/-- the words of a product, and whether it may be -/
def mulL (a b : List Int) : List Int := if over a || over b then [] else toldL (mulWords (norm a) (norm b) ((norm a).length + (norm b).length))

def mulE (a b : List Int) : Int := if over a || over b then 3 else toldE (mulWords (norm a) (norm b) ((norm a).length + (norm b).length))

theorem mul_pure (a b : List Int) (ta tb : Bool) (ha : Words a) (hb : Words b) (hla : a.length < lim) (hlb : b.length < lim) : PureTo Tryd.prog 30 [.sl 1 (.ints .u32 a) ta, .sl 1 (.ints .u32 b) tb] (.tup [.sl 1 (.ints .u32 (mulL a b)) true, .v (.int .i64 (mulE a b))]) := by
  unfold mulL mulE
  cases ho : over a || over b with
  | true => exact mulF1 a b [] ta tb 0 ⟨ho, hla, hlb, trivial⟩
  | false =>
    simp only [Bool.or_eq_false_iff] at ho
    have h1 : (norm a).length ≤ 1024 := by have := ho.1; unfold over at this; simpa using this
    have h2 : (norm b).length ≤ 1024 := by have := ho.2; unfold over at this; simpa using this
    have hz : Words (List.replicate ((norm a).length + (norm b).length) (0 : Int)) := fun x hx => by
      have := (List.mem_replicate.1 hx).2
      omega
    obtain ⟨g1, g2, g3⟩ := mulWords_is (norm a) (norm b) (words_norm ha) (words_norm hb) ((norm a).length + (norm b).length) (Nat.le_refl _)
    have hloop := mul_outer (norm a) (norm b) true true ((norm a).length + (norm b).length) (words_norm ha) (words_norm hb) (by unfold lim; omega) rfl (norm a).length 0 (List.replicate ((norm a).length + (norm b).length) 0) (by omega) (by simp) hz
    have h := mulF2 a b (mulWords (norm a) (norm b) ((norm a).length + (norm b).length)) ta tb ((norm a).length + (norm b).length) (by
      rw [toNat_two, bytes22]
      exact ⟨by simp [ho], hla, hlb, hla, hlb, inR64 (by omega) (by omega), by omega, by omega, .raise (by
        have e : (List.replicate ((norm a).length + (norm b).length) (0 : Int)).length = (norm a).length + (norm b).length := by simp
        show LoopTo _ _ ⟨_, _, [(17, .row 54 1 (.ints .u32 (List.replicate ((norm a).length + (norm b).length) 0)) (List.replicate ((norm a).length + (norm b).length) (0 : Int)).length)], _⟩ _ _
        rw [e]
        exact hloop), g2.symm, Nat.le_refl _, by rw [g2]; unfold lim; omega, trivial⟩)
    exact h

theorem over_big {a : List Int} (h : Words a) : over a = big (nat a) := by unfold over big; rw [norm_eq h]

def Mul (m n : Nat) : List Int × Int := if big m || big n || big (m * n) then ([], 3) else (dig (m * n), 0)

theorem mul_num {a b : List Int} (ha : Words a) (hb : Words b) : (mulL a b, mulE a b) = Mul (nat a) (nat b) := by
  obtain ⟨g1, g2, g3⟩ := mulWords_is (norm a) (norm b) (words_norm ha) (words_norm hb) ((norm a).length + (norm b).length) (Nat.le_refl _)
  rw [nat_norm, nat_norm] at g3
  unfold mulL mulE Mul toldL toldE
  rw [over_big ha, over_big hb, over_big g1, g3, norm_eq g1, g3]
  cases big (nat a) <;> cases big (nat b) <;> cases big (nat a * nat b) <;> simp

theorem mul_pure' (a b : List Int) (ta tb : Bool) (ha : Words a) (hb : Words b) (hla : a.length < lim) (hlb : b.length < lim) : PureTo Tryd.prog 30 [.sl 1 (.ints .u32 a) ta, .sl 1 (.ints .u32 b) tb] (.tup [.sl 1 (.ints .u32 (Mul (nat a) (nat b)).1) true, .v (.int .i64 (Mul (nat a) (nat b)).2)]) := by
  have h := mul_pure a b ta tb ha hb hla hlb
  rw [← mul_num ha hb]
  exact h

def sigMul : List AV → Option (AV × List Prop)
  | [.sl 1 (.ints .u32 a) _, .sl 1 (.ints .u32 b) _] => some (.tup [.sl 1 (.ints .u32 (Mul (nat a) (nat b)).1) true, .v (.int .i64 (Mul (nat a) (nat b)).2)], [Words a, Words b, a.length < lim, b.length < lim])
  | _ => none

def SG6 : SGT := (30, .p sigMul) :: SG5

theorem sok6 : SigsOK Tryd.prog SG6 := by
  refine sigs_cons sok5 ?_
  · intro ys r c h hc
    unfold sigMul at h
    split at h
    · cases h; exact mul_pure' _ _ _ _ hc.1 hc.2.1 hc.2.2.1 hc.2.2.2.1
    · cases h


theorem awakeF1  (h : AllP [Words [(4294967295 : Int)], Words [(4294967295 : Int)], [(4294967295 : Int)].length < lim, [(4294967295 : Int)].length < lim, (0 : Int) ≤ (0 : Int) ∧ (0 : Int) < (↑(Bd.Mul (nat [(4294967295 : Int)]) (nat [(4294967295 : Int)])).fst.length : Int), (0 : Int) ≤ (1 : Int) ∧ (1 : Int) < (↑(Bd.Mul (nat [(4294967295 : Int)]) (nat [(4294967295 : Int)])).fst.length : Int)]) : PureTo Tryd.prog 12 [] (AV.v (Value.bool true)) :=
  evFn_pure hm sok6 (fn := Tryd.f12) rfl rfl (ti := false) (hs := []) (c := _) (by kernel_rfl) h

section

variable (x n : Int) (hx : 2 ≤ x ∧ x < 4294967296) (hn : n ≤ 9223372036854775807)
  include hx

end

theorem awake_pure : PureTo Tryd.prog 12 [] (.v (.bool true)) :=
  awakeF1 ⟨words_one (by omega), words_one (by omega), by unfold lim; simp, by unfold lim; simp, by
    have : (Mul (nat [4294967295]) (nat [4294967295])).1.length = 2 := by decide +kernel
    rw [this]; omega, by
    have : (Mul (nat [4294967295]) (nat [4294967295])).1.length = 2 := by decide +kernel
    rw [this]; omega, trivial⟩

def sigAwake : List AV → Option (AV × List Prop)
  | [] => some (.v (.bool true), [])
  | _ => none

def SG7 : SGT := (12, .p sigAwake) :: SG6

theorem sok7 : SigsOK Tryd.prog SG7 := by
  refine sigs_cons sok6 ?_
  · intro ys r c h hc
    unfold sigAwake at h
    split at h
    · cases h; exact awake_pure
    · cases h


def bnW8tab0 : ByteArray := { data := (([(0 : UInt8), (1 : UInt8), (2 : UInt8), (2 : UInt8), (3 : UInt8), (3 : UInt8), (3 : UInt8), (3 : UInt8), (4 : UInt8), (4 : UInt8), (4 : UInt8), (4 : UInt8), (4 : UInt8), (4 : UInt8), (4 : UInt8), (4 : UInt8), (5 : UInt8), (5 : UInt8), (5 : UInt8), (5 : UInt8), (5 : UInt8), (5 : UInt8), (5 : UInt8), (5 : UInt8), (5 : UInt8), (5 : UInt8), (5 : UInt8), (5 : UInt8), (5 : UInt8), (5 : UInt8), (5 : UInt8), (5 : UInt8), (6 : UInt8), (6 : UInt8), (6 : UInt8), (6 : UInt8), (6 : UInt8), (6 : UInt8), (6 : UInt8), (6 : UInt8), (6 : UInt8), (6 : UInt8), (6 : UInt8), (6 : UInt8), (6 : UInt8), (6 : UInt8), (6 : UInt8), (6 : UInt8), (6 : UInt8), (6 : UInt8), (6 : UInt8), (6 : UInt8), (6 : UInt8), (6 : UInt8), (6 : UInt8), (6 : UInt8), (6 : UInt8), (6 : UInt8), (6 : UInt8), (6 : UInt8), (6 : UInt8), (6 : UInt8), (6 : UInt8), (6 : UInt8)].append [(7 : UInt8), (7 : UInt8), (7 : UInt8), (7 : UInt8), (7 : UInt8), (7 : UInt8), (7 : UInt8), (7 : UInt8), (7 : UInt8), (7 : UInt8), (7 : UInt8), (7 : UInt8), (7 : UInt8), (7 : UInt8), (7 : UInt8), (7 : UInt8), (7 : UInt8), (7 : UInt8), (7 : UInt8), (7 : UInt8), (7 : UInt8), (7 : UInt8), (7 : UInt8), (7 : UInt8), (7 : UInt8), (7 : UInt8), (7 : UInt8), (7 : UInt8), (7 : UInt8), (7 : UInt8), (7 : UInt8), (7 : UInt8), (7 : UInt8), (7 : UInt8), (7 : UInt8), (7 : UInt8), (7 : UInt8), (7 : UInt8), (7 : UInt8), (7 : UInt8), (7 : UInt8), (7 : UInt8), (7 : UInt8), (7 : UInt8), (7 : UInt8), (7 : UInt8), (7 : UInt8), (7 : UInt8), (7 : UInt8), (7 : UInt8), (7 : UInt8), (7 : UInt8), (7 : UInt8), (7 : UInt8), (7 : UInt8), (7 : UInt8), (7 : UInt8), (7 : UInt8), (7 : UInt8), (7 : UInt8), (7 : UInt8), (7 : UInt8), (7 : UInt8), (7 : UInt8)]).append ([(8 : UInt8), (8 : UInt8), (8 : UInt8), (8 : UInt8), (8 : UInt8), (8 : UInt8), (8 : UInt8), (8 : UInt8), (8 : UInt8), (8 : UInt8), (8 : UInt8), (8 : UInt8), (8 : UInt8), (8 : UInt8), (8 : UInt8), (8 : UInt8), (8 : UInt8), (8 : UInt8), (8 : UInt8), (8 : UInt8), (8 : UInt8), (8 : UInt8), (8 : UInt8), (8 : UInt8), (8 : UInt8), (8 : UInt8), (8 : UInt8), (8 : UInt8), (8 : UInt8), (8 : UInt8), (8 : UInt8), (8 : UInt8), (8 : UInt8), (8 : UInt8), (8 : UInt8), (8 : UInt8), (8 : UInt8), (8 : UInt8), (8 : UInt8), (8 : UInt8), (8 : UInt8), (8 : UInt8), (8 : UInt8), (8 : UInt8), (8 : UInt8), (8 : UInt8), (8 : UInt8), (8 : UInt8), (8 : UInt8), (8 : UInt8), (8 : UInt8), (8 : UInt8), (8 : UInt8), (8 : UInt8), (8 : UInt8), (8 : UInt8), (8 : UInt8), (8 : UInt8), (8 : UInt8), (8 : UInt8), (8 : UInt8), (8 : UInt8), (8 : UInt8), (8 : UInt8)].append [(8 : UInt8), (8 : UInt8), (8 : UInt8), (8 : UInt8), (8 : UInt8), (8 : UInt8), (8 : UInt8), (8 : UInt8), (8 : UInt8), (8 : UInt8), (8 : UInt8), (8 : UInt8), (8 : UInt8), (8 : UInt8), (8 : UInt8), (8 : UInt8), (8 : UInt8), (8 : UInt8), (8 : UInt8), (8 : UInt8), (8 : UInt8), (8 : UInt8), (8 : UInt8), (8 : UInt8), (8 : UInt8), (8 : UInt8), (8 : UInt8), (8 : UInt8), (8 : UInt8), (8 : UInt8), (8 : UInt8), (8 : UInt8), (8 : UInt8), (8 : UInt8), (8 : UInt8), (8 : UInt8), (8 : UInt8), (8 : UInt8), (8 : UInt8), (8 : UInt8), (8 : UInt8), (8 : UInt8), (8 : UInt8), (8 : UInt8), (8 : UInt8), (8 : UInt8), (8 : UInt8), (8 : UInt8), (8 : UInt8), (8 : UInt8), (8 : UInt8), (8 : UInt8), (8 : UInt8), (8 : UInt8), (8 : UInt8), (8 : UInt8), (8 : UInt8), (8 : UInt8), (8 : UInt8), (8 : UInt8), (8 : UInt8), (8 : UInt8), (8 : UInt8), (8 : UInt8)])).toArray }
-- 3 paths

theorem atF1 (a : List Int) (ta : Bool) (i : Int) (h : AllP [decide (i < (0 : Int)) = true]) : PureTo Tryd.prog 26 [.sl 1 (.ints .u32 a) ta, .v (.int .i64 i)] (AV.v (.int .u64 (0 : Int))) :=
  evFn_pure hm sok7 (fn := Tryd.f26) rfl rfl (ti := false) (hs := [CHint.ops 1 [(1, Hint.b true)]]) (c := _) (by kernel_rfl) h

theorem atF2 (a : List Int) (ta : Bool) (i : Int) (h : AllP [decide (i < (0 : Int)) = false, decide (i ≥ (↑a.length : Int)) = true]) : PureTo Tryd.prog 26 [.sl 1 (.ints .u32 a) ta, .v (.int .i64 i)] (AV.v (.int .u64 (0 : Int))) :=
  evFn_pure hm sok7 (fn := Tryd.f26) rfl rfl (ti := false) (hs := [CHint.ops 1 [(1, Hint.b false), (6, Hint.b true)]]) (c := _) (by kernel_rfl) h

theorem atF3 (a : List Int) (ta : Bool) (i : Int) (h : AllP [decide (i < (0 : Int)) = false, decide (i ≥ (↑a.length : Int)) = false, (0 : Int) ≤ i ∧ i < (↑a.length : Int), inR IntKind.u64 (a.getD i.toNat (0 : Int))]) : PureTo Tryd.prog 26 [.sl 1 (.ints .u32 a) ta, .v (.int .i64 i)] (AV.v (.int .u64 (a.getD i.toNat (0 : Int)))) :=
  evFn_pure hm sok7 (fn := Tryd.f26) rfl rfl (ti := false) (hs := [CHint.ops 1 [(1, Hint.b false), (6, Hint.b false)]]) (c := _) (by kernel_rfl) h
-- 2 paths

theorem wordF1 (a : List Int) (ta : Bool) (i : Int) (h : AllP [decide (i < (↑a.length : Int)) = true, (0 : Int) ≤ i ∧ i < (↑a.length : Int), inR IntKind.u64 (a.getD i.toNat (0 : Int))]) : PureTo Tryd.prog 50 [.sl 1 (.ints .u32 a) ta, .v (.int .i64 i)] (AV.v (.int .u64 (a.getD i.toNat (0 : Int)))) :=
  evFn_pure hm sok7 (fn := Tryd.f50) rfl rfl (ti := false) (hs := [CHint.ops 1 [(3, Hint.b true)]]) (c := _) (by kernel_rfl) h

theorem wordF2 (a : List Int) (ta : Bool) (i : Int) (h : AllP [decide (i < (↑a.length : Int)) = false]) : PureTo Tryd.prog 50 [.sl 1 (.ints .u32 a) ta, .v (.int .i64 i)] (AV.v (.int .u64 (0 : Int))) :=
  evFn_pure hm sok7 (fn := Tryd.f50) rfl rfl (ti := false) (hs := [CHint.ops 1 [(3, Hint.b false)]]) (c := _) (by kernel_rfl) h
-- 1 paths

theorem cloneF1 (a : List Int) (ta : Bool) (h : AllP [0 < a.length, 1 ≤ a.length, ([] ++ a).length * 4 ≤ 140737488355328, ([] ++ a).length = ([] ++ a).length, 0 ≤ ([] ++ a).length]) : PureTo Tryd.prog 42 [.sl 1 (.ints .u32 a) ta] (AV.sl 1 (.ints .u32 ([] ++ a)) false) :=
  evFn_pure hm sok7 (fn := Tryd.f42) rfl rfl (ti := false) (hs := []) (c := _) (by kernel_rfl) h
-- 1 paths

theorem cloneN1  (h : AllP []) : PureTo Tryd.prog 42 [.v (.slice none 0 0)] (AV.sl 1 (.ints .u32 []) false) :=
  evFn_pure hm sok7 (fn := Tryd.f42) rfl rfl (ti := false) (hs := []) (c := _) (by kernel_rfl) h
-- 1 paths

theorem cloneE1  (h : AllP []) : PureTo Tryd.prog 42 [.sle] (AV.sl 1 (.ints .u32 []) false) :=
  evFn_pure hm sok7 (fn := Tryd.f42) rfl rfl (ti := false) (hs := []) (c := _) (by kernel_rfl) h
-- 4 paths

theorem len32F1 (x : Int) (h : AllP [decide (x ≥ (65536 : Int)) = true, (0 : Int) ≤ (16 : Int), decide (x / (65536 : Int) ≥ (256 : Int)) = true, (0 : Int) ≤ (8 : Int), inR IntKind.i64 (24 : Int), (0 : Int) ≤ x / (65536 : Int) / (256 : Int) % (256 : Int) ∧ x / (65536 : Int) / (256 : Int) % (256 : Int) < (256 : Int), inR IntKind.i64 (byteAt bnW8tab0 (x / (65536 : Int) / (256 : Int) % (256 : Int)).toNat), inR IntKind.i64 ((24 : Int) + byteAt bnW8tab0 (x / (65536 : Int) / (256 : Int) % (256 : Int)).toNat)]) : PureTo Tryd.prog 40 [.v (.int .u32 x)] (AV.v (.int .i64 ((24 : Int) + byteAt bnW8tab0 (x / (65536 : Int) / (256 : Int) % (256 : Int)).toNat))) :=
  evFn_pure hm sok7 (fn := Tryd.f40) rfl rfl (ti := false) (hs := [CHint.ops 1 [(1, Hint.b true)], CHint.ops 4 [(1, Hint.b true)]]) (c := _) (by kernel_rfl) h

theorem len32F2 (x : Int) (h : AllP [decide (x ≥ (65536 : Int)) = true, (0 : Int) ≤ (16 : Int), decide (x / (65536 : Int) ≥ (256 : Int)) = false, (0 : Int) ≤ x / (65536 : Int) % (256 : Int) ∧ x / (65536 : Int) % (256 : Int) < (256 : Int), inR IntKind.i64 (byteAt bnW8tab0 (x / (65536 : Int) % (256 : Int)).toNat), inR IntKind.i64 ((16 : Int) + byteAt bnW8tab0 (x / (65536 : Int) % (256 : Int)).toNat)]) : PureTo Tryd.prog 40 [.v (.int .u32 x)] (AV.v (.int .i64 ((16 : Int) + byteAt bnW8tab0 (x / (65536 : Int) % (256 : Int)).toNat))) :=
  evFn_pure hm sok7 (fn := Tryd.f40) rfl rfl (ti := false) (hs := [CHint.ops 1 [(1, Hint.b true)], CHint.ops 4 [(1, Hint.b false)]]) (c := _) (by kernel_rfl) h

theorem len32F3 (x : Int) (h : AllP [decide (x ≥ (65536 : Int)) = false, decide (x ≥ (256 : Int)) = true, (0 : Int) ≤ (8 : Int), inR IntKind.i64 (8 : Int), (0 : Int) ≤ x / (256 : Int) % (256 : Int) ∧ x / (256 : Int) % (256 : Int) < (256 : Int), inR IntKind.i64 (byteAt bnW8tab0 (x / (256 : Int) % (256 : Int)).toNat), inR IntKind.i64 ((8 : Int) + byteAt bnW8tab0 (x / (256 : Int) % (256 : Int)).toNat)]) : PureTo Tryd.prog 40 [.v (.int .u32 x)] (AV.v (.int .i64 ((8 : Int) + byteAt bnW8tab0 (x / (256 : Int) % (256 : Int)).toNat))) :=
  evFn_pure hm sok7 (fn := Tryd.f40) rfl rfl (ti := false) (hs := [CHint.ops 1 [(1, Hint.b false)], CHint.ops 4 [(1, Hint.b true)]]) (c := _) (by kernel_rfl) h

theorem len32F4 (x : Int) (h : AllP [decide (x ≥ (65536 : Int)) = false, decide (x ≥ (256 : Int)) = false, (0 : Int) ≤ x % (256 : Int) ∧ x % (256 : Int) < (256 : Int), inR IntKind.i64 (byteAt bnW8tab0 (x % (256 : Int)).toNat), inR IntKind.i64 ((0 : Int) + byteAt bnW8tab0 (x % (256 : Int)).toNat)]) : PureTo Tryd.prog 40 [.v (.int .u32 x)] (AV.v (.int .i64 ((0 : Int) + byteAt bnW8tab0 (x % (256 : Int)).toNat))) :=
  evFn_pure hm sok7 (fn := Tryd.f40) rfl rfl (ti := false) (hs := [CHint.ops 1 [(1, Hint.b false)], CHint.ops 4 [(1, Hint.b false)]]) (c := _) (by kernel_rfl) h
-- 1 paths

theorem ofF1 (x : Int) (h : AllP [(0 : Int) ≤ (32 : Int), [x % (4294967296 : Int), x / (4294967296 : Int) % (4294967296 : Int)].length < lim]) : PureTo Tryd.prog 21 [.v (.int .u64 x)] (AV.sl 1 (.ints .u32 (norm [x % (4294967296 : Int), x / (4294967296 : Int) % (4294967296 : Int)])) true) :=
  evFn_pure hm sok7 (fn := Tryd.f21) rfl rfl (ti := true) (hs := []) (c := _) (by kernel_rfl) h
-- 1 paths

theorem rofF1 (x : Int) (h : AllP [(0 : Int) ≤ (32 : Int), [x % (4294967296 : Int), x / (4294967296 : Int) % (4294967296 : Int)].length ≤ lim4]) : PureTo Tryd.prog 22 [.v (.int .u64 x)] (AV.sl 1 (.ints .u32 (norm [x % (4294967296 : Int), x / (4294967296 : Int) % (4294967296 : Int)])) false) :=
  evFn_pure hm sok7 (fn := Tryd.f22) rfl rfl (ti := false) (hs := []) (c := _) (by kernel_rfl) h
-- 4 paths

theorem rbitsL0_1 (a : List Int) (ta : Bool) (x0 : Int) (x1 : Int) (h : AllP [decide (x1 > (0 : Int)) = true, inR IntKind.i64 (x0 + (1 : Int)), (0 : Int) ≤ (1 : Int)]) : To Tryd.prog (loopAt Tryd.f47 0) ({ n := 28, fr := [(4, AV.v (.int .i64 x0)), (5, AV.v (.int .u32 x1))], hp := [], nx := 0 }) (.normal) { n := 28, fr := [(4, AV.v (.int .i64 (x0 + (1 : Int)))), (5, AV.v (.int .u32 (x1 / (2 : Int))))], hp := [], nx := 0 } :=
  evW_to hm sok7 (hs := [CHint.ops 6 [(1, Hint.b true)]]) (slots := [4, 5]) (keys := []) (nx := 0) (c := _) (by kernel_rfl) h

theorem rbitsL0_2 (a : List Int) (ta : Bool) (x0 : Int) (x1 : Int) (h : AllP [decide (x1 > (0 : Int)) = false]) : To Tryd.prog (loopAt Tryd.f47 0) ({ n := 28, fr := [(4, AV.v (.int .i64 x0)), (5, AV.v (.int .u32 x1))], hp := [], nx := 0 }) (Exit.exit 0) { n := 28, fr := [(4, AV.v (.int .i64 x0))], hp := [], nx := 0 } :=
  evW_to hm sok7 (hs := [CHint.ops 6 [(1, Hint.b false)]]) (slots := [4]) (keys := []) (nx := 0) (c := _) (by kernel_rfl) h
-- 2 paths

theorem rbitsF1 (a : List Int) (ta : Bool) (x2 : Int) (h : AllP [a.length ≤ lim4, ((↑(norm a).length : Int) == (0 : Int)) = true]) : PureTo Tryd.prog 47 [.sl 1 (.ints .u32 a) ta] (AV.v (.int .i64 (0 : Int))) :=
  evFn_pure hm sok7 (fn := Tryd.f47) rfl rfl (ti := false) (hs := [CHint.ops 2 [(2, Hint.b true)]]) (c := _) (by kernel_rfl) h

theorem rbitsF2 (a : List Int) (ta : Bool) (x2 : Int) (h : AllP [a.length ≤ lim4, ((↑(norm a).length : Int) == (0 : Int)) = false, inR IntKind.i64 ((↑(norm a).length : Int) - (1 : Int)), inR IntKind.i64 ((32 : Int) * ((↑(norm a).length : Int) - (1 : Int))), inR IntKind.i64 ((↑(norm a).length : Int) - (1 : Int)), (0 : Int) ≤ (↑(norm a).length : Int) - (1 : Int) ∧ (↑(norm a).length : Int) - (1 : Int) < (↑(norm a).length : Int), LoopTo Tryd.prog (loopAt Tryd.f47 0) { n := 28, fr := [(4, AV.v (.int .i64 ((32 : Int) * ((↑(norm a).length : Int) - (1 : Int))))), (5, AV.v (.int .u32 ((norm a).getD ((↑(norm a).length : Int) - (1 : Int)).toNat (0 : Int))))], hp := [], nx := 0 } (Exit.exit 0) { n := 28, fr := [(4, AV.v (.int .i64 x2))], hp := [], nx := 0 }]) : PureTo Tryd.prog 47 [.sl 1 (.ints .u32 a) ta] (AV.v (.int .i64 x2)) :=
  evFn_pure hm sok7 (fn := Tryd.f47) rfl rfl (ti := false) (hs := [CHint.ops 2 [(2, Hint.b false)], CHint.loop [4, 5] [] 0 (Exit.exit 0) { n := 28, fr := [(4, AV.v (.int .i64 x2))], hp := [], nx := 0 }]) (c := _) (by kernel_rfl) h
-- 2 paths

theorem at_pure (a : List Int) (ta : Bool) (i : Int) (h : Words a) : PureTo Tryd.prog 26 [.sl 1 (.ints .u32 a) ta, .v (.int .i64 i)] (.v (.int .u64 (wd a i))) := by
  unfold wd
  by_cases h0 : 0 ≤ i
  · rw [if_pos h0]
    by_cases h1 : i < a.length
    · have := words_getD h i.toNat
      exact atF3 a ta i (by simp only [AllP, inR, decide_eq_false_iff_not, decide_eq_true_eq, bne_iff_ne, beq_iff_eq, ne_eq, bne_eq_false_iff_eq, beq_eq_false_iff_ne]; (repeat' apply And.intro) <;> first | omega | exact trivial)
    · have e : a.getD i.toNat 0 = 0 := getD_out (by omega)
      rw [e]
      exact atF2 a ta i (by simp only [AllP, inR, decide_eq_false_iff_not, decide_eq_true_eq, bne_iff_ne, beq_iff_eq, ne_eq, bne_eq_false_iff_eq, beq_eq_false_iff_ne]; (repeat' apply And.intro) <;> first | omega | exact trivial)
  · rw [if_neg h0]
    exact atF1 a ta i (by simp only [AllP, inR, decide_eq_false_iff_not, decide_eq_true_eq, bne_iff_ne, beq_iff_eq, ne_eq, bne_eq_false_iff_eq, beq_eq_false_iff_ne]; (repeat' apply And.intro) <;> first | omega | exact trivial)

theorem word_pure (a : List Int) (ta : Bool) (i : Int) (h : Words a) (h0 : 0 ≤ i) : PureTo Tryd.prog 50 [.sl 1 (.ints .u32 a) ta, .v (.int .i64 i)] (.v (.int .u64 (wd a i))) := by
  unfold wd
  rw [if_pos h0]
  by_cases h1 : i < a.length
  · have := words_getD h i.toNat
    exact wordF1 a ta i (by simp only [AllP, inR, decide_eq_false_iff_not, decide_eq_true_eq, bne_iff_ne, beq_iff_eq, ne_eq, bne_eq_false_iff_eq, beq_eq_false_iff_ne]; (repeat' apply And.intro) <;> first | omega | exact trivial)
  · have e : a.getD i.toNat 0 = 0 := getD_out (by omega)
    rw [e]
    exact wordF2 a ta i (by simp only [AllP, inR, decide_eq_false_iff_not, decide_eq_true_eq, bne_iff_ne, beq_iff_eq, ne_eq, bne_eq_false_iff_eq, beq_eq_false_iff_ne]; (repeat' apply And.intro) <;> first | omega | exact trivial)

theorem clone_pure (a : List Int) (ta : Bool) (h : a.length ≤ lim4) : PureTo Tryd.prog 42 [.sl 1 (.ints .u32 a) ta] (.sl 1 (.ints .u32 a) false) := by
  unfold lim4 at h
  refine PureTo.nil_split (ys := []) (zs := []) (fun hq => ?_) (fun hq => ?_) (fun hq => ?_)
  · have : a = [] := List.eq_nil_of_length_eq_zero hq
    subst this
    exact cloneN1 trivial
  · have : a = [] := List.eq_nil_of_length_eq_zero hq
    subst this
    exact cloneE1 trivial
  · have hq : 0 < a.length := hq
    exact cloneF1 a ta (by simp only [AllP, List.nil_append]; (repeat' apply And.intro) <;> first | omega | exact trivial)

theorem len_tab : ∀ n : Fin 256, byteAt bnW8tab0 n.1 = (bl n.1 : Int) := by decide +kernel

theorem tab_at (x : Int) (h0 : 0 ≤ x) (h1 : x < 256) : byteAt bnW8tab0 x.toNat = (bl x.toNat : Int) := len_tab ⟨x.toNat, by omega⟩

theorem bl_small {n k : Nat} (h : n < 2 ^ k) : bl n ≤ k := (bl_le n k).2 h

theorem bl_div8 {n : Nat} (h : 256 ≤ n) : bl n = 8 + bl (n / 256) := by
  have h1 := bl_shift n 8
  have h2 : ¬ bl n ≤ 8 := by rw [bl_le]; omega
  have e : (2 : Nat) ^ 8 = 256 := rfl
  rw [e] at h1
  omega

theorem bl_div16 {n : Nat} (h : 65536 ≤ n) : bl n = 16 + bl (n / 65536) := by
  have h1 := bl_shift n 16
  have h2 : ¬ bl n ≤ 16 := by rw [bl_le]; omega
  have e : (2 : Nat) ^ 16 = 65536 := rfl
  rw [e] at h1
  omega

theorem len32_pure (x : Int) (h0 : 0 ≤ x) (h1 : x < 4294967296) : PureTo Tryd.prog 40 [.v (.int .u32 x)] (.v (.int .i64 (bl x.toNat))) := by
  obtain ⟨n, rfl⟩ : ∃ n : Nat, x = n := ⟨x.toNat, by omega⟩
  rw [Int.toNat_natCast]
  by_cases c1 : 65536 ≤ n
  · by_cases c2 : 256 ≤ n / 65536
    · have t := tab_at ((n : Int) / 65536 / 256 % 256) (by omega) (by omega)
      have e : ((n : Int) / 65536 / 256 % 256).toNat = n / 65536 / 256 := by omega
      rw [e] at t
      have hb : bl (n / 65536 / 256) ≤ 8 := bl_small (by omega)
      have h := len32F1 n (by rw [e, t]; exact (by simp only [AllP, inR, decide_eq_false_iff_not, decide_eq_true_eq, bne_iff_ne, beq_iff_eq, ne_eq, bne_eq_false_iff_eq, beq_eq_false_iff_ne]; (repeat' apply And.intro) <;> first | omega | exact trivial))
      rw [e, t] at h
      rw [bl_div16 c1, bl_div8 c2]
      have e2 : ((16 + (8 + bl (n / 65536 / 256)) : Nat) : Int) = 24 + (bl (n / 65536 / 256) : Int) := by omega
      rw [e2]
      exact h
    · have t := tab_at ((n : Int) / 65536 % 256) (by omega) (by omega)
      have e : ((n : Int) / 65536 % 256).toNat = n / 65536 := by omega
      rw [e] at t
      have hb : bl (n / 65536) ≤ 8 := bl_small (by omega)
      have h := len32F2 n (by rw [e, t]; exact (by simp only [AllP, inR, decide_eq_false_iff_not, decide_eq_true_eq, bne_iff_ne, beq_iff_eq, ne_eq, bne_eq_false_iff_eq, beq_eq_false_iff_ne]; (repeat' apply And.intro) <;> first | omega | exact trivial))
      rw [e, t] at h
      rw [bl_div16 c1]
      have e2 : ((16 + bl (n / 65536) : Nat) : Int) = 16 + (bl (n / 65536) : Int) := by omega
      rw [e2]
      exact h
  · by_cases c2 : 256 ≤ n
    · have t := tab_at ((n : Int) / 256 % 256) (by omega) (by omega)
      have e : ((n : Int) / 256 % 256).toNat = n / 256 := by omega
      rw [e] at t
      have hb : bl (n / 256) ≤ 8 := bl_small (by omega)
      have h := len32F3 n (by rw [e, t]; exact (by simp only [AllP, inR, decide_eq_false_iff_not, decide_eq_true_eq, bne_iff_ne, beq_iff_eq, ne_eq, bne_eq_false_iff_eq, beq_eq_false_iff_ne]; (repeat' apply And.intro) <;> first | omega | exact trivial))
      rw [e, t] at h
      rw [bl_div8 c2]
      have e2 : ((8 + bl (n / 256) : Nat) : Int) = 8 + (bl (n / 256) : Int) := by omega
      rw [e2]
      exact h
    · have t := tab_at ((n : Int) % 256) (by omega) (by omega)
      have e : ((n : Int) % 256).toNat = n := by omega
      rw [e] at t
      have hb : bl n ≤ 8 := bl_small (by omega)
      have h := len32F4 n (by rw [e, t]; exact (by simp only [AllP, inR, decide_eq_false_iff_not, decide_eq_true_eq, bne_iff_ne, beq_iff_eq, ne_eq, bne_eq_false_iff_eq, beq_eq_false_iff_ne]; (repeat' apply And.intro) <;> first | omega | exact trivial))
      rw [e, t, Int.zero_add] at h
      exact h

/-- the words of a number of two words -/
def two (x : Int) : List Int := [x % 4294967296, x / 4294967296 % 4294967296]

theorem words_two (x : Int) : Words (two x) := fun y hy => by
  simp only [two, List.mem_cons, List.not_mem_nil, or_false] at hy
  omega

theorem nat_two {x : Int} (h0 : 0 ≤ x) (h1 : x < 18446744073709551616) : nat (two x) = x.toNat := by
  simp only [two, nat]
  omega

theorem of_pure (x : Int) (h0 : 0 ≤ x) (h1 : x < 18446744073709551616) : PureTo Tryd.prog 21 [.v (.int .u64 x)] (.sl 1 (.ints .u32 (dig x.toNat)) true) := by
  have h := ofF1 x (by simp only [AllP, lim, lim4, List.length_cons, List.length_nil]; (repeat' apply And.intro) <;> first | omega | exact trivial)
  have e : norm (two x) = dig x.toNat := by rw [norm_eq (words_two x), nat_two h0 h1]
  rw [← e]
  exact h

theorem rof_pure (x : Int) (h0 : 0 ≤ x) (h1 : x < 18446744073709551616) : PureTo Tryd.prog 22 [.v (.int .u64 x)] (.sl 1 (.ints .u32 (dig x.toNat)) false) := by
  have h := rofF1 x (by simp only [AllP, lim, lim4, List.length_cons, List.length_nil]; (repeat' apply And.intro) <;> first | omega | exact trivial)
  have e : norm (two x) = dig x.toNat := by rw [norm_eq (words_two x), nat_two h0 h1]
  rw [← e]
  exact h

def sigAt : List AV → Option (AV × List Prop)
  | [.sl 1 (.ints .u32 a) _, .v (.int .i64 i)] => some (.v (.int .u64 (wd a i)), [Words a])
  | _ => none

def sigWord : List AV → Option (AV × List Prop)
  | [.sl 1 (.ints .u32 a) _, .v (.int .i64 i)] => some (.v (.int .u64 (wd a i)), [Words a, 0 ≤ i])
  | _ => none

def sigClone : List AV → Option (AV × List Prop)
  | [.sl 1 (.ints .u32 a) _] => some (.sl 1 (.ints .u32 a) false, [a.length ≤ lim4])
  | _ => none

def sigLen32 : List AV → Option (AV × List Prop)
  | [.v (.int .u32 x)] => some (.v (.int .i64 (bl x.toNat)), [0 ≤ x, x < 4294967296])
  | _ => none

def sigOf : List AV → Option (AV × List Prop)
  | [.v (.int .u64 x)] => some (.sl 1 (.ints .u32 (dig x.toNat)) true, [0 ≤ x, x < 18446744073709551616])
  | _ => none

def sigROf : List AV → Option (AV × List Prop)
  | [.v (.int .u64 x)] => some (.sl 1 (.ints .u32 (dig x.toNat)) false, [0 ≤ x, x < 18446744073709551616])
  | _ => none

def SG8 : SGT := (26, .p sigAt) :: (50, .p sigWord) :: (42, .p sigClone) :: (40, .p sigLen32) :: (21, .p sigOf) :: (22, .p sigROf) :: SG7

theorem sok8 : SigsOK Tryd.prog SG8 := by
  refine sigs_cons (sigs_cons (sigs_cons (sigs_cons (sigs_cons (sigs_cons sok7 ?_) ?_) ?_) ?_) ?_) ?_
  · intro ys r c h hc
    unfold sigROf at h
    split at h
    · cases h; exact rof_pure _ hc.1 hc.2.1
    · cases h
  · intro ys r c h hc
    unfold sigOf at h
    split at h
    · cases h; exact of_pure _ hc.1 hc.2.1
    · cases h
  · intro ys r c h hc
    unfold sigLen32 at h
    split at h
    · cases h; exact len32_pure _ hc.1 hc.2.1
    · cases h
  · intro ys r c h hc
    unfold sigClone at h
    split at h
    · cases h; exact clone_pure _ _ hc.1
    · cases h
  · intro ys r c h hc
    unfold sigWord at h
    split at h
    · cases h; exact word_pure _ _ _ hc.1 hc.2.1
    · cases h
  · intro ys r c h hc
    unfold sigAt at h
    split at h
    · cases h; exact at_pure _ _ _ hc.1
    · cases h

def plusS0 (a b : List Int) (ta tb : Bool) (x0 : Int) (x1 : Int) (l0 : List Int) (n0 : Nat) : AS := { n := 43, fr := [(0, AV.sl 1 (.ints .u32 a) ta), (1, AV.sl 1 (.ints .u32 b) tb), (5, AV.row 1 0 l0.length l0.length false), (6, AV.v (.int .u64 x0)), (7, AV.v (.int .i64 x1))], hp := [(1, AObj.row 54 1 (.ints .u32 l0) n0)], nx := 2 }

def plusX0 (a b : List Int) (ta tb : Bool) (x2 : Int) (l1 : List Int) (n1 : Nat) : AS := { n := 43, fr := [(5, AV.row 1 0 l1.length l1.length false), (6, AV.v (.int .u64 x2))], hp := [(1, AObj.row 54 1 (.ints .u32 l1) n1)], nx := 2 }

theorem pbitsF1 (a : List Int) (ta : Bool) (h : AllP [a.length < lim, ((↑(norm a).length : Int) == (0 : Int)) = true]) : PureTo Tryd.prog 24 [.sl 1 (.ints .u32 a) ta] (AV.v (.int .i64 (0 : Int))) :=
  evFn_pure hm sok8 (fn := Tryd.f24) rfl rfl (ti := false) (hs := [CHint.ops 2 [(2, Hint.b true)]]) (c := _) (by kernel_rfl) h

theorem pbitsF2 (a : List Int) (ta : Bool) (h : AllP [a.length < lim, ((↑(norm a).length : Int) == (0 : Int)) = false, inR IntKind.i64 ((↑(norm a).length : Int) - (1 : Int)), inR IntKind.i64 ((32 : Int) * ((↑(norm a).length : Int) - (1 : Int))), inR IntKind.i64 ((↑(norm a).length : Int) - (1 : Int)), (0 : Int) ≤ (↑(norm a).length : Int) - (1 : Int) ∧ (↑(norm a).length : Int) - (1 : Int) < (↑(norm a).length : Int), (0 : Int) ≤ (norm a).getD ((↑(norm a).length : Int) - (1 : Int)).toNat (0 : Int), (norm a).getD ((↑(norm a).length : Int) - (1 : Int)).toNat (0 : Int) < (4294967296 : Int), inR IntKind.i64 ((32 : Int) * ((↑(norm a).length : Int) - (1 : Int)) + (↑(bl ((norm a).getD ((↑(norm a).length : Int) - (1 : Int)).toNat (0 : Int)).toNat) : Int))]) : PureTo Tryd.prog 24 [.sl 1 (.ints .u32 a) ta] (AV.v (.int .i64 ((32 : Int) * ((↑(norm a).length : Int) - (1 : Int)) + (↑(bl ((norm a).getD ((↑(norm a).length : Int) - (1 : Int)).toNat (0 : Int)).toNat) : Int)))) :=
  evFn_pure hm sok8 (fn := Tryd.f24) rfl rfl (ti := false) (hs := [CHint.ops 2 [(2, Hint.b false)]]) (c := _) (by kernel_rfl) h
-- 1 paths

theorem plusL0_1 (a b : List Int) (ta tb : Bool) (x0 : Int) (x1 : Int) (l0 : List Int) (n0 : Nat) (h : AllP [decide (x1 < (↑a.length : Int)) = true, Words a, (0 : Int) ≤ x1, Words b, (0 : Int) ≤ x1, inR IntKind.u64 (wd a x1 + wd b x1), inR IntKind.u64 (wd a x1 + wd b x1 + x0), l0.length = l0.length, l0.length = l0.length, (l0 ++ [(wd a x1 + wd b x1 + x0) % (4294967296 : Int)]).length * 4 ≤ 140737488355328, (0 : Int) ≤ (32 : Int), inR IntKind.i64 (x1 + (1 : Int))]) : To Tryd.prog (loopAt Tryd.f49 0) ({ n := 43, fr := [(0, AV.sl 1 (.ints .u32 a) ta), (1, AV.sl 1 (.ints .u32 b) tb), (5, AV.row 1 0 l0.length l0.length false), (6, AV.v (.int .u64 x0)), (7, AV.v (.int .i64 x1))], hp := [(1, AObj.row 54 1 (.ints .u32 l0) n0)], nx := 2 }) (.normal) { n := 43, fr := [(0, AV.sl 1 (.ints .u32 a) ta), (1, AV.sl 1 (.ints .u32 b) tb), (5, AV.row 1 0 (l0 ++ [(wd a x1 + wd b x1 + x0) % (4294967296 : Int)]).length (l0 ++ [(wd a x1 + wd b x1 + x0) % (4294967296 : Int)]).length false), (6, AV.v (.int .u64 ((wd a x1 + wd b x1 + x0) / (4294967296 : Int)))), (7, AV.v (.int .i64 (x1 + (1 : Int))))], hp := [(1, AObj.row 54 1 (.ints .u32 (l0 ++ [(wd a x1 + wd b x1 + x0) % (4294967296 : Int)])) n0)], nx := 2 } :=
  evW_to hm sok8 (hs := [CHint.ops 4 [(3, Hint.b true)]]) (slots := [0, 1, 5, 6, 7]) (keys := [1]) (nx := 2) (c := _) (by kernel_rfl) h

theorem plusL0_2 (a b : List Int) (ta tb : Bool) (x0 : Int) (x1 : Int) (l0 : List Int) (n0 : Nat) (h : AllP [decide (x1 < (↑a.length : Int)) = false, decide (x1 < (↑b.length : Int)) = true, Words a, (0 : Int) ≤ x1, Words b, (0 : Int) ≤ x1, inR IntKind.u64 (wd a x1 + wd b x1), inR IntKind.u64 (wd a x1 + wd b x1 + x0), l0.length = l0.length, l0.length = l0.length, (l0 ++ [(wd a x1 + wd b x1 + x0) % (4294967296 : Int)]).length * 4 ≤ 140737488355328, (0 : Int) ≤ (32 : Int), inR IntKind.i64 (x1 + (1 : Int))]) : To Tryd.prog (loopAt Tryd.f49 0) ({ n := 43, fr := [(0, AV.sl 1 (.ints .u32 a) ta), (1, AV.sl 1 (.ints .u32 b) tb), (5, AV.row 1 0 l0.length l0.length false), (6, AV.v (.int .u64 x0)), (7, AV.v (.int .i64 x1))], hp := [(1, AObj.row 54 1 (.ints .u32 l0) n0)], nx := 2 }) (.normal) { n := 43, fr := [(0, AV.sl 1 (.ints .u32 a) ta), (1, AV.sl 1 (.ints .u32 b) tb), (5, AV.row 1 0 (l0 ++ [(wd a x1 + wd b x1 + x0) % (4294967296 : Int)]).length (l0 ++ [(wd a x1 + wd b x1 + x0) % (4294967296 : Int)]).length false), (6, AV.v (.int .u64 ((wd a x1 + wd b x1 + x0) / (4294967296 : Int)))), (7, AV.v (.int .i64 (x1 + (1 : Int))))], hp := [(1, AObj.row 54 1 (.ints .u32 (l0 ++ [(wd a x1 + wd b x1 + x0) % (4294967296 : Int)])) n0)], nx := 2 } :=
  evW_to hm sok8 (hs := [CHint.ops 4 [(3, Hint.b false), (8, Hint.b true)]]) (slots := [0, 1, 5, 6, 7]) (keys := [1]) (nx := 2) (c := _) (by kernel_rfl) h

theorem plusL0_3 (a b : List Int) (ta tb : Bool) (x0 : Int) (x1 : Int) (l0 : List Int) (n0 : Nat) (h : AllP [decide (x1 < (↑a.length : Int)) = false, decide (x1 < (↑b.length : Int)) = false]) : To Tryd.prog (loopAt Tryd.f49 0) ({ n := 43, fr := [(0, AV.sl 1 (.ints .u32 a) ta), (1, AV.sl 1 (.ints .u32 b) tb), (5, AV.row 1 0 l0.length l0.length false), (6, AV.v (.int .u64 x0)), (7, AV.v (.int .i64 x1))], hp := [(1, AObj.row 54 1 (.ints .u32 l0) n0)], nx := 2 }) (Exit.exit 0) { n := 43, fr := [(5, AV.row 1 0 l0.length l0.length false), (6, AV.v (.int .u64 x0))], hp := [(1, AObj.row 54 1 (.ints .u32 l0) n0)], nx := 2 } :=
  evW_to hm sok8 (hs := [CHint.ops 4 [(3, Hint.b false), (8, Hint.b false)]]) (slots := [5, 6]) (keys := [1]) (nx := 2) (c := _) (by kernel_rfl) h
-- 1 paths

theorem plusF1 (a b : List Int) (ta tb : Bool) (x2 : Int) (l1 : List Int) (n1 : Nat) (h : AllP [LoopTo Tryd.prog (loopAt Tryd.f49 0) { n := 43, fr := [(0, AV.sl 1 (.ints .u32 a) ta), (1, AV.sl 1 (.ints .u32 b) tb), (5, AV.row 1 0 0 0 false), (6, AV.v (.int .u64 (0 : Int))), (7, AV.v (.int .i64 (0 : Int)))], hp := [(1, AObj.row 54 1 (.ints .u32 []) 0)], nx := 2 } (Exit.exit 0) { n := 43, fr := [(5, AV.row 1 0 l1.length l1.length false), (6, AV.v (.int .u64 x2))], hp := [(1, AObj.row 54 1 (.ints .u32 l1) n1)], nx := 2 }, l1.length = l1.length, l1.length = l1.length, (l1 ++ [x2 % (4294967296 : Int)]).length * 4 ≤ 140737488355328, (l1 ++ [x2 % (4294967296 : Int)]).length = (l1 ++ [x2 % (4294967296 : Int)]).length, n1 ≤ (l1 ++ [x2 % (4294967296 : Int)]).length, (l1 ++ [x2 % (4294967296 : Int)]).length ≤ lim4]) : PureTo Tryd.prog 49 [.sl 1 (.ints .u32 a) ta, .sl 1 (.ints .u32 b) tb] (AV.sl 1 (.ints .u32 (norm (l1 ++ [x2 % (4294967296 : Int)]))) false) :=
  evFn_pure hm sok8 (fn := Tryd.f49) rfl rfl (ti := false) (hs := [CHint.ops 1 [(0, Hint.nil 54)], CHint.loop [0, 1, 5, 6, 7] [1] 2 (Exit.exit 0) { n := 43, fr := [(5, AV.row 1 0 l1.length l1.length false), (6, AV.v (.int .u64 x2))], hp := [(1, AObj.row (54 : TypeId) 1 (.ints .u32 l1) n1)], nx := 2 }]) (c := _) (by kernel_rfl) h
-- 2 paths

theorem pbits_pure (a : List Int) (ta : Bool) (h : Words a) (hl : a.length < lim) : PureTo Tryd.prog 24 [.sl 1 (.ints .u32 a) ta] (.v (.int .i64 (bl (nat a)))) := by
  have h1 := norm_length_le a
  have hl2 := hl
  unfold lim at hl2
  by_cases h0 : (norm a).length = 0
  · have e : nat a = 0 := by
      rw [← nat_norm, List.eq_nil_of_length_eq_zero h0]
      rfl
    rw [e]
    exact pbitsF1 a ta ⟨hl, by simp [h0], trivial⟩
  · obtain ⟨e1, e2⟩ := bl_words h h0
    have e3 : ((norm a).length - 1 : Int).toNat = (norm a).length - 1 := by omega
    have hw := words_getD (words_norm h) ((norm a).length - 1)
    have hb : bl ((norm a).getD ((norm a).length - 1) 0).toNat ≤ 32 := bl_small (by omega)
    have := pbitsF2 a ta (by
      rw [e3]
      refine ⟨hl, by simpa using h0, ?_⟩
      simp only [AllP, inR]
      (repeat' apply And.intro) <;> first | omega | exact trivial)
    rw [e3] at this
    have e4 : ((bl (nat a) : Nat) : Int) = 32 * (((norm a).length : Int) - 1) + (bl ((norm a).getD ((norm a).length - 1) 0).toNat : Int) := by omega
    rw [e4]
    exact this

theorem rbits_loop (a : List Int) (ta : Bool) : ∀ (f n : Nat) (x : Int), bl n = f → n < 4294967296 → 0 ≤ x → x + f < 1000000000000000000 →
    LoopTo Tryd.prog (loopAt Tryd.f47 0) { n := 28, fr := [(4, AV.v (.int .i64 x)), (5, AV.v (.int .u32 n))], hp := [], nx := 0 } (.exit 0) { n := 28, fr := [(4, AV.v (.int .i64 (x + f)))], hp := [], nx := 0 } := by
  intro f
  induction f with
  | zero =>
    intro n x hb hn h0 h1
    have : n = 0 := bl_zero.1 hb
    subst this
    rw [show (x + ((0 : Nat) : Int)) = x by omega]
    exact .done (by simp) (rbitsL0_2 a ta x 0 ⟨by simp, trivial⟩)
  | succ f ih =>
    intro n x hb hn h0 h1
    have hn0 : n ≠ 0 := fun e => by rw [bl_zero.2 e] at hb; omega
    have hs := bl_shift n 1
    have h2 := ih (n / 2) (x + 1) (by rw [show n / 2 = n / 2 ^ 1 from rfl, hs]; omega) (by omega) (by omega) (by omega)
    have e : (x + 1 + (f : Int)) = x + ((f + 1 : Nat) : Int) := by omega
    rw [e] at h2
    have h3 := rbitsL0_1 a ta x n (by
      refine ⟨by simp; omega, ?_⟩
      simp only [AllP, inR]
      (repeat' apply And.intro) <;> first | omega | exact trivial)
    exact .step h3 h2

theorem rbits_pure (a : List Int) (ta : Bool) (h : Words a) (hl : a.length ≤ lim4) : PureTo Tryd.prog 47 [.sl 1 (.ints .u32 a) ta] (.v (.int .i64 (bl (nat a)))) := by
  have h1 := norm_length_le a
  have hl2 := hl
  unfold lim4 at hl2
  by_cases h0 : (norm a).length = 0
  · have e : nat a = 0 := by
      rw [← nat_norm, List.eq_nil_of_length_eq_zero h0]
      rfl
    rw [e]
    exact rbitsF1 a ta 0 ⟨hl, by simp [h0], trivial⟩
  · obtain ⟨e1, e2⟩ := bl_words h h0
    have e3 : ((norm a).length - 1 : Int).toNat = (norm a).length - 1 := by omega
    have hw := words_getD (words_norm h) ((norm a).length - 1)
    generalize hx : (norm a).getD ((norm a).length - 1) 0 = x at *
    have hb32 : bl x.toNat ≤ 32 := bl_small (by omega)
    have hlp := rbits_loop a ta (bl x.toNat) x.toNat (32 * (((norm a).length : Int) - 1)) rfl (by omega) (by omega) (by omega)
    have ex : ((x.toNat : Nat) : Int) = x := by omega
    rw [ex] at hlp
    have := rbitsF2 a ta (32 * (((norm a).length : Int) - 1) + (bl x.toNat : Int)) (by
      rw [e3, hx]
      refine ⟨hl, by simpa using h0, ?_, ?_, ?_, ?_, hlp, trivial⟩
      all_goals first | (simp only [inR]; omega) | omega)
    have e4 : ((bl (nat a) : Nat) : Int) = 32 * (((norm a).length : Int) - 1) + (bl x.toNat : Int) := by omega
    rw [e4]
    exact this

theorem small_of_over {a : List Int} (h : over a = false) : (norm a).length ≤ 1024 := by
  unfold over at h
  simpa using h

theorem lim4_lt {n : Nat} (h : n ≤ lim4) : n < lim := by unfold lim4 at h; unfold lim; omega

theorem pow_int (n : Nat) : (4294967296 : Int) ^ n = ((4294967296 ^ n : Nat) : Int) := by rw [Int.natCast_pow]; rfl

theorem plus_loop (a b : List Int) (ta tb : Bool) (ha : Words a) (hb : Words b) (n : Nat) (h1 : a.length ≤ n) (h2 : b.length ≤ n) (h3 : n = a.length ∨ n = b.length) (hlim : n + 1 ≤ lim4) : ∀ (f i : Nat) (l : List Int) (c : Int), i + f = n → l.length = i → Words l → (0 ≤ c ∧ c ≤ 1) →
    (nat l : Int) + c * 4294967296 ^ i = natW a i + natW b i →
    ∃ l1 : List Int, ∃ c1 : Int, l1.length = n ∧ Words l1 ∧ (0 ≤ c1 ∧ c1 ≤ 1) ∧ (nat l1 : Int) + c1 * 4294967296 ^ n = natW a n + natW b n ∧ LoopTo Tryd.prog (loopAt Tryd.f49 0) (plusS0 a b ta tb c i l 0) (.exit 0) (plusX0 a b ta tb c1 l1 0) := by
  unfold lim4 at hlim
  intro f
  induction f with
  | zero =>
    intro i l c hi hl hw hc hinv
    have : i = n := by omega
    subst this
    exact ⟨l, c, hl, hw, hc, hinv, .done (by simp) (plusL0_3 a b ta tb c i l 0 ⟨by simp; omega, by simp; omega, trivial⟩)⟩
  | succ f ih =>
    intro i l c hi hl hw hc hinv
    have hx := wd_bound ha i
    have hy := wd_bound hb i
    have hs : 0 ≤ wd a i + wd b i + c := by omega
    obtain ⟨l1, c1, g1, g2, g3, g4, g5⟩ := ih (i + 1) (l ++ [(wd a i + wd b i + c) % 4294967296]) ((wd a i + wd b i + c) / 4294967296) (by omega) (by simp [hl]) (words_snoc hw (by omega) (by omega)) (by omega) (add_step ha hb hl rfl hs hinv)
    have hlen : (l ++ [(wd a i + wd b i + c) % 4294967296]).length * 4 ≤ 140737488355328 := by simp; omega
    by_cases hia : i < a.length
    · have h1 := plusL0_1 a b ta tb c i l 0 ⟨by simp; omega, ha, by omega, hb, by omega, ⟨by omega, by omega⟩, ⟨by omega, by omega⟩, rfl, rfl, hlen, by omega, inR64 (by omega) (by omega), trivial⟩
      exact ⟨l1, c1, g1, g2, g3, g4, .step h1 g5⟩
    · have h1 := plusL0_2 a b ta tb c i l 0 ⟨by simp; omega, by simp; omega, ha, by omega, hb, by omega, ⟨by omega, by omega⟩, ⟨by omega, by omega⟩, rfl, rfl, hlen, by omega, inR64 (by omega) (by omega), trivial⟩
      exact ⟨l1, c1, g1, g2, g3, g4, .step h1 g5⟩

theorem plus_pure (a b : List Int) (ta tb : Bool) (ha : Words a) (hb : Words b) (hla : a.length + 1 ≤ lim4) (hlb : b.length + 1 ≤ lim4) : PureTo Tryd.prog 49 [.sl 1 (.ints .u32 a) ta, .sl 1 (.ints .u32 b) tb] (.sl 1 (.ints .u32 (dig (nat a + nat b))) false) := by
  obtain ⟨n, h1, h2, h3, h4⟩ : ∃ n, a.length ≤ n ∧ b.length ≤ n ∧ (n = a.length ∨ n = b.length) ∧ n + 1 ≤ lim4 := by
    rcases Nat.le_total a.length b.length with h | h
    · exact ⟨b.length, h, Nat.le_refl _, .inr rfl, hlb⟩
    · exact ⟨a.length, Nat.le_refl _, h, .inl rfl, hla⟩
  obtain ⟨l1, c1, g1, g2, g3, g4, g5⟩ := plus_loop a b ta tb ha hb n h1 h2 h3 h4 n 0 [] 0 (by omega) rfl (fun x hx => by cases hx) (by omega) (by simp [natW, nat])
  rw [natW_all _ _ h1, natW_all _ _ h2] at g4
  have hw : Words (l1 ++ [c1 % 4294967296]) := words_snoc g2 (by omega) (by omega)
  have hsum : nat (l1 ++ [c1 % 4294967296]) = nat a + nat b := by
    have := nat_snoc l1 (c1 % 4294967296) (by omega)
    rw [g1, Int.emod_eq_of_lt g3.1 (by omega), Int.mul_comm] at this
    rw [Int.emod_eq_of_lt g3.1 (by omega)]
    omega
  have hlen : (l1 ++ [c1 % 4294967296]).length = n + 1 := by simp [g1]
  unfold lim4 at h4
  have h := plusF1 a b ta tb c1 l1 0 ⟨g5, rfl, rfl, by rw [hlen]; omega, rfl, by omega, by rw [hlen]; unfold lim4; omega, trivial⟩
  rw [norm_eq hw, hsum] at h
  exact h

def sigBits : List AV → Option (AV × List Prop)
  | [.sl 1 (.ints .u32 a) _] => some (.v (.int .i64 (bl (nat a))), [Words a, a.length ≤ lim4])
  | _ => none

def sigPlus : List AV → Option (AV × List Prop)
  | [.sl 1 (.ints .u32 a) _, .sl 1 (.ints .u32 b) _] => some (.sl 1 (.ints .u32 (dig (nat a + nat b))) false, [Words a, Words b, a.length + 1 ≤ lim4, b.length + 1 ≤ lim4])
  | _ => none

def SG9 : SGT := (24, .p sigBits) :: (47, .p sigBits) :: (49, .p sigPlus) :: SG8

theorem sok9 : SigsOK Tryd.prog SG9 := by
  refine sigs_cons (sigs_cons (sigs_cons sok8 ?_) ?_) ?_
  · intro ys r c h hc
    unfold sigPlus at h
    split at h
    · cases h; exact plus_pure _ _ _ _ hc.1 hc.2.1 hc.2.2.1 hc.2.2.2.1
    · cases h
  · intro ys r c h hc
    unfold sigBits at h
    split at h
    · cases h; exact rbits_pure _ _ hc.1 hc.2.1
    · cases h
  · intro ys r c h hc
    unfold sigBits at h
    split at h
    · cases h; exact pbits_pure _ _ hc.1 (lim4_lt hc.2.1)
    · cases h


def SG10 : SGT := SG9

theorem sok10 : SigsOK Tryd.prog SG10 := by
  exact sok9

def shlS0 (a : List Int) (ta : Bool) (n : Int) (x0 : Int) (l0 : List Int) (n0 : Nat) (n1 : Nat) : AS := { n := 57, fr := [(0, AV.sl 1 (.ints .u32 (norm a)) true), (1, AV.v (.int .i64 n)), (5, AV.row 10 0 n1 n1 false), (18, AV.v (.int .i64 (↑(norm a).length : Int))), (19, AV.v (.int .i64 x0))], hp := [(10, AObj.row 54 1 (.ints .u32 l0) n0)], nx := 11 }

def shlX0 (a : List Int) (ta : Bool) (n : Int) (l1 : List Int) (n2 : Nat) (n3 : Nat) : AS := { n := 57, fr := [(5, AV.row 10 0 n3 n3 false)], hp := [(10, AObj.row 54 1 (.ints .u32 l1) n2)], nx := 11 }

theorem nzF1 (x : Int) (h : AllP []) : PureTo Tryd.prog 44 [.v (.int .u32 x)] (AV.v (.bool (x != (0 : Int)))) :=
  evFn_pure hm sok10 (fn := Tryd.f44) rfl rfl (ti := false) (hs := []) (c := _) (by kernel_rfl) h
-- 2 paths

theorem shlL0_1 (a : List Int) (ta : Bool) (n : Int) (x0 : Int) (l0 : List Int) (n0 : Nat) (n1 : Nat) (h : AllP [decide (x0 < (↑(norm a).length : Int)) = true, (0 : Int) ≤ x0 ∧ x0 < (↑(norm a).length : Int), inR IntKind.u64 ((norm a).getD x0.toNat (0 : Int)), (32 : Int) ≠ (0 : Int), (0 : Int) ≤ n.tmod (32 : Int), inR IntKind.u64 ((norm a).getD x0.toNat (0 : Int) * (2 : Int) ^ min (n.tmod (32 : Int)).toNat 64), (32 : Int) ≠ (0 : Int), inR IntKind.i64 (n.tdiv (32 : Int)), inR IntKind.i64 (n.tdiv (32 : Int) + x0), (0 : Int) ≤ n.tdiv (32 : Int) + x0 ∧ n.tdiv (32 : Int) + x0 < (↑n1 : Int), n0 ≤ n1, (0 : Int) ≤ n.tdiv (32 : Int) + x0 ∧ n.tdiv (32 : Int) + x0 < (↑n1 : Int), n1 = l0.length, (32 : Int) ≠ (0 : Int), inR IntKind.i64 (n.tdiv (32 : Int)), inR IntKind.i64 (n.tdiv (32 : Int) + x0), inR IntKind.i64 (n.tdiv (32 : Int) + x0 + (1 : Int)), (0 : Int) ≤ n.tdiv (32 : Int) + x0 + (1 : Int) ∧ n.tdiv (32 : Int) + x0 + (1 : Int) < (↑n1 : Int), l0.length ≤ n1, (0 : Int) ≤ (32 : Int), (0 : Int) ≤ n.tdiv (32 : Int) + x0 + (1 : Int) ∧ n.tdiv (32 : Int) + x0 + (1 : Int) < (↑n1 : Int), n1 = (l0.set (ixPlus 0 (n.tdiv (32 : Int) + x0).toNat) (bitsOf BinOp.or IntKind.u32 (l0.getD (ixPlus 0 (n.tdiv (32 : Int) + x0).toNat) (0 : Int)) ((norm a).getD x0.toNat (0 : Int) * (2 : Int) ^ min (n.tmod (32 : Int)).toNat 64 % (4294967296 : Int)))).length, inR IntKind.i64 (x0 + (1 : Int))]) : To Tryd.prog (loopAt Tryd.f36 0) ({ n := 57, fr := [(0, AV.sl 1 (.ints .u32 (norm a)) true), (1, AV.v (.int .i64 n)), (5, AV.row 10 0 n1 n1 false), (18, AV.v (.int .i64 (↑(norm a).length : Int))), (19, AV.v (.int .i64 x0))], hp := [(10, AObj.row 54 1 (.ints .u32 l0) n0)], nx := 11 }) (.normal) { n := 57, fr := [(0, AV.sl 1 (.ints .u32 (norm a)) true), (1, AV.v (.int .i64 n)), (5, AV.row 10 0 n1 n1 false), (18, AV.v (.int .i64 (↑(norm a).length : Int))), (19, AV.v (.int .i64 (x0 + (1 : Int))))], hp := [(10, AObj.row 54 1 (.ints .u32 ((l0.set (ixPlus 0 (n.tdiv (32 : Int) + x0).toNat) (bitsOf BinOp.or IntKind.u32 (l0.getD (ixPlus 0 (n.tdiv (32 : Int) + x0).toNat) (0 : Int)) ((norm a).getD x0.toNat (0 : Int) * (2 : Int) ^ min (n.tmod (32 : Int)).toNat 64 % (4294967296 : Int)))).set (ixPlus 0 (n.tdiv (32 : Int) + x0 + (1 : Int)).toNat) (bitsOf BinOp.or IntKind.u32 ((l0.set (ixPlus 0 (n.tdiv (32 : Int) + x0).toNat) (bitsOf BinOp.or IntKind.u32 (l0.getD (ixPlus 0 (n.tdiv (32 : Int) + x0).toNat) (0 : Int)) ((norm a).getD x0.toNat (0 : Int) * (2 : Int) ^ min (n.tmod (32 : Int)).toNat 64 % (4294967296 : Int)))).getD (ixPlus 0 (n.tdiv (32 : Int) + x0 + (1 : Int)).toNat) (0 : Int)) ((norm a).getD x0.toNat (0 : Int) * (2 : Int) ^ min (n.tmod (32 : Int)).toNat 64 / (4294967296 : Int) % (4294967296 : Int))))) (l0.set (ixPlus 0 (n.tdiv (32 : Int) + x0).toNat) (bitsOf BinOp.or IntKind.u32 (l0.getD (ixPlus 0 (n.tdiv (32 : Int) + x0).toNat) (0 : Int)) ((norm a).getD x0.toNat (0 : Int) * (2 : Int) ^ min (n.tmod (32 : Int)).toNat 64 % (4294967296 : Int)))).length)], nx := 11 } :=
  evW_to hm sok10 (hs := [CHint.ops 4 [(0, Hint.b true)]]) (slots := [0, 1, 5, 18, 19]) (keys := [10]) (nx := 11) (c := _) (by kernel_rfl) h

theorem shlL0_2 (a : List Int) (ta : Bool) (n : Int) (x0 : Int) (l0 : List Int) (n0 : Nat) (n1 : Nat) (h : AllP [decide (x0 < (↑(norm a).length : Int)) = false]) : To Tryd.prog (loopAt Tryd.f36 0) ({ n := 57, fr := [(0, AV.sl 1 (.ints .u32 (norm a)) true), (1, AV.v (.int .i64 n)), (5, AV.row 10 0 n1 n1 false), (18, AV.v (.int .i64 (↑(norm a).length : Int))), (19, AV.v (.int .i64 x0))], hp := [(10, AObj.row 54 1 (.ints .u32 l0) n0)], nx := 11 }) (Exit.exit 0) { n := 57, fr := [(5, AV.row 10 0 n1 n1 false)], hp := [(10, AObj.row 54 1 (.ints .u32 l0) n0)], nx := 11 } :=
  evW_to hm sok10 (hs := [CHint.ops 4 [(0, Hint.b false)]]) (slots := [5]) (keys := [10]) (nx := 11) (c := _) (by kernel_rfl) h
-- 1 paths

theorem shlF1 (a : List Int) (ta : Bool) (n : Int) (l1 : List Int) (n2 : Nat) (n3 : Nat) (h : AllP [a.length < lim, (32 : Int) ≠ (0 : Int), inR IntKind.i64 (n.tdiv (32 : Int)), inR IntKind.i64 (n.tdiv (32 : Int) + (↑(norm a).length : Int)), inR IntKind.i64 (n.tdiv (32 : Int) + (↑(norm a).length : Int) + (1 : Int)), (0 : Int) ≤ n.tdiv (32 : Int) + (↑(norm a).length : Int) + (1 : Int) ∧ n.tdiv (32 : Int) + (↑(norm a).length : Int) + (1 : Int) ≤ n.tdiv (32 : Int) + (↑(norm a).length : Int) + (1 : Int), (n.tdiv (32 : Int) + (↑(norm a).length : Int) + (1 : Int)) * (4 : Int) ≤ (281474976710656 : Int) ∧ n.tdiv (32 : Int) + (↑(norm a).length : Int) + (1 : Int) ≤ (9223372036854775807 : Int), LoopTo Tryd.prog (loopAt Tryd.f36 0) { n := 57, fr := [(0, AV.sl 1 (.ints .u32 (norm a)) true), (1, AV.v (.int .i64 n)), (5, AV.row 10 0 (n.tdiv (32 : Int) + (↑(norm a).length : Int) + (1 : Int)).toNat (n.tdiv (32 : Int) + (↑(norm a).length : Int) + (1 : Int)).toNat false), (18, AV.v (.int .i64 (↑(norm a).length : Int))), (19, AV.v (.int .i64 (0 : Int)))], hp := [(10, AObj.row 54 1 (.ints .u32 (List.replicate (n.tdiv (32 : Int) + (↑(norm a).length : Int) + (1 : Int)).toNat (0 : Int))) 0)], nx := 11 } (Exit.exit 0) { n := 57, fr := [(5, AV.row 10 0 n3 n3 false)], hp := [(10, AObj.row 54 1 (.ints .u32 l1) n2)], nx := 11 }, n3 = l1.length, n2 ≤ n3, l1.length < lim]) : PureTo Tryd.prog 36 [.sl 1 (.ints .u32 a) ta, .v (.int .i64 n)] (AV.sl 1 (.ints .u32 (norm l1)) true) :=
  evFn_pure hm sok10 (fn := Tryd.f36) rfl rfl (ti := true) (hs := [CHint.loop [0, 1, 5, 18, 19] [10] 11 (Exit.exit 0) { n := 57, fr := [(5, AV.row 10 0 n3 n3 false)], hp := [(10, AObj.row (54 : TypeId) 1 (.ints .u32 l1) n2)], nx := 11 }]) (c := _) (by kernel_rfl) h
-- 2 paths

theorem getD_set (l : List Int) (j k : Nat) (v : Int) (h : j < l.length) : (l.set j v).getD k 0 = if k = j then v else l.getD k 0 := by
  rw [List.getD_eq_getElem?_getD, List.getD_eq_getElem?_getD, List.getElem?_set]
  by_cases e : j = k
  · subst e
    simp [h]
  · have e2 : k ≠ j := fun h => e h.symm
    simp [e, e2]

/-- the kinds of a shift's counts -/
structure Cnt (n : Int) (w r : Nat) : Prop where
  h0 : 0 ≤ n
  ew : n.tdiv 32 = (w : Int)
  er : n.tmod 32 = (r : Int)
  rlt : r < 32
  en : n = 32 * (w : Int) + r

theorem cnt {n : Int} (h : 0 ≤ n) : Cnt n (n.toNat / 32) (n.toNat % 32) := by
  refine ⟨h, ?_, ?_, by omega, by omega⟩
  · rw [Int.tdiv_eq_ediv_of_nonneg h]; omega
  · rw [Int.tmod_eq_emod_of_nonneg h]; omega

theorem two_pow (r : Nat) : (2 : Int) ^ r = ((2 ^ r : Nat) : Int) := by rw [Int.natCast_pow]; rfl

theorem pow_int_mul (m n : Nat) : (4294967296 : Int) ^ m * 4294967296 ^ n = 4294967296 ^ (m + n) := by rw [Int.pow_add]

structure ShlInv (a o : List Int) (w r i : Nat) : Prop where
  words : Words o
  low : o.getD (w + i) 0 < (2 ^ r : Nat)
  zero : ∀ j, w + i < j → o.getD j 0 = 0
  num : (val o : Int) = (2 ^ r : Nat) * 4294967296 ^ w * natW a i

theorem shl_next {a o : List Int} {w r i : Nat} (ha : Words a) (hr : r < 32) (hlen : w + i + 1 < o.length) (I : ShlInv a o w r i) :
    ShlInv a ((o.set (w + i) (o.getD (w + i) 0 + wd a i * (2 ^ r : Nat) % 4294967296)).set (w + i + 1) (wd a i * (2 ^ r : Nat) / 4294967296)) w r (i + 1) := by
  have hx := wd_bound ha i
  have hc := words_getD I.words (w + i)
  obtain ⟨b1, b2, b3, b4, b5, b6, b7⟩ := shl_word hr hx ⟨hc.1, I.low⟩
  have hP31 : (2 : Nat) ^ r ≤ 2147483648 := Nat.pow_le_pow_right (n := 2) (show 0 < 2 by omega) (show r ≤ 31 by omega)
  refine ⟨words_set (words_set I.words _ (by omega) (by omega)) _ (by omega) (by omega), ?_, fun j hj => ?_, ?_⟩
  · rw [getD_set _ _ _ _ (by simpa using hlen), if_pos (by omega)]
    exact b5
  · rw [getD_set _ _ _ _ (by simpa using hlen), if_neg (by omega), getD_set _ _ _ _ (by omega), if_neg (by omega)]
    exact I.zero j (by omega)
  · have v1 := val_set o (w + i) (o.getD (w + i) 0 + wd a i * (2 ^ r : Nat) % 4294967296) (by omega)
    have v2 := val_set (o.set (w + i) (o.getD (w + i) 0 + wd a i * (2 ^ r : Nat) % 4294967296)) (w + i + 1) (wd a i * (2 ^ r : Nat) / 4294967296) (by simpa using hlen)
    rw [getD_set _ _ _ _ (by omega), if_neg (by omega), I.zero (w + i + 1) (by omega), Int.zero_mul, Int.add_zero] at v2
    rw [v2, natW_next ha]
    have hn := I.num
    rw [Int.pow_succ]
    have hp := pow_int_mul w i
    rw [← hp] at v1 ⊢
    generalize (4294967296 : Int) ^ w = W at *
    generalize (4294967296 : Int) ^ i = J at *
    generalize val (o.set (w + i) (o.getD (w + i) 0 + wd a i * (2 ^ r : Nat) % 4294967296)) = V at *
    generalize o.getD (w + i) 0 = c at *
    generalize ((2 ^ r : Nat) : Int) = P at *
    have e : wd a i * P % 4294967296 = wd a i * P - 4294967296 * (wd a i * P / 4294967296) := by omega
    rw [e] at v1
    generalize wd a i * P / 4294967296 = q at *
    generalize wd a i = x at *
    rw [hn] at v1
    grind

theorem shl_loop (a : List Int) (ta : Bool) (n : Int) (w r N : Nat) (C : Cnt n w r) (ha : Words (norm a)) (hN : N = w + (norm a).length + 1) (hlim : N ≤ 1000000000000) : ∀ (f i : Nat) (o : List Int), i + f = (norm a).length → o.length = N → ShlInv (norm a) o w r i →
    ∃ l1 : List Int, l1.length = N ∧ ShlInv (norm a) l1 w r (norm a).length ∧ LoopTo Tryd.prog (loopAt Tryd.f36 0) (shlS0 a ta n i o N N) (.exit 0) (shlX0 a ta n l1 N N) := by
  have hr := C.rlt
  intro f
  induction f with
  | zero =>
    intro i o hi hl I
    have : i = (norm a).length := by omega
    subst this
    exact ⟨o, hl, I, .done (by simp) (shlL0_2 a ta n (norm a).length o N N ⟨by simp, trivial⟩)⟩
  | succ f ih =>
    intro i o hi hl I
    have hx := wd_bound ha i
    have hg := wd_nat (norm a) i
    have hc := words_getD I.words (w + i)
    obtain ⟨b1, b2, b3, b4, b5, b6, b7⟩ := shl_word hr hx ⟨hc.1, I.low⟩
    have hP31 : (2 : Nat) ^ r ≤ 2147483648 := Nat.pow_le_pow_right (n := 2) (show 0 < 2 by omega) (show r ≤ 31 by omega)
    have e2 : (2 : Int) ^ min (n.tmod 32).toNat 64 = (2 ^ r : Nat) := by rw [C.er, Int.toNat_natCast, Nat.min_eq_left (by omega), two_pow]
    have e4 : (n.tdiv 32 + (i : Int)).toNat = w + i := by rw [C.ew]; omega
    have e5 : (n.tdiv 32 + (i : Int) + 1).toNat = w + i + 1 := by rw [C.ew]; omega
    have e6 : bitsOf .or .u32 (o.getD (w + i) 0) (wd (norm a) i * (2 ^ r : Nat) % 4294967296) = o.getD (w + i) 0 + wd (norm a) i * (2 ^ r : Nat) % 4294967296 :=
      (or_add (k := .u32) rfl hc.1 I.low (by omega) (by show _ < (2 : Int) ^ 32; omega) b4 (show r ≤ 32 by omega)).1
    have e7 : ∀ v, (o.set (w + i) v).getD (w + i + 1) 0 = 0 := fun v => by
      rw [getD_set _ _ _ _ (by omega), if_neg (by omega)]
      exact I.zero _ (by omega)
    have e8 : bitsOf .or .u32 0 (wd (norm a) i * (2 ^ r : Nat) / 4294967296 % 4294967296) = wd (norm a) i * (2 ^ r : Nat) / 4294967296 := by
      have := (or_add (k := .u32) (s := 0) (x := 0) (y := wd (norm a) i * (2 ^ r : Nat) / 4294967296 % 4294967296) rfl (by omega) (by simp) (by omega) (by show _ < (2 : Int) ^ 32; omega) (by omega) (by omega)).1
      rw [this]
      omega
    have hCw := C.ew
    have h1 := shlL0_1 a ta n i o N N (by
      rw [e2, Int.toNat_natCast, ← hg, e4, ix0]
      refine ⟨by simp; omega, by omega, inRu64 (by omega) (by omega), by omega, by rw [C.er]; omega, inRu64 b1 (by omega), by omega, by rw [hCw]; exact inR64 (by omega) (by omega), by rw [hCw]; exact inR64 (by omega) (by omega), by rw [hCw]; omega, Nat.le_refl _, by rw [hCw]; omega, hl.symm, by omega, by rw [hCw]; exact inR64 (by omega) (by omega), by rw [hCw]; exact inR64 (by omega) (by omega), by rw [hCw]; exact inR64 (by omega) (by omega), by rw [hCw]; omega, by omega, by omega, by rw [hCw]; omega, by rw [List.length_set]; exact hl.symm, inR64 (by omega) (by omega), trivial⟩)
    rw [e2, Int.toNat_natCast, ← hg, e4, e5, ix0, ix0, e6, e7, e8, List.length_set, hl] at h1
    obtain ⟨l1, g1, g2, g3⟩ := ih (i + 1) _ (by omega) (by rw [List.length_set, List.length_set]; exact hl) (shl_next ha hr (by omega) I)
    exact ⟨l1, g1, g2, .step h1 g3⟩

theorem shl_pure (a : List Int) (ta : Bool) (n : Int) (ha : Words a) (hn : 0 ≤ n) (hlim : n + a.length + 2 ≤ 1000000000000) : PureTo Tryd.prog 36 [.sl 1 (.ints .u32 a) ta, .v (.int .i64 n)] (.sl 1 (.ints .u32 (dig (nat a * 2 ^ n.toNat))) true) := by
  have C := cnt hn
  generalize hw : n.toNat / 32 = w at *
  generalize hr : n.toNat % 32 = r at *
  have hle := norm_length_le a
  have hCw := C.ew
  have hCn := C.en
  have hP := Nat.pow_pos (n := r) (show 0 < 2 by omega)
  have hlen : (List.replicate (w + (norm a).length + 1) (0 : Int)).length = w + (norm a).length + 1 := by simp
  have I0 : ShlInv (norm a) (List.replicate (w + (norm a).length + 1) 0) w r 0 := by
    have hz : ∀ j, (List.replicate (w + (norm a).length + 1) (0 : Int)).getD j 0 = 0 := fun j => by
      rw [List.getD_eq_getElem?_getD, List.getElem?_replicate]
      split <;> rfl
    refine ⟨zeros_words _, by rw [hz]; omega, fun j _ => hz j, ?_⟩
    rw [val_zeros]
    simp [natW]
  obtain ⟨l1, g1, g2, g3⟩ := shl_loop a ta n w r (w + (norm a).length + 1) C (words_norm ha) rfl (by omega) (norm a).length 0 _ (by omega) hlen I0
  have e5 : (n.tdiv 32 + ((norm a).length : Int) + 1).toNat = w + (norm a).length + 1 := by rw [hCw]; omega
  have hval : nat l1 = nat a * 2 ^ n.toNat := by
    have h1 := g2.num
    rw [natW_all _ _ (Nat.le_refl _), nat_norm, val_nat g2.words] at h1
    have h2 : ((nat a * 2 ^ n.toNat : Nat) : Int) = (2 ^ r : Nat) * 4294967296 ^ w * nat a := by
      rw [pow32 n.toNat, hw, hr, Int.natCast_mul, Int.natCast_mul, ← pow_int]
      grind
    exact Int.ofNat.inj (h1.trans h2.symm)
  have h := shlF1 a ta n l1 (w + (norm a).length + 1) (w + (norm a).length + 1) (by
    rw [e5]
    refine ⟨by unfold lim; omega, by omega, by rw [hCw]; exact inR64 (by omega) (by omega), by rw [hCw]; exact inR64 (by omega) (by omega), by rw [hCw]; exact inR64 (by omega) (by omega), by rw [hCw]; omega, by rw [hCw]; omega, .raise ?_, g1.symm, Nat.le_refl _, by rw [g1]; unfold lim; omega, trivial⟩
    show LoopTo _ _ { n := _, fr := _, hp := [(10, .row 54 1 (.ints .u32 (List.replicate (w + (norm a).length + 1) 0)) (List.replicate (w + (norm a).length + 1) (0 : Int)).length)], nx := _ } _ _
    rw [hlen]
    exact g3)
  rw [norm_eq g2.words, hval] at h
  exact h

def sigNz : List AV → Option (AV × List Prop)
  | [.v (.int .u32 x)] => some (.v (.bool (x != 0)), [])
  | _ => none

def sigShlW : List AV → Option (AV × List Prop)
  | [.sl 1 (.ints .u32 a) _, .v (.int .i64 n)] => some (.sl 1 (.ints .u32 (dig (nat a * 2 ^ n.toNat))) true, [Words a, 0 ≤ n, n + a.length + 2 ≤ 1000000000000])
  | _ => none

def SG11 : SGT := (44, .p sigNz) :: (36, .p sigShlW) :: SG10

theorem sok11 : SigsOK Tryd.prog SG11 := by
  refine sigs_cons (sigs_cons sok10 ?_) ?_
  · intro ys r c h hc
    unfold sigShlW at h
    split at h
    · cases h; exact shl_pure _ _ _ hc.1 hc.2.1 hc.2.2.1
    · cases h
  · intro ys r c h hc
    unfold sigNz at h
    split at h
    · cases h; exact nzF1 _ hc
    · cases h


def ixfS0 (a : List Int) (ta : Bool) (x0 : Int) : AS := { n := 19, fr := [(0, AV.sl 1 (.ints .u32 a) ta), (1, AV.fnv (Fn.func 44) [] []), (7, AV.v (.int .i64 (↑a.length : Int))), (8, AV.v (.int .i64 x0))], hp := [], nx := 0 }

def ixfX0 (a : List Int) (ta : Bool)  : AS := { n := 19, fr := [], hp := [], nx := 0 }

def ixfX0_1 (a : List Int) (ta : Bool) (x1 : Int) : AS := { n := 19, fr := [(4, AV.v (.int .i64 x1))], hp := [], nx := 0 }

def rshrS0 (a : List Int) (ta : Bool) (n : Int) (x0 : Int) (b0 : Bool) : AS := { n := 72, fr := [(0, AV.sl 1 (.ints .u32 (norm a)) false), (1, AV.v (.int .i64 n)), (6, AV.v (.bool b0)), (7, AV.v (.int .i64 x0))], hp := [], nx := 0 }

def rshrX0 (a : List Int) (ta : Bool) (n : Int) (b1 : Bool) : AS := { n := 72, fr := [(0, AV.sl 1 (.ints .u32 (norm a)) false), (1, AV.v (.int .i64 n)), (6, AV.v (.bool b1))], hp := [], nx := 0 }

def rshrS1 (a : List Int) (ta : Bool) (n : Int) (x1 : Int) (b1 : Bool) (l0 : List Int) (n0 : Nat) : AS := { n := 72, fr := [(0, AV.sl 1 (.ints .u32 (norm a)) false), (1, AV.v (.int .i64 n)), (6, AV.v (.bool b1)), (8, AV.row 0 0 l0.length l0.length false), (9, AV.v (.int .i64 x1))], hp := [(0, AObj.row 54 1 (.ints .u32 l0) n0)], nx := 1 }

def rshrX1 (a : List Int) (ta : Bool) (n : Int) (b1 : Bool) (l1 : List Int) (n1 : Nat) : AS := { n := 72, fr := [(6, AV.v (.bool b1)), (8, AV.row 0 0 l1.length l1.length false)], hp := [(0, AObj.row 54 1 (.ints .u32 l1) n1)], nx := 1 }
-- 5 paths

theorem pshlF1 (a : List Int) (ta : Bool) (n : Int) (h : AllP [a.length < lim, over (norm a) = true, (norm a).length < lim]) : PureTo Tryd.prog 16 [.sl 1 (.ints .u32 a) ta, .v (.int .i64 n)] (AV.tup [AV.sl 1 (.ints .u32 []) false, AV.v (.int .i64 (3 : Int))]) :=
  evFn_pure hm sok11 (fn := Tryd.f16) rfl rfl (ti := false) (hs := [CHint.ops 2 [(2, Hint.b true)]]) (c := _) (by kernel_rfl) h

theorem pshlF2 (a : List Int) (ta : Bool) (n : Int) (h : AllP [a.length < lim, over (norm a) = false, (norm a).length < lim, decide (n < (0 : Int)) = true]) : PureTo Tryd.prog 16 [.sl 1 (.ints .u32 a) ta, .v (.int .i64 n)] (AV.tup [AV.sl 1 (.ints .u32 []) false, AV.v (.int .i64 (1 : Int))]) :=
  evFn_pure hm sok11 (fn := Tryd.f16) rfl rfl (ti := false) (hs := [CHint.ops 2 [(2, Hint.b false)], CHint.ops 4 [(1, Hint.b true)]]) (c := _) (by kernel_rfl) h

theorem pshlF3 (a : List Int) (ta : Bool) (n : Int) (h : AllP [a.length < lim, over (norm a) = false, (norm a).length < lim, decide (n < (0 : Int)) = false, ((↑(norm a).length : Int) == (0 : Int)) = true]) : PureTo Tryd.prog 16 [.sl 1 (.ints .u32 a) ta, .v (.int .i64 n)] (AV.tup [AV.sl 1 (.ints .u32 []) false, AV.v (.int .i64 (0 : Int))]) :=
  evFn_pure hm sok11 (fn := Tryd.f16) rfl rfl (ti := false) (hs := [CHint.ops 2 [(2, Hint.b false)], CHint.ops 4 [(1, Hint.b false)], CHint.ops 6 [(2, Hint.b true)]]) (c := _) (by kernel_rfl) h

theorem pshlF4 (a : List Int) (ta : Bool) (n : Int) (h : AllP [a.length < lim, over (norm a) = false, (norm a).length < lim, decide (n < (0 : Int)) = false, ((↑(norm a).length : Int) == (0 : Int)) = false, decide (n > (32768 : Int)) = true]) : PureTo Tryd.prog 16 [.sl 1 (.ints .u32 a) ta, .v (.int .i64 n)] (AV.tup [AV.sl 1 (.ints .u32 []) false, AV.v (.int .i64 (3 : Int))]) :=
  evFn_pure hm sok11 (fn := Tryd.f16) rfl rfl (ti := false) (hs := [CHint.ops 2 [(2, Hint.b false)], CHint.ops 4 [(1, Hint.b false)], CHint.ops 6 [(2, Hint.b false)], CHint.ops 8 [(1, Hint.b true)]]) (c := _) (by kernel_rfl) h

theorem pshlF5 (a : List Int) (ta : Bool) (n : Int) (h : AllP [a.length < lim, over (norm a) = false, (norm a).length < lim, decide (n < (0 : Int)) = false, ((↑(norm a).length : Int) == (0 : Int)) = false, decide (n > (32768 : Int)) = false, Words (norm a), (0 : Int) ≤ n, n + (↑(norm a).length : Int) + (2 : Int) ≤ (1000000000000 : Int), (dig (nat (norm a) * 2 ^ n.toNat)).length < lim]) : PureTo Tryd.prog 16 [.sl 1 (.ints .u32 a) ta, .v (.int .i64 n)] (AV.tup [AV.sl 1 (.ints .u32 (toldL (dig (nat (norm a) * 2 ^ n.toNat)))) false, AV.v (.int .i64 (toldE (dig (nat (norm a) * 2 ^ n.toNat))))]) :=
  evFn_pure hm sok11 (fn := Tryd.f16) rfl rfl (ti := false) (hs := [CHint.ops 2 [(2, Hint.b false)], CHint.ops 4 [(1, Hint.b false)], CHint.ops 6 [(2, Hint.b false)], CHint.ops 8 [(1, Hint.b false)]]) (c := _) (by kernel_rfl) h
-- 5 paths

theorem ixfL0_1 (a : List Int) (ta : Bool) (x0 : Int) (h : AllP [decide (x0 < (↑a.length : Int)) = true, (0 : Int) ≤ x0 ∧ x0 < (↑a.length : Int), (a.getD x0.toNat (0 : Int) != (0 : Int)) = true]) : To Tryd.prog (loopAt Tryd.f54 0) ({ n := 19, fr := [(0, AV.sl 1 (.ints .u32 a) ta), (1, AV.fnv (Fn.func 44) [] []), (7, AV.v (.int .i64 (↑a.length : Int))), (8, AV.v (.int .i64 x0))], hp := [], nx := 0 }) (Exit.ret) { n := 19, fr := [(4, AV.v (.int .i64 x0))], hp := [], nx := 0 } :=
  evW_to hm sok11 (hs := [CHint.ops 2 [(0, Hint.b true)], CHint.ops 4 [(5, Hint.b true)]]) (slots := [4]) (keys := []) (nx := 0) (c := _) (by kernel_rfl) h

theorem ixfL0_2 (a : List Int) (ta : Bool) (x0 : Int) (h : AllP [decide (x0 < (↑a.length : Int)) = true, (0 : Int) ≤ x0 ∧ x0 < (↑a.length : Int), (a.getD x0.toNat (0 : Int) != (0 : Int)) = false, inR IntKind.i64 (x0 + (1 : Int))]) : To Tryd.prog (loopAt Tryd.f54 0) ({ n := 19, fr := [(0, AV.sl 1 (.ints .u32 a) ta), (1, AV.fnv (Fn.func 44) [] []), (7, AV.v (.int .i64 (↑a.length : Int))), (8, AV.v (.int .i64 x0))], hp := [], nx := 0 }) (.normal) { n := 19, fr := [(0, AV.sl 1 (.ints .u32 a) ta), (1, AV.fnv (Fn.func 44) [] []), (7, AV.v (.int .i64 (↑a.length : Int))), (8, AV.v (.int .i64 (x0 + (1 : Int))))], hp := [], nx := 0 } :=
  evW_to hm sok11 (hs := [CHint.ops 2 [(0, Hint.b true)], CHint.ops 4 [(5, Hint.b false)]]) (slots := [0, 1, 7, 8]) (keys := []) (nx := 0) (c := _) (by kernel_rfl) h

theorem ixfL0_3 (a : List Int) (ta : Bool) (x0 : Int) (h : AllP [decide (x0 < (↑a.length : Int)) = false]) : To Tryd.prog (loopAt Tryd.f54 0) ({ n := 19, fr := [(0, AV.sl 1 (.ints .u32 a) ta), (1, AV.fnv (Fn.func 44) [] []), (7, AV.v (.int .i64 (↑a.length : Int))), (8, AV.v (.int .i64 x0))], hp := [], nx := 0 }) (Exit.exit 0) { n := 19, fr := [], hp := [], nx := 0 } :=
  evW_to hm sok11 (hs := [CHint.ops 2 [(0, Hint.b false)]]) (slots := []) (keys := []) (nx := 0) (c := _) (by kernel_rfl) h
-- 2 paths

theorem ixfF1 (a : List Int) (ta : Bool) (x1 : Int) (h : AllP [LoopTo Tryd.prog (loopAt Tryd.f54 0) { n := 19, fr := [(0, AV.sl 1 (.ints .u32 a) ta), (1, AV.fnv (Fn.func 44) [] []), (7, AV.v (.int .i64 (↑a.length : Int))), (8, AV.v (.int .i64 (0 : Int)))], hp := [], nx := 0 } (Exit.exit 0) { n := 19, fr := [], hp := [], nx := 0 }]) : PureTo Tryd.prog 54 [.sl 1 (.ints .u32 a) ta, .fnv (.func 44) [] []] (AV.v (.int .i64 (-1 : Int))) :=
  evFn_pure hm sok11 (fn := Tryd.f54) rfl rfl (ti := false) (hs := [CHint.loop [0, 1, 7, 8] [] 0 (Exit.exit 0) { n := 19, fr := [], hp := [], nx := 0 }]) (c := _) (by kernel_rfl) h

theorem ixfF2 (a : List Int) (ta : Bool) (x1 : Int) (h : AllP [LoopTo Tryd.prog (loopAt Tryd.f54 0) { n := 19, fr := [(0, AV.sl 1 (.ints .u32 a) ta), (1, AV.fnv (Fn.func 44) [] []), (7, AV.v (.int .i64 (↑a.length : Int))), (8, AV.v (.int .i64 (0 : Int)))], hp := [], nx := 0 } Exit.ret { n := 19, fr := [(4, AV.v (.int .i64 x1))], hp := [], nx := 0 }]) : PureTo Tryd.prog 54 [.sl 1 (.ints .u32 a) ta, .fnv (.func 44) [] []] (AV.v (.int .i64 x1)) :=
  evFn_pure hm sok11 (fn := Tryd.f54) rfl rfl (ti := false) (hs := [CHint.loop [0, 1, 7, 8] [] 0 Exit.ret { n := 19, fr := [(4, AV.v (.int .i64 x1))], hp := [], nx := 0 }]) (c := _) (by kernel_rfl) h
-- 4 paths

theorem rshrL0_1 (a : List Int) (ta : Bool) (n : Int) (x0 : Int) (b0 : Bool) (h : AllP [decide (x0 < n) = true, b0 = true, inR IntKind.i64 (x0 + (1 : Int))]) : To Tryd.prog (loopAt Tryd.f48 0) ({ n := 72, fr := [(0, AV.sl 1 (.ints .u32 (norm a)) false), (1, AV.v (.int .i64 n)), (6, AV.v (.bool b0)), (7, AV.v (.int .i64 x0))], hp := [], nx := 0 }) (.normal) { n := 72, fr := [(0, AV.sl 1 (.ints .u32 (norm a)) false), (1, AV.v (.int .i64 n)), (6, AV.v (.bool true)), (7, AV.v (.int .i64 (x0 + (1 : Int))))], hp := [], nx := 0 } :=
  evW_to hm sok11 (hs := [CHint.ops 8 [(2, Hint.b true)], CHint.ops 10 [(1, Hint.b true)]]) (slots := [0, 1, 6, 7]) (keys := []) (nx := 0) (c := _) (by kernel_rfl) h

theorem rshrL0_2 (a : List Int) (ta : Bool) (n : Int) (x0 : Int) (b0 : Bool) (h : AllP [decide (x0 < n) = true, b0 = false, (32 : Int) ≠ (0 : Int), inR IntKind.i64 (x0.tdiv (32 : Int)), (0 : Int) ≤ x0.tdiv (32 : Int) ∧ x0.tdiv (32 : Int) < (↑(norm a).length : Int), (32 : Int) ≠ (0 : Int), (0 : Int) ≤ x0.tmod (32 : Int) % (18446744073709551616 : Int), (bitsOf BinOp.and IntKind.u32 ((norm a).getD (x0.tdiv (32 : Int)).toNat (0 : Int) / (2 : Int) ^ min (x0.tmod (32 : Int) % (18446744073709551616 : Int)).toNat 32) (1 : Int) == (1 : Int)) = true, inR IntKind.i64 (x0 + (1 : Int))]) : To Tryd.prog (loopAt Tryd.f48 0) ({ n := 72, fr := [(0, AV.sl 1 (.ints .u32 (norm a)) false), (1, AV.v (.int .i64 n)), (6, AV.v (.bool b0)), (7, AV.v (.int .i64 x0))], hp := [], nx := 0 }) (.normal) { n := 72, fr := [(0, AV.sl 1 (.ints .u32 (norm a)) false), (1, AV.v (.int .i64 n)), (6, AV.v (.bool true)), (7, AV.v (.int .i64 (x0 + (1 : Int))))], hp := [], nx := 0 } :=
  evW_to hm sok11 (hs := [CHint.ops 8 [(2, Hint.b true)], CHint.ops 10 [(1, Hint.b false), (12, Hint.b true)]]) (slots := [0, 1, 6, 7]) (keys := []) (nx := 0) (c := _) (by kernel_rfl) h

theorem rshrL0_3 (a : List Int) (ta : Bool) (n : Int) (x0 : Int) (b0 : Bool) (h : AllP [decide (x0 < n) = true, b0 = false, (32 : Int) ≠ (0 : Int), inR IntKind.i64 (x0.tdiv (32 : Int)), (0 : Int) ≤ x0.tdiv (32 : Int) ∧ x0.tdiv (32 : Int) < (↑(norm a).length : Int), (32 : Int) ≠ (0 : Int), (0 : Int) ≤ x0.tmod (32 : Int) % (18446744073709551616 : Int), (bitsOf BinOp.and IntKind.u32 ((norm a).getD (x0.tdiv (32 : Int)).toNat (0 : Int) / (2 : Int) ^ min (x0.tmod (32 : Int) % (18446744073709551616 : Int)).toNat 32) (1 : Int) == (1 : Int)) = false, inR IntKind.i64 (x0 + (1 : Int))]) : To Tryd.prog (loopAt Tryd.f48 0) ({ n := 72, fr := [(0, AV.sl 1 (.ints .u32 (norm a)) false), (1, AV.v (.int .i64 n)), (6, AV.v (.bool b0)), (7, AV.v (.int .i64 x0))], hp := [], nx := 0 }) (.normal) { n := 72, fr := [(0, AV.sl 1 (.ints .u32 (norm a)) false), (1, AV.v (.int .i64 n)), (6, AV.v (.bool false)), (7, AV.v (.int .i64 (x0 + (1 : Int))))], hp := [], nx := 0 } :=
  evW_to hm sok11 (hs := [CHint.ops 8 [(2, Hint.b true)], CHint.ops 10 [(1, Hint.b false), (12, Hint.b false)]]) (slots := [0, 1, 6, 7]) (keys := []) (nx := 0) (c := _) (by kernel_rfl) h

theorem rshrL0_4 (a : List Int) (ta : Bool) (n : Int) (x0 : Int) (b0 : Bool) (h : AllP [decide (x0 < n) = false]) : To Tryd.prog (loopAt Tryd.f48 0) ({ n := 72, fr := [(0, AV.sl 1 (.ints .u32 (norm a)) false), (1, AV.v (.int .i64 n)), (6, AV.v (.bool b0)), (7, AV.v (.int .i64 x0))], hp := [], nx := 0 }) (Exit.exit 0) { n := 72, fr := [(0, AV.sl 1 (.ints .u32 (norm a)) false), (1, AV.v (.int .i64 n)), (6, AV.v (.bool b0))], hp := [], nx := 0 } :=
  evW_to hm sok11 (hs := [CHint.ops 8 [(2, Hint.b false)]]) (slots := [0, 1, 6]) (keys := []) (nx := 0) (c := _) (by kernel_rfl) h
-- 2 paths

theorem rshrL1_1 (a : List Int) (ta : Bool) (n : Int) (x1 : Int) (b1 : Bool) (l0 : List Int) (n0 : Nat) (h : AllP [decide (x1 < (↑(norm a).length : Int)) = true, Words (norm a), (0 : Int) ≤ x1, inR IntKind.i64 (x1 + (1 : Int)), Words (norm a), (0 : Int) ≤ x1 + (1 : Int), (0 : Int) ≤ (32 : Int), inR IntKind.u64 (wd (norm a) (x1 + (1 : Int)) * (4294967296 : Int)), (32 : Int) ≠ (0 : Int), (0 : Int) ≤ n.tmod (32 : Int) % (18446744073709551616 : Int), l0.length = l0.length, l0.length = l0.length, (l0 ++ [bitsOf BinOp.or IntKind.u64 (wd (norm a) x1) (wd (norm a) (x1 + (1 : Int)) * (4294967296 : Int)) / (2 : Int) ^ min (n.tmod (32 : Int) % (18446744073709551616 : Int)).toNat 64 % (4294967296 : Int)]).length * 4 ≤ 140737488355328, inR IntKind.i64 (x1 + (1 : Int))]) : To Tryd.prog (loopAt Tryd.f48 1) ({ n := 72, fr := [(0, AV.sl 1 (.ints .u32 (norm a)) false), (1, AV.v (.int .i64 n)), (6, AV.v (.bool b1)), (8, AV.row 0 0 l0.length l0.length false), (9, AV.v (.int .i64 x1))], hp := [(0, AObj.row 54 1 (.ints .u32 l0) n0)], nx := 1 }) (.normal) { n := 72, fr := [(0, AV.sl 1 (.ints .u32 (norm a)) false), (1, AV.v (.int .i64 n)), (6, AV.v (.bool b1)), (8, AV.row 0 0 (l0 ++ [bitsOf BinOp.or IntKind.u64 (wd (norm a) x1) (wd (norm a) (x1 + (1 : Int)) * (4294967296 : Int)) / (2 : Int) ^ min (n.tmod (32 : Int) % (18446744073709551616 : Int)).toNat 64 % (4294967296 : Int)]).length (l0 ++ [bitsOf BinOp.or IntKind.u64 (wd (norm a) x1) (wd (norm a) (x1 + (1 : Int)) * (4294967296 : Int)) / (2 : Int) ^ min (n.tmod (32 : Int) % (18446744073709551616 : Int)).toNat 64 % (4294967296 : Int)]).length false), (9, AV.v (.int .i64 (x1 + (1 : Int))))], hp := [(0, AObj.row 54 1 (.ints .u32 (l0 ++ [bitsOf BinOp.or IntKind.u64 (wd (norm a) x1) (wd (norm a) (x1 + (1 : Int)) * (4294967296 : Int)) / (2 : Int) ^ min (n.tmod (32 : Int) % (18446744073709551616 : Int)).toNat 64 % (4294967296 : Int)])) n0)], nx := 1 } :=
  evW_to hm sok11 (hs := [CHint.ops 13 [(3, Hint.b true)]]) (slots := [0, 1, 6, 8, 9]) (keys := [0]) (nx := 1) (c := _) (by kernel_rfl) h

theorem rshrL1_2 (a : List Int) (ta : Bool) (n : Int) (x1 : Int) (b1 : Bool) (l0 : List Int) (n0 : Nat) (h : AllP [decide (x1 < (↑(norm a).length : Int)) = false]) : To Tryd.prog (loopAt Tryd.f48 1) ({ n := 72, fr := [(0, AV.sl 1 (.ints .u32 (norm a)) false), (1, AV.v (.int .i64 n)), (6, AV.v (.bool b1)), (8, AV.row 0 0 l0.length l0.length false), (9, AV.v (.int .i64 x1))], hp := [(0, AObj.row 54 1 (.ints .u32 l0) n0)], nx := 1 }) (Exit.exit 2) { n := 72, fr := [(6, AV.v (.bool b1)), (8, AV.row 0 0 l0.length l0.length false)], hp := [(0, AObj.row 54 1 (.ints .u32 l0) n0)], nx := 1 } :=
  evW_to hm sok11 (hs := [CHint.ops 13 [(3, Hint.b false)]]) (slots := [6, 8]) (keys := [0]) (nx := 1) (c := _) (by kernel_rfl) h
-- 4 paths

theorem rshrF1 (a : List Int) (ta : Bool) (n : Int) (b1 : Bool) (l1 : List Int) (n1 : Nat) (h : AllP [a.length ≤ lim4, decide (n ≤ (0 : Int)) = true]) : PureTo Tryd.prog 48 [.sl 1 (.ints .u32 a) ta, .v (.int .i64 n)] (AV.tup [AV.sl 1 (.ints .u32 (norm a)) false, AV.v (.bool false)]) :=
  evFn_pure hm sok11 (fn := Tryd.f48) rfl rfl (ti := false) (hs := [CHint.ops 2 [(1, Hint.b true)]]) (c := _) (by kernel_rfl) h

theorem rshrF2 (a : List Int) (ta : Bool) (n : Int) (b1 : Bool) (l1 : List Int) (n1 : Nat) (h : AllP [a.length ≤ lim4, decide (n ≤ (0 : Int)) = false, inR IntKind.i64 ((32 : Int) * (↑(norm a).length : Int)), decide (n ≥ (32 : Int) * (↑(norm a).length : Int)) = true, decide ((↑(norm a).length : Int) > (0 : Int)) = true]) : PureTo Tryd.prog 48 [.sl 1 (.ints .u32 a) ta, .v (.int .i64 n)] (AV.tup [AV.sl 1 (.ints .u32 []) false, AV.v (.bool true)]) :=
  evFn_pure hm sok11 (fn := Tryd.f48) rfl rfl (ti := false) (hs := [CHint.ops 2 [(1, Hint.b false)], CHint.ops 4 [(4, Hint.b true)], CHint.ops 5 [(2, Hint.b true)]]) (c := _) (by kernel_rfl) h

theorem rshrF3 (a : List Int) (ta : Bool) (n : Int) (b1 : Bool) (l1 : List Int) (n1 : Nat) (h : AllP [a.length ≤ lim4, decide (n ≤ (0 : Int)) = false, inR IntKind.i64 ((32 : Int) * (↑(norm a).length : Int)), decide (n ≥ (32 : Int) * (↑(norm a).length : Int)) = true, decide ((↑(norm a).length : Int) > (0 : Int)) = false]) : PureTo Tryd.prog 48 [.sl 1 (.ints .u32 a) ta, .v (.int .i64 n)] (AV.tup [AV.sl 1 (.ints .u32 []) false, AV.v (.bool false)]) :=
  evFn_pure hm sok11 (fn := Tryd.f48) rfl rfl (ti := false) (hs := [CHint.ops 2 [(1, Hint.b false)], CHint.ops 4 [(4, Hint.b true)], CHint.ops 5 [(2, Hint.b false)]]) (c := _) (by kernel_rfl) h

theorem rshrF4 (a : List Int) (ta : Bool) (n : Int) (b1 : Bool) (l1 : List Int) (n1 : Nat) (h : AllP [a.length ≤ lim4, decide (n ≤ (0 : Int)) = false, inR IntKind.i64 ((32 : Int) * (↑(norm a).length : Int)), decide (n ≥ (32 : Int) * (↑(norm a).length : Int)) = false, LoopTo Tryd.prog (loopAt Tryd.f48 0) { n := 72, fr := [(0, AV.sl 1 (.ints .u32 (norm a)) false), (1, AV.v (.int .i64 n)), (6, AV.v (.bool false)), (7, AV.v (.int .i64 (0 : Int)))], hp := [], nx := 0 } (Exit.exit 0) { n := 72, fr := [(0, AV.sl 1 (.ints .u32 (norm a)) false), (1, AV.v (.int .i64 n)), (6, AV.v (.bool b1))], hp := [], nx := 0 }, (32 : Int) ≠ (0 : Int), inR IntKind.i64 (n.tdiv (32 : Int)), LoopTo Tryd.prog (loopAt Tryd.f48 1) { n := 72, fr := [(0, AV.sl 1 (.ints .u32 (norm a)) false), (1, AV.v (.int .i64 n)), (6, AV.v (.bool b1)), (8, AV.row 0 0 0 0 false), (9, AV.v (.int .i64 (n.tdiv (32 : Int))))], hp := [(0, AObj.row 54 1 (.ints .u32 []) 0)], nx := 1 } (Exit.exit 2) { n := 72, fr := [(6, AV.v (.bool b1)), (8, AV.row 0 0 l1.length l1.length false)], hp := [(0, AObj.row 54 1 (.ints .u32 l1) n1)], nx := 1 }, l1.length = l1.length, n1 ≤ l1.length, l1.length ≤ lim4]) : PureTo Tryd.prog 48 [.sl 1 (.ints .u32 a) ta, .v (.int .i64 n)] (AV.tup [AV.sl 1 (.ints .u32 (norm l1)) false, AV.v (.bool b1)]) :=
  evFn_pure hm sok11 (fn := Tryd.f48) rfl rfl (ti := false) (hs := [CHint.ops 2 [(1, Hint.b false)], CHint.ops 4 [(4, Hint.b false)], CHint.loop [0, 1, 6, 7] [] 0 (Exit.exit 0) { n := 72, fr := [(0, AV.sl 1 (.ints .u32 (norm a)) false), (1, AV.v (.int .i64 n)), (6, AV.v (.bool b1))], hp := [], nx := 0 }, CHint.ops 11 [(0, Hint.nil 54)], CHint.loop [0, 1, 6, 8, 9] [0] 1 (Exit.exit 2) { n := 72, fr := [(6, AV.v (.bool b1)), (8, AV.row 0 0 l1.length l1.length false)], hp := [(0, AObj.row (54 : TypeId) 1 (.ints .u32 l1) n1)], nx := 1 }]) (c := _) (by kernel_rfl) h

/-- the first word that is not 0; -1: there is none -/
def fz (a : List Int) : Int := if ∀ x, x ∈ a → x = 0 then -1 else (a.findIdx (· != 0) : Nat)

theorem fz_sign (a : List Int) : decide (fz a ≥ 0) = !decide (∀ x, x ∈ a → x = 0) := by
  unfold fz
  split
  · next h => rw [decide_eq_true h]; rfl
  · next h => rw [decide_eq_false h]; simp

theorem ixf_loop (a : List Int) (ta : Bool) (hl : a.length < lim) : ∀ f i : Nat, i + f = a.length → (∀ j, j < i → a.getD j 0 = 0) →
    ((∀ x, x ∈ a → x = 0) → LoopTo Tryd.prog (loopAt Tryd.f54 0) (ixfS0 a ta i) (.exit 0) (ixfX0 a ta)) ∧
    (¬ (∀ x, x ∈ a → x = 0) → LoopTo Tryd.prog (loopAt Tryd.f54 0) (ixfS0 a ta i) .ret (ixfX0_1 a ta (a.findIdx (· != 0) : Nat))) := by
  unfold lim at hl
  intro f
  induction f with
  | zero =>
    intro i hi hz
    refine ⟨fun _ => .done (by simp) (ixfL0_3 a ta i ⟨by simp; omega, trivial⟩), fun hn => absurd (fun x hx => ?_) hn⟩
    obtain ⟨j, hj, rfl⟩ := List.getElem_of_mem hx
    have := hz j (by omega)
    simpa [List.getD_eq_getElem?_getD, hj] using this
  | succ f ih =>
    intro i hi hz
    have hi2 : i < a.length := by omega
    have e : a.getD i 0 = a[i] := by simp [List.getD_eq_getElem?_getD, hi2]
    by_cases h0 : a.getD i 0 = 0
    · obtain ⟨g1, g2⟩ := ih (i + 1) (by omega) fun j hj => by
        rcases Nat.lt_or_ge j i with h | h
        · exact hz j h
        · have : j = i := by omega
          subst this
          exact h0
      have hs := ixfL0_2 a ta i ⟨by simp; omega, by omega, by rw [Int.toNat_natCast]; simpa using h0, inR64 (by omega) (by omega), trivial⟩
      exact ⟨fun h => .step hs (g1 h), fun h => .step hs (g2 h)⟩
    · refine ⟨fun h => absurd (h _ (List.getElem_mem hi2)) (by rw [← e]; exact h0), fun _ => ?_⟩
      have hidx : a.findIdx (· != 0) = i := by
        refine (List.findIdx_eq hi2).2 ⟨by simpa [← e] using h0, fun j hj => ?_⟩
        have := hz j hj
        simp [List.getD_eq_getElem?_getD, show j < a.length by omega] at this
        simp [this]
      rw [hidx]
      exact .done (by simp) (ixfL0_1 a ta i ⟨by simp; omega, by omega, by rw [Int.toNat_natCast]; simpa using h0, trivial⟩)

theorem ixf_pure (a : List Int) (ta : Bool) (hl : a.length < lim) : PureTo Tryd.prog 54 [.sl 1 (.ints .u32 a) ta, .fnv (.func 44) [] []] (.v (.int .i64 (fz a))) := by
  obtain ⟨h1, h2⟩ := ixf_loop a ta hl a.length 0 (by omega) (fun j hj => by omega)
  unfold fz
  split
  · next h => exact ixfF1 a ta 0 ⟨h1 h, trivial⟩
  · next h => exact ixfF2 a ta _ ⟨h2 h, trivial⟩

theorem over_norm {a : List Int} (ha : Words a) : over (norm a) = over a := by rw [over_big (words_norm ha), over_big ha, nat_norm]

theorem norm_nil {a : List Int} (ha : Words a) : (norm a).length = 0 ↔ nat a = 0 := by
  rw [norm_eq ha]
  constructor
  · intro h
    have := nat_dig (nat a)
    rw [List.eq_nil_of_length_eq_zero h] at this
    exact this.symm
  · intro h
    rw [h, dig_zero]
    rfl

set_option exponentiation.threshold 100000 in
theorem dig_shl_len {m : Nat} {n : Int} (hm : m < 4294967296 ^ 1024) (hn : n ≤ 32768) : (dig (m * 2 ^ n.toNat)).length ≤ 2048 := by
  have h : ¬ 2048 < (dig (m * 2 ^ n.toNat)).length := by
    rw [dig_len]
    have h1 : (2 : Nat) ^ n.toNat ≤ 2 ^ 32768 := Nat.pow_le_pow_right (by omega) (by omega)
    have h2 : (2 : Nat) ^ 32768 = 4294967296 ^ 1024 := by rw [show (4294967296 : Nat) = 2 ^ 32 from rfl, ← Nat.pow_mul]
    have h3 : (4294967296 : Nat) ^ 2048 = 4294967296 ^ 1024 * 4294967296 ^ 1024 := by rw [← Nat.pow_add]
    rw [h2] at h1
    have h4 : m * 2 ^ n.toNat < 4294967296 ^ 1024 * 4294967296 ^ 1024 := by
      refine Nat.lt_of_le_of_lt (Nat.mul_le_mul_left m h1) ?_
      exact Nat.mul_lt_mul_of_pos_right hm (Nat.pow_pos (by omega))
    rw [h3]
    exact Nat.not_le.2 h4
  omega

theorem lt_of_over {a : List Int} (ha : Words a) (h : over a = false) : nat a < 4294967296 ^ 1024 := by
  have h3 : ¬ 1024 < (norm a).length := by have := small_of_over h; omega
  rw [norm_len ha] at h3
  exact Nat.not_le.1 h3

theorem told_dig (m : Nat) : toldL (dig m) = (if big m then [] else dig m) ∧ toldE (dig m) = (if big m then 3 else 0) := by
  unfold toldL toldE
  rw [over_big (words_dig m), norm_eq (words_dig m), nat_dig]
  exact ⟨rfl, rfl⟩

theorem pshl_pure (a : List Int) (ta : Bool) (n : Int) (ha : Words a) (hl : a.length < lim) : PureTo Tryd.prog 16 [.sl 1 (.ints .u32 a) ta, .v (.int .i64 n)] (.tup [.sl 1 (.ints .u32 (ShlN (nat a) n).1) false, .v (.int .i64 (ShlN (nat a) n).2)]) := by
  have hle := norm_length_le a
  have hl2 : (norm a).length < lim := by omega
  have ho := over_norm ha
  have hz := norm_nil ha
  unfold ShlN
  rw [← over_big ha]
  cases h0 : over a with
  | true => exact pshlF1 a ta n ⟨hl, by rw [ho]; exact h0, hl2, trivial⟩
  | false =>
    have hov : over (norm a) = false := by rw [ho]; exact h0
    by_cases h1 : n < 0
    · simp only [Bool.false_eq_true, if_false, if_pos h1]
      exact pshlF2 a ta n ⟨hl, hov, hl2, by simpa using h1, trivial⟩
    · by_cases h2 : nat a = 0
      · simp only [Bool.false_eq_true, if_false, if_neg h1, if_pos h2]
        exact pshlF3 a ta n ⟨hl, hov, hl2, by simpa using h1, by simpa using hz.2 h2, trivial⟩
      · have h2' : ¬ (norm a).length = 0 := fun e => h2 (hz.1 e)
        by_cases h3 : 32768 < n
        · simp only [Bool.false_eq_true, if_false, if_neg h1, if_neg h2, if_pos h3]
          exact pshlF4 a ta n ⟨hl, hov, hl2, by simpa using h1, by simpa using h2', by simpa using h3, trivial⟩
        · simp only [Bool.false_eq_true, if_false, if_neg h1, if_neg h2, if_neg h3]
          have hsm := small_of_over h0
          have hd := dig_shl_len (lt_of_over ha h0) (show n ≤ 32768 by omega)
          have h := pshlF5 a ta n ⟨hl, hov, hl2, by simpa using h1, by simpa using h2', by simpa using h3, words_norm ha, by omega, by omega, by rw [nat_norm]; unfold lim; omega, trivial⟩
          rw [nat_norm, (told_dig _).1, (told_dig _).2] at h
          cases hb : big (nat a * 2 ^ n.toNat) <;> (rw [hb] at h; exact h)

theorem rshr_bits (a : List Int) (ta : Bool) (n : Int) (L : List Int) (hL : norm a = L) (hw : Words L) (h0 : 0 ≤ n) (hlt : n < 32 * (L.length : Int)) (hlen : L.length ≤ 35184372088832) : ∀ f i : Nat, (i : Int) + f = n →
    LoopTo Tryd.prog (loopAt Tryd.f48 0) (rshrS0 a ta n i (decide (nat L % 2 ^ i ≠ 0))) (.exit 0) (rshrX0 a ta n (decide (nat L % 2 ^ n.toNat ≠ 0))) := by
  intro f
  induction f with
  | zero =>
    intro i hi
    have e : n.toNat = i := by omega
    rw [e]
    exact .done (by simp) (rshrL0_4 a ta n i _ ⟨by simp; omega, trivial⟩)
  | succ f ih =>
    intro i hi
    have ih := ih (i + 1) (by omega)
    have hb := mod_bit (nat L) i
    by_cases hz : nat L % 2 ^ i = 0
    · have hi2 : i < 32 * L.length := by omega
      have hx := words_getD hw (i / 32)
      have hbit := word_bit hw i hi2
      have e1 : (i : Int).tdiv 32 = ((i / 32 : Nat) : Int) := by rw [Int.tdiv_eq_ediv_of_nonneg (by omega)]; omega
      have e2 : (i : Int).tmod 32 % 18446744073709551616 = ((i % 32 : Nat) : Int) := by rw [Int.tmod_eq_emod_of_nonneg (by omega)]; omega
      have e3 : (2 : Int) ^ min ((i : Int).tmod 32 % 18446744073709551616).toNat 32 = ((2 ^ (i % 32) : Nat) : Int) := by
        rw [e2, Int.toNat_natCast, Nat.min_eq_left (by omega), two_pow]
      have e4 : bitsOf .and .u32 (L.getD (i / 32) 0 / ((2 ^ (i % 32) : Nat) : Int)) 1 = (((L.getD (i / 32) 0).toNat / 2 ^ (i % 32) % 2 : Nat) : Int) := by
        have hq : L.getD (i / 32) 0 / ((2 ^ (i % 32) : Nat) : Int) = (((L.getD (i / 32) 0).toNat / 2 ^ (i % 32) : Nat) : Int) := by
          rw [Int.natCast_ediv]
          congr 1
          omega
        rw [hq]
        have hle2 := Nat.div_le_self (L.getD (i / 32) 0).toNat (2 ^ (i % 32))
        have := and_low (k := .u32) (s := 1) (x := (((L.getD (i / 32) 0).toNat / 2 ^ (i % 32) : Nat) : Int)) rfl (Int.natCast_nonneg _) (by show _ < (2 : Int) ^ 32; omega) (by decide)
        rw [Int.natCast_emod]
        exact this
      have hfalse : decide (nat L % 2 ^ i ≠ 0) = false := by simp [hz]
      cases hbv : decide (nat L / 2 ^ i % 2 = 1) with
      | true =>
        have hbv' : nat L / 2 ^ i % 2 = 1 := by simpa using hbv
        have hne : decide (nat L % 2 ^ (i + 1) ≠ 0) = true := by
          simp only [ne_eq, decide_not, hb, hz, true_and]
          simp [hbv']
        have h1 := rshrL0_2 a ta n i (decide (nat L % 2 ^ i ≠ 0)) (by
          rw [hL, e1, e3, Int.toNat_natCast, e4, ← hbit, hbv', e2]
          exact ⟨by simp; omega, hfalse, by omega, inR64 (by omega) (by omega), by omega, by omega, by omega, by simp, inR64 (by omega) (by omega), trivial⟩)
        rw [hne] at ih
        exact .step h1 ih
      | false =>
        have hbv' : nat L / 2 ^ i % 2 = 0 := by
          have : ¬ nat L / 2 ^ i % 2 = 1 := by simpa using hbv
          omega
        have hne : decide (nat L % 2 ^ (i + 1) ≠ 0) = false := by
          simp only [ne_eq, decide_not, hb, hz, true_and]
          simp [hbv']
        have h1 := rshrL0_3 a ta n i (decide (nat L % 2 ^ i ≠ 0)) (by
          rw [hL, e1, e3, Int.toNat_natCast, e4, ← hbit, hbv', e2]
          exact ⟨by simp; omega, hfalse, by omega, inR64 (by omega) (by omega), by omega, by omega, by omega, by simp, inR64 (by omega) (by omega), trivial⟩)
        rw [hne] at ih
        exact .step h1 ih
    · have htrue : decide (nat L % 2 ^ i ≠ 0) = true := by simp [hz]
      have hne : decide (nat L % 2 ^ (i + 1) ≠ 0) = true := by
        simp only [ne_eq, decide_not, hb]
        simp [hz]
      have h1 := rshrL0_1 a ta n i (decide (nat L % 2 ^ i ≠ 0)) ⟨by simp; omega, htrue, inR64 (by omega) (by omega), trivial⟩
      rw [hne] at ih
      exact .step h1 ih

theorem shW_int {x y : Int} {s : Nat} (hs : s < 32) (hx : 0 ≤ x ∧ x < 4294967296) (hy : 0 ≤ y ∧ y < 4294967296) : bitsOf .or .u64 x (y * 4294967296) / ((2 ^ s : Nat) : Int) % 4294967296 = (shW x.toNat y.toNat s : Int) ∧ bitsOf .or .u64 (y * 4294967296) x / ((2 ^ s : Nat) : Int) % 4294967296 = (shW x.toNat y.toNat s : Int) := by
  obtain ⟨a, b⟩ := or_add (k := .u64) (s := 32) (x := x) (y := y * 4294967296) rfl hx.1 (by simp; omega) (by omega) (by show _ < (2 : Int) ^ 64; omega) (by simp) (by decide)
  have e : x + y * 4294967296 = ((y.toNat * 4294967296 + x.toNat : Nat) : Int) := by omega
  rw [a, b, e, ← Int.natCast_ediv]
  unfold shW
  constructor <;> omega

theorem rshr_words (a : List Int) (ta : Bool) (n : Int) (L : List Int) (hL : norm a = L) (hw : Words L) (w s : Nat) (C : Cnt n w s) (b : Bool) (hlen : L.length ≤ 35184372088832) : ∀ (f i : Nat) (l : List Int), w + i + f = L.length → l = (shrW (L.drop w) s).take i →
    LoopTo Tryd.prog (loopAt Tryd.f48 1) (rshrS1 a ta n ((w + i : Nat) : Int) b l 0) (.exit 2) (rshrX1 a ta n b (shrW (L.drop w) s) 0) := by
  have hs := C.rlt
  intro f
  induction f with
  | zero =>
    intro i l hi hl
    have e : l = shrW (L.drop w) s := by rw [hl, List.take_of_length_le (by rw [shrW_length, List.length_drop]; omega)]
    rw [e]
    exact .done (by simp) (rshrL1_2 a ta n _ b _ 0 ⟨by rw [hL]; simp; omega, trivial⟩)
  | succ f ih =>
    intro i l hi hl
    have hx := wd_bound hw ((w + i : Nat) : Int)
    have hy := wd_bound hw (((w + i : Nat) : Int) + 1)
    have e2 : n.tmod 32 % 18446744073709551616 = (s : Int) := by rw [C.er]; omega
    have e3 : (2 : Int) ^ min (n.tmod 32 % 18446744073709551616).toNat 64 = ((2 ^ s : Nat) : Int) := by rw [e2, Int.toNat_natCast, Nat.min_eq_left (by omega), two_pow]
    have e4 := (shW_int hs hx hy).1
    have hlenl : l.length = i := by rw [hl, List.length_take, shrW_length, List.length_drop]; omega
    have hg : (shrW (L.drop w) s).getD i 0 = (shW (wd L ((w + i : Nat) : Int)).toNat (wd L (((w + i : Nat) : Int) + 1)).toNat s : Int) := by
      rw [shrW_get _ _ _ (by rw [List.length_drop]; omega)]
      have h1 : (L.drop w).getD i 0 = wd L ((w + i : Nat) : Int) := by rw [wd_nat, List.getD_eq_getElem?_getD, List.getElem?_drop, ← List.getD_eq_getElem?_getD]
      have h2 : (L.drop w).getD (i + 1) 0 = wd L (((w + i : Nat) : Int) + 1) := by
        rw [show ((w + i : Nat) : Int) + 1 = ((w + (i + 1) : Nat) : Int) by omega, wd_nat, List.getD_eq_getElem?_getD, List.getElem?_drop, ← List.getD_eq_getElem?_getD]
      rw [h1, h2]
    have hi2 : i < (shrW (L.drop w) s).length := by rw [shrW_length, List.length_drop]; omega
    have hnext : l ++ [(shW (wd L ((w + i : Nat) : Int)).toNat (wd L (((w + i : Nat) : Int) + 1)).toNat s : Int)] = (shrW (L.drop w) s).take (i + 1) := by
      rw [List.take_succ_eq_append_getElem hi2, hl, ← hg]
      congr 2
      simp [List.getD_eq_getElem?_getD, hi2]
    have h1 := rshrL1_1 a ta n ((w + i : Nat) : Int) b l 0 (by
      rw [hL, e3, e4, e2]
      refine ⟨by simp; omega, hw, by omega, inR64 (by omega) (by omega), hw, by omega, by omega, inRu64 (by omega) (by omega), by omega, by omega, rfl, rfl, by simp; omega, inR64 (by omega) (by omega), trivial⟩)
    rw [hL, e3, e4, hnext] at h1
    have ih := ih (i + 1) _ (by omega) rfl
    have e5 : ((w + i : Nat) : Int) + 1 = ((w + (i + 1) : Nat) : Int) := by omega
    rw [e5] at h1
    unfold rshrS1
    unfold rshrS1 at ih
    rw [hL] at ih ⊢
    exact .step h1 ih

theorem rshr_pure (a : List Int) (ta : Bool) (n : Int) (ha : Words a) (hl4 : a.length ≤ lim4) : PureTo Tryd.prog 48 [.sl 1 (.ints .u32 a) ta, .v (.int .i64 n)] (.tup [.sl 1 (.ints .u32 (ShrN (nat a) n).1) false, .v (.bool (ShrN (nat a) n).2)]) := by
  have hle := norm_length_le a
  have hl := hl4
  unfold lim4 at hl
  have hw := words_norm ha
  have hz := norm_nil ha
  have hN := nat_lt hw
  rw [nat_norm] at hN
  unfold ShrN
  by_cases h0 : n ≤ 0
  · have e : (if n < 0 then ((dig (nat a), false) : List Int × Bool) else (dig (nat a / 2 ^ n.toNat), decide (nat a % 2 ^ n.toNat ≠ 0))) = (norm a, false) := by
      split
      · rw [norm_eq ha]
      · have : n.toNat = 0 := by omega
        rw [this, Nat.pow_zero, Nat.div_one, Nat.mod_one, norm_eq ha]
        rfl
    rw [e]
    exact rshrF1 a ta n false [] 0 ⟨hl4, by simpa using h0, trivial⟩
  · rw [if_neg (by omega)]
    have hi : inR .i64 (32 * ((norm a).length : Int)) := inR64 (by omega) (by omega)
    by_cases h1 : n ≥ 32 * ((norm a).length : Int)
    · have hb : nat a < 2 ^ n.toNat := by
        refine Nat.lt_of_lt_of_le hN ?_
        rw [show (4294967296 : Nat) = 2 ^ 32 from rfl, ← Nat.pow_mul]
        exact Nat.pow_le_pow_right (by omega) (by omega)
      rw [Nat.div_eq_of_lt hb, Nat.mod_eq_of_lt hb, dig_zero]
      by_cases h2 : (norm a).length = 0
      · have : nat a = 0 := hz.1 h2
        have e : decide (nat a ≠ 0) = false := by simp [this]
        simp only [e]
        exact rshrF3 a ta n false [] 0 ⟨hl4, by simpa using h0, hi, by simpa using h1, by simp [h2], trivial⟩
      · have : nat a ≠ 0 := fun e => h2 (hz.2 e)
        have e : decide (nat a ≠ 0) = true := by simp [this]
        simp only [e]
        exact rshrF2 a ta n false [] 0 ⟨hl4, by simpa using h0, hi, by simpa using h1, by simp; omega, trivial⟩
    · have C := cnt (show 0 ≤ n by omega)
      have hbits := rshr_bits a ta n (norm a) rfl hw (by omega) (by omega) (by omega) n.toNat 0 (by omega)
      rw [Nat.pow_zero, Nat.mod_one] at hbits
      have hwords := rshr_words a ta n (norm a) rfl hw _ _ C (decide (nat (norm a) % 2 ^ n.toNat ≠ 0)) (by omega) ((norm a).length - n.toNat / 32) 0 [] (by omega) (by simp)
      have hq := shr_quot hw n.toNat (by omega)
      rw [nat_norm] at hq
      have hwl := shrW_words ((norm a).drop (n.toNat / 32)) (n.toNat % 32)
      have hll := shrW_length ((norm a).drop (n.toNat / 32)) (n.toNat % 32)
      rw [List.length_drop] at hll
      have h := rshrF4 a ta n (decide (nat (norm a) % 2 ^ n.toNat ≠ 0)) (shrW ((norm a).drop (n.toNat / 32)) (n.toNat % 32)) 0 ⟨hl4, by simpa using h0, hi, by simpa using h1, hbits, by omega, by rw [C.ew]; exact inR64 (by omega) (by omega), by
        rw [C.ew]
        exact hwords, rfl, by omega, by unfold lim4; omega, trivial⟩
      rw [norm_eq hwl, hq, nat_norm] at h
      exact h

def sigIxf : List AV → Option (AV × List Prop)
  | [.sl 1 (.ints .u32 a) _, .fnv (.func 44) [] []] => some (.v (.int .i64 (fz a)), [a.length < lim])
  | _ => none

def sigShlN : List AV → Option (AV × List Prop)
  | [.sl 1 (.ints .u32 a) _, .v (.int .i64 n)] => some (.tup [.sl 1 (.ints .u32 (ShlN (nat a) n).1) false, .v (.int .i64 (ShlN (nat a) n).2)], [Words a, a.length ≤ lim4])
  | _ => none

def sigShrN : List AV → Option (AV × List Prop)
  | [.sl 1 (.ints .u32 a) _, .v (.int .i64 n)] => some (.tup [.sl 1 (.ints .u32 (ShrN (nat a) n).1) false, .v (.bool (ShrN (nat a) n).2)], [Words a, a.length ≤ lim4])
  | _ => none

def SG12 : SGT := (54, .p sigIxf) :: (16, .p sigShlN) :: (48, .p sigShrN) :: SG11

theorem sok12 : SigsOK Tryd.prog SG12 := by
  refine sigs_cons (sigs_cons (sigs_cons sok11 ?_) ?_) ?_
  · intro ys r c h hc
    unfold sigShrN at h
    split at h
    · cases h; exact rshr_pure _ _ _ hc.1 hc.2.1
    · cases h
  · intro ys r c h hc
    unfold sigShlN at h
    split at h
    · cases h; exact pshl_pure _ _ _ hc.1 (lim4_lt hc.2.1)
    · cases h
  · intro ys r c h hc
    unfold sigIxf at h
    split at h
    · cases h; exact ixf_pure _ _ hc.1
    · cases h


theorem conF1 (a : List Int) (ta : Bool) (h : AllP [a.length < lim]) : PureTo Tryd.prog 43 [.sl 1 (.ints .u32 a) ta, .fnv (.func 44) [] []] (AV.v (.bool (decide (fz a ≥ (0 : Int))))) :=
  evFn_pure hm sok12 (fn := Tryd.f43) rfl rfl (ti := false) (hs := []) (c := _) (by kernel_rfl) h

theorem con_pure (a : List Int) (ta : Bool) (h : a.length < lim) : PureTo Tryd.prog 43 [.sl 1 (.ints .u32 a) ta, .fnv (.func 44) [] []] (.v (.bool (!decide (∀ x, x ∈ a → x = 0)))) := by
  rw [← fz_sign]
  exact conF1 a ta ⟨h, trivial⟩

def sigCon : List AV → Option (AV × List Prop)
  | [.sl 1 (.ints .u32 a) _, .fnv (.func 44) [] []] => some (.v (.bool (!decide (∀ x, x ∈ a → x = 0))), [a.length < lim])
  | _ => none

def SG13 : SGT := (43, .p sigCon) :: SG12

theorem sok13 : SigsOK Tryd.prog SG13 := by
  refine sigs_cons sok12 ?_
  intro ys r c h hc
  unfold sigCon at h
  split at h
  · cases h; exact con_pure _ _ hc.1
  · cases h

def pshrS0 (a : List Int) (ta : Bool) (n : Int) (bb : Bool) (x0 : Int) (l0 : List Int) (n0 : Nat) (n1 : Nat) : AS := { n := 78, fr := [(0, AV.sl 1 (.ints .u32 (norm a)) true), (6, AV.v (.int .i64 (if (↑(norm a).length : Int) < n.tdiv (32 : Int) then (↑(norm a).length : Int) else n.tdiv (32 : Int)))), (7, AV.v (.bool bb)), (8, AV.v (.int .i64 (n.tmod (32 : Int)))), (9, AV.row 42 0 n1 n1 false), (51, AV.v (.int .i64 (↑((↑(norm a).length : Int) - if (↑(norm a).length : Int) < n.tdiv (32 : Int) then (↑(norm a).length : Int) else n.tdiv (32 : Int)).toNat : Int))), (52, AV.v (.int .i64 x0))], hp := [(42, AObj.row 54 1 (.ints .u32 l0) n0)], nx := 43 }

def pshrX0 (a : List Int) (ta : Bool) (n : Int) (bb : Bool) (l1 : List Int) (n2 : Nat) (n3 : Nat) : AS := { n := 78, fr := [(7, AV.v (.bool bb)), (9, AV.row 42 0 n3 n3 false)], hp := [(42, AObj.row 54 1 (.ints .u32 l1) n2)], nx := 43 }

theorem pshrL0_1 (a : List Int) (ta : Bool) (n : Int) (bb : Bool) (x0 : Int) (l0 : List Int) (n0 : Nat) (n1 : Nat) (h : AllP [decide (x0 < (↑((↑(norm a).length : Int) - if (↑(norm a).length : Int) < n.tdiv (32 : Int) then (↑(norm a).length : Int) else n.tdiv (32 : Int)).toNat : Int)) = true, inR IntKind.i64 ((if (↑(norm a).length : Int) < n.tdiv (32 : Int) then (↑(norm a).length : Int) else n.tdiv (32 : Int)) + x0), inR IntKind.i64 ((if (↑(norm a).length : Int) < n.tdiv (32 : Int) then (↑(norm a).length : Int) else n.tdiv (32 : Int)) + x0 + (1 : Int)), Words (norm a), (0 : Int) ≤ (32 : Int), inR IntKind.u64 (wd (norm a) ((if (↑(norm a).length : Int) < n.tdiv (32 : Int) then (↑(norm a).length : Int) else n.tdiv (32 : Int)) + x0 + (1 : Int)) * (4294967296 : Int)), inR IntKind.i64 ((if (↑(norm a).length : Int) < n.tdiv (32 : Int) then (↑(norm a).length : Int) else n.tdiv (32 : Int)) + x0), Words (norm a), (0 : Int) ≤ n.tmod (32 : Int), (0 : Int) ≤ x0 ∧ x0 < (↑n1 : Int), n1 = l0.length, inR IntKind.i64 (x0 + (1 : Int))]) : To Tryd.prog (loopAt Tryd.f27 0) ({ n := 78, fr := [(0, AV.sl 1 (.ints .u32 (norm a)) true), (6, AV.v (.int .i64 (if (↑(norm a).length : Int) < n.tdiv (32 : Int) then (↑(norm a).length : Int) else n.tdiv (32 : Int)))), (7, AV.v (.bool bb)), (8, AV.v (.int .i64 (n.tmod (32 : Int)))), (9, AV.row 42 0 n1 n1 false), (51, AV.v (.int .i64 (↑((↑(norm a).length : Int) - if (↑(norm a).length : Int) < n.tdiv (32 : Int) then (↑(norm a).length : Int) else n.tdiv (32 : Int)).toNat : Int))), (52, AV.v (.int .i64 x0))], hp := [(42, AObj.row 54 1 (.ints .u32 l0) n0)], nx := 43 }) (.normal) { n := 78, fr := [(0, AV.sl 1 (.ints .u32 (norm a)) true), (6, AV.v (.int .i64 (if (↑(norm a).length : Int) < n.tdiv (32 : Int) then (↑(norm a).length : Int) else n.tdiv (32 : Int)))), (7, AV.v (.bool bb)), (8, AV.v (.int .i64 (n.tmod (32 : Int)))), (9, AV.row 42 0 n1 n1 false), (51, AV.v (.int .i64 (↑((↑(norm a).length : Int) - if (↑(norm a).length : Int) < n.tdiv (32 : Int) then (↑(norm a).length : Int) else n.tdiv (32 : Int)).toNat : Int))), (52, AV.v (.int .i64 (x0 + (1 : Int))))], hp := [(42, AObj.row 54 1 (.ints .u32 (l0.set (ixPlus 0 x0.toNat) (bitsOf BinOp.or IntKind.u64 (wd (norm a) ((if (↑(norm a).length : Int) < n.tdiv (32 : Int) then (↑(norm a).length : Int) else n.tdiv (32 : Int)) + x0 + (1 : Int)) * (4294967296 : Int)) (wd (norm a) ((if (↑(norm a).length : Int) < n.tdiv (32 : Int) then (↑(norm a).length : Int) else n.tdiv (32 : Int)) + x0)) / (2 : Int) ^ min (n.tmod (32 : Int)).toNat 64 % (4294967296 : Int)))) l0.length)], nx := 43 } :=
  evW_to hm sok13 (hs := [CHint.ops 12 [(0, Hint.b true)]]) (slots := [0, 6, 7, 8, 9, 51, 52]) (keys := [42]) (nx := 43) (c := _) (by kernel_rfl) h

theorem pshrL0_2 (a : List Int) (ta : Bool) (n : Int) (bb : Bool) (x0 : Int) (l0 : List Int) (n0 : Nat) (n1 : Nat) (h : AllP [decide (x0 < (↑((↑(norm a).length : Int) - if (↑(norm a).length : Int) < n.tdiv (32 : Int) then (↑(norm a).length : Int) else n.tdiv (32 : Int)).toNat : Int)) = false]) : To Tryd.prog (loopAt Tryd.f27 0) ({ n := 78, fr := [(0, AV.sl 1 (.ints .u32 (norm a)) true), (6, AV.v (.int .i64 (if (↑(norm a).length : Int) < n.tdiv (32 : Int) then (↑(norm a).length : Int) else n.tdiv (32 : Int)))), (7, AV.v (.bool bb)), (8, AV.v (.int .i64 (n.tmod (32 : Int)))), (9, AV.row 42 0 n1 n1 false), (51, AV.v (.int .i64 (↑((↑(norm a).length : Int) - if (↑(norm a).length : Int) < n.tdiv (32 : Int) then (↑(norm a).length : Int) else n.tdiv (32 : Int)).toNat : Int))), (52, AV.v (.int .i64 x0))], hp := [(42, AObj.row 54 1 (.ints .u32 l0) n0)], nx := 43 }) (Exit.exit 0) { n := 78, fr := [(7, AV.v (.bool bb)), (9, AV.row 42 0 n1 n1 false)], hp := [(42, AObj.row 54 1 (.ints .u32 l0) n0)], nx := 43 } :=
  evW_to hm sok13 (hs := [CHint.ops 12 [(0, Hint.b false)]]) (slots := [7, 9]) (keys := [42]) (nx := 43) (c := _) (by kernel_rfl) h
-- 6 paths

theorem pshrF1 (a : List Int) (ta : Bool) (n : Int) (bb : Bool) (l1 : List Int) (n2 : Nat) (n3 : Nat) (h : AllP [a.length < lim, decide (n < (0 : Int)) = true, (norm a).length ≤ lim4]) : PureTo Tryd.prog 27 [.sl 1 (.ints .u32 a) ta, .v (.int .i64 n)] (AV.tup [AV.sl 1 (.ints .u32 (norm a)) false, AV.v (.bool false)]) :=
  evFn_pure hm sok13 (fn := Tryd.f27) rfl rfl (ti := false) (hs := [CHint.ops 2 [(1, Hint.b true)]]) (c := _) (by kernel_rfl) h

theorem pshrF2 (a : List Int) (ta : Bool) (n : Int) (bb : Bool) (l1 : List Int) (n2 : Nat) (n3 : Nat) (h : AllP [a.length < lim, decide (n < (0 : Int)) = false, (32 : Int) ≠ (0 : Int), inR IntKind.i64 (n.tdiv (32 : Int)), ((0 : Int) ≤ if (↑(norm a).length : Int) < n.tdiv (32 : Int) then (↑(norm a).length : Int) else n.tdiv (32 : Int)) ∧ (if (↑(norm a).length : Int) < n.tdiv (32 : Int) then (↑(norm a).length : Int) else n.tdiv (32 : Int)) ≤ (↑(norm a).length : Int), (!decide (∀ (x : Int), x ∈ List.take (if (↑(norm a).length : Int) < n.tdiv (32 : Int) then (↑(norm a).length : Int) else n.tdiv (32 : Int)).toNat (norm a) → x = (0 : Int))) = true, (List.take (if (↑(norm a).length : Int) < n.tdiv (32 : Int) then (↑(norm a).length : Int) else n.tdiv (32 : Int)).toNat (norm a)).length < lim, ((if (↑(norm a).length : Int) < n.tdiv (32 : Int) then (↑(norm a).length : Int) else n.tdiv (32 : Int)) == (↑(norm a).length : Int)) = true]) : PureTo Tryd.prog 27 [.sl 1 (.ints .u32 a) ta, .v (.int .i64 n)] (AV.tup [AV.sl 1 (.ints .u32 []) false, AV.v (.bool true)]) :=
  evFn_pure hm sok13 (fn := Tryd.f27) rfl rfl (ti := false) (hs := [CHint.ops 2 [(1, Hint.b false)], CHint.ops 5 [(3, Hint.b true)], CHint.ops 6 [(3, Hint.b true)]]) (c := _) (by kernel_rfl) h

theorem pshrF3 (a : List Int) (ta : Bool) (n : Int) (bb : Bool) (l1 : List Int) (n2 : Nat) (n3 : Nat) (h : AllP [a.length < lim, decide (n < (0 : Int)) = false, (32 : Int) ≠ (0 : Int), inR IntKind.i64 (n.tdiv (32 : Int)), ((0 : Int) ≤ if (↑(norm a).length : Int) < n.tdiv (32 : Int) then (↑(norm a).length : Int) else n.tdiv (32 : Int)) ∧ (if (↑(norm a).length : Int) < n.tdiv (32 : Int) then (↑(norm a).length : Int) else n.tdiv (32 : Int)) ≤ (↑(norm a).length : Int), (!decide (∀ (x : Int), x ∈ List.take (if (↑(norm a).length : Int) < n.tdiv (32 : Int) then (↑(norm a).length : Int) else n.tdiv (32 : Int)).toNat (norm a) → x = (0 : Int))) = true, (List.take (if (↑(norm a).length : Int) < n.tdiv (32 : Int) then (↑(norm a).length : Int) else n.tdiv (32 : Int)).toNat (norm a)).length < lim, ((if (↑(norm a).length : Int) < n.tdiv (32 : Int) then (↑(norm a).length : Int) else n.tdiv (32 : Int)) == (↑(norm a).length : Int)) = false, (32 : Int) ≠ (0 : Int), inR IntKind.i64 ((↑(norm a).length : Int) - if (↑(norm a).length : Int) < n.tdiv (32 : Int) then (↑(norm a).length : Int) else n.tdiv (32 : Int)), ((0 : Int) ≤ (↑(norm a).length : Int) - if (↑(norm a).length : Int) < n.tdiv (32 : Int) then (↑(norm a).length : Int) else n.tdiv (32 : Int)) ∧ ((↑(norm a).length : Int) - if (↑(norm a).length : Int) < n.tdiv (32 : Int) then (↑(norm a).length : Int) else n.tdiv (32 : Int)) ≤ (↑(norm a).length : Int) - if (↑(norm a).length : Int) < n.tdiv (32 : Int) then (↑(norm a).length : Int) else n.tdiv (32 : Int), ((↑(norm a).length : Int) - if (↑(norm a).length : Int) < n.tdiv (32 : Int) then (↑(norm a).length : Int) else n.tdiv (32 : Int)) * (4 : Int) ≤ (281474976710656 : Int) ∧ ((↑(norm a).length : Int) - if (↑(norm a).length : Int) < n.tdiv (32 : Int) then (↑(norm a).length : Int) else n.tdiv (32 : Int)) ≤ (9223372036854775807 : Int), LoopTo Tryd.prog (loopAt Tryd.f27 0) { n := 78, fr := [(0, AV.sl 1 (.ints .u32 (norm a)) true), (6, AV.v (.int .i64 (if (↑(norm a).length : Int) < n.tdiv (32 : Int) then (↑(norm a).length : Int) else n.tdiv (32 : Int)))), (7, AV.v (.bool true)), (8, AV.v (.int .i64 (n.tmod (32 : Int)))), (9, AV.row 42 0 ((↑(norm a).length : Int) - if (↑(norm a).length : Int) < n.tdiv (32 : Int) then (↑(norm a).length : Int) else n.tdiv (32 : Int)).toNat ((↑(norm a).length : Int) - if (↑(norm a).length : Int) < n.tdiv (32 : Int) then (↑(norm a).length : Int) else n.tdiv (32 : Int)).toNat false), (51, AV.v (.int .i64 (↑((↑(norm a).length : Int) - if (↑(norm a).length : Int) < n.tdiv (32 : Int) then (↑(norm a).length : Int) else n.tdiv (32 : Int)).toNat : Int))), (52, AV.v (.int .i64 (0 : Int)))], hp := [(42, AObj.row 54 1 (.ints .u32 (List.replicate ((↑(norm a).length : Int) - if (↑(norm a).length : Int) < n.tdiv (32 : Int) then (↑(norm a).length : Int) else n.tdiv (32 : Int)).toNat (0 : Int))) 0)], nx := 43 } (Exit.exit 0) { n := 78, fr := [(7, AV.v (.bool bb)), (9, AV.row 42 0 n3 n3 false)], hp := [(42, AObj.row 54 1 (.ints .u32 l1) n2)], nx := 43 }, n3 = l1.length, n2 ≤ n3, l1.length < lim]) : PureTo Tryd.prog 27 [.sl 1 (.ints .u32 a) ta, .v (.int .i64 n)] (AV.tup [AV.sl 1 (.ints .u32 (norm l1)) false, AV.v (.bool bb)]) :=
  evFn_pure hm sok13 (fn := Tryd.f27) rfl rfl (ti := false) (hs := [CHint.ops 2 [(1, Hint.b false)], CHint.ops 5 [(3, Hint.b true)], CHint.ops 6 [(3, Hint.b false)], CHint.ops 9 [(8, Hint.wrap)], CHint.loop [0, 6, 7, 8, 9, 51, 52] [42] 43 (Exit.exit 0) { n := 78, fr := [(7, AV.v (.bool bb)), (9, AV.row 42 0 n3 n3 false)], hp := [(42, AObj.row (54 : TypeId) 1 (.ints .u32 l1) n2)], nx := 43 }]) (c := _) (by kernel_rfl) h

theorem pshrF4 (a : List Int) (ta : Bool) (n : Int) (bb : Bool) (l1 : List Int) (n2 : Nat) (n3 : Nat) (h : AllP [a.length < lim, decide (n < (0 : Int)) = false, (32 : Int) ≠ (0 : Int), inR IntKind.i64 (n.tdiv (32 : Int)), ((0 : Int) ≤ if (↑(norm a).length : Int) < n.tdiv (32 : Int) then (↑(norm a).length : Int) else n.tdiv (32 : Int)) ∧ (if (↑(norm a).length : Int) < n.tdiv (32 : Int) then (↑(norm a).length : Int) else n.tdiv (32 : Int)) ≤ (↑(norm a).length : Int), (!decide (∀ (x : Int), x ∈ List.take (if (↑(norm a).length : Int) < n.tdiv (32 : Int) then (↑(norm a).length : Int) else n.tdiv (32 : Int)).toNat (norm a) → x = (0 : Int))) = false, (List.take (if (↑(norm a).length : Int) < n.tdiv (32 : Int) then (↑(norm a).length : Int) else n.tdiv (32 : Int)).toNat (norm a)).length < lim, ((if (↑(norm a).length : Int) < n.tdiv (32 : Int) then (↑(norm a).length : Int) else n.tdiv (32 : Int)) == (↑(norm a).length : Int)) = true]) : PureTo Tryd.prog 27 [.sl 1 (.ints .u32 a) ta, .v (.int .i64 n)] (AV.tup [AV.sl 1 (.ints .u32 []) false, AV.v (.bool false)]) :=
  evFn_pure hm sok13 (fn := Tryd.f27) rfl rfl (ti := false) (hs := [CHint.ops 2 [(1, Hint.b false)], CHint.ops 5 [(3, Hint.b false)], CHint.ops 6 [(3, Hint.b true)]]) (c := _) (by kernel_rfl) h

theorem pshrF5 (a : List Int) (ta : Bool) (n : Int) (bb : Bool) (l1 : List Int) (n2 : Nat) (n3 : Nat) (h : AllP [a.length < lim, decide (n < (0 : Int)) = false, (32 : Int) ≠ (0 : Int), inR IntKind.i64 (n.tdiv (32 : Int)), ((0 : Int) ≤ if (↑(norm a).length : Int) < n.tdiv (32 : Int) then (↑(norm a).length : Int) else n.tdiv (32 : Int)) ∧ (if (↑(norm a).length : Int) < n.tdiv (32 : Int) then (↑(norm a).length : Int) else n.tdiv (32 : Int)) ≤ (↑(norm a).length : Int), (!decide (∀ (x : Int), x ∈ List.take (if (↑(norm a).length : Int) < n.tdiv (32 : Int) then (↑(norm a).length : Int) else n.tdiv (32 : Int)).toNat (norm a) → x = (0 : Int))) = false, (List.take (if (↑(norm a).length : Int) < n.tdiv (32 : Int) then (↑(norm a).length : Int) else n.tdiv (32 : Int)).toNat (norm a)).length < lim, ((if (↑(norm a).length : Int) < n.tdiv (32 : Int) then (↑(norm a).length : Int) else n.tdiv (32 : Int)) == (↑(norm a).length : Int)) = false, (32 : Int) ≠ (0 : Int), ((0 : Int) ≤ if (↑(norm a).length : Int) < n.tdiv (32 : Int) then (↑(norm a).length : Int) else n.tdiv (32 : Int)) ∧ (if (↑(norm a).length : Int) < n.tdiv (32 : Int) then (↑(norm a).length : Int) else n.tdiv (32 : Int)) < (↑(norm a).length : Int), (0 : Int) ≤ n.tmod (32 : Int), inR IntKind.u32 ((1 : Int) * (2 : Int) ^ min (n.tmod (32 : Int)).toNat 32), (bitsOf BinOp.and IntKind.u32 ((norm a).getD (if (↑(norm a).length : Int) < n.tdiv (32 : Int) then (↑(norm a).length : Int) else n.tdiv (32 : Int)).toNat (0 : Int)) (((1 : Int) * (2 : Int) ^ min (n.tmod (32 : Int)).toNat 32 - (1 : Int)) % (4294967296 : Int)) != (0 : Int)) = true, inR IntKind.i64 ((↑(norm a).length : Int) - if (↑(norm a).length : Int) < n.tdiv (32 : Int) then (↑(norm a).length : Int) else n.tdiv (32 : Int)), ((0 : Int) ≤ (↑(norm a).length : Int) - if (↑(norm a).length : Int) < n.tdiv (32 : Int) then (↑(norm a).length : Int) else n.tdiv (32 : Int)) ∧ ((↑(norm a).length : Int) - if (↑(norm a).length : Int) < n.tdiv (32 : Int) then (↑(norm a).length : Int) else n.tdiv (32 : Int)) ≤ (↑(norm a).length : Int) - if (↑(norm a).length : Int) < n.tdiv (32 : Int) then (↑(norm a).length : Int) else n.tdiv (32 : Int), ((↑(norm a).length : Int) - if (↑(norm a).length : Int) < n.tdiv (32 : Int) then (↑(norm a).length : Int) else n.tdiv (32 : Int)) * (4 : Int) ≤ (281474976710656 : Int) ∧ ((↑(norm a).length : Int) - if (↑(norm a).length : Int) < n.tdiv (32 : Int) then (↑(norm a).length : Int) else n.tdiv (32 : Int)) ≤ (9223372036854775807 : Int), LoopTo Tryd.prog (loopAt Tryd.f27 0) { n := 78, fr := [(0, AV.sl 1 (.ints .u32 (norm a)) true), (6, AV.v (.int .i64 (if (↑(norm a).length : Int) < n.tdiv (32 : Int) then (↑(norm a).length : Int) else n.tdiv (32 : Int)))), (7, AV.v (.bool true)), (8, AV.v (.int .i64 (n.tmod (32 : Int)))), (9, AV.row 42 0 ((↑(norm a).length : Int) - if (↑(norm a).length : Int) < n.tdiv (32 : Int) then (↑(norm a).length : Int) else n.tdiv (32 : Int)).toNat ((↑(norm a).length : Int) - if (↑(norm a).length : Int) < n.tdiv (32 : Int) then (↑(norm a).length : Int) else n.tdiv (32 : Int)).toNat false), (51, AV.v (.int .i64 (↑((↑(norm a).length : Int) - if (↑(norm a).length : Int) < n.tdiv (32 : Int) then (↑(norm a).length : Int) else n.tdiv (32 : Int)).toNat : Int))), (52, AV.v (.int .i64 (0 : Int)))], hp := [(42, AObj.row 54 1 (.ints .u32 (List.replicate ((↑(norm a).length : Int) - if (↑(norm a).length : Int) < n.tdiv (32 : Int) then (↑(norm a).length : Int) else n.tdiv (32 : Int)).toNat (0 : Int))) 0)], nx := 43 } (Exit.exit 0) { n := 78, fr := [(7, AV.v (.bool bb)), (9, AV.row 42 0 n3 n3 false)], hp := [(42, AObj.row 54 1 (.ints .u32 l1) n2)], nx := 43 }, n3 = l1.length, n2 ≤ n3, l1.length < lim]) : PureTo Tryd.prog 27 [.sl 1 (.ints .u32 a) ta, .v (.int .i64 n)] (AV.tup [AV.sl 1 (.ints .u32 (norm l1)) false, AV.v (.bool bb)]) :=
  evFn_pure hm sok13 (fn := Tryd.f27) rfl rfl (ti := false) (hs := [CHint.ops 2 [(1, Hint.b false)], CHint.ops 5 [(3, Hint.b false)], CHint.ops 6 [(3, Hint.b false)], CHint.ops 9 [(8, Hint.wrap), (10, Hint.b true)], CHint.loop [0, 6, 7, 8, 9, 51, 52] [42] 43 (Exit.exit 0) { n := 78, fr := [(7, AV.v (.bool bb)), (9, AV.row 42 0 n3 n3 false)], hp := [(42, AObj.row (54 : TypeId) 1 (.ints .u32 l1) n2)], nx := 43 }]) (c := _) (by kernel_rfl) h

theorem pshrF6 (a : List Int) (ta : Bool) (n : Int) (bb : Bool) (l1 : List Int) (n2 : Nat) (n3 : Nat) (h : AllP [a.length < lim, decide (n < (0 : Int)) = false, (32 : Int) ≠ (0 : Int), inR IntKind.i64 (n.tdiv (32 : Int)), ((0 : Int) ≤ if (↑(norm a).length : Int) < n.tdiv (32 : Int) then (↑(norm a).length : Int) else n.tdiv (32 : Int)) ∧ (if (↑(norm a).length : Int) < n.tdiv (32 : Int) then (↑(norm a).length : Int) else n.tdiv (32 : Int)) ≤ (↑(norm a).length : Int), (!decide (∀ (x : Int), x ∈ List.take (if (↑(norm a).length : Int) < n.tdiv (32 : Int) then (↑(norm a).length : Int) else n.tdiv (32 : Int)).toNat (norm a) → x = (0 : Int))) = false, (List.take (if (↑(norm a).length : Int) < n.tdiv (32 : Int) then (↑(norm a).length : Int) else n.tdiv (32 : Int)).toNat (norm a)).length < lim, ((if (↑(norm a).length : Int) < n.tdiv (32 : Int) then (↑(norm a).length : Int) else n.tdiv (32 : Int)) == (↑(norm a).length : Int)) = false, (32 : Int) ≠ (0 : Int), ((0 : Int) ≤ if (↑(norm a).length : Int) < n.tdiv (32 : Int) then (↑(norm a).length : Int) else n.tdiv (32 : Int)) ∧ (if (↑(norm a).length : Int) < n.tdiv (32 : Int) then (↑(norm a).length : Int) else n.tdiv (32 : Int)) < (↑(norm a).length : Int), (0 : Int) ≤ n.tmod (32 : Int), inR IntKind.u32 ((1 : Int) * (2 : Int) ^ min (n.tmod (32 : Int)).toNat 32), (bitsOf BinOp.and IntKind.u32 ((norm a).getD (if (↑(norm a).length : Int) < n.tdiv (32 : Int) then (↑(norm a).length : Int) else n.tdiv (32 : Int)).toNat (0 : Int)) (((1 : Int) * (2 : Int) ^ min (n.tmod (32 : Int)).toNat 32 - (1 : Int)) % (4294967296 : Int)) != (0 : Int)) = false, inR IntKind.i64 ((↑(norm a).length : Int) - if (↑(norm a).length : Int) < n.tdiv (32 : Int) then (↑(norm a).length : Int) else n.tdiv (32 : Int)), ((0 : Int) ≤ (↑(norm a).length : Int) - if (↑(norm a).length : Int) < n.tdiv (32 : Int) then (↑(norm a).length : Int) else n.tdiv (32 : Int)) ∧ ((↑(norm a).length : Int) - if (↑(norm a).length : Int) < n.tdiv (32 : Int) then (↑(norm a).length : Int) else n.tdiv (32 : Int)) ≤ (↑(norm a).length : Int) - if (↑(norm a).length : Int) < n.tdiv (32 : Int) then (↑(norm a).length : Int) else n.tdiv (32 : Int), ((↑(norm a).length : Int) - if (↑(norm a).length : Int) < n.tdiv (32 : Int) then (↑(norm a).length : Int) else n.tdiv (32 : Int)) * (4 : Int) ≤ (281474976710656 : Int) ∧ ((↑(norm a).length : Int) - if (↑(norm a).length : Int) < n.tdiv (32 : Int) then (↑(norm a).length : Int) else n.tdiv (32 : Int)) ≤ (9223372036854775807 : Int), LoopTo Tryd.prog (loopAt Tryd.f27 0) { n := 78, fr := [(0, AV.sl 1 (.ints .u32 (norm a)) true), (6, AV.v (.int .i64 (if (↑(norm a).length : Int) < n.tdiv (32 : Int) then (↑(norm a).length : Int) else n.tdiv (32 : Int)))), (7, AV.v (.bool false)), (8, AV.v (.int .i64 (n.tmod (32 : Int)))), (9, AV.row 42 0 ((↑(norm a).length : Int) - if (↑(norm a).length : Int) < n.tdiv (32 : Int) then (↑(norm a).length : Int) else n.tdiv (32 : Int)).toNat ((↑(norm a).length : Int) - if (↑(norm a).length : Int) < n.tdiv (32 : Int) then (↑(norm a).length : Int) else n.tdiv (32 : Int)).toNat false), (51, AV.v (.int .i64 (↑((↑(norm a).length : Int) - if (↑(norm a).length : Int) < n.tdiv (32 : Int) then (↑(norm a).length : Int) else n.tdiv (32 : Int)).toNat : Int))), (52, AV.v (.int .i64 (0 : Int)))], hp := [(42, AObj.row 54 1 (.ints .u32 (List.replicate ((↑(norm a).length : Int) - if (↑(norm a).length : Int) < n.tdiv (32 : Int) then (↑(norm a).length : Int) else n.tdiv (32 : Int)).toNat (0 : Int))) 0)], nx := 43 } (Exit.exit 0) { n := 78, fr := [(7, AV.v (.bool bb)), (9, AV.row 42 0 n3 n3 false)], hp := [(42, AObj.row 54 1 (.ints .u32 l1) n2)], nx := 43 }, n3 = l1.length, n2 ≤ n3, l1.length < lim]) : PureTo Tryd.prog 27 [.sl 1 (.ints .u32 a) ta, .v (.int .i64 n)] (AV.tup [AV.sl 1 (.ints .u32 (norm l1)) false, AV.v (.bool bb)]) :=
  evFn_pure hm sok13 (fn := Tryd.f27) rfl rfl (ti := false) (hs := [CHint.ops 2 [(1, Hint.b false)], CHint.ops 5 [(3, Hint.b false)], CHint.ops 6 [(3, Hint.b false)], CHint.ops 9 [(8, Hint.wrap), (10, Hint.b false)], CHint.loop [0, 6, 7, 8, 9, 51, 52] [42] 43 (Exit.exit 0) { n := 78, fr := [(7, AV.v (.bool bb)), (9, AV.row 42 0 n3 n3 false)], hp := [(42, AObj.row (54 : TypeId) 1 (.ints .u32 l1) n2)], nx := 43 }]) (c := _) (by kernel_rfl) h
-- 5 paths

theorem pshr_words (a : List Int) (ta : Bool) (n : Int) (L : List Int) (hL : norm a = L) (hw : Words L) (w s : Nat) (C : Cnt n w s) (b : Bool) (hlen : L.length ≤ 35184372088832) (hwl : w < L.length) (hW : (if (L.length : Int) < n.tdiv 32 then (L.length : Int) else n.tdiv 32) = (w : Int)) : ∀ (f i : Nat) (l : List Int), w + i + f = L.length → l = (shrW (L.drop w) s).take i →
    LoopTo Tryd.prog (loopAt Tryd.f27 0) (pshrS0 a ta n b i (l ++ List.replicate f 0) (L.length - w) (L.length - w)) (.exit 0) (pshrX0 a ta n b (shrW (L.drop w) s) (L.length - w) (L.length - w)) := by
  have hs := C.rlt
  have hN : ((L.length : Int) - (w : Int)).toNat = L.length - w := by omega
  intro f
  induction f with
  | zero =>
    intro i l hi hl
    have e : l = shrW (L.drop w) s := by rw [hl, List.take_of_length_le (by rw [shrW_length, List.length_drop]; omega)]
    rw [e, List.replicate_zero, List.append_nil]
    exact .done (by simp) (pshrL0_2 a ta n b i _ _ _ ⟨by rw [hL, hW, hN]; simp; omega, trivial⟩)
  | succ f ih =>
    intro i l hi hl
    have hx := wd_bound hw ((w + i : Nat) : Int)
    have hy := wd_bound hw (((w + i : Nat) : Int) + 1)
    have e0 : (w : Int) + (i : Int) = ((w + i : Nat) : Int) := by omega
    have e3 : (2 : Int) ^ min (n.tmod 32).toNat 64 = ((2 ^ s : Nat) : Int) := by rw [C.er, Int.toNat_natCast, Nat.min_eq_left (by omega), two_pow]
    have e4 := (shW_int hs hx hy).2
    have hlenl : l.length = i := by rw [hl, List.length_take, shrW_length, List.length_drop]; omega
    have hg : (shrW (L.drop w) s).getD i 0 = (shW (wd L ((w + i : Nat) : Int)).toNat (wd L (((w + i : Nat) : Int) + 1)).toNat s : Int) := by
      rw [shrW_get _ _ _ (by rw [List.length_drop]; omega)]
      have h1 : (L.drop w).getD i 0 = wd L ((w + i : Nat) : Int) := by rw [wd_nat, List.getD_eq_getElem?_getD, List.getElem?_drop, ← List.getD_eq_getElem?_getD]
      have h2 : (L.drop w).getD (i + 1) 0 = wd L (((w + i : Nat) : Int) + 1) := by
        rw [show ((w + i : Nat) : Int) + 1 = ((w + (i + 1) : Nat) : Int) by omega, wd_nat, List.getD_eq_getElem?_getD, List.getElem?_drop, ← List.getD_eq_getElem?_getD]
      rw [h1, h2]
    have hi2 : i < (shrW (L.drop w) s).length := by rw [shrW_length, List.length_drop]; omega
    have hnext : l ++ [(shW (wd L ((w + i : Nat) : Int)).toNat (wd L (((w + i : Nat) : Int) + 1)).toNat s : Int)] = (shrW (L.drop w) s).take (i + 1) := by
      rw [List.take_succ_eq_append_getElem hi2, hl, ← hg]
      congr 2
      simp [List.getD_eq_getElem?_getD, hi2]
    have hll : (l ++ List.replicate (f + 1) (0 : Int)).length = L.length - w := by simp; omega
    have h1 := pshrL0_1 a ta n b i (l ++ List.replicate (f + 1) 0) (L.length - w) (L.length - w) (by
      rw [hL, hW, hN, e0, C.er]
      refine ⟨by simp; omega, inR64 (by omega) (by omega), inR64 (by omega) (by omega), hw, by omega, inRu64 (by omega) (by omega), inR64 (by omega) (by omega), hw, by omega, by omega, hll.symm, inR64 (by omega) (by omega), trivial⟩)
    have e5 : (l ++ List.replicate (f + 1) (0 : Int)).set i (shW (wd L ((w + i : Nat) : Int)).toNat (wd L (((w + i : Nat) : Int) + 1)).toNat s : Int) = (shrW (L.drop w) s).take (i + 1) ++ List.replicate f 0 := by
      rw [List.set_append_right _ _ (by omega), hlenl, Nat.sub_self, List.replicate_succ, List.set_cons_zero, ← hnext]
      simp
    have ih := ih (i + 1) _ (by omega) rfl
    rw [hL, hW, hN, e0, e3, Int.toNat_natCast, ix0, e4, e5, hll] at h1
    unfold pshrS0
    unfold pshrS0 at ih
    rw [hL, hW, hN] at ih ⊢
    exact .step h1 ih

theorem pshr_pure (a : List Int) (ta : Bool) (n : Int) (ha : Words a) (hl4 : a.length ≤ lim4) (hn : n ≤ 9223372036854775807) : PureTo Tryd.prog 27 [.sl 1 (.ints .u32 a) ta, .v (.int .i64 n)] (.tup [.sl 1 (.ints .u32 (ShrN (nat a) n).1) false, .v (.bool (ShrN (nat a) n).2)]) := by
  have hle := norm_length_le a
  have hl := lim4_lt hl4
  have hl5 := hl4
  unfold lim4 at hl5
  have hw := words_norm ha
  have hN := nat_lt hw
  rw [nat_norm] at hN
  have hll : (norm a).length < lim := by unfold lim; omega
  unfold ShrN
  by_cases h0 : n < 0
  · rw [if_pos h0, ← norm_eq ha]
    exact pshrF1 a ta n false [] 0 0 ⟨hl, by simpa using h0, by omega, trivial⟩
  · rw [if_neg h0]
    have C := cnt (show 0 ≤ n by omega)
    have hCw := C.ew
    have hCn := C.en
    generalize hw0 : n.toNat / 32 = w at *
    generalize hs0 : n.toNat % 32 = s at *
    have hs := C.rlt
    have hi : inR .i64 (n.tdiv 32) := by rw [hCw]; exact inR64 (by omega) (by omega)
    by_cases h1 : (norm a).length ≤ w
    · have hW : (if ((norm a).length : Int) < n.tdiv 32 then ((norm a).length : Int) else n.tdiv 32) = ((norm a).length : Int) := by rw [hCw]; split <;> omega
      have hb : nat a < 2 ^ n.toNat := by
        refine Nat.lt_of_lt_of_le hN ?_
        rw [show (4294967296 : Nat) = 2 ^ 32 from rfl, ← Nat.pow_mul]
        exact Nat.pow_le_pow_right (by omega) (by omega)
      rw [Nat.div_eq_of_lt hb, Nat.mod_eq_of_lt hb, dig_zero]
      have hall := nat_zero_iff hw
      rw [nat_norm] at hall
      cases hz : decide (nat a ≠ 0) with
      | true =>
        have hz' : nat a ≠ 0 := by simpa using hz
        refine pshrF2 a ta n false [] 0 0 ?_
        rw [hW, Int.toNat_natCast, List.take_length]
        exact ⟨hl, by simpa using h0, by omega, hi, by omega, by rw [decide_eq_false (fun h => hz' (hall.2 h))]; rfl, hll, by simp, trivial⟩
      | false =>
        have hz' : nat a = 0 := by simpa using hz
        refine pshrF4 a ta n false [] 0 0 ?_
        rw [hW, Int.toNat_natCast, List.take_length]
        exact ⟨hl, by simpa using h0, by omega, hi, by omega, by rw [decide_eq_true (hall.1 hz')]; rfl, hll, by simp, trivial⟩
    · have hW : (if ((norm a).length : Int) < n.tdiv 32 then ((norm a).length : Int) else n.tdiv 32) = (w : Int) := by rw [hCw]; split <;> omega
      have hrest := shr_rest hw n.toNat (by omega)
      have hq := shr_quot hw n.toNat (by omega)
      rw [nat_norm, hw0, hs0] at hrest hq
      have hwl := shrW_words ((norm a).drop w) s
      have hsl := shrW_length ((norm a).drop w) s
      rw [List.length_drop] at hsl
      have hsub : (((norm a).length : Int) - (w : Int)).toNat = (norm a).length - w := by omega
      have hx := words_getD hw w
      have hloop : ∀ b, LoopTo Tryd.prog (loopAt Tryd.f27 0) (pshrS0 a ta n b (0 : Nat) (List.replicate ((norm a).length - w) 0) ((norm a).length - w) ((norm a).length - w)) (.exit 0) (pshrX0 a ta n b (shrW ((norm a).drop w) s) ((norm a).length - w) ((norm a).length - w)) := fun b => by
        have := pshr_words a ta n (norm a) rfl hw w s C b (by omega) (by omega) hW ((norm a).length - w) 0 [] (by omega) (by simp)
        rw [List.nil_append] at this
        exact this
      have hlr : (List.replicate ((norm a).length - w) (0 : Int)).length = (norm a).length - w := by simp
      have hloop2 : ∀ b, LoopTo Tryd.prog (loopAt Tryd.f27 0) { n := 78, fr := [(0, AV.sl 1 (.ints .u32 (norm a)) true), (6, AV.v (.int .i64 (w : Int))), (7, AV.v (.bool b)), (8, AV.v (.int .i64 (n.tmod 32))), (9, AV.row 42 0 ((norm a).length - w) ((norm a).length - w) false), (51, AV.v (.int .i64 (((norm a).length - w : Nat) : Int))), (52, AV.v (.int .i64 0))], hp := [(42, AObj.row 54 1 (.ints .u32 (List.replicate ((norm a).length - w) 0)) 0)], nx := 43 } (.exit 0) (pshrX0 a ta n b (shrW ((norm a).drop w) s) ((norm a).length - w) ((norm a).length - w)) := fun b => by
        refine .raise ?_
        show LoopTo _ _ { n := _, fr := _, hp := [(42, .row 54 1 (.ints .u32 (List.replicate ((norm a).length - w) 0)) (List.replicate ((norm a).length - w) (0 : Int)).length)], nx := _ } _ _
        rw [hlr]
        have := hloop b
        unfold pshrS0 at this
        rw [hW, hsub] at this
        exact this
      have e3 : (1 : Int) * (2 : Int) ^ min (n.tmod 32).toNat 32 = ((2 ^ s : Nat) : Int) := by rw [C.er, Int.toNat_natCast, Nat.min_eq_left (by omega), two_pow, Int.one_mul]
      have hP1 := Nat.pow_pos (n := s) (show 0 < 2 by omega)
      have hP31 : (2 : Nat) ^ s ≤ 2147483648 := Nat.pow_le_pow_right (n := 2) (show 0 < 2 by omega) (show s ≤ 31 by omega)
      have e4 : (((2 ^ s : Nat) : Int) - 1) % 4294967296 = ((2 ^ s - 1 : Nat) : Int) := by omega
      have e5 : bitsOf .and .u32 ((norm a).getD w 0) ((2 ^ s - 1 : Nat) : Int) = ((((norm a).getD w 0).toNat % 2 ^ s : Nat) : Int) := by
        rw [and_low (k := .u32) rfl hx.1 (by show _ < (2 : Int) ^ 32; omega) (show s < 32 from hs), Int.natCast_emod]
        congr 1
        omega
      have ld : (List.take w (norm a)).length < lim := by rw [List.length_take]; omega
      have quot : norm (shrW ((norm a).drop w) s) = dig (nat a / 2 ^ n.toNat) := by rw [norm_eq hwl, hq]
      by_cases hz1 : ∀ x, x ∈ (norm a).take w → x = 0
      · by_cases hz2 : ((norm a).getD w 0).toNat % 2 ^ s = 0
        · have hd : decide (nat a % 2 ^ n.toNat ≠ 0) = false := decide_eq_false fun h => h (hrest.2 ⟨hz1, hz2⟩)
          rw [hd, ← quot]
          refine pshrF6 a ta n false (shrW ((norm a).drop w) s) ((norm a).length - w) ((norm a).length - w) ?_
          rw [hW, hsub, Int.toNat_natCast, e3, e4, e5, hz2]
          exact ⟨hl, by simpa using h0, by omega, hi, by omega, by rw [decide_eq_true hz1]; rfl, ld, by simp; omega, by omega, by omega, by rw [C.er]; omega, ⟨by omega, by omega⟩, by simp, inR64 (by omega) (by omega), by omega, by omega, hloop2 false, hsl.symm, Nat.le_refl _, by rw [hsl]; omega, trivial⟩
        · have hd : decide (nat a % 2 ^ n.toNat ≠ 0) = true := decide_eq_true fun h => hz2 (hrest.1 h).2
          rw [hd, ← quot]
          refine pshrF5 a ta n true (shrW ((norm a).drop w) s) ((norm a).length - w) ((norm a).length - w) ?_
          rw [hW, hsub, Int.toNat_natCast, e3, e4, e5]
          exact ⟨hl, by simpa using h0, by omega, hi, by omega, by rw [decide_eq_true hz1]; rfl, ld, by simp; omega, by omega, by omega, by rw [C.er]; omega, ⟨by omega, by omega⟩, by simp only [bne_iff_ne, ne_eq]; omega, inR64 (by omega) (by omega), by omega, by omega, hloop2 true, hsl.symm, Nat.le_refl _, by rw [hsl]; omega, trivial⟩
      · have hd : decide (nat a % 2 ^ n.toNat ≠ 0) = true := by
          refine decide_eq_true fun h => hz1 (hrest.1 h).1
        rw [hd, ← quot]
        refine pshrF3 a ta n true (shrW ((norm a).drop w) s) ((norm a).length - w) ((norm a).length - w) ?_
        rw [hW, hsub, Int.toNat_natCast]
        exact ⟨hl, by simpa using h0, by omega, hi, by omega, by rw [decide_eq_false hz1]; rfl, ld, by simp; omega, by omega, inR64 (by omega) (by omega), by omega, by omega, hloop2 true, hsl.symm, Nat.le_refl _, by rw [hsl]; omega, trivial⟩

def sigPShr : List AV → Option (AV × List Prop)
  | [.sl 1 (.ints .u32 a) _, .v (.int .i64 n)] => some (.tup [.sl 1 (.ints .u32 (ShrN (nat a) n).1) false, .v (.bool (ShrN (nat a) n).2)], [Words a, a.length ≤ lim4, n ≤ 9223372036854775807])
  | _ => none

def SG14 : SGT := (27, .p sigPShr) :: SG13

theorem sok14 : SigsOK Tryd.prog SG14 := by
  refine sigs_cons sok13 ?_
  intro ys r c h hc
  unfold sigPShr at h
  split at h
  · cases h; exact pshr_pure _ _ _ hc.1 hc.2.1 hc.2.2.1
  · cases h

def smallS0 (a : List Int) (ta : Bool) (d : Int) (x0 : Int) (x1 : Int) (l0 : List Int) (n0 : Nat) (n1 : Nat) : AS := { n := 44, fr := [(0, AV.sl 1 (.ints .u32 a) ta), (1, AV.v (.int .u32 d)), (6, AV.row 4 0 n1 n1 false), (7, AV.v (.int .u64 x0)), (8, AV.v (.int .i64 x1))], hp := [(4, AObj.row 54 1 (.ints .u32 l0) n0)], nx := 5 }

def smallX0 (a : List Int) (ta : Bool) (d : Int) (x2 : Int) (l1 : List Int) (n2 : Nat) (n3 : Nat) : AS := { n := 44, fr := [(6, AV.row 4 0 n3 n3 false), (7, AV.v (.int .u64 x2))], hp := [(4, AObj.row 54 1 (.ints .u32 l1) n2)], nx := 5 }

def revS0 (l : List Int) (fl n : Nat) (t : Bool) (x0 : Int) (x1 : Int) (l0 : List Int) (n0 : Nat) : AS := { n := 28, fr := [(0, AV.row 4294967296 0 n n t), (2, AV.v (.int .i64 x0)), (3, AV.v (.int .i64 x1))], hp := [(4294967296, AObj.row 5 1 (.ints .u8 l0) n0)], nx := 0 }

def revX0 (l : List Int) (fl n : Nat) (t : Bool) (l1 : List Int) (n1 : Nat) : AS := { n := 28, fr := [], hp := [(4294967296, AObj.row 5 1 (.ints .u8 l1) n1)], nx := 0 }
-- 15 paths

theorem digitF1 (c : Int) (h : AllP [decide (c ≥ (48 : Int)) = true, decide (c ≤ (57 : Int)) = true, inR IntKind.i64 ((c - (48 : Int)) % (256 : Int))]) : PureTo Tryd.prog 34 [.v (.int .u8 c)] (AV.v (.int .i64 ((c - (48 : Int)) % (256 : Int)))) :=
  evFn_pure hm sok14 (fn := Tryd.f34) rfl rfl (ti := false) (hs := [CHint.ops 1 [(1, Hint.b true), (4, Hint.b true)], CHint.ops 2 [(1, Hint.wrap)]]) (c := _) (by kernel_rfl) h

theorem digitF2 (c : Int) (h : AllP [decide (c ≥ (48 : Int)) = true, decide (c ≤ (57 : Int)) = false, decide (c ≥ (97 : Int)) = true, decide (c ≤ (122 : Int)) = true, inR IntKind.i64 ((c - (97 : Int)) % (256 : Int)), inR IntKind.i64 ((c - (97 : Int)) % (256 : Int) + (10 : Int))]) : PureTo Tryd.prog 34 [.v (.int .u8 c)] (AV.v (.int .i64 ((c - (97 : Int)) % (256 : Int) + (10 : Int)))) :=
  evFn_pure hm sok14 (fn := Tryd.f34) rfl rfl (ti := false) (hs := [CHint.ops 1 [(1, Hint.b true), (4, Hint.b false)], CHint.ops 3 [(1, Hint.b true), (4, Hint.b true)], CHint.ops 4 [(1, Hint.wrap)]]) (c := _) (by kernel_rfl) h

theorem digitF3 (c : Int) (h : AllP [decide (c ≥ (48 : Int)) = true, decide (c ≤ (57 : Int)) = false, decide (c ≥ (97 : Int)) = true, decide (c ≤ (122 : Int)) = false, decide (c ≥ (65 : Int)) = true, decide (c ≤ (90 : Int)) = true, inR IntKind.i64 ((c - (65 : Int)) % (256 : Int)), inR IntKind.i64 ((c - (65 : Int)) % (256 : Int) + (10 : Int))]) : PureTo Tryd.prog 34 [.v (.int .u8 c)] (AV.v (.int .i64 ((c - (65 : Int)) % (256 : Int) + (10 : Int)))) :=
  evFn_pure hm sok14 (fn := Tryd.f34) rfl rfl (ti := false) (hs := [CHint.ops 1 [(1, Hint.b true), (4, Hint.b false)], CHint.ops 3 [(1, Hint.b true), (4, Hint.b false)], CHint.ops 5 [(1, Hint.b true), (4, Hint.b true)], CHint.ops 6 [(1, Hint.wrap)]]) (c := _) (by kernel_rfl) h

theorem digitF4 (c : Int) (h : AllP [decide (c ≥ (48 : Int)) = true, decide (c ≤ (57 : Int)) = false, decide (c ≥ (97 : Int)) = true, decide (c ≤ (122 : Int)) = false, decide (c ≥ (65 : Int)) = true, decide (c ≤ (90 : Int)) = false]) : PureTo Tryd.prog 34 [.v (.int .u8 c)] (AV.v (.int .i64 (99 : Int))) :=
  evFn_pure hm sok14 (fn := Tryd.f34) rfl rfl (ti := false) (hs := [CHint.ops 1 [(1, Hint.b true), (4, Hint.b false)], CHint.ops 3 [(1, Hint.b true), (4, Hint.b false)], CHint.ops 5 [(1, Hint.b true), (4, Hint.b false)]]) (c := _) (by kernel_rfl) h

theorem digitF5 (c : Int) (h : AllP [decide (c ≥ (48 : Int)) = true, decide (c ≤ (57 : Int)) = false, decide (c ≥ (97 : Int)) = true, decide (c ≤ (122 : Int)) = false, decide (c ≥ (65 : Int)) = false]) : PureTo Tryd.prog 34 [.v (.int .u8 c)] (AV.v (.int .i64 (99 : Int))) :=
  evFn_pure hm sok14 (fn := Tryd.f34) rfl rfl (ti := false) (hs := [CHint.ops 1 [(1, Hint.b true), (4, Hint.b false)], CHint.ops 3 [(1, Hint.b true), (4, Hint.b false)], CHint.ops 5 [(1, Hint.b false)]]) (c := _) (by kernel_rfl) h

theorem digitF6 (c : Int) (h : AllP [decide (c ≥ (48 : Int)) = true, decide (c ≤ (57 : Int)) = false, decide (c ≥ (97 : Int)) = false, decide (c ≥ (65 : Int)) = true, decide (c ≤ (90 : Int)) = true, inR IntKind.i64 ((c - (65 : Int)) % (256 : Int)), inR IntKind.i64 ((c - (65 : Int)) % (256 : Int) + (10 : Int))]) : PureTo Tryd.prog 34 [.v (.int .u8 c)] (AV.v (.int .i64 ((c - (65 : Int)) % (256 : Int) + (10 : Int)))) :=
  evFn_pure hm sok14 (fn := Tryd.f34) rfl rfl (ti := false) (hs := [CHint.ops 1 [(1, Hint.b true), (4, Hint.b false)], CHint.ops 3 [(1, Hint.b false)], CHint.ops 5 [(1, Hint.b true), (4, Hint.b true)], CHint.ops 6 [(1, Hint.wrap)]]) (c := _) (by kernel_rfl) h

theorem digitF7 (c : Int) (h : AllP [decide (c ≥ (48 : Int)) = true, decide (c ≤ (57 : Int)) = false, decide (c ≥ (97 : Int)) = false, decide (c ≥ (65 : Int)) = true, decide (c ≤ (90 : Int)) = false]) : PureTo Tryd.prog 34 [.v (.int .u8 c)] (AV.v (.int .i64 (99 : Int))) :=
  evFn_pure hm sok14 (fn := Tryd.f34) rfl rfl (ti := false) (hs := [CHint.ops 1 [(1, Hint.b true), (4, Hint.b false)], CHint.ops 3 [(1, Hint.b false)], CHint.ops 5 [(1, Hint.b true), (4, Hint.b false)]]) (c := _) (by kernel_rfl) h

theorem digitF8 (c : Int) (h : AllP [decide (c ≥ (48 : Int)) = true, decide (c ≤ (57 : Int)) = false, decide (c ≥ (97 : Int)) = false, decide (c ≥ (65 : Int)) = false]) : PureTo Tryd.prog 34 [.v (.int .u8 c)] (AV.v (.int .i64 (99 : Int))) :=
  evFn_pure hm sok14 (fn := Tryd.f34) rfl rfl (ti := false) (hs := [CHint.ops 1 [(1, Hint.b true), (4, Hint.b false)], CHint.ops 3 [(1, Hint.b false)], CHint.ops 5 [(1, Hint.b false)]]) (c := _) (by kernel_rfl) h

end Go.Proofs.Bd
