/- Bignum: contracts: Mul, Times. -/
import Derived.Test.YtbmadhdeikoecaaBnW5
import Derived.Test.YtbmadhdeikoecaaBnM
import Derived.Test.YtbmadhdeikoecaaEvU
set_option maxRecDepth 100000
namespace Go.Proofs.Bn
open Go Go.Ev

theorem inRu64 {x : Int} (h0 : 0 ≤ x) (h1 : x < 18446744073709551616) : inR .u64 x := ⟨h0, by omega⟩
theorem wrap32 (x : Int) : IntKind.u32.wrap x = x % 4294967296 := by
  simp [IntKind.wrap, IntKind.signed, IntKind.bits]
theorem shr32 (x : Int) : x.fdiv ((2 : Int) ^ min (Int.toNat 32) IntKind.u64.bits) = x / 4294967296 := by
  have : (2 : Int) ^ min (Int.toNat 32) IntKind.u64.bits = 4294967296 := by decide
  rw [this, Int.fdiv_eq_ediv_of_nonneg _ (by omega)]
theorem toNat_two (i k : Nat) : ((i : Int) + (k : Int)).toNat = i + k := by omega
theorem ix0 (j : Nat) : ixPlus 0 j = j := rfl

theorem bytes22 : (Try.prog.types[(22 : Nat)].bytes : Int) = 4 := by kernel_rfl

def mulSt (a b : List Int) (ta tb : Bool) (n i m : Nat) (o : List Int) (c : Int) (k : Nat) : AS := ⟨79, [(0, .sl 1 (.ints .u32 a) ta), (1, .sl 1 (.ints .u32 b) tb), (6, .row 17 0 n n false), (7, .v (.int .i64 i)), (8, .v (.int .u64 c)), (26, .v (.int .i64 m)), (27, .v (.int .i64 i)), (31, .v (.int .i64 b.length)), (32, .v (.int .i64 k))], [(17, .row 22 1 (.ints .u32 o) n)], 18⟩

theorem mul_inner (a b : List Int) (ta tb : Bool) (n i m : Nat) (ha : Words a) (hb : Words b) (hi : i < a.length) (hn : n < lim) (hin : i + b.length < n) : ∀ (f k : Nat) (o : List Int) (c : Int), k + f = b.length → o.length = n → Words o → (0 ≤ c ∧ c < 4294967296) →
    LoopTo Try.prog (loopAt Try.f32 1) (mulSt a b ta tb n i m o c k) (.exit 2)
      ⟨79, [(0, .sl 1 (.ints .u32 a) ta), (1, .sl 1 (.ints .u32 b) tb), (6, .row 17 0 n n false), (7, .v (.int .i64 i)), (8, .v (.int .u64 (rowMul (a.getD i 0) b i f k o c).2)), (26, .v (.int .i64 m)), (27, .v (.int .i64 i))], [(17, .row 22 1 (.ints .u32 (rowMul (a.getD i 0) b i f k o c).1) n)], 18⟩ := by
  unfold lim at hn
  intro f
  induction f with
  | zero =>
    intro k o c hk hl ho hc
    exact .done (by simp) (mulI2 a b o ta tb n i m k b.length n c ⟨by simp; omega, trivial⟩)
  | succ f ih =>
    intro k o c hk hl ho hc
    have hx := words_getD ha i
    have hy := words_getD hb k
    have hz := words_getD ho (i + k)
    have hs := sum_bound hx hy hz hc
    have h1 := mulI1 a b o ta tb n i m k b.length n c (by
      rw [toNat_two, Int.toNat_natCast, Int.toNat_natCast, ix0]
      exact ⟨by simp; omega, by omega, inRu64 (by omega) (by omega), by omega, inRu64 (by omega) (by omega), inRu64 hs.1 (by omega), inR64 (by omega) (by omega), by omega, Nat.le_refl _, inRu64 (by omega) (by omega), inRu64 (by omega) (by omega), inRu64 hs.2.2.1 hs.2.2.2,
        inR64 (by omega) (by omega), by omega, hl.symm, by omega, inR64 (by omega) (by omega), trivial⟩)
    rw [toNat_two, Int.toNat_natCast, Int.toNat_natCast, ix0, wrap32, shr32, hl] at h1
    refine .step h1 ?_
    have h2 := ih (k + 1) (o.set (i + k) ((a.getD i 0 * b.getD k 0 + o.getD (i + k) 0 + c) % 4294967296)) ((a.getD i 0 * b.getD k 0 + o.getD (i + k) 0 + c) / 4294967296) (by omega) (by simpa using hl) (words_set ho _ (by omega) (by omega)) (by omega)
    exact h2

theorem mul_outer (a b : List Int) (ta tb : Bool) (n : Nat) (ha : Words a) (hb : Words b) (hn : n < lim) (hl : n = a.length + b.length) : ∀ (f i : Nat) (o : List Int), i + f = a.length → o.length = n → Words o →
    LoopTo Try.prog (loopAt Try.f32 0) ⟨79, [(0, .sl 1 (.ints .u32 a) ta), (1, .sl 1 (.ints .u32 b) tb), (6, .row 17 0 n n false), (26, .v (.int .i64 a.length)), (27, .v (.int .i64 i))], [(17, .row 22 1 (.ints .u32 o) n)], 18⟩ (.exit 0)
      ⟨79, [(6, .row 17 0 n n false)], [(17, .row 22 1 (.ints .u32 (mulRows a b f i o)) n)], 18⟩ := by
  intro f
  induction f with
  | zero =>
    intro i o hi ho hw
    exact .done (by simp) (mulO2 a b o o ta tb n i a.length n 0 ⟨by simp; omega, trivial⟩)
  | succ f ih =>
    intro i o hi ho hw
    have hx := words_getD ha i
    have hrow := rowMul_is (a.getD i 0) b i hx hb b.length 0 o 0 hw (by omega) (by omega) (by omega)
    have hin := mul_inner a b ta tb n i a.length ha hb (by omega) hn (by omega) b.length 0 o 0 (by omega) ho hw (by omega)
    have hlen := hrow.length
    have hn' := hn
    unfold lim at hn'
    have h1 := mulO1 a b o (rowMul (a.getD i 0) b i b.length 0 o 0).1 ta tb n i a.length n (rowMul (a.getD i 0) b i b.length 0 o 0).2 ⟨by simp; omega, hin, inR64 (by omega) (by omega), by omega, by omega, inR64 (by omega) (by omega), trivial⟩
    have hc := hrow.carry
    have hmod : (rowMul (a.getD i 0) b i b.length 0 o 0).2 % 4294967296 = (rowMul (a.getD i 0) b i b.length 0 o 0).2 := by omega
    rw [toNat_two, ix0, wrap32, hmod, hlen, ho] at h1
    exact .step h1 (ih (i + 1) _ (by omega) (by rw [List.length_set]; omega) (words_set hrow.words _ hc.1 hc.2))

/-- the words of a product, and whether it may be -/
def mulL (a b : List Int) : List Int := if over a || over b then [] else toldL (mulWords (norm a) (norm b) ((norm a).length + (norm b).length))
def mulE (a b : List Int) : Int := if over a || over b then 3 else toldE (mulWords (norm a) (norm b) ((norm a).length + (norm b).length))

theorem mul_pure (a b : List Int) (ta tb : Bool) (ha : Words a) (hb : Words b) (hla : a.length < lim) (hlb : b.length < lim) : PureTo Try.prog 32 [.sl 1 (.ints .u32 a) ta, .sl 1 (.ints .u32 b) tb] (.tup [.sl 1 (.ints .u32 (mulL a b)) true, .v (.int .i64 (mulE a b))]) := by
  unfold mulL mulE
  cases ho : over a || over b with
  | true => exact mulF1 a b [] ta tb 0 ⟨ho, hla, hlb, trivial⟩
  | false =>
    simp only [Bool.or_eq_false_iff] at ho
    have h1 : (norm a).length ≤ 1024 := by have := ho.1; unfold over at this; simpa using this
    have h2 : (norm b).length ≤ 1024 := by have := ho.2; unfold over at this; simpa using this
    have hz : Words (List.replicate ((norm a).length + (norm b).length) (0 : Int)) := fun x hx => by
      have := (List.mem_replicate.1 hx).2
      omega
    obtain ⟨g1, g2, g3⟩ := mulWords_is (norm a) (norm b) (words_norm ha) (words_norm hb) ((norm a).length + (norm b).length) (Nat.le_refl _)
    have hloop := mul_outer (norm a) (norm b) true true ((norm a).length + (norm b).length) (words_norm ha) (words_norm hb) (by unfold lim; omega) rfl (norm a).length 0 (List.replicate ((norm a).length + (norm b).length) 0) (by omega) (by simp) hz
    have h := mulF2 a b (mulWords (norm a) (norm b) ((norm a).length + (norm b).length)) ta tb ((norm a).length + (norm b).length) (by
      rw [toNat_two, bytes22]
      exact ⟨by simp [ho], hla, hlb, hla, hlb, inR64 (by omega) (by omega), by omega, by omega, .raise (by
        have e : (List.replicate ((norm a).length + (norm b).length) (0 : Int)).length = (norm a).length + (norm b).length := by simp
        show LoopTo _ _ ⟨_, _, [(17, .row 22 1 (.ints .u32 (List.replicate ((norm a).length + (norm b).length) 0)) (List.replicate ((norm a).length + (norm b).length) (0 : Int)).length)], _⟩ _ _
        rw [e]
        exact hloop), g2.symm, Nat.le_refl _, by rw [g2]; unfold lim; omega, trivial⟩)
    exact h

end Go.Proofs.Bn
