/- Bignum: contracts: Times; Mul in numbers. -/
import Derived.Test.YtbmadhdeikoecaaBnF
set_option maxRecDepth 100000
namespace Go.Proofs.Bn
open Go Go.Ev

theorem times_inner (a b : List Int) (ta tb : Bool) (n i : Nat) (ha : Words a) (hb : Words b) (hi : i < a.length) (hn : n < lim) (hin : i + b.length < n) : ∀ (f k : Nat) (o : List Int) (c : Int), k + f = b.length → o.length = n → Words o → (0 ≤ c ∧ c < 4294967296) →
    LoopTo Try.prog (loopAt Try.f40 1) ⟨69, [(0, .sl 1 (.ints .u32 a) ta), (1, .sl 1 (.ints .u32 b) tb), (5, .row 7 0 n n false), (6, .v (.int .i64 i)), (7, .v (.int .u64 c)), (8, .v (.int .i64 k))], [(7, .row 22 1 (.ints .u32 o) n)], 8⟩ (.exit 2)
      ⟨69, [(0, .sl 1 (.ints .u32 a) ta), (1, .sl 1 (.ints .u32 b) tb), (5, .row 7 0 n n false), (6, .v (.int .i64 i)), (7, .v (.int .u64 (rowMul (a.getD i 0) b i f k o c).2))], [(7, .row 22 1 (.ints .u32 (rowMul (a.getD i 0) b i f k o c).1) n)], 8⟩ := by
  unfold lim at hn
  intro f
  induction f with
  | zero =>
    intro k o c hk hl ho hc
    exact .done (by simp) (timesI2 a b o ta tb n i k n c ⟨by simp; omega, trivial⟩)
  | succ f ih =>
    intro k o c hk hl ho hc
    have hx := words_getD ha i
    have hy := words_getD hb k
    have hz := words_getD ho (i + k)
    have hs := sum_bound hx hy hz hc
    have h1 := timesI1 a b o ta tb n i k n c (by
      rw [toNat_two, Int.toNat_natCast, Int.toNat_natCast, ix0]
      exact ⟨by simp; omega, by omega, inRu64 (by omega) (by omega), by omega, inRu64 (by omega) (by omega), inRu64 hs.1 (by omega), inR64 (by omega) (by omega), by omega, Nat.le_refl _, inRu64 (by omega) (by omega), inRu64 (by omega) (by omega), inRu64 hs.2.2.1 hs.2.2.2,
        inR64 (by omega) (by omega), by omega, hl.symm, by omega, inR64 (by omega) (by omega), trivial⟩)
    rw [toNat_two, Int.toNat_natCast, Int.toNat_natCast, ix0, wrap32, shr32, hl] at h1
    refine .step h1 ?_
    have h2 := ih (k + 1) (o.set (i + k) ((a.getD i 0 * b.getD k 0 + o.getD (i + k) 0 + c) % 4294967296)) ((a.getD i 0 * b.getD k 0 + o.getD (i + k) 0 + c) / 4294967296) (by omega) (by simpa using hl) (words_set ho _ (by omega) (by omega)) (by omega)
    exact h2

theorem times_outer (a b : List Int) (ta tb : Bool) (n : Nat) (ha : Words a) (hb : Words b) (hn : n < lim) (hl : a.length + b.length ≤ n) : ∀ (f i : Nat) (o : List Int), i + f = a.length → o.length = n → Words o →
    LoopTo Try.prog (loopAt Try.f40 0) ⟨69, [(0, .sl 1 (.ints .u32 a) ta), (1, .sl 1 (.ints .u32 b) tb), (5, .row 7 0 n n false), (6, .v (.int .i64 i))], [(7, .row 22 1 (.ints .u32 o) n)], 8⟩ (.exit 0)
      ⟨69, [(5, .row 7 0 n n false)], [(7, .row 22 1 (.ints .u32 (mulRows a b f i o)) n)], 8⟩ := by
  intro f
  induction f with
  | zero =>
    intro i o hi ho hw
    exact .done (by simp) (timesO2 a b o o ta tb n i n 0 ⟨by simp; omega, trivial⟩)
  | succ f ih =>
    intro i o hi ho hw
    have hx := words_getD ha i
    have hrow := rowMul_is (a.getD i 0) b i hx hb b.length 0 o 0 hw (by omega) (by omega) (by omega)
    have hin := times_inner a b ta tb n i ha hb (by omega) hn (by omega) b.length 0 o 0 (by omega) ho hw (by omega)
    have hlen := hrow.length
    have hn' := hn
    unfold lim at hn'
    have h1 := timesO1 a b o (rowMul (a.getD i 0) b i b.length 0 o 0).1 ta tb n i n (rowMul (a.getD i 0) b i b.length 0 o 0).2 ⟨by simp; omega, hin, inR64 (by omega) (by omega), by omega, by omega, inR64 (by omega) (by omega), trivial⟩
    have hc := hrow.carry
    have hmod : (rowMul (a.getD i 0) b i b.length 0 o 0).2 % 4294967296 = (rowMul (a.getD i 0) b i b.length 0 o 0).2 := by omega
    rw [toNat_two, ix0, wrap32, hmod, hlen, ho] at h1
    exact .step h1 (ih (i + 1) _ (by omega) (by rw [List.length_set]; omega) (words_set hrow.words _ hc.1 hc.2))

theorem words_dig_nat {a : List Int} (h : Words a) : norm a = dig (nat a) := norm_eq h

theorem zeros_words (n : Nat) : Words (List.replicate n (0 : Int)) := fun x hx => by
  have := (List.mem_replicate.1 hx).2
  omega

theorem times_pure (a b : List Int) (ta tb : Bool) (ha : Words a) (hb : Words b) (hl : a.length + b.length + 1 ≤ lim4) : PureTo Try.prog 40 [.sl 1 (.ints .u32 a) ta, .sl 1 (.ints .u32 b) tb] (.sl 1 (.ints .u32 (dig (nat a * nat b))) false) := by
  have hl' := hl
  unfold lim4 at hl'
  obtain ⟨g1, g2, g3⟩ := mulWords_is a b ha hb (a.length + b.length + 1) (by omega)
  have hloop := times_outer a b ta tb (a.length + b.length + 1) ha hb (by unfold lim; omega) (by omega) a.length 0 (List.replicate (a.length + b.length + 1) 0) (by omega) (by simp) (zeros_words _)
  have e3 : ((a.length : Int) + (b.length : Int) + 1).toNat = a.length + b.length + 1 := by omega
  have h := timesF1 a b (mulWords a b (a.length + b.length + 1)) ta tb (a.length + b.length + 1) (by
    rw [e3, bytes22]
    exact ⟨inR64 (by omega) (by omega), inR64 (by omega) (by omega), by omega, by omega, .raise (by
      have e : (List.replicate (a.length + b.length + 1) (0 : Int)).length = a.length + b.length + 1 := by simp
      show LoopTo _ _ ⟨_, _, [(7, .row 22 1 (.ints .u32 (List.replicate (a.length + b.length + 1) 0)) (List.replicate (a.length + b.length + 1) (0 : Int)).length)], _⟩ _ _
      rw [e]
      exact hloop), g2.symm, Nat.le_refl _, by rw [g2]; exact hl, trivial⟩)
  rw [norm_eq g1, g3] at h
  exact h

/-- Mul in numbers -/
def big (n : Nat) : Bool := decide (1024 < (dig n).length)
theorem over_big {a : List Int} (h : Words a) : over a = big (nat a) := by unfold over big; rw [norm_eq h]

def Mul (m n : Nat) : List Int × Int := if big m || big n || big (m * n) then ([], 3) else (dig (m * n), 0)

theorem mul_num {a b : List Int} (ha : Words a) (hb : Words b) : (mulL a b, mulE a b) = Mul (nat a) (nat b) := by
  obtain ⟨g1, g2, g3⟩ := mulWords_is (norm a) (norm b) (words_norm ha) (words_norm hb) ((norm a).length + (norm b).length) (Nat.le_refl _)
  rw [nat_norm, nat_norm] at g3
  unfold mulL mulE Mul toldL toldE
  rw [over_big ha, over_big hb, over_big g1, g3, norm_eq g1, g3]
  cases big (nat a) <;> cases big (nat b) <;> cases big (nat a * nat b) <;> simp

theorem mul_pure' (a b : List Int) (ta tb : Bool) (ha : Words a) (hb : Words b) (hla : a.length < lim) (hlb : b.length < lim) : PureTo Try.prog 32 [.sl 1 (.ints .u32 a) ta, .sl 1 (.ints .u32 b) tb] (.tup [.sl 1 (.ints .u32 (Mul (nat a) (nat b)).1) true, .v (.int .i64 (Mul (nat a) (nat b)).2)]) := by
  have h := mul_pure a b ta tb ha hb hla hlb
  rw [← mul_num ha hb]
  exact h

def sigMul : List AV → Option (AV × List Prop)
  | [.sl 1 (.ints .u32 a) _, .sl 1 (.ints .u32 b) _] => some (.tup [.sl 1 (.ints .u32 (Mul (nat a) (nat b)).1) true, .v (.int .i64 (Mul (nat a) (nat b)).2)], [Words a, Words b, a.length < lim, b.length < lim])
  | _ => none
def sigTimes : List AV → Option (AV × List Prop)
  | [.sl 1 (.ints .u32 a) _, .sl 1 (.ints .u32 b) _] => some (.sl 1 (.ints .u32 (dig (nat a * nat b))) false, [Words a, Words b, a.length + b.length + 1 ≤ lim4])
  | _ => none

def SG6 : List (FuncId × (List AV → Option (AV × List Prop))) := (32, sigMul) :: (40, sigTimes) :: SG5

theorem sok6 : SigsOK Try.prog SG6 := by
  refine sigs_cons (sigs_cons sok5 ?_) ?_
  · intro ys r c h hc
    unfold sigTimes at h
    split at h
    · cases h; exact times_pure _ _ _ _ hc.1 hc.2.1 hc.2.2.1
    · cases h
  · intro ys r c h hc
    unfold sigMul at h
    split at h
    · cases h; exact mul_pure' _ _ _ _ hc.1 hc.2.1 hc.2.2.1 hc.2.2.2.1
    · cases h

end Go.Proofs.Bn
