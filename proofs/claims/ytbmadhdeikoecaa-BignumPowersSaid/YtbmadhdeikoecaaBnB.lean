/- Bignum: contracts: cut, Norm, own. -/
import Derived.Test.YtbmadhdeikoecaaBnW1
import Derived.Test.YtbmadhdeikoecaaBnN
set_option maxRecDepth 100000
namespace Go.Proofs.Bn
open Go Go.Ev

theorem inR64 {x : Int} (h0 : -9223372036854775808 ≤ x) (h1 : x ≤ 9223372036854775807) : inR .i64 x := ⟨h0, h1⟩

theorem cut_loop (a : List Int) (ta : Bool) (hl : a.length < lim) : ∀ n : Nat, n ≤ a.length →
    LoopTo Try.prog (loopAt Try.f43 0) ⟨22, [(0, .sl 1 (.ints .u32 a) ta), (3, .v (.int .i64 n))], [], 0⟩ (.exit 0) ⟨22, [(0, .sl 1 (.ints .u32 a) ta), (3, .v (.int .i64 (cutN a n)))], [], 0⟩ := by
  unfold lim at hl
  intro n
  induction n with
  | zero =>
    intro _
    exact .done (by simp) (cutL3 a ta 0 ⟨by simp, trivial⟩)
  | succ n ih =>
    intro hn
    have e : ((n + 1 : Nat) : Int) - 1 = (n : Int) := by omega
    by_cases hz : a.getD n 0 = 0
    · have h1 := cutL1 a ta (n + 1) (by rw [e]; exact ⟨by simp, inR64 (by omega) (by omega), by omega, by simpa using hz, inR64 (by omega) (by omega), trivial⟩)
      rw [e] at h1
      have := LoopTo.step h1 (ih (by omega))
      simp only [cutN, if_pos hz]
      exact this
    · have h1 := cutL2 a ta (n + 1) (by rw [e]; exact ⟨by simp, inR64 (by omega) (by omega), by omega, by simpa using hz, trivial⟩)
      simp only [cutN, if_neg hz]
      exact .done (by simp) h1

theorem cut_pure (a : List Int) (ta : Bool) (hl : a.length < lim) : PureTo Try.prog 43 [.sl 1 (.ints .u32 a) ta] (.sl 1 (.ints .u32 (norm a)) true) := by
  have := cutN_le a a.length
  have h := cutF1 a ta (cutN a a.length) ⟨cut_loop a ta hl a.length (Nat.le_refl _), by omega, by omega, trivial⟩
  rw [Int.toNat_natCast] at h
  exact h

theorem norm_loop (a : List Int) (ta : Bool) (hl : a.length < lim) : ∀ n : Nat, n ≤ a.length →
    LoopTo Try.prog (loopAt Try.f17 0) ⟨24, [(0, .sl 1 (.ints .u32 a) ta), (3, .v (.int .i64 n))], [], 0⟩ (.exit 0) ⟨24, [(0, .sl 1 (.ints .u32 a) ta), (3, .v (.int .i64 (cutN a n)))], [], 0⟩ := by
  unfold lim at hl
  intro n
  induction n with
  | zero =>
    intro _
    exact .done (by simp) (normL3 a ta 0 ⟨by simp, trivial⟩)
  | succ n ih =>
    intro hn
    have e : ((n + 1 : Nat) : Int) - 1 = (n : Int) := by omega
    by_cases hz : a.getD n 0 = 0
    · have h1 := normL1 a ta (n + 1) (by rw [e]; exact ⟨by simp, inR64 (by omega) (by omega), by omega, by simpa using hz, inR64 (by omega) (by omega), trivial⟩)
      rw [e] at h1
      have := LoopTo.step h1 (ih (by omega))
      simp only [cutN, if_pos hz]
      exact this
    · have h1 := normL2 a ta (n + 1) (by rw [e]; exact ⟨by simp, inR64 (by omega) (by omega), by omega, by simpa using hz, trivial⟩)
      simp only [cutN, if_neg hz]
      exact .done (by simp) h1

/-- a length of words that append bears -/
def lim4 : Nat := 35184372088832

theorem norm_pure (a : List Int) (ta : Bool) (hl : a.length ≤ lim4) : PureTo Try.prog 17 [.sl 1 (.ints .u32 a) ta] (.sl 1 (.ints .u32 (norm a)) false) := by
  have := cutN_le a a.length
  unfold lim4 at hl
  have h := normF1 a ta (cutN a a.length) ⟨norm_loop a ta (by unfold lim; omega) a.length (Nat.le_refl _), by omega, by rw [Int.toNat_natCast, List.length_take]; omega, rfl, Nat.zero_le _, trivial⟩
  rw [Int.toNat_natCast] at h
  exact h

theorem own_pure (a : List Int) (ta : Bool) (hl : a.length ≤ lim4) : PureTo Try.prog 16 [.sl 1 (.ints .u32 a) ta] (.sl 1 (.ints .u32 a) false) :=
  ownF1 a ta ⟨by unfold lim4 at hl; omega, rfl, Nat.zero_le _, trivial⟩

def sigCut : List AV → Option (AV × List Prop)
  | [.sl 1 (.ints .u32 a) _] => some (.sl 1 (.ints .u32 (norm a)) true, [a.length < lim])
  | _ => none
def sigNorm : List AV → Option (AV × List Prop)
  | [.sl 1 (.ints .u32 a) _] => some (.sl 1 (.ints .u32 (norm a)) false, [a.length ≤ lim4])
  | _ => none
def sigOwn : List AV → Option (AV × List Prop)
  | [.sl 1 (.ints .u32 a) _] => some (.sl 1 (.ints .u32 a) false, [a.length ≤ lim4])
  | _ => none
def sigSame : List AV → Option (AV × List Prop)
  | [.sl 1 (.ints .u32 a) _, .sl 1 (.ints .u32 b) _] => some (.v (.bool (decide (a = b))), [a.length < lim])
  | _ => none

def SG1 : List (FuncId × (List AV → Option (AV × List Prop))) := [(43, sigCut), (17, sigNorm), (16, sigOwn), (13, sigSame)]

theorem sok1 : SigsOK Try.prog SG1 := by
  refine sigs_cons (sigs_cons (sigs_cons (sigs_cons sok0 ?_) ?_) ?_) ?_
  · intro ys r c h hc
    unfold sigSame at h
    split at h
    · cases h; exact Same.pure _ _ _ _ hc.1
    · cases h
  · intro ys r c h hc
    unfold sigOwn at h
    split at h
    · cases h; exact own_pure _ _ hc.1
    · cases h
  · intro ys r c h hc
    unfold sigNorm at h
    split at h
    · cases h; exact norm_pure _ _ hc.1
    · cases h
  · intro ys r c h hc
    unfold sigCut at h
    split at h
    · cases h; exact cut_pure _ _ hc.1
    · cases h

end Go.Proofs.Bn
