/- Bignum: what the law of powers calls. -/
import Derived.Test.YtbmadhdeikoecaaBnH
set_option maxRecDepth 100000
namespace Go.Proofs.Bn
open Go Go.Ev

theorem awake_pure : PureTo Try.prog 14 [] (.v (.bool true)) :=
  awakeF1 ⟨words_one (by omega), words_one (by omega), by unfold lim; simp, by unfold lim; simp, by
    have : (Mul (nat [4294967295]) (nat [4294967295])).1.length = 2 := by decide +kernel
    rw [this]; omega, by
    have : (Mul (nat [4294967295]) (nat [4294967295])).1.length = 2 := by decide +kernel
    rw [this]; omega, trivial⟩

theorem pow_len (x : Nat) (n : Int) : (Pow x n).1.length ≤ 1024 := by
  unfold Pow
  split
  · simp
  · split
    · simp
    · next h => exact small_len (by simpa using h)

def sigPow : List AV → Option (AV × List Prop)
  | [.v (.int .u32 x), .v (.int .i64 n)] => some (.tup [.sl 1 (.ints .u32 (Pow x.toNat n).1) false, .v (.int .i64 (Pow x.toNat n).2)], [0 ≤ x ∧ x < 4294967296, n ≤ 9223372036854775807])
  | _ => none
def sigAwake : List AV → Option (AV × List Prop)
  | [] => some (.v (.bool true), [])
  | _ => none

def SG7 : List (FuncId × (List AV → Option (AV × List Prop))) := (11, sigPow) :: (12, sigPow) :: (14, sigAwake) :: SG6

theorem sok7 : SigsOK Try.prog SG7 := by
  refine sigs_cons (sigs_cons (sigs_cons sok6 ?_) ?_) ?_
  · intro ys r c h hc
    unfold sigAwake at h
    split at h
    · cases h; exact awake_pure
    · cases h
  · intro ys r c h hc
    unfold sigPow at h
    split at h
    · cases h; exact rpow_pure _ _ hc.1 hc.2.1
    · cases h
  · intro ys r c h hc
    unfold sigPow at h
    split at h
    · cases h; exact pow_pure _ _ hc.1 hc.2.1
    · cases h

end Go.Proofs.Bn
