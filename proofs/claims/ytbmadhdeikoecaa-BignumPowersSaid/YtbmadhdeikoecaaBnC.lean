/- Bignum: contracts: long of one, told, Long. -/
import Derived.Test.YtbmadhdeikoecaaBnW2
set_option maxRecDepth 100000
namespace Go.Proofs.Bn
open Go Go.Ev

/-- more words than may be -/
def over (a : List Int) : Bool := decide (1024 < (norm a).length)

theorem long1_pure (a : List Int) (ta : Bool) (hl : a.length < lim) : PureTo Try.prog 65 [.sl 1 (.ints .u32 a) ta] (.v (.bool (over a))) := by
  unfold over
  by_cases h : 1024 < (norm a).length
  · rw [decide_eq_true h]; exact longF1 a ta ⟨hl, by simp; omega, trivial⟩
  · rw [decide_eq_false h]; exact longF2 a ta ⟨hl, by simp; omega, trivial⟩

theorem Long_pure (a : List Int) (ta : Bool) (hl : a.length ≤ lim4) : PureTo Try.prog 41 [.sl 1 (.ints .u32 a) ta] (.v (.bool (over a))) := by
  unfold over
  by_cases h : 1024 < (norm a).length
  · rw [decide_eq_true h]; exact LongF1 a ta ⟨hl, by simp; omega, trivial⟩
  · rw [decide_eq_false h]; exact LongF2 a ta ⟨hl, by simp; omega, trivial⟩

def toldL (a : List Int) : List Int := if over a then [] else norm a
def toldE (a : List Int) : Int := if over a then 3 else 0

theorem told_pure (a : List Int) (ta : Bool) (hl : a.length < lim) : PureTo Try.prog 48 [.sl 1 (.ints .u32 a) ta] (.tup [.sl 1 (.ints .u32 (toldL a)) true, .v (.int .i64 (toldE a))]) := by
  unfold toldL toldE over
  by_cases h : 1024 < (norm a).length
  · simp only [decide_eq_true h, if_true]; exact toldF1 a ta ⟨hl, by simp; omega, trivial⟩
  · simp only [decide_eq_false h]; exact toldF2 a ta ⟨hl, by simp; omega, trivial⟩

def sigLong1 : List AV → Option (AV × List Prop)
  | [.sl 1 (.ints .u32 a) _] => some (.v (.bool (over a)), [a.length < lim])
  | _ => none
def sigLong : List AV → Option (AV × List Prop)
  | [.sl 1 (.ints .u32 a) _] => some (.v (.bool (over a)), [a.length ≤ lim4])
  | _ => none
def sigTold : List AV → Option (AV × List Prop)
  | [.sl 1 (.ints .u32 a) _] => some (.tup [.sl 1 (.ints .u32 (toldL a)) true, .v (.int .i64 (toldE a))], [a.length < lim])
  | _ => none

def SG2 : List (FuncId × (List AV → Option (AV × List Prop))) := (65, sigLong1) :: (41, sigLong) :: (48, sigTold) :: SG1

theorem sok2 : SigsOK Try.prog SG2 := by
  refine sigs_cons (sigs_cons (sigs_cons sok1 ?_) ?_) ?_
  · intro ys r c h hc
    unfold sigTold at h
    split at h
    · cases h; exact told_pure _ _ hc.1
    · cases h
  · intro ys r c h hc
    unfold sigLong at h
    split at h
    · cases h; exact Long_pure _ _ hc.1
    · cases h
  · intro ys r c h hc
    unfold sigLong1 at h
    split at h
    · cases h; exact long1_pure _ _ hc.1
    · cases h

end Go.Proofs.Bn
