/- Contracts of the program's functions, and the plain law behind them. No condition beyond those in each statement. -/
import Derived.Test.YtbmadhdeikoecaaDoorProg
import Derived.Test.YtbmadhdeikoecaaDoorEvAll3
set_option linter.unusedSimpArgs false
set_option linter.unusedVariables false
set_option linter.unusedSectionVars false
/- Bignum (floats): the beginning. -/
set_option maxRecDepth 100000
namespace Go.Proofs.Bd
open Go Go.Ev

/-- the table of math/bits -/
def bruijn : List Int := [0, 1, 56, 2, 57, 49, 28, 3, 61, 58, 42, 50, 38, 29, 17, 4, 62, 47, 59, 36, 45, 43, 51, 22, 53, 39, 33, 30, 24, 18, 12, 5, 63, 55, 48, 27, 60, 41, 37, 16, 46, 35, 44, 21, 52, 32, 23, 11, 54, 26, 40, 15, 34, 20, 31, 10, 25, 14, 19, 9, 13, 8, 7, 6]
instance : Globs := ⟨[(1, 1, .ints .u8 bruijn)]⟩

theorem hm : Tryd.prog.follows .mixedOrders = true := by kernel_rfl
theorem sok0 : SigsOK Tryd.prog [] := fun f sig h => by cases h

theorem sigs_cons {P : Program} {SG : SGT} {f : FuncId} {sig : List AV → Option (AV × List Prop)} (h : SigsOK P SG) (hf : ∀ ys r c, sig ys = some (r, c) → AllP c → PureTo P f ys r) : SigsOK P ((f, .p sig) :: SG) := by
  intro g s hg
  simp only [Go.Ev.look] at hg
  split at hg
  · next hb =>
    cases hg
    have := Nat.eq_of_beq_eq_true hb
    subst this
    exact hf
  · exact h g s hg

theorem sigs_s {P : Program} {SG : SGT} {f : FuncId} {mask : List Bool} {sig : List AObj → List AV → Option (AV × List AObj × List Prop)} (h : SigsOK P SG) (hf : ∀ os ys r os' c, sig os ys = some (r, os', c) → AllP c → SharedTo P f os ys r os') : SigsOK P ((f, .s mask sig) :: SG) := by
  intro g s hg
  simp only [Go.Ev.look] at hg
  split at hg
  · next hb =>
    cases hg
    have := Nat.eq_of_beq_eq_true hb
    subst this
    exact hf
  · exact h g s hg

end Go.Proofs.Bd
