/- Contracts of the program's functions, and the plain law behind them. No condition beyond those in each statement. -/
import Derived.Test.YtbmadhdeikoecaaDoorCards
import Derived.Test.YtbmadhdeikoecaaDoorTie
import Derived.Test.YtbmadhdeikoecaaDoorBdAll1
import Derived.Test.YtbmadhdeikoecaaDoorEvAll4
import Derived.OpenShut
import Derived.ChangeSame
import Derived.Lib.LaidTab
import Derived.MakeChecks
import Derived.ProofKit
import Derived.Deep.DeepHandedRow
set_option linter.unusedSimpArgs false
set_option linter.unusedVariables false
set_option linter.unusedSectionVars false
/- Bignum: floats; from the row's listed table to the walk's; the witness's world. -/
set_option maxRecDepth 100000
namespace Go.Proofs.Bf
open Go Go.Ev Go.Proofs.YtbmadhdeikoecaaDoor

theorem gTab : Tryd.prog.globalNamed "math/bits.deBruijn64tab" = some 1 := by kernel_rfl
theorem tTab : (Tryd.prog.globals[1]?).map (·.type) = some 65 := by kernel_rfl
theorem u65 : Tryd.prog.underlying 65 = some (.array 64 5) := by kernel_rfl
theorem u5 : Tryd.prog.underlying 5 = some (.int .u8) := by kernel_rfl
theorem c5 : Tryd.prog.cellsOf 5 = 1 := by kernel_rfl
theorem c65 : Tryd.prog.cellsOf 65 = 64 := by kernel_rfl
theorem tab_data {H : Type} : Rows.laid_math_bits_deBruijn64tab (H := H) = Lib.tabData .u8 Bd.bruijn := by rfl
abbrev laidT : List (String × DataW Unit) := [("math/bits.deBruijn64tab", Rows.laid_math_bits_deBruijn64tab)]

theorem globW {W : World} (h : laidMetH Tryd.prog laidT W) : GlobW W := by
  rw [MakeChecks.laidMetH_plain _ _ _ (by kernel_rfl)] at h
  obtain ⟨ps, ⟨g0, t0, cs0, f0, p0, q0, hg0, ht0, hv0, hd0, _, _⟩, _, _⟩ := h
  obtain rfl := Option.some.inj (gTab.symm.trans hg0)
  obtain rfl := Option.some.inj (tTab.symm.trans ht0)
  have k0 : cs0.toList = Bd.bruijn.map fun z => Value.int .u8 z := Lib.cells_of_tab u65 u5 c5 c65 (by rw [← tab_data]; exact hd0)
  have cell0 : ∀ i, i < 64 → W.cell? ⟨1, i, none⟩ = some (.int .u8 (Bd.bruijn.getD i 0)) := by
    intro i hi
    rw [World.var?_cell hg0 hv0 i, ← Array.getElem?_toList, k0]
    have : i < Bd.bruijn.length := by rw [show Bd.bruijn.length = 64 from by decide]; exact hi
    simp [List.getD, this]
  intro g sz q hlook
  have hs : ∀ b off v, W.cell? ⟨b, off, none⟩ = some v → b < W.heap.size := by
    intro b off v h
    simp only [World.cell?] at h
    rcases Nat.lt_or_ge b W.heap.size with hc | hc
    · exact hc
    · simp [Array.getElem?_eq_none hc] at h
  change Ev.look [(1, 1, Seq.ints .u8 Bd.bruijn)] g = some (sz, q) at hlook
  by_cases e0 : g = 1
  · subst e0
    have : (sz, q) = (1, Seq.ints .u8 Bd.bruijn) := by have : some (1, Seq.ints .u8 Bd.bruijn) = some (sz, q) := hlook; exact (Option.some.inj this).symm
    cases this
    refine ⟨rfl, hs _ _ _ (cell0 0 (by decide)), fun i hi => ⟨rfl, fun j hj => ?_⟩⟩
    have hj0 : j = 0 := by have : j < 1 := hj; omega
    subst hj0
    refine ⟨_, rfl, trivial, ?_⟩
    rw [Nat.mul_one]
    exact cell0 i (by have : i < Bd.bruijn.length := hi; rwa [show Bd.bruijn.length = 64 from by decide] at this)
  · exfalso
    match g, e0, hlook with
    | 0, _, hlook => cases (show (none : Option (Nat × Ev.Seq AV)) = some (sz, q) from hlook)
    | 1, e0, _ => exact e0 rfl
    | g + 2, _, hlook => cases (show (none : Option (Nat × Ev.Seq AV)) = some (sz, q) from hlook)

/-- the settled world with the table -/
noncomputable def setCells (vs : Array Value) : Obj → Obj
  | .cells _ t frozen => .cells vs t frozen
  | o => o
noncomputable def laidWorld (os : Os) : World :=
  { World.holding Tryd.prog os ⟨#[], #[], []⟩ with
    heap := (World.holding Tryd.prog os ⟨#[], #[], []⟩).heap.modify 1 (setCells (Bd.bruijn.map fun n => Value.int .u8 n).toArray) }
theorem laid_met (os : Os) (args : Array Value) : laidMet Tryd.prog laidT ((laidWorld os).forCall (fun _ _ => 0) ⟨#[], args, []⟩).memory :=
  laidMet_of_run' 8 (by kernel_rfl) (by kernel_rfl)
end Go.Proofs.Bf
