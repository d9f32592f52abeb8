/- MathfnAngles: for every argument the law returns true. No condition. -/
import Derived.Test.YtablfkgeobnnpaaRows
import Derived.Test.YtablfkgeobnnpaaMfAll5
import Derived.Test.YtablfkgeobnnpaaEvAll7
set_option linter.unusedSimpArgs false
set_option linter.unusedVariables false
set_option maxRecDepth 100000
namespace Go.Proofs.Ytablfkgeobnnpaa.mathfnAngles
open Go Go.Ev Go.Proofs.Mf
open Go.ChangeShapes Go.WideShapes Go.ChangeAt Go.RowKit

theorem own : ownKnob Try.prog.godebug = none := by kernel_rfl
theorem laid : laidOutB Try.prog = true := by kernel_rfl

theorem law (x : Nat) (wx : x < 18446744073709551616) : PureTo Try.prog 7 [.v (.float .f64 x)] (.v (.bool true)) := angL1 x ⟨wx, wx, by simp, wx, wx, by simp, wx, wx, by simp, trivial⟩

theorem lifted (os : Os) (started : os.Started) (H : Type) (enc : TypeId × Value → H) :
    ReturnsInHanded {} Try.checked os 7 .any (Rows.mathfnAnglesSpec.pre6 enc Try.prog Try.f7 Rows.mathfnAnglesRow.domain false) (Rows.mathfnAnglesSpec.post enc Try.prog Try.f7 false true false false) := by
  refine returnsInHanded_of_change_sized (C := Try.checked) own started (by kernel_rfl) Try.func7
    (ChangeSpec.witness6 (enc := enc) (C := Try.checked) false ⟨#[], #[.float .f64 0], []⟩ 8 (by kernel_rfl) (by kernel_rfl) (by kernel_rfl) (by kernel_rfl)) ?_
  intro W base args ds gs before hval0 hW hcnd hsz0 _
  have hval : ∀ (j : Nat) t v, Try.f7.params[j]? = some t → args[j]? = some v → Value.okWide Try.prog W .any base t v := hval0
  have hW' := hW
  obtain ⟨p, q, hA0, hV, rfl, hfz, hnd⟩ := hW
  obtain ⟨rfl, rfl⟩ := trodVars_none (hV : DataW.TrodVars enc Try.prog W (fun _ => true) [] gs q)
  have hsz : (DataW.weightsEach Try.prog Try.f7.params.toList ds).all (· ≤ reachBytes) = true := by
    have h := hsz0
    rw [List.append_nil] at h
    exact h
  have hA : DataW.TrodAll enc Try.prog W 0 (fun _ => true) true Try.f7.params.toList args.toList ds p := hA0
  rw [Try.params7] at hA hval
  obtain ⟨v0, vs0, d0, ds0, p0, q0, hargs, rfl, rfl, h0, r0⟩ := trodAll_cons hA
  obtain ⟨rfl, rfl, rfl⟩ := trodAll_nil r0
  obtain rfl : args = #[v0] := by cases args; simp_all
  obtain ⟨x0, rfl, w0⟩ := read_float (by kernel_rfl : Try.prog.underlying 22 = some (.float .f64)) (hval 0 22 v0 rfl rfl)
  have hcall := (law x0 w0).calls (W := W) (vals := [.float .f64 x0]) Try.func7 rfl rfl (fun _ _ _ h => by cases h) ⟨rfl, fun i h1 h2 => by
    match i with
    | 0 => exact .v _ trivial⟩
  refine hcall.mono fun e W' ⟨he, hg⟩ => ?_
  exact ⟨_, he, post_true laid (by kernel_rfl) rfl (tb := 4) (by kernel_rfl) (by kernel_rfl) hW' rfl hg⟩

theorem over : Rows.mathfnAnglesRow.holds Try.pinned (OpenSpec.ofChange Rows.mathfnAnglesSpec) :=
  OpenClaim.holds_of_wide 7 Try.f7 rfl rfl rfl rfl rfl rfl rfl ⟨rfl, rfl, rfl, rfl, rfl⟩ rfl rfl rfl rfl rfl (by kernel_rfl) Try.func7 (by kernel_rfl)
    (of_decide_eq_true (by kernel_rfl)) (by unfold Func.isWrapper; first | (rw [if_pos (by decide +kernel)]; kernel_rfl) | (rw [if_neg (by decide +kernel)]; exact ⟨rfl, rfl⟩))
    (fun os started H enc _ => lifted os started H enc)

theorem proved : Rows.MathfnAnglesSaid :=
  over
#print axioms proved
end Go.Proofs.Ytablfkgeobnnpaa.mathfnAngles
