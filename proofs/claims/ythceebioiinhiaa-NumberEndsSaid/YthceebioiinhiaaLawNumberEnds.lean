/- NumberEnds: for every argument the law returns true. No condition. -/
import Derived.Test.YthceebioiinhiaaRows
import Derived.Test.YthceebioiinhiaaNuAll8
import Derived.Test.YthceebioiinhiaaEvAll11
set_option linter.unusedSimpArgs false
set_option linter.unusedVariables false
set_option maxRecDepth 100000
namespace Go.Proofs.Ythceebioiinhiaa.numberEnds
open Go Go.Ev Go.Proofs.Nu
open Go.ChangeShapes Go.WideShapes Go.ChangeAt Go.RowKit

theorem own : ownKnob Try.prog.godebug = none := by kernel_rfl
theorem laid : laidOutB Try.prog = true := by kernel_rfl

theorem samB_self (x : Nat) : samB x x = true := by unfold samB; simp
theorem law (l : List Nat) (wl : ∀ x, x ∈ l → x < 18446744073709551616) (nl : l.length * 8 ≤ 140737488351232) : PureTo Try.prog 11 [floatsA l] (.v (.bool true)) := by
  obtain ⟨r, s, hh⟩ := ends_ok wl (by omega)
  exact endsL1 l r s hh ⟨rfl, rfl, rfl, samB_self _, rfl, rfl, rfl, samB_self _, trivial⟩

theorem lifted (os : Os) (started : os.Started) (H : Type) (enc : TypeId × Value → H) :
    ReturnsInHanded {} Try.checked os 11 .any (Rows.numberEndsSpec.pre6 enc Try.prog Try.f11 Rows.numberEndsRow.domain false) (Rows.numberEndsSpec.post enc Try.prog Try.f11 false true false false) := by
  refine returnsInHanded_of_change_sized (C := Try.checked) own started (by kernel_rfl) Try.func11
    (ChangeSpec.witness6 (enc := enc) (C := Try.checked) false ⟨#[], #[.slice none 0 0], []⟩ 8 (by kernel_rfl) (by kernel_rfl) (by kernel_rfl) (by kernel_rfl)) ?_
  intro W base args ds gs before hval0 hW hcnd hsz0 _
  have hval : ∀ (j : Nat) t v, Try.f11.params[j]? = some t → args[j]? = some v → Value.okWide Try.prog W .any base t v := hval0
  have hW' := hW
  obtain ⟨p, q, hA0, hV, rfl, hfz, hnd⟩ := hW
  obtain ⟨rfl, rfl⟩ := trodVars_none (hV : DataW.TrodVars enc Try.prog W (fun _ => true) [] gs q)
  have hsz : (DataW.weightsEach Try.prog Try.f11.params.toList ds).all (· ≤ reachBytes) = true := by
    have h := hsz0
    rw [List.append_nil] at h
    exact h
  have hA : DataW.TrodAll enc Try.prog W 0 (fun _ => true) true Try.f11.params.toList args.toList ds p := hA0
  rw [Try.params11] at hA hval
  obtain ⟨v0, vs0, d0, ds0, p0, q0, hargs, rfl, rfl, h0, r0⟩ := trodAll_cons hA
  obtain ⟨rfl, rfl, rfl⟩ := trodAll_nil r0
  obtain rfl : args = #[v0] := by cases args; simp_all
  obtain ⟨l0, rep0, w0, e0⟩ := read_floats (by kernel_rfl : Try.prog.underlying 46 = some (.slice 22)) (by kernel_rfl : Try.prog.underlying 22 = some (.float .f64)) (by kernel_rfl) (hval 0 46 v0 rfl rfl) h0
  have n0 := floats_len (j := 0) (b := 8) hsz (by kernel_rfl) rfl (by kernel_rfl : Try.prog.underlying 46 = some (.slice 22)) (by kernel_rfl) e0
  have hcall := (law l0 w0 n0).calls (W := W) (vals := [v0]) Try.func11 rfl rfl (fun _ _ _ h => by cases h) ⟨rfl, fun i h1 h2 => by
    match i with
    | 0 => exact rep0⟩
  refine hcall.mono fun e W' ⟨he, hg⟩ => ?_
  exact ⟨_, he, post_true laid (by kernel_rfl) rfl (tb := 4) (by kernel_rfl) (by kernel_rfl) hW' rfl hg⟩

theorem over : Rows.numberEndsRow.holds Try.pinned (OpenSpec.ofChange Rows.numberEndsSpec) :=
  OpenClaim.holds_of_wide 11 Try.f11 rfl rfl rfl rfl rfl rfl rfl ⟨rfl, rfl, rfl, rfl, rfl⟩ rfl rfl rfl rfl rfl (by kernel_rfl) Try.func11 (by kernel_rfl)
    (of_decide_eq_true (by kernel_rfl)) (by unfold Func.isWrapper; first | (rw [if_pos (by decide +kernel)]; kernel_rfl) | (rw [if_neg (by decide +kernel)]; exact ⟨rfl, rfl⟩))
    (fun os started H enc _ => lifted os started H enc)

theorem proved : Rows.NumberEndsSaid :=
  over
#print axioms proved
end Go.Proofs.Ythceebioiinhiaa.numberEnds
