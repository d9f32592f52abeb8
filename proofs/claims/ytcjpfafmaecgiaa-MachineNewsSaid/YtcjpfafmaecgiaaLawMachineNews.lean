/- MachineNews: for every argument the law returns true. No condition. -/
import Derived.Test.YtcjpfafmaecgiaaRows
import Derived.Test.YtcjpfafmaecgiaaMaAll5
import Derived.Test.YtcjpfafmaecgiaaEvAll3
import Derived.Test.YtcjpfafmaecgiaaEvAll6
set_option linter.unusedSimpArgs false
set_option linter.unusedVariables false
set_option maxRecDepth 100000
namespace Go.Proofs.Ytcjpfafmaecgiaa.machineNews
open Go Go.Ev Go.Proofs.Ma
open Go.ChangeShapes Go.WideShapes Go.ChangeAt Go.RowKit

theorem own : ownKnob Try.prog.godebug = none := by kernel_rfl
theorem laid : laidOutB Try.prog = true := by kernel_rfl

theorem law (f c s d : Int) (l : List Nat) (wl : ∀ x, x ∈ l → x < 18446744073709551616) (nl : l.length * 8 ≤ 140737488351232) : PureTo Try.prog 3 [limA f c s d, floatsA l] (.v (.bool true)) :=
  news_law l f c s d (by omega)

theorem lifted (os : Os) (started : os.Started) (H : Type) (enc : TypeId × Value → H) :
    ReturnsInHanded {} Try.checked os 3 .any (Rows.machineNewsSpec.pre6 enc Try.prog Try.f3 Rows.machineNewsRow.domain false) (Rows.machineNewsSpec.post enc Try.prog Try.f3 false true false false) := by
  refine returnsInHanded_of_change_sized (C := Try.checked) own started (by kernel_rfl) Try.func3
    (ChangeSpec.witness6 (enc := enc) (C := Try.checked) false ⟨#[], #[.agg #[.int .i64 0, .int .i64 0, .int .i64 0, .int .i64 0], .slice none 0 0], []⟩ 8 (by kernel_rfl) (by kernel_rfl) (by kernel_rfl) (by kernel_rfl)) ?_
  intro W base args ds gs before hval0 hW hcnd hsz0 _
  have hval : ∀ (j : Nat) t v, Try.f3.params[j]? = some t → args[j]? = some v → Value.okWide Try.prog W .any base t v := hval0
  have hW' := hW
  obtain ⟨p, q, hA0, hV, rfl, hfz, hnd⟩ := hW
  obtain ⟨rfl, rfl⟩ := trodVars_none (hV : DataW.TrodVars enc Try.prog W (fun _ => true) [] gs q)
  have hsz : (DataW.weightsEach Try.prog Try.f3.params.toList ds).all (· ≤ reachBytes) = true := by
    have h := hsz0
    rw [List.append_nil] at h
    exact h
  have hA : DataW.TrodAll enc Try.prog W 0 (fun _ => true) true Try.f3.params.toList args.toList ds p := hA0
  rw [Try.params3] at hA hval
  obtain ⟨v0, vs0, d0, ds0, p0, q0, hargs, rfl, rfl, h0, r0⟩ := trodAll_cons hA
  obtain ⟨v1, vs1, d1, ds1, p1, q1, rfl, rfl, rfl, h1, r1⟩ := trodAll_cons r0
  obtain ⟨rfl, rfl, rfl⟩ := trodAll_nil r1
  obtain rfl : args = #[v0, v1] := by cases args; simp_all
  obtain ⟨f0, c0, s0, t0, rep0⟩ := read_limits (hval 0 23 v0 rfl rfl)
  obtain ⟨l1, rep1, w1, e1⟩ := read_floats (by kernel_rfl : Try.prog.underlying 24 = some (.slice 41)) (by kernel_rfl : Try.prog.underlying 41 = some (.float .f64)) (by kernel_rfl) (hval 1 24 v1 rfl rfl) h1
  have n1 := floats_len (j := 1) (b := 8) hsz (by kernel_rfl) rfl (by kernel_rfl : Try.prog.underlying 24 = some (.slice 41)) (by kernel_rfl) e1
  have hcall := (law f0 c0 s0 t0 l1 w1 n1).calls (W := W) (vals := [v0, v1]) Try.func3 rfl rfl (fun _ _ _ h => by cases h) ⟨rfl, fun i h1 h2 => by
    match i with
    | 0 => exact rep0
    | 1 => exact rep1⟩
  refine hcall.mono fun e W' ⟨he, hg⟩ => ?_
  exact ⟨_, he, post_true laid (by kernel_rfl) rfl (tb := 4) (by kernel_rfl) (by kernel_rfl) hW' rfl hg⟩

theorem over : Rows.machineNewsRow.holds Try.pinned (OpenSpec.ofChange Rows.machineNewsSpec) :=
  OpenClaim.holds_of_wide 3 Try.f3 rfl rfl rfl rfl rfl rfl rfl ⟨rfl, rfl, rfl, rfl, rfl⟩ rfl rfl rfl rfl rfl (by kernel_rfl) Try.func3 (by kernel_rfl)
    (of_decide_eq_true (by kernel_rfl)) (by unfold Func.isWrapper; first | (rw [if_pos (by decide +kernel)]; kernel_rfl) | (rw [if_neg (by decide +kernel)]; exact ⟨rfl, rfl⟩))
    (fun os started H enc _ => lifted os started H enc)

theorem proved : Rows.MachineNewsSaid :=
  over
#print axioms proved
end Go.Proofs.Ytcjpfafmaecgiaa.machineNews
