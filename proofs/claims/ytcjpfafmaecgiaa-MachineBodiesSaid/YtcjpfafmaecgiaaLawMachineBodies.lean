/- MachineBodies: for every argument the law returns true. No condition. -/
import Derived.Test.YtcjpfafmaecgiaaRows
import Derived.Test.YtcjpfafmaecgiaaMbAll4
import Derived.Test.YtcjpfafmaecgiaaEvAll4
import Derived.Test.YtcjpfafmaecgiaaEvAll6
set_option linter.unusedSimpArgs false
set_option linter.unusedVariables false
set_option maxRecDepth 100000
namespace Go.Proofs.Ytcjpfafmaecgiaa.machineBodies
open Go Go.Ev Go.Proofs.Ma
open Go.ChangeShapes Go.WideShapes Go.ChangeAt Go.RowKit

theorem own : ownKnob Try.prog.godebug = none := by kernel_rfl
theorem laid : laidOutB Try.prog = true := by kernel_rfl

theorem law (e : DR) (he : e.L.size ≤ 9223372036854775807) (u : VR) (l : List VR) (nl : l.length * 48 ≤ 140737488351232) : PureTo Try.prog 4 [dR e, vR u, valsQ l] (.v (.bool true)) :=
  bodies_law e he u l (by omega)

theorem lifted (os : Os) (started : os.Started) (H : Type) (enc : TypeId × Value → H) :
    ReturnsInHanded {} Try.checked os 4 .any (Rows.machineBodiesSpec.pre6 enc Try.prog Try.f4 Rows.machineBodiesRow.domain false) (Rows.machineBodiesSpec.post enc Try.prog Try.f4 false true false false) := by
  refine returnsInHanded_of_change_sized (C := Try.checked) own started (by kernel_rfl) Try.func4
    (ChangeSpec.witness6 (enc := enc) (C := Try.checked) false ⟨#[], #[.agg #[.int .i64 0, .int .i64 0, .bool false, .float .f64 0, .string ByteArray.empty, .int .i64 0, .string ByteArray.empty], .agg #[.int .i64 0, .bool false, .float .f64 0, .string ByteArray.empty, .int .i64 0], .slice none 0 0], []⟩ 8 (by kernel_rfl) (by kernel_rfl) (by kernel_rfl) (by kernel_rfl)) ?_
  intro W base args ds gs before hval0 hW hcnd hsz0 _
  have hval : ∀ (j : Nat) t v, Try.f4.params[j]? = some t → args[j]? = some v → Value.okWide Try.prog W .any base t v := hval0
  have hW' := hW
  obtain ⟨p, q, hA0, hV, rfl, hfz, hnd⟩ := hW
  obtain ⟨rfl, rfl⟩ := trodVars_none (hV : DataW.TrodVars enc Try.prog W (fun _ => true) [] gs q)
  have hsz : (DataW.weightsEach Try.prog Try.f4.params.toList ds).all (· ≤ reachBytes) = true := by
    have h := hsz0
    rw [List.append_nil] at h
    exact h
  have hA : DataW.TrodAll enc Try.prog W 0 (fun _ => true) true Try.f4.params.toList args.toList ds p := hA0
  rw [Try.params4] at hA hval
  obtain ⟨v0, vs0, d0, ds0, p0, q0, hargs, rfl, rfl, h0, r0⟩ := trodAll_cons hA
  obtain ⟨v1, vs1, d1, ds1, p1, q1, rfl, rfl, rfl, h1, r1⟩ := trodAll_cons r0
  obtain ⟨v2, vs2, d2, ds2, p2, q2, rfl, rfl, rfl, h2, r2⟩ := trodAll_cons r1
  obtain ⟨rfl, rfl, rfl⟩ := trodAll_nil r2
  obtain rfl : args = #[v0, v1, v2] := by cases args; simp_all
  obtain ⟨e0', rep0, w0⟩ := read_done (hval 0 51 v0 rfl rfl) h0
  obtain ⟨u1, rep1⟩ := read_value (hval 1 49 v1 rfl rfl) h1
  obtain ⟨l2, rep2, e2⟩ := read_values (hval 2 52 v2 rfl rfl) h2
  have n2 := vals_len (j := 2) hsz (by kernel_rfl) rfl e2
  have hcall := (law e0' w0 u1 l2 n2).calls (W := W) (vals := [v0, v1, v2]) Try.func4 rfl rfl (fun _ _ _ h => by cases h) ⟨rfl, fun i h1 h2 => by
    match i with
    | 0 => exact rep0
    | 1 => exact rep1
    | 2 => exact rep2⟩
  refine hcall.mono fun e W' ⟨he, hg⟩ => ?_
  exact ⟨_, he, post_true laid (by kernel_rfl) rfl (tb := 4) (by kernel_rfl) (by kernel_rfl) hW' rfl hg⟩

theorem over : Rows.machineBodiesRow.holds Try.pinned (OpenSpec.ofChange Rows.machineBodiesSpec) :=
  OpenClaim.holds_of_wide 4 Try.f4 rfl rfl rfl rfl rfl rfl rfl ⟨rfl, rfl, rfl, rfl, rfl⟩ rfl rfl rfl rfl rfl (by kernel_rfl) Try.func4 (by kernel_rfl)
    (of_decide_eq_true (by kernel_rfl)) (by unfold Func.isWrapper; first | (rw [if_pos (by decide +kernel)]; kernel_rfl) | (rw [if_neg (by decide +kernel)]; exact ⟨rfl, rfl⟩))
    (fun os started H enc _ => lifted os started H enc)

theorem proved : Rows.MachineBodiesSaid :=
  over
#print axioms proved
end Go.Proofs.Ytcjpfafmaecgiaa.machineBodies
