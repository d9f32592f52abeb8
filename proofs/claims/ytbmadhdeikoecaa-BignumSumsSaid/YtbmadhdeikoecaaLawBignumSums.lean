/- BignumSums: for every argument the law returns true. No condition. -/
import Derived.Test.YtbmadhdeikoecaaRows
import Derived.Test.YtbmadhdeikoecaaBnAll2
import Derived.Test.YtbmadhdeikoecaaEvAll3
set_option linter.unusedSimpArgs false
set_option linter.unusedVariables false

set_option maxRecDepth 100000
namespace Go.Proofs.Ytbmadhdeikoecaa.bignumSums
open Go Go.Ev Go.Proofs.Bn
open Go.ChangeShapes Go.WideShapes Go.ChangeAt Go.RowKit

theorem own : ownKnob Try.prog.godebug = none := by kernel_rfl
theorem laid : laidOutB Try.prog = true := by kernel_rfl

theorem law (a : List Int) (wa : ∀ x, x ∈ a → inR .u32 x) (na : a.length * 4 ≤ 140737488351232) (b : List Int) (wb : ∀ x, x ∈ b → inR .u32 x) (nb : b.length * 4 ≤ 140737488351232) :
    PureTo Try.prog 5 [.sl 1 (.ints .u32 a) false, .sl 1 (.ints .u32 b) false] (.v (.bool true)) := by
  have ha := words_of wa
  have hb := words_of wb
  have la := len_of na
  have lb := len_of nb
  have la' : a.length < lim := lim4_lt (by omega)
  have lb' : b.length < lim := lim4_lt (by omega)
  have h1 := addN_len (nat a) (nat b)
  have h2 := subN_len (m := nat a) (n := nat b)
  have hl : 1024 < lim := by unfold lim; omega
  exact sumsF1 a b ⟨by omega, by omega, ha, hb, la', lb', ha, hb, by omega, by omega, by omega, by omega, ha, hb, by omega, by omega, ha, hb, by omega, by omega, by simp, by omega, by simp, by simp, by omega, by simp, trivial⟩

theorem lifted (os : Os) (started : os.Started) (H : Type) (enc : TypeId × Value → H) :
    ReturnsInHanded {} Try.checked os 5 .any (Rows.bignumSumsSpec.pre6 enc Try.prog Try.f5 Rows.bignumSumsRow.domain false) (Rows.bignumSumsSpec.post enc Try.prog Try.f5 false true false false) := by
  refine returnsInHanded_of_change_sized (C := Try.checked) own started (by kernel_rfl) Try.func5
    (ChangeSpec.witness6 (enc := enc) (C := Try.checked) false ⟨#[], #[.slice none 0 0, .slice none 0 0], []⟩ 8 (by kernel_rfl) (by kernel_rfl) (by kernel_rfl) (by kernel_rfl)) ?_
  intro W base args ds gs before hval0 hW hcnd hsz0 _
  have hval : ∀ (j : Nat) t v, Try.f5.params[j]? = some t → args[j]? = some v → Value.okWide Try.prog W .any base t v := hval0
  have hW' := hW
  obtain ⟨p, q, hA0, hV, rfl, hfz, hnd⟩ := hW
  obtain ⟨rfl, rfl⟩ := trodVars_none (hV : DataW.TrodVars enc Try.prog W (fun _ => true) [] gs q)
  have hsz : (DataW.weightsEach Try.prog Try.f5.params.toList ds).all (· ≤ reachBytes) = true := by
    have h := hsz0
    rw [List.append_nil] at h
    exact h
  have hA : DataW.TrodAll enc Try.prog W 0 (fun _ => true) true Try.f5.params.toList args.toList ds p := hA0
  rw [Try.params5] at hA hval
  obtain ⟨v0, vs0, d0, ds0, p0, q0, hargs, rfl, rfl, h0, r0⟩ := trodAll_cons hA
  obtain ⟨v1, vs1, d1, ds1, p1, q1, rfl, rfl, rfl, h1, r1⟩ := trodAll_cons r0
  obtain ⟨rfl, rfl, rfl⟩ := trodAll_nil r1
  obtain rfl : args = #[v0, v1] := by cases args; simp_all
  obtain ⟨l0, rep0, w0, e0⟩ := read_ints (by kernel_rfl : Try.prog.underlying 23 = some (.slice 22)) (by kernel_rfl : Try.prog.underlying 22 = some (.int .u32)) (by kernel_rfl) (hval 0 23 v0 rfl rfl) h0
  have n0 := ints_len (j := 0) (b := 4) hsz (by kernel_rfl) rfl (by kernel_rfl : Try.prog.underlying 23 = some (.slice 22)) (by kernel_rfl) e0
  obtain ⟨l1, rep1, w1, e1⟩ := read_ints (by kernel_rfl : Try.prog.underlying 23 = some (.slice 22)) (by kernel_rfl : Try.prog.underlying 22 = some (.int .u32)) (by kernel_rfl) (hval 1 23 v1 rfl rfl) h1
  have n1 := ints_len (j := 1) (b := 4) hsz (by kernel_rfl) rfl (by kernel_rfl : Try.prog.underlying 23 = some (.slice 22)) (by kernel_rfl) e1
  have hcall := (law l0 w0 n0 l1 w1 n1).calls (W := W) (vals := [v0, v1]) Try.func5 rfl rfl ⟨rfl, fun i h1 h2 => by
    match i with
    | 0 => exact rep0
    | 1 => exact rep1⟩
  refine hcall.mono fun e W' ⟨he, hg⟩ => ?_
  exact ⟨_, he, post_true laid (by kernel_rfl) rfl (tb := 4) (by kernel_rfl) (by kernel_rfl) hW' rfl hg⟩

theorem over : Rows.bignumSumsRow.holds Try.pinned (OpenSpec.ofChange Rows.bignumSumsSpec) :=
  OpenClaim.holds_of_wide 5 Try.f5 rfl rfl rfl rfl rfl rfl rfl ⟨rfl, rfl, rfl, rfl, rfl⟩ rfl rfl rfl rfl rfl (by kernel_rfl) Try.func5 (by kernel_rfl)
    (of_decide_eq_true (by kernel_rfl)) (by unfold Func.isWrapper; first | (rw [if_pos (by decide +kernel)]; kernel_rfl) | (rw [if_neg (by decide +kernel)]; exact ⟨rfl, rfl⟩))
    (fun os started H enc _ => lifted os started H enc)

theorem proved : Rows.BignumSumsSaid :=
  over
#print axioms proved
end Go.Proofs.Ytbmadhdeikoecaa.bignumSums
