/- BignumShifts: for every argument the law returns true. No condition. -/
import Derived.Test.YtbmadhdeikoecaaRows
import Derived.Test.YtbmadhdeikoecaaBnAll3
import Derived.Test.YtbmadhdeikoecaaEvAll4
set_option linter.unusedSimpArgs false
set_option linter.unusedVariables false

set_option maxRecDepth 100000
namespace Go.Proofs.Ytbmadhdeikoecaa.bignumShifts
open Go Go.Ev Go.Proofs.Bn
open Go.ChangeShapes Go.WideShapes Go.ChangeAt Go.RowKit

theorem own : ownKnob Try.prog.godebug = none := by kernel_rfl
theorem laid : laidOutB Try.prog = true := by kernel_rfl

theorem law (a : List Int) (wa : ∀ x, x ∈ a → inR .u32 x) (na : a.length * 4 ≤ 140737488351232) (n : Int) (wn : inR .i64 n) :
    PureTo Try.prog 6 [.sl 1 (.ints .u32 a) false, .v (.int .i64 n)] (.v (.bool true)) := by
  have ha := words_of wa
  have la := len_of na
  simp only [inR] at wn
  have h1 := shlN_len (nat a) n
  have h2 := shrN_len (nat a) n
  have h3 := norm_length_le a
  rw [norm_eq ha] at h3
  have hl : 1024 < lim := by unfold lim; omega
  have h4 : (ShrN (nat a) n).1.length < lim := lim4_lt (by omega)
  have h5 : (ShlN (nat a) n).1.length < lim := by omega
  cases hb : (ShrN (nat a) n).2 with
  | true => exact shiftsF1 a n ⟨by omega, ha, by omega, ha, by omega, by omega, ha, by omega, by omega, hb, ha, by omega, hb, by simp, h5, by simp, by simp, h4, trivial⟩
  | false => exact shiftsF4 a n ⟨by omega, ha, by omega, ha, by omega, by omega, ha, by omega, by omega, hb, ha, by omega, hb, by simp, h5, by simp, by simp, h4, trivial⟩

theorem lifted (os : Os) (started : os.Started) (H : Type) (enc : TypeId × Value → H) :
    ReturnsInHanded {} Try.checked os 6 .any (Rows.bignumShiftsSpec.pre6 enc Try.prog Try.f6 Rows.bignumShiftsRow.domain false) (Rows.bignumShiftsSpec.post enc Try.prog Try.f6 false true false false) := by
  refine returnsInHanded_of_change_sized (C := Try.checked) own started (by kernel_rfl) Try.func6
    (ChangeSpec.witness6 (enc := enc) (C := Try.checked) false ⟨#[], #[.slice none 0 0, .int .i64 0], []⟩ 8 (by kernel_rfl) (by kernel_rfl) (by kernel_rfl) (by kernel_rfl)) ?_
  intro W base args ds gs before hval0 hW hcnd hsz0 _
  have hval : ∀ (j : Nat) t v, Try.f6.params[j]? = some t → args[j]? = some v → Value.okWide Try.prog W .any base t v := hval0
  have hW' := hW
  obtain ⟨p, q, hA0, hV, rfl, hfz, hnd⟩ := hW
  obtain ⟨rfl, rfl⟩ := trodVars_none (hV : DataW.TrodVars enc Try.prog W (fun _ => true) [] gs q)
  have hsz : (DataW.weightsEach Try.prog Try.f6.params.toList ds).all (· ≤ reachBytes) = true := by
    have h := hsz0
    rw [List.append_nil] at h
    exact h
  have hA : DataW.TrodAll enc Try.prog W 0 (fun _ => true) true Try.f6.params.toList args.toList ds p := hA0
  rw [Try.params6] at hA hval
  obtain ⟨v0, vs0, d0, ds0, p0, q0, hargs, rfl, rfl, h0, r0⟩ := trodAll_cons hA
  obtain ⟨v1, vs1, d1, ds1, p1, q1, rfl, rfl, rfl, h1, r1⟩ := trodAll_cons r0
  obtain ⟨rfl, rfl, rfl⟩ := trodAll_nil r1
  obtain rfl : args = #[v0, v1] := by cases args; simp_all
  obtain ⟨l0, rep0, w0, e0⟩ := read_ints (by kernel_rfl : Try.prog.underlying 23 = some (.slice 22)) (by kernel_rfl : Try.prog.underlying 22 = some (.int .u32)) (by kernel_rfl) (hval 0 23 v0 rfl rfl) h0
  have n0 := ints_len (j := 0) (b := 4) hsz (by kernel_rfl) rfl (by kernel_rfl : Try.prog.underlying 23 = some (.slice 22)) (by kernel_rfl) e0
  obtain ⟨x1, rfl, e1, w1⟩ := read_int (by kernel_rfl : Try.prog.underlying 3 = some (.int .i64)) (hval 1 3 v1 rfl rfl) h1
  have hcall := (law l0 w0 n0 x1 w1).calls (W := W) (vals := [v0, .int .i64 x1]) Try.func6 rfl rfl ⟨rfl, fun i h1 h2 => by
    match i with
    | 0 => exact rep0
    | 1 => exact .v _ trivial⟩
  refine hcall.mono fun e W' ⟨he, hg⟩ => ?_
  exact ⟨_, he, post_true laid (by kernel_rfl) rfl (tb := 4) (by kernel_rfl) (by kernel_rfl) hW' rfl hg⟩

theorem over : Rows.bignumShiftsRow.holds Try.pinned (OpenSpec.ofChange Rows.bignumShiftsSpec) :=
  OpenClaim.holds_of_wide 6 Try.f6 rfl rfl rfl rfl rfl rfl rfl ⟨rfl, rfl, rfl, rfl, rfl⟩ rfl rfl rfl rfl rfl (by kernel_rfl) Try.func6 (by kernel_rfl)
    (of_decide_eq_true (by kernel_rfl)) (by unfold Func.isWrapper; first | (rw [if_pos (by decide +kernel)]; kernel_rfl) | (rw [if_neg (by decide +kernel)]; exact ⟨rfl, rfl⟩))
    (fun os started H enc _ => lifted os started H enc)

theorem proved : Rows.BignumShiftsSaid :=
  over
#print axioms proved
end Go.Proofs.Ytbmadhdeikoecaa.bignumShifts
