/- BignumTexts: for every argument the law returns true. No condition. -/
import Derived.Test.YtbmadhdeikoecaaRows
import Derived.Test.YtbmadhdeikoecaaBnAll4
import Derived.Test.YtbmadhdeikoecaaEvAll4
set_option linter.unusedSimpArgs false
set_option linter.unusedVariables false

set_option maxRecDepth 100000
namespace Go.Proofs.Ytbmadhdeikoecaa.bignumTexts
open Go Go.Ev Go.Proofs.Bn
open Go.ChangeShapes Go.WideShapes Go.ChangeAt Go.RowKit

theorem own : ownKnob Try.prog.godebug = none := by kernel_rfl
theorem laid : laidOutB Try.prog = true := by kernel_rfl

theorem prs_len (s : ByteArray) (r : Int) : (Prs s r).1.length ≤ 1024 := by
  unfold Prs
  (repeat' split) <;> first | exact Nat.zero_le _ | skip
  next h => exact small_len (by simpa using h)

theorem law (a : List Int) (wa : ∀ x, x ∈ a → inR .u32 x) (na : a.length * 4 ≤ 140737488351232) (s : ByteArray) (ns : s.size ≤ 140737488351232) (n : Int) (wn : inR .i64 n) :
    PureTo Try.prog 8 [.sl 1 (.ints .u32 a) false, .v (.string s), .v (.int .i64 n)] (.v (.bool true)) := by
  have ha := words_of wa
  have la := len_of na
  have h1 := prs_len s n
  have hl : 1024 < lim := by unfold lim; omega
  exact textsF1 a s n ⟨by omega, ha, by omega, ha, by omega, by omega, by omega, by simp, by simp, by simp, by omega, by simp, trivial⟩

theorem lifted (os : Os) (started : os.Started) (H : Type) (enc : TypeId × Value → H) :
    ReturnsInHanded {} Try.checked os 8 .any (Rows.bignumTextsSpec.pre6 enc Try.prog Try.f8 Rows.bignumTextsRow.domain false) (Rows.bignumTextsSpec.post enc Try.prog Try.f8 false true false false) := by
  refine returnsInHanded_of_change_sized (C := Try.checked) own started (by kernel_rfl) Try.func8
    (ChangeSpec.witness6 (enc := enc) (C := Try.checked) false ⟨#[], #[.slice none 0 0, .string ByteArray.empty, .int .i64 0], []⟩ 8 (by kernel_rfl) (by kernel_rfl) (by kernel_rfl) (by kernel_rfl)) ?_
  intro W base args ds gs before hval0 hW hcnd hsz0 _
  have hval : ∀ (j : Nat) t v, Try.f8.params[j]? = some t → args[j]? = some v → Value.okWide Try.prog W .any base t v := hval0
  have hW' := hW
  obtain ⟨p, q, hA0, hV, rfl, hfz, hnd⟩ := hW
  obtain ⟨rfl, rfl⟩ := trodVars_none (hV : DataW.TrodVars enc Try.prog W (fun _ => true) [] gs q)
  have hsz : (DataW.weightsEach Try.prog Try.f8.params.toList ds).all (· ≤ reachBytes) = true := by
    have h := hsz0
    rw [List.append_nil] at h
    exact h
  have hA : DataW.TrodAll enc Try.prog W 0 (fun _ => true) true Try.f8.params.toList args.toList ds p := hA0
  rw [Try.params8] at hA hval
  obtain ⟨v0, vs0, d0, ds0, p0, q0, hargs, rfl, rfl, h0, r0⟩ := trodAll_cons hA
  obtain ⟨v1, vs1, d1, ds1, p1, q1, rfl, rfl, rfl, h1, r1⟩ := trodAll_cons r0
  obtain ⟨v2, vs2, d2, ds2, p2, q2, rfl, rfl, rfl, h2, r2⟩ := trodAll_cons r1
  obtain ⟨rfl, rfl, rfl⟩ := trodAll_nil r2
  obtain rfl : args = #[v0, v1, v2] := by cases args; simp_all
  obtain ⟨l0, rep0, w0, e0⟩ := read_ints (by kernel_rfl : Try.prog.underlying 23 = some (.slice 22)) (by kernel_rfl : Try.prog.underlying 22 = some (.int .u32)) (by kernel_rfl) (hval 0 23 v0 rfl rfl) h0
  have n0 := ints_len (j := 0) (b := 4) hsz (by kernel_rfl) rfl (by kernel_rfl : Try.prog.underlying 23 = some (.slice 22)) (by kernel_rfl) e0
  obtain ⟨x1, rfl, e1, w1⟩ := read_string (by kernel_rfl : Try.prog.underlying 9 = some .string) (hval 1 9 v1 rfl rfl) h1
  have n1 := string_len (t := 9) (j := 1) hsz (by kernel_rfl) rfl e1
  obtain ⟨x2, rfl, e2, w2⟩ := read_int (by kernel_rfl : Try.prog.underlying 3 = some (.int .i64)) (hval 2 3 v2 rfl rfl) h2
  have hcall := (law l0 w0 n0 x1 n1 x2 w2).calls (W := W) (vals := [v0, .string x1, .int .i64 x2]) Try.func8 rfl rfl ⟨rfl, fun i h1 h2 => by
    match i with
    | 0 => exact rep0
    | 1 => exact .v _ trivial
    | 2 => exact .v _ trivial⟩
  refine hcall.mono fun e W' ⟨he, hg⟩ => ?_
  exact ⟨_, he, post_true laid (by kernel_rfl) rfl (tb := 4) (by kernel_rfl) (by kernel_rfl) hW' rfl hg⟩

theorem over : Rows.bignumTextsRow.holds Try.pinned (OpenSpec.ofChange Rows.bignumTextsSpec) :=
  OpenClaim.holds_of_wide 8 Try.f8 rfl rfl rfl rfl rfl rfl rfl ⟨rfl, rfl, rfl, rfl, rfl⟩ rfl rfl rfl rfl rfl (by kernel_rfl) Try.func8 (by kernel_rfl)
    (of_decide_eq_true (by kernel_rfl)) (by unfold Func.isWrapper; first | (rw [if_pos (by decide +kernel)]; kernel_rfl) | (rw [if_neg (by decide +kernel)]; exact ⟨rfl, rfl⟩))
    (fun os started H enc _ => lifted os started H enc)

theorem proved : Rows.BignumTextsSaid :=
  over
#print axioms proved
end Go.Proofs.Ytbmadhdeikoecaa.bignumTexts
