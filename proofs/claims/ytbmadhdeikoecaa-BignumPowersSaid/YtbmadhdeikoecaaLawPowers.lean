/- BignumPowers: for every base and every exponent the law returns true. No condition. -/
import Derived.Test.YtbmadhdeikoecaaRows
import Derived.Test.YtbmadhdeikoecaaBnI
import Derived.Test.YtbmadhdeikoecaaEvT
set_option maxRecDepth 100000
namespace Go.Proofs.Ytbmadhdeikoecaa.bignumPowers
open Go Go.Ev Go.Proofs.Bn
open Go.ChangeShapes Go.WideShapes Go.ChangeAt Go.RowKit

theorem own : ownKnob Try.prog.godebug = none := by kernel_rfl
theorem laid : laidOutB Try.prog = true := by kernel_rfl

theorem law (x n : Int) (hx : 0 ≤ x ∧ x < 4294967296) (hn : n ≤ 9223372036854775807) : PureTo Try.prog 3 [.v (.int .u32 x), .v (.int .i64 n)] (.v (.bool true)) :=
  evFn_pure hm sok7 (fn := Try.f3) rfl rfl (ti := false) (hs := [CHint.ops 3 [(2, Hint.b true), (6, Hint.b true)]]) (c := [0 ≤ x ∧ x < 4294967296, n ≤ 9223372036854775807, 0 ≤ x ∧ x < 4294967296, n ≤ 9223372036854775807, decide ((Bn.Pow x.toNat n).fst = (Bn.Pow x.toNat n).fst) = true, (Bn.Pow x.toNat n).fst.length < lim, ((Bn.Pow x.toNat n).snd == (Bn.Pow x.toNat n).snd) = true]) (by kernel_rfl)
    ⟨hx, hn, hx, hn, by simp, by have := pow_len x.toNat n; unfold lim; omega, by simp, trivial⟩

theorem lifted (os : Os) (started : os.Started) (H : Type) (enc : TypeId × Value → H) :
    ReturnsInHanded {} Try.checked os 3 .any (Rows.bignumPowersSpec.pre6 enc Try.prog Try.f3 Rows.bignumPowersRow.domain false) (Rows.bignumPowersSpec.post enc Try.prog Try.f3 false true false false) := by
  refine returnsInHanded_of_change (C := Try.checked) own started (by kernel_rfl) Try.func3
    (ChangeSpec.witness6 (enc := enc) (C := Try.checked) false ⟨#[], #[.int .u32 0, .int .i64 0], []⟩ 8 (by kernel_rfl) (by kernel_rfl) (by kernel_rfl) (by kernel_rfl)) ?_
  intro W base args ds gs before hval0 hW hcnd _
  have hval : ∀ (j : Nat) t v, Try.f3.params[j]? = some t → args[j]? = some v → Value.okWide Try.prog W .any base t v := hval0
  have hW' := hW
  obtain ⟨p, q, hA0, hV, rfl, hfz, hnd⟩ := hW
  have hA : DataW.TrodAll enc Try.prog W 0 (fun _ => true) true Try.f3.params.toList args.toList ds p := hA0
  rw [Try.params3] at hA hval
  obtain ⟨v0, vs0, d0, ds0, p0, q0, hargs, rfl, rfl, h0, r0⟩ := trodAll_cons hA
  obtain ⟨v1, vs1, d1, ds1, p1, q1, rfl, rfl, rfl, h1, r1⟩ := trodAll_cons r0
  obtain ⟨rfl, rfl, rfl⟩ := trodAll_nil r1
  obtain rfl : args = #[v0, v1] := by cases args; simp_all
  obtain ⟨x, rfl, e0, w0⟩ := read_int (by kernel_rfl : Try.prog.underlying 22 = some (.int .u32)) (hval 0 22 v0 rfl rfl) h0
  obtain ⟨n, rfl, e1, w1⟩ := read_int (by kernel_rfl : Try.prog.underlying 3 = some (.int .i64)) (hval 1 3 v1 rfl rfl) h1
  have hcall := (law x n ⟨w0.1, by have := w0.2; omega⟩ w1.2).calls (W := W) (vals := [.int .u32 x, .int .i64 n]) Try.func3 rfl rfl ⟨rfl, fun i h1 h2 => by
    match i with
    | 0 => exact .v _ trivial
    | 1 => exact .v _ trivial⟩
  refine hcall.mono fun e W' ⟨he, hg⟩ => ?_
  exact ⟨_, he, post_true laid (by kernel_rfl) rfl (tb := 4) (by kernel_rfl) (by kernel_rfl) hW' rfl hg⟩

theorem over : Rows.bignumPowersRow.holds Try.pinned (OpenSpec.ofChange Rows.bignumPowersSpec) :=
  OpenClaim.holds_of_wide 3 Try.f3 rfl rfl rfl rfl rfl rfl rfl ⟨rfl, rfl, rfl, rfl, rfl⟩ rfl rfl rfl rfl rfl (by kernel_rfl) Try.func3 (by kernel_rfl)
    (of_decide_eq_true (by kernel_rfl)) (by unfold Func.isWrapper; first | (rw [if_pos (by decide +kernel)]; kernel_rfl) | (rw [if_neg (by decide +kernel)]; exact ⟨rfl, rfl⟩))
    (fun os started H enc _ => lifted os started H enc)

theorem proved : Rows.BignumPowersSaid :=
  over
#print axioms proved
end Go.Proofs.Ytbmadhdeikoecaa.bignumPowers
