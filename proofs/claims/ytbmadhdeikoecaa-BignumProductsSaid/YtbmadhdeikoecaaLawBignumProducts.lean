/- BignumProducts: for every argument the law returns true. No condition. -/
import Derived.Test.YtbmadhdeikoecaaRows
import Derived.Test.YtbmadhdeikoecaaBnAll4
import Derived.Test.YtbmadhdeikoecaaEvAll4
set_option linter.unusedSimpArgs false
set_option linter.unusedVariables false

set_option maxRecDepth 100000
namespace Go.Proofs.Ytbmadhdeikoecaa.bignumProducts
open Go Go.Ev Go.Proofs.Bn
open Go.ChangeShapes Go.WideShapes Go.ChangeAt Go.RowKit

theorem own : ownKnob Try.prog.godebug = none := by kernel_rfl
theorem laid : laidOutB Try.prog = true := by kernel_rfl

theorem if_fst {c : Bool} {x y : List Int × Int} {k : Nat} (h1 : x.1.length ≤ k) (h2 : c = false → y.1.length ≤ k) : (if c = true then x else y).1.length ≤ k := by
  split
  · exact h1
  · next h => exact h2 (by simpa using h)

theorem mul_len (m n : Nat) : (Bn.Mul m n).1.length ≤ 1024 := by
  unfold Bn.Mul
  refine if_fst (Nat.zero_le _) fun h => ?_
  refine small_len ?_
  simp at h
  exact h.2

theorem div_len (m n : Nat) : (DivN m n).1.length ≤ 1024 ∧ (DivN m n).2.1.length ≤ 1024 := by
  unfold DivN
  split
  · exact ⟨Nat.zero_le _, Nat.zero_le _⟩
  · next h =>
    have hm := small_len (n := m) (by simp at h; exact h.1)
    split
    · exact ⟨Nat.zero_le _, Nat.zero_le _⟩
    · exact ⟨Nat.le_trans (dig_mono (Nat.div_le_self m n)) hm, Nat.le_trans (dig_mono (Nat.mod_le m n)) hm⟩

theorem law (a : List Int) (wa : ∀ x, x ∈ a → inR .u32 x) (na : a.length * 4 ≤ 140737488351232) (b : List Int) (wb : ∀ x, x ∈ b → inR .u32 x) (nb : b.length * 4 ≤ 140737488351232) :
    PureTo Try.prog 9 [.sl 1 (.ints .u32 a) false, .sl 1 (.ints .u32 b) false] (.v (.bool true)) := by
  have ha := words_of wa
  have la := len_of na
  have hb := words_of wb
  have lb := len_of nb
  have h1 := mul_len (nat a) (nat b)
  have h2 := div_len (nat a) (nat b)
  have hl : 1024 < lim := by unfold lim; omega
  have la2 : a.length ≤ lim4 := by omega
  have lb2 : b.length ≤ lim4 := by omega
  have la3 := lim4_lt la2
  have lb3 := lim4_lt lb2
  exact productsF1 a b ⟨la2, lb2, ha, hb, la3, lb3, ha, hb, la2, lb2, la2, lb2, ha, hb, la2, lb2, ha, hb, la2, lb2, by simp, by omega, by simp, by simp, by omega, by simp, by omega, by simp, trivial⟩

theorem lifted (os : Os) (started : os.Started) (H : Type) (enc : TypeId × Value → H) :
    ReturnsInHanded {} Try.checked os 9 .any (Rows.bignumProductsSpec.pre6 enc Try.prog Try.f9 Rows.bignumProductsRow.domain false) (Rows.bignumProductsSpec.post enc Try.prog Try.f9 false true false false) := by
  refine returnsInHanded_of_change_sized (C := Try.checked) own started (by kernel_rfl) Try.func9
    (ChangeSpec.witness6 (enc := enc) (C := Try.checked) false ⟨#[], #[.slice none 0 0, .slice none 0 0], []⟩ 8 (by kernel_rfl) (by kernel_rfl) (by kernel_rfl) (by kernel_rfl)) ?_
  intro W base args ds gs before hval0 hW hcnd hsz0 _
  have hval : ∀ (j : Nat) t v, Try.f9.params[j]? = some t → args[j]? = some v → Value.okWide Try.prog W .any base t v := hval0
  have hW' := hW
  obtain ⟨p, q, hA0, hV, rfl, hfz, hnd⟩ := hW
  obtain ⟨rfl, rfl⟩ := trodVars_none (hV : DataW.TrodVars enc Try.prog W (fun _ => true) [] gs q)
  have hsz : (DataW.weightsEach Try.prog Try.f9.params.toList ds).all (· ≤ reachBytes) = true := by
    have h := hsz0
    rw [List.append_nil] at h
    exact h
  have hA : DataW.TrodAll enc Try.prog W 0 (fun _ => true) true Try.f9.params.toList args.toList ds p := hA0
  rw [Try.params9] at hA hval
  obtain ⟨v0, vs0, d0, ds0, p0, q0, hargs, rfl, rfl, h0, r0⟩ := trodAll_cons hA
  obtain ⟨v1, vs1, d1, ds1, p1, q1, rfl, rfl, rfl, h1, r1⟩ := trodAll_cons r0
  obtain ⟨rfl, rfl, rfl⟩ := trodAll_nil r1
  obtain rfl : args = #[v0, v1] := by cases args; simp_all
  obtain ⟨l0, rep0, w0, e0⟩ := read_ints (by kernel_rfl : Try.prog.underlying 23 = some (.slice 22)) (by kernel_rfl : Try.prog.underlying 22 = some (.int .u32)) (by kernel_rfl) (hval 0 23 v0 rfl rfl) h0
  have n0 := ints_len (j := 0) (b := 4) hsz (by kernel_rfl) rfl (by kernel_rfl : Try.prog.underlying 23 = some (.slice 22)) (by kernel_rfl) e0
  obtain ⟨l1, rep1, w1, e1⟩ := read_ints (by kernel_rfl : Try.prog.underlying 23 = some (.slice 22)) (by kernel_rfl : Try.prog.underlying 22 = some (.int .u32)) (by kernel_rfl) (hval 1 23 v1 rfl rfl) h1
  have n1 := ints_len (j := 1) (b := 4) hsz (by kernel_rfl) rfl (by kernel_rfl : Try.prog.underlying 23 = some (.slice 22)) (by kernel_rfl) e1
  have hcall := (law l0 w0 n0 l1 w1 n1).calls (W := W) (vals := [v0, v1]) Try.func9 rfl rfl ⟨rfl, fun i h1 h2 => by
    match i with
    | 0 => exact rep0
    | 1 => exact rep1⟩
  refine hcall.mono fun e W' ⟨he, hg⟩ => ?_
  exact ⟨_, he, post_true laid (by kernel_rfl) rfl (tb := 4) (by kernel_rfl) (by kernel_rfl) hW' rfl hg⟩

theorem over : Rows.bignumProductsRow.holds Try.pinned (OpenSpec.ofChange Rows.bignumProductsSpec) :=
  OpenClaim.holds_of_wide 9 Try.f9 rfl rfl rfl rfl rfl rfl rfl ⟨rfl, rfl, rfl, rfl, rfl⟩ rfl rfl rfl rfl rfl (by kernel_rfl) Try.func9 (by kernel_rfl)
    (of_decide_eq_true (by kernel_rfl)) (by unfold Func.isWrapper; first | (rw [if_pos (by decide +kernel)]; kernel_rfl) | (rw [if_neg (by decide +kernel)]; exact ⟨rfl, rfl⟩))
    (fun os started H enc _ => lifted os started H enc)

theorem proved : Rows.BignumProductsSaid :=
  over
#print axioms proved
end Go.Proofs.Ytbmadhdeikoecaa.bignumProducts
