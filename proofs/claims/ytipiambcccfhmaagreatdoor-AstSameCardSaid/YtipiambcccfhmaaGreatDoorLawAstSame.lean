/- AstSame: for every argument the law returns true; its card. -/
import Derived.Test.YtipiambcccfhmaaGreatDoorCards
import Derived.Test.YtipiambcccfhmaaGreatDoorTie
import Derived.Test.YtipiambcccfhmaaGreatDoorAsAll1
import Derived.Test.YtipiambcccfhmaaGreatDoorEvAll4
import Derived.Deep.DeepHandedRow
import Derived.Test.YtipiambcccfhmaaGreatDoorAsAll4
import Derived.Test.YtipiambcccfhmaaGreatDoorAsAll2
set_option linter.unusedSimpArgs false
set_option linter.unusedVariables false
set_option maxRecDepth 100000
namespace Go.Proofs.YtipiambcccfhmaaGreatDoor.astSame
open Go Go.Ev Go.Proofs.As
open Go.ChangeShapes Go.WideShapes Go.ChangeAt Go.RowKit

theorem own : ownKnob Tryz.prog.godebug = none := by kernel_rfl
theorem laid : laidOutB Tryz.prog = true := by kernel_rfl

theorem law [MX] (n : Nat) (a : NR) (ha : IsTree n (nR a)) (m : Nat) (b : NR) (hb : IsTree m (nR b)) : PureTo Tryz.prog 4 [nR a, nR b] (.v (.bool true)) :=
  same_law ha hb

theorem reads (os : Os) {H : Type} (enc : TypeId × Value → H) : ∃ places, DataW.whole enc Tryz.prog ((Go.Proofs.As.laidWorld os).forCall (fun _ _ => 0) ⟨#[], #[.agg #[.int .i64 0, .string ByteArray.empty, .string ByteArray.empty, .float .f64 0, .bool false, .slice none 0 0, .int .i64 0], .agg #[.int .i64 0, .string ByteArray.empty, .string ByteArray.empty, .float .f64 0, .bool false, .slice none 0 0, .int .i64 0]], []⟩).memory Tryz.f4.params.toList Rows.astSameSpec.vars false (#[.agg #[.int .i64 0, .string ByteArray.empty, .string ByteArray.empty, .float .f64 0, .bool false, .slice none 0 0, .int .i64 0], .agg #[.int .i64 0, .string ByteArray.empty, .string ByteArray.empty, .float .f64 0, .bool false, .slice none 0 0, .int .i64 0]] : Array Value).toList 8 = some ([.agg [.lit (.int .i64 0), .lit (.string []), .lit (.string []), .lit (.float .f64 0), .lit (.bool false), .nil, .lit (.int .i64 0)], .agg [.lit (.int .i64 0), .lit (.string []), .lit (.string []), .lit (.float .f64 0), .lit (.bool false), .nil, .lit (.int .i64 0)]], [], places) :=
  ⟨[], by kernel_rfl⟩

theorem lifted (os : Os) (started : os.Started) (H : Type) (enc : TypeId × Value → H) (F : Stop.Interp) :
    ReturnsInHanded {} Tryz.checked os 4 .any ((OpenSpec.ofChange Rows.astSameSpec).preRow enc Tryz.prog Tryz.f4 Rows.astSameRow.domain false Rows.astSameRow.laid) (((OpenSpec.ofChange Rows.astSameSpec).at F).post enc Tryz.prog Tryz.f4 false true false false) := by
  obtain ⟨places, hx⟩ := reads os enc
  refine returnsInHanded_of_row (C := Tryz.checked) (s := (OpenSpec.ofChange Rows.astSameSpec)) own started (by kernel_rfl) Tryz.func4
    (witness_row_sh (enc := enc) (C := Tryz.checked) false (Go.Proofs.As.laidWorld os) #[.agg #[.int .i64 0, .string ByteArray.empty, .string ByteArray.empty, .float .f64 0, .bool false, .slice none 0 0, .int .i64 0], .agg #[.int .i64 0, .string ByteArray.empty, .string ByteArray.empty, .float .f64 0, .bool false, .slice none 0 0, .int .i64 0]] (World.laidAll_os _ _ _) (Go.Proofs.As.laid_shaped os _) (by kernel_rfl)
      (OpenSpec.preRow_of_cond 8 hx (by kernel_rfl) (fun k hk => by cases hk) (by kernel_rfl) (Go.Proofs.As.laid_met os _))) ?_
  intro W base args ds gs before hval0 hW _ hcond hsz0 hL hsh _
  have hval : ∀ (j : Nat) t v, Tryz.f4.params[j]? = some t → args[j]? = some v → Value.okWide Tryz.prog W .any base t v := hval0
  have hW' : DataW.Whole enc Tryz.prog Tryz.f4.params.toList Rows.astSameSpec.vars false W args.toList ds gs before := hW
  obtain ⟨m, hm⟩ := Go.Proofs.As.mx_shape hsh
  letI mxi : Go.Proofs.As.MX := ⟨m⟩
  have hgl : GlobW W := Go.Proofs.As.globWX hL hm
  obtain ⟨p, q, hA0, hV, rfl, hfz, hnd⟩ := hW
  obtain ⟨rfl, rfl⟩ := trodVars_none (hV : DataW.TrodVars enc Tryz.prog W (fun _ => true) [] gs q)
  have hsz : (DataW.weightsEach Tryz.prog Tryz.f4.params.toList ds).all (· ≤ reachBytes) = true := by
    have h := hsz0
    rw [List.append_nil] at h
    exact h
  have hA : DataW.TrodAll enc Tryz.prog W 0 (fun _ => true) true Tryz.f4.params.toList args.toList ds p := hA0
  rw [Tryz.params4] at hA hval
  obtain ⟨v0, vs0, d0, ds0, p0, q0, hargs, rfl, rfl, h0, r0⟩ := trodAll_cons hA
  obtain ⟨v1, vs1, d1, ds1, p1, q1, rfl, rfl, rfl, h1, r1⟩ := trodAll_cons r0
  obtain ⟨rfl, rfl, rfl⟩ := trodAll_nil r1
  obtain rfl : args = #[v0, v1] := by cases args; simp_all
  obtain ⟨n0, x0, w0, rep0⟩ := Go.Proofs.As.read_tree (hval 0 25 v0 rfl rfl) h0
  obtain ⟨n1, x1, w1, rep1⟩ := Go.Proofs.As.read_tree (hval 1 25 v1 rfl rfl) h1
  have hcall := (law n0 x0 w0 n1 x1 w1).calls (W := W) (vals := [v0, v1]) Tryz.func4 rfl rfl hgl ⟨rfl, fun i h1 h2 => by
    match i with
    | 0 => exact rep0
    | 1 => exact rep1⟩
  refine hcall.mono fun e W' ⟨he, hg⟩ => ?_
  exact ⟨_, he, post_true (s := Rows.astSameSpec) laid (by kernel_rfl) rfl (tb := 4) (by kernel_rfl) (by kernel_rfl) hW' rfl hg⟩

theorem said : Rows.AstSameSaid :=
  OpenClaim.holds_of_cond 4 Tryz.f4 rfl rfl rfl rfl rfl rfl rfl ⟨rfl, rfl, rfl, rfl, rfl⟩ rfl rfl rfl rfl rfl (by kernel_rfl) Tryz.func4 (by kernel_rfl)
    (of_decide_eq_true (by kernel_rfl)) (by unfold Func.isWrapper; first | (rw [if_pos (by decide +kernel)]; kernel_rfl) | (rw [if_neg (by decide +kernel)]; exact ⟨rfl, rfl⟩))
    (fun os started H enc _ F => by rw [OpenClaim.pre_eq_preRow]; exact lifted os started H enc F)

theorem plain (f : FuncId) (fn : Func) (hf : Tryz.pinned.checked.prog.funcNamed "quill/quilllaw07.AstSame" = some f) (hfn : Tryz.pinned.checked.prog.funcs[f]? = some fn) :
    true = Tryz.pinned.checked.prog.looks [] ∧ ∀ (j : Nat) t, fn.params[j]? = some t → Tryz.pinned.checked.prog.wantsStandIn t = false := by
  obtain rfl : f = 4 := Option.some.inj ((show Tryz.prog.funcNamed "quill/quilllaw07.AstSame" = some 4 by kernel_rfl).symm.trans hf) |>.symm
  obtain rfl : fn = Tryz.f4 := (Option.some.inj (Tryz.func4.symm.trans hfn)).symm
  refine ⟨by kernel_rfl, fun j t ht => ?_⟩
  rw [Tryz.params4] at ht
  have hm : t ∈ [25, 25] := by simpa using Array.mem_of_getElem? ht
  have hall : ([25, 25].all fun u => !Tryz.prog.wantsStandIn u) = true := by kernel_rfl
  exact (show Tryz.prog.wantsStandIn t = false by simpa using List.all_eq_true.1 hall t hm)

theorem proved : Rows.AstSameCardSaid :=
  Claim7.holds_tied_plain_at .later [] _ _ _ _ said (fun _ h => by cases h) (by kernel_rfl) (fun _ h => by cases h) astSame_row_tie rfl ⟨rfl, rfl⟩ (by kernel_rfl) rfl plain (by kernel_rfl)
#print axioms proved
end Go.Proofs.YtipiambcccfhmaaGreatDoor.astSame
