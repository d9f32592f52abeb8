/- UstrLetters: for every argument of the second form the law returns true; its card. -/
import Derived.Test.YtnmhaemjffcjaaaDoorCards
import Derived.Test.YtnmhaemjffcjaaaDoorTie
import Derived.Test.YtnmhaemjffcjaaaDoorUsAll2
import Derived.Test.YtnmhaemjffcjaaaDoorEvAll3
import Derived.Deep.DeepHandedRow
import Derived.Test.YtnmhaemjffcjaaaDoorUsAll6
set_option linter.unusedSimpArgs false
set_option linter.unusedVariables false
set_option maxRecDepth 100000
namespace Go.Proofs.YtnmhaemjffcjaaaDoor.ustrLetters
open Go Go.Ev Go.Proofs.Us
open Go.ChangeShapes Go.WideShapes Go.ChangeAt Go.RowKit

theorem own : ownKnob Tryd.prog.godebug = none := by kernel_rfl
theorem laid : laidOutB Tryd.prog = true := by kernel_rfl

theorem law (s : ByteArray) (h : s.size + 1 ≤ 1048576) : PureTo Tryd.prog 9 [.v (.string s)] (.v (.bool true)) := by
  have hs : SM s := by unfold SM; omega
  have h := lawLet_pure s ⟨hs, hs, fun _ => ⟨hs, hs, trivial⟩, fun _ => ⟨hs, hs, trivial⟩, trivial⟩
  rw [show lawLet s = true by simp [lawLet]] at h
  exact h

theorem reads (os : Os) {H : Type} (enc : TypeId × Value → H) : ∃ places, DataW.whole enc Tryd.prog ((Go.Proofs.Us.laidWorld os).forCall (fun _ _ => 0) ⟨#[], #[.string ByteArray.empty], []⟩).memory Tryd.f9.params.toList Rows.ustrLettersSpec.vars false (#[.string ByteArray.empty] : Array Value).toList 8 = some ([.lit (.string [])], [], places) :=
  ⟨[], by kernel_rfl⟩

theorem lifted (os : Os) (started : os.Started) (H : Type) (enc : TypeId × Value → H) (F : Stop.Interp) :
    ReturnsInHanded {} Tryd.checked os 9 .any ((Rows.OpenSpec.upto Rows.ustrLettersSpec).preRow enc Tryd.prog Tryd.f9 Rows.ustrLettersUptoRow.domain false Rows.ustrLettersUptoRow.laid) (((Rows.OpenSpec.upto Rows.ustrLettersSpec).at F).post enc Tryd.prog Tryd.f9 false true false false) := by
  obtain ⟨places, hx⟩ := reads os enc
  refine returnsInHanded_of_row (C := Tryd.checked) (s := (Rows.OpenSpec.upto Rows.ustrLettersSpec)) own started (by kernel_rfl) Tryd.func9
    (witness_row_at (enc := enc) (C := Tryd.checked) false (Go.Proofs.Us.laidWorld os) #[.string ByteArray.empty] rfl (by kernel_rfl) (by kernel_rfl) (by kernel_rfl)
      (OpenSpec.preRow_of_cond 8 hx (by kernel_rfl) (fun k hk => by cases hk; kernel_rfl) (by kernel_rfl) (Go.Proofs.Us.laid_met os _))) ?_
  intro W base args ds gs before hval0 hW _ hcond hsz0 hL _ _
  have hval : ∀ (j : Nat) t v, Tryd.f9.params[j]? = some t → args[j]? = some v → Value.okWide Tryd.prog W .any base t v := hval0
  have hW' : DataW.Whole enc Tryd.prog Tryd.f9.params.toList Rows.ustrLettersSpec.vars false W args.toList ds gs before := hW
  have hgl := Go.Proofs.Us.globW hL
  obtain ⟨p, q, hA0, hV, rfl, hfz, hnd⟩ := hW
  obtain ⟨rfl, rfl⟩ := trodVars_none (hV : DataW.TrodVars enc Tryd.prog W (fun _ => true) [] gs q)
  have hsz : (DataW.weightsEach Tryd.prog Tryd.f9.params.toList ds).all (· ≤ reachBytes) = true := by
    have h := hsz0
    rw [List.append_nil] at h
    exact h
  have hA : DataW.TrodAll enc Tryd.prog W 0 (fun _ => true) true Tryd.f9.params.toList args.toList ds p := hA0
  rw [Tryd.params9] at hA hval
  obtain ⟨v0, vs0, d0, ds0, p0, q0, hargs, rfl, rfl, h0, r0⟩ := trodAll_cons hA
  obtain ⟨rfl, rfl, rfl⟩ := trodAll_nil r0
  obtain rfl : args = #[v0] := by cases args; simp_all
  obtain ⟨x0, rfl, e0, w0⟩ := read_string (by kernel_rfl : Tryd.prog.underlying 9 = some .string) (hval 0 9 v0 rfl rfl) h0
  have n0 := Go.Proofs.Us.small_string (hcond _ rfl) 0 rfl e0
  have hcall := (law x0 n0).calls (W := W) (vals := [.string x0]) Tryd.func9 rfl rfl hgl ⟨rfl, fun i h1 h2 => by
    match i with
    | 0 => exact .v _ trivial⟩
  refine hcall.mono fun e W' ⟨he, hg⟩ => ?_
  exact ⟨_, he, post_true (s := Rows.ustrLettersSpec) laid (by kernel_rfl) rfl (tb := 4) (by kernel_rfl) (by kernel_rfl) hW' rfl hg⟩

theorem said : Rows.UstrLettersUptoSaid :=
  OpenClaim.holds_of_cond 9 Tryd.f9 rfl rfl rfl rfl rfl rfl rfl ⟨rfl, rfl, rfl, rfl, rfl⟩ rfl rfl rfl rfl rfl (by kernel_rfl) Tryd.func9 (by kernel_rfl)
    (of_decide_eq_true (by kernel_rfl)) (by unfold Func.isWrapper; first | (rw [if_pos (by decide +kernel)]; kernel_rfl) | (rw [if_neg (by decide +kernel)]; exact ⟨rfl, rfl⟩))
    (fun os started H enc _ F => by rw [OpenClaim.pre_eq_preRow]; exact lifted os started H enc F)

theorem plain (f : FuncId) (fn : Func) (hf : Tryd.pinned.checked.prog.funcNamed "quill/quilllaw01.UstrLetters" = some f) (hfn : Tryd.pinned.checked.prog.funcs[f]? = some fn) :
    false = Tryd.pinned.checked.prog.looks [] ∧ ∀ (j : Nat) t, fn.params[j]? = some t → Tryd.pinned.checked.prog.wantsStandIn t = false := by
  obtain rfl : f = 9 := Option.some.inj ((show Tryd.prog.funcNamed "quill/quilllaw01.UstrLetters" = some 9 by kernel_rfl).symm.trans hf) |>.symm
  obtain rfl : fn = Tryd.f9 := (Option.some.inj (Tryd.func9.symm.trans hfn)).symm
  refine ⟨by kernel_rfl, fun j t ht => ?_⟩
  rw [Tryd.params9] at ht
  have hm : t ∈ [9] := by simpa using Array.mem_of_getElem? ht
  have hall : ([9].all fun u => !Tryd.prog.wantsStandIn u) = true := by kernel_rfl
  exact (show Tryd.prog.wantsStandIn t = false by simpa using List.all_eq_true.1 hall t hm)

theorem proved : Rows.UstrLettersUptoCardSaid :=
  Claim7.holds_tied_plain_at .later [] _ _ _ _ said (fun _ h => by cases h) (by kernel_rfl) (fun _ h => by cases h) ustrLettersUpto_row_tie rfl ⟨rfl, rfl⟩ (by kernel_rfl) rfl plain (by kernel_rfl)
#print axioms proved
end Go.Proofs.YtnmhaemjffcjaaaDoor.ustrLetters
