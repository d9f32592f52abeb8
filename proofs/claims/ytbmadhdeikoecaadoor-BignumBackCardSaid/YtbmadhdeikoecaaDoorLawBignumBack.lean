/- BignumBack: for every argument the law returns true; its card. -/
import Derived.Test.YtbmadhdeikoecaaDoorCards
import Derived.Test.YtbmadhdeikoecaaDoorTie
import Derived.Test.YtbmadhdeikoecaaDoorBfAll1
import Derived.Test.YtbmadhdeikoecaaDoorEvAll4
import Derived.Deep.DeepHandedRow
import Derived.Test.YtbmadhdeikoecaaDoorBfAll4
import Derived.Test.YtbmadhdeikoecaaDoorEvAll8
set_option linter.unusedSimpArgs false
set_option linter.unusedVariables false
set_option maxRecDepth 100000
namespace Go.Proofs.YtbmadhdeikoecaaDoor.bignumBack
open Go Go.Ev Go.Proofs.Bf
open Go.ChangeShapes Go.WideShapes Go.ChangeAt Go.RowKit

theorem own : ownKnob Tryd.prog.godebug = none := by kernel_rfl
theorem laid : laidOutB Tryd.prog = true := by kernel_rfl

theorem words_in {a : List Int} (h : ∀ x, x ∈ a → inR .u32 x) : Bn.Words a := fun x hx => by
  have := h x hx
  simp only [inR] at this
  omega
theorem pm_le (x : Nat) : pm x < 9007199254740992 := by
  unfold pm
  split
  · decide
  · have h1 := strip_is 53 (Go.Ev.sigM (rg x))
    have h2 := (sig_parts (rg x)).2.1
    have h3 := Nat.le_mul_of_pos_right (strip 53 (Go.Ev.sigM (rg x))).1 (Nat.two_pow_pos (strip 53 (Go.Ev.sigM (rg x))).2)
    have e53 : (2 : Nat) ^ 53 = 9007199254740992 := by decide
    omega
theorem partL_len (x : Nat) : (partL x).length ≤ 2 := by
  unfold partL
  split
  · exact dig_short (by have : (4294967296 : Nat) ^ 2 = 18446744073709551616 := by decide
                        have := pm_le x
                        omega)
  · exact Nat.zero_le _
theorem partL_words (x : Nat) : Bn.Words (partL x) := by
  unfold partL
  split
  · exact Bn.words_dig _
  · intro y hy; cases hy
theorem law (a : List Int) (wa : ∀ x, x ∈ a → inR .u32 x) (na : a.length * 4 ≤ 140737488351232) (r : Int) (wr : inR .i64 r) (x : Nat) (wx : x < 18446744073709551616) : PureTo Tryd.prog 4 [.sl 1 (.ints .u32 a) false, .v (.int .i64 r), .v (.float .f64 x)] (.v (.bool true)) :=
  back_law (words_in wa) (by omega) wx (partL_len x) (partL_words x)

theorem reads (os : Os) {H : Type} (enc : TypeId × Value → H) : ∃ places, DataW.whole enc Tryd.prog ((Go.Proofs.Bf.laidWorld os).forCall (fun _ _ => 0) ⟨#[], #[.slice none 0 0, .int .i64 0, .float .f64 0], []⟩).memory Tryd.f4.params.toList Rows.bignumBackSpec.vars false (#[.slice none 0 0, .int .i64 0, .float .f64 0] : Array Value).toList 8 = some ([.nil, .lit (.int .i64 0), .lit (.float .f64 0)], [], places) :=
  ⟨[], by kernel_rfl⟩

theorem lifted (os : Os) (started : os.Started) (H : Type) (enc : TypeId × Value → H) (F : Stop.Interp) :
    ReturnsInHanded {} Tryd.checked os 4 .any ((OpenSpec.ofChange Rows.bignumBackSpec).preRow enc Tryd.prog Tryd.f4 Rows.bignumBackRow.domain false Rows.bignumBackRow.laid) (((OpenSpec.ofChange Rows.bignumBackSpec).at F).post enc Tryd.prog Tryd.f4 false true false false) := by
  obtain ⟨places, hx⟩ := reads os enc
  refine returnsInHanded_of_row (C := Tryd.checked) (s := (OpenSpec.ofChange Rows.bignumBackSpec)) own started (by kernel_rfl) Tryd.func4
    (witness_row_at (enc := enc) (C := Tryd.checked) false (Go.Proofs.Bf.laidWorld os) #[.slice none 0 0, .int .i64 0, .float .f64 0] rfl (by kernel_rfl) (by kernel_rfl) (by kernel_rfl)
      (OpenSpec.preRow_of_cond 8 hx (by kernel_rfl) (fun k hk => by cases hk) (by kernel_rfl) (Go.Proofs.Bf.laid_met os _))) ?_
  intro W base args ds gs before hval0 hW _ hcond hsz0 hL _ _
  have hval : ∀ (j : Nat) t v, Tryd.f4.params[j]? = some t → args[j]? = some v → Value.okWide Tryd.prog W .any base t v := hval0
  have hW' : DataW.Whole enc Tryd.prog Tryd.f4.params.toList Rows.bignumBackSpec.vars false W args.toList ds gs before := hW
  have hgl := Go.Proofs.Bf.globW hL
  obtain ⟨p, q, hA0, hV, rfl, hfz, hnd⟩ := hW
  obtain ⟨rfl, rfl⟩ := trodVars_none (hV : DataW.TrodVars enc Tryd.prog W (fun _ => true) [] gs q)
  have hsz : (DataW.weightsEach Tryd.prog Tryd.f4.params.toList ds).all (· ≤ reachBytes) = true := by
    have h := hsz0
    rw [List.append_nil] at h
    exact h
  have hA : DataW.TrodAll enc Tryd.prog W 0 (fun _ => true) true Tryd.f4.params.toList args.toList ds p := hA0
  rw [Tryd.params4] at hA hval
  obtain ⟨v0, vs0, d0, ds0, p0, q0, hargs, rfl, rfl, h0, r0⟩ := trodAll_cons hA
  obtain ⟨v1, vs1, d1, ds1, p1, q1, rfl, rfl, rfl, h1, r1⟩ := trodAll_cons r0
  obtain ⟨v2, vs2, d2, ds2, p2, q2, rfl, rfl, rfl, h2, r2⟩ := trodAll_cons r1
  obtain ⟨rfl, rfl, rfl⟩ := trodAll_nil r2
  obtain rfl : args = #[v0, v1, v2] := by cases args; simp_all
  obtain ⟨l0, rep0, w0, e0⟩ := read_ints (by kernel_rfl : Tryd.prog.underlying 22 = some (.slice 54)) (by kernel_rfl : Tryd.prog.underlying 54 = some (.int .u32)) (by kernel_rfl) (hval 0 22 v0 rfl rfl) h0
  have n0 := ints_len (j := 0) (b := 4) hsz (by kernel_rfl) rfl (by kernel_rfl : Tryd.prog.underlying 22 = some (.slice 54)) (by kernel_rfl) e0
  obtain ⟨x1, rfl, e1, w1⟩ := read_int (by kernel_rfl : Tryd.prog.underlying 3 = some (.int .i64)) (hval 1 3 v1 rfl rfl) h1
  obtain ⟨x2, rfl, w2⟩ := read_float (by kernel_rfl : Tryd.prog.underlying 23 = some (.float .f64)) (hval 2 23 v2 rfl rfl)
  have hcall := (law l0 w0 n0 x1 w1 x2 w2).calls (W := W) (vals := [v0, .int .i64 x1, .float .f64 x2]) Tryd.func4 rfl rfl hgl ⟨rfl, fun i h1 h2 => by
    match i with
    | 0 => exact rep0
    | 1 => exact .v _ trivial
    | 2 => exact .v _ trivial⟩
  refine hcall.mono fun e W' ⟨he, hg⟩ => ?_
  exact ⟨_, he, post_true (s := Rows.bignumBackSpec) laid (by kernel_rfl) rfl (tb := 4) (by kernel_rfl) (by kernel_rfl) hW' rfl hg⟩

theorem said : Rows.BignumBackSaid :=
  OpenClaim.holds_of_cond 4 Tryd.f4 rfl rfl rfl rfl rfl rfl rfl ⟨rfl, rfl, rfl, rfl, rfl⟩ rfl rfl rfl rfl rfl (by kernel_rfl) Tryd.func4 (by kernel_rfl)
    (of_decide_eq_true (by kernel_rfl)) (by unfold Func.isWrapper; first | (rw [if_pos (by decide +kernel)]; kernel_rfl) | (rw [if_neg (by decide +kernel)]; exact ⟨rfl, rfl⟩))
    (fun os started H enc _ F => by rw [OpenClaim.pre_eq_preRow]; exact lifted os started H enc F)

theorem plain (f : FuncId) (fn : Func) (hf : Tryd.pinned.checked.prog.funcNamed "quill/quilllaw02.BignumBack" = some f) (hfn : Tryd.pinned.checked.prog.funcs[f]? = some fn) :
    false = Tryd.pinned.checked.prog.looks [] ∧ ∀ (j : Nat) t, fn.params[j]? = some t → Tryd.pinned.checked.prog.wantsStandIn t = false := by
  obtain rfl : f = 4 := Option.some.inj ((show Tryd.prog.funcNamed "quill/quilllaw02.BignumBack" = some 4 by kernel_rfl).symm.trans hf) |>.symm
  obtain rfl : fn = Tryd.f4 := (Option.some.inj (Tryd.func4.symm.trans hfn)).symm
  refine ⟨by kernel_rfl, fun j t ht => ?_⟩
  rw [Tryd.params4] at ht
  have hm : t ∈ [22, 3, 23] := by simpa using Array.mem_of_getElem? ht
  have hall : ([22, 3, 23].all fun u => !Tryd.prog.wantsStandIn u) = true := by kernel_rfl
  exact (show Tryd.prog.wantsStandIn t = false by simpa using List.all_eq_true.1 hall t hm)

theorem proved : Rows.BignumBackCardSaid :=
  Claim7.holds_tied_plain_at .later [] _ _ _ _ said (fun _ h => by cases h) (by kernel_rfl) (fun _ h => by cases h) bignumBack_row_tie rfl ⟨rfl, rfl⟩ (by kernel_rfl) rfl plain (by kernel_rfl)
#print axioms proved
end Go.Proofs.YtbmadhdeikoecaaDoor.bignumBack
