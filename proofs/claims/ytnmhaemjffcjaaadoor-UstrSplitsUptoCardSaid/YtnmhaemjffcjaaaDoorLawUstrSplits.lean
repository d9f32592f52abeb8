/- UstrSplits: for every argument of the second form the law returns true; its card. -/
import Derived.Test.YtnmhaemjffcjaaaDoorCards
import Derived.Test.YtnmhaemjffcjaaaDoorTie
import Derived.Test.YtnmhaemjffcjaaaDoorUsAll2
import Derived.Test.YtnmhaemjffcjaaaDoorEvAll3
import Derived.Deep.DeepHandedRow
import Derived.Test.YtnmhaemjffcjaaaDoorUsAll7
import Derived.Test.YtnmhaemjffcjaaaDoorUsAll8
set_option linter.unusedSimpArgs false
set_option linter.unusedVariables false
set_option maxRecDepth 100000
namespace Go.Proofs.YtnmhaemjffcjaaaDoor.ustrSplits
open Go Go.Ev Go.Proofs.Us
open Go.ChangeShapes Go.WideShapes Go.ChangeAt Go.RowKit

theorem own : ownKnob Tryd.prog.godebug = none := by kernel_rfl
theorem laid : laidOutB Tryd.prog = true := by kernel_rfl

theorem single_len (s : ByteArray) : ∀ f i q, (singleG s f i q).length ≤ q.length + f
  | 0, i, q => by simp [singleG]
  | f + 1, i, q => by
    unfold singleG
    split
    · have := single_len s f (i + 1) (q ++ [s.extract (2 * i) (2 * (i + 1))])
      rw [List.length_append] at this
      simp at this
      omega
    · omega
theorem parts_len (s t : ByteArray) : ∀ f i q, (partsG s t f i q).length ≤ q.length + f + 1
  | 0, i, q => by
    simp only [partsG]
    omega
  | f + 1, i, q => by
    unfold partsG
    split
    · simp
    · refine Nat.le_trans (parts_len s t f _ _) ?_
      simp
      omega
theorem split_len (s t : ByteArray) : (splitL s t).length ≤ ul s + 2 := by
  unfold splitL
  split
  · have := single_len s (ul s) 0 []
    simp at this
    omega
  · have := parts_len s t (ul s + 1) 0 []
    simp at this
    omega
theorem jn_len (t : ByteArray) : ∀ (l : List ByteArray) (n : Nat), n ≤ l.length → (jn l t n).length ≤ n * t.size + bytesOfL (l.take n) := by
  intro l n
  induction n with
  | zero => intro _; simp [jn]
  | succ n ih =>
    intro h
    have hi := ih (by omega)
    have he : ∀ s : ByteArray, (intsOfStr (evn s)).length ≤ s.size := fun s => by
      rw [ints_evn_len, evn_size]
      unfold ul
      omega
    have h1 := he t
    have h2 := he (l.getD n ByteArray.empty)
    have h3 : bytesOfL (l.take (n + 1)) = bytesOfL (l.take n) + (l.getD n ByteArray.empty).size + 1 := by
      have hx : l.take (n + 1) = l.take n ++ [l.getD n ByteArray.empty] := by
        rw [List.take_add_one, List.getD_eq_getElem?_getD, List.getElem?_eq_getElem (by omega)]
        rfl
      have ha : ∀ a b : List ByteArray, bytesOfL (a ++ b) = bytesOfL a + bytesOfL b := by
        intro a b
        induction a with
        | nil => simp [bytesOfL]
        | cons x r ih => simp only [List.cons_append, bytesOfL, ih]; omega
      rw [hx, ha]
      simp only [bytesOfL]
      omega
    simp only [jn, List.length_append]
    rw [h3, Nat.add_mul]
    split
    · simp only [List.length_nil]; omega
    · omega
theorem law [MX] (s : ByteArray) (h : s.size + 1 ≤ 1048576) (t : ByteArray) (h' : t.size + 1 ≤ 1048576) (l : List ByteArray) (hl : bytesOfL l ≤ 1048576) : PureTo Tryd.prog 12 [.v (.string s), .v (.string t), .sl 1 (.strs l) false] (.v (.bool true)) := by
  have ht : SM t := by unfold SM; omega
  have hn := bytesOfL_len l
  have hj : JOK l t := by
    refine ⟨ht.sz, fun x hx => ?_, by omega, ?_⟩
    · have := bytesOfL_mem hx
      unfold SZ
      omega
    · have h1 := jn_len t l l.length (Nat.le_refl _)
      rw [List.take_length] at h1
      have h2 : l.length * t.size ≤ 1048576 * 1048576 := Nat.mul_le_mul (by omega) (by omega)
      omega
  have h2 := split_len s t
  have h3 : ul s ≤ s.size := by unfold ul; omega
  exact lawSplitsF1 s t l ⟨h, ht, h, ht, rfl, by omega, hj, hj, by simp, trivial⟩

theorem reads (os : Os) {H : Type} (enc : TypeId × Value → H) : ∃ places, DataW.whole enc Tryd.prog ((Go.Proofs.Us.laidWorld os).forCall (fun _ _ => 0) ⟨#[], #[.string ByteArray.empty, .string ByteArray.empty, .slice none 0 0], []⟩).memory Tryd.f12.params.toList Rows.ustrSplitsSpec.vars false (#[.string ByteArray.empty, .string ByteArray.empty, .slice none 0 0] : Array Value).toList 8 = some ([.lit (.string []), .lit (.string []), .nil], [], places) :=
  ⟨[], by kernel_rfl⟩

theorem lifted (os : Os) (started : os.Started) (H : Type) (enc : TypeId × Value → H) (F : Stop.Interp) :
    ReturnsInHanded {} Tryd.checked os 12 .any ((Rows.OpenSpec.upto Rows.ustrSplitsSpec).preRow enc Tryd.prog Tryd.f12 Rows.ustrSplitsUptoRow.domain false Rows.ustrSplitsUptoRow.laid) (((Rows.OpenSpec.upto Rows.ustrSplitsSpec).at F).post enc Tryd.prog Tryd.f12 false true false false) := by
  obtain ⟨places, hx⟩ := reads os enc
  refine returnsInHanded_of_row (C := Tryd.checked) (s := (Rows.OpenSpec.upto Rows.ustrSplitsSpec)) own started (by kernel_rfl) Tryd.func12
    (witness_row_at (enc := enc) (C := Tryd.checked) false (Go.Proofs.Us.laidWorld os) #[.string ByteArray.empty, .string ByteArray.empty, .slice none 0 0] rfl (by kernel_rfl) (by kernel_rfl) (by kernel_rfl)
      (OpenSpec.preRow_of_cond 8 hx (by kernel_rfl) (fun k hk => by cases hk; kernel_rfl) (by kernel_rfl) (Go.Proofs.Us.laid_met os _))) ?_
  intro W base args ds gs before hval0 hW _ hcond hsz0 hL hsh _
  have hval : ∀ (j : Nat) t v, Tryd.f12.params[j]? = some t → args[j]? = some v → Value.okWide Tryd.prog W .any base t v := hval0
  have hW' : DataW.Whole enc Tryd.prog Tryd.f12.params.toList Rows.ustrSplitsSpec.vars false W args.toList ds gs before := hW
  obtain ⟨m, hm⟩ := Go.Proofs.Us.mx_shape hsh
  letI mxi : Go.Proofs.Us.MX := ⟨m⟩
  have hgl : GlobW W := Go.Proofs.Us.globWX hL hm
  obtain ⟨p, q, hA0, hV, rfl, hfz, hnd⟩ := hW
  obtain ⟨rfl, rfl⟩ := trodVars_none (hV : DataW.TrodVars enc Tryd.prog W (fun _ => true) [] gs q)
  have hsz : (DataW.weightsEach Tryd.prog Tryd.f12.params.toList ds).all (· ≤ reachBytes) = true := by
    have h := hsz0
    rw [List.append_nil] at h
    exact h
  have hA : DataW.TrodAll enc Tryd.prog W 0 (fun _ => true) true Tryd.f12.params.toList args.toList ds p := hA0
  rw [Tryd.params12] at hA hval
  obtain ⟨v0, vs0, d0, ds0, p0, q0, hargs, rfl, rfl, h0, r0⟩ := trodAll_cons hA
  obtain ⟨v1, vs1, d1, ds1, p1, q1, rfl, rfl, rfl, h1, r1⟩ := trodAll_cons r0
  obtain ⟨v2, vs2, d2, ds2, p2, q2, rfl, rfl, rfl, h2, r2⟩ := trodAll_cons r1
  obtain ⟨rfl, rfl, rfl⟩ := trodAll_nil r2
  obtain rfl : args = #[v0, v1, v2] := by cases args; simp_all
  obtain ⟨x0, rfl, e0, w0⟩ := read_string (by kernel_rfl : Tryd.prog.underlying 9 = some .string) (hval 0 9 v0 rfl rfl) h0
  have n0 := Go.Proofs.Us.small_string (hcond _ rfl) 0 rfl e0
  obtain ⟨x1, rfl, e1, w1⟩ := read_string (by kernel_rfl : Tryd.prog.underlying 9 = some .string) (hval 1 9 v1 rfl rfl) h1
  have n1 := Go.Proofs.Us.small_string (hcond _ rfl) 1 rfl e1
  obtain ⟨l2, rep2, e2⟩ := read_strs (by kernel_rfl : Tryd.prog.underlying 46 = some (.slice 9)) (by kernel_rfl : Tryd.prog.underlying 9 = some .string) (by kernel_rfl) (hval 2 46 v2 rfl rfl) h2
  have n2 := Go.Proofs.Us.small_strs (hcond _ rfl) 2 rfl e2
  have hcall := (law x0 n0 x1 n1 l2 n2).calls (W := W) (vals := [.string x0, .string x1, v2]) Tryd.func12 rfl rfl hgl ⟨rfl, fun i h1 h2 => by
    match i with
    | 0 => exact .v _ trivial
    | 1 => exact .v _ trivial
    | 2 => exact rep2⟩
  refine hcall.mono fun e W' ⟨he, hg⟩ => ?_
  exact ⟨_, he, post_true (s := Rows.ustrSplitsSpec) laid (by kernel_rfl) rfl (tb := 4) (by kernel_rfl) (by kernel_rfl) hW' rfl hg⟩

theorem said : Rows.UstrSplitsUptoSaid :=
  OpenClaim.holds_of_cond 12 Tryd.f12 rfl rfl rfl rfl rfl rfl rfl ⟨rfl, rfl, rfl, rfl, rfl⟩ rfl rfl rfl rfl rfl (by kernel_rfl) Tryd.func12 (by kernel_rfl)
    (of_decide_eq_true (by kernel_rfl)) (by unfold Func.isWrapper; first | (rw [if_pos (by decide +kernel)]; kernel_rfl) | (rw [if_neg (by decide +kernel)]; exact ⟨rfl, rfl⟩))
    (fun os started H enc _ F => by rw [OpenClaim.pre_eq_preRow]; exact lifted os started H enc F)

theorem plain (f : FuncId) (fn : Func) (hf : Tryd.pinned.checked.prog.funcNamed "quill/quilllaw01.UstrSplits" = some f) (hfn : Tryd.pinned.checked.prog.funcs[f]? = some fn) :
    false = Tryd.pinned.checked.prog.looks [] ∧ ∀ (j : Nat) t, fn.params[j]? = some t → Tryd.pinned.checked.prog.wantsStandIn t = false := by
  obtain rfl : f = 12 := Option.some.inj ((show Tryd.prog.funcNamed "quill/quilllaw01.UstrSplits" = some 12 by kernel_rfl).symm.trans hf) |>.symm
  obtain rfl : fn = Tryd.f12 := (Option.some.inj (Tryd.func12.symm.trans hfn)).symm
  refine ⟨by kernel_rfl, fun j t ht => ?_⟩
  rw [Tryd.params12] at ht
  have hm : t ∈ [9, 9, 46] := by simpa using Array.mem_of_getElem? ht
  have hall : ([9, 9, 46].all fun u => !Tryd.prog.wantsStandIn u) = true := by kernel_rfl
  exact (show Tryd.prog.wantsStandIn t = false by simpa using List.all_eq_true.1 hall t hm)

theorem proved : Rows.UstrSplitsUptoCardSaid :=
  Claim7.holds_tied_plain_at .later [] _ _ _ _ said (fun _ h => by cases h) (by kernel_rfl) (fun _ h => by cases h) ustrSplitsUpto_row_tie rfl ⟨rfl, rfl⟩ (by kernel_rfl) rfl plain (by kernel_rfl)
#print axioms proved
end Go.Proofs.YtnmhaemjffcjaaaDoor.ustrSplits
