/- UstrWhole: for every argument of the second form the law returns true; its card. -/
import Derived.Test.YtnmhaemjffcjaaaDoorCards
import Derived.Test.YtnmhaemjffcjaaaDoorTie
import Derived.Test.YtnmhaemjffcjaaaDoorUsAll2
import Derived.Test.YtnmhaemjffcjaaaDoorEvAll3
import Derived.Deep.DeepHandedRow
import Derived.Test.YtnmhaemjffcjaaaDoorUsAll7
set_option linter.unusedSimpArgs false
set_option linter.unusedVariables false
set_option maxRecDepth 100000
namespace Go.Proofs.YtnmhaemjffcjaaaDoor.ustrWhole
open Go Go.Ev Go.Proofs.Us
open Go.ChangeShapes Go.WideShapes Go.ChangeAt Go.RowKit

theorem own : ownKnob Tryd.prog.godebug = none := by kernel_rfl
theorem laid : laidOutB Tryd.prog = true := by kernel_rfl

theorem law [MX] (s : ByteArray) (h : s.size + 1 ≤ 1048576) (t : ByteArray) (h' : t.size + 1 ≤ 1048576) (at_ : Int) (wat : inR .i64 at_) : PureTo Tryd.prog 13 [.v (.string s), .v (.string t), .v (.int .i64 at_)] (.v (.bool true)) := by
  have ms : SM s := by unfold SM; omega
  have mt : SM t := by unfold SM; omega
  have zs := ms.sz
  have zt := mt.sz
  have em : ∀ n : Nat, (n : Int).tmod 2 = ((n % 2 : Nat) : Int) := fun n => by rw [Int.tmod_eq_emod_of_nonneg (by omega)]; omega
  rcases Bool.eq_false_or_eq_true ((↑s.size : Int).tmod (2 : Int) == (1 : Int)) with h1 | h1
  · exact lawWholeF1 s t at_ ⟨by decide, h1, trivial⟩
  rcases Bool.eq_false_or_eq_true ((↑t.size : Int).tmod (2 : Int) == (1 : Int)) with h2 | h2
  · exact lawWholeF2 s t at_ ⟨by decide, h1, by decide, h2, trivial⟩
  have ev : ∀ x : ByteArray, ((↑x.size : Int).tmod (2 : Int) == (1 : Int)) = false → x.size = 2 * ul x := by
    intro x hx
    rw [em] at hx
    have hx := beq_eq_false_iff_ne.1 hx
    unfold ul
    omega
  have es := ev s h1
  have et := ev t h2
  have eq_s : evn s = s := evn_even es
  have eq_t : evn t = t := evn_even et
  have hne : ∀ x : ByteArray, (!x.toList == x.toList) = false := fun x => by simp
  have hpos : decide ((↑t.size : Int) > (0 : Int)) = true → 1 ≤ ul t := fun hT => by
    have := of_decide_eq_true hT
    omega
  have hsl : splitL s t = if ul t = 0 then singleG s (ul s) 0 [] else partsG s t (ul s + 1) 0 [] := rfl
  have hj : decide ((↑t.size : Int) > (0 : Int)) = true → JOK (splitL s t) t := fun hT => by
    have hp := hpos hT
    have hl : (splitL s t).length ≤ ul s + 2 := by
      rw [hsl, if_neg (by omega)]
      have := parts_len s t (ul s + 1) 0 []
      simp only [List.length_nil] at this
      omega
    refine ⟨zt, fun x hx => ?_, by omega, ?_⟩
    · rw [hsl, if_neg (by omega)] at hx
      have := parts_mem (ul s + 1) 0 [] (fun x hx => by cases hx) x hx
      unfold SZ
      omega
    · have hx : (jl (splitL s t) t).length ≤ 140737488355328 := by
        rw [split_join es hp, intsOfStr_len]
        omega
      exact hx
  have hjoin : decide ((↑t.size : Int) > (0 : Int)) = true → (!(strOfInts (jn (splitL s t) t (splitL s t).length)).toList == s.toList) = false := fun hT => by
    have e : jn (splitL s t) t (splitL s t).length = intsOfStr s := split_join es (hpos hT)
    rw [e, str_ints]
    exact hne s
  have e2 : (↑s.size : Int).tdiv (2 : Int) = (ul s : Int) := by
    rw [Int.tdiv_eq_ediv_of_nonneg (by omega)]
    omega
  have hdiv : inR IntKind.i64 ((↑s.size : Int).tdiv (2 : Int)) := by rw [e2]; simp only [inR]; omega
  have hsl2 : ∀ i j, (slice s i j).size ≤ s.size := by
    intro i j
    unfold slice
    cases !decide ((if (↑(ul s) : Int) < j then (↑(ul s) : Int) else j) ≤ if (0 : Int) > i then (0 : Int) else i) with
    | true => rw [cond_true, ByteArray.size_extract]; omega
    | false => rw [cond_false]; exact Nat.zero_le _
  have hsum : (↑((slice s (0 : Int) at_).size + (slice s at_ (↑(ul s) : Int)).size) : Int) ≤ (9223372036854775807 : Int) := by
    have a := hsl2 0 at_
    have b := hsl2 at_ (ul s)
    omega
  have hcat : decide (at_ ≥ (0 : Int)) = true → decide (at_ ≤ (↑s.size : Int).tdiv (2 : Int)) = true → (!(slice s (0 : Int) at_ ++ slice s at_ (↑(ul s) : Int)).toList == s.toList) = false := fun hA hB => by
    have a := of_decide_eq_true hA
    have b := of_decide_eq_true hB
    rw [e2] at b
    obtain ⟨n, rfl⟩ : ∃ n : Nat, at_ = n := ⟨at_.toNat, by omega⟩
    have c1 : slice s (0 : Int) (n : Int) = s.extract 0 (2 * n) := slice_in (s := s) (a := 0) (b := n) (Nat.zero_le _) (by omega)
    have c2 : slice s (n : Int) (ul s : Int) = s.extract (2 * n) (2 * ul s) := slice_in (by omega) (Nat.le_refl _)
    have c3 : s.extract 0 (2 * n) ++ s.extract (2 * n) (2 * ul s) = s := by
      apply str_inj
      have : ∀ x y : ByteArray, intsOfStr (x ++ y) = intsOfStr x ++ intsOfStr y := fun x y => by simp [intsOfStr]
      rw [this, ints_cat s (Nat.zero_le _) (by omega), ← es, ints_all]
    rw [c1, c2, c3]
    exact hne s
  have hcmp : cmpS s t = cmpI (intsOfStr s) (intsOfStr t) := by rw [cmpS_eq, eq_s, eq_t]
  have eL : Op.bytesLess s.toList t.toList = decide (cmpS s t < (0 : Int)) := by rw [hcmp, cmpI_lt, less_ints]
  have eQ : (s.toList == t.toList) = (cmpS s t == (0 : Int)) := by rw [hcmp, cmpI_eq, same_ints]
  have htr : ((trimS (trimS s)).toList == (trimS s).toList) = true := by rw [trim_twice]; simp
  have mtr : SM (trimS s) := by
    unfold SM trimS
    rw [ByteArray.size_extract]
    omega
  have hlo : ((strOfInts (lowerL (strOfInts (lowerL s)))).toList == (strOfInts (lowerL s)).toList) = true := by rw [lower_twice]; simp
  have mlo : SM (strOfInts (lowerL s)) := by
    have : (strOfInts (lowerL s)).size = (lowerL s).length := by
      unfold strOfInts
      simp [ByteArray.size]
    unfold SM
    rw [this, lowerL_eq, cat_ub]
    omega
  rcases Bool.eq_false_or_eq_true (decide ((↑t.size : Int) > (0 : Int))) with hT | hT
  · rcases Bool.eq_false_or_eq_true (decide (at_ ≥ (0 : Int))) with hA | hA
    · rcases Bool.eq_false_or_eq_true (decide (at_ ≤ (↑s.size : Int).tdiv (2 : Int))) with hB | hB
      · rcases Bool.eq_false_or_eq_true (decide (cmpS s t < (0 : Int))) with hC | hC
        · rcases Bool.eq_false_or_eq_true (cmpS s t == (0 : Int)) with hE | hE
          · exact lawWholeF5 s t at_ ⟨(by decide), h1, (by decide), h2, hT, h, mt, (hj hT), (hjoin hT), hA, (by decide), hdiv, hB, zs, zs, zs, hsum, (hcat hA hB), ms, ms, zs, zt, hC, (eL.trans hC), zs, zt, hE, (eQ.trans hE), mtr, htr, mlo, hlo, trivial⟩
          · exact lawWholeF10 s t at_ ⟨(by decide), h1, (by decide), h2, hT, h, mt, (hj hT), (hjoin hT), hA, (by decide), hdiv, hB, zs, zs, zs, hsum, (hcat hA hB), ms, ms, zs, zt, hC, (eL.trans hC), zs, zt, hE, (eQ.trans hE), mtr, htr, mlo, hlo, trivial⟩
        · rcases Bool.eq_false_or_eq_true (cmpS s t == (0 : Int)) with hE | hE
          · exact lawWholeF15 s t at_ ⟨(by decide), h1, (by decide), h2, hT, h, mt, (hj hT), (hjoin hT), hA, (by decide), hdiv, hB, zs, zs, zs, hsum, (hcat hA hB), ms, ms, zs, zt, hC, (eL.trans hC), zs, zt, hE, (eQ.trans hE), mtr, htr, mlo, hlo, trivial⟩
          · exact lawWholeF20 s t at_ ⟨(by decide), h1, (by decide), h2, hT, h, mt, (hj hT), (hjoin hT), hA, (by decide), hdiv, hB, zs, zs, zs, hsum, (hcat hA hB), ms, ms, zs, zt, hC, (eL.trans hC), zs, zt, hE, (eQ.trans hE), mtr, htr, mlo, hlo, trivial⟩
      · rcases Bool.eq_false_or_eq_true (decide (cmpS s t < (0 : Int))) with hC | hC
        · rcases Bool.eq_false_or_eq_true (cmpS s t == (0 : Int)) with hE | hE
          · exact lawWholeF23 s t at_ ⟨(by decide), h1, (by decide), h2, hT, h, mt, (hj hT), (hjoin hT), hA, (by decide), hdiv, hB, ms, ms, zs, zt, hC, (eL.trans hC), zs, zt, hE, (eQ.trans hE), mtr, htr, mlo, hlo, trivial⟩
          · exact lawWholeF28 s t at_ ⟨(by decide), h1, (by decide), h2, hT, h, mt, (hj hT), (hjoin hT), hA, (by decide), hdiv, hB, ms, ms, zs, zt, hC, (eL.trans hC), zs, zt, hE, (eQ.trans hE), mtr, htr, mlo, hlo, trivial⟩
        · rcases Bool.eq_false_or_eq_true (cmpS s t == (0 : Int)) with hE | hE
          · exact lawWholeF33 s t at_ ⟨(by decide), h1, (by decide), h2, hT, h, mt, (hj hT), (hjoin hT), hA, (by decide), hdiv, hB, ms, ms, zs, zt, hC, (eL.trans hC), zs, zt, hE, (eQ.trans hE), mtr, htr, mlo, hlo, trivial⟩
          · exact lawWholeF38 s t at_ ⟨(by decide), h1, (by decide), h2, hT, h, mt, (hj hT), (hjoin hT), hA, (by decide), hdiv, hB, ms, ms, zs, zt, hC, (eL.trans hC), zs, zt, hE, (eQ.trans hE), mtr, htr, mlo, hlo, trivial⟩
    · rcases Bool.eq_false_or_eq_true (decide (cmpS s t < (0 : Int))) with hC | hC
      · rcases Bool.eq_false_or_eq_true (cmpS s t == (0 : Int)) with hE | hE
        · exact lawWholeF41 s t at_ ⟨(by decide), h1, (by decide), h2, hT, h, mt, (hj hT), (hjoin hT), hA, ms, ms, zs, zt, hC, (eL.trans hC), zs, zt, hE, (eQ.trans hE), mtr, htr, mlo, hlo, trivial⟩
        · exact lawWholeF46 s t at_ ⟨(by decide), h1, (by decide), h2, hT, h, mt, (hj hT), (hjoin hT), hA, ms, ms, zs, zt, hC, (eL.trans hC), zs, zt, hE, (eQ.trans hE), mtr, htr, mlo, hlo, trivial⟩
      · rcases Bool.eq_false_or_eq_true (cmpS s t == (0 : Int)) with hE | hE
        · exact lawWholeF51 s t at_ ⟨(by decide), h1, (by decide), h2, hT, h, mt, (hj hT), (hjoin hT), hA, ms, ms, zs, zt, hC, (eL.trans hC), zs, zt, hE, (eQ.trans hE), mtr, htr, mlo, hlo, trivial⟩
        · exact lawWholeF56 s t at_ ⟨(by decide), h1, (by decide), h2, hT, h, mt, (hj hT), (hjoin hT), hA, ms, ms, zs, zt, hC, (eL.trans hC), zs, zt, hE, (eQ.trans hE), mtr, htr, mlo, hlo, trivial⟩
  · rcases Bool.eq_false_or_eq_true (decide (at_ ≥ (0 : Int))) with hA | hA
    · rcases Bool.eq_false_or_eq_true (decide (at_ ≤ (↑s.size : Int).tdiv (2 : Int))) with hB | hB
      · rcases Bool.eq_false_or_eq_true (decide (cmpS s t < (0 : Int))) with hC | hC
        · rcases Bool.eq_false_or_eq_true (cmpS s t == (0 : Int)) with hE | hE
          · exact lawWholeF60 s t at_ ⟨(by decide), h1, (by decide), h2, hT, hA, (by decide), hdiv, hB, zs, zs, zs, hsum, (hcat hA hB), ms, ms, zs, zt, hC, (eL.trans hC), zs, zt, hE, (eQ.trans hE), mtr, htr, mlo, hlo, trivial⟩
          · exact lawWholeF65 s t at_ ⟨(by decide), h1, (by decide), h2, hT, hA, (by decide), hdiv, hB, zs, zs, zs, hsum, (hcat hA hB), ms, ms, zs, zt, hC, (eL.trans hC), zs, zt, hE, (eQ.trans hE), mtr, htr, mlo, hlo, trivial⟩
        · rcases Bool.eq_false_or_eq_true (cmpS s t == (0 : Int)) with hE | hE
          · exact lawWholeF70 s t at_ ⟨(by decide), h1, (by decide), h2, hT, hA, (by decide), hdiv, hB, zs, zs, zs, hsum, (hcat hA hB), ms, ms, zs, zt, hC, (eL.trans hC), zs, zt, hE, (eQ.trans hE), mtr, htr, mlo, hlo, trivial⟩
          · exact lawWholeF75 s t at_ ⟨(by decide), h1, (by decide), h2, hT, hA, (by decide), hdiv, hB, zs, zs, zs, hsum, (hcat hA hB), ms, ms, zs, zt, hC, (eL.trans hC), zs, zt, hE, (eQ.trans hE), mtr, htr, mlo, hlo, trivial⟩
      · rcases Bool.eq_false_or_eq_true (decide (cmpS s t < (0 : Int))) with hC | hC
        · rcases Bool.eq_false_or_eq_true (cmpS s t == (0 : Int)) with hE | hE
          · exact lawWholeF78 s t at_ ⟨(by decide), h1, (by decide), h2, hT, hA, (by decide), hdiv, hB, ms, ms, zs, zt, hC, (eL.trans hC), zs, zt, hE, (eQ.trans hE), mtr, htr, mlo, hlo, trivial⟩
          · exact lawWholeF83 s t at_ ⟨(by decide), h1, (by decide), h2, hT, hA, (by decide), hdiv, hB, ms, ms, zs, zt, hC, (eL.trans hC), zs, zt, hE, (eQ.trans hE), mtr, htr, mlo, hlo, trivial⟩
        · rcases Bool.eq_false_or_eq_true (cmpS s t == (0 : Int)) with hE | hE
          · exact lawWholeF88 s t at_ ⟨(by decide), h1, (by decide), h2, hT, hA, (by decide), hdiv, hB, ms, ms, zs, zt, hC, (eL.trans hC), zs, zt, hE, (eQ.trans hE), mtr, htr, mlo, hlo, trivial⟩
          · exact lawWholeF93 s t at_ ⟨(by decide), h1, (by decide), h2, hT, hA, (by decide), hdiv, hB, ms, ms, zs, zt, hC, (eL.trans hC), zs, zt, hE, (eQ.trans hE), mtr, htr, mlo, hlo, trivial⟩
    · rcases Bool.eq_false_or_eq_true (decide (cmpS s t < (0 : Int))) with hC | hC
      · rcases Bool.eq_false_or_eq_true (cmpS s t == (0 : Int)) with hE | hE
        · exact lawWholeF96 s t at_ ⟨(by decide), h1, (by decide), h2, hT, hA, ms, ms, zs, zt, hC, (eL.trans hC), zs, zt, hE, (eQ.trans hE), mtr, htr, mlo, hlo, trivial⟩
        · exact lawWholeF101 s t at_ ⟨(by decide), h1, (by decide), h2, hT, hA, ms, ms, zs, zt, hC, (eL.trans hC), zs, zt, hE, (eQ.trans hE), mtr, htr, mlo, hlo, trivial⟩
      · rcases Bool.eq_false_or_eq_true (cmpS s t == (0 : Int)) with hE | hE
        · exact lawWholeF106 s t at_ ⟨(by decide), h1, (by decide), h2, hT, hA, ms, ms, zs, zt, hC, (eL.trans hC), zs, zt, hE, (eQ.trans hE), mtr, htr, mlo, hlo, trivial⟩
        · exact lawWholeF111 s t at_ ⟨(by decide), h1, (by decide), h2, hT, hA, ms, ms, zs, zt, hC, (eL.trans hC), zs, zt, hE, (eQ.trans hE), mtr, htr, mlo, hlo, trivial⟩

theorem reads (os : Os) {H : Type} (enc : TypeId × Value → H) : ∃ places, DataW.whole enc Tryd.prog ((Go.Proofs.Us.laidWorld os).forCall (fun _ _ => 0) ⟨#[], #[.string ByteArray.empty, .string ByteArray.empty, .int .i64 0], []⟩).memory Tryd.f13.params.toList Rows.ustrWholeSpec.vars false (#[.string ByteArray.empty, .string ByteArray.empty, .int .i64 0] : Array Value).toList 8 = some ([.lit (.string []), .lit (.string []), .lit (.int .i64 0)], [], places) :=
  ⟨[], by kernel_rfl⟩

theorem lifted (os : Os) (started : os.Started) (H : Type) (enc : TypeId × Value → H) (F : Stop.Interp) :
    ReturnsInHanded {} Tryd.checked os 13 .any ((Rows.OpenSpec.upto Rows.ustrWholeSpec).preRow enc Tryd.prog Tryd.f13 Rows.ustrWholeUptoRow.domain false Rows.ustrWholeUptoRow.laid) (((Rows.OpenSpec.upto Rows.ustrWholeSpec).at F).post enc Tryd.prog Tryd.f13 false true false false) := by
  obtain ⟨places, hx⟩ := reads os enc
  refine returnsInHanded_of_row (C := Tryd.checked) (s := (Rows.OpenSpec.upto Rows.ustrWholeSpec)) own started (by kernel_rfl) Tryd.func13
    (witness_row_at (enc := enc) (C := Tryd.checked) false (Go.Proofs.Us.laidWorld os) #[.string ByteArray.empty, .string ByteArray.empty, .int .i64 0] rfl (by kernel_rfl) (by kernel_rfl) (by kernel_rfl)
      (OpenSpec.preRow_of_cond 8 hx (by kernel_rfl) (fun k hk => by cases hk; kernel_rfl) (by kernel_rfl) (Go.Proofs.Us.laid_met os _))) ?_
  intro W base args ds gs before hval0 hW _ hcond hsz0 hL hsh _
  have hval : ∀ (j : Nat) t v, Tryd.f13.params[j]? = some t → args[j]? = some v → Value.okWide Tryd.prog W .any base t v := hval0
  have hW' : DataW.Whole enc Tryd.prog Tryd.f13.params.toList Rows.ustrWholeSpec.vars false W args.toList ds gs before := hW
  obtain ⟨m, hm⟩ := Go.Proofs.Us.mx_shape hsh
  letI mxi : Go.Proofs.Us.MX := ⟨m⟩
  have hgl : GlobW W := Go.Proofs.Us.globWX hL hm
  obtain ⟨p, q, hA0, hV, rfl, hfz, hnd⟩ := hW
  obtain ⟨rfl, rfl⟩ := trodVars_none (hV : DataW.TrodVars enc Tryd.prog W (fun _ => true) [] gs q)
  have hsz : (DataW.weightsEach Tryd.prog Tryd.f13.params.toList ds).all (· ≤ reachBytes) = true := by
    have h := hsz0
    rw [List.append_nil] at h
    exact h
  have hA : DataW.TrodAll enc Tryd.prog W 0 (fun _ => true) true Tryd.f13.params.toList args.toList ds p := hA0
  rw [Tryd.params13] at hA hval
  obtain ⟨v0, vs0, d0, ds0, p0, q0, hargs, rfl, rfl, h0, r0⟩ := trodAll_cons hA
  obtain ⟨v1, vs1, d1, ds1, p1, q1, rfl, rfl, rfl, h1, r1⟩ := trodAll_cons r0
  obtain ⟨v2, vs2, d2, ds2, p2, q2, rfl, rfl, rfl, h2, r2⟩ := trodAll_cons r1
  obtain ⟨rfl, rfl, rfl⟩ := trodAll_nil r2
  obtain rfl : args = #[v0, v1, v2] := by cases args; simp_all
  obtain ⟨x0, rfl, e0, w0⟩ := read_string (by kernel_rfl : Tryd.prog.underlying 9 = some .string) (hval 0 9 v0 rfl rfl) h0
  have n0 := Go.Proofs.Us.small_string (hcond _ rfl) 0 rfl e0
  obtain ⟨x1, rfl, e1, w1⟩ := read_string (by kernel_rfl : Tryd.prog.underlying 9 = some .string) (hval 1 9 v1 rfl rfl) h1
  have n1 := Go.Proofs.Us.small_string (hcond _ rfl) 1 rfl e1
  obtain ⟨x2, rfl, e2, w2⟩ := read_int (by kernel_rfl : Tryd.prog.underlying 3 = some (.int .i64)) (hval 2 3 v2 rfl rfl) h2
  have hcall := (law x0 n0 x1 n1 x2 w2).calls (W := W) (vals := [.string x0, .string x1, .int .i64 x2]) Tryd.func13 rfl rfl hgl ⟨rfl, fun i h1 h2 => by
    match i with
    | 0 => exact .v _ trivial
    | 1 => exact .v _ trivial
    | 2 => exact .v _ trivial⟩
  refine hcall.mono fun e W' ⟨he, hg⟩ => ?_
  exact ⟨_, he, post_true (s := Rows.ustrWholeSpec) laid (by kernel_rfl) rfl (tb := 4) (by kernel_rfl) (by kernel_rfl) hW' rfl hg⟩

theorem said : Rows.UstrWholeUptoSaid :=
  OpenClaim.holds_of_cond 13 Tryd.f13 rfl rfl rfl rfl rfl rfl rfl ⟨rfl, rfl, rfl, rfl, rfl⟩ rfl rfl rfl rfl rfl (by kernel_rfl) Tryd.func13 (by kernel_rfl)
    (of_decide_eq_true (by kernel_rfl)) (by unfold Func.isWrapper; first | (rw [if_pos (by decide +kernel)]; kernel_rfl) | (rw [if_neg (by decide +kernel)]; exact ⟨rfl, rfl⟩))
    (fun os started H enc _ F => by rw [OpenClaim.pre_eq_preRow]; exact lifted os started H enc F)

theorem plain (f : FuncId) (fn : Func) (hf : Tryd.pinned.checked.prog.funcNamed "quill/quilllaw01.UstrWhole" = some f) (hfn : Tryd.pinned.checked.prog.funcs[f]? = some fn) :
    false = Tryd.pinned.checked.prog.looks [] ∧ ∀ (j : Nat) t, fn.params[j]? = some t → Tryd.pinned.checked.prog.wantsStandIn t = false := by
  obtain rfl : f = 13 := Option.some.inj ((show Tryd.prog.funcNamed "quill/quilllaw01.UstrWhole" = some 13 by kernel_rfl).symm.trans hf) |>.symm
  obtain rfl : fn = Tryd.f13 := (Option.some.inj (Tryd.func13.symm.trans hfn)).symm
  refine ⟨by kernel_rfl, fun j t ht => ?_⟩
  rw [Tryd.params13] at ht
  have hm : t ∈ [9, 9, 3] := by simpa using Array.mem_of_getElem? ht
  have hall : ([9, 9, 3].all fun u => !Tryd.prog.wantsStandIn u) = true := by kernel_rfl
  exact (show Tryd.prog.wantsStandIn t = false by simpa using List.all_eq_true.1 hall t hm)

theorem proved : Rows.UstrWholeUptoCardSaid :=
  Claim7.holds_tied_plain_at .later [] _ _ _ _ said (fun _ h => by cases h) (by kernel_rfl) (fun _ h => by cases h) ustrWholeUpto_row_tie rfl ⟨rfl, rfl⟩ (by kernel_rfl) rfl plain (by kernel_rfl)
#print axioms proved
end Go.Proofs.YtnmhaemjffcjaaaDoor.ustrWhole
