/- An evaluator of the model's code, proved right. No condition. -/
import Derived.Test.YthceebioiinhiaaEvAll5
set_option linter.unusedSimpArgs false
set_option linter.unusedVariables false
set_option linter.unusedSectionVars false
/- Functions without a body over floats: whole numbers, the less and the greater, roots. -/
namespace Go.Ev
variable [Globs]
open Go

/-- made whole -/
def intW (way : Ieee.Toward) (x : Nat) : Nat :=
  match FloatKind.f64.decode x with
  | .nan _ _ => qnan
  | d => FloatKind.f64.encode (d.integral way)
def fsqrt (x : Nat) : Nat := (FloatKind.f64.format.sqrt x).getD qnan
/-- the one of two that wins -/
def pickW (neg : Bool) (win : Ordering) (x y : Nat) : Nat :=
  if FloatKind.f64.decode x == .infinity neg || FloatKind.f64.decode y == .infinity neg then FloatKind.f64.encode (.infinity neg)
  else if (FloatKind.f64.decode x).isNaN || (FloatKind.f64.decode y).isNaN then 0x7FF8000000000001
  else if (FloatKind.f64.decode x).isZero && (FloatKind.f64.decode y).isZero then (if (FloatKind.f64.decode x).neg == neg then x else y)
  else if (FloatKind.f64.decode x).order (FloatKind.f64.decode y) == some win then x else y

theorem quiet_nan {s : Bool} {t : Nat} : nanB .f64 (FloatKind.f64.encode (.nan s (FloatKind.f64.format.quiet t))) := by
  have h : FloatKind.f64.encode (.nan s (FloatKind.f64.format.quiet t)) % 9223372036854775808 = 9218868437227405312 + (t ||| 2251799813685248) % 4503599627370496 := by
    have e : FloatKind.f64.encode (.nan s (FloatKind.f64.format.quiet t)) = (if s then 9223372036854775808 + (9218868437227405312 + (t ||| 2251799813685248) % 4503599627370496) else 9218868437227405312 + (t ||| 2251799813685248) % 4503599627370496) := rfl
    have hlt : (t ||| 2251799813685248) % 4503599627370496 < 4503599627370496 := Nat.mod_lt _ (by decide)
    rw [e]
    split <;> omega
  have hpos : 0 < (t ||| 2251799813685248) % 4503599627370496 := by
    have hb : ((t ||| 2251799813685248) % 4503599627370496).testBit 51 = true := by
      rw [show (4503599627370496 : Nat) = 2 ^ 52 from rfl, Nat.testBit_mod_two_pow, Nat.testBit_or, show (2251799813685248 : Nat) = 2 ^ 51 from rfl, Nat.testBit_two_pow]
      simp
    rcases Nat.eq_zero_or_pos ((t ||| 2251799813685248) % 4503599627370496) with h0 | h0
    · rw [h0] at hb; simp at hb
    · exact h0
  have hlt : (t ||| 2251799813685248) % 4503599627370496 < 4503599627370496 := Nat.mod_lt _ (by decide)
  rw [nanB_iff, Go.Fl.read64, h, if_neg (by omega), if_neg (by omega), if_neg (by omega)]
  rfl

section
variable {P : Program}

theorem intW_nan {way : Ieee.Toward} {x : Nat} (h : nanB .f64 x) : nanB .f64 (intW way x) := by
  obtain ⟨s, t, e⟩ := nan_read h
  unfold intW FloatKind.decode
  rw [e]
  exact qnan_nan

theorem int_def (name : String) (way : Ieee.Toward) (a : Nat) : ∃ q : Question, Extern.MathFloor.toIntegral name way #[.float .f64 a] = (match FloatKind.f64.decode a with
    | .nan s t => if FloatKind.f64.format.quiet t = t then pure (.float .f64 a) else (do
      let kept ← choose q
      pure (.float .f64 (if kept == 1 then a else FloatKind.f64.encode (.nan s (FloatKind.f64.format.quiet t)))))
    | d => pure (.float .f64 (FloatKind.f64.encode (d.integral way)))) ∧ q.forced = false := ⟨_, rfl, rfl⟩
theorem sqrt_def (a : Nat) : Extern.MathSqrt.sqrt #[.float .f64 a] = (match FloatKind.f64.format.sqrt a with
    | some r => pure (.float .f64 r)
    | none => do pure (.float .f64 (← choose (.nanBits .f64 a a)))) := rfl

theorem int_ext {f : FuncId} {fn : Func} {name : String} {way : Ieee.Toward} (hf : P.funcs[f]? = some fn) (hname : (fn.name == "runtime.NumGoroutine") = false)
    (hb : fn.body.isNone = true) (hn : Extern.findNext fn = none) (he : Extern.find fn = some (Extern.MathFloor.toIntegral name way)) (x : Nat) : PureTo P f [.fl .f64 x] (.fl .f64 (intW way x)) := by
  intro S vals hwf hr
  obtain ⟨h1, h2⟩ := hr
  match vals, h1 with
  | [v], _ =>
    have hv := h2 0 (by simp) (by simp)
    simp only [List.getElem_cons_zero] at hv
    obtain ⟨a', rfl, ha⟩ := repI_fl hv
    unfold CalledTo
    rw [run_callFunc_extern hf hname hb hn he, show ([.float .f64 a'] : List Value).toArray = #[.float .f64 a'] from rfl]
    by_cases hna : nanB .f64 a'
    · obtain ⟨s, t, e⟩ := nan_read hna
      have hnx : nanB .f64 x := by
        rcases ha with rfl | ⟨_, h⟩
        · exact hna
        · exact h
      have e' : FloatKind.f64.decode a' = .nan s t := e
      by_cases hq : FloatKind.f64.format.quiet t = t
      · have hrun : (Extern.MathFloor.toIntegral name way #[.float .f64 a']).run P S.w = .ok (.float .f64 a') S.w := by
          obtain ⟨q, h1, h2⟩ := int_def name way a'
          rw [h1, e']
          simp [hq]
        rw [hrun, Result.andThen_ok]
        exact ⟨Grows.refl _, FRep.repI (.inr ⟨hna, intW_nan hnx⟩)⟩
      · have hrun : ∃ b, nanB .f64 b ∧ (Extern.MathFloor.toIntegral name way #[.float .f64 a']).run P S.w = .ok (.float .f64 b) S.w.drew := by
          obtain ⟨q, h1, h2⟩ := int_def name way a'
          rw [h1, e']
          simp only [if_neg hq, Sem.run_bind, run_choose_drew, h2]
          refine ⟨_, ?_, rfl⟩
          split
          · exact hna
          · exact quiet_nan
        obtain ⟨b, hb1, hb2⟩ := hrun
        rw [hb2, Result.andThen_ok]
        exact ⟨Grows.drew _, FRep.repI (.inr ⟨hb1, intW_nan hnx⟩)⟩
    · have hax : a' = x := by
        rcases ha with h | ⟨h, _⟩
        · exact h
        · exact absurd h hna
      subst hax
      have hrun : (Extern.MathFloor.toIntegral name way #[.float .f64 a']).run P S.w = .ok (.float .f64 (intW way a')) S.w := by
        cases hd : FloatKind.f64.decode a' with
        | nan s t =>
          refine absurd ?_ hna
          rw [nanB_iff]
          have : FloatKind.f64.format.read a' = .nan s t := hd
          rw [this]
          rfl
        | infinity s =>
          obtain ⟨q, h1, h2⟩ := int_def name way a'
          rw [h1, hd]
          simp [intW, hd]
        | number s m i =>
          obtain ⟨q, h1, h2⟩ := int_def name way a'
          rw [h1, hd]
          simp [intW, hd]
      rw [hrun, Result.andThen_ok]
      exact ⟨Grows.refl _, FRep.repI (.inl rfl)⟩

theorem sqrt_nan {x : Nat} (h : nanB .f64 x) : FloatKind.f64.format.sqrt x = none := by
  obtain ⟨s, t, e⟩ := nan_read h
  unfold Ieee.Format.sqrt
  rw [e]
  rfl

theorem sqrt_ext {f : FuncId} {fn : Func} (hf : P.funcs[f]? = some fn) (hname : (fn.name == "runtime.NumGoroutine") = false)
    (hb : fn.body.isNone = true) (hn : Extern.findNext fn = none) (he : Extern.find fn = some Extern.MathSqrt.sqrt) (x : Nat) : PureTo P f [.fl .f64 x] (.fl .f64 (fsqrt x)) := by
  intro S vals hwf hr
  obtain ⟨h1, h2⟩ := hr
  match vals, h1 with
  | [v], _ =>
    have hv := h2 0 (by simp) (by simp)
    simp only [List.getElem_cons_zero] at hv
    obtain ⟨a', rfl, ha⟩ := repI_fl hv
    unfold CalledTo
    rw [run_callFunc_extern hf hname hb hn he, show ([.float .f64 a'] : List Value).toArray = #[.float .f64 a'] from rfl]
    have hsame : FloatKind.f64.format.sqrt a' = FloatKind.f64.format.sqrt x := by
      rcases ha with rfl | ⟨n1, n2⟩
      · rfl
      · rw [sqrt_nan n1, sqrt_nan n2]
    cases hs : FloatKind.f64.format.sqrt a' with
    | some r =>
      have hrun : (Extern.MathSqrt.sqrt #[.float .f64 a']).run P S.w = .ok (.float .f64 r) S.w := by rw [sqrt_def, hs]; rfl
      rw [hrun, Result.andThen_ok]
      refine ⟨Grows.refl _, FRep.repI (.inl ?_)⟩
      unfold fsqrt
      rw [← hsame, hs]
      rfl
    | none =>
      have hrun : (Extern.MathSqrt.sqrt #[.float .f64 a']).run P S.w = .ok (.float .f64 ((Question.nanBits .f64 a' a').cut (S.w.tape S.w.drawn (.nanBits .f64 a' a')))) S.w.drew := by rw [sqrt_def, hs]; simp [Question.forced]
      rw [hrun, Result.andThen_ok]
      refine ⟨Grows.drew _, FRep.repI (.inr ⟨drawn_nan _ _ _, ?_⟩)⟩
      unfold fsqrt
      rw [← hsame, hs]
      exact qnan_nan

theorem pick_rep {neg : Bool} {win : Ordering} {a' a b' b : Nat} (ha : FRep a' a) (hb : FRep b' b) : pickW neg win a' b' = pickW neg win a b := by
  have nn : ∀ x, nanB .f64 x → ∃ s t, FloatKind.f64.decode x = .nan s t := fun x h => nan_read h
  have nb : ∀ s t, ((Ieee.Datum.nan s t) == Ieee.Datum.infinity neg) = false := fun _ _ => rfl
  rcases ha with rfl | ⟨h1, h2⟩
  · rcases hb with rfl | ⟨h3, h4⟩
    · rfl
    · obtain ⟨s, t, e1⟩ := nn _ h3
      obtain ⟨s2, t2, e2⟩ := nn _ h4
      unfold pickW
      rw [e1, e2]
      simp only [nb, Bool.or_false, Ieee.Datum.isNaN, Bool.or_true]
      rfl
  · obtain ⟨s, t, e1⟩ := nn _ h1
    obtain ⟨s2, t2, e2⟩ := nn _ h2
    rcases hb with rfl | ⟨h3, h4⟩
    · unfold pickW
      rw [e1, e2]
      simp only [nb, Bool.false_or, Ieee.Datum.isNaN, Bool.true_or]
      rfl
    · obtain ⟨s3, t3, e3⟩ := nn _ h3
      obtain ⟨s4, t4, e4⟩ := nn _ h4
      unfold pickW
      rw [e1, e2, e3, e4]
      simp only [nb, Bool.or_self, Ieee.Datum.isNaN]
      rfl

theorem pick_ext {f : FuncId} {fn : Func} {name : String} {neg : Bool} {win : Ordering} (hf : P.funcs[f]? = some fn) (hname : (fn.name == "runtime.NumGoroutine") = false)
    (hb : fn.body.isNone = true) (hn : Extern.findNext fn = none) (he : Extern.find fn = some (Extern.MathDim.pick name neg win)) (x y : Nat) : PureTo P f [.fl .f64 x, .fl .f64 y] (.v (.float .f64 (pickW neg win x y))) := by
  intro S vals hwf hr
  obtain ⟨h1, h2⟩ := hr
  match vals, h1 with
  | [v, u], _ =>
    have hv := h2 0 (by simp) (by simp)
    have hu := h2 1 (by simp) (by simp)
    simp only [List.getElem_cons_zero, List.getElem_cons_succ] at hv hu
    obtain ⟨a', rfl, ha⟩ := repI_fl hv
    obtain ⟨b', rfl, hb'⟩ := repI_fl hu
    unfold CalledTo
    rw [run_callFunc_extern hf hname hb hn he]
    have hrun : (Extern.MathDim.pick name neg win ([.float .f64 a', .float .f64 b'] : List Value).toArray).run P S.w = .ok (.float .f64 (pickW neg win a' b')) S.w := rfl
    rw [hrun, Result.andThen_ok, pick_rep ha hb']
    exact ⟨Grows.refl _, .v _ trivial⟩

end
end Go.Ev
