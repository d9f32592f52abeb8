/- An evaluator of the model's code, proved right. No condition. -/
import Derived.Test.YtcjpfafmaecgiaaEvAll4
set_option linter.unusedSimpArgs false
set_option linter.unusedVariables false
set_option linter.unusedSectionVars false
/- Contracts over floats: known to the bit, or any NaN. -/
namespace Go.Ev
variable [Globs]
open Go

section
variable {P : Program}

theorem repI_fl {w : World} {U : Nat → Prop} {v : Value} {a : Nat} (h : RepI w U v (.fl .f64 a)) : ∃ a', v = .float .f64 a' ∧ FRep a' a := by
  cases h with
  | fl _ b _ h => exact ⟨b, rfl, h⟩
theorem FRep.repI {w : World} {U : Nat → Prop} {a' a : Nat} (h : FRep a' a) : RepI w U (.float .f64 a') (.fl .f64 a) := .fl _ _ _ h
theorem FRep.known {a' a : Nat} (h : FRep a' a) (hn : ¬ nanB .f64 a) : a' = a := by
  rcases h with h | ⟨_, h⟩
  · exact h
  · exact absurd h hn

/-- x is told more closely than y -/
inductive Closer : AV → AV → Prop
  | same (x : AV) : Closer x x
  | fl (a : Nat) : Closer (.v (.float .f64 a)) (.fl .f64 a)
  | num (a : Nat) : ¬ nanB .f64 a → Closer (.fl .f64 a) (.v (.float .f64 a))

theorem Closer.rep {x y : AV} (h : Closer x y) {w : World} {U : Nat → Prop} {v : Value} (hx : RepI w U v x) : RepI w U v y := by
  cases h with
  | same => exact hx
  | fl a =>
    obtain ⟨rfl, _⟩ := repI_v hx
    exact .fl _ _ _ (.inl rfl)
  | num a hn =>
    obtain ⟨a', rfl, h⟩ := repI_fl hx
    rw [h.known hn]
    exact .v _ trivial

/-- arguments told more closely -/
theorem PureTo.args {f : FuncId} {xs ys : List AV} {r : AV} (h : PureTo P f ys r) (hl : xs.length = ys.length) (hc : ∀ i (h1 : i < xs.length) (h2 : i < ys.length), Closer xs[i] ys[i]) : PureTo P f xs r := by
  intro S vals hwf hr
  refine h S vals hwf ⟨hr.1.trans hl, fun i h1 h2 => ?_⟩
  exact (hc i (by omega) h2).rep (hr.2 i h1 (by omega))

theorem CalledTo.mono {f : FuncId} {vals : Array Value} {w : World} {R R' : Value → World → Prop} (h : CalledTo P f vals w R) (hr : ∀ v w', R v w' → R' v w') : CalledTo P f vals w R' := by
  unfold CalledTo at h ⊢
  revert h
  cases (callFunc f vals).run P w with
  | halt x w' => exact fun h => h
  | ok n w' =>
    cases n with
    | value v => exact fun h => hr _ _ h
    | enter g args => exact fun h => ⟨h.1, h.2.mono fun e w'' ⟨v, he, hv⟩ => ⟨v, he, hr _ _ hv⟩⟩
    | _ => exact fun h => h

/-- an answer told less closely, or more -/
theorem PureTo.ans {f : FuncId} {xs : List AV} {r r' : AV} (h : PureTo P f xs r) (hc : Closer r r') : PureTo P f xs r' := fun S vals hwf hr =>
  (h S vals hwf hr).mono fun _ _ ⟨h1, h2⟩ => ⟨h1, hc.rep h2⟩

/-- one float in, one out; of NaN a NaN -/
theorem PureTo.lift1 {f : FuncId} {g : Nat → Nat} (h : ∀ a, PureTo P f [.v (.float .f64 a)] (.v (.float .f64 (g a)))) (hn : ∀ a, nanB .f64 a → nanB .f64 (g a)) (a : Nat) : PureTo P f [.fl .f64 a] (.fl .f64 (g a)) := by
  intro S vals hwf hr
  obtain ⟨h1, h2⟩ := hr
  match vals, h1 with
  | [v], _ =>
    have hv := h2 0 (by simp) (by simp)
    simp only [List.getElem_cons_zero] at hv
    obtain ⟨a', rfl, ha⟩ := repI_fl hv
    refine (h a' S [.float .f64 a'] hwf ⟨rfl, fun i h1 h2 => ?_⟩).mono fun v w' ⟨k1, k2⟩ => ⟨k1, ?_⟩
    · have : i = 0 := by simpa using h1
      subst this
      exact .v _ trivial
    · obtain ⟨rfl, _⟩ := repI_v k2
      refine FRep.repI ?_
      rcases ha with rfl | ⟨n1, n2⟩
      · exact .inl rfl
      · exact .inr ⟨hn _ n1, hn _ n2⟩

/-- one float in, some value without a NaN's bits out -/
theorem PureTo.lift1v {f : FuncId} {g : Nat → Value} (h : ∀ a, PureTo P f [.v (.float .f64 a)] (.v (g a))) (hn : ∀ a b, nanB .f64 a → nanB .f64 b → g a = g b) (a : Nat) : PureTo P f [.fl .f64 a] (.v (g a)) := by
  intro S vals hwf hr
  obtain ⟨h1, h2⟩ := hr
  match vals, h1 with
  | [v], _ =>
    have hv := h2 0 (by simp) (by simp)
    simp only [List.getElem_cons_zero] at hv
    obtain ⟨a', rfl, ha⟩ := repI_fl hv
    refine (h a' S [.float .f64 a'] hwf ⟨rfl, fun i h1 h2 => ?_⟩).mono fun v w' ⟨k1, k2⟩ => ⟨k1, ?_⟩
    · have : i = 0 := by simpa using h1
      subst this
      exact .v _ trivial
    · rcases ha with rfl | ⟨n1, n2⟩
      · exact k2
      · rw [← hn _ _ n1 n2]; exact k2

def sigF (f : Nat → AV × List Prop) : List AV → Option (AV × List Prop)
  | [x] => match fbits x with
    | some a => some (f a)
    | none => none
  | _ => none
def sigFF (f : Nat → Nat → AV × List Prop) : List AV → Option (AV × List Prop)
  | [x, y] => match fbits x, fbits y with
    | some a, some b => some (f a b)
    | _, _ => none
  | _ => none
/-- a float's bits where it is a number, or where they are known -/
def sigBits : List AV → Option (AV × List Prop)
  | [.v (.float .f64 a)] => some (.v (.int .u64 a), [])
  | [.fl .f64 a] => some (.v (.int .u64 a), [¬ nanB .f64 a])
  | _ => none

theorem fbits_closer {x : AV} {a : Nat} (h : fbits x = some a) : Closer x (.fl .f64 a) := by
  unfold fbits at h
  split at h
  · cases h; exact .fl _
  · cases h; exact .same _
  · cases h
theorem sigF_ok {i : FuncId} {f : Nat → AV × List Prop} (h : ∀ a, AllP (f a).2 → PureTo P i [.fl .f64 a] (f a).1) : ∀ ys r c, sigF f ys = some (r, c) → AllP c → PureTo P i ys r := by
  intro ys r c hs hc
  unfold sigF at hs
  split at hs
  · next x =>
    split at hs
    · next a ha =>
      have e := Option.some.inj hs
      have := h a
      rw [e] at this
      exact (this hc).args rfl fun i h1 h2 => by
        have : i = 0 := by simpa using h1
        subst this
        exact fbits_closer ha
    · cases hs
  · cases hs
theorem sigFF_ok {i : FuncId} {f : Nat → Nat → AV × List Prop} (h : ∀ a b, AllP (f a b).2 → PureTo P i [.fl .f64 a, .fl .f64 b] (f a b).1) : ∀ ys r c, sigFF f ys = some (r, c) → AllP c → PureTo P i ys r := by
  intro ys r c hs hc
  unfold sigFF at hs
  split at hs
  · next x y =>
    split at hs
    · next a b ha hb =>
      have e := Option.some.inj hs
      have := h a b
      rw [e] at this
      exact (this hc).args rfl fun i h1 h2 => by
        have : i = 0 ∨ i = 1 := by simp at h1; omega
        rcases this with rfl | rfl
        · exact fbits_closer ha
        · exact fbits_closer hb
    · cases hs
  · cases hs
theorem sigBits_ok {i : FuncId} (h : ∀ a, PureTo P i [.v (.float .f64 a)] (.v (.int .u64 a))) : ∀ ys r c, sigBits ys = some (r, c) → AllP c → PureTo P i ys r := by
  intro ys r c hs hc
  unfold sigBits at hs
  split at hs
  · cases hs; exact h _
  · cases hs
    exact (h _).args rfl fun i h1 h2 => by
      have : i = 0 := by simpa using h1
      subst this
      exact .num _ hc.1
  · cases hs

end
end Go.Ev

/- Functions without a body over floats: whole numbers, the less and the greater, roots. -/
namespace Go.Ev
variable [Globs]
open Go

/-- made whole -/
def intW (way : Ieee.Toward) (x : Nat) : Nat :=
  match FloatKind.f64.decode x with
  | .nan _ _ => qnan
  | d => FloatKind.f64.encode (d.integral way)
def fsqrt (x : Nat) : Nat := (FloatKind.f64.format.sqrt x).getD qnan
/-- the one of two that wins -/
def pickW (neg : Bool) (win : Ordering) (x y : Nat) : Nat :=
  if FloatKind.f64.decode x == .infinity neg || FloatKind.f64.decode y == .infinity neg then FloatKind.f64.encode (.infinity neg)
  else if (FloatKind.f64.decode x).isNaN || (FloatKind.f64.decode y).isNaN then 0x7FF8000000000001
  else if (FloatKind.f64.decode x).isZero && (FloatKind.f64.decode y).isZero then (if (FloatKind.f64.decode x).neg == neg then x else y)
  else if (FloatKind.f64.decode x).order (FloatKind.f64.decode y) == some win then x else y

theorem quiet_nan {s : Bool} {t : Nat} : nanB .f64 (FloatKind.f64.encode (.nan s (FloatKind.f64.format.quiet t))) := by
  have h : FloatKind.f64.encode (.nan s (FloatKind.f64.format.quiet t)) % 9223372036854775808 = 9218868437227405312 + (t ||| 2251799813685248) % 4503599627370496 := by
    have e : FloatKind.f64.encode (.nan s (FloatKind.f64.format.quiet t)) = (if s then 9223372036854775808 + (9218868437227405312 + (t ||| 2251799813685248) % 4503599627370496) else 9218868437227405312 + (t ||| 2251799813685248) % 4503599627370496) := rfl
    have hlt : (t ||| 2251799813685248) % 4503599627370496 < 4503599627370496 := Nat.mod_lt _ (by decide)
    rw [e]
    split <;> omega
  have hpos : 0 < (t ||| 2251799813685248) % 4503599627370496 := by
    have hb : ((t ||| 2251799813685248) % 4503599627370496).testBit 51 = true := by
      rw [show (4503599627370496 : Nat) = 2 ^ 52 from rfl, Nat.testBit_mod_two_pow, Nat.testBit_or, show (2251799813685248 : Nat) = 2 ^ 51 from rfl, Nat.testBit_two_pow]
      simp
    rcases Nat.eq_zero_or_pos ((t ||| 2251799813685248) % 4503599627370496) with h0 | h0
    · rw [h0] at hb; simp at hb
    · exact h0
  have hlt : (t ||| 2251799813685248) % 4503599627370496 < 4503599627370496 := Nat.mod_lt _ (by decide)
  rw [nanB_iff, Go.Fl.read64, h, if_neg (by omega), if_neg (by omega), if_neg (by omega)]
  rfl

section
variable {P : Program}

theorem intW_nan {way : Ieee.Toward} {x : Nat} (h : nanB .f64 x) : nanB .f64 (intW way x) := by
  obtain ⟨s, t, e⟩ := nan_read h
  unfold intW FloatKind.decode
  rw [e]
  exact qnan_nan

theorem int_def (name : String) (way : Ieee.Toward) (a : Nat) : ∃ q : Question, Extern.MathFloor.toIntegral name way #[.float .f64 a] = (match FloatKind.f64.decode a with
    | .nan s t => if FloatKind.f64.format.quiet t = t then pure (.float .f64 a) else (do
      let kept ← choose q
      pure (.float .f64 (if kept == 1 then a else FloatKind.f64.encode (.nan s (FloatKind.f64.format.quiet t)))))
    | d => pure (.float .f64 (FloatKind.f64.encode (d.integral way)))) ∧ q.forced = false := ⟨_, rfl, rfl⟩
theorem sqrt_def (a : Nat) : Extern.MathSqrt.sqrt #[.float .f64 a] = (match FloatKind.f64.format.sqrt a with
    | some r => pure (.float .f64 r)
    | none => do pure (.float .f64 (← choose (.nanBits .f64 a a)))) := rfl

theorem int_ext {f : FuncId} {fn : Func} {name : String} {way : Ieee.Toward} (hf : P.funcs[f]? = some fn) (hname : (fn.name == "runtime.NumGoroutine") = false)
    (hb : fn.body.isNone = true) (hn : Extern.findNext fn = none) (he : Extern.find fn = some (Extern.MathFloor.toIntegral name way)) (x : Nat) : PureTo P f [.fl .f64 x] (.fl .f64 (intW way x)) := by
  intro S vals hwf hr
  obtain ⟨h1, h2⟩ := hr
  match vals, h1 with
  | [v], _ =>
    have hv := h2 0 (by simp) (by simp)
    simp only [List.getElem_cons_zero] at hv
    obtain ⟨a', rfl, ha⟩ := repI_fl hv
    unfold CalledTo
    rw [run_callFunc_extern hf hname hb hn he, show ([.float .f64 a'] : List Value).toArray = #[.float .f64 a'] from rfl]
    by_cases hna : nanB .f64 a'
    · obtain ⟨s, t, e⟩ := nan_read hna
      have hnx : nanB .f64 x := by
        rcases ha with rfl | ⟨_, h⟩
        · exact hna
        · exact h
      have e' : FloatKind.f64.decode a' = .nan s t := e
      by_cases hq : FloatKind.f64.format.quiet t = t
      · have hrun : (Extern.MathFloor.toIntegral name way #[.float .f64 a']).run P S.w = .ok (.float .f64 a') S.w := by
          obtain ⟨q, h1, h2⟩ := int_def name way a'
          rw [h1, e']
          simp [hq]
        rw [hrun, Result.andThen_ok]
        exact ⟨Grows.refl _, FRep.repI (.inr ⟨hna, intW_nan hnx⟩)⟩
      · have hrun : ∃ b, nanB .f64 b ∧ (Extern.MathFloor.toIntegral name way #[.float .f64 a']).run P S.w = .ok (.float .f64 b) S.w.drew := by
          obtain ⟨q, h1, h2⟩ := int_def name way a'
          rw [h1, e']
          simp only [if_neg hq, Sem.run_bind, run_choose_drew, h2]
          refine ⟨_, ?_, rfl⟩
          split
          · exact hna
          · exact quiet_nan
        obtain ⟨b, hb1, hb2⟩ := hrun
        rw [hb2, Result.andThen_ok]
        exact ⟨Grows.drew _, FRep.repI (.inr ⟨hb1, intW_nan hnx⟩)⟩
    · have hax : a' = x := by
        rcases ha with h | ⟨h, _⟩
        · exact h
        · exact absurd h hna
      subst hax
      have hrun : (Extern.MathFloor.toIntegral name way #[.float .f64 a']).run P S.w = .ok (.float .f64 (intW way a')) S.w := by
        cases hd : FloatKind.f64.decode a' with
        | nan s t =>
          refine absurd ?_ hna
          rw [nanB_iff]
          have : FloatKind.f64.format.read a' = .nan s t := hd
          rw [this]
          rfl
        | infinity s =>
          obtain ⟨q, h1, h2⟩ := int_def name way a'
          rw [h1, hd]
          simp [intW, hd]
        | number s m i =>
          obtain ⟨q, h1, h2⟩ := int_def name way a'
          rw [h1, hd]
          simp [intW, hd]
      rw [hrun, Result.andThen_ok]
      exact ⟨Grows.refl _, FRep.repI (.inl rfl)⟩

theorem sqrt_nan {x : Nat} (h : nanB .f64 x) : FloatKind.f64.format.sqrt x = none := by
  obtain ⟨s, t, e⟩ := nan_read h
  unfold Ieee.Format.sqrt
  rw [e]
  rfl

theorem sqrt_ext {f : FuncId} {fn : Func} (hf : P.funcs[f]? = some fn) (hname : (fn.name == "runtime.NumGoroutine") = false)
    (hb : fn.body.isNone = true) (hn : Extern.findNext fn = none) (he : Extern.find fn = some Extern.MathSqrt.sqrt) (x : Nat) : PureTo P f [.fl .f64 x] (.fl .f64 (fsqrt x)) := by
  intro S vals hwf hr
  obtain ⟨h1, h2⟩ := hr
  match vals, h1 with
  | [v], _ =>
    have hv := h2 0 (by simp) (by simp)
    simp only [List.getElem_cons_zero] at hv
    obtain ⟨a', rfl, ha⟩ := repI_fl hv
    unfold CalledTo
    rw [run_callFunc_extern hf hname hb hn he, show ([.float .f64 a'] : List Value).toArray = #[.float .f64 a'] from rfl]
    have hsame : FloatKind.f64.format.sqrt a' = FloatKind.f64.format.sqrt x := by
      rcases ha with rfl | ⟨n1, n2⟩
      · rfl
      · rw [sqrt_nan n1, sqrt_nan n2]
    cases hs : FloatKind.f64.format.sqrt a' with
    | some r =>
      have hrun : (Extern.MathSqrt.sqrt #[.float .f64 a']).run P S.w = .ok (.float .f64 r) S.w := by rw [sqrt_def, hs]; rfl
      rw [hrun, Result.andThen_ok]
      refine ⟨Grows.refl _, FRep.repI (.inl ?_)⟩
      unfold fsqrt
      rw [← hsame, hs]
      rfl
    | none =>
      have hrun : (Extern.MathSqrt.sqrt #[.float .f64 a']).run P S.w = .ok (.float .f64 ((Question.nanBits .f64 a' a').cut (S.w.tape S.w.drawn (.nanBits .f64 a' a')))) S.w.drew := by rw [sqrt_def, hs]; simp [Question.forced]
      rw [hrun, Result.andThen_ok]
      refine ⟨Grows.drew _, FRep.repI (.inr ⟨drawn_nan _ _ _, ?_⟩)⟩
      unfold fsqrt
      rw [← hsame, hs]
      exact qnan_nan

theorem pick_rep {neg : Bool} {win : Ordering} {a' a b' b : Nat} (ha : FRep a' a) (hb : FRep b' b) : pickW neg win a' b' = pickW neg win a b := by
  have nn : ∀ x, nanB .f64 x → ∃ s t, FloatKind.f64.decode x = .nan s t := fun x h => nan_read h
  have nb : ∀ s t, ((Ieee.Datum.nan s t) == Ieee.Datum.infinity neg) = false := fun _ _ => rfl
  rcases ha with rfl | ⟨h1, h2⟩
  · rcases hb with rfl | ⟨h3, h4⟩
    · rfl
    · obtain ⟨s, t, e1⟩ := nn _ h3
      obtain ⟨s2, t2, e2⟩ := nn _ h4
      unfold pickW
      rw [e1, e2]
      simp only [nb, Bool.or_false, Ieee.Datum.isNaN, Bool.or_true]
      rfl
  · obtain ⟨s, t, e1⟩ := nn _ h1
    obtain ⟨s2, t2, e2⟩ := nn _ h2
    rcases hb with rfl | ⟨h3, h4⟩
    · unfold pickW
      rw [e1, e2]
      simp only [nb, Bool.false_or, Ieee.Datum.isNaN, Bool.true_or]
      rfl
    · obtain ⟨s3, t3, e3⟩ := nn _ h3
      obtain ⟨s4, t4, e4⟩ := nn _ h4
      unfold pickW
      rw [e1, e2, e3, e4]
      simp only [nb, Bool.or_self, Ieee.Datum.isNaN]
      rfl

theorem pick_ext {f : FuncId} {fn : Func} {name : String} {neg : Bool} {win : Ordering} (hf : P.funcs[f]? = some fn) (hname : (fn.name == "runtime.NumGoroutine") = false)
    (hb : fn.body.isNone = true) (hn : Extern.findNext fn = none) (he : Extern.find fn = some (Extern.MathDim.pick name neg win)) (x y : Nat) : PureTo P f [.fl .f64 x, .fl .f64 y] (.v (.float .f64 (pickW neg win x y))) := by
  intro S vals hwf hr
  obtain ⟨h1, h2⟩ := hr
  match vals, h1 with
  | [v, u], _ =>
    have hv := h2 0 (by simp) (by simp)
    have hu := h2 1 (by simp) (by simp)
    simp only [List.getElem_cons_zero, List.getElem_cons_succ] at hv hu
    obtain ⟨a', rfl, ha⟩ := repI_fl hv
    obtain ⟨b', rfl, hb'⟩ := repI_fl hu
    unfold CalledTo
    rw [run_callFunc_extern hf hname hb hn he]
    have hrun : (Extern.MathDim.pick name neg win ([.float .f64 a', .float .f64 b'] : List Value).toArray).run P S.w = .ok (.float .f64 (pickW neg win a' b')) S.w := rfl
    rw [hrun, Result.andThen_ok, pick_rep ha hb']
    exact ⟨Grows.refl _, .v _ trivial⟩

end
end Go.Ev

/- Floats: what is reckoned is a word; where it is a number. -/
set_option exponentiation.threshold 2000
namespace Go.Ev
open Go Ieee

def FFin (x : Nat) : Prop := ∃ s m i, FloatKind.f64.format.read x = .number s m i
def FWord (x : Nat) : Prop := x < 18446744073709551616

theorem word_form (neg : Bool) (r : Nat) : Format.word double neg r = (if neg then 9223372036854775808 else 0) + r := by
  unfold Format.word
  cases neg
  · simp
  · rfl

theorem nearest_form (neg : Bool) (mag : Nat) (place : Int) : ∃ r, r ≤ 9218868437227405312 ∧ FloatKind.f64.format.nearest neg mag place = (if neg then 9223372036854775808 else 0) + r := by
  show ∃ r, r ≤ 9218868437227405312 ∧ double.nearest neg mag place = _
  unfold Format.nearest
  split
  · exact ⟨0, Nat.zero_le _, word_form _ _⟩
  · exact ⟨_, Nat.min_le_right _ _, word_form _ _⟩

theorem form_word {neg : Bool} {r : Nat} (h : r ≤ 9218868437227405312) : FWord ((if neg then 9223372036854775808 else 0) + r) ∧ ((if neg then 9223372036854775808 else 0) + r) % 9223372036854775808 = r ∧
    ((((if neg then 9223372036854775808 else 0) + r) / 9223372036854775808 % 2 == 1) = neg) := by
  unfold FWord
  cases neg
  · simp only [Bool.false_eq_true, if_false, Nat.zero_add, beq_eq_false_iff_ne, ne_eq]
    omega
  · simp only [if_true, beq_iff_eq]
    omega

theorem low_nan {x : Nat} (h : x % 9223372036854775808 ≤ 9218868437227405312) [Globs] : ¬ nanB .f64 x := by
  rw [nanB_iff, Go.Fl.read64]
  split
  · intro h; cases h
  · split
    · intro h; cases h
    · rw [if_pos (by omega)]
      intro h; cases h

theorem read_neg (x : Nat) : (FloatKind.f64.format.read x).neg = (x / 9223372036854775808 % 2 == 1) := by
  rw [Go.Fl.read64]
  split
  · rfl
  · split
    · rfl
    · split <;> rfl

/-- what is written is no NaN and a word -/
def FClean (x : Nat) : Prop := FWord x ∧ x % 9223372036854775808 ≤ 9218868437227405312

theorem write_clean (d : Datum) (h : d.isNaN = false) : FClean (FloatKind.f64.format.write d) := by
  cases d with
  | nan => cases h
  | infinity s =>
    have e : FloatKind.f64.format.write (.infinity s) = (if s then 9223372036854775808 else 0) + 9218868437227405312 := word_form _ _
    rw [e]
    obtain ⟨h1, h2, _⟩ := form_word (neg := s) (Nat.le_refl 9218868437227405312)
    exact ⟨h1, by rw [h2]; exact Nat.le_refl _⟩
  | number s m i =>
    obtain ⟨r, hr, e⟩ := nearest_form s m i
    have e' : FloatKind.f64.format.write (.number s m i) = (if s then 9223372036854775808 else 0) + r := e
    rw [e']
    obtain ⟨h1, h2, _⟩ := form_word (neg := s) hr
    exact ⟨h1, by rw [h2]; exact hr⟩

theorem FClean.num [Globs] {x : Nat} (h : FClean x) : ¬ nanB .f64 x := low_nan h.2

theorem sum_nan {a b d : Datum} (h : a.sum b = some d) : d.isNaN = false := by
  cases a <;> cases b <;> simp only [Datum.sum] at h
  all_goals first
    | (cases h; done)
    | (cases h; rfl)
    | (split at h <;> first | (cases h; done) | (cases h; rfl))
theorem prod_nan {a b d : Datum} (h : a.product b = some d) : d.isNaN = false := by
  cases a <;> cases b <;> simp only [Datum.product] at h
  all_goals first
    | (cases h; done)
    | (cases h; rfl)
    | (split at h <;> first | (cases h; done) | (cases h; rfl))
theorem quo_nan {n : Nat} {a b d : Datum} (h : a.quotient n b = some d) : d.isNaN = false := by
  cases a <;> cases b <;> simp only [Datum.quotient] at h
  all_goals first
    | (cases h; done)
    | (cases h; rfl)
    | (split at h
       · split at h <;> first | (cases h; done) | (cases h; rfl)
       · cases h; rfl)

theorem getD_word {o : Option Nat} (h : ∀ r, o = some r → FClean r) : FWord (o.getD qnan) := by
  cases o with
  | none => show qnan < _; decide
  | some r => exact (h r rfl).1
theorem getD_clean {o : Option Nat} (h : ∀ r, o = some r → FClean r) (hs : o ≠ none) : FClean (o.getD qnan) := by
  cases o with
  | none => exact absurd rfl hs
  | some r => exact h r rfl

theorem add_clean {a b r : Nat} (h : FloatKind.f64.format.add a b = some r) : FClean r := by
  unfold Format.add at h
  obtain ⟨d, hd, rfl⟩ := Option.map_eq_some_iff.1 h
  exact write_clean d (sum_nan hd)
theorem sub_clean {a b r : Nat} (h : FloatKind.f64.format.sub a b = some r) : FClean r := by
  unfold Format.sub at h
  obtain ⟨d, hd, rfl⟩ := Option.map_eq_some_iff.1 h
  exact write_clean d (sum_nan hd)
theorem mul_clean {a b r : Nat} (h : FloatKind.f64.format.mul a b = some r) : FClean r := by
  unfold Format.mul at h
  obtain ⟨d, hd, rfl⟩ := Option.map_eq_some_iff.1 h
  exact write_clean d (prod_nan hd)
theorem div_clean {a b r : Nat} (h : FloatKind.f64.format.div a b = some r) : FClean r := by
  unfold Format.div at h
  obtain ⟨d, hd, rfl⟩ := Option.map_eq_some_iff.1 h
  exact write_clean d (quo_nan hd)

theorem fadd_word (a b : Nat) : FWord (fadd a b) := getD_word fun _ h => add_clean h
theorem fsub_word (a b : Nat) : FWord (fsub a b) := getD_word fun _ h => sub_clean h
theorem fmul_word (a b : Nat) : FWord (fmul a b) := getD_word fun _ h => mul_clean h
theorem fdiv_word (a b : Nat) : FWord (fdiv a b) := getD_word fun _ h => div_clean h

theorem fadd_fin {a b : Nat} (ha : FFin a) (hb : FFin b) : FClean (fadd a b) := by
  obtain ⟨s, m, i, e1⟩ := ha
  obtain ⟨t, n, j, e2⟩ := hb
  refine getD_clean (fun _ h => add_clean h) ?_
  unfold Format.add
  rw [e1, e2]
  simp [Datum.sum]
theorem fsub_fin {a b : Nat} (ha : FFin a) (hb : FFin b) : FClean (fsub a b) := by
  obtain ⟨s, m, i, e1⟩ := ha
  obtain ⟨t, n, j, e2⟩ := hb
  refine getD_clean (fun _ h => sub_clean h) ?_
  unfold Format.sub
  rw [e1, e2]
  simp [Datum.sum, Datum.opposite]
theorem fmul_fin {a b : Nat} (ha : FFin a) (hb : FFin b) : FClean (fmul a b) := by
  obtain ⟨s, m, i, e1⟩ := ha
  obtain ⟨t, n, j, e2⟩ := hb
  refine getD_clean (fun _ h => mul_clean h) ?_
  unfold Format.mul
  rw [e1, e2]
  simp [Datum.product]

end Go.Ev

/- Floats are held against each other as their words are. -/
set_option exponentiation.threshold 2200
namespace Go.Ev
open Go Ieee

/-- a word without its sign -/
def rg (x : Nat) : Nat := x % 9223372036854775808
/-- a word as a number on one line: the greater float has the greater one -/
def skey (x : Nat) : Int := if x / 9223372036854775808 % 2 == 1 then -(rg x : Int) else rg x

/-- a word's significand, and the place of its last digit above the least -/
def sigM (r : Nat) : Nat := if r < 4503599627370496 then r else 4503599627370496 + r % 4503599627370496
def sigK (r : Nat) : Nat := if r < 4503599627370496 then 0 else r / 4503599627370496 - 1
def valN (r : Nat) : Nat := sigM r * 2 ^ sigK r

theorem valN_lt {r s : Nat} (h : r < s) : valN r < valN s := by
  unfold valN sigM sigK
  by_cases h1 : s < 4503599627370496
  · rw [if_pos h1, if_pos h1, if_pos (by omega), if_pos (by omega)]
    simpa using h
  rw [if_neg h1, if_neg h1]
  by_cases h2 : r < 4503599627370496
  · rw [if_pos h2, if_pos h2]
    have : 1 ≤ 2 ^ (s / 4503599627370496 - 1) := Nat.one_le_two_pow
    calc r * 2 ^ 0 = r := by simp
      _ < (4503599627370496 + s % 4503599627370496) * 1 := by omega
      _ ≤ _ := Nat.mul_le_mul_left _ this
  rw [if_neg h2, if_neg h2]
  by_cases h3 : r / 4503599627370496 = s / 4503599627370496
  · rw [h3]
    exact Nat.mul_lt_mul_of_pos_right (by omega) Nat.one_le_two_pow
  · obtain ⟨d, hd⟩ : ∃ d, s / 4503599627370496 - 1 = (r / 4503599627370496 - 1) + (d + 1) := ⟨s / 4503599627370496 - 1 - (r / 4503599627370496 - 1) - 1, by omega⟩
    rw [hd, Nat.pow_add, ← Nat.mul_assoc, Nat.mul_right_comm]
    refine Nat.mul_lt_mul_of_pos_right ?_ Nat.one_le_two_pow
    have : 2 ≤ 2 ^ (d + 1) := by
      rw [Nat.pow_succ]
      have := Nat.one_le_two_pow (n := d)
      omega
    calc 4503599627370496 + r % 4503599627370496 < 4503599627370496 * 2 := by omega
      _ ≤ (4503599627370496 + s % 4503599627370496) * 2 := by omega
      _ ≤ _ := Nat.mul_le_mul_left _ this

theorem read_num {x : Nat} (h : rg x < 9218868437227405312) : FloatKind.f64.format.read x = .number (x / 9223372036854775808 % 2 == 1) (sigM (rg x)) (-1074 + (sigK (rg x) : Int)) := by
  unfold rg at h
  rw [Go.Fl.read64]
  unfold sigM sigK rg
  split
  · simp
  · simp
theorem read_inf {x : Nat} (h : rg x = 9218868437227405312) : FloatKind.f64.format.read x = .infinity (x / 9223372036854775808 % 2 == 1) := by
  unfold rg at h
  rw [Go.Fl.read64, h]
  rfl

theorem compare_int (a b : Int) : compare a b = if a < b then .lt else if a = b then .eq else .gt := rfl
theorem compare_scale (a b : Int) (c : Nat) (hc : 0 < c) : compare (a * c) (b * c) = compare a b := by
  rw [compare_int, compare_int]
  have hc' : (0 : Int) < c := by omega
  have h1 : a * c < b * c ↔ a < b := Int.mul_lt_mul_right hc'
  have h2 : a * c = b * c ↔ a = b := ⟨fun h => Int.eq_of_mul_eq_mul_right (by omega) h, fun h => by rw [h]⟩
  simp only [h1, h2]

theorem signed_scale (s : Bool) (m k : Nat) (i base : Int) (hi : i = -1074 + (k : Int)) (h1 : base ≤ i) (h2 : -1074 ≤ base) : signed s m (i - base).toNat * ((2 ^ (base + 1074).toNat : Nat) : Int) = if s then -((m * 2 ^ k : Nat) : Int) else ((m * 2 ^ k : Nat) : Int) := by
  have e : (m * 2 ^ (i - base).toNat) * 2 ^ (base + 1074).toNat = m * 2 ^ k := by
    rw [Nat.mul_assoc, ← Nat.pow_add]
    congr 2
    omega
  unfold signed
  rw [Nat.shiftLeft_eq]
  cases s
  · simp only [Bool.false_eq_true, if_false]
    rw [← Int.natCast_mul, e]
  · simp only [if_true]
    rw [Int.neg_mul, ← Int.natCast_mul, e]

/-- sign and amount -/
def sv (s : Bool) (n : Nat) : Int := if s then -(n : Int) else n

theorem sv_compare {r r' : Nat} (s t : Bool) : compare (sv s (valN r)) (sv t (valN r')) = compare (sv s r) (sv t r') := by
  have hm : ∀ a b : Nat, (valN a < valN b ↔ a < b) := fun a b => ⟨fun h => by
    rcases Nat.lt_trichotomy a b with h1 | h1 | h1
    · exact h1
    · subst h1; omega
    · have := valN_lt h1; omega, valN_lt⟩
  have h1 := hm r r'
  have h2 := hm r' r
  have z : valN 0 = 0 := rfl
  have p1 := hm 0 r
  have p2 := hm 0 r'
  rw [z] at p1 p2
  rw [compare_int, compare_int]
  unfold sv
  cases s <;> cases t <;> simp only [Bool.false_eq_true, if_false, if_true]
  · have a1 : ((valN r : Int) < (valN r' : Int)) ↔ ((r : Int) < (r' : Int)) := by omega
    have a2 : ((valN r : Int) = (valN r' : Int)) ↔ ((r : Int) = (r' : Int)) := by omega
    simp only [a1, a2]
  · have a1 : ((valN r : Int) < -(valN r' : Int)) ↔ ((r : Int) < -(r' : Int)) := by omega
    have a2 : ((valN r : Int) = -(valN r' : Int)) ↔ ((r : Int) = -(r' : Int)) := by omega
    simp only [a1, a2]
  · have a1 : (-(valN r : Int) < (valN r' : Int)) ↔ (-(r : Int) < (r' : Int)) := by omega
    have a2 : (-(valN r : Int) = (valN r' : Int)) ↔ (-(r : Int) = (r' : Int)) := by omega
    simp only [a1, a2]
  · have a1 : (-(valN r : Int) < -(valN r' : Int)) ↔ (-(r : Int) < -(r' : Int)) := by omega
    have a2 : (-(valN r : Int) = -(valN r' : Int)) ↔ (-(r : Int) = -(r' : Int)) := by omega
    simp only [a1, a2]

/-- THE ORDER of two floats that are numbers or infinite -/
theorem order_key {x y : Nat} (hx : rg x ≤ 9218868437227405312) (hy : rg y ≤ 9218868437227405312) : FloatKind.f64.format.order x y = some (compare (skey x) (skey y)) := by
  have kx : skey x = sv (x / 9223372036854775808 % 2 == 1) (rg x) := rfl
  have ky : skey y = sv (y / 9223372036854775808 % 2 == 1) (rg y) := rfl
  unfold Format.order
  rw [kx, ky]
  rcases Nat.lt_or_eq_of_le hx with h1 | h1
  · rw [read_num h1]
    rcases Nat.lt_or_eq_of_le hy with h2 | h2
    · rw [read_num h2]
      generalize (x / 9223372036854775808 % 2 == 1) = s at *
      generalize (y / 9223372036854775808 % 2 == 1) = t at *
      show some (compare (signed s (sigM (rg x)) (-1074 + (sigK (rg x) : Int) - min (-1074 + (sigK (rg x) : Int)) (-1074 + (sigK (rg y) : Int))).toNat)
        (signed t (sigM (rg y)) (-1074 + (sigK (rg y) : Int) - min (-1074 + (sigK (rg x) : Int)) (-1074 + (sigK (rg y) : Int))).toNat)) = _
      have hb1 : min (-1074 + (sigK (rg x) : Int)) (-1074 + (sigK (rg y) : Int)) ≤ -1074 + (sigK (rg x) : Int) := Int.min_le_left _ _
      have hb2 : min (-1074 + (sigK (rg x) : Int)) (-1074 + (sigK (rg y) : Int)) ≤ -1074 + (sigK (rg y) : Int) := Int.min_le_right _ _
      have hb3 : -1074 ≤ min (-1074 + (sigK (rg x) : Int)) (-1074 + (sigK (rg y) : Int)) := by omega
      generalize min (-1074 + (sigK (rg x) : Int)) (-1074 + (sigK (rg y) : Int)) = base at *
      rw [← compare_scale _ _ (2 ^ (base + 1074).toNat) Nat.one_le_two_pow, signed_scale s _ _ _ base rfl hb1 hb3, signed_scale t _ _ _ base rfl hb2 hb3]
      exact congrArg some (sv_compare s t)
    · rw [read_inf h2, h2]
      generalize (x / 9223372036854775808 % 2 == 1) = s at *
      generalize (y / 9223372036854775808 % 2 == 1) = t at *
      show some (if t then Ordering.gt else Ordering.lt) = _
      rw [compare_int]
      unfold sv
      cases s <;> cases t <;> simp only [Bool.false_eq_true, if_false, if_true]
      · rw [if_pos (by omega)]
      · rw [if_neg (by omega), if_neg (by omega)]
      · rw [if_pos (by omega)]
      · rw [if_neg (by omega), if_neg (by omega)]
  · rw [read_inf h1, h1]
    rcases Nat.lt_or_eq_of_le hy with h2 | h2
    · rw [read_num h2]
      generalize (x / 9223372036854775808 % 2 == 1) = s at *
      generalize (y / 9223372036854775808 % 2 == 1) = t at *
      show some (if s then Ordering.lt else Ordering.gt) = _
      rw [compare_int]
      unfold sv
      cases s <;> cases t <;> simp only [Bool.false_eq_true, if_false, if_true]
      · rw [if_neg (by omega), if_neg (by omega)]
      · rw [if_neg (by omega), if_neg (by omega)]
      · rw [if_pos (by omega)]
      · rw [if_pos (by omega)]
    · rw [read_inf h2, h2]
      generalize (x / 9223372036854775808 % 2 == 1) = s at *
      generalize (y / 9223372036854775808 % 2 == 1) = t at *
      show some (compare t.toNat s.toNat) = _
      cases s <;> cases t <;> rfl

/-- not a NaN -/
def Num (x : Nat) : Prop := rg x ≤ 9218868437227405312
theorem num_iff [Globs] {x : Nat} : Num x ↔ ¬ nanB .f64 x := by
  constructor
  · exact fun h => low_nan h
  · intro h
    unfold Num
    rcases Nat.lt_or_ge 9218868437227405312 (rg x) with h1 | h1
    · refine absurd ?_ h
      rw [nanB_iff, Go.Fl.read64]
      unfold rg at h1
      rw [if_neg (by omega), if_neg (by omega), if_neg (by omega)]
      rfl
    · exact h1
theorem flt_key {x y : Nat} (hx : Num x) (hy : Num y) : flt .f64 x y = decide (skey x < skey y) := by
  unfold flt
  rw [order_key hx hy, compare_int]
  by_cases h : skey x < skey y
  · rw [if_pos h, decide_eq_true h]; rfl
  · rw [if_neg h, decide_eq_false h]; split <;> rfl
theorem feq_key {x y : Nat} (hx : Num x) (hy : Num y) : feq .f64 x y = decide (skey x = skey y) := by
  unfold feq
  rw [order_key hx hy, compare_int]
  by_cases h : skey x < skey y
  · rw [if_pos h, decide_eq_false (by omega)]; rfl
  · rw [if_neg h]
    by_cases h2 : skey x = skey y
    · rw [if_pos h2, decide_eq_true h2]; rfl
    · rw [if_neg h2, decide_eq_false h2]; rfl
theorem fgt_key {x y : Nat} (hx : Num x) (hy : Num y) : fgt .f64 x y = decide (skey x > skey y) := by
  unfold fgt
  rw [order_key hx hy, compare_int]
  by_cases h : skey x < skey y
  · rw [if_pos h, decide_eq_false (by omega)]; rfl
  · rw [if_neg h]
    by_cases h2 : skey x = skey y
    · rw [if_pos h2, decide_eq_false (by omega)]; rfl
    · rw [if_neg h2, decide_eq_true (by omega)]; rfl
theorem nan_cmp [Globs] {x y : Nat} (h : ¬ Num x ∨ ¬ Num y) : flt .f64 x y = false ∧ feq .f64 x y = false ∧ fgt .f64 x y = false := by
  have e : FloatKind.f64.format.order x y = none := by
    rcases h with h | h
    · exact Go.Fl.nan_order (.inl (nanB_iff.1 (Classical.not_not.1 fun hn => h (num_iff.2 hn))))
    · exact Go.Fl.nan_order (.inr (nanB_iff.1 (Classical.not_not.1 fun hn => h (num_iff.2 hn))))
  unfold flt feq fgt
  rw [e]
  exact ⟨rfl, rfl, rfl⟩

end Go.Ev

/- Arguments that are structs of plain parts: what their cells are. -/
namespace Go.Ev
variable [Globs]
open Go.ChangeShapes Go.WideShapes Go.ChangeAt Go.RowKit

section
variable {P : Program}

theorem read_struct {t : TypeId} {fs : Array Field} {ts : List TypeId} {W : World} {r : Reach} {b0 : Nat} {v : Value} (hs : P.underlying t = some (.struct fs)) (ht : P.cellTypes P.depth t = some ts) (hn : P.cellsOf t = ts.length)
    (hval : Value.okWide P W r b0 t v) : ∃ arr : Array Value, v = .agg arr ∧ arr.size = ts.length ∧ ∀ i (h : i < ts.length), Cell.okWide P W r b0 ts[i] (arr.getD i undef) := by
  unfold Value.okWide at hval
  rw [hs] at hval
  obtain ⟨arr, rfl, hsz, ts', h1, _, h3⟩ := hval
  rw [ht] at h1
  cases h1
  refine ⟨arr, rfl, by rw [hsz, hn], fun i hi => ?_⟩
  have hi' : i < arr.size := by rw [hsz, hn]; exact hi
  obtain ⟨u, hu, hc⟩ := h3 i arr[i] (by simp [hi'])
  rw [Nat.mod_eq_of_lt hi, List.getElem?_eq_getElem hi] at hu
  cases hu
  simpa [hi'] using hc

theorem cell_int {u : TypeId} {k : IntKind} {W : World} {r : Reach} {b0 : Nat} {v : Value} (hu : P.underlying u = some (.int k)) (h : Cell.okWide P W r b0 u v) : ∃ n, v = .int k n ∧ inR k n := by
  unfold Cell.okWide at h
  rw [hu] at h
  unfold Cell.ok at h
  rw [hu] at h
  cases v <;> simp at h
  obtain ⟨rfl, hn⟩ := h
  refine ⟨_, rfl, ?_⟩
  rename_i k n
  cases k <;> simp [IntKind.has, IntKind.min, IntKind.max, IntKind.signed, IntKind.bits] at hn <;> simp only [inR] <;> omega

theorem cell_bool {u : TypeId} {W : World} {r : Reach} {b0 : Nat} {v : Value} (hu : P.underlying u = some .bool) (h : Cell.okWide P W r b0 u v) : ∃ b, v = .bool b := by
  unfold Cell.okWide at h
  rw [hu] at h
  unfold Cell.ok at h
  rw [hu] at h
  cases v <;> simp at h
  exact ⟨_, rfl⟩

theorem cell_float {u : TypeId} {W : World} {r : Reach} {b0 : Nat} {v : Value} (hu : P.underlying u = some (.float .f64)) (h : Cell.okWide P W r b0 u v) : ∃ b, v = .float .f64 b ∧ b < 18446744073709551616 := by
  unfold Cell.okWide at h
  rw [hu] at h
  unfold Cell.ok at h
  rw [hu] at h
  cases v <;> simp at h
  obtain ⟨rfl, hn⟩ := h
  exact ⟨_, rfl, by simpa [FloatKind.has] using hn⟩

theorem cell_string {u : TypeId} {W : World} {r : Reach} {b0 : Nat} {v : Value} (hu : P.underlying u = some .string) (h : Cell.okWide P W r b0 u v) : ∃ s, v = .string s ∧ (s.size : Int) ≤ 9223372036854775807 := by
  unfold Cell.okWide at h
  rw [hu] at h
  unfold Cell.ok at h
  rw [hu] at h
  cases v <;> simp at h
  exact ⟨_, rfl, by simpa using h⟩

theorem read_float {t : TypeId} {W : World} {r : Reach} {b0 : Nat} {v : Value} (ht : P.underlying t = some (.float .f64)) (hval : Value.okWide P W r b0 t v) : ∃ b, v = .float .f64 b ∧ b < 18446744073709551616 := by
  unfold Value.okWide at hval
  rw [ht] at hval
  exact cell_float ht hval
end
end Go.Ev

/- Arguments of any first-order type, read: cell by cell, with their shape (fuel: how deep). -/
namespace Go.Ev
variable [Globs]
open Go.ChangeShapes Go.WideShapes Go.ChangeAt Go.RowKit

section
variable {H : Type} {enc : TypeId × Value → H} {P : Program} {w : World} {base : Nat} {spare : Nat → Bool} {held : Bool}

/-- fields one behind the other, from 'off' to n -/
def contig (P : Program) : Nat → List Field → Nat → Bool
  | off, [], n => Nat.beq off n
  | off, f :: r, n => Nat.beq f.offset off && contig P (off + P.cellsOf f.type) r n

def foT (P : Program) (ts : List TypeId) (t : TypeId) : Bool :=
  match P.underlying t with
  | some (.int _) | some (.float .f64) | some .bool | some .string => Nat.beq (P.cellsOf t) 1
  | some (.slice e) => Nat.beq (P.cellsOf t) 1 && (ts.any (Nat.beq e) && (Nat.blt 0 (P.cellsOf e) && (match P.underlying e with | some (.int _) | some .string => false | _ => true)))
  | some (.struct fs) => contig P 0 fs.toList (P.cellsOf t) && fs.toList.all fun f => ts.any (Nat.beq f.type)
  | _ => false
/-- types of ints, floats, bools, texts, slices and structs, closed under their parts -/
def fo (P : Program) (ts : List TypeId) : Bool := ts.all (foT P ts)

/-- the cells of an element as a value -/
def wrapA (P : Program) (e : TypeId) (xs : List AV) : AV :=
  match P.underlying e with
  | some (.struct _) => .agg xs
  | _ => xs.headD .junk

def Shape (P : Program) : Nat → TypeId → List AV → Prop
  | 0, _, _ => False
  | d + 1, t, xs => match P.underlying t with
    | some (.int k) => ∃ n, xs = [.v (.int k n)] ∧ (Lit.int k n).wf = true
    | some (.float k) => ∃ b, xs = [.v (.float k b)] ∧ (Lit.float k b).wf = true
    | some .bool => ∃ b, xs = [.v (.bool b)]
    | some .string => ∃ s, xs = [.v (.string s)] ∧ s.size ≤ maxLen
    | some (.slice e) => ∃ l : List (List AV), xs = [.sl (P.cellsOf e) (.avs (l.map (wrapA P e))) false] ∧ l.length ≤ maxLen ∧ ∀ y ∈ l, y.length = P.cellsOf e ∧ Shape P d e y
    | some (.struct fs) => xs.length = P.cellsOf t ∧ ∀ f ∈ fs.toList, Shape P d f.type ((xs.drop f.offset).take (P.cellsOf f.type))
    | _ => False

def RepC (w : World) (cs : List Value) (xs : List AV) : Prop := cs.length = xs.length ∧ ∀ i (h1 : i < cs.length) (h2 : i < xs.length), RepI w (fun _ => True) cs[i] xs[i] ∧ okV cs[i]

theorem repC_one {v : Value} {x : AV} (h : RepI w (fun _ => True) v x) (ho : okV v) : RepC w [v] [x] := ⟨rfl, fun i h1 _ => by
  have : i = 0 := by simpa using h1
  subst this
  exact ⟨h, ho⟩⟩

theorem cells?_spec {a : Addr} {n : Nat} {cs : List Value} (h : w.cells? base a n = some cs) : cs.length = n ∧ ∀ j (hj : j < cs.length), w.cell? (a.add j) = some cs[j] := by
  unfold World.cells? at h
  split at h
  · have main : ∀ (l : List Nat) (cs : List Value), (l.mapM fun i => w.cell? (a.add i)) = some cs → cs.length = l.length ∧ ∀ j (hj : j < cs.length) (hl : j < l.length), w.cell? (a.add l[j]) = some cs[j] := by
      intro l
      induction l with
      | nil => intro cs h; simp at h; subst h; exact ⟨rfl, fun j hj => absurd hj (by simp)⟩
      | cons x l ih =>
        intro cs h
        simp only [List.mapM_cons, Option.bind_eq_bind, Option.bind_eq_some_iff, Option.pure_def, Option.some.injEq] at h
        obtain ⟨v, hv, vs, hvs, rfl⟩ := h
        obtain ⟨h1, h2⟩ := ih vs hvs
        refine ⟨by simp [h1], fun j hj hl => ?_⟩
        cases j with
        | zero => simpa using hv
        | succ j => simpa using h2 j (by simpa using hj) (by simpa using hl)
    obtain ⟨h1, h2⟩ := main _ _ h
    refine ⟨by simpa using h1, fun j hj => ?_⟩
    have := h2 j hj (by rw [← h1]; exact hj)
    simpa using this
  · cases h

theorem add_add' (a : Addr) (m j : Nat) : (a.add m).add j = a.add (m + j) := by
  unfold Addr.add
  by_cases hm : m = 0 <;> by_cases hj : j = 0 <;> simp [hm, hj, Nat.add_assoc]

theorem mem_any {ts : List TypeId} {e : TypeId} (h : (ts.any (Nat.beq e)) = true) : e ∈ ts := by
  obtain ⟨x, hx, hb⟩ := List.any_eq_true.1 h
  have := Nat.eq_of_beq_eq_true hb
  subst this
  exact hx

theorem wrapA_cells {e : TypeId} {xs : List AV} (hl : xs.length = P.cellsOf e) (h1 : (∀ fs, P.underlying e ≠ some (.struct fs)) → P.cellsOf e = 1) (hp : ∀ x ∈ xs, ∀ cs, x ≠ .agg cs) : (wrapA P e xs).cells = xs := by
  unfold wrapA
  split
  · rfl
  · next hne =>
    have := h1 hne
    match xs, hl.trans this with
    | [x], _ =>
      show x.cells = [x]
      have := hp x (by simp)
      cases x <;> first | rfl | (exact absurd rfl (this _))

theorem RepC.append {cs ds : List Value} {xs ys : List AV} (h : RepC w cs xs) (g : RepC w ds ys) : RepC w (cs ++ ds) (xs ++ ys) := by
  refine ⟨by simp [h.1, g.1], fun i h1 h2 => ?_⟩
  by_cases hi : i < cs.length
  · have hi' : i < xs.length := by rw [← h.1]; exact hi
    rw [List.getElem_append_left hi, List.getElem_append_left hi']
    exact h.2 i hi hi'
  · have hi' : ¬ i < xs.length := by rw [← h.1]; exact hi
    rw [List.getElem_append_right (by omega), List.getElem_append_right (by omega)]
    have e : i - xs.length = i - cs.length := by rw [h.1]
    simp only [e]
    exact g.2 (i - cs.length) (by simp at h1; omega) (by simp at h2; rw [← h.1] at h2; omega)

/-- the fields' cells, laid one behind the other -/
theorem fields_shape {d n : Nat} {cs : List Value} : ∀ (r : List Field) (off : Nat), contig P off r n = true → cs.length = n →
    (∀ f ∈ r, ∃ xs, RepC w ((cs.drop f.offset).take (P.cellsOf f.type)) xs ∧ Shape P d f.type xs ∧ ((cs.drop f.offset).take (P.cellsOf f.type)).length = P.cellsOf f.type ∧ ∀ y ∈ xs, ∀ c, y ≠ .agg c) →
    ∃ ys, RepC w (cs.drop off) ys ∧ (∀ f ∈ r, off ≤ f.offset ∧ Shape P d f.type ((ys.drop (f.offset - off)).take (P.cellsOf f.type))) ∧ ∀ y ∈ ys, ∀ c, y ≠ .agg c
  | [], off, h, hl, _ => by
    have := Nat.eq_of_beq_eq_true h
    subst this
    refine ⟨[], ⟨by simp [hl], fun i h1 h2 => absurd h2 (by simp)⟩, fun f hf => (by cases hf), fun y hy => (by cases hy)⟩
  | f :: r, off, h, hl, hf => by
    simp only [contig, Bool.and_eq_true] at h
    have ho := Nat.eq_of_beq_eq_true h.1
    obtain ⟨xs, h1, h2, h3, h4⟩ := hf f (by simp)
    obtain ⟨ys, g1, g2, g3⟩ := fields_shape r (off + P.cellsOf f.type) h.2 hl fun f' hf' => hf f' (by simp [hf'])
    rw [ho] at h1 h3
    have hxl : xs.length = P.cellsOf f.type := by rw [← h1.1]; exact h3
    refine ⟨xs ++ ys, ?_, fun f' hf' => ?_, fun y hy => ?_⟩
    · have e : cs.drop off = (cs.drop off).take (P.cellsOf f.type) ++ cs.drop (off + P.cellsOf f.type) := by
        rw [← List.drop_drop, List.take_append_drop]
      rw [e]
      exact h1.append g1
    · rcases List.mem_cons.1 hf' with rfl | hf'
      · rw [ho, Nat.sub_self]
        refine ⟨Nat.le_refl _, ?_⟩
        have e : ((xs ++ ys).drop 0).take (P.cellsOf f'.type) = xs := by
          rw [List.drop_zero, ← hxl, List.take_left]
        rw [e]
        exact h2
      · obtain ⟨k1, k2⟩ := g2 f' hf'
        refine ⟨by omega, ?_⟩
        have e : (xs ++ ys).drop (f'.offset - off) = ys.drop (f'.offset - (off + P.cellsOf f.type)) := by
          rw [List.drop_append, List.drop_of_length_le (by omega), List.nil_append]
          congr 1
          omega
        rw [e]
        exact k2
    · rcases List.mem_append.1 hy with h | h
      · exact h4 y h
      · exact g3 y h

/-- **WHAT IS READ AT A FIRST-ORDER TYPE HAS ITS SHAPE.** -/
theorem read_any {ts : List TypeId} (hfo : fo P ts = true) : ∀ (fuel : Nat) (t : TypeId) (cs : List Value) (x : DataW H × List MemPlace), t ∈ ts → DataW.trod enc P w base spare held fuel t cs = some x →
    ∃ xs, RepC w cs xs ∧ Shape P fuel t xs ∧ cs.length = P.cellsOf t ∧ ∀ y ∈ xs, ∀ c, y ≠ .agg c := by
  intro fuel
  induction fuel with
  | zero => intro t cs x _ h; simp [DataW.trod] at h
  | succ n ih =>
    intro t cs x ht h
    have hft := List.all_eq_true.1 hfo t ht
    unfold foT at hft
    split at hft
    · next k hu =>
      have h1 := Nat.eq_of_beq_eq_true hft
      obtain ⟨m, rfl, rfl, hw⟩ := DataW.trod_int hu h
      exact ⟨[.v (.int k m)], repC_one (.v _ trivial) trivial, by unfold Shape; rw [hu]; exact ⟨m, rfl, hw⟩, by simp [h1], fun y hy c => by simp at hy; subst hy; exact fun e => by cases e⟩
    · next hu =>
      have h1 := Nat.eq_of_beq_eq_true hft
      have : ∃ b, cs = [.float .f64 b] ∧ (Lit.float .f64 b).wf = true := by
        unfold DataW.trod at h
        rw [hu] at h
        split at h <;> simp_all
      obtain ⟨b, rfl, hw⟩ := this
      exact ⟨[.v (.float .f64 b)], repC_one (.v _ trivial) trivial, by unfold Shape; rw [hu]; exact ⟨b, rfl, hw⟩, by simp [h1], fun y hy c => by simp at hy; subst hy; exact fun e => by cases e⟩
    · next hu =>
      have h1 := Nat.eq_of_beq_eq_true hft
      have : ∃ b, cs = [.bool b] := by
        unfold DataW.trod at h
        rw [hu] at h
        split at h <;> simp_all
      obtain ⟨b, rfl⟩ := this
      exact ⟨[.v (.bool b)], repC_one (.v _ trivial) trivial, by unfold Shape; rw [hu]; exact ⟨b, rfl⟩, by simp [h1], fun y hy c => by simp at hy; subst hy; exact fun e => by cases e⟩
    · next hu =>
      have h1 := Nat.eq_of_beq_eq_true hft
      obtain ⟨s, rfl, rfl, hw⟩ := DataW.trod_string hu h
      exact ⟨[.v (.string s)], repC_one (.v _ trivial) trivial, by unfold Shape; rw [hu]; exact ⟨s, rfl, hw⟩, by simp [h1], fun y hy c => by simp at hy; subst hy; exact fun e => by cases e⟩
    · next e hu =>
      simp only [Bool.and_eq_true] at hft
      obtain ⟨hf1, hf2, hf3, hf4⟩ := hft
      have h1 := Nat.eq_of_beq_eq_true hf1
      have he := mem_any hf2
      simp only [Nat.blt_eq] at hf3
      rcases DataW.trod_slice hu h with ⟨rfl, rfl⟩ | ⟨a, len, cap, elems, rest, m, hm0, rfl, rfl, hb, hl, hm, hlen, hel, _, _⟩
      · refine ⟨[.sl (P.cellsOf e) (.avs (([] : List (List AV)).map (wrapA P e))) false], repC_one (.slNil _ _ _ rfl) trivial, ?_, by simp [h1], fun y hy c => by simp at hy; subst hy; exact fun e => by cases e⟩
        unfold Shape
        rw [hu]
        exact ⟨[], rfl, Nat.zero_le _, fun y hy => by cases hy⟩
      · cases hm0
        have each : ∀ i, i < len → ∃ ci xi, w.cells? base (a.add (i * P.cellsOf e)) (P.cellsOf e) = some ci ∧ RepC w ci xi ∧ Shape P n e xi ∧ ci.length = P.cellsOf e ∧ ∀ y ∈ xi, ∀ c, y ≠ .agg c := by
          intro i hi
          have h2 := hel i hi
          rw [List.getElem?_eq_getElem (by omega), Option.bind_eq_some_iff] at h2
          obtain ⟨ci, hci, h3⟩ := h2
          obtain ⟨xi, k1, k2, k3, k4⟩ := ih e ci _ he h3
          exact ⟨ci, xi, hci, k1, k2, k3, k4⟩
        have ch : ∃ (C : Nat → List Value) (X : Nat → List AV), ∀ i, i < len → w.cells? base (a.add (i * P.cellsOf e)) (P.cellsOf e) = some (C i) ∧ RepC w (C i) (X i) ∧ Shape P n e (X i) ∧ (C i).length = P.cellsOf e ∧ ∀ y ∈ X i, ∀ c, y ≠ .agg c := by
          refine ⟨fun i => if hi : i < len then (each i hi).choose else [], fun i => if hi : i < len then (each i hi).choose_spec.choose else [], fun i hi => ?_⟩
          simp only [dif_pos hi]
          exact (each i hi).choose_spec.choose_spec
        obtain ⟨C, X, hCX⟩ := ch
        have hXl : ∀ i, i < len → (X i).length = P.cellsOf e := fun i hi => by
          obtain ⟨_, k2, _, k4, _⟩ := hCX i hi
          rw [← k2.1]; exact k4
        have hwc : ∀ i, i < len → (wrapA P e (X i)).cells = X i := fun i hi => by
          obtain ⟨_, _, _, _, k5⟩ := hCX i hi
          refine wrapA_cells (hXl i hi) (fun hne => ?_) k5
          have hfe := List.all_eq_true.1 hfo e he
          unfold foT at hfe
          split at hfe <;> first | exact Nat.eq_of_beq_eq_true hfe | (simp only [Bool.and_eq_true] at hfe; exact Nat.eq_of_beq_eq_true hfe.1) | skip
          · next fs hs => exact absurd hs (hne fs)
          · cases hfe
        let L : List (List AV) := (List.range len).map X
        have hLl : (L.map (wrapA P e)).length = len := by simp [L]
        have hget : ∀ i, i < len → (Seq.avs (L.map (wrapA P e))).get i = wrapA P e (X i) := fun i hi => by
          simp [Seq.get, L, hi]
        have hLen : (Seq.avs (L.map (wrapA P e))).len = len := hLl
        refine ⟨[.sl (P.cellsOf e) (.avs (L.map (wrapA P e))) false], repC_one (.sl a len cap (P.cellsOf e) _ false (fun i j => (C i).getD j undef) hLen.symm (by rw [hLen]; exact hl) (fun h => by cases h) hf3 (fun _ => trivial) (fun i hi => ?_) (fun i j hi hj => ?_) (fun i j hi hj => ?_)) trivial, ?_, by simp [h1], fun y hy c => by simp at hy; subst hy; exact fun e => by cases e⟩
        · rw [hLen] at hi
          rw [hget i hi, hwc i hi]
          exact hXl i hi
        · rw [hLen] at hi
          obtain ⟨k1, k2, _, k4, _⟩ := hCX i hi
          obtain ⟨_, m2⟩ := cells?_spec k1
          have hj' : j < (C i).length := by rw [k4]; exact hj
          have := m2 j hj'
          have e1 : (a.add (i * P.cellsOf e)).add j = a.add (i * P.cellsOf e + j) := by
            exact add_add' _ _ _
          rw [e1] at this
          simp only [List.getD_eq_getElem?_getD, List.getElem?_eq_getElem hj', Option.getD_some]
          exact ⟨this, (k2.2 j hj' (by rw [← k2.1]; exact hj')).2⟩
        · rw [hLen] at hi
          obtain ⟨k1, k2, _, k4, _⟩ := hCX i hi
          have hc := hwc i hi
          have hg := hget i hi
          have hjx : j < (X i).length := by rw [hg, hc] at hj; exact hj
          have hj' : j < (C i).length := by rw [k2.1]; exact hjx
          have := (k2.2 j hj' hjx).1
          have e1 : ((Seq.avs (L.map (wrapA P e))).get i).cells[j] = (X i)[j] := by
            have e2 : ((Seq.avs (L.map (wrapA P e))).get i).cells = X i := by rw [hg, hc]
            simp only [e2]
          rw [e1]
          simp only [List.getD_eq_getElem?_getD, List.getElem?_eq_getElem hj', Option.getD_some]
          exact this
        · unfold Shape
          rw [hu]
          refine ⟨L, rfl, by simp only [L, List.length_map, List.length_range]; omega, fun y hy => ?_⟩
          simp only [L, List.mem_map, List.mem_range] at hy
          obtain ⟨i, hi, rfl⟩ := hy
          exact ⟨hXl i hi, (hCX i hi).2.2.1⟩
    · next fs hu =>
      simp only [Bool.and_eq_true] at hft
      obtain ⟨xs, m, hm0, rfl, hcl, hxl, hfs⟩ := DataW.trod_struct hu h
      cases hm0
      obtain ⟨ys, g1, g2, g3⟩ := fields_shape (w := w) (d := n) (cs := cs) fs.toList 0 hft.1 hcl fun f hf => by
        obtain ⟨i, hi⟩ := List.getElem?_of_mem hf
        have hi' : fs[i]? = some f := by rw [← Array.getElem?_toList]; exact hi
        have hlt : i < fs.size := (Array.getElem?_eq_some_iff.1 hi').1
        have h2 := hfs i f hi'
        rw [List.getElem?_eq_getElem (by omega)] at h2
        obtain ⟨z, k1, k2, k3, k4⟩ := ih f.type _ _ (mem_any (List.all_eq_true.1 hft.2 f hf)) h2
        exact ⟨z, k1, k2, k3, k4⟩
      rw [List.drop_zero] at g1
      refine ⟨ys, g1, ?_, hcl, g3⟩
      unfold Shape
      rw [hu]
      refine ⟨by rw [← g1.1]; exact hcl, fun f hf => ?_⟩
      have := (g2 f hf).2
      rw [Nat.sub_zero] at this
      exact this
    · cases hft
/-- an argument that is a struct -/
theorem read_structs {ts : List TypeId} (hfo : fo P ts = true) {t : TypeId} {fs : Array Field} {W : World} {r : Reach} {b0 : Nat} {v : Value} {d : DataW H} {ps : List MemPlace} (ht : t ∈ ts) (hs : P.underlying t = some (.struct fs))
    (hval : Value.okWide P W r b0 t v) (h : DataW.Trod enc P W base spare held t v d ps) : ∃ n xs, RepI W (fun _ => True) v (.agg xs) ∧ Shape P n t xs := by
  unfold Value.okWide at hval
  rw [hs] at hval
  obtain ⟨arr, rfl, _⟩ := hval
  obtain ⟨n, hn⟩ := h
  obtain ⟨xs, h1, h2, h3, _⟩ := read_any hfo n t _ _ ht hn
  have hc : (Value.agg arr).cells.toList = arr.toList := rfl
  rw [hc] at h1
  refine ⟨n, xs, .agg arr xs (by rw [← h1.1, Array.length_toList]) (fun i hi => ?_), h2⟩
  have hi' : i < arr.toList.length := by rw [h1.1]; exact hi
  have := (h1.2 i hi' hi).1
  have hi2 : i < arr.size := by simpa using hi'
  simpa [Array.getD_eq_getD_getElem?, hi2] using this

/-- an argument that is a slice -/
theorem read_slice {ts : List TypeId} (hfo : fo P ts = true) {t e : TypeId} {W : World} {r : Reach} {b0 : Nat} {v : Value} {d : DataW H} {ps : List MemPlace} (ht : t ∈ ts) (hs : P.underlying t = some (.slice e))
    (hval : Value.okWide P W r b0 t v) (h : DataW.Trod enc P W base spare held t v d ps) : ∃ n x, RepI W (fun _ => True) v x ∧ Shape P n t [x] := by
  obtain ⟨a, len, cap, rfl⟩ := okWide_slice hs hval
  obtain ⟨n, hn⟩ := h
  obtain ⟨xs, h1, h2, h3, _⟩ := read_any hfo n t _ _ ht hn
  have hc : (Value.slice a len cap).cells.toList = [.slice a len cap] := rfl
  rw [hc] at h1
  match xs, h1 with
  | [x], h1 => exact ⟨n, x, (h1.2 0 (by simp) (by simp)).1, h2⟩
  | [], h1 => exact absurd h1.1 (by simp)
  | _ :: _ :: _, h1 => exact absurd h1.1 (by simp)
/-- a slice's elements told by a function -/
theorem sl_seq {U : Nat → Prop} {v : Value} {sz : Nat} {q q' : Seq AV} {t : Bool} (h : RepI w U v (.sl sz q t)) (hl : q'.len = q.len) (hg : ∀ i, i < q.len → q'.get i = q.get i) : RepI w U v (.sl sz q' t) := by
  cases h with
  | slNil _ _ _ hq => exact .slNil _ _ _ (by rw [hl]; exact hq)
  | sl ad n c _ _ _ u hn hcap ht hsz hU hcl hcell hrep =>
    refine .sl ad n c sz q' t u (by rw [hl]; exact hn) (by rw [hl]; exact hcap) (fun h => by rw [hl]; exact ht h) hsz (fun h => hU (by rw [← hl]; exact h)) (fun i hi => ?_) (fun i j hi hj => ?_) (fun i j hi hj => ?_)
    · rw [hl] at hi; rw [hg i hi]; exact hcl i hi
    · rw [hl] at hi; exact hcell i j hi hj
    · rw [hl] at hi
      have e := hg i hi
      have hj' : j < (q.get i).cells.length := by rw [← e]; exact hj
      have := hrep i j hi hj'
      simpa [e] using this
theorem sl_fn {U : Nat → Prop} {v : Value} {sz : Nat} {l : List AV} {t : Bool} {g : Nat → AV} (h : RepI w U v (.sl sz (.avs l) t)) (hg : ∀ i, i < l.length → g i = l.getD i .junk) : RepI w U v (.sl sz (.fn l.length g) t) :=
  sl_seq h rfl fun i hi => hg i hi
end
end Go.Ev
