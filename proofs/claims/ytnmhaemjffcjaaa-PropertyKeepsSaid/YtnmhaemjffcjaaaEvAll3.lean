/- An evaluator of the model's code, proved right. No condition. -/
import Derived.Test.YtnmhaemjffcjaaaEvAll2
import Derived.Laws.Externs
set_option linter.unusedSimpArgs false
set_option linter.unusedVariables false
set_option linter.unusedSectionVars false
/- Functions without a body: the bits of floats. -/
namespace Go.Ev
open Go

variable {P : Program}

theorem repIs_one {w : World} {U : Nat → Prop} {vals : List Value} {x : Value} (h : RepIs w U vals [.v x]) : vals = [x] := by
  obtain ⟨h1, h2⟩ := h
  match vals, h1 with
  | [v], _ =>
    have := h2 0 (by simp) (by simp)
    simp only [List.getElem_cons_zero] at this
    cases this
    rfl

/-- a function without a body, of one value that is told, answers with one that is told -/
theorem pure_extern {f : FuncId} {fn : Func} {e : Array Value → Sem Value} {x y : Value} (hf : P.funcs[f]? = some fn) (hname : (fn.name == "runtime.NumGoroutine") = false)
    (hb : fn.body.isNone = true) (hn : Extern.findNext fn = none) (he : Extern.find fn = some e) (hy : okV y) (hrun : ∀ w, (e #[x]).run P w = .ok y w) : PureTo P f [.v x] (.v y) := by
  intro S vals hwf hv
  have := repIs_one hv
  subst this
  unfold CalledTo
  rw [run_callFunc_extern hf hname hb hn he, show ([x] : List Value).toArray = #[x] from rfl, hrun, Result.andThen_ok]
  exact ⟨Grows.refl _, .v _ hy⟩

theorem bits_pure {f : FuncId} {fn : Func} (hf : P.funcs[f]? = some fn) (hname : (fn.name == "runtime.NumGoroutine") = false)
    (hb : fn.body.isNone = true) (hn : Extern.findNext fn = none) (he : Extern.find fn = some Extern.MathFloatBits.float64bits) (x : Nat) : PureTo P f [.v (.float .f64 x)] (.v (.int .u64 x)) :=
  pure_extern hf hname hb hn he trivial fun _ => rfl

theorem frombits_pure {f : FuncId} {fn : Func} (hf : P.funcs[f]? = some fn) (hname : (fn.name == "runtime.NumGoroutine") = false)
    (hb : fn.body.isNone = true) (hn : Extern.findNext fn = none) (he : Extern.find fn = some Extern.MathFloatBits.float64frombits) (x : Int) : PureTo P f [.v (.int .u64 x)] (.v (.float .f64 x.toNat)) :=
  pure_extern hf hname hb hn he trivial fun _ => rfl

theorem sigs_cons {SG : SGT} {f : FuncId} {sig : List AV → Option (AV × List Prop)} (h : SigsOK P SG) (hf : ∀ ys r c, sig ys = some (r, c) → AllP c → PureTo P f ys r) : SigsOK P ((f, .p sig) :: SG) := by
  intro g s hg
  simp only [Go.Ev.look] at hg
  split at hg
  · next hb =>
    cases hg
    have := Nat.eq_of_beq_eq_true hb
    subst this
    exact hf
  · exact h g s hg

theorem sigs_s {SG : SGT} {f : FuncId} {mask : List Bool} {sig : List AObj → List AV → Option (AV × List AObj × List Prop)} (h : SigsOK P SG) (hf : ∀ os ys r os' c, sig os ys = some (r, os', c) → AllP c → SharedTo P f os ys r os') : SigsOK P ((f, .s mask sig) :: SG) := by
  intro g s hg
  simp only [Go.Ev.look] at hg
  split at hg
  · next hb =>
    cases hg
    have := Nat.eq_of_beq_eq_true hb
    subst this
    exact hf
  · exact h g s hg

end Go.Ev
