/- An evaluator of the model's code, proved right. No condition. -/
import Derived.Test.YthceebioiinhiaaEvAll3
set_option linter.unusedSimpArgs false
set_option linter.unusedVariables false
set_option linter.unusedSectionVars false
/- Contracts over floats: known to the bit, or any NaN. -/
namespace Go.Ev
variable [Globs]
open Go

section
variable {P : Program}

theorem repI_fl {w : World} {U : Nat → Prop} {v : Value} {a : Nat} (h : RepI w U v (.fl .f64 a)) : ∃ a', v = .float .f64 a' ∧ FRep a' a := by
  cases h with
  | fl _ b _ h => exact ⟨b, rfl, h⟩
theorem FRep.repI {w : World} {U : Nat → Prop} {a' a : Nat} (h : FRep a' a) : RepI w U (.float .f64 a') (.fl .f64 a) := .fl _ _ _ h
theorem FRep.known {a' a : Nat} (h : FRep a' a) (hn : ¬ nanB .f64 a) : a' = a := by
  rcases h with h | ⟨_, h⟩
  · exact h
  · exact absurd h hn

/-- x is told more closely than y -/
inductive Closer : AV → AV → Prop
  | same (x : AV) : Closer x x
  | fl (a : Nat) : Closer (.v (.float .f64 a)) (.fl .f64 a)
  | num (a : Nat) : ¬ nanB .f64 a → Closer (.fl .f64 a) (.v (.float .f64 a))

theorem Closer.rep {x y : AV} (h : Closer x y) {w : World} {U : Nat → Prop} {v : Value} (hx : RepI w U v x) : RepI w U v y := by
  cases h with
  | same => exact hx
  | fl a =>
    obtain ⟨rfl, _⟩ := repI_v hx
    exact .fl _ _ _ (.inl rfl)
  | num a hn =>
    obtain ⟨a', rfl, h⟩ := repI_fl hx
    rw [h.known hn]
    exact .v _ trivial

/-- arguments told more closely -/
theorem PureTo.args {f : FuncId} {xs ys : List AV} {r : AV} (h : PureTo P f ys r) (hl : xs.length = ys.length) (hc : ∀ i (h1 : i < xs.length) (h2 : i < ys.length), Closer xs[i] ys[i]) : PureTo P f xs r := by
  intro S vals hwf hr
  refine h S vals hwf ⟨hr.1.trans hl, fun i h1 h2 => ?_⟩
  exact (hc i (by omega) h2).rep (hr.2 i h1 (by omega))

theorem CalledTo.mono {f : FuncId} {vals : Array Value} {w : World} {R R' : Value → World → Prop} (h : CalledTo P f vals w R) (hr : ∀ v w', R v w' → R' v w') : CalledTo P f vals w R' := by
  unfold CalledTo at h ⊢
  revert h
  cases (callFunc f vals).run P w with
  | halt x w' => exact fun h => h
  | ok n w' =>
    cases n with
    | value v => exact fun h => hr _ _ h
    | enter g args => exact fun h => ⟨h.1, h.2.mono fun e w'' ⟨v, he, hv⟩ => ⟨v, he, hr _ _ hv⟩⟩
    | _ => exact fun h => h

/-- an answer told less closely, or more -/
theorem PureTo.ans {f : FuncId} {xs : List AV} {r r' : AV} (h : PureTo P f xs r) (hc : Closer r r') : PureTo P f xs r' := fun S vals hwf hr =>
  (h S vals hwf hr).mono fun _ _ ⟨h1, h2⟩ => ⟨h1, hc.rep h2⟩

/-- one float in, one out; of NaN a NaN -/
theorem PureTo.lift1 {f : FuncId} {g : Nat → Nat} (h : ∀ a, PureTo P f [.v (.float .f64 a)] (.v (.float .f64 (g a)))) (hn : ∀ a, nanB .f64 a → nanB .f64 (g a)) (a : Nat) : PureTo P f [.fl .f64 a] (.fl .f64 (g a)) := by
  intro S vals hwf hr
  obtain ⟨h1, h2⟩ := hr
  match vals, h1 with
  | [v], _ =>
    have hv := h2 0 (by simp) (by simp)
    simp only [List.getElem_cons_zero] at hv
    obtain ⟨a', rfl, ha⟩ := repI_fl hv
    refine (h a' S [.float .f64 a'] hwf ⟨rfl, fun i h1 h2 => ?_⟩).mono fun v w' ⟨k1, k2⟩ => ⟨k1, ?_⟩
    · have : i = 0 := by simpa using h1
      subst this
      exact .v _ trivial
    · obtain ⟨rfl, _⟩ := repI_v k2
      refine FRep.repI ?_
      rcases ha with rfl | ⟨n1, n2⟩
      · exact .inl rfl
      · exact .inr ⟨hn _ n1, hn _ n2⟩

/-- one float in, some value without a NaN's bits out -/
theorem PureTo.lift1v {f : FuncId} {g : Nat → Value} (h : ∀ a, PureTo P f [.v (.float .f64 a)] (.v (g a))) (hn : ∀ a b, nanB .f64 a → nanB .f64 b → g a = g b) (a : Nat) : PureTo P f [.fl .f64 a] (.v (g a)) := by
  intro S vals hwf hr
  obtain ⟨h1, h2⟩ := hr
  match vals, h1 with
  | [v], _ =>
    have hv := h2 0 (by simp) (by simp)
    simp only [List.getElem_cons_zero] at hv
    obtain ⟨a', rfl, ha⟩ := repI_fl hv
    refine (h a' S [.float .f64 a'] hwf ⟨rfl, fun i h1 h2 => ?_⟩).mono fun v w' ⟨k1, k2⟩ => ⟨k1, ?_⟩
    · have : i = 0 := by simpa using h1
      subst this
      exact .v _ trivial
    · rcases ha with rfl | ⟨n1, n2⟩
      · exact k2
      · rw [← hn _ _ n1 n2]; exact k2

def sigF (f : Nat → AV × List Prop) : List AV → Option (AV × List Prop)
  | [x] => match fbits x with
    | some a => some (f a)
    | none => none
  | _ => none
def sigFF (f : Nat → Nat → AV × List Prop) : List AV → Option (AV × List Prop)
  | [x, y] => match fbits x, fbits y with
    | some a, some b => some (f a b)
    | _, _ => none
  | _ => none
/-- a float's bits where it is a number, or where they are known -/
def sigBits : List AV → Option (AV × List Prop)
  | [.v (.float .f64 a)] => some (.v (.int .u64 a), [])
  | [.fl .f64 a] => some (.v (.int .u64 a), [¬ nanB .f64 a])
  | _ => none

theorem fbits_closer {x : AV} {a : Nat} (h : fbits x = some a) : Closer x (.fl .f64 a) := by
  unfold fbits at h
  split at h
  · cases h; exact .fl _
  · cases h; exact .same _
  · cases h
theorem sigF_ok {i : FuncId} {f : Nat → AV × List Prop} (h : ∀ a, AllP (f a).2 → PureTo P i [.fl .f64 a] (f a).1) : ∀ ys r c, sigF f ys = some (r, c) → AllP c → PureTo P i ys r := by
  intro ys r c hs hc
  unfold sigF at hs
  split at hs
  · next x =>
    split at hs
    · next a ha =>
      have e := Option.some.inj hs
      have := h a
      rw [e] at this
      exact (this hc).args rfl fun i h1 h2 => by
        have : i = 0 := by simpa using h1
        subst this
        exact fbits_closer ha
    · cases hs
  · cases hs
theorem sigFF_ok {i : FuncId} {f : Nat → Nat → AV × List Prop} (h : ∀ a b, AllP (f a b).2 → PureTo P i [.fl .f64 a, .fl .f64 b] (f a b).1) : ∀ ys r c, sigFF f ys = some (r, c) → AllP c → PureTo P i ys r := by
  intro ys r c hs hc
  unfold sigFF at hs
  split at hs
  · next x y =>
    split at hs
    · next a b ha hb =>
      have e := Option.some.inj hs
      have := h a b
      rw [e] at this
      exact (this hc).args rfl fun i h1 h2 => by
        have : i = 0 ∨ i = 1 := by simp at h1; omega
        rcases this with rfl | rfl
        · exact fbits_closer ha
        · exact fbits_closer hb
    · cases hs
  · cases hs
theorem sigBits_ok {i : FuncId} (h : ∀ a, PureTo P i [.v (.float .f64 a)] (.v (.int .u64 a))) : ∀ ys r c, sigBits ys = some (r, c) → AllP c → PureTo P i ys r := by
  intro ys r c hs hc
  unfold sigBits at hs
  split at hs
  · cases hs; exact h _
  · cases hs
    exact (h _).args rfl fun i h1 h2 => by
      have : i = 0 := by simpa using h1
      subst this
      exact .num _ hc.1
  · cases hs

end
end Go.Ev
