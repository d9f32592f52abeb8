/- An evaluator of the model's code, proved right. No condition. -/
import Derived.Test.YtipiambcccfhmaaGreatDoorEvAll4
import Derived.Lib.Bytealg
import Derived.Lib.IndexMore
set_option linter.unusedSimpArgs false
set_option linter.unusedVariables false
set_option linter.unusedSectionVars false
/- Functions without a body, of several arguments that are told. -/
namespace Go.Ev
variable [Globs]
open Go

variable {P : Program}

theorem repIs_vs {w : World} {U : Nat → Prop} : ∀ {vals xs : List Value}, RepIs w U vals (xs.map .v) → vals = xs
  | vals, xs, h => by
    obtain ⟨h1, h2⟩ := h
    refine List.ext_getElem (by simpa using h1) fun i k1 k2 => ?_
    have := h2 i k1 (by simpa using k2)
    simp only [List.getElem_map] at this
    generalize vals[i] = a at this
    generalize xs[i] = b at this
    cases this
    rfl

theorem pure_externs {f : FuncId} {fn : Func} {e : Array Value → Sem Value} {xs : List Value} {y : Value} (hf : P.funcs[f]? = some fn) (hname : (fn.name == "runtime.NumGoroutine") = false)
    (hb : fn.body.isNone = true) (hn : Extern.findNext fn = none) (he : Extern.find fn = some e) (hy : okV y) (hrun : ∀ w, (e xs.toArray).run P w = .ok y w) : PureTo P f (xs.map .v) (.v y) := by
  intro S vals hwf hv
  have := repIs_vs hv
  subst this
  unfold CalledTo
  rw [run_callFunc_extern hf hname hb hn he, hrun, Result.andThen_ok]
  exact ⟨Grows.refl _, .v _ hy⟩

/-- where a byte stands, reckoned forward -/
def ixB (c : Nat) : List UInt8 → Nat → Int
  | [], _ => -1
  | b :: l, n => match Nat.beq b.toNat c with
    | true => (n : Int)
    | false => ixB c l (n + 1)
theorem ixB_eq (c : UInt8) : ∀ (l : List UInt8) (n : Nat), ixB c.toNat l n = if Go.Lib.indexByte l c == -1 then -1 else Go.Lib.indexByte l c + n
  | [], n => rfl
  | b :: l, n => by
    unfold ixB Go.Lib.indexByte
    by_cases hb : b = c
    · subst hb
      simp
    · have h1 : Nat.beq b.toNat c.toNat = false := by
        rw [Bool.eq_false_iff]
        intro h
        exact hb (UInt8.toNat_inj.1 (Nat.eq_of_beq_eq_true h))
      have h2 : (b == c) = false := by simpa using hb
      rw [h1, h2]
      simp only [Bool.false_eq_true, if_false]
      rw [ixB_eq c l (n + 1)]
      have hg := Go.Lib.indexByte_ge l c
      by_cases hm : Go.Lib.indexByte l c = -1
      · simp [hm]
      · have e1 : (Go.Lib.indexByte l c == -1) = false := by simpa using hm
        rw [e1]
        simp only [Bool.false_eq_true, if_false]
        have e2 : (Go.Lib.indexByte l c + 1 == -1) = false := by
          simp only [beq_eq_false_iff_ne]
          omega
        rw [e2]
        simp only [Bool.false_eq_true, if_false]
        omega
theorem ixB_ix (l : List UInt8) (c : UInt8) : Go.Lib.indexByte l c = ixB c.toNat l 0 := by
  rw [ixB_eq]
  by_cases hm : Go.Lib.indexByte l c = -1
  · simp [hm]
  · have e1 : (Go.Lib.indexByte l c == -1) = false := by simpa using hm
    rw [e1]
    simp

theorem indexByte_pure {f : FuncId} {fn : Func} (hf : P.funcs[f]? = some fn) (hname : (fn.name == "runtime.NumGoroutine") = false)
    (hb : fn.body.isNone = true) (hn : Extern.findNext fn = none) (he : Extern.find fn = some Extern.BytealgIndexByte.indexByte) (s : ByteArray) (c : Int) :
    PureTo P f [.v (.string s), .v (.int .u8 c)] (.v (.int .i64 (ixB (c.toNat.toUInt8).toNat s.data.toList 0))) :=
  pure_externs (xs := [.string s, .int .u8 c]) hf hname hb hn he trivial fun w => by rw [← ixB_ix]; exact Go.Lib.run_indexByteString s c w

/-- how often a byte stands there -/
def cntB (c : Nat) : List UInt8 → Nat
  | [] => 0
  | b :: l => match Nat.beq b.toNat c with
    | true => cntB c l + 1
    | false => cntB c l
theorem u8_beq (a b : UInt8) : (a == b) = Nat.beq a.toNat b.toNat := by
  rw [Bool.eq_iff_iff]
  simp only [beq_iff_eq]
  exact ⟨fun h => by rw [h]; exact Nat.beq_refl _, fun h => UInt8.toNat_inj.1 (Nat.eq_of_beq_eq_true h)⟩
theorem cntB_eq (c : UInt8) : ∀ l : List UInt8, Go.Lib.countByte l c = cntB c.toNat l
  | [] => rfl
  | b :: l => by
    unfold Go.Lib.countByte cntB
    rw [List.count_cons, u8_beq]
    have ih := cntB_eq c l
    unfold Go.Lib.countByte at ih
    rw [ih]
    cases Nat.beq b.toNat c.toNat <;> simp

def prefB : List UInt8 → List UInt8 → Bool
  | [], _ => true
  | _ :: _, [] => false
  | a :: l, b :: m => Nat.beq a.toNat b.toNat && prefB l m
theorem prefB_eq : ∀ l m : List UInt8, l.isPrefixOf m = prefB l m
  | [], m => by cases m <;> rfl
  | _ :: _, [] => rfl
  | a :: l, b :: m => by
    unfold prefB List.isPrefixOf
    rw [prefB_eq l m, u8_beq]
/-- where a text stands first -/
def ixS (t : List UInt8) : List UInt8 → Nat → Int
  | [], n => match t with
    | [] => (n : Int)
    | _ => -1
  | b :: l, n => match prefB t (b :: l) with
    | true => (n : Int)
    | false => ixS t l (n + 1)
theorem ixS_eq (t : List UInt8) : ∀ (l : List UInt8) (n : Nat), ixS t l n = if Go.Lib.index l t == -1 then -1 else Go.Lib.index l t + n
  | [], n => by
    cases t with
    | nil => simp [ixS, Go.Lib.index]
    | cons a t => simp [ixS, Go.Lib.index]
  | b :: l, n => by
    unfold ixS Go.Lib.index
    rw [prefB_eq]
    cases h : prefB t (b :: l) with
    | true => simp
    | false =>
      simp only [Bool.false_eq_true, if_false]
      rw [ixS_eq t l (n + 1)]
      have hg := Go.Lib.index_ge l t
      by_cases hm : Go.Lib.index l t = -1
      · simp [hm]
      · have e1 : (Go.Lib.index l t == -1) = false := by simpa using hm
        rw [e1]
        simp only [Bool.false_eq_true, if_false]
        have e2 : (Go.Lib.index l t + 1 == -1) = false := by
          simp only [beq_eq_false_iff_ne]
          omega
        rw [e2]
        simp only [Bool.false_eq_true, if_false]
        omega
theorem ixS_ix (l t : List UInt8) : Go.Lib.index l t = ixS t l 0 := by
  rw [ixS_eq]
  by_cases hm : Go.Lib.index l t = -1
  · simp [hm]
  · have e1 : (Go.Lib.index l t == -1) = false := by simpa using hm
    rw [e1]
    simp
def conB (s t : ByteArray) : Bool := decide (0 ≤ ixS t.data.toList s.data.toList 0)
theorem conB_eq (s t : ByteArray) : Go.Lib.contains s.data.toList t.data.toList = conB s t := by
  unfold Go.Lib.contains conB
  rw [ixS_ix]

theorem count_pure {f : FuncId} {fn : Func} (hf : P.funcs[f]? = some fn) (hname : (fn.name == "runtime.NumGoroutine") = false)
    (hb : fn.body.isNone = true) (hn : Extern.findNext fn = none) {e : Array Value → Sem Value} (he : Extern.find fn = some e) (s : ByteArray) (c : Int)
    (hrun : ∀ w, (e #[.string s, .int .u8 c]).run P w = .ok (.int .i64 (Go.Lib.countByte s.data.toList c.toNat.toUInt8)) w) :
    PureTo P f [.v (.string s), .v (.int .u8 c)] (.v (.int .i64 (cntB (c.toNat.toUInt8).toNat s.data.toList))) :=
  pure_externs (xs := [.string s, .int .u8 c]) hf hname hb hn he trivial fun w => by rw [← cntB_eq]; exact hrun w

/-- a contract of the shelf, over two values that are told -/
theorem pure_of_calls2w {f : FuncId} {fn : Func} {code : Code} {x y z : Value} (hf : P.funcs[f]? = some fn) (hb : fn.body = some code) (hn : (fn.name == "runtime.NumGoroutine") = false) (hz : okV z)
    (h : ∀ S : St, S.wf → Calls P f #[x, y] S.w fun e w' => e = .returned z ∧ w' = S.w) : PureTo P f [.v x, .v y] (.v z) := by
  intro S vals hwf hv
  have := repIs_vs (xs := [x, y]) hv
  subst this
  have hn' : fn.name ≠ "runtime.NumGoroutine" := by simpa using hn
  have hrun : (callFunc f ([x, y] : List Value).toArray).run P S.w = .ok (.enter f #[x, y]) S.w := by simp [callFunc, hf, hn', hb]
  unfold CalledTo
  rw [hrun]
  refine ⟨rfl, (h S hwf).mono fun e w' ⟨he, hw⟩ => ⟨z, he, ?_, .v _ hz⟩⟩
  rw [hw]
  exact Grows.refl _

end Go.Ev
