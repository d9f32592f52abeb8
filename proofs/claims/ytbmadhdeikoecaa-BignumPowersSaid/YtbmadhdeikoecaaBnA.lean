/- Bignum: contracts of the small functions. -/
import Derived.Test.YtbmadhdeikoecaaProg
import Derived.Test.YtbmadhdeikoecaaEvS
set_option maxRecDepth 100000
namespace Go.Proofs.Bn
open Go Go.Ev

theorem hm : Try.prog.follows .mixedOrders = true := by kernel_rfl

theorem sok0 : SigsOK Try.prog [] := fun f sig h => by cases h

theorem sigs_cons {P : Program} {SG : List (FuncId × (List AV → Option (AV × List Prop)))} {f : FuncId} {sig : List AV → Option (AV × List Prop)} (h : SigsOK P SG) (hf : ∀ ys r c, sig ys = some (r, c) → AllP c → PureTo P f ys r) : SigsOK P ((f, sig) :: SG) := by
  intro g s hg
  simp only [Go.Ev.look] at hg
  split at hg
  · next hb =>
    cases hg
    have := Nat.eq_of_beq_eq_true hb
    subst this
    exact hf
  · exact h g s hg

/-- a length that no list in memory passes -/
def lim : Nat := 281474976710656

/-! ### Same -/
namespace Same

theorem body_ne (a b : List Int) (ta tb : Bool) (i : Nat) (h : AllP [decide ((↑i : Int) < (↑a.length : Int)) = true, 0 ≤ (↑i : Int) ∧ (↑i : Int) < (↑a.length : Int), 0 ≤ (↑i : Int) ∧ (↑i : Int) < (↑b.length : Int), (a.getD (↑i : Int).toNat 0 != b.getD (↑i : Int).toNat 0) = true]) : To Try.prog (loopAt Try.f13 0) (⟨26, [(0, .sl 1 (.ints .u32 a) ta), (1, .sl 1 (.ints .u32 b) tb), (4, .v (.bool false)), (5, .v (.int .i64 i))], [], 0⟩) (Exit.ret) { n := 26, fr := [(4, AV.v (Value.bool false))], hp := [], nx := 0 } :=
  evW_to hm sok0 (hs := [CHint.ops 4 [(3, Hint.b true)], CHint.ops 6 [(8, Hint.b true)]]) (slots := [4]) (keys := []) (nx := 0) (c := _) (by kernel_rfl) h

theorem body_eq (a b : List Int) (ta tb : Bool) (i : Nat) (h : AllP [decide ((↑i : Int) < (↑a.length : Int)) = true, 0 ≤ (↑i : Int) ∧ (↑i : Int) < (↑a.length : Int), 0 ≤ (↑i : Int) ∧ (↑i : Int) < (↑b.length : Int), (a.getD (↑i : Int).toNat 0 != b.getD (↑i : Int).toNat 0) = false, inR IntKind.i64 ((↑i : Int) + 1)]) : To Try.prog (loopAt Try.f13 0) (⟨26, [(0, .sl 1 (.ints .u32 a) ta), (1, .sl 1 (.ints .u32 b) tb), (4, .v (.bool false)), (5, .v (.int .i64 i))], [], 0⟩) (.normal) (⟨26, [(0, .sl 1 (.ints .u32 a) ta), (1, .sl 1 (.ints .u32 b) tb), (4, .v (.bool false)), (5, .v (.int .i64 (i + 1 : Nat)))], [], 0⟩) :=
  evW_to hm sok0 (hs := [CHint.ops 4 [(3, Hint.b true)], CHint.ops 6 [(8, Hint.b false)]]) (slots := [0,1,4,5]) (keys := []) (nx := 0) (c := _) (by kernel_rfl) h

theorem body_end (a b : List Int) (ta tb : Bool) (i : Nat) (h : AllP [decide ((↑i : Int) < (↑a.length : Int)) = false]) : To Try.prog (loopAt Try.f13 0) (⟨26, [(0, .sl 1 (.ints .u32 a) ta), (1, .sl 1 (.ints .u32 b) tb), (4, .v (.bool false)), (5, .v (.int .i64 i))], [], 0⟩) (Exit.exit 0) { n := 26, fr := [], hp := [], nx := 0 } :=
  evW_to hm sok0 (hs := [CHint.ops 4 [(3, Hint.b false)]]) (slots := []) (keys := []) (nx := 0) (c := _) (by kernel_rfl) h

theorem loop_eq (a : List Int) (ta tb : Bool) (hl : a.length < lim) : ∀ n i, i + n = a.length → LoopTo Try.prog (loopAt Try.f13 0) (⟨26, [(0, .sl 1 (.ints .u32 a) ta), (1, .sl 1 (.ints .u32 a) tb), (4, .v (.bool false)), (5, .v (.int .i64 i))], [], 0⟩) (Exit.exit 0) { n := 26, fr := [], hp := [], nx := 0 } := by
  intro n
  induction n with
  | zero =>
    intro i hi
    exact .done (by simp) (body_end a a ta tb i ⟨by simp; omega, trivial⟩)
  | succ n ih =>
    intro i hi
    refine .step (body_eq a a ta tb i ⟨by simp; omega, by omega, by omega, by simp, ?_, trivial⟩) (ih (i + 1) (by omega))
    unfold lim at hl
    simp [inR, IntKind.min, IntKind.max, IntKind.signed, IntKind.bits]
    omega

theorem loop_ne (a b : List Int) (ta tb : Bool) (hl : a.length < lim) (hab : a.length = b.length) : ∀ n i, i + n = a.length → a.drop i ≠ b.drop i → LoopTo Try.prog (loopAt Try.f13 0) (⟨26, [(0, .sl 1 (.ints .u32 a) ta), (1, .sl 1 (.ints .u32 b) tb), (4, .v (.bool false)), (5, .v (.int .i64 i))], [], 0⟩) Exit.ret { n := 26, fr := [(4, AV.v (Value.bool false))], hp := [], nx := 0 } := by
  intro n
  induction n with
  | zero =>
    intro i hi hne
    exfalso
    apply hne
    rw [List.drop_eq_nil_of_le (by omega), List.drop_eq_nil_of_le (by omega)]
  | succ n ih =>
    intro i hi hne
    have ha : i < a.length := by omega
    have hb : i < b.length := by omega
    by_cases hd : a[i] = b[i]
    · refine .step (body_eq a b ta tb i ⟨by simp; omega, by omega, by omega, by simp [ha, hb, hd], ?_, trivial⟩) (ih (i + 1) (by omega) ?_)
      · unfold lim at hl
        simp [inR, IntKind.min, IntKind.max, IntKind.signed, IntKind.bits]
        omega
      · intro he
        apply hne
        rw [List.drop_eq_getElem_cons ha, List.drop_eq_getElem_cons hb, hd, he]
    · exact .done (by simp) (body_ne a b ta tb i ⟨by simp; omega, by omega, by omega, by simp [ha, hb, hd], trivial⟩)

theorem f1 (a b : List Int) (ta tb : Bool) (h : AllP [((↑a.length : Int) != (↑b.length : Int)) = true]) : PureTo Try.prog 13 [.sl 1 (.ints .u32 a) ta, .sl 1 (.ints .u32 b) tb] (AV.v (Value.bool false)) :=
  evFn_pure hm sok0 (fn := Try.f13) rfl rfl (ti := false) (hs := [CHint.ops 1 [(4, Hint.b true)]]) (c := _) (by kernel_rfl) h

theorem f2 (a b : List Int) (ta tb : Bool) (h : AllP [((↑a.length : Int) != (↑b.length : Int)) = false, LoopTo Try.prog (loopAt Try.f13 0) { n := 26, fr := [(0, AV.sl 1 (Seq.ints IntKind.u32 a) ta), (1, AV.sl 1 (Seq.ints IntKind.u32 b) tb), (4, AV.v (Value.bool false)), (5, AV.v (Value.int IntKind.i64 0))], hp := [], nx := 0 } Exit.ret { n := 26, fr := [(4, AV.v (Value.bool false))], hp := [], nx := 0 }]) : PureTo Try.prog 13 [.sl 1 (.ints .u32 a) ta, .sl 1 (.ints .u32 b) tb] (AV.v (Value.bool false)) :=
  evFn_pure hm sok0 (fn := Try.f13) rfl rfl (ti := false) (hs := [CHint.ops 1 [(4, Hint.b false)], CHint.loop [0, 1, 4, 5] [] 0 Exit.ret { n := 26, fr := [(4, AV.v (Value.bool false))], hp := [], nx := 0 }]) (c := _) (by kernel_rfl) h

theorem f3 (a b : List Int) (ta tb : Bool) (h : AllP [((↑a.length : Int) != (↑b.length : Int)) = false, LoopTo Try.prog (loopAt Try.f13 0) { n := 26, fr := [(0, AV.sl 1 (Seq.ints IntKind.u32 a) ta), (1, AV.sl 1 (Seq.ints IntKind.u32 b) tb), (4, AV.v (Value.bool false)), (5, AV.v (Value.int IntKind.i64 0))], hp := [], nx := 0 } (Exit.exit 0) { n := 26, fr := [], hp := [], nx := 0 }]) : PureTo Try.prog 13 [.sl 1 (.ints .u32 a) ta, .sl 1 (.ints .u32 b) tb] (AV.v (Value.bool true)) :=
  evFn_pure hm sok0 (fn := Try.f13) rfl rfl (ti := false) (hs := [CHint.ops 1 [(4, Hint.b false)], CHint.loop [0, 1, 4, 5] [] 0 (Exit.exit 0) { n := 26, fr := [], hp := [], nx := 0 }]) (c := _) (by kernel_rfl) h

theorem pure (a b : List Int) (ta tb : Bool) (hl : a.length < lim) : PureTo Try.prog 13 [.sl 1 (.ints .u32 a) ta, .sl 1 (.ints .u32 b) tb] (.v (.bool (decide (a = b)))) := by
  by_cases hab : a = b
  · subst hab
    simp only [decide_true]
    exact f3 a a ta tb ⟨by simp, loop_eq a ta tb hl a.length 0 (by omega), trivial⟩
  · simp only [hab, decide_false]
    by_cases hlen : a.length = b.length
    · exact f2 a b ta tb ⟨by simp [hlen], loop_ne a b ta tb hl hlen a.length 0 (by omega) (by simpa using hab), trivial⟩
    · exact f1 a b ta tb ⟨by simp; omega, trivial⟩

end Same
end Go.Proofs.Bn
