/- Contracts of the program's functions, and the plain law behind them. No condition beyond those in each statement. -/
import Derived.Test.YtbmadhdeikoecaaProg
import Derived.Test.YtbmadhdeikoecaaEvAll2
import Derived.WalkKit
set_option linter.unusedSimpArgs false
set_option linter.unusedVariables false
set_option linter.unusedSectionVars false
/- Bignum: contracts of the small functions. -/
set_option maxRecDepth 100000
namespace Go.Proofs.Bn
open Go Go.Ev

theorem hm : Try.prog.follows .mixedOrders = true := by kernel_rfl

theorem sok0 : SigsOK Try.prog [] := fun f sig h => by cases h

theorem sigs_cons {P : Program} {SG : SGT} {f : FuncId} {sig : List AV → Option (AV × List Prop)} (h : SigsOK P SG) (hf : ∀ ys r c, sig ys = some (r, c) → AllP c → PureTo P f ys r) : SigsOK P ((f, .p sig) :: SG) := by
  intro g s hg
  simp only [Go.Ev.look] at hg
  split at hg
  · next hb =>
    cases hg
    have := Nat.eq_of_beq_eq_true hb
    subst this
    exact hf
  · exact h g s hg

theorem sigs_s {P : Program} {SG : SGT} {f : FuncId} {mask : List Bool} {sig : List AObj → List AV → Option (AV × List AObj × List Prop)} (h : SigsOK P SG) (hf : ∀ os ys r os' c, sig os ys = some (r, os', c) → AllP c → SharedTo P f os ys r os') : SigsOK P ((f, .s mask sig) :: SG) := by
  intro g s hg
  simp only [Go.Ev.look] at hg
  split at hg
  · next hb =>
    cases hg
    have := Nat.eq_of_beq_eq_true hb
    subst this
    exact hf
  · exact h g s hg

/-- a length that no list in memory passes -/
def lim : Nat := 281474976710656

/-! ### Same -/
namespace Same

theorem body_ne (a b : List Int) (ta tb : Bool) (i : Nat) (h : AllP [decide ((↑i : Int) < (↑a.length : Int)) = true, 0 ≤ (↑i : Int) ∧ (↑i : Int) < (↑a.length : Int), 0 ≤ (↑i : Int) ∧ (↑i : Int) < (↑b.length : Int), (a.getD (↑i : Int).toNat 0 != b.getD (↑i : Int).toNat 0) = true]) : To Try.prog (loopAt Try.f13 0) (⟨26, [(0, .sl 1 (.ints .u32 a) ta), (1, .sl 1 (.ints .u32 b) tb), (4, .v (.bool false)), (5, .v (.int .i64 i))], [], 0⟩) (Exit.ret) { n := 26, fr := [(4, AV.v (Value.bool false))], hp := [], nx := 0 } :=
  evW_to hm sok0 (hs := [CHint.ops 4 [(3, Hint.b true)], CHint.ops 6 [(8, Hint.b true)]]) (slots := [4]) (keys := []) (nx := 0) (c := _) (by kernel_rfl) h

theorem body_eq (a b : List Int) (ta tb : Bool) (i : Nat) (h : AllP [decide ((↑i : Int) < (↑a.length : Int)) = true, 0 ≤ (↑i : Int) ∧ (↑i : Int) < (↑a.length : Int), 0 ≤ (↑i : Int) ∧ (↑i : Int) < (↑b.length : Int), (a.getD (↑i : Int).toNat 0 != b.getD (↑i : Int).toNat 0) = false, inR IntKind.i64 ((↑i : Int) + 1)]) : To Try.prog (loopAt Try.f13 0) (⟨26, [(0, .sl 1 (.ints .u32 a) ta), (1, .sl 1 (.ints .u32 b) tb), (4, .v (.bool false)), (5, .v (.int .i64 i))], [], 0⟩) (.normal) (⟨26, [(0, .sl 1 (.ints .u32 a) ta), (1, .sl 1 (.ints .u32 b) tb), (4, .v (.bool false)), (5, .v (.int .i64 (i + 1 : Nat)))], [], 0⟩) :=
  evW_to hm sok0 (hs := [CHint.ops 4 [(3, Hint.b true)], CHint.ops 6 [(8, Hint.b false)]]) (slots := [0,1,4,5]) (keys := []) (nx := 0) (c := _) (by kernel_rfl) h

theorem body_end (a b : List Int) (ta tb : Bool) (i : Nat) (h : AllP [decide ((↑i : Int) < (↑a.length : Int)) = false]) : To Try.prog (loopAt Try.f13 0) (⟨26, [(0, .sl 1 (.ints .u32 a) ta), (1, .sl 1 (.ints .u32 b) tb), (4, .v (.bool false)), (5, .v (.int .i64 i))], [], 0⟩) (Exit.exit 0) { n := 26, fr := [], hp := [], nx := 0 } :=
  evW_to hm sok0 (hs := [CHint.ops 4 [(3, Hint.b false)]]) (slots := []) (keys := []) (nx := 0) (c := _) (by kernel_rfl) h

theorem loop_eq (a : List Int) (ta tb : Bool) (hl : a.length < lim) : ∀ n i, i + n = a.length → LoopTo Try.prog (loopAt Try.f13 0) (⟨26, [(0, .sl 1 (.ints .u32 a) ta), (1, .sl 1 (.ints .u32 a) tb), (4, .v (.bool false)), (5, .v (.int .i64 i))], [], 0⟩) (Exit.exit 0) { n := 26, fr := [], hp := [], nx := 0 } := by
  intro n
  induction n with
  | zero =>
    intro i hi
    exact .done (by simp) (body_end a a ta tb i ⟨by simp; omega, trivial⟩)
  | succ n ih =>
    intro i hi
    refine .step (body_eq a a ta tb i ⟨by simp; omega, by omega, by omega, by simp, ?_, trivial⟩) (ih (i + 1) (by omega))
    unfold lim at hl
    simp [inR, IntKind.min, IntKind.max, IntKind.signed, IntKind.bits]
    omega

theorem loop_ne (a b : List Int) (ta tb : Bool) (hl : a.length < lim) (hab : a.length = b.length) : ∀ n i, i + n = a.length → a.drop i ≠ b.drop i → LoopTo Try.prog (loopAt Try.f13 0) (⟨26, [(0, .sl 1 (.ints .u32 a) ta), (1, .sl 1 (.ints .u32 b) tb), (4, .v (.bool false)), (5, .v (.int .i64 i))], [], 0⟩) Exit.ret { n := 26, fr := [(4, AV.v (Value.bool false))], hp := [], nx := 0 } := by
  intro n
  induction n with
  | zero =>
    intro i hi hne
    exfalso
    apply hne
    rw [List.drop_eq_nil_of_le (by omega), List.drop_eq_nil_of_le (by omega)]
  | succ n ih =>
    intro i hi hne
    have ha : i < a.length := by omega
    have hb : i < b.length := by omega
    by_cases hd : a[i] = b[i]
    · refine .step (body_eq a b ta tb i ⟨by simp; omega, by omega, by omega, by simp [ha, hb, hd], ?_, trivial⟩) (ih (i + 1) (by omega) ?_)
      · unfold lim at hl
        simp [inR, IntKind.min, IntKind.max, IntKind.signed, IntKind.bits]
        omega
      · intro he
        apply hne
        rw [List.drop_eq_getElem_cons ha, List.drop_eq_getElem_cons hb, hd, he]
    · exact .done (by simp) (body_ne a b ta tb i ⟨by simp; omega, by omega, by omega, by simp [ha, hb, hd], trivial⟩)

theorem f1 (a b : List Int) (ta tb : Bool) (h : AllP [((↑a.length : Int) != (↑b.length : Int)) = true]) : PureTo Try.prog 13 [.sl 1 (.ints .u32 a) ta, .sl 1 (.ints .u32 b) tb] (AV.v (Value.bool false)) :=
  evFn_pure hm sok0 (fn := Try.f13) rfl rfl (ti := false) (hs := [CHint.ops 1 [(4, Hint.b true)]]) (c := _) (by kernel_rfl) h

theorem f2 (a b : List Int) (ta tb : Bool) (h : AllP [((↑a.length : Int) != (↑b.length : Int)) = false, LoopTo Try.prog (loopAt Try.f13 0) { n := 26, fr := [(0, AV.sl 1 (Seq.ints IntKind.u32 a) ta), (1, AV.sl 1 (Seq.ints IntKind.u32 b) tb), (4, AV.v (Value.bool false)), (5, AV.v (Value.int IntKind.i64 0))], hp := [], nx := 0 } Exit.ret { n := 26, fr := [(4, AV.v (Value.bool false))], hp := [], nx := 0 }]) : PureTo Try.prog 13 [.sl 1 (.ints .u32 a) ta, .sl 1 (.ints .u32 b) tb] (AV.v (Value.bool false)) :=
  evFn_pure hm sok0 (fn := Try.f13) rfl rfl (ti := false) (hs := [CHint.ops 1 [(4, Hint.b false)], CHint.loop [0, 1, 4, 5] [] 0 Exit.ret { n := 26, fr := [(4, AV.v (Value.bool false))], hp := [], nx := 0 }]) (c := _) (by kernel_rfl) h

theorem f3 (a b : List Int) (ta tb : Bool) (h : AllP [((↑a.length : Int) != (↑b.length : Int)) = false, LoopTo Try.prog (loopAt Try.f13 0) { n := 26, fr := [(0, AV.sl 1 (Seq.ints IntKind.u32 a) ta), (1, AV.sl 1 (Seq.ints IntKind.u32 b) tb), (4, AV.v (Value.bool false)), (5, AV.v (Value.int IntKind.i64 0))], hp := [], nx := 0 } (Exit.exit 0) { n := 26, fr := [], hp := [], nx := 0 }]) : PureTo Try.prog 13 [.sl 1 (.ints .u32 a) ta, .sl 1 (.ints .u32 b) tb] (AV.v (Value.bool true)) :=
  evFn_pure hm sok0 (fn := Try.f13) rfl rfl (ti := false) (hs := [CHint.ops 1 [(4, Hint.b false)], CHint.loop [0, 1, 4, 5] [] 0 (Exit.exit 0) { n := 26, fr := [], hp := [], nx := 0 }]) (c := _) (by kernel_rfl) h

theorem pure (a b : List Int) (ta tb : Bool) (hl : a.length < lim) : PureTo Try.prog 13 [.sl 1 (.ints .u32 a) ta, .sl 1 (.ints .u32 b) tb] (.v (.bool (decide (a = b)))) := by
  by_cases hab : a = b
  · subst hab
    simp only [decide_true]
    exact f3 a a ta tb ⟨by simp, loop_eq a ta tb hl a.length 0 (by omega), trivial⟩
  · simp only [hab, decide_false]
    by_cases hlen : a.length = b.length
    · exact f2 a b ta tb ⟨by simp [hlen], loop_ne a b ta tb hl hlen a.length 0 (by omega) (by simpa using hab), trivial⟩
    · exact f1 a b ta tb ⟨by simp; omega, trivial⟩

end Same
end Go.Proofs.Bn

/- Bignum: walks, written by the tool. -/
set_option maxRecDepth 100000
namespace Go.Proofs.Bn
open Go Go.Ev
-- 3 paths
theorem cutL1 (a : List Int) (ta : Bool) (i : Nat) (h : AllP [decide ((↑i : Int) > 0) = true, inR IntKind.i64 ((↑i : Int) - 1), 0 ≤ (↑i : Int) - 1 ∧ (↑i : Int) - 1 < (↑a.length : Int), (a.getD ((↑i : Int) - 1).toNat 0 == 0) = true, inR IntKind.i64 ((↑i : Int) - 1)]) : To Try.prog (loopAt Try.f43 0) (⟨22, [(0, .sl 1 (.ints .u32 a) ta), (3, .v (.int .i64 i))], [], 0⟩) (.normal) { n := 22, fr := [(0, AV.sl 1 (Seq.ints IntKind.u32 a) ta), (3, AV.v (Value.int IntKind.i64 ((↑i : Int) - 1)))], hp := [], nx := 0 } :=
  evW_to hm sok0 (hs := [CHint.ops 2 [(1, Hint.b true), (8, Hint.b true)]]) (slots := [0,3]) (keys := []) (nx := 0) (c := _) (by kernel_rfl) h
theorem cutL2 (a : List Int) (ta : Bool) (i : Nat) (h : AllP [decide ((↑i : Int) > 0) = true, inR IntKind.i64 ((↑i : Int) - 1), 0 ≤ (↑i : Int) - 1 ∧ (↑i : Int) - 1 < (↑a.length : Int), (a.getD ((↑i : Int) - 1).toNat 0 == 0) = false]) : To Try.prog (loopAt Try.f43 0) (⟨22, [(0, .sl 1 (.ints .u32 a) ta), (3, .v (.int .i64 i))], [], 0⟩) (Exit.exit 0) { n := 22, fr := [(0, AV.sl 1 (Seq.ints IntKind.u32 a) ta), (3, AV.v (Value.int IntKind.i64 (↑i : Int)))], hp := [], nx := 0 } :=
  evW_to hm sok0 (hs := [CHint.ops 2 [(1, Hint.b true), (8, Hint.b false)]]) (slots := [0,3]) (keys := []) (nx := 0) (c := _) (by kernel_rfl) h
theorem cutL3 (a : List Int) (ta : Bool) (i : Nat) (h : AllP [decide ((↑i : Int) > 0) = false]) : To Try.prog (loopAt Try.f43 0) (⟨22, [(0, .sl 1 (.ints .u32 a) ta), (3, .v (.int .i64 i))], [], 0⟩) (Exit.exit 0) { n := 22, fr := [(0, AV.sl 1 (Seq.ints IntKind.u32 a) ta), (3, AV.v (Value.int IntKind.i64 (↑i : Int)))], hp := [], nx := 0 } :=
  evW_to hm sok0 (hs := [CHint.ops 2 [(1, Hint.b false)]]) (slots := [0,3]) (keys := []) (nx := 0) (c := _) (by kernel_rfl) h
-- 1 paths
theorem cutF1 (a : List Int) (ta : Bool) (n : Nat) (h : AllP [LoopTo Try.prog (loopAt Try.f43 0) { n := 22, fr := [(0, AV.sl 1 (Seq.ints IntKind.u32 a) ta), (3, AV.v (Value.int IntKind.i64 (↑a.length : Int)))], hp := [], nx := 0 } (Exit.exit 0) { n := 22, fr := [(0, AV.sl 1 (Seq.ints IntKind.u32 a) ta), (3, AV.v (Value.int IntKind.i64 (↑n : Int)))], hp := [], nx := 0 }, 0 ≤ (↑n : Int) ∧ (↑n : Int) ≤ (↑a.length : Int), (↑n : Int) = (↑(↑n : Int).toNat : Int)]) : PureTo Try.prog 43 [.sl 1 (.ints .u32 a) ta] (AV.sl 1 (Seq.ints IntKind.u32 (List.take (↑n : Int).toNat a)) true) :=
  evFn_pure hm sok0 (fn := Try.f43) rfl rfl (ti := true) (hs := [CHint.loop [0, 3] [] 0 (Exit.exit 0) { n := 22, fr := [(0, AV.sl 1 (Seq.ints IntKind.u32 a) ta), (3, AV.v (Value.int IntKind.i64 (↑n : Int)))], hp := [], nx := 0 }]) (c := _) (by kernel_rfl) h
-- 3 paths
theorem normL1 (a : List Int) (ta : Bool) (i : Nat) (h : AllP [decide ((↑i : Int) > 0) = true, inR IntKind.i64 ((↑i : Int) - 1), 0 ≤ (↑i : Int) - 1 ∧ (↑i : Int) - 1 < (↑a.length : Int), (a.getD ((↑i : Int) - 1).toNat 0 == 0) = true, inR IntKind.i64 ((↑i : Int) - 1)]) : To Try.prog (loopAt Try.f17 0) (⟨24, [(0, .sl 1 (.ints .u32 a) ta), (3, .v (.int .i64 i))], [], 0⟩) (.normal) { n := 24, fr := [(0, AV.sl 1 (Seq.ints IntKind.u32 a) ta), (3, AV.v (Value.int IntKind.i64 ((↑i : Int) - 1)))], hp := [], nx := 0 } :=
  evW_to hm sok0 (hs := [CHint.ops 2 [(1, Hint.b true), (8, Hint.b true)]]) (slots := [0,3]) (keys := []) (nx := 0) (c := _) (by kernel_rfl) h
theorem normL2 (a : List Int) (ta : Bool) (i : Nat) (h : AllP [decide ((↑i : Int) > 0) = true, inR IntKind.i64 ((↑i : Int) - 1), 0 ≤ (↑i : Int) - 1 ∧ (↑i : Int) - 1 < (↑a.length : Int), (a.getD ((↑i : Int) - 1).toNat 0 == 0) = false]) : To Try.prog (loopAt Try.f17 0) (⟨24, [(0, .sl 1 (.ints .u32 a) ta), (3, .v (.int .i64 i))], [], 0⟩) (Exit.exit 0) { n := 24, fr := [(0, AV.sl 1 (Seq.ints IntKind.u32 a) ta), (3, AV.v (Value.int IntKind.i64 (↑i : Int)))], hp := [], nx := 0 } :=
  evW_to hm sok0 (hs := [CHint.ops 2 [(1, Hint.b true), (8, Hint.b false)]]) (slots := [0,3]) (keys := []) (nx := 0) (c := _) (by kernel_rfl) h
theorem normL3 (a : List Int) (ta : Bool) (i : Nat) (h : AllP [decide ((↑i : Int) > 0) = false]) : To Try.prog (loopAt Try.f17 0) (⟨24, [(0, .sl 1 (.ints .u32 a) ta), (3, .v (.int .i64 i))], [], 0⟩) (Exit.exit 0) { n := 24, fr := [(0, AV.sl 1 (Seq.ints IntKind.u32 a) ta), (3, AV.v (Value.int IntKind.i64 (↑i : Int)))], hp := [], nx := 0 } :=
  evW_to hm sok0 (hs := [CHint.ops 2 [(1, Hint.b false)]]) (slots := [0,3]) (keys := []) (nx := 0) (c := _) (by kernel_rfl) h
-- 1 paths
theorem normF1 (a : List Int) (ta : Bool) (n : Nat) (h : AllP [LoopTo Try.prog (loopAt Try.f17 0) { n := 24, fr := [(0, AV.sl 1 (Seq.ints IntKind.u32 a) ta), (3, AV.v (Value.int IntKind.i64 (↑a.length : Int)))], hp := [], nx := 0 } (Exit.exit 0) { n := 24, fr := [(0, AV.sl 1 (Seq.ints IntKind.u32 a) ta), (3, AV.v (Value.int IntKind.i64 (↑n : Int)))], hp := [], nx := 0 }, 0 ≤ (↑n : Int) ∧ (↑n : Int) ≤ (↑a.length : Int), (List.take (↑n : Int).toNat a).length * (3 + 1) ≤ 140737488355328, (List.take (↑n : Int).toNat a).length = (List.take (↑n : Int).toNat a).length, 0 ≤ (List.take (↑n : Int).toNat a).length]) : PureTo Try.prog 17 [.sl 1 (.ints .u32 a) ta] (AV.sl 1 (Seq.ints IntKind.u32 (List.take (↑n : Int).toNat a)) false) :=
  evFn_pure hm sok0 (fn := Try.f17) rfl rfl (ti := false) (hs := [CHint.loop [0, 3] [] 0 (Exit.exit 0) { n := 24, fr := [(0, AV.sl 1 (Seq.ints IntKind.u32 a) ta), (3, AV.v (Value.int IntKind.i64 (↑n : Int)))], hp := [], nx := 0 }]) (c := _) (by kernel_rfl) h
-- 1 paths
theorem ownF1 (a : List Int) (ta : Bool) (h : AllP [a.length * (3 + 1) ≤ 140737488355328, a.length = a.length, 0 ≤ a.length]) : PureTo Try.prog 16 [.sl 1 (.ints .u32 a) ta] (AV.sl 1 (Seq.ints IntKind.u32 a) false) :=
  evFn_pure hm sok0 (fn := Try.f16) rfl rfl (ti := false) (hs := []) (c := _) (by kernel_rfl) h
end Go.Proofs.Bn

/- Naturals as lists of words: plain law. -/
namespace Go.Proofs.Bn

/-- how many words are left of the first n, without those of 0 at the end -/
def cutN (a : List Int) : Nat → Nat
  | 0 => 0
  | n + 1 => if a.getD n 0 = 0 then cutN a n else n + 1

def norm (a : List Int) : List Int := a.take (cutN a a.length)

theorem cutN_le (a : List Int) (n : Nat) : cutN a n ≤ n := by
  induction n with
  | zero => simp [cutN]
  | succ n ih => simp only [cutN]; split <;> omega

theorem norm_length (a : List Int) : (norm a).length = cutN a a.length := by
  have := cutN_le a a.length
  simp [norm]
  omega

theorem norm_length_le (a : List Int) : (norm a).length ≤ a.length := by
  rw [norm_length]; exact cutN_le _ _

/-- words -/
def Words (a : List Int) : Prop := ∀ x, x ∈ a → 0 ≤ x ∧ x < 4294967296

/-- the number -/
def nat : List Int → Nat
  | [] => 0
  | x :: r => x.toNat + 4294967296 * nat r

/-- a number's words -/
def dig (n : Nat) : List Int :=
  if h : n = 0 then [] else ((n % 4294967296 : Nat) : Int) :: dig (n / 4294967296)
  termination_by n
  decreasing_by omega

theorem dig_zero : dig 0 = [] := by unfold dig; simp
theorem dig_pos {n : Nat} (h : n ≠ 0) : dig n = ((n % 4294967296 : Nat) : Int) :: dig (n / 4294967296) := by
  rw [dig]; simp [h]

theorem nat_dig (n : Nat) : nat (dig n) = n := by
  induction n using Nat.strongRecOn with
  | _ n ih =>
    by_cases h : n = 0
    · subst h; simp [dig_zero, nat]
    · rw [dig_pos h, nat, ih _ (by omega)]
      have : ((n % 4294967296 : Nat) : Int).toNat = n % 4294967296 := Int.toNat_natCast _
      omega

theorem words_dig (n : Nat) : Words (dig n) := by
  induction n using Nat.strongRecOn with
  | _ n ih =>
    by_cases h : n = 0
    · subst h; simp [dig_zero, Words]
    · rw [dig_pos h]
      intro x hx
      rcases List.mem_cons.1 hx with rfl | hx
      · omega
      · exact ih _ (by omega) x hx

theorem nat_append (a b : List Int) : nat (a ++ b) = nat a + 4294967296 ^ a.length * nat b := by
  induction a with
  | nil => simp [nat]
  | cons x r ih =>
    simp only [List.cons_append, nat, ih, List.length_cons, Nat.pow_succ]
    rw [Nat.mul_add, ← Nat.mul_assoc, Nat.mul_comm 4294967296 (4294967296 ^ r.length)]
    omega

theorem nat_zeros {a : List Int} (h : ∀ x, x ∈ a → x = 0) : nat a = 0 := by
  induction a with
  | nil => rfl
  | cons x r ih =>
    have h1 := h x (by simp)
    subst h1
    simp [nat, ih fun y hy => h y (by simp [hy])]

theorem words_tail {x : Int} {r : List Int} (h : Words (x :: r)) : Words r := fun y hy => h y (by simp [hy])
theorem words_append {a b : List Int} : Words (a ++ b) ↔ Words a ∧ Words b := by
  constructor
  · exact fun h => ⟨fun x hx => h x (by simp [hx]), fun x hx => h x (by simp [hx])⟩
  · rintro ⟨h1, h2⟩ x hx
    rcases List.mem_append.1 hx with hx | hx
    · exact h1 x hx
    · exact h2 x hx
theorem words_take {a : List Int} (h : Words a) (n : Nat) : Words (a.take n) := fun x hx => h x (List.mem_of_mem_take hx)
theorem words_drop {a : List Int} (h : Words a) (n : Nat) : Words (a.drop n) := fun x hx => h x (List.mem_of_mem_drop hx)

theorem nat_lt {a : List Int} (h : Words a) : nat a < 4294967296 ^ a.length := by
  induction a with
  | nil => simp [nat]
  | cons x r ih =>
    have h1 := h x (by simp)
    have h2 := ih (words_tail h)
    simp only [nat, List.length_cons, Nat.pow_succ]
    have : nat r + 1 ≤ 4294967296 ^ r.length := h2
    have := Nat.mul_le_mul_left 4294967296 this
    rw [Nat.mul_comm (4294967296 ^ r.length)]
    omega

/-- behind the words that are left all are 0 -/
theorem cutN_zero (a : List Int) (n : Nat) (hn : n ≤ a.length) : ∀ i, cutN a n ≤ i → i < n → a.getD i 0 = 0 := by
  induction n with
  | zero => intro i _ h; omega
  | succ n ih =>
    intro i h1 h2
    simp only [cutN] at h1
    split at h1
    · next h =>
      by_cases hi : i = n
      · subst hi; exact h
      · exact ih (by omega) i h1 (by omega)
    · omega

theorem nat_norm (a : List Int) : nat (norm a) = nat a := by
  have h : a = norm a ++ a.drop (cutN a a.length) := by unfold norm; rw [List.take_append_drop]
  have hz : nat (a.drop (cutN a a.length)) = 0 := by
    apply nat_zeros
    intro x hx
    obtain ⟨i, hi, rfl⟩ := List.getElem_of_mem hx
    simp only [List.length_drop] at hi
    have := cutN_zero a a.length (Nat.le_refl _) (cutN a a.length + i) (by omega) (by omega)
    rw [List.getElem_drop]
    simpa [List.getD_eq_getElem?_getD, show cutN a a.length + i < a.length by omega] using this
  conv => rhs; rw [h]
  rw [nat_append, hz]
  simp

theorem cutN_last (a : List Int) (n : Nat) (h : cutN a n ≠ 0) : a.getD (cutN a n - 1) 0 ≠ 0 := by
  induction n with
  | zero => exact absurd rfl h
  | succ n ih =>
    simp only [cutN] at h ⊢
    split at h
    · next hz => rw [if_pos hz]; exact ih h
    · next hz => rw [if_neg hz]; simpa using hz

/-- words whose last is not 0 are a number's words -/
theorem dig_nat {a : List Int} (h : Words a) (hl : a ≠ [] → a.getD (a.length - 1) 0 ≠ 0) : dig (nat a) = a := by
  induction a with
  | nil => simp [nat, dig_zero]
  | cons x r ih =>
    have hx := h x (by simp)
    have hr : dig (nat r) = r := by
      apply ih (words_tail h)
      intro hne
      have := hl (by simp)
      obtain ⟨y, s, rfl⟩ := List.exists_cons_of_ne_nil hne
      simpa using this
    have hn : nat (x :: r) ≠ 0 := by
      intro he
      simp only [nat] at he
      have h1 : x = 0 := by omega
      have h2 : nat r = 0 := by omega
      rw [h2, dig_zero] at hr
      subst hr
      exact hl (by simp) (by simpa using h1)
    rw [dig_pos hn]
    have e1 : nat (x :: r) % 4294967296 = x.toNat := by simp only [nat]; omega
    have e2 : nat (x :: r) / 4294967296 = nat r := by simp only [nat]; omega
    rw [e1, e2, hr]
    congr 1
    omega

theorem words_norm {a : List Int} (h : Words a) : Words (norm a) := words_take h _

theorem norm_eq {a : List Int} (h : Words a) : norm a = dig (nat a) := by
  rw [← nat_norm a, dig_nat (words_norm h)]
  intro hne
  have hl := norm_length a
  have hpos : cutN a a.length ≠ 0 := by
    intro e
    rw [e] at hl
    exact hne (List.length_eq_zero_iff.1 hl)
  have := cutN_last a a.length hpos
  have hle := cutN_le a a.length
  rw [hl]
  unfold norm
  rw [List.getD_eq_getElem?_getD, List.getElem?_take, if_pos (by omega), ← List.getD_eq_getElem?_getD]
  exact this

end Go.Proofs.Bn

/- Bignum: contracts: cut, Norm, own. -/
set_option maxRecDepth 100000
namespace Go.Proofs.Bn
open Go Go.Ev

theorem inR64 {x : Int} (h0 : -9223372036854775808 ≤ x) (h1 : x ≤ 9223372036854775807) : inR .i64 x := ⟨h0, h1⟩

theorem cut_loop (a : List Int) (ta : Bool) (hl : a.length < lim) : ∀ n : Nat, n ≤ a.length →
    LoopTo Try.prog (loopAt Try.f43 0) ⟨22, [(0, .sl 1 (.ints .u32 a) ta), (3, .v (.int .i64 n))], [], 0⟩ (.exit 0) ⟨22, [(0, .sl 1 (.ints .u32 a) ta), (3, .v (.int .i64 (cutN a n)))], [], 0⟩ := by
  unfold lim at hl
  intro n
  induction n with
  | zero =>
    intro _
    exact .done (by simp) (cutL3 a ta 0 ⟨by simp, trivial⟩)
  | succ n ih =>
    intro hn
    have e : ((n + 1 : Nat) : Int) - 1 = (n : Int) := by omega
    by_cases hz : a.getD n 0 = 0
    · have h1 := cutL1 a ta (n + 1) (by rw [e]; exact ⟨by simp, inR64 (by omega) (by omega), by omega, by simpa using hz, inR64 (by omega) (by omega), trivial⟩)
      rw [e] at h1
      have := LoopTo.step h1 (ih (by omega))
      simp only [cutN, if_pos hz]
      exact this
    · have h1 := cutL2 a ta (n + 1) (by rw [e]; exact ⟨by simp, inR64 (by omega) (by omega), by omega, by simpa using hz, trivial⟩)
      simp only [cutN, if_neg hz]
      exact .done (by simp) h1

theorem cut_pure (a : List Int) (ta : Bool) (hl : a.length < lim) : PureTo Try.prog 43 [.sl 1 (.ints .u32 a) ta] (.sl 1 (.ints .u32 (norm a)) true) := by
  have := cutN_le a a.length
  have h := cutF1 a ta (cutN a a.length) ⟨cut_loop a ta hl a.length (Nat.le_refl _), by omega, by omega, trivial⟩
  rw [Int.toNat_natCast] at h
  exact h

theorem norm_loop (a : List Int) (ta : Bool) (hl : a.length < lim) : ∀ n : Nat, n ≤ a.length →
    LoopTo Try.prog (loopAt Try.f17 0) ⟨24, [(0, .sl 1 (.ints .u32 a) ta), (3, .v (.int .i64 n))], [], 0⟩ (.exit 0) ⟨24, [(0, .sl 1 (.ints .u32 a) ta), (3, .v (.int .i64 (cutN a n)))], [], 0⟩ := by
  unfold lim at hl
  intro n
  induction n with
  | zero =>
    intro _
    exact .done (by simp) (normL3 a ta 0 ⟨by simp, trivial⟩)
  | succ n ih =>
    intro hn
    have e : ((n + 1 : Nat) : Int) - 1 = (n : Int) := by omega
    by_cases hz : a.getD n 0 = 0
    · have h1 := normL1 a ta (n + 1) (by rw [e]; exact ⟨by simp, inR64 (by omega) (by omega), by omega, by simpa using hz, inR64 (by omega) (by omega), trivial⟩)
      rw [e] at h1
      have := LoopTo.step h1 (ih (by omega))
      simp only [cutN, if_pos hz]
      exact this
    · have h1 := normL2 a ta (n + 1) (by rw [e]; exact ⟨by simp, inR64 (by omega) (by omega), by omega, by simpa using hz, trivial⟩)
      simp only [cutN, if_neg hz]
      exact .done (by simp) h1

/-- a length of words that append bears -/
def lim4 : Nat := 35184372088832

theorem norm_pure (a : List Int) (ta : Bool) (hl : a.length ≤ lim4) : PureTo Try.prog 17 [.sl 1 (.ints .u32 a) ta] (.sl 1 (.ints .u32 (norm a)) false) := by
  have := cutN_le a a.length
  unfold lim4 at hl
  have h := normF1 a ta (cutN a a.length) ⟨norm_loop a ta (by unfold lim; omega) a.length (Nat.le_refl _), by omega, by rw [Int.toNat_natCast, List.length_take]; omega, rfl, Nat.zero_le _, trivial⟩
  rw [Int.toNat_natCast] at h
  exact h

theorem own_pure (a : List Int) (ta : Bool) (hl : a.length ≤ lim4) : PureTo Try.prog 16 [.sl 1 (.ints .u32 a) ta] (.sl 1 (.ints .u32 a) false) :=
  ownF1 a ta ⟨by unfold lim4 at hl; omega, rfl, Nat.zero_le _, trivial⟩

def sigCut : List AV → Option (AV × List Prop)
  | [.sl 1 (.ints .u32 a) _] => some (.sl 1 (.ints .u32 (norm a)) true, [a.length < lim])
  | _ => none
def sigNorm : List AV → Option (AV × List Prop)
  | [.sl 1 (.ints .u32 a) _] => some (.sl 1 (.ints .u32 (norm a)) false, [a.length ≤ lim4])
  | _ => none
def sigOwn : List AV → Option (AV × List Prop)
  | [.sl 1 (.ints .u32 a) _] => some (.sl 1 (.ints .u32 a) false, [a.length ≤ lim4])
  | _ => none
def sigSame : List AV → Option (AV × List Prop)
  | [.sl 1 (.ints .u32 a) _, .sl 1 (.ints .u32 b) _] => some (.v (.bool (decide (a = b))), [a.length < lim])
  | _ => none

def SG1 : SGT := [(43, .p sigCut), (17, .p sigNorm), (16, .p sigOwn), (13, .p sigSame)]

theorem sok1 : SigsOK Try.prog SG1 := by
  refine sigs_cons (sigs_cons (sigs_cons (sigs_cons sok0 ?_) ?_) ?_) ?_
  · intro ys r c h hc
    unfold sigSame at h
    split at h
    · cases h; exact Same.pure _ _ _ _ hc.1
    · cases h
  · intro ys r c h hc
    unfold sigOwn at h
    split at h
    · cases h; exact own_pure _ _ hc.1
    · cases h
  · intro ys r c h hc
    unfold sigNorm at h
    split at h
    · cases h; exact norm_pure _ _ hc.1
    · cases h
  · intro ys r c h hc
    unfold sigCut at h
    split at h
    · cases h; exact cut_pure _ _ hc.1
    · cases h

end Go.Proofs.Bn

/- Bignum: walks, written by the tool. -/
set_option maxRecDepth 100000
namespace Go.Proofs.Bn
open Go Go.Ev
-- 2 paths
theorem longF1 (a : List Int) (ta : Bool) (h : AllP [a.length < lim, decide ((↑(norm a).length : Int) > 1024) = true]) : PureTo Try.prog 65 [.sl 1 (.ints .u32 a) ta] (AV.v (Value.bool true)) :=
  evFn_pure hm sok1 (fn := Try.f65) rfl rfl (ti := false) (hs := [CHint.ops 1 [(4, Hint.b true)]]) (c := _) (by kernel_rfl) h
theorem longF2 (a : List Int) (ta : Bool) (h : AllP [a.length < lim, decide ((↑(norm a).length : Int) > 1024) = false]) : PureTo Try.prog 65 [.sl 1 (.ints .u32 a) ta] (AV.v (Value.bool false)) :=
  evFn_pure hm sok1 (fn := Try.f65) rfl rfl (ti := false) (hs := [CHint.ops 1 [(4, Hint.b false)]]) (c := _) (by kernel_rfl) h
-- 2 paths
theorem toldF1 (a : List Int) (ta : Bool) (h : AllP [a.length < lim, decide ((↑(norm a).length : Int) > 1024) = true]) : PureTo Try.prog 48 [.sl 1 (.ints .u32 a) ta] (AV.tup [AV.sl 1 (Seq.ints IntKind.u32 []) true, AV.v (Value.int IntKind.i64 3)]) :=
  evFn_pure hm sok1 (fn := Try.f48) rfl rfl (ti := true) (hs := [CHint.ops 2 [(2, Hint.b true)]]) (c := _) (by kernel_rfl) h
theorem toldF2 (a : List Int) (ta : Bool) (h : AllP [a.length < lim, decide ((↑(norm a).length : Int) > 1024) = false]) : PureTo Try.prog 48 [.sl 1 (.ints .u32 a) ta] (AV.tup [AV.sl 1 (Seq.ints IntKind.u32 (norm a)) true, AV.v (Value.int IntKind.i64 0)]) :=
  evFn_pure hm sok1 (fn := Try.f48) rfl rfl (ti := true) (hs := [CHint.ops 2 [(2, Hint.b false)]]) (c := _) (by kernel_rfl) h
-- 2 paths
theorem LongF1 (a : List Int) (ta : Bool) (h : AllP [a.length ≤ lim4, decide ((↑(norm a).length : Int) > 1024) = true]) : PureTo Try.prog 41 [.sl 1 (.ints .u32 a) ta] (AV.v (Value.bool true)) :=
  evFn_pure hm sok1 (fn := Try.f41) rfl rfl (ti := false) (hs := [CHint.ops 1 [(4, Hint.b true)]]) (c := _) (by kernel_rfl) h
theorem LongF2 (a : List Int) (ta : Bool) (h : AllP [a.length ≤ lim4, decide ((↑(norm a).length : Int) > 1024) = false]) : PureTo Try.prog 41 [.sl 1 (.ints .u32 a) ta] (AV.v (Value.bool false)) :=
  evFn_pure hm sok1 (fn := Try.f41) rfl rfl (ti := false) (hs := [CHint.ops 1 [(4, Hint.b false)]]) (c := _) (by kernel_rfl) h
end Go.Proofs.Bn

/- Bignum: contracts: long of one, told, Long. -/
set_option maxRecDepth 100000
namespace Go.Proofs.Bn
open Go Go.Ev

/-- more words than may be -/
def over (a : List Int) : Bool := decide (1024 < (norm a).length)

theorem long1_pure (a : List Int) (ta : Bool) (hl : a.length < lim) : PureTo Try.prog 65 [.sl 1 (.ints .u32 a) ta] (.v (.bool (over a))) := by
  unfold over
  by_cases h : 1024 < (norm a).length
  · rw [decide_eq_true h]; exact longF1 a ta ⟨hl, by simp; omega, trivial⟩
  · rw [decide_eq_false h]; exact longF2 a ta ⟨hl, by simp; omega, trivial⟩

theorem Long_pure (a : List Int) (ta : Bool) (hl : a.length ≤ lim4) : PureTo Try.prog 41 [.sl 1 (.ints .u32 a) ta] (.v (.bool (over a))) := by
  unfold over
  by_cases h : 1024 < (norm a).length
  · rw [decide_eq_true h]; exact LongF1 a ta ⟨hl, by simp; omega, trivial⟩
  · rw [decide_eq_false h]; exact LongF2 a ta ⟨hl, by simp; omega, trivial⟩

def toldL (a : List Int) : List Int := if over a then [] else norm a
def toldE (a : List Int) : Int := if over a then 3 else 0

theorem told_pure (a : List Int) (ta : Bool) (hl : a.length < lim) : PureTo Try.prog 48 [.sl 1 (.ints .u32 a) ta] (.tup [.sl 1 (.ints .u32 (toldL a)) true, .v (.int .i64 (toldE a))]) := by
  unfold toldL toldE over
  by_cases h : 1024 < (norm a).length
  · simp only [decide_eq_true h, if_true]; exact toldF1 a ta ⟨hl, by simp; omega, trivial⟩
  · simp only [decide_eq_false h]; exact toldF2 a ta ⟨hl, by simp; omega, trivial⟩

def sigLong1 : List AV → Option (AV × List Prop)
  | [.sl 1 (.ints .u32 a) _] => some (.v (.bool (over a)), [a.length < lim])
  | _ => none
def sigLong : List AV → Option (AV × List Prop)
  | [.sl 1 (.ints .u32 a) _] => some (.v (.bool (over a)), [a.length ≤ lim4])
  | _ => none
def sigTold : List AV → Option (AV × List Prop)
  | [.sl 1 (.ints .u32 a) _] => some (.tup [.sl 1 (.ints .u32 (toldL a)) true, .v (.int .i64 (toldE a))], [a.length < lim])
  | _ => none

def SG2 : SGT := (65, .p sigLong1) :: (41, .p sigLong) :: (48, .p sigTold) :: SG1

theorem sok2 : SigsOK Try.prog SG2 := by
  refine sigs_cons (sigs_cons (sigs_cons sok1 ?_) ?_) ?_
  · intro ys r c h hc
    unfold sigTold at h
    split at h
    · cases h; exact told_pure _ _ hc.1
    · cases h
  · intro ys r c h hc
    unfold sigLong at h
    split at h
    · cases h; exact Long_pure _ _ hc.1
    · cases h
  · intro ys r c h hc
    unfold sigLong1 at h
    split at h
    · cases h; exact long1_pure _ _ hc.1
    · cases h

end Go.Proofs.Bn

/- Bignum: walks, written by the tool. -/
set_option maxRecDepth 100000
namespace Go.Proofs.Bn
open Go Go.Ev
-- 2 paths
theorem ix1_0_1 (a : List Int) (ta : Bool) (h : AllP [(0 : Int) ≤ (0 : Int) ∧ (0 : Int) < (↑[AV.sl (1 : Nat) (Seq.ints IntKind.u32 a) ta].length : Int), over a = true, a.length < lim]) : To Try.prog (loopAt Try.f69 0) (⟨19, [(0, .sl 1 (.avs [.sl 1 (.ints .u32 a) ta]) true), (1, .fnv (.func 65) [] []), (4, .v (.int .i64 0)), (6, .sl 1 (.avs [.sl 1 (.ints .u32 a) ta]) true), (7, .v (.int .i64 1)), (8, .v (.int .i64 0))], [], 0⟩) (Exit.ret) { n := (19 : Nat), fr := [((4 : Nat), AV.v (Value.int IntKind.i64 (0 : Int)))], hp := [], nx := (0 : Nat) } :=
  evW_to hm sok2 (hs := [CHint.ops (nat_lit 4) [(nat_lit 5, Hint.b true)]]) (slots := [4]) (keys := []) (nx := 0) (c := _) (by kernel_rfl) h
theorem ix1_0_2 (a : List Int) (ta : Bool) (h : AllP [(0 : Int) ≤ (0 : Int) ∧ (0 : Int) < (↑[AV.sl (1 : Nat) (Seq.ints IntKind.u32 a) ta].length : Int), over a = false, a.length < lim, inR IntKind.i64 ((0 : Int) + (1 : Int))]) : To Try.prog (loopAt Try.f69 0) (⟨19, [(0, .sl 1 (.avs [.sl 1 (.ints .u32 a) ta]) true), (1, .fnv (.func 65) [] []), (4, .v (.int .i64 0)), (6, .sl 1 (.avs [.sl 1 (.ints .u32 a) ta]) true), (7, .v (.int .i64 1)), (8, .v (.int .i64 0))], [], 0⟩) (.normal) { n := (19 : Nat), fr := [((0 : Nat), AV.sl (1 : Nat) (Seq.avs [AV.sl (1 : Nat) (Seq.ints IntKind.u32 a) ta]) true), ((1 : Nat), AV.fnv (Fn.func (65 : Nat)) [] []), ((4 : Nat), AV.v (Value.int IntKind.i64 (0 : Int))), ((6 : Nat), AV.sl (1 : Nat) (Seq.avs [AV.sl (1 : Nat) (Seq.ints IntKind.u32 a) ta]) true), ((7 : Nat), AV.v (Value.int IntKind.i64 (1 : Int))), ((8 : Nat), AV.v (Value.int IntKind.i64 ((0 : Int) + (1 : Int))))], hp := [], nx := (0 : Nat) } :=
  evW_to hm sok2 (hs := [CHint.ops (nat_lit 4) [(nat_lit 5, Hint.b false)]]) (slots := [0,1,4,6,7,8]) (keys := []) (nx := 0) (c := _) (by kernel_rfl) h
-- 1 paths
theorem ix1_1_1 (a : List Int) (ta : Bool) (h : AllP []) : To Try.prog (loopAt Try.f69 0) (⟨19, [(0, .sl 1 (.avs [.sl 1 (.ints .u32 a) ta]) true), (1, .fnv (.func 65) [] []), (4, .v (.int .i64 0)), (6, .sl 1 (.avs [.sl 1 (.ints .u32 a) ta]) true), (7, .v (.int .i64 1)), (8, .v (.int .i64 1))], [], 0⟩) (Exit.exit (0 : Nat)) { n := (19 : Nat), fr := [((4 : Nat), AV.v (Value.int IntKind.i64 (0 : Int)))], hp := [], nx := (0 : Nat) } :=
  evW_to hm sok2 (hs := []) (slots := [4]) (keys := []) (nx := 0) (c := _) (by kernel_rfl) h
-- 1 paths
theorem ixF11 (a : List Int) (ta : Bool) (h : AllP [LoopTo Try.prog (loopAt Try.f69 (0 : Nat)) { n := (19 : Nat), fr := [((0 : Nat), AV.sl (1 : Nat) (Seq.avs [AV.sl (1 : Nat) (Seq.ints IntKind.u32 a) ta]) true), ((1 : Nat), AV.fnv (Fn.func (65 : Nat)) [] []), ((4 : Nat), AV.v (Value.int IntKind.i64 (0 : Int))), ((6 : Nat), AV.sl (1 : Nat) (Seq.avs [AV.sl (1 : Nat) (Seq.ints IntKind.u32 a) ta]) true), ((7 : Nat), AV.v (Value.int IntKind.i64 (↑[AV.sl (1 : Nat) (Seq.ints IntKind.u32 a) ta].length : Int))), ((8 : Nat), AV.v (Value.int IntKind.i64 (0 : Int)))], hp := [], nx := (0 : Nat) } (Exit.exit (0 : Nat)) { n := (19 : Nat), fr := [((4 : Nat), AV.v (Value.int IntKind.i64 (0 : Int)))], hp := [], nx := (0 : Nat) }]) : PureTo Try.prog 69 [.sl 1 (.avs [.sl 1 (.ints .u32 a) ta]) true, .fnv (.func 65) [] []] (AV.v (Value.int IntKind.i64 (-1 : Int))) :=
  evFn_pure hm sok2 (fn := Try.f69) rfl rfl (ti := false) (hs := [CHint.loop [(0 : Nat), (1 : Nat), (4 : Nat), (6 : Nat), (7 : Nat), (8 : Nat)] [] (0 : Nat) (Exit.exit (0 : Nat)) { n := (19 : Nat), fr := [((4 : Nat), AV.v (Value.int IntKind.i64 (0 : Int)))], hp := [], nx := (0 : Nat) }]) (c := _) (by kernel_rfl) h
-- 1 paths
theorem ixG11 (a : List Int) (ta : Bool) (k : Int) (h : AllP [LoopTo Try.prog (loopAt Try.f69 (0 : Nat)) { n := (19 : Nat), fr := [((0 : Nat), AV.sl (1 : Nat) (Seq.avs [AV.sl (1 : Nat) (Seq.ints IntKind.u32 a) ta]) true), ((1 : Nat), AV.fnv (Fn.func (65 : Nat)) [] []), ((4 : Nat), AV.v (Value.int IntKind.i64 (0 : Int))), ((6 : Nat), AV.sl (1 : Nat) (Seq.avs [AV.sl (1 : Nat) (Seq.ints IntKind.u32 a) ta]) true), ((7 : Nat), AV.v (Value.int IntKind.i64 (↑[AV.sl (1 : Nat) (Seq.ints IntKind.u32 a) ta].length : Int))), ((8 : Nat), AV.v (Value.int IntKind.i64 (0 : Int)))], hp := [], nx := (0 : Nat) } Exit.ret { n := (19 : Nat), fr := [((4 : Nat), AV.v (Value.int IntKind.i64 k))], hp := [], nx := (0 : Nat) }]) : PureTo Try.prog 69 [.sl 1 (.avs [.sl 1 (.ints .u32 a) ta]) true, .fnv (.func 65) [] []] (AV.v (Value.int IntKind.i64 k)) :=
  evFn_pure hm sok2 (fn := Try.f69) rfl rfl (ti := false) (hs := [CHint.loop [(0 : Nat), (1 : Nat), (4 : Nat), (6 : Nat), (7 : Nat), (8 : Nat)] [] (0 : Nat) Exit.ret { n := (19 : Nat), fr := [((4 : Nat), AV.v (Value.int IntKind.i64 k))], hp := [], nx := (0 : Nat) }]) (c := _) (by kernel_rfl) h
-- 2 paths
theorem ix2_0_1 (a b : List Int) (ta tb : Bool) (h : AllP [(0 : Int) ≤ (0 : Int) ∧ (0 : Int) < (↑[AV.sl (1 : Nat) (Seq.ints IntKind.u32 a) ta, AV.sl (1 : Nat) (Seq.ints IntKind.u32 b) tb].length : Int), over a = true, a.length < lim]) : To Try.prog (loopAt Try.f69 0) (⟨19, [(0, .sl 1 (.avs [.sl 1 (.ints .u32 a) ta, .sl 1 (.ints .u32 b) tb]) true), (1, .fnv (.func 65) [] []), (4, .v (.int .i64 0)), (6, .sl 1 (.avs [.sl 1 (.ints .u32 a) ta, .sl 1 (.ints .u32 b) tb]) true), (7, .v (.int .i64 2)), (8, .v (.int .i64 0))], [], 0⟩) (Exit.ret) { n := (19 : Nat), fr := [((4 : Nat), AV.v (Value.int IntKind.i64 (0 : Int)))], hp := [], nx := (0 : Nat) } :=
  evW_to hm sok2 (hs := [CHint.ops (nat_lit 4) [(nat_lit 5, Hint.b true)]]) (slots := [4]) (keys := []) (nx := 0) (c := _) (by kernel_rfl) h
theorem ix2_0_2 (a b : List Int) (ta tb : Bool) (h : AllP [(0 : Int) ≤ (0 : Int) ∧ (0 : Int) < (↑[AV.sl (1 : Nat) (Seq.ints IntKind.u32 a) ta, AV.sl (1 : Nat) (Seq.ints IntKind.u32 b) tb].length : Int), over a = false, a.length < lim, inR IntKind.i64 ((0 : Int) + (1 : Int))]) : To Try.prog (loopAt Try.f69 0) (⟨19, [(0, .sl 1 (.avs [.sl 1 (.ints .u32 a) ta, .sl 1 (.ints .u32 b) tb]) true), (1, .fnv (.func 65) [] []), (4, .v (.int .i64 0)), (6, .sl 1 (.avs [.sl 1 (.ints .u32 a) ta, .sl 1 (.ints .u32 b) tb]) true), (7, .v (.int .i64 2)), (8, .v (.int .i64 0))], [], 0⟩) (.normal) { n := (19 : Nat), fr := [((0 : Nat), AV.sl (1 : Nat) (Seq.avs [AV.sl (1 : Nat) (Seq.ints IntKind.u32 a) ta, AV.sl (1 : Nat) (Seq.ints IntKind.u32 b) tb]) true), ((1 : Nat), AV.fnv (Fn.func (65 : Nat)) [] []), ((4 : Nat), AV.v (Value.int IntKind.i64 (0 : Int))), ((6 : Nat), AV.sl (1 : Nat) (Seq.avs [AV.sl (1 : Nat) (Seq.ints IntKind.u32 a) ta, AV.sl (1 : Nat) (Seq.ints IntKind.u32 b) tb]) true), ((7 : Nat), AV.v (Value.int IntKind.i64 (2 : Int))), ((8 : Nat), AV.v (Value.int IntKind.i64 ((0 : Int) + (1 : Int))))], hp := [], nx := (0 : Nat) } :=
  evW_to hm sok2 (hs := [CHint.ops (nat_lit 4) [(nat_lit 5, Hint.b false)]]) (slots := [0,1,4,6,7,8]) (keys := []) (nx := 0) (c := _) (by kernel_rfl) h
-- 2 paths
theorem ix2_1_1 (a b : List Int) (ta tb : Bool) (h : AllP [(0 : Int) ≤ (1 : Int) ∧ (1 : Int) < (↑[AV.sl (1 : Nat) (Seq.ints IntKind.u32 a) ta, AV.sl (1 : Nat) (Seq.ints IntKind.u32 b) tb].length : Int), over b = true, b.length < lim]) : To Try.prog (loopAt Try.f69 0) (⟨19, [(0, .sl 1 (.avs [.sl 1 (.ints .u32 a) ta, .sl 1 (.ints .u32 b) tb]) true), (1, .fnv (.func 65) [] []), (4, .v (.int .i64 0)), (6, .sl 1 (.avs [.sl 1 (.ints .u32 a) ta, .sl 1 (.ints .u32 b) tb]) true), (7, .v (.int .i64 2)), (8, .v (.int .i64 1))], [], 0⟩) (Exit.ret) { n := (19 : Nat), fr := [((4 : Nat), AV.v (Value.int IntKind.i64 (1 : Int)))], hp := [], nx := (0 : Nat) } :=
  evW_to hm sok2 (hs := [CHint.ops (nat_lit 4) [(nat_lit 5, Hint.b true)]]) (slots := [4]) (keys := []) (nx := 0) (c := _) (by kernel_rfl) h
theorem ix2_1_2 (a b : List Int) (ta tb : Bool) (h : AllP [(0 : Int) ≤ (1 : Int) ∧ (1 : Int) < (↑[AV.sl (1 : Nat) (Seq.ints IntKind.u32 a) ta, AV.sl (1 : Nat) (Seq.ints IntKind.u32 b) tb].length : Int), over b = false, b.length < lim, inR IntKind.i64 ((1 : Int) + (1 : Int))]) : To Try.prog (loopAt Try.f69 0) (⟨19, [(0, .sl 1 (.avs [.sl 1 (.ints .u32 a) ta, .sl 1 (.ints .u32 b) tb]) true), (1, .fnv (.func 65) [] []), (4, .v (.int .i64 0)), (6, .sl 1 (.avs [.sl 1 (.ints .u32 a) ta, .sl 1 (.ints .u32 b) tb]) true), (7, .v (.int .i64 2)), (8, .v (.int .i64 1))], [], 0⟩) (.normal) { n := (19 : Nat), fr := [((0 : Nat), AV.sl (1 : Nat) (Seq.avs [AV.sl (1 : Nat) (Seq.ints IntKind.u32 a) ta, AV.sl (1 : Nat) (Seq.ints IntKind.u32 b) tb]) true), ((1 : Nat), AV.fnv (Fn.func (65 : Nat)) [] []), ((4 : Nat), AV.v (Value.int IntKind.i64 (0 : Int))), ((6 : Nat), AV.sl (1 : Nat) (Seq.avs [AV.sl (1 : Nat) (Seq.ints IntKind.u32 a) ta, AV.sl (1 : Nat) (Seq.ints IntKind.u32 b) tb]) true), ((7 : Nat), AV.v (Value.int IntKind.i64 (2 : Int))), ((8 : Nat), AV.v (Value.int IntKind.i64 ((1 : Int) + (1 : Int))))], hp := [], nx := (0 : Nat) } :=
  evW_to hm sok2 (hs := [CHint.ops (nat_lit 4) [(nat_lit 5, Hint.b false)]]) (slots := [0,1,4,6,7,8]) (keys := []) (nx := 0) (c := _) (by kernel_rfl) h
-- 1 paths
theorem ix2_2_1 (a b : List Int) (ta tb : Bool) (h : AllP []) : To Try.prog (loopAt Try.f69 0) (⟨19, [(0, .sl 1 (.avs [.sl 1 (.ints .u32 a) ta, .sl 1 (.ints .u32 b) tb]) true), (1, .fnv (.func 65) [] []), (4, .v (.int .i64 0)), (6, .sl 1 (.avs [.sl 1 (.ints .u32 a) ta, .sl 1 (.ints .u32 b) tb]) true), (7, .v (.int .i64 2)), (8, .v (.int .i64 2))], [], 0⟩) (Exit.exit (0 : Nat)) { n := (19 : Nat), fr := [((4 : Nat), AV.v (Value.int IntKind.i64 (0 : Int)))], hp := [], nx := (0 : Nat) } :=
  evW_to hm sok2 (hs := []) (slots := [4]) (keys := []) (nx := 0) (c := _) (by kernel_rfl) h
-- 1 paths
theorem ixF21 (a b : List Int) (ta tb : Bool) (h : AllP [LoopTo Try.prog (loopAt Try.f69 (0 : Nat)) { n := (19 : Nat), fr := [((0 : Nat), AV.sl (1 : Nat) (Seq.avs [AV.sl (1 : Nat) (Seq.ints IntKind.u32 a) ta, AV.sl (1 : Nat) (Seq.ints IntKind.u32 b) tb]) true), ((1 : Nat), AV.fnv (Fn.func (65 : Nat)) [] []), ((4 : Nat), AV.v (Value.int IntKind.i64 (0 : Int))), ((6 : Nat), AV.sl (1 : Nat) (Seq.avs [AV.sl (1 : Nat) (Seq.ints IntKind.u32 a) ta, AV.sl (1 : Nat) (Seq.ints IntKind.u32 b) tb]) true), ((7 : Nat), AV.v (Value.int IntKind.i64 (↑[AV.sl (1 : Nat) (Seq.ints IntKind.u32 a) ta, AV.sl (1 : Nat) (Seq.ints IntKind.u32 b) tb].length : Int))), ((8 : Nat), AV.v (Value.int IntKind.i64 (0 : Int)))], hp := [], nx := (0 : Nat) } (Exit.exit (0 : Nat)) { n := (19 : Nat), fr := [((4 : Nat), AV.v (Value.int IntKind.i64 (0 : Int)))], hp := [], nx := (0 : Nat) }]) : PureTo Try.prog 69 [.sl 1 (.avs [.sl 1 (.ints .u32 a) ta, .sl 1 (.ints .u32 b) tb]) true, .fnv (.func 65) [] []] (AV.v (Value.int IntKind.i64 (-1 : Int))) :=
  evFn_pure hm sok2 (fn := Try.f69) rfl rfl (ti := false) (hs := [CHint.loop [(0 : Nat), (1 : Nat), (4 : Nat), (6 : Nat), (7 : Nat), (8 : Nat)] [] (0 : Nat) (Exit.exit (0 : Nat)) { n := (19 : Nat), fr := [((4 : Nat), AV.v (Value.int IntKind.i64 (0 : Int)))], hp := [], nx := (0 : Nat) }]) (c := _) (by kernel_rfl) h
-- 1 paths
theorem ixG21 (a b : List Int) (ta tb : Bool) (k : Int) (h : AllP [LoopTo Try.prog (loopAt Try.f69 (0 : Nat)) { n := (19 : Nat), fr := [((0 : Nat), AV.sl (1 : Nat) (Seq.avs [AV.sl (1 : Nat) (Seq.ints IntKind.u32 a) ta, AV.sl (1 : Nat) (Seq.ints IntKind.u32 b) tb]) true), ((1 : Nat), AV.fnv (Fn.func (65 : Nat)) [] []), ((4 : Nat), AV.v (Value.int IntKind.i64 (0 : Int))), ((6 : Nat), AV.sl (1 : Nat) (Seq.avs [AV.sl (1 : Nat) (Seq.ints IntKind.u32 a) ta, AV.sl (1 : Nat) (Seq.ints IntKind.u32 b) tb]) true), ((7 : Nat), AV.v (Value.int IntKind.i64 (↑[AV.sl (1 : Nat) (Seq.ints IntKind.u32 a) ta, AV.sl (1 : Nat) (Seq.ints IntKind.u32 b) tb].length : Int))), ((8 : Nat), AV.v (Value.int IntKind.i64 (0 : Int)))], hp := [], nx := (0 : Nat) } Exit.ret { n := (19 : Nat), fr := [((4 : Nat), AV.v (Value.int IntKind.i64 k))], hp := [], nx := (0 : Nat) }]) : PureTo Try.prog 69 [.sl 1 (.avs [.sl 1 (.ints .u32 a) ta, .sl 1 (.ints .u32 b) tb]) true, .fnv (.func 65) [] []] (AV.v (Value.int IntKind.i64 k)) :=
  evFn_pure hm sok2 (fn := Try.f69) rfl rfl (ti := false) (hs := [CHint.loop [(0 : Nat), (1 : Nat), (4 : Nat), (6 : Nat), (7 : Nat), (8 : Nat)] [] (0 : Nat) Exit.ret { n := (19 : Nat), fr := [((4 : Nat), AV.v (Value.int IntKind.i64 k))], hp := [], nx := (0 : Nat) }]) (c := _) (by kernel_rfl) h
end Go.Proofs.Bn

/- Bignum: contracts: IndexFunc, ContainsFunc, long. -/
set_option maxRecDepth 100000
namespace Go.Proofs.Bn
open Go Go.Ev

def at1 (a : List Int) : Int := if over a then 0 else -1
def at2 (a b : List Int) : Int := if over a then 0 else if over b then 1 else -1

theorem index1_pure (a : List Int) (ta : Bool) (ha : a.length < lim) : PureTo Try.prog 69 [.sl 1 (.avs [.sl 1 (.ints .u32 a) ta]) true, .fnv (.func 65) [] []] (.v (.int .i64 (at1 a))) := by
  unfold at1
  cases h : over a with
  | true => exact ixG11 a ta 0 ⟨.done (by simp) (ix1_0_1 a ta ⟨by simp, h, ha, trivial⟩), trivial⟩
  | false => exact ixF11 a ta ⟨.step (ix1_0_2 a ta ⟨by simp, h, ha, inR64 (by omega) (by omega), trivial⟩) (.done (by simp) (ix1_1_1 a ta trivial)), trivial⟩

theorem index2_pure (a b : List Int) (ta tb : Bool) (ha : a.length < lim) (hb : b.length < lim) : PureTo Try.prog 69 [.sl 1 (.avs [.sl 1 (.ints .u32 a) ta, .sl 1 (.ints .u32 b) tb]) true, .fnv (.func 65) [] []] (.v (.int .i64 (at2 a b))) := by
  unfold at2
  cases h : over a with
  | true => exact ixG21 a b ta tb 0 ⟨.done (by simp) (ix2_0_1 a b ta tb ⟨by simp, h, ha, trivial⟩), trivial⟩
  | false =>
    have s0 := ix2_0_2 a b ta tb ⟨by simp, h, ha, inR64 (by omega) (by omega), trivial⟩
    cases h2 : over b with
    | true => exact ixG21 a b ta tb 1 ⟨.step s0 (.done (by simp) (ix2_1_1 a b ta tb ⟨by simp, h2, hb, trivial⟩)), trivial⟩
    | false => exact ixF21 a b ta tb ⟨.step s0 (.step (ix2_1_2 a b ta tb ⟨by simp, h2, hb, inR64 (by omega) (by omega), trivial⟩) (.done (by simp) (ix2_2_1 a b ta tb trivial))), trivial⟩

def sigIndex : List AV → Option (AV × List Prop)
  | [.sl 1 (.avs [.sl 1 (.ints .u32 a) _]) true, .fnv (.func 65) [] []] => some (.v (.int .i64 (at1 a)), [a.length < lim])
  | [.sl 1 (.avs [.sl 1 (.ints .u32 a) _, .sl 1 (.ints .u32 b) _]) true, .fnv (.func 65) [] []] => some (.v (.int .i64 (at2 a b)), [a.length < lim, b.length < lim])
  | _ => none

def SG3 : SGT := (69, .p sigIndex) :: SG2

theorem sok3 : SigsOK Try.prog SG3 := by
  refine sigs_cons sok2 ?_
  intro ys r c h hc
  unfold sigIndex at h
  split at h
  · cases h; exact index1_pure _ _ hc.1
  · cases h; exact index2_pure _ _ _ _ hc.1 hc.2.1
  · cases h

end Go.Proofs.Bn

/- Bignum: walks, written by the tool. -/
set_option maxRecDepth 100000
namespace Go.Proofs.Bn
open Go Go.Ev
-- 1 paths
theorem coF1 (a : List Int) (ta : Bool) (h : AllP [a.length < lim]) : PureTo Try.prog 64 [.sl 1 (.avs [.sl 1 (.ints .u32 a) ta]) true, .fnv (.func 65) [] []] (AV.v (Value.bool (decide (at1 a ≥ (0 : Int))))) :=
  evFn_pure hm sok3 (fn := Try.f64) rfl rfl (ti := false) (hs := []) (c := _) (by kernel_rfl) h
-- 1 paths
theorem coG1 (a b : List Int) (ta tb : Bool) (h : AllP [a.length < lim, b.length < lim]) : PureTo Try.prog 64 [.sl 1 (.avs [.sl 1 (.ints .u32 a) ta, .sl 1 (.ints .u32 b) tb]) true, .fnv (.func 65) [] []] (AV.v (Value.bool (decide (at2 a b ≥ (0 : Int))))) :=
  evFn_pure hm sok3 (fn := Try.f64) rfl rfl (ti := false) (hs := []) (c := _) (by kernel_rfl) h
end Go.Proofs.Bn

/- Bignum: contracts: ContainsFunc. -/
set_option maxRecDepth 100000
namespace Go.Proofs.Bn
open Go Go.Ev

theorem contains1_pure (a : List Int) (ta : Bool) (ha : a.length < lim) : PureTo Try.prog 64 [.sl 1 (.avs [.sl 1 (.ints .u32 a) ta]) true, .fnv (.func 65) [] []] (.v (.bool (over a))) := by
  have h := coF1 a ta ⟨ha, trivial⟩
  have e : decide (at1 a ≥ 0) = over a := by unfold at1; cases over a <;> simp
  rw [e] at h
  exact h

theorem contains2_pure (a b : List Int) (ta tb : Bool) (ha : a.length < lim) (hb : b.length < lim) : PureTo Try.prog 64 [.sl 1 (.avs [.sl 1 (.ints .u32 a) ta, .sl 1 (.ints .u32 b) tb]) true, .fnv (.func 65) [] []] (.v (.bool (over a || over b))) := by
  have h := coG1 a b ta tb ⟨ha, hb, trivial⟩
  have e : decide (at2 a b ≥ 0) = (over a || over b) := by unfold at2; cases over a <;> cases over b <;> simp
  rw [e] at h
  exact h

def sigContains : List AV → Option (AV × List Prop)
  | [.sl 1 (.avs [.sl 1 (.ints .u32 a) _]) true, .fnv (.func 65) [] []] => some (.v (.bool (over a)), [a.length < lim])
  | [.sl 1 (.avs [.sl 1 (.ints .u32 a) _, .sl 1 (.ints .u32 b) _]) true, .fnv (.func 65) [] []] => some (.v (.bool (over a || over b)), [a.length < lim, b.length < lim])
  | _ => none

def SG4 : SGT := (64, .p sigContains) :: SG3

theorem sok4 : SigsOK Try.prog SG4 := by
  refine sigs_cons sok3 ?_
  intro ys r c h hc
  unfold sigContains at h
  split at h
  · cases h; exact contains1_pure _ _ hc.1
  · cases h; exact contains2_pure _ _ _ _ hc.1 hc.2.1
  · cases h

theorem loF1 (a : List Int) (ta : Bool) (h : AllP [a.length < lim]) : PureTo Try.prog 46 [.sl 1 (.avs [.sl 1 (.ints .u32 a) ta]) true] (AV.v (Value.bool (over a))) :=
  evFn_pure hm sok4 (fn := Try.f46) rfl rfl (ti := false) (hs := []) (c := _) (by kernel_rfl) h

theorem loG1 (a b : List Int) (ta tb : Bool) (h : AllP [a.length < lim, b.length < lim]) : PureTo Try.prog 46 [.sl 1 (.avs [.sl 1 (.ints .u32 a) ta, .sl 1 (.ints .u32 b) tb]) true] (AV.v (Value.bool (over a || over b))) :=
  evFn_pure hm sok4 (fn := Try.f46) rfl rfl (ti := false) (hs := []) (c := _) (by kernel_rfl) h

def sigLongs : List AV → Option (AV × List Prop)
  | [.sl 1 (.avs [.sl 1 (.ints .u32 a) _]) true] => some (.v (.bool (over a)), [a.length < lim])
  | [.sl 1 (.avs [.sl 1 (.ints .u32 a) _, .sl 1 (.ints .u32 b) _]) true] => some (.v (.bool (over a || over b)), [a.length < lim, b.length < lim])
  | _ => none

def SG5 : SGT := (46, .p sigLongs) :: SG4

theorem sok5 : SigsOK Try.prog SG5 := by
  refine sigs_cons sok4 ?_
  intro ys r c h hc
  unfold sigLongs at h
  split at h
  · cases h; exact loF1 _ _ hc
  · cases h; exact loG1 _ _ _ _ hc
  · cases h

end Go.Proofs.Bn

/- Bignum: walks, written by the tool. -/
set_option maxRecDepth 100000
namespace Go.Proofs.Bn
open Go Go.Ev
-- 2 paths
theorem mulI1 (a b o : List Int) (ta tb : Bool) (n i m k m2 fl : Nat) (c : Int) (h : AllP [decide ((↑k : Int) < (↑m2 : Int)) = true, (0 : Int) ≤ (↑i : Int) ∧ (↑i : Int) < (↑a.length : Int), inR IntKind.u64 (a.getD (↑i : Int).toNat (0 : Int)), (0 : Int) ≤ (↑k : Int) ∧ (↑k : Int) < (↑b.length : Int), inR IntKind.u64 (b.getD (↑k : Int).toNat (0 : Int)), inR IntKind.u64 (a.getD (↑i : Int).toNat (0 : Int) * b.getD (↑k : Int).toNat (0 : Int)), inR IntKind.i64 ((↑i : Int) + (↑k : Int)), (0 : Int) ≤ (↑i : Int) + (↑k : Int) ∧ (↑i : Int) + (↑k : Int) < (↑n : Int), fl ≤ n, inR IntKind.u64 (o.getD (ixPlus (0 : Nat) ((↑i : Int) + (↑k : Int)).toNat) (0 : Int)), inR IntKind.u64 (a.getD (↑i : Int).toNat (0 : Int) * b.getD (↑k : Int).toNat (0 : Int) + o.getD (ixPlus (0 : Nat) ((↑i : Int) + (↑k : Int)).toNat) (0 : Int)), inR IntKind.u64 (a.getD (↑i : Int).toNat (0 : Int) * b.getD (↑k : Int).toNat (0 : Int) + o.getD (ixPlus (0 : Nat) ((↑i : Int) + (↑k : Int)).toNat) (0 : Int) + c), inR IntKind.i64 ((↑i : Int) + (↑k : Int)), (0 : Int) ≤ (↑i : Int) + (↑k : Int) ∧ (↑i : Int) + (↑k : Int) < (↑n : Int), n = o.length, (0 : Int) ≤ (32 : Int), inR IntKind.i64 ((↑k : Int) + (1 : Int))]) : To Try.prog (loopAt Try.f32 1) (⟨79, [(0, .sl 1 (.ints .u32 a) ta), (1, .sl 1 (.ints .u32 b) tb), (6, .row 17 0 n n false), (7, .v (.int .i64 i)), (8, .v (.int .u64 c)), (26, .v (.int .i64 m)), (27, .v (.int .i64 i)), (31, .v (.int .i64 m2)), (32, .v (.int .i64 k))], [(17, .row 22 1 (.ints .u32 o) fl)], 18⟩) (.normal) { n := (79 : Nat), fr := [((0 : Nat), AV.sl (1 : Nat) (Seq.ints IntKind.u32 a) ta), ((1 : Nat), AV.sl (1 : Nat) (Seq.ints IntKind.u32 b) tb), ((6 : Nat), AV.row (17 : Nat) (0 : Nat) n n false), ((7 : Nat), AV.v (Value.int IntKind.i64 (↑i : Int))), ((8 : Nat), AV.v (Value.int IntKind.u64 ((a.getD (↑i : Int).toNat (0 : Int) * b.getD (↑k : Int).toNat (0 : Int) + o.getD (ixPlus (0 : Nat) ((↑i : Int) + (↑k : Int)).toNat) (0 : Int) + c) / ((2 : Int) ^ min (Int.toNat (32 : Int)) IntKind.u64.bits)))), ((26 : Nat), AV.v (Value.int IntKind.i64 (↑m : Int))), ((27 : Nat), AV.v (Value.int IntKind.i64 (↑i : Int))), ((31 : Nat), AV.v (Value.int IntKind.i64 (↑m2 : Int))), ((32 : Nat), AV.v (Value.int IntKind.i64 ((↑k : Int) + (1 : Int))))], hp := [((17 : Nat), AObj.row (22 : Nat) (1 : Nat) (Seq.ints IntKind.u32 (o.set (ixPlus (0 : Nat) ((↑i : Int) + (↑k : Int)).toNat) (IntKind.u32.wrap (a.getD (↑i : Int).toNat (0 : Int) * b.getD (↑k : Int).toNat (0 : Int) + o.getD (ixPlus (0 : Nat) ((↑i : Int) + (↑k : Int)).toNat) (0 : Int) + c)))) o.length)], nx := (18 : Nat) } :=
  evW_to hm sok5 (hs := [CHint.ops (nat_lit 10) [(nat_lit 0, Hint.b true)]]) (slots := [0,1,6,7,8,26,27,31,32]) (keys := [17]) (nx := 18) (c := _) (by kernel_rfl) h
theorem mulI2 (a b o : List Int) (ta tb : Bool) (n i m k m2 fl : Nat) (c : Int) (h : AllP [decide ((↑k : Int) < (↑m2 : Int)) = false]) : To Try.prog (loopAt Try.f32 1) (⟨79, [(0, .sl 1 (.ints .u32 a) ta), (1, .sl 1 (.ints .u32 b) tb), (6, .row 17 0 n n false), (7, .v (.int .i64 i)), (8, .v (.int .u64 c)), (26, .v (.int .i64 m)), (27, .v (.int .i64 i)), (31, .v (.int .i64 m2)), (32, .v (.int .i64 k))], [(17, .row 22 1 (.ints .u32 o) fl)], 18⟩) (Exit.exit (2 : Nat)) { n := (79 : Nat), fr := [((0 : Nat), AV.sl (1 : Nat) (Seq.ints IntKind.u32 a) ta), ((1 : Nat), AV.sl (1 : Nat) (Seq.ints IntKind.u32 b) tb), ((6 : Nat), AV.row (17 : Nat) (0 : Nat) n n false), ((7 : Nat), AV.v (Value.int IntKind.i64 (↑i : Int))), ((8 : Nat), AV.v (Value.int IntKind.u64 c)), ((26 : Nat), AV.v (Value.int IntKind.i64 (↑m : Int))), ((27 : Nat), AV.v (Value.int IntKind.i64 (↑i : Int)))], hp := [((17 : Nat), AObj.row (22 : Nat) (1 : Nat) (Seq.ints IntKind.u32 o) fl)], nx := (18 : Nat) } :=
  evW_to hm sok5 (hs := [CHint.ops (nat_lit 10) [(nat_lit 0, Hint.b false)]]) (slots := [0,1,6,7,8,26,27]) (keys := [17]) (nx := 18) (c := _) (by kernel_rfl) h
-- 2 paths
theorem mulO1 (a b o o2 : List Int) (ta tb : Bool) (n i m fl : Nat) (c : Int) (h : AllP [decide ((↑i : Int) < (↑m : Int)) = true, LoopTo Try.prog (loopAt Try.f32 (1 : Nat)) { n := (79 : Nat), fr := [((0 : Nat), AV.sl (1 : Nat) (Seq.ints IntKind.u32 a) ta), ((1 : Nat), AV.sl (1 : Nat) (Seq.ints IntKind.u32 b) tb), ((6 : Nat), AV.row (17 : Nat) (0 : Nat) n n false), ((7 : Nat), AV.v (Value.int IntKind.i64 (↑i : Int))), ((8 : Nat), AV.v (Value.int IntKind.u64 (0 : Int))), ((26 : Nat), AV.v (Value.int IntKind.i64 (↑m : Int))), ((27 : Nat), AV.v (Value.int IntKind.i64 (↑i : Int))), ((31 : Nat), AV.v (Value.int IntKind.i64 (↑b.length : Int))), ((32 : Nat), AV.v (Value.int IntKind.i64 (0 : Int)))], hp := [((17 : Nat), AObj.row (22 : Nat) (1 : Nat) (Seq.ints IntKind.u32 o) fl)], nx := (18 : Nat) } (Exit.exit (2 : Nat)) { n := (79 : Nat), fr := [((0 : Nat), AV.sl (1 : Nat) (Seq.ints IntKind.u32 a) ta), ((1 : Nat), AV.sl (1 : Nat) (Seq.ints IntKind.u32 b) tb), ((6 : Nat), AV.row (17 : Nat) (0 : Nat) n n false), ((7 : Nat), AV.v (Value.int IntKind.i64 (↑i : Int))), ((8 : Nat), AV.v (Value.int IntKind.u64 c)), ((26 : Nat), AV.v (Value.int IntKind.i64 (↑m : Int))), ((27 : Nat), AV.v (Value.int IntKind.i64 (↑i : Int)))], hp := [((17 : Nat), AObj.row (22 : Nat) (1 : Nat) (Seq.ints IntKind.u32 o2) n)], nx := (18 : Nat) }, inR IntKind.i64 ((↑i : Int) + (↑b.length : Int)), (0 : Int) ≤ (↑i : Int) + (↑b.length : Int) ∧ (↑i : Int) + (↑b.length : Int) < (↑n : Int), n = o2.length, inR IntKind.i64 ((↑i : Int) + (1 : Int))]) : To Try.prog (loopAt Try.f32 0) (⟨79, [(0, .sl 1 (.ints .u32 a) ta), (1, .sl 1 (.ints .u32 b) tb), (6, .row 17 0 n n false), (26, .v (.int .i64 m)), (27, .v (.int .i64 i))], [(17, .row 22 1 (.ints .u32 o) fl)], 18⟩) (.normal) { n := (79 : Nat), fr := [((0 : Nat), AV.sl (1 : Nat) (Seq.ints IntKind.u32 a) ta), ((1 : Nat), AV.sl (1 : Nat) (Seq.ints IntKind.u32 b) tb), ((6 : Nat), AV.row (17 : Nat) (0 : Nat) n n false), ((26 : Nat), AV.v (Value.int IntKind.i64 (↑m : Int))), ((27 : Nat), AV.v (Value.int IntKind.i64 ((↑i : Int) + (1 : Int))))], hp := [((17 : Nat), AObj.row (22 : Nat) (1 : Nat) (Seq.ints IntKind.u32 (o2.set (ixPlus (0 : Nat) ((↑i : Int) + (↑b.length : Int)).toNat) (IntKind.u32.wrap c))) o2.length)], nx := (18 : Nat) } :=
  evW_to hm sok5 (hs := [CHint.ops (nat_lit 6) [(nat_lit 0, Hint.b true)], CHint.loop [(0 : Nat), (1 : Nat), (6 : Nat), (7 : Nat), (8 : Nat), (26 : Nat), (27 : Nat), (31 : Nat), (32 : Nat)] [(17 : Nat)] (18 : Nat) (Exit.exit (2 : Nat)) { n := (79 : Nat), fr := [((0 : Nat), AV.sl (1 : Nat) (Seq.ints IntKind.u32 a) ta), ((1 : Nat), AV.sl (1 : Nat) (Seq.ints IntKind.u32 b) tb), ((6 : Nat), AV.row (17 : Nat) (0 : Nat) n n false), ((7 : Nat), AV.v (Value.int IntKind.i64 (↑i : Int))), ((8 : Nat), AV.v (Value.int IntKind.u64 c)), ((26 : Nat), AV.v (Value.int IntKind.i64 (↑m : Int))), ((27 : Nat), AV.v (Value.int IntKind.i64 (↑i : Int)))], hp := [((17 : Nat), AObj.row (22 : TypeId) (1 : Nat) (Seq.ints IntKind.u32 o2) n)], nx := (18 : Nat) }]) (slots := [0,1,6,26,27]) (keys := [17]) (nx := 18) (c := _) (by kernel_rfl) h
theorem mulO2 (a b o o2 : List Int) (ta tb : Bool) (n i m fl : Nat) (c : Int) (h : AllP [decide ((↑i : Int) < (↑m : Int)) = false]) : To Try.prog (loopAt Try.f32 0) (⟨79, [(0, .sl 1 (.ints .u32 a) ta), (1, .sl 1 (.ints .u32 b) tb), (6, .row 17 0 n n false), (26, .v (.int .i64 m)), (27, .v (.int .i64 i))], [(17, .row 22 1 (.ints .u32 o) fl)], 18⟩) (Exit.exit (0 : Nat)) { n := (79 : Nat), fr := [((6 : Nat), AV.row (17 : Nat) (0 : Nat) n n false)], hp := [((17 : Nat), AObj.row (22 : Nat) (1 : Nat) (Seq.ints IntKind.u32 o) fl)], nx := (18 : Nat) } :=
  evW_to hm sok5 (hs := [CHint.ops (nat_lit 6) [(nat_lit 0, Hint.b false)]]) (slots := [6]) (keys := [17]) (nx := 18) (c := _) (by kernel_rfl) h
-- 2 paths
theorem mulF1 (a b o : List Int) (ta tb : Bool) (n : Nat) (h : AllP [(over a || over b) = true, a.length < lim, b.length < lim]) : PureTo Try.prog 32 [.sl 1 (.ints .u32 a) ta, .sl 1 (.ints .u32 b) tb] (AV.tup [AV.sl (1 : Nat) (Seq.ints IntKind.u32 []) true, AV.v (Value.int IntKind.i64 (3 : Int))]) :=
  evFn_pure hm sok5 (fn := Try.f32) rfl rfl (ti := true) (hs := [CHint.ops (nat_lit 1) [(nat_lit 3, Hint.b true)]]) (c := _) (by kernel_rfl) h
theorem mulF2 (a b o : List Int) (ta tb : Bool) (n : Nat) (h : AllP [(over a || over b) = false, a.length < lim, b.length < lim, a.length < lim, b.length < lim, inR IntKind.i64 ((↑(norm a).length : Int) + (↑(norm b).length : Int)), (0 : Int) ≤ (↑(norm a).length : Int) + (↑(norm b).length : Int) ∧ (↑(norm a).length : Int) + (↑(norm b).length : Int) ≤ (↑(norm a).length : Int) + (↑(norm b).length : Int), ((↑(norm a).length : Int) + (↑(norm b).length : Int)) * (↑Try.prog.types[(22 : Nat)].bytes : Int) ≤ (281474976710656 : Int) ∧ (↑(norm a).length : Int) + (↑(norm b).length : Int) ≤ (9223372036854775807 : Int), LoopTo Try.prog (loopAt Try.f32 (0 : Nat)) { n := (79 : Nat), fr := [((0 : Nat), AV.sl (1 : Nat) (Seq.ints IntKind.u32 (norm a)) true), ((1 : Nat), AV.sl (1 : Nat) (Seq.ints IntKind.u32 (norm b)) true), ((6 : Nat), AV.row (17 : Nat) (0 : Nat) ((↑(norm a).length : Int) + (↑(norm b).length : Int)).toNat ((↑(norm a).length : Int) + (↑(norm b).length : Int)).toNat false), ((26 : Nat), AV.v (Value.int IntKind.i64 (↑(norm a).length : Int))), ((27 : Nat), AV.v (Value.int IntKind.i64 (0 : Int)))], hp := [((17 : Nat), AObj.row (22 : Nat) (1 : Nat) (Seq.ints IntKind.u32 (List.replicate ((↑(norm a).length : Int) + (↑(norm b).length : Int)).toNat (0 : Int))) (0 : Nat))], nx := (18 : Nat) } (Exit.exit (0 : Nat)) { n := (79 : Nat), fr := [((6 : Nat), AV.row (17 : Nat) (0 : Nat) n n false)], hp := [((17 : Nat), AObj.row (22 : Nat) (1 : Nat) (Seq.ints IntKind.u32 o) n)], nx := (18 : Nat) }, n = o.length, n ≤ n, o.length < lim]) : PureTo Try.prog 32 [.sl 1 (.ints .u32 a) ta, .sl 1 (.ints .u32 b) tb] (AV.tup [AV.sl (1 : Nat) (Seq.ints IntKind.u32 (toldL o)) true, AV.v (Value.int IntKind.i64 (toldE o))]) :=
  evFn_pure hm sok5 (fn := Try.f32) rfl rfl (ti := true) (hs := [CHint.ops (nat_lit 1) [(nat_lit 3, Hint.b false)], CHint.loop [(0 : Nat), (1 : Nat), (6 : Nat), (26 : Nat), (27 : Nat)] [(17 : Nat)] (18 : Nat) (Exit.exit (0 : Nat)) { n := (79 : Nat), fr := [((6 : Nat), AV.row (17 : Nat) (0 : Nat) n n false)], hp := [((17 : Nat), AObj.row (22 : TypeId) (1 : Nat) (Seq.ints IntKind.u32 o) n)], nx := (18 : Nat) }]) (c := _) (by kernel_rfl) h
-- 2 paths
theorem timesI1 (a b o : List Int) (ta tb : Bool) (n i k fl : Nat) (c : Int) (h : AllP [decide ((↑k : Int) < (↑b.length : Int)) = true, (0 : Int) ≤ (↑i : Int) ∧ (↑i : Int) < (↑a.length : Int), inR IntKind.u64 (a.getD (↑i : Int).toNat (0 : Int)), (0 : Int) ≤ (↑k : Int) ∧ (↑k : Int) < (↑b.length : Int), inR IntKind.u64 (b.getD (↑k : Int).toNat (0 : Int)), inR IntKind.u64 (a.getD (↑i : Int).toNat (0 : Int) * b.getD (↑k : Int).toNat (0 : Int)), inR IntKind.i64 ((↑i : Int) + (↑k : Int)), (0 : Int) ≤ (↑i : Int) + (↑k : Int) ∧ (↑i : Int) + (↑k : Int) < (↑n : Int), fl ≤ n, inR IntKind.u64 (o.getD (ixPlus (0 : Nat) ((↑i : Int) + (↑k : Int)).toNat) (0 : Int)), inR IntKind.u64 (a.getD (↑i : Int).toNat (0 : Int) * b.getD (↑k : Int).toNat (0 : Int) + o.getD (ixPlus (0 : Nat) ((↑i : Int) + (↑k : Int)).toNat) (0 : Int)), inR IntKind.u64 (a.getD (↑i : Int).toNat (0 : Int) * b.getD (↑k : Int).toNat (0 : Int) + o.getD (ixPlus (0 : Nat) ((↑i : Int) + (↑k : Int)).toNat) (0 : Int) + c), inR IntKind.i64 ((↑i : Int) + (↑k : Int)), (0 : Int) ≤ (↑i : Int) + (↑k : Int) ∧ (↑i : Int) + (↑k : Int) < (↑n : Int), n = o.length, (0 : Int) ≤ (32 : Int), inR IntKind.i64 ((↑k : Int) + (1 : Int))]) : To Try.prog (loopAt Try.f40 1) (⟨69, [(0, .sl 1 (.ints .u32 a) ta), (1, .sl 1 (.ints .u32 b) tb), (5, .row 7 0 n n false), (6, .v (.int .i64 i)), (7, .v (.int .u64 c)), (8, .v (.int .i64 k))], [(7, .row 22 1 (.ints .u32 o) fl)], 8⟩) (.normal) { n := (69 : Nat), fr := [((0 : Nat), AV.sl (1 : Nat) (Seq.ints IntKind.u32 a) ta), ((1 : Nat), AV.sl (1 : Nat) (Seq.ints IntKind.u32 b) tb), ((5 : Nat), AV.row (7 : Nat) (0 : Nat) n n false), ((6 : Nat), AV.v (Value.int IntKind.i64 (↑i : Int))), ((7 : Nat), AV.v (Value.int IntKind.u64 ((a.getD (↑i : Int).toNat (0 : Int) * b.getD (↑k : Int).toNat (0 : Int) + o.getD (ixPlus (0 : Nat) ((↑i : Int) + (↑k : Int)).toNat) (0 : Int) + c) / ((2 : Int) ^ min (Int.toNat (32 : Int)) IntKind.u64.bits)))), ((8 : Nat), AV.v (Value.int IntKind.i64 ((↑k : Int) + (1 : Int))))], hp := [((7 : Nat), AObj.row (22 : Nat) (1 : Nat) (Seq.ints IntKind.u32 (o.set (ixPlus (0 : Nat) ((↑i : Int) + (↑k : Int)).toNat) (IntKind.u32.wrap (a.getD (↑i : Int).toNat (0 : Int) * b.getD (↑k : Int).toNat (0 : Int) + o.getD (ixPlus (0 : Nat) ((↑i : Int) + (↑k : Int)).toNat) (0 : Int) + c)))) o.length)], nx := (8 : Nat) } :=
  evW_to hm sok5 (hs := [CHint.ops (nat_lit 7) [(nat_lit 3, Hint.b true)]]) (slots := [0,1,5,6,7,8]) (keys := [7]) (nx := 8) (c := _) (by kernel_rfl) h
theorem timesI2 (a b o : List Int) (ta tb : Bool) (n i k fl : Nat) (c : Int) (h : AllP [decide ((↑k : Int) < (↑b.length : Int)) = false]) : To Try.prog (loopAt Try.f40 1) (⟨69, [(0, .sl 1 (.ints .u32 a) ta), (1, .sl 1 (.ints .u32 b) tb), (5, .row 7 0 n n false), (6, .v (.int .i64 i)), (7, .v (.int .u64 c)), (8, .v (.int .i64 k))], [(7, .row 22 1 (.ints .u32 o) fl)], 8⟩) (Exit.exit (2 : Nat)) { n := (69 : Nat), fr := [((0 : Nat), AV.sl (1 : Nat) (Seq.ints IntKind.u32 a) ta), ((1 : Nat), AV.sl (1 : Nat) (Seq.ints IntKind.u32 b) tb), ((5 : Nat), AV.row (7 : Nat) (0 : Nat) n n false), ((6 : Nat), AV.v (Value.int IntKind.i64 (↑i : Int))), ((7 : Nat), AV.v (Value.int IntKind.u64 c))], hp := [((7 : Nat), AObj.row (22 : Nat) (1 : Nat) (Seq.ints IntKind.u32 o) fl)], nx := (8 : Nat) } :=
  evW_to hm sok5 (hs := [CHint.ops (nat_lit 7) [(nat_lit 3, Hint.b false)]]) (slots := [0,1,5,6,7]) (keys := [7]) (nx := 8) (c := _) (by kernel_rfl) h
-- 2 paths
theorem timesO1 (a b o o2 : List Int) (ta tb : Bool) (n i fl : Nat) (c : Int) (h : AllP [decide ((↑i : Int) < (↑a.length : Int)) = true, LoopTo Try.prog (loopAt Try.f40 (1 : Nat)) { n := (69 : Nat), fr := [((0 : Nat), AV.sl (1 : Nat) (Seq.ints IntKind.u32 a) ta), ((1 : Nat), AV.sl (1 : Nat) (Seq.ints IntKind.u32 b) tb), ((5 : Nat), AV.row (7 : Nat) (0 : Nat) n n false), ((6 : Nat), AV.v (Value.int IntKind.i64 (↑i : Int))), ((7 : Nat), AV.v (Value.int IntKind.u64 (0 : Int))), ((8 : Nat), AV.v (Value.int IntKind.i64 (0 : Int)))], hp := [((7 : Nat), AObj.row (22 : Nat) (1 : Nat) (Seq.ints IntKind.u32 o) fl)], nx := (8 : Nat) } (Exit.exit (2 : Nat)) { n := (69 : Nat), fr := [((0 : Nat), AV.sl (1 : Nat) (Seq.ints IntKind.u32 a) ta), ((1 : Nat), AV.sl (1 : Nat) (Seq.ints IntKind.u32 b) tb), ((5 : Nat), AV.row (7 : Nat) (0 : Nat) n n false), ((6 : Nat), AV.v (Value.int IntKind.i64 (↑i : Int))), ((7 : Nat), AV.v (Value.int IntKind.u64 c))], hp := [((7 : Nat), AObj.row (22 : Nat) (1 : Nat) (Seq.ints IntKind.u32 o2) n)], nx := (8 : Nat) }, inR IntKind.i64 ((↑i : Int) + (↑b.length : Int)), (0 : Int) ≤ (↑i : Int) + (↑b.length : Int) ∧ (↑i : Int) + (↑b.length : Int) < (↑n : Int), n = o2.length, inR IntKind.i64 ((↑i : Int) + (1 : Int))]) : To Try.prog (loopAt Try.f40 0) (⟨69, [(0, .sl 1 (.ints .u32 a) ta), (1, .sl 1 (.ints .u32 b) tb), (5, .row 7 0 n n false), (6, .v (.int .i64 i))], [(7, .row 22 1 (.ints .u32 o) fl)], 8⟩) (.normal) { n := (69 : Nat), fr := [((0 : Nat), AV.sl (1 : Nat) (Seq.ints IntKind.u32 a) ta), ((1 : Nat), AV.sl (1 : Nat) (Seq.ints IntKind.u32 b) tb), ((5 : Nat), AV.row (7 : Nat) (0 : Nat) n n false), ((6 : Nat), AV.v (Value.int IntKind.i64 ((↑i : Int) + (1 : Int))))], hp := [((7 : Nat), AObj.row (22 : Nat) (1 : Nat) (Seq.ints IntKind.u32 (o2.set (ixPlus (0 : Nat) ((↑i : Int) + (↑b.length : Int)).toNat) (IntKind.u32.wrap c))) o2.length)], nx := (8 : Nat) } :=
  evW_to hm sok5 (hs := [CHint.ops (nat_lit 3) [(nat_lit 3, Hint.b true)], CHint.loop [(0 : Nat), (1 : Nat), (5 : Nat), (6 : Nat), (7 : Nat), (8 : Nat)] [(7 : Nat)] (8 : Nat) (Exit.exit (2 : Nat)) { n := (69 : Nat), fr := [((0 : Nat), AV.sl (1 : Nat) (Seq.ints IntKind.u32 a) ta), ((1 : Nat), AV.sl (1 : Nat) (Seq.ints IntKind.u32 b) tb), ((5 : Nat), AV.row (7 : Nat) (0 : Nat) n n false), ((6 : Nat), AV.v (Value.int IntKind.i64 (↑i : Int))), ((7 : Nat), AV.v (Value.int IntKind.u64 c))], hp := [((7 : Nat), AObj.row (22 : TypeId) (1 : Nat) (Seq.ints IntKind.u32 o2) n)], nx := (8 : Nat) }]) (slots := [0,1,5,6]) (keys := [7]) (nx := 8) (c := _) (by kernel_rfl) h
theorem timesO2 (a b o o2 : List Int) (ta tb : Bool) (n i fl : Nat) (c : Int) (h : AllP [decide ((↑i : Int) < (↑a.length : Int)) = false]) : To Try.prog (loopAt Try.f40 0) (⟨69, [(0, .sl 1 (.ints .u32 a) ta), (1, .sl 1 (.ints .u32 b) tb), (5, .row 7 0 n n false), (6, .v (.int .i64 i))], [(7, .row 22 1 (.ints .u32 o) fl)], 8⟩) (Exit.exit (0 : Nat)) { n := (69 : Nat), fr := [((5 : Nat), AV.row (7 : Nat) (0 : Nat) n n false)], hp := [((7 : Nat), AObj.row (22 : Nat) (1 : Nat) (Seq.ints IntKind.u32 o) fl)], nx := (8 : Nat) } :=
  evW_to hm sok5 (hs := [CHint.ops (nat_lit 3) [(nat_lit 3, Hint.b false)]]) (slots := [5]) (keys := [7]) (nx := 8) (c := _) (by kernel_rfl) h
-- 1 paths
theorem timesF1 (a b o : List Int) (ta tb : Bool) (n : Nat) (h : AllP [inR IntKind.i64 ((↑a.length : Int) + (↑b.length : Int)), inR IntKind.i64 ((↑a.length : Int) + (↑b.length : Int) + (1 : Int)), (0 : Int) ≤ (↑a.length : Int) + (↑b.length : Int) + (1 : Int) ∧ (↑a.length : Int) + (↑b.length : Int) + (1 : Int) ≤ (↑a.length : Int) + (↑b.length : Int) + (1 : Int), ((↑a.length : Int) + (↑b.length : Int) + (1 : Int)) * (↑Try.prog.types[(22 : Nat)].bytes : Int) ≤ (281474976710656 : Int) ∧ (↑a.length : Int) + (↑b.length : Int) + (1 : Int) ≤ (9223372036854775807 : Int), LoopTo Try.prog (loopAt Try.f40 (0 : Nat)) { n := (69 : Nat), fr := [((0 : Nat), AV.sl (1 : Nat) (Seq.ints IntKind.u32 a) ta), ((1 : Nat), AV.sl (1 : Nat) (Seq.ints IntKind.u32 b) tb), ((5 : Nat), AV.row (7 : Nat) (0 : Nat) ((↑a.length : Int) + (↑b.length : Int) + (1 : Int)).toNat ((↑a.length : Int) + (↑b.length : Int) + (1 : Int)).toNat false), ((6 : Nat), AV.v (Value.int IntKind.i64 (0 : Int)))], hp := [((7 : Nat), AObj.row (22 : Nat) (1 : Nat) (Seq.ints IntKind.u32 (List.replicate ((↑a.length : Int) + (↑b.length : Int) + (1 : Int)).toNat (0 : Int))) (0 : Nat))], nx := (8 : Nat) } (Exit.exit (0 : Nat)) { n := (69 : Nat), fr := [((5 : Nat), AV.row (7 : Nat) (0 : Nat) n n false)], hp := [((7 : Nat), AObj.row (22 : Nat) (1 : Nat) (Seq.ints IntKind.u32 o) n)], nx := (8 : Nat) }, n = o.length, n ≤ n, o.length ≤ lim4]) : PureTo Try.prog 40 [.sl 1 (.ints .u32 a) ta, .sl 1 (.ints .u32 b) tb] (AV.sl (1 : Nat) (Seq.ints IntKind.u32 (norm o)) false) :=
  evFn_pure hm sok5 (fn := Try.f40) rfl rfl (ti := false) (hs := [CHint.loop [(0 : Nat), (1 : Nat), (5 : Nat), (6 : Nat)] [(7 : Nat)] (8 : Nat) (Exit.exit (0 : Nat)) { n := (69 : Nat), fr := [((5 : Nat), AV.row (7 : Nat) (0 : Nat) n n false)], hp := [((7 : Nat), AObj.row (22 : TypeId) (1 : Nat) (Seq.ints IntKind.u32 o) n)], nx := (8 : Nat) }]) (c := _) (by kernel_rfl) h
end Go.Proofs.Bn

/- Products of naturals, word by word: plain law. -/
namespace Go.Proofs.Bn

/-- the value of some words -/
def val : List Int → Int
  | [] => 0
  | x :: r => x + 4294967296 * val r

theorem val_nat {a : List Int} (h : Words a) : val a = (nat a : Int) := by
  induction a with
  | nil => rfl
  | cons x r ih =>
    have := h x (by simp)
    simp only [val, nat, ih (words_tail h)]
    omega

theorem val_append (a b : List Int) : val (a ++ b) = val a + 4294967296 ^ a.length * val b := by
  induction a with
  | nil => simp [val]
  | cons x r ih =>
    simp only [List.cons_append, val, ih, List.length_cons, Int.pow_succ]
    grind

theorem val_zeros (n : Nat) : val (List.replicate n 0) = 0 := by
  induction n with
  | zero => rfl
  | succ n ih => simp [List.replicate_succ, val, ih]

theorem val_set (o : List Int) (j : Nat) (v : Int) (h : j < o.length) : val (o.set j v) + o.getD j 0 * 4294967296 ^ j = val o + v * 4294967296 ^ j := by
  induction o generalizing j with
  | nil => simp at h
  | cons x r ih =>
    cases j with
    | zero => simp [val]; grind
    | succ j =>
      have := ih j (by simpa using h)
      simp only [List.set_cons_succ, val, List.getD_cons_succ, Int.pow_succ]
      grind

theorem words_set {o : List Int} (h : Words o) (j : Nat) {v : Int} (h0 : 0 ≤ v) (h1 : v < 4294967296) : Words (o.set j v) := by
  intro x hx
  rcases List.mem_or_eq_of_mem_set hx with hx | rfl
  · exact h x hx
  · exact ⟨h0, h1⟩

theorem words_getD {o : List Int} (h : Words o) (j : Nat) : 0 ≤ o.getD j 0 ∧ o.getD j 0 < 4294967296 := by
  rcases Nat.lt_or_ge j o.length with hj | hj
  · have := h o[j] (List.getElem_mem hj)
    simpa [List.getD_eq_getElem?_getD, hj] using this
  · simp [List.getD_eq_getElem?_getD, Nat.not_lt.2 hj]

/-- one row of a product: x times the words of b from number k on, laid on from place i + k on -/
def rowMul (x : Int) (b : List Int) (i : Nat) : Nat → Nat → List Int → Int → List Int × Int
  | 0, _, o, c => (o, c)
  | f + 1, k, o, c =>
    let s := x * b.getD k 0 + o.getD (i + k) 0 + c
    rowMul x b i f (k + 1) (o.set (i + k) (s % 4294967296)) (s / 4294967296)

structure RowIs (x : Int) (b : List Int) (i f k : Nat) (o : List Int) (c : Int) : Prop where
  words : Words (rowMul x b i f k o c).1
  carry : 0 ≤ (rowMul x b i f k o c).2 ∧ (rowMul x b i f k o c).2 < 4294967296
  length : (rowMul x b i f k o c).1.length = o.length
  rest : ∀ j, i + k + f ≤ j → (rowMul x b i f k o c).1.getD j 0 = o.getD j 0
  value : val (rowMul x b i f k o c).1 + (rowMul x b i f k o c).2 * 4294967296 ^ (i + k + f) = val o + 4294967296 ^ (i + k) * (x * val ((b.drop k).take f) + c)

theorem sum_bound {x y z c : Int} (hx : 0 ≤ x ∧ x < 4294967296) (hy : 0 ≤ y ∧ y < 4294967296) (hz : 0 ≤ z ∧ z < 4294967296) (hc : 0 ≤ c ∧ c < 4294967296) :
    0 ≤ x * y ∧ x * y ≤ 18446744065119617025 ∧ 0 ≤ x * y + z + c ∧ x * y + z + c < 18446744073709551616 := by
  have h1 : 0 ≤ x * y := Int.mul_nonneg hx.1 hy.1
  have h2 : x * y ≤ 4294967295 * 4294967295 := Int.mul_le_mul (by omega) (by omega) hy.1 (by omega)
  omega

theorem rowMul_is (x : Int) (b : List Int) (i : Nat) (hx : 0 ≤ x ∧ x < 4294967296) (hb : Words b) : ∀ (f k : Nat) (o : List Int) (c : Int), Words o → (0 ≤ c ∧ c < 4294967296) → i + k + f ≤ o.length → k + f ≤ b.length → RowIs x b i f k o c := by
  intro f
  induction f with
  | zero =>
    intro k o c ho hc hl hkb
    refine ⟨ho, hc, rfl, fun j _ => rfl, ?_⟩
    simp [rowMul, val]
    grind
  | succ f ih =>
    intro k o c ho hc hl hkb
    have hy := words_getD hb k
    have hz := words_getD ho (i + k)
    have hs := sum_bound hx hy hz hc
    generalize hS : x * b.getD k 0 + o.getD (i + k) 0 + c = s at *
    have hset : Words (o.set (i + k) (s % 4294967296)) := words_set ho _ (by omega) (by omega)
    have hcar : 0 ≤ s / 4294967296 ∧ s / 4294967296 < 4294967296 := by omega
    have h := ih (k + 1) (o.set (i + k) (s % 4294967296)) (s / 4294967296) hset hcar (by simp; omega) (by omega)
    have e : rowMul x b i (f + 1) k o c = rowMul x b i f (k + 1) (o.set (i + k) (s % 4294967296)) (s / 4294967296) := by
      simp only [rowMul, hS]
    obtain ⟨h1, h2, h3, h4, h5⟩ := h
    refine ⟨by rw [e]; exact h1, by rw [e]; exact h2, by rw [e, h3]; simp, fun j hj => ?_, ?_⟩
    · rw [e, h4 j (by omega)]
      have : i + k ≠ j := by omega
      simp [List.getD_eq_getElem?_getD, List.getElem?_set_ne this]
    · rw [e]
      rw [show i + k + (f + 1) = i + (k + 1) + f by omega, h5]
      have hset' := val_set o (i + k) (s % 4294967296) (by omega)
      have hd : (b.drop k).take (f + 1) = b.getD k 0 :: (b.drop (k + 1)).take f := by
        rw [List.drop_eq_getElem_cons (show k < b.length by omega), List.take_succ_cons]
        simp [List.getD_eq_getElem?_getD, show k < b.length by omega]
      rw [hd]
      simp only [val]
      rw [show i + (k + 1) = (i + k) + 1 by omega, Int.pow_succ]
      have hdiv : s = s % 4294967296 + 4294967296 * (s / 4294967296) := by omega
      generalize s % 4294967296 = r at *
      generalize s / 4294967296 = q at *
      generalize (4294967296 : Int) ^ (i + k) = p at *
      generalize val (o.set (i + k) r) = vo at *
      generalize b.getD k 0 = y at *
      generalize o.getD (i + k) 0 = z at *
      grind

/-- the whole product -/
def mulRows (a b : List Int) : Nat → Nat → List Int → List Int
  | 0, _, o => o
  | f + 1, i, o =>
    let r := rowMul (a.getD i 0) b i b.length 0 o 0
    mulRows a b f (i + 1) (r.1.set (i + b.length) r.2)

theorem mulRows_is (a b : List Int) (ha : Words a) (hb : Words b) : ∀ (f i : Nat) (o : List Int), Words o → i + f ≤ a.length → i + f + b.length ≤ o.length → (∀ j, i + b.length ≤ j → o.getD j 0 = 0) →
    Words (mulRows a b f i o) ∧ (mulRows a b f i o).length = o.length ∧ val (mulRows a b f i o) = val o + 4294967296 ^ i * (val ((a.drop i).take f) * val b) := by
  intro f
  induction f with
  | zero => intro i o ho _ _ _; simp [mulRows, ho, val]
  | succ f ih =>
    intro i o ho hia hl hz
    have hx := words_getD ha i
    obtain ⟨h1, h2, h3, h4, h5⟩ := rowMul_is (a.getD i 0) b i hx hb b.length 0 o 0 ho (by omega) (by omega) (by omega)
    generalize hr : rowMul (a.getD i 0) b i b.length 0 o 0 = r at *
    have hlen : i + b.length < r.1.length := by omega
    have hset := val_set r.1 (i + b.length) r.2 hlen
    have hz0 : r.1.getD (i + b.length) 0 = 0 := by rw [h4 _ (by omega)]; exact hz _ (Nat.le_refl _)
    have e : mulRows a b (f + 1) i o = mulRows a b f (i + 1) (r.1.set (i + b.length) r.2) := by simp only [mulRows, hr]
    obtain ⟨g1, g2, g3⟩ := ih (i + 1) (r.1.set (i + b.length) r.2) (words_set h1 _ h2.1 h2.2) (by omega) (by simp; omega) (fun j hj => by
      have : i + b.length ≠ j := by omega
      simp only [List.getD_eq_getElem?_getD, List.getElem?_set_ne this]
      rw [← List.getD_eq_getElem?_getD, h4 j (by omega)]
      exact hz j (by omega))
    refine ⟨by rw [e]; exact g1, by rw [e, g2]; simp [h3], ?_⟩
    rw [e, g3]
    have hd : (a.drop i).take (f + 1) = a.getD i 0 :: (a.drop (i + 1)).take f := by
      rw [List.drop_eq_getElem_cons (show i < a.length by omega), List.take_succ_cons]
      simp [List.getD_eq_getElem?_getD, show i < a.length by omega]
    rw [hd]
    simp only [val]
    simp only [Nat.add_zero, List.drop_zero, List.take_length] at h5
    rw [hz0] at hset
    rw [Int.pow_succ]
    generalize val (r.1.set (i + b.length) r.2) = vs at *
    generalize val r.1 = vr at *
    generalize (4294967296 : Int) ^ (i + b.length) = pb at *
    generalize (4294967296 : Int) ^ i = p at *
    generalize a.getD i 0 = x at *
    grind

/-- a product's words -/
def mulWords (a b : List Int) (n : Nat) : List Int := mulRows a b a.length 0 (List.replicate n 0)

theorem mulWords_is (a b : List Int) (ha : Words a) (hb : Words b) (n : Nat) (hn : a.length + b.length ≤ n) : Words (mulWords a b n) ∧ (mulWords a b n).length = n ∧ nat (mulWords a b n) = nat a * nat b := by
  have hz : Words (List.replicate n (0 : Int)) := fun x hx => by
    have := (List.mem_replicate.1 hx).2
    omega
  obtain ⟨h1, h2, h3⟩ := mulRows_is a b ha hb a.length 0 (List.replicate n 0) hz (by omega) (by simp; omega) (fun j _ => by
    simp only [List.getD_eq_getElem?_getD, List.getElem?_replicate]; split <;> rfl)
  refine ⟨h1, by unfold mulWords; rw [h2]; simp, ?_⟩
  rw [List.drop_zero, List.take_length, val_zeros, val_nat ha, val_nat hb, val_nat h1] at h3
  unfold mulWords
  have h4 : ((nat a * nat b : Nat) : Int) = (nat a : Int) * (nat b : Int) := Int.natCast_mul _ _
  omega

end Go.Proofs.Bn

/- Bignum: contracts: Mul, Times. -/
set_option maxRecDepth 100000
namespace Go.Proofs.Bn
open Go Go.Ev

theorem inRu64 {x : Int} (h0 : 0 ≤ x) (h1 : x < 18446744073709551616) : inR .u64 x := ⟨h0, by omega⟩
theorem wrap32 (x : Int) : IntKind.u32.wrap x = x % 4294967296 := by
  simp [IntKind.wrap, IntKind.signed, IntKind.bits]
theorem shr32 (x : Int) : x / ((2 : Int) ^ min (Int.toNat 32) IntKind.u64.bits) = x / 4294967296 := by
  have : (2 : Int) ^ min (Int.toNat 32) IntKind.u64.bits = 4294967296 := by decide
  rw [this]
theorem toNat_two (i k : Nat) : ((i : Int) + (k : Int)).toNat = i + k := by omega
theorem ix0 (j : Nat) : ixPlus 0 j = j := rfl

theorem bytes22 : (Try.prog.types[(22 : Nat)].bytes : Int) = 4 := by kernel_rfl

def mulSt (a b : List Int) (ta tb : Bool) (n i m : Nat) (o : List Int) (c : Int) (k : Nat) : AS := ⟨79, [(0, .sl 1 (.ints .u32 a) ta), (1, .sl 1 (.ints .u32 b) tb), (6, .row 17 0 n n false), (7, .v (.int .i64 i)), (8, .v (.int .u64 c)), (26, .v (.int .i64 m)), (27, .v (.int .i64 i)), (31, .v (.int .i64 b.length)), (32, .v (.int .i64 k))], [(17, .row 22 1 (.ints .u32 o) n)], 18⟩

theorem mul_inner (a b : List Int) (ta tb : Bool) (n i m : Nat) (ha : Words a) (hb : Words b) (hi : i < a.length) (hn : n < lim) (hin : i + b.length < n) : ∀ (f k : Nat) (o : List Int) (c : Int), k + f = b.length → o.length = n → Words o → (0 ≤ c ∧ c < 4294967296) →
    LoopTo Try.prog (loopAt Try.f32 1) (mulSt a b ta tb n i m o c k) (.exit 2)
      ⟨79, [(0, .sl 1 (.ints .u32 a) ta), (1, .sl 1 (.ints .u32 b) tb), (6, .row 17 0 n n false), (7, .v (.int .i64 i)), (8, .v (.int .u64 (rowMul (a.getD i 0) b i f k o c).2)), (26, .v (.int .i64 m)), (27, .v (.int .i64 i))], [(17, .row 22 1 (.ints .u32 (rowMul (a.getD i 0) b i f k o c).1) n)], 18⟩ := by
  unfold lim at hn
  intro f
  induction f with
  | zero =>
    intro k o c hk hl ho hc
    exact .done (by simp) (mulI2 a b o ta tb n i m k b.length n c ⟨by simp; omega, trivial⟩)
  | succ f ih =>
    intro k o c hk hl ho hc
    have hx := words_getD ha i
    have hy := words_getD hb k
    have hz := words_getD ho (i + k)
    have hs := sum_bound hx hy hz hc
    have h1 := mulI1 a b o ta tb n i m k b.length n c (by
      rw [toNat_two, Int.toNat_natCast, Int.toNat_natCast, ix0]
      exact ⟨by simp; omega, by omega, inRu64 (by omega) (by omega), by omega, inRu64 (by omega) (by omega), inRu64 hs.1 (by omega), inR64 (by omega) (by omega), by omega, Nat.le_refl _, inRu64 (by omega) (by omega), inRu64 (by omega) (by omega), inRu64 hs.2.2.1 hs.2.2.2,
        inR64 (by omega) (by omega), by omega, hl.symm, by omega, inR64 (by omega) (by omega), trivial⟩)
    rw [toNat_two, Int.toNat_natCast, Int.toNat_natCast, ix0, wrap32, shr32, hl] at h1
    refine .step h1 ?_
    have h2 := ih (k + 1) (o.set (i + k) ((a.getD i 0 * b.getD k 0 + o.getD (i + k) 0 + c) % 4294967296)) ((a.getD i 0 * b.getD k 0 + o.getD (i + k) 0 + c) / 4294967296) (by omega) (by simpa using hl) (words_set ho _ (by omega) (by omega)) (by omega)
    exact h2

theorem mul_outer (a b : List Int) (ta tb : Bool) (n : Nat) (ha : Words a) (hb : Words b) (hn : n < lim) (hl : n = a.length + b.length) : ∀ (f i : Nat) (o : List Int), i + f = a.length → o.length = n → Words o →
    LoopTo Try.prog (loopAt Try.f32 0) ⟨79, [(0, .sl 1 (.ints .u32 a) ta), (1, .sl 1 (.ints .u32 b) tb), (6, .row 17 0 n n false), (26, .v (.int .i64 a.length)), (27, .v (.int .i64 i))], [(17, .row 22 1 (.ints .u32 o) n)], 18⟩ (.exit 0)
      ⟨79, [(6, .row 17 0 n n false)], [(17, .row 22 1 (.ints .u32 (mulRows a b f i o)) n)], 18⟩ := by
  intro f
  induction f with
  | zero =>
    intro i o hi ho hw
    exact .done (by simp) (mulO2 a b o o ta tb n i a.length n 0 ⟨by simp; omega, trivial⟩)
  | succ f ih =>
    intro i o hi ho hw
    have hx := words_getD ha i
    have hrow := rowMul_is (a.getD i 0) b i hx hb b.length 0 o 0 hw (by omega) (by omega) (by omega)
    have hin := mul_inner a b ta tb n i a.length ha hb (by omega) hn (by omega) b.length 0 o 0 (by omega) ho hw (by omega)
    have hlen := hrow.length
    have hn' := hn
    unfold lim at hn'
    have h1 := mulO1 a b o (rowMul (a.getD i 0) b i b.length 0 o 0).1 ta tb n i a.length n (rowMul (a.getD i 0) b i b.length 0 o 0).2 ⟨by simp; omega, hin, inR64 (by omega) (by omega), by omega, by omega, inR64 (by omega) (by omega), trivial⟩
    have hc := hrow.carry
    have hmod : (rowMul (a.getD i 0) b i b.length 0 o 0).2 % 4294967296 = (rowMul (a.getD i 0) b i b.length 0 o 0).2 := by omega
    rw [toNat_two, ix0, wrap32, hmod, hlen, ho] at h1
    exact .step h1 (ih (i + 1) _ (by omega) (by rw [List.length_set]; omega) (words_set hrow.words _ hc.1 hc.2))

/-- the words of a product, and whether it may be -/
def mulL (a b : List Int) : List Int := if over a || over b then [] else toldL (mulWords (norm a) (norm b) ((norm a).length + (norm b).length))
def mulE (a b : List Int) : Int := if over a || over b then 3 else toldE (mulWords (norm a) (norm b) ((norm a).length + (norm b).length))

theorem mul_pure (a b : List Int) (ta tb : Bool) (ha : Words a) (hb : Words b) (hla : a.length < lim) (hlb : b.length < lim) : PureTo Try.prog 32 [.sl 1 (.ints .u32 a) ta, .sl 1 (.ints .u32 b) tb] (.tup [.sl 1 (.ints .u32 (mulL a b)) true, .v (.int .i64 (mulE a b))]) := by
  unfold mulL mulE
  cases ho : over a || over b with
  | true => exact mulF1 a b [] ta tb 0 ⟨ho, hla, hlb, trivial⟩
  | false =>
    simp only [Bool.or_eq_false_iff] at ho
    have h1 : (norm a).length ≤ 1024 := by have := ho.1; unfold over at this; simpa using this
    have h2 : (norm b).length ≤ 1024 := by have := ho.2; unfold over at this; simpa using this
    have hz : Words (List.replicate ((norm a).length + (norm b).length) (0 : Int)) := fun x hx => by
      have := (List.mem_replicate.1 hx).2
      omega
    obtain ⟨g1, g2, g3⟩ := mulWords_is (norm a) (norm b) (words_norm ha) (words_norm hb) ((norm a).length + (norm b).length) (Nat.le_refl _)
    have hloop := mul_outer (norm a) (norm b) true true ((norm a).length + (norm b).length) (words_norm ha) (words_norm hb) (by unfold lim; omega) rfl (norm a).length 0 (List.replicate ((norm a).length + (norm b).length) 0) (by omega) (by simp) hz
    have h := mulF2 a b (mulWords (norm a) (norm b) ((norm a).length + (norm b).length)) ta tb ((norm a).length + (norm b).length) (by
      rw [toNat_two, bytes22]
      exact ⟨by simp [ho], hla, hlb, hla, hlb, inR64 (by omega) (by omega), by omega, by omega, .raise (by
        have e : (List.replicate ((norm a).length + (norm b).length) (0 : Int)).length = (norm a).length + (norm b).length := by simp
        show LoopTo _ _ ⟨_, _, [(17, .row 22 1 (.ints .u32 (List.replicate ((norm a).length + (norm b).length) 0)) (List.replicate ((norm a).length + (norm b).length) (0 : Int)).length)], _⟩ _ _
        rw [e]
        exact hloop), g2.symm, Nat.le_refl _, by rw [g2]; unfold lim; omega, trivial⟩)
    exact h

end Go.Proofs.Bn

/- Bignum: contracts: Times; Mul in numbers. -/
set_option maxRecDepth 100000
namespace Go.Proofs.Bn
open Go Go.Ev

theorem times_inner (a b : List Int) (ta tb : Bool) (n i : Nat) (ha : Words a) (hb : Words b) (hi : i < a.length) (hn : n < lim) (hin : i + b.length < n) : ∀ (f k : Nat) (o : List Int) (c : Int), k + f = b.length → o.length = n → Words o → (0 ≤ c ∧ c < 4294967296) →
    LoopTo Try.prog (loopAt Try.f40 1) ⟨69, [(0, .sl 1 (.ints .u32 a) ta), (1, .sl 1 (.ints .u32 b) tb), (5, .row 7 0 n n false), (6, .v (.int .i64 i)), (7, .v (.int .u64 c)), (8, .v (.int .i64 k))], [(7, .row 22 1 (.ints .u32 o) n)], 8⟩ (.exit 2)
      ⟨69, [(0, .sl 1 (.ints .u32 a) ta), (1, .sl 1 (.ints .u32 b) tb), (5, .row 7 0 n n false), (6, .v (.int .i64 i)), (7, .v (.int .u64 (rowMul (a.getD i 0) b i f k o c).2))], [(7, .row 22 1 (.ints .u32 (rowMul (a.getD i 0) b i f k o c).1) n)], 8⟩ := by
  unfold lim at hn
  intro f
  induction f with
  | zero =>
    intro k o c hk hl ho hc
    exact .done (by simp) (timesI2 a b o ta tb n i k n c ⟨by simp; omega, trivial⟩)
  | succ f ih =>
    intro k o c hk hl ho hc
    have hx := words_getD ha i
    have hy := words_getD hb k
    have hz := words_getD ho (i + k)
    have hs := sum_bound hx hy hz hc
    have h1 := timesI1 a b o ta tb n i k n c (by
      rw [toNat_two, Int.toNat_natCast, Int.toNat_natCast, ix0]
      exact ⟨by simp; omega, by omega, inRu64 (by omega) (by omega), by omega, inRu64 (by omega) (by omega), inRu64 hs.1 (by omega), inR64 (by omega) (by omega), by omega, Nat.le_refl _, inRu64 (by omega) (by omega), inRu64 (by omega) (by omega), inRu64 hs.2.2.1 hs.2.2.2,
        inR64 (by omega) (by omega), by omega, hl.symm, by omega, inR64 (by omega) (by omega), trivial⟩)
    rw [toNat_two, Int.toNat_natCast, Int.toNat_natCast, ix0, wrap32, shr32, hl] at h1
    refine .step h1 ?_
    have h2 := ih (k + 1) (o.set (i + k) ((a.getD i 0 * b.getD k 0 + o.getD (i + k) 0 + c) % 4294967296)) ((a.getD i 0 * b.getD k 0 + o.getD (i + k) 0 + c) / 4294967296) (by omega) (by simpa using hl) (words_set ho _ (by omega) (by omega)) (by omega)
    exact h2

theorem times_outer (a b : List Int) (ta tb : Bool) (n : Nat) (ha : Words a) (hb : Words b) (hn : n < lim) (hl : a.length + b.length ≤ n) : ∀ (f i : Nat) (o : List Int), i + f = a.length → o.length = n → Words o →
    LoopTo Try.prog (loopAt Try.f40 0) ⟨69, [(0, .sl 1 (.ints .u32 a) ta), (1, .sl 1 (.ints .u32 b) tb), (5, .row 7 0 n n false), (6, .v (.int .i64 i))], [(7, .row 22 1 (.ints .u32 o) n)], 8⟩ (.exit 0)
      ⟨69, [(5, .row 7 0 n n false)], [(7, .row 22 1 (.ints .u32 (mulRows a b f i o)) n)], 8⟩ := by
  intro f
  induction f with
  | zero =>
    intro i o hi ho hw
    exact .done (by simp) (timesO2 a b o o ta tb n i n 0 ⟨by simp; omega, trivial⟩)
  | succ f ih =>
    intro i o hi ho hw
    have hx := words_getD ha i
    have hrow := rowMul_is (a.getD i 0) b i hx hb b.length 0 o 0 hw (by omega) (by omega) (by omega)
    have hin := times_inner a b ta tb n i ha hb (by omega) hn (by omega) b.length 0 o 0 (by omega) ho hw (by omega)
    have hlen := hrow.length
    have hn' := hn
    unfold lim at hn'
    have h1 := timesO1 a b o (rowMul (a.getD i 0) b i b.length 0 o 0).1 ta tb n i n (rowMul (a.getD i 0) b i b.length 0 o 0).2 ⟨by simp; omega, hin, inR64 (by omega) (by omega), by omega, by omega, inR64 (by omega) (by omega), trivial⟩
    have hc := hrow.carry
    have hmod : (rowMul (a.getD i 0) b i b.length 0 o 0).2 % 4294967296 = (rowMul (a.getD i 0) b i b.length 0 o 0).2 := by omega
    rw [toNat_two, ix0, wrap32, hmod, hlen, ho] at h1
    exact .step h1 (ih (i + 1) _ (by omega) (by rw [List.length_set]; omega) (words_set hrow.words _ hc.1 hc.2))

theorem words_dig_nat {a : List Int} (h : Words a) : norm a = dig (nat a) := norm_eq h

theorem zeros_words (n : Nat) : Words (List.replicate n (0 : Int)) := fun x hx => by
  have := (List.mem_replicate.1 hx).2
  omega

theorem times_pure (a b : List Int) (ta tb : Bool) (ha : Words a) (hb : Words b) (hl : a.length + b.length + 1 ≤ lim4) : PureTo Try.prog 40 [.sl 1 (.ints .u32 a) ta, .sl 1 (.ints .u32 b) tb] (.sl 1 (.ints .u32 (dig (nat a * nat b))) false) := by
  have hl' := hl
  unfold lim4 at hl'
  obtain ⟨g1, g2, g3⟩ := mulWords_is a b ha hb (a.length + b.length + 1) (by omega)
  have hloop := times_outer a b ta tb (a.length + b.length + 1) ha hb (by unfold lim; omega) (by omega) a.length 0 (List.replicate (a.length + b.length + 1) 0) (by omega) (by simp) (zeros_words _)
  have e3 : ((a.length : Int) + (b.length : Int) + 1).toNat = a.length + b.length + 1 := by omega
  have h := timesF1 a b (mulWords a b (a.length + b.length + 1)) ta tb (a.length + b.length + 1) (by
    rw [e3, bytes22]
    exact ⟨inR64 (by omega) (by omega), inR64 (by omega) (by omega), by omega, by omega, .raise (by
      have e : (List.replicate (a.length + b.length + 1) (0 : Int)).length = a.length + b.length + 1 := by simp
      show LoopTo _ _ ⟨_, _, [(7, .row 22 1 (.ints .u32 (List.replicate (a.length + b.length + 1) 0)) (List.replicate (a.length + b.length + 1) (0 : Int)).length)], _⟩ _ _
      rw [e]
      exact hloop), g2.symm, Nat.le_refl _, by rw [g2]; exact hl, trivial⟩)
  rw [norm_eq g1, g3] at h
  exact h

/-- Mul in numbers -/
def big (n : Nat) : Bool := decide (1024 < (dig n).length)
theorem over_big {a : List Int} (h : Words a) : over a = big (nat a) := by unfold over big; rw [norm_eq h]

def Mul (m n : Nat) : List Int × Int := if big m || big n || big (m * n) then ([], 3) else (dig (m * n), 0)

theorem mul_num {a b : List Int} (ha : Words a) (hb : Words b) : (mulL a b, mulE a b) = Mul (nat a) (nat b) := by
  obtain ⟨g1, g2, g3⟩ := mulWords_is (norm a) (norm b) (words_norm ha) (words_norm hb) ((norm a).length + (norm b).length) (Nat.le_refl _)
  rw [nat_norm, nat_norm] at g3
  unfold mulL mulE Mul toldL toldE
  rw [over_big ha, over_big hb, over_big g1, g3, norm_eq g1, g3]
  cases big (nat a) <;> cases big (nat b) <;> cases big (nat a * nat b) <;> simp

theorem mul_pure' (a b : List Int) (ta tb : Bool) (ha : Words a) (hb : Words b) (hla : a.length < lim) (hlb : b.length < lim) : PureTo Try.prog 32 [.sl 1 (.ints .u32 a) ta, .sl 1 (.ints .u32 b) tb] (.tup [.sl 1 (.ints .u32 (Mul (nat a) (nat b)).1) true, .v (.int .i64 (Mul (nat a) (nat b)).2)]) := by
  have h := mul_pure a b ta tb ha hb hla hlb
  rw [← mul_num ha hb]
  exact h

def sigMul : List AV → Option (AV × List Prop)
  | [.sl 1 (.ints .u32 a) _, .sl 1 (.ints .u32 b) _] => some (.tup [.sl 1 (.ints .u32 (Mul (nat a) (nat b)).1) true, .v (.int .i64 (Mul (nat a) (nat b)).2)], [Words a, Words b, a.length < lim, b.length < lim])
  | _ => none
def sigTimes : List AV → Option (AV × List Prop)
  | [.sl 1 (.ints .u32 a) _, .sl 1 (.ints .u32 b) _] => some (.sl 1 (.ints .u32 (dig (nat a * nat b))) false, [Words a, Words b, a.length + b.length + 1 ≤ lim4])
  | _ => none

def SG6 : SGT := (32, .p sigMul) :: (40, .p sigTimes) :: SG5

theorem sok6 : SigsOK Try.prog SG6 := by
  refine sigs_cons (sigs_cons sok5 ?_) ?_
  · intro ys r c h hc
    unfold sigTimes at h
    split at h
    · cases h; exact times_pure _ _ _ _ hc.1 hc.2.1 hc.2.2.1
    · cases h
  · intro ys r c h hc
    unfold sigMul at h
    split at h
    · cases h; exact mul_pure' _ _ _ _ hc.1 hc.2.1 hc.2.2.1 hc.2.2.2.1
    · cases h

end Go.Proofs.Bn

/- Bignum: walks, written by the tool. -/
set_option maxRecDepth 100000
namespace Go.Proofs.Bn
open Go Go.Ev
-- 3 paths
theorem powL1 (x n : Int) (o : List Int) (i : Nat) (h : AllP [decide ((↑i : Int) < n) = true, Words o, Words [x], o.length < lim, [x].length < lim, ((Bn.Mul (nat o) (nat [x])).snd != (0 : Int)) = true]) : To Try.prog (loopAt Try.f11 0) (⟨40, [(0, .v (.int .u32 x)), (6, .sl 1 (.ints .u32 o) true), (24, .v (.int .i64 n)), (25, .v (.int .i64 i))], [], 0⟩) (Exit.ret) { n := (40 : Nat), fr := [((4 : Nat), AV.v (Value.slice none (0 : Nat) (0 : Nat))), ((5 : Nat), AV.v (Value.int IntKind.i64 (Bn.Mul (nat o) (nat [x])).snd)), ((6 : Nat), AV.sl (1 : Nat) (Seq.ints IntKind.u32 o) true)], hp := [], nx := (0 : Nat) } :=
  evW_to hm sok6 (hs := [CHint.ops (nat_lit 9) [(nat_lit 0, Hint.b true)], CHint.ops (nat_lit 11) [(nat_lit 1, Hint.b true)]]) (slots := [4,5,6]) (keys := []) (nx := 0) (c := _) (by kernel_rfl) h
theorem powL2 (x n : Int) (o : List Int) (i : Nat) (h : AllP [decide ((↑i : Int) < n) = true, Words o, Words [x], o.length < lim, [x].length < lim, ((Bn.Mul (nat o) (nat [x])).snd != (0 : Int)) = false, inR IntKind.i64 ((↑i : Int) + (1 : Int))]) : To Try.prog (loopAt Try.f11 0) (⟨40, [(0, .v (.int .u32 x)), (6, .sl 1 (.ints .u32 o) true), (24, .v (.int .i64 n)), (25, .v (.int .i64 i))], [], 0⟩) (.normal) { n := (40 : Nat), fr := [((0 : Nat), AV.v (Value.int IntKind.u32 x)), ((6 : Nat), AV.sl (1 : Nat) (Seq.ints IntKind.u32 (Bn.Mul (nat o) (nat [x])).fst) true), ((24 : Nat), AV.v (Value.int IntKind.i64 n)), ((25 : Nat), AV.v (Value.int IntKind.i64 ((↑i : Int) + (1 : Int))))], hp := [], nx := (0 : Nat) } :=
  evW_to hm sok6 (hs := [CHint.ops (nat_lit 9) [(nat_lit 0, Hint.b true)], CHint.ops (nat_lit 11) [(nat_lit 1, Hint.b false)]]) (slots := [0,6,24,25]) (keys := []) (nx := 0) (c := _) (by kernel_rfl) h
theorem powL3 (x n : Int) (o : List Int) (i : Nat) (h : AllP [decide ((↑i : Int) < n) = false]) : To Try.prog (loopAt Try.f11 0) (⟨40, [(0, .v (.int .u32 x)), (6, .sl 1 (.ints .u32 o) true), (24, .v (.int .i64 n)), (25, .v (.int .i64 i))], [], 0⟩) (Exit.exit (1 : Nat)) { n := (40 : Nat), fr := [((6 : Nat), AV.sl (1 : Nat) (Seq.ints IntKind.u32 o) true)], hp := [], nx := (0 : Nat) } :=
  evW_to hm sok6 (hs := [CHint.ops (nat_lit 9) [(nat_lit 0, Hint.b false)]]) (slots := [4,5,6]) (keys := []) (nx := 0) (c := _) (by kernel_rfl) h
-- 5 paths
theorem powF1 (x n : Int) (o : List Int) (h : AllP [decide (n < (0 : Int)) = true]) : PureTo Try.prog 11 [.v (.int .u32 x), .v (.int .i64 n)] (AV.tup [AV.sl (1 : Nat) (Seq.ints IntKind.u32 []) false, AV.v (Value.int IntKind.i64 (1 : Int))]) :=
  evFn_pure hm sok6 (fn := Try.f11) rfl rfl (ti := false) (hs := [CHint.ops (nat_lit 1) [(nat_lit 1, Hint.b true)]]) (c := _) (by kernel_rfl) h
theorem powF2 (x n : Int) (o : List Int) (h : AllP [decide (n < (0 : Int)) = false, (n == (0 : Int)) = true]) : PureTo Try.prog 11 [.v (.int .u32 x), .v (.int .i64 n)] (AV.tup [AV.sl (1 : Nat) (Seq.ints IntKind.u32 [(1 : Int)]) false, AV.v (Value.int IntKind.i64 (0 : Int))]) :=
  evFn_pure hm sok6 (fn := Try.f11) rfl rfl (ti := false) (hs := [CHint.ops (nat_lit 1) [(nat_lit 1, Hint.b false)], CHint.ops (nat_lit 3) [(nat_lit 1, Hint.b true)]]) (c := _) (by kernel_rfl) h
theorem powF3 (x n : Int) (o : List Int) (h : AllP [decide (n < (0 : Int)) = false, (n == (0 : Int)) = false, (x == (1 : Int)) = true]) : PureTo Try.prog 11 [.v (.int .u32 x), .v (.int .i64 n)] (AV.tup [AV.sl (1 : Nat) (Seq.ints IntKind.u32 [(1 : Int)]) false, AV.v (Value.int IntKind.i64 (0 : Int))]) :=
  evFn_pure hm sok6 (fn := Try.f11) rfl rfl (ti := false) (hs := [CHint.ops (nat_lit 1) [(nat_lit 1, Hint.b false)], CHint.ops (nat_lit 3) [(nat_lit 1, Hint.b false), (nat_lit 4, Hint.b true)]]) (c := _) (by kernel_rfl) h
theorem powF4 (x n : Int) (o : List Int) (h : AllP [decide (n < (0 : Int)) = false, (n == (0 : Int)) = false, (x == (1 : Int)) = false, (x == (0 : Int)) = true]) : PureTo Try.prog 11 [.v (.int .u32 x), .v (.int .i64 n)] (AV.tup [AV.sl (1 : Nat) (Seq.ints IntKind.u32 []) false, AV.v (Value.int IntKind.i64 (0 : Int))]) :=
  evFn_pure hm sok6 (fn := Try.f11) rfl rfl (ti := false) (hs := [CHint.ops (nat_lit 1) [(nat_lit 1, Hint.b false)], CHint.ops (nat_lit 3) [(nat_lit 1, Hint.b false), (nat_lit 4, Hint.b false)], CHint.ops (nat_lit 5) [(nat_lit 1, Hint.b true)]]) (c := _) (by kernel_rfl) h
theorem powF5 (x n : Int) (o : List Int) (h : AllP [decide (n < (0 : Int)) = false, (n == (0 : Int)) = false, (x == (1 : Int)) = false, (x == (0 : Int)) = false, LoopTo Try.prog (loopAt Try.f11 (0 : Nat)) { n := (40 : Nat), fr := [((0 : Nat), AV.v (Value.int IntKind.u32 x)), ((6 : Nat), AV.sl (1 : Nat) (Seq.ints IntKind.u32 [(1 : Int)]) true), ((24 : Nat), AV.v (Value.int IntKind.i64 n)), ((25 : Nat), AV.v (Value.int IntKind.i64 (0 : Int)))], hp := [], nx := (0 : Nat) } (Exit.exit (1 : Nat)) { n := (40 : Nat), fr := [((6 : Nat), AV.sl (1 : Nat) (Seq.ints IntKind.u32 o) true)], hp := [], nx := (0 : Nat) }]) : PureTo Try.prog 11 [.v (.int .u32 x), .v (.int .i64 n)] (AV.tup [AV.sl (1 : Nat) (Seq.ints IntKind.u32 o) false, AV.v (Value.int IntKind.i64 (0 : Int))]) :=
  evFn_pure hm sok6 (fn := Try.f11) rfl rfl (ti := false) (hs := [CHint.ops (nat_lit 1) [(nat_lit 1, Hint.b false)], CHint.ops (nat_lit 3) [(nat_lit 1, Hint.b false), (nat_lit 4, Hint.b false)], CHint.ops (nat_lit 5) [(nat_lit 1, Hint.b false)], CHint.loop [(0 : Nat), (6 : Nat), (24 : Nat), (25 : Nat)] [] (0 : Nat) (Exit.exit (1 : Nat)) { n := (40 : Nat), fr := [((6 : Nat), AV.sl (1 : Nat) (Seq.ints IntKind.u32 o) true)], hp := [], nx := (0 : Nat) }]) (c := _) (by kernel_rfl) h
-- 5 paths
theorem powG1 (x n : Int) (e : Int) (h : AllP [decide (n < (0 : Int)) = true]) : PureTo Try.prog 11 [.v (.int .u32 x), .v (.int .i64 n)] (AV.tup [AV.sl (1 : Nat) (Seq.ints IntKind.u32 []) false, AV.v (Value.int IntKind.i64 (1 : Int))]) :=
  evFn_pure hm sok6 (fn := Try.f11) rfl rfl (ti := false) (hs := [CHint.ops (nat_lit 1) [(nat_lit 1, Hint.b true)]]) (c := _) (by kernel_rfl) h
theorem powG2 (x n : Int) (e : Int) (h : AllP [decide (n < (0 : Int)) = false, (n == (0 : Int)) = true]) : PureTo Try.prog 11 [.v (.int .u32 x), .v (.int .i64 n)] (AV.tup [AV.sl (1 : Nat) (Seq.ints IntKind.u32 [(1 : Int)]) false, AV.v (Value.int IntKind.i64 (0 : Int))]) :=
  evFn_pure hm sok6 (fn := Try.f11) rfl rfl (ti := false) (hs := [CHint.ops (nat_lit 1) [(nat_lit 1, Hint.b false)], CHint.ops (nat_lit 3) [(nat_lit 1, Hint.b true)]]) (c := _) (by kernel_rfl) h
theorem powG3 (x n : Int) (e : Int) (h : AllP [decide (n < (0 : Int)) = false, (n == (0 : Int)) = false, (x == (1 : Int)) = true]) : PureTo Try.prog 11 [.v (.int .u32 x), .v (.int .i64 n)] (AV.tup [AV.sl (1 : Nat) (Seq.ints IntKind.u32 [(1 : Int)]) false, AV.v (Value.int IntKind.i64 (0 : Int))]) :=
  evFn_pure hm sok6 (fn := Try.f11) rfl rfl (ti := false) (hs := [CHint.ops (nat_lit 1) [(nat_lit 1, Hint.b false)], CHint.ops (nat_lit 3) [(nat_lit 1, Hint.b false), (nat_lit 4, Hint.b true)]]) (c := _) (by kernel_rfl) h
theorem powG4 (x n : Int) (e : Int) (h : AllP [decide (n < (0 : Int)) = false, (n == (0 : Int)) = false, (x == (1 : Int)) = false, (x == (0 : Int)) = true]) : PureTo Try.prog 11 [.v (.int .u32 x), .v (.int .i64 n)] (AV.tup [AV.sl (1 : Nat) (Seq.ints IntKind.u32 []) false, AV.v (Value.int IntKind.i64 (0 : Int))]) :=
  evFn_pure hm sok6 (fn := Try.f11) rfl rfl (ti := false) (hs := [CHint.ops (nat_lit 1) [(nat_lit 1, Hint.b false)], CHint.ops (nat_lit 3) [(nat_lit 1, Hint.b false), (nat_lit 4, Hint.b false)], CHint.ops (nat_lit 5) [(nat_lit 1, Hint.b true)]]) (c := _) (by kernel_rfl) h
theorem powG5 (x n : Int) (e : Int) (h : AllP [decide (n < (0 : Int)) = false, (n == (0 : Int)) = false, (x == (1 : Int)) = false, (x == (0 : Int)) = false, LoopTo Try.prog (loopAt Try.f11 (0 : Nat)) { n := (40 : Nat), fr := [((0 : Nat), AV.v (Value.int IntKind.u32 x)), ((6 : Nat), AV.sl (1 : Nat) (Seq.ints IntKind.u32 [(1 : Int)]) true), ((24 : Nat), AV.v (Value.int IntKind.i64 n)), ((25 : Nat), AV.v (Value.int IntKind.i64 (0 : Int)))], hp := [], nx := (0 : Nat) } Exit.ret { n := (40 : Nat), fr := [((4 : Nat), AV.v (Value.slice none (0 : Nat) (0 : Nat))), ((5 : Nat), AV.v (Value.int IntKind.i64 e))], hp := [], nx := (0 : Nat) }]) : PureTo Try.prog 11 [.v (.int .u32 x), .v (.int .i64 n)] (AV.tup [AV.sl (1 : Nat) (Seq.ints IntKind.u32 []) false, AV.v (Value.int IntKind.i64 e)]) :=
  evFn_pure hm sok6 (fn := Try.f11) rfl rfl (ti := false) (hs := [CHint.ops (nat_lit 1) [(nat_lit 1, Hint.b false)], CHint.ops (nat_lit 3) [(nat_lit 1, Hint.b false), (nat_lit 4, Hint.b false)], CHint.ops (nat_lit 5) [(nat_lit 1, Hint.b false)], CHint.loop [(0 : Nat), (6 : Nat), (24 : Nat), (25 : Nat)] [] (0 : Nat) Exit.ret { n := (40 : Nat), fr := [((4 : Nat), AV.v (Value.slice none (0 : Nat) (0 : Nat))), ((5 : Nat), AV.v (Value.int IntKind.i64 e))], hp := [], nx := (0 : Nat) }]) (c := _) (by kernel_rfl) h
-- 3 paths
theorem rpowL1 (x n : Int) (o : List Int) (t : Bool) (i : Nat) (h : AllP [decide ((↑i : Int) < n) = true, Words o, Words [x], o.length + [x].length + (1 : Nat) ≤ lim4, over (dig (nat o * nat [x])) = true, (dig (nat o * nat [x])).length ≤ lim4]) : To Try.prog (loopAt Try.f12 0) (⟨32, [(0, .v (.int .u32 x)), (1, .v (.int .i64 n)), (6, .sl 1 (.ints .u32 o) t), (7, .v (.int .i64 i))], [], 0⟩) (Exit.ret) { n := (32 : Nat), fr := [((4 : Nat), AV.v (Value.slice none (0 : Nat) (0 : Nat))), ((5 : Nat), AV.v (Value.int IntKind.i64 (3 : Int))), ((6 : Nat), AV.sl (1 : Nat) (Seq.ints IntKind.u32 (dig (nat o * nat [x]))) false)], hp := [], nx := (0 : Nat) } :=
  evW_to hm sok6 (hs := [CHint.ops (nat_lit 9) [(nat_lit 2, Hint.b true)], CHint.ops (nat_lit 12) [(nat_lit 1, Hint.b true)]]) (slots := [4,5,6]) (keys := []) (nx := 0) (c := _) (by kernel_rfl) h
theorem rpowL2 (x n : Int) (o : List Int) (t : Bool) (i : Nat) (h : AllP [decide ((↑i : Int) < n) = true, Words o, Words [x], o.length + [x].length + (1 : Nat) ≤ lim4, over (dig (nat o * nat [x])) = false, (dig (nat o * nat [x])).length ≤ lim4, inR IntKind.i64 ((↑i : Int) + (1 : Int))]) : To Try.prog (loopAt Try.f12 0) (⟨32, [(0, .v (.int .u32 x)), (1, .v (.int .i64 n)), (6, .sl 1 (.ints .u32 o) t), (7, .v (.int .i64 i))], [], 0⟩) (.normal) { n := (32 : Nat), fr := [((0 : Nat), AV.v (Value.int IntKind.u32 x)), ((1 : Nat), AV.v (Value.int IntKind.i64 n)), ((6 : Nat), AV.sl (1 : Nat) (Seq.ints IntKind.u32 (dig (nat o * nat [x]))) false), ((7 : Nat), AV.v (Value.int IntKind.i64 ((↑i : Int) + (1 : Int))))], hp := [], nx := (0 : Nat) } :=
  evW_to hm sok6 (hs := [CHint.ops (nat_lit 9) [(nat_lit 2, Hint.b true)], CHint.ops (nat_lit 12) [(nat_lit 1, Hint.b false)]]) (slots := [0,1,6,7]) (keys := []) (nx := 0) (c := _) (by kernel_rfl) h
theorem rpowL3 (x n : Int) (o : List Int) (t : Bool) (i : Nat) (h : AllP [decide ((↑i : Int) < n) = false]) : To Try.prog (loopAt Try.f12 0) (⟨32, [(0, .v (.int .u32 x)), (1, .v (.int .i64 n)), (6, .sl 1 (.ints .u32 o) t), (7, .v (.int .i64 i))], [], 0⟩) (Exit.exit (0 : Nat)) { n := (32 : Nat), fr := [((6 : Nat), AV.sl (1 : Nat) (Seq.ints IntKind.u32 o) t)], hp := [], nx := (0 : Nat) } :=
  evW_to hm sok6 (hs := [CHint.ops (nat_lit 9) [(nat_lit 2, Hint.b false)]]) (slots := [4,5,6]) (keys := []) (nx := 0) (c := _) (by kernel_rfl) h
-- 5 paths
theorem rpowF1 (x n : Int) (o : List Int) (t : Bool) (h : AllP [decide (n < (0 : Int)) = true]) : PureTo Try.prog 12 [.v (.int .u32 x), .v (.int .i64 n)] (AV.tup [AV.sl (1 : Nat) (Seq.ints IntKind.u32 []) false, AV.v (Value.int IntKind.i64 (1 : Int))]) :=
  evFn_pure hm sok6 (fn := Try.f12) rfl rfl (ti := false) (hs := [CHint.ops (nat_lit 1) [(nat_lit 1, Hint.b true)]]) (c := _) (by kernel_rfl) h
theorem rpowF2 (x n : Int) (o : List Int) (t : Bool) (h : AllP [decide (n < (0 : Int)) = false, decide (x < (2 : Int)) = true, (x == (0 : Int)) = true, decide (n > (0 : Int)) = true]) : PureTo Try.prog 12 [.v (.int .u32 x), .v (.int .i64 n)] (AV.tup [AV.sl (1 : Nat) (Seq.ints IntKind.u32 []) false, AV.v (Value.int IntKind.i64 (0 : Int))]) :=
  evFn_pure hm sok6 (fn := Try.f12) rfl rfl (ti := false) (hs := [CHint.ops (nat_lit 1) [(nat_lit 1, Hint.b false)], CHint.ops (nat_lit 3) [(nat_lit 1, Hint.b true)], CHint.ops (nat_lit 4) [(nat_lit 1, Hint.b true), (nat_lit 4, Hint.b true)]]) (c := _) (by kernel_rfl) h
theorem rpowF3 (x n : Int) (o : List Int) (t : Bool) (h : AllP [decide (n < (0 : Int)) = false, decide (x < (2 : Int)) = true, (x == (0 : Int)) = true, decide (n > (0 : Int)) = false]) : PureTo Try.prog 12 [.v (.int .u32 x), .v (.int .i64 n)] (AV.tup [AV.sl (1 : Nat) (Seq.ints IntKind.u32 [(1 : Int)]) false, AV.v (Value.int IntKind.i64 (0 : Int))]) :=
  evFn_pure hm sok6 (fn := Try.f12) rfl rfl (ti := false) (hs := [CHint.ops (nat_lit 1) [(nat_lit 1, Hint.b false)], CHint.ops (nat_lit 3) [(nat_lit 1, Hint.b true)], CHint.ops (nat_lit 4) [(nat_lit 1, Hint.b true), (nat_lit 4, Hint.b false)]]) (c := _) (by kernel_rfl) h
theorem rpowF4 (x n : Int) (o : List Int) (t : Bool) (h : AllP [decide (n < (0 : Int)) = false, decide (x < (2 : Int)) = true, (x == (0 : Int)) = false]) : PureTo Try.prog 12 [.v (.int .u32 x), .v (.int .i64 n)] (AV.tup [AV.sl (1 : Nat) (Seq.ints IntKind.u32 [(1 : Int)]) false, AV.v (Value.int IntKind.i64 (0 : Int))]) :=
  evFn_pure hm sok6 (fn := Try.f12) rfl rfl (ti := false) (hs := [CHint.ops (nat_lit 1) [(nat_lit 1, Hint.b false)], CHint.ops (nat_lit 3) [(nat_lit 1, Hint.b true)], CHint.ops (nat_lit 4) [(nat_lit 1, Hint.b false)]]) (c := _) (by kernel_rfl) h
theorem rpowF5 (x n : Int) (o : List Int) (t : Bool) (h : AllP [decide (n < (0 : Int)) = false, decide (x < (2 : Int)) = false, LoopTo Try.prog (loopAt Try.f12 (0 : Nat)) { n := (32 : Nat), fr := [((0 : Nat), AV.v (Value.int IntKind.u32 x)), ((1 : Nat), AV.v (Value.int IntKind.i64 n)), ((6 : Nat), AV.sl (1 : Nat) (Seq.ints IntKind.u32 [(1 : Int)]) true), ((7 : Nat), AV.v (Value.int IntKind.i64 (0 : Int)))], hp := [], nx := (0 : Nat) } (Exit.exit (0 : Nat)) { n := (32 : Nat), fr := [((6 : Nat), AV.sl (1 : Nat) (Seq.ints IntKind.u32 o) t)], hp := [], nx := (0 : Nat) }]) : PureTo Try.prog 12 [.v (.int .u32 x), .v (.int .i64 n)] (AV.tup [AV.sl (1 : Nat) (Seq.ints IntKind.u32 o) (t && false), AV.v (Value.int IntKind.i64 (0 : Int))]) :=
  evFn_pure hm sok6 (fn := Try.f12) rfl rfl (ti := false) (hs := [CHint.ops (nat_lit 1) [(nat_lit 1, Hint.b false)], CHint.ops (nat_lit 3) [(nat_lit 1, Hint.b false)], CHint.loop [(0 : Nat), (1 : Nat), (6 : Nat), (7 : Nat)] [] (0 : Nat) (Exit.exit (0 : Nat)) { n := (32 : Nat), fr := [((6 : Nat), AV.sl (1 : Nat) (Seq.ints IntKind.u32 o) t)], hp := [], nx := (0 : Nat) }]) (c := _) (by kernel_rfl) h
-- 5 paths
theorem rpowG1 (x n : Int) (e : Int) (h : AllP [decide (n < (0 : Int)) = true]) : PureTo Try.prog 12 [.v (.int .u32 x), .v (.int .i64 n)] (AV.tup [AV.sl (1 : Nat) (Seq.ints IntKind.u32 []) false, AV.v (Value.int IntKind.i64 (1 : Int))]) :=
  evFn_pure hm sok6 (fn := Try.f12) rfl rfl (ti := false) (hs := [CHint.ops (nat_lit 1) [(nat_lit 1, Hint.b true)]]) (c := _) (by kernel_rfl) h
theorem rpowG2 (x n : Int) (e : Int) (h : AllP [decide (n < (0 : Int)) = false, decide (x < (2 : Int)) = true, (x == (0 : Int)) = true, decide (n > (0 : Int)) = true]) : PureTo Try.prog 12 [.v (.int .u32 x), .v (.int .i64 n)] (AV.tup [AV.sl (1 : Nat) (Seq.ints IntKind.u32 []) false, AV.v (Value.int IntKind.i64 (0 : Int))]) :=
  evFn_pure hm sok6 (fn := Try.f12) rfl rfl (ti := false) (hs := [CHint.ops (nat_lit 1) [(nat_lit 1, Hint.b false)], CHint.ops (nat_lit 3) [(nat_lit 1, Hint.b true)], CHint.ops (nat_lit 4) [(nat_lit 1, Hint.b true), (nat_lit 4, Hint.b true)]]) (c := _) (by kernel_rfl) h
theorem rpowG3 (x n : Int) (e : Int) (h : AllP [decide (n < (0 : Int)) = false, decide (x < (2 : Int)) = true, (x == (0 : Int)) = true, decide (n > (0 : Int)) = false]) : PureTo Try.prog 12 [.v (.int .u32 x), .v (.int .i64 n)] (AV.tup [AV.sl (1 : Nat) (Seq.ints IntKind.u32 [(1 : Int)]) false, AV.v (Value.int IntKind.i64 (0 : Int))]) :=
  evFn_pure hm sok6 (fn := Try.f12) rfl rfl (ti := false) (hs := [CHint.ops (nat_lit 1) [(nat_lit 1, Hint.b false)], CHint.ops (nat_lit 3) [(nat_lit 1, Hint.b true)], CHint.ops (nat_lit 4) [(nat_lit 1, Hint.b true), (nat_lit 4, Hint.b false)]]) (c := _) (by kernel_rfl) h
theorem rpowG4 (x n : Int) (e : Int) (h : AllP [decide (n < (0 : Int)) = false, decide (x < (2 : Int)) = true, (x == (0 : Int)) = false]) : PureTo Try.prog 12 [.v (.int .u32 x), .v (.int .i64 n)] (AV.tup [AV.sl (1 : Nat) (Seq.ints IntKind.u32 [(1 : Int)]) false, AV.v (Value.int IntKind.i64 (0 : Int))]) :=
  evFn_pure hm sok6 (fn := Try.f12) rfl rfl (ti := false) (hs := [CHint.ops (nat_lit 1) [(nat_lit 1, Hint.b false)], CHint.ops (nat_lit 3) [(nat_lit 1, Hint.b true)], CHint.ops (nat_lit 4) [(nat_lit 1, Hint.b false)]]) (c := _) (by kernel_rfl) h
theorem rpowG5 (x n : Int) (e : Int) (h : AllP [decide (n < (0 : Int)) = false, decide (x < (2 : Int)) = false, LoopTo Try.prog (loopAt Try.f12 (0 : Nat)) { n := (32 : Nat), fr := [((0 : Nat), AV.v (Value.int IntKind.u32 x)), ((1 : Nat), AV.v (Value.int IntKind.i64 n)), ((6 : Nat), AV.sl (1 : Nat) (Seq.ints IntKind.u32 [(1 : Int)]) true), ((7 : Nat), AV.v (Value.int IntKind.i64 (0 : Int)))], hp := [], nx := (0 : Nat) } Exit.ret { n := (32 : Nat), fr := [((4 : Nat), AV.v (Value.slice none (0 : Nat) (0 : Nat))), ((5 : Nat), AV.v (Value.int IntKind.i64 e))], hp := [], nx := (0 : Nat) }]) : PureTo Try.prog 12 [.v (.int .u32 x), .v (.int .i64 n)] (AV.tup [AV.sl (1 : Nat) (Seq.ints IntKind.u32 []) false, AV.v (Value.int IntKind.i64 e)]) :=
  evFn_pure hm sok6 (fn := Try.f12) rfl rfl (ti := false) (hs := [CHint.ops (nat_lit 1) [(nat_lit 1, Hint.b false)], CHint.ops (nat_lit 3) [(nat_lit 1, Hint.b false)], CHint.loop [(0 : Nat), (1 : Nat), (6 : Nat), (7 : Nat)] [] (0 : Nat) Exit.ret { n := (32 : Nat), fr := [((4 : Nat), AV.v (Value.slice none (0 : Nat) (0 : Nat))), ((5 : Nat), AV.v (Value.int IntKind.i64 e))], hp := [], nx := (0 : Nat) }]) (c := _) (by kernel_rfl) h
-- 1 paths
theorem awakeF1  (h : AllP [Words [(4294967295 : Int)], Words [(4294967295 : Int)], [(4294967295 : Int)].length < lim, [(4294967295 : Int)].length < lim, (0 : Int) ≤ (0 : Int) ∧ (0 : Int) < (↑(Bn.Mul (nat [(4294967295 : Int)]) (nat [(4294967295 : Int)])).fst.length : Int), (0 : Int) ≤ (1 : Int) ∧ (1 : Int) < (↑(Bn.Mul (nat [(4294967295 : Int)]) (nat [(4294967295 : Int)])).fst.length : Int)]) : PureTo Try.prog 14 [] (AV.v (Value.bool true)) :=
  evFn_pure hm sok6 (fn := Try.f14) rfl rfl (ti := false) (hs := []) (c := _) (by kernel_rfl) h
end Go.Proofs.Bn

/- Bignum: contracts: Pow, both. -/
set_option maxRecDepth 100000
namespace Go.Proofs.Bn
open Go Go.Ev

theorem dig_len (k : Nat) : ∀ n, k < (dig n).length ↔ 4294967296 ^ k ≤ n := by
  induction k with
  | zero =>
    intro n
    by_cases h : n = 0
    · subst h; simp [dig_zero]
    · rw [dig_pos h]; simp; omega
  | succ k ih =>
    intro n
    by_cases h : n = 0
    · subst h
      rw [dig_zero]
      have := Nat.pow_pos (n := k + 1) (show 0 < 4294967296 by omega)
      simp only [List.length_nil]
      omega
    · rw [dig_pos h, List.length_cons, Nat.add_lt_add_iff_right, ih, Nat.pow_succ, Nat.le_div_iff_mul_le (by omega)]

theorem big_iff (n : Nat) : big n = true ↔ 4294967296 ^ 1024 ≤ n := by
  unfold big
  rw [decide_eq_true_iff, dig_len]

theorem big_mono {m n : Nat} (h : m ≤ n) (hm : big m = true) : big n = true := by
  rw [big_iff] at *
  exact Nat.le_trans hm h

theorem small_len {n : Nat} (h : big n = false) : (dig n).length ≤ 1024 := by
  unfold big at h
  simpa using h

theorem dig_one {n : Nat} (h0 : n ≠ 0) (h : n < 4294967296) : dig n = [(n : Int)] := by
  rw [dig_pos h0, Nat.div_eq_of_lt h, dig_zero, Nat.mod_eq_of_lt h]

theorem big_small {n : Nat} (h : n < 4294967296) : big n = false := by
  unfold big
  by_cases h0 : n = 0
  · subst h0; rw [dig_zero]; simp
  · rw [dig_one h0 h]; simp

theorem dig_mul_le {k m x : Nat} (hm : (dig m).length ≤ k) (hx : x < 4294967296) : (dig (m * x)).length ≤ k + 1 := by
  have h2 : m < 4294967296 ^ k := by
    rcases Nat.lt_or_ge m (4294967296 ^ k) with h | h
    · exact h
    · have := (dig_len k m).2 h
      omega
  rcases Nat.lt_or_ge (k + 1) (dig (m * x)).length with h | h
  · exfalso
    have h3 := (dig_len (k + 1) _).1 h
    rw [Nat.pow_succ] at h3
    have h4 : m * x < 4294967296 ^ k * 4294967296 := Nat.mul_lt_mul'' h2 hx
    omega
  · exact h

theorem dig_mul_len {m x : Nat} (hm : big m = false) (hx : x < 4294967296) : (dig (m * x)).length ≤ 1025 := dig_mul_le (small_len hm) hx

/-- a power's words, and whether it may be -/
def Pow (x : Nat) (n : Int) : List Int × Int :=
  if n < 0 then ([], 1) else if big (x ^ n.toNat) then ([], 3) else (dig (x ^ n.toNat), 0)

theorem nat_word {x : Int} (h : 0 ≤ x) : nat [x] = x.toNat := by simp [nat]

theorem words_one {x : Int} (h : 0 ≤ x ∧ x < 4294967296) : Words [x] := fun y hy => by
  have := List.mem_singleton.1 hy
  omega

section
variable (x n : Int) (hx : 2 ≤ x ∧ x < 4294967296) (hn : n ≤ 9223372036854775807)
  include hx

theorem mul_word {p : Nat} (hp : big p = false) : Mul (nat (dig p)) (nat [x]) = if big (p * x.toNat) then ([], 3) else (dig (p * x.toNat), 0) := by
  rw [nat_dig, nat_word (by omega)]
  unfold Mul
  rw [hp, big_small (by omega)]
  simp

  include hn

theorem pow_ok (hb : big (x.toNat ^ n.toNat) = false) : ∀ (f i : Nat), (i : Int) + f = n → LoopTo Try.prog (loopAt Try.f11 0) ⟨40, [(0, .v (.int .u32 x)), (6, .sl 1 (.ints .u32 (dig (x.toNat ^ i))) true), (24, .v (.int .i64 n)), (25, .v (.int .i64 i))], [], 0⟩ (.exit 1)
    ⟨40, [(6, .sl 1 (.ints .u32 (dig (x.toNat ^ n.toNat))) true)], [], 0⟩ := by
  intro f
  induction f with
  | zero =>
    intro i hi
    have : n.toNat = i := by omega
    rw [this]
    exact .done (by simp) (powL3 x n _ i ⟨by simp; omega, trivial⟩)
  | succ f ih =>
    intro i hi
    have hle : ∀ j, j ≤ n.toNat → big (x.toNat ^ j) = false := fun j hj => by
      cases h : big (x.toNat ^ j) with
      | false => rfl
      | true => rw [big_mono (Nat.pow_le_pow_right (by omega) hj) h] at hb; cases hb
    have hi1 := hle i (by omega)
    have hi2 := hle (i + 1) (by omega)
    have hm := mul_word x hx hi1
    rw [← Nat.pow_succ, hi2] at hm
    simp only [Bool.false_eq_true, if_false] at hm
    have h1 := powL2 x n (dig (x.toNat ^ i)) i ⟨by simp; omega, words_dig _, words_one (by omega), by have := small_len hi1; unfold lim; omega, by unfold lim; simp, by rw [hm]; rfl, inR64 (by omega) (by omega), trivial⟩
    rw [hm] at h1
    exact .step h1 (ih (i + 1) (by omega))

theorem pow_long (hb : big (x.toNat ^ n.toNat) = true) : ∀ (f i : Nat), (i : Int) + f = n → big (x.toNat ^ i) = false → LoopTo Try.prog (loopAt Try.f11 0) ⟨40, [(0, .v (.int .u32 x)), (6, .sl 1 (.ints .u32 (dig (x.toNat ^ i))) true), (24, .v (.int .i64 n)), (25, .v (.int .i64 i))], [], 0⟩ .ret
    ⟨40, [(4, .v (.slice none 0 0)), (5, .v (.int .i64 3))], [], 0⟩ := by
  intro f
  induction f with
  | zero =>
    intro i hi hs
    have : n.toNat = i := by omega
    rw [this, hs] at hb
    cases hb
  | succ f ih =>
    intro i hi hs
    have hm := mul_word x hx hs
    rw [← Nat.pow_succ] at hm
    cases hi2 : big (x.toNat ^ (i + 1)) with
    | true =>
      rw [hi2] at hm
      simp only [if_true] at hm
      have h1 := powL1 x n (dig (x.toNat ^ i)) i ⟨by simp; omega, words_dig _, words_one (by omega), by have := small_len hs; unfold lim; omega, by unfold lim; simp, by rw [hm]; rfl, trivial⟩
      rw [hm] at h1
      exact .done (by simp) (h1.weaken (slots := [4, 5]) (keys := []) (nx := 0) (by rfl))
    | false =>
      rw [hi2] at hm
      simp only [Bool.false_eq_true, if_false] at hm
      have h1 := powL2 x n (dig (x.toNat ^ i)) i ⟨by simp; omega, words_dig _, words_one (by omega), by have := small_len hs; unfold lim; omega, by unfold lim; simp, by rw [hm]; rfl, inR64 (by omega) (by omega), trivial⟩
      rw [hm] at h1
      exact .step h1 (ih (i + 1) (by omega) hi2)

theorem rpow_ok (hb : big (x.toNat ^ n.toNat) = false) : ∀ (f i : Nat) (t : Bool), (i : Int) + f = n → (f = 0 → t = false) → LoopTo Try.prog (loopAt Try.f12 0) ⟨32, [(0, .v (.int .u32 x)), (1, .v (.int .i64 n)), (6, .sl 1 (.ints .u32 (dig (x.toNat ^ i))) t), (7, .v (.int .i64 i))], [], 0⟩ (.exit 0)
    ⟨32, [(6, .sl 1 (.ints .u32 (dig (x.toNat ^ n.toNat))) false)], [], 0⟩ := by
  intro f
  induction f with
  | zero =>
    intro i t hi ht
    have : n.toNat = i := by omega
    rw [this, ht rfl]
    exact .done (by simp) (rpowL3 x n _ false i ⟨by simp; omega, trivial⟩)
  | succ f ih =>
    intro i t hi _
    have hle : ∀ j, j ≤ n.toNat → big (x.toNat ^ j) = false := fun j hj => by
      cases h : big (x.toNat ^ j) with
      | false => rfl
      | true => rw [big_mono (Nat.pow_le_pow_right (by omega) hj) h] at hb; cases hb
    have hi1 := hle i (by omega)
    have hi2 := hle (i + 1) (by omega)
    have hl1 := small_len hi1
    have hl2 := small_len hi2
    have e : nat (dig (x.toNat ^ i)) * nat [x] = x.toNat ^ (i + 1) := by rw [nat_dig, nat_word (by omega), Nat.pow_succ]
    have h1 := rpowL2 x n (dig (x.toNat ^ i)) t i (by
      rw [e]
      exact ⟨by simp; omega, words_dig _, words_one (by omega), by unfold lim4; simp; omega, by rw [over_big (words_dig _), nat_dig]; exact hi2, by unfold lim4; omega, inR64 (by omega) (by omega), trivial⟩)
    rw [e] at h1
    exact .step h1 (ih (i + 1) false (by omega) fun _ => rfl)

theorem rpow_long (hb : big (x.toNat ^ n.toNat) = true) : ∀ (f i : Nat) (t : Bool), (i : Int) + f = n → big (x.toNat ^ i) = false → LoopTo Try.prog (loopAt Try.f12 0) ⟨32, [(0, .v (.int .u32 x)), (1, .v (.int .i64 n)), (6, .sl 1 (.ints .u32 (dig (x.toNat ^ i))) t), (7, .v (.int .i64 i))], [], 0⟩ .ret
    ⟨32, [(4, .v (.slice none 0 0)), (5, .v (.int .i64 3))], [], 0⟩ := by
  intro f
  induction f with
  | zero =>
    intro i t hi hs
    have : n.toNat = i := by omega
    rw [this, hs] at hb
    cases hb
  | succ f ih =>
    intro i t hi hs
    have hl1 := small_len hs
    have hl2 : (dig (x.toNat ^ (i + 1))).length ≤ 1025 := by rw [Nat.pow_succ]; exact dig_mul_len hs (by omega)
    have e : nat (dig (x.toNat ^ i)) * nat [x] = x.toNat ^ (i + 1) := by rw [nat_dig, nat_word (by omega), Nat.pow_succ]
    cases hi2 : big (x.toNat ^ (i + 1)) with
    | true =>
      have h1 := rpowL1 x n (dig (x.toNat ^ i)) t i (by
        rw [e]
        exact ⟨by simp; omega, words_dig _, words_one (by omega), by unfold lim4; simp; omega, by rw [over_big (words_dig _), nat_dig]; exact hi2, by unfold lim4; omega, trivial⟩)
      exact .done (by simp) (h1.weaken (slots := [4, 5]) (keys := []) (nx := 0) (by rfl))
    | false =>
      have h1 := rpowL2 x n (dig (x.toNat ^ i)) t i (by
        rw [e]
        exact ⟨by simp; omega, words_dig _, words_one (by omega), by unfold lim4; simp; omega, by rw [over_big (words_dig _), nat_dig]; exact hi2, by unfold lim4; omega, inR64 (by omega) (by omega), trivial⟩)
      rw [e] at h1
      exact .step h1 (ih (i + 1) false (by omega) hi2)
end

theorem dig1 : dig 1 = [(1 : Int)] := dig_one (by omega) (by omega)

theorem pow_pure (x n : Int) (hx : 0 ≤ x ∧ x < 4294967296) (hn : n ≤ 9223372036854775807) : PureTo Try.prog 11 [.v (.int .u32 x), .v (.int .i64 n)] (.tup [.sl 1 (.ints .u32 (Pow x.toNat n).1) false, .v (.int .i64 (Pow x.toNat n).2)]) := by
  unfold Pow
  by_cases h0 : n < 0
  · rw [if_pos h0]
    exact powF1 x n [] ⟨by simp; omega, trivial⟩
  · rw [if_neg h0]
    by_cases h1 : n = 0
    · subst h1
      rw [show (0 : Int).toNat = 0 from rfl, Nat.pow_zero, big_small (by omega), dig1]
      exact powF2 x 0 [] ⟨by simp, by simp, trivial⟩
    · by_cases h2 : x = 1
      · subst h2
        rw [show (1 : Int).toNat = 1 from rfl, Nat.one_pow, big_small (by omega), dig1]
        exact powF3 1 n [] ⟨by simp; omega, by simpa using h1, by simp, trivial⟩
      · by_cases h3 : x = 0
        · subst h3
          rw [show (0 : Int).toNat = 0 from rfl, Nat.zero_pow (by omega), big_small (by omega), dig_zero]
          exact powF4 0 n [] ⟨by simp; omega, by simpa using h1, by simp, by simp, trivial⟩
        · have hx2 : 2 ≤ x ∧ x < 4294967296 := by omega
          cases hb : big (x.toNat ^ n.toNat) with
          | false =>
            have := pow_ok x n hx2 hn hb n.toNat 0 (by omega)
            rw [Nat.pow_zero, dig1] at this
            exact powF5 x n _ ⟨by simp; omega, by simpa using h1, by simpa using h2, by simpa using h3, this, trivial⟩
          | true =>
            have := pow_long x n hx2 hn hb n.toNat 0 (by omega) (by rw [Nat.pow_zero]; exact big_small (by omega))
            rw [Nat.pow_zero, dig1] at this
            exact powG5 x n 3 ⟨by simp; omega, by simpa using h1, by simpa using h2, by simpa using h3, this, trivial⟩

theorem rpow_pure (x n : Int) (hx : 0 ≤ x ∧ x < 4294967296) (hn : n ≤ 9223372036854775807) : PureTo Try.prog 12 [.v (.int .u32 x), .v (.int .i64 n)] (.tup [.sl 1 (.ints .u32 (Pow x.toNat n).1) false, .v (.int .i64 (Pow x.toNat n).2)]) := by
  unfold Pow
  by_cases h0 : n < 0
  · rw [if_pos h0]
    exact rpowF1 x n [] false ⟨by simp; omega, trivial⟩
  · rw [if_neg h0]
    by_cases h2 : x < 2
    · by_cases h3 : x = 0
      · subst h3
        by_cases h1 : 0 < n
        · rw [show (0 : Int).toNat = 0 from rfl, Nat.zero_pow (by omega), big_small (by omega), dig_zero]
          exact rpowF2 0 n [] false ⟨by simp; omega, by simp, by simp, by simpa using h1, trivial⟩
        · have : n = 0 := by omega
          subst this
          rw [show (0 : Int).toNat = 0 from rfl, Nat.pow_zero, big_small (by omega), dig1]
          exact rpowF3 0 0 [] false ⟨by simp, by simp, by simp, by simp, trivial⟩
      · have : x = 1 := by omega
        subst this
        rw [show (1 : Int).toNat = 1 from rfl, Nat.one_pow, big_small (by omega), dig1]
        exact rpowF4 1 n [] false ⟨by simp; omega, by simp, by simp, trivial⟩
    · have hx2 : 2 ≤ x ∧ x < 4294967296 := by omega
      by_cases h1 : n = 0
      · subst h1
        rw [show (0 : Int).toNat = 0 from rfl, Nat.pow_zero, big_small (by omega), dig1]
        exact rpowF5 x 0 [1] true ⟨by simp, by simp; omega, .done (by simp) (rpowL3 x 0 [1] true 0 ⟨by simp, trivial⟩), trivial⟩
      · cases hb : big (x.toNat ^ n.toNat) with
        | false =>
          have := rpow_ok x n hx2 hn hb n.toNat 0 true (by omega) (by omega)
          rw [Nat.pow_zero, dig1] at this
          exact rpowF5 x n _ false ⟨by simp; omega, by simp; omega, this, trivial⟩
        | true =>
          have := rpow_long x n hx2 hn hb n.toNat 0 true (by omega) (by rw [Nat.pow_zero]; exact big_small (by omega))
          rw [Nat.pow_zero, dig1] at this
          exact rpowG5 x n 3 ⟨by simp; omega, by simp; omega, this, trivial⟩

end Go.Proofs.Bn

/- Bignum: what the law of powers calls. -/
set_option maxRecDepth 100000
namespace Go.Proofs.Bn
open Go Go.Ev

theorem awake_pure : PureTo Try.prog 14 [] (.v (.bool true)) :=
  awakeF1 ⟨words_one (by omega), words_one (by omega), by unfold lim; simp, by unfold lim; simp, by
    have : (Mul (nat [4294967295]) (nat [4294967295])).1.length = 2 := by decide +kernel
    rw [this]; omega, by
    have : (Mul (nat [4294967295]) (nat [4294967295])).1.length = 2 := by decide +kernel
    rw [this]; omega, trivial⟩

theorem pow_len (x : Nat) (n : Int) : (Pow x n).1.length ≤ 1024 := by
  unfold Pow
  split
  · simp
  · split
    · simp
    · next h => exact small_len (by simpa using h)

def sigPow : List AV → Option (AV × List Prop)
  | [.v (.int .u32 x), .v (.int .i64 n)] => some (.tup [.sl 1 (.ints .u32 (Pow x.toNat n).1) false, .v (.int .i64 (Pow x.toNat n).2)], [0 ≤ x ∧ x < 4294967296, n ≤ 9223372036854775807])
  | _ => none
def sigAwake : List AV → Option (AV × List Prop)
  | [] => some (.v (.bool true), [])
  | _ => none

def SG7 : SGT := (11, .p sigPow) :: (12, .p sigPow) :: (14, .p sigAwake) :: SG6

theorem sok7 : SigsOK Try.prog SG7 := by
  refine sigs_cons (sigs_cons (sigs_cons sok6 ?_) ?_) ?_
  · intro ys r c h hc
    unfold sigAwake at h
    split at h
    · cases h; exact awake_pure
    · cases h
  · intro ys r c h hc
    unfold sigPow at h
    split at h
    · cases h; exact rpow_pure _ _ hc.1 hc.2.1
    · cases h
  · intro ys r c h hc
    unfold sigPow at h
    split at h
    · cases h; exact pow_pure _ _ hc.1 hc.2.1
    · cases h

end Go.Proofs.Bn

/- Bignum: walks, written by the tool. -/
set_option maxRecDepth 100000
namespace Go.Proofs.Bn
open Go Go.Ev
def bnW8tab0 : ByteArray := { data := (([(0 : UInt8), (1 : UInt8), (2 : UInt8), (2 : UInt8), (3 : UInt8), (3 : UInt8), (3 : UInt8), (3 : UInt8), (4 : UInt8), (4 : UInt8), (4 : UInt8), (4 : UInt8), (4 : UInt8), (4 : UInt8), (4 : UInt8), (4 : UInt8), (5 : UInt8), (5 : UInt8), (5 : UInt8), (5 : UInt8), (5 : UInt8), (5 : UInt8), (5 : UInt8), (5 : UInt8), (5 : UInt8), (5 : UInt8), (5 : UInt8), (5 : UInt8), (5 : UInt8), (5 : UInt8), (5 : UInt8), (5 : UInt8), (6 : UInt8), (6 : UInt8), (6 : UInt8), (6 : UInt8), (6 : UInt8), (6 : UInt8), (6 : UInt8), (6 : UInt8), (6 : UInt8), (6 : UInt8), (6 : UInt8), (6 : UInt8), (6 : UInt8), (6 : UInt8), (6 : UInt8), (6 : UInt8), (6 : UInt8), (6 : UInt8), (6 : UInt8), (6 : UInt8), (6 : UInt8), (6 : UInt8), (6 : UInt8), (6 : UInt8), (6 : UInt8), (6 : UInt8), (6 : UInt8), (6 : UInt8), (6 : UInt8), (6 : UInt8), (6 : UInt8), (6 : UInt8)].append [(7 : UInt8), (7 : UInt8), (7 : UInt8), (7 : UInt8), (7 : UInt8), (7 : UInt8), (7 : UInt8), (7 : UInt8), (7 : UInt8), (7 : UInt8), (7 : UInt8), (7 : UInt8), (7 : UInt8), (7 : UInt8), (7 : UInt8), (7 : UInt8), (7 : UInt8), (7 : UInt8), (7 : UInt8), (7 : UInt8), (7 : UInt8), (7 : UInt8), (7 : UInt8), (7 : UInt8), (7 : UInt8), (7 : UInt8), (7 : UInt8), (7 : UInt8), (7 : UInt8), (7 : UInt8), (7 : UInt8), (7 : UInt8), (7 : UInt8), (7 : UInt8), (7 : UInt8), (7 : UInt8), (7 : UInt8), (7 : UInt8), (7 : UInt8), (7 : UInt8), (7 : UInt8), (7 : UInt8), (7 : UInt8), (7 : UInt8), (7 : UInt8), (7 : UInt8), (7 : UInt8), (7 : UInt8), (7 : UInt8), (7 : UInt8), (7 : UInt8), (7 : UInt8), (7 : UInt8), (7 : UInt8), (7 : UInt8), (7 : UInt8), (7 : UInt8), (7 : UInt8), (7 : UInt8), (7 : UInt8), (7 : UInt8), (7 : UInt8), (7 : UInt8), (7 : UInt8)]).append ([(8 : UInt8), (8 : UInt8), (8 : UInt8), (8 : UInt8), (8 : UInt8), (8 : UInt8), (8 : UInt8), (8 : UInt8), (8 : UInt8), (8 : UInt8), (8 : UInt8), (8 : UInt8), (8 : UInt8), (8 : UInt8), (8 : UInt8), (8 : UInt8), (8 : UInt8), (8 : UInt8), (8 : UInt8), (8 : UInt8), (8 : UInt8), (8 : UInt8), (8 : UInt8), (8 : UInt8), (8 : UInt8), (8 : UInt8), (8 : UInt8), (8 : UInt8), (8 : UInt8), (8 : UInt8), (8 : UInt8), (8 : UInt8), (8 : UInt8), (8 : UInt8), (8 : UInt8), (8 : UInt8), (8 : UInt8), (8 : UInt8), (8 : UInt8), (8 : UInt8), (8 : UInt8), (8 : UInt8), (8 : UInt8), (8 : UInt8), (8 : UInt8), (8 : UInt8), (8 : UInt8), (8 : UInt8), (8 : UInt8), (8 : UInt8), (8 : UInt8), (8 : UInt8), (8 : UInt8), (8 : UInt8), (8 : UInt8), (8 : UInt8), (8 : UInt8), (8 : UInt8), (8 : UInt8), (8 : UInt8), (8 : UInt8), (8 : UInt8), (8 : UInt8), (8 : UInt8)].append [(8 : UInt8), (8 : UInt8), (8 : UInt8), (8 : UInt8), (8 : UInt8), (8 : UInt8), (8 : UInt8), (8 : UInt8), (8 : UInt8), (8 : UInt8), (8 : UInt8), (8 : UInt8), (8 : UInt8), (8 : UInt8), (8 : UInt8), (8 : UInt8), (8 : UInt8), (8 : UInt8), (8 : UInt8), (8 : UInt8), (8 : UInt8), (8 : UInt8), (8 : UInt8), (8 : UInt8), (8 : UInt8), (8 : UInt8), (8 : UInt8), (8 : UInt8), (8 : UInt8), (8 : UInt8), (8 : UInt8), (8 : UInt8), (8 : UInt8), (8 : UInt8), (8 : UInt8), (8 : UInt8), (8 : UInt8), (8 : UInt8), (8 : UInt8), (8 : UInt8), (8 : UInt8), (8 : UInt8), (8 : UInt8), (8 : UInt8), (8 : UInt8), (8 : UInt8), (8 : UInt8), (8 : UInt8), (8 : UInt8), (8 : UInt8), (8 : UInt8), (8 : UInt8), (8 : UInt8), (8 : UInt8), (8 : UInt8), (8 : UInt8), (8 : UInt8), (8 : UInt8), (8 : UInt8), (8 : UInt8), (8 : UInt8), (8 : UInt8), (8 : UInt8), (8 : UInt8)])).toArray }
-- 3 paths
theorem atF1 (a : List Int) (ta : Bool) (i : Int) (h : AllP [decide (i < (0 : Int)) = true]) : PureTo Try.prog 47 [.sl 1 (.ints .u32 a) ta, .v (.int .i64 i)] (AV.v (.int .u64 (0 : Int))) :=
  evFn_pure hm sok7 (fn := Try.f47) rfl rfl (ti := false) (hs := [CHint.ops 1 [(1, Hint.b true)]]) (c := _) (by kernel_rfl) h
theorem atF2 (a : List Int) (ta : Bool) (i : Int) (h : AllP [decide (i < (0 : Int)) = false, decide (i ≥ (↑a.length : Int)) = true]) : PureTo Try.prog 47 [.sl 1 (.ints .u32 a) ta, .v (.int .i64 i)] (AV.v (.int .u64 (0 : Int))) :=
  evFn_pure hm sok7 (fn := Try.f47) rfl rfl (ti := false) (hs := [CHint.ops 1 [(1, Hint.b false), (6, Hint.b true)]]) (c := _) (by kernel_rfl) h
theorem atF3 (a : List Int) (ta : Bool) (i : Int) (h : AllP [decide (i < (0 : Int)) = false, decide (i ≥ (↑a.length : Int)) = false, (0 : Int) ≤ i ∧ i < (↑a.length : Int), inR IntKind.u64 (a.getD i.toNat (0 : Int))]) : PureTo Try.prog 47 [.sl 1 (.ints .u32 a) ta, .v (.int .i64 i)] (AV.v (.int .u64 (a.getD i.toNat (0 : Int)))) :=
  evFn_pure hm sok7 (fn := Try.f47) rfl rfl (ti := false) (hs := [CHint.ops 1 [(1, Hint.b false), (6, Hint.b false)]]) (c := _) (by kernel_rfl) h
-- 2 paths
theorem wordF1 (a : List Int) (ta : Bool) (i : Int) (h : AllP [decide (i < (↑a.length : Int)) = true, (0 : Int) ≤ i ∧ i < (↑a.length : Int), inR IntKind.u64 (a.getD i.toNat (0 : Int))]) : PureTo Try.prog 44 [.sl 1 (.ints .u32 a) ta, .v (.int .i64 i)] (AV.v (.int .u64 (a.getD i.toNat (0 : Int)))) :=
  evFn_pure hm sok7 (fn := Try.f44) rfl rfl (ti := false) (hs := [CHint.ops 1 [(3, Hint.b true)]]) (c := _) (by kernel_rfl) h
theorem wordF2 (a : List Int) (ta : Bool) (i : Int) (h : AllP [decide (i < (↑a.length : Int)) = false]) : PureTo Try.prog 44 [.sl 1 (.ints .u32 a) ta, .v (.int .i64 i)] (AV.v (.int .u64 (0 : Int))) :=
  evFn_pure hm sok7 (fn := Try.f44) rfl rfl (ti := false) (hs := [CHint.ops 1 [(3, Hint.b false)]]) (c := _) (by kernel_rfl) h
-- 1 paths
theorem cloneF1 (a : List Int) (ta : Bool) (h : AllP [0 < a.length, 1 ≤ a.length, ([] ++ a).length * 4 ≤ 140737488355328, ([] ++ a).length = ([] ++ a).length, 0 ≤ ([] ++ a).length]) : PureTo Try.prog 42 [.sl 1 (.ints .u32 a) ta] (AV.sl 1 (.ints .u32 ([] ++ a)) false) :=
  evFn_pure hm sok7 (fn := Try.f42) rfl rfl (ti := false) (hs := []) (c := _) (by kernel_rfl) h
-- 1 paths
theorem cloneN1  (h : AllP []) : PureTo Try.prog 42 [.v (.slice none 0 0)] (AV.sl 1 (.ints .u32 []) false) :=
  evFn_pure hm sok7 (fn := Try.f42) rfl rfl (ti := false) (hs := []) (c := _) (by kernel_rfl) h
-- 1 paths
theorem cloneE1  (h : AllP []) : PureTo Try.prog 42 [.sle] (AV.sl 1 (.ints .u32 []) false) :=
  evFn_pure hm sok7 (fn := Try.f42) rfl rfl (ti := false) (hs := []) (c := _) (by kernel_rfl) h
-- 4 paths
theorem len32F1 (x : Int) (h : AllP [decide (x ≥ (65536 : Int)) = true, (0 : Int) ≤ (16 : Int), decide (x / (65536 : Int) ≥ (256 : Int)) = true, (0 : Int) ≤ (8 : Int), inR IntKind.i64 (24 : Int), (0 : Int) ≤ x / (65536 : Int) / (256 : Int) % (256 : Int) ∧ x / (65536 : Int) / (256 : Int) % (256 : Int) < (256 : Int), inR IntKind.i64 (byteAt bnW8tab0 (x / (65536 : Int) / (256 : Int) % (256 : Int)).toNat), inR IntKind.i64 ((24 : Int) + byteAt bnW8tab0 (x / (65536 : Int) / (256 : Int) % (256 : Int)).toNat)]) : PureTo Try.prog 45 [.v (.int .u32 x)] (AV.v (.int .i64 ((24 : Int) + byteAt bnW8tab0 (x / (65536 : Int) / (256 : Int) % (256 : Int)).toNat))) :=
  evFn_pure hm sok7 (fn := Try.f45) rfl rfl (ti := false) (hs := [CHint.ops 1 [(1, Hint.b true)], CHint.ops 4 [(1, Hint.b true)]]) (c := _) (by kernel_rfl) h
theorem len32F2 (x : Int) (h : AllP [decide (x ≥ (65536 : Int)) = true, (0 : Int) ≤ (16 : Int), decide (x / (65536 : Int) ≥ (256 : Int)) = false, (0 : Int) ≤ x / (65536 : Int) % (256 : Int) ∧ x / (65536 : Int) % (256 : Int) < (256 : Int), inR IntKind.i64 (byteAt bnW8tab0 (x / (65536 : Int) % (256 : Int)).toNat), inR IntKind.i64 ((16 : Int) + byteAt bnW8tab0 (x / (65536 : Int) % (256 : Int)).toNat)]) : PureTo Try.prog 45 [.v (.int .u32 x)] (AV.v (.int .i64 ((16 : Int) + byteAt bnW8tab0 (x / (65536 : Int) % (256 : Int)).toNat))) :=
  evFn_pure hm sok7 (fn := Try.f45) rfl rfl (ti := false) (hs := [CHint.ops 1 [(1, Hint.b true)], CHint.ops 4 [(1, Hint.b false)]]) (c := _) (by kernel_rfl) h
theorem len32F3 (x : Int) (h : AllP [decide (x ≥ (65536 : Int)) = false, decide (x ≥ (256 : Int)) = true, (0 : Int) ≤ (8 : Int), inR IntKind.i64 (8 : Int), (0 : Int) ≤ x / (256 : Int) % (256 : Int) ∧ x / (256 : Int) % (256 : Int) < (256 : Int), inR IntKind.i64 (byteAt bnW8tab0 (x / (256 : Int) % (256 : Int)).toNat), inR IntKind.i64 ((8 : Int) + byteAt bnW8tab0 (x / (256 : Int) % (256 : Int)).toNat)]) : PureTo Try.prog 45 [.v (.int .u32 x)] (AV.v (.int .i64 ((8 : Int) + byteAt bnW8tab0 (x / (256 : Int) % (256 : Int)).toNat))) :=
  evFn_pure hm sok7 (fn := Try.f45) rfl rfl (ti := false) (hs := [CHint.ops 1 [(1, Hint.b false)], CHint.ops 4 [(1, Hint.b true)]]) (c := _) (by kernel_rfl) h
theorem len32F4 (x : Int) (h : AllP [decide (x ≥ (65536 : Int)) = false, decide (x ≥ (256 : Int)) = false, (0 : Int) ≤ x % (256 : Int) ∧ x % (256 : Int) < (256 : Int), inR IntKind.i64 (byteAt bnW8tab0 (x % (256 : Int)).toNat), inR IntKind.i64 ((0 : Int) + byteAt bnW8tab0 (x % (256 : Int)).toNat)]) : PureTo Try.prog 45 [.v (.int .u32 x)] (AV.v (.int .i64 ((0 : Int) + byteAt bnW8tab0 (x % (256 : Int)).toNat))) :=
  evFn_pure hm sok7 (fn := Try.f45) rfl rfl (ti := false) (hs := [CHint.ops 1 [(1, Hint.b false)], CHint.ops 4 [(1, Hint.b false)]]) (c := _) (by kernel_rfl) h
-- 1 paths
/- DEAD 1 hs []
-- conds []
region 1 op 1: refused: { dst := some 4,
  op :=
    Op.call
      { callee := Callee.value (Operand.func 45), args := #[Operand.tmp 3], argTypes := #[22] },
  type := 3, pos := "bits.go:34", after := #[{ on := 0, ground := Ground.data }], guard := none }
  state { n := 6,
  fr :=
    [(3, AV.v (.int .u32 x)), (2, AV.v (.int .i64 (0 : Int))),
      (0, AV.v (.int .u32 x))],
  hp := [], nx := 1 } -/
-- 1 paths
theorem ofF1 (x : Int) (h : AllP [(0 : Int) ≤ (32 : Int), [x % (4294967296 : Int), x / (4294967296 : Int) % (4294967296 : Int)].length < lim]) : PureTo Try.prog 18 [.v (.int .u64 x)] (AV.sl 1 (.ints .u32 (norm [x % (4294967296 : Int), x / (4294967296 : Int) % (4294967296 : Int)])) true) :=
  evFn_pure hm sok7 (fn := Try.f18) rfl rfl (ti := true) (hs := []) (c := _) (by kernel_rfl) h
-- 1 paths
theorem rofF1 (x : Int) (h : AllP [(0 : Int) ≤ (32 : Int), [x % (4294967296 : Int), x / (4294967296 : Int) % (4294967296 : Int)].length ≤ lim4]) : PureTo Try.prog 19 [.v (.int .u64 x)] (AV.sl 1 (.ints .u32 (norm [x % (4294967296 : Int), x / (4294967296 : Int) % (4294967296 : Int)])) false) :=
  evFn_pure hm sok7 (fn := Try.f19) rfl rfl (ti := false) (hs := []) (c := _) (by kernel_rfl) h
-- 4 paths
theorem cmpL0_1 (a b : List Int) (ta tb : Bool) (x0 : Int) (h : AllP [decide (x0 ≥ (0 : Int)) = true, (0 : Int) ≤ x0 ∧ x0 < (↑(norm a).length : Int), (0 : Int) ≤ x0 ∧ x0 < (↑(norm b).length : Int), ((norm a).getD x0.toNat (0 : Int) != (norm b).getD x0.toNat (0 : Int)) = true, (0 : Int) ≤ x0 ∧ x0 < (↑(norm a).length : Int), (0 : Int) ≤ x0 ∧ x0 < (↑(norm b).length : Int), decide ((norm a).getD x0.toNat (0 : Int) < (norm b).getD x0.toNat (0 : Int)) = true]) : To Try.prog (loopAt Try.f20 0) ({ n := 45, fr := [(0, AV.sl 1 (.ints .u32 (norm a)) true), (1, AV.sl 1 (.ints .u32 (norm b)) true), (5, AV.v (.int .i64 x0))], hp := [], nx := 0 }) (Exit.ret) { n := 45, fr := [(4, AV.v (.int .i64 (-1 : Int)))], hp := [], nx := 0 } :=
  evW_to hm sok7 (hs := [CHint.ops 7 [(1, Hint.b true)], CHint.ops 9 [(8, Hint.b true)], CHint.ops 10 [(8, Hint.b true)]]) (slots := [4]) (keys := []) (nx := 0) (c := _) (by kernel_rfl) h
theorem cmpL0_2 (a b : List Int) (ta tb : Bool) (x0 : Int) (h : AllP [decide (x0 ≥ (0 : Int)) = true, (0 : Int) ≤ x0 ∧ x0 < (↑(norm a).length : Int), (0 : Int) ≤ x0 ∧ x0 < (↑(norm b).length : Int), ((norm a).getD x0.toNat (0 : Int) != (norm b).getD x0.toNat (0 : Int)) = true, (0 : Int) ≤ x0 ∧ x0 < (↑(norm a).length : Int), (0 : Int) ≤ x0 ∧ x0 < (↑(norm b).length : Int), decide ((norm a).getD x0.toNat (0 : Int) < (norm b).getD x0.toNat (0 : Int)) = false]) : To Try.prog (loopAt Try.f20 0) ({ n := 45, fr := [(0, AV.sl 1 (.ints .u32 (norm a)) true), (1, AV.sl 1 (.ints .u32 (norm b)) true), (5, AV.v (.int .i64 x0))], hp := [], nx := 0 }) (Exit.ret) { n := 45, fr := [(4, AV.v (.int .i64 (1 : Int)))], hp := [], nx := 0 } :=
  evW_to hm sok7 (hs := [CHint.ops 7 [(1, Hint.b true)], CHint.ops 9 [(8, Hint.b true)], CHint.ops 10 [(8, Hint.b false)]]) (slots := [4]) (keys := []) (nx := 0) (c := _) (by kernel_rfl) h
theorem cmpL0_3 (a b : List Int) (ta tb : Bool) (x0 : Int) (h : AllP [decide (x0 ≥ (0 : Int)) = true, (0 : Int) ≤ x0 ∧ x0 < (↑(norm a).length : Int), (0 : Int) ≤ x0 ∧ x0 < (↑(norm b).length : Int), ((norm a).getD x0.toNat (0 : Int) != (norm b).getD x0.toNat (0 : Int)) = false, inR IntKind.i64 (x0 - (1 : Int))]) : To Try.prog (loopAt Try.f20 0) ({ n := 45, fr := [(0, AV.sl 1 (.ints .u32 (norm a)) true), (1, AV.sl 1 (.ints .u32 (norm b)) true), (5, AV.v (.int .i64 x0))], hp := [], nx := 0 }) (.normal) { n := 45, fr := [(0, AV.sl 1 (.ints .u32 (norm a)) true), (1, AV.sl 1 (.ints .u32 (norm b)) true), (5, AV.v (.int .i64 (x0 - (1 : Int))))], hp := [], nx := 0 } :=
  evW_to hm sok7 (hs := [CHint.ops 7 [(1, Hint.b true)], CHint.ops 9 [(8, Hint.b false)]]) (slots := [0, 1, 5]) (keys := []) (nx := 0) (c := _) (by kernel_rfl) h
theorem cmpL0_4 (a b : List Int) (ta tb : Bool) (x0 : Int) (h : AllP [decide (x0 ≥ (0 : Int)) = false]) : To Try.prog (loopAt Try.f20 0) ({ n := 45, fr := [(0, AV.sl 1 (.ints .u32 (norm a)) true), (1, AV.sl 1 (.ints .u32 (norm b)) true), (5, AV.v (.int .i64 x0))], hp := [], nx := 0 }) (Exit.exit 0) { n := 45, fr := [], hp := [], nx := 0 } :=
  evW_to hm sok7 (hs := [CHint.ops 7 [(1, Hint.b false)]]) (slots := []) (keys := []) (nx := 0) (c := _) (by kernel_rfl) h
-- 4 paths
theorem cmpF1 (a b : List Int) (ta tb : Bool) (x1 : Int) (h : AllP [a.length < lim, b.length < lim, ((↑(norm a).length : Int) != (↑(norm b).length : Int)) = true, decide ((↑(norm a).length : Int) < (↑(norm b).length : Int)) = true]) : PureTo Try.prog 20 [.sl 1 (.ints .u32 a) ta, .sl 1 (.ints .u32 b) tb] (AV.v (.int .i64 (-1 : Int))) :=
  evFn_pure hm sok7 (fn := Try.f20) rfl rfl (ti := false) (hs := [CHint.ops 2 [(4, Hint.b true)], CHint.ops 3 [(4, Hint.b true)]]) (c := _) (by kernel_rfl) h
theorem cmpF2 (a b : List Int) (ta tb : Bool) (x1 : Int) (h : AllP [a.length < lim, b.length < lim, ((↑(norm a).length : Int) != (↑(norm b).length : Int)) = true, decide ((↑(norm a).length : Int) < (↑(norm b).length : Int)) = false]) : PureTo Try.prog 20 [.sl 1 (.ints .u32 a) ta, .sl 1 (.ints .u32 b) tb] (AV.v (.int .i64 (1 : Int))) :=
  evFn_pure hm sok7 (fn := Try.f20) rfl rfl (ti := false) (hs := [CHint.ops 2 [(4, Hint.b true)], CHint.ops 3 [(4, Hint.b false)]]) (c := _) (by kernel_rfl) h
theorem cmpF3 (a b : List Int) (ta tb : Bool) (x1 : Int) (h : AllP [a.length < lim, b.length < lim, ((↑(norm a).length : Int) != (↑(norm b).length : Int)) = false, inR IntKind.i64 ((↑(norm a).length : Int) - (1 : Int)), LoopTo Try.prog (loopAt Try.f20 0) { n := 45, fr := [(0, AV.sl 1 (.ints .u32 (norm a)) true), (1, AV.sl 1 (.ints .u32 (norm b)) true), (5, AV.v (.int .i64 ((↑(norm a).length : Int) - (1 : Int))))], hp := [], nx := 0 } (Exit.exit 0) { n := 45, fr := [], hp := [], nx := 0 }]) : PureTo Try.prog 20 [.sl 1 (.ints .u32 a) ta, .sl 1 (.ints .u32 b) tb] (AV.v (.int .i64 (0 : Int))) :=
  evFn_pure hm sok7 (fn := Try.f20) rfl rfl (ti := false) (hs := [CHint.ops 2 [(4, Hint.b false)], CHint.loop [0, 1, 5] [] 0 (Exit.exit 0) { n := 45, fr := [], hp := [], nx := 0 }]) (c := _) (by kernel_rfl) h
theorem cmpF4 (a b : List Int) (ta tb : Bool) (x1 : Int) (h : AllP [a.length < lim, b.length < lim, ((↑(norm a).length : Int) != (↑(norm b).length : Int)) = false, inR IntKind.i64 ((↑(norm a).length : Int) - (1 : Int)), LoopTo Try.prog (loopAt Try.f20 0) { n := 45, fr := [(0, AV.sl 1 (.ints .u32 (norm a)) true), (1, AV.sl 1 (.ints .u32 (norm b)) true), (5, AV.v (.int .i64 ((↑(norm a).length : Int) - (1 : Int))))], hp := [], nx := 0 } Exit.ret { n := 45, fr := [(4, AV.v (.int .i64 x1))], hp := [], nx := 0 }]) : PureTo Try.prog 20 [.sl 1 (.ints .u32 a) ta, .sl 1 (.ints .u32 b) tb] (AV.v (.int .i64 x1)) :=
  evFn_pure hm sok7 (fn := Try.f20) rfl rfl (ti := false) (hs := [CHint.ops 2 [(4, Hint.b false)], CHint.loop [0, 1, 5] [] 0 Exit.ret { n := 45, fr := [(4, AV.v (.int .i64 x1))], hp := [], nx := 0 }]) (c := _) (by kernel_rfl) h
-- 2 paths
theorem bitsF1 (a : List Int) (ta : Bool) (h : AllP [a.length < lim, ((↑(norm a).length : Int) == (0 : Int)) = true]) : PureTo Try.prog 22 [.sl 1 (.ints .u32 a) ta] (AV.v (.int .i64 (0 : Int))) :=
  evFn_pure hm sok7 (fn := Try.f22) rfl rfl (ti := false) (hs := [CHint.ops 2 [(2, Hint.b true)]]) (c := _) (by kernel_rfl) h
/- DEAD 2 hs [CHint.ops 2 [(2, Hint.b false)]]
-- conds [a.length < lim, ((↑(norm a).length : Int) == (0 : Int)) = false, inR IntKind.i64 ((↑(norm a).length : Int) - (1 : Int)), inR IntKind.i64 ((32 : Int) * ((↑(norm a).length : Int) - (1 : Int))), inR IntKind.i64 ((↑(norm a).length : Int) - (1 : Int)), (0 : Int) ≤ (↑(norm a).length : Int) - (1 : Int) ∧ (↑(norm a).length : Int) - (1 : Int) < (↑(norm a).length : Int)]
region 4 op 10: refused: { dst := some 18,
  op :=
    Op.call
      { callee := Callee.value (Operand.func 45), args := #[Operand.tmp 17],
        argTypes := #[22] },
  type := 3, pos := "bignum.go:67", after := #[{ on := 9, ground := Ground.data }], guard := none }
  state { n := 20,
  fr :=
    [(17, AV.v (.int .u32 ((norm a).getD ((↑(norm a).length : Int) - (1 : Int)).toNat (0 : Int)))),
      (16,
        AV.ip [AV.v (.int .u32 ((norm a).getD ((↑(norm a).length : Int) - (1 : Int)).toNat (0 : Int)))]),
      (15, AV.v (.int .i64 ((↑(norm a).length : Int) - (1 : Int)))),
      (14, AV.v (.int .i64 (↑(norm a).length : Int))),
      (13, AV.sl 1 (.ints .u32 (norm a)) true),
      (12, AV.sl 1 (.ints .u32 (norm a)) true),
      (11, AV.v (.int .i64 ((32 : Int) * ((↑(norm a).length : Int) - (1 : Int))))),
      (10, AV.v (.int .i64 ((↑(norm a).length : Int) - (1 : Int)))),
      (9, AV.v (.int .i64 (↑(norm a).length : Int))),
      (8, AV.sl 1 (.ints .u32 (norm a)) true), (7, AV.v (.bool false)),
      (6, AV.v (.int .i64 (↑(norm a).length : Int))),
      (5, AV.sl 1 (.ints .u32 (norm a)) true),
      (0, AV.sl 1 (.ints .u32 (norm a)) true),
      (4, AV.sl 1 (.ints .u32 (norm a)) true),
      (3, AV.sl 1 (.ints .u32 a) ta), (2, AV.v (.int .i64 (0 : Int)))],
  hp := [], nx := 7 } -/
-- 2 paths
theorem rbitsL0_1 (a : List Int) (ta : Bool) (x0 : Int) (x1 : Int) (h : AllP [decide (x1 > (0 : Int)) = true, inR IntKind.i64 (x0 + (1 : Int)), (0 : Int) ≤ (1 : Int)]) : To Try.prog (loopAt Try.f23 0) ({ n := 28, fr := [(4, AV.v (.int .i64 x0)), (5, AV.v (.int .u32 x1))], hp := [], nx := 0 }) (.normal) { n := 28, fr := [(4, AV.v (.int .i64 (x0 + (1 : Int)))), (5, AV.v (.int .u32 (x1 / (2 : Int))))], hp := [], nx := 0 } :=
  evW_to hm sok7 (hs := [CHint.ops 6 [(1, Hint.b true)]]) (slots := [4, 5]) (keys := []) (nx := 0) (c := _) (by kernel_rfl) h
theorem rbitsL0_2 (a : List Int) (ta : Bool) (x0 : Int) (x1 : Int) (h : AllP [decide (x1 > (0 : Int)) = false]) : To Try.prog (loopAt Try.f23 0) ({ n := 28, fr := [(4, AV.v (.int .i64 x0)), (5, AV.v (.int .u32 x1))], hp := [], nx := 0 }) (Exit.exit 0) { n := 28, fr := [(4, AV.v (.int .i64 x0))], hp := [], nx := 0 } :=
  evW_to hm sok7 (hs := [CHint.ops 6 [(1, Hint.b false)]]) (slots := [4]) (keys := []) (nx := 0) (c := _) (by kernel_rfl) h
-- 2 paths
theorem rbitsF1 (a : List Int) (ta : Bool) (x2 : Int) (h : AllP [a.length ≤ lim4, ((↑(norm a).length : Int) == (0 : Int)) = true]) : PureTo Try.prog 23 [.sl 1 (.ints .u32 a) ta] (AV.v (.int .i64 (0 : Int))) :=
  evFn_pure hm sok7 (fn := Try.f23) rfl rfl (ti := false) (hs := [CHint.ops 2 [(2, Hint.b true)]]) (c := _) (by kernel_rfl) h
theorem rbitsF2 (a : List Int) (ta : Bool) (x2 : Int) (h : AllP [a.length ≤ lim4, ((↑(norm a).length : Int) == (0 : Int)) = false, inR IntKind.i64 ((↑(norm a).length : Int) - (1 : Int)), inR IntKind.i64 ((32 : Int) * ((↑(norm a).length : Int) - (1 : Int))), inR IntKind.i64 ((↑(norm a).length : Int) - (1 : Int)), (0 : Int) ≤ (↑(norm a).length : Int) - (1 : Int) ∧ (↑(norm a).length : Int) - (1 : Int) < (↑(norm a).length : Int), LoopTo Try.prog (loopAt Try.f23 0) { n := 28, fr := [(4, AV.v (.int .i64 ((32 : Int) * ((↑(norm a).length : Int) - (1 : Int))))), (5, AV.v (.int .u32 ((norm a).getD ((↑(norm a).length : Int) - (1 : Int)).toNat (0 : Int))))], hp := [], nx := 0 } (Exit.exit 0) { n := 28, fr := [(4, AV.v (.int .i64 x2))], hp := [], nx := 0 }]) : PureTo Try.prog 23 [.sl 1 (.ints .u32 a) ta] (AV.v (.int .i64 x2)) :=
  evFn_pure hm sok7 (fn := Try.f23) rfl rfl (ti := false) (hs := [CHint.ops 2 [(2, Hint.b false)], CHint.loop [4, 5] [] 0 (Exit.exit 0) { n := 28, fr := [(4, AV.v (.int .i64 x2))], hp := [], nx := 0 }]) (c := _) (by kernel_rfl) h
-- 2 paths
/- DEAD 1 hs [CHint.ops 5 [(1, Hint.b true)]]
-- conds [decide (x0 ≥ (0 : Int)) = true]
region 7 op 2: refused: { dst := some 23,
  op :=
    Op.call
      { callee := Callee.value (Operand.func 44), args := #[Operand.tmp 21, Operand.tmp 22],
        argTypes := #[23, 3] },
  type := 30, pos := "ref.go:41",
  after := #[{ on := 0, ground := Ground.data }, { on := 1, ground := Ground.data }], guard := none }
  state { n := 35,
  fr :=
    [(22, AV.v (.int .i64 x0)), (21, AV.sl 1 (.ints .u32 a) ta),
      (18, AV.v (.bool true)), (17, AV.v (.int .i64 x0)),
      (0, AV.sl 1 (.ints .u32 a) ta),
      (1, AV.sl 1 (.ints .u32 b) tb), (6, AV.v (.int .i64 x0))],
  hp := [], nx := 2 } -/
theorem rcmpL0_2 (a b : List Int) (ta tb : Bool) (x0 : Int) (h : AllP [decide (x0 ≥ (0 : Int)) = false]) : To Try.prog (loopAt Try.f21 0) ({ n := 35, fr := [(0, AV.sl 1 (.ints .u32 a) ta), (1, AV.sl 1 (.ints .u32 b) tb), (6, AV.v (.int .i64 x0))], hp := [], nx := 0 }) (Exit.exit 0) { n := 35, fr := [], hp := [], nx := 0 } :=
  evW_to hm sok7 (hs := [CHint.ops 5 [(1, Hint.b false)]]) (slots := []) (keys := []) (nx := 0) (c := _) (by kernel_rfl) h
-- 4 paths
theorem rcmpF1 (a b : List Int) (ta tb : Bool) (x1 : Int) (h : AllP [decide ((↑b.length : Int) > (↑a.length : Int)) = true, inR IntKind.i64 ((↑b.length : Int) - (1 : Int)), LoopTo Try.prog (loopAt Try.f21 0) { n := 35, fr := [(0, AV.sl 1 (.ints .u32 a) ta), (1, AV.sl 1 (.ints .u32 b) tb), (6, AV.v (.int .i64 ((↑b.length : Int) - (1 : Int))))], hp := [], nx := 0 } (Exit.exit 0) { n := 35, fr := [], hp := [], nx := 0 }]) : PureTo Try.prog 21 [.sl 1 (.ints .u32 a) ta, .sl 1 (.ints .u32 b) tb] (AV.v (.int .i64 (0 : Int))) :=
  evFn_pure hm sok7 (fn := Try.f21) rfl rfl (ti := false) (hs := [CHint.ops 2 [(3, Hint.b true)], CHint.loop [0, 1, 6] [] 0 (Exit.exit 0) { n := 35, fr := [], hp := [], nx := 0 }]) (c := _) (by kernel_rfl) h
theorem rcmpF2 (a b : List Int) (ta tb : Bool) (x1 : Int) (h : AllP [decide ((↑b.length : Int) > (↑a.length : Int)) = true, inR IntKind.i64 ((↑b.length : Int) - (1 : Int)), LoopTo Try.prog (loopAt Try.f21 0) { n := 35, fr := [(0, AV.sl 1 (.ints .u32 a) ta), (1, AV.sl 1 (.ints .u32 b) tb), (6, AV.v (.int .i64 ((↑b.length : Int) - (1 : Int))))], hp := [], nx := 0 } Exit.ret { n := 35, fr := [(4, AV.v (.int .i64 x1))], hp := [], nx := 0 }]) : PureTo Try.prog 21 [.sl 1 (.ints .u32 a) ta, .sl 1 (.ints .u32 b) tb] (AV.v (.int .i64 x1)) :=
  evFn_pure hm sok7 (fn := Try.f21) rfl rfl (ti := false) (hs := [CHint.ops 2 [(3, Hint.b true)], CHint.loop [0, 1, 6] [] 0 Exit.ret { n := 35, fr := [(4, AV.v (.int .i64 x1))], hp := [], nx := 0 }]) (c := _) (by kernel_rfl) h
theorem rcmpF3 (a b : List Int) (ta tb : Bool) (x1 : Int) (h : AllP [decide ((↑b.length : Int) > (↑a.length : Int)) = false, inR IntKind.i64 ((↑a.length : Int) - (1 : Int)), LoopTo Try.prog (loopAt Try.f21 0) { n := 35, fr := [(0, AV.sl 1 (.ints .u32 a) ta), (1, AV.sl 1 (.ints .u32 b) tb), (6, AV.v (.int .i64 ((↑a.length : Int) - (1 : Int))))], hp := [], nx := 0 } (Exit.exit 0) { n := 35, fr := [], hp := [], nx := 0 }]) : PureTo Try.prog 21 [.sl 1 (.ints .u32 a) ta, .sl 1 (.ints .u32 b) tb] (AV.v (.int .i64 (0 : Int))) :=
  evFn_pure hm sok7 (fn := Try.f21) rfl rfl (ti := false) (hs := [CHint.ops 2 [(3, Hint.b false)], CHint.loop [0, 1, 6] [] 0 (Exit.exit 0) { n := 35, fr := [], hp := [], nx := 0 }]) (c := _) (by kernel_rfl) h
theorem rcmpF4 (a b : List Int) (ta tb : Bool) (x1 : Int) (h : AllP [decide ((↑b.length : Int) > (↑a.length : Int)) = false, inR IntKind.i64 ((↑a.length : Int) - (1 : Int)), LoopTo Try.prog (loopAt Try.f21 0) { n := 35, fr := [(0, AV.sl 1 (.ints .u32 a) ta), (1, AV.sl 1 (.ints .u32 b) tb), (6, AV.v (.int .i64 ((↑a.length : Int) - (1 : Int))))], hp := [], nx := 0 } Exit.ret { n := 35, fr := [(4, AV.v (.int .i64 x1))], hp := [], nx := 0 }]) : PureTo Try.prog 21 [.sl 1 (.ints .u32 a) ta, .sl 1 (.ints .u32 b) tb] (AV.v (.int .i64 x1)) :=
  evFn_pure hm sok7 (fn := Try.f21) rfl rfl (ti := false) (hs := [CHint.ops 2 [(3, Hint.b false)], CHint.loop [0, 1, 6] [] 0 Exit.ret { n := 35, fr := [(4, AV.v (.int .i64 x1))], hp := [], nx := 0 }]) (c := _) (by kernel_rfl) h
end Go.Proofs.Bn

/- Naturals' bits and order: plain law. -/
set_option maxRecDepth 100000
namespace Go.Proofs.Bn
open Go Go.Ev

/-- a word; 0 behind the end, and ahead of it -/
def wd (a : List Int) (i : Int) : Int := if 0 ≤ i then a.getD i.toNat 0 else 0

theorem wd_nat (a : List Int) (i : Nat) : wd a i = a.getD i 0 := by
  unfold wd
  rw [if_pos (by omega), Int.toNat_natCast]

theorem wd_bound {a : List Int} (h : Words a) (i : Int) : 0 ≤ wd a i ∧ wd a i < 4294967296 := by
  unfold wd
  split
  · exact words_getD h _
  · omega

theorem getD_out {a : List Int} {i : Nat} (h : a.length ≤ i) : a.getD i 0 = 0 := by
  rw [List.getD_eq_getElem?_getD, List.getElem?_eq_none h]
  rfl

/-- how many bits -/
def bl (n : Nat) : Nat := if n = 0 then 0 else n.log2 + 1

theorem bl_le (n k : Nat) : bl n ≤ k ↔ n < 2 ^ k := by
  unfold bl
  split
  · next h => subst h; have := Nat.pow_pos (n := k) (show 0 < 2 by omega); omega
  · next h => rw [← Nat.log2_lt h]; omega

theorem bl_shift (n k : Nat) : bl (n / 2 ^ k) = bl n - k := by
  have h : ∀ j, bl (n / 2 ^ k) ≤ j ↔ bl n ≤ j + k := fun j => by
    rw [bl_le, bl_le, Nat.div_lt_iff_lt_mul (Nat.pow_pos (by omega)), Nat.pow_add]
  have h1 := (h (bl (n / 2 ^ k))).1 (Nat.le_refl _)
  have h2 := (h (bl n - k)).2 (by omega)
  omega

theorem bl_zero {n : Nat} : bl n = 0 ↔ n = 0 := by
  unfold bl
  split <;> omega

/-- the number of the first n words -/
def natW (a : List Int) : Nat → Nat
  | 0 => 0
  | n + 1 => natW a n + (a.getD n 0).toNat * 4294967296 ^ n

theorem natW_lt {a : List Int} (h : Words a) (n : Nat) : natW a n < 4294967296 ^ n := by
  induction n with
  | zero => simp [natW]
  | succ n ih =>
    have := words_getD h n
    have h2 : (a.getD n 0).toNat + 1 ≤ 4294967296 := by omega
    have h3 := Nat.mul_le_mul_right (4294967296 ^ n) h2
    rw [Nat.add_mul, Nat.one_mul] at h3
    rw [natW, Nat.pow_succ, Nat.mul_comm (4294967296 ^ n) 4294967296]
    omega

theorem natW_take (a : List Int) (n : Nat) (h : n ≤ a.length) : natW a n = nat (a.take n) := by
  induction n with
  | zero => rfl
  | succ n ih =>
    have hn : n < a.length := by omega
    rw [natW, ih (by omega), List.take_succ_eq_append_getElem hn, nat_append, List.length_take, Nat.min_eq_left (by omega)]
    simp [nat, List.getD_eq_getElem?_getD, hn, Nat.mul_comm]

theorem natW_all (a : List Int) (n : Nat) (h : a.length ≤ n) : natW a n = nat a := by
  induction n with
  | zero =>
    have : a = [] := List.eq_nil_of_length_eq_zero (by omega)
    subst this
    rfl
  | succ n ih =>
    rcases Nat.lt_or_ge n a.length with h1 | h1
    · have e : a.length = n + 1 := by omega
      rw [natW_take a (n + 1) (by omega), ← e, List.take_length]
    · rw [natW, ih h1]
      have : a.getD n 0 = 0 := by simp [List.getD_eq_getElem?_getD, h1]
      rw [this]
      simp

/-- the order of two numbers -/
def cmpN (m n : Nat) : Int := if m < n then -1 else if n < m then 1 else 0

theorem cmp_step {a b : List Int} (ha : Words a) (hb : Words b) (n : Nat) : cmpN (natW a (n + 1)) (natW b (n + 1)) = if a.getD n 0 < b.getD n 0 then -1 else if b.getD n 0 < a.getD n 0 then 1 else cmpN (natW a n) (natW b n) := by
  have h1 := natW_lt ha n
  have h2 := natW_lt hb n
  have h3 := words_getD ha n
  have h4 := words_getD hb n
  have key : ∀ x y p q B : Nat, p < B → q < B → x < y → p + x * B < q + y * B := fun x y p q B hp hq hxy => by
    have := Nat.mul_le_mul_right B (show x + 1 ≤ y by omega)
    rw [Nat.add_mul, Nat.one_mul] at this
    omega
  simp only [natW]
  generalize hx : a.getD n 0 = x at *
  generalize hy : b.getD n 0 = y at *
  by_cases c1 : x < y
  · rw [if_pos c1]
    have := key x.toNat y.toNat _ _ _ h1 h2 (by omega)
    unfold cmpN
    rw [if_pos this]
  · rw [if_neg c1]
    by_cases c2 : y < x
    · rw [if_pos c2]
      have := key y.toNat x.toNat _ _ _ h2 h1 (by omega)
      unfold cmpN
      rw [if_neg (by omega), if_pos this]
    · rw [if_neg c2]
      have e : x = y := by omega
      subst e
      unfold cmpN
      have i1 : natW a n + x.toNat * 4294967296 ^ n < natW b n + x.toNat * 4294967296 ^ n ↔ natW a n < natW b n := by omega
      have i2 : natW b n + x.toNat * 4294967296 ^ n < natW a n + x.toNat * 4294967296 ^ n ↔ natW b n < natW a n := by omega
      simp only [i1, i2]

theorem norm_len {a : List Int} (h : Words a) (k : Nat) : k < (norm a).length ↔ 4294967296 ^ k ≤ nat a := by
  rw [norm_eq h, dig_len]

theorem cmp_len {a b : List Int} (ha : Words a) (hb : Words b) (h : (norm a).length < (norm b).length) : nat a < nat b := by
  have h1 := (norm_len hb (norm a).length).1 h
  have h2 : ¬ (norm a).length < (norm a).length := by omega
  rw [norm_len ha] at h2
  omega

/-- a number's bits by its words -/
theorem bl_words {a : List Int} (h : Words a) (hl : (norm a).length ≠ 0) : bl (nat a) = 32 * ((norm a).length - 1) + bl ((norm a).getD ((norm a).length - 1) 0).toNat ∧ (norm a).getD ((norm a).length - 1) 0 ≠ 0 := by
  have hw := words_norm h
  have hn : (norm a).length = cutN a a.length := norm_length a
  have hlast : (norm a).getD ((norm a).length - 1) 0 ≠ 0 := by
    have h1 := cutN_last a a.length (by omega)
    rw [← hn] at h1
    have h2 := cutN_le a a.length
    have e : (norm a).getD ((norm a).length - 1) 0 = a.getD ((norm a).length - 1) 0 := by
      have : (norm a).length - 1 < (norm a).length := by omega
      unfold norm at this ⊢
      rw [List.getD_eq_getElem?_getD, List.getD_eq_getElem?_getD, List.getElem?_take, if_pos (by simp at this ⊢; omega)]
    rw [e]
    exact h1
  refine ⟨?_, hlast⟩
  have e1 : natW (norm a) (norm a).length = nat a := by rw [natW_all _ _ (Nat.le_refl _), nat_norm]
  obtain ⟨k, hk⟩ : ∃ k, (norm a).length = k + 1 := ⟨(norm a).length - 1, by omega⟩
  rw [hk] at e1 hlast ⊢
  simp only [Nat.add_sub_cancel] at hlast ⊢
  rw [natW] at e1
  have h1 := natW_lt hw k
  have h2 := words_getD hw k
  have hB : (2 : Nat) ^ (32 * k) = 4294967296 ^ k := by rw [Nat.pow_mul]
  have hdiv : nat a / 2 ^ (32 * k) = ((norm a).getD k 0).toNat := by
    rw [hB, ← e1, Nat.add_mul_div_right _ _ (Nat.pow_pos (by omega)), Nat.div_eq_of_lt h1, Nat.zero_add]
  have hs := bl_shift (nat a) (32 * k)
  rw [hdiv] at hs
  have hne : bl ((norm a).getD k 0).toNat ≠ 0 := by
    rw [Ne, bl_zero]
    omega
  omega

end Go.Proofs.Bn

/- Bignum: contracts: at, word, Clone, Len32, LeadingZeros32, Of. -/
set_option maxRecDepth 100000
namespace Go.Proofs.Bn
open Go Go.Ev

theorem at_pure (a : List Int) (ta : Bool) (i : Int) (h : Words a) : PureTo Try.prog 47 [.sl 1 (.ints .u32 a) ta, .v (.int .i64 i)] (.v (.int .u64 (wd a i))) := by
  unfold wd
  by_cases h0 : 0 ≤ i
  · rw [if_pos h0]
    by_cases h1 : i < a.length
    · have := words_getD h i.toNat
      exact atF3 a ta i (by simp only [AllP, inR, decide_eq_false_iff_not, decide_eq_true_eq, bne_iff_ne, beq_iff_eq, ne_eq, bne_eq_false_iff_eq, beq_eq_false_iff_ne]; (repeat' apply And.intro) <;> first | omega | exact trivial)
    · have e : a.getD i.toNat 0 = 0 := getD_out (by omega)
      rw [e]
      exact atF2 a ta i (by simp only [AllP, inR, decide_eq_false_iff_not, decide_eq_true_eq, bne_iff_ne, beq_iff_eq, ne_eq, bne_eq_false_iff_eq, beq_eq_false_iff_ne]; (repeat' apply And.intro) <;> first | omega | exact trivial)
  · rw [if_neg h0]
    exact atF1 a ta i (by simp only [AllP, inR, decide_eq_false_iff_not, decide_eq_true_eq, bne_iff_ne, beq_iff_eq, ne_eq, bne_eq_false_iff_eq, beq_eq_false_iff_ne]; (repeat' apply And.intro) <;> first | omega | exact trivial)

theorem word_pure (a : List Int) (ta : Bool) (i : Int) (h : Words a) (h0 : 0 ≤ i) : PureTo Try.prog 44 [.sl 1 (.ints .u32 a) ta, .v (.int .i64 i)] (.v (.int .u64 (wd a i))) := by
  unfold wd
  rw [if_pos h0]
  by_cases h1 : i < a.length
  · have := words_getD h i.toNat
    exact wordF1 a ta i (by simp only [AllP, inR, decide_eq_false_iff_not, decide_eq_true_eq, bne_iff_ne, beq_iff_eq, ne_eq, bne_eq_false_iff_eq, beq_eq_false_iff_ne]; (repeat' apply And.intro) <;> first | omega | exact trivial)
  · have e : a.getD i.toNat 0 = 0 := getD_out (by omega)
    rw [e]
    exact wordF2 a ta i (by simp only [AllP, inR, decide_eq_false_iff_not, decide_eq_true_eq, bne_iff_ne, beq_iff_eq, ne_eq, bne_eq_false_iff_eq, beq_eq_false_iff_ne]; (repeat' apply And.intro) <;> first | omega | exact trivial)

theorem clone_pure (a : List Int) (ta : Bool) (h : a.length ≤ lim4) : PureTo Try.prog 42 [.sl 1 (.ints .u32 a) ta] (.sl 1 (.ints .u32 a) false) := by
  unfold lim4 at h
  refine PureTo.nil_split (ys := []) (zs := []) (fun hq => ?_) (fun hq => ?_) (fun hq => ?_)
  · have : a = [] := List.eq_nil_of_length_eq_zero hq
    subst this
    exact cloneN1 trivial
  · have : a = [] := List.eq_nil_of_length_eq_zero hq
    subst this
    exact cloneE1 trivial
  · have hq : 0 < a.length := hq
    exact cloneF1 a ta (by simp only [AllP, List.nil_append]; (repeat' apply And.intro) <;> first | omega | exact trivial)

theorem len_tab : ∀ n : Fin 256, byteAt bnW8tab0 n.1 = (bl n.1 : Int) := by decide +kernel

theorem tab_at (x : Int) (h0 : 0 ≤ x) (h1 : x < 256) : byteAt bnW8tab0 x.toNat = (bl x.toNat : Int) := len_tab ⟨x.toNat, by omega⟩

theorem bl_small {n k : Nat} (h : n < 2 ^ k) : bl n ≤ k := (bl_le n k).2 h

theorem bl_div8 {n : Nat} (h : 256 ≤ n) : bl n = 8 + bl (n / 256) := by
  have h1 := bl_shift n 8
  have h2 : ¬ bl n ≤ 8 := by rw [bl_le]; omega
  have e : (2 : Nat) ^ 8 = 256 := rfl
  rw [e] at h1
  omega

theorem bl_div16 {n : Nat} (h : 65536 ≤ n) : bl n = 16 + bl (n / 65536) := by
  have h1 := bl_shift n 16
  have h2 : ¬ bl n ≤ 16 := by rw [bl_le]; omega
  have e : (2 : Nat) ^ 16 = 65536 := rfl
  rw [e] at h1
  omega

theorem len32_pure (x : Int) (h0 : 0 ≤ x) (h1 : x < 4294967296) : PureTo Try.prog 45 [.v (.int .u32 x)] (.v (.int .i64 (bl x.toNat))) := by
  obtain ⟨n, rfl⟩ : ∃ n : Nat, x = n := ⟨x.toNat, by omega⟩
  rw [Int.toNat_natCast]
  by_cases c1 : 65536 ≤ n
  · by_cases c2 : 256 ≤ n / 65536
    · have t := tab_at ((n : Int) / 65536 / 256 % 256) (by omega) (by omega)
      have e : ((n : Int) / 65536 / 256 % 256).toNat = n / 65536 / 256 := by omega
      rw [e] at t
      have hb : bl (n / 65536 / 256) ≤ 8 := bl_small (by omega)
      have h := len32F1 n (by rw [e, t]; exact (by simp only [AllP, inR, decide_eq_false_iff_not, decide_eq_true_eq, bne_iff_ne, beq_iff_eq, ne_eq, bne_eq_false_iff_eq, beq_eq_false_iff_ne]; (repeat' apply And.intro) <;> first | omega | exact trivial))
      rw [e, t] at h
      rw [bl_div16 c1, bl_div8 c2]
      have e2 : ((16 + (8 + bl (n / 65536 / 256)) : Nat) : Int) = 24 + (bl (n / 65536 / 256) : Int) := by omega
      rw [e2]
      exact h
    · have t := tab_at ((n : Int) / 65536 % 256) (by omega) (by omega)
      have e : ((n : Int) / 65536 % 256).toNat = n / 65536 := by omega
      rw [e] at t
      have hb : bl (n / 65536) ≤ 8 := bl_small (by omega)
      have h := len32F2 n (by rw [e, t]; exact (by simp only [AllP, inR, decide_eq_false_iff_not, decide_eq_true_eq, bne_iff_ne, beq_iff_eq, ne_eq, bne_eq_false_iff_eq, beq_eq_false_iff_ne]; (repeat' apply And.intro) <;> first | omega | exact trivial))
      rw [e, t] at h
      rw [bl_div16 c1]
      have e2 : ((16 + bl (n / 65536) : Nat) : Int) = 16 + (bl (n / 65536) : Int) := by omega
      rw [e2]
      exact h
  · by_cases c2 : 256 ≤ n
    · have t := tab_at ((n : Int) / 256 % 256) (by omega) (by omega)
      have e : ((n : Int) / 256 % 256).toNat = n / 256 := by omega
      rw [e] at t
      have hb : bl (n / 256) ≤ 8 := bl_small (by omega)
      have h := len32F3 n (by rw [e, t]; exact (by simp only [AllP, inR, decide_eq_false_iff_not, decide_eq_true_eq, bne_iff_ne, beq_iff_eq, ne_eq, bne_eq_false_iff_eq, beq_eq_false_iff_ne]; (repeat' apply And.intro) <;> first | omega | exact trivial))
      rw [e, t] at h
      rw [bl_div8 c2]
      have e2 : ((8 + bl (n / 256) : Nat) : Int) = 8 + (bl (n / 256) : Int) := by omega
      rw [e2]
      exact h
    · have t := tab_at ((n : Int) % 256) (by omega) (by omega)
      have e : ((n : Int) % 256).toNat = n := by omega
      rw [e] at t
      have hb : bl n ≤ 8 := bl_small (by omega)
      have h := len32F4 n (by rw [e, t]; exact (by simp only [AllP, inR, decide_eq_false_iff_not, decide_eq_true_eq, bne_iff_ne, beq_iff_eq, ne_eq, bne_eq_false_iff_eq, beq_eq_false_iff_ne]; (repeat' apply And.intro) <;> first | omega | exact trivial))
      rw [e, t, Int.zero_add] at h
      exact h

/-- the words of a number of two words -/
def two (x : Int) : List Int := [x % 4294967296, x / 4294967296 % 4294967296]

theorem words_two (x : Int) : Words (two x) := fun y hy => by
  simp only [two, List.mem_cons, List.not_mem_nil, or_false] at hy
  omega

theorem nat_two {x : Int} (h0 : 0 ≤ x) (h1 : x < 18446744073709551616) : nat (two x) = x.toNat := by
  simp only [two, nat]
  omega

theorem of_pure (x : Int) (h0 : 0 ≤ x) (h1 : x < 18446744073709551616) : PureTo Try.prog 18 [.v (.int .u64 x)] (.sl 1 (.ints .u32 (dig x.toNat)) true) := by
  have h := ofF1 x (by simp only [AllP, lim, lim4, List.length_cons, List.length_nil]; (repeat' apply And.intro) <;> first | omega | exact trivial)
  have e : norm (two x) = dig x.toNat := by rw [norm_eq (words_two x), nat_two h0 h1]
  rw [← e]
  exact h

theorem rof_pure (x : Int) (h0 : 0 ≤ x) (h1 : x < 18446744073709551616) : PureTo Try.prog 19 [.v (.int .u64 x)] (.sl 1 (.ints .u32 (dig x.toNat)) false) := by
  have h := rofF1 x (by simp only [AllP, lim, lim4, List.length_cons, List.length_nil]; (repeat' apply And.intro) <;> first | omega | exact trivial)
  have e : norm (two x) = dig x.toNat := by rw [norm_eq (words_two x), nat_two h0 h1]
  rw [← e]
  exact h

def sigAt : List AV → Option (AV × List Prop)
  | [.sl 1 (.ints .u32 a) _, .v (.int .i64 i)] => some (.v (.int .u64 (wd a i)), [Words a])
  | _ => none
def sigWord : List AV → Option (AV × List Prop)
  | [.sl 1 (.ints .u32 a) _, .v (.int .i64 i)] => some (.v (.int .u64 (wd a i)), [Words a, 0 ≤ i])
  | _ => none
def sigClone : List AV → Option (AV × List Prop)
  | [.sl 1 (.ints .u32 a) _] => some (.sl 1 (.ints .u32 a) false, [a.length ≤ lim4])
  | _ => none
def sigLen32 : List AV → Option (AV × List Prop)
  | [.v (.int .u32 x)] => some (.v (.int .i64 (bl x.toNat)), [0 ≤ x, x < 4294967296])
  | _ => none
def sigOf : List AV → Option (AV × List Prop)
  | [.v (.int .u64 x)] => some (.sl 1 (.ints .u32 (dig x.toNat)) true, [0 ≤ x, x < 18446744073709551616])
  | _ => none
def sigROf : List AV → Option (AV × List Prop)
  | [.v (.int .u64 x)] => some (.sl 1 (.ints .u32 (dig x.toNat)) false, [0 ≤ x, x < 18446744073709551616])
  | _ => none

def SG8 : SGT := (47, .p sigAt) :: (44, .p sigWord) :: (42, .p sigClone) :: (45, .p sigLen32) :: (18, .p sigOf) :: (19, .p sigROf) :: SG7

theorem sok8 : SigsOK Try.prog SG8 := by
  refine sigs_cons (sigs_cons (sigs_cons (sigs_cons (sigs_cons (sigs_cons sok7 ?_) ?_) ?_) ?_) ?_) ?_
  · intro ys r c h hc
    unfold sigROf at h
    split at h
    · cases h; exact rof_pure _ hc.1 hc.2.1
    · cases h
  · intro ys r c h hc
    unfold sigOf at h
    split at h
    · cases h; exact of_pure _ hc.1 hc.2.1
    · cases h
  · intro ys r c h hc
    unfold sigLen32 at h
    split at h
    · cases h; exact len32_pure _ hc.1 hc.2.1
    · cases h
  · intro ys r c h hc
    unfold sigClone at h
    split at h
    · cases h; exact clone_pure _ _ hc.1
    · cases h
  · intro ys r c h hc
    unfold sigWord at h
    split at h
    · cases h; exact word_pure _ _ _ hc.1 hc.2.1
    · cases h
  · intro ys r c h hc
    unfold sigAt at h
    split at h
    · cases h; exact at_pure _ _ _ hc.1
    · cases h
end Go.Proofs.Bn

/- Bignum: walks, written by the tool. -/
set_option maxRecDepth 100000
namespace Go.Proofs.Bn
open Go Go.Ev
def rcmS0 (a b : List Int) (ta tb : Bool) (x0 : Int) : AS := { n := 35, fr := [(0, AV.sl 1 (.ints .u32 a) ta), (1, AV.sl 1 (.ints .u32 b) tb), (6, AV.v (.int .i64 x0))], hp := [], nx := 0 }
def rcmX0 (a b : List Int) (ta tb : Bool)  : AS := { n := 35, fr := [], hp := [], nx := 0 }
def rcmX0_1 (a b : List Int) (ta tb : Bool) (x1 : Int) : AS := { n := 35, fr := [(4, AV.v (.int .i64 x1))], hp := [], nx := 0 }
def addS0 (a b : List Int) (ta tb : Bool) (x0 : Int) (x1 : Int) (l0 : List Int) (n0 : Nat) : AS := { n := 48, fr := [(0, AV.sl 1 (.ints .u32 (norm a)) true), (1, AV.sl 1 (.ints .u32 (norm b)) true), (6, AV.row 12 0 l0.length l0.length false), (7, AV.v (.int .u64 x0)), (23, AV.v (.int .i64 ((if (↑(norm b).length : Int) > (↑(norm a).length : Int) then (↑(norm b).length : Int) else (↑(norm a).length : Int)) + (1 : Int)))), (24, AV.v (.int .i64 x1))], hp := [(12, AObj.row 22 1 (.ints .u32 l0) n0)], nx := 13 }
def addX0 (a b : List Int) (ta tb : Bool) (l1 : List Int) (n1 : Nat) : AS := { n := 48, fr := [(6, AV.row 12 0 l1.length l1.length false)], hp := [(12, AObj.row 22 1 (.ints .u32 l1) n1)], nx := 13 }
def plusS0 (a b : List Int) (ta tb : Bool) (x0 : Int) (x1 : Int) (l0 : List Int) (n0 : Nat) : AS := { n := 43, fr := [(0, AV.sl 1 (.ints .u32 a) ta), (1, AV.sl 1 (.ints .u32 b) tb), (5, AV.row 1 0 l0.length l0.length false), (6, AV.v (.int .u64 x0)), (7, AV.v (.int .i64 x1))], hp := [(1, AObj.row 22 1 (.ints .u32 l0) n0)], nx := 2 }
def plusX0 (a b : List Int) (ta tb : Bool) (x2 : Int) (l1 : List Int) (n1 : Nat) : AS := { n := 43, fr := [(5, AV.row 1 0 l1.length l1.length false), (6, AV.v (.int .u64 x2))], hp := [(1, AObj.row 22 1 (.ints .u32 l1) n1)], nx := 2 }
def subS0 (a b : List Int) (ta tb : Bool) (x0 : Int) (x1 : Int) (l0 : List Int) (n0 : Nat) (n1 : Nat) : AS := { n := 38, fr := [(0, AV.sl 1 (.ints .u32 a) ta), (1, AV.sl 1 (.ints .u32 b) tb), (5, AV.row 3 0 n1 n1 false), (6, AV.v (.int .u64 x0)), (13, AV.v (.int .i64 (↑a.length : Int))), (14, AV.v (.int .i64 x1))], hp := [(3, AObj.row 22 1 (.ints .u32 l0) n0)], nx := 4 }
def subX0 (a b : List Int) (ta tb : Bool) (l1 : List Int) (n2 : Nat) (n3 : Nat) : AS := { n := 38, fr := [(5, AV.row 3 0 n3 n3 false)], hp := [(3, AObj.row 22 1 (.ints .u32 l1) n2)], nx := 4 }
def lessS0 (a b : List Int) (ta tb : Bool) (x0 : Int) (x1 : Int) (l0 : List Int) (n0 : Nat) : AS := { n := 33, fr := [(0, AV.sl 1 (.ints .u32 a) ta), (1, AV.sl 1 (.ints .u32 b) tb), (5, AV.row 1 0 l0.length l0.length false), (6, AV.v (.int .u64 x0)), (7, AV.v (.int .i64 x1))], hp := [(1, AObj.row 22 1 (.ints .u32 l0) n0)], nx := 2 }
def lessX0 (a b : List Int) (ta tb : Bool) (l1 : List Int) (n1 : Nat) : AS := { n := 33, fr := [(5, AV.row 1 0 l1.length l1.length false)], hp := [(1, AObj.row 22 1 (.ints .u32 l1) n1)], nx := 2 }
-- 1 paths
theorem pnormF1 (a : List Int) (ta : Bool) (h : AllP [a.length < lim, (norm a).length ≤ lim4]) : PureTo Try.prog 15 [.sl 1 (.ints .u32 a) ta] (AV.sl 1 (.ints .u32 (norm a)) false) :=
  evFn_pure hm sok8 (fn := Try.f15) rfl rfl (ti := false) (hs := []) (c := _) (by kernel_rfl) h
-- 2 paths
theorem pbitsF1 (a : List Int) (ta : Bool) (h : AllP [a.length < lim, ((↑(norm a).length : Int) == (0 : Int)) = true]) : PureTo Try.prog 22 [.sl 1 (.ints .u32 a) ta] (AV.v (.int .i64 (0 : Int))) :=
  evFn_pure hm sok8 (fn := Try.f22) rfl rfl (ti := false) (hs := [CHint.ops 2 [(2, Hint.b true)]]) (c := _) (by kernel_rfl) h
theorem pbitsF2 (a : List Int) (ta : Bool) (h : AllP [a.length < lim, ((↑(norm a).length : Int) == (0 : Int)) = false, inR IntKind.i64 ((↑(norm a).length : Int) - (1 : Int)), inR IntKind.i64 ((32 : Int) * ((↑(norm a).length : Int) - (1 : Int))), inR IntKind.i64 ((↑(norm a).length : Int) - (1 : Int)), (0 : Int) ≤ (↑(norm a).length : Int) - (1 : Int) ∧ (↑(norm a).length : Int) - (1 : Int) < (↑(norm a).length : Int), (0 : Int) ≤ (norm a).getD ((↑(norm a).length : Int) - (1 : Int)).toNat (0 : Int), (norm a).getD ((↑(norm a).length : Int) - (1 : Int)).toNat (0 : Int) < (4294967296 : Int), inR IntKind.i64 ((32 : Int) * ((↑(norm a).length : Int) - (1 : Int)) + (↑(bl ((norm a).getD ((↑(norm a).length : Int) - (1 : Int)).toNat (0 : Int)).toNat) : Int))]) : PureTo Try.prog 22 [.sl 1 (.ints .u32 a) ta] (AV.v (.int .i64 ((32 : Int) * ((↑(norm a).length : Int) - (1 : Int)) + (↑(bl ((norm a).getD ((↑(norm a).length : Int) - (1 : Int)).toNat (0 : Int)).toNat) : Int)))) :=
  evFn_pure hm sok8 (fn := Try.f22) rfl rfl (ti := false) (hs := [CHint.ops 2 [(2, Hint.b false)]]) (c := _) (by kernel_rfl) h
-- 1 paths
theorem lz32F1 (x : Int) (h : AllP [(0 : Int) ≤ x, x < (4294967296 : Int), inR IntKind.i64 ((32 : Int) - (↑(bl x.toNat) : Int))]) : PureTo Try.prog 67 [.v (.int .u32 x)] (AV.v (.int .i64 ((32 : Int) - (↑(bl x.toNat) : Int)))) :=
  evFn_pure hm sok8 (fn := Try.f67) rfl rfl (ti := false) (hs := []) (c := _) (by kernel_rfl) h
-- 2 paths
theorem checkedF1 (a : List Int) (ta : Bool) (h : AllP [over a = true, a.length ≤ lim4]) : PureTo Try.prog 49 [.sl 1 (.ints .u32 a) ta] (AV.tup [AV.sl 1 (.ints .u32 []) false, AV.v (.int .i64 (3 : Int))]) :=
  evFn_pure hm sok8 (fn := Try.f49) rfl rfl (ti := false) (hs := [CHint.ops 1 [(1, Hint.b true)]]) (c := _) (by kernel_rfl) h
theorem checkedF2 (a : List Int) (ta : Bool) (h : AllP [over a = false, a.length ≤ lim4, a.length ≤ lim4]) : PureTo Try.prog 49 [.sl 1 (.ints .u32 a) ta] (AV.tup [AV.sl 1 (.ints .u32 (norm a)) false, AV.v (.int .i64 (0 : Int))]) :=
  evFn_pure hm sok8 (fn := Try.f49) rfl rfl (ti := false) (hs := [CHint.ops 1 [(1, Hint.b false)]]) (c := _) (by kernel_rfl) h
-- 4 paths
theorem rcmL0_1 (a b : List Int) (ta tb : Bool) (x0 : Int) (h : AllP [decide (x0 ≥ (0 : Int)) = true, Words a, (0 : Int) ≤ x0, Words b, (0 : Int) ≤ x0, decide (wd a x0 < wd b x0) = true]) : To Try.prog (loopAt Try.f21 0) ({ n := 35, fr := [(0, AV.sl 1 (.ints .u32 a) ta), (1, AV.sl 1 (.ints .u32 b) tb), (6, AV.v (.int .i64 x0))], hp := [], nx := 0 }) (Exit.ret) { n := 35, fr := [(4, AV.v (.int .i64 (-1 : Int)))], hp := [], nx := 0 } :=
  evW_to hm sok8 (hs := [CHint.ops 5 [(1, Hint.b true)], CHint.ops 7 [(6, Hint.b true)]]) (slots := [4]) (keys := []) (nx := 0) (c := _) (by kernel_rfl) h
theorem rcmL0_2 (a b : List Int) (ta tb : Bool) (x0 : Int) (h : AllP [decide (x0 ≥ (0 : Int)) = true, Words a, (0 : Int) ≤ x0, Words b, (0 : Int) ≤ x0, decide (wd a x0 < wd b x0) = false, Words a, (0 : Int) ≤ x0, Words b, (0 : Int) ≤ x0, decide (wd a x0 > wd b x0) = true]) : To Try.prog (loopAt Try.f21 0) ({ n := 35, fr := [(0, AV.sl 1 (.ints .u32 a) ta), (1, AV.sl 1 (.ints .u32 b) tb), (6, AV.v (.int .i64 x0))], hp := [], nx := 0 }) (Exit.ret) { n := 35, fr := [(4, AV.v (.int .i64 (1 : Int)))], hp := [], nx := 0 } :=
  evW_to hm sok8 (hs := [CHint.ops 5 [(1, Hint.b true)], CHint.ops 7 [(6, Hint.b false)], CHint.ops 9 [(6, Hint.b true)]]) (slots := [4]) (keys := []) (nx := 0) (c := _) (by kernel_rfl) h
theorem rcmL0_3 (a b : List Int) (ta tb : Bool) (x0 : Int) (h : AllP [decide (x0 ≥ (0 : Int)) = true, Words a, (0 : Int) ≤ x0, Words b, (0 : Int) ≤ x0, decide (wd a x0 < wd b x0) = false, Words a, (0 : Int) ≤ x0, Words b, (0 : Int) ≤ x0, decide (wd a x0 > wd b x0) = false, inR IntKind.i64 (x0 - (1 : Int))]) : To Try.prog (loopAt Try.f21 0) ({ n := 35, fr := [(0, AV.sl 1 (.ints .u32 a) ta), (1, AV.sl 1 (.ints .u32 b) tb), (6, AV.v (.int .i64 x0))], hp := [], nx := 0 }) (.normal) { n := 35, fr := [(0, AV.sl 1 (.ints .u32 a) ta), (1, AV.sl 1 (.ints .u32 b) tb), (6, AV.v (.int .i64 (x0 - (1 : Int))))], hp := [], nx := 0 } :=
  evW_to hm sok8 (hs := [CHint.ops 5 [(1, Hint.b true)], CHint.ops 7 [(6, Hint.b false)], CHint.ops 9 [(6, Hint.b false)]]) (slots := [0, 1, 6]) (keys := []) (nx := 0) (c := _) (by kernel_rfl) h
theorem rcmL0_4 (a b : List Int) (ta tb : Bool) (x0 : Int) (h : AllP [decide (x0 ≥ (0 : Int)) = false]) : To Try.prog (loopAt Try.f21 0) ({ n := 35, fr := [(0, AV.sl 1 (.ints .u32 a) ta), (1, AV.sl 1 (.ints .u32 b) tb), (6, AV.v (.int .i64 x0))], hp := [], nx := 0 }) (Exit.exit 0) { n := 35, fr := [], hp := [], nx := 0 } :=
  evW_to hm sok8 (hs := [CHint.ops 5 [(1, Hint.b false)]]) (slots := []) (keys := []) (nx := 0) (c := _) (by kernel_rfl) h
-- 4 paths
theorem rcmF1 (a b : List Int) (ta tb : Bool) (x1 : Int) (h : AllP [decide ((↑b.length : Int) > (↑a.length : Int)) = true, inR IntKind.i64 ((↑b.length : Int) - (1 : Int)), LoopTo Try.prog (loopAt Try.f21 0) { n := 35, fr := [(0, AV.sl 1 (.ints .u32 a) ta), (1, AV.sl 1 (.ints .u32 b) tb), (6, AV.v (.int .i64 ((↑b.length : Int) - (1 : Int))))], hp := [], nx := 0 } (Exit.exit 0) { n := 35, fr := [], hp := [], nx := 0 }]) : PureTo Try.prog 21 [.sl 1 (.ints .u32 a) ta, .sl 1 (.ints .u32 b) tb] (AV.v (.int .i64 (0 : Int))) :=
  evFn_pure hm sok8 (fn := Try.f21) rfl rfl (ti := false) (hs := [CHint.ops 2 [(3, Hint.b true)], CHint.loop [0, 1, 6] [] 0 (Exit.exit 0) { n := 35, fr := [], hp := [], nx := 0 }]) (c := _) (by kernel_rfl) h
theorem rcmF2 (a b : List Int) (ta tb : Bool) (x1 : Int) (h : AllP [decide ((↑b.length : Int) > (↑a.length : Int)) = true, inR IntKind.i64 ((↑b.length : Int) - (1 : Int)), LoopTo Try.prog (loopAt Try.f21 0) { n := 35, fr := [(0, AV.sl 1 (.ints .u32 a) ta), (1, AV.sl 1 (.ints .u32 b) tb), (6, AV.v (.int .i64 ((↑b.length : Int) - (1 : Int))))], hp := [], nx := 0 } Exit.ret { n := 35, fr := [(4, AV.v (.int .i64 x1))], hp := [], nx := 0 }]) : PureTo Try.prog 21 [.sl 1 (.ints .u32 a) ta, .sl 1 (.ints .u32 b) tb] (AV.v (.int .i64 x1)) :=
  evFn_pure hm sok8 (fn := Try.f21) rfl rfl (ti := false) (hs := [CHint.ops 2 [(3, Hint.b true)], CHint.loop [0, 1, 6] [] 0 Exit.ret { n := 35, fr := [(4, AV.v (.int .i64 x1))], hp := [], nx := 0 }]) (c := _) (by kernel_rfl) h
theorem rcmF3 (a b : List Int) (ta tb : Bool) (x1 : Int) (h : AllP [decide ((↑b.length : Int) > (↑a.length : Int)) = false, inR IntKind.i64 ((↑a.length : Int) - (1 : Int)), LoopTo Try.prog (loopAt Try.f21 0) { n := 35, fr := [(0, AV.sl 1 (.ints .u32 a) ta), (1, AV.sl 1 (.ints .u32 b) tb), (6, AV.v (.int .i64 ((↑a.length : Int) - (1 : Int))))], hp := [], nx := 0 } (Exit.exit 0) { n := 35, fr := [], hp := [], nx := 0 }]) : PureTo Try.prog 21 [.sl 1 (.ints .u32 a) ta, .sl 1 (.ints .u32 b) tb] (AV.v (.int .i64 (0 : Int))) :=
  evFn_pure hm sok8 (fn := Try.f21) rfl rfl (ti := false) (hs := [CHint.ops 2 [(3, Hint.b false)], CHint.loop [0, 1, 6] [] 0 (Exit.exit 0) { n := 35, fr := [], hp := [], nx := 0 }]) (c := _) (by kernel_rfl) h
theorem rcmF4 (a b : List Int) (ta tb : Bool) (x1 : Int) (h : AllP [decide ((↑b.length : Int) > (↑a.length : Int)) = false, inR IntKind.i64 ((↑a.length : Int) - (1 : Int)), LoopTo Try.prog (loopAt Try.f21 0) { n := 35, fr := [(0, AV.sl 1 (.ints .u32 a) ta), (1, AV.sl 1 (.ints .u32 b) tb), (6, AV.v (.int .i64 ((↑a.length : Int) - (1 : Int))))], hp := [], nx := 0 } Exit.ret { n := 35, fr := [(4, AV.v (.int .i64 x1))], hp := [], nx := 0 }]) : PureTo Try.prog 21 [.sl 1 (.ints .u32 a) ta, .sl 1 (.ints .u32 b) tb] (AV.v (.int .i64 x1)) :=
  evFn_pure hm sok8 (fn := Try.f21) rfl rfl (ti := false) (hs := [CHint.ops 2 [(3, Hint.b false)], CHint.loop [0, 1, 6] [] 0 Exit.ret { n := 35, fr := [(4, AV.v (.int .i64 x1))], hp := [], nx := 0 }]) (c := _) (by kernel_rfl) h
-- 2 paths
theorem addL0_1 (a b : List Int) (ta tb : Bool) (x0 : Int) (x1 : Int) (l0 : List Int) (n0 : Nat) (h : AllP [decide (x1 < (if (↑(norm b).length : Int) > (↑(norm a).length : Int) then (↑(norm b).length : Int) else (↑(norm a).length : Int)) + (1 : Int)) = true, Words (norm a), Words (norm b), inR IntKind.u64 (wd (norm a) x1 + wd (norm b) x1), inR IntKind.u64 (wd (norm a) x1 + wd (norm b) x1 + x0), l0.length = l0.length, l0.length = l0.length, (l0 ++ [(wd (norm a) x1 + wd (norm b) x1 + x0) % (4294967296 : Int)]).length * 4 ≤ 140737488355328, (0 : Int) ≤ (32 : Int), inR IntKind.i64 (x1 + (1 : Int))]) : To Try.prog (loopAt Try.f24 0) ({ n := 48, fr := [(0, AV.sl 1 (.ints .u32 (norm a)) true), (1, AV.sl 1 (.ints .u32 (norm b)) true), (6, AV.row 12 0 l0.length l0.length false), (7, AV.v (.int .u64 x0)), (23, AV.v (.int .i64 ((if (↑(norm b).length : Int) > (↑(norm a).length : Int) then (↑(norm b).length : Int) else (↑(norm a).length : Int)) + (1 : Int)))), (24, AV.v (.int .i64 x1))], hp := [(12, AObj.row 22 1 (.ints .u32 l0) n0)], nx := 13 }) (.normal) { n := 48, fr := [(0, AV.sl 1 (.ints .u32 (norm a)) true), (1, AV.sl 1 (.ints .u32 (norm b)) true), (6, AV.row 12 0 (l0 ++ [(wd (norm a) x1 + wd (norm b) x1 + x0) % (4294967296 : Int)]).length (l0 ++ [(wd (norm a) x1 + wd (norm b) x1 + x0) % (4294967296 : Int)]).length false), (7, AV.v (.int .u64 ((wd (norm a) x1 + wd (norm b) x1 + x0) / (4294967296 : Int)))), (23, AV.v (.int .i64 ((if (↑(norm b).length : Int) > (↑(norm a).length : Int) then (↑(norm b).length : Int) else (↑(norm a).length : Int)) + (1 : Int)))), (24, AV.v (.int .i64 (x1 + (1 : Int))))], hp := [(12, AObj.row 22 1 (.ints .u32 (l0 ++ [(wd (norm a) x1 + wd (norm b) x1 + x0) % (4294967296 : Int)])) n0)], nx := 13 } :=
  evW_to hm sok8 (hs := [CHint.ops 7 [(0, Hint.b true)]]) (slots := [0, 1, 6, 7, 23, 24]) (keys := [12]) (nx := 13) (c := _) (by kernel_rfl) h
theorem addL0_2 (a b : List Int) (ta tb : Bool) (x0 : Int) (x1 : Int) (l0 : List Int) (n0 : Nat) (h : AllP [decide (x1 < (if (↑(norm b).length : Int) > (↑(norm a).length : Int) then (↑(norm b).length : Int) else (↑(norm a).length : Int)) + (1 : Int)) = false]) : To Try.prog (loopAt Try.f24 0) ({ n := 48, fr := [(0, AV.sl 1 (.ints .u32 (norm a)) true), (1, AV.sl 1 (.ints .u32 (norm b)) true), (6, AV.row 12 0 l0.length l0.length false), (7, AV.v (.int .u64 x0)), (23, AV.v (.int .i64 ((if (↑(norm b).length : Int) > (↑(norm a).length : Int) then (↑(norm b).length : Int) else (↑(norm a).length : Int)) + (1 : Int)))), (24, AV.v (.int .i64 x1))], hp := [(12, AObj.row 22 1 (.ints .u32 l0) n0)], nx := 13 }) (Exit.exit 0) { n := 48, fr := [(6, AV.row 12 0 l0.length l0.length false)], hp := [(12, AObj.row 22 1 (.ints .u32 l0) n0)], nx := 13 } :=
  evW_to hm sok8 (hs := [CHint.ops 7 [(0, Hint.b false)]]) (slots := [6]) (keys := [12]) (nx := 13) (c := _) (by kernel_rfl) h
-- 2 paths
theorem addF1 (a b : List Int) (ta tb : Bool) (l1 : List Int) (n1 : Nat) (h : AllP [(over a || over b) = true, a.length < lim, b.length < lim]) : PureTo Try.prog 24 [.sl 1 (.ints .u32 a) ta, .sl 1 (.ints .u32 b) tb] (AV.tup [AV.sl 1 (.ints .u32 []) false, AV.v (.int .i64 (3 : Int))]) :=
  evFn_pure hm sok8 (fn := Try.f24) rfl rfl (ti := false) (hs := [CHint.ops 1 [(3, Hint.b true)]]) (c := _) (by kernel_rfl) h
theorem addF2 (a b : List Int) (ta tb : Bool) (l1 : List Int) (n1 : Nat) (h : AllP [(over a || over b) = false, a.length < lim, b.length < lim, a.length < lim, b.length < lim, inR IntKind.i64 ((if (↑(norm b).length : Int) > (↑(norm a).length : Int) then (↑(norm b).length : Int) else (↑(norm a).length : Int)) + (1 : Int)), LoopTo Try.prog (loopAt Try.f24 0) { n := 48, fr := [(0, AV.sl 1 (.ints .u32 (norm a)) true), (1, AV.sl 1 (.ints .u32 (norm b)) true), (6, AV.row 12 0 0 0 false), (7, AV.v (.int .u64 (0 : Int))), (23, AV.v (.int .i64 ((if (↑(norm b).length : Int) > (↑(norm a).length : Int) then (↑(norm b).length : Int) else (↑(norm a).length : Int)) + (1 : Int)))), (24, AV.v (.int .i64 (0 : Int)))], hp := [(12, AObj.row 22 1 (.ints .u32 []) 0)], nx := 13 } (Exit.exit 0) { n := 48, fr := [(6, AV.row 12 0 l1.length l1.length false)], hp := [(12, AObj.row 22 1 (.ints .u32 l1) n1)], nx := 13 }, l1.length = l1.length, n1 ≤ l1.length, l1.length < lim]) : PureTo Try.prog 24 [.sl 1 (.ints .u32 a) ta, .sl 1 (.ints .u32 b) tb] (AV.tup [AV.sl 1 (.ints .u32 (toldL l1)) false, AV.v (.int .i64 (toldE l1))]) :=
  evFn_pure hm sok8 (fn := Try.f24) rfl rfl (ti := false) (hs := [CHint.ops 1 [(3, Hint.b false)], CHint.ops 4 [(0, Hint.nil 22)], CHint.loop [0, 1, 6, 7, 23, 24] [12] 13 (Exit.exit 0) { n := 48, fr := [(6, AV.row 12 0 l1.length l1.length false)], hp := [(12, AObj.row (22 : TypeId) 1 (.ints .u32 l1) n1)], nx := 13 }]) (c := _) (by kernel_rfl) h
-- 3 paths
theorem plusL0_1 (a b : List Int) (ta tb : Bool) (x0 : Int) (x1 : Int) (l0 : List Int) (n0 : Nat) (h : AllP [decide (x1 < (↑a.length : Int)) = true, Words a, (0 : Int) ≤ x1, Words b, (0 : Int) ≤ x1, inR IntKind.u64 (wd a x1 + wd b x1), inR IntKind.u64 (wd a x1 + wd b x1 + x0), l0.length = l0.length, l0.length = l0.length, (l0 ++ [(wd a x1 + wd b x1 + x0) % (4294967296 : Int)]).length * 4 ≤ 140737488355328, (0 : Int) ≤ (32 : Int), inR IntKind.i64 (x1 + (1 : Int))]) : To Try.prog (loopAt Try.f50 0) ({ n := 43, fr := [(0, AV.sl 1 (.ints .u32 a) ta), (1, AV.sl 1 (.ints .u32 b) tb), (5, AV.row 1 0 l0.length l0.length false), (6, AV.v (.int .u64 x0)), (7, AV.v (.int .i64 x1))], hp := [(1, AObj.row 22 1 (.ints .u32 l0) n0)], nx := 2 }) (.normal) { n := 43, fr := [(0, AV.sl 1 (.ints .u32 a) ta), (1, AV.sl 1 (.ints .u32 b) tb), (5, AV.row 1 0 (l0 ++ [(wd a x1 + wd b x1 + x0) % (4294967296 : Int)]).length (l0 ++ [(wd a x1 + wd b x1 + x0) % (4294967296 : Int)]).length false), (6, AV.v (.int .u64 ((wd a x1 + wd b x1 + x0) / (4294967296 : Int)))), (7, AV.v (.int .i64 (x1 + (1 : Int))))], hp := [(1, AObj.row 22 1 (.ints .u32 (l0 ++ [(wd a x1 + wd b x1 + x0) % (4294967296 : Int)])) n0)], nx := 2 } :=
  evW_to hm sok8 (hs := [CHint.ops 4 [(3, Hint.b true)]]) (slots := [0, 1, 5, 6, 7]) (keys := [1]) (nx := 2) (c := _) (by kernel_rfl) h
theorem plusL0_2 (a b : List Int) (ta tb : Bool) (x0 : Int) (x1 : Int) (l0 : List Int) (n0 : Nat) (h : AllP [decide (x1 < (↑a.length : Int)) = false, decide (x1 < (↑b.length : Int)) = true, Words a, (0 : Int) ≤ x1, Words b, (0 : Int) ≤ x1, inR IntKind.u64 (wd a x1 + wd b x1), inR IntKind.u64 (wd a x1 + wd b x1 + x0), l0.length = l0.length, l0.length = l0.length, (l0 ++ [(wd a x1 + wd b x1 + x0) % (4294967296 : Int)]).length * 4 ≤ 140737488355328, (0 : Int) ≤ (32 : Int), inR IntKind.i64 (x1 + (1 : Int))]) : To Try.prog (loopAt Try.f50 0) ({ n := 43, fr := [(0, AV.sl 1 (.ints .u32 a) ta), (1, AV.sl 1 (.ints .u32 b) tb), (5, AV.row 1 0 l0.length l0.length false), (6, AV.v (.int .u64 x0)), (7, AV.v (.int .i64 x1))], hp := [(1, AObj.row 22 1 (.ints .u32 l0) n0)], nx := 2 }) (.normal) { n := 43, fr := [(0, AV.sl 1 (.ints .u32 a) ta), (1, AV.sl 1 (.ints .u32 b) tb), (5, AV.row 1 0 (l0 ++ [(wd a x1 + wd b x1 + x0) % (4294967296 : Int)]).length (l0 ++ [(wd a x1 + wd b x1 + x0) % (4294967296 : Int)]).length false), (6, AV.v (.int .u64 ((wd a x1 + wd b x1 + x0) / (4294967296 : Int)))), (7, AV.v (.int .i64 (x1 + (1 : Int))))], hp := [(1, AObj.row 22 1 (.ints .u32 (l0 ++ [(wd a x1 + wd b x1 + x0) % (4294967296 : Int)])) n0)], nx := 2 } :=
  evW_to hm sok8 (hs := [CHint.ops 4 [(3, Hint.b false), (8, Hint.b true)]]) (slots := [0, 1, 5, 6, 7]) (keys := [1]) (nx := 2) (c := _) (by kernel_rfl) h
theorem plusL0_3 (a b : List Int) (ta tb : Bool) (x0 : Int) (x1 : Int) (l0 : List Int) (n0 : Nat) (h : AllP [decide (x1 < (↑a.length : Int)) = false, decide (x1 < (↑b.length : Int)) = false]) : To Try.prog (loopAt Try.f50 0) ({ n := 43, fr := [(0, AV.sl 1 (.ints .u32 a) ta), (1, AV.sl 1 (.ints .u32 b) tb), (5, AV.row 1 0 l0.length l0.length false), (6, AV.v (.int .u64 x0)), (7, AV.v (.int .i64 x1))], hp := [(1, AObj.row 22 1 (.ints .u32 l0) n0)], nx := 2 }) (Exit.exit 0) { n := 43, fr := [(5, AV.row 1 0 l0.length l0.length false), (6, AV.v (.int .u64 x0))], hp := [(1, AObj.row 22 1 (.ints .u32 l0) n0)], nx := 2 } :=
  evW_to hm sok8 (hs := [CHint.ops 4 [(3, Hint.b false), (8, Hint.b false)]]) (slots := [5, 6]) (keys := [1]) (nx := 2) (c := _) (by kernel_rfl) h
-- 1 paths
theorem plusF1 (a b : List Int) (ta tb : Bool) (x2 : Int) (l1 : List Int) (n1 : Nat) (h : AllP [LoopTo Try.prog (loopAt Try.f50 0) { n := 43, fr := [(0, AV.sl 1 (.ints .u32 a) ta), (1, AV.sl 1 (.ints .u32 b) tb), (5, AV.row 1 0 0 0 false), (6, AV.v (.int .u64 (0 : Int))), (7, AV.v (.int .i64 (0 : Int)))], hp := [(1, AObj.row 22 1 (.ints .u32 []) 0)], nx := 2 } (Exit.exit 0) { n := 43, fr := [(5, AV.row 1 0 l1.length l1.length false), (6, AV.v (.int .u64 x2))], hp := [(1, AObj.row 22 1 (.ints .u32 l1) n1)], nx := 2 }, l1.length = l1.length, l1.length = l1.length, (l1 ++ [x2 % (4294967296 : Int)]).length * 4 ≤ 140737488355328, (l1 ++ [x2 % (4294967296 : Int)]).length = (l1 ++ [x2 % (4294967296 : Int)]).length, n1 ≤ (l1 ++ [x2 % (4294967296 : Int)]).length, (l1 ++ [x2 % (4294967296 : Int)]).length ≤ lim4]) : PureTo Try.prog 50 [.sl 1 (.ints .u32 a) ta, .sl 1 (.ints .u32 b) tb] (AV.sl 1 (.ints .u32 (norm (l1 ++ [x2 % (4294967296 : Int)]))) false) :=
  evFn_pure hm sok8 (fn := Try.f50) rfl rfl (ti := false) (hs := [CHint.ops 1 [(0, Hint.nil 22)], CHint.loop [0, 1, 5, 6, 7] [1] 2 (Exit.exit 0) { n := 43, fr := [(5, AV.row 1 0 l1.length l1.length false), (6, AV.v (.int .u64 x2))], hp := [(1, AObj.row (22 : TypeId) 1 (.ints .u32 l1) n1)], nx := 2 }]) (c := _) (by kernel_rfl) h
-- 2 paths
theorem subL0_1 (a b : List Int) (ta tb : Bool) (x0 : Int) (x1 : Int) (l0 : List Int) (n0 : Nat) (n1 : Nat) (h : AllP [decide (x1 < (↑a.length : Int)) = true, (0 : Int) ≤ x1 ∧ x1 < (↑a.length : Int), inR IntKind.u64 (a.getD x1.toNat (0 : Int)), Words b, (0 : Int) ≤ x1 ∧ x1 < (↑n1 : Int), n1 = l0.length, (0 : Int) ≤ (63 : Int), inR IntKind.i64 (x1 + (1 : Int))]) : To Try.prog (loopAt Try.f51 0) ({ n := 38, fr := [(0, AV.sl 1 (.ints .u32 a) ta), (1, AV.sl 1 (.ints .u32 b) tb), (5, AV.row 3 0 n1 n1 false), (6, AV.v (.int .u64 x0)), (13, AV.v (.int .i64 (↑a.length : Int))), (14, AV.v (.int .i64 x1))], hp := [(3, AObj.row 22 1 (.ints .u32 l0) n0)], nx := 4 }) (.normal) { n := 38, fr := [(0, AV.sl 1 (.ints .u32 a) ta), (1, AV.sl 1 (.ints .u32 b) tb), (5, AV.row 3 0 n1 n1 false), (6, AV.v (.int .u64 (((a.getD x1.toNat (0 : Int) - wd b x1) % (18446744073709551616 : Int) - x0) % (18446744073709551616 : Int) / (9223372036854775808 : Int)))), (13, AV.v (.int .i64 (↑a.length : Int))), (14, AV.v (.int .i64 (x1 + (1 : Int))))], hp := [(3, AObj.row 22 1 (.ints .u32 (l0.set (ixPlus 0 x1.toNat) (((a.getD x1.toNat (0 : Int) - wd b x1) % (18446744073709551616 : Int) - x0) % (18446744073709551616 : Int) % (4294967296 : Int)))) l0.length)], nx := 4 } :=
  evW_to hm sok8 (hs := [CHint.ops 4 [(0, Hint.b true)], CHint.ops 6 [(8, Hint.wrap), (10, Hint.wrap)]]) (slots := [0, 1, 5, 6, 13, 14]) (keys := [3]) (nx := 4) (c := _) (by kernel_rfl) h
theorem subL0_2 (a b : List Int) (ta tb : Bool) (x0 : Int) (x1 : Int) (l0 : List Int) (n0 : Nat) (n1 : Nat) (h : AllP [decide (x1 < (↑a.length : Int)) = false]) : To Try.prog (loopAt Try.f51 0) ({ n := 38, fr := [(0, AV.sl 1 (.ints .u32 a) ta), (1, AV.sl 1 (.ints .u32 b) tb), (5, AV.row 3 0 n1 n1 false), (6, AV.v (.int .u64 x0)), (13, AV.v (.int .i64 (↑a.length : Int))), (14, AV.v (.int .i64 x1))], hp := [(3, AObj.row 22 1 (.ints .u32 l0) n0)], nx := 4 }) (Exit.exit 0) { n := 38, fr := [(5, AV.row 3 0 n1 n1 false)], hp := [(3, AObj.row 22 1 (.ints .u32 l0) n0)], nx := 4 } :=
  evW_to hm sok8 (hs := [CHint.ops 4 [(0, Hint.b false)]]) (slots := [5]) (keys := [3]) (nx := 4) (c := _) (by kernel_rfl) h
-- 1 paths
theorem subF1 (a b : List Int) (ta tb : Bool) (l1 : List Int) (n2 : Nat) (n3 : Nat) (h : AllP [(0 : Int) ≤ (↑a.length : Int) ∧ (↑a.length : Int) ≤ (↑a.length : Int), (↑a.length : Int) * (4 : Int) ≤ (281474976710656 : Int) ∧ (↑a.length : Int) ≤ (9223372036854775807 : Int), LoopTo Try.prog (loopAt Try.f51 0) { n := 38, fr := [(0, AV.sl 1 (.ints .u32 a) ta), (1, AV.sl 1 (.ints .u32 b) tb), (5, AV.row 3 0 (↑a.length : Int).toNat (↑a.length : Int).toNat false), (6, AV.v (.int .u64 (0 : Int))), (13, AV.v (.int .i64 (↑a.length : Int))), (14, AV.v (.int .i64 (0 : Int)))], hp := [(3, AObj.row 22 1 (.ints .u32 (List.replicate (↑a.length : Int).toNat (0 : Int))) 0)], nx := 4 } (Exit.exit 0) { n := 38, fr := [(5, AV.row 3 0 n3 n3 false)], hp := [(3, AObj.row 22 1 (.ints .u32 l1) n2)], nx := 4 }, n3 = l1.length, n2 ≤ n3, l1.length < lim]) : PureTo Try.prog 51 [.sl 1 (.ints .u32 a) ta, .sl 1 (.ints .u32 b) tb] (AV.sl 1 (.ints .u32 (norm l1)) false) :=
  evFn_pure hm sok8 (fn := Try.f51) rfl rfl (ti := false) (hs := [CHint.loop [0, 1, 5, 6, 13, 14] [3] 4 (Exit.exit 0) { n := 38, fr := [(5, AV.row 3 0 n3 n3 false)], hp := [(3, AObj.row (22 : TypeId) 1 (.ints .u32 l1) n2)], nx := 4 }]) (c := _) (by kernel_rfl) h
-- 2 paths
theorem lessL0_1 (a b : List Int) (ta tb : Bool) (x0 : Int) (x1 : Int) (l0 : List Int) (n0 : Nat) (h : AllP [decide (x1 < (↑a.length : Int)) = true, Words a, (0 : Int) ≤ x1, Words b, (0 : Int) ≤ x1, l0.length = l0.length, l0.length = l0.length, (l0 ++ [((wd a x1 - wd b x1) % (18446744073709551616 : Int) - x0) % (18446744073709551616 : Int) % (4294967296 : Int)]).length * 4 ≤ 140737488355328, (0 : Int) ≤ (63 : Int), inR IntKind.i64 (x1 + (1 : Int))]) : To Try.prog (loopAt Try.f52 0) ({ n := 33, fr := [(0, AV.sl 1 (.ints .u32 a) ta), (1, AV.sl 1 (.ints .u32 b) tb), (5, AV.row 1 0 l0.length l0.length false), (6, AV.v (.int .u64 x0)), (7, AV.v (.int .i64 x1))], hp := [(1, AObj.row 22 1 (.ints .u32 l0) n0)], nx := 2 }) (.normal) { n := 33, fr := [(0, AV.sl 1 (.ints .u32 a) ta), (1, AV.sl 1 (.ints .u32 b) tb), (5, AV.row 1 0 (l0 ++ [((wd a x1 - wd b x1) % (18446744073709551616 : Int) - x0) % (18446744073709551616 : Int) % (4294967296 : Int)]).length (l0 ++ [((wd a x1 - wd b x1) % (18446744073709551616 : Int) - x0) % (18446744073709551616 : Int) % (4294967296 : Int)]).length false), (6, AV.v (.int .u64 (((wd a x1 - wd b x1) % (18446744073709551616 : Int) - x0) % (18446744073709551616 : Int) / (9223372036854775808 : Int)))), (7, AV.v (.int .i64 (x1 + (1 : Int))))], hp := [(1, AObj.row 22 1 (.ints .u32 (l0 ++ [((wd a x1 - wd b x1) % (18446744073709551616 : Int) - x0) % (18446744073709551616 : Int) % (4294967296 : Int)])) n0)], nx := 2 } :=
  evW_to hm sok8 (hs := [CHint.ops 4 [(3, Hint.b true)], CHint.ops 6 [(6, Hint.wrap), (8, Hint.wrap)]]) (slots := [0, 1, 5, 6, 7]) (keys := [1]) (nx := 2) (c := _) (by kernel_rfl) h
theorem lessL0_2 (a b : List Int) (ta tb : Bool) (x0 : Int) (x1 : Int) (l0 : List Int) (n0 : Nat) (h : AllP [decide (x1 < (↑a.length : Int)) = false]) : To Try.prog (loopAt Try.f52 0) ({ n := 33, fr := [(0, AV.sl 1 (.ints .u32 a) ta), (1, AV.sl 1 (.ints .u32 b) tb), (5, AV.row 1 0 l0.length l0.length false), (6, AV.v (.int .u64 x0)), (7, AV.v (.int .i64 x1))], hp := [(1, AObj.row 22 1 (.ints .u32 l0) n0)], nx := 2 }) (Exit.exit 0) { n := 33, fr := [(5, AV.row 1 0 l0.length l0.length false)], hp := [(1, AObj.row 22 1 (.ints .u32 l0) n0)], nx := 2 } :=
  evW_to hm sok8 (hs := [CHint.ops 4 [(3, Hint.b false)]]) (slots := [5]) (keys := [1]) (nx := 2) (c := _) (by kernel_rfl) h
-- 1 paths
theorem lessF1 (a b : List Int) (ta tb : Bool) (l1 : List Int) (n1 : Nat) (h : AllP [LoopTo Try.prog (loopAt Try.f52 0) { n := 33, fr := [(0, AV.sl 1 (.ints .u32 a) ta), (1, AV.sl 1 (.ints .u32 b) tb), (5, AV.row 1 0 0 0 false), (6, AV.v (.int .u64 (0 : Int))), (7, AV.v (.int .i64 (0 : Int)))], hp := [(1, AObj.row 22 1 (.ints .u32 []) 0)], nx := 2 } (Exit.exit 0) { n := 33, fr := [(5, AV.row 1 0 l1.length l1.length false)], hp := [(1, AObj.row 22 1 (.ints .u32 l1) n1)], nx := 2 }, l1.length = l1.length, n1 ≤ l1.length, l1.length ≤ lim4]) : PureTo Try.prog 52 [.sl 1 (.ints .u32 a) ta, .sl 1 (.ints .u32 b) tb] (AV.sl 1 (.ints .u32 (norm l1)) false) :=
  evFn_pure hm sok8 (fn := Try.f52) rfl rfl (ti := false) (hs := [CHint.ops 1 [(0, Hint.nil 22)], CHint.loop [0, 1, 5, 6, 7] [1] 2 (Exit.exit 0) { n := 33, fr := [(5, AV.row 1 0 l1.length l1.length false)], hp := [(1, AObj.row (22 : TypeId) 1 (.ints .u32 l1) n1)], nx := 2 }]) (c := _) (by kernel_rfl) h
end Go.Proofs.Bn

/- Sums and differences of naturals, word by word: plain law. -/
set_option maxRecDepth 100000
namespace Go.Proofs.Bn
open Go Go.Ev

theorem nat_snoc (l : List Int) (w : Int) (h : 0 ≤ w) : ((nat (l ++ [w]) : Nat) : Int) = nat l + 4294967296 ^ l.length * w := by
  rw [nat_append]
  simp only [nat]
  have : ((w.toNat : Nat) : Int) = w := by omega
  rw [Nat.mul_zero, Nat.add_zero, Int.natCast_add, Int.natCast_mul, Int.natCast_pow, this]
  rfl

theorem natW_next {a : List Int} (h : Words a) (n : Nat) : ((natW a (n + 1) : Nat) : Int) = natW a n + wd a n * 4294967296 ^ n := by
  have := words_getD h n
  rw [wd_nat, natW, Int.natCast_add, Int.natCast_mul, Int.natCast_pow]
  have e : (((a.getD n 0).toNat : Nat) : Int) = a.getD n 0 := by omega
  rw [e]
  rfl

theorem words_snoc {l : List Int} (h : Words l) {w : Int} (h0 : 0 ≤ w) (h1 : w < 4294967296) : Words (l ++ [w]) := by
  rw [words_append]
  exact ⟨h, fun y hy => by have := List.mem_singleton.1 hy; omega⟩

theorem add_step {a b l : List Int} {c s : Int} {n : Nat} (ha : Words a) (hb : Words b) (hl : l.length = n) (hs : s = wd a n + wd b n + c) (h0 : 0 ≤ s)
    (hi : (nat l : Int) + c * 4294967296 ^ n = natW a n + natW b n) : (nat (l ++ [s % 4294967296]) : Int) + s / 4294967296 * 4294967296 ^ (n + 1) = natW a (n + 1) + natW b (n + 1) := by
  rw [nat_snoc _ _ (by omega), natW_next ha, natW_next hb, hl, Int.pow_succ]
  have e : s % 4294967296 = s - 4294967296 * (s / 4294967296) := by omega
  rw [e]
  generalize s / 4294967296 = q
  generalize (4294967296 : Int) ^ n = B at *
  generalize wd a n = x at *
  generalize wd b n = y at *
  subst hs
  have e2 : (natW a n : Int) = nat l + c * B - natW b n := by omega
  rw [e2]
  grind

theorem sub_step {a b l : List Int} {c d w : Int} {n : Nat} (ha : Words a) (hb : Words b) (hl : l.length = n) (hd : d = wd a n - wd b n - c) (hw : w = d + 4294967296 * (if d < 0 then 1 else 0)) (hw0 : 0 ≤ w)
    (hi : (natW a n : Int) + c * 4294967296 ^ n = natW b n + nat l) : (natW a (n + 1) : Int) + (if d < 0 then 1 else 0) * 4294967296 ^ (n + 1) = natW b (n + 1) + nat (l ++ [w]) := by
  rw [nat_snoc _ _ hw0, natW_next ha, natW_next hb, hl, Int.pow_succ]
  generalize (if d < 0 then (1 : Int) else 0) = q at *
  generalize (4294967296 : Int) ^ n = B at *
  generalize wd a n = x at *
  generalize wd b n = y at *
  subst hd hw
  have e2 : (natW a n : Int) = natW b n + nat l - c * B := by omega
  rw [e2]
  grind

/-- borrow of a difference of words -/
theorem borrow_word {x y c : Int} (hx : 0 ≤ x ∧ x < 4294967296) (hy : 0 ≤ y ∧ y < 4294967296) (hc : 0 ≤ c ∧ c ≤ 1) :
    ((x - y) % 18446744073709551616 - c) % 18446744073709551616 % 4294967296 = (x - y - c) + 4294967296 * (if x - y - c < 0 then 1 else 0) ∧
    ((x - y) % 18446744073709551616 - c) % 18446744073709551616 / 9223372036854775808 = (if x - y - c < 0 then 1 else 0) := by
  split <;> omega

/-- a sum in numbers -/
def AddN (m n : Nat) : List Int × Int := if big m || big n || big (m + n) then ([], 3) else (dig (m + n), 0)

/-- a difference in numbers -/
def SubN (m n : Nat) : List Int × Int := if big m || big n then ([], 3) else if m < n then ([], 1) else (dig (m - n), 0)

end Go.Proofs.Bn

/- Bignum: contracts: Norm, Bits, Cmp, Add, Plus, sub, Less, checked. -/
set_option maxRecDepth 100000
namespace Go.Proofs.Bn
open Go Go.Ev

theorem pbits_pure (a : List Int) (ta : Bool) (h : Words a) (hl : a.length < lim) : PureTo Try.prog 22 [.sl 1 (.ints .u32 a) ta] (.v (.int .i64 (bl (nat a)))) := by
  have h1 := norm_length_le a
  have hl2 := hl
  unfold lim at hl2
  by_cases h0 : (norm a).length = 0
  · have e : nat a = 0 := by
      rw [← nat_norm, List.eq_nil_of_length_eq_zero h0]
      rfl
    rw [e]
    exact pbitsF1 a ta ⟨hl, by simp [h0], trivial⟩
  · obtain ⟨e1, e2⟩ := bl_words h h0
    have e3 : ((norm a).length - 1 : Int).toNat = (norm a).length - 1 := by omega
    have hw := words_getD (words_norm h) ((norm a).length - 1)
    have hb : bl ((norm a).getD ((norm a).length - 1) 0).toNat ≤ 32 := bl_small (by omega)
    have := pbitsF2 a ta (by
      rw [e3]
      refine ⟨hl, by simpa using h0, ?_⟩
      simp only [AllP, inR]
      (repeat' apply And.intro) <;> first | omega | exact trivial)
    rw [e3] at this
    have e4 : ((bl (nat a) : Nat) : Int) = 32 * (((norm a).length : Int) - 1) + (bl ((norm a).getD ((norm a).length - 1) 0).toNat : Int) := by omega
    rw [e4]
    exact this

theorem rbits_loop (a : List Int) (ta : Bool) : ∀ (f n : Nat) (x : Int), bl n = f → n < 4294967296 → 0 ≤ x → x + f < 1000000000000000000 →
    LoopTo Try.prog (loopAt Try.f23 0) { n := 28, fr := [(4, AV.v (.int .i64 x)), (5, AV.v (.int .u32 n))], hp := [], nx := 0 } (.exit 0) { n := 28, fr := [(4, AV.v (.int .i64 (x + f)))], hp := [], nx := 0 } := by
  intro f
  induction f with
  | zero =>
    intro n x hb hn h0 h1
    have : n = 0 := bl_zero.1 hb
    subst this
    rw [show (x + ((0 : Nat) : Int)) = x by omega]
    exact .done (by simp) (rbitsL0_2 a ta x 0 ⟨by simp, trivial⟩)
  | succ f ih =>
    intro n x hb hn h0 h1
    have hn0 : n ≠ 0 := fun e => by rw [bl_zero.2 e] at hb; omega
    have hs := bl_shift n 1
    have h2 := ih (n / 2) (x + 1) (by rw [show n / 2 = n / 2 ^ 1 from rfl, hs]; omega) (by omega) (by omega) (by omega)
    have e : (x + 1 + (f : Int)) = x + ((f + 1 : Nat) : Int) := by omega
    rw [e] at h2
    have h3 := rbitsL0_1 a ta x n (by
      refine ⟨by simp; omega, ?_⟩
      simp only [AllP, inR]
      (repeat' apply And.intro) <;> first | omega | exact trivial)
    exact .step h3 h2

theorem rbits_pure (a : List Int) (ta : Bool) (h : Words a) (hl : a.length ≤ lim4) : PureTo Try.prog 23 [.sl 1 (.ints .u32 a) ta] (.v (.int .i64 (bl (nat a)))) := by
  have h1 := norm_length_le a
  have hl2 := hl
  unfold lim4 at hl2
  by_cases h0 : (norm a).length = 0
  · have e : nat a = 0 := by
      rw [← nat_norm, List.eq_nil_of_length_eq_zero h0]
      rfl
    rw [e]
    exact rbitsF1 a ta 0 ⟨hl, by simp [h0], trivial⟩
  · obtain ⟨e1, e2⟩ := bl_words h h0
    have e3 : ((norm a).length - 1 : Int).toNat = (norm a).length - 1 := by omega
    have hw := words_getD (words_norm h) ((norm a).length - 1)
    generalize hx : (norm a).getD ((norm a).length - 1) 0 = x at *
    have hb32 : bl x.toNat ≤ 32 := bl_small (by omega)
    have hlp := rbits_loop a ta (bl x.toNat) x.toNat (32 * (((norm a).length : Int) - 1)) rfl (by omega) (by omega) (by omega)
    have ex : ((x.toNat : Nat) : Int) = x := by omega
    rw [ex] at hlp
    have := rbitsF2 a ta (32 * (((norm a).length : Int) - 1) + (bl x.toNat : Int)) (by
      rw [e3, hx]
      refine ⟨hl, by simpa using h0, ?_, ?_, ?_, ?_, hlp, trivial⟩
      all_goals first | (simp only [inR]; omega) | omega)
    have e4 : ((bl (nat a) : Nat) : Int) = 32 * (((norm a).length : Int) - 1) + (bl x.toNat : Int) := by omega
    rw [e4]
    exact this

theorem cmp_loop (a b : List Int) (ta tb : Bool) (ha : Words (norm a)) (hb : Words (norm b)) : ∀ i : Nat, i ≤ (norm a).length → i ≤ (norm b).length → i < 1000000000000000 →
    (cmpN (natW (norm a) i) (natW (norm b) i) = 0 → LoopTo Try.prog (loopAt Try.f20 0) { n := 45, fr := [(0, AV.sl 1 (.ints .u32 (norm a)) true), (1, AV.sl 1 (.ints .u32 (norm b)) true), (5, AV.v (.int .i64 ((i : Int) - 1)))], hp := [], nx := 0 } (.exit 0) { n := 45, fr := [], hp := [], nx := 0 }) ∧
    (cmpN (natW (norm a) i) (natW (norm b) i) ≠ 0 → LoopTo Try.prog (loopAt Try.f20 0) { n := 45, fr := [(0, AV.sl 1 (.ints .u32 (norm a)) true), (1, AV.sl 1 (.ints .u32 (norm b)) true), (5, AV.v (.int .i64 ((i : Int) - 1)))], hp := [], nx := 0 } .ret
      { n := 45, fr := [(4, AV.v (.int .i64 (cmpN (natW (norm a) i) (natW (norm b) i))))], hp := [], nx := 0 }) := by
  intro i
  induction i with
  | zero =>
    intro h1 h2 h3
    refine ⟨fun _ => .done (by simp) (cmpL0_4 a b ta tb _ ⟨by simp, trivial⟩), fun h => absurd rfl h⟩
  | succ i ih =>
    intro h1 h2 h3
    have ih := ih (by omega) (by omega) (by omega)
    rw [cmp_step ha hb]
    have e : ((i + 1 : Nat) : Int) - 1 = (i : Int) := by omega
    rw [e]
    by_cases c1 : (norm a).getD i 0 < (norm b).getD i 0
    · simp only [if_pos c1]
      refine ⟨fun h => (by cases h), fun _ => .done (by simp) (cmpL0_1 a b ta tb i (by
        rw [Int.toNat_natCast]
        exact (by simp only [AllP, inR, decide_eq_false_iff_not, decide_eq_true_eq, bne_iff_ne, beq_iff_eq, ne_eq, bne_eq_false_iff_eq, beq_eq_false_iff_ne]; (repeat' apply And.intro) <;> first | omega | exact trivial)))⟩
    · by_cases c2 : (norm b).getD i 0 < (norm a).getD i 0
      · simp only [if_neg c1, if_pos c2]
        refine ⟨fun h => (by cases h), fun _ => .done (by simp) (cmpL0_2 a b ta tb i (by
          rw [Int.toNat_natCast]
          exact (by simp only [AllP, inR, decide_eq_false_iff_not, decide_eq_true_eq, bne_iff_ne, beq_iff_eq, ne_eq, bne_eq_false_iff_eq, beq_eq_false_iff_ne]; (repeat' apply And.intro) <;> first | omega | exact trivial)))⟩
      · simp only [if_neg c1, if_neg c2]
        have hs := cmpL0_3 a b ta tb i (by
          rw [Int.toNat_natCast]
          exact (by simp only [AllP, inR, decide_eq_false_iff_not, decide_eq_true_eq, bne_iff_ne, beq_iff_eq, ne_eq, bne_eq_false_iff_eq, beq_eq_false_iff_ne]; (repeat' apply And.intro) <;> first | omega | exact trivial))
        exact ⟨fun h => .step hs (ih.1 h), fun h => .step hs (ih.2 h)⟩

theorem cmp_pure (a b : List Int) (ta tb : Bool) (ha : Words a) (hb : Words b) (hla : a.length < lim) (hlb : b.length < lim) : PureTo Try.prog 20 [.sl 1 (.ints .u32 a) ta, .sl 1 (.ints .u32 b) tb] (.v (.int .i64 (cmpN (nat a) (nat b)))) := by
  have h1 := norm_length_le a
  have h2 := norm_length_le b
  have hla2 := hla
  have hlb2 := hlb
  unfold lim at hla2 hlb2
  by_cases c1 : (norm a).length = (norm b).length
  · have h := cmp_loop a b ta tb (words_norm ha) (words_norm hb) (norm a).length (Nat.le_refl _) (by omega) (by omega)
    have ea : natW (norm a) (norm a).length = nat a := by rw [natW_all _ _ (Nat.le_refl _), nat_norm]
    have eb : natW (norm b) (norm a).length = nat b := by rw [natW_all _ _ (by omega), nat_norm]
    rw [ea, eb] at h
    by_cases c2 : cmpN (nat a) (nat b) = 0
    · rw [c2]
      exact cmpF3 a b ta tb 0 ⟨hla, hlb, by simp [c1], inR64 (by omega) (by omega), h.1 c2, trivial⟩
    · exact cmpF4 a b ta tb _ ⟨hla, hlb, by simp [c1], inR64 (by omega) (by omega), h.2 c2, trivial⟩
  · by_cases c2 : (norm a).length < (norm b).length
    · have := cmp_len ha hb c2
      unfold cmpN
      rw [if_pos this]
      exact cmpF1 a b ta tb 0 ⟨hla, hlb, by simp; omega, by simpa using c2, trivial⟩
    · have := cmp_len hb ha (show (norm b).length < (norm a).length by omega)
      unfold cmpN
      rw [if_neg (by omega), if_pos this]
      exact cmpF2 a b ta tb 0 ⟨hla, hlb, by simp; omega, by simp; omega, trivial⟩

theorem rcm_loop (a b : List Int) (ta tb : Bool) (ha : Words a) (hb : Words b) : ∀ i : Nat, i < 1000000000000000 →
    (cmpN (natW a i) (natW b i) = 0 → LoopTo Try.prog (loopAt Try.f21 0) (rcmS0 a b ta tb ((i : Int) - 1)) (.exit 0) (rcmX0 a b ta tb)) ∧
    (cmpN (natW a i) (natW b i) ≠ 0 → LoopTo Try.prog (loopAt Try.f21 0) (rcmS0 a b ta tb ((i : Int) - 1)) .ret (rcmX0_1 a b ta tb (cmpN (natW a i) (natW b i)))) := by
  intro i
  induction i with
  | zero =>
    intro h3
    refine ⟨fun _ => .done (by simp) (rcmL0_4 a b ta tb _ ⟨by simp, trivial⟩), fun h => absurd rfl h⟩
  | succ i ih =>
    intro h3
    have ih := ih (by omega)
    rw [cmp_step ha hb]
    have e : ((i + 1 : Nat) : Int) - 1 = (i : Int) := by omega
    rw [e]
    have wa := wd_nat a i
    have wb := wd_nat b i
    by_cases c1 : a.getD i 0 < b.getD i 0
    · simp only [if_pos c1]
      exact ⟨fun h => (by cases h), fun _ => .done (by simp) (rcmL0_1 a b ta tb i (by rw [wa, wb]; exact ⟨by simp, ha, by omega, hb, by omega, by simpa using c1, trivial⟩))⟩
    · by_cases c2 : b.getD i 0 < a.getD i 0
      · simp only [if_neg c1, if_pos c2]
        exact ⟨fun h => (by cases h), fun _ => .done (by simp) (rcmL0_2 a b ta tb i (by rw [wa, wb]; exact ⟨by simp, ha, by omega, hb, by omega, by simpa using c1, ha, by omega, hb, by omega, by simpa using c2, trivial⟩))⟩
      · simp only [if_neg c1, if_neg c2]
        have hs := rcmL0_3 a b ta tb i (by rw [wa, wb]; exact ⟨by simp, ha, by omega, hb, by omega, by simpa using c1, ha, by omega, hb, by omega, by simpa using c2, inR64 (by omega) (by omega), trivial⟩)
        exact ⟨fun h => .step hs (ih.1 h), fun h => .step hs (ih.2 h)⟩

theorem rcm_pure (a b : List Int) (ta tb : Bool) (ha : Words a) (hb : Words b) (hla : a.length < lim) (hlb : b.length < lim) : PureTo Try.prog 21 [.sl 1 (.ints .u32 a) ta, .sl 1 (.ints .u32 b) tb] (.v (.int .i64 (cmpN (nat a) (nat b)))) := by
  unfold lim at hla hlb
  by_cases c1 : a.length < b.length
  · have h := rcm_loop a b ta tb ha hb b.length (by omega)
    rw [natW_all a _ (by omega), natW_all b _ (Nat.le_refl _)] at h
    by_cases c2 : cmpN (nat a) (nat b) = 0
    · rw [c2]
      exact rcmF1 a b ta tb 0 ⟨by simpa using c1, inR64 (by omega) (by omega), h.1 c2, trivial⟩
    · exact rcmF2 a b ta tb _ ⟨by simpa using c1, inR64 (by omega) (by omega), h.2 c2, trivial⟩
  · have h := rcm_loop a b ta tb ha hb a.length (by omega)
    rw [natW_all a _ (Nat.le_refl _), natW_all b _ (by omega)] at h
    by_cases c2 : cmpN (nat a) (nat b) = 0
    · rw [c2]
      exact rcmF3 a b ta tb 0 ⟨by simpa using c1, inR64 (by omega) (by omega), h.1 c2, trivial⟩
    · exact rcmF4 a b ta tb _ ⟨by simpa using c1, inR64 (by omega) (by omega), h.2 c2, trivial⟩

/-! ### sums and differences -/

theorem add_loop (a b : List Int) (ta tb : Bool) (ha : Words (norm a)) (hb : Words (norm b)) (n : Nat) (hn : (n : Int) = (if (↑(norm b).length : Int) > (↑(norm a).length : Int) then (↑(norm b).length : Int) else (↑(norm a).length : Int)) + 1) (hlim : n < 1000000000) : ∀ (f i : Nat) (l : List Int) (c : Int), i + f = n → l.length = i → Words l → (0 ≤ c ∧ c ≤ 1) →
    (nat l : Int) + c * 4294967296 ^ i = natW (norm a) i + natW (norm b) i →
    ∃ l1 : List Int, ∃ c1 : Int, l1.length = n ∧ Words l1 ∧ (0 ≤ c1 ∧ c1 ≤ 1) ∧ (nat l1 : Int) + c1 * 4294967296 ^ n = natW (norm a) n + natW (norm b) n ∧ LoopTo Try.prog (loopAt Try.f24 0) (addS0 a b ta tb c i l 0) (.exit 0) (addX0 a b ta tb l1 0) := by
  intro f
  induction f with
  | zero =>
    intro i l c hi hl hw hc hinv
    have : i = n := by omega
    subst this
    exact ⟨l, c, hl, hw, hc, hinv, .done (by simp) (addL0_2 a b ta tb c i l 0 ⟨by rw [← hn]; simp, trivial⟩)⟩
  | succ f ih =>
    intro i l c hi hl hw hc hinv
    have hx := wd_bound ha i
    have hy := wd_bound hb i
    have hs : 0 ≤ wd (norm a) i + wd (norm b) i + c := by omega
    have h1 := addL0_1 a b ta tb c i l 0 (by
      rw [← hn]
      refine ⟨by simp; omega, ha, hb, ⟨by omega, by omega⟩, ⟨by omega, by omega⟩, rfl, rfl, ?_, by omega, inR64 (by omega) (by omega), trivial⟩
      simp
      omega)
    obtain ⟨l1, c1, g1, g2, g3, g4, g5⟩ := ih (i + 1) (l ++ [(wd (norm a) i + wd (norm b) i + c) % 4294967296]) ((wd (norm a) i + wd (norm b) i + c) / 4294967296) (by omega) (by simp [hl]) (words_snoc hw (by omega) (by omega)) (by omega) (add_step ha hb hl rfl hs hinv)
    exact ⟨l1, c1, g1, g2, g3, g4, .step h1 g5⟩

theorem small_of_over {a : List Int} (h : over a = false) : (norm a).length ≤ 1024 := by
  unfold over at h
  simpa using h

theorem add_pure (a b : List Int) (ta tb : Bool) (ha : Words a) (hb : Words b) (hla : a.length < lim) (hlb : b.length < lim) : PureTo Try.prog 24 [.sl 1 (.ints .u32 a) ta, .sl 1 (.ints .u32 b) tb] (.tup [.sl 1 (.ints .u32 (AddN (nat a) (nat b)).1) false, .v (.int .i64 (AddN (nat a) (nat b)).2)]) := by
  unfold AddN
  rw [← over_big ha, ← over_big hb]
  cases ho : over a || over b with
  | true => exact addF1 a b ta tb [] 0 ⟨ho, hla, hlb, trivial⟩
  | false =>
    simp only [Bool.or_eq_false_iff] at ho
    have h1 := small_of_over ho.1
    have h2 := small_of_over ho.2
    obtain ⟨n, hn⟩ : ∃ n : Nat, (n : Int) = (if (↑(norm b).length : Int) > (↑(norm a).length : Int) then (↑(norm b).length : Int) else (↑(norm a).length : Int)) + 1 := ⟨((if (↑(norm b).length : Int) > (↑(norm a).length : Int) then (↑(norm b).length : Int) else (↑(norm a).length : Int)) + 1).toNat, by split <;> omega⟩
    have hn1 : (norm a).length + 1 ≤ n ∧ (norm b).length + 1 ≤ n ∧ n ≤ 1025 := by split at hn <;> omega
    obtain ⟨l1, c1, g1, g2, g3, g4, g5⟩ := add_loop a b ta tb (words_norm ha) (words_norm hb) n hn (by omega) n 0 [] 0 (by omega) rfl (fun x hx => by cases hx) (by omega) (by simp [natW, nat])
    have ea : natW (norm a) n = nat a := by rw [natW_all _ _ (by omega), nat_norm]
    have eb : natW (norm b) n = nat b := by rw [natW_all _ _ (by omega), nat_norm]
    rw [ea, eb] at g4
    -- there is nothing to carry
    have hA : nat a < 4294967296 ^ (n - 1) := by
      have h3 := nat_lt (words_norm ha)
      rw [nat_norm] at h3
      exact Nat.lt_of_lt_of_le h3 (Nat.pow_le_pow_right (by omega) (by omega))
    have hB : nat b < 4294967296 ^ (n - 1) := by
      have h3 := nat_lt (words_norm hb)
      rw [nat_norm] at h3
      exact Nat.lt_of_lt_of_le h3 (Nat.pow_le_pow_right (by omega) (by omega))
    have hp : (4294967296 : Nat) ^ n = 4294967296 ^ (n - 1) * 4294967296 := by rw [← Nat.pow_succ]; congr 1; omega
    have hpi : (4294967296 : Int) ^ n = ((4294967296 ^ n : Nat) : Int) := by rw [Int.natCast_pow]; rfl
    rw [hpi] at g4
    have hc : c1 = 0 := by
      rcases (show c1 = 0 ∨ c1 = 1 by omega) with h | h
      · exact h
      · subst h
        omega
    subst hc
    have hsum : nat l1 = nat a + nat b := by omega
    have h := addF2 a b ta tb l1 0 (by
      refine ⟨by simp [ho], hla, hlb, hla, hlb, by rw [← hn]; exact inR64 (by omega) (by omega), g5, rfl, by omega, by unfold lim; omega, trivial⟩)
    have e : (toldL l1, toldE l1) = (if big (nat a + nat b) = true then (([], 3) : List Int × Int) else (dig (nat a + nat b), 0)) := by
      unfold toldL toldE
      rw [over_big g2, hsum, norm_eq g2, hsum]
      cases big (nat a + nat b) <;> rfl
    have e1 : toldL l1 = (if big (nat a + nat b) = true then (([], 3) : List Int × Int) else (dig (nat a + nat b), 0)).1 := by rw [← e]
    have e2 : toldE l1 = (if big (nat a + nat b) = true then (([], 3) : List Int × Int) else (dig (nat a + nat b), 0)).2 := by rw [← e]
    rw [e1, e2] at h
    simpa [ho] using h

end Go.Proofs.Bn

/- Bignum: contracts: Plus, sub, Less, checked. -/
set_option maxRecDepth 100000
namespace Go.Proofs.Bn
open Go Go.Ev

theorem lim4_lt {n : Nat} (h : n ≤ lim4) : n < lim := by unfold lim4 at h; unfold lim; omega

theorem pow_int (n : Nat) : (4294967296 : Int) ^ n = ((4294967296 ^ n : Nat) : Int) := by rw [Int.natCast_pow]; rfl

theorem plus_loop (a b : List Int) (ta tb : Bool) (ha : Words a) (hb : Words b) (n : Nat) (h1 : a.length ≤ n) (h2 : b.length ≤ n) (h3 : n = a.length ∨ n = b.length) (hlim : n + 1 ≤ lim4) : ∀ (f i : Nat) (l : List Int) (c : Int), i + f = n → l.length = i → Words l → (0 ≤ c ∧ c ≤ 1) →
    (nat l : Int) + c * 4294967296 ^ i = natW a i + natW b i →
    ∃ l1 : List Int, ∃ c1 : Int, l1.length = n ∧ Words l1 ∧ (0 ≤ c1 ∧ c1 ≤ 1) ∧ (nat l1 : Int) + c1 * 4294967296 ^ n = natW a n + natW b n ∧ LoopTo Try.prog (loopAt Try.f50 0) (plusS0 a b ta tb c i l 0) (.exit 0) (plusX0 a b ta tb c1 l1 0) := by
  unfold lim4 at hlim
  intro f
  induction f with
  | zero =>
    intro i l c hi hl hw hc hinv
    have : i = n := by omega
    subst this
    exact ⟨l, c, hl, hw, hc, hinv, .done (by simp) (plusL0_3 a b ta tb c i l 0 ⟨by simp; omega, by simp; omega, trivial⟩)⟩
  | succ f ih =>
    intro i l c hi hl hw hc hinv
    have hx := wd_bound ha i
    have hy := wd_bound hb i
    have hs : 0 ≤ wd a i + wd b i + c := by omega
    obtain ⟨l1, c1, g1, g2, g3, g4, g5⟩ := ih (i + 1) (l ++ [(wd a i + wd b i + c) % 4294967296]) ((wd a i + wd b i + c) / 4294967296) (by omega) (by simp [hl]) (words_snoc hw (by omega) (by omega)) (by omega) (add_step ha hb hl rfl hs hinv)
    have hlen : (l ++ [(wd a i + wd b i + c) % 4294967296]).length * 4 ≤ 140737488355328 := by simp; omega
    by_cases hia : i < a.length
    · have h1 := plusL0_1 a b ta tb c i l 0 ⟨by simp; omega, ha, by omega, hb, by omega, ⟨by omega, by omega⟩, ⟨by omega, by omega⟩, rfl, rfl, hlen, by omega, inR64 (by omega) (by omega), trivial⟩
      exact ⟨l1, c1, g1, g2, g3, g4, .step h1 g5⟩
    · have h1 := plusL0_2 a b ta tb c i l 0 ⟨by simp; omega, by simp; omega, ha, by omega, hb, by omega, ⟨by omega, by omega⟩, ⟨by omega, by omega⟩, rfl, rfl, hlen, by omega, inR64 (by omega) (by omega), trivial⟩
      exact ⟨l1, c1, g1, g2, g3, g4, .step h1 g5⟩

theorem plus_pure (a b : List Int) (ta tb : Bool) (ha : Words a) (hb : Words b) (hla : a.length + 1 ≤ lim4) (hlb : b.length + 1 ≤ lim4) : PureTo Try.prog 50 [.sl 1 (.ints .u32 a) ta, .sl 1 (.ints .u32 b) tb] (.sl 1 (.ints .u32 (dig (nat a + nat b))) false) := by
  obtain ⟨n, h1, h2, h3, h4⟩ : ∃ n, a.length ≤ n ∧ b.length ≤ n ∧ (n = a.length ∨ n = b.length) ∧ n + 1 ≤ lim4 := by
    rcases Nat.le_total a.length b.length with h | h
    · exact ⟨b.length, h, Nat.le_refl _, .inr rfl, hlb⟩
    · exact ⟨a.length, Nat.le_refl _, h, .inl rfl, hla⟩
  obtain ⟨l1, c1, g1, g2, g3, g4, g5⟩ := plus_loop a b ta tb ha hb n h1 h2 h3 h4 n 0 [] 0 (by omega) rfl (fun x hx => by cases hx) (by omega) (by simp [natW, nat])
  rw [natW_all _ _ h1, natW_all _ _ h2] at g4
  have hw : Words (l1 ++ [c1 % 4294967296]) := words_snoc g2 (by omega) (by omega)
  have hsum : nat (l1 ++ [c1 % 4294967296]) = nat a + nat b := by
    have := nat_snoc l1 (c1 % 4294967296) (by omega)
    rw [g1, Int.emod_eq_of_lt g3.1 (by omega), Int.mul_comm] at this
    rw [Int.emod_eq_of_lt g3.1 (by omega)]
    omega
  have hlen : (l1 ++ [c1 % 4294967296]).length = n + 1 := by simp [g1]
  unfold lim4 at h4
  have h := plusF1 a b ta tb c1 l1 0 ⟨g5, rfl, rfl, by rw [hlen]; omega, rfl, by omega, by rw [hlen]; unfold lim4; omega, trivial⟩
  rw [norm_eq hw, hsum] at h
  exact h

theorem dif_end {a b l : List Int} {c : Int} (ha : Words a) (hb : Words b) (hl : Words l) (hlen : l.length = a.length) (hc : 0 ≤ c ∧ c ≤ 1) (hlb : b.length ≤ a.length) (hle : nat b ≤ nat a)
    (hinv : (natW a a.length : Int) + c * 4294967296 ^ a.length = natW b a.length + nat l) : nat l = nat a - nat b := by
  rw [natW_all _ _ (Nat.le_refl _), natW_all _ _ hlb, pow_int] at hinv
  have h1 := nat_lt hl
  rw [hlen] at h1
  have : c = 0 := by
    rcases (show c = 0 ∨ c = 1 by omega) with h | h
    · exact h
    · subst h; omega
  subst this
  omega

theorem sub_loop (a b : List Int) (ta tb : Bool) (ha : Words a) (hb : Words b) (hlim : a.length < lim) : ∀ (f i : Nat) (l : List Int) (c : Int), i + f = a.length → l.length = i → Words l → (0 ≤ c ∧ c ≤ 1) →
    (natW a i : Int) + c * 4294967296 ^ i = natW b i + nat l →
    ∃ l1 : List Int, ∃ c1 : Int, l1.length = a.length ∧ Words l1 ∧ (0 ≤ c1 ∧ c1 ≤ 1) ∧ (natW a a.length : Int) + c1 * 4294967296 ^ a.length = natW b a.length + nat l1 ∧
      LoopTo Try.prog (loopAt Try.f51 0) (subS0 a b ta tb c i (l ++ List.replicate f 0) a.length a.length) (.exit 0) (subX0 a b ta tb l1 a.length a.length) := by
  unfold lim at hlim
  intro f
  induction f with
  | zero =>
    intro i l c hi hl hw hc hinv
    have : i = a.length := by omega
    subst this
    exact ⟨l, c, hl, hw, hc, hinv, by simp only [List.replicate_zero, List.append_nil]; exact .done (by simp) (subL0_2 a b ta tb c a.length l a.length a.length ⟨by simp, trivial⟩)⟩
  | succ f ih =>
    intro i l c hi hl hw hc hinv
    have hx := wd_bound ha i
    have hy := wd_bound hb i
    have hg := wd_nat a i
    obtain ⟨e1, e2⟩ := borrow_word hx hy hc
    have h1 := subL0_1 a b ta tb c i (l ++ List.replicate (f + 1) 0) a.length a.length (by
      rw [Int.toNat_natCast, ← hg]
      exact ⟨by simp; omega, by omega, inRu64 (by omega) (by omega), hb, by omega, by simp; omega, by omega, inR64 (by omega) (by omega), trivial⟩)
    rw [Int.toNat_natCast, ← hg, ix0, e1, e2] at h1
    generalize hw2 : (wd a i - wd b i - c) + 4294967296 * (if wd a i - wd b i - c < 0 then (1 : Int) else 0) = w at *
    have hwb : 0 ≤ w ∧ w < 4294967296 := by rw [← hw2]; split <;> omega
    obtain ⟨l1, c1, g1, g2, g3, g4, g5⟩ := ih (i + 1) (l ++ [w]) (if wd a i - wd b i - c < 0 then 1 else 0) (by omega) (by simp [hl]) (words_snoc hw hwb.1 hwb.2) (by split <;> omega) (sub_step ha hb hl rfl hw2.symm hwb.1 hinv)
    refine ⟨l1, c1, g1, g2, g3, g4, .step h1 ?_⟩
    have e3 : (l ++ List.replicate (f + 1) 0).set i w = l ++ [w] ++ List.replicate f 0 := by
      rw [List.set_append_right _ _ (by omega), hl, Nat.sub_self, List.replicate_succ, List.set_cons_zero]
      simp
    have e4 : (l ++ List.replicate (f + 1) (0 : Int)).length = a.length := by simp; omega
    rw [e3, e4]
    exact g5

theorem sub_pure (a b : List Int) (ta tb : Bool) (ha : Words a) (hb : Words b) (hla : a.length ≤ lim4) (hlb : b.length ≤ a.length) (hle : nat b ≤ nat a) : PureTo Try.prog 51 [.sl 1 (.ints .u32 a) ta, .sl 1 (.ints .u32 b) tb] (.sl 1 (.ints .u32 (dig (nat a - nat b))) false) := by
  obtain ⟨l1, c1, g1, g2, g3, g4, g5⟩ := sub_loop a b ta tb ha hb (lim4_lt hla) a.length 0 [] 0 (by omega) rfl (fun x hx => by cases hx) (by omega) (by simp [natW, nat])
  have hd := dif_end ha hb g2 g1 g3 hlb hle g4
  have hla2 := hla
  unfold lim4 at hla2
  have h := subF1 a b ta tb l1 a.length a.length ⟨by omega, by omega, .raise (by
    simp only [List.nil_append] at g5
    rw [Int.toNat_natCast]
    have e : (List.replicate a.length (0 : Int)).length = a.length := by simp
    show LoopTo _ _ { n := _, fr := _, hp := [(3, .row 22 1 (.ints .u32 (List.replicate a.length 0)) (List.replicate a.length (0 : Int)).length)], nx := _ } _ _
    rw [e]
    exact g5), g1.symm, Nat.le_refl _, by unfold lim; omega, trivial⟩
  rw [norm_eq g2, hd] at h
  exact h

theorem less_loop (a b : List Int) (ta tb : Bool) (ha : Words a) (hb : Words b) (hlim : a.length + 1 ≤ lim4) : ∀ (f i : Nat) (l : List Int) (c : Int), i + f = a.length → l.length = i → Words l → (0 ≤ c ∧ c ≤ 1) →
    (natW a i : Int) + c * 4294967296 ^ i = natW b i + nat l →
    ∃ l1 : List Int, ∃ c1 : Int, l1.length = a.length ∧ Words l1 ∧ (0 ≤ c1 ∧ c1 ≤ 1) ∧ (natW a a.length : Int) + c1 * 4294967296 ^ a.length = natW b a.length + nat l1 ∧
      LoopTo Try.prog (loopAt Try.f52 0) (lessS0 a b ta tb c i l 0) (.exit 0) (lessX0 a b ta tb l1 0) := by
  unfold lim4 at hlim
  intro f
  induction f with
  | zero =>
    intro i l c hi hl hw hc hinv
    have : i = a.length := by omega
    subst this
    exact ⟨l, c, hl, hw, hc, hinv, .done (by simp) (lessL0_2 a b ta tb c a.length l 0 ⟨by simp, trivial⟩)⟩
  | succ f ih =>
    intro i l c hi hl hw hc hinv
    have hx := wd_bound ha i
    have hy := wd_bound hb i
    obtain ⟨e1, e2⟩ := borrow_word hx hy hc
    have h1 := lessL0_1 a b ta tb c i l 0 ⟨by simp; omega, ha, by omega, hb, by omega, rfl, rfl, by simp; omega, by omega, inR64 (by omega) (by omega), trivial⟩
    rw [e1, e2] at h1
    generalize hw2 : (wd a i - wd b i - c) + 4294967296 * (if wd a i - wd b i - c < 0 then (1 : Int) else 0) = w at *
    have hwb : 0 ≤ w ∧ w < 4294967296 := by rw [← hw2]; split <;> omega
    obtain ⟨l1, c1, g1, g2, g3, g4, g5⟩ := ih (i + 1) (l ++ [w]) (if wd a i - wd b i - c < 0 then 1 else 0) (by omega) (by simp [hl]) (words_snoc hw hwb.1 hwb.2) (by split <;> omega) (sub_step ha hb hl rfl hw2.symm hwb.1 hinv)
    exact ⟨l1, c1, g1, g2, g3, g4, .step h1 g5⟩

theorem less_pure (a b : List Int) (ta tb : Bool) (ha : Words a) (hb : Words b) (hla : a.length + 1 ≤ lim4) (hlb : b.length ≤ a.length) (hle : nat b ≤ nat a) : PureTo Try.prog 52 [.sl 1 (.ints .u32 a) ta, .sl 1 (.ints .u32 b) tb] (.sl 1 (.ints .u32 (dig (nat a - nat b))) false) := by
  obtain ⟨l1, c1, g1, g2, g3, g4, g5⟩ := less_loop a b ta tb ha hb hla a.length 0 [] 0 (by omega) rfl (fun x hx => by cases hx) (by omega) (by simp [natW, nat])
  have hd := dif_end ha hb g2 g1 g3 hlb hle g4
  have h := lessF1 a b ta tb l1 0 ⟨g5, rfl, by omega, by omega, trivial⟩
  rw [norm_eq g2, hd] at h
  exact h

theorem checked_pure (a : List Int) (ta : Bool) (hw : Words a) (hl : a.length ≤ lim4) : PureTo Try.prog 49 [.sl 1 (.ints .u32 a) ta] (.tup [.sl 1 (.ints .u32 (if big (nat a) then [] else dig (nat a))) false, .v (.int .i64 (if big (nat a) then 3 else 0))]) := by
  rw [← over_big hw, ← norm_eq hw]
  cases h : over a with
  | true => exact checkedF1 a ta ⟨h, hl, trivial⟩
  | false => exact checkedF2 a ta ⟨h, hl, hl, trivial⟩

def sigPNorm : List AV → Option (AV × List Prop)
  | [.sl 1 (.ints .u32 a) _] => some (.sl 1 (.ints .u32 (norm a)) false, [a.length ≤ lim4])
  | _ => none
def sigBits : List AV → Option (AV × List Prop)
  | [.sl 1 (.ints .u32 a) _] => some (.v (.int .i64 (bl (nat a))), [Words a, a.length ≤ lim4])
  | _ => none
def sigCmp : List AV → Option (AV × List Prop)
  | [.sl 1 (.ints .u32 a) _, .sl 1 (.ints .u32 b) _] => some (.v (.int .i64 (cmpN (nat a) (nat b))), [Words a, Words b, a.length < lim, b.length < lim])
  | _ => none
def sigAdd : List AV → Option (AV × List Prop)
  | [.sl 1 (.ints .u32 a) _, .sl 1 (.ints .u32 b) _] => some (.tup [.sl 1 (.ints .u32 (AddN (nat a) (nat b)).1) false, .v (.int .i64 (AddN (nat a) (nat b)).2)], [Words a, Words b, a.length < lim, b.length < lim])
  | _ => none
def sigPlus : List AV → Option (AV × List Prop)
  | [.sl 1 (.ints .u32 a) _, .sl 1 (.ints .u32 b) _] => some (.sl 1 (.ints .u32 (dig (nat a + nat b))) false, [Words a, Words b, a.length + 1 ≤ lim4, b.length + 1 ≤ lim4])
  | _ => none
def sigSub : List AV → Option (AV × List Prop)
  | [.sl 1 (.ints .u32 a) _, .sl 1 (.ints .u32 b) _] => some (.sl 1 (.ints .u32 (dig (nat a - nat b))) false, [Words a, Words b, a.length ≤ lim4, b.length ≤ a.length, nat b ≤ nat a])
  | _ => none
def sigLess : List AV → Option (AV × List Prop)
  | [.sl 1 (.ints .u32 a) _, .sl 1 (.ints .u32 b) _] => some (.sl 1 (.ints .u32 (dig (nat a - nat b))) false, [Words a, Words b, a.length + 1 ≤ lim4, b.length ≤ a.length, nat b ≤ nat a])
  | _ => none
def sigChecked : List AV → Option (AV × List Prop)
  | [.sl 1 (.ints .u32 a) _] => some (.tup [.sl 1 (.ints .u32 (if big (nat a) then [] else dig (nat a))) false, .v (.int .i64 (if big (nat a) then 3 else 0))], [Words a, a.length ≤ lim4])
  | _ => none

def SG9 : SGT := (15, .p sigPNorm) :: (22, .p sigBits) :: (23, .p sigBits) :: (20, .p sigCmp) :: (21, .p sigCmp) :: (24, .p sigAdd) :: (50, .p sigPlus) :: (51, .p sigSub) :: (52, .p sigLess) :: (49, .p sigChecked) :: SG8

theorem sok9 : SigsOK Try.prog SG9 := by
  refine sigs_cons (sigs_cons (sigs_cons (sigs_cons (sigs_cons (sigs_cons (sigs_cons (sigs_cons (sigs_cons (sigs_cons sok8 ?_) ?_) ?_) ?_) ?_) ?_) ?_) ?_) ?_) ?_
  · intro ys r c h hc
    unfold sigChecked at h
    split at h
    · cases h; exact checked_pure _ _ hc.1 hc.2.1
    · cases h
  · intro ys r c h hc
    unfold sigLess at h
    split at h
    · cases h; exact less_pure _ _ _ _ hc.1 hc.2.1 hc.2.2.1 hc.2.2.2.1 hc.2.2.2.2.1
    · cases h
  · intro ys r c h hc
    unfold sigSub at h
    split at h
    · cases h; exact sub_pure _ _ _ _ hc.1 hc.2.1 hc.2.2.1 hc.2.2.2.1 hc.2.2.2.2.1
    · cases h
  · intro ys r c h hc
    unfold sigPlus at h
    split at h
    · cases h; exact plus_pure _ _ _ _ hc.1 hc.2.1 hc.2.2.1 hc.2.2.2.1
    · cases h
  · intro ys r c h hc
    unfold sigAdd at h
    split at h
    · cases h; exact add_pure _ _ _ _ hc.1 hc.2.1 hc.2.2.1 hc.2.2.2.1
    · cases h
  · intro ys r c h hc
    unfold sigCmp at h
    split at h
    · cases h; exact rcm_pure _ _ _ _ hc.1 hc.2.1 hc.2.2.1 hc.2.2.2.1
    · cases h
  · intro ys r c h hc
    unfold sigCmp at h
    split at h
    · cases h; exact cmp_pure _ _ _ _ hc.1 hc.2.1 hc.2.2.1 hc.2.2.2.1
    · cases h
  · intro ys r c h hc
    unfold sigBits at h
    split at h
    · cases h; exact rbits_pure _ _ hc.1 hc.2.1
    · cases h
  · intro ys r c h hc
    unfold sigBits at h
    split at h
    · cases h; exact pbits_pure _ _ hc.1 (lim4_lt hc.2.1)
    · cases h
  · intro ys r c h hc
    unfold sigPNorm at h
    split at h
    · cases h
      have := norm_length_le (by assumption : List Int)
      exact pnormF1 _ _ ⟨lim4_lt hc.1, Nat.le_trans (norm_length_le _) hc.1, trivial⟩
    · cases h
theorem words_of {a : List Int} (h : ∀ x, x ∈ a → inR .u32 x) : Words a := fun x hx => by
  have := h x hx
  simp only [inR] at this
  omega

theorem len_of {a : List Int} (h : a.length * 4 ≤ 140737488351232) : a.length + 1024 ≤ lim4 := by unfold lim4; omega
end Go.Proofs.Bn

/- Bignum: walks, written by the tool. -/
set_option maxRecDepth 100000
namespace Go.Proofs.Bn
open Go Go.Ev

-- 5 paths
theorem normsF1 (a b : List Int) (n : Int) (h : AllP [a.length ≤ lim4, a.length ≤ lim4, a.length ≤ lim4, decide (norm a = norm a) = true, (norm a).length < lim, (0 : Int) ≤ n, n < (18446744073709551616 : Int), (0 : Int) ≤ n, n < (18446744073709551616 : Int), decide (dig n.toNat = dig n.toNat) = true, (dig n.toNat).length < lim, a.length ≤ lim4, b.length ≤ lim4, Words a, Words b, a.length < lim, b.length < lim, Words a, Words b, a.length < lim, b.length < lim, (cmpN (nat a) (nat b) == cmpN (nat a) (nat b)) = true, a.length ≤ lim4, Words a, a.length ≤ lim4, Words a, a.length ≤ lim4, ((↑(bl (nat a)) : Int) == (↑(bl (nat a)) : Int)) = true]) : PureTo Try.prog 4 [.sl 1 (.ints .u32 a) false, .sl 1 (.ints .u32 b) false, .v (.int .u64 n)] (AV.v (.bool true)) :=
  evFn_pure hm sok9 (fn := Try.f4) rfl rfl (ti := false) (hs := [CHint.ops 1 [(5, Hint.b true), (11, Hint.b true), (22, Hint.b true), (30, Hint.b true)]]) (c := _) (by kernel_rfl) h
theorem normsF2 (a b : List Int) (n : Int) (h : AllP [a.length ≤ lim4, a.length ≤ lim4, a.length ≤ lim4, decide (norm a = norm a) = true, (norm a).length < lim, (0 : Int) ≤ n, n < (18446744073709551616 : Int), (0 : Int) ≤ n, n < (18446744073709551616 : Int), decide (dig n.toNat = dig n.toNat) = true, (dig n.toNat).length < lim, a.length ≤ lim4, b.length ≤ lim4, Words a, Words b, a.length < lim, b.length < lim, Words a, Words b, a.length < lim, b.length < lim, (cmpN (nat a) (nat b) == cmpN (nat a) (nat b)) = true, a.length ≤ lim4, Words a, a.length ≤ lim4, Words a, a.length ≤ lim4, ((↑(bl (nat a)) : Int) == (↑(bl (nat a)) : Int)) = false]) : PureTo Try.prog 4 [.sl 1 (.ints .u32 a) false, .sl 1 (.ints .u32 b) false, .v (.int .u64 n)] (AV.v (.bool false)) :=
  evFn_pure hm sok9 (fn := Try.f4) rfl rfl (ti := false) (hs := [CHint.ops 1 [(5, Hint.b true), (11, Hint.b true), (22, Hint.b true), (30, Hint.b false)]]) (c := _) (by kernel_rfl) h
theorem normsF3 (a b : List Int) (n : Int) (h : AllP [a.length ≤ lim4, a.length ≤ lim4, a.length ≤ lim4, decide (norm a = norm a) = true, (norm a).length < lim, (0 : Int) ≤ n, n < (18446744073709551616 : Int), (0 : Int) ≤ n, n < (18446744073709551616 : Int), decide (dig n.toNat = dig n.toNat) = true, (dig n.toNat).length < lim, a.length ≤ lim4, b.length ≤ lim4, Words a, Words b, a.length < lim, b.length < lim, Words a, Words b, a.length < lim, b.length < lim, (cmpN (nat a) (nat b) == cmpN (nat a) (nat b)) = false]) : PureTo Try.prog 4 [.sl 1 (.ints .u32 a) false, .sl 1 (.ints .u32 b) false, .v (.int .u64 n)] (AV.v (.bool false)) :=
  evFn_pure hm sok9 (fn := Try.f4) rfl rfl (ti := false) (hs := [CHint.ops 1 [(5, Hint.b true), (11, Hint.b true), (22, Hint.b false)]]) (c := _) (by kernel_rfl) h
theorem normsF4 (a b : List Int) (n : Int) (h : AllP [a.length ≤ lim4, a.length ≤ lim4, a.length ≤ lim4, decide (norm a = norm a) = true, (norm a).length < lim, (0 : Int) ≤ n, n < (18446744073709551616 : Int), (0 : Int) ≤ n, n < (18446744073709551616 : Int), decide (dig n.toNat = dig n.toNat) = false, (dig n.toNat).length < lim]) : PureTo Try.prog 4 [.sl 1 (.ints .u32 a) false, .sl 1 (.ints .u32 b) false, .v (.int .u64 n)] (AV.v (.bool false)) :=
  evFn_pure hm sok9 (fn := Try.f4) rfl rfl (ti := false) (hs := [CHint.ops 1 [(5, Hint.b true), (11, Hint.b false)]]) (c := _) (by kernel_rfl) h
theorem normsF5 (a b : List Int) (n : Int) (h : AllP [a.length ≤ lim4, a.length ≤ lim4, a.length ≤ lim4, decide (norm a = norm a) = false, (norm a).length < lim]) : PureTo Try.prog 4 [.sl 1 (.ints .u32 a) false, .sl 1 (.ints .u32 b) false, .v (.int .u64 n)] (AV.v (.bool false)) :=
  evFn_pure hm sok9 (fn := Try.f4) rfl rfl (ti := false) (hs := [CHint.ops 1 [(5, Hint.b false)]]) (c := _) (by kernel_rfl) h
-- 3 paths
theorem SubF1 (a b : List Int) (ta tb : Bool) (h : AllP [(over a || over b) = true, a.length < lim, b.length < lim]) : PureTo Try.prog 26 [.sl 1 (.ints .u32 a) ta, .sl 1 (.ints .u32 b) tb] (AV.tup [AV.sl 1 (.ints .u32 []) false, AV.v (.int .i64 (3 : Int))]) :=
  evFn_pure hm sok9 (fn := Try.f26) rfl rfl (ti := false) (hs := [CHint.ops 1 [(3, Hint.b true)]]) (c := _) (by kernel_rfl) h
theorem SubF2 (a b : List Int) (ta tb : Bool) (h : AllP [(over a || over b) = false, a.length < lim, b.length < lim, Words a, Words b, a.length < lim, b.length < lim, decide (cmpN (nat a) (nat b) < (0 : Int)) = true]) : PureTo Try.prog 26 [.sl 1 (.ints .u32 a) ta, .sl 1 (.ints .u32 b) tb] (AV.tup [AV.sl 1 (.ints .u32 []) false, AV.v (.int .i64 (1 : Int))]) :=
  evFn_pure hm sok9 (fn := Try.f26) rfl rfl (ti := false) (hs := [CHint.ops 1 [(3, Hint.b false)], CHint.ops 3 [(3, Hint.b true)]]) (c := _) (by kernel_rfl) h
theorem SubF3 (a b : List Int) (ta tb : Bool) (h : AllP [(over a || over b) = false, a.length < lim, b.length < lim, Words a, Words b, a.length < lim, b.length < lim, decide (cmpN (nat a) (nat b) < (0 : Int)) = false, a.length < lim, b.length < lim, Words (norm a), Words (norm b), (norm a).length ≤ lim4, (norm b).length ≤ (norm a).length, nat (norm b) ≤ nat (norm a)]) : PureTo Try.prog 26 [.sl 1 (.ints .u32 a) ta, .sl 1 (.ints .u32 b) tb] (AV.tup [AV.sl 1 (.ints .u32 (dig (nat (norm a) - nat (norm b)))) false, AV.v (.int .i64 (0 : Int))]) :=
  evFn_pure hm sok9 (fn := Try.f26) rfl rfl (ti := false) (hs := [CHint.ops 1 [(3, Hint.b false)], CHint.ops 3 [(3, Hint.b false)]]) (c := _) (by kernel_rfl) h
-- 3 paths
theorem rAddF1 (a b : List Int) (ta tb : Bool) (h : AllP [over a = true, a.length ≤ lim4]) : PureTo Try.prog 25 [.sl 1 (.ints .u32 a) ta, .sl 1 (.ints .u32 b) tb] (AV.tup [AV.sl 1 (.ints .u32 []) false, AV.v (.int .i64 (3 : Int))]) :=
  evFn_pure hm sok9 (fn := Try.f25) rfl rfl (ti := false) (hs := [CHint.ops 1 [(1, Hint.b true)]]) (c := _) (by kernel_rfl) h
theorem rAddF2 (a b : List Int) (ta tb : Bool) (h : AllP [over a = false, a.length ≤ lim4, over b = true, b.length ≤ lim4]) : PureTo Try.prog 25 [.sl 1 (.ints .u32 a) ta, .sl 1 (.ints .u32 b) tb] (AV.tup [AV.sl 1 (.ints .u32 []) false, AV.v (.int .i64 (3 : Int))]) :=
  evFn_pure hm sok9 (fn := Try.f25) rfl rfl (ti := false) (hs := [CHint.ops 1 [(1, Hint.b false), (4, Hint.b true)]]) (c := _) (by kernel_rfl) h
theorem rAddF3 (a b : List Int) (ta tb : Bool) (h : AllP [over a = false, a.length ≤ lim4, over b = false, b.length ≤ lim4, Words a, Words b, a.length + 1 ≤ lim4, b.length + 1 ≤ lim4, Words (dig (nat a + nat b)), (dig (nat a + nat b)).length ≤ lim4]) : PureTo Try.prog 25 [.sl 1 (.ints .u32 a) ta, .sl 1 (.ints .u32 b) tb] (AV.tup [AV.sl 1 (.ints .u32 (if big (nat (dig (nat a + nat b))) = true then [] else dig (nat (dig (nat a + nat b))))) false, AV.v (.int .i64 (if big (nat (dig (nat a + nat b))) = true then (3 : Int) else (0 : Int)))]) :=
  evFn_pure hm sok9 (fn := Try.f25) rfl rfl (ti := false) (hs := [CHint.ops 1 [(1, Hint.b false), (4, Hint.b false)]]) (c := _) (by kernel_rfl) h
-- 4 paths
theorem rSubF1 (a b : List Int) (ta tb : Bool) (h : AllP [over a = true, a.length ≤ lim4]) : PureTo Try.prog 27 [.sl 1 (.ints .u32 a) ta, .sl 1 (.ints .u32 b) tb] (AV.tup [AV.sl 1 (.ints .u32 []) false, AV.v (.int .i64 (3 : Int))]) :=
  evFn_pure hm sok9 (fn := Try.f27) rfl rfl (ti := false) (hs := [CHint.ops 1 [(1, Hint.b true)]]) (c := _) (by kernel_rfl) h
theorem rSubF2 (a b : List Int) (ta tb : Bool) (h : AllP [over a = false, a.length ≤ lim4, over b = true, b.length ≤ lim4]) : PureTo Try.prog 27 [.sl 1 (.ints .u32 a) ta, .sl 1 (.ints .u32 b) tb] (AV.tup [AV.sl 1 (.ints .u32 []) false, AV.v (.int .i64 (3 : Int))]) :=
  evFn_pure hm sok9 (fn := Try.f27) rfl rfl (ti := false) (hs := [CHint.ops 1 [(1, Hint.b false), (4, Hint.b true)]]) (c := _) (by kernel_rfl) h
theorem rSubF3 (a b : List Int) (ta tb : Bool) (h : AllP [over a = false, a.length ≤ lim4, over b = false, b.length ≤ lim4, Words a, Words b, a.length < lim, b.length < lim, decide (cmpN (nat a) (nat b) < (0 : Int)) = true]) : PureTo Try.prog 27 [.sl 1 (.ints .u32 a) ta, .sl 1 (.ints .u32 b) tb] (AV.tup [AV.sl 1 (.ints .u32 []) false, AV.v (.int .i64 (1 : Int))]) :=
  evFn_pure hm sok9 (fn := Try.f27) rfl rfl (ti := false) (hs := [CHint.ops 1 [(1, Hint.b false), (4, Hint.b false)], CHint.ops 3 [(3, Hint.b true)]]) (c := _) (by kernel_rfl) h
theorem rSubF4 (a b : List Int) (ta tb : Bool) (h : AllP [over a = false, a.length ≤ lim4, over b = false, b.length ≤ lim4, Words a, Words b, a.length < lim, b.length < lim, decide (cmpN (nat a) (nat b) < (0 : Int)) = false, a.length ≤ lim4, b.length ≤ lim4, Words (norm a), Words (norm b), (norm a).length + 1 ≤ lim4, (norm b).length ≤ (norm a).length, nat (norm b) ≤ nat (norm a)]) : PureTo Try.prog 27 [.sl 1 (.ints .u32 a) ta, .sl 1 (.ints .u32 b) tb] (AV.tup [AV.sl 1 (.ints .u32 (dig (nat (norm a) - nat (norm b)))) false, AV.v (.int .i64 (0 : Int))]) :=
  evFn_pure hm sok9 (fn := Try.f27) rfl rfl (ti := false) (hs := [CHint.ops 1 [(1, Hint.b false), (4, Hint.b false)], CHint.ops 3 [(3, Hint.b false)]]) (c := _) (by kernel_rfl) h
end Go.Proofs.Bn

/- Bignum: contracts: Sub, and what is defined of Add and Sub. -/
set_option maxRecDepth 100000
namespace Go.Proofs.Bn
open Go Go.Ev

theorem cmpN_neg {m n : Nat} : cmpN m n < 0 ↔ m < n := by
  unfold cmpN
  split
  · next h => simp [h]
  · next h =>
    split
    · next h2 => constructor <;> intro h3 <;> omega
    · constructor <;> intro h3 <;> omega

theorem norm_le_len {a b : List Int} (ha : Words a) (hb : Words b) (h : nat b ≤ nat a) : (norm b).length ≤ (norm a).length := by
  rcases Nat.lt_or_ge (norm a).length (norm b).length with h1 | h1
  · have := cmp_len ha hb h1
    omega
  · exact h1

theorem Sub_pure (a b : List Int) (ta tb : Bool) (ha : Words a) (hb : Words b) (hla : a.length ≤ lim4) (hlb : b.length ≤ lim4) : PureTo Try.prog 26 [.sl 1 (.ints .u32 a) ta, .sl 1 (.ints .u32 b) tb] (.tup [.sl 1 (.ints .u32 (SubN (nat a) (nat b)).1) false, .v (.int .i64 (SubN (nat a) (nat b)).2)]) := by
  have la := lim4_lt hla
  have lb := lim4_lt hlb
  have na := norm_length_le a
  have nb := norm_length_le b
  unfold SubN
  rw [← over_big ha, ← over_big hb]
  cases ho : over a || over b with
  | true => exact SubF1 a b ta tb ⟨ho, la, lb, trivial⟩
  | false =>
    by_cases hc : nat a < nat b
    · simp only [Bool.false_eq_true, if_false, if_pos hc]
      exact SubF2 a b ta tb ⟨ho, la, lb, ha, hb, la, lb, by simpa [cmpN_neg] using hc, trivial⟩
    · simp only [Bool.false_eq_true, if_false, if_neg hc]
      have h := SubF3 a b ta tb ⟨ho, la, lb, ha, hb, la, lb, by simpa [cmpN_neg] using hc, la, lb, words_norm ha, words_norm hb, by omega, norm_le_len ha hb (by omega), by rw [nat_norm, nat_norm]; omega, trivial⟩
      rw [nat_norm, nat_norm] at h
      exact h

theorem dig_add_len {m n k : Nat} (hm : m < 4294967296 ^ k) (hn : n < 4294967296 ^ k) : (dig (m + n)).length ≤ k + 1 := by
  have h : ¬ k + 1 < (dig (m + n)).length := by
    rw [dig_len, Nat.pow_succ]
    omega
  omega

theorem rAdd_pure (a b : List Int) (ta tb : Bool) (ha : Words a) (hb : Words b) (hla : a.length + 1 ≤ lim4) (hlb : b.length + 1 ≤ lim4) : PureTo Try.prog 25 [.sl 1 (.ints .u32 a) ta, .sl 1 (.ints .u32 b) tb] (.tup [.sl 1 (.ints .u32 (AddN (nat a) (nat b)).1) false, .v (.int .i64 (AddN (nat a) (nat b)).2)]) := by
  unfold AddN
  rw [← over_big ha, ← over_big hb]
  cases ho : over a with
  | true => exact rAddF1 a b ta tb ⟨ho, by omega, trivial⟩
  | false =>
    cases ho2 : over b with
    | true => exact rAddF2 a b ta tb ⟨ho, by omega, ho2, by omega, trivial⟩
    | false =>
      have h1 := small_of_over ho
      have h2 := small_of_over ho2
      have hA : nat a < 4294967296 ^ 1024 := by
        have h3 : ¬ 1024 < (norm a).length := by omega
        rw [norm_len ha] at h3
        omega
      have hB : nat b < 4294967296 ^ 1024 := by
        have h3 : ¬ 1024 < (norm b).length := by omega
        rw [norm_len hb] at h3
        omega
      have hl := dig_add_len hA hB
      have h := rAddF3 a b ta tb ⟨ho, by omega, ho2, by omega, ha, hb, hla, hlb, words_dig _, by unfold lim4; omega, trivial⟩
      rw [nat_dig] at h
      simp only [Bool.or_self, Bool.false_or]
      cases hbig : big (nat a + nat b) with
      | true =>
        rw [hbig] at h
        exact h
      | false =>
        rw [hbig] at h
        exact h

theorem rSub_pure (a b : List Int) (ta tb : Bool) (ha : Words a) (hb : Words b) (hla : a.length + 1 ≤ lim4) (hlb : b.length + 1 ≤ lim4) : PureTo Try.prog 27 [.sl 1 (.ints .u32 a) ta, .sl 1 (.ints .u32 b) tb] (.tup [.sl 1 (.ints .u32 (SubN (nat a) (nat b)).1) false, .v (.int .i64 (SubN (nat a) (nat b)).2)]) := by
  have la := lim4_lt (show a.length ≤ lim4 by omega)
  have lb := lim4_lt (show b.length ≤ lim4 by omega)
  have na := norm_length_le a
  have nb := norm_length_le b
  unfold SubN
  rw [← over_big ha, ← over_big hb]
  cases ho : over a with
  | true => exact rSubF1 a b ta tb ⟨ho, by omega, trivial⟩
  | false =>
    cases ho2 : over b with
    | true => exact rSubF2 a b ta tb ⟨ho, by omega, ho2, by omega, trivial⟩
    | false =>
      by_cases hc : nat a < nat b
      · simp only [Bool.or_self, Bool.false_eq_true, if_false, if_pos hc]
        exact rSubF3 a b ta tb ⟨ho, by omega, ho2, by omega, ha, hb, la, lb, by simpa [cmpN_neg] using hc, trivial⟩
      · simp only [Bool.or_self, Bool.false_eq_true, if_false, if_neg hc]
        have h := rSubF4 a b ta tb ⟨ho, by omega, ho2, by omega, ha, hb, la, lb, by simpa [cmpN_neg] using hc, by omega, by omega, words_norm ha, words_norm hb, by omega, norm_le_len ha hb (by omega), by rw [nat_norm, nat_norm]; omega, trivial⟩
        rw [nat_norm, nat_norm] at h
        exact h

def sigSubN : List AV → Option (AV × List Prop)
  | [.sl 1 (.ints .u32 a) _, .sl 1 (.ints .u32 b) _] => some (.tup [.sl 1 (.ints .u32 (SubN (nat a) (nat b)).1) false, .v (.int .i64 (SubN (nat a) (nat b)).2)], [Words a, Words b, a.length + 1 ≤ lim4, b.length + 1 ≤ lim4])
  | _ => none
def sigRAdd : List AV → Option (AV × List Prop)
  | [.sl 1 (.ints .u32 a) _, .sl 1 (.ints .u32 b) _] => some (.tup [.sl 1 (.ints .u32 (AddN (nat a) (nat b)).1) false, .v (.int .i64 (AddN (nat a) (nat b)).2)], [Words a, Words b, a.length + 1 ≤ lim4, b.length + 1 ≤ lim4])
  | _ => none

def SG10 : SGT := (26, .p sigSubN) :: (27, .p sigSubN) :: (25, .p sigRAdd) :: SG9

theorem sok10 : SigsOK Try.prog SG10 := by
  refine sigs_cons (sigs_cons (sigs_cons sok9 ?_) ?_) ?_
  · intro ys r c h hc
    unfold sigRAdd at h
    split at h
    · cases h; exact rAdd_pure _ _ _ _ hc.1 hc.2.1 hc.2.2.1 hc.2.2.2.1
    · cases h
  · intro ys r c h hc
    unfold sigSubN at h
    split at h
    · cases h; exact rSub_pure _ _ _ _ hc.1 hc.2.1 hc.2.2.1 hc.2.2.2.1
    · cases h
  · intro ys r c h hc
    unfold sigSubN at h
    split at h
    · cases h; exact Sub_pure _ _ _ _ hc.1 hc.2.1 (by have := hc.2.2.1; omega) (by have := hc.2.2.2.1; omega)
    · cases h

theorem addN_len (m n : Nat) : (AddN m n).1.length ≤ 1024 := by
  unfold AddN
  split
  · simp
  · next h => simp at h; exact small_len h.2

theorem subN_len {m n : Nat} : (SubN m n).1.length ≤ 1024 := by
  unfold SubN
  split
  · simp
  · next h =>
    split
    · simp
    · simp at h
      have h1 := h.1
      rcases Nat.lt_or_ge 1024 (dig (m - n)).length with h2 | h2
      · have := big_mono (m := m - n) (n := m) (by omega) (by unfold big; simpa using h2)
        rw [h1] at this
        cases this
      · exact h2
end Go.Proofs.Bn
