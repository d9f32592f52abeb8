/- Contracts of the program's functions, and the plain law behind them. No condition beyond those in each statement. -/
import Derived.Test.YtcjpfafmaecgiaaMaAll4
import Derived.Test.YtcjpfafmaecgiaaEvAll7
set_option linter.unusedSimpArgs false
set_option linter.unusedVariables false
set_option linter.unusedSectionVars false
/- Machine: IndexFunc, ContainsFunc, Clone of draws. -/
set_option maxRecDepth 100000
namespace Go.Proofs.Ma
open Go Go.Ev

/-- may a draw be, as the document has it -/
def mayR (x : Nat) : Bool := (fgt .f64 x 0 || feq .f64 x 0) && flt .f64 x 4607182418800017408
theorem may_eq (x : Nat) : may x = mayR x := by
  unfold may mayR isNaN
  by_cases hx : Num x
  · have : feq .f64 x x = true := by rw [feq_key hx hx]; simp
    rw [this]
    cases fgt .f64 x 0 <;> cases feq .f64 x 0 <;> rfl
  · obtain ⟨h1, h2, h3⟩ := nan_cmp (x := x) (y := 0) (.inl hx)
    obtain ⟨g1, g2, g3⟩ := nan_cmp (x := x) (y := 4607182418800017408) (.inl hx)
    rw [h2, h3, g1]
    cases feq .f64 x x <;> rfl
def bad (l : List Nat) : Bool := l.any fun x => !mayR x
theorem mayNot_eq (x : Nat) : mayNot x = !mayR x := by unfold mayNot; rw [may_eq]

abbrev drawsQ (l : List Nat) : AV := .sl 1 (.fn l.length fun i => .v (.float .f64 (l.getD i 0))) false

theorem loop_end (l : List Nat) (hl : l.length < 9223372036854775807) (hb : bad l = false) : ∀ k n : Nat, k = l.length - n → n ≤ l.length → LoopTo Try.prog (loopAt Try.f47 0) (idxS0 l n) (Exit.exit 0) (idxX0 l) := by
  intro k
  induction k with
  | zero =>
    intro n hk hn
    exact .done (by simp) (idxL0_3 l n ⟨by simp; omega, trivial⟩)
  | succ k ih =>
    intro n hk hn
    have hlt : n < l.length := by omega
    have hm : mayNot (l.getD (n : Int).toNat 0) = false := by
      rw [mayNot_eq]
      have : (!mayR l[n]) = false := by
        have h := List.any_eq_false.1 hb l[n] (List.getElem_mem hlt)
        simpa using h
      simpa [List.getD_eq_getElem?_getD, hlt] using this
    exact .step (idxL0_2 l n ⟨by simp; omega, ⟨by omega, by omega⟩, hm, ⟨by omega, by omega⟩, trivial⟩) (ih (n + 1) (by omega) (by omega))

theorem loop_found (l : List Nat) (hl : l.length < 9223372036854775807) (hb : bad l = true) : ∃ m : Nat, LoopTo Try.prog (loopAt Try.f47 0) (idxS0 l 0) Exit.ret (idxX0_1 l m) := by
  suffices h : ∀ k n : Nat, k = l.length - n → n ≤ l.length → (∃ j, n ≤ j ∧ ∃ h : j < l.length, mayR l[j] = false) → ∃ m : Nat, LoopTo Try.prog (loopAt Try.f47 0) (idxS0 l n) Exit.ret (idxX0_1 l m) by
    obtain ⟨x, hx, hm⟩ := List.any_eq_true.1 hb
    obtain ⟨j, hj, rfl⟩ := List.getElem_of_mem hx
    exact h l.length 0 (by omega) (by omega) ⟨j, by omega, hj, by simpa using hm⟩
  intro k
  induction k with
  | zero =>
    intro n hk hn ⟨j, h1, h2, _⟩
    omega
  | succ k ih =>
    intro n hk hn ⟨j, h1, h2, h3⟩
    have hlt : n < l.length := by omega
    have hg : l.getD (n : Int).toNat 0 = l[n] := by simp [List.getD_eq_getElem?_getD, hlt]
    cases hm : mayR l[n] with
    | false => exact ⟨n, .done (by simp) (idxL0_1 l n ⟨by simp; omega, ⟨by omega, by omega⟩, by rw [hg, mayNot_eq, hm]; rfl, trivial⟩)⟩
    | true =>
      have hne : n ≠ j := fun e => by subst e; rw [hm] at h3; cases h3
      obtain ⟨m, h⟩ := ih (n + 1) (by omega) (by omega) ⟨j, by omega, h2, h3⟩
      exact ⟨m, .step (idxL0_2 l n ⟨by simp; omega, ⟨by omega, by omega⟩, by rw [hg, mayNot_eq, hm]; rfl, ⟨by omega, by omega⟩, trivial⟩) h⟩

theorem index_pure (l : List Nat) (hl : l.length < 9223372036854775807) : ∃ i : Int, (decide (i ≥ 0) = bad l) ∧ PureTo Try.prog 47 [drawsQ l, .fnv (.func 29) [] []] (.v (.int .i64 i)) := by
  cases hb : bad l with
  | false => exact ⟨-1, by simp, idxF1 l 0 ⟨loop_end l hl hb l.length 0 (by omega) (by omega), trivial⟩⟩
  | true =>
    obtain ⟨m, h⟩ := loop_found l hl hb
    exact ⟨m, by simp, idxF2 l m ⟨h, trivial⟩⟩

theorem ans_sl {f : FuncId} {xs : List AV} {sz : Nat} {q q' : Seq AV} {t : Bool} (h : PureTo Try.prog f xs (.sl sz q t)) (hl : q'.len = q.len) (hg : ∀ i, i < q.len → q'.get i = q.get i) : PureTo Try.prog f xs (.sl sz q' t) := fun S vals hwf hr =>
  (h S vals hwf hr).mono fun _ _ ⟨h1, h2⟩ => ⟨h1, sl_seq h2 hl hg⟩

theorem clone_pure (l : List Nat) (hl : l.length * 8 ≤ 140737488355328) : PureTo Try.prog 31 [drawsQ l] (drawsQ l) := by
  refine PureTo.nil_split (ys := []) (zs := []) (fun h => ?_) (fun h => ?_) (fun h => ?_)
  · have hl0 : l.length = 0 := h
    exact ans_sl (cloneN1 trivial) (by simpa [Seq.len] using hl0) (fun i hi => absurd hi (by simp [Seq.len]))
  · have hl0 : l.length = 0 := h
    exact ans_sl (cloneE1 trivial) (by simpa [Seq.len] using hl0) (fun i hi => absurd hi (by simp [Seq.len]))
  · have hl0 : 0 < l.length := h
    exact clone1 l ⟨hl0, hl0, hl, rfl, Nat.zero_le _, fun i hi => rfl, trivial⟩

def SMi (l : List Nat) (i : Int) : SGT := [(47, .p fun xs => match xs with | [x, .fnv (.func 29) [] []] => some (.v (.int .i64 i), [x = drawsQ l]) | _ => none)]
theorem soMi {l : List Nat} {i : Int} (h : PureTo Try.prog 47 [drawsQ l, .fnv (.func 29) [] []] (.v (.int .i64 i))) : SigsOK Try.prog (SMi l i) := by
  refine sigs_cons sok0 ?_
  intro ys r c h1 hc
  split at h1
  · cases h1; rw [hc.1]; exact h
  · cases h1
end Go.Proofs.Ma
