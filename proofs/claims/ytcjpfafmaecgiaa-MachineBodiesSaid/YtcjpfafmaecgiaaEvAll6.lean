/- An evaluator of the model's code, proved right. No condition. -/
import Derived.Test.YtcjpfafmaecgiaaEvAll4
import Derived.SliceStrings
set_option linter.unusedSimpArgs false
set_option linter.unusedVariables false
set_option linter.unusedSectionVars false
/- How a slice of floats among the arguments is read. -/
namespace Go.Ev
variable [Globs]
open Go Go.ChangeShapes Go.WideShapes Go.ChangeAt Go.RowKit

section
variable {H : Type} {enc : TypeId × Value → H} {P : Program}

theorem one_float {W : World} {base : Nat} {sp : Nat → Bool} {hd : Bool} {fuel : Nat} {t : TypeId} {cs : List Value} {x : DataW H × List MemPlace} (ht : P.underlying t = some (.float .f64)) (h : DataW.trod enc P W base sp hd fuel t cs = some x) :
    ∃ b, cs = [.float .f64 b] ∧ x = (.lit (.float .f64 b), []) ∧ b < 18446744073709551616 := by
  cases fuel with
  | zero => simp [DataW.trod] at h
  | succ n =>
    unfold DataW.trod at h
    rw [ht] at h
    split at h <;> try (simp_all; done)
    next k k' b hc =>
      cases hc
      split at h
      · next hb =>
        obtain ⟨rfl, hw⟩ := hb
        cases h
        refine ⟨b, rfl, rfl, ?_⟩
        simpa [Lit.wf] using hw
      · cases h

/-- a list of floats as a slice -/
def floatsA (l : List Nat) : AV := .sl 1 (.fn l.length fun i => .v (.float .f64 (l.getD i 0))) false

theorem read_floats {t e : TypeId} {v : Value} {d : DataW H} {ps : List MemPlace} {W : World} {base : Nat} {b0 : Nat} {r : Reach} {sp : Nat → Bool} {hd : Bool} (ht : P.underlying t = some (.slice e)) (he : P.underlying e = some (.float .f64)) (hc : P.cellsOf e = 1)
    (hval : Value.okWide P W r b0 t v) (h : DataW.Trod enc P W base sp hd t v d ps) :
    ∃ l : List Nat, RepI W (fun _ => True) v (floatsA l) ∧ (∀ x, x ∈ l → x < 18446744073709551616) ∧ (l = [] ∨ ∃ ys spare, ys.length = l.length ∧ d = .slice ys spare) := by
  obtain ⟨a, len, cap, rfl⟩ := okWide_slice ht hval
  obtain ⟨fuel, hf⟩ := h
  have hcs : (Value.slice a len cap).cells.toList = [.slice a len cap] := rfl
  rw [hcs] at hf
  rcases DataW.trod_slice ht hf with ⟨h1, h2⟩ | ⟨a', len', cap', elems, rest, n, _, h1, h2, hb, hl, hm, hlen, hel, _, _⟩
  · simp only [List.cons.injEq, Value.slice.injEq, and_true] at h1
    obtain ⟨rfl, rfl, rfl⟩ := h1
    exact ⟨[], .slNil _ _ _ rfl, fun x hx => (by cases hx), .inl rfl⟩
  · simp only [List.cons.injEq, Value.slice.injEq, and_true] at h1
    obtain ⟨rfl, rfl, rfl⟩ := h1
    have each : ∀ i, i < len → ∃ b, elems[i]? = some (.lit (.float .f64 b), []) ∧ b < 18446744073709551616 ∧ W.cell? (a'.add i) = some (.float .f64 b) := by
      intro i hi
      have h3 := hel i hi
      rw [hc, Nat.mul_one] at h3
      have hin : i < elems.length := by omega
      rw [List.getElem?_eq_getElem hin, Option.bind_eq_some_iff] at h3
      obtain ⟨cs, h4, h5⟩ := h3
      obtain ⟨b, rfl, h6, h7⟩ := one_float he h5
      exact ⟨b, by rw [List.getElem?_eq_getElem hin, h6], h7, cell_of_cells?_one h4⟩
    have collect : ∀ k, k ≤ len → ∃ l : List Nat, l.length = k ∧ ∀ i, i < k → l.getD i 0 < 18446744073709551616 ∧ W.cell? (a'.add i) = some (.float .f64 (l.getD i 0)) := by
      intro k
      induction k with
      | zero => exact fun _ => ⟨[], rfl, fun i hi => by omega⟩
      | succ k ih =>
        intro hk
        obtain ⟨l, h3, h4⟩ := ih (by omega)
        obtain ⟨b, _, h6, h7⟩ := each k (by omega)
        refine ⟨l ++ [b], by simp [h3], fun i hi => ?_⟩
        by_cases hik : i < k
        · have := h4 i hik
          rw [List.getD_eq_getElem?_getD, List.getElem?_append_left (by omega), ← List.getD_eq_getElem?_getD]
          exact this
        · have : i = k := by omega
          subst this
          rw [List.getD_eq_getElem?_getD, List.getElem?_append_right (by omega), h3, Nat.sub_self]
          exact ⟨h6, h7⟩
    have pick : ∃ l : List Nat, l.length = len ∧ ∀ i, i < len → l.getD i 0 < 18446744073709551616 ∧ W.cell? (a'.add i) = some (.float .f64 (l.getD i 0)) := collect len (Nat.le_refl _)
    obtain ⟨l, h3, h4⟩ := pick
    refine ⟨l, .sl a' len cap 1 (.fn l.length fun i => .v (.float .f64 (l.getD i 0))) false (fun i _ => .float .f64 (l.getD i 0)) h3.symm (by show l.length ≤ cap; omega) (fun h => (by cases h)) (by omega) (fun _ => trivial) (fun i hi => rfl) (fun i j hi hj => ?_) (fun i j hi hj => ?_), fun x hx => ?_, .inr ⟨elems.map (·.1), rest.map (·.1), by simp; omega, ?_⟩⟩
    · have hi' : i < len := by rw [← h3]; exact hi
      have hj0 : j = 0 := by omega
      subst hj0
      refine ⟨?_, trivial⟩
      rw [Nat.mul_one, Nat.add_zero]
      exact (h4 i hi').2
    · have hj0 : j = 0 := by simpa [Seq.get, AV.cells] using hj
      subst hj0
      exact .v _ trivial
    · obtain ⟨i, hi, rfl⟩ := List.getElem_of_mem hx
      have := (h4 i (by omega)).1
      rwa [List.getD_eq_getElem?_getD, List.getElem?_eq_getElem hi] at this
    · simp only [Prod.mk.injEq] at h2
      exact h2.1

theorem floats_len {ts : List TypeId} {ds : List (DataW H)} {j b : Nat} {t e : TypeId} {l : List Nat} {d : DataW H} (hsz : (DataW.weightsEach P ts ds).all (· ≤ reachBytes) = true) (ht : ts[j]? = some t) (hd : ds[j]? = some d) (hu : P.underlying t = some (.slice e)) (hb : P.bytesOf e = b)
    (h : l = [] ∨ ∃ (ys : List (DataW H)) (spare : List (DataW H)), ys.length = l.length ∧ d = .slice ys spare) : l.length * b ≤ 140737488351232 := by
  rcases h with rfl | ⟨ys, spare, h2, rfl⟩
  · rw [List.length_nil, Nat.zero_mul]; exact Nat.zero_le _
  · have h1 := sized_slice hsz ht hd hu
    rw [hb] at h1
    rw [← h2]
    have h3 : ys.length * b ≤ (ys.length + spare.length) * b := Nat.mul_le_mul_right _ (by omega)
    have h4 : reachBytes = 140737488351232 := by decide
    omega
end
end Go.Ev
