/- An evaluator of the model's code, proved right. No condition. -/
import Derived.Test.YtnmhaemjffcjaaaDoorEvAll3
import Derived.SliceStrings
set_option linter.unusedSimpArgs false
set_option linter.unusedVariables false
set_option linter.unusedSectionVars false
/- How a slice of texts among the arguments is read. -/
namespace Go.Ev
variable [Globs]
open Go Go.ChangeShapes Go.WideShapes Go.ChangeAt Go.RowKit

section
variable {H : Type} {enc : TypeId × Value → H} {P : Program}

theorem read_strs {t e : TypeId} {v : Value} {d : DataW H} {ps : List MemPlace} {W : World} {base : Nat} {b0 : Nat} {r : Reach} {sp : Nat → Bool} {hd : Bool} (ht : P.underlying t = some (.slice e)) (he : P.underlying e = some .string) (hc : P.cellsOf e = 1)
    (hval : Value.okWide P W r b0 t v) (h : DataW.Trod enc P W base sp hd t v d ps) :
    ∃ l : List ByteArray, RepI W (fun _ => True) v (.sl 1 (.strs l) false) ∧ (l = [] ∨ ∃ spare, d = .slice (ChangeShapes.strs l) spare) := by
  obtain ⟨a, len, cap, rfl⟩ := okWide_slice ht hval
  obtain ⟨fuel, hf⟩ := h
  have hcs : (Value.slice a len cap).cells.toList = [.slice a len cap] := rfl
  rw [hcs] at hf
  rcases open_strings ht he hc hf with ⟨h1, h2⟩ | ⟨a', len', cap', zs, h1, h2, h3, h4, h5, h6, h7, h8⟩
  · simp only [List.cons.injEq, Value.slice.injEq, and_true] at h1
    obtain ⟨rfl, rfl, rfl⟩ := h1
    exact ⟨[], .slNil _ _ _ rfl, .inl rfl⟩
  · simp only [List.cons.injEq, Value.slice.injEq, and_true] at h1
    obtain ⟨rfl, rfl, rfl⟩ := h1
    have hz : len ≤ zs.length := by rw [h5]; split <;> omega
    have hlen : (zs.take len).length = len := by simp; omega
    refine ⟨zs.take len, .sl a' len cap 1 (.strs (zs.take len)) false (fun i _ => .string ((zs.take len).getD i ByteArray.empty)) hlen.symm (by show (zs.take len).length ≤ cap; omega) (fun h => (by cases h)) (by omega) (fun _ => trivial) (fun i hi => rfl) (fun i j hi hj => ?_) (fun i j hi hj => ?_),
      .inr ⟨ChangeShapes.strs (zs.drop len), ?_⟩⟩
    · have hi' : i < len := by rw [← hlen]; exact hi
      have hj0 : j = 0 := by omega
      subst hj0
      refine ⟨?_, trivial⟩
      have := h7 i (by omega)
      rw [Nat.mul_one, Nat.add_zero, this]
      simp [List.getD_eq_getElem?_getD, hi', show i < zs.length by omega]
    · have hj0 : j = 0 := by simpa [Seq.get, AV.cells] using hj
      subst hj0
      exact .v _ trivial
    · simp only [Prod.mk.injEq] at h6
      exact h6.1

end
end Go.Ev
