/- An evaluator of the model's code, proved right. No condition. -/
import Derived.Test.YtbmadhdeikoecaaDoorEvAll4
set_option linter.unusedSimpArgs false
set_option linter.unusedVariables false
set_option linter.unusedSectionVars false
/- Arguments that are structs of plain parts: what their cells are. -/
namespace Go.Ev
variable [Globs]
open Go.ChangeShapes Go.WideShapes Go.ChangeAt Go.RowKit

section
variable {P : Program}

theorem read_struct {t : TypeId} {fs : Array Field} {ts : List TypeId} {W : World} {r : Reach} {b0 : Nat} {v : Value} (hs : P.underlying t = some (.struct fs)) (ht : P.cellTypes P.depth t = some ts) (hn : P.cellsOf t = ts.length)
    (hval : Value.okWide P W r b0 t v) : ∃ arr : Array Value, v = .agg arr ∧ arr.size = ts.length ∧ ∀ i (h : i < ts.length), Cell.okWide P W r b0 ts[i] (arr.getD i undef) := by
  unfold Value.okWide at hval
  rw [hs] at hval
  obtain ⟨arr, rfl, hsz, ts', h1, _, h3⟩ := hval
  rw [ht] at h1
  cases h1
  refine ⟨arr, rfl, by rw [hsz, hn], fun i hi => ?_⟩
  have hi' : i < arr.size := by rw [hsz, hn]; exact hi
  obtain ⟨u, hu, hc⟩ := h3 i arr[i] (by simp [hi'])
  rw [Nat.mod_eq_of_lt hi, List.getElem?_eq_getElem hi] at hu
  cases hu
  simpa [hi'] using hc

theorem cell_int {u : TypeId} {k : IntKind} {W : World} {r : Reach} {b0 : Nat} {v : Value} (hu : P.underlying u = some (.int k)) (h : Cell.okWide P W r b0 u v) : ∃ n, v = .int k n ∧ inR k n := by
  unfold Cell.okWide at h
  rw [hu] at h
  unfold Cell.ok at h
  rw [hu] at h
  cases v <;> simp at h
  obtain ⟨rfl, hn⟩ := h
  refine ⟨_, rfl, ?_⟩
  rename_i k n
  cases k <;> simp [IntKind.has, IntKind.min, IntKind.max, IntKind.signed, IntKind.bits] at hn <;> simp only [inR] <;> omega

theorem cell_bool {u : TypeId} {W : World} {r : Reach} {b0 : Nat} {v : Value} (hu : P.underlying u = some .bool) (h : Cell.okWide P W r b0 u v) : ∃ b, v = .bool b := by
  unfold Cell.okWide at h
  rw [hu] at h
  unfold Cell.ok at h
  rw [hu] at h
  cases v <;> simp at h
  exact ⟨_, rfl⟩

theorem cell_float {u : TypeId} {W : World} {r : Reach} {b0 : Nat} {v : Value} (hu : P.underlying u = some (.float .f64)) (h : Cell.okWide P W r b0 u v) : ∃ b, v = .float .f64 b ∧ b < 18446744073709551616 := by
  unfold Cell.okWide at h
  rw [hu] at h
  unfold Cell.ok at h
  rw [hu] at h
  cases v <;> simp at h
  obtain ⟨rfl, hn⟩ := h
  exact ⟨_, rfl, by simpa [FloatKind.has] using hn⟩

theorem cell_string {u : TypeId} {W : World} {r : Reach} {b0 : Nat} {v : Value} (hu : P.underlying u = some .string) (h : Cell.okWide P W r b0 u v) : ∃ s, v = .string s ∧ (s.size : Int) ≤ 9223372036854775807 := by
  unfold Cell.okWide at h
  rw [hu] at h
  unfold Cell.ok at h
  rw [hu] at h
  cases v <;> simp at h
  exact ⟨_, rfl, by simpa using h⟩

theorem read_float {t : TypeId} {W : World} {r : Reach} {b0 : Nat} {v : Value} (ht : P.underlying t = some (.float .f64)) (hval : Value.okWide P W r b0 t v) : ∃ b, v = .float .f64 b ∧ b < 18446744073709551616 := by
  unfold Value.okWide at hval
  rw [ht] at hval
  exact cell_float ht hval
end
end Go.Ev
