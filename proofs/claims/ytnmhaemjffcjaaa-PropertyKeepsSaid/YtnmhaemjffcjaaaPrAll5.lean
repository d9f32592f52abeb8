/- Contracts of the program's functions, and the plain law behind them. No condition beyond those in each statement. -/
import Derived.Test.YtnmhaemjffcjaaaPrAll4
import Derived.Test.YtnmhaemjffcjaaaEvAll5
set_option linter.unusedSimpArgs false
set_option linter.unusedVariables false
set_option linter.unusedSectionVars false
/- Property: how an argument is read. -/
set_option maxRecDepth 100000
namespace Go.Proofs.Pr
open Go Go.Ev

theorem read_prop {W : World} {b0 : Nat} {r : Reach} {v : Value} (hval : Value.okWide Try.prog W r b0 26 v) : ∃ p : PropV, RepI W (fun _ => True) v (.agg p.cells) ∧ WfP p := by
  obtain ⟨arr, rfl, hsz, hc⟩ := read_struct (ts := [3, 3, 4, 22, 9, 3, 3, 4, 22, 9, 3, 3, 4, 22, 9, 3, 4, 4, 4]) rfl (by kernel_rfl) (by kernel_rfl) hval
  have ui : Try.prog.underlying 3 = some (.int .i64) := by kernel_rfl
  have ub : Try.prog.underlying 4 = some .bool := by kernel_rfl
  have uf : Try.prog.underlying 22 = some (.float .f64) := by kernel_rfl
  have us : Try.prog.underlying 9 = some .string := by kernel_rfl
  obtain ⟨c0, e0, w0⟩ := cell_int ui (hc 0 (by decide))
  obtain ⟨c1, e1, w1⟩ := cell_int ui (hc 1 (by decide))
  obtain ⟨c2, e2⟩ := cell_bool ub (hc 2 (by decide))
  obtain ⟨c3, e3, w3⟩ := cell_float uf (hc 3 (by decide))
  obtain ⟨c4, e4, w4⟩ := cell_string us (hc 4 (by decide))
  obtain ⟨c5, e5, w5⟩ := cell_int ui (hc 5 (by decide))
  obtain ⟨c6, e6, w6⟩ := cell_int ui (hc 6 (by decide))
  obtain ⟨c7, e7⟩ := cell_bool ub (hc 7 (by decide))
  obtain ⟨c8, e8, w8⟩ := cell_float uf (hc 8 (by decide))
  obtain ⟨c9, e9, w9⟩ := cell_string us (hc 9 (by decide))
  obtain ⟨c10, e10, w10⟩ := cell_int ui (hc 10 (by decide))
  obtain ⟨c11, e11, w11⟩ := cell_int ui (hc 11 (by decide))
  obtain ⟨c12, e12⟩ := cell_bool ub (hc 12 (by decide))
  obtain ⟨c13, e13, w13⟩ := cell_float uf (hc 13 (by decide))
  obtain ⟨c14, e14, w14⟩ := cell_string us (hc 14 (by decide))
  obtain ⟨c15, e15, w15⟩ := cell_int ui (hc 15 (by decide))
  obtain ⟨c16, e16⟩ := cell_bool ub (hc 16 (by decide))
  obtain ⟨c17, e17⟩ := cell_bool ub (hc 17 (by decide))
  obtain ⟨c18, e18⟩ := cell_bool ub (hc 18 (by decide))
  refine ⟨⟨c0, ⟨c1, c2, c3, c4, c5⟩, ⟨c6, c7, c8, c9, c10⟩, ⟨c11, c12, c13, c14, c15⟩, c16, c17, c18⟩, .agg arr _ hsz (fun i h => ?_), ⟨w0, w3, w8, w13⟩⟩
  match i, h with
  | 0, _ => rw [e0]; exact .v _ trivial
  | 1, _ => rw [e1]; exact .v _ trivial
  | 2, _ => rw [e2]; exact .v _ trivial
  | 3, _ => rw [e3]; exact .v _ trivial
  | 4, _ => rw [e4]; exact .v _ trivial
  | 5, _ => rw [e5]; exact .v _ trivial
  | 6, _ => rw [e6]; exact .v _ trivial
  | 7, _ => rw [e7]; exact .v _ trivial
  | 8, _ => rw [e8]; exact .v _ trivial
  | 9, _ => rw [e9]; exact .v _ trivial
  | 10, _ => rw [e10]; exact .v _ trivial
  | 11, _ => rw [e11]; exact .v _ trivial
  | 12, _ => rw [e12]; exact .v _ trivial
  | 13, _ => rw [e13]; exact .v _ trivial
  | 14, _ => rw [e14]; exact .v _ trivial
  | 15, _ => rw [e15]; exact .v _ trivial
  | 16, _ => rw [e16]; exact .v _ trivial
  | 17, _ => rw [e17]; exact .v _ trivial
  | 18, _ => rw [e18]; exact .v _ trivial
  | n + 19, h => exact absurd h (by show ¬ (n + 19 < 19); omega)

end Go.Proofs.Pr
