/- Contracts of the program's functions, and the plain law behind them. No condition beyond those in each statement. -/
import Derived.Test.YtnmhaemjffcjaaaDoorUsAll2
import Derived.Test.YtnmhaemjffcjaaaDoorEvAll6
import Derived.Test.YtnmhaemjffcjaaaDoorUsAll5
set_option linter.unusedSimpArgs false
set_option linter.unusedVariables false
set_option linter.unusedSectionVars false
/- Texts: the bound of the second form for a list of texts. -/
set_option maxRecDepth 100000
namespace Go.Proofs.Us
open Go Go.Ev Go.Proofs.YtnmhaemjffcjaaaDoor Go.ChangeShapes Go.WideShapes Go.ChangeAt Go.RowKit

/-- how much a list of texts holds -/
def bytesOfL : List ByteArray → Nat
  | [] => 0
  | s :: r => s.size + 1 + bytesOfL r

theorem bulk_strs {H : Type} : ∀ l : List ByteArray, Rows.uptoBulkAll (ChangeShapes.strs (H := H) l) = bytesOfL l
  | [] => rfl
  | s :: r => by
    have ih := bulk_strs (H := H) r
    have e : ChangeShapes.strs (H := H) (s :: r) = .lit (.string s.data.toList) :: ChangeShapes.strs r := rfl
    rw [e]
    simp only [Rows.uptoBulkAll, bulk_string, ih, bytesOfL]
    have h3 : s.data.toList.length = s.size := by rw [Array.length_toList]; rfl
    omega

theorem small_strs {H : Type} {l : List (DataW H)} (hk : Rows.uptoSmall H l = true) (j : Nat) {d : DataW H} {s : List ByteArray} (hd : l[j]? = some d) (h : s = [] ∨ ∃ spare, d = .slice (ChangeShapes.strs s) spare) : bytesOfL s ≤ 1048576 := by
  rcases h with rfl | ⟨spare, rfl⟩
  · simp [bytesOfL]
  have h1 : Rows.uptoBulkAll l ≤ 1048576 := of_decide_eq_true hk
  have h2 := bulk_part (List.mem_of_getElem? hd)
  simp only [Rows.uptoBulk, bulk_strs] at h2
  omega

theorem bytesOfL_len : ∀ l : List ByteArray, l.length ≤ bytesOfL l
  | [] => Nat.le_refl _
  | s :: r => by
    have := bytesOfL_len r
    simp only [bytesOfL, List.length_cons]
    omega
theorem bytesOfL_mem : ∀ {l : List ByteArray} {s : ByteArray}, s ∈ l → s.size ≤ bytesOfL l
  | s' :: r, s, h => by
    simp only [bytesOfL]
    rcases List.mem_cons.1 h with rfl | h
    · omega
    · have := bytesOfL_mem h
      omega

end Go.Proofs.Us

/- Texts: MaxLen holds some number, whatever the world. -/
set_option maxRecDepth 100000
namespace Go.Proofs.Us
open Go Go.Ev Go.Proofs.YtnmhaemjffcjaaaDoor

theorem mx_shape {w : World} (h : w.ShapedOpen Tryd.prog) : ∃ m : Int, w.cell? ⟨2, 0, none⟩ = some (.int .i64 m) := by
  have h0 : ((begin Tryd.prog (fun _ _ => 0) default).world.heap[2]?).bind Obj.row? = some (#[.int .i64 0], 3) := by kernel_rfl
  obtain ⟨cs, hh, hs, hr⟩ := h.1 2 #[.int .i64 0] 3 (of_decide_eq_true (by kernel_rfl)) h0
  obtain ⟨ts, hts, _, hall⟩ := hr (by kernel_rfl)
  have hc : Tryd.prog.cellTypes Tryd.prog.depth 3 = some [3] := by kernel_rfl
  rw [hc] at hts
  cases hts
  have hs1 : cs.size = 1 := hs
  have h1 : 0 < cs.size := by omega
  obtain ⟨u, hu', hok⟩ := hall 0 cs[0] (by simp [h1])
  have : u = 3 := by simpa using hu'.symm
  subst this
  have hcell : w.cell? ⟨2, 0, none⟩ = some cs[0] := by simp [World.cell?, hh, h1]
  rw [hcell]
  unfold Cell.ok at hok
  rw [show Tryd.prog.underlying 3 = some (.int .i64) by kernel_rfl] at hok
  cases hv : cs[0] <;> rw [hv] at hok <;> first | exact ⟨_, by rw [hok.1]⟩ | simp at hok

theorem globWX {W : World} {m : Int} (h : laidMetH Tryd.prog laidT W) (hm : W.cell? ⟨2, 0, none⟩ = some (.int .i64 m)) : @GlobW ⟨tabsX m⟩ W := by
  have hg := globW h
  have hs : 2 < W.heap.size := by
    simp only [World.cell?] at hm
    rcases Nat.lt_or_ge 2 W.heap.size with hc | hc
    · exact hc
    · simp [Array.getElem?_eq_none hc] at hm
  intro g sz q hl
  match g, hl with
  | 0, hl => exact hg 0 sz q hl
  | 1, hl => exact hg 1 sz q hl
  | 2, hl =>
    cases (Option.some.inj (show some (1, Seq.fn 1 fun _ => AV.v (.int .i64 m)) = some (sz, q) from hl))
    refine ⟨rfl, hs, fun i hi => ⟨rfl, fun j hj => ?_⟩⟩
    have hi0 : i = 0 := by have : i < 1 := hi; omega
    have hj0 : j = 0 := by have : j < 1 := hj; omega
    subst hi0; subst hj0
    exact ⟨_, rfl, trivial, hm⟩
  | g + 3, hl => cases (show (none : Option (Nat × Ev.Seq AV)) = some (sz, q) from hl)
end Go.Proofs.Us
