/- Contracts of the program's functions, and the plain law behind them. No condition beyond those in each statement. -/
import Derived.Test.YtnmhaemjffcjaaaDoorCards
import Derived.Test.YtnmhaemjffcjaaaDoorTie
import Derived.Test.YtnmhaemjffcjaaaDoorUsAll1
import Derived.Test.YtnmhaemjffcjaaaDoorEvAll3
import Derived.OpenShut
import Derived.ChangeSame
import Derived.Lib.LaidTab
import Derived.MakeChecks
import Derived.ProofKit
import Derived.Deep.DeepHandedRow
set_option linter.unusedSimpArgs false
set_option linter.unusedVariables false
set_option linter.unusedSectionVars false
/- Texts: from the row's listed tables to the walk's. -/
set_option maxRecDepth 100000
namespace Go.Proofs.Us
open Go Go.Ev Go.Proofs.YtnmhaemjffcjaaaDoor

theorem gFirst : Tryd.prog.globalNamed "unicode/utf8.first" = some 0 := by kernel_rfl
theorem gRanges : Tryd.prog.globalNamed "unicode/utf8.acceptRanges" = some 1 := by kernel_rfl
theorem tFirst : (Tryd.prog.globals[0]?).map (·.type) = some 77 := by kernel_rfl
theorem tRanges : (Tryd.prog.globals[1]?).map (·.type) = some 80 := by kernel_rfl
theorem u77 : Tryd.prog.underlying 77 = some (.array 256 5) := by kernel_rfl
theorem u80 : Tryd.prog.underlying 80 = some (.array 16 79) := by kernel_rfl
theorem u5 : Tryd.prog.underlying 5 = some (.int .u8) := by kernel_rfl
theorem c5 : Tryd.prog.cellsOf 5 = 1 := by kernel_rfl
theorem c77 : Tryd.prog.cellsOf 77 = 256 := by kernel_rfl
theorem c79 : Tryd.prog.cellsOf 79 = 2 := by kernel_rfl
theorem c80 : Tryd.prog.cellsOf 80 = 32 := by kernel_rfl
theorem u79 : ∃ f0 f1 : Field, Tryd.prog.underlying 79 = some (.struct #[f0, f1]) ∧ f0.offset = 0 ∧ f0.type = 5 ∧ f1.offset = 1 ∧ f1.type = 5 := by
  have h : (match Tryd.prog.underlying 79 with | some (.struct fs) => (fs.toList.map fun (f : Field) => (f.offset, f.type)) == [(0, 5), (1, 5)] | _ => false) = true := by kernel_rfl
  cases hu : Tryd.prog.underlying 79 with
  | none => rw [hu] at h; cases h
  | some t =>
    rw [hu] at h
    cases t with
    | struct fs =>
      obtain ⟨l⟩ := fs
      simp only [beq_iff_eq] at h
      match l, h with
      | [f0, f1], h =>
        simp only [List.map_cons, List.map_nil, List.cons.injEq, Prod.mk.injEq, and_true] at h
        exact ⟨f0, f1, rfl, h.1.1, h.1.2, h.2.1, h.2.2⟩
    | _ => cases h

theorem first_data : Go.Pinned.utf8First = Lib.tabData .u8 firsts := by rfl
abbrev laidT : List (String × DataW Unit) := [("unicode/utf8.acceptRanges", Rows.laid_unicode_utf8_acceptRanges), ("unicode/utf8.first", Rows.laid_unicode_utf8_first)]

variable {H : Type} {enc : TypeId × Value → H} {w : World} {base : Nat} {sp : Nat → Bool} {held : Bool} {fuel : Nat} {p : List MemPlace}
theorem pair_of {cs : List Value} {d : DataW H} (h : DataW.trod enc Tryd.prog w base sp held fuel 79 cs = some (d, p)) :
    ∃ a b, cs = [.int .u8 a, .int .u8 b] ∧ d = .agg [.lit (.int .u8 a), .lit (.int .u8 b)] := by
  obtain ⟨f0, f1, hu, o0, t0, o1, t1⟩ := u79
  obtain ⟨y0, y1, n, hx, hl, h0, h1⟩ := Go.ChangeShapes.trod_struct2 hu h
  rw [c79] at hl
  match cs, hl with
  | [x, y], _ =>
    rw [o0, t0, c5] at h0
    rw [o1, t1, c5] at h1
    obtain ⟨a, ha, e0, _⟩ := DataW.trod_int u5 (show _ = some (y0.1, y0.2) from h0)
    obtain ⟨b, hb, e1, _⟩ := DataW.trod_int u5 (show _ = some (y1.1, y1.2) from h1)
    simp at ha hb
    refine ⟨a, b, by rw [ha, hb], ?_⟩
    have := congrArg Prod.fst hx
    simp only at this
    rw [this, show y0.1 = _ from congrArg Prod.fst e0, show y1.1 = _ from congrArg Prod.fst e1]

theorem globW {W : World} (h : laidMetH Tryd.prog laidT W) : GlobW W := by
  rw [MakeChecks.laidMetH_plain _ _ _ (by kernel_rfl)] at h
  obtain ⟨ps, ⟨g1, t1, cs1, f1, p1, q1, hg1, ht1, hv1, hd1, ⟨g0, t0, cs0, f0, p0, q0, hg0, ht0, hv0, hd0, _, _⟩, _⟩, _, _⟩ := h
  obtain rfl := Option.some.inj (gRanges.symm.trans hg1)
  obtain rfl := Option.some.inj (tRanges.symm.trans ht1)
  obtain rfl := Option.some.inj (gFirst.symm.trans hg0)
  obtain rfl := Option.some.inj (tFirst.symm.trans ht0)
  have k0 : cs0.toList = firsts.map fun z => Value.int .u8 z := Lib.cells_of_tab u77 u5 c5 c77 (by rw [← first_data]; exact hd0)
  have cell0 : ∀ i, i < 256 → W.cell? ⟨0, i, none⟩ = some (.int .u8 (firsts.getD i 0)) := by
    intro i hi
    rw [World.var?_cell hg0 hv0 i, ← Array.getElem?_toList, k0]
    have : i < firsts.length := by rw [show firsts.length = 256 from by decide]; exact hi
    simp [List.getD, this]
  have cell1 : ∀ i, i < 16 → W.cell? ⟨1, i * 2, none⟩ = some (.int .u8 (lows.getD i 0)) ∧ W.cell? ⟨1, i * 2 + 1, none⟩ = some (.int .u8 (highs.getD i 0)) := by
    intro i hi
    obtain ⟨xs, m, _, hx, hl, hn, hel⟩ := DataW.trod_array u80 hd1
    have h1 := hel i hi
    rw [c79] at h1
    have hxi : i < xs.length := by omega
    rw [List.getElem?_eq_getElem hxi] at h1
    obtain ⟨a, b, hc, hd⟩ := pair_of (show _ = some (xs[i].1, xs[i].2) from h1)
    have hx1 := congrArg Prod.fst hx
    simp only [Rows.laid_unicode_utf8_acceptRanges, DataW.agg.injEq] at hx1
    have hx2 := congrArg (fun l => l[i]?) hx1
    simp only [List.getElem?_map, List.getElem?_eq_getElem hxi, Option.map_some, hd] at hx2
    have ca : cs1.toList[i * 2]? = some (.int .u8 a) := by
      have := congrArg (·[0]?) hc
      simpa [List.getElem?_take, List.getElem?_drop] using this
    have cb : cs1.toList[i * 2 + 1]? = some (.int .u8 b) := by
      have := congrArg (·[1]?) hc
      simpa [List.getElem?_take, List.getElem?_drop] using this
    rw [World.var?_cell hg1 hv1, World.var?_cell hg1 hv1, ← Array.getElem?_toList, ← Array.getElem?_toList, ca, cb]
    clear hc hd ca cb h1 hx1 hel hx hl
    have hab : lows.getD i 0 = a ∧ highs.getD i 0 = b := by
      have : i = 0 ∨ i = 1 ∨ i = 2 ∨ i = 3 ∨ i = 4 ∨ i = 5 ∨ i = 6 ∨ i = 7 ∨ i = 8 ∨ i = 9 ∨ i = 10 ∨ i = 11 ∨ i = 12 ∨ i = 13 ∨ i = 14 ∨ i = 15 := by omega
      rcases this with rfl | rfl | rfl | rfl | rfl | rfl | rfl | rfl | rfl | rfl | rfl | rfl | rfl | rfl | rfl | rfl <;> (simp at hx2; obtain ⟨rfl, rfl⟩ := hx2; exact ⟨rfl, rfl⟩)
    rw [hab.1, hab.2]
    exact ⟨rfl, rfl⟩
  intro g sz q hlook
  have hs : ∀ b off v, W.cell? ⟨b, off, none⟩ = some v → b < W.heap.size := by
    intro b off v h
    simp only [World.cell?] at h
    rcases Nat.lt_or_ge b W.heap.size with hc | hc
    · exact hc
    · simp [Array.getElem?_eq_none hc] at h
  change Ev.look [(0, 1, Seq.ints .u8 firsts), (1, 2, Seq.fn 16 fun i => AV.agg [.v (.int .u8 (lows.getD i 0)), .v (.int .u8 (highs.getD i 0))])] g = some (sz, q) at hlook
  by_cases e0 : g = 0
  · subst e0
    have : (sz, q) = (1, Seq.ints .u8 firsts) := by have : some (1, Seq.ints .u8 firsts) = some (sz, q) := hlook; exact (Option.some.inj this).symm
    cases this
    refine ⟨rfl, hs _ _ _ (cell0 0 (by decide)), fun i hi => ⟨rfl, fun j hj => ?_⟩⟩
    have hj0 : j = 0 := by have : j < 1 := hj; omega
    subst hj0
    refine ⟨_, rfl, trivial, ?_⟩
    rw [Nat.mul_one]
    exact cell0 i (by have : i < firsts.length := hi; rwa [show firsts.length = 256 from by decide] at this)
  · by_cases e1 : g = 1
    · subst e1
      cases (Option.some.inj (show some (2, Seq.fn 16 fun i => AV.agg [.v (.int .u8 (lows.getD i 0)), .v (.int .u8 (highs.getD i 0))]) = some (sz, q) from hlook))
      refine ⟨rfl, hs _ _ _ (cell1 0 (by decide)).1, fun i hi => ⟨rfl, fun j hj => ?_⟩⟩
      have hj2 : j < 2 := hj
      have hi16 : i < 16 := hi
      match j, hj2 with
      | 0, _ => exact ⟨_, rfl, trivial, (cell1 i hi16).1⟩
      | 1, _ => exact ⟨_, rfl, trivial, (cell1 i hi16).2⟩
    · exfalso
      match g, e0, e1, hlook with
      | 0, e0, _, _ => exact e0 rfl
      | 1, _, e1, _ => exact e1 rfl
      | g + 2, _, _, hlook => cases (show (none : Option (Nat × Ev.Seq AV)) = some (sz, q) from hlook)
      
end Go.Proofs.Us

/- Texts: the bound of the second form; the witness's world. -/
set_option maxRecDepth 100000
namespace Go.Proofs.Us
open Go Go.Ev Go.Proofs.YtnmhaemjffcjaaaDoor

theorem bulk_part {H : Type} {d : DataW H} {l : List (DataW H)} (h : d ∈ l) : Rows.uptoBulk d ≤ Rows.uptoBulkAll l := by
  induction l with
  | nil => cases h
  | cons a l ih =>
    simp only [Rows.uptoBulkAll]
    rcases List.mem_cons.1 h with rfl | h
    · omega
    · have := ih h; omega
theorem bulk_string {H : Type} (bytes : List UInt8) : Rows.uptoBulk (DataW.lit (H := H) (.string bytes)) = bytes.length + 1 := by
  simp only [Rows.uptoBulk]
theorem small_string {H : Type} {l : List (DataW H)} (hk : Rows.uptoSmall H l = true) (j : Nat) {d : DataW H} {s : ByteArray} (hd : l[j]? = some d) (h : d = .lit (.string s.data.toList)) : s.size + 1 ≤ 1048576 := by
  have h1 : Rows.uptoBulkAll l ≤ 1048576 := of_decide_eq_true hk
  have h2 := bulk_part (List.mem_of_getElem? hd)
  rw [h, bulk_string] at h2
  have h3 : s.data.toList.length = s.size := by rw [Array.length_toList]; rfl
  omega

/-- the settled world with Go's two tables -/
noncomputable def setCells (vs : Array Value) : Obj → Obj
  | .cells _ t frozen => .cells vs t frozen
  | o => o
noncomputable def laidWorld (os : Os) : World :=
  { World.holding Tryd.prog os ⟨#[], #[], []⟩ with
    heap := ((World.holding Tryd.prog os ⟨#[], #[], []⟩).heap.modify 0 (setCells (Go.Pinned.utf8FirstZ.map fun n => Value.int .u8 (Int.ofNat n)).toArray)).modify 1 (setCells
      #[.int .u8 128, .int .u8 191, .int .u8 160, .int .u8 191, .int .u8 128, .int .u8 159, .int .u8 144, .int .u8 191, .int .u8 128, .int .u8 143, .int .u8 0, .int .u8 0, .int .u8 0, .int .u8 0, .int .u8 0, .int .u8 0, .int .u8 0, .int .u8 0, .int .u8 0, .int .u8 0, .int .u8 0, .int .u8 0, .int .u8 0, .int .u8 0, .int .u8 0, .int .u8 0, .int .u8 0, .int .u8 0, .int .u8 0, .int .u8 0, .int .u8 0, .int .u8 0]) }
theorem laid_met (os : Os) (args : Array Value) : laidMet Tryd.prog laidT ((laidWorld os).forCall (fun _ _ => 0) ⟨#[], args, []⟩).memory :=
  laidMet_of_run' 8 (by kernel_rfl) (by kernel_rfl)
end Go.Proofs.Us
