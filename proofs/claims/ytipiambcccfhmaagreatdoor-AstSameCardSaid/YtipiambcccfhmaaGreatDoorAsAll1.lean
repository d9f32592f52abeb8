/- Contracts of the program's functions, and the plain law behind them. No condition beyond those in each statement. -/
import Derived.Test.YtipiambcccfhmaaGreatDoorProg
import Derived.Test.YtipiambcccfhmaaGreatDoorEvAll4
import GoSem.PinnedTables
import Derived.Test.YtipiambcccfhmaaGreatDoorCards
import Derived.Test.YtipiambcccfhmaaGreatDoorTie
import Derived.OpenShut
import Derived.ChangeSame
import Derived.Lib.LaidTab
import Derived.MakeChecks
import Derived.Lay
import Derived.Deep.DeepHandedRow
set_option linter.unusedSimpArgs false
set_option linter.unusedVariables false
set_option linter.unusedSectionVars false
/- Ast: the package-level tables; closed runs. -/
set_option maxRecDepth 100000
namespace Go.Proofs.As
open Go Go.Ev

/-- what internal/bytealg.MaxLen holds: any number -/
class MX where mx : Int
/-- the powers of ten -/
noncomputable def p10 : Seq AV := .avs (Go.Pinned.pow10Rows.map fun x => .agg [.v (.int .u64 x.1), .v (.int .u64 x.2)])
noncomputable def tabs (m : Int) : List (Nat × Nat × Seq AV) := [(1, 1, .fn 1 fun _ => .v (.int .i64 m)), (7, 1, .ints .u64 [1, 10, 100, 1000, 10000, 100000, 1000000, 10000000, 100000000, 1000000000, 10000000000, 100000000000, 1000000000000, 10000000000000, 100000000000000, 1000000000000000, 10000000000000000, 100000000000000000, 1000000000000000000, 10000000000000000000]), (8, 2, p10)]
noncomputable instance globX [MX] : Globs := ⟨tabs MX.mx⟩
variable [MX]
theorem mx_cell {S : St} (h : S.wf) : S.w.cell? ⟨1, 0, none⟩ = some (.int .i64 MX.mx) := by
  obtain ⟨_, _, hc⟩ := h.glob 1 1 (.fn 1 fun _ => .v (.int .i64 MX.mx)) rfl
  obtain ⟨_, hc⟩ := hc 0 Nat.one_pos
  obtain ⟨x, h1, _, h3⟩ := hc 0 Nat.one_pos
  cases h1
  exact h3
theorem hm : Tryz.prog.follows .mixedOrders = true := by kernel_rfl
theorem ng : noGo Tryz.prog = true := by kernel_rfl
theorem sok0 : SigsOK Tryz.prog [] := fun f sig h => by cases h
theorem bits_c (x : Nat) : PureTo Tryz.prog 22 [.v (.float .f64 x)] (.v (.int .u64 x)) := bits_pure Tryz.func22 (by kernel_rfl) (by kernel_rfl) (by kernel_rfl) (by kernel_rfl) x
def sigBit : List AV → Option (AV × List Prop)
  | [.v (.float .f64 a)] => some (.v (.int .u64 a), [])
  | _ => none
def SM0 : SGT := [(22, .p sigBit)]
end Go.Proofs.As

/- Ast: from the row's listed tables to the walk's. -/
set_option maxRecDepth 100000
namespace Go.Proofs.As
open Go Go.Ev Go.Proofs.YtipiambcccfhmaaGreatDoor

theorem laid_var {P : Program} {w : World} {n : String} {d : DataW Unit} : ∀ {laid : List (String × DataW Unit)} {ps : List MemPlace}, DataW.LaidVars P w laid ps → (n, d) ∈ laid →
    ∃ g t cs fuel p, P.globalNamed n = some g ∧ (P.globals[g]?).map (·.type) = some t ∧ w.var? P n = some cs ∧ DataW.trod (fun _ => ()) P w 0 (fun _ => true) false fuel t cs.toList = some (d, p)
  | [], _, _, h => by cases h
  | (n', d') :: laid, ps, hl, hm => by
    obtain ⟨g, t, cs, f, p, q, h1, h2, h3, h4, h5, _⟩ := hl
    rcases List.mem_cons.1 hm with e | hm
    · cases e
      exact ⟨g, t, cs, f, p, h1, h2, h3, h4⟩
    · exact laid_var h5 hm

theorem g7 : Tryz.prog.globalNamed "internal/strconv.uint64pow10" = some 7 := by kernel_rfl
theorem g8 : Tryz.prog.globalNamed "internal/strconv.pow10Tab" = some 8 := by kernel_rfl
theorem t7 : (Tryz.prog.globals[7]?).map (·.type) = some 175 := by kernel_rfl
theorem t8 : (Tryz.prog.globals[8]?).map (·.type) = some 188 := by kernel_rfl
theorem u175 : Tryz.prog.underlying 175 = some (.array 20 39) := by kernel_rfl
theorem u188 : Tryz.prog.underlying 188 = some (.array 696 187) := by kernel_rfl
theorem u39 : Tryz.prog.underlying 39 = some (.int .u64) := by kernel_rfl
theorem c39 : Tryz.prog.cellsOf 39 = 1 := by kernel_rfl
theorem c175 : Tryz.prog.cellsOf 175 = 20 := by kernel_rfl
theorem c187 : Tryz.prog.cellsOf 187 = 2 := by kernel_rfl
theorem u187 : ∃ f0 f1 : Field, Tryz.prog.underlying 187 = some (.struct #[f0, f1]) ∧ f0.offset = 0 ∧ f0.type = 39 ∧ f1.offset = 1 ∧ f1.type = 39 := by
  have h : (match Tryz.prog.underlying 187 with | some (.struct fs) => (fs.toList.map fun (f : Field) => (f.offset, f.type)) == [(0, 39), (1, 39)] | _ => false) = true := by kernel_rfl
  cases hu : Tryz.prog.underlying 187 with
  | none => rw [hu] at h; cases h
  | some t =>
    rw [hu] at h
    cases t with
    | struct fs =>
      obtain ⟨l⟩ := fs
      simp only [beq_iff_eq] at h
      match l, h with
      | [f0, f1], h =>
        simp only [List.map_cons, List.map_nil, List.cons.injEq, Prod.mk.injEq, and_true] at h
        exact ⟨f0, f1, rfl, h.1.1, h.1.2, h.2.1, h.2.2⟩
    | _ => cases h

abbrev laidT : List (String × DataW Unit) := [("math/bits.deBruijn32tab", Rows.laid_math_bits_deBruijn32tab), ("math/bits.deBruijn64tab", Rows.laid_math_bits_deBruijn64tab), ("internal/strconv.optimize", Rows.laid_internal_strconv_optimize), ("internal/strconv.uint64pow10", Rows.laid_internal_strconv_uint64pow10), ("unicode/utf8.acceptRanges", Rows.laid_unicode_utf8_acceptRanges), ("strconv.ErrRange", Rows.laid_strconv_ErrRange), ("strconv.ErrSyntax", Rows.laid_strconv_ErrSyntax), ("internal/strconv.leftcheats", Rows.laid_internal_strconv_leftcheats), ("internal/strconv.pow10Tab", Rows.laid_internal_strconv_pow10Tab), ("unicode/utf8.first", Rows.laid_unicode_utf8_first)]

variable {H : Type} {enc : TypeId × Value → H} {w : World} {base : Nat} {sp : Nat → Bool} {held : Bool} {fuel : Nat} {p : List MemPlace}
theorem pair_of {cs : List Value} {d : DataW H} (h : DataW.trod enc Tryz.prog w base sp held fuel 187 cs = some (d, p)) :
    ∃ a b, cs = [.int .u64 a, .int .u64 b] ∧ d = .agg [.lit (.int .u64 a), .lit (.int .u64 b)] := by
  obtain ⟨f0, f1, hu, o0, t0, o1, t1⟩ := u187
  obtain ⟨y0, y1, n, hx, hl, h0, h1⟩ := Go.ChangeShapes.trod_struct2 hu h
  rw [c187] at hl
  match cs, hl with
  | [x, y], _ =>
    rw [o0, t0, c39] at h0
    rw [o1, t1, c39] at h1
    obtain ⟨a, ha, e0, _⟩ := DataW.trod_int u39 (show _ = some (y0.1, y0.2) from h0)
    obtain ⟨b, hb, e1, _⟩ := DataW.trod_int u39 (show _ = some (y1.1, y1.2) from h1)
    simp at ha hb
    refine ⟨a, b, by rw [ha, hb], ?_⟩
    have := congrArg Prod.fst hx
    simp only at this
    rw [this, show y0.1 = _ from congrArg Prod.fst e0, show y1.1 = _ from congrArg Prod.fst e1]

def tens : List Int := [1, 10, 100, 1000, 10000, 100000, 1000000, 10000000, 100000000, 1000000000, 10000000000, 100000000000, 1000000000000, 10000000000000, 100000000000000, 1000000000000000, 10000000000000000, 100000000000000000, 1000000000000000000, 10000000000000000000]
theorem ten_data : (Rows.laid_internal_strconv_uint64pow10 : DataW Unit) = Lib.tabData .u64 tens := by rfl
theorem rows_len : Go.Pinned.pow10Rows.length = 696 := by decide +kernel

theorem globWX {W : World} {m : Int} (h : laidMetH Tryz.prog laidT W) (hm : W.cell? ⟨1, 0, none⟩ = some (.int .i64 m)) : @GlobW ⟨tabs m⟩ W := by
  rw [MakeChecks.laidMetH_plain _ _ _ (by kernel_rfl)] at h
  obtain ⟨ps, hL, _, _⟩ := h
  obtain ⟨g, t, cs7, f7, p7, hg7, ht7, hv7, hd7⟩ := laid_var (n := "internal/strconv.uint64pow10") (d := Rows.laid_internal_strconv_uint64pow10) hL (by simp)
  obtain rfl := Option.some.inj (g7.symm.trans hg7)
  obtain rfl := Option.some.inj (t7.symm.trans ht7)
  obtain ⟨g, t, cs8, f8, p8, hg8, ht8, hv8, hd8⟩ := laid_var (n := "internal/strconv.pow10Tab") (d := Rows.laid_internal_strconv_pow10Tab) hL (by simp)
  obtain rfl := Option.some.inj (g8.symm.trans hg8)
  obtain rfl := Option.some.inj (t8.symm.trans ht8)
  have k7 : cs7.toList = tens.map fun z => Value.int .u64 z := Lib.cells_of_tab u175 u39 c39 c175 (by rw [← ten_data]; exact hd7)
  have cell7 : ∀ i, i < 20 → W.cell? ⟨7, i, none⟩ = some (.int .u64 (tens.getD i 0)) := by
    intro i hi
    rw [World.var?_cell hg7 hv7 i, ← Array.getElem?_toList, k7]
    have : i < tens.length := hi
    simp [List.getD, this]
  have cell8 : ∀ i (hi : i < Go.Pinned.pow10Rows.length), W.cell? ⟨8, i * 2, none⟩ = some (.int .u64 (Go.Pinned.pow10Rows[i]).1) ∧ W.cell? ⟨8, i * 2 + 1, none⟩ = some (.int .u64 (Go.Pinned.pow10Rows[i]).2) := by
    intro i hi
    obtain ⟨xs, n', _, hx, hl, hn, hel⟩ := DataW.trod_array u188 hd8
    have hi' : i < 696 := by rw [← rows_len]; exact hi
    have h1 := hel i hi'
    rw [c187] at h1
    have hxi : i < xs.length := by omega
    rw [List.getElem?_eq_getElem hxi] at h1
    obtain ⟨a, b, hc, hd⟩ := pair_of (show _ = some (xs[i].1, xs[i].2) from h1)
    have hx1 := congrArg Prod.fst hx
    simp only [Rows.laid_internal_strconv_pow10Tab, Go.Pinned.pow10Tab, DataW.agg.injEq] at hx1
    have hx2 := congrArg (fun l => l[i]?) hx1
    simp only [List.getElem?_map, List.getElem?_eq_getElem hxi, List.getElem?_eq_getElem hi, Option.map_some, hd, Option.some.injEq, DataW.agg.injEq, List.cons.injEq, DataW.lit.injEq, Lit.int.injEq, true_and, and_true] at hx2
    have ca : cs8.toList[i * 2]? = some (.int .u64 a) := by
      have := congrArg (·[0]?) hc
      simpa [List.getElem?_take, List.getElem?_drop] using this
    have cb : cs8.toList[i * 2 + 1]? = some (.int .u64 b) := by
      have := congrArg (·[1]?) hc
      simpa [List.getElem?_take, List.getElem?_drop] using this
    rw [World.var?_cell hg8 hv8, World.var?_cell hg8 hv8, ← Array.getElem?_toList, ← Array.getElem?_toList, ca, cb, hx2.1, hx2.2]
    exact ⟨rfl, rfl⟩
  have hs : ∀ b off v, W.cell? ⟨b, off, none⟩ = some v → b < W.heap.size := by
    intro b off v h
    simp only [World.cell?] at h
    rcases Nat.lt_or_ge b W.heap.size with hc | hc
    · exact hc
    · simp [Array.getElem?_eq_none hc] at h
  have r0 : 0 < Go.Pinned.pow10Rows.length := by rw [rows_len]; omega
  intro g sz q hlook
  match g, hlook with
  | 0, hl => cases (show (none : Option (Nat × Ev.Seq AV)) = some (sz, q) from hl)
  | 1, hl =>
    cases (Option.some.inj (show some (1, Seq.fn 1 fun _ => AV.v (.int .i64 m)) = some (sz, q) from hl))
    refine ⟨rfl, hs _ _ _ hm, fun i hi => ⟨rfl, fun j hj => ?_⟩⟩
    have hi0 : i = 0 := by have : i < 1 := hi; omega
    have hj0 : j = 0 := by have : j < 1 := hj; omega
    subst hi0; subst hj0
    exact ⟨_, rfl, trivial, hm⟩
  | 2, hl => cases (show (none : Option (Nat × Ev.Seq AV)) = some (sz, q) from hl)
  | 3, hl => cases (show (none : Option (Nat × Ev.Seq AV)) = some (sz, q) from hl)
  | 4, hl => cases (show (none : Option (Nat × Ev.Seq AV)) = some (sz, q) from hl)
  | 5, hl => cases (show (none : Option (Nat × Ev.Seq AV)) = some (sz, q) from hl)
  | 6, hl => cases (show (none : Option (Nat × Ev.Seq AV)) = some (sz, q) from hl)
  | 7, hl =>
    cases (Option.some.inj (show some (1, Seq.ints .u64 tens) = some (sz, q) from hl))
    refine ⟨rfl, hs _ _ _ (cell7 0 (by decide)), fun i hi => ⟨rfl, fun j hj => ?_⟩⟩
    have hj0 : j = 0 := by have : j < 1 := hj; omega
    subst hj0
    refine ⟨_, rfl, trivial, ?_⟩
    rw [Nat.mul_one]
    exact cell7 i hi
  | 8, hl =>
    cases (Option.some.inj (show some (2, p10) = some (sz, q) from hl))
    refine ⟨rfl, hs _ _ _ (cell8 0 r0).1, fun i hi => ?_⟩
    have hi' : i < Go.Pinned.pow10Rows.length := by simpa [p10, Seq.len] using hi
    have hget : p10.get i = .agg [.v (.int .u64 (Go.Pinned.pow10Rows[i]).1), .v (.int .u64 (Go.Pinned.pow10Rows[i]).2)] := by
      simp [p10, Seq.get, hi']
    rw [hget]
    refine ⟨rfl, fun j hj => ?_⟩
    have hj2 : j < 2 := hj
    match j, hj2 with
    | 0, _ => exact ⟨_, rfl, trivial, (cell8 i hi').1⟩
    | 1, _ => exact ⟨_, rfl, trivial, (cell8 i hi').2⟩
  | g + 9, hl => cases (show (none : Option (Nat × Ev.Seq AV)) = some (sz, q) from hl)

theorem mx_shape {w : World} (h : w.ShapedOpen Tryz.prog) : ∃ m : Int, w.cell? ⟨1, 0, none⟩ = some (.int .i64 m) := by
  have h0 : ((begin Tryz.prog (fun _ _ => 0) default).world.heap[1]?).bind Obj.row? = some (#[.int .i64 0], 3) := by kernel_rfl
  obtain ⟨cs, hh, hs, hr⟩ := h.1 1 #[.int .i64 0] 3 (of_decide_eq_true (by kernel_rfl)) h0
  obtain ⟨ts, hts, _, hall⟩ := hr (by kernel_rfl)
  have hc : Tryz.prog.cellTypes Tryz.prog.depth 3 = some [3] := by kernel_rfl
  rw [hc] at hts
  cases hts
  have hs1 : cs.size = 1 := hs
  have h1 : 0 < cs.size := by omega
  obtain ⟨u, hu', hok⟩ := hall 0 cs[0] (by simp [h1])
  have : u = 3 := by simpa using hu'.symm
  subst this
  have hcell : w.cell? ⟨1, 0, none⟩ = some cs[0] := by simp [World.cell?, hh, h1]
  rw [hcell]
  unfold Cell.ok at hok
  rw [show Tryz.prog.underlying 3 = some (.int .i64) by kernel_rfl] at hok
  cases hv : cs[0] <;> rw [hv] at hok <;> first | exact ⟨_, by rw [hok.1]⟩ | simp at hok
end Go.Proofs.As

/- Ast: a world in which the listed tables lie. -/
set_option maxRecDepth 100000
namespace Go
theorem witness_row_sh {H : Type} {enc : TypeId × Value → H} {C : Checked} {os : Os} {f : FuncId} {fn : Func} {s : OpenSpec} {conds : List PathCond} {apart : Bool} {laid : List (String × DataW Unit)} (modest : Bool) (w0 : World) (args : Array Value) (hos : w0.os = os)
    (hsh : (w0.forCall (fun _ _ => 0) ⟨#[], args, []⟩).Shaped C.prog)
    (hok : Input.okWideB C.prog (w0.forCall (fun _ _ => 0) ⟨#[], args, []⟩) f ⟨#[], args, []⟩ = true)
    (hrow : s.preRow enc C.prog fn conds apart laid (w0.forCall (fun _ _ => 0) ⟨#[], args, []⟩).memory args) :
    ∃ (w : World) (tape : Tape) (i : Input), w.os = os ∧ (w.forCall tape i).Shaped C.prog ∧ i.vars = [] ∧ Input.okWide C.prog (w.forCall tape i) .any w.heap.size f i ∧
      s.preRow enc C.prog fn conds apart laid (w.forCall tape i).memory i.args ∧ ({ modest := modest } : Assume).holds C.prog (lone (Frame.enter C.prog f i.args .normal) [] (w.forCall tape i)) :=
  ⟨w0, fun _ _ => 0, ⟨#[], args, []⟩, hos, hsh, (Input.okWide_of_okWideB (base := 0) hok).1, (Input.okWide_of_okWideB hok).2, hrow, by
    simp only [Assume.holds]
    exact ⟨by simp, by simp, fun _ => Modest.zero, by simp, by simp⟩⟩
end Go
namespace Go.Proofs.As
open Go Go.Ev Go.Proofs.YtipiambcccfhmaaGreatDoor

noncomputable def laidWorld (os : Os) : World := World.laidAll Tryz.prog os laidT
theorem laid_met (os : Os) (args : Array Value) : laidMet Tryz.prog laidT ((laidWorld os).forCall (fun _ _ => 0) ⟨#[], args, []⟩).memory :=
  laidMet_laidAll args (by kernel_rfl) (by kernel_rfl)
theorem laid_zip (os : Os) (args : Array Value) : ((laidWorld os).forCall (fun _ _ => 0) ⟨#[], args, []⟩).variablesZipB Tryz.prog = true := by kernel_rfl
theorem laid_rest (os : Os) (args : Array Value) : (((laidWorld os).forCall (fun _ _ => 0) ⟨#[], args, []⟩).heap.toList.drop Tryz.prog.globals.size).take ((begin Tryz.prog (fun _ _ => 0) default).world.heap.size - Tryz.prog.globals.size) = (begin Tryz.prog (fun _ _ => 0) default).world.heap.toList.drop Tryz.prog.globals.size := by kernel_rfl
theorem laid_shaped (os : Os) (args : Array Value) : ((laidWorld os).forCall (fun _ _ => 0) ⟨#[], args, []⟩).Shaped Tryz.prog := World.shaped_of_ZipB (laid_zip os args) (laid_rest os args)
end Go.Proofs.As

/- Ast: trees as arguments; how many nodes they have. -/
set_option maxRecDepth 100000
namespace Go.Proofs.As
open Go Go.Ev
variable [MX]

/-- a node -/
def avN (k : Int) (o s : ByteArray) (x : Nat) (f : Bool) (m : Nat) (g : Nat → AV) (p : Int) : AV :=
  .agg [.v (.int .i64 k), .v (.string o), .v (.string s), .v (.float .f64 x), .v (.bool f), .sl 7 (.fn m g) false, .v (.int .i64 p)]

/-- a tree, at most so deep -/
def IsTree : Nat → AV → Prop
  | 0, _ => False
  | d + 1, y => ∃ (k : Int) (o s : ByteArray) (x : Nat) (f : Bool) (m : Nat) (p : Int) (K : Nat → Int) (O S : Nat → ByteArray) (X : Nat → Nat) (F : Nat → Bool) (M : Nat → Nat) (G : Nat → Nat → AV) (Pp : Nat → Int),
      y = avN k o s x f m (fun i => avN (K i) (O i) (S i) (X i) (F i) (M i) (G i) (Pp i)) p ∧ m ≤ 9223372036854775807 ∧ ∀ i, i < m → IsTree d (avN (K i) (O i) (S i) (X i) (F i) (M i) (G i) (Pp i))

/-- how many nodes, behind some; not more than one beyond the cap is told -/
def cntL (c : AV → Int → Int) (g : Nat → AV) : Nat → Nat → Int → Int
  | 0, _, h => h
  | n + 1, i, h => if h > 1048576 then h else cntL c g n (i + 1) (c (g i) h)
def cnt : Nat → AV → Int → Int
  | 0, _, h => h
  | d + 1, .agg [_, _, _, _, _, .sl _ (.fn m g) _, _], h => cntL (cnt d) g m 0 (h + 1)
  | _, _, h => h
def sigCnt (d : Nat) : List AV → Option (AV × List Prop)
  | [x, .v (.int .i64 n)] => some (.v (.int .i64 (cnt d x n)), [IsTree d x, 0 ≤ n, n ≤ 1048576])
  | _ => none
def SA1 (d : Nat) : SGT := (16, .p (sigCnt d)) :: SM0
end Go.Proofs.As

/- Ast: walks, written by the tool. -/
set_option maxRecDepth 100000
namespace Go.Proofs.As
open Go Go.Ev
variable [MX]
def cnS0 (d : Nat) (so1 : SigsOK Tryz.prog (SA1 d)) (k p b : Int) (o s : ByteArray) (x : Nat) (f : Bool) (m : Nat) (K Pp : Nat → Int) (O S : Nat → ByteArray) (X : Nat → Nat) (F : Nat → Bool) (M : Nat → Nat) (G : Nat → Nat → AV) (x0 : Int) (x1 : Int) : AS := { n := 23, fr := [(1, AV.v (.int .i64 x0)), (10, AV.sl 7 (Seq.fn m fun (i : Nat) => avN (K i) (O i) (S i) (X i) (F i) (M i) (G i) (Pp i)) false), (11, AV.v (.int .i64 (↑m : Int))), (12, AV.v (.int .i64 x1))], hp := [], nx := 0 }
def cnX0 (d : Nat) (so1 : SigsOK Tryz.prog (SA1 d)) (k p b : Int) (o s : ByteArray) (x : Nat) (f : Bool) (m : Nat) (K Pp : Nat → Int) (O S : Nat → ByteArray) (X : Nat → Nat) (F : Nat → Bool) (M : Nat → Nat) (G : Nat → Nat → AV) (x2 : Int) : AS := { n := 23, fr := [(1, AV.v (.int .i64 x2))], hp := [], nx := 0 }
-- 3 paths
theorem cnL0_1 (d : Nat) (so1 : SigsOK Tryz.prog (SA1 d)) (k p b : Int) (o s : ByteArray) (x : Nat) (f : Bool) (m : Nat) (K Pp : Nat → Int) (O S : Nat → ByteArray) (X : Nat → Nat) (F : Nat → Bool) (M : Nat → Nat) (G : Nat → Nat → AV) (x0 : Int) (x1 : Int) (h : AllP [decide (x1 < (↑m : Int)) = true, (0 : Int) ≤ x1 ∧ x1 < (↑m : Int), decide (x0 > (1048576 : Int)) = true]) : To Tryz.prog (loopAt Tryz.f16 0) ({ n := 23, fr := [(1, AV.v (.int .i64 x0)), (10, AV.sl 7 (Seq.fn m fun (i : Nat) => avN (K i) (O i) (S i) (X i) (F i) (M i) (G i) (Pp i)) false), (11, AV.v (.int .i64 (↑m : Int))), (12, AV.v (.int .i64 x1))], hp := [], nx := 0 }) (Exit.exit 0) { n := 23, fr := [(1, AV.v (.int .i64 x0))], hp := [], nx := 0 } :=
  evW_to hm so1 (hs := [CHint.ops 3 [(0, Hint.b true)], CHint.ops 5 [(1, Hint.b true)]]) (slots := [1]) (keys := []) (nx := 0) (c := _) (by kernel_rfl) h
theorem cnL0_2 (d : Nat) (so1 : SigsOK Tryz.prog (SA1 d)) (k p b : Int) (o s : ByteArray) (x : Nat) (f : Bool) (m : Nat) (K Pp : Nat → Int) (O S : Nat → ByteArray) (X : Nat → Nat) (F : Nat → Bool) (M : Nat → Nat) (G : Nat → Nat → AV) (x0 : Int) (x1 : Int) (h : AllP [decide (x1 < (↑m : Int)) = true, (0 : Int) ≤ x1 ∧ x1 < (↑m : Int), decide (x0 > (1048576 : Int)) = false, IsTree d (AV.agg [AV.v (.int .i64 (K x1.toNat)), AV.v (.string (O x1.toNat)), AV.v (.string (S x1.toNat)), AV.v (.float FloatKind.f64 (X x1.toNat)), AV.v (.bool (F x1.toNat)), AV.sl 7 (Seq.fn (M x1.toNat) (G x1.toNat)) false, AV.v (.int .i64 (Pp x1.toNat))]), (0 : Int) ≤ x0, x0 ≤ (1048576 : Int), inR IntKind.i64 (x1 + (1 : Int))]) : To Tryz.prog (loopAt Tryz.f16 0) ({ n := 23, fr := [(1, AV.v (.int .i64 x0)), (10, AV.sl 7 (Seq.fn m fun (i : Nat) => avN (K i) (O i) (S i) (X i) (F i) (M i) (G i) (Pp i)) false), (11, AV.v (.int .i64 (↑m : Int))), (12, AV.v (.int .i64 x1))], hp := [], nx := 0 }) (.normal) { n := 23, fr := [(1, AV.v (.int .i64 (cnt d (AV.agg [AV.v (.int .i64 (K x1.toNat)), AV.v (.string (O x1.toNat)), AV.v (.string (S x1.toNat)), AV.v (.float FloatKind.f64 (X x1.toNat)), AV.v (.bool (F x1.toNat)), AV.sl 7 (Seq.fn (M x1.toNat) (G x1.toNat)) false, AV.v (.int .i64 (Pp x1.toNat))]) x0))), (10, AV.sl 7 (Seq.fn m fun (i : Nat) => avN (K i) (O i) (S i) (X i) (F i) (M i) (G i) (Pp i)) false), (11, AV.v (.int .i64 (↑m : Int))), (12, AV.v (.int .i64 (x1 + (1 : Int))))], hp := [], nx := 0 } :=
  evW_to hm so1 (hs := [CHint.ops 3 [(0, Hint.b true)], CHint.ops 5 [(1, Hint.b false)]]) (slots := [1, 10, 11, 12]) (keys := []) (nx := 0) (c := _) (by kernel_rfl) h
theorem cnL0_3 (d : Nat) (so1 : SigsOK Tryz.prog (SA1 d)) (k p b : Int) (o s : ByteArray) (x : Nat) (f : Bool) (m : Nat) (K Pp : Nat → Int) (O S : Nat → ByteArray) (X : Nat → Nat) (F : Nat → Bool) (M : Nat → Nat) (G : Nat → Nat → AV) (x0 : Int) (x1 : Int) (h : AllP [decide (x1 < (↑m : Int)) = false]) : To Tryz.prog (loopAt Tryz.f16 0) ({ n := 23, fr := [(1, AV.v (.int .i64 x0)), (10, AV.sl 7 (Seq.fn m fun (i : Nat) => avN (K i) (O i) (S i) (X i) (F i) (M i) (G i) (Pp i)) false), (11, AV.v (.int .i64 (↑m : Int))), (12, AV.v (.int .i64 x1))], hp := [], nx := 0 }) (Exit.exit 0) { n := 23, fr := [(1, AV.v (.int .i64 x0))], hp := [], nx := 0 } :=
  evW_to hm so1 (hs := [CHint.ops 3 [(0, Hint.b false)]]) (slots := [1]) (keys := []) (nx := 0) (c := _) (by kernel_rfl) h
-- 1 paths
theorem cnF1 (d : Nat) (so1 : SigsOK Tryz.prog (SA1 d)) (k p b : Int) (o s : ByteArray) (x : Nat) (f : Bool) (m : Nat) (K Pp : Nat → Int) (O S : Nat → ByteArray) (X : Nat → Nat) (F : Nat → Bool) (M : Nat → Nat) (G : Nat → Nat → AV) (x2 : Int) (h : AllP [inR IntKind.i64 (b + (1 : Int)), LoopTo Tryz.prog (loopAt Tryz.f16 0) { n := 23, fr := [(1, AV.v (.int .i64 (b + (1 : Int)))), (10, AV.sl 7 (Seq.fn m fun (i : Nat) => avN (K i) (O i) (S i) (X i) (F i) (M i) (G i) (Pp i)) false), (11, AV.v (.int .i64 (↑m : Int))), (12, AV.v (.int .i64 (0 : Int)))], hp := [], nx := 0 } (Exit.exit 0) { n := 23, fr := [(1, AV.v (.int .i64 x2))], hp := [], nx := 0 }]) : PureTo Tryz.prog 16 [avN k o s x f m (fun i => avN (K i) (O i) (S i) (X i) (F i) (M i) (G i) (Pp i)) p, .v (.int .i64 b)] (AV.v (.int .i64 x2)) :=
  evFn_pure hm so1 (fn := Tryz.f16) rfl rfl (ti := false) (hs := [CHint.loop [1, 10, 11, 12] [] 0 (Exit.exit 0) { n := 23, fr := [(1, AV.v (.int .i64 x2))], hp := [], nx := 0 }]) (c := _) (by kernel_rfl) h
end Go.Proofs.As

/- Ast: how many nodes a tree has, as the program counts them. -/
set_option maxRecDepth 100000
namespace Go.Proofs.As
open Go Go.Ev
variable [MX]

theorem cntL_bounds {c : AV → Int → Int} {g : Nat → AV} (hc : ∀ y n, 0 ≤ n → n ≤ 1048576 → 0 ≤ c y n ∧ c y n ≤ 1048577) : ∀ (n i : Nat) (h : Int), 0 ≤ h → h ≤ 1048577 → 0 ≤ cntL c g n i h ∧ cntL c g n i h ≤ 1048577
  | 0, i, h, h0, h1 => ⟨h0, h1⟩
  | n + 1, i, h, h0, h1 => by
    unfold cntL
    split
    · exact ⟨h0, h1⟩
    · next hh =>
      obtain ⟨k0, k1⟩ := hc (g i) h h0 (by omega)
      exact cntL_bounds hc n (i + 1) _ k0 k1
theorem cnt_bounds : ∀ (d : Nat) (y : AV) (n : Int), 0 ≤ n → n ≤ 1048576 → 0 ≤ cnt d y n ∧ cnt d y n ≤ 1048577
  | 0, y, n, h0, h1 => by unfold cnt; omega
  | d + 1, y, n, h0, h1 => by
    unfold cnt
    split
    · next hd => cases hd
    · next hd => cases hd; exact cntL_bounds (cnt_bounds _) _ _ _ (by omega) (by omega)
    · omega

theorem soM0 : SigsOK Tryz.prog SM0 := by
  refine sigs_cons sok0 ?_
  intro ys r c h hc
  unfold sigBit at h
  split at h
  · cases h; exact bits_c _
  · cases h

theorem cn_loop (d : Nat) (so1 : SigsOK Tryz.prog (SA1 d)) (k p b : Int) (o s : ByteArray) (x : Nat) (f : Bool) (m : Nat) (K Pp : Nat → Int) (O S : Nat → ByteArray) (X : Nat → Nat) (F : Nat → Bool) (M : Nat → Nat) (G : Nat → Nat → AV)
    (hm : m ≤ 9223372036854775807) (ht : ∀ i, i < m → IsTree d (avN (K i) (O i) (S i) (X i) (F i) (M i) (G i) (Pp i))) : ∀ (n i : Nat) (x0 : Int), i + n = m → 0 ≤ x0 → x0 ≤ 1048577 →
    LoopTo Tryz.prog (loopAt Tryz.f16 0) (cnS0 d so1 k p b o s x f m K Pp O S X F M G x0 i) (Exit.exit 0) (cnX0 d so1 k p b o s x f m K Pp O S X F M G (cntL (cnt d) (fun i => avN (K i) (O i) (S i) (X i) (F i) (M i) (G i) (Pp i)) n i x0)) := by
  intro n
  induction n with
  | zero =>
    intro i x0 hi h0 h1
    exact .done (by simp) (cnL0_3 d so1 k p b o s x f m K Pp O S X F M G x0 i ⟨by simp only [decide_eq_false_iff_not]; omega, trivial⟩)
  | succ n ih =>
    intro i x0 hi h0 h1
    by_cases hx : x0 > 1048576
    · have e : cntL (cnt d) (fun i => avN (K i) (O i) (S i) (X i) (F i) (M i) (G i) (Pp i)) (n + 1) i x0 = x0 := by
        unfold cntL; rw [if_pos hx]
      rw [e]
      exact .done (by simp) (cnL0_1 d so1 k p b o s x f m K Pp O S X F M G x0 i ⟨by simp only [decide_eq_true_eq]; omega, by omega, by simp only [decide_eq_true_eq]; exact hx, trivial⟩)
    · have e : cntL (cnt d) (fun i => avN (K i) (O i) (S i) (X i) (F i) (M i) (G i) (Pp i)) (n + 1) i x0 = cntL (cnt d) (fun i => avN (K i) (O i) (S i) (X i) (F i) (M i) (G i) (Pp i)) n (i + 1) (cnt d (avN (K i) (O i) (S i) (X i) (F i) (M i) (G i) (Pp i)) x0) := by
        rw [cntL, if_neg hx]
      rw [e]
      obtain ⟨k0, k1⟩ := cnt_bounds d (avN (K i) (O i) (S i) (X i) (F i) (M i) (G i) (Pp i)) x0 h0 (by omega)
      have st := cnL0_2 d so1 k p b o s x f m K Pp O S X F M G x0 i ⟨by simp only [decide_eq_true_eq]; omega, by omega, by simp only [decide_eq_false_iff_not]; exact hx, ht i (by omega), h0, by omega, by simp only [inR]; omega, trivial⟩
      have nx := ih (i + 1) _ (by omega) k0 k1
      refine .step st ?_
      have ec : ((i + 1 : Nat) : Int) = (i : Int) + 1 := by omega
      rw [ec] at nx
      exact nx

theorem cnt_pure : ∀ (d : Nat) (y : AV) (n : Int), IsTree d y → 0 ≤ n → n ≤ 1048576 → PureTo Tryz.prog 16 [y, .v (.int .i64 n)] (.v (.int .i64 (cnt d y n)))
  | 0, y, n, h, _, _ => h.elim
  | d + 1, y, n, h, h0, h1 => by
    obtain ⟨k, o, s, x, f, m, p, K, O, S, X, F, M, G, Pp, rfl, hm, ht⟩ := h
    have so1 : SigsOK Tryz.prog (SA1 d) := by
      refine sigs_cons soM0 ?_
      intro ys r c hs hc
      unfold sigCnt at hs
      split at hs
      · cases hs; exact cnt_pure d _ _ hc.1 hc.2.1 hc.2.2.1
      · cases hs
    have hl := cn_loop d so1 k p n o s x f m K Pp O S X F M G hm ht m 0 (n + 1) (by omega) (by omega) (by omega)
    exact cnF1 d so1 k p n o s x f m K Pp O S X F M G _ ⟨by simp only [inR]; omega, hl, trivial⟩
end Go.Proofs.As
