/- Contracts of the program's functions, and the plain law behind them. No condition beyond those in each statement. -/
import Derived.Test.YtipiambcccfhmaaGreatDoorAsAll1
import Derived.Test.YtipiambcccfhmaaGreatDoorEvAll5
set_option linter.unusedSimpArgs false
set_option linter.unusedVariables false
set_option linter.unusedSectionVars false
/- Ast: trees among the arguments. -/
set_option maxRecDepth 100000
namespace Go.Ev
section
variable [Globs] {w : World}
/-- a slice's elements, each told otherwise -/
theorem sl_map {U : Nat → Prop} {v : Value} {sz : Nat} {l : List AV} {t : Bool} {g : Nat → AV} (h : RepI w U v (.sl sz (.avs l) t))
    (hg : ∀ i (hi : i < l.length), (g i).cells.length = l[i].cells.length ∧ ∀ j (h1 : j < (g i).cells.length) (h2 : j < l[i].cells.length), ∀ x, RepI w U x (l[i].cells[j]) → RepI w U x ((g i).cells[j])) : RepI w U v (.sl sz (.fn l.length g) t) := by
  cases h with
  | slNil _ _ _ hq => exact .slNil _ _ _ hq
  | sl ad n c _ _ _ u hn hcap ht hsz hU hcl hcell hrep =>
    have get : ∀ i (hi : i < l.length), (Seq.avs l).get i = l[i] := fun i hi => by simp [Seq.get, hi]
    refine .sl ad n c sz _ t u hn hcap ht hsz hU (fun i hi => ?_) hcell (fun i j hi hj => ?_)
    · have hi' : i < l.length := hi
      have := hcl i hi
      rw [get i hi'] at this
      exact (hg i hi').1.trans this
    · have hi' : i < l.length := hi
      have hj' : j < l[i].cells.length := by rw [← (hg i hi').1]; exact hj
      have h1 := hrep i j hi (by rw [get i hi']; exact hj')
      simp only [get i hi'] at h1
      exact (hg i hi').2 j hj hj' _ h1
end
end Go.Ev
namespace Go.Proofs.As
open Go Go.Ev
variable [MX]

def tsN : List TypeId := [25, 3, 9, 22, 4, 23]
theorem foN : fo Tryz.prog tsN = true := by kernel_rfl
noncomputable def fieldsN (t : TypeId) : List (Nat × TypeId) := match Tryz.prog.underlying t with
  | some (.struct fs) => fs.toList.map fun f => (f.offset, f.type)
  | _ => []
theorem shape_struct {t : TypeId} {n : Nat} {xs : List AV} {fs : Array Field} (hs : Tryz.prog.underlying t = some (.struct fs)) (h : Shape Tryz.prog n t xs) :
    ∃ d, n = d + 1 ∧ xs.length = Tryz.prog.cellsOf t ∧ ∀ o ty, (o, ty) ∈ fieldsN t → Shape Tryz.prog d ty ((xs.drop o).take (Tryz.prog.cellsOf ty)) := by
  cases n with
  | zero => exact h.elim
  | succ d =>
    unfold Shape at h
    rw [hs] at h
    refine ⟨d, rfl, h.1, fun o ty hm => ?_⟩
    unfold fieldsN at hm
    rw [hs] at hm
    obtain ⟨f, hf, e⟩ := List.mem_map.1 hm
    cases e
    exact h.2 f hf
theorem shape_int {n : Nat} {xs : List AV} (h : Shape Tryz.prog n 3 xs) : ∃ k, xs = [.v (.int .i64 k)] := by
  cases n with
  | zero => exact h.elim
  | succ d =>
    unfold Shape at h
    rw [(by kernel_rfl : Tryz.prog.underlying 3 = some (.int .i64))] at h
    obtain ⟨k, rfl, _⟩ := h
    exact ⟨k, rfl⟩
theorem shape_bool {n : Nat} {xs : List AV} (h : Shape Tryz.prog n 4 xs) : ∃ b, xs = [.v (.bool b)] := by
  cases n with
  | zero => exact h.elim
  | succ d =>
    unfold Shape at h
    rw [(by kernel_rfl : Tryz.prog.underlying 4 = some .bool)] at h
    exact h
theorem shape_float {n : Nat} {xs : List AV} (h : Shape Tryz.prog n 22 xs) : ∃ b, xs = [.v (.float .f64 b)] := by
  cases n with
  | zero => exact h.elim
  | succ d =>
    unfold Shape at h
    rw [(by kernel_rfl : Tryz.prog.underlying 22 = some (.float .f64))] at h
    obtain ⟨k, rfl, _⟩ := h
    exact ⟨k, rfl⟩
theorem shape_text {n : Nat} {xs : List AV} (h : Shape Tryz.prog n 9 xs) : ∃ s, xs = [.v (.string s)] := by
  cases n with
  | zero => exact h.elim
  | succ d =>
    unfold Shape at h
    rw [(by kernel_rfl : Tryz.prog.underlying 9 = some .string)] at h
    obtain ⟨s, rfl, hs⟩ := h
    exact ⟨s, rfl⟩
theorem shape_kids {n : Nat} {xs : List AV} (h : Shape Tryz.prog n 23 xs) : ∃ (d : Nat) (l : List (List AV)), n = d + 1 ∧ xs = [.sl 7 (.avs (l.map .agg)) false] ∧ l.length ≤ 9223372036854775807 ∧ ∀ y ∈ l, y.length = 7 ∧ Shape Tryz.prog d 25 y := by
  cases n with
  | zero => exact h.elim
  | succ d =>
    unfold Shape at h
    rw [(by kernel_rfl : Tryz.prog.underlying 23 = some (.slice 25))] at h
    obtain ⟨l, h1, h2, h3⟩ := h
    rw [(by kernel_rfl : Tryz.prog.cellsOf 25 = 7)] at h1 h3
    obtain ⟨fs, hs⟩ : ∃ fs, Tryz.prog.underlying 25 = some (.struct fs) := ⟨_, rfl⟩
    have hw : wrapA Tryz.prog 25 = .agg := by
      funext y
      unfold wrapA
      rw [hs]
    rw [hw] at h1
    exact ⟨d, l, rfl, h1, h2, h3⟩

/-- the parts of a node -/
structure NR where
  k : Int
  o : ByteArray
  s : ByteArray
  x : Nat
  f : Bool
  m : Nat
  g : Nat → AV
  p : Int
abbrev nR (n : NR) : AV := avN n.k n.o n.s n.x n.f n.m n.g n.p
theorem isTree_nr {d : Nat} {y : AV} (h : IsTree d y) : ∃ n : NR, y = nR n := by
  cases d with
  | zero => exact h.elim
  | succ d =>
    obtain ⟨k, o, s, x, f, m, p, K, O, S, X, F, M, G, Pp, rfl, _⟩ := h
    exact ⟨⟨k, o, s, x, f, m, _, p⟩, rfl⟩
/-- a tree out of trees -/
theorem isTree_of {d : Nat} {k p : Int} {o s : ByteArray} {x : Nat} {f : Bool} {m : Nat} {g : Nat → NR} (hm : m ≤ 9223372036854775807) (h : ∀ i, i < m → IsTree d (nR (g i))) : IsTree (d + 1) (avN k o s x f m (fun i => nR (g i)) p) :=
  ⟨k, o, s, x, f, m, p, fun i => (g i).k, fun i => (g i).o, fun i => (g i).s, fun i => (g i).x, fun i => (g i).f, fun i => (g i).m, fun i => (g i).g, fun i => (g i).p, rfl, hm, h⟩
theorem isTree_succ : ∀ {d : Nat} {y : AV}, IsTree d y → IsTree (d + 1) y
  | 0, _, h => h.elim
  | d + 1, y, h => by
    obtain ⟨k, o, s, x, f, m, p, K, O, S, X, F, M, G, Pp, rfl, hm, ht⟩ := h
    exact ⟨k, o, s, x, f, m, p, K, O, S, X, F, M, G, Pp, rfl, hm, fun i hi => isTree_succ (ht i hi)⟩

theorem tree_of : ∀ (n : Nat) (xs : List AV), Shape Tryz.prog n 25 xs → ∃ r : NR, IsTree n (nR r) ∧ xs.length = 7 ∧ ∀ (w : World) (U : Nat → Prop) (j : Nat) (h1 : j < xs.length) (h2 : j < (nR r).cells.length) (v : Value), RepI w U v xs[j] → RepI w U v ((nR r).cells[j]) := by
  intro n
  induction n using Nat.strongRecOn with
  | _ n ih =>
  intro xs h
  obtain ⟨fs, hs⟩ : ∃ fs, Tryz.prog.underlying 25 = some (.struct fs) := ⟨_, rfl⟩
  obtain ⟨d, rfl, hl, hp⟩ := shape_struct hs h
  rw [(by kernel_rfl : Tryz.prog.cellsOf 25 = 7)] at hl
  match xs, hl with
  | [a0, a1, a2, a3, a4, a5, a6], _ =>
    have e : fieldsN 25 = [(0, 3), (1, 9), (2, 9), (3, 22), (4, 4), (5, 23), (6, 3)] := by kernel_rfl
    have c3 : Tryz.prog.cellsOf 3 = 1 := by kernel_rfl
    have c4 : Tryz.prog.cellsOf 4 = 1 := by kernel_rfl
    have c22 : Tryz.prog.cellsOf 22 = 1 := by kernel_rfl
    have c9 : Tryz.prog.cellsOf 9 = 1 := by kernel_rfl
    have c23 : Tryz.prog.cellsOf 23 = 1 := by kernel_rfl
    obtain ⟨k, h0⟩ := shape_int (hp 0 3 (by rw [e]; simp))
    obtain ⟨o, h1⟩ := shape_text (hp 1 9 (by rw [e]; simp))
    obtain ⟨s, h2⟩ := shape_text (hp 2 9 (by rw [e]; simp))
    obtain ⟨x, h3⟩ := shape_float (hp 3 22 (by rw [e]; simp))
    obtain ⟨f, h4⟩ := shape_bool (hp 4 4 (by rw [e]; simp))
    obtain ⟨d', l, hd, h5, hlen, hk⟩ := shape_kids (hp 5 23 (by rw [e]; simp))
    obtain ⟨p, h6⟩ := shape_int (hp 6 3 (by rw [e]; simp))
    rw [c3] at h0 h6
    rw [c4] at h4
    rw [c22] at h3
    rw [c9] at h1 h2
    rw [c23] at h5
    simp only [List.drop_succ_cons, List.drop_zero, List.take_succ_cons, List.take_zero, List.cons.injEq, and_true] at h0 h1 h2 h3 h4 h5 h6
    subst h0 h1 h2 h3 h4 h5 h6
    have hkid : ∀ i (hi : i < l.length), ∃ r : NR, IsTree d (nR r) ∧ l[i].length = 7 ∧ ∀ (w : World) (U : Nat → Prop) (j : Nat) (h1 : j < l[i].length) (h2 : j < (nR r).cells.length) (v : Value), RepI w U v (l[i])[j] → RepI w U v ((nR r).cells[j]) := fun i hi => by
      obtain ⟨r, k1, k2, k3⟩ := ih d' (by omega) l[i] (hk _ (List.getElem_mem hi)).2
      exact ⟨r, by rw [hd]; exact isTree_succ k1, k2, k3⟩
    let g : Nat → NR := fun i => if hi : i < l.length then (hkid i hi).choose else ⟨0, ByteArray.empty, ByteArray.empty, 0, false, 0, fun _ => .junk, 0⟩
    have hg : ∀ i (hi : i < l.length), g i = (hkid i hi).choose := fun i hi => dif_pos hi
    refine ⟨⟨k, o, s, x, f, l.length, fun i => nR (g i), p⟩, isTree_of hlen fun i hi => by rw [hg i hi]; exact (hkid i hi).choose_spec.1, rfl, fun w U j h1 h2 v hv => ?_⟩
    match j, h1 with
    | 0, _ => exact hv
    | 1, _ => exact hv
    | 2, _ => exact hv
    | 3, _ => exact hv
    | 4, _ => exact hv
    | 6, _ => exact hv
    | 5, _ =>
      have hm : l.length = (l.map AV.agg).length := by simp
      show RepI w U v (.sl 7 (.fn l.length fun i => nR (g i)) false)
      rw [hm]
      refine sl_map hv fun i hi => ?_
      have hi' : i < l.length := by simpa using hi
      have hgi := hg i hi'
      obtain ⟨k1, k2, k3⟩ := (hkid i hi').choose_spec
      rw [← hgi] at k1 k3
      simp only [List.getElem_map]
      refine ⟨?_, fun j j1 j2 x hx => k3 w U j j2 j1 x hx⟩
      show 7 = l[i].length
      exact k2.symm

/-- an argument that is a tree -/
theorem read_tree {H : Type} {enc : TypeId × Value → H} {v : Value} {d : DataW H} {ps : List MemPlace} {W : World} {base b0 : Nat} {r : Reach} {sp : Nat → Bool} {hd : Bool}
    (hval : Value.okWide Tryz.prog W r b0 25 v) (h : DataW.Trod enc Tryz.prog W base sp hd 25 v d ps) : ∃ (n : Nat) (r : NR), IsTree n (nR r) ∧ RepI W (fun _ => True) v (nR r) := by
  obtain ⟨fs, hs⟩ : ∃ fs, Tryz.prog.underlying 25 = some (.struct fs) := ⟨_, rfl⟩
  obtain ⟨n, xs, h1, h2⟩ := read_structs foN (by simp [tsN]) hs hval h
  obtain ⟨r, g1, g2, g3⟩ := tree_of n xs h2
  refine ⟨n, r, g1, ?_⟩
  cases h1 with
  | agg arr _ hsz hrep =>
    refine .agg arr _ (by rw [hsz, g2]; rfl) fun i hi => ?_
    have hi' : i < xs.length := by rw [g2]; exact hi
    exact g3 W _ i hi' hi _ (hrep i hi')
end Go.Proofs.As

/- Ast: two trees held against each other. -/
set_option maxRecDepth 100000
namespace Go.Proofs.As
open Go Go.Ev
variable [MX]

/-- a tree's parts, and its kids' -/
theorem isTree_dec {d : Nat} {y : AV} (h : IsTree (d + 1) y) : ∃ (r : NR) (g : Nat → NR), y = avN r.k r.o r.s r.x r.f r.m (fun i => nR (g i)) r.p ∧ r.m ≤ 9223372036854775807 ∧ ∀ i, i < r.m → IsTree d (nR (g i)) := by
  obtain ⟨k, o, s, x, f, m, p, K, O, S, X, F, M, G, Pp, rfl, hm, ht⟩ := h
  exact ⟨⟨k, o, s, x, f, m, fun _ => .junk, p⟩, fun i => ⟨K i, O i, S i, X i, F i, M i, G i, Pp i⟩, rfl, hm, ht⟩

def smL (c : AV → AV → Bool) (g h : Nat → AV) : Nat → Nat → Bool
  | 0, _ => true
  | n + 1, i => c (g i) (h i) && smL c g h n (i + 1)
/-- are two trees the same, but for places? -/
def sm : Nat → AV → AV → Bool
  | d + 1, .agg [.v (.int _ k), .v (.string o), .v (.string s), .v (.float _ x), .v (.bool f), .sl _ (.fn m g) _, _], .agg [.v (.int _ k'), .v (.string o'), .v (.string s'), .v (.float _ x'), .v (.bool f'), .sl _ (.fn m' g') _, _] =>
    k == k' && ((o.toList == o'.toList) && ((s.toList == s'.toList) && (((x : Int) == (x' : Int)) && ((f == f') && (((m : Int) == (m' : Int)) && smL (sm d) g g' m 0)))))
  | _, _, _ => true
def sigSm (d : Nat) : List AV → Option (AV × List Prop)
  | [x, y] => some (.v (.bool (sm d x y)), [IsTree d x, IsTree d y])
  | _ => none
def SS1 (d : Nat) : SGT := (11, .p (sigSm d)) :: SM0
def SS2 (d : Nat) : SGT := (12, .p (sigSm d)) :: SM0
end Go.Proofs.As

/- Ast: walks, written by the tool. -/
set_option maxRecDepth 100000
namespace Go.Proofs.As
open Go Go.Ev
def saS0 [MX] (d : Nat) (so1 : SigsOK Tryz.prog (SS1 d)) (a b : NR) (ga gb : Nat → NR) (x0 : Int) (x1 : Int) (x2 : Int) (x3 : Int) (x4 : Int) (b0 : Bool) (b1 : Bool) (s0 : ByteArray) (s1 : ByteArray) (s2 : ByteArray) (s3 : ByteArray) : AS := { n := 69, fr := [(2, AV.ptr 0 0), (3, AV.ptr 1 0), (52, AV.v (.int .i64 (↑a.6 : Int))), (53, AV.v (.int .i64 x0))], hp := [(1, AObj.cells 25 [AV.v (.int .i64 x1), AV.v (.string s0), AV.v (.string s1), AV.v (.float FloatKind.f64 b.4), AV.v (.bool b0), AV.sl 7 (Seq.fn b.6 fun (i : Nat) => nR (gb i)) false, AV.v (.int .i64 x2)]), (0, AObj.cells 25 [AV.v (.int .i64 x3), AV.v (.string s2), AV.v (.string s3), AV.v (.float FloatKind.f64 a.4), AV.v (.bool b1), AV.sl 7 (Seq.fn a.6 fun (i : Nat) => nR (ga i)) false, AV.v (.int .i64 x4)])], nx := 2 }
def saX0 [MX] (d : Nat) (so1 : SigsOK Tryz.prog (SS1 d)) (a b : NR) (ga gb : Nat → NR)  : AS := { n := 69, fr := [], hp := [], nx := 2 }
def saX0_1 [MX] (d : Nat) (so1 : SigsOK Tryz.prog (SS1 d)) (a b : NR) (ga gb : Nat → NR) (b2 : Bool) : AS := { n := 69, fr := [(4, AV.v (.bool b2))], hp := [], nx := 2 }
def srS0 [MX] (d : Nat) (so1 : SigsOK Tryz.prog (SS2 d)) (a b : NR) (ga gb : Nat → NR) (x0 : Int) (x1 : Int) (x2 : Int) (x3 : Int) (x4 : Int) (b0 : Bool) (b1 : Bool) (s0 : ByteArray) (s1 : ByteArray) (s2 : ByteArray) (s3 : ByteArray) : AS := { n := 69, fr := [(2, AV.ptr 0 0), (3, AV.ptr 1 0), (5, AV.v (.int .i64 x0))], hp := [(1, AObj.cells 25 [AV.v (.int .i64 x1), AV.v (.string s0), AV.v (.string s1), AV.v (.float FloatKind.f64 b.4), AV.v (.bool b0), AV.sl 7 (Seq.fn b.6 fun (i : Nat) => nR (gb i)) false, AV.v (.int .i64 x2)]), (0, AObj.cells 25 [AV.v (.int .i64 x3), AV.v (.string s2), AV.v (.string s3), AV.v (.float FloatKind.f64 a.4), AV.v (.bool b1), AV.sl 7 (Seq.fn a.6 fun (i : Nat) => nR (ga i)) false, AV.v (.int .i64 x4)])], nx := 2 }
def srX0 [MX] (d : Nat) (so1 : SigsOK Tryz.prog (SS2 d)) (a b : NR) (ga gb : Nat → NR)  : AS := { n := 69, fr := [], hp := [], nx := 2 }
def srX0_1 [MX] (d : Nat) (so1 : SigsOK Tryz.prog (SS2 d)) (a b : NR) (ga gb : Nat → NR) (b2 : Bool) : AS := { n := 69, fr := [(4, AV.v (.bool b2))], hp := [], nx := 2 }
-- 3 paths
theorem saL0_1 [MX] (d : Nat) (so1 : SigsOK Tryz.prog (SS1 d)) (a b : NR) (ga gb : Nat → NR) (x0 : Int) (x1 : Int) (x2 : Int) (x3 : Int) (x4 : Int) (b0 : Bool) (b1 : Bool) (s0 : ByteArray) (s1 : ByteArray) (s2 : ByteArray) (s3 : ByteArray) (h : AllP [decide (x0 < (↑a.m : Int)) = true, (0 : Int) ≤ x0 ∧ x0 < (↑a.6 : Int), (0 : Int) ≤ x0 ∧ x0 < (↑b.6 : Int), sm d (AV.agg [AV.v (.int .i64 (ga x0.toNat).k), AV.v (.string (ga x0.toNat).o), AV.v (.string (ga x0.toNat).s), AV.v (.float FloatKind.f64 (ga x0.toNat).x), AV.v (.bool (ga x0.toNat).f), AV.sl 7 (Seq.fn (ga x0.toNat).m (ga x0.toNat).g) false, AV.v (.int .i64 (ga x0.toNat).p)]) (AV.agg [AV.v (.int .i64 (gb x0.toNat).k), AV.v (.string (gb x0.toNat).o), AV.v (.string (gb x0.toNat).s), AV.v (.float FloatKind.f64 (gb x0.toNat).x), AV.v (.bool (gb x0.toNat).f), AV.sl 7 (Seq.fn (gb x0.toNat).m (gb x0.toNat).g) false, AV.v (.int .i64 (gb x0.toNat).p)]) = true, IsTree d (AV.agg [AV.v (.int .i64 (ga x0.toNat).k), AV.v (.string (ga x0.toNat).o), AV.v (.string (ga x0.toNat).s), AV.v (.float FloatKind.f64 (ga x0.toNat).x), AV.v (.bool (ga x0.toNat).f), AV.sl 7 (Seq.fn (ga x0.toNat).m (ga x0.toNat).g) false, AV.v (.int .i64 (ga x0.toNat).p)]), IsTree d (AV.agg [AV.v (.int .i64 (gb x0.toNat).k), AV.v (.string (gb x0.toNat).o), AV.v (.string (gb x0.toNat).s), AV.v (.float FloatKind.f64 (gb x0.toNat).x), AV.v (.bool (gb x0.toNat).f), AV.sl 7 (Seq.fn (gb x0.toNat).m (gb x0.toNat).g) false, AV.v (.int .i64 (gb x0.toNat).p)]), inR IntKind.i64 (x0 + (1 : Int))]) : To Tryz.prog (loopAt Tryz.f11 0) ({ n := 69, fr := [(2, AV.ptr 0 0), (3, AV.ptr 1 0), (52, AV.v (.int .i64 (↑a.6 : Int))), (53, AV.v (.int .i64 x0))], hp := [(1, AObj.cells 25 [AV.v (.int .i64 x1), AV.v (.string s0), AV.v (.string s1), AV.v (.float FloatKind.f64 b.4), AV.v (.bool b0), AV.sl 7 (Seq.fn b.6 fun (i : Nat) => nR (gb i)) false, AV.v (.int .i64 x2)]), (0, AObj.cells 25 [AV.v (.int .i64 x3), AV.v (.string s2), AV.v (.string s3), AV.v (.float FloatKind.f64 a.4), AV.v (.bool b1), AV.sl 7 (Seq.fn a.6 fun (i : Nat) => nR (ga i)) false, AV.v (.int .i64 x4)])], nx := 2 }) (.normal) { n := 69, fr := [(2, AV.ptr 0 0), (3, AV.ptr 1 0), (52, AV.v (.int .i64 (↑a.m : Int))), (53, AV.v (.int .i64 (x0 + (1 : Int))))], hp := [(1, AObj.cells 25 [AV.v (.int .i64 x1), AV.v (.string s0), AV.v (.string s1), AV.v (.float FloatKind.f64 b.4), AV.v (.bool b0), AV.sl 7 (Seq.fn b.6 fun (i : Nat) => nR (gb i)) false, AV.v (.int .i64 x2)]), (0, AObj.cells 25 [AV.v (.int .i64 x3), AV.v (.string s2), AV.v (.string s3), AV.v (.float FloatKind.f64 a.4), AV.v (.bool b1), AV.sl 7 (Seq.fn a.6 fun (i : Nat) => nR (ga i)) false, AV.v (.int .i64 x4)])], nx := 2 } :=
  evW_to hm so1 (hs := [CHint.ops 4 [(0, Hint.b true)], CHint.ops 6 [(10, Hint.b true)]]) (slots := [2, 3, 52, 53]) (keys := [1, 0]) (nx := 2) (c := _) (by kernel_rfl) h
theorem saL0_2 [MX] (d : Nat) (so1 : SigsOK Tryz.prog (SS1 d)) (a b : NR) (ga gb : Nat → NR) (x0 : Int) (x1 : Int) (x2 : Int) (x3 : Int) (x4 : Int) (b0 : Bool) (b1 : Bool) (s0 : ByteArray) (s1 : ByteArray) (s2 : ByteArray) (s3 : ByteArray) (h : AllP [decide (x0 < (↑a.m : Int)) = true, (0 : Int) ≤ x0 ∧ x0 < (↑a.6 : Int), (0 : Int) ≤ x0 ∧ x0 < (↑b.6 : Int), sm d (AV.agg [AV.v (.int .i64 (ga x0.toNat).k), AV.v (.string (ga x0.toNat).o), AV.v (.string (ga x0.toNat).s), AV.v (.float FloatKind.f64 (ga x0.toNat).x), AV.v (.bool (ga x0.toNat).f), AV.sl 7 (Seq.fn (ga x0.toNat).m (ga x0.toNat).g) false, AV.v (.int .i64 (ga x0.toNat).p)]) (AV.agg [AV.v (.int .i64 (gb x0.toNat).k), AV.v (.string (gb x0.toNat).o), AV.v (.string (gb x0.toNat).s), AV.v (.float FloatKind.f64 (gb x0.toNat).x), AV.v (.bool (gb x0.toNat).f), AV.sl 7 (Seq.fn (gb x0.toNat).m (gb x0.toNat).g) false, AV.v (.int .i64 (gb x0.toNat).p)]) = false, IsTree d (AV.agg [AV.v (.int .i64 (ga x0.toNat).k), AV.v (.string (ga x0.toNat).o), AV.v (.string (ga x0.toNat).s), AV.v (.float FloatKind.f64 (ga x0.toNat).x), AV.v (.bool (ga x0.toNat).f), AV.sl 7 (Seq.fn (ga x0.toNat).m (ga x0.toNat).g) false, AV.v (.int .i64 (ga x0.toNat).p)]), IsTree d (AV.agg [AV.v (.int .i64 (gb x0.toNat).k), AV.v (.string (gb x0.toNat).o), AV.v (.string (gb x0.toNat).s), AV.v (.float FloatKind.f64 (gb x0.toNat).x), AV.v (.bool (gb x0.toNat).f), AV.sl 7 (Seq.fn (gb x0.toNat).m (gb x0.toNat).g) false, AV.v (.int .i64 (gb x0.toNat).p)])]) : To Tryz.prog (loopAt Tryz.f11 0) ({ n := 69, fr := [(2, AV.ptr 0 0), (3, AV.ptr 1 0), (52, AV.v (.int .i64 (↑a.6 : Int))), (53, AV.v (.int .i64 x0))], hp := [(1, AObj.cells 25 [AV.v (.int .i64 x1), AV.v (.string s0), AV.v (.string s1), AV.v (.float FloatKind.f64 b.4), AV.v (.bool b0), AV.sl 7 (Seq.fn b.6 fun (i : Nat) => nR (gb i)) false, AV.v (.int .i64 x2)]), (0, AObj.cells 25 [AV.v (.int .i64 x3), AV.v (.string s2), AV.v (.string s3), AV.v (.float FloatKind.f64 a.4), AV.v (.bool b1), AV.sl 7 (Seq.fn a.6 fun (i : Nat) => nR (ga i)) false, AV.v (.int .i64 x4)])], nx := 2 }) (Exit.ret) { n := 69, fr := [(4, AV.v (.bool false))], hp := [], nx := 2 } :=
  evW_to hm so1 (hs := [CHint.ops 4 [(0, Hint.b true)], CHint.ops 6 [(10, Hint.b false)]]) (slots := [4]) (keys := []) (nx := 2) (c := _) (by kernel_rfl) h
theorem saL0_3 [MX] (d : Nat) (so1 : SigsOK Tryz.prog (SS1 d)) (a b : NR) (ga gb : Nat → NR) (x0 : Int) (x1 : Int) (x2 : Int) (x3 : Int) (x4 : Int) (b0 : Bool) (b1 : Bool) (s0 : ByteArray) (s1 : ByteArray) (s2 : ByteArray) (s3 : ByteArray) (h : AllP [decide (x0 < (↑a.m : Int)) = false]) : To Tryz.prog (loopAt Tryz.f11 0) ({ n := 69, fr := [(2, AV.ptr 0 0), (3, AV.ptr 1 0), (52, AV.v (.int .i64 (↑a.6 : Int))), (53, AV.v (.int .i64 x0))], hp := [(1, AObj.cells 25 [AV.v (.int .i64 x1), AV.v (.string s0), AV.v (.string s1), AV.v (.float FloatKind.f64 b.4), AV.v (.bool b0), AV.sl 7 (Seq.fn b.6 fun (i : Nat) => nR (gb i)) false, AV.v (.int .i64 x2)]), (0, AObj.cells 25 [AV.v (.int .i64 x3), AV.v (.string s2), AV.v (.string s3), AV.v (.float FloatKind.f64 a.4), AV.v (.bool b1), AV.sl 7 (Seq.fn a.6 fun (i : Nat) => nR (ga i)) false, AV.v (.int .i64 x4)])], nx := 2 }) (Exit.exit 0) { n := 69, fr := [], hp := [], nx := 2 } :=
  evW_to hm so1 (hs := [CHint.ops 4 [(0, Hint.b false)]]) (slots := []) (keys := []) (nx := 2) (c := _) (by kernel_rfl) h
-- 8 paths
theorem saF1 [MX] (d : Nat) (so1 : SigsOK Tryz.prog (SS1 d)) (a b : NR) (ga gb : Nat → NR) (b2 : Bool) (h : AllP [(a.1 != b.1) = true]) : PureTo Tryz.prog 11 [avN a.k a.o a.s a.x a.f a.m (fun i => nR (ga i)) a.p, avN b.k b.o b.s b.x b.f b.m (fun i => nR (gb i)) b.p] (AV.v (.bool false)) :=
  evFn_pure hm so1 (fn := Tryz.f11) rfl rfl (ti := false) (hs := [CHint.ops 1 [(4, Hint.b true)]]) (c := _) (by kernel_rfl) h
theorem saF2 [MX] (d : Nat) (so1 : SigsOK Tryz.prog (SS1 d)) (a b : NR) (ga gb : Nat → NR) (b2 : Bool) (h : AllP [(a.1 != b.1) = false, (!a.2.toList == b.2.toList) = true]) : PureTo Tryz.prog 11 [avN a.k a.o a.s a.x a.f a.m (fun i => nR (ga i)) a.p, avN b.k b.o b.s b.x b.f b.m (fun i => nR (gb i)) b.p] (AV.v (.bool false)) :=
  evFn_pure hm so1 (fn := Tryz.f11) rfl rfl (ti := false) (hs := [CHint.ops 1 [(4, Hint.b false), (10, Hint.b true)]]) (c := _) (by kernel_rfl) h
theorem saF3 [MX] (d : Nat) (so1 : SigsOK Tryz.prog (SS1 d)) (a b : NR) (ga gb : Nat → NR) (b2 : Bool) (h : AllP [(a.1 != b.1) = false, (!a.2.toList == b.2.toList) = false, (!a.3.toList == b.3.toList) = true]) : PureTo Tryz.prog 11 [avN a.k a.o a.s a.x a.f a.m (fun i => nR (ga i)) a.p, avN b.k b.o b.s b.x b.f b.m (fun i => nR (gb i)) b.p] (AV.v (.bool false)) :=
  evFn_pure hm so1 (fn := Tryz.f11) rfl rfl (ti := false) (hs := [CHint.ops 1 [(4, Hint.b false), (10, Hint.b false), (17, Hint.b true)]]) (c := _) (by kernel_rfl) h
theorem saF4 [MX] (d : Nat) (so1 : SigsOK Tryz.prog (SS1 d)) (a b : NR) (ga gb : Nat → NR) (b2 : Bool) (h : AllP [(a.1 != b.1) = false, (!a.2.toList == b.2.toList) = false, (!a.3.toList == b.3.toList) = false, (!a.5 == b.5) = true]) : PureTo Tryz.prog 11 [avN a.k a.o a.s a.x a.f a.m (fun i => nR (ga i)) a.p, avN b.k b.o b.s b.x b.f b.m (fun i => nR (gb i)) b.p] (AV.v (.bool false)) :=
  evFn_pure hm so1 (fn := Tryz.f11) rfl rfl (ti := false) (hs := [CHint.ops 1 [(4, Hint.b false), (10, Hint.b false), (17, Hint.b false), (24, Hint.b true)]]) (c := _) (by kernel_rfl) h
theorem saF5 [MX] (d : Nat) (so1 : SigsOK Tryz.prog (SS1 d)) (a b : NR) (ga gb : Nat → NR) (b2 : Bool) (h : AllP [(a.1 != b.1) = false, (!a.2.toList == b.2.toList) = false, (!a.3.toList == b.3.toList) = false, (!a.5 == b.5) = false, ((↑a.4 : Int) != (↑b.4 : Int)) = true]) : PureTo Tryz.prog 11 [avN a.k a.o a.s a.x a.f a.m (fun i => nR (ga i)) a.p, avN b.k b.o b.s b.x b.f b.m (fun i => nR (gb i)) b.p] (AV.v (.bool false)) :=
  evFn_pure hm so1 (fn := Tryz.f11) rfl rfl (ti := false) (hs := [CHint.ops 1 [(4, Hint.b false), (10, Hint.b false), (17, Hint.b false), (24, Hint.b false), (33, Hint.b true)]]) (c := _) (by kernel_rfl) h
theorem saF6 [MX] (d : Nat) (so1 : SigsOK Tryz.prog (SS1 d)) (a b : NR) (ga gb : Nat → NR) (b2 : Bool) (h : AllP [(a.1 != b.1) = false, (!a.2.toList == b.2.toList) = false, (!a.3.toList == b.3.toList) = false, (!a.5 == b.5) = false, ((↑a.4 : Int) != (↑b.4 : Int)) = false, ((↑a.6 : Int) != (↑b.6 : Int)) = true]) : PureTo Tryz.prog 11 [avN a.k a.o a.s a.x a.f a.m (fun i => nR (ga i)) a.p, avN b.k b.o b.s b.x b.f b.m (fun i => nR (gb i)) b.p] (AV.v (.bool false)) :=
  evFn_pure hm so1 (fn := Tryz.f11) rfl rfl (ti := false) (hs := [CHint.ops 1 [(4, Hint.b false), (10, Hint.b false), (17, Hint.b false), (24, Hint.b false), (33, Hint.b false), (42, Hint.b true)]]) (c := _) (by kernel_rfl) h
theorem saF7 [MX] (d : Nat) (so1 : SigsOK Tryz.prog (SS1 d)) (a b : NR) (ga gb : Nat → NR) (b2 : Bool) (h : AllP [(a.1 != b.1) = false, (!a.2.toList == b.2.toList) = false, (!a.3.toList == b.3.toList) = false, (!a.5 == b.5) = false, ((↑a.4 : Int) != (↑b.4 : Int)) = false, ((↑a.6 : Int) != (↑b.6 : Int)) = false, LoopTo Tryz.prog (loopAt Tryz.f11 0) { n := 69, fr := [(2, AV.ptr 0 0), (3, AV.ptr 1 0), (52, AV.v (.int .i64 (↑a.6 : Int))), (53, AV.v (.int .i64 (0 : Int)))], hp := [(1, AObj.cells 25 [AV.v (.int .i64 b.1), AV.v (.string b.2), AV.v (.string b.3), AV.v (.float FloatKind.f64 b.4), AV.v (.bool b.5), AV.sl 7 (Seq.fn b.6 fun (i : Nat) => nR (gb i)) false, AV.v (.int .i64 b.8)]), (0, AObj.cells 25 [AV.v (.int .i64 a.1), AV.v (.string a.2), AV.v (.string a.3), AV.v (.float FloatKind.f64 a.4), AV.v (.bool a.5), AV.sl 7 (Seq.fn a.6 fun (i : Nat) => nR (ga i)) false, AV.v (.int .i64 a.8)])], nx := 2 } (Exit.exit 0) { n := 69, fr := [], hp := [], nx := 2 }]) : PureTo Tryz.prog 11 [avN a.k a.o a.s a.x a.f a.m (fun i => nR (ga i)) a.p, avN b.k b.o b.s b.x b.f b.m (fun i => nR (gb i)) b.p] (AV.v (.bool true)) :=
  evFn_pure hm so1 (fn := Tryz.f11) rfl rfl (ti := false) (hs := [CHint.ops 1 [(4, Hint.b false), (10, Hint.b false), (17, Hint.b false), (24, Hint.b false), (33, Hint.b false), (42, Hint.b false)], CHint.loop [2, 3, 52, 53] [1, 0] 2 (Exit.exit 0) { n := 69, fr := [], hp := [], nx := 2 }]) (c := _) (by kernel_rfl) h
theorem saF8 [MX] (d : Nat) (so1 : SigsOK Tryz.prog (SS1 d)) (a b : NR) (ga gb : Nat → NR) (b2 : Bool) (h : AllP [(a.1 != b.1) = false, (!a.2.toList == b.2.toList) = false, (!a.3.toList == b.3.toList) = false, (!a.5 == b.5) = false, ((↑a.4 : Int) != (↑b.4 : Int)) = false, ((↑a.6 : Int) != (↑b.6 : Int)) = false, LoopTo Tryz.prog (loopAt Tryz.f11 0) { n := 69, fr := [(2, AV.ptr 0 0), (3, AV.ptr 1 0), (52, AV.v (.int .i64 (↑a.6 : Int))), (53, AV.v (.int .i64 (0 : Int)))], hp := [(1, AObj.cells 25 [AV.v (.int .i64 b.1), AV.v (.string b.2), AV.v (.string b.3), AV.v (.float FloatKind.f64 b.4), AV.v (.bool b.5), AV.sl 7 (Seq.fn b.6 fun (i : Nat) => nR (gb i)) false, AV.v (.int .i64 b.8)]), (0, AObj.cells 25 [AV.v (.int .i64 a.1), AV.v (.string a.2), AV.v (.string a.3), AV.v (.float FloatKind.f64 a.4), AV.v (.bool a.5), AV.sl 7 (Seq.fn a.6 fun (i : Nat) => nR (ga i)) false, AV.v (.int .i64 a.8)])], nx := 2 } Exit.ret { n := 69, fr := [(4, AV.v (.bool b2))], hp := [], nx := 2 }]) : PureTo Tryz.prog 11 [avN a.k a.o a.s a.x a.f a.m (fun i => nR (ga i)) a.p, avN b.k b.o b.s b.x b.f b.m (fun i => nR (gb i)) b.p] (AV.v (.bool b2)) :=
  evFn_pure hm so1 (fn := Tryz.f11) rfl rfl (ti := false) (hs := [CHint.ops 1 [(4, Hint.b false), (10, Hint.b false), (17, Hint.b false), (24, Hint.b false), (33, Hint.b false), (42, Hint.b false)], CHint.loop [2, 3, 52, 53] [1, 0] 2 Exit.ret { n := 69, fr := [(4, AV.v (.bool b2))], hp := [], nx := 2 }]) (c := _) (by kernel_rfl) h
-- 3 paths
theorem srL0_1 [MX] (d : Nat) (so1 : SigsOK Tryz.prog (SS2 d)) (a b : NR) (ga gb : Nat → NR) (x0 : Int) (x1 : Int) (x2 : Int) (x3 : Int) (x4 : Int) (b0 : Bool) (b1 : Bool) (s0 : ByteArray) (s1 : ByteArray) (s2 : ByteArray) (s3 : ByteArray) (h : AllP [decide (x0 < (↑a.6 : Int)) = true, (0 : Int) ≤ x0 ∧ x0 < (↑a.6 : Int), (0 : Int) ≤ x0 ∧ x0 < (↑b.6 : Int), sm d (AV.agg [AV.v (.int .i64 (ga x0.toNat).k), AV.v (.string (ga x0.toNat).o), AV.v (.string (ga x0.toNat).s), AV.v (.float FloatKind.f64 (ga x0.toNat).x), AV.v (.bool (ga x0.toNat).f), AV.sl 7 (Seq.fn (ga x0.toNat).m (ga x0.toNat).g) false, AV.v (.int .i64 (ga x0.toNat).p)]) (AV.agg [AV.v (.int .i64 (gb x0.toNat).k), AV.v (.string (gb x0.toNat).o), AV.v (.string (gb x0.toNat).s), AV.v (.float FloatKind.f64 (gb x0.toNat).x), AV.v (.bool (gb x0.toNat).f), AV.sl 7 (Seq.fn (gb x0.toNat).m (gb x0.toNat).g) false, AV.v (.int .i64 (gb x0.toNat).p)]) = true, IsTree d (AV.agg [AV.v (.int .i64 (ga x0.toNat).k), AV.v (.string (ga x0.toNat).o), AV.v (.string (ga x0.toNat).s), AV.v (.float FloatKind.f64 (ga x0.toNat).x), AV.v (.bool (ga x0.toNat).f), AV.sl 7 (Seq.fn (ga x0.toNat).m (ga x0.toNat).g) false, AV.v (.int .i64 (ga x0.toNat).p)]), IsTree d (AV.agg [AV.v (.int .i64 (gb x0.toNat).k), AV.v (.string (gb x0.toNat).o), AV.v (.string (gb x0.toNat).s), AV.v (.float FloatKind.f64 (gb x0.toNat).x), AV.v (.bool (gb x0.toNat).f), AV.sl 7 (Seq.fn (gb x0.toNat).m (gb x0.toNat).g) false, AV.v (.int .i64 (gb x0.toNat).p)]), inR IntKind.i64 (x0 + (1 : Int))]) : To Tryz.prog (loopAt Tryz.f12 0) ({ n := 69, fr := [(2, AV.ptr 0 0), (3, AV.ptr 1 0), (5, AV.v (.int .i64 x0))], hp := [(1, AObj.cells 25 [AV.v (.int .i64 x1), AV.v (.string s0), AV.v (.string s1), AV.v (.float FloatKind.f64 b.4), AV.v (.bool b0), AV.sl 7 (Seq.fn b.6 fun (i : Nat) => nR (gb i)) false, AV.v (.int .i64 x2)]), (0, AObj.cells 25 [AV.v (.int .i64 x3), AV.v (.string s2), AV.v (.string s3), AV.v (.float FloatKind.f64 a.4), AV.v (.bool b1), AV.sl 7 (Seq.fn a.6 fun (i : Nat) => nR (ga i)) false, AV.v (.int .i64 x4)])], nx := 2 }) (.normal) { n := 69, fr := [(2, AV.ptr 0 0), (3, AV.ptr 1 0), (5, AV.v (.int .i64 (x0 + (1 : Int))))], hp := [(1, AObj.cells 25 [AV.v (.int .i64 x1), AV.v (.string s0), AV.v (.string s1), AV.v (.float FloatKind.f64 b.4), AV.v (.bool b0), AV.sl 7 (Seq.fn b.6 fun (i : Nat) => nR (gb i)) false, AV.v (.int .i64 x2)]), (0, AObj.cells 25 [AV.v (.int .i64 x3), AV.v (.string s2), AV.v (.string s3), AV.v (.float FloatKind.f64 a.4), AV.v (.bool b1), AV.sl 7 (Seq.fn a.6 fun (i : Nat) => nR (ga i)) false, AV.v (.int .i64 x4)])], nx := 2 } :=
  evW_to hm so1 (hs := [CHint.ops 4 [(4, Hint.b true)], CHint.ops 6 [(10, Hint.b true)]]) (slots := [2, 3, 5]) (keys := [1, 0]) (nx := 2) (c := _) (by kernel_rfl) h
theorem srL0_2 [MX] (d : Nat) (so1 : SigsOK Tryz.prog (SS2 d)) (a b : NR) (ga gb : Nat → NR) (x0 : Int) (x1 : Int) (x2 : Int) (x3 : Int) (x4 : Int) (b0 : Bool) (b1 : Bool) (s0 : ByteArray) (s1 : ByteArray) (s2 : ByteArray) (s3 : ByteArray) (h : AllP [decide (x0 < (↑a.6 : Int)) = true, (0 : Int) ≤ x0 ∧ x0 < (↑a.6 : Int), (0 : Int) ≤ x0 ∧ x0 < (↑b.6 : Int), sm d (AV.agg [AV.v (.int .i64 (ga x0.toNat).k), AV.v (.string (ga x0.toNat).o), AV.v (.string (ga x0.toNat).s), AV.v (.float FloatKind.f64 (ga x0.toNat).x), AV.v (.bool (ga x0.toNat).f), AV.sl 7 (Seq.fn (ga x0.toNat).m (ga x0.toNat).g) false, AV.v (.int .i64 (ga x0.toNat).p)]) (AV.agg [AV.v (.int .i64 (gb x0.toNat).k), AV.v (.string (gb x0.toNat).o), AV.v (.string (gb x0.toNat).s), AV.v (.float FloatKind.f64 (gb x0.toNat).x), AV.v (.bool (gb x0.toNat).f), AV.sl 7 (Seq.fn (gb x0.toNat).m (gb x0.toNat).g) false, AV.v (.int .i64 (gb x0.toNat).p)]) = false, IsTree d (AV.agg [AV.v (.int .i64 (ga x0.toNat).k), AV.v (.string (ga x0.toNat).o), AV.v (.string (ga x0.toNat).s), AV.v (.float FloatKind.f64 (ga x0.toNat).x), AV.v (.bool (ga x0.toNat).f), AV.sl 7 (Seq.fn (ga x0.toNat).m (ga x0.toNat).g) false, AV.v (.int .i64 (ga x0.toNat).p)]), IsTree d (AV.agg [AV.v (.int .i64 (gb x0.toNat).k), AV.v (.string (gb x0.toNat).o), AV.v (.string (gb x0.toNat).s), AV.v (.float FloatKind.f64 (gb x0.toNat).x), AV.v (.bool (gb x0.toNat).f), AV.sl 7 (Seq.fn (gb x0.toNat).m (gb x0.toNat).g) false, AV.v (.int .i64 (gb x0.toNat).p)])]) : To Tryz.prog (loopAt Tryz.f12 0) ({ n := 69, fr := [(2, AV.ptr 0 0), (3, AV.ptr 1 0), (5, AV.v (.int .i64 x0))], hp := [(1, AObj.cells 25 [AV.v (.int .i64 x1), AV.v (.string s0), AV.v (.string s1), AV.v (.float FloatKind.f64 b.4), AV.v (.bool b0), AV.sl 7 (Seq.fn b.6 fun (i : Nat) => nR (gb i)) false, AV.v (.int .i64 x2)]), (0, AObj.cells 25 [AV.v (.int .i64 x3), AV.v (.string s2), AV.v (.string s3), AV.v (.float FloatKind.f64 a.4), AV.v (.bool b1), AV.sl 7 (Seq.fn a.6 fun (i : Nat) => nR (ga i)) false, AV.v (.int .i64 x4)])], nx := 2 }) (Exit.ret) { n := 69, fr := [(4, AV.v (.bool false))], hp := [], nx := 2 } :=
  evW_to hm so1 (hs := [CHint.ops 4 [(4, Hint.b true)], CHint.ops 6 [(10, Hint.b false)]]) (slots := [4]) (keys := []) (nx := 2) (c := _) (by kernel_rfl) h
theorem srL0_3 [MX] (d : Nat) (so1 : SigsOK Tryz.prog (SS2 d)) (a b : NR) (ga gb : Nat → NR) (x0 : Int) (x1 : Int) (x2 : Int) (x3 : Int) (x4 : Int) (b0 : Bool) (b1 : Bool) (s0 : ByteArray) (s1 : ByteArray) (s2 : ByteArray) (s3 : ByteArray) (h : AllP [decide (x0 < (↑a.6 : Int)) = false]) : To Tryz.prog (loopAt Tryz.f12 0) ({ n := 69, fr := [(2, AV.ptr 0 0), (3, AV.ptr 1 0), (5, AV.v (.int .i64 x0))], hp := [(1, AObj.cells 25 [AV.v (.int .i64 x1), AV.v (.string s0), AV.v (.string s1), AV.v (.float FloatKind.f64 b.4), AV.v (.bool b0), AV.sl 7 (Seq.fn b.6 fun (i : Nat) => nR (gb i)) false, AV.v (.int .i64 x2)]), (0, AObj.cells 25 [AV.v (.int .i64 x3), AV.v (.string s2), AV.v (.string s3), AV.v (.float FloatKind.f64 a.4), AV.v (.bool b1), AV.sl 7 (Seq.fn a.6 fun (i : Nat) => nR (ga i)) false, AV.v (.int .i64 x4)])], nx := 2 }) (Exit.exit 0) { n := 69, fr := [], hp := [], nx := 2 } :=
  evW_to hm so1 (hs := [CHint.ops 4 [(4, Hint.b false)]]) (slots := []) (keys := []) (nx := 2) (c := _) (by kernel_rfl) h
-- 8 paths
theorem srF1 [MX] (d : Nat) (so1 : SigsOK Tryz.prog (SS2 d)) (a b : NR) (ga gb : Nat → NR) (b2 : Bool) (h : AllP [(a.1 != b.1) = true]) : PureTo Tryz.prog 12 [avN a.k a.o a.s a.x a.f a.m (fun i => nR (ga i)) a.p, avN b.k b.o b.s b.x b.f b.m (fun i => nR (gb i)) b.p] (AV.v (.bool false)) :=
  evFn_pure hm so1 (fn := Tryz.f12) rfl rfl (ti := false) (hs := [CHint.ops 1 [(4, Hint.b true)]]) (c := _) (by kernel_rfl) h
theorem srF2 [MX] (d : Nat) (so1 : SigsOK Tryz.prog (SS2 d)) (a b : NR) (ga gb : Nat → NR) (b2 : Bool) (h : AllP [(a.1 != b.1) = false, (!a.2.toList == b.2.toList) = true]) : PureTo Tryz.prog 12 [avN a.k a.o a.s a.x a.f a.m (fun i => nR (ga i)) a.p, avN b.k b.o b.s b.x b.f b.m (fun i => nR (gb i)) b.p] (AV.v (.bool false)) :=
  evFn_pure hm so1 (fn := Tryz.f12) rfl rfl (ti := false) (hs := [CHint.ops 1 [(4, Hint.b false), (10, Hint.b true)]]) (c := _) (by kernel_rfl) h
theorem srF3 [MX] (d : Nat) (so1 : SigsOK Tryz.prog (SS2 d)) (a b : NR) (ga gb : Nat → NR) (b2 : Bool) (h : AllP [(a.1 != b.1) = false, (!a.2.toList == b.2.toList) = false, (!a.3.toList == b.3.toList) = true]) : PureTo Tryz.prog 12 [avN a.k a.o a.s a.x a.f a.m (fun i => nR (ga i)) a.p, avN b.k b.o b.s b.x b.f b.m (fun i => nR (gb i)) b.p] (AV.v (.bool false)) :=
  evFn_pure hm so1 (fn := Tryz.f12) rfl rfl (ti := false) (hs := [CHint.ops 1 [(4, Hint.b false), (10, Hint.b false), (17, Hint.b true)]]) (c := _) (by kernel_rfl) h
theorem srF4 [MX] (d : Nat) (so1 : SigsOK Tryz.prog (SS2 d)) (a b : NR) (ga gb : Nat → NR) (b2 : Bool) (h : AllP [(a.1 != b.1) = false, (!a.2.toList == b.2.toList) = false, (!a.3.toList == b.3.toList) = false, ((↑a.4 : Int) != (↑b.4 : Int)) = true]) : PureTo Tryz.prog 12 [avN a.k a.o a.s a.x a.f a.m (fun i => nR (ga i)) a.p, avN b.k b.o b.s b.x b.f b.m (fun i => nR (gb i)) b.p] (AV.v (.bool false)) :=
  evFn_pure hm so1 (fn := Tryz.f12) rfl rfl (ti := false) (hs := [CHint.ops 1 [(4, Hint.b false), (10, Hint.b false), (17, Hint.b false), (26, Hint.b true)]]) (c := _) (by kernel_rfl) h
theorem srF5 [MX] (d : Nat) (so1 : SigsOK Tryz.prog (SS2 d)) (a b : NR) (ga gb : Nat → NR) (b2 : Bool) (h : AllP [(a.1 != b.1) = false, (!a.2.toList == b.2.toList) = false, (!a.3.toList == b.3.toList) = false, ((↑a.4 : Int) != (↑b.4 : Int)) = false, (!a.5 == b.5) = true]) : PureTo Tryz.prog 12 [avN a.k a.o a.s a.x a.f a.m (fun i => nR (ga i)) a.p, avN b.k b.o b.s b.x b.f b.m (fun i => nR (gb i)) b.p] (AV.v (.bool false)) :=
  evFn_pure hm so1 (fn := Tryz.f12) rfl rfl (ti := false) (hs := [CHint.ops 1 [(4, Hint.b false), (10, Hint.b false), (17, Hint.b false), (26, Hint.b false), (33, Hint.b true)]]) (c := _) (by kernel_rfl) h
theorem srF6 [MX] (d : Nat) (so1 : SigsOK Tryz.prog (SS2 d)) (a b : NR) (ga gb : Nat → NR) (b2 : Bool) (h : AllP [(a.1 != b.1) = false, (!a.2.toList == b.2.toList) = false, (!a.3.toList == b.3.toList) = false, ((↑a.4 : Int) != (↑b.4 : Int)) = false, (!a.5 == b.5) = false, ((↑a.6 : Int) != (↑b.6 : Int)) = true]) : PureTo Tryz.prog 12 [avN a.k a.o a.s a.x a.f a.m (fun i => nR (ga i)) a.p, avN b.k b.o b.s b.x b.f b.m (fun i => nR (gb i)) b.p] (AV.v (.bool false)) :=
  evFn_pure hm so1 (fn := Tryz.f12) rfl rfl (ti := false) (hs := [CHint.ops 1 [(4, Hint.b false), (10, Hint.b false), (17, Hint.b false), (26, Hint.b false), (33, Hint.b false), (42, Hint.b true)]]) (c := _) (by kernel_rfl) h
theorem srF7 [MX] (d : Nat) (so1 : SigsOK Tryz.prog (SS2 d)) (a b : NR) (ga gb : Nat → NR) (b2 : Bool) (h : AllP [(a.1 != b.1) = false, (!a.2.toList == b.2.toList) = false, (!a.3.toList == b.3.toList) = false, ((↑a.4 : Int) != (↑b.4 : Int)) = false, (!a.5 == b.5) = false, ((↑a.6 : Int) != (↑b.6 : Int)) = false, LoopTo Tryz.prog (loopAt Tryz.f12 0) { n := 69, fr := [(2, AV.ptr 0 0), (3, AV.ptr 1 0), (5, AV.v (.int .i64 (0 : Int)))], hp := [(1, AObj.cells 25 [AV.v (.int .i64 b.1), AV.v (.string b.2), AV.v (.string b.3), AV.v (.float FloatKind.f64 b.4), AV.v (.bool b.5), AV.sl 7 (Seq.fn b.6 fun (i : Nat) => nR (gb i)) false, AV.v (.int .i64 b.8)]), (0, AObj.cells 25 [AV.v (.int .i64 a.1), AV.v (.string a.2), AV.v (.string a.3), AV.v (.float FloatKind.f64 a.4), AV.v (.bool a.5), AV.sl 7 (Seq.fn a.6 fun (i : Nat) => nR (ga i)) false, AV.v (.int .i64 a.8)])], nx := 2 } (Exit.exit 0) { n := 69, fr := [], hp := [], nx := 2 }]) : PureTo Tryz.prog 12 [avN a.k a.o a.s a.x a.f a.m (fun i => nR (ga i)) a.p, avN b.k b.o b.s b.x b.f b.m (fun i => nR (gb i)) b.p] (AV.v (.bool true)) :=
  evFn_pure hm so1 (fn := Tryz.f12) rfl rfl (ti := false) (hs := [CHint.ops 1 [(4, Hint.b false), (10, Hint.b false), (17, Hint.b false), (26, Hint.b false), (33, Hint.b false), (42, Hint.b false)], CHint.loop [2, 3, 5] [1, 0] 2 (Exit.exit 0) { n := 69, fr := [], hp := [], nx := 2 }]) (c := _) (by kernel_rfl) h
theorem srF8 [MX] (d : Nat) (so1 : SigsOK Tryz.prog (SS2 d)) (a b : NR) (ga gb : Nat → NR) (b2 : Bool) (h : AllP [(a.1 != b.1) = false, (!a.2.toList == b.2.toList) = false, (!a.3.toList == b.3.toList) = false, ((↑a.4 : Int) != (↑b.4 : Int)) = false, (!a.5 == b.5) = false, ((↑a.6 : Int) != (↑b.6 : Int)) = false, LoopTo Tryz.prog (loopAt Tryz.f12 0) { n := 69, fr := [(2, AV.ptr 0 0), (3, AV.ptr 1 0), (5, AV.v (.int .i64 (0 : Int)))], hp := [(1, AObj.cells 25 [AV.v (.int .i64 b.1), AV.v (.string b.2), AV.v (.string b.3), AV.v (.float FloatKind.f64 b.4), AV.v (.bool b.5), AV.sl 7 (Seq.fn b.6 fun (i : Nat) => nR (gb i)) false, AV.v (.int .i64 b.8)]), (0, AObj.cells 25 [AV.v (.int .i64 a.1), AV.v (.string a.2), AV.v (.string a.3), AV.v (.float FloatKind.f64 a.4), AV.v (.bool a.5), AV.sl 7 (Seq.fn a.6 fun (i : Nat) => nR (ga i)) false, AV.v (.int .i64 a.8)])], nx := 2 } Exit.ret { n := 69, fr := [(4, AV.v (.bool b2))], hp := [], nx := 2 }]) : PureTo Tryz.prog 12 [avN a.k a.o a.s a.x a.f a.m (fun i => nR (ga i)) a.p, avN b.k b.o b.s b.x b.f b.m (fun i => nR (gb i)) b.p] (AV.v (.bool b2)) :=
  evFn_pure hm so1 (fn := Tryz.f12) rfl rfl (ti := false) (hs := [CHint.ops 1 [(4, Hint.b false), (10, Hint.b false), (17, Hint.b false), (26, Hint.b false), (33, Hint.b false), (42, Hint.b false)], CHint.loop [2, 3, 5] [1, 0] 2 Exit.ret { n := 69, fr := [(4, AV.v (.bool b2))], hp := [], nx := 2 }]) (c := _) (by kernel_rfl) h
end Go.Proofs.As

/- Ast: two trees held against each other: what both sides tell. -/
set_option maxRecDepth 100000
namespace Go.Proofs.As
open Go Go.Ev
variable [MX]

theorem sm_eq (d : Nat) (a b : NR) (ga gb : Nat → AV) : sm (d + 1) (avN a.k a.o a.s a.x a.f a.m ga a.p) (avN b.k b.o b.s b.x b.f b.m gb b.p) =
    (a.k == b.k && ((a.o.toList == b.o.toList) && ((a.s.toList == b.s.toList) && (((a.x : Int) == (b.x : Int)) && ((a.f == b.f) && (((a.m : Int) == (b.m : Int)) && smL (sm d) ga gb a.m 0)))))) := rfl
section
variable {A B C D E F G : Bool}
theorem bne_f {x y : Int} (h : (x != y) = true) : (x == y) = false := by simpa using h
theorem bne_t {x y : Int} (h : (x != y) = false) : (x == y) = true := by simpa using h
theorem sm_fk {x y : Int} (h : (x != y) = true) : (x == y && G) = false := by rw [bne_f h]; rfl
theorem sm_fo (h : (!A) = true) : (D && (A && G)) = false := by cases A <;> cases D <;> simp_all
theorem sm_fs (h : (!A) = true) : (D && (E && (A && G))) = false := by cases A <;> cases D <;> cases E <;> simp_all
theorem sm_fx {x y : Int} (h : (x != y) = true) : (D && (E && (F && ((x == y) && G)))) = false := by rw [bne_f h]; cases D <;> cases E <;> cases F <;> rfl
theorem sm_ff (h : (!A) = true) : (D && (E && (F && (B && (A && G))))) = false := by cases A <;> cases D <;> cases E <;> cases F <;> cases B <;> simp_all
theorem sm_fm {x y : Int} (h : (x != y) = true) : (D && (E && (F && (B && (C && ((x == y) && G)))))) = false := by rw [bne_f h]; cases D <;> cases E <;> cases F <;> cases B <;> cases C <;> rfl
theorem sm_t {x y z w m n : Int} (h1 : (x != y) = false) (h2 : (!A) = false) (h3 : (!B) = false) (h4 : (z != w) = false) (h5 : (!C) = false) (h6 : (m != n) = false) : (x == y && (A && (B && ((z == w) && (C && ((m == n) && G)))))) = G := by
  rw [bne_t h1, bne_t h4, bne_t h6]
  cases A <;> cases B <;> cases C <;> simp_all
end

theorem sa_loop (d : Nat) (so1 : SigsOK Tryz.prog (SS1 d)) (a b : NR) (ga gb : Nat → NR) (hm : a.m ≤ 9223372036854775807) (hab : a.m = b.m) (ha : ∀ i, i < a.m → IsTree d (nR (ga i))) (hb : ∀ i, i < b.m → IsTree d (nR (gb i)))
    (x1 x2 x3 x4 : Int) (b0 b1 : Bool) (s0 s1 s2 s3 : ByteArray) : ∀ (n i : Nat), i + n = a.m →
    (smL (sm d) (fun i => nR (ga i)) (fun i => nR (gb i)) n i = true → LoopTo Tryz.prog (loopAt Tryz.f11 0) (saS0 d so1 a b ga gb i x1 x2 x3 x4 b0 b1 s0 s1 s2 s3) (Exit.exit 0) (saX0 d so1 a b ga gb)) ∧
    (smL (sm d) (fun i => nR (ga i)) (fun i => nR (gb i)) n i = false → LoopTo Tryz.prog (loopAt Tryz.f11 0) (saS0 d so1 a b ga gb i x1 x2 x3 x4 b0 b1 s0 s1 s2 s3) Exit.ret (saX0_1 d so1 a b ga gb false)) := by
  intro n
  induction n with
  | zero =>
    intro i hi
    refine ⟨fun _ => ?_, (fun h => (by cases h))⟩
    exact .done (by simp) (saL0_3 d so1 a b ga gb i x1 x2 x3 x4 b0 b1 s0 s1 s2 s3 ⟨decide_eq_false (by have := hi; omega), trivial⟩)
  | succ n ih =>
    intro i hi
    have h1 : i < a.m := by omega
    have h2 : i < b.m := by omega
    have hd : decide ((i : Int) < (a.m : Int)) = true := decide_eq_true (by omega)
    have hc : smL (sm d) (fun i => nR (ga i)) (fun i => nR (gb i)) (n + 1) i = (sm d (nR (ga i)) (nR (gb i)) && smL (sm d) (fun i => nR (ga i)) (fun i => nR (gb i)) n (i + 1)) := rfl
    have ra : (0 : Int) ≤ i ∧ (i : Int) < (a.m : Int) := ⟨by omega, by omega⟩
    have rb : (0 : Int) ≤ i ∧ (i : Int) < (b.m : Int) := ⟨by omega, by omega⟩
    have ec : ((i + 1 : Nat) : Int) = (i : Int) + 1 := by omega
    rw [hc]
    cases hs : sm d (nR (ga i)) (nR (gb i)) with
    | false =>
      refine ⟨(fun h => (by cases h)), fun _ => ?_⟩
      exact .done (by simp) (saL0_2 d so1 a b ga gb i x1 x2 x3 x4 b0 b1 s0 s1 s2 s3 ⟨hd, ra, rb, hs, ha i h1, hb i h2, trivial⟩)
    | true =>
      have st := saL0_1 d so1 a b ga gb i x1 x2 x3 x4 b0 b1 s0 s1 s2 s3 ⟨hd, ra, rb, hs, ha i h1, hb i h2, ⟨by omega, by omega⟩, trivial⟩
      obtain ⟨k1, k2⟩ := ih (i + 1) (by omega)
      rw [ec] at k1 k2
      rw [Bool.true_and]
      exact ⟨fun h => .step st (k1 h), fun h => .step st (k2 h)⟩

theorem same_c : ∀ (d : Nat) (x y : AV), IsTree d x → IsTree d y → PureTo Tryz.prog 11 [x, y] (.v (.bool (sm d x y)))
  | 0, _, _, h, _ => h.elim
  | d + 1, x, y, hx, hy => by
    obtain ⟨a, ga, rfl, ma, ta⟩ := isTree_dec hx
    obtain ⟨b, gb, rfl, mb, tb⟩ := isTree_dec hy
    have so1 : SigsOK Tryz.prog (SS1 d) := by
      refine sigs_cons soM0 ?_
      intro ys r c hs hc
      unfold sigSm at hs
      split at hs
      · cases hs; exact same_c d _ _ hc.1 hc.2.1
      · cases hs
    cases hk : (a.k != b.k) with
    | true =>
      have e : sm (d + 1) (avN a.k a.o a.s a.x a.f a.m (fun i => nR (ga i)) a.p) (avN b.k b.o b.s b.x b.f b.m (fun i => nR (gb i)) b.p) = false := by
        rw [sm_eq]; exact sm_fk hk
      rw [e]
      exact saF1 d so1 a b ga gb false ⟨hk, trivial⟩
    | false =>
    cases ho : (!(a.o.toList == b.o.toList)) with
    | true =>
      have e : sm (d + 1) (avN a.k a.o a.s a.x a.f a.m (fun i => nR (ga i)) a.p) (avN b.k b.o b.s b.x b.f b.m (fun i => nR (gb i)) b.p) = false := by
        rw [sm_eq]; exact sm_fo ho
      rw [e]
      exact saF2 d so1 a b ga gb false ⟨hk, ho, trivial⟩
    | false =>
    cases hst : (!(a.s.toList == b.s.toList)) with
    | true =>
      have e : sm (d + 1) (avN a.k a.o a.s a.x a.f a.m (fun i => nR (ga i)) a.p) (avN b.k b.o b.s b.x b.f b.m (fun i => nR (gb i)) b.p) = false := by
        rw [sm_eq]; exact sm_fs hst
      rw [e]
      exact saF3 d so1 a b ga gb false ⟨hk, ho, hst, trivial⟩
    | false =>
    cases hf : (!(a.f == b.f)) with
    | true =>
      have e : sm (d + 1) (avN a.k a.o a.s a.x a.f a.m (fun i => nR (ga i)) a.p) (avN b.k b.o b.s b.x b.f b.m (fun i => nR (gb i)) b.p) = false := by
        rw [sm_eq]; exact sm_ff hf
      rw [e]
      exact saF4 d so1 a b ga gb false ⟨hk, ho, hst, hf, trivial⟩
    | false =>
    cases hx : ((a.x : Int) != (b.x : Int)) with
    | true =>
      have e : sm (d + 1) (avN a.k a.o a.s a.x a.f a.m (fun i => nR (ga i)) a.p) (avN b.k b.o b.s b.x b.f b.m (fun i => nR (gb i)) b.p) = false := by
        rw [sm_eq]; exact sm_fx hx
      rw [e]
      exact saF5 d so1 a b ga gb false ⟨hk, ho, hst, hf, hx, trivial⟩
    | false =>
    cases hm2 : ((a.m : Int) != (b.m : Int)) with
    | true =>
      have e : sm (d + 1) (avN a.k a.o a.s a.x a.f a.m (fun i => nR (ga i)) a.p) (avN b.k b.o b.s b.x b.f b.m (fun i => nR (gb i)) b.p) = false := by
        rw [sm_eq]; exact sm_fm hm2
      rw [e]
      exact saF6 d so1 a b ga gb false ⟨hk, ho, hst, hf, hx, hm2, trivial⟩
    | false =>
    have hab : a.m = b.m := by
      have : ((a.m : Int) == (b.m : Int)) = true := by simpa using hm2
      have := eq_of_beq this
      omega
    obtain ⟨k1, k2⟩ := sa_loop d so1 a b ga gb ma hab ta tb b.k b.p a.k a.p b.f a.f b.o b.s a.o a.s a.m 0 (by omega)
    have e : sm (d + 1) (avN a.k a.o a.s a.x a.f a.m (fun i => nR (ga i)) a.p) (avN b.k b.o b.s b.x b.f b.m (fun i => nR (gb i)) b.p) = smL (sm d) (fun i => nR (ga i)) (fun i => nR (gb i)) a.m 0 := by
      rw [sm_eq]; exact sm_t hk ho hst hx hf hm2
    rw [e]
    cases hl : smL (sm d) (fun i => nR (ga i)) (fun i => nR (gb i)) a.m 0 with
    | true => exact saF7 d so1 a b ga gb true ⟨hk, ho, hst, hf, hx, hm2, k1 hl, trivial⟩
    | false => exact saF8 d so1 a b ga gb false ⟨hk, ho, hst, hf, hx, hm2, k2 hl, trivial⟩

theorem sr_loop (d : Nat) (so1 : SigsOK Tryz.prog (SS2 d)) (a b : NR) (ga gb : Nat → NR) (hm : a.m ≤ 9223372036854775807) (hab : a.m = b.m) (ha : ∀ i, i < a.m → IsTree d (nR (ga i))) (hb : ∀ i, i < b.m → IsTree d (nR (gb i)))
    (x1 x2 x3 x4 : Int) (b0 b1 : Bool) (s0 s1 s2 s3 : ByteArray) : ∀ (n i : Nat), i + n = a.m →
    (smL (sm d) (fun i => nR (ga i)) (fun i => nR (gb i)) n i = true → LoopTo Tryz.prog (loopAt Tryz.f12 0) (srS0 d so1 a b ga gb i x1 x2 x3 x4 b0 b1 s0 s1 s2 s3) (Exit.exit 0) (srX0 d so1 a b ga gb)) ∧
    (smL (sm d) (fun i => nR (ga i)) (fun i => nR (gb i)) n i = false → LoopTo Tryz.prog (loopAt Tryz.f12 0) (srS0 d so1 a b ga gb i x1 x2 x3 x4 b0 b1 s0 s1 s2 s3) Exit.ret (srX0_1 d so1 a b ga gb false)) := by
  intro n
  induction n with
  | zero =>
    intro i hi
    refine ⟨fun _ => ?_, (fun h => (by cases h))⟩
    exact .done (by simp) (srL0_3 d so1 a b ga gb i x1 x2 x3 x4 b0 b1 s0 s1 s2 s3 ⟨decide_eq_false (by have := hi; omega), trivial⟩)
  | succ n ih =>
    intro i hi
    have h1 : i < a.m := by omega
    have h2 : i < b.m := by omega
    have hd : decide ((i : Int) < (a.m : Int)) = true := decide_eq_true (by omega)
    have hc : smL (sm d) (fun i => nR (ga i)) (fun i => nR (gb i)) (n + 1) i = (sm d (nR (ga i)) (nR (gb i)) && smL (sm d) (fun i => nR (ga i)) (fun i => nR (gb i)) n (i + 1)) := rfl
    have ra : (0 : Int) ≤ i ∧ (i : Int) < (a.m : Int) := ⟨by omega, by omega⟩
    have rb : (0 : Int) ≤ i ∧ (i : Int) < (b.m : Int) := ⟨by omega, by omega⟩
    have ec : ((i + 1 : Nat) : Int) = (i : Int) + 1 := by omega
    rw [hc]
    cases hs : sm d (nR (ga i)) (nR (gb i)) with
    | false =>
      refine ⟨(fun h => (by cases h)), fun _ => ?_⟩
      exact .done (by simp) (srL0_2 d so1 a b ga gb i x1 x2 x3 x4 b0 b1 s0 s1 s2 s3 ⟨hd, ra, rb, hs, ha i h1, hb i h2, trivial⟩)
    | true =>
      have st := srL0_1 d so1 a b ga gb i x1 x2 x3 x4 b0 b1 s0 s1 s2 s3 ⟨hd, ra, rb, hs, ha i h1, hb i h2, ⟨by omega, by omega⟩, trivial⟩
      obtain ⟨k1, k2⟩ := ih (i + 1) (by omega)
      rw [ec] at k1 k2
      rw [Bool.true_and]
      exact ⟨fun h => .step st (k1 h), fun h => .step st (k2 h)⟩

theorem rsame_c : ∀ (d : Nat) (x y : AV), IsTree d x → IsTree d y → PureTo Tryz.prog 12 [x, y] (.v (.bool (sm d x y)))
  | 0, _, _, h, _ => h.elim
  | d + 1, x, y, hx, hy => by
    obtain ⟨a, ga, rfl, ma, ta⟩ := isTree_dec hx
    obtain ⟨b, gb, rfl, mb, tb⟩ := isTree_dec hy
    have so1 : SigsOK Tryz.prog (SS2 d) := by
      refine sigs_cons soM0 ?_
      intro ys r c hs hc
      unfold sigSm at hs
      split at hs
      · cases hs; exact rsame_c d _ _ hc.1 hc.2.1
      · cases hs
    cases hk : (a.k != b.k) with
    | true =>
      have e : sm (d + 1) (avN a.k a.o a.s a.x a.f a.m (fun i => nR (ga i)) a.p) (avN b.k b.o b.s b.x b.f b.m (fun i => nR (gb i)) b.p) = false := by
        rw [sm_eq]; exact sm_fk hk
      rw [e]
      exact srF1 d so1 a b ga gb false ⟨hk, trivial⟩
    | false =>
    cases ho : (!(a.o.toList == b.o.toList)) with
    | true =>
      have e : sm (d + 1) (avN a.k a.o a.s a.x a.f a.m (fun i => nR (ga i)) a.p) (avN b.k b.o b.s b.x b.f b.m (fun i => nR (gb i)) b.p) = false := by
        rw [sm_eq]; exact sm_fo ho
      rw [e]
      exact srF2 d so1 a b ga gb false ⟨hk, ho, trivial⟩
    | false =>
    cases hst : (!(a.s.toList == b.s.toList)) with
    | true =>
      have e : sm (d + 1) (avN a.k a.o a.s a.x a.f a.m (fun i => nR (ga i)) a.p) (avN b.k b.o b.s b.x b.f b.m (fun i => nR (gb i)) b.p) = false := by
        rw [sm_eq]; exact sm_fs hst
      rw [e]
      exact srF3 d so1 a b ga gb false ⟨hk, ho, hst, trivial⟩
    | false =>
    cases hx : ((a.x : Int) != (b.x : Int)) with
    | true =>
      have e : sm (d + 1) (avN a.k a.o a.s a.x a.f a.m (fun i => nR (ga i)) a.p) (avN b.k b.o b.s b.x b.f b.m (fun i => nR (gb i)) b.p) = false := by
        rw [sm_eq]; exact sm_fx hx
      rw [e]
      exact srF4 d so1 a b ga gb false ⟨hk, ho, hst, hx, trivial⟩
    | false =>
    cases hf : (!(a.f == b.f)) with
    | true =>
      have e : sm (d + 1) (avN a.k a.o a.s a.x a.f a.m (fun i => nR (ga i)) a.p) (avN b.k b.o b.s b.x b.f b.m (fun i => nR (gb i)) b.p) = false := by
        rw [sm_eq]; exact sm_ff hf
      rw [e]
      exact srF5 d so1 a b ga gb false ⟨hk, ho, hst, hx, hf, trivial⟩
    | false =>
    cases hm2 : ((a.m : Int) != (b.m : Int)) with
    | true =>
      have e : sm (d + 1) (avN a.k a.o a.s a.x a.f a.m (fun i => nR (ga i)) a.p) (avN b.k b.o b.s b.x b.f b.m (fun i => nR (gb i)) b.p) = false := by
        rw [sm_eq]; exact sm_fm hm2
      rw [e]
      exact srF6 d so1 a b ga gb false ⟨hk, ho, hst, hx, hf, hm2, trivial⟩
    | false =>
    have hab : a.m = b.m := by
      have : ((a.m : Int) == (b.m : Int)) = true := by simpa using hm2
      have := eq_of_beq this
      omega
    obtain ⟨k1, k2⟩ := sr_loop d so1 a b ga gb ma hab ta tb b.k b.p a.k a.p b.f a.f b.o b.s a.o a.s a.m 0 (by omega)
    have e : sm (d + 1) (avN a.k a.o a.s a.x a.f a.m (fun i => nR (ga i)) a.p) (avN b.k b.o b.s b.x b.f b.m (fun i => nR (gb i)) b.p) = smL (sm d) (fun i => nR (ga i)) (fun i => nR (gb i)) a.m 0 := by
      rw [sm_eq]; exact sm_t hk ho hst hx hf hm2
    rw [e]
    cases hl : smL (sm d) (fun i => nR (ga i)) (fun i => nR (gb i)) a.m 0 with
    | true => exact srF7 d so1 a b ga gb true ⟨hk, ho, hst, hx, hf, hm2, k1 hl, trivial⟩
    | false => exact srF8 d so1 a b ga gb false ⟨hk, ho, hst, hx, hf, hm2, k2 hl, trivial⟩

/-! ### the plain law -/
theorem smL_comm {c : AV → AV → Bool} {g h : Nat → AV} : ∀ (n i : Nat), (∀ j, j < i + n → c (g j) (h j) = c (h j) (g j)) → smL c g h n i = smL c h g n i
  | 0, _, _ => rfl
  | n + 1, i, hc => by
    unfold smL
    rw [hc i (by omega), smL_comm n (i + 1) (fun j hj => hc j (by omega))]
theorem int_comm (x y : Int) : (x == y) = (y == x) := by rw [Bool.eq_iff_iff]; simp only [beq_iff_eq]; exact eq_comm
theorem list_comm (x y : List UInt8) : (x == y) = (y == x) := by rw [Bool.eq_iff_iff]; simp only [beq_iff_eq]; exact eq_comm
theorem bool_comm (x y : Bool) : (x == y) = (y == x) := by cases x <;> cases y <;> rfl
theorem sm_comm : ∀ (d : Nat) (x y : AV), IsTree d x → IsTree d y → sm d x y = sm d y x
  | 0, _, _, h, _ => h.elim
  | d + 1, x, y, hx, hy => by
    obtain ⟨a, ga, rfl, ma, ta⟩ := isTree_dec hx
    obtain ⟨b, gb, rfl, mb, tb⟩ := isTree_dec hy
    rw [sm_eq, sm_eq, int_comm a.k, list_comm a.o.toList, list_comm a.s.toList, int_comm a.x, bool_comm a.f, int_comm a.m]
    cases hm : ((b.m : Int) == (a.m : Int)) with
    | false => simp
    | true =>
      have hab : a.m = b.m := by
        have := eq_of_beq hm
        omega
      rw [hab, smL_comm (c := sm d) b.m 0 fun j hj => sm_comm d _ _ (ta j (by omega)) (tb j (by omega))]
theorem smL_refl {c : AV → AV → Bool} {g : Nat → AV} : ∀ (n i : Nat), (∀ j, j < i + n → c (g j) (g j) = true) → smL c g g n i = true
  | 0, _, _ => rfl
  | n + 1, i, hc => by
    unfold smL
    rw [hc i (by omega), smL_refl n (i + 1) (fun j hj => hc j (by omega))]
    rfl
theorem sm_refl : ∀ (d : Nat) (x : AV), IsTree d x → sm d x x = true
  | 0, _, h => h.elim
  | d + 1, x, hx => by
    obtain ⟨a, ga, rfl, ma, ta⟩ := isTree_dec hx
    rw [sm_eq, smL_refl (c := sm d) a.m 0 fun j hj => sm_refl d _ (ta j (by omega))]
    simp
end Go.Proofs.As

/- Ast: the tables for the reference's count and for the depths. -/
set_option maxRecDepth 100000
namespace Go.Proofs.As
open Go Go.Ev
variable [MX]

def SA2 (d : Nat) : SGT := (17, .p (sigCnt d)) :: SM0
/-- how deep a tree is -/
def dpL (c : AV → Int) (g : Nat → AV) : Nat → Nat → Int → Int
  | 0, _, h => h
  | n + 1, i, h => dpL c g n (i + 1) (if c (g i) > h then c (g i) else h)
def dp : Nat → AV → Int
  | 0, _ => 0
  | d + 1, .agg [_, _, _, _, _, .sl _ (.fn m g) _, _] => dpL (dp d) g m 0 0 + 1
  | _, _ => 0
def sigDp (d : Nat) : List AV → Option (AV × List Prop)
  | [x] => some (.v (.int .i64 (dp d x)), [IsTree d x, dp d x ≤ 1048576])
  | _ => none
def SA3 (d : Nat) : SGT := (18, .p (sigDp d)) :: SM0
def SA4 (d : Nat) : SGT := (19, .p (sigDp d)) :: SM0
end Go.Proofs.As

/- Ast: walks, written by the tool. -/
set_option maxRecDepth 100000
namespace Go.Proofs.As
open Go Go.Ev
variable [MX]
def rcS0 (d : Nat) (so1 : SigsOK Tryz.prog (SA2 d)) (k p b : Int) (o s : ByteArray) (x : Nat) (f : Bool) (m : Nat) (K Pp : Nat → Int) (O S : Nat → ByteArray) (X : Nat → Nat) (F : Nat → Bool) (M : Nat → Nat) (G : Nat → Nat → AV) (x0 : Int) (x1 : Int) (x2 : Int) (x3 : Int) (b0 : Bool) (s0 : ByteArray) (s1 : ByteArray) : AS := { n := 27, fr := [(1, AV.v (.int .i64 x0)), (2, AV.ptr 0 0), (5, AV.v (.int .i64 x1))], hp := [(0, AObj.cells 25 [AV.v (.int .i64 x2), AV.v (.string s0), AV.v (.string s1), AV.v (.float FloatKind.f64 x), AV.v (.bool b0), AV.sl 7 (Seq.fn m fun (i : Nat) => avN (K i) (O i) (S i) (X i) (F i) (M i) (G i) (Pp i)) false, AV.v (.int .i64 x3)])], nx := 1 }
def rcX0 (d : Nat) (so1 : SigsOK Tryz.prog (SA2 d)) (k p b : Int) (o s : ByteArray) (x : Nat) (f : Bool) (m : Nat) (K Pp : Nat → Int) (O S : Nat → ByteArray) (X : Nat → Nat) (F : Nat → Bool) (M : Nat → Nat) (G : Nat → Nat → AV) (x4 : Int) : AS := { n := 27, fr := [(1, AV.v (.int .i64 x4))], hp := [], nx := 1 }
def deS0 (d : Nat) (so1 : SigsOK Tryz.prog (SA3 d)) (k p b : Int) (o s : ByteArray) (x : Nat) (f : Bool) (m : Nat) (K Pp : Nat → Int) (O S : Nat → ByteArray) (X : Nat → Nat) (F : Nat → Bool) (M : Nat → Nat) (G : Nat → Nat → AV) (x0 : Int) (x1 : Int) : AS := { n := 20, fr := [(3, AV.v (.int .i64 x0)), (7, AV.sl 7 (Seq.fn m fun (i : Nat) => avN (K i) (O i) (S i) (X i) (F i) (M i) (G i) (Pp i)) false), (8, AV.v (.int .i64 (↑m : Int))), (9, AV.v (.int .i64 x1))], hp := [], nx := 0 }
def deX0 (d : Nat) (so1 : SigsOK Tryz.prog (SA3 d)) (k p b : Int) (o s : ByteArray) (x : Nat) (f : Bool) (m : Nat) (K Pp : Nat → Int) (O S : Nat → ByteArray) (X : Nat → Nat) (F : Nat → Bool) (M : Nat → Nat) (G : Nat → Nat → AV) (x2 : Int) : AS := { n := 20, fr := [(3, AV.v (.int .i64 x2))], hp := [], nx := 0 }
def rdS0 (d : Nat) (so1 : SigsOK Tryz.prog (SA4 d)) (k p b : Int) (o s : ByteArray) (x : Nat) (f : Bool) (m : Nat) (K Pp : Nat → Int) (O S : Nat → ByteArray) (X : Nat → Nat) (F : Nat → Bool) (M : Nat → Nat) (G : Nat → Nat → AV) (x0 : Int) (x1 : Int) (x2 : Int) (x3 : Int) (b0 : Bool) (s0 : ByteArray) (s1 : ByteArray) : AS := { n := 25, fr := [(1, AV.ptr 0 0), (3, AV.v (.int .i64 x0)), (4, AV.v (.int .i64 x1))], hp := [(0, AObj.cells 25 [AV.v (.int .i64 x2), AV.v (.string s0), AV.v (.string s1), AV.v (.float FloatKind.f64 x), AV.v (.bool b0), AV.sl 7 (Seq.fn m fun (i : Nat) => avN (K i) (O i) (S i) (X i) (F i) (M i) (G i) (Pp i)) false, AV.v (.int .i64 x3)])], nx := 1 }
def rdX0 (d : Nat) (so1 : SigsOK Tryz.prog (SA4 d)) (k p b : Int) (o s : ByteArray) (x : Nat) (f : Bool) (m : Nat) (K Pp : Nat → Int) (O S : Nat → ByteArray) (X : Nat → Nat) (F : Nat → Bool) (M : Nat → Nat) (G : Nat → Nat → AV) (x4 : Int) : AS := { n := 25, fr := [(3, AV.v (.int .i64 x4))], hp := [], nx := 1 }
-- 3 paths
theorem rcL0_1 (d : Nat) (so1 : SigsOK Tryz.prog (SA2 d)) (k p b : Int) (o s : ByteArray) (x : Nat) (f : Bool) (m : Nat) (K Pp : Nat → Int) (O S : Nat → ByteArray) (X : Nat → Nat) (F : Nat → Bool) (M : Nat → Nat) (G : Nat → Nat → AV) (x0 : Int) (x1 : Int) (x2 : Int) (x3 : Int) (b0 : Bool) (s0 : ByteArray) (s1 : ByteArray) (h : AllP [decide (x1 < (↑m : Int)) = true, decide (x0 ≤ (1048576 : Int)) = true, (0 : Int) ≤ x1 ∧ x1 < (↑m : Int), IsTree d (AV.agg [AV.v (.int .i64 (K x1.toNat)), AV.v (.string (O x1.toNat)), AV.v (.string (S x1.toNat)), AV.v (.float FloatKind.f64 (X x1.toNat)), AV.v (.bool (F x1.toNat)), AV.sl 7 (Seq.fn (M x1.toNat) (G x1.toNat)) false, AV.v (.int .i64 (Pp x1.toNat))]), (0 : Int) ≤ x0, x0 ≤ (1048576 : Int), inR IntKind.i64 (x1 + (1 : Int))]) : To Tryz.prog (loopAt Tryz.f17 0) ({ n := 27, fr := [(1, AV.v (.int .i64 x0)), (2, AV.ptr 0 0), (5, AV.v (.int .i64 x1))], hp := [(0, AObj.cells 25 [AV.v (.int .i64 x2), AV.v (.string s0), AV.v (.string s1), AV.v (.float FloatKind.f64 x), AV.v (.bool b0), AV.sl 7 (Seq.fn m fun (i : Nat) => avN (K i) (O i) (S i) (X i) (F i) (M i) (G i) (Pp i)) false, AV.v (.int .i64 x3)])], nx := 1 }) (.normal) { n := 27, fr := [(1, AV.v (.int .i64 (cnt d (AV.agg [AV.v (.int .i64 (K x1.toNat)), AV.v (.string (O x1.toNat)), AV.v (.string (S x1.toNat)), AV.v (.float FloatKind.f64 (X x1.toNat)), AV.v (.bool (F x1.toNat)), AV.sl 7 (Seq.fn (M x1.toNat) (G x1.toNat)) false, AV.v (.int .i64 (Pp x1.toNat))]) x0))), (2, AV.ptr 0 0), (5, AV.v (.int .i64 (x1 + (1 : Int))))], hp := [(0, AObj.cells 25 [AV.v (.int .i64 x2), AV.v (.string s0), AV.v (.string s1), AV.v (.float FloatKind.f64 x), AV.v (.bool b0), AV.sl 7 (Seq.fn m fun (i : Nat) => avN (K i) (O i) (S i) (X i) (F i) (M i) (G i) (Pp i)) false, AV.v (.int .i64 x3)])], nx := 1 } :=
  evW_to hm so1 (hs := [CHint.ops 3 [(4, Hint.b true), (7, Hint.b true)]]) (slots := [1, 2, 5]) (keys := [0]) (nx := 1) (c := _) (by kernel_rfl) h
theorem rcL0_2 (d : Nat) (so1 : SigsOK Tryz.prog (SA2 d)) (k p b : Int) (o s : ByteArray) (x : Nat) (f : Bool) (m : Nat) (K Pp : Nat → Int) (O S : Nat → ByteArray) (X : Nat → Nat) (F : Nat → Bool) (M : Nat → Nat) (G : Nat → Nat → AV) (x0 : Int) (x1 : Int) (x2 : Int) (x3 : Int) (b0 : Bool) (s0 : ByteArray) (s1 : ByteArray) (h : AllP [decide (x1 < (↑m : Int)) = true, decide (x0 ≤ (1048576 : Int)) = false]) : To Tryz.prog (loopAt Tryz.f17 0) ({ n := 27, fr := [(1, AV.v (.int .i64 x0)), (2, AV.ptr 0 0), (5, AV.v (.int .i64 x1))], hp := [(0, AObj.cells 25 [AV.v (.int .i64 x2), AV.v (.string s0), AV.v (.string s1), AV.v (.float FloatKind.f64 x), AV.v (.bool b0), AV.sl 7 (Seq.fn m fun (i : Nat) => avN (K i) (O i) (S i) (X i) (F i) (M i) (G i) (Pp i)) false, AV.v (.int .i64 x3)])], nx := 1 }) (Exit.exit 0) { n := 27, fr := [(1, AV.v (.int .i64 x0))], hp := [], nx := 1 } :=
  evW_to hm so1 (hs := [CHint.ops 3 [(4, Hint.b true), (7, Hint.b false)]]) (slots := [1]) (keys := []) (nx := 1) (c := _) (by kernel_rfl) h
theorem rcL0_3 (d : Nat) (so1 : SigsOK Tryz.prog (SA2 d)) (k p b : Int) (o s : ByteArray) (x : Nat) (f : Bool) (m : Nat) (K Pp : Nat → Int) (O S : Nat → ByteArray) (X : Nat → Nat) (F : Nat → Bool) (M : Nat → Nat) (G : Nat → Nat → AV) (x0 : Int) (x1 : Int) (x2 : Int) (x3 : Int) (b0 : Bool) (s0 : ByteArray) (s1 : ByteArray) (h : AllP [decide (x1 < (↑m : Int)) = false]) : To Tryz.prog (loopAt Tryz.f17 0) ({ n := 27, fr := [(1, AV.v (.int .i64 x0)), (2, AV.ptr 0 0), (5, AV.v (.int .i64 x1))], hp := [(0, AObj.cells 25 [AV.v (.int .i64 x2), AV.v (.string s0), AV.v (.string s1), AV.v (.float FloatKind.f64 x), AV.v (.bool b0), AV.sl 7 (Seq.fn m fun (i : Nat) => avN (K i) (O i) (S i) (X i) (F i) (M i) (G i) (Pp i)) false, AV.v (.int .i64 x3)])], nx := 1 }) (Exit.exit 0) { n := 27, fr := [(1, AV.v (.int .i64 x0))], hp := [], nx := 1 } :=
  evW_to hm so1 (hs := [CHint.ops 3 [(4, Hint.b false)]]) (slots := [1]) (keys := []) (nx := 1) (c := _) (by kernel_rfl) h
-- 1 paths
theorem rcF1 (d : Nat) (so1 : SigsOK Tryz.prog (SA2 d)) (k p b : Int) (o s : ByteArray) (x : Nat) (f : Bool) (m : Nat) (K Pp : Nat → Int) (O S : Nat → ByteArray) (X : Nat → Nat) (F : Nat → Bool) (M : Nat → Nat) (G : Nat → Nat → AV) (x4 : Int) (h : AllP [inR IntKind.i64 (b + (1 : Int)), LoopTo Tryz.prog (loopAt Tryz.f17 0) { n := 27, fr := [(1, AV.v (.int .i64 (b + (1 : Int)))), (2, AV.ptr 0 0), (5, AV.v (.int .i64 (0 : Int)))], hp := [(0, AObj.cells 25 [AV.v (.int .i64 k), AV.v (.string o), AV.v (.string s), AV.v (.float FloatKind.f64 x), AV.v (.bool f), AV.sl 7 (Seq.fn m fun (i : Nat) => avN (K i) (O i) (S i) (X i) (F i) (M i) (G i) (Pp i)) false, AV.v (.int .i64 p)])], nx := 1 } (Exit.exit 0) { n := 27, fr := [(1, AV.v (.int .i64 x4))], hp := [], nx := 1 }]) : PureTo Tryz.prog 17 [avN k o s x f m (fun i => avN (K i) (O i) (S i) (X i) (F i) (M i) (G i) (Pp i)) p, .v (.int .i64 b)] (AV.v (.int .i64 x4)) :=
  evFn_pure hm so1 (fn := Tryz.f17) rfl rfl (ti := false) (hs := [CHint.loop [1, 2, 5] [0] 1 (Exit.exit 0) { n := 27, fr := [(1, AV.v (.int .i64 x4))], hp := [], nx := 1 }]) (c := _) (by kernel_rfl) h
-- 2 paths
theorem deL0_1 (d : Nat) (so1 : SigsOK Tryz.prog (SA3 d)) (k p b : Int) (o s : ByteArray) (x : Nat) (f : Bool) (m : Nat) (K Pp : Nat → Int) (O S : Nat → ByteArray) (X : Nat → Nat) (F : Nat → Bool) (M : Nat → Nat) (G : Nat → Nat → AV) (x0 : Int) (x1 : Int) (h : AllP [decide (x1 < (↑m : Int)) = true, (0 : Int) ≤ x1 ∧ x1 < (↑m : Int), IsTree d (AV.agg [AV.v (.int .i64 (K x1.toNat)), AV.v (.string (O x1.toNat)), AV.v (.string (S x1.toNat)), AV.v (.float FloatKind.f64 (X x1.toNat)), AV.v (.bool (F x1.toNat)), AV.sl 7 (Seq.fn (M x1.toNat) (G x1.toNat)) false, AV.v (.int .i64 (Pp x1.toNat))]), dp d (AV.agg [AV.v (.int .i64 (K x1.toNat)), AV.v (.string (O x1.toNat)), AV.v (.string (S x1.toNat)), AV.v (.float FloatKind.f64 (X x1.toNat)), AV.v (.bool (F x1.toNat)), AV.sl 7 (Seq.fn (M x1.toNat) (G x1.toNat)) false, AV.v (.int .i64 (Pp x1.toNat))]) ≤ (1048576 : Int), inR IntKind.i64 (x1 + (1 : Int))]) : To Tryz.prog (loopAt Tryz.f18 0) ({ n := 20, fr := [(3, AV.v (.int .i64 x0)), (7, AV.sl 7 (Seq.fn m fun (i : Nat) => avN (K i) (O i) (S i) (X i) (F i) (M i) (G i) (Pp i)) false), (8, AV.v (.int .i64 (↑m : Int))), (9, AV.v (.int .i64 x1))], hp := [], nx := 0 }) (.normal) { n := 20, fr := [(3, AV.v (.int .i64 (if dp d (AV.agg [AV.v (.int .i64 (K x1.toNat)), AV.v (.string (O x1.toNat)), AV.v (.string (S x1.toNat)), AV.v (.float FloatKind.f64 (X x1.toNat)), AV.v (.bool (F x1.toNat)), AV.sl 7 (Seq.fn (M x1.toNat) (G x1.toNat)) false, AV.v (.int .i64 (Pp x1.toNat))]) > x0 then dp d (AV.agg [AV.v (.int .i64 (K x1.toNat)), AV.v (.string (O x1.toNat)), AV.v (.string (S x1.toNat)), AV.v (.float FloatKind.f64 (X x1.toNat)), AV.v (.bool (F x1.toNat)), AV.sl 7 (Seq.fn (M x1.toNat) (G x1.toNat)) false, AV.v (.int .i64 (Pp x1.toNat))]) else x0))), (7, AV.sl 7 (Seq.fn m fun (i : Nat) => avN (K i) (O i) (S i) (X i) (F i) (M i) (G i) (Pp i)) false), (8, AV.v (.int .i64 (↑m : Int))), (9, AV.v (.int .i64 (x1 + (1 : Int))))], hp := [], nx := 0 } :=
  evW_to hm so1 (hs := [CHint.ops 3 [(0, Hint.b true)]]) (slots := [3, 7, 8, 9]) (keys := []) (nx := 0) (c := _) (by kernel_rfl) h
theorem deL0_2 (d : Nat) (so1 : SigsOK Tryz.prog (SA3 d)) (k p b : Int) (o s : ByteArray) (x : Nat) (f : Bool) (m : Nat) (K Pp : Nat → Int) (O S : Nat → ByteArray) (X : Nat → Nat) (F : Nat → Bool) (M : Nat → Nat) (G : Nat → Nat → AV) (x0 : Int) (x1 : Int) (h : AllP [decide (x1 < (↑m : Int)) = false]) : To Tryz.prog (loopAt Tryz.f18 0) ({ n := 20, fr := [(3, AV.v (.int .i64 x0)), (7, AV.sl 7 (Seq.fn m fun (i : Nat) => avN (K i) (O i) (S i) (X i) (F i) (M i) (G i) (Pp i)) false), (8, AV.v (.int .i64 (↑m : Int))), (9, AV.v (.int .i64 x1))], hp := [], nx := 0 }) (Exit.exit 0) { n := 20, fr := [(3, AV.v (.int .i64 x0))], hp := [], nx := 0 } :=
  evW_to hm so1 (hs := [CHint.ops 3 [(0, Hint.b false)]]) (slots := [3]) (keys := []) (nx := 0) (c := _) (by kernel_rfl) h
-- 1 paths
theorem deF1 (d : Nat) (so1 : SigsOK Tryz.prog (SA3 d)) (k p b : Int) (o s : ByteArray) (x : Nat) (f : Bool) (m : Nat) (K Pp : Nat → Int) (O S : Nat → ByteArray) (X : Nat → Nat) (F : Nat → Bool) (M : Nat → Nat) (G : Nat → Nat → AV) (x2 : Int) (h : AllP [LoopTo Tryz.prog (loopAt Tryz.f18 0) { n := 20, fr := [(3, AV.v (.int .i64 (0 : Int))), (7, AV.sl 7 (Seq.fn m fun (i : Nat) => avN (K i) (O i) (S i) (X i) (F i) (M i) (G i) (Pp i)) false), (8, AV.v (.int .i64 (↑m : Int))), (9, AV.v (.int .i64 (0 : Int)))], hp := [], nx := 0 } (Exit.exit 0) { n := 20, fr := [(3, AV.v (.int .i64 x2))], hp := [], nx := 0 }, inR IntKind.i64 (x2 + (1 : Int))]) : PureTo Tryz.prog 18 [avN k o s x f m (fun i => avN (K i) (O i) (S i) (X i) (F i) (M i) (G i) (Pp i)) p] (AV.v (.int .i64 (x2 + (1 : Int)))) :=
  evFn_pure hm so1 (fn := Tryz.f18) rfl rfl (ti := false) (hs := [CHint.loop [3, 7, 8, 9] [] 0 (Exit.exit 0) { n := 20, fr := [(3, AV.v (.int .i64 x2))], hp := [], nx := 0 }]) (c := _) (by kernel_rfl) h
-- 3 paths
theorem rdL0_1 (d : Nat) (so1 : SigsOK Tryz.prog (SA4 d)) (k p b : Int) (o s : ByteArray) (x : Nat) (f : Bool) (m : Nat) (K Pp : Nat → Int) (O S : Nat → ByteArray) (X : Nat → Nat) (F : Nat → Bool) (M : Nat → Nat) (G : Nat → Nat → AV) (x0 : Int) (x1 : Int) (x2 : Int) (x3 : Int) (b0 : Bool) (s0 : ByteArray) (s1 : ByteArray) (h : AllP [decide (x1 < (↑m : Int)) = true, (0 : Int) ≤ x1 ∧ x1 < (↑m : Int), IsTree d (AV.agg [AV.v (.int .i64 (K x1.toNat)), AV.v (.string (O x1.toNat)), AV.v (.string (S x1.toNat)), AV.v (.float FloatKind.f64 (X x1.toNat)), AV.v (.bool (F x1.toNat)), AV.sl 7 (Seq.fn (M x1.toNat) (G x1.toNat)) false, AV.v (.int .i64 (Pp x1.toNat))]), dp d (AV.agg [AV.v (.int .i64 (K x1.toNat)), AV.v (.string (O x1.toNat)), AV.v (.string (S x1.toNat)), AV.v (.float FloatKind.f64 (X x1.toNat)), AV.v (.bool (F x1.toNat)), AV.sl 7 (Seq.fn (M x1.toNat) (G x1.toNat)) false, AV.v (.int .i64 (Pp x1.toNat))]) ≤ (1048576 : Int), decide (dp d (AV.agg [AV.v (.int .i64 (K x1.toNat)), AV.v (.string (O x1.toNat)), AV.v (.string (S x1.toNat)), AV.v (.float FloatKind.f64 (X x1.toNat)), AV.v (.bool (F x1.toNat)), AV.sl 7 (Seq.fn (M x1.toNat) (G x1.toNat)) false, AV.v (.int .i64 (Pp x1.toNat))]) > x0) = true, inR IntKind.i64 (x1 + (1 : Int))]) : To Tryz.prog (loopAt Tryz.f19 0) ({ n := 25, fr := [(1, AV.ptr 0 0), (3, AV.v (.int .i64 x0)), (4, AV.v (.int .i64 x1))], hp := [(0, AObj.cells 25 [AV.v (.int .i64 x2), AV.v (.string s0), AV.v (.string s1), AV.v (.float FloatKind.f64 x), AV.v (.bool b0), AV.sl 7 (Seq.fn m fun (i : Nat) => avN (K i) (O i) (S i) (X i) (F i) (M i) (G i) (Pp i)) false, AV.v (.int .i64 x3)])], nx := 1 }) (.normal) { n := 25, fr := [(1, AV.ptr 0 0), (3, AV.v (.int .i64 (dp d (AV.agg [AV.v (.int .i64 (K x1.toNat)), AV.v (.string (O x1.toNat)), AV.v (.string (S x1.toNat)), AV.v (.float FloatKind.f64 (X x1.toNat)), AV.v (.bool (F x1.toNat)), AV.sl 7 (Seq.fn (M x1.toNat) (G x1.toNat)) false, AV.v (.int .i64 (Pp x1.toNat))])))), (4, AV.v (.int .i64 (x1 + (1 : Int))))], hp := [(0, AObj.cells 25 [AV.v (.int .i64 x2), AV.v (.string s0), AV.v (.string s1), AV.v (.float FloatKind.f64 x), AV.v (.bool b0), AV.sl 7 (Seq.fn m fun (i : Nat) => avN (K i) (O i) (S i) (X i) (F i) (M i) (G i) (Pp i)) false, AV.v (.int .i64 x3)])], nx := 1 } :=
  evW_to hm so1 (hs := [CHint.ops 3 [(4, Hint.b true)], CHint.ops 6 [(2, Hint.b true)]]) (slots := [1, 3, 4]) (keys := [0]) (nx := 1) (c := _) (by kernel_rfl) h
theorem rdL0_2 (d : Nat) (so1 : SigsOK Tryz.prog (SA4 d)) (k p b : Int) (o s : ByteArray) (x : Nat) (f : Bool) (m : Nat) (K Pp : Nat → Int) (O S : Nat → ByteArray) (X : Nat → Nat) (F : Nat → Bool) (M : Nat → Nat) (G : Nat → Nat → AV) (x0 : Int) (x1 : Int) (x2 : Int) (x3 : Int) (b0 : Bool) (s0 : ByteArray) (s1 : ByteArray) (h : AllP [decide (x1 < (↑m : Int)) = true, (0 : Int) ≤ x1 ∧ x1 < (↑m : Int), IsTree d (AV.agg [AV.v (.int .i64 (K x1.toNat)), AV.v (.string (O x1.toNat)), AV.v (.string (S x1.toNat)), AV.v (.float FloatKind.f64 (X x1.toNat)), AV.v (.bool (F x1.toNat)), AV.sl 7 (Seq.fn (M x1.toNat) (G x1.toNat)) false, AV.v (.int .i64 (Pp x1.toNat))]), dp d (AV.agg [AV.v (.int .i64 (K x1.toNat)), AV.v (.string (O x1.toNat)), AV.v (.string (S x1.toNat)), AV.v (.float FloatKind.f64 (X x1.toNat)), AV.v (.bool (F x1.toNat)), AV.sl 7 (Seq.fn (M x1.toNat) (G x1.toNat)) false, AV.v (.int .i64 (Pp x1.toNat))]) ≤ (1048576 : Int), decide (dp d (AV.agg [AV.v (.int .i64 (K x1.toNat)), AV.v (.string (O x1.toNat)), AV.v (.string (S x1.toNat)), AV.v (.float FloatKind.f64 (X x1.toNat)), AV.v (.bool (F x1.toNat)), AV.sl 7 (Seq.fn (M x1.toNat) (G x1.toNat)) false, AV.v (.int .i64 (Pp x1.toNat))]) > x0) = false, inR IntKind.i64 (x1 + (1 : Int))]) : To Tryz.prog (loopAt Tryz.f19 0) ({ n := 25, fr := [(1, AV.ptr 0 0), (3, AV.v (.int .i64 x0)), (4, AV.v (.int .i64 x1))], hp := [(0, AObj.cells 25 [AV.v (.int .i64 x2), AV.v (.string s0), AV.v (.string s1), AV.v (.float FloatKind.f64 x), AV.v (.bool b0), AV.sl 7 (Seq.fn m fun (i : Nat) => avN (K i) (O i) (S i) (X i) (F i) (M i) (G i) (Pp i)) false, AV.v (.int .i64 x3)])], nx := 1 }) (.normal) { n := 25, fr := [(1, AV.ptr 0 0), (3, AV.v (.int .i64 x0)), (4, AV.v (.int .i64 (x1 + (1 : Int))))], hp := [(0, AObj.cells 25 [AV.v (.int .i64 x2), AV.v (.string s0), AV.v (.string s1), AV.v (.float FloatKind.f64 x), AV.v (.bool b0), AV.sl 7 (Seq.fn m fun (i : Nat) => avN (K i) (O i) (S i) (X i) (F i) (M i) (G i) (Pp i)) false, AV.v (.int .i64 x3)])], nx := 1 } :=
  evW_to hm so1 (hs := [CHint.ops 3 [(4, Hint.b true)], CHint.ops 6 [(2, Hint.b false)]]) (slots := [1, 3, 4]) (keys := [0]) (nx := 1) (c := _) (by kernel_rfl) h
theorem rdL0_3 (d : Nat) (so1 : SigsOK Tryz.prog (SA4 d)) (k p b : Int) (o s : ByteArray) (x : Nat) (f : Bool) (m : Nat) (K Pp : Nat → Int) (O S : Nat → ByteArray) (X : Nat → Nat) (F : Nat → Bool) (M : Nat → Nat) (G : Nat → Nat → AV) (x0 : Int) (x1 : Int) (x2 : Int) (x3 : Int) (b0 : Bool) (s0 : ByteArray) (s1 : ByteArray) (h : AllP [decide (x1 < (↑m : Int)) = false]) : To Tryz.prog (loopAt Tryz.f19 0) ({ n := 25, fr := [(1, AV.ptr 0 0), (3, AV.v (.int .i64 x0)), (4, AV.v (.int .i64 x1))], hp := [(0, AObj.cells 25 [AV.v (.int .i64 x2), AV.v (.string s0), AV.v (.string s1), AV.v (.float FloatKind.f64 x), AV.v (.bool b0), AV.sl 7 (Seq.fn m fun (i : Nat) => avN (K i) (O i) (S i) (X i) (F i) (M i) (G i) (Pp i)) false, AV.v (.int .i64 x3)])], nx := 1 }) (Exit.exit 0) { n := 25, fr := [(3, AV.v (.int .i64 x0))], hp := [], nx := 1 } :=
  evW_to hm so1 (hs := [CHint.ops 3 [(4, Hint.b false)]]) (slots := [3]) (keys := []) (nx := 1) (c := _) (by kernel_rfl) h
-- 1 paths
theorem rdF1 (d : Nat) (so1 : SigsOK Tryz.prog (SA4 d)) (k p b : Int) (o s : ByteArray) (x : Nat) (f : Bool) (m : Nat) (K Pp : Nat → Int) (O S : Nat → ByteArray) (X : Nat → Nat) (F : Nat → Bool) (M : Nat → Nat) (G : Nat → Nat → AV) (x4 : Int) (h : AllP [LoopTo Tryz.prog (loopAt Tryz.f19 0) { n := 25, fr := [(1, AV.ptr 0 0), (3, AV.v (.int .i64 (0 : Int))), (4, AV.v (.int .i64 (0 : Int)))], hp := [(0, AObj.cells 25 [AV.v (.int .i64 k), AV.v (.string o), AV.v (.string s), AV.v (.float FloatKind.f64 x), AV.v (.bool f), AV.sl 7 (Seq.fn m fun (i : Nat) => avN (K i) (O i) (S i) (X i) (F i) (M i) (G i) (Pp i)) false, AV.v (.int .i64 p)])], nx := 1 } (Exit.exit 0) { n := 25, fr := [(3, AV.v (.int .i64 x4))], hp := [], nx := 1 }, inR IntKind.i64 (x4 + (1 : Int))]) : PureTo Tryz.prog 19 [avN k o s x f m (fun i => avN (K i) (O i) (S i) (X i) (F i) (M i) (G i) (Pp i)) p] (AV.v (.int .i64 (x4 + (1 : Int)))) :=
  evFn_pure hm so1 (fn := Tryz.f19) rfl rfl (ti := false) (hs := [CHint.loop [1, 3, 4] [0] 1 (Exit.exit 0) { n := 25, fr := [(3, AV.v (.int .i64 x4))], hp := [], nx := 1 }]) (c := _) (by kernel_rfl) h
end Go.Proofs.As

/- Ast: the reference counts as the program does. -/
set_option maxRecDepth 100000
namespace Go.Proofs.As
open Go Go.Ev
variable [MX]

theorem rc_loop (d : Nat) (so1 : SigsOK Tryz.prog (SA2 d)) (k p b : Int) (o s : ByteArray) (x : Nat) (f : Bool) (m : Nat) (K Pp : Nat → Int) (O S : Nat → ByteArray) (X : Nat → Nat) (F : Nat → Bool) (M : Nat → Nat) (G : Nat → Nat → AV)
    (hm : m ≤ 9223372036854775807) (ht : ∀ i, i < m → IsTree d (avN (K i) (O i) (S i) (X i) (F i) (M i) (G i) (Pp i))) : ∀ (n i : Nat) (x0 : Int), i + n = m → 0 ≤ x0 → x0 ≤ 1048577 →
    LoopTo Tryz.prog (loopAt Tryz.f17 0) (rcS0 d so1 k p b o s x f m K Pp O S X F M G x0 i k p f o s) (Exit.exit 0) (rcX0 d so1 k p b o s x f m K Pp O S X F M G (cntL (cnt d) (fun i => avN (K i) (O i) (S i) (X i) (F i) (M i) (G i) (Pp i)) n i x0)) := by
  intro n
  induction n with
  | zero =>
    intro i x0 hi h0 h1
    exact .done (by simp) (rcL0_3 d so1 k p b o s x f m K Pp O S X F M G x0 i k p f o s ⟨by simp only [decide_eq_false_iff_not]; omega, trivial⟩)
  | succ n ih =>
    intro i x0 hi h0 h1
    by_cases hx : x0 > 1048576
    · have e : cntL (cnt d) (fun i => avN (K i) (O i) (S i) (X i) (F i) (M i) (G i) (Pp i)) (n + 1) i x0 = x0 := by
        unfold cntL; rw [if_pos hx]
      rw [e]
      exact .done (by simp) (rcL0_2 d so1 k p b o s x f m K Pp O S X F M G x0 i k p f o s ⟨by simp only [decide_eq_true_eq]; omega, by simp only [decide_eq_false_iff_not]; omega, trivial⟩)
    · have e : cntL (cnt d) (fun i => avN (K i) (O i) (S i) (X i) (F i) (M i) (G i) (Pp i)) (n + 1) i x0 = cntL (cnt d) (fun i => avN (K i) (O i) (S i) (X i) (F i) (M i) (G i) (Pp i)) n (i + 1) (cnt d (avN (K i) (O i) (S i) (X i) (F i) (M i) (G i) (Pp i)) x0) := by
        rw [cntL, if_neg hx]
      rw [e]
      obtain ⟨k0, k1⟩ := cnt_bounds d (avN (K i) (O i) (S i) (X i) (F i) (M i) (G i) (Pp i)) x0 h0 (by omega)
      have st := rcL0_1 d so1 k p b o s x f m K Pp O S X F M G x0 i k p f o s ⟨by simp only [decide_eq_true_eq]; omega, by simp only [decide_eq_true_eq]; omega, by omega, ht i (by omega), h0, by omega, by simp only [inR]; omega, trivial⟩
      have nx := ih (i + 1) _ (by omega) k0 k1
      refine .step st ?_
      have ec : ((i + 1 : Nat) : Int) = (i : Int) + 1 := by omega
      rw [ec] at nx
      exact nx

theorem rcnt_pure : ∀ (d : Nat) (y : AV) (n : Int), IsTree d y → 0 ≤ n → n ≤ 1048576 → PureTo Tryz.prog 17 [y, .v (.int .i64 n)] (.v (.int .i64 (cnt d y n)))
  | 0, y, n, h, _, _ => h.elim
  | d + 1, y, n, h, h0, h1 => by
    obtain ⟨k, o, s, x, f, m, p, K, O, S, X, F, M, G, Pp, rfl, hm, ht⟩ := h
    have so1 : SigsOK Tryz.prog (SA2 d) := by
      refine sigs_cons soM0 ?_
      intro ys r c hs hc
      unfold sigCnt at hs
      split at hs
      · cases hs; exact rcnt_pure d _ _ hc.1 hc.2.1 hc.2.2.1
      · cases hs
    have hl := rc_loop d so1 k p n o s x f m K Pp O S X F M G hm ht m 0 (n + 1) (by omega) (by omega) (by omega)
    exact rcF1 d so1 k p n o s x f m K Pp O S X F M G _ ⟨by simp only [inR]; omega, hl, trivial⟩
end Go.Proofs.As

/- Ast: how deep trees are, by the program and by the reference. -/
set_option maxRecDepth 100000
namespace Go.Proofs.As
open Go Go.Ev
variable [MX]

theorem dpL_ge {c : AV → Int} {g : Nat → AV} : ∀ (n i : Nat) (h : Int), h ≤ dpL c g n i h ∧ ∀ j, i ≤ j → j < i + n → c (g j) ≤ dpL c g n i h
  | 0, i, h => ⟨Int.le_refl _, fun j h1 h2 => absurd h2 (by omega)⟩
  | n + 1, i, h => by
    unfold dpL
    obtain ⟨k1, k2⟩ := dpL_ge (c := c) (g := g) n (i + 1) (if c (g i) > h then c (g i) else h)
    refine ⟨?_, fun j h1 h2 => ?_⟩
    · split at k1 <;> (split <;> omega)
    · by_cases hj : j = i
      · subst hj
        split at k1 <;> (split <;> omega)
      · exact k2 j (by omega) (by omega)

theorem de_loop (d : Nat) (so1 : SigsOK Tryz.prog (SA3 d)) (k p b : Int) (o s : ByteArray) (x : Nat) (f : Bool) (m : Nat) (K Pp : Nat → Int) (O S : Nat → ByteArray) (X : Nat → Nat) (F : Nat → Bool) (M : Nat → Nat) (G : Nat → Nat → AV)
    (hm : m ≤ 9223372036854775807) (ht : ∀ i, i < m → IsTree d (avN (K i) (O i) (S i) (X i) (F i) (M i) (G i) (Pp i)) ∧ dp d (avN (K i) (O i) (S i) (X i) (F i) (M i) (G i) (Pp i)) ≤ 1048576) : ∀ (n i : Nat) (x0 : Int), i + n = m →
    LoopTo Tryz.prog (loopAt Tryz.f18 0) (deS0 d so1 k p b o s x f m K Pp O S X F M G x0 i) (Exit.exit 0) (deX0 d so1 k p b o s x f m K Pp O S X F M G (dpL (dp d) (fun i => avN (K i) (O i) (S i) (X i) (F i) (M i) (G i) (Pp i)) n i x0)) := by
  intro n
  induction n with
  | zero =>
    intro i x0 hi
    exact .done (by simp) (deL0_2 d so1 k p b o s x f m K Pp O S X F M G x0 i ⟨by simp only [decide_eq_false_iff_not]; omega, trivial⟩)
  | succ n ih =>
    intro i x0 hi
    have st := deL0_1 d so1 k p b o s x f m K Pp O S X F M G x0 i ⟨by simp only [decide_eq_true_eq]; omega, by omega, (ht i (by omega)).1, (ht i (by omega)).2, by simp only [inR]; omega, trivial⟩
    have nx := ih (i + 1) (if dp d (avN (K i) (O i) (S i) (X i) (F i) (M i) (G i) (Pp i)) > x0 then dp d (avN (K i) (O i) (S i) (X i) (F i) (M i) (G i) (Pp i)) else x0) (by omega)
    refine .step st ?_
    have ec : ((i + 1 : Nat) : Int) = (i : Int) + 1 := by omega
    rw [ec] at nx
    exact nx

theorem dp_pure : ∀ (d : Nat) (y : AV), IsTree d y → dp d y ≤ 1048576 → PureTo Tryz.prog 18 [y] (.v (.int .i64 (dp d y)))
  | 0, y, h, _ => h.elim
  | d + 1, y, h, h1 => by
    obtain ⟨k, o, s, x, f, m, p, K, O, S, X, F, M, G, Pp, rfl, hm, ht⟩ := h
    have so1 : SigsOK Tryz.prog (SA3 d) := by
      refine sigs_cons soM0 ?_
      intro ys r c hs hc
      unfold sigDp at hs
      split at hs
      · cases hs; exact dp_pure d _ hc.1 hc.2.1
      · cases hs
    have h1 : dpL (dp d) (fun i => avN (K i) (O i) (S i) (X i) (F i) (M i) (G i) (Pp i)) m 0 0 + 1 ≤ 1048576 := h1
    obtain ⟨g1, g2⟩ := dpL_ge (c := dp d) (g := fun i => avN (K i) (O i) (S i) (X i) (F i) (M i) (G i) (Pp i)) m 0 0
    have hl := de_loop d so1 k p 0 o s x f m K Pp O S X F M G hm (fun i hi => ⟨ht i hi, by have := g2 i (by omega) (by omega); omega⟩) m 0 0 (by omega)
    exact deF1 d so1 k p 0 o s x f m K Pp O S X F M G _ ⟨hl, by simp only [inR]; omega, trivial⟩

theorem rd_loop (d : Nat) (so1 : SigsOK Tryz.prog (SA4 d)) (k p b : Int) (o s : ByteArray) (x : Nat) (f : Bool) (m : Nat) (K Pp : Nat → Int) (O S : Nat → ByteArray) (X : Nat → Nat) (F : Nat → Bool) (M : Nat → Nat) (G : Nat → Nat → AV)
    (hm : m ≤ 9223372036854775807) (ht : ∀ i, i < m → IsTree d (avN (K i) (O i) (S i) (X i) (F i) (M i) (G i) (Pp i)) ∧ dp d (avN (K i) (O i) (S i) (X i) (F i) (M i) (G i) (Pp i)) ≤ 1048576) : ∀ (n i : Nat) (x0 : Int), i + n = m →
    LoopTo Tryz.prog (loopAt Tryz.f19 0) (rdS0 d so1 k p b o s x f m K Pp O S X F M G x0 i k p f o s) (Exit.exit 0) (rdX0 d so1 k p b o s x f m K Pp O S X F M G (dpL (dp d) (fun i => avN (K i) (O i) (S i) (X i) (F i) (M i) (G i) (Pp i)) n i x0)) := by
  intro n
  induction n with
  | zero =>
    intro i x0 hi
    exact .done (by simp) (rdL0_3 d so1 k p b o s x f m K Pp O S X F M G x0 i k p f o s ⟨by simp only [decide_eq_false_iff_not]; omega, trivial⟩)
  | succ n ih =>
    intro i x0 hi
    have ec : ((i + 1 : Nat) : Int) = (i : Int) + 1 := by omega
    have nx := ih (i + 1) (if dp d (avN (K i) (O i) (S i) (X i) (F i) (M i) (G i) (Pp i)) > x0 then dp d (avN (K i) (O i) (S i) (X i) (F i) (M i) (G i) (Pp i)) else x0) (by omega)
    rw [ec] at nx
    by_cases hc : dp d (avN (K i) (O i) (S i) (X i) (F i) (M i) (G i) (Pp i)) > x0
    · have st := rdL0_1 d so1 k p b o s x f m K Pp O S X F M G x0 i k p f o s ⟨by simp only [decide_eq_true_eq]; omega, by omega, (ht i (by omega)).1, (ht i (by omega)).2, decide_eq_true hc, by simp only [inR]; omega, trivial⟩
      rw [if_pos hc] at nx
      have e : dpL (dp d) (fun i => avN (K i) (O i) (S i) (X i) (F i) (M i) (G i) (Pp i)) (n + 1) i x0 = dpL (dp d) (fun i => avN (K i) (O i) (S i) (X i) (F i) (M i) (G i) (Pp i)) n (i + 1) (dp d (avN (K i) (O i) (S i) (X i) (F i) (M i) (G i) (Pp i))) := by
        rw [dpL, if_pos hc]
      rw [e]
      exact .step st nx
    · have st := rdL0_2 d so1 k p b o s x f m K Pp O S X F M G x0 i k p f o s ⟨by simp only [decide_eq_true_eq]; omega, by omega, (ht i (by omega)).1, (ht i (by omega)).2, decide_eq_false hc, by simp only [inR]; omega, trivial⟩
      rw [if_neg hc] at nx
      have e : dpL (dp d) (fun i => avN (K i) (O i) (S i) (X i) (F i) (M i) (G i) (Pp i)) (n + 1) i x0 = dpL (dp d) (fun i => avN (K i) (O i) (S i) (X i) (F i) (M i) (G i) (Pp i)) n (i + 1) x0 := by
        rw [dpL, if_neg hc]
      rw [e]
      exact .step st nx

theorem rdp_pure : ∀ (d : Nat) (y : AV), IsTree d y → dp d y ≤ 1048576 → PureTo Tryz.prog 19 [y] (.v (.int .i64 (dp d y)))
  | 0, y, h, _ => h.elim
  | d + 1, y, h, h1 => by
    obtain ⟨k, o, s, x, f, m, p, K, O, S, X, F, M, G, Pp, rfl, hm, ht⟩ := h
    have so1 : SigsOK Tryz.prog (SA4 d) := by
      refine sigs_cons soM0 ?_
      intro ys r c hs hc
      unfold sigDp at hs
      split at hs
      · cases hs; exact rdp_pure d _ hc.1 hc.2.1
      · cases hs
    have h1 : dpL (dp d) (fun i => avN (K i) (O i) (S i) (X i) (F i) (M i) (G i) (Pp i)) m 0 0 + 1 ≤ 1048576 := h1
    obtain ⟨g1, g2⟩ := dpL_ge (c := dp d) (g := fun i => avN (K i) (O i) (S i) (X i) (F i) (M i) (G i) (Pp i)) m 0 0
    have hl := rd_loop d so1 k p 0 o s x f m K Pp O S X F M G hm (fun i hi => ⟨ht i hi, by have := g2 i (by omega) (by omega); omega⟩) m 0 0 (by omega)
    exact rdF1 d so1 k p 0 o s x f m K Pp O S X F M G _ ⟨hl, by simp only [inR]; omega, trivial⟩
end Go.Proofs.As

/- Ast: a tree is not deeper than it has nodes. -/
set_option maxRecDepth 100000
namespace Go.Proofs.As
open Go Go.Ev
variable [MX]

theorem cntL_over {c : AV → Int → Int} {g : Nat → AV} {n i : Nat} {h : Int} (hh : h > 1048576) : cntL c g n i h = h := by
  cases n with
  | zero => rfl
  | succ n => rw [cntL, if_pos hh]
theorem cntL_dp {c : AV → Int → Int} {e : AV → Int} {g : Nat → AV} : ∀ (n i : Nat) (h b H : Int), (∀ j, j < i + n → 0 ≤ e (g j)) → (∀ j, j < i + n → ∀ h, 0 ≤ h → c (g j) h ≤ 1048576 → h + e (g j) ≤ c (g j) h) →
    0 ≤ H → H ≤ h → b ≤ h - H → cntL c g n i h ≤ 1048576 → dpL e g n i b ≤ cntL c g n i h - H
  | 0, i, h, b, H, _, _, h0, h1, h2, h3 => h2
  | n + 1, i, h, b, H, he, hc, h0, h1, h2, h3 => by
    by_cases hh : h > 1048576
    · rw [cntL_over hh] at h3; omega
    · have e1 : cntL c g (n + 1) i h = cntL c g n (i + 1) (c (g i) h) := by rw [cntL, if_neg hh]
      rw [e1] at h3 ⊢
      rw [dpL]
      have hle : c (g i) h ≤ 1048576 := by
        rcases Int.lt_or_le 1048576 (c (g i) h) with hq | hq
        · rw [cntL_over hq] at h3; omega
        · exact hq
      have k := hc i (by omega) h (by omega) hle
      have k0 := he i (by omega)
      exact cntL_dp n (i + 1) _ _ H (fun j hj => he j (by omega)) (fun j hj => hc j (by omega)) h0 (by omega) (by split <;> omega) h3
theorem dp_nonneg : ∀ (d : Nat) (y : AV), IsTree d y → 0 ≤ dp d y
  | 0, y, h => h.elim
  | d + 1, y, h => by
    obtain ⟨k, o, s, x, f, m, p, K, O, S, X, F, M, G, Pp, rfl, hm, ht⟩ := h
    have := (dpL_ge (c := dp d) (g := fun i => avN (K i) (O i) (S i) (X i) (F i) (M i) (G i) (Pp i)) m 0 0).1
    show 0 ≤ dpL (dp d) (fun i => avN (K i) (O i) (S i) (X i) (F i) (M i) (G i) (Pp i)) m 0 0 + 1
    omega
theorem cnt_dp : ∀ (d : Nat) (y : AV) (h : Int), IsTree d y → 0 ≤ h → cnt d y h ≤ 1048576 → h + dp d y ≤ cnt d y h
  | 0, y, h, ht, _, _ => ht.elim
  | d + 1, y, h, ht, h0, h1 => by
    obtain ⟨k, o, s, x, f, m, p, K, O, S, X, F, M, G, Pp, rfl, hm, ht⟩ := ht
    have h1 : cntL (cnt d) (fun i => avN (K i) (O i) (S i) (X i) (F i) (M i) (G i) (Pp i)) m 0 (h + 1) ≤ 1048576 := h1
    show h + (dpL (dp d) (fun i => avN (K i) (O i) (S i) (X i) (F i) (M i) (G i) (Pp i)) m 0 0 + 1) ≤ cntL (cnt d) (fun i => avN (K i) (O i) (S i) (X i) (F i) (M i) (G i) (Pp i)) m 0 (h + 1)
    have := cntL_dp (c := cnt d) (e := dp d) (g := fun i => avN (K i) (O i) (S i) (X i) (F i) (M i) (G i) (Pp i)) m 0 (h + 1) 0 (h + 1) (fun j hj => dp_nonneg d _ (ht j (by omega))) (fun j hj h' h0' h1' => cnt_dp d _ h' (ht j (by omega)) h0' h1') (by omega) (Int.le_refl _) (by omega) h1
    omega
end Go.Proofs.As

/- Ast: the table of counts and depths. -/
set_option maxRecDepth 100000
namespace Go.Proofs.As
open Go Go.Ev
variable [MX]

def SZ (d : Nat) : SGT := (16, .p (sigCnt d)) :: (17, .p (sigCnt d)) :: (18, .p (sigDp d)) :: (19, .p (sigDp d)) :: SM0
theorem soZ (d : Nat) : SigsOK Tryz.prog (SZ d) := by
  refine sigs_cons (sigs_cons (sigs_cons (sigs_cons soM0 ?_) ?_) ?_) ?_ <;> intro ys r c hs hc
  · unfold sigDp at hs
    split at hs
    · cases hs; exact rdp_pure d _ hc.1 hc.2.1
    · cases hs
  · unfold sigDp at hs
    split at hs
    · cases hs; exact dp_pure d _ hc.1 hc.2.1
    · cases hs
  · unfold sigCnt at hs
    split at hs
    · cases hs; exact rcnt_pure d _ _ hc.1 hc.2.1 hc.2.2.1
    · cases hs
  · unfold sigCnt at hs
    split at hs
    · cases hs; exact cnt_pure d _ _ hc.1 hc.2.1 hc.2.2.1
    · cases hs
end Go.Proofs.As

/- Ast: walks, written by the tool. -/
set_option maxRecDepth 100000
namespace Go.Proofs.As
open Go Go.Ev
variable [MX]

-- 2 paths
theorem sz1 (d : Nat) (k p : Int) (o s : ByteArray) (x : Nat) (f : Bool) (m : Nat) (g : Nat → AV) (soZ_d : SigsOK Tryz.prog (SZ d)) (h : AllP [IsTree d (AV.agg [AV.v (.int .i64 k), AV.v (.string o), AV.v (.string s), AV.v (.float FloatKind.f64 x), AV.v (.bool f), AV.sl 7 (Seq.fn m g) false, AV.v (.int .i64 p)]), (0 : Int) ≤ (0 : Int), (0 : Int) ≤ (1048576 : Int), decide (cnt d (AV.agg [AV.v (.int .i64 k), AV.v (.string o), AV.v (.string s), AV.v (.float FloatKind.f64 x), AV.v (.bool f), AV.sl 7 (Seq.fn m g) false, AV.v (.int .i64 p)]) (0 : Int) ≤ (1048576 : Int)) = true]) : PureTo Tryz.prog 6 [avN k o s x f m g p] (AV.v (.int .i64 (cnt d (AV.agg [AV.v (.int .i64 k), AV.v (.string o), AV.v (.string s), AV.v (.float FloatKind.f64 x), AV.v (.bool f), AV.sl 7 (Seq.fn m g) false, AV.v (.int .i64 p)]) (0 : Int)))) :=
  evFn_pure hm soZ_d (fn := Tryz.f6) rfl rfl (ti := false) (hs := [CHint.ops 2 [(1, Hint.b true)]]) (c := _) (by kernel_rfl) h
theorem sz2 (d : Nat) (k p : Int) (o s : ByteArray) (x : Nat) (f : Bool) (m : Nat) (g : Nat → AV) (soZ_d : SigsOK Tryz.prog (SZ d)) (h : AllP [IsTree d (AV.agg [AV.v (.int .i64 k), AV.v (.string o), AV.v (.string s), AV.v (.float FloatKind.f64 x), AV.v (.bool f), AV.sl 7 (Seq.fn m g) false, AV.v (.int .i64 p)]), (0 : Int) ≤ (0 : Int), (0 : Int) ≤ (1048576 : Int), decide (cnt d (AV.agg [AV.v (.int .i64 k), AV.v (.string o), AV.v (.string s), AV.v (.float FloatKind.f64 x), AV.v (.bool f), AV.sl 7 (Seq.fn m g) false, AV.v (.int .i64 p)]) (0 : Int) ≤ (1048576 : Int)) = false]) : PureTo Tryz.prog 6 [avN k o s x f m g p] (AV.v (.int .i64 (0 : Int))) :=
  evFn_pure hm soZ_d (fn := Tryz.f6) rfl rfl (ti := false) (hs := [CHint.ops 2 [(1, Hint.b false)]]) (c := _) (by kernel_rfl) h
-- 2 paths
theorem rsz1 (d : Nat) (k p : Int) (o s : ByteArray) (x : Nat) (f : Bool) (m : Nat) (g : Nat → AV) (soZ_d : SigsOK Tryz.prog (SZ d)) (h : AllP [IsTree d (AV.agg [AV.v (.int .i64 k), AV.v (.string o), AV.v (.string s), AV.v (.float FloatKind.f64 x), AV.v (.bool f), AV.sl 7 (Seq.fn m g) false, AV.v (.int .i64 p)]), (0 : Int) ≤ (0 : Int), (0 : Int) ≤ (1048576 : Int), decide (cnt d (AV.agg [AV.v (.int .i64 k), AV.v (.string o), AV.v (.string s), AV.v (.float FloatKind.f64 x), AV.v (.bool f), AV.sl 7 (Seq.fn m g) false, AV.v (.int .i64 p)]) (0 : Int) > (1048576 : Int)) = true]) : PureTo Tryz.prog 7 [avN k o s x f m g p] (AV.v (.int .i64 (0 : Int))) :=
  evFn_pure hm soZ_d (fn := Tryz.f7) rfl rfl (ti := false) (hs := [CHint.ops 2 [(1, Hint.b true)]]) (c := _) (by kernel_rfl) h
theorem rsz2 (d : Nat) (k p : Int) (o s : ByteArray) (x : Nat) (f : Bool) (m : Nat) (g : Nat → AV) (soZ_d : SigsOK Tryz.prog (SZ d)) (h : AllP [IsTree d (AV.agg [AV.v (.int .i64 k), AV.v (.string o), AV.v (.string s), AV.v (.float FloatKind.f64 x), AV.v (.bool f), AV.sl 7 (Seq.fn m g) false, AV.v (.int .i64 p)]), (0 : Int) ≤ (0 : Int), (0 : Int) ≤ (1048576 : Int), decide (cnt d (AV.agg [AV.v (.int .i64 k), AV.v (.string o), AV.v (.string s), AV.v (.float FloatKind.f64 x), AV.v (.bool f), AV.sl 7 (Seq.fn m g) false, AV.v (.int .i64 p)]) (0 : Int) > (1048576 : Int)) = false]) : PureTo Tryz.prog 7 [avN k o s x f m g p] (AV.v (.int .i64 (cnt d (AV.agg [AV.v (.int .i64 k), AV.v (.string o), AV.v (.string s), AV.v (.float FloatKind.f64 x), AV.v (.bool f), AV.sl 7 (Seq.fn m g) false, AV.v (.int .i64 p)]) (0 : Int)))) :=
  evFn_pure hm soZ_d (fn := Tryz.f7) rfl rfl (ti := false) (hs := [CHint.ops 2 [(1, Hint.b false)]]) (c := _) (by kernel_rfl) h
end Go.Proofs.As
