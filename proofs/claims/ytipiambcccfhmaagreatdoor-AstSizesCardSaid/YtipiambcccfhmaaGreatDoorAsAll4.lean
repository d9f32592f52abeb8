/- Contracts of the program's functions, and the plain law behind them. No condition beyond those in each statement. -/
import Derived.Test.YtipiambcccfhmaaGreatDoorAsAll1
import Derived.Test.YtipiambcccfhmaaGreatDoorEvAll7
set_option linter.unusedSimpArgs false
set_option linter.unusedVariables false
set_option linter.unusedSectionVars false
/- Ast: trees among the arguments. -/
set_option maxRecDepth 100000
namespace Go.Ev
section
variable [Globs] {w : World}
/-- a slice's elements, each told otherwise -/
theorem sl_map {U : Nat → Prop} {v : Value} {sz : Nat} {l : List AV} {t : Bool} {g : Nat → AV} (h : RepI w U v (.sl sz (.avs l) t))
    (hg : ∀ i (hi : i < l.length), (g i).cells.length = l[i].cells.length ∧ ∀ j (h1 : j < (g i).cells.length) (h2 : j < l[i].cells.length), ∀ x, RepI w U x (l[i].cells[j]) → RepI w U x ((g i).cells[j])) : RepI w U v (.sl sz (.fn l.length g) t) := by
  cases h with
  | slNil _ _ _ hq => exact .slNil _ _ _ hq
  | sl ad n c _ _ _ u hn hcap ht hsz hU hcl hcell hrep =>
    have get : ∀ i (hi : i < l.length), (Seq.avs l).get i = l[i] := fun i hi => by simp [Seq.get, hi]
    refine .sl ad n c sz _ t u hn hcap ht hsz hU (fun i hi => ?_) hcell (fun i j hi hj => ?_)
    · have hi' : i < l.length := hi
      have := hcl i hi
      rw [get i hi'] at this
      exact (hg i hi').1.trans this
    · have hi' : i < l.length := hi
      have hj' : j < l[i].cells.length := by rw [← (hg i hi').1]; exact hj
      have h1 := hrep i j hi (by rw [get i hi']; exact hj')
      simp only [get i hi'] at h1
      exact (hg i hi').2 j hj hj' _ h1
end
end Go.Ev
namespace Go.Proofs.As
open Go Go.Ev
variable [MX]

def tsN : List TypeId := [25, 3, 9, 22, 4, 23]
theorem foN : fo Tryz.prog tsN = true := by kernel_rfl
noncomputable def fieldsN (t : TypeId) : List (Nat × TypeId) := match Tryz.prog.underlying t with
  | some (.struct fs) => fs.toList.map fun f => (f.offset, f.type)
  | _ => []
theorem shape_struct {t : TypeId} {n : Nat} {xs : List AV} {fs : Array Field} (hs : Tryz.prog.underlying t = some (.struct fs)) (h : Shape Tryz.prog n t xs) :
    ∃ d, n = d + 1 ∧ xs.length = Tryz.prog.cellsOf t ∧ ∀ o ty, (o, ty) ∈ fieldsN t → Shape Tryz.prog d ty ((xs.drop o).take (Tryz.prog.cellsOf ty)) := by
  cases n with
  | zero => exact h.elim
  | succ d =>
    unfold Shape at h
    rw [hs] at h
    refine ⟨d, rfl, h.1, fun o ty hm => ?_⟩
    unfold fieldsN at hm
    rw [hs] at hm
    obtain ⟨f, hf, e⟩ := List.mem_map.1 hm
    cases e
    exact h.2 f hf
theorem shape_int {n : Nat} {xs : List AV} (h : Shape Tryz.prog n 3 xs) : ∃ k, xs = [.v (.int .i64 k)] := by
  cases n with
  | zero => exact h.elim
  | succ d =>
    unfold Shape at h
    rw [(by kernel_rfl : Tryz.prog.underlying 3 = some (.int .i64))] at h
    obtain ⟨k, rfl, _⟩ := h
    exact ⟨k, rfl⟩
theorem shape_bool {n : Nat} {xs : List AV} (h : Shape Tryz.prog n 4 xs) : ∃ b, xs = [.v (.bool b)] := by
  cases n with
  | zero => exact h.elim
  | succ d =>
    unfold Shape at h
    rw [(by kernel_rfl : Tryz.prog.underlying 4 = some .bool)] at h
    exact h
theorem shape_float {n : Nat} {xs : List AV} (h : Shape Tryz.prog n 22 xs) : ∃ b, xs = [.v (.float .f64 b)] := by
  cases n with
  | zero => exact h.elim
  | succ d =>
    unfold Shape at h
    rw [(by kernel_rfl : Tryz.prog.underlying 22 = some (.float .f64))] at h
    obtain ⟨k, rfl, _⟩ := h
    exact ⟨k, rfl⟩
theorem shape_text {n : Nat} {xs : List AV} (h : Shape Tryz.prog n 9 xs) : ∃ s, xs = [.v (.string s)] := by
  cases n with
  | zero => exact h.elim
  | succ d =>
    unfold Shape at h
    rw [(by kernel_rfl : Tryz.prog.underlying 9 = some .string)] at h
    obtain ⟨s, rfl, hs⟩ := h
    exact ⟨s, rfl⟩
theorem shape_kids {n : Nat} {xs : List AV} (h : Shape Tryz.prog n 23 xs) : ∃ (d : Nat) (l : List (List AV)), n = d + 1 ∧ xs = [.sl 7 (.avs (l.map .agg)) false] ∧ l.length ≤ 9223372036854775807 ∧ ∀ y ∈ l, y.length = 7 ∧ Shape Tryz.prog d 25 y := by
  cases n with
  | zero => exact h.elim
  | succ d =>
    unfold Shape at h
    rw [(by kernel_rfl : Tryz.prog.underlying 23 = some (.slice 25))] at h
    obtain ⟨l, h1, h2, h3⟩ := h
    rw [(by kernel_rfl : Tryz.prog.cellsOf 25 = 7)] at h1 h3
    obtain ⟨fs, hs⟩ : ∃ fs, Tryz.prog.underlying 25 = some (.struct fs) := ⟨_, rfl⟩
    have hw : wrapA Tryz.prog 25 = .agg := by
      funext y
      unfold wrapA
      rw [hs]
    rw [hw] at h1
    exact ⟨d, l, rfl, h1, h2, h3⟩

/-- the parts of a node -/
structure NR where
  k : Int
  o : ByteArray
  s : ByteArray
  x : Nat
  f : Bool
  m : Nat
  g : Nat → AV
  p : Int
abbrev nR (n : NR) : AV := avN n.k n.o n.s n.x n.f n.m n.g n.p
theorem isTree_nr {d : Nat} {y : AV} (h : IsTree d y) : ∃ n : NR, y = nR n := by
  cases d with
  | zero => exact h.elim
  | succ d =>
    obtain ⟨k, o, s, x, f, m, p, K, O, S, X, F, M, G, Pp, rfl, _⟩ := h
    exact ⟨⟨k, o, s, x, f, m, _, p⟩, rfl⟩
/-- a tree out of trees -/
theorem isTree_of {d : Nat} {k p : Int} {o s : ByteArray} {x : Nat} {f : Bool} {m : Nat} {g : Nat → NR} (hm : m ≤ 9223372036854775807) (h : ∀ i, i < m → IsTree d (nR (g i))) : IsTree (d + 1) (avN k o s x f m (fun i => nR (g i)) p) :=
  ⟨k, o, s, x, f, m, p, fun i => (g i).k, fun i => (g i).o, fun i => (g i).s, fun i => (g i).x, fun i => (g i).f, fun i => (g i).m, fun i => (g i).g, fun i => (g i).p, rfl, hm, h⟩
theorem isTree_succ : ∀ {d : Nat} {y : AV}, IsTree d y → IsTree (d + 1) y
  | 0, _, h => h.elim
  | d + 1, y, h => by
    obtain ⟨k, o, s, x, f, m, p, K, O, S, X, F, M, G, Pp, rfl, hm, ht⟩ := h
    exact ⟨k, o, s, x, f, m, p, K, O, S, X, F, M, G, Pp, rfl, hm, fun i hi => isTree_succ (ht i hi)⟩

theorem tree_of : ∀ (n : Nat) (xs : List AV), Shape Tryz.prog n 25 xs → ∃ r : NR, IsTree n (nR r) ∧ xs.length = 7 ∧ ∀ (w : World) (U : Nat → Prop) (j : Nat) (h1 : j < xs.length) (h2 : j < (nR r).cells.length) (v : Value), RepI w U v xs[j] → RepI w U v ((nR r).cells[j]) := by
  intro n
  induction n using Nat.strongRecOn with
  | _ n ih =>
  intro xs h
  obtain ⟨fs, hs⟩ : ∃ fs, Tryz.prog.underlying 25 = some (.struct fs) := ⟨_, rfl⟩
  obtain ⟨d, rfl, hl, hp⟩ := shape_struct hs h
  rw [(by kernel_rfl : Tryz.prog.cellsOf 25 = 7)] at hl
  match xs, hl with
  | [a0, a1, a2, a3, a4, a5, a6], _ =>
    have e : fieldsN 25 = [(0, 3), (1, 9), (2, 9), (3, 22), (4, 4), (5, 23), (6, 3)] := by kernel_rfl
    have c3 : Tryz.prog.cellsOf 3 = 1 := by kernel_rfl
    have c4 : Tryz.prog.cellsOf 4 = 1 := by kernel_rfl
    have c22 : Tryz.prog.cellsOf 22 = 1 := by kernel_rfl
    have c9 : Tryz.prog.cellsOf 9 = 1 := by kernel_rfl
    have c23 : Tryz.prog.cellsOf 23 = 1 := by kernel_rfl
    obtain ⟨k, h0⟩ := shape_int (hp 0 3 (by rw [e]; simp))
    obtain ⟨o, h1⟩ := shape_text (hp 1 9 (by rw [e]; simp))
    obtain ⟨s, h2⟩ := shape_text (hp 2 9 (by rw [e]; simp))
    obtain ⟨x, h3⟩ := shape_float (hp 3 22 (by rw [e]; simp))
    obtain ⟨f, h4⟩ := shape_bool (hp 4 4 (by rw [e]; simp))
    obtain ⟨d', l, hd, h5, hlen, hk⟩ := shape_kids (hp 5 23 (by rw [e]; simp))
    obtain ⟨p, h6⟩ := shape_int (hp 6 3 (by rw [e]; simp))
    rw [c3] at h0 h6
    rw [c4] at h4
    rw [c22] at h3
    rw [c9] at h1 h2
    rw [c23] at h5
    simp only [List.drop_succ_cons, List.drop_zero, List.take_succ_cons, List.take_zero, List.cons.injEq, and_true] at h0 h1 h2 h3 h4 h5 h6
    subst h0 h1 h2 h3 h4 h5 h6
    have hkid : ∀ i (hi : i < l.length), ∃ r : NR, IsTree d (nR r) ∧ l[i].length = 7 ∧ ∀ (w : World) (U : Nat → Prop) (j : Nat) (h1 : j < l[i].length) (h2 : j < (nR r).cells.length) (v : Value), RepI w U v (l[i])[j] → RepI w U v ((nR r).cells[j]) := fun i hi => by
      obtain ⟨r, k1, k2, k3⟩ := ih d' (by omega) l[i] (hk _ (List.getElem_mem hi)).2
      exact ⟨r, by rw [hd]; exact isTree_succ k1, k2, k3⟩
    let g : Nat → NR := fun i => if hi : i < l.length then (hkid i hi).choose else ⟨0, ByteArray.empty, ByteArray.empty, 0, false, 0, fun _ => .junk, 0⟩
    have hg : ∀ i (hi : i < l.length), g i = (hkid i hi).choose := fun i hi => dif_pos hi
    refine ⟨⟨k, o, s, x, f, l.length, fun i => nR (g i), p⟩, isTree_of hlen fun i hi => by rw [hg i hi]; exact (hkid i hi).choose_spec.1, rfl, fun w U j h1 h2 v hv => ?_⟩
    match j, h1 with
    | 0, _ => exact hv
    | 1, _ => exact hv
    | 2, _ => exact hv
    | 3, _ => exact hv
    | 4, _ => exact hv
    | 6, _ => exact hv
    | 5, _ =>
      have hm : l.length = (l.map AV.agg).length := by simp
      show RepI w U v (.sl 7 (.fn l.length fun i => nR (g i)) false)
      rw [hm]
      refine sl_map hv fun i hi => ?_
      have hi' : i < l.length := by simpa using hi
      have hgi := hg i hi'
      obtain ⟨k1, k2, k3⟩ := (hkid i hi').choose_spec
      rw [← hgi] at k1 k3
      simp only [List.getElem_map]
      refine ⟨?_, fun j j1 j2 x hx => k3 w U j j2 j1 x hx⟩
      show 7 = l[i].length
      exact k2.symm

/-- an argument that is a tree -/
theorem read_tree {H : Type} {enc : TypeId × Value → H} {v : Value} {d : DataW H} {ps : List MemPlace} {W : World} {base b0 : Nat} {r : Reach} {sp : Nat → Bool} {hd : Bool}
    (hval : Value.okWide Tryz.prog W r b0 25 v) (h : DataW.Trod enc Tryz.prog W base sp hd 25 v d ps) : ∃ (n : Nat) (r : NR), IsTree n (nR r) ∧ RepI W (fun _ => True) v (nR r) := by
  obtain ⟨fs, hs⟩ : ∃ fs, Tryz.prog.underlying 25 = some (.struct fs) := ⟨_, rfl⟩
  obtain ⟨n, xs, h1, h2⟩ := read_structs foN (by simp [tsN]) hs hval h
  obtain ⟨r, g1, g2, g3⟩ := tree_of n xs h2
  refine ⟨n, r, g1, ?_⟩
  cases h1 with
  | agg arr _ hsz hrep =>
    refine .agg arr _ (by rw [hsz, g2]; rfl) fun i hi => ?_
    have hi' : i < xs.length := by rw [g2]; exact hi
    exact g3 W _ i hi' hi _ (hrep i hi')
end Go.Proofs.As
