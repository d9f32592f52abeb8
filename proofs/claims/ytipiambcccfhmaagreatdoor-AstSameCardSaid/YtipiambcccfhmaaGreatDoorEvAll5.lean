/- An evaluator of the model's code, proved right. No condition. -/
import Derived.Test.YtipiambcccfhmaaGreatDoorEvAll4
set_option linter.unusedSimpArgs false
set_option linter.unusedVariables false
set_option linter.unusedSectionVars false
/- Arguments that are structs of plain parts: what their cells are. -/
namespace Go.Ev
variable [Globs]
open Go.ChangeShapes Go.WideShapes Go.ChangeAt Go.RowKit

section
variable {P : Program}

theorem read_struct {t : TypeId} {fs : Array Field} {ts : List TypeId} {W : World} {r : Reach} {b0 : Nat} {v : Value} (hs : P.underlying t = some (.struct fs)) (ht : P.cellTypes P.depth t = some ts) (hn : P.cellsOf t = ts.length)
    (hval : Value.okWide P W r b0 t v) : ∃ arr : Array Value, v = .agg arr ∧ arr.size = ts.length ∧ ∀ i (h : i < ts.length), Cell.okWide P W r b0 ts[i] (arr.getD i undef) := by
  unfold Value.okWide at hval
  rw [hs] at hval
  obtain ⟨arr, rfl, hsz, ts', h1, _, h3⟩ := hval
  rw [ht] at h1
  cases h1
  refine ⟨arr, rfl, by rw [hsz, hn], fun i hi => ?_⟩
  have hi' : i < arr.size := by rw [hsz, hn]; exact hi
  obtain ⟨u, hu, hc⟩ := h3 i arr[i] (by simp [hi'])
  rw [Nat.mod_eq_of_lt hi, List.getElem?_eq_getElem hi] at hu
  cases hu
  simpa [hi'] using hc

theorem cell_int {u : TypeId} {k : IntKind} {W : World} {r : Reach} {b0 : Nat} {v : Value} (hu : P.underlying u = some (.int k)) (h : Cell.okWide P W r b0 u v) : ∃ n, v = .int k n ∧ inR k n := by
  unfold Cell.okWide at h
  rw [hu] at h
  unfold Cell.ok at h
  rw [hu] at h
  cases v <;> simp at h
  obtain ⟨rfl, hn⟩ := h
  refine ⟨_, rfl, ?_⟩
  rename_i k n
  cases k <;> simp [IntKind.has, IntKind.min, IntKind.max, IntKind.signed, IntKind.bits] at hn <;> simp only [inR] <;> omega

theorem cell_bool {u : TypeId} {W : World} {r : Reach} {b0 : Nat} {v : Value} (hu : P.underlying u = some .bool) (h : Cell.okWide P W r b0 u v) : ∃ b, v = .bool b := by
  unfold Cell.okWide at h
  rw [hu] at h
  unfold Cell.ok at h
  rw [hu] at h
  cases v <;> simp at h
  exact ⟨_, rfl⟩

theorem cell_float {u : TypeId} {W : World} {r : Reach} {b0 : Nat} {v : Value} (hu : P.underlying u = some (.float .f64)) (h : Cell.okWide P W r b0 u v) : ∃ b, v = .float .f64 b ∧ b < 18446744073709551616 := by
  unfold Cell.okWide at h
  rw [hu] at h
  unfold Cell.ok at h
  rw [hu] at h
  cases v <;> simp at h
  obtain ⟨rfl, hn⟩ := h
  exact ⟨_, rfl, by simpa [FloatKind.has] using hn⟩

theorem cell_string {u : TypeId} {W : World} {r : Reach} {b0 : Nat} {v : Value} (hu : P.underlying u = some .string) (h : Cell.okWide P W r b0 u v) : ∃ s, v = .string s ∧ (s.size : Int) ≤ 9223372036854775807 := by
  unfold Cell.okWide at h
  rw [hu] at h
  unfold Cell.ok at h
  rw [hu] at h
  cases v <;> simp at h
  exact ⟨_, rfl, by simpa using h⟩

theorem read_float {t : TypeId} {W : World} {r : Reach} {b0 : Nat} {v : Value} (ht : P.underlying t = some (.float .f64)) (hval : Value.okWide P W r b0 t v) : ∃ b, v = .float .f64 b ∧ b < 18446744073709551616 := by
  unfold Value.okWide at hval
  rw [ht] at hval
  exact cell_float ht hval
end
end Go.Ev

/- Arguments of any first-order type, read: cell by cell, with their shape (fuel: how deep). -/
namespace Go.Ev
variable [Globs]
open Go.ChangeShapes Go.WideShapes Go.ChangeAt Go.RowKit

section
variable {H : Type} {enc : TypeId × Value → H} {P : Program} {w : World} {base : Nat} {spare : Nat → Bool} {held : Bool}

/-- fields one behind the other, from 'off' to n -/
def contig (P : Program) : Nat → List Field → Nat → Bool
  | off, [], n => Nat.beq off n
  | off, f :: r, n => Nat.beq f.offset off && contig P (off + P.cellsOf f.type) r n

def foT (P : Program) (ts : List TypeId) (t : TypeId) : Bool :=
  match P.underlying t with
  | some (.int _) | some (.float .f64) | some .bool | some .string => Nat.beq (P.cellsOf t) 1
  | some (.slice e) => Nat.beq (P.cellsOf t) 1 && (ts.any (Nat.beq e) && (Nat.blt 0 (P.cellsOf e) && (match P.underlying e with | some (.int _) | some .string => false | _ => true)))
  | some (.struct fs) => contig P 0 fs.toList (P.cellsOf t) && fs.toList.all fun f => ts.any (Nat.beq f.type)
  | _ => false
/-- types of ints, floats, bools, texts, slices and structs, closed under their parts -/
def fo (P : Program) (ts : List TypeId) : Bool := ts.all (foT P ts)

/-- the cells of an element as a value -/
def wrapA (P : Program) (e : TypeId) (xs : List AV) : AV :=
  match P.underlying e with
  | some (.struct _) => .agg xs
  | _ => xs.headD .junk

def Shape (P : Program) : Nat → TypeId → List AV → Prop
  | 0, _, _ => False
  | d + 1, t, xs => match P.underlying t with
    | some (.int k) => ∃ n, xs = [.v (.int k n)] ∧ (Lit.int k n).wf = true
    | some (.float k) => ∃ b, xs = [.v (.float k b)] ∧ (Lit.float k b).wf = true
    | some .bool => ∃ b, xs = [.v (.bool b)]
    | some .string => ∃ s, xs = [.v (.string s)] ∧ s.size ≤ maxLen
    | some (.slice e) => ∃ l : List (List AV), xs = [.sl (P.cellsOf e) (.avs (l.map (wrapA P e))) false] ∧ l.length ≤ maxLen ∧ ∀ y ∈ l, y.length = P.cellsOf e ∧ Shape P d e y
    | some (.struct fs) => xs.length = P.cellsOf t ∧ ∀ f ∈ fs.toList, Shape P d f.type ((xs.drop f.offset).take (P.cellsOf f.type))
    | _ => False

def RepC (w : World) (cs : List Value) (xs : List AV) : Prop := cs.length = xs.length ∧ ∀ i (h1 : i < cs.length) (h2 : i < xs.length), RepI w (fun _ => True) cs[i] xs[i] ∧ okV cs[i]

theorem repC_one {v : Value} {x : AV} (h : RepI w (fun _ => True) v x) (ho : okV v) : RepC w [v] [x] := ⟨rfl, fun i h1 _ => by
  have : i = 0 := by simpa using h1
  subst this
  exact ⟨h, ho⟩⟩

theorem cells?_spec {a : Addr} {n : Nat} {cs : List Value} (h : w.cells? base a n = some cs) : cs.length = n ∧ ∀ j (hj : j < cs.length), w.cell? (a.add j) = some cs[j] := by
  unfold World.cells? at h
  split at h
  · have main : ∀ (l : List Nat) (cs : List Value), (l.mapM fun i => w.cell? (a.add i)) = some cs → cs.length = l.length ∧ ∀ j (hj : j < cs.length) (hl : j < l.length), w.cell? (a.add l[j]) = some cs[j] := by
      intro l
      induction l with
      | nil => intro cs h; simp at h; subst h; exact ⟨rfl, fun j hj => absurd hj (by simp)⟩
      | cons x l ih =>
        intro cs h
        simp only [List.mapM_cons, Option.bind_eq_bind, Option.bind_eq_some_iff, Option.pure_def, Option.some.injEq] at h
        obtain ⟨v, hv, vs, hvs, rfl⟩ := h
        obtain ⟨h1, h2⟩ := ih vs hvs
        refine ⟨by simp [h1], fun j hj hl => ?_⟩
        cases j with
        | zero => simpa using hv
        | succ j => simpa using h2 j (by simpa using hj) (by simpa using hl)
    obtain ⟨h1, h2⟩ := main _ _ h
    refine ⟨by simpa using h1, fun j hj => ?_⟩
    have := h2 j hj (by rw [← h1]; exact hj)
    simpa using this
  · cases h

theorem add_add' (a : Addr) (m j : Nat) : (a.add m).add j = a.add (m + j) := by
  unfold Addr.add
  by_cases hm : m = 0 <;> by_cases hj : j = 0 <;> simp [hm, hj, Nat.add_assoc]

theorem mem_any {ts : List TypeId} {e : TypeId} (h : (ts.any (Nat.beq e)) = true) : e ∈ ts := by
  obtain ⟨x, hx, hb⟩ := List.any_eq_true.1 h
  have := Nat.eq_of_beq_eq_true hb
  subst this
  exact hx

theorem wrapA_cells {e : TypeId} {xs : List AV} (hl : xs.length = P.cellsOf e) (h1 : (∀ fs, P.underlying e ≠ some (.struct fs)) → P.cellsOf e = 1) (hp : ∀ x ∈ xs, ∀ cs, x ≠ .agg cs) : (wrapA P e xs).cells = xs := by
  unfold wrapA
  split
  · rfl
  · next hne =>
    have := h1 hne
    match xs, hl.trans this with
    | [x], _ =>
      show x.cells = [x]
      have := hp x (by simp)
      cases x <;> first | rfl | (exact absurd rfl (this _))

theorem RepC.append {cs ds : List Value} {xs ys : List AV} (h : RepC w cs xs) (g : RepC w ds ys) : RepC w (cs ++ ds) (xs ++ ys) := by
  refine ⟨by simp [h.1, g.1], fun i h1 h2 => ?_⟩
  by_cases hi : i < cs.length
  · have hi' : i < xs.length := by rw [← h.1]; exact hi
    rw [List.getElem_append_left hi, List.getElem_append_left hi']
    exact h.2 i hi hi'
  · have hi' : ¬ i < xs.length := by rw [← h.1]; exact hi
    rw [List.getElem_append_right (by omega), List.getElem_append_right (by omega)]
    have e : i - xs.length = i - cs.length := by rw [h.1]
    simp only [e]
    exact g.2 (i - cs.length) (by simp at h1; omega) (by simp at h2; rw [← h.1] at h2; omega)

/-- the fields' cells, laid one behind the other -/
theorem fields_shape {d n : Nat} {cs : List Value} : ∀ (r : List Field) (off : Nat), contig P off r n = true → cs.length = n →
    (∀ f ∈ r, ∃ xs, RepC w ((cs.drop f.offset).take (P.cellsOf f.type)) xs ∧ Shape P d f.type xs ∧ ((cs.drop f.offset).take (P.cellsOf f.type)).length = P.cellsOf f.type ∧ ∀ y ∈ xs, ∀ c, y ≠ .agg c) →
    ∃ ys, RepC w (cs.drop off) ys ∧ (∀ f ∈ r, off ≤ f.offset ∧ Shape P d f.type ((ys.drop (f.offset - off)).take (P.cellsOf f.type))) ∧ ∀ y ∈ ys, ∀ c, y ≠ .agg c
  | [], off, h, hl, _ => by
    have := Nat.eq_of_beq_eq_true h
    subst this
    refine ⟨[], ⟨by simp [hl], fun i h1 h2 => absurd h2 (by simp)⟩, fun f hf => (by cases hf), fun y hy => (by cases hy)⟩
  | f :: r, off, h, hl, hf => by
    simp only [contig, Bool.and_eq_true] at h
    have ho := Nat.eq_of_beq_eq_true h.1
    obtain ⟨xs, h1, h2, h3, h4⟩ := hf f (by simp)
    obtain ⟨ys, g1, g2, g3⟩ := fields_shape r (off + P.cellsOf f.type) h.2 hl fun f' hf' => hf f' (by simp [hf'])
    rw [ho] at h1 h3
    have hxl : xs.length = P.cellsOf f.type := by rw [← h1.1]; exact h3
    refine ⟨xs ++ ys, ?_, fun f' hf' => ?_, fun y hy => ?_⟩
    · have e : cs.drop off = (cs.drop off).take (P.cellsOf f.type) ++ cs.drop (off + P.cellsOf f.type) := by
        rw [← List.drop_drop, List.take_append_drop]
      rw [e]
      exact h1.append g1
    · rcases List.mem_cons.1 hf' with rfl | hf'
      · rw [ho, Nat.sub_self]
        refine ⟨Nat.le_refl _, ?_⟩
        have e : ((xs ++ ys).drop 0).take (P.cellsOf f'.type) = xs := by
          rw [List.drop_zero, ← hxl, List.take_left]
        rw [e]
        exact h2
      · obtain ⟨k1, k2⟩ := g2 f' hf'
        refine ⟨by omega, ?_⟩
        have e : (xs ++ ys).drop (f'.offset - off) = ys.drop (f'.offset - (off + P.cellsOf f.type)) := by
          rw [List.drop_append, List.drop_of_length_le (by omega), List.nil_append]
          congr 1
          omega
        rw [e]
        exact k2
    · rcases List.mem_append.1 hy with h | h
      · exact h4 y h
      · exact g3 y h

/-- **WHAT IS READ AT A FIRST-ORDER TYPE HAS ITS SHAPE.** -/
theorem read_any {ts : List TypeId} (hfo : fo P ts = true) : ∀ (fuel : Nat) (t : TypeId) (cs : List Value) (x : DataW H × List MemPlace), t ∈ ts → DataW.trod enc P w base spare held fuel t cs = some x →
    ∃ xs, RepC w cs xs ∧ Shape P fuel t xs ∧ cs.length = P.cellsOf t ∧ ∀ y ∈ xs, ∀ c, y ≠ .agg c := by
  intro fuel
  induction fuel with
  | zero => intro t cs x _ h; simp [DataW.trod] at h
  | succ n ih =>
    intro t cs x ht h
    have hft := List.all_eq_true.1 hfo t ht
    unfold foT at hft
    split at hft
    · next k hu =>
      have h1 := Nat.eq_of_beq_eq_true hft
      obtain ⟨m, rfl, rfl, hw⟩ := DataW.trod_int hu h
      exact ⟨[.v (.int k m)], repC_one (.v _ trivial) trivial, by unfold Shape; rw [hu]; exact ⟨m, rfl, hw⟩, by simp [h1], fun y hy c => by simp at hy; subst hy; exact fun e => by cases e⟩
    · next hu =>
      have h1 := Nat.eq_of_beq_eq_true hft
      have : ∃ b, cs = [.float .f64 b] ∧ (Lit.float .f64 b).wf = true := by
        unfold DataW.trod at h
        rw [hu] at h
        split at h <;> simp_all
      obtain ⟨b, rfl, hw⟩ := this
      exact ⟨[.v (.float .f64 b)], repC_one (.v _ trivial) trivial, by unfold Shape; rw [hu]; exact ⟨b, rfl, hw⟩, by simp [h1], fun y hy c => by simp at hy; subst hy; exact fun e => by cases e⟩
    · next hu =>
      have h1 := Nat.eq_of_beq_eq_true hft
      have : ∃ b, cs = [.bool b] := by
        unfold DataW.trod at h
        rw [hu] at h
        split at h <;> simp_all
      obtain ⟨b, rfl⟩ := this
      exact ⟨[.v (.bool b)], repC_one (.v _ trivial) trivial, by unfold Shape; rw [hu]; exact ⟨b, rfl⟩, by simp [h1], fun y hy c => by simp at hy; subst hy; exact fun e => by cases e⟩
    · next hu =>
      have h1 := Nat.eq_of_beq_eq_true hft
      obtain ⟨s, rfl, rfl, hw⟩ := DataW.trod_string hu h
      exact ⟨[.v (.string s)], repC_one (.v _ trivial) trivial, by unfold Shape; rw [hu]; exact ⟨s, rfl, hw⟩, by simp [h1], fun y hy c => by simp at hy; subst hy; exact fun e => by cases e⟩
    · next e hu =>
      simp only [Bool.and_eq_true] at hft
      obtain ⟨hf1, hf2, hf3, hf4⟩ := hft
      have h1 := Nat.eq_of_beq_eq_true hf1
      have he := mem_any hf2
      simp only [Nat.blt_eq] at hf3
      rcases DataW.trod_slice hu h with ⟨rfl, rfl⟩ | ⟨a, len, cap, elems, rest, m, hm0, rfl, rfl, hb, hl, hm, hlen, hel, _, _⟩
      · refine ⟨[.sl (P.cellsOf e) (.avs (([] : List (List AV)).map (wrapA P e))) false], repC_one (.slNil _ _ _ rfl) trivial, ?_, by simp [h1], fun y hy c => by simp at hy; subst hy; exact fun e => by cases e⟩
        unfold Shape
        rw [hu]
        exact ⟨[], rfl, Nat.zero_le _, fun y hy => by cases hy⟩
      · cases hm0
        have each : ∀ i, i < len → ∃ ci xi, w.cells? base (a.add (i * P.cellsOf e)) (P.cellsOf e) = some ci ∧ RepC w ci xi ∧ Shape P n e xi ∧ ci.length = P.cellsOf e ∧ ∀ y ∈ xi, ∀ c, y ≠ .agg c := by
          intro i hi
          have h2 := hel i hi
          rw [List.getElem?_eq_getElem (by omega), Option.bind_eq_some_iff] at h2
          obtain ⟨ci, hci, h3⟩ := h2
          obtain ⟨xi, k1, k2, k3, k4⟩ := ih e ci _ he h3
          exact ⟨ci, xi, hci, k1, k2, k3, k4⟩
        have ch : ∃ (C : Nat → List Value) (X : Nat → List AV), ∀ i, i < len → w.cells? base (a.add (i * P.cellsOf e)) (P.cellsOf e) = some (C i) ∧ RepC w (C i) (X i) ∧ Shape P n e (X i) ∧ (C i).length = P.cellsOf e ∧ ∀ y ∈ X i, ∀ c, y ≠ .agg c := by
          refine ⟨fun i => if hi : i < len then (each i hi).choose else [], fun i => if hi : i < len then (each i hi).choose_spec.choose else [], fun i hi => ?_⟩
          simp only [dif_pos hi]
          exact (each i hi).choose_spec.choose_spec
        obtain ⟨C, X, hCX⟩ := ch
        have hXl : ∀ i, i < len → (X i).length = P.cellsOf e := fun i hi => by
          obtain ⟨_, k2, _, k4, _⟩ := hCX i hi
          rw [← k2.1]; exact k4
        have hwc : ∀ i, i < len → (wrapA P e (X i)).cells = X i := fun i hi => by
          obtain ⟨_, _, _, _, k5⟩ := hCX i hi
          refine wrapA_cells (hXl i hi) (fun hne => ?_) k5
          have hfe := List.all_eq_true.1 hfo e he
          unfold foT at hfe
          split at hfe <;> first | exact Nat.eq_of_beq_eq_true hfe | (simp only [Bool.and_eq_true] at hfe; exact Nat.eq_of_beq_eq_true hfe.1) | skip
          · next fs hs => exact absurd hs (hne fs)
          · cases hfe
        let L : List (List AV) := (List.range len).map X
        have hLl : (L.map (wrapA P e)).length = len := by simp [L]
        have hget : ∀ i, i < len → (Seq.avs (L.map (wrapA P e))).get i = wrapA P e (X i) := fun i hi => by
          simp [Seq.get, L, hi]
        have hLen : (Seq.avs (L.map (wrapA P e))).len = len := hLl
        refine ⟨[.sl (P.cellsOf e) (.avs (L.map (wrapA P e))) false], repC_one (.sl a len cap (P.cellsOf e) _ false (fun i j => (C i).getD j undef) hLen.symm (by rw [hLen]; exact hl) (fun h => by cases h) hf3 (fun _ => trivial) (fun i hi => ?_) (fun i j hi hj => ?_) (fun i j hi hj => ?_)) trivial, ?_, by simp [h1], fun y hy c => by simp at hy; subst hy; exact fun e => by cases e⟩
        · rw [hLen] at hi
          rw [hget i hi, hwc i hi]
          exact hXl i hi
        · rw [hLen] at hi
          obtain ⟨k1, k2, _, k4, _⟩ := hCX i hi
          obtain ⟨_, m2⟩ := cells?_spec k1
          have hj' : j < (C i).length := by rw [k4]; exact hj
          have := m2 j hj'
          have e1 : (a.add (i * P.cellsOf e)).add j = a.add (i * P.cellsOf e + j) := by
            exact add_add' _ _ _
          rw [e1] at this
          simp only [List.getD_eq_getElem?_getD, List.getElem?_eq_getElem hj', Option.getD_some]
          exact ⟨this, (k2.2 j hj' (by rw [← k2.1]; exact hj')).2⟩
        · rw [hLen] at hi
          obtain ⟨k1, k2, _, k4, _⟩ := hCX i hi
          have hc := hwc i hi
          have hg := hget i hi
          have hjx : j < (X i).length := by rw [hg, hc] at hj; exact hj
          have hj' : j < (C i).length := by rw [k2.1]; exact hjx
          have := (k2.2 j hj' hjx).1
          have e1 : ((Seq.avs (L.map (wrapA P e))).get i).cells[j] = (X i)[j] := by
            have e2 : ((Seq.avs (L.map (wrapA P e))).get i).cells = X i := by rw [hg, hc]
            simp only [e2]
          rw [e1]
          simp only [List.getD_eq_getElem?_getD, List.getElem?_eq_getElem hj', Option.getD_some]
          exact this
        · unfold Shape
          rw [hu]
          refine ⟨L, rfl, by simp only [L, List.length_map, List.length_range]; omega, fun y hy => ?_⟩
          simp only [L, List.mem_map, List.mem_range] at hy
          obtain ⟨i, hi, rfl⟩ := hy
          exact ⟨hXl i hi, (hCX i hi).2.2.1⟩
    · next fs hu =>
      simp only [Bool.and_eq_true] at hft
      obtain ⟨xs, m, hm0, rfl, hcl, hxl, hfs⟩ := DataW.trod_struct hu h
      cases hm0
      obtain ⟨ys, g1, g2, g3⟩ := fields_shape (w := w) (d := n) (cs := cs) fs.toList 0 hft.1 hcl fun f hf => by
        obtain ⟨i, hi⟩ := List.getElem?_of_mem hf
        have hi' : fs[i]? = some f := by rw [← Array.getElem?_toList]; exact hi
        have hlt : i < fs.size := (Array.getElem?_eq_some_iff.1 hi').1
        have h2 := hfs i f hi'
        rw [List.getElem?_eq_getElem (by omega)] at h2
        obtain ⟨z, k1, k2, k3, k4⟩ := ih f.type _ _ (mem_any (List.all_eq_true.1 hft.2 f hf)) h2
        exact ⟨z, k1, k2, k3, k4⟩
      rw [List.drop_zero] at g1
      refine ⟨ys, g1, ?_, hcl, g3⟩
      unfold Shape
      rw [hu]
      refine ⟨by rw [← g1.1]; exact hcl, fun f hf => ?_⟩
      have := (g2 f hf).2
      rw [Nat.sub_zero] at this
      exact this
    · cases hft
/-- an argument that is a struct -/
theorem read_structs {ts : List TypeId} (hfo : fo P ts = true) {t : TypeId} {fs : Array Field} {W : World} {r : Reach} {b0 : Nat} {v : Value} {d : DataW H} {ps : List MemPlace} (ht : t ∈ ts) (hs : P.underlying t = some (.struct fs))
    (hval : Value.okWide P W r b0 t v) (h : DataW.Trod enc P W base spare held t v d ps) : ∃ n xs, RepI W (fun _ => True) v (.agg xs) ∧ Shape P n t xs := by
  unfold Value.okWide at hval
  rw [hs] at hval
  obtain ⟨arr, rfl, _⟩ := hval
  obtain ⟨n, hn⟩ := h
  obtain ⟨xs, h1, h2, h3, _⟩ := read_any hfo n t _ _ ht hn
  have hc : (Value.agg arr).cells.toList = arr.toList := rfl
  rw [hc] at h1
  refine ⟨n, xs, .agg arr xs (by rw [← h1.1, Array.length_toList]) (fun i hi => ?_), h2⟩
  have hi' : i < arr.toList.length := by rw [h1.1]; exact hi
  have := (h1.2 i hi' hi).1
  have hi2 : i < arr.size := by simpa using hi'
  simpa [Array.getD_eq_getD_getElem?, hi2] using this

/-- an argument that is a slice -/
theorem read_slice {ts : List TypeId} (hfo : fo P ts = true) {t e : TypeId} {W : World} {r : Reach} {b0 : Nat} {v : Value} {d : DataW H} {ps : List MemPlace} (ht : t ∈ ts) (hs : P.underlying t = some (.slice e))
    (hval : Value.okWide P W r b0 t v) (h : DataW.Trod enc P W base spare held t v d ps) : ∃ n x, RepI W (fun _ => True) v x ∧ Shape P n t [x] := by
  obtain ⟨a, len, cap, rfl⟩ := okWide_slice hs hval
  obtain ⟨n, hn⟩ := h
  obtain ⟨xs, h1, h2, h3, _⟩ := read_any hfo n t _ _ ht hn
  have hc : (Value.slice a len cap).cells.toList = [.slice a len cap] := rfl
  rw [hc] at h1
  match xs, h1 with
  | [x], h1 => exact ⟨n, x, (h1.2 0 (by simp) (by simp)).1, h2⟩
  | [], h1 => exact absurd h1.1 (by simp)
  | _ :: _ :: _, h1 => exact absurd h1.1 (by simp)
/-- a slice's elements told by a function -/
theorem sl_seq {U : Nat → Prop} {v : Value} {sz : Nat} {q q' : Seq AV} {t : Bool} (h : RepI w U v (.sl sz q t)) (hl : q'.len = q.len) (hg : ∀ i, i < q.len → q'.get i = q.get i) : RepI w U v (.sl sz q' t) := by
  cases h with
  | slNil _ _ _ hq => exact .slNil _ _ _ (by rw [hl]; exact hq)
  | sl ad n c _ _ _ u hn hcap ht hsz hU hcl hcell hrep =>
    refine .sl ad n c sz q' t u (by rw [hl]; exact hn) (by rw [hl]; exact hcap) (fun h => by rw [hl]; exact ht h) hsz (fun h => hU (by rw [← hl]; exact h)) (fun i hi => ?_) (fun i j hi hj => ?_) (fun i j hi hj => ?_)
    · rw [hl] at hi; rw [hg i hi]; exact hcl i hi
    · rw [hl] at hi; exact hcell i j hi hj
    · rw [hl] at hi
      have e := hg i hi
      have hj' : j < (q.get i).cells.length := by rw [← e]; exact hj
      have := hrep i j hi hj'
      simpa [e] using this
theorem sl_fn {U : Nat → Prop} {v : Value} {sz : Nat} {l : List AV} {t : Bool} {g : Nat → AV} (h : RepI w U v (.sl sz (.avs l) t)) (hg : ∀ i, i < l.length → g i = l.getD i .junk) : RepI w U v (.sl sz (.fn l.length g) t) :=
  sl_seq h rfl fun i hi => hg i hi
end
end Go.Ev
