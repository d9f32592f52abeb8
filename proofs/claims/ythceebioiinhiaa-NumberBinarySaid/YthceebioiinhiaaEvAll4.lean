/- An evaluator of the model's code, proved right. No condition. -/
import Derived.Test.YthceebioiinhiaaEvAll3
import Derived.WideMake
set_option linter.unusedSimpArgs false
set_option linter.unusedVariables false
set_option linter.unusedSectionVars false
/- A function that lays a map of texts out. -/
namespace Go.Ev
variable [Globs]
open Go

section
variable {P : Program}

theorem run_insert_new (w : World) (mty kt et : TypeId) (r clock : Nat) (es : Array MapEntry) (s : ByteArray) (val : Value) (hm : P.underlying mty = some (.map kt et)) (hk : P.underlying kt = some .string) (hb : w.heap[r]? = some (.map es clock))
    (hf : Instr.findNow .string (.string s) es.toList 0 = some none) :
    (Instr.mapUpdate mty (.map (some r)) (.string s) val).run P w = .ok () { w with heap := w.heap.setIfInBounds r (.map (es.push { key := .string s, val := val, born := clock }) (clock + 1)) } := by
  have hc : (Instr.checkKey false 10000 kt (.string s)).run P w = .ok () w := MapKept.run_checkKey (k := .string s) hk (by simp [MapKept.IsKey]) false 9999
  simp [Instr.mapUpdate, run_underlying hm, MapKept.run_getObj_map hb, hc, MapKept.run_findKey hk hf, MapKept.run_setObj_map _ hb, Result.andThen]

/-- a map's entries: texts and values -/
def Ent (es : Array MapEntry) (l : List (ByteArray × Value)) : Prop := es.toList.map (fun e => (e.key, e.val)) = l.map fun p => (Value.string p.1, p.2)

theorem Ent.none {es : Array MapEntry} {l : List (ByteArray × Value)} (h : Ent es l) {s : ByteArray} (hs : ∀ p ∈ l, p.1 ≠ s) : Instr.findNow .string (.string s) es.toList 0 = some none := by
  have hl : es.toList.length = (l.map (·.1)).length := by
    have := congrArg List.length h
    simpa using this
  refine (findNow_at s es.toList (l.map (·.1)) 0 hl fun j hj => ?_).2 fun k hk => ?_
  · have h1 := congrArg (fun x => x[j]?) h
    simp only [List.getElem?_map] at h1
    have hj2 : j < l.length := by rw [hl, List.length_map] at hj; exact hj
    rw [List.getElem?_eq_getElem hj, List.getElem?_eq_getElem hj2] at h1
    simp only [Option.map_some, Option.some.injEq, Prod.mk.injEq] at h1
    rw [List.getD_eq_getElem?_getD, List.getElem?_eq_getElem hj, List.getD_eq_getElem?_getD, List.getElem?_map, List.getElem?_eq_getElem hj2]
    exact h1.1
  · obtain ⟨p, hp, rfl⟩ := List.mem_map.1 hk
    exact hs p hp

theorem Ent.push {es : Array MapEntry} {l : List (ByteArray × Value)} (h : Ent es l) (s : ByteArray) (v : Value) (c : Nat) : Ent (es.push { key := .string s, val := v, born := c }) (l ++ [(s, v)]) := by
  unfold Ent at h ⊢
  simp [h]

structure OnlyBlock (r : Nat) (w w' : World) : Prop where
  size : w'.heap.size = w.heap.size
  os : w'.os = w.os
  tape : w'.tape = w.tape
  output : w'.output = w.output
  block : ∀ b, b ≠ r → w'.heap[b]? = w.heap[b]?

theorem op_value {ops : Array Oper} {Q : Exit → Act → World → Prop} {i : Nat} {rest : List Nat} {a : Act} {w w' : World} {o : Oper} {v : Value} (ho : ops[i]? = some o) (hg : o.guard = none) (hrun : (execOp a.eval o).run P w = .ok (.value v) w')
    (hK : wpOps P ops Q rest (a.put o.dst v) w') : wpOps P ops Q (i :: rest) a w := by
  rw [wpOps_cons]
  unfold wpOp
  rw [ho]
  have hw : Region.wanted o (yielded ops a.tmps) = true := by unfold Region.wanted; rw [hg]
  simp only [hw, if_true]
  left
  unfold Oper.wp
  rw [hrun, Oper.upon_value]
  exact hK
theorem op_skip {ops : Array Oper} {Q : Exit → Act → World → Prop} {i : Nat} {rest : List Nat} {a : Act} {w w' : World} {o : Oper} (ho : ops[i]? = some o) (hg : o.guard = none) (hd : o.dst = none) (hrun : (execOp a.eval o).run P w = .ok .skip w')
    (hK : wpOps P ops Q rest a w') : wpOps P ops Q (i :: rest) a w := by
  rw [wpOps_cons]
  unfold wpOp
  rw [ho]
  have hw : Region.wanted o (yielded ops a.tmps) = true := by unfold Region.wanted; rw [hg]
  simp only [hw, if_true]
  left
  unfold Oper.wp
  rw [hrun, Oper.upon_skip, hd]
  exact hK

theorem op_assign {ops : Array Oper} {Q : Exit → Act → World → Prop} {i : Nat} {rest : List Nat} {a : Act} {w : World} {o : Oper} {x : Operand} {d : Tmp} (ho : ops[i]? = some o) (hg : o.guard = none) (hop : o.op = .assign x) (hd : o.dst = some d)
    (hK : wpOps P ops Q rest (a.put (some d) (a.eval x)) w) : wpOps P ops Q (i :: rest) a w :=
  op_value ho hg (v := a.eval x) (w' := w) (by unfold execOp; rw [hop]; rfl) (by rw [hd]; exact hK)
theorem op_move {ops : Array Oper} {Q : Exit → Act → World → Prop} {i : Nat} {rest : List Nat} {a : Act} {w : World} {o : Oper} {x : Operand} {d : Tmp} (ho : ops[i]? = some o) (hg : o.guard = none) (hop : o.op = .move x) (hd : o.dst = some d)
    (hK : wpOps P ops Q rest (a.put (some d) (a.eval x)) w) : wpOps P ops Q (i :: rest) a w :=
  op_value ho hg (v := a.eval x) (w' := w) (by unfold execOp; rw [hop]; rfl) (by rw [hd]; exact hK)
theorem op_makeMap {ops : Array Oper} {Q : Exit → Act → World → Prop} {i : Nat} {rest : List Nat} {a : Act} {w : World} {o : Oper} {T : TypeId} {d : Tmp} (ho : ops[i]? = some o) (hg : o.guard = none) (hop : o.op = .makeMap T none) (hd : o.dst = some d)
    (hK : wpOps P ops Q rest (a.put (some d) (.map (some w.heap.size))) (w.alloc (.map #[] 0))) : wpOps P ops Q (i :: rest) a w :=
  op_value ho hg (v := .map (some w.heap.size)) (w' := w.alloc (.map #[] 0)) (by
    unfold execOp
    rw [hop]
    have := run_makeMap_plain (P := P) (w := w) T
    simp [this]) (by rw [hd]; exact hK)

/-- entries laid one behind the other -/
theorem inserts_wp {ops : Array Oper} {Q : Exit → Act → World → Prop} {rest : List Nat} {a : Act} {T kt et : TypeId} {m : Tmp} {r : Nat} (hT : P.underlying T = some (.map kt et)) (hk : P.underlying kt = some .string) (ha : a.eval (.tmp m) = .map (some r)) :
    ∀ (l : List (ByteArray × FuncId)) (i : Nat) (done : List (ByteArray × Value)) (es : Array MapEntry) (clock : Nat) (w : World),
      (∀ j (h : j < l.length), ∃ o, ops[i + j]? = some o ∧ o.op = .insert T (.tmp m) (.const (.string l[j].1)) (.func l[j].2) ∧ o.guard = none ∧ o.dst = none) →
      w.heap[r]? = some (.map es clock) → Ent es done → (done.map (·.1) ++ l.map (·.1)).Nodup →
      (∀ es' clock' w', w'.heap[r]? = some (.map es' clock') → OnlyBlock r w w' → Ent es' (done ++ l.map fun p => (p.1, Value.func (.func p.2) #[] #[])) → wpOps P ops Q rest a w') →
      wpOps P ops Q (List.range' i l.length ++ rest) a w
  | [], i, done, es, clock, w, _, hb, he, _, hK => by
    refine hK es clock w hb ⟨rfl, rfl, rfl, rfl, fun _ _ => rfl⟩ ?_
    simpa using he
  | p :: l, i, done, es, clock, w, hops, hb, he, hnd, hK => by
    obtain ⟨o, h1, h2, h3, h4⟩ := hops 0 (by simp)
    rw [Nat.add_zero] at h1
    have hfind := he.none (s := p.1) fun q hq e => by
      rw [List.nodup_append] at hnd
      exact hnd.2.2 q.1 (List.mem_map_of_mem hq) p.1 (by simp) e
    have hrun := run_insert_new (P := P) w T kt et r clock es p.1 (.func (.func p.2) #[] #[]) hT hk hb hfind
    have hx : (execOp a.eval o).run P w = .ok .skip { w with heap := w.heap.setIfInBounds r (.map (es.push { key := .string p.1, val := .func (.func p.2) #[] #[], born := clock }) (clock + 1)) } := by
      have hop : o.op = .insert T (.tmp m) (.const (.string p.1)) (.func p.2) := h2
      unfold execOp
      rw [hop]
      simp only [ha]
      simp [Act.eval, hrun]
    rw [List.length_cons, List.range'_succ, List.cons_append]
    have hrs : r < w.heap.size := by
      rcases Nat.lt_or_ge r w.heap.size with h | h
      · exact h
      · rw [Array.getElem?_eq_none h] at hb; cases hb
    refine op_skip h1 h3 h4 hx (inserts_wp hT hk ha l (i + 1) (done ++ [(p.1, .func (.func p.2) #[] #[])]) _ (clock + 1) _ (fun j hj => ?_) ?_ (he.push p.1 (.func (.func p.2) #[] #[]) clock) (by simpa using hnd) fun es' clock' w' g1 g2 g3 => ?_)
    · obtain ⟨o', k1, k2⟩ := hops (j + 1) (by simpa using hj)
      refine ⟨o', by rw [← k1]; congr 1; omega, ?_⟩
      simpa using k2
    · simp [hrs]
    · refine hK es' clock' w' g1 ⟨by rw [g2.size]; simp, g2.os, g2.tape, g2.output, fun b hb => ?_⟩ (by simpa using g3)
      rw [g2.block b hb]
      simp [Array.getElem?_setIfInBounds, Ne.symm hb]

end
end Go.Ev
