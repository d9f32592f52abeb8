/- Contracts of the program's functions, and the plain law behind them. No condition beyond those in each statement. -/
import Derived.Test.YthceebioiinhiaaNuAll1
import Derived.Test.YthceebioiinhiaaEvAll4
set_option linter.unusedSimpArgs false
set_option linter.unusedVariables false
set_option linter.unusedSectionVars false
/- Numbers: the operators' table. -/
set_option maxRecDepth 100000
namespace Go.Proofs.Nu
open Go Go.Ev

def opNames : List ByteArray := [⟨#[43]⟩, ⟨#[45]⟩, ⟨#[42]⟩, ⟨#[47]⟩, ⟨#[37]⟩, ⟨#[60, 60]⟩, ⟨#[62, 62]⟩, ⟨#[62, 62, 62]⟩, ⟨#[38]⟩, ⟨#[124]⟩, ⟨#[94]⟩]
def opFns : List FuncId := [75, 76, 77, 78, 61, 79, 80, 81, 82, 83, 84]
def opTab : List (ByteArray × FuncId) := [(⟨#[43]⟩, 75), (⟨#[45]⟩, 76), (⟨#[42]⟩, 77), (⟨#[47]⟩, 78), (⟨#[37]⟩, 61), (⟨#[60, 60]⟩, 79), (⟨#[62, 62]⟩, 80), (⟨#[62, 62, 62]⟩, 81), (⟨#[38]⟩, 82), (⟨#[124]⟩, 83), (⟨#[94]⟩, 84)]
def opsAV : AV := .mp opNames (opFns.map fun g => .fnv (.func g) [] [])

theorem ops_nodup : (([] : List (ByteArray × Value)).map (·.1) ++ opTab.map (·.1)).Nodup := by decide

noncomputable def code55 : Code := (Try.f55.body).getD .skip
noncomputable def ops0 : Array Oper := match code55 with | .seq (.region _ o _) _ => o | _ => #[]
noncomputable def ops1 : Array Oper := match code55 with | .seq _ (.seq (.region _ o _) _) => o | _ => #[]

theorem body55 : Try.f55.body = some (.seq (.region 0 ops0 false) (.seq (.region 1 ops1 false) .ret)) := by kernel_rfl

theorem ops_at (j : Nat) (hj : j < 11) : ops1[1 + j]? = some (ops1.getD (1 + j) default) ∧ (ops1.getD (1 + j) default).op = .insert 51 (.tmp 1) (.const (.string (opTab.getD j (⟨#[]⟩, 0)).1)) (.func (opTab.getD j (⟨#[]⟩, 0)).2) ∧
    (ops1.getD (1 + j) default).guard = none ∧ (ops1.getD (1 + j) default).dst = none := by
  have h : j = 0 ∨ j = 1 ∨ j = 2 ∨ j = 3 ∨ j = 4 ∨ j = 5 ∨ j = 6 ∨ j = 7 ∨ j = 8 ∨ j = 9 ∨ j = 10 := by omega
  rcases h with rfl | rfl | rfl | rfl | rfl | rfl | rfl | rfl | rfl | rfl | rfl <;> exact ⟨by kernel_rfl, by kernel_rfl, by kernel_rfl, by kernel_rfl⟩

theorem operators_pure : PureTo Try.prog 55 [] opsAV := by
  intro S vals hwf hr
  obtain ⟨hl, _⟩ := hr
  have hv : vals = [] := List.eq_nil_of_length_eq_zero hl
  subst hv
  have hf : Try.prog.funcs[55]? = some Try.f55 := Try.func55
  have hn' : Try.f55.name ≠ "runtime.NumGoroutine" := by decide
  have hrun : (callFunc 55 ([] : List Value).toArray).run Try.prog S.w = .ok (.enter 55 #[]) S.w := by simp [callFunc, hf, hn', body55]
  unfold CalledTo
  rw [hrun]
  refine ⟨rfl, calls_of_wp hf body55 ?_⟩
  have e0 : (#[] ++ Array.replicate (Try.f55.ntmps - (#[] : Array Value).size) undef : Array Value) = #[undef, undef, undef] := by
    rw [show Try.f55.ntmps = 3 by kernel_rfl]
    rfl
  rw [e0]
  refine wp_seq (wp_region ?_)
  rw [show List.range ops0.size = [0] by kernel_rfl]
  refine op_assign (o := ops0.getD 0 default) (x := .const (.map none)) (d := 0) (by kernel_rfl) (by kernel_rfl) (by kernel_rfl) (by kernel_rfl) ?_
  show Exit.then _ _ _ _ _
  refine wp_seq (wp_region ?_)
  rw [show List.range ops1.size = 0 :: (List.range' 1 opTab.length ++ [12, 13]) by kernel_rfl]
  refine op_makeMap (o := ops1.getD 0 default) (T := 51) (d := 1) (by kernel_rfl) (by kernel_rfl) (by kernel_rfl) (by kernel_rfl) ?_
  have hnew : (S.w.alloc (.map #[] 0)).heap[S.w.heap.size]? = some (.map #[] 0) := alloc_new _ _
  refine inserts_wp (T := 51) (kt := 9) (et := 50) (m := 1) (r := S.w.heap.size) (by kernel_rfl) (by kernel_rfl) (by simp [Act.put, Act.eval]) opTab 1 [] #[] 0 _ (fun j hj => ?_) hnew rfl ops_nodup fun es' clock' w' g1 g2 g3 => ?_
  · have hj' : j < 11 := hj
    have ho := ops_at j hj'
    have h : j = 0 ∨ j = 1 ∨ j = 2 ∨ j = 3 ∨ j = 4 ∨ j = 5 ∨ j = 6 ∨ j = 7 ∨ j = 8 ∨ j = 9 ∨ j = 10 := by omega
    rcases h with rfl | rfl | rfl | rfl | rfl | rfl | rfl | rfl | rfl | rfl | rfl <;> exact ⟨_, ho⟩
  · refine op_move (o := ops1.getD 12 default) (x := .tmp 1) (d := 2) (by kernel_rfl) (by kernel_rfl) (by kernel_rfl) (by kernel_rfl) ?_
    refine op_assign (o := ops1.getD 13 default) (x := .tmp 2) (d := 0) (by kernel_rfl) (by kernel_rfl) (by kernel_rfl) (by kernel_rfl) ?_
    refine wp_ret ?_
    have hgr : Grows S.w w' := by
      have h1 := alloc_grows S.w (.map #[] 0)
      refine ⟨by rw [g2.size]; exact h1.size, g2.os.trans h1.os, g2.tape.trans h1.tape, g2.output.trans h1.output, fun b hb => ?_⟩
      rw [g2.block b (by omega)]
      exact h1.block b hb
    have hfree : S.free S.w.heap.size := by
      unfold St.free
      cases ho : S.own S.w.heap.size with
      | none => rfl
      | some o => exact absurd (hwf.bound _ o ho) (by omega)
    have hents : Ent es' (opTab.map fun p => (p.1, Value.func (.func p.2) #[] #[])) := g3
    have hsz : es'.toList.length = 11 := by
      have := congrArg List.length hents
      simpa [opTab] using this
    have hat : ∀ i, i < 11 → ((es'.getD i default).key, (es'.getD i default).val) = (Value.string (opNames.getD i ByteArray.empty), Value.func (.func (opFns.getD i 0)) #[] #[]) := fun i hi => by
      have h1 := congrArg (fun x => x[i]?) hents
      simp only [List.getElem?_map] at h1
      have h2 : i < opTab.length := hi
      have h3 : i < es'.toList.length := by rw [hsz]; exact hi
      rw [List.getElem?_eq_getElem h3, List.getElem?_eq_getElem h2] at h1
      simp only [Option.map_some, Option.some.injEq] at h1
      have h4 : es'.getD i default = es'.toList[i] := by
        rw [Array.getD_eq_getD_getElem?, ← Array.getElem?_toList, List.getElem?_eq_getElem h3]
        rfl
      rw [h4, h1]
      have h : i = 0 ∨ i = 1 ∨ i = 2 ∨ i = 3 ∨ i = 4 ∨ i = 5 ∨ i = 6 ∨ i = 7 ∨ i = 8 ∨ i = 9 ∨ i = 10 := by omega
      rcases h with rfl | rfl | rfl | rfl | rfl | rfl | rfl | rfl | rfl | rfl | rfl <;> rfl
    refine ⟨rfl, .map (some S.w.heap.size), ?_, _, rfl, hgr, ?_⟩
    · simp [Act.put, Act.eval, results]
    · refine .mp S.w.heap.size es' clock' _ _ hfree g1 (by rw [← Array.length_toList, hsz]; rfl) rfl (fun i hi => ?_) (fun i hi => ?_)
      · exact (Prod.mk.inj (hat i hi)).1
      · have hi' : i < 11 := hi
        have e := (Prod.mk.inj (hat i hi')).2
        rw [e]
        have key : ∀ g, RepI w' S.free (.func (.func g) #[] #[]) (.fnv (.func g) [] []) := fun g => .fnv _ _ _ _ _ rfl (fun i h => absurd h (by simp)) rfl (fun i h => absurd h (by simp))
        have h : i = 0 ∨ i = 1 ∨ i = 2 ∨ i = 3 ∨ i = 4 ∨ i = 5 ∨ i = 6 ∨ i = 7 ∨ i = 8 ∨ i = 9 ∨ i = 10 := by omega
        rcases h with rfl | rfl | rfl | rfl | rfl | rfl | rfl | rfl | rfl | rfl | rfl <;> exact key _

end Go.Proofs.Nu
