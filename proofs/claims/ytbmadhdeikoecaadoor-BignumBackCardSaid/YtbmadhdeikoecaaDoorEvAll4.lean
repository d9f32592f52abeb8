/- An evaluator of the model's code, proved right. No condition. -/
import Derived.Test.YtbmadhdeikoecaaDoorEvAll3
import Derived.Carry
import Derived.SizedLaws
import Derived.ChangeMaps5
import Derived.OpenShut
import Derived.ProofKit
set_option linter.unusedSimpArgs false
set_option linter.unusedVariables false
set_option linter.unusedSectionVars false
/- From a contract to a law's row: what stands in memory reads behind the call as before; how arguments are read. -/
namespace Go.Ev
variable [Globs]
open Go.ChangeShapes Go.WideShapes Go.ChangeAt Go.RowKit

theorem Grows.below {w w' : World} (h : Grows w w') : Below w.heap.size w w' := ⟨h.os, h.tape, h.output, h.size, h.block⟩

/-- nobody owns anything -/
def St.all (w : World) : St :=
  { w := w, own := fun _ => none, cur := fun _ => none, len := fun _ => 0, sz := fun _ => 0, floor := fun _ => 0, isRow := fun _ => false, live := fun _ => False, used := fun _ => False }

/-- a world that holds the package-level tables -/
def GlobW (w : World) : Prop := Glob (St.all w)

theorem all_wf (w : World) (hg : GlobW w) : (St.all w).wf := ⟨fun b o h => (by cases h), fun k h => h.elim, fun k h => h.elim, hg⟩

section
variable {P : Program}

/-- a law's call -/
theorem PureTo.calls {f : FuncId} {fn : Func} {code : Code} {ys : List AV} {vals : List Value} {W : World} (h : PureTo P f ys (.v (.bool true))) (hf : P.funcs[f]? = some fn) (hb : fn.body = some code) (hn : (fn.name == "runtime.NumGoroutine") = false) (hgl : GlobW W)
    (hr : RepIs W (fun _ => True) vals ys) : Calls P f vals.toArray W fun e W' => e = .returned (.bool true) ∧ Grows W W' := by
  have h1 := h (St.all W) vals (all_wf W hgl) ⟨hr.1, fun i h1 h2 => (hr.2 i h1 h2).mono fun b _ => rfl⟩
  have hn' : fn.name ≠ "runtime.NumGoroutine" := by simpa using hn
  have hrun : (callFunc f vals.toArray).run P W = .ok (.enter f vals.toArray) W := by simp [callFunc, hf, hn', hb]
  unfold CalledTo at h1
  rw [show (St.all W).w = W from rfl, hrun] at h1
  refine h1.2.mono fun e W' ⟨v, he, hg, hv⟩ => ?_
  obtain ⟨rfl, _⟩ := repI_v hv
  exact ⟨he, hg⟩

variable {H : Type} {enc : TypeId × Value → H}

theorem trodAll_stays (hl : laidOutB P = true) {W W' : World} (hg : Grows W W') : ∀ {ts : List TypeId} {vs : List Value} {ds : List (DataW H)} {ps : List MemPlace}, (ts.all fun t => P.readableRec t && decide (t < P.types.size)) = true →
    DataW.TrodAll enc P W 0 (fun _ => true) true ts vs ds ps → (∀ x ∈ ps, x.block < W.heap.size) → DataW.TrodAll enc P W' 0 (fun b => decide (b < W.heap.size)) true ts vs ds ps
  | [], vs, ds, ps, _, h, _ => by
    obtain ⟨rfl, rfl, rfl⟩ := trodAll_nil h
    exact trodAll_mk0
  | t :: ts, vs, ds, ps, ht, h, hlt => by
    simp only [List.all_cons, Bool.and_eq_true, decide_eq_true_eq] at ht
    obtain ⟨v, vs', d, ds', p, q, rfl, rfl, rfl, h1, h2⟩ := trodAll_cons h
    exact ⟨p, q, Below.trod hl ht.1.1 ht.1.2 h1 hg.below fun x hx => hlt x (List.mem_append_left _ hx), trodAll_stays hl hg ht.2 h2 fun x hx => hlt x (List.mem_append_right _ hx), rfl⟩

/-- what a law's row asks behind the call -/
theorem post_true {fn : Func} {s : ChangeSpec} {tb : TypeId} {W W' : World} {args : Array Value} {ds gs : List (DataW H)} {before : List MemPlace} (hl : laidOutB P = true) (hts : (fn.params.toList.all fun t => P.readableRec t && decide (t < P.types.size)) = true)
    (hv : s.vars = []) (hres : fn.resultTypes = #[tb]) (htb : P.underlying tb = some .bool) (hW : DataW.Whole enc P fn.params.toList s.vars false W args.toList ds gs before)
    (hs : s.fn H ds = { results := [.lit (.bool true)], args := ds }) (hg : Grows W W') : s.post enc P fn false true false false W args (.bool true) W' := by
  have hW' := hW
  obtain ⟨p, q, hA, hV, rfl, hfz, hnd⟩ := hW
  rw [hv] at hV
  obtain ⟨rfl, rfl⟩ := trodVars_none hV
  have hlt : ∀ x ∈ p, x.block < W.heap.size := fun x hx => hW'.lt x (by simpa using hx)
  have hs' : s.fn H (ds ++ []) = { results := [.lit (.bool true)], args := ds } := by rw [List.append_nil]; exact hs
  refine ⟨ds, [], p ++ [], [], p, [], hW', ?_, ?_, ?_, ?_, fun h => by cases h⟩
  · rw [hs', hres]
    exact trodAll_mk1 (shut_bool htb true)
  · rw [hs']
    exact trodAll_stays hl hg hts hA hlt
  · rw [hs', hv]
    exact rfl
  · exact hg.below.frame _

/-! ### how arguments are read -/

theorem inR_of_wf {k : IntKind} {n : Int} (h : (Lit.int k n).wf = true) : inR k n := by
  cases k <;> simp [Lit.wf, IntKind.min, IntKind.max, IntKind.signed, IntKind.bits] at h <;> simp only [inR] <;> omega

theorem read_int {t : TypeId} {k : IntKind} {v : Value} {d : DataW H} {ps : List MemPlace} {W : World} {base : Nat} {b0 : Nat} {r : Reach} {sp : Nat → Bool} {hd : Bool} (ht : P.underlying t = some (.int k)) (hval : Value.okWide P W r b0 t v) (h : DataW.Trod enc P W base sp hd t v d ps) :
    ∃ n, v = .int k n ∧ d = .lit (.int k n) ∧ inR k n := by
  obtain ⟨n, h1, h2, _, h4⟩ := open_int ht hval h
  exact ⟨n, h1, h2, inR_of_wf h4⟩

theorem read_ints {t e : TypeId} {k : IntKind} {v : Value} {d : DataW H} {ps : List MemPlace} {W : World} {base : Nat} {b0 : Nat} {r : Reach} {sp : Nat → Bool} {hd : Bool} (ht : P.underlying t = some (.slice e)) (he : P.underlying e = some (.int k)) (hc : P.cellsOf e = 1)
    (hval : Value.okWide P W r b0 t v) (h : DataW.Trod enc P W base sp hd t v d ps) :
    ∃ l, RepI W (fun _ => True) v (.sl 1 (.ints k l) false) ∧ (∀ x, x ∈ l → inR k x) ∧ (l = [] ∨ ∃ spare, d = .slice (lits k l) spare) := by
  obtain ⟨a, len, cap, rfl⟩ := okWide_slice ht hval
  obtain ⟨fuel, hf⟩ := h
  have hcs : (Value.slice a len cap).cells.toList = [.slice a len cap] := rfl
  rw [hcs] at hf
  rcases open_ints ht he hc hf with ⟨h1, h2⟩ | ⟨a', len', cap', zs, h1, h2, h3, h4, h5, h6, h7, h8⟩
  · simp only [List.cons.injEq, Value.slice.injEq, and_true] at h1
    obtain ⟨rfl, rfl, rfl⟩ := h1
    exact ⟨[], .slNil _ _ _ rfl, fun x hx => (by cases hx), .inl rfl⟩
  · simp only [List.cons.injEq, Value.slice.injEq, and_true] at h1
    obtain ⟨rfl, rfl, rfl⟩ := h1
    have hz : len ≤ zs.length := by rw [h5]; split <;> omega
    have hlen : (zs.take len).length = len := by simp; omega
    refine ⟨zs.take len, .sl a' len cap 1 (.ints k (zs.take len)) false (fun i _ => .int k ((zs.take len).getD i 0)) hlen.symm (by show (zs.take len).length ≤ cap; omega) (fun h => (by cases h)) (by omega) (fun _ => trivial) (fun i hi => rfl) (fun i j hi hj => ?_) (fun i j hi hj => ?_),
      fun x hx => inR_of_wf (h8 x (List.mem_of_mem_take hx)), .inr ⟨lits k (zs.drop len), ?_⟩⟩
    · have hi' : i < len := by rw [← hlen]; exact hi
      have hj0 : j = 0 := by omega
      subst hj0
      refine ⟨?_, trivial⟩
      have := h7 i (by omega)
      rw [Nat.mul_one, Nat.add_zero, this]
      simp [List.getD_eq_getElem?_getD, hi', show i < zs.length by omega]
    · have hj0 : j = 0 := by simpa [Seq.get, AV.cells] using hj
      subst hj0
      exact .v _ trivial
    · simp only [Prod.mk.injEq] at h6
      exact h6.1

theorem ints_len {ts : List TypeId} {ds : List (DataW H)} {j b : Nat} {t e : TypeId} {k : IntKind} {l : List Int} {d : DataW H} (hsz : (DataW.weightsEach P ts ds).all (· ≤ reachBytes) = true) (ht : ts[j]? = some t) (hd : ds[j]? = some d) (hu : P.underlying t = some (.slice e)) (hb : P.bytesOf e = b)
    (h : l = [] ∨ ∃ spare, d = .slice (lits k l) spare) : l.length * b ≤ 140737488351232 := by
  rcases h with rfl | ⟨spare, rfl⟩
  · rw [List.length_nil, Nat.zero_mul]; exact Nat.zero_le _
  · have h1 := sized_slice hsz ht hd hu
    rw [hb] at h1
    have h2 : (lits (H := H) k l).length = l.length := by simp [lits]
    rw [h2] at h1
    have h3 : l.length * b ≤ (l.length + spare.length) * b := Nat.mul_le_mul_right _ (by omega)
    have h4 : reachBytes = 140737488351232 := by decide
    omega

theorem string_len {ts : List TypeId} {ds : List (DataW H)} {j : Nat} {t : TypeId} {s : ByteArray} {d : DataW H} (hsz : (DataW.weightsEach P ts ds).all (· ≤ reachBytes) = true) (ht : ts[j]? = some t) (hd : ds[j]? = some d) (h : d = .lit (.string s.data.toList)) : s.size ≤ 140737488351232 := by
  subst h
  have h1 := sized_string hsz ht hd
  have h2 : s.data.toList.length = s.size := by rw [Array.length_toList]; rfl
  have h4 : reachBytes = 140737488351232 := by decide
  omega

theorem read_string {t : TypeId} {v : Value} {d : DataW H} {ps : List MemPlace} {W : World} {base : Nat} {b0 : Nat} {r : Reach} {sp : Nat → Bool} {hd : Bool} (ht : P.underlying t = some .string) (hval : Value.okWide P W r b0 t v) (h : DataW.Trod enc P W base sp hd t v d ps) :
    ∃ s : ByteArray, v = .string s ∧ d = .lit (.string s.data.toList) ∧ s.size ≤ maxLen := by
  obtain ⟨s, h1, h2, _, h4⟩ := Go.ChangeMaps.open_string ht hval h
  exact ⟨s, h1, h2, h4⟩

theorem read_bool {t : TypeId} {v : Value} {d : DataW H} {ps : List MemPlace} {W : World} {base : Nat} {b0 : Nat} {r : Reach} {sp : Nat → Bool} {hd : Bool} (ht : P.underlying t = some .bool) (hval : Value.okWide P W r b0 t v) (h : DataW.Trod enc P W base sp hd t v d ps) :
    ∃ b : Bool, v = .bool b ∧ d = .lit (.bool b) := by
  obtain ⟨b, h1, h2, _⟩ := open_bool ht hval h
  exact ⟨b, h1, h2⟩

end
end Go.Ev
