/- An evaluator of the model's code, proved right. No condition. -/
import Derived.Test.YthceebioiinhiaaEvAll3
import Derived.Carry
import Derived.SizedLaws
import Derived.ChangeMaps5
import Derived.OpenShut
import Derived.ProofKit
import Derived.SliceStrings
set_option linter.unusedSimpArgs false
set_option linter.unusedVariables false
set_option linter.unusedSectionVars false
/- From a contract to a law's row: what stands in memory reads behind the call as before; how arguments are read. -/
namespace Go.Ev
variable [Globs]
open Go.ChangeShapes Go.WideShapes Go.ChangeAt Go.RowKit

theorem Grows.below {w w' : World} (h : Grows w w') : Below w.heap.size w w' := ⟨h.os, h.tape, h.output, h.size, h.block⟩

/-- nobody owns anything -/
def St.all (w : World) : St :=
  { w := w, own := fun _ => none, cur := fun _ => none, len := fun _ => 0, sz := fun _ => 0, floor := fun _ => 0, isRow := fun _ => false, live := fun _ => False, used := fun _ => False }

/-- a world that holds the package-level tables -/
def GlobW (w : World) : Prop := Glob (St.all w)

theorem all_wf (w : World) (hg : GlobW w) : (St.all w).wf := ⟨fun b o h => (by cases h), fun k h => h.elim, fun k h => h.elim, hg⟩

section
variable {P : Program}

/-- a law's call -/
theorem PureTo.calls {f : FuncId} {fn : Func} {code : Code} {ys : List AV} {vals : List Value} {W : World} (h : PureTo P f ys (.v (.bool true))) (hf : P.funcs[f]? = some fn) (hb : fn.body = some code) (hn : (fn.name == "runtime.NumGoroutine") = false) (hgl : GlobW W)
    (hr : RepIs W (fun _ => True) vals ys) : Calls P f vals.toArray W fun e W' => e = .returned (.bool true) ∧ Grows W W' := by
  have h1 := h (St.all W) vals (all_wf W hgl) ⟨hr.1, fun i h1 h2 => (hr.2 i h1 h2).mono fun b _ => rfl⟩
  have hn' : fn.name ≠ "runtime.NumGoroutine" := by simpa using hn
  have hrun : (callFunc f vals.toArray).run P W = .ok (.enter f vals.toArray) W := by simp [callFunc, hf, hn', hb]
  unfold CalledTo at h1
  rw [show (St.all W).w = W from rfl, hrun] at h1
  refine h1.2.mono fun e W' ⟨v, he, hg, hv⟩ => ?_
  obtain ⟨rfl, _⟩ := repI_v hv
  exact ⟨he, hg⟩

variable {H : Type} {enc : TypeId × Value → H}

theorem trodAll_stays (hl : laidOutB P = true) {W W' : World} (hg : Grows W W') : ∀ {ts : List TypeId} {vs : List Value} {ds : List (DataW H)} {ps : List MemPlace}, (ts.all fun t => P.readableRec t && decide (t < P.types.size)) = true →
    DataW.TrodAll enc P W 0 (fun _ => true) true ts vs ds ps → (∀ x ∈ ps, x.block < W.heap.size) → DataW.TrodAll enc P W' 0 (fun b => decide (b < W.heap.size)) true ts vs ds ps
  | [], vs, ds, ps, _, h, _ => by
    obtain ⟨rfl, rfl, rfl⟩ := trodAll_nil h
    exact trodAll_mk0
  | t :: ts, vs, ds, ps, ht, h, hlt => by
    simp only [List.all_cons, Bool.and_eq_true, decide_eq_true_eq] at ht
    obtain ⟨v, vs', d, ds', p, q, rfl, rfl, rfl, h1, h2⟩ := trodAll_cons h
    exact ⟨p, q, Below.trod hl ht.1.1 ht.1.2 h1 hg.below fun x hx => hlt x (List.mem_append_left _ hx), trodAll_stays hl hg ht.2 h2 fun x hx => hlt x (List.mem_append_right _ hx), rfl⟩

/-- what a law's row asks behind the call -/
theorem post_true {fn : Func} {s : ChangeSpec} {tb : TypeId} {W W' : World} {args : Array Value} {ds gs : List (DataW H)} {before : List MemPlace} (hl : laidOutB P = true) (hts : (fn.params.toList.all fun t => P.readableRec t && decide (t < P.types.size)) = true)
    (hv : s.vars = []) (hres : fn.resultTypes = #[tb]) (htb : P.underlying tb = some .bool) (hW : DataW.Whole enc P fn.params.toList s.vars false W args.toList ds gs before)
    (hs : s.fn H ds = { results := [.lit (.bool true)], args := ds }) (hg : Grows W W') : s.post enc P fn false true false false W args (.bool true) W' := by
  have hW' := hW
  obtain ⟨p, q, hA, hV, rfl, hfz, hnd⟩ := hW
  rw [hv] at hV
  obtain ⟨rfl, rfl⟩ := trodVars_none hV
  have hlt : ∀ x ∈ p, x.block < W.heap.size := fun x hx => hW'.lt x (by simpa using hx)
  have hs' : s.fn H (ds ++ []) = { results := [.lit (.bool true)], args := ds } := by rw [List.append_nil]; exact hs
  refine ⟨ds, [], p ++ [], [], p, [], hW', ?_, ?_, ?_, ?_, fun h => by cases h⟩
  · rw [hs', hres]
    exact trodAll_mk1 (shut_bool htb true)
  · rw [hs']
    exact trodAll_stays hl hg hts hA hlt
  · rw [hs', hv]
    exact rfl
  · exact hg.below.frame _

/-! ### how arguments are read -/

theorem inR_of_wf {k : IntKind} {n : Int} (h : (Lit.int k n).wf = true) : inR k n := by
  cases k <;> simp [Lit.wf, IntKind.min, IntKind.max, IntKind.signed, IntKind.bits] at h <;> simp only [inR] <;> omega

theorem read_int {t : TypeId} {k : IntKind} {v : Value} {d : DataW H} {ps : List MemPlace} {W : World} {base : Nat} {b0 : Nat} {r : Reach} {sp : Nat → Bool} {hd : Bool} (ht : P.underlying t = some (.int k)) (hval : Value.okWide P W r b0 t v) (h : DataW.Trod enc P W base sp hd t v d ps) :
    ∃ n, v = .int k n ∧ d = .lit (.int k n) ∧ inR k n := by
  obtain ⟨n, h1, h2, _, h4⟩ := open_int ht hval h
  exact ⟨n, h1, h2, inR_of_wf h4⟩

theorem read_ints {t e : TypeId} {k : IntKind} {v : Value} {d : DataW H} {ps : List MemPlace} {W : World} {base : Nat} {b0 : Nat} {r : Reach} {sp : Nat → Bool} {hd : Bool} (ht : P.underlying t = some (.slice e)) (he : P.underlying e = some (.int k)) (hc : P.cellsOf e = 1)
    (hval : Value.okWide P W r b0 t v) (h : DataW.Trod enc P W base sp hd t v d ps) :
    ∃ l, RepI W (fun _ => True) v (.sl 1 (.ints k l) false) ∧ (∀ x, x ∈ l → inR k x) ∧ (l = [] ∨ ∃ spare, d = .slice (lits k l) spare) := by
  obtain ⟨a, len, cap, rfl⟩ := okWide_slice ht hval
  obtain ⟨fuel, hf⟩ := h
  have hcs : (Value.slice a len cap).cells.toList = [.slice a len cap] := rfl
  rw [hcs] at hf
  rcases open_ints ht he hc hf with ⟨h1, h2⟩ | ⟨a', len', cap', zs, h1, h2, h3, h4, h5, h6, h7, h8⟩
  · simp only [List.cons.injEq, Value.slice.injEq, and_true] at h1
    obtain ⟨rfl, rfl, rfl⟩ := h1
    exact ⟨[], .slNil _ _ _ rfl, fun x hx => (by cases hx), .inl rfl⟩
  · simp only [List.cons.injEq, Value.slice.injEq, and_true] at h1
    obtain ⟨rfl, rfl, rfl⟩ := h1
    have hz : len ≤ zs.length := by rw [h5]; split <;> omega
    have hlen : (zs.take len).length = len := by simp; omega
    refine ⟨zs.take len, .sl a' len cap 1 (.ints k (zs.take len)) false (fun i _ => .int k ((zs.take len).getD i 0)) hlen.symm (by show (zs.take len).length ≤ cap; omega) (fun h => (by cases h)) (by omega) (fun _ => trivial) (fun i hi => rfl) (fun i j hi hj => ?_) (fun i j hi hj => ?_),
      fun x hx => inR_of_wf (h8 x (List.mem_of_mem_take hx)), .inr ⟨lits k (zs.drop len), ?_⟩⟩
    · have hi' : i < len := by rw [← hlen]; exact hi
      have hj0 : j = 0 := by omega
      subst hj0
      refine ⟨?_, trivial⟩
      have := h7 i (by omega)
      rw [Nat.mul_one, Nat.add_zero, this]
      simp [List.getD_eq_getElem?_getD, hi', show i < zs.length by omega]
    · have hj0 : j = 0 := by simpa [Seq.get, AV.cells] using hj
      subst hj0
      exact .v _ trivial
    · simp only [Prod.mk.injEq] at h6
      exact h6.1

theorem ints_len {ts : List TypeId} {ds : List (DataW H)} {j b : Nat} {t e : TypeId} {k : IntKind} {l : List Int} {d : DataW H} (hsz : (DataW.weightsEach P ts ds).all (· ≤ reachBytes) = true) (ht : ts[j]? = some t) (hd : ds[j]? = some d) (hu : P.underlying t = some (.slice e)) (hb : P.bytesOf e = b)
    (h : l = [] ∨ ∃ spare, d = .slice (lits k l) spare) : l.length * b ≤ 140737488351232 := by
  rcases h with rfl | ⟨spare, rfl⟩
  · rw [List.length_nil, Nat.zero_mul]; exact Nat.zero_le _
  · have h1 := sized_slice hsz ht hd hu
    rw [hb] at h1
    have h2 : (lits (H := H) k l).length = l.length := by simp [lits]
    rw [h2] at h1
    have h3 : l.length * b ≤ (l.length + spare.length) * b := Nat.mul_le_mul_right _ (by omega)
    have h4 : reachBytes = 140737488351232 := by decide
    omega

theorem string_len {ts : List TypeId} {ds : List (DataW H)} {j : Nat} {t : TypeId} {s : ByteArray} {d : DataW H} (hsz : (DataW.weightsEach P ts ds).all (· ≤ reachBytes) = true) (ht : ts[j]? = some t) (hd : ds[j]? = some d) (h : d = .lit (.string s.data.toList)) : s.size ≤ 140737488351232 := by
  subst h
  have h1 := sized_string hsz ht hd
  have h2 : s.data.toList.length = s.size := by rw [Array.length_toList]; rfl
  have h4 : reachBytes = 140737488351232 := by decide
  omega

theorem read_string {t : TypeId} {v : Value} {d : DataW H} {ps : List MemPlace} {W : World} {base : Nat} {b0 : Nat} {r : Reach} {sp : Nat → Bool} {hd : Bool} (ht : P.underlying t = some .string) (hval : Value.okWide P W r b0 t v) (h : DataW.Trod enc P W base sp hd t v d ps) :
    ∃ s : ByteArray, v = .string s ∧ d = .lit (.string s.data.toList) ∧ s.size ≤ maxLen := by
  obtain ⟨s, h1, h2, _, h4⟩ := Go.ChangeMaps.open_string ht hval h
  exact ⟨s, h1, h2, h4⟩

theorem read_bool {t : TypeId} {v : Value} {d : DataW H} {ps : List MemPlace} {W : World} {base : Nat} {b0 : Nat} {r : Reach} {sp : Nat → Bool} {hd : Bool} (ht : P.underlying t = some .bool) (hval : Value.okWide P W r b0 t v) (h : DataW.Trod enc P W base sp hd t v d ps) :
    ∃ b : Bool, v = .bool b ∧ d = .lit (.bool b) := by
  obtain ⟨b, h1, h2, _⟩ := open_bool ht hval h
  exact ⟨b, h1, h2⟩

end
end Go.Ev

/- How a slice of floats among the arguments is read. -/
namespace Go.Ev
variable [Globs]
open Go Go.ChangeShapes Go.WideShapes Go.ChangeAt Go.RowKit

section
variable {H : Type} {enc : TypeId × Value → H} {P : Program}

theorem one_float {W : World} {base : Nat} {sp : Nat → Bool} {hd : Bool} {fuel : Nat} {t : TypeId} {cs : List Value} {x : DataW H × List MemPlace} (ht : P.underlying t = some (.float .f64)) (h : DataW.trod enc P W base sp hd fuel t cs = some x) :
    ∃ b, cs = [.float .f64 b] ∧ x = (.lit (.float .f64 b), []) ∧ b < 18446744073709551616 := by
  cases fuel with
  | zero => simp [DataW.trod] at h
  | succ n =>
    unfold DataW.trod at h
    rw [ht] at h
    split at h <;> try (simp_all; done)
    next k k' b hc =>
      cases hc
      split at h
      · next hb =>
        obtain ⟨rfl, hw⟩ := hb
        cases h
        refine ⟨b, rfl, rfl, ?_⟩
        simpa [Lit.wf] using hw
      · cases h

/-- a list of floats as a slice -/
def floatsA (l : List Nat) : AV := .sl 1 (.fn l.length fun i => .v (.float .f64 (l.getD i 0))) false

theorem read_floats {t e : TypeId} {v : Value} {d : DataW H} {ps : List MemPlace} {W : World} {base : Nat} {b0 : Nat} {r : Reach} {sp : Nat → Bool} {hd : Bool} (ht : P.underlying t = some (.slice e)) (he : P.underlying e = some (.float .f64)) (hc : P.cellsOf e = 1)
    (hval : Value.okWide P W r b0 t v) (h : DataW.Trod enc P W base sp hd t v d ps) :
    ∃ l : List Nat, RepI W (fun _ => True) v (floatsA l) ∧ (∀ x, x ∈ l → x < 18446744073709551616) ∧ (l = [] ∨ ∃ ys spare, ys.length = l.length ∧ d = .slice ys spare) := by
  obtain ⟨a, len, cap, rfl⟩ := okWide_slice ht hval
  obtain ⟨fuel, hf⟩ := h
  have hcs : (Value.slice a len cap).cells.toList = [.slice a len cap] := rfl
  rw [hcs] at hf
  rcases DataW.trod_slice ht hf with ⟨h1, h2⟩ | ⟨a', len', cap', elems, rest, n, _, h1, h2, hb, hl, hm, hlen, hel, _, _⟩
  · simp only [List.cons.injEq, Value.slice.injEq, and_true] at h1
    obtain ⟨rfl, rfl, rfl⟩ := h1
    exact ⟨[], .slNil _ _ _ rfl, fun x hx => (by cases hx), .inl rfl⟩
  · simp only [List.cons.injEq, Value.slice.injEq, and_true] at h1
    obtain ⟨rfl, rfl, rfl⟩ := h1
    have each : ∀ i, i < len → ∃ b, elems[i]? = some (.lit (.float .f64 b), []) ∧ b < 18446744073709551616 ∧ W.cell? (a'.add i) = some (.float .f64 b) := by
      intro i hi
      have h3 := hel i hi
      rw [hc, Nat.mul_one] at h3
      have hin : i < elems.length := by omega
      rw [List.getElem?_eq_getElem hin, Option.bind_eq_some_iff] at h3
      obtain ⟨cs, h4, h5⟩ := h3
      obtain ⟨b, rfl, h6, h7⟩ := one_float he h5
      exact ⟨b, by rw [List.getElem?_eq_getElem hin, h6], h7, cell_of_cells?_one h4⟩
    have collect : ∀ k, k ≤ len → ∃ l : List Nat, l.length = k ∧ ∀ i, i < k → l.getD i 0 < 18446744073709551616 ∧ W.cell? (a'.add i) = some (.float .f64 (l.getD i 0)) := by
      intro k
      induction k with
      | zero => exact fun _ => ⟨[], rfl, fun i hi => by omega⟩
      | succ k ih =>
        intro hk
        obtain ⟨l, h3, h4⟩ := ih (by omega)
        obtain ⟨b, _, h6, h7⟩ := each k (by omega)
        refine ⟨l ++ [b], by simp [h3], fun i hi => ?_⟩
        by_cases hik : i < k
        · have := h4 i hik
          rw [List.getD_eq_getElem?_getD, List.getElem?_append_left (by omega), ← List.getD_eq_getElem?_getD]
          exact this
        · have : i = k := by omega
          subst this
          rw [List.getD_eq_getElem?_getD, List.getElem?_append_right (by omega), h3, Nat.sub_self]
          exact ⟨h6, h7⟩
    have pick : ∃ l : List Nat, l.length = len ∧ ∀ i, i < len → l.getD i 0 < 18446744073709551616 ∧ W.cell? (a'.add i) = some (.float .f64 (l.getD i 0)) := collect len (Nat.le_refl _)
    obtain ⟨l, h3, h4⟩ := pick
    refine ⟨l, .sl a' len cap 1 (.fn l.length fun i => .v (.float .f64 (l.getD i 0))) false (fun i _ => .float .f64 (l.getD i 0)) h3.symm (by show l.length ≤ cap; omega) (fun h => (by cases h)) (by omega) (fun _ => trivial) (fun i hi => rfl) (fun i j hi hj => ?_) (fun i j hi hj => ?_), fun x hx => ?_, .inr ⟨elems.map (·.1), rest.map (·.1), by simp; omega, ?_⟩⟩
    · have hi' : i < len := by rw [← h3]; exact hi
      have hj0 : j = 0 := by omega
      subst hj0
      refine ⟨?_, trivial⟩
      rw [Nat.mul_one, Nat.add_zero]
      exact (h4 i hi').2
    · have hj0 : j = 0 := by simpa [Seq.get, AV.cells] using hj
      subst hj0
      exact .v _ trivial
    · obtain ⟨i, hi, rfl⟩ := List.getElem_of_mem hx
      have := (h4 i (by omega)).1
      rwa [List.getD_eq_getElem?_getD, List.getElem?_eq_getElem hi] at this
    · simp only [Prod.mk.injEq] at h2
      exact h2.1

theorem floats_len {ts : List TypeId} {ds : List (DataW H)} {j b : Nat} {t e : TypeId} {l : List Nat} {d : DataW H} (hsz : (DataW.weightsEach P ts ds).all (· ≤ reachBytes) = true) (ht : ts[j]? = some t) (hd : ds[j]? = some d) (hu : P.underlying t = some (.slice e)) (hb : P.bytesOf e = b)
    (h : l = [] ∨ ∃ (ys : List (DataW H)) (spare : List (DataW H)), ys.length = l.length ∧ d = .slice ys spare) : l.length * b ≤ 140737488351232 := by
  rcases h with rfl | ⟨ys, spare, h2, rfl⟩
  · rw [List.length_nil, Nat.zero_mul]; exact Nat.zero_le _
  · have h1 := sized_slice hsz ht hd hu
    rw [hb] at h1
    rw [← h2]
    have h3 : ys.length * b ≤ (ys.length + spare.length) * b := Nat.mul_le_mul_right _ (by omega)
    have h4 : reachBytes = 140737488351232 := by decide
    omega
end
end Go.Ev
