/- Whole functions. -/
import Derived.Test.YtbmadhdeikoecaaEvR
namespace Go.Ev

/-- the loops of a code, as they stand in the text -/
def loopsOf : Code → List Code
  | .seq a b => loopsOf a ++ loopsOf b
  | .cond _ a b => loopsOf a ++ loopsOf b
  | .block _ a => loopsOf a
  | .scope a => loopsOf a
  | .loop a => a :: loopsOf a
  | _ => []

def loopAt (fn : Func) (i : Nat) : Code :=
  match fn.body with
  | some c => (loopsOf c).getD i .skip
  | none => .skip

theorem RepI.mono {w : World} {U U' : Nat → Prop} (h : ∀ b, U b → U' b) {x : Value} {y : AV} (hx : RepI w U x y) : RepI w U' x y :=
  hx.ext fun b _ hU => ⟨rfl, h b hU⟩

/-- how a call begins: nothing is one's own -/
def St.start (S : St) : St :=
  { w := S.w, own := fun b => (S.own b).map fun _ => none, cur := fun _ => none, len := fun _ => 0, sz := fun _ => 0, floor := fun _ => 0, isRow := fun _ => false, live := fun _ => False, used := fun _ => False }

theorem start_wf {S : St} (h : S.wf) : S.start.wf := by
  refine ⟨fun b o hb => ?_, fun k hl => hl.elim, fun k hl => hl.elim⟩
  have hb' : (S.own b).map (fun _ => (none : Option Nat)) = some o := hb
  cases ho : S.own b with
  | none => rw [ho] at hb'; cases hb'
  | some o' => exact h.bound b o' ho

theorem start_free {S : St} {b : Nat} : S.start.free b ↔ S.free b := by
  show (S.own b).map (fun _ => (none : Option Nat)) = none ↔ S.own b = none
  cases S.own b <;> simp

theorem start_own {S : St} {b k : Nat} : S.start.own b ≠ some (some k) := by
  show (S.own b).map (fun _ => (none : Option Nat)) ≠ some (some k)
  cases S.own b <;> simp

/-- what a call leaves, seen from the caller -/
theorem end_free {S S' : St} (hwf : S.wf) (hk : Kept S.start S') {b : Nat} (ks : List Nat) (h : (S'.lend ks).free b) : S.free b := by
  rcases Nat.lt_or_ge b S.w.heap.size with hb | hb
  · obtain ⟨_, ho⟩ := hk.old b hb fun k => start_own
    cases hs : S.start.own b with
    | none => exact start_free.1 hs
    | some o =>
      cases o with
      | some k => exact (start_own hs).elim
      | none =>
        rw [hs] at ho
        have h' : (match S'.own b with | some (some k) => if k ∈ ks then none else some (some k) | o => o) = none := h
        rw [ho] at h'
        cases h'
  · show S.own b = none
    cases ho : S.own b with
    | none => rfl
    | some o => exact absurd (hwf.bound b o ho) (by omega)

theorem end_grows {S S' : St} (hk : Kept S.start S') : Grows S.w S'.w :=
  ⟨hk.size, hk.os, hk.tape, hk.output, fun b hb => (hk.old b hb fun k => start_own).1⟩

theorem look_argsFr {i : Nat} {l : List AV} {t : Nat} {x : AV} (h : look (argsFr i l) t = some x) : ∃ j, j < l.length ∧ t = i + j ∧ l[j]? = some x := by
  induction l generalizing i with
  | nil => cases h
  | cons y r ih =>
    simp only [argsFr, look] at h
    split at h
    · next hb =>
      have := Nat.eq_of_beq_eq_true hb
      cases h
      exact ⟨0, by simp, by omega, by simp⟩
    · obtain ⟨j, h1, h2, h3⟩ := ih h
      exact ⟨j + 1, by simp; omega, by omega, by simpa using h3⟩

theorem start_rel {S : St} {fn : Func} {vals : List Value} {ys : List AV} (hwf : S.wf) (hr : RepIs S.w S.free vals ys) :
    Rel S.start (startA fn ys) { tmps := vals.toArray ++ Array.replicate (fn.ntmps - vals.toArray.size) undef, defers := [] } := by
  refine ⟨start_wf hwf, ?_, rfl, fun t x hx => ?_, fun k o hk => (by cases hk), fun k hk => hk.elim⟩
  · simp [startA, hr.1]
  · obtain ⟨j, h1, h2, h3⟩ := look_argsFr hx
    simp only [Nat.zero_add] at h2
    subst h2
    refine ⟨by simp only [startA]; omega, ?_⟩
    have hj : t < vals.length := by rw [hr.1]; exact h1
    have := hr.2 t hj h1
    rw [List.getElem?_eq_getElem h1] at h3
    cases h3
    have e : (vals.toArray ++ Array.replicate (fn.ntmps - vals.toArray.size) undef).getD t undef = vals[t] := by
      rw [Array.getD_eq_getD_getElem?, Array.getElem?_append_left (by simpa using hj)]
      simp [hj]
    show Rep S.start ((vals.toArray ++ Array.replicate (fn.ntmps - vals.toArray.size) undef).getD t undef) _
    rw [e]
    exact .i _ _ (this.mono fun b hb => start_free.2 hb)

theorem loose1_rep {w : World} {U : Nat → Prop} {v : Value} {x : AV} (ti : Bool) (h : RepI w U v x) : RepI w U v (loose1 ti x) := by
  unfold loose1
  split
  · next sz q t =>
    cases h with
    | slNil _ _ _ hq => exact .slNil _ _ _ hq
    | sl ad n c _ _ _ u h1 h2 h3 h4 h5 h6 h7 h8 =>
      exact .sl ad n c _ _ _ u h1 h2 (fun ht => h3 (by revert ht; cases t <;> simp)) h4 h5 h6 h7 h8
  · exact h

theorem loose_rep {w : World} {U : Nat → Prop} {v : Value} {x : AV} (ti : Bool) (h : RepI w U v x) : RepI w U v (loose ti x) := by
  unfold loose
  split
  · next cs =>
    obtain ⟨arr, rfl, hs, hr⟩ := repI_agg h
    refine .agg arr _ (by simpa using hs) fun i hi => ?_
    simp only [List.getElem_map]
    exact loose1_rep ti (hr i (by simpa using hi))
  · exact loose1_rep ti h

section
variable {P : Program} {SG : List (FuncId × (List AV → Option (AV × List Prop)))}

theorem resA_rep {ti : Bool} {A : AS} {t : TypeId} {r : ResultVar} {y : AV} {c : List Prop} {S S' : St} {a : Act} (hwf : S.wf) (hk : Kept S.start S') (hR : Rel S' A a) (h : resA P ti A t r = some (y, c)) (hc : AllP c) :
    ∃ s, r = .tmp s ∧ RepI S'.w S.free (a.tmps.getD s undef) y := by
  unfold resA at h
  split at h
  · next s =>
    split at h
    · next x hx =>
      split at h
      · next x' c' kk hs =>
        cases h
        refine ⟨s, rfl, ?_⟩
        have := snap_rep (ks := kk) hR.wf hR.hp hs hc (hR.fr s x hx).2 fun k h => h
        exact loose_rep ti (this.mono fun b hb => end_free hwf hk kk hb)
      · cases h
    · cases h
  · cases h

def tmpOf : ResultVar → Tmp
  | .tmp s => s
  | .cell s _ => s

theorem resAs_rep {ti : Bool} {A : AS} {S S' : St} {a : Act} (hwf : S.wf) (hk : Kept S.start S') (hR : Rel S' A a) : ∀ (rs : List ResultVar) (ts : List TypeId) (ys : List AV) (c : List Prop), resAs P ti A ts rs = some (ys, c) → AllP c →
    (∀ r, r ∈ rs → ∃ s, r = .tmp s) ∧ RepIs S'.w S.free (rs.map fun r => a.tmps.getD (tmpOf r) undef) ys
  | [], ts, ys, c, h, _ => by
    unfold resAs at h
    cases h
    exact ⟨fun r hr => (by cases hr), rfl, fun i h1 h2 => absurd h2 (by simp)⟩
  | r :: rs, ts, ys, c, h, hc => by
    unfold resAs at h
    split at h
    · next x c1 xs c2 h1 h2 =>
      cases h
      have hc := allP_append hc
      obtain ⟨s, rfl, h3⟩ := resA_rep hwf hk hR h1 hc.1
      obtain ⟨h4, h5⟩ := resAs_rep hwf hk hR rs _ _ _ h2 hc.2
      refine ⟨fun r hr => ?_, by have := h5.1; simpa using this, fun i g1 g2 => ?_⟩
      · rcases List.mem_cons.1 hr with rfl | hr
        · exact ⟨s, rfl⟩
        · exact h4 r hr
      · cases i with
        | zero => exact h3
        | succ i => exact h5.2 i (by simpa using g1) (by simpa using g2)
    · cases h

theorem mapM_tmps {tmps : Array Value} {w : World} (f : ResultVar → Sem Value) (hf : ∀ s, f (.tmp s) = pure (tmps.getD s undef)) (rs : List ResultVar) (h : ∀ r, r ∈ rs → ∃ s, r = .tmp s) :
    (rs.mapM f).run P w = .ok (rs.map fun r => tmps.getD (tmpOf r) undef) w := by
  induction rs with
  | nil => simp
  | cons r rs ih =>
    obtain ⟨s, rfl⟩ := h r (by simp)
    have := ih fun r hr => h r (by simp [hr])
    simp [List.mapM_cons, this, tmpOf, hf]

def packed : List Value → Value
  | [x] => x
  | l => .tuple l.toArray

theorem results_run {fn : Func} {tmps : Array Value} {w : World} (h : ∀ r, r ∈ fn.results.toList → ∃ s, r = .tmp s) :
    (results fn tmps).run P w = .ok (packed (fn.results.toList.map fun r => tmps.getD (tmpOf r) undef)) w := by
  unfold results
  rw [Array.mapM_eq_mapM_toList]
  rw [Sem.run_bind, Sem.run_map, mapM_tmps (tmps := tmps) _ (fun s => rfl) _ h]
  generalize fn.results.toList.map (fun r => tmps.getD (tmpOf r) undef) = l
  simp only [Result.andThen_ok, Sem.run_pure]
  match l with
  | [] => rfl
  | [x] => rfl
  | x :: y :: r => rfl

theorem resOf_rep {ti : Bool} {A : AS} {ts : List TypeId} {rs : List ResultVar} {y : AV} {c : List Prop} {S S' : St} {a : Act} (hwf : S.wf) (hk : Kept S.start S') (hR : Rel S' A a) (h : resOf P ti A ts rs = some (y, c)) (hc : AllP c) :
    (∀ r, r ∈ rs → ∃ s, r = .tmp s) ∧ RepI S'.w S.free (packed (rs.map fun r => a.tmps.getD (tmpOf r) undef)) y := by
  unfold resOf at h
  split at h
  · next x c' h1 =>
    cases h
    obtain ⟨h2, h3⟩ := resAs_rep hwf hk hR rs ts _ _ h1 hc
    refine ⟨h2, ?_⟩
    obtain ⟨h4, h5⟩ := h3
    revert h4 h5
    generalize (rs.map fun r => a.tmps.getD (tmpOf r) undef) = l
    intro h4 h5
    match l, h4 with
    | [v], _ => exact h5 0 (by simp) (by simp)
  · next xs c' hne h1 =>
    cases h
    obtain ⟨h2, h3⟩ := resAs_rep hwf hk hR rs ts _ _ h1 hc
    refine ⟨h2, ?_⟩
    obtain ⟨h4, h5⟩ := h3
    revert h4 h5
    generalize (rs.map fun r => a.tmps.getD (tmpOf r) undef) = l
    intro h4 h5
    have tup : packed l = .tuple l.toArray := by
      match l with
      | [] => rfl
      | [v] =>
        exfalso
        match xs, h4 with
        | [x], _ => exact hne x rfl
      | _ :: _ :: _ => rfl
    rw [tup]
    refine .tup _ _ (by simpa using h4) fun i hi => ?_
    have := h5 i (by omega) hi
    rw [Array.getD_eq_getD_getElem?]
    simpa [show i < l.length by omega] using this
  · cases h

/-- **A FUNCTION IS WHAT THE EVALUATOR SAYS.** -/
theorem evFn_pure {f : FuncId} {fn : Func} {ti : Bool} {hs : List CHint} {ys : List AV} {r : AV} {c : List Prop} (hm : P.follows .mixedOrders = true) (hsg : SigsOK P SG) (hf : P.funcs[f]? = some fn) (hn : (fn.name == "runtime.NumGoroutine") = false)
    (h : evFn P SG (LoopTo P) ti fn hs ys = some (r, c)) (hc : AllP c) : PureTo P f ys r := by
  unfold evFn at h
  split at h
  · cases h
  · next code hb =>
    have fin : ∀ e A c1 c2, evCode P SG (LoopTo P) code hs (startA fn ys) = some (e, A, c1, []) → (e = .ret ∨ e = .normal) → resOf P ti A fn.resultTypes.toList fn.results.toList = some (r, c2) → AllP c1 → AllP c2 → PureTo P f ys r := by
      intro e A c1 c2 h1 he h2 hc1 hc2 S vals hwf hr
      have hrun : (callFunc f vals.toArray).run P S.w = .ok (.enter f vals.toArray) S.w := by
        have hn' : fn.name ≠ "runtime.NumGoroutine" := by simpa using hn
        simp [callFunc, hf, hn', hb]
      unfold CalledTo
      rw [hrun]
      refine ⟨rfl, calls_of_wp hf hb ?_⟩
      have := ev_to hm hsg code _ _ _ _ _ _ h1 hc1 S.start _ (start_rel hwf hr)
      refine wp_mono this fun e1 a1 w1 hg => ?_
      obtain ⟨rfl, S', rfl, hk, hR⟩ := hg
      obtain ⟨h3, h4⟩ := resOf_rep hwf hk hR h2 hc2
      have hres := results_run (P := P) (fn := fn) (tmps := a1.tmps) (w := S'.w) h3
      rcases he with rfl | rfl
      · exact ⟨hR.defers, _, hres, _, rfl, end_grows hk, h4⟩
      · exact ⟨hR.defers, _, hres, _, rfl, end_grows hk, h4⟩
    split at h
    · next A c1 h1 =>
      split at h
      · next r' c2 h2 =>
        cases h
        have hc := allP_append hc
        exact fin _ _ _ _ h1 (.inl rfl) h2 hc.1 hc.2
      · cases h
    · next A c1 h1 =>
      split at h
      · next r' c2 h2 =>
        cases h
        have hc := allP_append hc
        exact fin _ _ _ _ h1 (.inr rfl) h2 hc.1 hc.2
      · cases h
    · cases h

end
end Go.Ev
