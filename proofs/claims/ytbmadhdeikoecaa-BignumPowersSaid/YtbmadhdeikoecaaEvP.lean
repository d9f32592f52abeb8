/- A region of operations is what the evaluator says, in whatever order. -/
import Derived.Test.YtbmadhdeikoecaaEvO
namespace Go.Ev

section
variable {P : Program} {SG : List (FuncId × (List AV → Option (AV × List Prop)))} {Q : Exit → Act → World → Prop}

/-- as 'Rel', but for the keys in use -/
structure RelU (U : Nat → Prop) (S : St) (A : AS) (a : Act) : Prop where
  wf : S.wf
  size : a.tmps.size = A.n
  defers : a.defers = []
  fr : FrOK S A.n A.fr a.tmps
  hp : HeapOK S A.hp
  used : ∀ k, S.used k → U k

theorem RelU.like {U : Nat → Prop} {S : St} {A B : AS} {a : Act} (h : RelU U S A a) (hl : Like A B) : RelU U S B a :=
  ⟨h.wf, h.size.trans hl.n.symm, h.defers, fun t x hx => by rw [hl.n]; exact h.fr t x (by rw [← hl.fr t]; exact hx), fun k o hk => h.hp k o (by rw [← hl.hp k]; exact hk), h.used⟩

theorem put_size (a : Act) (dst : Option Tmp) (v : Value) : (a.put dst v).tmps.size = a.tmps.size := by
  cases dst <;> simp [Act.put]

theorem put_defers (a : Act) (dst : Option Tmp) (v : Value) : (a.put dst v).defers = a.defers := by
  cases dst <;> rfl

theorem put_fr {S S' : St} {A A' : AS} {a : Act} {dst : Option Tmp} {v : Value} {x : AV} (h : FrOK S A.n A.fr a.tmps) (hs : a.tmps.size = A.n) (he : Ext S S') (hr : Rep S' v x) (hp : putA A dst x = some A') : FrOK S' A'.n A'.fr (a.put dst v).tmps := by
  obtain ⟨h1, h2, h3, h4, h5⟩ := putA_spec hp
  intro t y hy
  rw [h5] at hy
  rw [h2]
  cases dst with
  | none =>
    simp only [reduceCtorEq, if_false] at hy
    exact ⟨(h t y hy).1, (h t y hy).2.ext he⟩
  | some d =>
    have hd := h1 d rfl
    by_cases ht : d = t
    · subst ht
      simp only [if_true, Option.some.injEq] at hy
      subst hy
      refine ⟨hd, ?_⟩
      show Rep S' ((a.tmps.setIfInBounds d v).getD d undef) x
      rw [Array.getD_eq_getD_getElem?, Array.getElem?_setIfInBounds_self, if_pos (by rw [hs]; exact hd)]
      exact hr
    · rw [if_neg (by simpa using ht)] at hy
      refine ⟨(h t y hy).1, ?_⟩
      show Rep S' ((a.tmps.setIfInBounds d v).getD t undef) y
      rw [Array.getD_eq_getD_getElem?, Array.getElem?_setIfInBounds_ne ht, ← Array.getD_eq_getD_getElem?]
      exact (h t y hy).2.ext he

/-- a guard that the evaluator knows -/
theorem wantedA_sound {S : St} {n : Nat} {ops : Array Oper} {fr : List (Nat × AV)} {a : Act} {o : Oper} {b : Bool} (hfr : FrOK S n fr a.tmps) (hs : a.tmps.size = n) (h : wantedA ops.toList fr o = some b) : Region.wanted o (yielded ops a.tmps) = b := by
  unfold wantedA at h
  unfold Region.wanted
  split at h
  · next hg => rw [hg]; cases h; rfl
  · next j want hg =>
    rw [hg]
    simp only
    split at h
    · next g ho =>
      split at h
      · next d hd =>
        split at h
        · next c hl =>
          cases h
          obtain ⟨hlt, hr⟩ := hfr d _ hl
          obtain ⟨hv, _⟩ := rep_v hr
          have e : a.tmps[d]? = some (.bool c) := by
            have hlt' : d < a.tmps.size := by rw [hs]; exact hlt
            rw [Array.getD_eq_getD_getElem?, Array.getElem?_eq_getElem hlt'] at hv
            rw [Array.getElem?_eq_getElem hlt']
            exact congrArg some hv
          rw [Array.getElem?_toList] at ho
          unfold yielded
          simp only [ho, Option.bind_some, hd, e]
          cases c <;> cases want <;> rfl
        · cases h
      · cases h
    · cases h

theorem hinted_rep {S : St} {v : Value} {h : Option Hint} {r : R} (hc : AllP (hinted h r).cond) (hr : Rep S v r.val) : Rep S v (hinted h r).val := by
  unfold hinted at *
  split at *
  · split at *
    · next x hx =>
      have e := hc.1
      rw [hx, e] at hr
      exact hr
    · exact hr
  · have e := hc.1
    rw [← e]
    exact hr
  · exact hr

theorem hinted_cond {h : Option Hint} {r : R} (hc : AllP (hinted h r).cond) : AllP r.cond := by
  unfold hinted at hc
  split at hc
  · split at hc
    · exact hc.2
    · exact hc
  · exact hc.2
  · exact hc

theorem hinted_upd {h : Option Hint} {r : R} : (hinted h r).upd = r.upd := by
  unfold hinted
  split
  · split <;> rfl
  · rfl
  · rfl

/-- one operation -/
theorem takeOp_wp {hs : List (Nat × Hint)} {ops : Array Oper} {i : Nat} {A : AS} {T : Took} {U : Nat → Prop} {S : St} {a : Act} {K : Act → World → Prop} (hsg : SigsOK P SG) (h : takeOp P SG hs ops.toList i A = some T) (hc : AllP T.cond)
    (hR : RelU U S A a) (hkey : ¬ S.used (A.nx + i)) (hK : ∀ S' a', Ext S S' → RelU (fun k => U k ∨ k = A.nx + i) S' T.A a' → (∀ k, S'.used k → S.used k ∨ k = A.nx + i) → K a' S'.w) : wpOp P ops Q i K a S.w := by
  unfold takeOp at h
  split at h
  · cases h
  · next o ho =>
    rw [Array.getElem?_toList] at ho
    unfold wpOp
    simp only [ho]
    split at h
    · cases h
    · next hw =>
      rw [wantedA_sound hR.fr hR.size hw]
      simp only [Bool.false_eq_true, if_false]
      split at h
      · next A' hp =>
        cases h
        obtain ⟨h1, h2, h3, h4, h5⟩ := putA_spec hp
        refine hK S _ (Ext.refl S) ⟨hR.wf, by rw [put_size, hR.size, h2], by rw [put_defers]; exact hR.defers, put_fr hR.fr hR.size (Ext.refl S) (.junk _) hp, by rw [h4]; exact hR.hp, fun k hk => .inl (hR.used k hk)⟩ fun k hk => .inl hk
      · cases h
    · next hw =>
      rw [wantedA_sound hR.fr hR.size hw]
      simp only [if_true]
      simp only at h
      split at h
      · cases h
      · next r0 hr =>
        split at h
        · next A' hp =>
          cases h
          have out := opA_out (o := o) (a := a) hsg hR.wf hR.hp hkey hR.fr hr (hinted_cond hc)
          have fin : ∀ v S', Post S (A.nx + i) (applyUpd A.hp r0.upd) r0.val v S' → K (a.put o.dst v) S'.w := by
            intro v S' hpost
            have hrep := hinted_rep (h := look hs i) hc hpost.rep
            have hfr := put_fr (A := { A with hp := applyUpd A.hp (hinted (look hs i) r0).upd }) (v := v) hR.fr hR.size hpost.ext hrep hp
            obtain ⟨h1, h2, h3, h4, h5⟩ := putA_spec hp
            refine hK S' _ hpost.ext ⟨hpost.wf, by rw [put_size, hR.size, h2], by rw [put_defers]; exact hR.defers, hfr, ?_, fun k hk => (hpost.used k hk).imp (hR.used k) id⟩ hpost.used
            rw [h4]
            show HeapOK S' (applyUpd A.hp (hinted (look hs i) r0).upd)
            rw [hinted_upd]
            exact hpost.hp
          left
          unfold Oper.wp
          revert out
          cases (execOp a.eval o).run P S.w with
          | halt x w' => exact fun h => h.elim
          | ok nx w' =>
            cases nx with
            | value v =>
              intro ⟨S', hw', hpost⟩
              subst hw'
              exact fin v S' hpost
            | skip =>
              intro ⟨S', hw', hpost⟩
              subst hw'
              exact fin undef S' hpost
            | enter f args =>
              intro ⟨hw', hcall⟩
              subst hw'
              refine hcall.mono fun e w'' ⟨v, S', he, hw'', hpost⟩ => ?_
              subst he hw''
              exact fin v S' hpost
            | _ => exact fun h => h.elim
        · cases h

theorem takeOp_frame {hs : List (Nat × Hint)} {ops : List Oper} {i : Nat} {A : AS} {T : Took} (h : takeOp P SG hs ops i A = some T) : T.A.nx = A.nx := by
  obtain ⟨_, _, _, d⟩ := takeOp_does h
  exact d.nx

/-- the operations in the text's order -/
theorem takeOps_wp {hs : List (Nat × Hint)} {ops : Array Oper} (hsg : SigsOK P SG) (n : Nat) : ∀ (i : Nat) (A A' : AS) (c : List Prop) (fs : List (List Nat × List Nat)) (S : St) (a : Act),
    takeOps P SG hs ops.toList n i A = some (A', c, fs) → AllP c → RelU (fun k => k < A.nx + i) S A a →
    (∀ S' a', Ext S S' → RelU (fun k => k < A.nx + (i + n)) S' A' a' → A'.nx = A.nx → Q .normal a' S'.w) → wpOps P ops Q (List.range' i n) a S.w := by
  induction n with
  | zero =>
    intro i A A' c fs S a h hc hR hK
    simp only [takeOps, Option.some.injEq, Prod.mk.injEq] at h
    obtain ⟨rfl, rfl, rfl⟩ := h
    exact hK S a (Ext.refl S) hR rfl
  | succ n ih =>
    intro i A A' c fs S a h hc hR hK
    simp only [takeOps] at h
    split at h
    · cases h
    · next t ht =>
      split at h
      · next A1 c1 fs1 hr =>
        simp only [Option.some.injEq, Prod.mk.injEq] at h
        obtain ⟨rfl, rfl, rfl⟩ := h
        have hc := allP_append hc
        have hnx := takeOp_frame ht
        rw [List.range'_succ, wpOps_cons]
        refine takeOp_wp hsg ht hc.1 hR (fun hu => absurd (hR.used _ hu) (by omega)) fun S' a' he hR' _ => ?_
        refine ih (i + 1) t.A _ _ _ S' a' hr hc.2 ⟨hR'.wf, hR'.size, hR'.defers, hR'.fr, hR'.hp, fun k hk => ?_⟩ fun S'' a'' he' hR'' hnx' => ?_
        · have := hR'.used k hk
          rw [hnx]
          omega
        · refine hK S'' a'' (he.trans he') ⟨hR''.wf, hR''.size, hR''.defers, hR''.fr, hR''.hp, fun k hk => ?_⟩ (hnx'.trans hnx)
          have := hR''.used k hk
          rw [hnx] at this
          omega
      · cases h

end
end Go.Ev
