/- Each operation that the evaluator takes is what the model does. -/
import Derived.Test.YtbmadhdeikoecaaEvM
namespace Go.Ev

section
variable {P : Program} {SG : List (FuncId × (List AV → Option (AV × List Prop)))}

theorem Out.val {S : St} {key : Nat} {hp : List (Nat × AObj)} {val : AV} {x : Result Next} {v : Value} {S' : St} (hx : x = .ok (.value v) S'.w) (h : Post S key hp val v S') : Out P S key hp val x := by
  subst hx
  exact ⟨S', rfl, h⟩

theorem Out.skip {S : St} {key : Nat} {hp : List (Nat × AObj)} {val : AV} {x : Result Next} {S' : St} (hx : x = .ok .skip S'.w) (h : Post S key hp val undef S') : Out P S key hp val x := by
  subst hx
  exact ⟨S', rfl, h⟩

theorem repO_map {S : St} {n : Nat} {fr : List (Nat × AV)} {a : Act} (h : FrOK S n fr a.tmps) (x : Option Operand) : RepO S (x.map a.eval) (x.map (evalA fr)) := by
  cases x with
  | none => trivial
  | some x => exact rep_eval h x

theorem opA_out {S : St} {key n : Nat} {hint : Option Hint} {hp : List (Nat × AObj)} {fr : List (Nat × AV)} {nd : List Nat} {a : Act} {o : Oper} {r : R} (hsg : SigsOK P SG) (hwf : S.wf) (hh : HeapOK S hp) (hkey : ¬ S.used key) (hfr : FrOK S n fr a.tmps)
    (hr : opA P SG key hint o.op (evalA fr) (restr hp nd) = some r) (hc : AllP r.cond) : Out P S key (applyUpd hp r.upd) r.val ((execOp a.eval o).run P S.w) := by
  obtain ⟨dst, op, ty, pos, after, guard⟩ := o
  have ev := rep_eval hfr
  have noUpd : r.upd = [] → HeapOK S (applyUpd hp r.upd) := fun h => by rw [h]; exact hh
  cases op <;> simp only [opA, reduceCtorEq] at hr
  case move x =>
    cases hr
    exact Out.same hwf hh rfl (ev x)
  case assign x =>
    cases hr
    exact Out.same hwf hh rfl (ev x)
  case pick c x y =>
    split at hr
    · next hcv =>
      cases hr
      have h := ev c
      rw [hcv] at h
      obtain ⟨h, _⟩ := rep_v h
      exact Out.same hwf hh (by simp [execOp, h, asBool]) (ev x)
    · next hcv =>
      cases hr
      have h := ev c
      rw [hcv] at h
      obtain ⟨h, _⟩ := rep_v h
      exact Out.same hwf hh (by simp [execOp, h, asBool]) (ev y)
    · cases hr
  case alloc T =>
    split at hr
    · next z hz =>
      cases hr
      obtain ⟨v, h1, h2, h3⟩ := zeroCells_spec hz
      refine Out.val (S' := S.new key false S.w v.cells T 0 0) ?_ (new_cells hwf hh hkey h2 fun i hi => by obtain ⟨u, e1, e2, e3⟩ := h3 i hi; rw [e1, e2]; exact .v e3)
      simp [execOp, Instr.alloc, h1, run_newVar]
      rfl
    · cases hr
  case box T x =>
    split at hr
    · next sz hs =>
      split at hr
      · next cs hst =>
        cases hr
        obtain ⟨rfl, hj, hlen⟩ := stored_spec hst
        obtain ⟨h1, h2, h3⟩ := rep_cells (ev x) hj
        refine Out.val (S' := S.new key false S.w (a.eval x).cells T 0 0) ?_ (new_cells hwf hh hkey h1 h2)
        simp [execOp, Instr.box, run_newVar]
        rfl
      · cases hr
    · cases hr
  case build t parts =>
    split at hr
    · next z hz =>
      split at hr
      · next cs hb =>
        cases hr
        obtain ⟨v, h1, h2⟩ := build_run (P := P) hfr hz hb S.w
        exact Out.same hwf hh (by simp [execOp, h1]) h2
      · cases hr
    · cases hr
  case buildSlice t len parts =>
    obtain ⟨v, S', h1, h2⟩ := buildSlice_run (P := P) hwf hh hkey hfr hr
    exact Out.val (by simp [execOp, h1]) h2
  case load t x =>
    obtain ⟨h1, v, h2, h3⟩ := loadA_run (P := P) hh hr hc (ev x)
    exact Out.same hwf (noUpd h1) (by simp [execOp, h2]) h3
  case store t x y =>
    obtain ⟨S', h1, h2⟩ := storeA_run (P := P) (key := key) hwf hh hr hc (ev x) (ev y)
    have hval : r.val = .junk := by
      unfold storeA at hr
      repeat' split at hr
      all_goals first | (cases hr; rfl) | cases hr
    refine Out.skip (S' := S') (by simp [execOp, h1]) ?_
    exact h2
  case nilCheck x =>
    have h := ev x
    split at hr
    · next cs he =>
      cases hr
      rw [he] at h
      obtain ⟨ad, hv⟩ : ∃ ad, a.eval x = .pointer (some ad) := by
        generalize a.eval x = w at h
        cases h with
        | i _ _ h => cases h; exact ⟨_, rfl⟩
      exact Out.same hwf hh (by simp [execOp, hv]) (hv ▸ h)
    · next k i ver off he =>
      cases hr
      rw [he] at h
      obtain ⟨ad, hv⟩ : ∃ ad, a.eval x = .pointer (some ad) := by
        generalize a.eval x = w at h
        cases h with
        | i _ _ h => cases h
        | rp _ _ _ _ _ _ _ h => exact h
      exact Out.same hwf hh (by simp [execOp, hv]) (hv ▸ h)
    · next k off he =>
      cases hr
      rw [he] at h
      obtain ⟨ad, hv⟩ : ∃ ad, a.eval x = .pointer (some ad) := by
        generalize a.eval x = w at h
        cases h with
        | i _ _ h => cases h
        | ptr _ _ _ _ _ h => exact h
      exact Out.same hwf hh (by simp [execOp, hv]) (hv ▸ h)
    · next g as bs he =>
      cases hr
      rw [he] at h
      obtain ⟨fa, ca, hv⟩ : ∃ fa ca, a.eval x = .func (.func g) fa ca := by
        generalize a.eval x = w at h
        cases h with
        | i _ _ h => cases h; exact ⟨_, _, rfl⟩
        | fnv => exact ⟨_, _, rfl⟩
      exact Out.same hwf hh (by simp [execOp, hv]) (hv ▸ h)
    · cases hr
  case binOp bop t x y yt =>
    split at hr
    · next r' hb =>
      cases hr
      obtain ⟨v, h1, h2, h3, h4, h5⟩ := binA_run (P := P) hb hc (ev x) (ev y) S.w
      refine Out.same hwf (noUpd h3) ?_ (by rw [h1]; exact .v h2)
      simp [execOp, h5, h4]
    · obtain ⟨v, h1, h2, h3, h4, h5⟩ := nilA_run (P := P) hr (ev x) (ev y) S.w
      refine Out.same hwf (noUpd h3) ?_ (by rw [h1]; exact .v h2)
      simp [execOp, h5, h4]
  case unOp uop t x =>
    obtain ⟨v, h1, h2, h3, h4⟩ := unA_run (P := P) hr hc (ev x) S.w
    exact Out.same hwf (noUpd h3) (v := v) (by simp [execOp, h4]) (by rw [h1]; exact .v h2)
  case convert src dst' x =>
    obtain ⟨v, S', h1, h2⟩ := convA_run (P := P) (key := key) hwf hh hr hc (ev x)
    exact Out.val (by simp [execOp, h1]) h2
  case makeFunc f first captured =>
    cases hr
    refine Out.same hwf hh (v := .func f (first.map a.eval) (captured.map a.eval)) (by simp [execOp, Instr.makeFunc]) (.fnv _ _ _ _ _ (by simp) (fun i hi => ?_) (by simp) (fun i hi => ?_))
    · have hi' : i < first.size := by simpa using hi
      rw [Array.getD_eq_getD_getElem?, Array.getElem?_map, Array.getElem?_eq_getElem hi']
      simpa using ev first[i]
    · have hi' : i < captured.size := by simpa using hi
      rw [Array.getD_eq_getD_getElem?, Array.getElem?_map, Array.getElem?_eq_getElem hi']
      simpa using ev captured[i]
  case makeSlice t l c =>
    obtain ⟨v, S', h1, h2⟩ := makeSlice_run (P := P) hwf hh hkey (ev l) (ev c) hr hc
    exact Out.val (by simp [execOp, h1]) h2
  case slice t x lo hi mx =>
    obtain ⟨h1, v, h2, h3⟩ := sliceA_run (P := P) hh hr hc (ev x) (repO_map hfr lo) (repO_map hfr hi) (repO_map hfr mx)
    exact Out.same hwf (noUpd h1) (by simp [execOp, h2]) h3
  case fieldAddr t x f =>
    have h := ev x
    split at hr
    · next o cs ho he =>
      cases hr
      rw [he] at h
      obtain ⟨y, h1, h2⟩ := fieldAddr_run (P := P) ho h
      exact Out.same hwf hh (by simp [execOp, h1]) h2
    · next o k off ho he =>
      cases hr
      rw [he] at h
      obtain ⟨y, h1, h2⟩ := fieldAddr_run (P := P) ho h
      exact Out.same hwf hh (by simp [execOp, h1]) h2
    · next o k i ver off ho he =>
      cases hr
      rw [he] at h
      obtain ⟨y, h1, h2⟩ := fieldAddr_run (P := P) ho h
      exact Out.same hwf hh (by simp [execOp, h1]) h2
    · cases hr
  case field t x f =>
    have h := ev x
    split at hr
    · next fields cs ht he =>
      split at hr
      · next fd hf =>
        split at hr
        · next y hp =>
          cases hr
          rw [he] at h
          obtain ⟨arr, hv, hs, hrep⟩ := rep_agg h
          obtain ⟨u, h1, h2⟩ := partA_run (P := P) hp hs hrep S.w
          exact Out.same hwf hh (by simp [execOp, Instr.field, run_underlying ht, hf, hv, asAgg, h1]) h2
        · cases hr
      · cases hr
    · cases hr
  case indexAddr t x i =>
    obtain ⟨h1, v, h2, h3⟩ := indexAddrA_run (P := P) hh hr hc (ev x) (ev i)
    exact Out.same hwf (noUpd h1) (by simp [execOp, h2]) h3
  case index t x i =>
    obtain ⟨h1, v, h2, h3⟩ := indexA_run (P := P) hr hc (ev x) (ev i) S.w
    exact Out.same hwf (noUpd h1) (by simp [execOp, h2]) h3
  case extract x i =>
    have h := ev x
    split at hr
    · next vs he =>
      split at hr
      · next y hy =>
        cases hr
        rw [he] at h
        obtain ⟨u, h1, h2⟩ := extract_run (P := P) h hy S.w
        exact Out.same hwf hh (by simp [execOp, h1]) h2
      · cases hr
    · cases hr
  case call c =>
    obtain ⟨callee, args, argTypes⟩ := c
    have hargs : ∀ i (h1 : i < (args.toList.map a.eval).length) (h2 : i < (args.toList.map (evalA fr)).length), Rep S (args.toList.map a.eval)[i] (args.toList.map (evalA fr))[i] := fun i h1 h2 => by
      simp only [List.getElem_map]
      exact ev _
    cases callee with
    | builtin b =>
      simp only at hr
      obtain ⟨v, S', h1, h2⟩ := builtinA_run (P := P) (ty := ty) (vs := args.toList.map a.eval) (consts := args.map fun | .const _ => true | _ => false) hwf hh hkey hr hc (by simp) hargs
      refine Out.val (S' := S') ?_ h2
      simp only [execOp, resolve, invoke, Sem.run_bind, Sem.run_pure, Result.andThen_ok]
      have e : (args.toList.map a.eval).toArray = args.map a.eval := by apply Array.ext'; simp
      rw [e] at h1
      exact h1
    | value f =>
      simp only at hr
      obtain ⟨g, fa, ca, hv, hcall⟩ := callA_run (P := P) (key := key) (vs := args.toList.map a.eval) hsg hwf hh hr hc (ev f) (by simp) hargs
      have e : (args.toList.map a.eval).toArray = args.map a.eval := by apply Array.ext'; simp
      rw [e] at hcall
      have hrun : (execOp a.eval { dst, op := .call { callee := .value f, args, argTypes }, type := ty, pos, after, guard }).run P S.w = (callFunc g (fa ++ args.map a.eval ++ ca)).run P S.w := by
        simp [execOp, resolve, hv, Deferred.ofValue, invoke]
      rw [hrun]
      unfold CalledTo at hcall
      revert hcall
      cases (callFunc g (fa ++ args.map a.eval ++ ca)).run P S.w with
      | halt x w' => exact fun h => h
      | ok nx w' =>
        cases nx with
        | value v => exact fun h => h
        | enter f' args' => exact fun h => ⟨h.1, h.2.mono fun e w'' ⟨v, he, S', hS, hp⟩ => ⟨v, S', he, hS, hp⟩⟩
        | _ => exact fun h => h.elim
    | invoke r m => cases hr

end
end Go.Ev
