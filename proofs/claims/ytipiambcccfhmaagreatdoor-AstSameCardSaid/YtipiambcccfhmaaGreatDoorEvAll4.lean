/- An evaluator of the model's code, proved right. No condition. -/
import Derived.Test.YtipiambcccfhmaaGreatDoorEvAll3
import Derived.Carry
import Derived.SizedLaws
import Derived.ChangeMaps5
import Derived.OpenShut
import Derived.ProofKit
import Derived.WideMake
import Derived.Laws.Externs
set_option linter.unusedSimpArgs false
set_option linter.unusedVariables false
set_option linter.unusedSectionVars false
/- Whole functions to which objects are lent. -/
namespace Go.Ev
variable [Globs]

theorem KeysTo.mono {S S' : St} {g g' : Nat → Option Nat} (h : KeysTo S S' g') (hg : ∀ k j, g k = some j → g' k = some j) : KeysTo S S' g :=
  ⟨fun k j hj => h.key k j (hg k j hj), h.free⟩

theorem lentKeys_get (i n j : Nat) : (lentKeys i n)[j]? = if j < n then some (rsv + (i + j)) else none := by
  induction n generalizing i j with
  | zero => simp [lentKeys]
  | succ n ih =>
    cases j with
    | zero => simp [lentKeys]
    | succ j =>
      simp only [lentKeys, List.getElem?_cons_succ, ih]
      have : i + 1 + j = i + (j + 1) := by omega
      rw [this]
      by_cases h : j < n
      · rw [if_pos h, if_pos (by omega)]
      · rw [if_neg h, if_neg (by omega)]

theorem lentKeys_length (i n : Nat) : (lentKeys i n).length = n := by
  induction n generalizing i with
  | zero => rfl
  | succ n ih => simp [lentKeys, ih]

theorem lentKeys_mem {i n k : Nat} (h : k ∈ lentKeys i n) : rsv + i ≤ k := by
  obtain ⟨j, hj, rfl⟩ := List.getElem_of_mem h
  have := lentKeys_get i n j
  rw [List.getElem?_eq_getElem hj, lentKeys_length] at *
  rw [if_pos hj] at this
  have := Option.some.inj this
  omega

theorem lentKeys_nodup (i n : Nat) : (lentKeys i n).Nodup := by
  induction n generalizing i with
  | zero => simp [lentKeys]
  | succ n ih =>
    simp only [lentKeys, List.nodup_cons]
    exact ⟨fun h => by have := lentKeys_mem h; omega, ih _⟩

theorem startH_look {i : Nat} {os : List AObj} {k : Nat} {o : AObj} (h : look (startH i os) k = some o) : ∃ j, k = rsv + (i + j) ∧ os[j]? = some o := by
  induction os generalizing i with
  | nil => cases h
  | cons x r ih =>
    simp only [startH, look] at h
    split at h
    · next hb =>
      have := Nat.eq_of_beq_eq_true hb
      cases h
      exact ⟨0, by omega, rfl⟩
    · obtain ⟨j, h1, h2⟩ := ih h
      exact ⟨j + 1, by omega, by simpa using h2⟩

section
variable {m : Nat} {ex : List Nat}

/-- one new object at most, and none of the lent ones -/
theorem outRho_nodup (h1 : Nat.blt 1 ex.length = false) (h2 : ex.any (Nat.ble rsv) = false) : (lentKeys 0 m ++ ex).Nodup := by
  rw [List.nodup_append]
  refine ⟨lentKeys_nodup 0 m, ?_, fun a ha b hb e => ?_⟩
  · match ex, h1 with
    | [], _ => simp
    | [x], _ => simp
    | _ :: _ :: r, h =>
      have h3 : Nat.blt 1 (r.length + 1 + 1) = true := by rw [Nat.blt_eq]; omega
      exact absurd (h3.symm.trans h) (by simp)
  · subst e
    have h3 := lentKeys_mem ha
    have : ex.any (Nat.ble rsv) = true := List.any_eq_true.2 ⟨a, hb, by rw [Nat.ble_eq]; omega⟩
    rw [this] at h2
    cases h2

theorem outObjs_spec {hp : List (Nat × AObj)} {g : Nat → Option Nat} {ρ : List Nat} {os : List AObj} (h : outObjs g hp ρ = some os) : os.length = ρ.length ∧ ∀ (i k : Nat), ρ[i]? = some k → ∃ o o', look hp k = some o ∧ renO g o = some o' ∧ os[i]? = some o' := by
  induction ρ generalizing os with
  | nil => cases h; exact ⟨rfl, fun i k h => by simp at h⟩
  | cons j r ih =>
    unfold outObjs at h
    split at h
    · next o ho =>
      split at h
      · next o' os' h1 h2 =>
        cases h
        obtain ⟨a1, a2⟩ := ih h2
        refine ⟨by simp [a1], fun i k hk => ?_⟩
        cases i with
        | zero => simp at hk; subst hk; exact ⟨o, o', ho, h1, rfl⟩
        | succ i => exact a2 i k (by simpa using hk)
      · cases h
    · cases h

theorem loose_rep' {S : St} {v : Value} {x : AV} (ti : Bool) (h : Rep S v x) : Rep S v (loose ti x) := by
  have one : ∀ {v : Value} {x : AV}, Rep S v x → Rep S v (loose1 ti x) := by
    intro v x h
    unfold loose1
    split
    · next sz q t =>
      cases h with
      | i _ _ h => exact .i _ _ (by have := loose1_rep ti h; exact this)
    · exact h
  unfold loose
  split
  · next cs =>
    obtain ⟨arr, rfl, hs, hr⟩ := rep_agg h
    refine .agg arr _ (by simpa using hs) fun i hi => ?_
    simp only [List.getElem_map]
    exact one (hr i (by simpa using hi))
  · exact one h
end

section
variable {P : Program} {SG : SGT} {m : Nat} {ex : List Nat}

theorem resS_rep {ti : Bool} {A : AS} {t : TypeId} {r : ResultVar} {y : AV} {c : List Prop} {kk ks : List Nat} {S : St} {a : Act} {ρ : List Nat} (hR : Rel S A a) (hK : KeysTo S ((S.lent ks).view ρ) (outK m ex)) (h : resS P m ex ti A t r = some (y, c, kk)) (hc : AllP c) (hks : ∀ k, k ∈ kk → k ∈ ks) :
    ∃ s, r = .tmp s ∧ Rep ((S.lent ks).view ρ) (a.tmps.getD s undef) y := by
  unfold resS at h
  split at h
  · next s =>
    split at h
    · next x hx =>
      split at h
      · next x' c' kk' hs =>
        cases h
        refine ⟨s, rfl, loose_rep' ti ?_⟩
        have hr := (hR.fr s x hx).2
        unfold resS1 at hs
        split at hs
        · next y hy => cases hs; exact hK.rep hy hr
        · have := snap_rep (ks := ks) hR.wf hR.hp hs hc hr hks
          exact .i _ _ (this.ext fun b _ hb => ⟨rfl, view_none.2 hb⟩)
      · cases h
    · cases h
  · cases h

theorem resSs_rep {ti : Bool} {A : AS} {ks : List Nat} {S : St} {a : Act} {ρ : List Nat} (hR : Rel S A a) (hK : KeysTo S ((S.lent ks).view ρ) (outK m ex)) : ∀ (rs : List ResultVar) (ts : List TypeId) (ys : List AV) (c : List Prop) (kk : List Nat), resSs P m ex ti A ts rs = some (ys, c, kk) → AllP c → (∀ k, k ∈ kk → k ∈ ks) →
    (∀ r, r ∈ rs → ∃ s, r = .tmp s) ∧ RepsS ((S.lent ks).view ρ) (rs.map fun r => a.tmps.getD (tmpOf r) undef) ys
  | [], ts, ys, c, kk, h, _, _ => by
    unfold resSs at h
    cases h
    exact ⟨fun r hr => (by cases hr), rfl, fun i h1 h2 => absurd h2 (by simp)⟩
  | r :: rs, ts, ys, c, kk, h, hc, hks => by
    unfold resSs at h
    split at h
    · next x c1 k1 xs c2 k2 h1 h2 =>
      cases h
      have hc := allP_append hc
      obtain ⟨s, rfl, h3⟩ := resS_rep hR hK h1 hc.1 fun k hk => hks k (List.mem_append_left _ hk)
      obtain ⟨h4, h5⟩ := resSs_rep hR hK rs _ _ _ _ h2 hc.2 fun k hk => hks k (List.mem_append_right _ hk)
      refine ⟨fun r hr => ?_, by have := h5.1; simpa using this, fun i g1 g2 => ?_⟩
      · rcases List.mem_cons.1 hr with rfl | hr
        · exact ⟨s, rfl⟩
        · exact h4 r hr
      · cases i with
        | zero => exact h3
        | succ i => exact h5.2 i (by simpa using g1) (by simpa using g2)
    · cases h

theorem startS_rel {S : St} {fn : Func} {os : List AObj} {vals : List Value} {ys : List AV} (hwf : S.wf) (ho : ObjsOK S os) (hu : ∀ k, S.used k → ∃ i, i < os.length ∧ k = rsv + i) (hr : RepsS S vals ys) :
    Rel S (startS fn os ys) { tmps := vals.toArray ++ Array.replicate (fn.ntmps - vals.toArray.size) undef, defers := [] } := by
  refine ⟨hwf, ?_, rfl, fun t x hx => ?_, fun k o hk => ?_, fun k hk => ?_⟩
  · simp [startS, hr.1]
  · obtain ⟨j, h1, h2, h3⟩ := look_argsFr hx
    simp only [Nat.zero_add] at h2
    subst h2
    refine ⟨by simp only [startS]; omega, ?_⟩
    have hj : t < vals.length := by rw [hr.1]; exact h1
    have := hr.2 t hj h1
    rw [List.getElem?_eq_getElem h1] at h3
    cases h3
    have e : (vals.toArray ++ Array.replicate (fn.ntmps - vals.toArray.size) undef).getD t undef = vals[t] := by
      rw [Array.getD_eq_getD_getElem?, Array.getElem?_append_left (by simpa using hj)]
      simp [hj]
    show Rep S ((vals.toArray ++ Array.replicate (fn.ntmps - vals.toArray.size) undef).getD t undef) _
    rw [e]
    exact this
  · obtain ⟨j, rfl, hj⟩ := startH_look hk
    rw [Nat.zero_add]
    exact ho j o hj
  · obtain ⟨i, _, rfl⟩ := hu k hk
    exact .inr (by omega)

/-- **A FUNCTION TO WHICH OBJECTS ARE LENT IS WHAT THE EVALUATOR SAYS.** -/
theorem evFn_shared {f : FuncId} {fn : Func} {ti : Bool} {ex : List Nat} {hs : List CHint} {os os' : List AObj} {ys : List AV} {r : AV} {c : List Prop} (hm : P.follows .mixedOrders = true) (hsg : SigsOK P SG) (hf : P.funcs[f]? = some fn) (hn : (fn.name == "runtime.NumGoroutine") = false)
    (h : evFnS P SG (LoopTo P) ti ex fn hs os ys = some (r, os', c)) (hc : AllP c) : SharedTo P f os ys r os' := by
  unfold evFnS at h
  split at h
  · cases h
  · next code hb =>
    have fin : ∀ e A c1 rs c2 ks, evCode P SG (LoopTo P) code hs (startS fn os ys) = some (e, A, c1, []) → (e = .ret ∨ e = .normal) → resSs P os.length ex ti A fn.resultTypes.toList fn.results.toList = some (rs, c2, ks) →
        outObjs (outK os.length ex) A.hp (lentKeys 0 os.length ++ ex) = some os' → (ks.any (fun k => (lentKeys 0 os.length ++ ex).any (Nat.beq k)) || Nat.blt 1 ex.length || ex.any (Nat.ble rsv)) = false → AllP c1 → AllP c2 →
        (∀ (S : St) (l : List Value), RepsS S l rs → Rep S (packed l) r) → SharedTo P f os ys r os' := by
      intro e A c1 rs c2 ks h1 he h2 h3 h4 hc1 hc2 hpack S vals hwf ho hu hr
      simp only [Bool.or_eq_false_iff] at h4
      obtain ⟨⟨h4, h5⟩, h6⟩ := h4
      have hrun : (callFunc f vals.toArray).run P S.w = .ok (.enter f vals.toArray) S.w := by
        have hn' : fn.name ≠ "runtime.NumGoroutine" := by simpa using hn
        simp [callFunc, hf, hn', hb]
      unfold CalledTo
      rw [hrun]
      refine ⟨rfl, calls_of_wp hf hb ?_⟩
      have := ev_to hm hsg code _ _ _ _ _ _ h1 hc1 S _ (startS_rel (fn := fn) hwf ho hu hr)
      refine wp_mono this fun e1 a1 w1 hg => ?_
      obtain ⟨rfl, S', rfl, hk, hR⟩ := hg
      have hnd := outRho_nodup (m := os.length) h5 h6
      have hdis : ∀ k, k ∈ lentKeys 0 os.length ++ ex → k ∉ ks := fun k hk' hks => by
        have : (ks.any fun k => (lentKeys 0 os.length ++ ex).any (Nat.beq k)) = true := List.any_eq_true.2 ⟨k, hks, List.any_eq_true.2 ⟨k, hk', Nat.beq_refl k⟩⟩
        rw [this] at h4
        cases h4
      have hK0 := lent_keys (ks := ks) hnd hR.wf hdis
      have hK : KeysTo S' ((S'.lent ks).view (lentKeys 0 os.length ++ ex)) (outK os.length ex) := hK0
      obtain ⟨h7, h8⟩ := resSs_rep hR hK _ _ _ _ _ h2 hc2 fun k h => h
      have hres := results_run (P := P) (fn := fn) (tmps := a1.tmps) (w := S'.w) h7
      obtain ⟨g1, g2⟩ := outObjs_spec h3
      have hfr : ∀ i, i < os.length → fromR (lentKeys 0 os.length ++ ex) (rsv + i) = some (rsv + i) := fun i hi => by
        rw [fromR_add, List.getElem?_append_left (by rw [lentKeys_length]; exact hi), lentKeys_get, if_pos hi, Nat.zero_add]
      have kept : Kept S ((S'.lent ks).view (lentKeys 0 os.length ++ ex)) := by
        refine ⟨hk.size, hk.os, hk.tape, hk.output, fun b hb hown => ?_, fun k hk1 hk2 => ?_⟩
        · obtain ⟨p1, p2⟩ := hk.old b hb hown
          refine ⟨p1, ?_⟩
          rw [← p2]
          cases hs : S'.own b with
          | none => exact view_none.2 (lend_free hs)
          | some o =>
            cases o with
            | some k => rw [hs] at p2; exact absurd p2.symm (hown k)
            | none =>
              have h2 : (S'.lent ks).own b = some none := by
                show (match S'.own b with | some (some k) => if k ∈ ks then none else some (some k) | o => o) = _
                rw [hs]
              show (match (S'.lent ks).own b with | some (some k) => _ | o => o) = _
              rw [h2]
        · obtain ⟨i, hi, rfl⟩ := hu k hk2
          obtain ⟨p1, p2⟩ := hk.res (rsv + i) hk1 hk2
          refine ⟨⟨_, hfr i hi, p1⟩, fun ⟨k', hk', hl⟩ => ?_⟩
          rw [hfr i hi] at hk'
          cases hk'
          obtain ⟨q1, q2⟩ := p2 hl.1
          have kt := view_keyTo (S := S'.lent ks) hnd (i := i) (k := rsv + i) (by rw [← fromR_add]; exact hfr i hi)
          have e1 : ((S'.lent ks).view (lentKeys 0 os.length ++ ex)).len (rsv + i) = S'.len (rsv + i) := kt.len
          have e2 : ((S'.lent ks).view (lentKeys 0 os.length ++ ex)).cur (rsv + i) = S'.cur (rsv + i) := kt.cur
          exact ⟨q1, kt.isRow.trans q2.isRow, kt.sz.trans q2.sz, by rw [e1]; exact q2.len, fun e => by rw [e1] at e; rw [e2]; exact q2.cur e, fun e => by rw [e2]; exact q2.var e, fun e b hb => by rw [e1] at e; exact q2.size e b hb⟩
      have hfin : ∃ v, packed (fn.results.toList.map fun r => a1.tmps.getD (tmpOf r) undef) = v ∧ ∃ S'', S''.w = S'.w ∧ S''.wf ∧ Kept S S'' ∧ ObjsOK S'' os' ∧ Rep S'' v r := by
        refine ⟨_, rfl, (S'.lent ks).view (lentKeys 0 os.length ++ ex), rfl, view_wf hnd (lend_wf hR.wf), kept, fun i o' hi => ?_, hpack _ _ h8⟩
        have hilt : i < (lentKeys 0 os.length ++ ex).length := by
          rcases Nat.lt_or_ge i os'.length with h | h
          · omega
          · rw [List.getElem?_eq_none h] at hi; cases hi
        have hik : (lentKeys 0 os.length ++ ex)[i]? = some (lentKeys 0 os.length ++ ex)[i] := by simp [hilt]
        obtain ⟨o, o'', q1, q2, q3⟩ := g2 i _ hik
        rw [q3] at hi
        cases hi
        obtain ⟨r1, r2, r3⟩ := hR.hp _ _ q1
        have hf' : fromR (lentKeys 0 os.length ++ ex) (rsv + i) = some (lentKeys 0 os.length ++ ex)[i] := by rw [fromR_add]; exact hik
        have hlive : ((S'.lent ks).view (lentKeys 0 os.length ++ ex)).live (rsv + i) := ⟨_, hf', r2, hdis _ (List.getElem_mem hilt)⟩
        have hto : toR (lentKeys 0 os.length ++ ex) (lentKeys 0 os.length ++ ex)[i] = some (rsv + i) := by unfold toR; rw [keyIx_of hnd hik]
        exact ⟨⟨_, hf', r1⟩, hlive, hK0.obj q2 hto hlive false (view_floor (S := S'.lent ks) hik) r3⟩
      obtain ⟨v, rfl, S'', hw, hrest⟩ := hfin
      rcases he with rfl | rfl
      · exact ⟨hR.defers, _, hres, _, rfl, S'', hw, hrest⟩
      · exact ⟨hR.defers, _, hres, _, rfl, S'', hw, hrest⟩
    have packs : ∀ (rs : List AV) (c0 : List Prop) (q : AV × List AObj × List Prop), (match rs with | [r] => some (r, os', c0) | rs => some (AV.tup rs, os', c0)) = some q → ∀ (S : St) (l : List Value), RepsS S l rs → Rep S (packed l) q.1 := by
      intro rs c0 q hq S l hl
      match rs, l, hl with
      | [x], [v], hl => cases hq; exact hl.2 0 (by simp) (by simp)
      | [], [], hl => cases hq; exact .tup _ _ rfl fun i hi => absurd hi (by simp)
      | x :: y :: xs, v :: u :: l, hl =>
        cases hq
        refine .tup _ _ (by simpa using hl.1) fun i hi => ?_
        have := hl.2 i (by rw [hl.1]; exact hi) hi
        rw [Array.getD_eq_getD_getElem?, List.getElem?_toArray, List.getElem?_eq_getElem (by rw [hl.1]; exact hi)]
        exact this
      | [x], [], hl => exact absurd hl.1 (by simp)
      | [x], _ :: _ :: _, hl => exact absurd hl.1 (by simp)
      | [], _ :: _, hl => exact absurd hl.1 (by simp)
      | _ :: _ :: _, [], hl => exact absurd hl.1 (by simp)
      | _ :: _ :: _, [_], hl => exact absurd hl.1 (by simp)
    have conds : ∀ (rs : List AV) (os1 : List AObj) (c0 : List Prop), (match rs with | [r] => some (r, os1, c0) | rs => some (AV.tup rs, os1, c0)) = some (r, os', c) → os1 = os' ∧ c0 = c := by
      intro rs os1 c0 h
      split at h <;> (cases h; exact ⟨rfl, rfl⟩)
    have last : ∀ e A c1, evCode P SG (LoopTo P) code hs (startS fn os ys) = some (e, A, c1, []) → (e = .ret ∨ e = .normal) →
        (match resSs P os.length ex ti A fn.resultTypes.toList fn.results.toList, outObjs (outK os.length ex) A.hp (lentKeys 0 os.length ++ ex) with
          | some (rs, c', ks), some os1 =>
            match ks.any (fun k => (lentKeys 0 os.length ++ ex).any (Nat.beq k)) || Nat.blt 1 ex.length || ex.any (Nat.ble rsv) with
            | true => none
            | false => match rs with
              | [r] => some (r, os1, c1 ++ c')
              | rs => some (.tup rs, os1, c1 ++ c')
          | _, _ => none) = some (r, os', c) → SharedTo P f os ys r os' := by
      intro e A c1 h1 he h
      split at h
      · next rs c2 ks os1 h2 h3 =>
        split at h
        · cases h
        · next h4 =>
          obtain ⟨rfl, rfl⟩ := conds _ _ _ h
          have hc := allP_append hc
          exact fin e A c1 rs c2 ks h1 he h2 h3 h4 hc.1 hc.2 (packs rs _ _ h)
      · cases h
    split at h
    · next A c1 h1 => exact last _ A c1 h1 (.inl rfl) h
    · next A c1 h1 => exact last _ A c1 h1 (.inr rfl) h
    · cases h

/-- a slice that is nil, or empty, or not empty -/
theorem PureTo.nil_split {f : FuncId} {ys zs : List AV} {sz : Nat} {q : Seq AV} {t : Bool} {r : AV} (h0 : q.len = 0 → PureTo P f (ys ++ .v (.slice none 0 0) :: zs) r) (h1 : q.len = 0 → PureTo P f (ys ++ .sle :: zs) r) (h2 : 0 < q.len → PureTo P f (ys ++ .sl sz q t :: zs) r) :
    PureTo P f (ys ++ .sl sz q t :: zs) r := by
  rcases Nat.eq_zero_or_pos q.len with hq | hq
  · intro S vals hwf hr
    have hj : ys.length < (ys ++ AV.sl sz q t :: zs).length := by simp
    have hv : ys.length < vals.length := by rw [hr.1]; exact hj
    have h := hr.2 ys.length hv hj
    have e : (ys ++ AV.sl sz q t :: zs)[ys.length] = .sl sz q t := by simp
    rw [e] at h
    have other : ∀ x, RepI S.w S.free vals[ys.length] x → RepIs S.w S.free vals (ys ++ x :: zs) := by
      intro x hx
      refine ⟨by rw [hr.1]; simp, fun i g1 g2 => ?_⟩
      by_cases hi : i = ys.length
      · subst hi
        have e2 : (ys ++ x :: zs)[ys.length] = x := by simp
        rw [e2]
        exact hx
      · have g3 : i < (ys ++ AV.sl sz q t :: zs).length := by simpa using g2
        have h3 := hr.2 i g1 g3
        have e3 : (ys ++ x :: zs)[i] = (ys ++ AV.sl sz q t :: zs)[i] := by
          rcases Nat.lt_or_ge i ys.length with hl | hl
          · simp [List.getElem_append_left hl]
          · rw [List.getElem_append_right hl, List.getElem_append_right hl]
            obtain ⟨d, hd⟩ : ∃ d, i - ys.length = d + 1 := ⟨i - ys.length - 1, by omega⟩
            simp only [hd, List.getElem_cons_succ]
        rw [e3]
        exact h3
    generalize hvv : vals[ys.length] = v at h other
    cases h with
    | slNil => exact h0 hq S vals hwf (other _ (.v _ trivial))
    | sl ad n c _ _ _ u hn =>
      have hn0 : n = 0 := by omega
      subst hn0
      exact h1 hq S vals hwf (other _ (.sle ad c))
  · exact h2 hq

end
end Go.Ev

/- From a contract to a law's row: what stands in memory reads behind the call as before; how arguments are read. -/
namespace Go.Ev
variable [Globs]
open Go.ChangeShapes Go.WideShapes Go.ChangeAt Go.RowKit

theorem Grows.below {w w' : World} (h : Grows w w') : Below w.heap.size w w' := ⟨h.os, h.tape, h.output, h.size, h.block⟩

/-- nobody owns anything -/
def St.all (w : World) : St :=
  { w := w, own := fun _ => none, cur := fun _ => none, len := fun _ => 0, sz := fun _ => 0, floor := fun _ => 0, isRow := fun _ => false, live := fun _ => False, used := fun _ => False }

/-- a world that holds the package-level tables -/
def GlobW (w : World) : Prop := Glob (St.all w)

theorem all_wf (w : World) (hg : GlobW w) : (St.all w).wf := ⟨fun b o h => (by cases h), fun k h => h.elim, fun k h => h.elim, hg⟩

section
variable {P : Program}

/-- a law's call -/
theorem PureTo.calls {f : FuncId} {fn : Func} {code : Code} {ys : List AV} {vals : List Value} {W : World} (h : PureTo P f ys (.v (.bool true))) (hf : P.funcs[f]? = some fn) (hb : fn.body = some code) (hn : (fn.name == "runtime.NumGoroutine") = false) (hgl : GlobW W)
    (hr : RepIs W (fun _ => True) vals ys) : Calls P f vals.toArray W fun e W' => e = .returned (.bool true) ∧ Grows W W' := by
  have h1 := h (St.all W) vals (all_wf W hgl) ⟨hr.1, fun i h1 h2 => (hr.2 i h1 h2).mono fun b _ => rfl⟩
  have hn' : fn.name ≠ "runtime.NumGoroutine" := by simpa using hn
  have hrun : (callFunc f vals.toArray).run P W = .ok (.enter f vals.toArray) W := by simp [callFunc, hf, hn', hb]
  unfold CalledTo at h1
  rw [show (St.all W).w = W from rfl, hrun] at h1
  refine h1.2.mono fun e W' ⟨v, he, hg, hv⟩ => ?_
  obtain ⟨rfl, _⟩ := repI_v hv
  exact ⟨he, hg⟩

variable {H : Type} {enc : TypeId × Value → H}

theorem trodAll_stays (hl : laidOutB P = true) {W W' : World} (hg : Grows W W') : ∀ {ts : List TypeId} {vs : List Value} {ds : List (DataW H)} {ps : List MemPlace}, (ts.all fun t => P.readableRec t && decide (t < P.types.size)) = true →
    DataW.TrodAll enc P W 0 (fun _ => true) true ts vs ds ps → (∀ x ∈ ps, x.block < W.heap.size) → DataW.TrodAll enc P W' 0 (fun b => decide (b < W.heap.size)) true ts vs ds ps
  | [], vs, ds, ps, _, h, _ => by
    obtain ⟨rfl, rfl, rfl⟩ := trodAll_nil h
    exact trodAll_mk0
  | t :: ts, vs, ds, ps, ht, h, hlt => by
    simp only [List.all_cons, Bool.and_eq_true, decide_eq_true_eq] at ht
    obtain ⟨v, vs', d, ds', p, q, rfl, rfl, rfl, h1, h2⟩ := trodAll_cons h
    exact ⟨p, q, Below.trod hl ht.1.1 ht.1.2 h1 hg.below fun x hx => hlt x (List.mem_append_left _ hx), trodAll_stays hl hg ht.2 h2 fun x hx => hlt x (List.mem_append_right _ hx), rfl⟩

/-- what a law's row asks behind the call -/
theorem post_true {fn : Func} {s : ChangeSpec} {tb : TypeId} {W W' : World} {args : Array Value} {ds gs : List (DataW H)} {before : List MemPlace} (hl : laidOutB P = true) (hts : (fn.params.toList.all fun t => P.readableRec t && decide (t < P.types.size)) = true)
    (hv : s.vars = []) (hres : fn.resultTypes = #[tb]) (htb : P.underlying tb = some .bool) (hW : DataW.Whole enc P fn.params.toList s.vars false W args.toList ds gs before)
    (hs : s.fn H ds = { results := [.lit (.bool true)], args := ds }) (hg : Grows W W') : s.post enc P fn false true false false W args (.bool true) W' := by
  have hW' := hW
  obtain ⟨p, q, hA, hV, rfl, hfz, hnd⟩ := hW
  rw [hv] at hV
  obtain ⟨rfl, rfl⟩ := trodVars_none hV
  have hlt : ∀ x ∈ p, x.block < W.heap.size := fun x hx => hW'.lt x (by simpa using hx)
  have hs' : s.fn H (ds ++ []) = { results := [.lit (.bool true)], args := ds } := by rw [List.append_nil]; exact hs
  refine ⟨ds, [], p ++ [], [], p, [], hW', ?_, ?_, ?_, ?_, fun h => by cases h⟩
  · rw [hs', hres]
    exact trodAll_mk1 (shut_bool htb true)
  · rw [hs']
    exact trodAll_stays hl hg hts hA hlt
  · rw [hs', hv]
    exact rfl
  · exact hg.below.frame _

/-! ### how arguments are read -/

theorem inR_of_wf {k : IntKind} {n : Int} (h : (Lit.int k n).wf = true) : inR k n := by
  cases k <;> simp [Lit.wf, IntKind.min, IntKind.max, IntKind.signed, IntKind.bits] at h <;> simp only [inR] <;> omega

theorem read_int {t : TypeId} {k : IntKind} {v : Value} {d : DataW H} {ps : List MemPlace} {W : World} {base : Nat} {b0 : Nat} {r : Reach} {sp : Nat → Bool} {hd : Bool} (ht : P.underlying t = some (.int k)) (hval : Value.okWide P W r b0 t v) (h : DataW.Trod enc P W base sp hd t v d ps) :
    ∃ n, v = .int k n ∧ d = .lit (.int k n) ∧ inR k n := by
  obtain ⟨n, h1, h2, _, h4⟩ := open_int ht hval h
  exact ⟨n, h1, h2, inR_of_wf h4⟩

theorem read_ints {t e : TypeId} {k : IntKind} {v : Value} {d : DataW H} {ps : List MemPlace} {W : World} {base : Nat} {b0 : Nat} {r : Reach} {sp : Nat → Bool} {hd : Bool} (ht : P.underlying t = some (.slice e)) (he : P.underlying e = some (.int k)) (hc : P.cellsOf e = 1)
    (hval : Value.okWide P W r b0 t v) (h : DataW.Trod enc P W base sp hd t v d ps) :
    ∃ l, RepI W (fun _ => True) v (.sl 1 (.ints k l) false) ∧ (∀ x, x ∈ l → inR k x) ∧ (l = [] ∨ ∃ spare, d = .slice (lits k l) spare) := by
  obtain ⟨a, len, cap, rfl⟩ := okWide_slice ht hval
  obtain ⟨fuel, hf⟩ := h
  have hcs : (Value.slice a len cap).cells.toList = [.slice a len cap] := rfl
  rw [hcs] at hf
  rcases open_ints ht he hc hf with ⟨h1, h2⟩ | ⟨a', len', cap', zs, h1, h2, h3, h4, h5, h6, h7, h8⟩
  · simp only [List.cons.injEq, Value.slice.injEq, and_true] at h1
    obtain ⟨rfl, rfl, rfl⟩ := h1
    exact ⟨[], .slNil _ _ _ rfl, fun x hx => (by cases hx), .inl rfl⟩
  · simp only [List.cons.injEq, Value.slice.injEq, and_true] at h1
    obtain ⟨rfl, rfl, rfl⟩ := h1
    have hz : len ≤ zs.length := by rw [h5]; split <;> omega
    have hlen : (zs.take len).length = len := by simp; omega
    refine ⟨zs.take len, .sl a' len cap 1 (.ints k (zs.take len)) false (fun i _ => .int k ((zs.take len).getD i 0)) hlen.symm (by show (zs.take len).length ≤ cap; omega) (fun h => (by cases h)) (by omega) (fun _ => trivial) (fun i hi => rfl) (fun i j hi hj => ?_) (fun i j hi hj => ?_),
      fun x hx => inR_of_wf (h8 x (List.mem_of_mem_take hx)), .inr ⟨lits k (zs.drop len), ?_⟩⟩
    · have hi' : i < len := by rw [← hlen]; exact hi
      have hj0 : j = 0 := by omega
      subst hj0
      refine ⟨?_, trivial⟩
      have := h7 i (by omega)
      rw [Nat.mul_one, Nat.add_zero, this]
      simp [List.getD_eq_getElem?_getD, hi', show i < zs.length by omega]
    · have hj0 : j = 0 := by simpa [Seq.get, AV.cells] using hj
      subst hj0
      exact .v _ trivial
    · simp only [Prod.mk.injEq] at h6
      exact h6.1

theorem ints_len {ts : List TypeId} {ds : List (DataW H)} {j b : Nat} {t e : TypeId} {k : IntKind} {l : List Int} {d : DataW H} (hsz : (DataW.weightsEach P ts ds).all (· ≤ reachBytes) = true) (ht : ts[j]? = some t) (hd : ds[j]? = some d) (hu : P.underlying t = some (.slice e)) (hb : P.bytesOf e = b)
    (h : l = [] ∨ ∃ spare, d = .slice (lits k l) spare) : l.length * b ≤ 140737488351232 := by
  rcases h with rfl | ⟨spare, rfl⟩
  · rw [List.length_nil, Nat.zero_mul]; exact Nat.zero_le _
  · have h1 := sized_slice hsz ht hd hu
    rw [hb] at h1
    have h2 : (lits (H := H) k l).length = l.length := by simp [lits]
    rw [h2] at h1
    have h3 : l.length * b ≤ (l.length + spare.length) * b := Nat.mul_le_mul_right _ (by omega)
    have h4 : reachBytes = 140737488351232 := by decide
    omega

theorem string_len {ts : List TypeId} {ds : List (DataW H)} {j : Nat} {t : TypeId} {s : ByteArray} {d : DataW H} (hsz : (DataW.weightsEach P ts ds).all (· ≤ reachBytes) = true) (ht : ts[j]? = some t) (hd : ds[j]? = some d) (h : d = .lit (.string s.data.toList)) : s.size ≤ 140737488351232 := by
  subst h
  have h1 := sized_string hsz ht hd
  have h2 : s.data.toList.length = s.size := by rw [Array.length_toList]; rfl
  have h4 : reachBytes = 140737488351232 := by decide
  omega

theorem read_string {t : TypeId} {v : Value} {d : DataW H} {ps : List MemPlace} {W : World} {base : Nat} {b0 : Nat} {r : Reach} {sp : Nat → Bool} {hd : Bool} (ht : P.underlying t = some .string) (hval : Value.okWide P W r b0 t v) (h : DataW.Trod enc P W base sp hd t v d ps) :
    ∃ s : ByteArray, v = .string s ∧ d = .lit (.string s.data.toList) ∧ s.size ≤ maxLen := by
  obtain ⟨s, h1, h2, _, h4⟩ := Go.ChangeMaps.open_string ht hval h
  exact ⟨s, h1, h2, h4⟩

theorem read_bool {t : TypeId} {v : Value} {d : DataW H} {ps : List MemPlace} {W : World} {base : Nat} {b0 : Nat} {r : Reach} {sp : Nat → Bool} {hd : Bool} (ht : P.underlying t = some .bool) (hval : Value.okWide P W r b0 t v) (h : DataW.Trod enc P W base sp hd t v d ps) :
    ∃ b : Bool, v = .bool b ∧ d = .lit (.bool b) := by
  obtain ⟨b, h1, h2, _⟩ := open_bool ht hval h
  exact ⟨b, h1, h2⟩

end
end Go.Ev

/- Closed runs: the conditions of an operation, decided; definitions, and that they are right. -/
set_option maxRecDepth 20000
namespace Go.Ev
open Go

/-! ### deciders -/
def inRb : IntKind → Int → Bool
  | .i8, n => decide (-128 ≤ n) && decide (n ≤ 127)
  | .i16, n => decide (-32768 ≤ n) && decide (n ≤ 32767)
  | .i32, n => decide (-2147483648 ≤ n) && decide (n ≤ 2147483647)
  | .i64, n => decide (-9223372036854775808 ≤ n) && decide (n ≤ 9223372036854775807)
  | .u8, n => decide (0 ≤ n) && decide (n ≤ 255)
  | .u16, n => decide (0 ≤ n) && decide (n ≤ 65535)
  | .u32, n => decide (0 ≤ n) && decide (n ≤ 4294967295)
  | .u64, n => decide (0 ≤ n) && decide (n ≤ 18446744073709551615)
theorem inRb_ok {k : IntKind} {n : Int} (h : inRb k n = true) : inR k n := by
  cases k <;> simpa [inRb, inR] using h

def okAr (h : Option Hint) (k : IntKind) (n : Int) : Bool :=
  match h with
  | some .wrap => true
  | _ => inRb k n
theorem okAr_ok {h : Option Hint} {k : IntKind} {n : Int} (ho : okAr h k n = true) : AllP (arith h k n).cond := by
  unfold okAr at ho
  unfold arith
  split at ho
  · exact trivial
  · next hne =>
    split
    · exact absurd rfl hne
    · exact ⟨inRb_ok ho, trivial⟩

def okInt (h : Option Hint) (op : BinOp) (k : IntKind) (a b : Int) : Bool :=
  match op with
  | .add => okAr h k (a + b)
  | .sub => okAr h k (a - b)
  | .mul => okAr h k (a * b)
  | .quo => decide (b ≠ 0) && okAr h k (a.tdiv b)
  | .rem => decide (b ≠ 0)
  | .shl => decide (0 ≤ b) && okAr h k (a * 2 ^ (min b.toNat k.bits))
  | .shr => decide (0 ≤ b)
  | _ => true
def okStr (op : BinOp) (a b : ByteArray) : Bool :=
  match op with
  | .add => decide (((a.size + b.size : Nat) : Int) ≤ 9223372036854775807)
  | _ => true
def okBin (h : Option Hint) (op : BinOp) (x y : AV) : Bool :=
  match x, y with
  | .v (.int k a), .v (.int _ b) => okInt h op k a b
  | .v (.string a), .v (.string b) => okStr op a b
  | .sl _ q _, _ => decide (0 < q.len)
  | _, _ => true
theorem all_vR {x : Value} {r : R} (h : vR x = some r) : AllP r.cond := by cases h; exact trivial
theorem all_aR {x : AV} {r : R} (h : aR x = some r) : AllP r.cond := by cases h; exact trivial
theorem intOp_ok {h : Option Hint} {op : BinOp} {k : IntKind} {a b : Int} {r : R} (ho : okInt h op k a b = true) (hr : intOp h op k a b = some r) : AllP r.cond := by
  cases op <;> simp only [intOp, okInt, Bool.and_eq_true, decide_eq_true_eq] at ho hr <;> first
    | (cases hr; exact okAr_ok ho)
    | (cases hr; exact ⟨ho.1, okAr_ok ho.2⟩)
    | (cases hr; exact ⟨ho, trivial⟩)
    | exact all_vR hr
    | cases hr
theorem shiftOp_ok {h : Option Hint} {op : BinOp} {k : IntKind} {a b : Int} {r : R} (ho : okInt h op k a b = true) (hr : shiftOp h op k a b = some r) : AllP r.cond := by
  cases op <;> simp only [shiftOp, okInt, Bool.and_eq_true, decide_eq_true_eq] at ho hr <;> first
    | (cases hr; exact ⟨ho.1, okAr_ok ho.2⟩)
    | (cases hr; exact ⟨ho, trivial⟩)
    | cases hr
theorem strOp_ok {h : Option Hint} {op : BinOp} {a b : ByteArray} {r : R} (ho : okStr op a b = true) (hr : strOp h op a b = some r) : AllP r.cond := by
  cases op <;> simp only [strOp, okStr, decide_eq_true_eq] at ho hr <;> first
    | (cases hr; exact ⟨ho, trivial⟩)
    | exact all_vR hr
    | cases hr
theorem floatOp_ok {op : BinOp} {k : FloatKind} {a b : Nat} {r : R} (hr : floatOp op k a b = some r) : AllP r.cond := by
  cases op <;> simp only [floatOp] at hr <;> first | exact all_vR hr | cases hr
theorem fbinA_ok {op : BinOp} {x y : AV} {r : R} (hr : fbinA op x y = some r) : AllP r.cond := by
  unfold fbinA at hr
  split at hr
  · split at hr <;> first | exact all_aR hr | exact floatOp_ok hr
  · cases hr
variable {P : Program}
theorem binA_ok {h : Option Hint} {op : BinOp} {t : TypeId} {x y : AV} {r : R} (ho : okBin h op x y = true) (hr : binA P h op t x y = some r) : AllP r.cond := by
  unfold binA at hr
  split at hr
  · split at hr
    · exact floatOp_ok hr
    · cases hr
  · unfold okBin at ho
    simp only at ho
    split at hr
    · exact shiftOp_ok ho hr
    · exact shiftOp_ok ho hr
    · split at hr
      · exact intOp_ok ho hr
      · cases hr
  · unfold okBin at ho
    exact strOp_ok ho hr
  · split at hr <;> first | exact all_vR hr | cases hr
  · cases hr
theorem nilA_ok {h : Option Hint} {op : BinOp} {t : TypeId} {x y : AV} {r : R} (ho : okBin h op x y = true) (hr : nilA P op t x y = some r) : AllP r.cond := by
  unfold nilA at hr
  split at hr
  · split at hr <;> first | exact all_vR hr | cases hr
  · split at hr <;> first | exact all_vR hr | cases hr
  · have key : ∀ a c, nilS x = some (a, c) → AllP c := by
      intro a c hn
      unfold nilS at hn
      split at hn
      · cases hn; exact trivial
      · cases hn; exact trivial
      · cases hn
        unfold okBin at ho
        simp only [decide_eq_true_eq] at ho
        exact ⟨ho, trivial⟩
      · cases hn
    split at hr
    · next a c hn => cases hr; exact key _ _ hn
    · next a c hn => cases hr; exact key _ _ hn
    · cases hr
  · cases hr
theorem ptrEqA_ok {hp : Nat → Option AObj} {op : BinOp} {t : TypeId} {x y : AV} {r : R} (hr : ptrEqA P hp op t x y = some r) : AllP r.cond := by
  unfold ptrEqA at hr
  split at hr
  · split at hr
    · split at hr <;> first | exact all_vR hr | cases hr
    · cases hr
  · cases hr
theorem aggEqA_ok {op : BinOp} {t : TypeId} {x y : AV} {r : R} (hr : aggEqA P op t x y = some r) : AllP r.cond := by
  unfold aggEqA at hr
  split at hr
  · split at hr
    · split at hr <;> first | exact all_vR hr | cases hr
    · cases hr
  · cases hr

def okUn (h : Option Hint) (op : UnOp) (x : AV) : Bool :=
  match op, x with
  | .neg, .v (.int k n) => okAr h k (0 - n)
  | _, _ => true
theorem unA_ok {h : Option Hint} {op : UnOp} {x : AV} {r : R} (ho : okUn h op x = true) (hr : unA h op x = some r) : AllP r.cond := by
  unfold unA at hr
  split at hr
  · cases hr; unfold okUn at ho; exact okAr_ok ho
  · exact all_vR hr
  · exact all_vR hr
  · cases hr
theorem funA_ok {op : UnOp} {x : AV} {r : R} (hr : funA op x = some r) : AllP r.cond := by
  unfold funA at hr
  split at hr <;> first | exact all_vR hr | exact all_aR hr | cases hr

/-! ### what a row holds -/
def okSnapRow (hp : Nat → Option AObj) (k off len ver : Nat) : Bool :=
  match hp k with
  | some (.row _ _ q floor) => match seqPlain q, off with
    | true, 0 => decide (len = q.len) && decide (floor ≤ ver)
    | true, _ + 1 => decide (floor ≤ ver)
    | false, _ => false
  | _ => true
theorem snapRow_ok {hp : Nat → Option AObj} {k off len ver : Nat} {t : Bool} {y : AV} {c : List Prop} {ks : List Nat} (ho : okSnapRow hp k off len ver = true) (hr : snapRow hp k off len ver t = some (y, c, ks)) : AllP c := by
  unfold okSnapRow at ho
  unfold snapRow at hr
  cases hk : hp k with
  | none => rw [hk] at hr; cases hr
  | some o =>
    rw [hk] at ho hr
    cases o with
    | cells T cs => cases hr
    | map es => cases hr
    | row T sz q floor =>
      simp only at ho hr
      cases hs : seqPlain q with
      | false => rw [hs] at ho; simp only at ho; cases ho
      | true =>
        rw [hs] at ho hr
        cases off with
        | zero =>
          simp only [Bool.and_eq_true, decide_eq_true_eq] at ho
          cases hr
          exact ⟨ho.1, ho.2, trivial⟩
        | succ n =>
          simp only [decide_eq_true_eq] at ho
          cases hr
          exact ⟨ho, trivial⟩
def okSnap1 (hp : Nat → Option AObj) (x : AV) : Bool :=
  match x with
  | .row k off len ver _ => okSnapRow hp k off len ver
  | _ => true
theorem snap1_ok {hp : Nat → Option AObj} {x y : AV} {c : List Prop} {ks : List Nat} (ho : okSnap1 hp x = true) (hr : snap1 hp x = some (y, c, ks)) : AllP c := by
  unfold snap1 at hr
  split at hr
  · exact snapRow_ok ho hr
  · split at hr
    · cases hr; exact trivial
    · cases hr
theorem allP_app {c d : List Prop} (h1 : AllP c) (h2 : AllP d) : AllP (c ++ d) := by
  induction c with
  | nil => exact h2
  | cons p r ih => exact ⟨h1.1, ih h1.2⟩
theorem snapL_ok {hp : Nat → Option AObj} : ∀ {xs ys : List AV} {c : List Prop} {ks : List Nat}, xs.all (okSnap1 hp) = true → snapL hp xs = some (ys, c, ks) → AllP c
  | [], ys, c, ks, _, hr => by cases hr; exact trivial
  | x :: xs, ys, c, ks, ho, hr => by
    rw [List.all_cons, Bool.and_eq_true] at ho
    unfold snapL at hr
    split at hr
    · next y c1 k1 ys' c2 k2 h1 h2 =>
      cases hr
      exact allP_app (snap1_ok ho.1 h1) (snapL_ok ho.2 h2)
    · cases hr
def okSnap (hp : Nat → Option AObj) (x : AV) : Bool :=
  match x with
  | .agg cs => cs.all (okSnap1 hp)
  | x => okSnap1 hp x
theorem snap_ok {hp : Nat → Option AObj} {t : TypeId} {x y : AV} {c : List Prop} {ks : List Nat} (ho : okSnap hp x = true) (hr : snap P hp t x = some (y, c, ks)) : AllP c := by
  unfold snap at hr
  split at hr
  · exact snapRow_ok ho hr
  · split at hr
    · split at hr
      · cases hr; exact trivial
      · cases hr
    · cases hr
  · split at hr
    · next h => cases hr; exact snapL_ok ho h
    · cases hr
  · split at hr
    · cases hr; exact trivial
    · cases hr
theorem snaps_ok {hp : Nat → Option AObj} : ∀ {xs : List AV} {ts : List TypeId} {ys : List AV} {c : List Prop} {ks : List Nat}, xs.all (okSnap hp) = true → snaps P hp ts xs = some (ys, c, ks) → AllP c
  | [], ts, ys, c, ks, _, hr => by unfold snaps at hr; cases hr; exact trivial
  | x :: xs, ts, ys, c, ks, ho, hr => by
    rw [List.all_cons, Bool.and_eq_true] at ho
    unfold snaps at hr
    split at hr
    · next y c1 k1 ys' c2 k2 h1 h2 =>
      cases hr
      exact allP_app (snap_ok ho.1 h1) (snaps_ok ho.2 h2)
    · cases hr
variable [Globs]
def okCont (hp : Nat → Option AObj) (x : AV) : Bool :=
  match x with
  | .row k off len ver _ => match hp k with
    | some (.row _ _ q floor) => match off with
      | 0 => decide (len = q.len) && decide (floor ≤ ver)
      | _ + 1 => decide (floor ≤ ver)
    | _ => true
  | _ => true
theorem contRow_ok {hp : Nat → Option AObj} {k off len ver sz : Nat} {t : Bool} {q : Seq AV} {c : List Prop} (ho : okCont hp (.row k off len ver t) = true) (hr : contRow hp k off len ver = some (sz, q, c)) : AllP c := by
  unfold okCont at ho
  simp only at ho
  unfold contRow at hr
  split at hr
  · next hk =>
    simp only [hk] at ho
    split at hr
    · simp only [Bool.and_eq_true, decide_eq_true_eq] at ho
      cases hr; exact ⟨ho.1, ho.2, trivial⟩
    · simp only [decide_eq_true_eq] at ho
      cases hr; exact ⟨ho, trivial⟩
  · cases hr
theorem contents_ok {hp : Nat → Option AObj} {e : TypeId} {x : AV} {q : Seq AV} {c : List Prop} (ho : okCont hp x = true) (hr : contents P hp e x = some (q, c)) : AllP c := by
  unfold contents at hr
  split at hr
  · cases hr
  · split at hr
    · split at hr
      · cases hr; exact trivial
      · cases hr
    · split at hr
      · next h =>
        split at hr
        · cases hr; exact contRow_ok (t := false) (by simpa [okCont] using ho) h
        · cases hr
      · cases hr
    · cases hr; exact trivial
    · cases hr; exact trivial
    · split at hr
      · cases hr; exact trivial
      · cases hr
    · cases hr

/-! ### conversions, cells, slices -/
def okConv (P : Program) (hp : Nat → Option AObj) (dst : TypeId) (x : AV) : Bool :=
  match x, P.underlying dst with
  | .v (.int k' n), some (.int k) => match widens k' k with
    | true => inRb k n
    | false => true
  | .v (.int _ _), _ => true
  | .v (.string _), _ => true
  | x, some (.int k) => match fbits x with
    | some a => ((FloatKind.f64.decode a).toInt .zero).isSome && inRb k (ftoI a)
    | none => true
  | x, _ => okCont hp x
theorem convA_ok {hp : Nat → Option AObj} {src dst : TypeId} {x : AV} {r : R} (ho : okConv P hp dst x = true) (hr : convA P hp src dst x = some r) : AllP r.cond := by
  unfold convA at hr
  split at hr
  · next k k' n hs hd =>
    unfold okConv at ho
    rw [hd] at ho
    simp only at ho
    split at hr
    · next hw => rw [hw] at ho; cases hr; exact ⟨inRb_ok ho, trivial⟩
    · exact all_vR hr
  · exact all_vR hr
  · split at hr <;> first | exact all_aR hr | cases hr
  · next e hs hd hne =>
    split at hr
    · next l c h1 h2 h3 =>
      cases hr
      unfold okConv at ho
      rw [hd] at ho
      refine contents_ok ?_ h2
      split at ho
      · next h' => cases h'
      · rfl
      · rfl
      · next h' => cases h'
      · exact ho
    · cases hr
  · split at hr
    · split at hr <;> first | exact all_aR hr | cases hr
    · cases hr
  · split at hr
    · split at hr <;> first | exact all_aR hr | cases hr
    · cases hr
  · cases hr
theorem fconvA_ok {hp : Nat → Option AObj} {src dst : TypeId} {x : AV} {r : R} (ho : okConv P hp dst x = true) (hr : fconvA P src dst x = some r) : AllP r.cond := by
  unfold fconvA at hr
  split at hr
  · exact all_vR hr
  · exact all_vR hr
  · exact all_aR hr
  · next k hs hd =>
    split at hr
    · next a ha =>
      cases hr
      unfold okConv at ho
      rw [hd] at ho
      have key : (((FloatKind.f64.decode a).toInt .zero).isSome && inRb k (ftoI a)) = true := by
        split at ho
        · cases ha
        · cases ha
        · cases ha
        · next h' => cases h'; rw [ha] at ho; exact ho
        · rename_i a b c d; first | exact (d _ rfl).elim | exact (c _ rfl).elim | exact (b _ rfl).elim | exact (a _ rfl).elim
      rw [Bool.and_eq_true] at key
      exact ⟨key.1, inRb_ok key.2, trivial⟩
    · cases hr
  · cases hr

def okCells (hp : Nat → Option AObj) (a : AV) : Bool :=
  match a with
  | .rp k _ ver _ => match hp k with
    | some (.row _ _ _ floor) => decide (floor ≤ ver)
    | _ => true
  | _ => true
theorem cellsA_ok {hp : Nat → Option AObj} {a : AV} {cs : List AV} {c : List Prop} (ho : okCells hp a = true) (hr : cellsA hp a = some (cs, c)) : AllP c := by
  unfold cellsA at hr
  split at hr
  · cases hr; exact trivial
  · split at hr
    · cases hr; exact trivial
    · cases hr
  · next k i ver off =>
    unfold okCells at ho
    simp only at ho
    split at hr
    · next q floor hk =>
      rw [hk] at ho
      simp only [decide_eq_true_eq] at ho
      cases hr
      exact ⟨ho, trivial⟩
    · cases hr
  · split at hr
    · split at hr
      · cases hr; exact trivial
      · cases hr
    · cases hr
  · cases hr
theorem loadA_ok {hp : Nat → Option AObj} {t : TypeId} {a : AV} {r : R} (ho : okCells hp a = true) (hr : loadA P hp t a = some r) : AllP r.cond := by
  unfold loadA at hr
  split at hr
  · next h =>
    have := cellsA_ok ho h
    unfold loadFin at hr
    split at hr
    · split at hr
      · cases hr; exact this
      · cases hr
    · split at hr
      · cases hr; exact this
      · cases hr
  · cases hr
def okStore (hp : Nat → Option AObj) (a : AV) : Bool :=
  match a with
  | .rp k _ ver _ => match hp k with
    | some (.row _ _ q _) => decide (ver = q.len)
    | _ => true
  | _ => true
theorem storeA_ok {hp : Nat → Option AObj} {t : TypeId} {a x : AV} {r : R} (ho : okStore hp a = true) (hr : storeA P hp t a x = some r) : AllP r.cond := by
  unfold storeA at hr
  split at hr
  · cases hr
  · split at hr
    · cases hr
    · split at hr
      · split at hr
        · split at hr
          · cases hr; exact trivial
          · cases hr
        · cases hr
      · next k i ver off =>
        unfold okStore at ho
        simp only at ho
        split at hr
        · next q _ hk =>
          rw [hk] at ho
          simp only [decide_eq_true_eq] at ho
          split at hr
          · split at hr
            · cases hr; exact ⟨ho, trivial⟩
            · cases hr
          · split at hr
            · split at hr
              · cases hr; exact ⟨ho, trivial⟩
              · cases hr
            · cases hr
        · cases hr
      · cases hr

def okHi (hi : Option AV) (len : Nat) : Bool :=
  match hi with
  | some (.v (.int _ h)) => decide (0 ≤ h) && decide (h ≤ (len : Int))
  | _ => true
def hiOf (hi : Option AV) (len : Nat) : Nat :=
  match hi with
  | some (.v (.int _ h)) => h.toNat
  | _ => len
def okMx (mx : Option AV) (h : Nat) : Bool :=
  match mx with
  | some (.v (.int _ m)) => decide (m = (h : Int))
  | _ => true
def okLo (lo : Option AV) (h : Nat) : Bool :=
  match lo with
  | some (.v (.int _ l)) => decide (0 ≤ l) && decide (l ≤ (h : Int))
  | _ => true
def okCut (lo hi mx : Option AV) (len : Nat) : Bool := okHi hi len && (okMx mx (hiOf hi len) && okLo lo (hiOf hi len))
theorem cutA_ok {lo hi mx : Option AV} {len : Nat} {t : Bool} {l h : Nat} {t' : Bool} {c : List Prop} (ho : okCut lo hi mx len = true) (hr : cutA lo hi mx len t = some (l, h, t', c)) : AllP c := by
  unfold okCut at ho
  simp only [Bool.and_eq_true] at ho
  obtain ⟨o1, o2, o3⟩ := ho
  unfold cutA at hr
  split at hr
  · next h0 t1 c1 e1 _ =>
    have k1 : AllP c1 ∧ hiOf hi len = h0 := by
      unfold cutHi at e1
      split at e1
      · cases e1; exact ⟨trivial, rfl⟩
      · cases e1; unfold okHi at o1; simp only [Bool.and_eq_true, decide_eq_true_eq] at o1; exact ⟨⟨o1, trivial⟩, rfl⟩
      · cases e1
    rw [k1.2] at o2 o3
    split at hr
    · next t2 c2 l0 c3 e2 e3 =>
      cases hr
      refine allP_app k1.1 (allP_app ?_ ?_)
      · unfold cutMx at e2
        split at e2
        · cases e2; exact trivial
        · cases e2; unfold okMx at o2; simp only [decide_eq_true_eq] at o2; exact ⟨o2, trivial⟩
        · cases e2
      · unfold cutLo at e3
        split at e3
        · cases e3; exact trivial
        · cases e3; unfold okLo at o3; simp only [Bool.and_eq_true, decide_eq_true_eq] at o3; exact ⟨o3, trivial⟩
        · cases e3
    · cases hr
  · cases hr
def okSlice (x : AV) (lo hi mx : Option AV) : Bool :=
  match x with
  | .v (.string s) => okCut lo hi none s.size
  | .sl _ q _ => okCut lo hi mx q.len
  | .row _ _ len _ _ => okCut lo hi mx len
  | _ => true
theorem sliceA_ok {hp : Nat → Option AObj} {t : TypeId} {x : AV} {lo hi mx : Option AV} {r : R} (ho : okSlice x lo hi mx = true) (hr : sliceA P hp t x lo hi mx = some r) : AllP r.cond := by
  unfold sliceA at hr
  unfold okSlice at ho
  split at hr
  · simp only at ho
    split at hr
    · next h => cases hr; exact cutA_ok ho h
    · cases hr
  · simp only at ho
    split at hr
    · next h => cases hr; exact cutA_ok ho h
    · cases hr
  · simp only at ho
    split at hr
    · next h =>
      split at hr
      · cases hr; exact cutA_ok ho h
      · cases hr
    · cases hr
  · cases hr
def okIndexAddr (P : Program) (t : TypeId) (x i : AV) : Bool :=
  match i with
  | .v (.int _ i) => match x with
    | .sl _ q _ => decide (0 ≤ i) && decide (i < (q.len : Int))
    | .row _ _ len _ _ => decide (0 ≤ i) && decide (i < (len : Int))
    | .gp _ => match P.underlying t with
      | some (.array n _) => decide (0 ≤ i) && decide (i < (n : Int))
      | _ => true
    | _ => true
  | _ => true
theorem indexAddrA_ok {hp : Nat → Option AObj} {t : TypeId} {x i : AV} {r : R} (ho : okIndexAddr P t x i = true) (hr : indexAddrA P hp t x i = some r) : AllP r.cond := by
  unfold indexAddrA at hr
  unfold okIndexAddr at ho
  split at hr
  · simp only [Bool.and_eq_true, decide_eq_true_eq] at ho
    split at hr
    · cases hr; exact ⟨ho, trivial⟩
    · cases hr
  · simp only [Bool.and_eq_true, decide_eq_true_eq] at ho
    split at hr
    · split at hr
      · cases hr; exact ⟨ho, trivial⟩
      · cases hr
    · cases hr
  · simp only at ho
    split at hr
    · next hu =>
      rw [hu] at ho
      simp only [Bool.and_eq_true, decide_eq_true_eq] at ho
      split at hr
      · split at hr
        · cases hr; exact ⟨ho, trivial⟩
        · cases hr
      · cases hr
    · cases hr
  · cases hr
def okIndex (P : Program) (t : TypeId) (x i : AV) : Bool :=
  match i with
  | .v (.int _ i) => match x with
    | .v (.string s) => decide (0 ≤ i) && decide (i < (s.size : Int))
    | _ => match P.underlying t with
      | some (.array n _) => decide (0 ≤ i) && decide (i < (n : Int))
      | _ => true
  | _ => true
theorem indexA_ok {t : TypeId} {x i : AV} {r : R} (ho : okIndex P t x i = true) (hr : indexA P t x i = some r) : AllP r.cond := by
  unfold indexA at hr
  unfold okIndex at ho
  split at hr
  · simp only [Bool.and_eq_true, decide_eq_true_eq] at ho
    cases hr; exact ⟨ho, trivial⟩
  · next hu =>
    simp only [hu, Bool.and_eq_true, decide_eq_true_eq] at ho
    split at hr
    · split at hr
      · cases hr; exact ⟨ho, trivial⟩
      · cases hr
    · cases hr
  · cases hr
def okMake (P : Program) (t : TypeId) (l c : AV) : Bool :=
  match elemOf P t, l, c with
  | some e, .v (.int _ n), .v (.int _ m) => match bytesA P e with
    | some b => (decide (0 ≤ n) && decide (n ≤ m)) && (decide (m * (b : Int) ≤ 281474976710656) && decide (m ≤ 9223372036854775807))
    | none => true
  | _, _, _ => true
theorem makeSliceA_ok {key : Nat} {t : TypeId} {l c : AV} {r : R} (ho : okMake P t l c = true) (hr : makeSliceA P key t l c = some r) : AllP r.cond := by
  unfold makeSliceA at hr
  unfold okMake at ho
  split at hr
  · next he =>
    split at hr
    · next h1 hb h2 =>
      simp only [he, hb, Bool.and_eq_true, decide_eq_true_eq] at ho
      split at hr
      · cases hr; exact ⟨ho.1, ho.2, trivial⟩
      · cases hr
    · cases hr
  · cases hr
end Go.Ev

/- Closed runs: the conditions of appending, of calls, of a whole operation. -/
set_option maxRecDepth 20000
namespace Go.Ev
open Go
variable {P : Program} [Globs]

def okAppend (P : Program) (hp : Nat → Option AObj) (t : TypeId) (s x : AV) : Bool :=
  match elemOf P t with
  | none => true
  | some e =>
    match sizeA P e, bytesA P e, contents P hp e x with
    | some (sz + 1), some (by1 + 1), some (r, _) => okCont hp x && (match s with
      | .v (.slice none 0 0) => decide (r.len * (by1 + 1) ≤ 140737488355328)
      | .row k 0 len ver _ => match hp k with
        | some (.row _ sz' q _) => match appA (sz + 1) sz' q r with
          | some q' => (decide (len = q.len) && decide (ver = q.len)) && decide (q'.len * (by1 + 1) ≤ 140737488355328)
          | none => true
        | _ => true
      | .sl sz' q true => match emptyA x with
        | true => true
        | false => match appA (sz + 1) sz' q r with
          | some q' => decide (1 ≤ r.len) && decide (q'.len * (by1 + 1) ≤ 140737488355328)
          | none => true
      | _ => true)
    | _, _, _ => true
theorem appendA_ok {key : Nat} {hp : Nat → Option AObj} {t xt : TypeId} {s x : AV} {r : R} (ho : okAppend P hp t s x = true) (hr : appendA P key hp t xt s x = some r) : AllP r.cond := by
  unfold appendA at hr
  unfold okAppend at ho
  split at hr
  · cases hr
  · next e he =>
    simp only [he] at ho
    split at hr
    · next sz by1 q0 c h1 h2 h3 h4 =>
      simp only [h1, h2, h3, Bool.and_eq_true] at ho
      obtain ⟨oc, ho⟩ := ho
      have hc : AllP c := contents_ok oc h3
      split at hr
      · simp only [decide_eq_true_eq] at ho
        cases hr; exact ⟨ho, hc⟩
      · split at hr
        · next hk =>
          simp only [hk] at ho
          split at hr
          · next ha =>
            simp only [ha, Bool.and_eq_true, decide_eq_true_eq] at ho
            cases hr; exact ⟨ho.1.1, ho.1.2, ho.2, hc⟩
          · cases hr
        · cases hr
      · split at hr
        · cases hr; exact hc
        · next hem =>
          split at hr
          · next ha =>
            simp only [hem, ha, Bool.and_eq_true, decide_eq_true_eq] at ho
            cases hr; exact ⟨ho.1, ho.2, hc⟩
          · cases hr
      · cases hr
    · cases hr
theorem builtinA_ok {key : Nat} {hp : Nat → Option AObj} {b : Builtin} {ts : List TypeId} {xs : List AV} {r : R}
    (ho : (match b, ts, xs with | .append, [t, _], [s, x] => okAppend P hp t s x | _, _, _ => true) = true) (hr : builtinA P key hp b ts xs = some r) : AllP r.cond := by
  unfold builtinA at hr
  split at hr
  · split at hr <;> first | exact all_vR hr | cases hr
  · simp only at ho
    exact appendA_ok ho hr
  · exact all_vR hr
  · exact all_vR hr
  · cases hr

/-- contracts that leave nothing to be shown -/
def Quiet (SG : SGT) : Prop :=
  ∀ g, match look SG g with
    | some (.p sig) => ∀ ys r c, sig ys = some (r, c) → AllP c
    | some (.s _ sig) => ∀ os ys r os' c, sig os ys = some (r, os', c) → AllP c
    | none => True

def okLend (hp : Nat → Option AObj) : List Bool → List AV → Bool
  | ms, x :: xs => (ms.headD false || okSnap hp x) && okLend hp ms.tail xs
  | _, [] => true
theorem lendA_ok {hp : Nat → Option AObj} {ρ : List Nat} : ∀ {ms : List Bool} {ts : List TypeId} {xs ys : List AV} {c : List Prop} {ks : List Nat}, okLend hp ms xs = true → lendA P hp ρ ms ts xs = some (ys, c, ks) → AllP c
  | ms, ts, [], ys, c, ks, _, hr => by unfold lendA at hr; cases hr; exact trivial
  | ms, ts, x :: xs, ys, c, ks, ho, hr => by
    unfold okLend at ho
    simp only [Bool.and_eq_true, Bool.or_eq_true] at ho
    unfold lendA at hr
    split at hr
    · next y c1 k1 ys' c2 k2 h1 h2 =>
      cases hr
      refine allP_app ?_ (lendA_ok ho.2 h2)
      split at h1
      · split at h1
        · cases h1; exact trivial
        · cases h1
      · next hm =>
        rcases ho.1 with h | h
        · rw [hm] at h; cases h
        · exact snap_ok h h1
    · cases hr
def okCall (SG : SGT) (hp : Nat → Option AObj) (f : AV) (xs : List AV) : Bool :=
  match f with
  | .fnv (.func g) first captured => match look SG g with
    | some (.p _) => (first ++ xs ++ captured).all (okSnap hp)
    | some (.s mask _) => okLend hp mask (first ++ xs ++ captured)
    | none => true
  | _ => true
theorem callA_ok {SG : SGT} (hq : Quiet SG) {key : Nat} {hp : Nat → Option AObj} {f : AV} {xs : List AV} {r : R} (ho : okCall SG hp f xs = true) (hr : callA P SG key hp f xs = some r) : AllP r.cond := by
  unfold callA at hr
  split at hr
  · next g first captured =>
    unfold okCall at ho
    simp only at ho
    have hq := hq g
    split at hr
    · next sig hl =>
      simp only [hl] at ho hq
      unfold callP at hr
      split at hr
      · next hs =>
        split at hr
        · next hsig =>
          split at hr
          · cases hr; exact allP_app (snaps_ok ho hs) (hq _ _ _ hsig)
          · cases hr
        · cases hr
      · cases hr
    · next mask sig hl =>
      simp only [hl] at ho hq
      unfold callS at hr
      simp only at hr
      split at hr
      · next hs =>
        split at hr
        · cases hr
        · split at hr
          · next hsig =>
            split at hr
            · cases hr; exact allP_app (lendA_ok ho hs) (hq _ _ _ _ _ hsig)
            · cases hr
          · cases hr
      · cases hr
    · cases hr
  · cases hr

/-! ### lookups -/
def okKeys (hp : Nat → Option AObj) (x i : AV) : Bool :=
  match entsA hp x, i with
  | some es, .v key => es.all fun p => alikeK key p.1
  | _, _ => true
theorem lookupA_ok {hp : Nat → Option AObj} {t : TypeId} {x i : AV} {b : Bool} {r : R} (ho : okKeys hp x i = true) (hr : lookupA P hp t x i b = some r) : AllP r.cond := by
  unfold lookupA at hr
  split at hr
  · split at hr
    · next hes _ =>
      split at hr
      · cases hr
        unfold okKeys at ho
        rw [hes] at ho
        exact ⟨ho, trivial⟩
      · cases hr
    · cases hr
  · cases hr
theorem mapUpdateA_ok {hp : Nat → Option AObj} {t : TypeId} {m i x : AV} {r : R} (ho : okKeys hp m i = true) (hr : mapUpdateA P hp t m i x = some r) : AllP r.cond := by
  unfold mapUpdateA at hr
  split at hr
  · split at hr
    · next hes =>
      split at hr
      · cases hr
        unfold okKeys entsA at ho
        simp only [hes] at ho
        exact ⟨ho, trivial⟩
      · cases hr
    · cases hr
  · cases hr
theorem mapEntryA_ok {hp : Nat → Option AObj} {t : TypeId} {m i : AV} {r : R} (ho : okKeys hp m i = true) (hr : mapEntryA P hp t m i = some r) : AllP r.cond := by
  unfold mapEntryA at hr
  split at hr
  · split at hr
    · next hes _ =>
      split at hr
      · cases hr
        unfold okKeys entsA at ho
        simp only [hes] at ho
        exact ⟨ho, trivial⟩
      · cases hr
    · cases hr
  · cases hr
def okEntry (hp : Nat → Option AObj) (m s : AV) : Bool :=
  match entsA hp m, s with
  | some es, .v (.int _ j) => decide (0 ≤ j) && decide (j < (es.length : Int))
  | _, _ => true
theorem entryStoreA_ok {hp : Nat → Option AObj} {m s x : AV} {r : R} (ho : okEntry hp m s = true) (hr : entryStoreA hp m s x = some r) : AllP r.cond := by
  unfold entryStoreA at hr
  split at hr
  · split at hr
    · next hes =>
      cases hr
      unfold okEntry entsA at ho
      simp only [hes, Bool.and_eq_true, decide_eq_true_eq] at ho
      exact ⟨ho, trivial⟩
    · cases hr
  · cases hr

/-! ### a whole operation -/
def okHint (h : Option Hint) : Bool :=
  match h with
  | some (.b _) => false
  | some (.is _) => false
  | _ => true
theorem hinted_ok {h : Option Hint} {r : R} (ho : okHint h = true) : hinted h r = r := by
  unfold hinted
  unfold okHint at ho
  split at ho <;> first | cases ho | skip
  split <;> first | rfl | (next hne _ => exact absurd rfl (hne _)) | (next _ hne => exact absurd rfl (hne _))

def isUnsafe (b : Builtin) (ts : List TypeId) (xs : List AV) (h : Option Hint) : Bool :=
  match b with
  | .unsafeSliceData | .unsafeString => true
  | _ => match h with
    | some .part => true
    | _ => false
def okOp (P : Program) (SG : SGT) (h : Option Hint) (o : Op) (ev : Operand → AV) (hp : Nat → Option AObj) : Bool :=
  match o with
  | .load _ a => okCells hp (ev a)
  | .store _ a _ => okStore hp (ev a)
  | .binOp op _ x y _ => okBin h op (ev x) (ev y)
  | .unOp op _ x => okUn h op (ev x)
  | .convert _ dst x => okConv P hp dst (ev x)
  | .makeSlice t l c => okMake P t (ev l) (ev c)
  | .slice _ x lo hi mx => okSlice (ev x) (lo.map ev) (hi.map ev) (mx.map ev)
  | .indexAddr t x i => okIndexAddr P t (ev x) (ev i)
  | .index t x i => okIndex P t (ev x) (ev i)
  | .lookup _ x i _ => okKeys hp (ev x) (ev i)
  | .insert _ m i _ => okKeys hp (ev m) (ev i)
  | .mapUpdate _ m i _ => okKeys hp (ev m) (ev i)
  | .mapEntry _ m i => okKeys hp (ev m) (ev i)
  | .entryStore _ m s _ => okEntry hp (ev m) (ev s)
  | .call c => match c.callee with
    | .builtin b => !(isUnsafe b c.argTypes.toList (c.args.toList.map ev) h) && (match b, c.argTypes.toList, c.args.toList.map ev with
      | .append, [t, _], [s, x] => okAppend P hp t s x
      | _, _, _ => true)
    | .value f => okCall SG hp (ev f) (c.args.toList.map ev)
    | _ => true
  | _ => true
theorem unsafe_none {h : Option Hint} {hp : Nat → Option AObj} {b : Builtin} {ts : List TypeId} {xs : List AV} (ho : isUnsafe b ts xs h = false) : unsafeA P h hp b ts xs = none := by
  unfold isUnsafe at ho
  unfold unsafeA
  split
  · cases ho
  · cases ho
  · split
    · cases ho
    · rfl
  · rfl
theorem opA_ok {SG : SGT} (hq : Quiet SG) {key : Nat} {h : Option Hint} {o : Op} {ev : Operand → AV} {hp : Nat → Option AObj} {r : R} (ho : okOp P SG h o ev hp = true) (hr : opA P SG key h o ev hp = some r) : AllP r.cond := by
  cases o
  case load t a => exact loadA_ok ho hr
  case store t a x => exact storeA_ok ho hr
  case binOp op t x y s =>
    simp only [okOp] at ho
    simp only [opA] at hr
    split at hr
    · next h1 => cases hr; exact binA_ok ho h1
    · split at hr
      · next h1 => cases hr; exact fbinA_ok h1
      · split at hr
        · next h1 => cases hr; exact nilA_ok ho h1
        · split at hr
          · next h1 => cases hr; exact ptrEqA_ok h1
          · split at hr
            · next h1 => cases hr; exact aggEqA_ok h1
            · unfold nilIfA at hr
              repeat' split at hr
              all_goals first | exact all_vR hr | (cases hr; done)
  case unOp op t x =>
    simp only [okOp] at ho
    simp only [opA] at hr
    split at hr
    · next h1 => cases hr; exact unA_ok ho h1
    · exact funA_ok hr
  case convert s d x =>
    simp only [okOp] at ho
    simp only [opA] at hr
    split at hr
    · next h1 => cases hr; exact convA_ok ho h1
    · exact fconvA_ok ho hr
  case makeSlice t l c => exact makeSliceA_ok ho hr
  case slice t x lo hi mx =>
    simp only [opA] at hr
    split at hr
    · exact all_aR hr
    · exact sliceA_ok ho hr
  case indexAddr t x i =>
    simp only [opA] at hr
    split at hr
    · exact all_aR hr
    · exact indexAddrA_ok ho hr
  case index t x i => exact indexA_ok ho hr
  case lookup t x i b =>
    exact lookupA_ok ho hr
  case insert t m i x => exact mapUpdateA_ok ho hr
  case mapUpdate t m i x => exact mapUpdateA_ok ho hr
  case mapEntry t m i => exact mapEntryA_ok ho hr
  case entryStore t m s x => exact entryStoreA_ok ho hr
  case alloc T =>
    simp only [opA] at hr
    split at hr
    · unfold allocRowA at hr
      repeat' split at hr
      all_goals first | (cases hr; exact trivial) | (cases hr; done)
    · split at hr
      · cases hr; exact trivial
      · cases hr
  case makeMap t n =>
    cases n with
    | some n => simp only [opA, reduceCtorEq] at hr
    | none =>
      simp only [opA] at hr
      split at hr
      · exact all_aR hr
      · cases hr; exact trivial
  case call c =>
    simp only [okOp] at ho
    simp only [opA] at hr
    split at hr
    · next b hb =>
      simp only [hb, Bool.and_eq_true, Bool.not_eq_true'] at ho
      rw [unsafe_none ho.1] at hr
      exact builtinA_ok ho.2 hr
    · next f hf =>
      simp only [hf] at ho
      exact callA_ok hq ho hr
    · cases hr
  all_goals (simp only [opA] at hr)
  all_goals (repeat' split at hr)
  all_goals first | exact all_aR hr | exact all_vR hr | (cases hr; exact trivial) | (cases hr; done) | skip
  case buildSlice => 
    unfold buildSliceA at hr
    repeat' split at hr
    all_goals first | exact all_aR hr | (cases hr; exact trivial) | (cases hr; done)
end Go.Ev

/- Closed runs: code whose every condition is decided on the way; loops are unrolled. -/
set_option maxRecDepth 20000
namespace Go.Ev
open Go

section
variable [Globs] (P : Program) (SG : SGT)

/-- operation number i of a region, its conditions decided -/
def takeOpC (hs : List (Nat × Hint)) (ops : List Oper) (i : Nat) (A : AS) : Option Took :=
  match ops[i]? with
  | none => none
  | some o =>
    match wantedA ops A.fr o with
    | none => none
    | some false => match putA A o.dst (.tup []) with
      | some A' => some ⟨A', [], [], []⟩
      | none => none
    | some true =>
      let ks := o.op.operands.toList.flatMap fun x => keysOf (evalA A.fr x)
      match okHint (look hs i) && okOp P SG (look hs i) o.op (evalA A.fr) (seen A.hp (opKind o.op) ks) with
      | false => none
      | true => match opA P SG (A.nx + i) (look hs i) o.op (evalA A.fr) (seen A.hp (opKind o.op) ks) with
        | none => none
        | some r => match putA { A with hp := applyUpd A.hp r.upd } o.dst r.val with
          | some A' => some ⟨A', [], looksA A.hp (opKind o.op) ks, turnsA o.op (r.upd.map (·.1))⟩
          | none => none

def takeOpsC (hs : List (Nat × Hint)) (ops : List Oper) : Nat → Nat → AS → Option (AS × List (List Nat × List Nat))
  | 0, _, A => some (A, [])
  | n + 1, i, A => match takeOpC P SG hs ops i A with
    | none => none
    | some t => match takeOpsC hs ops n (i + 1) t.A with
      | some (A', fs) => some (A', (t.need, t.ups) :: fs)
      | none => none

def iterR (f : AS → Option (Exit × AS)) : Nat → AS → Option (Exit × AS)
  | 0, _ => none
  | n + 1, A => match f A with
    | some (.normal, A1) => iterR f n A1
    | r => r

/-- a closed run of a code: at most 'fuel' rounds of each loop; H: hints by a region's name -/
def evR (fuel : Nat) (H : List (Nat × List (Nat × Hint))) : Code → AS → Option (Exit × AS)
  | .skip, A => some (.normal, A)
  | .region id ops draw, A =>
    match takeOpsC P SG ((look H id).getD []) ops.toList ops.size 0 A with
    | none => none
    | some (A', fs) =>
      match (!draw || drawOk ops fs) && Nat.ble (A'.nx + ops.size) rsv with
      | true => some (.normal, { A' with nx := A'.nx + ops.size })
      | false => none
  | .seq a b, A => match evR fuel H a A with
    | some (.normal, A') => evR fuel H b A'
    | r => r
  | .cond x a b, A => match evalA A.fr x with
    | .v (.bool true) => evR fuel H a A
    | .v (.bool false) => evR fuel H b A
    | _ => none
  | .block id a, A => match evR fuel H a A with
    | some (.exit i, A') => match Nat.beq i id with
      | true => some (.normal, A')
      | false => some (.exit i, A')
    | r => r
  | .loop a, A => iterR (fun A => evR fuel H a A) fuel A
  | .exit id, A => some (.exit id, A)
  | .ret, A => some (.ret, A)
  | _, _ => none

def okRes1 (A : AS) (r : ResultVar) : Bool :=
  match r with
  | .tmp s => match look A.fr s with
    | some x => okSnap (restr A.hp (keysOf x)) x
    | none => true
  | .cell s ct => match look A.fr s with
    | some x => okCells (restr A.hp (keysOf x)) x && (match loadA P (restr A.hp (keysOf x)) ct x with
      | some r => okSnap (restr A.hp (keysOf r.val)) r.val
      | none => true)
    | none => true

def endR : Exit → Bool
  | .ret => true
  | .normal => true
  | _ => false

/-- a whole function -/
def evFnR (fuel : Nat) (ti : Bool) (fn : Func) (H : List (Nat × List (Nat × Hint))) (args : List AV) : Option (AV × List Prop) :=
  match fn.body with
  | none => none
  | some c => match evR P SG fuel H c (startA fn args) with
    | some (e, A) => match endR e && fn.results.toList.all (okRes1 P A), resOf P ti A fn.resultTypes.toList fn.results.toList with
      | true, some (r, _) => some (r, [])
      | _, _ => none
    | none => none
end

section
variable [Globs] {P : Program} {SG : SGT}

theorem takeOpC_ok (hq : Quiet SG) {hs : List (Nat × Hint)} {ops : List Oper} {i : Nat} {A : AS} {t : Took} (h : takeOpC P SG hs ops i A = some t) :
    ∃ c, takeOp P SG hs ops i A = some ⟨t.A, c, t.need, t.ups⟩ ∧ AllP c := by
  unfold takeOpC at h
  unfold takeOp
  split at h
  · cases h
  · next o ho =>
    split at h
    · cases h
    · next hw =>
      split at h
      · next hp => cases h; refine ⟨[], ?_, trivial⟩; simp only [ho, hw, hp]
      · cases h
    · next hw =>
      simp only at h
      split at h
      · cases h
      · next hok =>
        rw [Bool.and_eq_true] at hok
        split at h
        · cases h
        · next r hr =>
          split at h
          · next A' hA =>
            cases h
            refine ⟨r.cond, ?_, opA_ok hq hok.2 hr⟩
            simp only [ho, hw, hr, hinted_ok hok.1, hA]
          · cases h

theorem takeOpsC_ok (hq : Quiet SG) {hs : List (Nat × Hint)} {ops : List Oper} : ∀ {n i : Nat} {A A' : AS} {fs : List (List Nat × List Nat)}, takeOpsC P SG hs ops n i A = some (A', fs) →
    ∃ c, takeOps P SG hs ops n i A = some (A', c, fs) ∧ AllP c
  | 0, i, A, A', fs, h => by unfold takeOpsC at h; cases h; exact ⟨[], rfl, trivial⟩
  | n + 1, i, A, A', fs, h => by
    unfold takeOpsC at h
    split at h
    · cases h
    · next t ht =>
      split at h
      · next h2 =>
        cases h
        obtain ⟨c1, g1, k1⟩ := takeOpC_ok hq ht
        obtain ⟨c2, g2, k2⟩ := takeOpsC_ok hq h2
        refine ⟨c1 ++ c2, ?_, allP_app k1 k2⟩
        unfold takeOps
        simp only [g1, g2]
      · cases h

theorem iterR_ok {c : Code} {f : AS → Option (Exit × AS)} (hf : ∀ A e A', f A = some (e, A') → To P c A e A') : ∀ (n : Nat) (A : AS) (e : Exit) (A' : AS), iterR f n A = some (e, A') → LoopTo P c A e A'
  | 0, A, e, A', h => by unfold iterR at h; cases h
  | n + 1, A, e, A', h => by
    unfold iterR at h
    split at h
    · next A1 h1 => exact .step (hf _ _ _ h1) (iterR_ok hf n A1 e A' h)
    · next hne =>
      refine .done (fun he => ?_) (hf _ _ _ h)
      subst he
      exact hne _ h

/-- A CLOSED RUN IS RIGHT. -/
theorem evR_to (hm : P.follows .mixedOrders = true) (hsg : SigsOK P SG) (hq : Quiet SG) {fuel : Nat} {H : List (Nat × List (Nat × Hint))} (code : Code) : ∀ (A : AS) (e : Exit) (A' : AS),
    evR P SG fuel H code A = some (e, A') → To P code A e A' := by
  induction code with
  | skip =>
    intro A e A' h
    simp only [evR, Option.some.injEq, Prod.mk.injEq] at h
    obtain ⟨rfl, rfl⟩ := h
    exact fun S a hR => wp_skip ⟨rfl, S, rfl, Kept.refl S, hR⟩
  | region id ops draw =>
    intro A e A' h
    simp only [evR] at h
    split at h
    · cases h
    · next A1 fs ht =>
      split at h
      · next hd =>
        simp only [Option.some.injEq, Prod.mk.injEq] at h
        obtain ⟨rfl, rfl⟩ := h
        rw [Bool.and_eq_true, Nat.ble_eq] at hd
        obtain ⟨c, h1, hc⟩ := takeOpsC_ok hq ht
        exact fun S a hR => region_wp hm hsg h1 hc hd.1 hd.2 hR fun S' a' he hR' => ⟨rfl, S', rfl, he.kept, hR'⟩
      · cases h
  | seq x y ihx ihy =>
    intro A e A' h
    simp only [evR] at h
    split at h
    · next A1 h1 =>
      have t1 := ihx _ _ _ h1
      have t2 := ihy _ _ _ h
      refine fun S a hR => wp_seq (wp_mono (t1 S a hR) fun e1 a1 w1 hg => ?_)
      obtain ⟨rfl, S', rfl, hk, hR'⟩ := hg
      exact wp_mono (t2 S' a1 hR') fun e2 a2 w2 ⟨he, S'', hS, hk', hR''⟩ => ⟨he, S'', hS, hk.trans hk', hR''⟩
    · next hne =>
      have t1 := ihx _ _ _ h
      refine fun S a hR => wp_seq (wp_mono (t1 S a hR) fun e1 a1 w1 hg => ?_)
      obtain ⟨rfl, hg⟩ := hg
      cases e1 with
      | normal => exact (hne _ h).elim
      | _ => exact ⟨rfl, hg⟩
  | cond x p q ihp ihq =>
    intro A e A' h
    simp only [evR] at h
    split at h
    · next hv =>
      intro S a hR
      have hr := rep_eval hR.fr x
      rw [hv] at hr
      exact wp_cond_true (rep_v hr).1 (ihp _ _ _ h S a hR)
    · next hv =>
      intro S a hR
      have hr := rep_eval hR.fr x
      rw [hv] at hr
      exact wp_cond_false (rep_v hr).1 (ihq _ _ _ h S a hR)
    · cases h
  | block id x ih =>
    intro A e A' h
    simp only [evR] at h
    split at h
    · next i A1 h1 =>
      have t1 := ih _ _ _ h1
      split at h
      · next hb =>
        simp only [Option.some.injEq, Prod.mk.injEq] at h
        obtain ⟨rfl, rfl⟩ := h
        have hi := Nat.eq_of_beq_eq_true hb
        refine fun S a hR => wp_block (wp_mono (t1 S a hR) fun e1 a1 w1 hg => ?_)
        obtain ⟨rfl, hg⟩ := hg
        show if i = id then _ else _
        rw [if_pos hi]
        exact ⟨rfl, hg⟩
      · next hb =>
        simp only [Option.some.injEq, Prod.mk.injEq] at h
        obtain ⟨rfl, rfl⟩ := h
        have hi : i ≠ id := fun e => by subst e; rw [Nat.beq_refl] at hb; cases hb
        refine fun S a hR => wp_block (wp_mono (t1 S a hR) fun e1 a1 w1 hg => ?_)
        obtain ⟨rfl, hg⟩ := hg
        show if i = id then _ else _
        rw [if_neg hi]
        exact ⟨rfl, hg⟩
    · next hne =>
      have t1 := ih _ _ _ h
      refine fun S a hR => wp_block (wp_mono (t1 S a hR) fun e1 a1 w1 hg => ?_)
      obtain ⟨rfl, hg⟩ := hg
      cases e1 with
      | exit i => exact (hne _ _ h).elim
      | _ => exact ⟨rfl, hg⟩
  | loop x ih =>
    intro A e A' h
    simp only [evR] at h
    exact (iterR_ok (fun A e A' => ih A e A') fuel A e A' h).loop
  | exit id =>
    intro A e A' h
    simp only [evR, Option.some.injEq, Prod.mk.injEq] at h
    obtain ⟨rfl, rfl⟩ := h
    exact fun S a hR => wp_exit ⟨rfl, S, rfl, Kept.refl S, hR⟩
  | ret =>
    intro A e A' h
    simp only [evR, Option.some.injEq, Prod.mk.injEq] at h
    obtain ⟨rfl, rfl⟩ := h
    exact fun S a hR => wp_ret ⟨rfl, S, rfl, Kept.refl S, hR⟩
  | _ => intro A e A' h; simp only [evR, reduceCtorEq] at h

theorem okRes1_ok {ti : Bool} {A : AS} {t : TypeId} {r : ResultVar} {y : AV} {c : List Prop} (ho : okRes1 P A r = true) (h : resA P ti A t r = some (y, c)) : AllP c := by
  unfold resA at h
  unfold okRes1 at ho
  split at h
  · split at h
    · next x hx =>
      simp only [hx] at ho
      split at h
      · next hs => cases h; exact snap_ok ho hs
      · cases h
    · cases h
  · split at h
    · next x hx =>
      simp only [hx, Bool.and_eq_true] at ho
      split at h
      · next r hl =>
        simp only [hl] at ho
        split at h
        · next hs => cases h; exact allP_app (loadA_ok ho.1 hl) (snap_ok ho.2 hs)
        · cases h
      · cases h
    · cases h
theorem okResAs_ok {ti : Bool} {A : AS} : ∀ {rs : List ResultVar} {ts : List TypeId} {ys : List AV} {c : List Prop}, rs.all (okRes1 P A) = true → resAs P ti A ts rs = some (ys, c) → AllP c
  | [], ts, ys, c, _, h => by unfold resAs at h; cases h; exact trivial
  | r :: rs, ts, ys, c, ho, h => by
    rw [List.all_cons, Bool.and_eq_true] at ho
    unfold resAs at h
    split at h
    · next h1 h2 => cases h; exact allP_app (okRes1_ok ho.1 h1) (okResAs_ok ho.2 h2)
    · cases h

/-- a function whose code goes as is said -/
theorem fn_pure {f : FuncId} {fn : Func} {code : Code} {ti : Bool} {ys : List AV} {e : Exit} {A : AS} {r : AV} {c : List Prop} (hf : P.funcs[f]? = some fn) (hn : (fn.name == "runtime.NumGoroutine") = false) (hb : fn.body = some code)
    (ht : To P code (startA fn ys) e A) (he : endR e = true) (h2 : resOf P ti A fn.resultTypes.toList fn.results.toList = some (r, c)) (hc2 : AllP c) : PureTo P f ys r := by
  intro S vals hwf hr
  have hrun : (callFunc f vals.toArray).run P S.w = .ok (.enter f vals.toArray) S.w := by
    have hn' : fn.name ≠ "runtime.NumGoroutine" := by simpa using hn
    simp [callFunc, hf, hn', hb]
  unfold CalledTo
  rw [hrun]
  refine ⟨rfl, calls_of_wp hf hb ?_⟩
  refine wp_mono (ht S.start _ (start_rel hwf hr)) fun e1 a1 w1 hg => ?_
  obtain ⟨rfl, S', rfl, hk, hR⟩ := hg
  obtain ⟨vs, h3, h4⟩ := resOf_rep hwf hk hR h2 hc2
  have hres := results_reads (P := P) (fn := fn) (tmps := a1.tmps) (w := S'.w) h3
  cases e1 with
  | ret => exact ⟨hR.defers, _, hres, _, rfl, end_grows hk, h4⟩
  | normal => exact ⟨hR.defers, _, hres, _, rfl, end_grows hk, h4⟩
  | _ => cases he

theorem evFnR_pure {f : FuncId} {fn : Func} {fuel : Nat} {ti : Bool} {H : List (Nat × List (Nat × Hint))} {ys : List AV} {r : AV} {c : List Prop} (hm : P.follows .mixedOrders = true) (hsg : SigsOK P SG) (hq : Quiet SG) (hf : P.funcs[f]? = some fn) (hn : (fn.name == "runtime.NumGoroutine") = false)
    (h : evFnR P SG fuel ti fn H ys = some (r, c)) : PureTo P f ys r ∧ AllP c := by
  unfold evFnR at h
  split at h
  · cases h
  · next code hb =>
    split at h
    · next e A h1 =>
      split at h
      · next r' c' hok h2 =>
        rw [Bool.and_eq_true] at hok
        cases h
        refine ⟨fn_pure hf hn hb (evR_to hm hsg hq code _ _ _ h1) hok.1 h2 ?_, trivial⟩
        unfold resOf at h2
        split at h2
        · next h3 => cases h2; exact okResAs_ok hok.2 h3
        · next h3 => cases h2; exact okResAs_ok hok.2 h3
        · cases h2
      · cases h
    · cases h
end
end Go.Ev

/- Closed runs: copy of no elements. -/
set_option maxRecDepth 20000
namespace Go.Ev
open Go
variable [Globs]

section
variable (P : Program)
/-- how long a slice is -/
def slLen : AV → Option Nat
  | .sl _ q _ => some q.len
  | .row _ _ len _ _ => some len
  | .v (.slice none 0 0) => some 0
  | .sle => some 0
  | _ => none

/-- copy of no elements -/
def copy0 (b : Builtin) (ts : List TypeId) (xs : List AV) : Option AV :=
  match b, ts, xs with
  | .copy, [t, _], [d, s] => match elemOf P t, slLen d, slLen s with
    | some e, some n, some m => match P.info? e, Nat.beq (Nat.min m n) 0 with
      | some _, true => some (.v (.int .i64 0))
      | _, _ => none
    | _, _, _ => none
  | _, _, _ => none

def extraA (hp : Nat → Option AObj) (o : Op) (ev : Operand → AV) : Option AV :=
  match o with
  | .call c => match c.callee with
    | .builtin b => copy0 P b c.argTypes.toList (c.args.toList.map ev)
    | _ => none
  | _ => none
end

section
variable {P : Program}

theorem slLen_rep {S : St} {v : Value} {x : AV} {n : Nat} (h : slLen x = some n) (hr : Rep S v x) : ∃ a c, v = .slice a n c := by
  unfold slLen at h
  split at h
  · cases h; obtain ⟨a, c, rfl, _⟩ := rep_sl hr; exact ⟨_, _, rfl⟩
  · cases h; obtain ⟨_, _, a, c, rfl, _⟩ := rep_row hr; exact ⟨_, _, rfl⟩
  · cases h; obtain ⟨rfl, _⟩ := rep_v hr; exact ⟨_, _, rfl⟩
  · cases h
    cases hr with
    | i _ _ h => cases h; exact ⟨_, _, rfl⟩
  · cases h

theorem copy0_run {S : St} {b : Builtin} {ts : List TypeId} {ty : TypeId} {xs : List AV} {vs : List Value} {consts : Array Bool} {r : AV} (hr : copy0 P b ts xs = some r)
    (hl : vs.length = xs.length) (hx : ∀ i (h1 : i < vs.length) (h2 : i < xs.length), Rep S vs[i] xs[i]) :
    r = .v (.int .i64 0) ∧ (builtin b ts.toArray ty consts vs.toArray).run P S.w = .ok (.value (.int .i64 0)) S.w := by
  unfold copy0 at hr
  split at hr
  · next t t' d s =>
    obtain ⟨v, u, rfl⟩ : ∃ v u, vs = [v, u] := by
      match vs, hl with
      | [v, u], _ => exact ⟨v, u, rfl⟩
    have h0 := hx 0 (by simp) (by simp)
    have h1 := hx 1 (by simp) (by simp)
    simp only [List.getElem_cons_zero, List.getElem_cons_succ] at h0 h1
    split at hr
    · next e n m he hn hm =>
      split at hr
      · next inf hi hb =>
        cases hr
        have hmin := Nat.eq_of_beq_eq_true hb
        obtain ⟨a, c, rfl⟩ := slLen_rep hn h0
        obtain ⟨a', c', rfl⟩ := slLen_rep hm h1
        have hu : P.underlying t = some (.slice e) := by
          unfold elemOf at he
          split at he
          · next h => cases he; exact h
          · cases he
        have hmin' : m.min n = 0 := hmin
        refine ⟨rfl, ?_⟩
        cases a <;> cases a' <;> simp [builtin, Builtin.copy_, run_underlying hu, Builtin.lenOf, Builtin.firstCells, sizeOf, typeInfo, hi, hmin', storeCells, loadCells, loadCellsFrom, goInt, Result.andThen]
      · cases hr
    · cases hr
  · cases hr

theorem extraA_out {S : St} {n : Nat} {fr : List (Nat × AV)} {a : Act} {o : Oper} {r : AV} {hp : List (Nat × AObj)} (hwf : S.wf) (hh : HeapOK S hp) (hfr : FrOK S n fr a.tmps) (hr : extraA P (look hp) o.op (evalA fr) = some r) :
    ∃ v S', (execOp a.eval o).run P S.w = .ok (.value v) S'.w ∧ S'.wf ∧ Ext S S' ∧ HeapOK S' hp ∧ (∀ k, S'.used k → S.used k) ∧ Rep S' v r := by
  obtain ⟨dst, op, ty, pos, after, guard⟩ := o
  have ev := rep_eval hfr
  unfold extraA at hr
  split at hr
  · next c heq =>
    simp only at heq
    subst heq
    obtain ⟨callee, args, argTypes⟩ := c
    split at hr
    · next b hb =>
      simp only at hb hr
      subst hb
      have e : (args.toList.map a.eval).toArray = args.map a.eval := by apply Array.ext'; simp
      obtain ⟨rfl, h1⟩ := copy0_run (P := P) (S := S) (ty := ty) (vs := args.toList.map a.eval) (consts := args.map fun | .const _ => true | _ => false) hr (by simp) (fun i h1 h2 => by
        simp only [List.getElem_map]
        exact ev _)
      rw [e] at h1
      refine ⟨.int .i64 0, S, ?_, hwf, Ext.refl S, hh, fun k h => h, .i _ _ (.v _ trivial)⟩
      simp only [execOp, resolve, invoke, Sem.run_bind, Sem.run_pure, Result.andThen_ok]
      exact h1
    · cases hr
  · cases hr
end
end Go.Ev

/- Closed runs: calls are run within the caller's own heap. -/
set_option maxRecDepth 20000
namespace Go.Ev
open Go

abbrev Hp := List (Nat × AObj)
/-- what runs a call: function, objects, first free key, arguments -/
abbrev Inl := FuncId → Hp → Nat → List AV → Option (AV × Hp × Nat)

section
variable [Globs] (P : Program) (SG : SGT) (IN : Inl)

def callOf (fr : List (Nat × AV)) (o : Oper) : Option (FuncId × List AV) :=
  match o.op with
  | .call c => match c.callee with
    | .value f => match evalA fr f with
      | .fnv (.func g) first captured => match look SG g with
        | none => some (g, first ++ c.args.toList.map (evalA fr) ++ captured)
        | some _ => none
      | _ => none
    | _ => none
  | _ => none

def stepI (hs : List (Nat × Hint)) (ops : List Oper) (i : Nat) (A : AS) : Option AS :=
  match ops[i]? with
  | none => none
  | some o =>
    match wantedA ops A.fr o with
    | none => none
    | some false => putA A o.dst (.tup [])
    | some true => match callOf SG A.fr o with
      | some (g, ys) => match IN g A.hp (A.nx + i) ys with
        | some (r, hp, nx) => putA { A with hp := hp, nx := nx } o.dst r
        | none => none
      | none => match extraA P (look A.hp) o.op (evalA A.fr) with
        | some r => putA A o.dst r
        | none => match Nat.blt (A.nx + i) rsv, takeOpC P SG hs ops i A with
          | true, some t => some t.A
          | _, _ => none

def stepsI (hs : List (Nat × Hint)) (ops : List Oper) : Nat → Nat → AS → Option AS
  | 0, _, A => some A
  | n + 1, i, A => match stepI P SG IN hs ops i A with
    | none => none
    | some A' => stepsI hs ops n (i + 1) A'

def resI1 (A : AS) (r : ResultVar) : Option AV :=
  match r with
  | .tmp s => look A.fr s
  | .cell s ct => match look A.fr s with
    | some x => match okCells (restr A.hp (keysOf x)) x, loadA P (restr A.hp (keysOf x)) ct x with
      | true, some r => some r.val
      | _, _ => none
    | none => none

def resIs (A : AS) : List ResultVar → Option (List AV)
  | [] => some []
  | r :: rs => match resI1 P A r, resIs A rs with
    | some x, some xs => some (x :: xs)
    | _, _ => none

def packA : List AV → AV
  | [x] => x
  | l => .tup l

def startI (fn : Func) (hp : Hp) (nx : Nat) (ys : List AV) : AS := { n := ys.length + (fn.ntmps - ys.length), fr := argsFr 0 ys, hp := hp, nx := nx }

end

section
variable [Globs] {P : Program} {SG : SGT} {IN : Inl}

/-- a call within the caller's own heap comes to r, and the objects are hp' -/
def InTo (P : Program) (g : FuncId) (hp : Hp) (nx : Nat) (ys : List AV) (r : AV) (hp' : Hp) (nx' : Nat) : Prop :=
  ∀ (S : St) (vals : List Value), S.wf → HeapOK S hp → (∀ k, S.used k → k < nx ∨ rsv ≤ k) → RepsS S vals ys →
    CalledTo P g vals.toArray S.w fun v w' => ∃ S', S'.w = w' ∧ S'.wf ∧ Ext S S' ∧ HeapOK S' hp' ∧ (∀ k, S'.used k → k < nx' ∨ rsv ≤ k) ∧ Rep S' v r

def InlOK (P : Program) (IN : Inl) : Prop := ∀ g hp nx ys r hp' nx', IN g hp nx ys = some (r, hp', nx') → InTo P g hp nx ys r hp' nx'

/-- as 'To', and everything that is one's own stays so -/
def ToX (P : Program) (c : Code) (A : AS) (e : Exit) (A' : AS) : Prop :=
  ∀ S a, Rel S A a → c.wp P (fun e1 a1 w1 => e1 = e ∧ ∃ S', S'.w = w1 ∧ Ext S S' ∧ Rel S' A' a1) a S.w

theorem callOf_spec {fr : List (Nat × AV)} {o : Oper} {g : FuncId} {ys : List AV} (h : callOf SG fr o = some (g, ys)) :
    ∃ c f as bs, o.op = .call c ∧ c.callee = .value f ∧ evalA fr f = .fnv (.func g) as bs ∧ ys = as ++ c.args.toList.map (evalA fr) ++ bs := by
  unfold callOf at h
  split at h
  · next c hc =>
    split at h
    · next f hf =>
      split at h
      · next g' as bs he =>
        split at h
        · cases h; exact ⟨c, f, as, bs, hc, hf, he, rfl⟩
        · cases h
      · cases h
    · cases h
  · cases h

/-- the operation of a call goes as its function does -/
theorem call_wp {o : Oper} {c : Call} {f : Operand} {g : FuncId} {as bs : List AV} {A : AS} {S : St} {a : Act} {R : Value → World → Prop} {K : Act → World → Prop} {Q : Exit → Act → World → Prop} (hc : o.op = .call c) (hf : c.callee = .value f) (he : evalA A.fr f = .fnv (.func g) as bs)
    (hfr : FrOK S A.n A.fr a.tmps) (hcall : ∀ vals, RepsS S vals (as ++ c.args.toList.map (evalA A.fr) ++ bs) → CalledTo P g vals.toArray S.w R)
    (hK : ∀ v w, R v w → K (a.put o.dst v) w) : o.wp P a S.w K Q := by
  obtain ⟨dst, op, ty, pos, after, guard⟩ := o
  obtain ⟨callee, args, argTypes⟩ := c
  simp only at hc hf
  subst hc hf
  have ev := rep_eval hfr
  have h0 := ev f
  rw [he] at h0
  obtain ⟨fa, ca, hv, e1, e2, e3, e4⟩ := rep_fnv h0
  have harr : (fa.toList ++ args.toList.map a.eval ++ ca.toList).toArray = fa ++ args.map a.eval ++ ca := by
    apply Array.ext'
    simp
  have hreps : RepsS S (fa.toList ++ args.toList.map a.eval ++ ca.toList) (as ++ args.toList.map (evalA A.fr) ++ bs) := by
    refine ⟨by simp [e1, e3], fun i h1 h2 => ?_⟩
    have arrGet : ∀ (a : Array Value) (j : Nat) (h : j < a.size), a.toList[j]'(by simpa using h) = a.getD j undef := fun a j h => by
      rw [Array.getD_eq_getD_getElem?, Array.getElem?_eq_getElem h]; simp
    simp only [List.getElem_append, Array.length_toList, List.length_append, List.length_map]
    by_cases h3 : i < as.length
    · rw [dif_pos (by omega), dif_pos (by omega), dif_pos (by omega), dif_pos h3, arrGet _ _ (by omega)]
      exact e2 i h3
    · by_cases h4 : i < as.length + args.size
      · rw [dif_pos (by omega), dif_neg (by omega), dif_pos (by omega), dif_neg h3]
        simp only [List.getElem_map, e1]
        exact ev _
      · rw [dif_neg (by omega), dif_neg (by omega), arrGet _ _ (by simp at h1; omega)]
        have := e4 (i - (fa.size + args.size)) (by simp at h2; omega)
        have hq : fa.size + args.size = as.length + args.size := by omega
        simpa [hq] using this
  have hcall := hcall _ hreps
  rw [harr] at hcall
  have hrun : (execOp a.eval { dst, op := .call { callee := .value f, args, argTypes }, type := ty, pos, after, guard }).run P S.w = (callFunc g (fa ++ args.map a.eval ++ ca)).run P S.w := by
    simp [execOp, resolve, hv, Deferred.ofValue, invoke]
  unfold Oper.wp
  rw [hrun]
  unfold CalledTo at hcall
  revert hcall
  cases (callFunc g (fa ++ args.map a.eval ++ ca)).run P S.w with
  | halt x w' => exact fun h => h.elim
  | ok nx w' =>
    cases nx with
    | value v => exact fun h => hK _ _ h
    | enter f' args' =>
      exact fun ⟨hw, h⟩ => by
        subst hw
        refine h.mono fun e w'' ⟨v, he, hr⟩ => ?_
        subst he
        exact hK _ _ hr
    | _ => exact fun h => h.elim

/-- one operation -/
theorem stepI_wp {hs : List (Nat × Hint)} {ops : Array Oper} {i : Nat} {A A' : AS} {S : St} {a : Act} {Q : Exit → Act → World → Prop} {K : Act → World → Prop} (hsg : SigsOK P SG) (hq : Quiet SG) (hin : InlOK P IN) (h : stepI P SG IN hs ops.toList i A = some A')
    (hR : RelU (fun k => k < A.nx + i ∨ rsv ≤ k) S A a) (hK : ∀ S' a', Ext S S' → RelU (fun k => k < A'.nx + (i + 1) ∨ rsv ≤ k) S' A' a' → K a' S'.w) : wpOp P ops Q i K a S.w := by
  unfold stepI at h
  split at h
  · cases h
  · next o ho =>
    have ho' := ho
    rw [Array.getElem?_toList] at ho
    split at h
    · cases h
    · next hw =>
      unfold wpOp
      simp only [ho]
      rw [wantedA_sound hR.fr hR.size hw]
      simp only [Bool.false_eq_true, if_false]
      obtain ⟨h1, h2, h3, h4, h5⟩ := putA_spec h
      exact hK S _ (Ext.refl S) ⟨hR.wf, by rw [put_size, hR.size, h2], by rw [put_defers]; exact hR.defers, put_fr hR.fr hR.size (Ext.refl S) rep_undef h, by rw [h4]; exact hR.hp, fun k hk => by have := hR.used k hk; rw [h3]; omega⟩
    · next hw =>
      split at h
      · next g ys hcall =>
        split at h
        · next r hp nx hin' =>
          obtain ⟨c, f, as, bs, e1, e2, e3, rfl⟩ := callOf_spec hcall
          unfold wpOp
          simp only [ho]
          rw [wantedA_sound hR.fr hR.size hw]
          simp only [if_true]
          left
          refine call_wp (R := fun v w' => ∃ S', S'.w = w' ∧ S'.wf ∧ Ext S S' ∧ HeapOK S' hp ∧ (∀ k, S'.used k → k < nx ∨ rsv ≤ k) ∧ Rep S' v r) e1 e2 e3 hR.fr (fun vals hv => hin _ _ _ _ _ _ _ hin' S vals hR.wf hR.hp hR.used hv) ?_
          rintro v w ⟨S', rfl, hwf, hext, hhp, hu, hrep⟩
          obtain ⟨h1, h2, h3, h4, h5⟩ := putA_spec h
          refine hK S' _ hext ⟨hwf, by rw [put_size, hR.size, h2], by rw [put_defers]; exact hR.defers, put_fr (A := { A with hp := hp, nx := nx }) hR.fr hR.size hext hrep h, by rw [h4]; exact hhp, fun k hk => ?_⟩
          have := hu k hk
          rw [h3]
          show k < nx + (i + 1) ∨ _
          omega
        · cases h
      · split at h
        · next r hx =>
          unfold wpOp
          simp only [ho]
          rw [wantedA_sound hR.fr hR.size hw]
          simp only [if_true]
          left
          obtain ⟨v, S', g1, g2, g3, g4, g5, g6⟩ := extraA_out (o := o) hR.wf hR.hp hR.fr hx
          unfold Oper.wp
          rw [g1]
          obtain ⟨h1, h2, h3, h4, h5⟩ := putA_spec h
          refine hK S' _ g3 ⟨g2, by rw [put_size, hR.size, h2], by rw [put_defers]; exact hR.defers, put_fr hR.fr hR.size g3 g6 h, by rw [h4]; exact g4, fun k hk => ?_⟩
          have := hR.used k (g5 k hk)
          rw [h3]
          omega
        · split at h
          case h_2 => cases h
          next t hlt ht =>
          cases h
          obtain ⟨c, h1, hc⟩ := takeOpC_ok hq ht
          have hn := takeOp_frame h1
          simp only [Nat.blt_eq] at hlt
          refine takeOp_wp hsg h1 hc hR (fun hu => absurd (hR.used _ hu) (by omega)) fun S' a' he hR' _ => hK S' a' he ⟨hR'.wf, hR'.size, hR'.defers, hR'.fr, hR'.hp, fun k hk => ?_⟩
          have := hR'.used k hk
          simp only at hn
          rw [hn]
          omega

theorem stepsI_wp {hs : List (Nat × Hint)} {ops : Array Oper} {Q : Exit → Act → World → Prop} (hsg : SigsOK P SG) (hq : Quiet SG) (hin : InlOK P IN) : ∀ (n i : Nat) (A A' : AS) (S : St) (a : Act), stepsI P SG IN hs ops.toList n i A = some A' →
    RelU (fun k => k < A.nx + i ∨ rsv ≤ k) S A a → (∀ S' a', Ext S S' → RelU (fun k => k < A'.nx + (i + n) ∨ rsv ≤ k) S' A' a' → Q .normal a' S'.w) → wpOps P ops Q (List.range' i n) a S.w := by
  intro n
  induction n with
  | zero =>
    intro i A A' S a h hR hK
    simp only [stepsI, Option.some.injEq] at h
    subst h
    exact hK S a (Ext.refl S) hR
  | succ n ih =>
    intro i A A' S a h hR hK
    simp only [stepsI] at h
    split at h
    · cases h
    · next A1 h1 =>
      rw [List.range'_succ, wpOps_cons]
      refine stepI_wp hsg hq hin h1 hR fun S' a' he hR' => ih (i + 1) A1 A' S' a' h hR' fun S'' a'' he' hR'' => hK S'' a'' (he.trans he') ?_
      have e : i + 1 + n = i + (n + 1) := by omega
      rw [← e]
      exact hR''

theorem resI1_rep {A : AS} {r : ResultVar} {x : AV} {S : St} {a : Act} (hR : Rel S A a) (h : resI1 P A r = some x) : ∃ v, (readRes a.tmps r).run P S.w = .ok v S.w ∧ Rep S v x := by
  unfold resI1 at h
  split at h
  · next s => exact ⟨_, rfl, (hR.fr s x h).2⟩
  · next s ct =>
    split at h
    · next y hy =>
      split at h
      · next r hok hl =>
        cases h
        obtain ⟨_, v, h1, h2⟩ := loadA_run hR.wf hR.hp hl (loadA_ok hok hl) (hR.fr s y hy).2
        exact ⟨v, loadAt_as h1, h2⟩
      · cases h
    · cases h

theorem resIs_rep {A : AS} {S : St} {a : Act} (hR : Rel S A a) : ∀ {rs : List ResultVar} {xs : List AV}, resIs P A rs = some xs → ∃ vs, (rs.mapM (readRes a.tmps)).run P S.w = .ok vs S.w ∧ RepsS S vs xs
  | [], xs, h => by unfold resIs at h; cases h; exact ⟨[], by simp, rfl, fun i h1 h2 => absurd h2 (by simp)⟩
  | r :: rs, xs, h => by
    unfold resIs at h
    split at h
    · next x xs' h1 h2 =>
      cases h
      obtain ⟨v, g1, g2⟩ := resI1_rep hR h1
      obtain ⟨vs, g3, g4⟩ := resIs_rep hR h2
      refine ⟨v :: vs, by simp [List.mapM_cons, g1, g3], by have := g4.1; simpa using this, fun i k1 k2 => ?_⟩
      cases i with
      | zero => exact g2
      | succ i => exact g4.2 i (by simpa using k1) (by simpa using k2)
    · cases h

theorem packA_rep {S : St} {vs : List Value} {xs : List AV} (h : RepsS S vs xs) : Rep S (packed vs) (packA xs) := by
  match xs, vs, h with
  | [x], [v], h => exact h.2 0 (by simp) (by simp)
  | [], [], h => exact .tup _ _ rfl fun i hi => absurd hi (by simp)
  | x :: y :: xs, v :: u :: l, h =>
    refine .tup _ _ (by simpa using h.1) fun i hi => ?_
    have := h.2 i (by rw [h.1]; exact hi) hi
    rw [Array.getD_eq_getD_getElem?, List.getElem?_toArray, List.getElem?_eq_getElem (by rw [h.1]; exact hi)]
    exact this
  | [x], [], h => exact absurd h.1 (by simp)
  | [x], _ :: _ :: _, h => exact absurd h.1 (by simp)
  | [], _ :: _, h => exact absurd h.1 (by simp)
  | _ :: _ :: _, [], h => exact absurd h.1 (by simp)
  | _ :: _ :: _, [_], h => exact absurd h.1 (by simp)

theorem startI_rel {S : St} {fn : Func} {hp : Hp} {nx : Nat} {vals : List Value} {ys : List AV} (hwf : S.wf) (hh : HeapOK S hp) (hu : ∀ k, S.used k → k < nx ∨ rsv ≤ k) (hr : RepsS S vals ys) :
    Rel S (startI fn hp nx ys) { tmps := vals.toArray ++ Array.replicate (fn.ntmps - vals.toArray.size) undef, defers := [] } := by
  refine ⟨hwf, ?_, rfl, fun t x hx => ?_, hh, hu⟩
  · simp [startI, hr.1]
  · obtain ⟨j, h1, h2, h3⟩ := look_argsFr hx
    simp only [Nat.zero_add] at h2
    subst h2
    refine ⟨by simp only [startI]; omega, ?_⟩
    have hj : t < vals.length := by rw [hr.1]; exact h1
    have := hr.2 t hj h1
    rw [List.getElem?_eq_getElem h1] at h3
    cases h3
    have e : (vals.toArray ++ Array.replicate (fn.ntmps - vals.toArray.size) undef).getD t undef = vals[t] := by
      rw [Array.getD_eq_getD_getElem?, Array.getElem?_append_left (by simpa using hj)]
      simp [hj]
    show Rep S ((vals.toArray ++ Array.replicate (fn.ntmps - vals.toArray.size) undef).getD t undef) _
    rw [e]
    exact this

end
end Go.Ev

/- Regions that draw their order, with calls that are run within the caller's own heap. -/
set_option maxRecDepth 20000
namespace Go.Ev
open Go

abbrev FP := List Nat × List Nat

section
variable [Globs] {P : Program} {SG : SGT} {Q : Exit → Act → World → Prop}

theorem Anc.op {ops : Array Oper} {j k : Nat} (h : Anc ops j k) : ∃ o, ops[j]? = some o := by
  induction h with
  | one ho he hb => exact ⟨_, ho⟩
  | more ho he hb _ _ => exact ⟨_, ho⟩

/-- an operation goes from what A says to what A1 says -/
def StepTo (P : Program) (ops : Array Oper) (i : Nat) (A A1 : AS) : Prop :=
  ∀ (Q : Exit → Act → World → Prop) (K : Act → World → Prop) (S : St) (a : Act), RelU (fun k => k < A.nx + ops.size ∨ rsv ≤ k) S A a →
    (∀ S' a', Ext S S' → RelU (fun k => k < A1.nx ∨ rsv ≤ k) S' A1 a' → K a' S'.w) → wpOp P ops Q i K a S.w

def RunI (P : Program) (SG : SGT) (hs : List (Nat × Hint)) (ops : Array Oper) : List (Nat × Option FP) → AS → AS → Prop
  | [], A, A' => Like A A'
  | (i, some f) :: l, A, A' => ∃ T, takeOp P SG hs ops.toList i A = some T ∧ AllP T.cond ∧ (T.need, T.ups) = f ∧ RunI P SG hs ops l T.A A'
  | (i, none) :: l, A, A' => (∃ o, ops[i]? = some o) ∧ ∃ A1, StepTo P ops i A A1 ∧ A1.nx + ops.size ≤ rsv ∧ RunI P SG hs ops l A1 A'

theorem StepTo.like {ops : Array Oper} {i : Nat} {A B A1 : AS} (h : StepTo P ops i A A1) (hl : Like A B) : StepTo P ops i B A1 := fun Q K S a hR hK => by
  refine h Q K S a ?_ hK
  have := hR.like hl.symm
  rw [hl.nx] at this
  exact this

theorem RunI.like {hs : List (Nat × Hint)} {ops : Array Oper} : ∀ {l : List (Nat × Option FP)} {A B C : AS}, RunI P SG hs ops l A C → Like A B → RunI P SG hs ops l B C
  | [], A, B, C, h, hl => hl.symm.trans h
  | (i, some f) :: l, A, B, C, h, hl => by
    obtain ⟨T, h1, h2, h3, h4⟩ := h
    obtain ⟨T', g1, g2, g3, g4, g5⟩ := takeOp_like h1 hl
    exact ⟨T', g1, by rw [g2]; exact h2, by rw [g3, g4]; exact h3, RunI.like h4 g5⟩
  | (i, none) :: l, A, B, C, h, hl => by
    obtain ⟨ho, A1, h1, h2, h3⟩ := h
    exact ⟨ho, A1, h1.like hl, h2, h3⟩

theorem RunI.first {hs : List (Nat × Hint)} {ops : Array Oper} {i : Nat} {f : FP} {l2 : List (Nat × Option FP)} {C : AS} : ∀ {l1 : List (Nat × Option FP)} {A : AS}, RunI P SG hs ops (l1 ++ (i, some f) :: l2) A C →
    (∀ k g, (k, g) ∈ l1 → ∃ x y g', ops[k]? = some x ∧ ops[i]? = some y ∧ g = some g' ∧ indep ops x y g' f = true) → RunI P SG hs ops ((i, some f) :: (l1 ++ l2)) A C
  | [], A, h, _ => h
  | (k, g) :: l1, A, h, hi => by
    obtain ⟨x, y, g', hx, hy, rfl, hxy⟩ := hi k g (by simp)
    obtain ⟨T, h1, h2, h3, h4⟩ := h
    obtain ⟨U, g1, g2, g3, g4⟩ := RunI.first (l1 := l1) h4 fun k' g' hm => hi k' g' (by simp [hm])
    rw [← h3, ← g3] at hxy
    obtain ⟨U', T', u1, t1, u2, u3, u4, t2, t3, t4, hl⟩ := takeOp_swap h1 g1 hx hy hxy
    exact ⟨U', u1, by rw [u2]; exact g2, by rw [u3, u4]; exact g3, T', t1, by rw [t2]; exact h2, by rw [t3, t4]; exact h3, RunI.like g4 hl⟩

theorem RunI.op {hs : List (Nat × Hint)} {ops : Array Oper} {i : Nat} {f : Option FP} {l : List (Nat × Option FP)} {A C : AS} (h : RunI P SG hs ops ((i, f) :: l) A C) : ∃ o, ops[i]? = some o := by
  cases f with
  | none => exact h.1
  | some f =>
    obtain ⟨T, h1, _⟩ := h
    exact Run.op h1

def ApartI (ops : Array Oper) (x y : Nat × Option FP) : Prop :=
  x.1 < y.1 ∧ (Anc ops y.1 x.1 ∨ ∃ o p f g, ops[x.1]? = some o ∧ ops[y.1]? = some p ∧ x.2 = some f ∧ y.2 = some g ∧ indep ops o p f g = true)

theorem any_wpI {hs : List (Nat × Hint)} {ops : Array Oper} (hsg : SigsOK P SG) (hback : backOk ops.toList 0 = true) : ∀ (fuel : Nat) (l : List (Nat × Option FP)) (listed : Array Bool) (A A' : AS) (S : St) (a : Act),
    l.length = fuel → listed.size = ops.size → (∀ i, i < ops.size → (listed.getD i true = false ↔ ∃ f, (i, f) ∈ l)) →
    (∀ j o, listed.getD j false = true → ops[j]? = some o → ∀ e ∈ o.after, Region.binds .any e = true → listed.getD e.on false = true) →
    l.Pairwise (ApartI ops) → RunI P SG hs ops l A A' → RelU (fun k => k < A.nx + ops.size ∨ rsv ≤ k) S A a → (∀ i f, (i, f) ∈ l → ¬ S.used (A.nx + i)) →
    (∀ S' a', Ext S S' → RelU (fun k => k < A'.nx + ops.size ∨ rsv ≤ k) S' A' a' → Q .normal a' S'.w) → wpAny P .any ops Q fuel listed a S.w := by
  intro fuel
  induction fuel with
  | zero =>
    intro l listed A A' S a hlen hls hmem hcl hpw hrun hR hused hK
    have hl : l = [] := List.length_eq_zero_iff.1 hlen
    subst hl
    have hrun' : Like A A' := hrun
    refine ⟨?_, hK S a (Ext.refl S) (by have := hR.like hrun'; rw [← hrun'.nx] at this; exact this)⟩
    cases hrd : Region.ready .any ops listed with
    | nil => rfl
    | cons i r =>
      have hi : i ∈ Region.ready .any ops listed := by rw [hrd]; simp
      obtain ⟨h0, o, ho, _⟩ := mem_ready.1 hi
      obtain ⟨f, hf⟩ := (hmem i (Array.getElem?_eq_some_iff.1 ho).1).1 h0
      cases hf
  | succ fuel ih =>
    intro l listed A A' S a hlen hls hmem hcl hpw hrun hR hused hK
    have hsame : ∀ i, i < ops.size → listed.getD i false = listed.getD i true := fun i hi => by
      have : i < listed.size := by rw [hls]; exact hi
      simp [this]
    refine ⟨fun hnil => ?_, fun i hi => ?_⟩
    · exfalso
      cases l with
      | nil => cases hlen
      | cons x l =>
        obtain ⟨i, f⟩ := x
        obtain ⟨o, ho⟩ := RunI.op hrun
        have hlt := (Array.getElem?_eq_some_iff.1 ho).1
        have : i ∈ Region.ready .any ops listed := by
          rw [mem_ready]
          refine ⟨(hmem i hlt).2 ⟨f, by simp⟩, o, ho, fun e he hb => ?_⟩
          have hon := backOk_spec hback i o (by rw [Array.getElem?_toList]; exact ho) e he hb
          simp only [Nat.zero_add] at hon
          have hons : e.on < ops.size := by omega
          rw [hsame _ hons]
          cases hv : listed.getD e.on true with
          | true => rfl
          | false =>
            exfalso
            obtain ⟨g, hg⟩ := (hmem _ hons).1 hv
            rcases List.mem_cons.1 hg with h1 | h1
            · cases h1; omega
            · have : i < e.on := ((List.pairwise_cons.1 hpw).1 _ h1).1
              omega
        rw [hnil] at this
        cases this
    · obtain ⟨h0, o, ho, hdeps⟩ := mem_ready.1 hi
      have hlt := (Array.getElem?_eq_some_iff.1 ho).1
      obtain ⟨f, hf⟩ := (hmem i hlt).1 h0
      obtain ⟨l1, l2, hl⟩ := List.append_of_mem hf
      subst hl
      have hpw' := List.pairwise_append.1 hpw
      have hap : ∀ k g, (k, g) ∈ l1 → ∃ x y g' f', ops[k]? = some x ∧ ops[i]? = some y ∧ g = some g' ∧ f = some f' ∧ indep ops x y g' f' = true := fun k g hk => by
        have hap := hpw'.2.2 (k, g) hk (i, f) (by simp)
        rcases hap.2 with hanc | hind
        · exfalso
          have hkl : k < ops.size := Nat.lt_trans (show k < i from hap.1) hlt
          have h1 := hanc.listed (listed := listed) (fun o' ho' e he hb => by rw [ho] at ho'; cases ho'; exact hdeps e he hb) hcl
          rw [hsame _ hkl] at h1
          have h2 := (hmem k hkl).2 ⟨g, by simp [hk]⟩
          rw [h1] at h2
          cases h2
        · obtain ⟨x, y, g', f', a1, a2, a3, a4, a5⟩ := hind
          exact ⟨x, y, g', f', a1, a2, a3, a4, a5⟩
      have hne : ∀ k g, (k, g) ∈ l1 ++ l2 → k ≠ i := fun k g hk => by
        rcases List.mem_append.1 hk with h1 | h1
        · have : k < i := (hpw'.2.2 (k, g) h1 (i, f) (by simp)).1
          omega
        · have : i < k := ((List.pairwise_cons.1 hpw'.2.1).1 (k, g) h1).1
          omega
      have hlt' : ∀ k g, (k, g) ∈ l1 ++ l2 → k < ops.size := fun k g hk => by
        rcases Nat.lt_or_ge k ops.size with h | h
        · exact h
        · exfalso
          rcases List.mem_append.1 hk with h1 | h1
          · have : k < i := (hpw'.2.2 (k, g) h1 (i, f) (by simp)).1
            omega
          · have ha := ((List.pairwise_cons.1 hpw'.2.1).1 (k, g) h1).2
            rcases ha with ha | ⟨_, p, _, _, _, hp, _⟩
            · obtain ⟨o', ho'⟩ := ha.op
              have := (Array.getElem?_eq_some_iff.1 ho').1
              omega
            · have := (Array.getElem?_eq_some_iff.1 hp).1
              simp only at this
              omega
      have mem' : ∀ k, k < ops.size → ((listed.setIfInBounds i true).getD k true = false ↔ ∃ f, (k, f) ∈ l1 ++ l2) := fun k hk => by
        by_cases hki : k = i
        · subst hki
          have : (listed.setIfInBounds k true).getD k true = true := by
            have : k < listed.size := by rw [hls]; exact hk
            simp [this]
          rw [this]
          constructor
          · intro h; cases h
          · rintro ⟨g, hg⟩
            exact absurd rfl (hne k g hg)
        · rw [getD_set_ne true (Ne.symm hki), hmem k hk]
          constructor
          · rintro ⟨g, hg⟩
            refine ⟨g, ?_⟩
            simp only [List.mem_append, List.mem_cons, Prod.mk.injEq] at hg ⊢
            rcases hg with h | ⟨h, _⟩ | h
            · exact .inl h
            · exact absurd h hki
            · exact .inr h
          · rintro ⟨g, hg⟩
            refine ⟨g, ?_⟩
            simp only [List.mem_append, List.mem_cons] at hg ⊢
            rcases hg with h | h
            · exact .inl h
            · exact .inr (.inr h)
      have cl' : ∀ j o, (listed.setIfInBounds i true).getD j false = true → ops[j]? = some o → ∀ e ∈ o.after, Region.binds .any e = true → (listed.setIfInBounds i true).getD e.on false = true := fun j o' hj ho' e he hb => by
        by_cases hji : j = i
        · subst hji
          rw [ho] at ho'
          cases ho'
          exact getD_set_true (hdeps e he hb)
        · rw [getD_set_ne false (Ne.symm hji)] at hj
          exact getD_set_true (hcl j o' hj ho' e he hb)
      cases f with
      | none =>
        have hl1 : l1 = [] := by
          cases l1 with
          | nil => rfl
          | cons x l =>
            obtain ⟨k, g⟩ := x
            obtain ⟨_, _, _, _, _, _, _, h4, _⟩ := hap k g (by simp)
            cases h4
        subst hl1
        obtain ⟨_, A1, h1, h2, h3⟩ := hrun
        refine h1 _ _ S a hR fun S' a' he hR' => ?_
        refine ih ([] ++ l2) _ A1 A' S' a' (by simp at hlen ⊢; omega) (by simp [hls]) mem' cl' (hpw.sublist (by simp)) h3
          ⟨hR'.wf, hR'.size, hR'.defers, hR'.fr, hR'.hp, fun k hk => ?_⟩ (fun k g hk hus => ?_) fun S'' a'' he' hR'' => hK S'' a'' (he.trans he') hR''
        · have := hR'.used k hk; omega
        · have h4 := hR'.used _ hus
          have := hlt' k g hk
          omega
      | some f =>
        have hfirst := RunI.first hrun fun k g hk => by
          obtain ⟨x, y, g', f', a1, a2, a3, a4, a5⟩ := hap k g hk
          cases a4
          exact ⟨x, y, g', a1, a2, a3, a5⟩
        obtain ⟨T, ht, hc, hfp, hrest⟩ := hfirst
        have hTnx := takeOp_frame ht
        refine takeOp_wp (U := fun k => k < A.nx + ops.size ∨ rsv ≤ k) hsg ht hc hR (hused i _ hf) fun S' a' he hR' hu => ?_
        refine ih (l1 ++ l2) _ T.A A' S' a' (by simp at hlen ⊢; omega) (by simp [hls]) mem' cl' (hpw.sublist (by simp)) hrest
          ⟨hR'.wf, hR'.size, hR'.defers, hR'.fr, hR'.hp, fun k hk => ?_⟩ (fun k g hk hus => ?_) fun S'' a'' he' hR'' => hK S'' a'' (he.trans he') hR''
        · rw [hTnx]
          rcases hR'.used k hk with h1 | h1
          · exact h1
          · omega
        · rw [hTnx] at hus
          rcases hu _ hus with h1 | h1
          · exact hused k g (by
              rcases List.mem_append.1 hk with h | h
              · simp [h]
              · simp [h]) h1
          · have := hne k g hk
            omega

/-- each pair of operations: one behind the other, or apart (calls that are run within are apart from none) -/
def drawOkI (ops : Array Oper) (fs : List (Option FP)) : Bool :=
  backOk ops.toList 0 &&
  (List.range ops.size).all fun j => (List.range j).all fun i =>
    ((Region.before ops).getD j 0).testBit i ||
    match ops[i]?, ops[j]?, fs[i]?, fs[j]? with
    | some x, some y, some (some f), some (some g) => indep ops x y f g
    | _, _, _, _ => false

theorem drawOkI_pairwise {ops : Array Oper} {fs : List (Option FP)} (h : drawOkI ops fs = true) (hl : fs.length = ops.size) : (numbered 0 fs).Pairwise (ApartI ops) := by
  unfold drawOkI at h
  rw [Bool.and_eq_true] at h
  have hp := h.2
  refine (numbered_pairwise fs 0).imp_of_mem fun {x y} hx hy hlt => ⟨hlt, ?_⟩
  obtain ⟨i, f⟩ := x
  obtain ⟨j, g⟩ := y
  have hi := (numbered_mem.1 hx).2
  have hj := (numbered_mem.1 hy).2
  simp only [Nat.sub_zero] at hi hj
  have hjlt : j < ops.size := by rw [← hl]; exact (List.getElem?_eq_some_iff.1 hj).1
  have h1 := List.all_eq_true.1 hp j (List.mem_range.2 hjlt)
  have h2 := List.all_eq_true.1 h1 i (List.mem_range.2 hlt)
  rw [Bool.or_eq_true] at h2
  rcases h2 with h2 | h2
  · exact .inl (before_anc ops j i h2)
  · split at h2
    · next o p f' g' e1 e2 e3 e4 =>
      rw [hi] at e3
      rw [hj] at e4
      cases e3
      cases e4
      exact .inr ⟨o, p, f', g', e1, e2, rfl, rfl, h2⟩
    · cases h2
end
end Go.Ev

/- Closed runs, calls within the caller's own heap: the evaluator. -/
set_option maxRecDepth 20000
namespace Go.Ev
open Go

section
variable [Globs] (P : Program) (SG : SGT) (IN : Inl)
/-- an operation of a region that draws its order -/
def stepDr (hs : List (Nat × Hint)) (ops : List Oper) (sz i : Nat) (A : AS) : Option (AS × Option FP) :=
  match (match ops[i]? with
    | none => none
    | some o => match wantedA ops A.fr o with
      | some true => match callOf SG A.fr o with
        | some (g, ys) => some (o, g, ys)
        | none => none
      | _ => none) with
  | some (o, g, ys) => match IN g A.hp (A.nx + sz) ys with
    | some (r, hp, nx) => match Nat.ble (nx + sz) rsv, putA { A with hp := hp, nx := nx } o.dst r with
      | true, some A' => some (A', none)
      | _, _ => none
    | none => none
  | none => match takeOpC P SG hs ops i A with
    | some t => some (t.A, some (t.need, t.ups))
    | none => none

def stepsDr (hs : List (Nat × Hint)) (ops : List Oper) (sz : Nat) : Nat → Nat → AS → Option (AS × List (Option FP))
  | 0, _, A => some (A, [])
  | n + 1, i, A => match stepDr P SG IN hs ops sz i A with
    | none => none
    | some (A1, f) => match stepsDr hs ops sz n (i + 1) A1 with
      | some (A', fs) => some (A', f :: fs)
      | none => none

def evI (fuel : Nat) (H : List (Nat × List (Nat × Hint))) : Code → AS → Option (Exit × AS)
  | .skip, A => some (.normal, A)
  | .region id ops draw, A =>
    match draw with
    | false => match stepsI P SG IN ((look H id).getD []) ops.toList ops.size 0 A with
      | none => none
      | some A' => some (.normal, { A' with nx := A'.nx + ops.size })
    | true => match stepsDr P SG IN ((look H id).getD []) ops.toList ops.size ops.size 0 A with
      | none => none
      | some (A', fs) => match drawOkI ops fs && Nat.ble (A.nx + ops.size) rsv with
        | true => some (.normal, { A' with nx := A'.nx + ops.size })
        | false => none
  | .seq a b, A => match evI fuel H a A with
    | some (.normal, A') => evI fuel H b A'
    | r => r
  | .cond x a b, A => match evalA A.fr x with
    | .v (.bool true) => evI fuel H a A
    | .v (.bool false) => evI fuel H b A
    | _ => none
  | .block id a, A => match evI fuel H a A with
    | some (.exit i, A') => match Nat.beq i id with
      | true => some (.normal, A')
      | false => some (.exit i, A')
    | r => r
  | .loop a, A => iterR (fun A => evI fuel H a A) fuel A
  | .exit id, A => some (.exit id, A)
  | .ret, A => some (.ret, A)
  | _, _ => none

def fnI (fuel : Nat) (H : List (Nat × List (Nat × Hint))) (fn : Func) (hp : Hp) (nx : Nat) (ys : List AV) : Option (AV × Hp × Nat) :=
  match fn.body with
  | none => none
  | some c => match evI P SG IN fuel H c (startI fn hp nx ys) with
    | some (e, A) => match endR e, resIs P A fn.results.toList with
      | true, some rs => some (packA rs, A.hp, A.nx)
      | _, _ => none
    | none => none
end

/-- calls within calls, so many deep -/
def inlA [Globs] (P : Program) (SG : SGT) (fuel : Nat) (HH : List (Nat × List (Nat × List (Nat × Hint)))) : Nat → Inl
  | 0 => fun _ _ _ _ => none
  | d + 1 => fun g hp nx ys => match P.funcs[g]? with
    | none => none
    | some fn => fnI P SG (inlA P SG fuel HH d) fuel ((look HH g).getD []) fn hp nx ys

section
variable [Globs] {P : Program} {SG : SGT} {IN : Inl}
theorem stepDr_run (hq : Quiet SG) (hin : InlOK P IN) {hs : List (Nat × Hint)} {ops : Array Oper} {i : Nat} {A A1 : AS} {f : Option FP} (h : stepDr P SG IN hs ops.toList ops.size i A = some (A1, f)) {l : List (Nat × Option FP)} {A' : AS} (hl : RunI P SG hs ops l A1 A') :
    RunI P SG hs ops ((i, f) :: l) A A' := by
  unfold stepDr at h
  split at h
  · next o g ys hsel =>
    split at hsel
    · cases hsel
    · next o' ho =>
      split at hsel
      · next hw =>
        split at hsel
        · next hcall =>
          cases hsel
          split at h
          · next r hp nx hin' =>
            split at h
            · next A2 hb hput =>
              cases h
              simp only [Nat.ble_eq] at hb
              obtain ⟨h1, h2, h3, h4, h5⟩ := putA_spec hput
              rw [Array.getElem?_toList] at ho
              refine ⟨⟨_, ho⟩, A1, ?_, by rw [h3]; exact hb, hl⟩
              intro Q K S a hR hK
              obtain ⟨c, f, as, bs, e1, e2, e3, rfl⟩ := callOf_spec hcall
              unfold wpOp
              simp only [ho]
              rw [wantedA_sound hR.fr hR.size hw]
              simp only [if_true]
              left
              refine call_wp (R := fun v w' => ∃ S', S'.w = w' ∧ S'.wf ∧ Ext S S' ∧ HeapOK S' hp ∧ (∀ k, S'.used k → k < nx ∨ rsv ≤ k) ∧ Rep S' v r) e1 e2 e3 hR.fr (fun vals hv => hin _ _ _ _ _ _ _ hin' S vals hR.wf hR.hp hR.used hv) ?_
              rintro v w ⟨S', rfl, hwf, hext, hhp, hu, hrep⟩
              exact hK S' _ hext ⟨hwf, by rw [put_size, hR.size, h2], by rw [put_defers]; exact hR.defers, put_fr (A := { A with hp := hp, nx := nx }) hR.fr hR.size hext hrep hput, by rw [h4]; exact hhp, fun k hk => by have := hu k hk; rw [h3]; exact this⟩
            · cases h
          · cases h
        · cases hsel
      · cases hsel
  · split at h
    · next t ht =>
      cases h
      obtain ⟨c, h1, hc⟩ := takeOpC_ok hq ht
      exact ⟨_, h1, hc, rfl, hl⟩
    · cases h

theorem stepsDr_run (hq : Quiet SG) (hin : InlOK P IN) {hs : List (Nat × Hint)} {ops : Array Oper} : ∀ {n i : Nat} {A A' : AS} {fs : List (Option FP)}, stepsDr P SG IN hs ops.toList ops.size n i A = some (A', fs) → fs.length = n ∧ RunI P SG hs ops (numbered i fs) A A'
  | 0, i, A, A', fs, h => by simp only [stepsDr, Option.some.injEq, Prod.mk.injEq] at h; obtain ⟨rfl, rfl⟩ := h; exact ⟨rfl, Like.refl _⟩
  | n + 1, i, A, A', fs, h => by
    simp only [stepsDr] at h
    split at h
    · cases h
    · next A1 f h1 =>
      split at h
      · next A2 fs' h2 =>
        simp only [Option.some.injEq, Prod.mk.injEq] at h
        obtain ⟨rfl, rfl⟩ := h
        obtain ⟨k1, k2⟩ := stepsDr_run hq hin h2
        exact ⟨by simp [k1], stepDr_run hq hin h1 k2⟩
      · cases h

theorem iterI_wp {c : Code} {f : AS → Option (Exit × AS)} (hf : ∀ A e A', f A = some (e, A') → ToX P c A e A') : ∀ (n : Nat) (A : AS) (e : Exit) (A' : AS), iterR f n A = some (e, A') →
    ∃ m, ∀ S a, Rel S A a → Code.rounds P c (fun e1 a1 w1 => e1 = e ∧ ∃ S', S'.w = w1 ∧ Ext S S' ∧ Rel S' A' a1) m a S.w
  | 0, A, e, A', h => by unfold iterR at h; cases h
  | n + 1, A, e, A', h => by
    unfold iterR at h
    split at h
    · next A1 h1 =>
      obtain ⟨m, hm⟩ := iterI_wp hf n A1 e A' h
      refine ⟨m + 1, fun S a hR => wp_mono (hf _ _ _ h1 S a hR) fun e1 a1 w1 hg => ?_⟩
      obtain ⟨rfl, S', rfl, hk, hR'⟩ := hg
      exact rounds_mono (fun e2 a2 w2 ⟨he, S'', hS, hk', hR''⟩ => ⟨he, S'', hS, hk.trans hk', hR''⟩) m a1 _ (hm S' a1 hR')
    · next hne =>
      refine ⟨1, fun S a hR => wp_mono (hf _ _ _ h S a hR) fun e1 a1 w1 hg => ?_⟩
      obtain ⟨rfl, hg⟩ := hg
      cases e1 with
      | normal => exact (hne _ h).elim
      | _ => exact ⟨rfl, hg⟩

/-- A RUN WITH ITS CALLS WITHIN IS RIGHT. -/
theorem evI_to (hm : P.follows .mixedOrders = true) (hsg : SigsOK P SG) (hq : Quiet SG) (hin : InlOK P IN) {fuel : Nat} {H : List (Nat × List (Nat × Hint))} (code : Code) : ∀ (A : AS) (e : Exit) (A' : AS),
    evI P SG IN fuel H code A = some (e, A') → ToX P code A e A' := by
  induction code with
  | skip =>
    intro A e A' h
    simp only [evI, Option.some.injEq, Prod.mk.injEq] at h
    obtain ⟨rfl, rfl⟩ := h
    exact fun S a hR => wp_skip ⟨rfl, S, rfl, Ext.refl S, hR⟩
  | region id ops draw =>
    intro A e A' h
    simp only [evI] at h
    cases draw with
    | false =>
      simp only at h
      split at h
      · cases h
      · next A1 ht =>
        simp only [Option.some.injEq, Prod.mk.injEq] at h
        obtain ⟨rfl, rfl⟩ := h
        intro S a hR
        refine wp_region ?_
        rw [List.range_eq_range']
        refine stepsI_wp hsg hq hin ops.size 0 A A1 S a ht ⟨hR.wf, hR.size, hR.defers, hR.fr, hR.hp, hR.used⟩ fun S' a' he hR' => ⟨rfl, S', rfl, he, ⟨hR'.wf, hR'.size, hR'.defers, hR'.fr, hR'.hp, fun k hk => ?_⟩⟩
        have := hR'.used k hk
        show k < A1.nx + ops.size ∨ _
        omega
    | true =>
      simp only at h
      split at h
      · cases h
      · next A1 fs ht =>
        split at h
        · next hd =>
          simp only [Option.some.injEq, Prod.mk.injEq] at h
          obtain ⟨rfl, rfl⟩ := h
          rw [Bool.and_eq_true, Nat.ble_eq] at hd
          obtain ⟨hlen, hrun⟩ := stepsDr_run hq hin ht
          intro S a hR
          have hback : backOk ops.toList 0 = true := by
            have := hd.1
            unfold drawOkI at this
            rw [Bool.and_eq_true] at this
            exact this.1
          have hg := drew_grows S.w
          refine wp_region_any hm ?_
          show wpAny P .any ops _ ops.size (Array.replicate ops.size false) a (S.at S.w.drew).w
          refine any_wpI hsg hback ops.size (numbered 0 fs) _ A A1 (S.at S.w.drew) a (by rw [numbered_length, hlen]) (by simp) (fun i hi => ?_) (fun j o hj => ?_) (drawOkI_pairwise hd.1 hlen) hrun
            ⟨wf_at hg hR.wf, hR.size, hR.defers, hR.fr.ext (ext_at hg hR.wf), heap_at hg hR.wf hR.hp, fun k hk => by have := hR.used k hk; omega⟩ (fun i f hf hu => ?_) fun S' a' he hR' => ⟨rfl, S', rfl, (ext_at hg hR.wf).trans he, ⟨hR'.wf, hR'.size, hR'.defers, hR'.fr, hR'.hp, hR'.used⟩⟩
          · have : (Array.replicate ops.size false).getD i true = false := by simp [hi]
            rw [this]
            constructor
            · intro _
              refine ⟨fs[i]'(by rw [hlen]; exact hi), numbered_mem.2 ⟨Nat.zero_le _, ?_⟩⟩
              simp
            · intro _; rfl
          · exfalso
            by_cases hjs : j < ops.size
            · simp [hjs] at hj
            · simp [hjs] at hj
          · have h1 := hR.used _ hu
            have h2 := (numbered_mem.1 hf).2
            have h3 : i < ops.size := by
              rcases Nat.lt_or_ge i fs.length with h | h
              · omega
              · rw [List.getElem?_eq_none (by omega)] at h2; cases h2
            omega
        · cases h
  | seq x y ihx ihy =>
    intro A e A' h
    simp only [evI] at h
    split at h
    · next A1 h1 =>
      have t1 := ihx _ _ _ h1
      have t2 := ihy _ _ _ h
      refine fun S a hR => wp_seq (wp_mono (t1 S a hR) fun e1 a1 w1 hg => ?_)
      obtain ⟨rfl, S', rfl, hk, hR'⟩ := hg
      exact wp_mono (t2 S' a1 hR') fun e2 a2 w2 ⟨he, S'', hS, hk', hR''⟩ => ⟨he, S'', hS, hk.trans hk', hR''⟩
    · next hne =>
      have t1 := ihx _ _ _ h
      refine fun S a hR => wp_seq (wp_mono (t1 S a hR) fun e1 a1 w1 hg => ?_)
      obtain ⟨rfl, hg⟩ := hg
      cases e1 with
      | normal => exact (hne _ h).elim
      | _ => exact ⟨rfl, hg⟩
  | cond x p q ihp ihq =>
    intro A e A' h
    simp only [evI] at h
    split at h
    · next hv =>
      intro S a hR
      have hr := rep_eval hR.fr x
      rw [hv] at hr
      exact wp_cond_true (rep_v hr).1 (ihp _ _ _ h S a hR)
    · next hv =>
      intro S a hR
      have hr := rep_eval hR.fr x
      rw [hv] at hr
      exact wp_cond_false (rep_v hr).1 (ihq _ _ _ h S a hR)
    · cases h
  | block id x ih =>
    intro A e A' h
    simp only [evI] at h
    split at h
    · next i A1 h1 =>
      have t1 := ih _ _ _ h1
      split at h
      · next hb =>
        simp only [Option.some.injEq, Prod.mk.injEq] at h
        obtain ⟨rfl, rfl⟩ := h
        have hi := Nat.eq_of_beq_eq_true hb
        refine fun S a hR => wp_block (wp_mono (t1 S a hR) fun e1 a1 w1 hg => ?_)
        obtain ⟨rfl, hg⟩ := hg
        show if i = id then _ else _
        rw [if_pos hi]
        exact ⟨rfl, hg⟩
      · next hb =>
        simp only [Option.some.injEq, Prod.mk.injEq] at h
        obtain ⟨rfl, rfl⟩ := h
        have hi : i ≠ id := fun e => by subst e; rw [Nat.beq_refl] at hb; cases hb
        refine fun S a hR => wp_block (wp_mono (t1 S a hR) fun e1 a1 w1 hg => ?_)
        obtain ⟨rfl, hg⟩ := hg
        show if i = id then _ else _
        rw [if_neg hi]
        exact ⟨rfl, hg⟩
    · next hne =>
      have t1 := ih _ _ _ h
      refine fun S a hR => wp_block (wp_mono (t1 S a hR) fun e1 a1 w1 hg => ?_)
      obtain ⟨rfl, hg⟩ := hg
      cases e1 with
      | exit i => exact (hne _ _ h).elim
      | _ => exact ⟨rfl, hg⟩
  | loop x ih =>
    intro A e A' h
    simp only [evI] at h
    obtain ⟨m, hm'⟩ := iterI_wp (fun A e A' => ih A e A') fuel A e A' h
    exact fun S a hR => wp_loop_rounds m (hm' S a hR)
  | exit id =>
    intro A e A' h
    simp only [evI, Option.some.injEq, Prod.mk.injEq] at h
    obtain ⟨rfl, rfl⟩ := h
    exact fun S a hR => wp_exit ⟨rfl, S, rfl, Ext.refl S, hR⟩
  | ret =>
    intro A e A' h
    simp only [evI, Option.some.injEq, Prod.mk.injEq] at h
    obtain ⟨rfl, rfl⟩ := h
    exact fun S a hR => wp_ret ⟨rfl, S, rfl, Ext.refl S, hR⟩
  | _ => intro A e A' h; simp only [evI, reduceCtorEq] at h

theorem fnI_to (hm : P.follows .mixedOrders = true) (hsg : SigsOK P SG) (hq : Quiet SG) (hin : InlOK P IN) {fuel : Nat} {H : List (Nat × List (Nat × Hint))} {g : FuncId} {fn : Func} {hp hp' : Hp} {nx nx' : Nat} {ys : List AV} {r : AV}
    (hf : P.funcs[g]? = some fn) (hn : (fn.name == "runtime.NumGoroutine") = false) (h : fnI P SG IN fuel H fn hp nx ys = some (r, hp', nx')) : InTo P g hp nx ys r hp' nx' := by
  unfold fnI at h
  split at h
  · cases h
  · next code hb =>
    split at h
    · next e A h1 =>
      split at h
      · next rs he h2 =>
        cases h
        intro S vals hwf hh hu hr
        have hrun : (callFunc g vals.toArray).run P S.w = .ok (.enter g vals.toArray) S.w := by
          have hn' : fn.name ≠ "runtime.NumGoroutine" := by simpa using hn
          simp [callFunc, hf, hn', hb]
        unfold CalledTo
        rw [hrun]
        refine ⟨rfl, calls_of_wp hf hb ?_⟩
        refine wp_mono (evI_to hm hsg hq hin code _ _ _ h1 S _ (startI_rel (fn := fn) hwf hh hu hr)) fun e1 a1 w1 hg => ?_
        obtain ⟨rfl, S', rfl, hk, hR⟩ := hg
        obtain ⟨vs, h3, h4⟩ := resIs_rep hR h2
        have hres := results_reads (P := P) (fn := fn) (tmps := a1.tmps) (w := S'.w) h3
        have hfin : ∃ S'', S''.w = S'.w ∧ S''.wf ∧ Ext S S'' ∧ HeapOK S'' A.hp ∧ (∀ k, S''.used k → k < A.nx ∨ rsv ≤ k) ∧ Rep S'' (packed vs) (packA rs) := ⟨S', rfl, hR.wf, hk, hR.hp, hR.used, packA_rep h4⟩
        cases e1 with
        | ret => exact ⟨hR.defers, _, hres, _, rfl, hfin⟩
        | normal => exact ⟨hR.defers, _, hres, _, rfl, hfin⟩
        | _ => cases he
      · cases h
    · cases h

/-- no function of the program is the one that the model treats by itself -/
def noGo (P : Program) : Bool := P.funcs.all fun f => !(f.name == "runtime.NumGoroutine")

theorem inlA_ok (hm : P.follows .mixedOrders = true) (hng : noGo P = true) (hsg : SigsOK P SG) (hq : Quiet SG) {fuel : Nat} {HH : List (Nat × List (Nat × List (Nat × Hint)))} : ∀ d, InlOK P (inlA P SG fuel HH d)
  | 0 => fun g hp nx ys r hp' nx' h => by simp only [inlA, reduceCtorEq] at h
  | d + 1 => fun g hp nx ys r hp' nx' h => by
    simp only [inlA] at h
    split at h
    · cases h
    · next fn hf =>
      refine fnI_to hm hsg hq (inlA_ok hm hng hsg hq d) hf ?_ h
      unfold noGo at hng
      obtain ⟨hlt, he⟩ := Array.getElem?_eq_some_iff.1 hf
      have := Array.all_eq_true.1 hng g hlt
      rw [he] at this
      simpa using this

/-- a run that hands nothing of its own back -/
theorem InTo.pure {g : FuncId} {ys : List AV} {r : AV} {hp' : Hp} {nx' : Nat} (h : InTo P g [] 0 ys r hp' nx') (hp : plainA r = true) : PureTo P g ys r := by
  intro S vals hwf hr
  have h0 := h S.start vals (start_wf hwf) (fun k o hk => by cases hk) (fun k hk => hk.elim) ⟨hr.1, fun i h1 h2 => .i _ _ ((hr.2 i h1 h2).mono fun b hb => start_free.2 hb)⟩
  have key : ∀ v w', (∃ S', S'.w = w' ∧ S'.wf ∧ Ext S.start S' ∧ HeapOK S' hp' ∧ (∀ k, S'.used k → k < nx' ∨ rsv ≤ k) ∧ Rep S' v r) → Grows S.w w' ∧ RepI w' S.free v r := by
    rintro v w' ⟨S', rfl, hw, hx, -, -, hrep⟩
    refine ⟨end_grows hx.kept, (plainA_rep hrep hp).mono fun b hb => end_free hwf hx.kept [] ?_⟩
    show (match S'.own b with | some (some k) => if k ∈ ([] : List Nat) then none else some (some k) | o => o) = none
    have hb' : S'.own b = none := hb
    rw [hb']
  unfold CalledTo at h0 ⊢
  revert h0
  show (match (callFunc g vals.toArray).run P S.w with | .ok (.value v) w' => _ | .ok (.enter g args) w' => _ | _ => _) → _
  cases (callFunc g vals.toArray).run P S.w with
  | halt x w' => exact fun h => h
  | ok n w' =>
    cases n with
    | value v => exact fun h => key v w' h
    | enter f args => exact fun h => ⟨h.1, h.2.mono fun e w'' ⟨v, he, hv⟩ => ⟨v, he, key v w'' hv⟩⟩
    | _ => exact fun h => h
end
end Go.Ev

/- Functions without a body: the bits of floats. -/
namespace Go.Ev
variable [Globs]
open Go

variable {P : Program}

theorem repIs_one {w : World} {U : Nat → Prop} {vals : List Value} {x : Value} (h : RepIs w U vals [.v x]) : vals = [x] := by
  obtain ⟨h1, h2⟩ := h
  match vals, h1 with
  | [v], _ =>
    have := h2 0 (by simp) (by simp)
    simp only [List.getElem_cons_zero] at this
    cases this
    rfl

/-- a function without a body, of one value that is told, answers with one that is told -/
theorem pure_extern {f : FuncId} {fn : Func} {e : Array Value → Sem Value} {x y : Value} (hf : P.funcs[f]? = some fn) (hname : (fn.name == "runtime.NumGoroutine") = false)
    (hb : fn.body.isNone = true) (hn : Extern.findNext fn = none) (he : Extern.find fn = some e) (hy : okV y) (hrun : ∀ w, (e #[x]).run P w = .ok y w) : PureTo P f [.v x] (.v y) := by
  intro S vals hwf hv
  have := repIs_one hv
  subst this
  unfold CalledTo
  rw [run_callFunc_extern hf hname hb hn he, show ([x] : List Value).toArray = #[x] from rfl, hrun, Result.andThen_ok]
  exact ⟨Grows.refl _, .v _ hy⟩

theorem bits_pure {f : FuncId} {fn : Func} (hf : P.funcs[f]? = some fn) (hname : (fn.name == "runtime.NumGoroutine") = false)
    (hb : fn.body.isNone = true) (hn : Extern.findNext fn = none) (he : Extern.find fn = some Extern.MathFloatBits.float64bits) (x : Nat) : PureTo P f [.v (.float .f64 x)] (.v (.int .u64 x)) :=
  pure_extern hf hname hb hn he trivial fun _ => rfl

theorem frombits_pure {f : FuncId} {fn : Func} (hf : P.funcs[f]? = some fn) (hname : (fn.name == "runtime.NumGoroutine") = false)
    (hb : fn.body.isNone = true) (hn : Extern.findNext fn = none) (he : Extern.find fn = some Extern.MathFloatBits.float64frombits) (x : Int) : PureTo P f [.v (.int .u64 x)] (.v (.float .f64 x.toNat)) :=
  pure_extern hf hname hb hn he trivial fun _ => rfl

theorem sigs_cons {SG : SGT} {f : FuncId} {sig : List AV → Option (AV × List Prop)} (h : SigsOK P SG) (hf : ∀ ys r c, sig ys = some (r, c) → AllP c → PureTo P f ys r) : SigsOK P ((f, .p sig) :: SG) := by
  intro g s hg
  simp only [Go.Ev.look] at hg
  split at hg
  · next hb =>
    cases hg
    have := Nat.eq_of_beq_eq_true hb
    subst this
    exact hf
  · exact h g s hg

theorem sigs_s {SG : SGT} {f : FuncId} {mask : List Bool} {sig : List AObj → List AV → Option (AV × List AObj × List Prop)} (h : SigsOK P SG) (hf : ∀ os ys r os' c, sig os ys = some (r, os', c) → AllP c → SharedTo P f os ys r os') : SigsOK P ((f, .s mask sig) :: SG) := by
  intro g s hg
  simp only [Go.Ev.look] at hg
  split at hg
  · next hb =>
    cases hg
    have := Nat.eq_of_beq_eq_true hb
    subst this
    exact hf
  · exact h g s hg

end Go.Ev

/- Closed runs: contracts made of runs; tables that leave nothing to be shown. -/
set_option maxRecDepth 20000
namespace Go.Ev
open Go

/-- what a run from nothing hands back, own rows as what they hold -/
def sigI [Globs] (P : Program) (IN : Inl) (g : FuncId) (t : TypeId) : List AV → Option (AV × List Prop) := fun ys =>
  match IN g [] 0 ys with
  | some (r, hp, _) => match snap P (restr hp (keysOf r)) t r, okSnap (restr hp (keysOf r)) r with
    | some (y, _, _), true => some (y, [])
    | _, _ => none
  | none => none

section
variable [Globs] {P : Program} {SG : SGT} {IN : Inl}

/-- a run whose result is told as what it holds -/
theorem InTo.snapped {g : FuncId} {ys : List AV} {r y : AV} {hp' : Hp} {nx' : Nat} {ks nd : List Nat} {t : TypeId} {c : List Prop} (h : InTo P g [] 0 ys r hp' nx') (hs : snap P (restr hp' nd) t r = some (y, c, ks)) (hc : AllP c) : PureTo P g ys y := by
  intro S vals hwf hr
  have h0 := h S.start vals (start_wf hwf) (fun k o hk => by cases hk) (fun k hk => hk.elim) ⟨hr.1, fun i h1 h2 => .i _ _ ((hr.2 i h1 h2).mono fun b hb => start_free.2 hb)⟩
  have key : ∀ v w', (∃ S', S'.w = w' ∧ S'.wf ∧ Ext S.start S' ∧ HeapOK S' hp' ∧ (∀ k, S'.used k → k < nx' ∨ rsv ≤ k) ∧ Rep S' v r) → Grows S.w w' ∧ RepI w' S.free v y := by
    rintro v w' ⟨S', rfl, hw, hx, hhp, -, hrep⟩
    refine ⟨end_grows hx.kept, ?_⟩
    have := snap_rep (ks := ks) hw hhp hs hc hrep fun k h => h
    exact this.mono fun b hb => end_free hwf hx.kept ks hb
  unfold CalledTo at h0 ⊢
  revert h0
  show (match (callFunc g vals.toArray).run P S.w with | .ok (.value v) w' => _ | .ok (.enter g args) w' => _ | _ => _) → _
  cases (callFunc g vals.toArray).run P S.w with
  | halt x w' => exact fun h => h
  | ok n w' =>
    cases n with
    | value v => exact fun h => key v w' h
    | enter f args => exact fun h => ⟨h.1, h.2.mono fun e w'' ⟨v, he, hv⟩ => ⟨v, he, key v w'' hv⟩⟩
    | _ => exact fun h => h

theorem sigI_ok (hin : InlOK P IN) {g : FuncId} {t : TypeId} : ∀ ys r c, sigI P IN g t ys = some (r, c) → AllP c → PureTo P g ys r := by
  intro ys r c h _
  unfold sigI at h
  split at h
  · next r0 hp nx h0 =>
    split at h
    · next y c' ks hs hok =>
      cases h
      exact (hin _ _ _ _ _ _ _ h0).snapped hs (snap_ok hok hs)
    · cases h
  · cases h
theorem sigI_quiet {g : FuncId} {t : TypeId} : ∀ ys r c, sigI P IN g t ys = some (r, c) → AllP c := by
  intro ys r c h
  unfold sigI at h
  split at h
  · split at h
    · cases h; exact trivial
    · cases h
  · cases h

theorem quiet_cons {f : FuncId} {sig : List AV → Option (AV × List Prop)} (h : Quiet SG) (hf : ∀ ys r c, sig ys = some (r, c) → AllP c) : Quiet ((f, .p sig) :: SG) := by
  intro g
  have := h g
  simp only [look]
  cases Nat.beq f g with
  | true => exact hf
  | false => exact this
theorem quiet_nil : Quiet [] := fun g => trivial
end
end Go.Ev
