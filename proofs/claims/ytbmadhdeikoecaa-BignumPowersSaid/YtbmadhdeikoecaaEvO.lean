/- The order of a region's operations: what the evaluator comes to is the same in each order that the region allows. No program in sight. -/
import Derived.Test.YtbmadhdeikoecaaEvN
namespace Go.Ev

section
variable {P : Program} {SG : List (FuncId × (List AV → Option (AV × List Prop)))}

theorem opA_congr {key : Nat} {h : Option Hint} {o : Op} {ev ev' : Operand → AV} {hp : Nat → Option AObj} (he : ∀ x ∈ o.operands, ev x = ev' x) : opA P SG key h o ev hp = opA P SG key h o ev' hp := by
  have pairs : ∀ ps : Array (Nat × Operand), (∀ x ∈ (ps.toList.map (·.2)).toArray, ev x = ev' x) → (ps.toList.map fun p => (p.1, ev p.2)) = ps.toList.map fun p => (p.1, ev' p.2) := fun ps hp =>
    List.map_congr_left fun p hm => by
      rw [hp p.2 (by simp only [List.mem_toArray, List.mem_map]; exact ⟨p, hm, rfl⟩)]
  have lists : ∀ xs : Array Operand, (∀ x ∈ xs, ev x = ev' x) → xs.toList.map ev = xs.toList.map ev' := fun xs hx =>
    List.map_congr_left fun x hm => hx x (by simpa using hm)
  cases o <;> simp only [Op.operands] at he <;> simp only [opA]
  case build t ps => rw [pairs ps he]
  case buildSlice t n ps => rw [pairs ps he]
  case makeFunc fn first captured =>
    rw [lists first fun x hx => he x (by simp [hx]), lists captured fun x hx => he x (by simp [hx])]
  case call c =>
    obtain ⟨callee, args, argTypes⟩ := c
    cases callee with
    | builtin b => simp only [Call.operands] at he; simp only; rw [lists args fun x hx => he x (by simp [hx])]
    | value f => simp only [Call.operands] at he; simp only; rw [he f (by simp), lists args fun x hx => he x (by simp [hx])]
    | invoke r m => rfl
  case slice t x lo hi mx =>
    have hx : ev x = ev' x := he x (by simp)
    have opt : ∀ y : Option Operand, (∀ z ∈ y.toArray, ev z = ev' z) → y.map ev = y.map ev' := fun y hy => by
      cases y with
      | none => rfl
      | some z => simp [hy z (by simp)]
    rw [hx, opt lo fun z hz => he z (by simp only [Array.mem_append]; exact .inl (.inl (.inr hz))), opt hi fun z hz => he z (by simp only [Array.mem_append]; exact .inl (.inr hz)), opt mx fun z hz => he z (by simp only [Array.mem_append]; exact .inr hz)]
  all_goals first | rfl | (simp_all; done)

/-- the same frame and the same heap, place by place -/
structure Like (A B : AS) : Prop where
  n : B.n = A.n
  nx : B.nx = A.nx
  fr : ∀ t, look B.fr t = look A.fr t
  hp : ∀ k, look B.hp k = look A.hp k

theorem Like.refl (A : AS) : Like A A := ⟨rfl, rfl, fun _ => rfl, fun _ => rfl⟩
theorem Like.symm {A B : AS} (h : Like A B) : Like B A := ⟨h.n.symm, h.nx.symm, fun t => (h.fr t).symm, fun k => (h.hp k).symm⟩
theorem Like.trans {A B C : AS} (h : Like A B) (g : Like B C) : Like A C := ⟨g.n.trans h.n, g.nx.trans h.nx, fun t => (g.fr t).trans (h.fr t), fun k => (g.hp k).trans (h.hp k)⟩

/-- what a list of updates leaves at a key -/
def updAt (l : List (Nat × Option AObj)) (k : Nat) (d : Option AObj) : Option AObj :=
  match l with
  | [] => d
  | (j, o) :: r => updAt r k (if k = j then o else d)

theorem look_applyUpd (l : List (Nat × Option AObj)) (hp : List (Nat × AObj)) (k : Nat) : look (applyUpd hp l) k = updAt l k (look hp k) := by
  induction l generalizing hp with
  | nil => rfl
  | cons x r ih =>
    obtain ⟨j, o⟩ := x
    cases o with
    | none => simp only [applyUpd, updAt, ih, look_drop]
    | some o => simp only [applyUpd, updAt, ih, look_put]

theorem updAt_not {l : List (Nat × Option AObj)} {k : Nat} (h : k ∉ l.map (·.1)) (d : Option AObj) : updAt l k d = d := by
  induction l generalizing d with
  | nil => rfl
  | cons x r ih =>
    obtain ⟨j, o⟩ := x
    simp only [List.map_cons, List.mem_cons, not_or] at h
    simp only [updAt, if_neg h.1]
    exact ih h.2 d

/-- what is written at a key at all does not hang on what was there -/
theorem updAt_mem {l : List (Nat × Option AObj)} {k : Nat} (h : k ∈ l.map (·.1)) (d d' : Option AObj) : updAt l k d = updAt l k d' := by
  induction l generalizing d d' with
  | nil => cases h
  | cons x r ih =>
    obtain ⟨j, o⟩ := x
    simp only [updAt]
    by_cases hk : k = j
    · rw [if_pos hk, if_pos hk]
    · rw [if_neg hk, if_neg hk]
      refine ih ?_ d d'
      simp only [List.map_cons, List.mem_cons] at h
      exact h.resolve_left hk

theorem updAt_comm {l m : List (Nat × Option AObj)} (h : ∀ k, k ∈ l.map (·.1) → k ∉ m.map (·.1)) (k : Nat) (d : Option AObj) : updAt m k (updAt l k d) = updAt l k (updAt m k d) := by
  by_cases hl : k ∈ l.map (·.1)
  · rw [updAt_not (h k hl), updAt_not (h k hl)]
  · rw [updAt_not hl, updAt_not hl]

theorem meets_spec {a b : List Nat} (h : meets a b = false) : ∀ k, k ∈ a → k ∉ b := by
  intro k ha hb
  unfold meets at h
  have h1 := List.any_eq_false.1 h k ha
  have : (b.any fun y => Nat.beq k y) = true := List.any_eq_true.2 ⟨k, hb, Nat.beq_refl k⟩
  exact h1 this

theorem mem_any_beq {ks : List Nat} {k : Nat} : (ks.any (Nat.beq k)) = true ↔ k ∈ ks := by
  rw [List.any_eq_true]
  exact ⟨fun ⟨x, hx, he⟩ => by rw [Nat.eq_of_beq_eq_true he]; exact hx, fun h => ⟨k, h, Nat.beq_refl k⟩⟩

theorem restr_eq {hp hp' : List (Nat × AObj)} {ks : List Nat} (h : ∀ k, k ∈ ks → look hp' k = look hp k) : restr hp' ks = restr hp ks := by
  funext k
  unfold restr
  cases hk : ks.any (Nat.beq k) with
  | false => rfl
  | true => exact h k (mem_any_beq.1 hk)

/-- what an operation reads of the state -/
structure Reads (ops : List Oper) (o : Oper) (A B : AS) : Prop where
  n : B.n = A.n
  nx : B.nx = A.nx
  fr : ∀ t, t ∈ o.looksAt ops.toArray → look B.fr t = look A.fr t

theorem Reads.eval {ops : List Oper} {o : Oper} {A B : AS} (h : Reads ops o A B) (x : Operand) (hx : x ∈ o.op.operands) : evalA A.fr x = evalA B.fr x := by
  cases x with
  | tmp t =>
    have : t ∈ o.looksAt ops.toArray := List.mem_append_left _ (List.mem_filterMap.2 ⟨.tmp t, by simpa using hx, rfl⟩)
    simp only [evalA, h.fr t this]
  | _ => rfl

theorem Reads.wanted {ops : List Oper} {o : Oper} {A B : AS} (h : Reads ops o A B) : wantedA ops B.fr o = wantedA ops A.fr o := by
  unfold wantedA
  cases hg : o.guard with
  | none => rfl
  | some jw =>
    obtain ⟨j, want⟩ := jw
    simp only
    cases ho : ops[j]? with
    | none => rfl
    | some g =>
      simp only
      cases hd : g.dst with
      | none => rfl
      | some d =>
        simp only
        rw [h.fr d]
        unfold Oper.looksAt
        rw [hg]
        refine List.mem_append_right _ ?_
        simp [ho, hd]

theorem Reads.need {ops : List Oper} {o : Oper} {A B : AS} (h : Reads ops o A B) : (o.op.operands.toList.flatMap fun x => keysOf (evalA B.fr x)) = o.op.operands.toList.flatMap fun x => keysOf (evalA A.fr x) := by
  have : ∀ l : List Operand, (∀ x, x ∈ l → evalA A.fr x = evalA B.fr x) → (l.flatMap fun x => keysOf (evalA B.fr x)) = l.flatMap fun x => keysOf (evalA A.fr x) := by
    intro l
    induction l with
    | nil => intro _; rfl
    | cons x r ih =>
      intro hl
      simp only [List.flatMap_cons]
      rw [hl x (by simp), ih fun y hy => hl y (by simp [hy])]
  exact this _ fun x hx => h.eval x (by simpa using hx)

theorem putA_spec {A A' : AS} {dst : Option Tmp} {x : AV} (h : putA A dst x = some A') : (∀ d, dst = some d → d < A.n) ∧ A'.n = A.n ∧ A'.nx = A.nx ∧ A'.hp = A.hp ∧
    ∀ t, look A'.fr t = if dst = some t then some x else look A.fr t := by
  unfold putA at h
  split at h
  · cases h
    exact ⟨fun d hd => (by cases hd), rfl, rfl, rfl, fun t => by simp⟩
  · next d =>
    split at h
    · next hb =>
      cases h
      refine ⟨fun d' hd => by cases hd; simpa [Nat.blt_eq] using hb, rfl, rfl, rfl, fun t => ?_⟩
      simp only [look_put, Option.some.injEq]
      by_cases ht : t = d
      · rw [if_pos ht, if_pos ht.symm]
      · rw [if_neg ht, if_neg fun e => ht e.symm]
    · cases h

theorem putA_ok {A : AS} {dst : Option Tmp} (x : AV) (h : ∀ d, dst = some d → d < A.n) : ∃ A', putA A dst x = some A' := by
  unfold putA
  cases dst with
  | none => exact ⟨_, rfl⟩
  | some d =>
    have : Nat.blt d A.n = true := by simpa [Nat.blt_eq] using h d rfl
    simp [this]

/-- what an operation does: all that it hangs on -/
structure Does (hs : List (Nat × Hint)) (ops : List Oper) (i : Nat) (o : Oper) (A : AS) (T : Took) (val : AV) (up : List (Nat × Option AObj)) : Prop where
  op : ops[i]? = some o
  dst : ∀ d, o.dst = some d → d < A.n
  ups : T.ups = up.map (·.1)
  n : T.A.n = A.n
  nx : T.A.nx = A.nx
  fr : ∀ t, look T.A.fr t = if o.dst = some t then some val else look A.fr t
  hp : ∀ k, look T.A.hp k = updAt up k (look A.hp k)
  again : ∀ B, Reads ops o A B → (∀ k, k ∈ T.need → look B.hp k = look A.hp k) → ∃ T', takeOp P SG hs ops i B = some T' ∧ T'.cond = T.cond ∧ T'.need = T.need ∧ T'.ups = T.ups ∧
    T'.A.n = B.n ∧ T'.A.nx = B.nx ∧ (∀ t, look T'.A.fr t = if o.dst = some t then some val else look B.fr t) ∧ ∀ k, look T'.A.hp k = updAt up k (look B.hp k)

theorem takeOp_does {hs : List (Nat × Hint)} {ops : List Oper} {i : Nat} {A : AS} {T : Took} (h : takeOp P SG hs ops i A = some T) : ∃ o val up, Does (P := P) (SG := SG) hs ops i o A T val up := by
  have h0 := h
  unfold takeOp at h
  split at h
  · cases h
  · next o ho =>
    split at h
    · cases h
    · next hw =>
      split at h
      · next A' hp =>
        cases h
        obtain ⟨h1, h2, h3, h4, h5⟩ := putA_spec hp
        refine ⟨o, .junk, [], ho, h1, rfl, h2, h3, h5, fun k => by rw [h4]; rfl, fun B hB hneed => ?_⟩
        obtain ⟨B', hB'⟩ := putA_ok (A := B) .junk fun d hd => by rw [hB.n]; exact h1 d hd
        obtain ⟨g1, g2, g3, g4, g5⟩ := putA_spec hB'
        refine ⟨⟨B', [], [], []⟩, ?_, rfl, rfl, rfl, g2, g3, g5, fun k => by rw [g4]; rfl⟩
        unfold takeOp
        simp only [ho, hB.wanted, hw, hB']
      · cases h
    · next hw =>
      simp only at h
      split at h
      · cases h
      · next r0 hr =>
        split at h
        · next A' hp =>
          cases h
          obtain ⟨h1, h2, h3, h4, h5⟩ := putA_spec hp
          have hup : (hinted (look hs i) r0).upd = r0.upd := by
            unfold hinted
            split
            · split <;> rfl
            · rfl
            · rfl
          refine ⟨o, (hinted (look hs i) r0).val, (hinted (look hs i) r0).upd, ho, h1, rfl, h2, h3, h5, fun k => by rw [h4]; exact look_applyUpd _ _ _, fun B hB hneed => ?_⟩
          obtain ⟨B', hB'⟩ := putA_ok (A := { B with hp := applyUpd B.hp (hinted (look hs i) r0).upd }) (hinted (look hs i) r0).val fun d hd => by
            show d < B.n
            rw [hB.n]
            exact h1 d hd
          obtain ⟨g1, g2, g3, g4, g5⟩ := putA_spec hB'
          refine ⟨⟨B', (hinted (look hs i) r0).cond, _, (hinted (look hs i) r0).upd.map (·.1)⟩, ?_, rfl, rfl, rfl, g2, g3, g5, fun k => by rw [g4]; exact look_applyUpd _ _ _⟩
          unfold takeOp
          simp only [ho, hB.wanted, hw, hB.need, hB.nx]
          rw [restr_eq hneed, opA_congr (ev' := evalA A.fr) (fun x hx => (hB.eval x hx).symm), hr]
          simp only [hB.nx] at hB'
          simp only [hB']
        · cases h

theorem takeOp_like {hs : List (Nat × Hint)} {ops : List Oper} {i : Nat} {A B : AS} {T : Took} (h : takeOp P SG hs ops i A = some T) (hl : Like A B) :
    ∃ T', takeOp P SG hs ops i B = some T' ∧ T'.cond = T.cond ∧ T'.need = T.need ∧ T'.ups = T.ups ∧ Like T.A T'.A := by
  obtain ⟨o, val, up, d⟩ := takeOp_does h
  obtain ⟨T', h1, h2, h3, h4, h5, h6, h7, h8⟩ := d.again B ⟨hl.n, hl.nx, fun t _ => hl.fr t⟩ fun k _ => hl.hp k
  exact ⟨T', h1, h2, h3, h4, by rw [h5, d.n, hl.n], by rw [h6, d.nx, hl.nx], fun t => by rw [h7, d.fr, hl.fr], fun k => by rw [h8, d.hp, hl.hp]⟩

/-- two operations, the other way round -/
theorem takeOp_swap {hs : List (Nat × Hint)} {ops : Array Oper} {i j : Nat} {x y : Oper} {A : AS} {T U : Took} (h1 : takeOp P SG hs ops.toList i A = some T) (h2 : takeOp P SG hs ops.toList j T.A = some U)
    (hx : ops[i]? = some x) (hy : ops[j]? = some y) (hi : indep ops x y (T.need, T.ups) (U.need, U.ups) = true) :
    ∃ U' T', takeOp P SG hs ops.toList j A = some U' ∧ takeOp P SG hs ops.toList i U'.A = some T' ∧ U'.cond = U.cond ∧ U'.need = U.need ∧ U'.ups = U.ups ∧ T'.cond = T.cond ∧ T'.need = T.need ∧ T'.ups = T.ups ∧ Like U.A T'.A := by
  obtain ⟨o1, v1, up1, d1⟩ := takeOp_does h1
  obtain ⟨o2, v2, up2, d2⟩ := takeOp_does h2
  have e1 : o1 = x := by have := d1.op; rw [Array.getElem?_toList, hx] at this; exact (Option.some.inj this).symm
  have e2 : o2 = y := by have := d2.op; rw [Array.getElem?_toList, hy] at this; exact (Option.some.inj this).symm
  subst e1 e2
  simp only [indep, Bool.and_eq_true, Bool.not_eq_true'] at hi
  obtain ⟨⟨⟨ha, hm1⟩, hm2⟩, hm3⟩ := hi
  obtain ⟨a1, a2, a3⟩ := Oper.apart_spec ha
  have hm1 := meets_spec hm1
  have hm2 := meets_spec hm2
  have hm3 := meets_spec hm3
  have hops : ops.toList.toArray = ops := by simp
  obtain ⟨U', u1, u2, u3, u4, u5, u6, u7, u8⟩ := d2.again A ⟨d1.n.symm, d1.nx.symm, fun t ht => by
      rw [d1.fr, if_neg]
      intro hd
      rw [hops] at ht
      exact a1 t hd ht⟩ fun k hk => by
    rw [d1.hp, updAt_not]
    intro hu
    exact hm1 k (by rw [d1.ups]; exact hu) hk
  obtain ⟨T', t1, t2, t3, t4, t5, t6, t7, t8⟩ := d1.again U'.A ⟨u5, u6, fun t ht => by
      rw [u7, if_neg]
      intro hd
      rw [hops] at ht
      exact a3 t hd ht⟩ fun k hk => by
    rw [u8, updAt_not]
    intro hu
    exact hm3 k (by rw [d2.ups]; exact hu) hk
  refine ⟨U', T', u1, t1, u2, u3, u4, t2, t3, t4, by rw [t5, u5, d2.n, d1.n], by rw [t6, u6, d2.nx, d1.nx], fun t => ?_, fun k => ?_⟩
  · rw [t7, u7, d2.fr, d1.fr]
    by_cases hd1 : o1.dst = some t
    · rw [if_pos hd1, if_pos hd1, if_neg (a2 t hd1)]
    · rw [if_neg hd1, if_neg hd1]
  · rw [t8, u8, d2.hp, d1.hp]
    exact (updAt_comm (fun k hk => by
      have := hm2 k (by rw [d1.ups]; exact hk)
      rw [d2.ups] at this
      exact this) k _).symm

/-- a list of operations, taken one behind the other, with what each looks at and turns -/
def Run (P : Program) (SG : List (FuncId × (List AV → Option (AV × List Prop)))) (hs : List (Nat × Hint)) (ops : Array Oper) : List (Nat × (List Nat × List Nat)) → AS → AS → Prop
  | [], A, A' => Like A A'
  | (i, f) :: l, A, A' => ∃ T, takeOp P SG hs ops.toList i A = some T ∧ AllP T.cond ∧ (T.need, T.ups) = f ∧ Run P SG hs ops l T.A A'

theorem Run.like {hs : List (Nat × Hint)} {ops : Array Oper} {l : List (Nat × (List Nat × List Nat))} {A B C : AS} (h : Run P SG hs ops l A C) (hl : Like A B) : Run P SG hs ops l B C := by
  induction l generalizing A B with
  | nil => exact hl.symm.trans h
  | cons x l ih =>
    obtain ⟨i, f⟩ := x
    obtain ⟨T, h1, h2, h3, h4⟩ := h
    obtain ⟨T', g1, g2, g3, g4, g5⟩ := takeOp_like h1 hl
    exact ⟨T', g1, by rw [g2]; exact h2, by rw [g3, g4]; exact h3, ih h4 g5⟩

theorem Run.op {hs : List (Nat × Hint)} {ops : Array Oper} {i : Nat} {A : AS} {T : Took} (h : takeOp P SG hs ops.toList i A = some T) : ∃ o, ops[i]? = some o := by
  obtain ⟨o, _, _, d⟩ := takeOp_does h
  exact ⟨o, by have := d.op; rwa [Array.getElem?_toList] at this⟩

/-- one of them may come up first, if it is apart from those ahead of it -/
theorem Run.first {hs : List (Nat × Hint)} {ops : Array Oper} {i : Nat} {f : List Nat × List Nat} {l1 l2 : List (Nat × (List Nat × List Nat))} {A C : AS} (h : Run P SG hs ops (l1 ++ (i, f) :: l2) A C)
    (hi : ∀ k g, (k, g) ∈ l1 → ∃ x y, ops[k]? = some x ∧ ops[i]? = some y ∧ indep ops x y g f = true) : Run P SG hs ops ((i, f) :: (l1 ++ l2)) A C := by
  induction l1 generalizing A with
  | nil => exact h
  | cons x l1 ih =>
    obtain ⟨k, g⟩ := x
    obtain ⟨T, h1, h2, h3, h4⟩ := h
    obtain ⟨U, g1, g2, g3, g4⟩ := ih h4 fun k' g' hm => hi k' g' (by simp [hm])
    obtain ⟨x, y, hx, hy, hxy⟩ := hi k g (by simp)
    rw [← h3, ← g3] at hxy
    obtain ⟨U', T', u1, t1, u2, u3, u4, t2, t3, t4, hl⟩ := takeOp_swap h1 g1 hx hy hxy
    exact ⟨U', u1, by rw [u2]; exact g2, by rw [u3, u4]; exact g3, T', t1, by rw [t2]; exact h2, by rw [t3, t4]; exact h3, g4.like hl⟩

end
end Go.Ev
