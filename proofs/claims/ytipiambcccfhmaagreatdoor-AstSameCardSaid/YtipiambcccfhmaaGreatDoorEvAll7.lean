/- An evaluator of the model's code, proved right. No condition. -/
import Derived.Test.YtipiambcccfhmaaGreatDoorEvAll4
set_option linter.unusedSimpArgs false
set_option linter.unusedVariables false
set_option linter.unusedSectionVars false
/- Regions that draw their order, with calls that are run within: a call may stand apart from what reads objects that it leaves. -/
set_option maxRecDepth 20000
namespace Go.Ev
open Go

/-- an operation with what it looks at and turns; a call with the objects that it surely leaves -/
inductive Ent where
  | op (f : FP)
  | call (K : List Nat)

section
variable [Globs] {P : Program} {SG : SGT} {Q : Exit → Act → World → Prop}

/-- what is looked at of other objects than those that are left: none -/
def inK (K : List Nat) (f : FP) : Bool := (match f.2 with | [] => true | _ => false) && f.1.all fun n => K.any (Nat.beq (n / 2))

theorem callOf_reads {ops : List Oper} {o : Oper} {A B : AS} (h : Reads ops o A B) : callOf SG B.fr o = callOf SG A.fr o := by
  unfold callOf
  have e : ∀ x ∈ o.op.operands, evalA A.fr x = evalA B.fr x := fun x hx => h.eval x hx
  cases hop : o.op with
  | call c =>
    simp only
    rw [hop] at e
    obtain ⟨callee, args, ts⟩ := c
    cases callee with
    | value f =>
      simp only
      have hf : evalA A.fr f = evalA B.fr f := e f (by simp [Op.operands, Call.operands])
      have hl : args.toList.map (evalA B.fr) = args.toList.map (evalA A.fr) := by
        refine List.map_congr_left fun x hx => (e x ?_).symm
        have hx' : x ∈ args := by simpa using hx
        simp [Op.operands, Call.operands, hx']
      rw [← hf, hl]
    | _ => rfl
  | _ => rfl

/-- a call, from what A says -/
structure CallK (P : Program) (SG : SGT) (ops : Array Oper) (i : Nat) (K : List Nat) (A : AS) (o : Oper) (g : FuncId) (ys : List AV) (r : AV) (hp' : Hp) (nx' : Nat) (A1 : AS) : Prop where
  op : ops[i]? = some o
  want : wantedA ops.toList A.fr o = some true
  callee : callOf SG A.fr o = some (g, ys)
  put : putA { A with hp := hp', nx := nx' } o.dst r = some A1
  goes : InTo P g A.hp (A.nx + ops.size) ys r hp' nx'
  left : ∀ k, k ∈ K → look hp' k = look A.hp k
  rs : nx' + ops.size ≤ rsv

def keyless (h : Option Hint) : Op → Bool
  | .move _ | .assign _ => match h with
    | none => true
    | _ => false
  | .pick _ _ _ | .build _ _ | .load _ _ | .nilCheck _ | .binOp _ _ _ _ _ | .unOp _ _ _ | .convert _ _ _ | .makeFunc _ _ _ | .slice _ _ _ _ _ | .fieldAddr _ _ _ | .field _ _ _ | .indexAddr _ _ _ | .index _ _ _ | .extract _ _ => true
  | _ => false

theorem opA_key {key key' : Nat} {h : Option Hint} {o : Op} {ev : Operand → AV} {hp : Nat → Option AObj} (hk : keyless h o = true) : opA P SG key h o ev hp = opA P SG key' h o ev hp := by
  cases o <;> first | rfl | cases hk | skip
  all_goals
    cases h with
    | none => rfl
    | some x => cases hk

def keylessAt (hs : List (Nat × Hint)) (ops : List Oper) (i : Nat) : Bool :=
  match ops[i]? with
  | some o => keyless (look hs i) o.op
  | none => false

theorem takeOp_nx {hs : List (Nat × Hint)} {ops : List Oper} {i : Nat} {A : AS} {T : Took} (hk : keylessAt hs ops i = true) (h : takeOp P SG hs ops i A = some T) (m : Nat) :
    ∃ T', takeOp P SG hs ops i { A with nx := m } = some T' ∧ T'.cond = T.cond ∧ T'.need = T.need ∧ T'.ups = T.ups ∧ T'.A = { T.A with nx := m } := by
  unfold keylessAt at hk
  unfold takeOp at h ⊢
  split at h
  · cases h
  · next o ho =>
    simp only [ho] at hk ⊢
    have pn : ∀ (B : AS) (x : AV) (A' : AS), putA B o.dst x = some A' → putA { B with nx := m } o.dst x = some { A' with nx := m } := fun B x A' hp => by
      unfold putA at hp ⊢
      cases hd : o.dst with
      | none => rw [hd] at hp; cases hp; rfl
      | some d =>
        rw [hd] at hp
        simp only at hp ⊢
        split at hp
        · cases hp; rfl
        · cases hp
    split at h
    · cases h
    · next hw =>
      split at h
      · next A' hp =>
        cases h
        exact ⟨⟨{ A' with nx := m }, [], [], []⟩, by simp only [hw, pn _ _ _ hp], rfl, rfl, rfl, rfl⟩
      · cases h
    · next hw =>
      simp only at h
      split at h
      · cases h
      · next r0 hr =>
        split at h
        · next A' hp =>
          cases h
          refine ⟨⟨{ A' with nx := m }, _, _, _⟩, ?_, rfl, rfl, rfl, rfl⟩
          rw [opA_key (key' := m + i) hk] at hr
          simp only [hw, hr]
          have := pn _ _ _ hp
          simp only at this
          rw [this]
        · cases h

def RunK (P : Program) (SG : SGT) (hs : List (Nat × Hint)) (ops : Array Oper) : List (Nat × Ent) → AS → AS → Prop
  | [], A, A' => Like A A'
  | (i, .op f) :: l, A, A' => ∃ T, takeOp P SG hs ops.toList i A = some T ∧ AllP T.cond ∧ (T.need, T.ups) = f ∧ RunK P SG hs ops l T.A A'
  | (i, .call K) :: l, A, A' => ∃ o g ys r hp1 n1 A1, CallK P SG ops i K A o g ys r hp1 n1 A1 ∧ RunK P SG hs ops l A1 A'

theorem InTo.like {g : FuncId} {hp hp2 hp' : Hp} {nx nx' : Nat} {ys : List AV} {r : AV} (h : InTo P g hp nx ys r hp' nx') (hl : ∀ k, look hp2 k = look hp k) : InTo P g hp2 nx ys r hp' nx' :=
  fun S vals hwf hh hu hr => h S vals hwf (fun k o hk => hh k o (by rw [hl]; exact hk)) hu hr

/-- the call from another state in which it reads the same -/
theorem CallK.again {ops : Array Oper} {i : Nat} {K : List Nat} {A B : AS} {o : Oper} {g : FuncId} {ys : List AV} {r : AV} {hp' : Hp} {nc' : Nat} {A1 : AS} (h : CallK P SG ops i K A o g ys r hp' nc' A1)
    (hB : Reads ops.toList o A B) (hl : ∀ k, look B.hp k = look A.hp k) : ∃ B1, CallK P SG ops i K B o g ys r hp' nc' B1 := by
  obtain ⟨h1, h2, h3, h4, h5⟩ := putA_spec h.put
  obtain ⟨B1, hB1⟩ := putA_ok (A := { B with hp := hp', nx := nc' }) r (dst := o.dst) fun d hd => by
    show d < B.n
    rw [hB.n]
    exact h1 d hd
  exact ⟨B1, h.op, by rw [hB.wanted]; exact h.want, by rw [callOf_reads hB]; exact h.callee, hB1, by rw [hB.nx]; exact h.goes.like hl, fun k hk => by rw [hl]; exact h.left k hk, h.rs⟩

theorem CallK.state {ops : Array Oper} {i : Nat} {K : List Nat} {A : AS} {o : Oper} {g : FuncId} {ys : List AV} {r : AV} {hp' : Hp} {nc' : Nat} {A1 : AS} (h : CallK P SG ops i K A o g ys r hp' nc' A1) :
    A1.n = A.n ∧ A1.nx = nc' ∧ A1.hp = hp' ∧ ∀ t, look A1.fr t = if o.dst = some t then some r else look A.fr t := by
  obtain ⟨h1, h2, h3, h4, h5⟩ := putA_spec h.put
  exact ⟨h2, h3, h4, h5⟩

theorem RunK.like {hs : List (Nat × Hint)} {ops : Array Oper} : ∀ {l : List (Nat × Ent)} {A B C : AS}, RunK P SG hs ops l A C → Like A B → RunK P SG hs ops l B C
  | [], A, B, C, h, hl => hl.symm.trans h
  | (i, .op f) :: l, A, B, C, h, hl => by
    obtain ⟨T, h1, h2, h3, h4⟩ := h
    obtain ⟨T', g1, g2, g3, g4, g5⟩ := takeOp_like h1 hl
    exact ⟨T', g1, by rw [g2]; exact h2, by rw [g3, g4]; exact h3, RunK.like h4 g5⟩
  | (i, .call K) :: l, A, B, C, h, hl => by
    obtain ⟨o, g, ys, r, hp1, n1, A1, h1, h2⟩ := h
    obtain ⟨B1, g1⟩ := h1.again (B := B) ⟨hl.n, hl.nx, fun t _ => hl.fr t⟩ hl.hp
    obtain ⟨a1, a2, a3, a4⟩ := h1.state
    obtain ⟨b1, b2, b3, b4⟩ := g1.state
    exact ⟨o, g, ys, r, hp1, n1, B1, g1, RunK.like h2 ⟨by rw [b1, a1, hl.n], by rw [b2, a2], fun t => by rw [b4, a4, hl.fr], fun k => by rw [b3, a3]⟩⟩

theorem inK_spec {K : List Nat} {f : FP} (h : inK K f = true) : f.2 = [] ∧ ∀ n, n ∈ f.1 → n / 2 ∈ K := by
  unfold inK at h
  rw [Bool.and_eq_true] at h
  refine ⟨?_, fun n hn => mem_any_beq.1 (List.all_eq_true.1 h.2 n hn)⟩
  have := h.1
  split at this
  · assumption
  · cases this

theorem no_up {o : Op} {up : List (Nat × Option AObj)} (h : turnsA o (up.map (·.1)) = []) : up = [] := by
  cases up with
  | nil => rfl
  | cons x r =>
    have := mem_turns (o := o) (l := (x :: r).map (·.1)) (k := x.1) (by simp)
    rw [h] at this
    cases this

/-- a call and what reads, the other way round -/
theorem swap_call_op {hs : List (Nat × Hint)} {ops : Array Oper} {i j : Nat} {y : Oper} {K : List Nat} {A A1 : AS} {n1 : Nat} {o : Oper} {g : FuncId} {ys : List AV} {r : AV} {hp1 : Hp} {T : Took}
    (h1 : CallK P SG ops i K A o g ys r hp1 n1 A1) (h2 : takeOp P SG hs ops.toList j A1 = some T) (hy : ops[j]? = some y) (ha : o.apart ops y = true) (hk : inK K (T.need, T.ups) = true) (hkl : keylessAt hs ops.toList j = true) :
    ∃ T' B1, takeOp P SG hs ops.toList j A = some T' ∧ T'.cond = T.cond ∧ T'.need = T.need ∧ T'.ups = T.ups ∧ CallK P SG ops i K T'.A o g ys r hp1 n1 B1 ∧ Like T.A B1 := by
  obtain ⟨a1, a2, a3⟩ := Oper.apart_spec ha
  obtain ⟨s1, s2, s3, s4⟩ := h1.state
  obtain ⟨k1, k2⟩ := inK_spec hk
  have hTnx := takeOp_frame h2
  obtain ⟨T0, h0, c1, c2, c3, c4⟩ := takeOp_nx hkl h2 A.nx
  obtain ⟨o2, v2, up2, d2⟩ := takeOp_does h0
  have e2 : o2 = y := by have := d2.op; rw [Array.getElem?_toList, hy] at this; exact (Option.some.inj this).symm
  subst e2
  have hops : ops.toList.toArray = ops := by simp
  have hup : up2 = [] := no_up (by rw [← d2.ups, c3]; exact k1)
  subst hup
  have hl : ∀ k, k ∈ K → look A.hp k = look A1.hp k := fun k hk => by rw [s3]; exact (h1.left k hk).symm
  obtain ⟨T', t1, t2, t3, t4, t5, t6, t7, t8⟩ := d2.again A ⟨s1.symm, rfl, fun t ht => by
      show look A.fr t = look A1.fr t
      rw [s4, if_neg]
      intro hd
      rw [hops] at ht
      exact a1 t hd ht⟩ fun n hn => ⟨fun k e => hl k (by have := k2 n (by rw [← c2]; exact hn); rw [e] at this; simpa using this), fun k e => congrArg shapeOf (hl k (by have := k2 n (by rw [← c2]; exact hn); rw [e] at this; rwa [show (2 * k + 1) / 2 = k by omega] at this))⟩
  obtain ⟨B1, hB⟩ := h1.again (B := T'.A) ⟨t5, t6, fun t ht => by
      rw [t7, if_neg]
      intro hd
      rw [hops] at ht
      exact a3 t hd ht⟩ fun k => t8 k
  obtain ⟨b1, b2, b3, b4⟩ := hB.state
  have f0 : ∀ t, look T.A.fr t = if o2.dst = some t then some v2 else look A1.fr t := fun t => by have := d2.fr t; rw [c4] at this; exact this
  have p0 : ∀ k, look T.A.hp k = look A1.hp k := fun k => by have := d2.hp k; rw [c4] at this; exact this
  have n0 : T.A.n = A1.n := by have := d2.n; rw [c4] at this; exact this
  refine ⟨T', B1, t1, by rw [t2, c1], by rw [t3, c2], by rw [t4, c3], hB, ⟨by rw [b1, t5, n0, s1], by rw [b2, hTnx, s2], fun t => ?_, fun k => ?_⟩⟩
  · rw [b4, t7, f0, s4]
    by_cases hd1 : o.dst = some t
    · rw [if_pos hd1, if_pos hd1, if_neg (a2 t hd1)]
    · rw [if_neg hd1, if_neg hd1]
  · rw [b3, p0, s3]

/-- what reads and a call, the other way round -/
theorem swap_op_call {hs : List (Nat × Hint)} {ops : Array Oper} {i j : Nat} {y : Oper} {K : List Nat} {A A1 : AS} {n1 : Nat} {o : Oper} {g : FuncId} {ys : List AV} {r : AV} {hp1 : Hp} {T : Took}
    (h2 : takeOp P SG hs ops.toList j A = some T) (h1 : CallK P SG ops i K T.A o g ys r hp1 n1 A1) (hy : ops[j]? = some y) (ha : y.apart ops o = true) (hk : inK K (T.need, T.ups) = true) (hkl : keylessAt hs ops.toList j = true) :
    ∃ T' B1, CallK P SG ops i K A o g ys r hp1 n1 B1 ∧ takeOp P SG hs ops.toList j B1 = some T' ∧ T'.cond = T.cond ∧ T'.need = T.need ∧ T'.ups = T.ups ∧ Like A1 T'.A := by
  obtain ⟨a1, a2, a3⟩ := Oper.apart_spec ha
  obtain ⟨k1, k2⟩ := inK_spec hk
  obtain ⟨T0, h0, c1, c2, c3, c4⟩ := takeOp_nx hkl h2 n1
  obtain ⟨o2, v2, up2, d2⟩ := takeOp_does h0
  have e2 : o2 = y := by have := d2.op; rw [Array.getElem?_toList, hy] at this; exact (Option.some.inj this).symm
  subst e2
  have hops : ops.toList.toArray = ops := by simp
  have hup : up2 = [] := no_up (by rw [← d2.ups, c3]; exact k1)
  subst hup
  have f0 : ∀ t, look T.A.fr t = if o2.dst = some t then some v2 else look A.fr t := fun t => by have := d2.fr t; rw [c4] at this; exact this
  have p0 : ∀ k, look T.A.hp k = look A.hp k := fun k => by have := d2.hp k; rw [c4] at this; exact this
  have n0 : T.A.n = A.n := by have := d2.n; rw [c4] at this; exact this
  have hTnx := takeOp_frame h2
  obtain ⟨B1, hB⟩ := h1.again (B := A) ⟨n0.symm, hTnx.symm, fun t ht => by
      rw [f0, if_neg]
      intro hd
      rw [hops] at ht
      exact a1 t hd ht⟩ fun k => (p0 k).symm
  obtain ⟨b1, b2, b3, b4⟩ := hB.state
  obtain ⟨s1, s2, s3, s4⟩ := h1.state
  have hl : ∀ k, k ∈ K → look B1.hp k = look A.hp k := fun k hk => by rw [b3]; exact hB.left k hk
  obtain ⟨T', t1, t2, t3, t4, t5, t6, t7, t8⟩ := d2.again B1 ⟨b1, b2, fun t ht => by
      show look B1.fr t = look A.fr t
      rw [b4, if_neg]
      intro hd
      rw [hops] at ht
      exact a3 t hd ht⟩ fun n hn => ⟨fun k e => hl k (by have := k2 n (by rw [← c2]; exact hn); rw [e] at this; simpa using this), fun k e => congrArg shapeOf (hl k (by have := k2 n (by rw [← c2]; exact hn); rw [e] at this; rwa [show (2 * k + 1) / 2 = k by omega] at this))⟩
  refine ⟨T', B1, hB, t1, by rw [t2, c1], by rw [t3, c2], by rw [t4, c3], ⟨by rw [t5, b1, s1, n0], by rw [t6, b2, s2], fun t => ?_, fun k => ?_⟩⟩
  · rw [t7, b4, s4, f0]
    by_cases hd1 : o.dst = some t
    · rw [if_pos hd1, if_pos hd1, if_neg fun h => a2 t h hd1]
    · rw [if_neg hd1, if_neg hd1]
  · rw [t8, b3, s3]
    rfl

/-- apart: operations x and y, of numbers i and j -/
def indepK (hs : List (Nat × Hint)) (ops : Array Oper) (i j : Nat) (x y : Oper) : Ent → Ent → Bool
  | .op f, .op g => indep ops x y f g
  | .op f, .call K => x.apart ops y && inK K f && keylessAt hs ops.toList i
  | .call K, .op f => x.apart ops y && inK K f && keylessAt hs ops.toList j
  | .call _, .call _ => false

theorem RunK.first {hs : List (Nat × Hint)} {ops : Array Oper} {i : Nat} {e : Ent} {l2 : List (Nat × Ent)} {C : AS} : ∀ {l1 : List (Nat × Ent)} {A : AS}, RunK P SG hs ops (l1 ++ (i, e) :: l2) A C →
    (∀ k g, (k, g) ∈ l1 → ∃ x y, ops[k]? = some x ∧ ops[i]? = some y ∧ indepK hs ops k i x y g e = true) → RunK P SG hs ops ((i, e) :: (l1 ++ l2)) A C
  | [], A, h, _ => h
  | (k, g) :: l1, A, h, hi => by
    obtain ⟨x, y, hx, hy, hxy⟩ := hi k g (by simp)
    cases g with
    | op fg =>
      obtain ⟨T, h1, h2, h3, h4⟩ := h
      have h5 := RunK.first (l1 := l1) h4 fun k' g' hm => hi k' g' (by simp [hm])
      cases e with
      | op f =>
        obtain ⟨U, g1, g2, g3, g4⟩ := h5
        have hxy' : indep ops x y fg f = true := hxy
        rw [← h3, ← g3] at hxy'
        obtain ⟨U', T', u1, t1, u2, u3, u4, t2, t3, t4, hl⟩ := takeOp_swap h1 g1 hx hy hxy'
        exact ⟨U', u1, by rw [u2]; exact g2, by rw [u3, u4]; exact g3, T', t1, by rw [t2]; exact h2, by rw [t3, t4]; exact h3, RunK.like g4 hl⟩
      | call K =>
        obtain ⟨o, g, ys, r, hp1, n1, A1, g1, g2⟩ := h5
        have hxy' : (x.apart ops y && inK K fg && keylessAt hs ops.toList k) = true := hxy
        rw [Bool.and_eq_true, Bool.and_eq_true, ← h3] at hxy'
        have : o = y := by have := g1.op; rw [hy] at this; exact (Option.some.inj this).symm
        subst this
        obtain ⟨T', B1, u1, u2, u3, u4, u5, hl⟩ := swap_op_call h1 g1 hx hxy'.1.1 hxy'.1.2 hxy'.2
        exact ⟨o, g, ys, r, hp1, n1, B1, u1, T', u2, by rw [u3]; exact h2, by rw [u4, u5]; exact h3, RunK.like g2 hl⟩
    | call K =>
      obtain ⟨o, g, ys, r, hp1, n1, A1, h1, h2⟩ := h
      have h5 := RunK.first (l1 := l1) h2 fun k' g' hm => hi k' g' (by simp [hm])
      cases e with
      | op f =>
        obtain ⟨U, g1, g2, g3, g4⟩ := h5
        have hxy' : (x.apart ops y && inK K f && keylessAt hs ops.toList i) = true := hxy
        rw [Bool.and_eq_true, Bool.and_eq_true, ← g3] at hxy'
        have : o = x := by have := h1.op; rw [hx] at this; exact (Option.some.inj this).symm
        subst this
        obtain ⟨T', B1, u1, u2, u3, u4, u5, hl⟩ := swap_call_op h1 g1 hy hxy'.1.1 hxy'.1.2 hxy'.2
        exact ⟨T', u1, by rw [u2]; exact g2, by rw [u3, u4]; exact g3, o, g, ys, r, hp1, n1, B1, u5, RunK.like g4 hl⟩
      | call K' => cases hxy

theorem RunK.op {hs : List (Nat × Hint)} {ops : Array Oper} {i : Nat} {f : Ent} {l : List (Nat × Ent)} {A C : AS} (h : RunK P SG hs ops ((i, f) :: l) A C) : ∃ o, ops[i]? = some o := by
  cases f with
  | call K =>
    obtain ⟨o, g, ys, r, hp1, n1, A1, h1, _⟩ := h
    exact ⟨o, h1.op⟩
  | op f =>
    obtain ⟨T, h1, _⟩ := h
    exact Run.op h1

def ApartK (hs : List (Nat × Hint)) (ops : Array Oper) (x y : Nat × Ent) : Prop :=
  x.1 < y.1 ∧ (Anc ops y.1 x.1 ∨ ∃ o p, ops[x.1]? = some o ∧ ops[y.1]? = some p ∧ indepK hs ops x.1 y.1 o p x.2 y.2 = true)

theorem any_wpK {hs : List (Nat × Hint)} {ops : Array Oper} (hsg : SigsOK P SG) (hback : backOk ops.toList 0 = true) : ∀ (fuel : Nat) (l : List (Nat × Ent)) (listed : Array Bool) (A A' : AS) (S : St) (a : Act),
    l.length = fuel → listed.size = ops.size → (∀ i, i < ops.size → (listed.getD i true = false ↔ ∃ f, (i, f) ∈ l)) →
    (∀ j o, listed.getD j false = true → ops[j]? = some o → ∀ e ∈ o.after, Region.binds .any e = true → listed.getD e.on false = true) →
    l.Pairwise (ApartK hs ops) → RunK P SG hs ops l A A' → RelU (fun k => k < A.nx + ops.size ∨ rsv ≤ k) S A a → (∀ i f, (i, f) ∈ l → ¬ S.used (A.nx + i)) →
    (∀ S' a', Ext S S' → RelU (fun k => k < A'.nx + ops.size ∨ rsv ≤ k) S' A' a' → Q .normal a' S'.w) → wpAny P .any ops Q fuel listed a S.w := by
  intro fuel
  induction fuel with
  | zero =>
    intro l listed A A' S a hlen hls hmem hcl hpw hrun hR hused hK
    have hl : l = [] := List.length_eq_zero_iff.1 hlen
    subst hl
    have hrun' : Like A A' := hrun
    refine ⟨?_, hK S a (Ext.refl S) (by have := hR.like hrun'; rw [← hrun'.nx] at this; exact this)⟩
    cases hrd : Region.ready .any ops listed with
    | nil => rfl
    | cons i r =>
      have hi : i ∈ Region.ready .any ops listed := by rw [hrd]; simp
      obtain ⟨h0, o, ho, _⟩ := mem_ready.1 hi
      obtain ⟨f, hf⟩ := (hmem i (Array.getElem?_eq_some_iff.1 ho).1).1 h0
      cases hf
  | succ fuel ih =>
    intro l listed A A' S a hlen hls hmem hcl hpw hrun hR hused hK
    have hsame : ∀ i, i < ops.size → listed.getD i false = listed.getD i true := fun i hi => by
      have : i < listed.size := by rw [hls]; exact hi
      simp [this]
    refine ⟨fun hnil => ?_, fun i hi => ?_⟩
    · exfalso
      cases l with
      | nil => cases hlen
      | cons x l =>
        obtain ⟨i, f⟩ := x
        obtain ⟨o, ho⟩ := RunK.op hrun
        have hlt := (Array.getElem?_eq_some_iff.1 ho).1
        have : i ∈ Region.ready .any ops listed := by
          rw [mem_ready]
          refine ⟨(hmem i hlt).2 ⟨f, by simp⟩, o, ho, fun e he hb => ?_⟩
          have hon := backOk_spec hback i o (by rw [Array.getElem?_toList]; exact ho) e he hb
          simp only [Nat.zero_add] at hon
          have hons : e.on < ops.size := by omega
          rw [hsame _ hons]
          cases hv : listed.getD e.on true with
          | true => rfl
          | false =>
            exfalso
            obtain ⟨g, hg⟩ := (hmem _ hons).1 hv
            rcases List.mem_cons.1 hg with h1 | h1
            · cases h1; omega
            · have : i < e.on := ((List.pairwise_cons.1 hpw).1 _ h1).1
              omega
        rw [hnil] at this
        cases this
    · obtain ⟨h0, o, ho, hdeps⟩ := mem_ready.1 hi
      have hlt := (Array.getElem?_eq_some_iff.1 ho).1
      obtain ⟨f, hf⟩ := (hmem i hlt).1 h0
      obtain ⟨l1, l2, hl⟩ := List.append_of_mem hf
      subst hl
      have hpw' := List.pairwise_append.1 hpw
      have hap : ∀ k g, (k, g) ∈ l1 → ∃ x y, ops[k]? = some x ∧ ops[i]? = some y ∧ indepK hs ops k i x y g f = true := fun k g hk => by
        have hap := hpw'.2.2 (k, g) hk (i, f) (by simp)
        rcases hap.2 with hanc | hind
        · exfalso
          have hkl : k < ops.size := Nat.lt_trans (show k < i from hap.1) hlt
          have h1 := hanc.listed (listed := listed) (fun o' ho' e he hb => by rw [ho] at ho'; cases ho'; exact hdeps e he hb) hcl
          rw [hsame _ hkl] at h1
          have h2 := (hmem k hkl).2 ⟨g, by simp [hk]⟩
          rw [h1] at h2
          cases h2
        · exact hind
      have hne : ∀ k g, (k, g) ∈ l1 ++ l2 → k ≠ i := fun k g hk => by
        rcases List.mem_append.1 hk with h1 | h1
        · have : k < i := (hpw'.2.2 (k, g) h1 (i, f) (by simp)).1
          omega
        · have : i < k := ((List.pairwise_cons.1 hpw'.2.1).1 (k, g) h1).1
          omega
      have hlt' : ∀ k g, (k, g) ∈ l1 ++ l2 → k < ops.size := fun k g hk => by
        rcases Nat.lt_or_ge k ops.size with h | h
        · exact h
        · exfalso
          rcases List.mem_append.1 hk with h1 | h1
          · have : k < i := (hpw'.2.2 (k, g) h1 (i, f) (by simp)).1
            omega
          · have ha := ((List.pairwise_cons.1 hpw'.2.1).1 (k, g) h1).2
            rcases ha with ha | ⟨_, p, _, hp, _⟩
            · obtain ⟨o', ho'⟩ := ha.op
              have := (Array.getElem?_eq_some_iff.1 ho').1
              omega
            · have := (Array.getElem?_eq_some_iff.1 hp).1
              simp only at this
              omega
      have mem' : ∀ k, k < ops.size → ((listed.setIfInBounds i true).getD k true = false ↔ ∃ f, (k, f) ∈ l1 ++ l2) := fun k hk => by
        by_cases hki : k = i
        · subst hki
          have : (listed.setIfInBounds k true).getD k true = true := by
            have : k < listed.size := by rw [hls]; exact hk
            simp [this]
          rw [this]
          constructor
          · intro h; cases h
          · rintro ⟨g, hg⟩
            exact absurd rfl (hne k g hg)
        · rw [getD_set_ne true (Ne.symm hki), hmem k hk]
          constructor
          · rintro ⟨g, hg⟩
            refine ⟨g, ?_⟩
            simp only [List.mem_append, List.mem_cons, Prod.mk.injEq] at hg ⊢
            rcases hg with h | ⟨h, _⟩ | h
            · exact .inl h
            · exact absurd h hki
            · exact .inr h
          · rintro ⟨g, hg⟩
            refine ⟨g, ?_⟩
            simp only [List.mem_append, List.mem_cons] at hg ⊢
            rcases hg with h | h
            · exact .inl h
            · exact .inr (.inr h)
      have cl' : ∀ j o, (listed.setIfInBounds i true).getD j false = true → ops[j]? = some o → ∀ e ∈ o.after, Region.binds .any e = true → (listed.setIfInBounds i true).getD e.on false = true := fun j o' hj ho' e he hb => by
        by_cases hji : j = i
        · subst hji
          rw [ho] at ho'
          cases ho'
          exact getD_set_true (hdeps e he hb)
        · rw [getD_set_ne false (Ne.symm hji)] at hj
          exact getD_set_true (hcl j o' hj ho' e he hb)
      have hfirst := RunK.first hrun hap
      cases f with
      | call K =>
        obtain ⟨o', g, ys, r, hp1, n1, A1, h1, h2⟩ := hfirst
        have : o' = o := by have := h1.op; rw [ho] at this; exact (Option.some.inj this).symm
        subst this
        obtain ⟨c, f, as, bs, e1, e2, e3, rfl⟩ := callOf_spec h1.callee
        unfold wpOp
        simp only [ho]
        rw [wantedA_sound hR.fr hR.size h1.want]
        simp only [if_true]
        left
        refine call_wp (R := fun v w' => ∃ S', S'.w = w' ∧ S'.wf ∧ Ext S S' ∧ HeapOK S' hp1 ∧ (∀ k, S'.used k → k < n1 ∨ rsv ≤ k) ∧ Rep S' v r) e1 e2 e3 hR.fr (fun vals hv => h1.goes S vals hR.wf hR.hp hR.used hv) ?_
        rintro v w ⟨S', rfl, hwf, hext, hhp, hu, hrep⟩
        obtain ⟨s1, s2, s3, s4⟩ := h1.state
        refine ih (l1 ++ l2) _ A1 A' S' _ (by simp at hlen ⊢; omega) (by simp [hls]) mem' cl' (hpw.sublist (by simp)) h2
          ⟨hwf, by rw [put_size, hR.size, s1], by rw [put_defers]; exact hR.defers, put_fr (A := { A with hp := hp1, nx := n1 }) hR.fr hR.size hext hrep h1.put, by rw [s3]; exact hhp, fun k hk => by rw [s2]; have := hu k hk; omega⟩ (fun k g hk hus => ?_) fun S'' a'' he' hR'' => hK S'' a'' (hext.trans he') hR''
        rw [s2] at hus
        have h4 := hu _ hus
        have h5 := hlt' k g hk
        have h6 := h1.rs
        omega
      | op f =>
        obtain ⟨T, ht, hc, hfp, hrest⟩ := hfirst
        have hTnx := takeOp_frame ht
        refine takeOp_wp (U := fun k => k < A.nx + ops.size ∨ rsv ≤ k) hsg ht hc hR (hused i _ hf) fun S' a' he hR' hu => ?_
        refine ih (l1 ++ l2) _ T.A A' S' a' (by simp at hlen ⊢; omega) (by simp [hls]) mem' cl' (hpw.sublist (by simp)) hrest
          ⟨hR'.wf, hR'.size, hR'.defers, hR'.fr, hR'.hp, fun k hk => ?_⟩ (fun k g hk hus => ?_) fun S'' a'' he' hR'' => hK S'' a'' (he.trans he') hR''
        · rw [hTnx]
          rcases hR'.used k hk with h1 | h1
          · exact h1
          · omega
        · rw [hTnx] at hus
          rcases hu _ hus with h1 | h1
          · exact hused k g (by
              rcases List.mem_append.1 hk with h | h
              · simp [h]
              · simp [h]) h1
          · have := hne k g hk
            omega

/-- each pair of operations: one behind the other, or apart -/
def drawOkK (hs : List (Nat × Hint)) (ops : Array Oper) (fs : List Ent) : Bool :=
  backOk ops.toList 0 &&
  (List.range ops.size).all fun j => (List.range j).all fun i =>
    ((Region.before ops).getD j 0).testBit i ||
    match ops[i]?, ops[j]?, fs[i]?, fs[j]? with
    | some x, some y, some f, some g => indepK hs ops i j x y f g
    | _, _, _, _ => false

theorem drawOkK_pairwise {hs : List (Nat × Hint)} {ops : Array Oper} {fs : List Ent} (h : drawOkK hs ops fs = true) (hl : fs.length = ops.size) : (numbered 0 fs).Pairwise (ApartK hs ops) := by
  unfold drawOkK at h
  rw [Bool.and_eq_true] at h
  have hp := h.2
  refine (numbered_pairwise fs 0).imp_of_mem fun {x y} hx hy hlt => ⟨hlt, ?_⟩
  obtain ⟨i, f⟩ := x
  obtain ⟨j, g⟩ := y
  have hi := (numbered_mem.1 hx).2
  have hj := (numbered_mem.1 hy).2
  simp only [Nat.sub_zero] at hi hj
  have hjlt : j < ops.size := by rw [← hl]; exact (List.getElem?_eq_some_iff.1 hj).1
  have h1 := List.all_eq_true.1 hp j (List.mem_range.2 hjlt)
  have h2 := List.all_eq_true.1 h1 i (List.mem_range.2 hlt)
  rw [Bool.or_eq_true] at h2
  rcases h2 with h2 | h2
  · exact .inl (before_anc ops j i h2)
  · split at h2
    · next o p f' g' e1 e2 e3 e4 =>
      rw [hi] at e3
      rw [hj] at e4
      cases e3
      cases e4
      exact .inr ⟨o, p, e1, e2, h2⟩
    · cases h2
end
end Go.Ev

/- Loops within runs, left open; what is forgotten. -/
set_option maxRecDepth 20000
namespace Go.Ev
open Go

section
variable [Globs] {P : Program}

theorem ext_forget {S S' : St} {n : Nat} (h : Ext S S') (hu : ∀ k, S.used k → kp n k) : Ext S (S'.forget n) := by
  refine ⟨h.size, h.os, h.tape, h.output, fun b hb ho => ?_, fun k hk => ⟨h.used k hk, hu k hk⟩, fun k hk hl => ?_⟩
  · obtain ⟨h1, h2⟩ := h.old b hb ho
    refine ⟨h1, ?_⟩
    show (match S'.own b with | some (some k) => if kp n k then some (some k) else some none | o => o) = S.own b
    rw [h2]
    split
    · next k hk => exact (ho k hk).elim
    · rfl
  · obtain ⟨h1, h2, h3, h4, h5⟩ := h.keys k hk hl.1
    exact ⟨h1, fun v off len ver t x => forget_row (hu k hk) (h2 _ _ _ _ _ x), fun v i ver off x => forget_rp (hu k hk) (h3 _ _ _ _ x), h4, h5.trans ⟨rfl, rfl, Nat.le_refl _, fun _ => rfl, fun _ => rfl, fun _ _ _ => Nat.le_refl _⟩⟩

/-- rounds of c, from what A says on, end by way of e; everything that is one's own stays so -/
def LoopToX (P : Program) (c : Code) (A : AS) (e : Exit) (A' : AS) : Prop :=
  ∃ n, ∀ S a, Rel S A a → Code.rounds P c (fun e1 a1 w1 => e1 = e ∧ ∃ S', S'.w = w1 ∧ Ext S S' ∧ Rel S' A' a1) n a S.w

theorem used_kp {S : St} {A : AS} {a : Act} {n : Nat} (hR : Rel S A a) (h : A.nx ≤ n) : ∀ k, S.used k → kp n k := fun k hk => by
  have := hR.used k hk
  unfold kp
  omega

theorem ToX.weaken {c : Code} {A A' A'' : AS} {e : Exit} {slots keys : List Nat} {nx : Nat} (h : ToX P c A e A') (hw : Ev.weaken A' slots keys nx = some A'') (hn : A.nx ≤ nx) : ToX P c A e A'' := fun S a hR =>
  wp_mono (h S a hR) fun e1 a1 w1 ⟨he, S', hS, hk, hR'⟩ => ⟨he, S'.forget nx, hS, ext_forget hk (used_kp hR hn), weaken_rel hw hR'⟩

theorem LoopToX.pre {c : Code} {A A0 A' : AS} {e : Exit} {slots keys : List Nat} {nx : Nat} (hw : Ev.weaken A slots keys nx = some A0) (hn : A.nx ≤ nx) (h : LoopToX P c A0 e A') : LoopToX P c A e A' := by
  obtain ⟨n, h⟩ := h
  exact ⟨n, fun S a hR => rounds_mono (fun e1 a1 w1 ⟨he, S', hS, hk, hR'⟩ => ⟨he, S', hS, (ext_forget (Ext.refl S) (used_kp hR hn)).trans hk, hR'⟩) n a _ (h (S.forget nx) a (weaken_rel hw hR))⟩

theorem LoopToX.done {c : Code} {A A' : AS} {e : Exit} (he : e ≠ .normal) (h : ToX P c A e A') : LoopToX P c A e A' :=
  ⟨1, fun S a hR => wp_mono (h S a hR) fun e1 a1 w1 hg => by
    obtain ⟨rfl, hg⟩ := hg
    cases e1 with
    | normal => exact (he rfl).elim
    | _ => exact ⟨rfl, hg⟩⟩

theorem LoopToX.step {c : Code} {A A1 A' : AS} {e : Exit} (h1 : ToX P c A .normal A1) (h : LoopToX P c A1 e A') : LoopToX P c A e A' := by
  obtain ⟨n, h⟩ := h
  refine ⟨n + 1, fun S a hR => wp_mono (h1 S a hR) fun e1 a1 w1 hg => ?_⟩
  obtain ⟨rfl, S', rfl, hk, hR'⟩ := hg
  exact rounds_mono (fun e2 a2 w2 ⟨he, S'', hS, hk', hR''⟩ => ⟨he, S'', hS, hk.trans hk', hR''⟩) n a1 _ (h S' a1 hR')

theorem LoopToX.loop {c : Code} {A A' : AS} {e : Exit} (h : LoopToX P c A e A') : ToX P (.loop c) A e A' := by
  obtain ⟨n, h⟩ := h
  exact fun S a hR => wp_loop_rounds n (h S a hR)
end

end Go.Ev

/- Calls that know only a part of the caller's objects: the others stay as they are. -/
set_option maxRecDepth 20000
namespace Go.Ev
open Go
variable [Globs]

/-- what was hidden of S is known again behind a while -/
def St.recall (S G : St) (n : Nat) : St where
  w := G.w
  own := fun b => match S.own b with
    | some (some k) => if kp n k then G.own b else some (some k)
    | _ => G.own b
  cur := fun k => if kp n k then G.cur k else S.cur k
  len := fun k => if kp n k then G.len k else S.len k
  sz := fun k => if kp n k then G.sz k else S.sz k
  floor := fun k => if kp n k then G.floor k else S.floor k
  isRow := fun k => if kp n k then G.isRow k else S.isRow k
  live := fun k => (kp n k ∧ G.live k) ∨ (¬ kp n k ∧ S.live k)
  used := fun k => (kp n k ∧ G.used k) ∨ (¬ kp n k ∧ S.used k)

section
variable {S G : St} {n : Nat}

theorem own_hidden (hwf : S.wf) (hE : Ext (S.forget n) G) {b k : Nat} (h : S.own b = some (some k)) (hk : ¬ kp n k) : G.own b = some none ∧ G.w.heap[b]? = S.w.heap[b]? := by
  have hF : (S.forget n).own b = some none := by
    show (match S.own b with | some (some k) => if kp n k then some (some k) else some none | o => o) = some none
    rw [h]
    simp [hk]
  obtain ⟨h1, h2⟩ := hE.old b (hwf.bound b _ h) (fun k' e => by rw [hF] at e; cases e)
  exact ⟨h2.trans hF, h1⟩

theorem recall_own (hwf : S.wf) (hE : Ext (S.forget n) G) {b : Nat} (h : G.own b ≠ some none) : (S.recall G n).own b = G.own b := by
  show (match S.own b with | some (some k) => if kp n k then G.own b else some (some k) | _ => G.own b) = G.own b
  split
  · next k hk =>
    by_cases hkp : kp n k
    · rw [if_pos hkp]
    · exact absurd (own_hidden hwf hE hk hkp).1 h
  · rfl

theorem same_kp (hwf : S.wf) (hE : Ext (S.forget n) G) {k : Nat} (hk : kp n k) : Same G (S.recall G n) k :=
  ⟨if_pos hk, if_pos hk, if_pos hk, if_pos hk, if_pos hk, fun b hb => ⟨rfl, (recall_own hwf hE (by rw [hb]; simp)).trans hb⟩⟩

theorem same_nk (hwf : S.wf) (hE : Ext (S.forget n) G) {k : Nat} (hk : ¬ kp n k) : Same S (S.recall G n) k :=
  ⟨if_neg hk, if_neg hk, if_neg hk, if_neg hk, if_neg hk, fun b hb => ⟨(own_hidden hwf hE hb hk).2, by
    show (match S.own b with | some (some k) => if kp n k then G.own b else some (some k) | _ => G.own b) = some (some k)
    rw [hb]
    exact if_neg hk⟩⟩

theorem recall_live {k : Nat} (h : (S.recall G n).live k) (hk : kp n k) : G.live k := by
  rcases h with h | h
  · exact h.2
  · exact absurd hk h.1
theorem recall_live' {k : Nat} (h : (S.recall G n).live k) (hk : ¬ kp n k) : S.live k := by
  rcases h with h | h
  · exact absurd h.1 hk
  · exact h.2

theorem recall_wf (hwf : S.wf) (gwf : G.wf) (hE : Ext (S.forget n) G) : (S.recall G n).wf := by
  refine ⟨fun b o hb => ?_, fun k hl => ?_, fun k hl => ?_, gwf.glob.keep (fun b _ ho => ⟨rfl, (recall_own hwf hE (by rw [ho]; simp)).trans ho⟩) (Nat.le_refl _)⟩
  · have hb' : (match S.own b with | some (some k) => if kp n k then G.own b else some (some k) | _ => G.own b) = some o := hb
    split at hb'
    · next k hk => exact Nat.lt_of_lt_of_le (hwf.bound b _ hk) hE.size
    · exact gwf.bound b o hb'
  · by_cases hk : kp n k
    · intro b hb
      have hs := same_kp hwf hE hk
      rw [hs.cur] at hb
      exact (hs.block b (gwf.kept k (recall_live hl hk) b hb)).2
    · intro b hb
      have hs := same_nk hwf hE hk
      rw [hs.cur] at hb
      exact (hs.block b (hwf.kept k (recall_live' hl hk) b hb)).2
  · by_cases hk : kp n k
    · exact .inl ⟨hk, gwf.lu k (recall_live hl hk)⟩
    · exact .inr ⟨hk, hwf.lu k (recall_live' hl hk)⟩

theorem recall_ext (hwf : S.wf) (gwf : G.wf) (hE : Ext (S.forget n) G) : Ext S (S.recall G n) := by
  refine ⟨hE.size, hE.os, hE.tape, hE.output, fun b hb ho => ?_, fun k hu => ?_, fun k hu hl => ?_⟩
  · have hF : (S.forget n).own b = S.own b := by
      show (match S.own b with | some (some k) => if kp n k then some (some k) else some none | o => o) = S.own b
      split
      · next k hk => exact absurd hk (ho k)
      · rfl
    obtain ⟨h1, h2⟩ := hE.old b hb (fun k => by rw [hF]; exact ho k)
    refine ⟨h1, ?_⟩
    show (match S.own b with | some (some k) => if kp n k then G.own b else some (some k) | _ => G.own b) = S.own b
    split
    · next k hk => exact absurd hk (ho k)
    · exact h2.trans hF
  · by_cases hk : kp n k
    · exact .inl ⟨hk, hE.used k ⟨hu, hk⟩⟩
    · exact .inr ⟨hk, hu⟩
  · by_cases hk : kp n k
    · have hg := recall_live hl hk
      obtain ⟨h1, h2, h3, h4, h5⟩ := hE.keys k ⟨hu, hk⟩ hg
      have hs := same_kp hwf hE hk
      have ho := gwf.kept k hg
      exact ⟨h1.1, fun v off len ver t x => hs.row ho (h2 _ _ _ _ _ (forget_row hk x)), fun v i ver off x => hs.rp ho (h3 _ _ _ _ (forget_rp hk x)), fun v off x => hs.ptr (h4 _ _ x), Moves.trans (S := S) (S' := G) ⟨h5.isRow, h5.sz, h5.len, h5.cur, h5.var, h5.size⟩ (hs.moves ho)⟩
    · have hs := same_nk hwf hE hk
      have hS := recall_live' hl hk
      have ho := hwf.kept k hS
      exact ⟨hS, fun v off len ver t x => hs.row ho x, fun v i ver off x => hs.rp ho x, fun v off x => hs.ptr x, hs.moves ho⟩

theorem recall_rep (hwf : S.wf) (gwf : G.wf) (hE : Ext (S.forget n) G) (hU : ∀ k, G.used k → kp n k) {v : Value} {x : AV} (h : Rep G v x) : Rep (S.recall G n) v x := by
  induction h with
  | i x y h => exact .i x y (h.ext fun b hb hU' => ⟨rfl, (recall_own hwf hE (by have : G.own b = none := hU'; rw [this]; simp)).trans hU'⟩)
  | junk x => exact .junk x
  | agg arr cs hs _ ih => exact .agg arr cs hs ih
  | tup arr cs hs _ ih => exact .tup arr cs hs ih
  | row x k off len ver t hu hr hx =>
    have hk := hU k hu
    exact .row x k off len ver t (.inl ⟨hk, hu⟩) (fun hl => (same_kp hwf hE hk).row (gwf.kept k (recall_live hl hk)) (hr (recall_live hl hk))) hx
  | rp x k i ver off hu hr hx =>
    have hk := hU k hu
    exact .rp x k i ver off (.inl ⟨hk, hu⟩) (fun hl => (same_kp hwf hE hk).rp (gwf.kept k (recall_live hl hk)) (hr (recall_live hl hk))) hx
  | ptr x k off hu hr hx =>
    have hk := hU k hu
    exact .ptr x k off (.inl ⟨hk, hu⟩) (fun hl => (same_kp hwf hE hk).ptr (hr (recall_live hl hk))) hx
  | mpk b k hu hr =>
    have hk := hU k hu
    exact .mpk b k (.inl ⟨hk, hu⟩) (fun hl => (same_kp hwf hE hk).ptr (hr (recall_live hl hk)))
  | fnv f a b as bs h1 _ h2 _ ih1 ih2 => exact .fnv f a b as bs h1 ih1 h2 ih2
  | ifc t x y _ ih => exact .ifc t x y ih

theorem obj_map {S S' : St} (e : ∀ v x, Rep S v x → Rep S' v x) {k : Nat} {o : AObj} (h : ObjOK S k o) (hs : Same S S' k) : ObjOK S' k o := by
  cases o with
  | map es =>
    obtain ⟨hrow, b, arr, hc, ho, hh, hl, hr⟩ := h
    exact ⟨hs.isRow.trans hrow, b, arr, by rw [hs.cur]; exact hc, (hs.block b ho).2, (hs.block b ho).1.trans hh, hl, fun i hi => ⟨(hr i hi).1, (hr i hi).2.1, e _ _ (hr i hi).2.2⟩⟩
  | cells T cs =>
    obtain ⟨hrow, b, arr, hc, ho, hh, hl, hr⟩ := h
    exact ⟨hs.isRow.trans hrow, b, arr, by rw [hs.cur]; exact hc, (hs.block b ho).2, (hs.block b ho).1.trans hh, hl, fun i hi => e _ _ (hr i hi)⟩
  | row T sz q floor =>
    obtain ⟨hrow, h1, h2, h3, h4, hfl, h5, h6⟩ := h
    refine ⟨hs.isRow.trans hrow, hs.sz.trans h1, h2, hs.len.trans h3, hs.floor.trans h4, hfl, h5, ?_⟩
    rw [hs.cur]
    cases hc : S.cur k with
    | none => rw [hc] at h6; exact h6
    | some b =>
      rw [hc] at h6
      obtain ⟨ho, arr, ⟨fz, hh, hfz⟩, hl, hr⟩ := h6
      exact ⟨(hs.block b ho).2, arr, ⟨fz, (hs.block b ho).1.trans hh, hfz⟩, hl, fun i j hi hj => ⟨e _ _ (hr i j hi hj).1, (hr i j hi hj).2⟩⟩

end

theorem look_app {α : Type} {l m : List (Nat × α)} {k : Nat} {o : α} (h : look (l ++ m) k = some o) : look l k = some o ∨ look m k = some o := by
  induction l with
  | nil => exact .inr h
  | cons x r ih =>
    obtain ⟨k', a⟩ := x
    simp only [List.cons_append, look] at h ⊢
    split at h
    · exact .inl h
    · exact ih h

def belowHp (n : Nat) (hp : Hp) : Bool := hp.all fun x => (Nat.blt x.1 n || Nat.ble rsv x.1) && belowO n x.2
theorem belowHp_spec {n : Nat} {hp : Hp} (h : belowHp n hp = true) {k : Nat} {o : AObj} (hk : look hp k = some o) : kp n k ∧ belowO n o = true := by
  have := List.all_eq_true.1 h _ (look_mem hk)
  simp only [Bool.and_eq_true, Bool.or_eq_true, Nat.blt_eq, Nat.ble_eq] at this
  exact this

/-- all entries of the one are the other's -/
def aboveHp (n : Nat) (hp : Hp) : Bool := hp.all fun x => Nat.ble n x.1 && Nat.blt x.1 rsv

/-- A CALL THAT KNOWS ONLY WHAT LIES BELOW n: what lies above stays. -/
theorem InTo.frame {P : Program} {g : FuncId} {hp hp' big loc : Hp} {n n1 m : Nat} {ys : List AV} {r : AV} (h : InTo P g hp n ys r hp' n1) (hb : belowHp n hp = true) (hb' : belowHp n hp' = true) (hy : ys.all (belowA n) = true) (hr : belowA n r = true) (hl : aboveHp n loc = true) (hm : n ≤ m)
    (s1 : ∀ k o, look hp k = some o → look big k = some o) (s2 : ∀ k o, look loc k = some o → look big k = some o) : InTo P g big m ys r (hp' ++ loc) m := by
  intro S vals hwf hh hu hrs
  have hF : (S.forget n).wf := forget_wf hwf
  have h0 := h (S.forget n) vals hF (fun k o hk => by
      obtain ⟨h1, h2, h3⟩ := hh k o (s1 k o hk)
      obtain ⟨k1, k2⟩ := belowHp_spec hb hk
      exact ⟨⟨h1, k1⟩, ⟨h2, k1⟩, forget_obj k1 k2 h3⟩) (fun k hk => hk.2) ⟨hrs.1, fun i h1 h2 => forget_rep (List.all_eq_true.1 hy _ (List.getElem_mem h2)) (hrs.2 i h1 h2)⟩
  have key : ∀ v w', (∃ S', S'.w = w' ∧ S'.wf ∧ Ext (S.forget n) S' ∧ HeapOK S' hp' ∧ (∀ k, S'.used k → k < n1 ∨ rsv ≤ k) ∧ Rep S' v r) → ∃ S', S'.w = w' ∧ S'.wf ∧ Ext S S' ∧ HeapOK S' (hp' ++ loc) ∧ (∀ k, S'.used k → k < m ∨ rsv ≤ k) ∧ Rep S' v r := by
    rintro v w' ⟨S1, h1, h2, h3, h4, h5, h6⟩
    have gwf : (S1.forget n).wf := forget_wf h2
    have hE : Ext (S.forget n) (S1.forget n) := ext_forget h3 fun k hk => hk.2
    have hU : ∀ k, (S1.forget n).used k → kp n k := fun k hk => hk.2
    have hX := recall_ext hwf gwf hE
    refine ⟨S.recall (S1.forget n) n, h1, recall_wf hwf gwf hE, hX, fun k o hk => ?_, fun k hk => ?_, recall_rep hwf gwf hE hU (forget_rep hr h6)⟩
    · rcases look_app hk with hk | hk
      · obtain ⟨a1, a2, a3⟩ := h4 k o hk
        obtain ⟨k1, k2⟩ := belowHp_spec hb' hk
        exact ⟨.inl ⟨k1, a1, k1⟩, .inl ⟨k1, a2, k1⟩, obj_map (fun v x hvx => recall_rep hwf gwf hE hU hvx) (forget_obj k1 k2 a3) (same_kp hwf hE k1)⟩
      · obtain ⟨a1, a2, a3⟩ := hh k o (s2 k o hk)
        have hkl := List.all_eq_true.1 hl _ (look_mem hk)
        simp only [Bool.and_eq_true, Nat.ble_eq, Nat.blt_eq] at hkl
        have nk : ¬ kp n k := by unfold kp; omega
        exact ⟨.inr ⟨nk, a1⟩, .inr ⟨nk, a2⟩, ObjOK.same hX a3 (same_nk hwf hE nk)⟩
    · rcases hk with hk | hk
      · have := hk.1; unfold kp at this; omega
      · exact hu k hk.2
  unfold CalledTo at h0 ⊢
  revert h0
  show (match (callFunc g vals.toArray).run P S.w with | .ok (.value v) w' => _ | .ok (.enter g args) w' => _ | _ => _) → _
  cases (callFunc g vals.toArray).run P S.w with
  | halt x w' => exact fun h => h
  | ok nx w' =>
    cases nx with
    | value v => exact fun h => key v w' h
    | enter f args => exact fun h => ⟨h.1, h.2.mono fun e w'' ⟨v, he, hv⟩ => ⟨v, he, key v w'' hv⟩⟩
    | _ => exact fun h => h
end Go.Ev

/- What is hidden from a call: keys of a given kind; and what is known again behind it. -/
set_option maxRecDepth 20000
namespace Go.Ev
open Go
variable [Globs]

def below1K (K : Nat → Bool) (x : AV) : Bool := (keyOf x).all K

def belowF (K : Nat → Bool) : Nat → AV → Bool
  | 0, _ => false
  | n + 1, x => match x with
    | .agg cs | .tup cs => cs.all (belowF K n)
    | .fnv _ a b => a.all (belowF K n) && b.all (belowF K n)
    | .ifc _ x => belowF K n x
    | x => below1K K x
def belowAK (K : Nat → Bool) (x : AV) : Bool := belowF K 8 x

def belowOK (K : Nat → Bool) : AObj → Bool
  | .cells _ cs => cs.all (belowAK K)
  | .row _ _ q _ => match q with
    | .ints _ _ | .frz _ | .strs _ => true
    | .avs l => l.all fun x => x.cells.all (belowAK K)
    | .fn _ _ => false
  | .map es => es.all fun p => belowAK K p.2
/-- the keys that are not kept are forgotten -/
def St.forgetK (S : St) (K : Nat → Bool) : St :=
  { S with
    own := fun b => match S.own b with
      | some (some k) => if K k = true then some (some k) else some none
      | o => o
    live := fun k => S.live k ∧ K k = true
    used := fun k => S.used k ∧ K k = true }

section forgetK
variable {S : St} {K : Nat → Bool}

theorem forget_own_ltK {b k : Nat} (h : S.own b = some (some k)) (hk : K k = true) : (S.forgetK K).own b = some (some k) := by
  show (match S.own b with | some (some k) => if K k = true then some (some k) else some none | o => o) = some (some k)
  rw [h]
  simp [hk]

theorem forget_someK {b : Nat} {o : Option Nat} (h : (S.forgetK K).own b = some o) : ∃ o', S.own b = some o' := by
  have h' : (match S.own b with | some (some k) => if K k = true then some (some k) else some none | o => o) = some o := h
  split at h'
  · next k hk => exact ⟨_, hk⟩
  · exact ⟨_, h'⟩

theorem forget_freeK {b : Nat} : (S.forgetK K).free b ↔ S.free b := by
  show (match S.own b with | some (some k) => if K k = true then some (some k) else some none | o => o) = none ↔ S.own b = none
  split
  · next k hk =>
    rw [hk]
    split <;> simp
  · rfl

theorem forget_wfK (h : S.wf) : (S.forgetK K).wf := by
  refine ⟨fun b o hb => ?_, fun k hl => ?_, fun k hl => ⟨h.lu k hl.1, hl.2⟩, h.glob.keep (fun _ _ ho => ⟨rfl, forget_freeK.2 ho⟩) (Nat.le_refl _)⟩
  · obtain ⟨o', ho⟩ := forget_someK hb
    exact h.bound b o' ho
  · intro b hb
    exact forget_own_ltK (h.kept k hl.1 b hb) hl.2

theorem forget_rowK {v : Value} {k off len ver : Nat} {t : Bool} (hk : K k = true) (h : RowOK S v k off len ver t) : RowOK (S.forgetK K) v k off len ver t := by
  obtain ⟨hrow, a, c, hv, h1, h2, h3, h4, h5, h6⟩ := h
  refine ⟨hrow, a, c, hv, h1, h2, h3, h4, fun hl => ?_, h6⟩
  obtain ⟨ad, ha, hrest⟩ := h5 hl
  exact ⟨ad, ha, fun hf => ⟨forget_own_ltK (hrest hf).1 hk, (hrest hf).2⟩⟩

theorem forget_rpK {v : Value} {k i ver off : Nat} (hk : K k = true) (h : RpOK S v k i ver off) : RpOK (S.forgetK K) v k i ver off := by
  obtain ⟨hrow, ad, hv, h1, h2, h3, h4⟩ := h
  exact ⟨hrow, ad, hv, h1, h2, fun hf => ⟨forget_own_ltK (h3 hf).1 hk, (h3 hf).2⟩, h4⟩

theorem below1_specK {x : AV} (h : below1K K x = true) : ∀ k, k ∈ keyOf x → K k = true := fun k hk => by
  exact List.all_eq_true.1 h k hk

theorem forget_repF : ∀ (n : Nat) {v : Value} {x : AV}, belowF K n x = true → Rep S v x → Rep (S.forgetK K) v x
  | 0, v, x, hb, _ => by cases hb
  | n + 1, v, x, hb, h => by
    have ih : ∀ {v : Value} {x : AV}, belowF K n x = true → Rep S v x → Rep (S.forgetK K) v x := fun hb h => forget_repF n hb h
    cases h with
    | i _ _ h => exact .i _ _ (h.ext fun b _ hU => ⟨rfl, forget_freeK.2 hU⟩)
    | junk => exact .junk _
    | agg arr cs hs hr => exact .agg arr cs hs fun i hi => ih (List.all_eq_true.1 (show cs.all (belowF K n) = true from hb) _ (List.getElem_mem hi)) (hr i hi)
    | tup arr cs hs hr => exact .tup arr cs hs fun i hi => ih (List.all_eq_true.1 (show cs.all (belowF K n) = true from hb) _ (List.getElem_mem hi)) (hr i hi)
    | row _ k off len ver t hu hr hx =>
      have := below1_specK (show below1K K (.row k off len ver t) = true from hb) k (by simp [keyOf])
      exact .row _ k off len ver t ⟨hu, this⟩ (fun hl => forget_rowK this (hr hl.1)) hx
    | rp _ k i ver off hu hr hx =>
      have := below1_specK (show below1K K (.rp k i ver off) = true from hb) k (by simp [keyOf])
      exact .rp _ k i ver off ⟨hu, this⟩ (fun hl => forget_rpK this (hr hl.1)) hx
    | ptr _ k off hu hr hx =>
      have := below1_specK (show below1K K (.ptr k off) = true from hb) k (by simp [keyOf])
      exact .ptr _ k off ⟨hu, this⟩ (fun hl => hr hl.1) hx
    | mpk b k hu hr =>
      have := below1_specK (show below1K K (.mpk k) = true from hb) k (by simp [keyOf])
      exact .mpk b k ⟨hu, this⟩ (fun hl => hr hl.1)
    | fnv f a b as bs h1 h2 h3 h4 =>
      have hb' : as.all (belowF K n) = true ∧ bs.all (belowF K n) = true := by
        have : (as.all (belowF K n) && bs.all (belowF K n)) = true := hb
        simpa only [Bool.and_eq_true] using this
      exact .fnv f a b as bs h1 (fun i hi => ih (List.all_eq_true.1 hb'.1 _ (List.getElem_mem hi)) (h2 i hi)) h3 (fun i hi => ih (List.all_eq_true.1 hb'.2 _ (List.getElem_mem hi)) (h4 i hi))
    | ifc t x y h => exact .ifc t x y (ih (show belowF K n y = true from hb) h)

theorem forget_repK {v : Value} {x : AV} (hb : belowAK K x = true) (h : Rep S v x) : Rep (S.forgetK K) v x := forget_repF 8 hb h

theorem forget_objK {k : Nat} {o : AObj} (hk : K k = true) (hb : belowOK K o = true) (h : ObjOK S k o) : ObjOK (S.forgetK K) k o := by
  cases o with
  | map es =>
    obtain ⟨hrow, b, arr, hc, ho, hh, hl, hr⟩ := h
    exact ⟨hrow, b, arr, hc, forget_own_ltK ho hk, hh, hl, fun i hi => ⟨(hr i hi).1, (hr i hi).2.1, forget_repK (List.all_eq_true.1 hb _ (List.getElem_mem hi)) (hr i hi).2.2⟩⟩
  | cells T cs =>
    obtain ⟨hrow, b, arr, hc, ho, hh, hl, hr⟩ := h
    exact ⟨hrow, b, arr, hc, forget_own_ltK ho hk, hh, hl, fun i hi => forget_repK (List.all_eq_true.1 hb _ (List.getElem_mem hi)) (hr i hi)⟩
  | row T sz q floor =>
    obtain ⟨hrow, h1, h2, h3, h4, hfl, h5, h6⟩ := h
    refine ⟨hrow, h1, h2, h3, h4, hfl, h5, ?_⟩
    have hcell : ∀ i j, i < q.len → ∀ hj : j < (q.get i).cells.length, belowAK K ((q.get i).cells[j]) = true := by
      intro i j hi hj
      cases q with
      | ints k l =>
        have : j = 0 := by simpa [Seq.get, AV.cells] using hj
        subst this
        rfl
      | frz l =>
        have : j = 0 := by simpa [Seq.get, AV.cells] using hj
        subst this
        rfl
      | strs l =>
        have : j = 0 := by simpa [Seq.get, AV.cells] using hj
        subst this
        rfl
      | avs l =>
        have hi' : i < l.length := hi
        have := List.all_eq_true.1 hb l[i] (List.getElem_mem hi')
        have he : (Seq.avs l).get i = l[i] := by simp [Seq.get, hi']
        simp only [he] at hj ⊢
        exact List.all_eq_true.1 this _ (List.getElem_mem hj)
      | fn m f => cases hb
    show match S.cur k with | none => q.len = 0 | some b => _
    cases hc : S.cur k with
    | none => rw [hc] at h6; exact h6
    | some b =>
      rw [hc] at h6
      obtain ⟨ho, arr, ⟨fz, hh, hfz⟩, hl, hr⟩ := h6
      exact ⟨forget_own_ltK ho hk, arr, ⟨fz, hh, hfz⟩, hl, fun i j hi hj => ⟨forget_repK (hcell i j hi hj) (hr i j hi hj).1, (hr i j hi hj).2⟩⟩
end forgetK


/-- what was hidden of S is known again behind a while -/
def St.recallK (S G : St) (K : Nat → Bool) : St where
  w := G.w
  own := fun b => match S.own b with
    | some (some k) => if K k = true then G.own b else some (some k)
    | _ => G.own b
  cur := fun k => if K k = true then G.cur k else S.cur k
  len := fun k => if K k = true then G.len k else S.len k
  sz := fun k => if K k = true then G.sz k else S.sz k
  floor := fun k => if K k = true then G.floor k else S.floor k
  isRow := fun k => if K k = true then G.isRow k else S.isRow k
  live := fun k => (K k = true ∧ G.live k) ∨ (¬ K k = true ∧ S.live k)
  used := fun k => (K k = true ∧ G.used k) ∨ (¬ K k = true ∧ S.used k)

section
variable {S G : St} {K : Nat → Bool}

theorem own_hiddenK (hwf : S.wf) (hE : Ext (S.forgetK K) G) {b k : Nat} (h : S.own b = some (some k)) (hk : ¬ K k = true) : G.own b = some none ∧ G.w.heap[b]? = S.w.heap[b]? := by
  have hF : (S.forgetK K).own b = some none := by
    show (match S.own b with | some (some k) => if K k = true then some (some k) else some none | o => o) = some none
    rw [h]
    simp [hk]
  obtain ⟨h1, h2⟩ := hE.old b (hwf.bound b _ h) (fun k' e => by rw [hF] at e; cases e)
  exact ⟨h2.trans hF, h1⟩

theorem recall_ownK (hwf : S.wf) (hE : Ext (S.forgetK K) G) {b : Nat} (h : G.own b ≠ some none) : (S.recallK G K).own b = G.own b := by
  show (match S.own b with | some (some k) => if K k = true then G.own b else some (some k) | _ => G.own b) = G.own b
  split
  · next k hk =>
    by_cases hkp : K k = true
    · rw [if_pos hkp]
    · exact absurd (own_hiddenK hwf hE hk hkp).1 h
  · rfl

theorem same_kpK (hwf : S.wf) (hE : Ext (S.forgetK K) G) {k : Nat} (hk : K k = true) : Same G (S.recallK G K) k :=
  ⟨if_pos hk, if_pos hk, if_pos hk, if_pos hk, if_pos hk, fun b hb => ⟨rfl, (recall_ownK hwf hE (by rw [hb]; simp)).trans hb⟩⟩

theorem same_nkK (hwf : S.wf) (hE : Ext (S.forgetK K) G) {k : Nat} (hk : ¬ K k = true) : Same S (S.recallK G K) k :=
  ⟨if_neg hk, if_neg hk, if_neg hk, if_neg hk, if_neg hk, fun b hb => ⟨(own_hiddenK hwf hE hb hk).2, by
    show (match S.own b with | some (some k) => if K k = true then G.own b else some (some k) | _ => G.own b) = some (some k)
    rw [hb]
    exact if_neg hk⟩⟩

theorem recall_liveK {k : Nat} (h : (S.recallK G K).live k) (hk : K k = true) : G.live k := by
  rcases h with h | h
  · exact h.2
  · exact absurd hk h.1
theorem recall_liveK' {k : Nat} (h : (S.recallK G K).live k) (hk : ¬ K k = true) : S.live k := by
  rcases h with h | h
  · exact absurd h.1 hk
  · exact h.2

theorem recall_wfK (hwf : S.wf) (gwf : G.wf) (hE : Ext (S.forgetK K) G) : (S.recallK G K).wf := by
  refine ⟨fun b o hb => ?_, fun k hl => ?_, fun k hl => ?_, gwf.glob.keep (fun b _ ho => ⟨rfl, (recall_ownK hwf hE (by rw [ho]; simp)).trans ho⟩) (Nat.le_refl _)⟩
  · have hb' : (match S.own b with | some (some k) => if K k = true then G.own b else some (some k) | _ => G.own b) = some o := hb
    split at hb'
    · next k hk => exact Nat.lt_of_lt_of_le (hwf.bound b _ hk) hE.size
    · exact gwf.bound b o hb'
  · by_cases hk : K k = true
    · intro b hb
      have hs := same_kpK hwf hE hk
      rw [hs.cur] at hb
      exact (hs.block b (gwf.kept k (recall_liveK hl hk) b hb)).2
    · intro b hb
      have hs := same_nkK hwf hE hk
      rw [hs.cur] at hb
      exact (hs.block b (hwf.kept k (recall_liveK' hl hk) b hb)).2
  · by_cases hk : K k = true
    · exact .inl ⟨hk, gwf.lu k (recall_liveK hl hk)⟩
    · exact .inr ⟨hk, hwf.lu k (recall_liveK' hl hk)⟩

theorem recall_extK (hwf : S.wf) (gwf : G.wf) (hE : Ext (S.forgetK K) G) : Ext S (S.recallK G K) := by
  refine ⟨hE.size, hE.os, hE.tape, hE.output, fun b hb ho => ?_, fun k hu => ?_, fun k hu hl => ?_⟩
  · have hF : (S.forgetK K).own b = S.own b := by
      show (match S.own b with | some (some k) => if K k = true then some (some k) else some none | o => o) = S.own b
      split
      · next k hk => exact absurd hk (ho k)
      · rfl
    obtain ⟨h1, h2⟩ := hE.old b hb (fun k => by rw [hF]; exact ho k)
    refine ⟨h1, ?_⟩
    show (match S.own b with | some (some k) => if K k = true then G.own b else some (some k) | _ => G.own b) = S.own b
    split
    · next k hk => exact absurd hk (ho k)
    · exact h2.trans hF
  · by_cases hk : K k = true
    · exact .inl ⟨hk, hE.used k ⟨hu, hk⟩⟩
    · exact .inr ⟨hk, hu⟩
  · by_cases hk : K k = true
    · have hg := recall_liveK hl hk
      obtain ⟨h1, h2, h3, h4, h5⟩ := hE.keys k ⟨hu, hk⟩ hg
      have hs := same_kpK hwf hE hk
      have ho := gwf.kept k hg
      exact ⟨h1.1, fun v off len ver t x => hs.row ho (h2 _ _ _ _ _ (forget_rowK hk x)), fun v i ver off x => hs.rp ho (h3 _ _ _ _ (forget_rpK hk x)), fun v off x => hs.ptr (h4 _ _ x), Moves.trans (S := S) (S' := G) ⟨h5.isRow, h5.sz, h5.len, h5.cur, h5.var, h5.size⟩ (hs.moves ho)⟩
    · have hs := same_nkK hwf hE hk
      have hS := recall_liveK' hl hk
      have ho := hwf.kept k hS
      exact ⟨hS, fun v off len ver t x => hs.row ho x, fun v i ver off x => hs.rp ho x, fun v off x => hs.ptr x, hs.moves ho⟩

theorem recall_repK (hwf : S.wf) (gwf : G.wf) (hE : Ext (S.forgetK K) G) (hU : ∀ k, G.used k → K k = true) {v : Value} {x : AV} (h : Rep G v x) : Rep (S.recallK G K) v x := by
  induction h with
  | i x y h => exact .i x y (h.ext fun b hb hU' => ⟨rfl, (recall_ownK hwf hE (by have : G.own b = none := hU'; rw [this]; simp)).trans hU'⟩)
  | junk x => exact .junk x
  | agg arr cs hs _ ih => exact .agg arr cs hs ih
  | tup arr cs hs _ ih => exact .tup arr cs hs ih
  | row x k off len ver t hu hr hx =>
    have hk := hU k hu
    exact .row x k off len ver t (.inl ⟨hk, hu⟩) (fun hl => (same_kpK hwf hE hk).row (gwf.kept k (recall_liveK hl hk)) (hr (recall_liveK hl hk))) hx
  | rp x k i ver off hu hr hx =>
    have hk := hU k hu
    exact .rp x k i ver off (.inl ⟨hk, hu⟩) (fun hl => (same_kpK hwf hE hk).rp (gwf.kept k (recall_liveK hl hk)) (hr (recall_liveK hl hk))) hx
  | ptr x k off hu hr hx =>
    have hk := hU k hu
    exact .ptr x k off (.inl ⟨hk, hu⟩) (fun hl => (same_kpK hwf hE hk).ptr (hr (recall_liveK hl hk))) hx
  | mpk b k hu hr =>
    have hk := hU k hu
    exact .mpk b k (.inl ⟨hk, hu⟩) (fun hl => (same_kpK hwf hE hk).ptr (hr (recall_liveK hl hk)))
  | fnv f a b as bs h1 _ h2 _ ih1 ih2 => exact .fnv f a b as bs h1 ih1 h2 ih2
  | ifc t x y _ ih => exact .ifc t x y ih

end

theorem ext_forgetK {S S' : St} {K : Nat → Bool} (h : Ext S S') (hu : ∀ k, S.used k → K k = true) : Ext S (S'.forgetK K) := by
  refine ⟨h.size, h.os, h.tape, h.output, fun b hb ho => ?_, fun k hk => ⟨h.used k hk, hu k hk⟩, fun k hk hl => ?_⟩
  · obtain ⟨h1, h2⟩ := h.old b hb ho
    refine ⟨h1, ?_⟩
    show (match S'.own b with | some (some k) => if K k = true then some (some k) else some none | o => o) = S.own b
    rw [h2]
    split
    · next k hk => exact (ho k hk).elim
    · rfl
  · obtain ⟨h1, h2, h3, h4, h5⟩ := h.keys k hk hl.1
    exact ⟨h1, fun v off len ver t x => forget_rowK (hu k hk) (h2 _ _ _ _ _ x), fun v i ver off x => forget_rpK (hu k hk) (h3 _ _ _ _ x), h4, h5.trans ⟨rfl, rfl, Nat.le_refl _, fun _ => rfl, fun _ => rfl, fun _ _ _ => Nat.le_refl _⟩⟩

/-- all objects are of keys that are kept, and name no others -/
def hpK (K : Nat → Bool) (hp : Hp) : Bool := hp.all fun x => K x.1 && belowOK K x.2
theorem hpK_spec {K : Nat → Bool} {hp : Hp} (h : hpK K hp = true) {k : Nat} {o : AObj} (hk : look hp k = some o) : K k = true ∧ belowOK K o = true := by
  have := List.all_eq_true.1 h _ (look_mem hk)
  simpa only [Bool.and_eq_true] using this

/-- A CALL FROM WHICH SOME KEYS ARE HIDDEN: what these name stays. -/
theorem hidden_call {P : Program} {g : FuncId} {hp hp' : Hp} {K : Nat → Bool} {nc nc' : Nat} {ys : List AV} {r : AV} (h : InTo P g hp nc ys r hp' nc') (hb : hpK K hp = true) (hb' : hpK K hp' = true) (hy : ys.all (belowAK K) = true) (hr : belowAK K r = true)
    {S : St} {vals : List Value} {A : Hp} (hwf : S.wf) (hh : HeapOK S A) (s1 : ∀ k o, look hp k = some o → look A k = some o) (hu : ∀ k, S.used k → k < nc ∨ rsv ≤ k) (hrs : RepsS S vals ys) :
    CalledTo P g vals.toArray S.w fun v w' => ∃ S', S'.w = w' ∧ S'.wf ∧ Ext S S' ∧ HeapOK S' hp' ∧ (∀ k o, K k = false → look A k = some o → S'.used k ∧ S'.live k ∧ ObjOK S' k o) ∧
      (∀ k, S'.used k → (K k = false ∧ S.used k) ∨ (K k = true ∧ (k < nc' ∨ rsv ≤ k))) ∧ Rep S' v r := by
  have h0 := h (S.forgetK K) vals (forget_wfK hwf) (fun k o hk => by
      obtain ⟨h1, h2, h3⟩ := hh k o (s1 k o hk)
      obtain ⟨k1, k2⟩ := hpK_spec hb hk
      exact ⟨⟨h1, k1⟩, ⟨h2, k1⟩, forget_objK k1 k2 h3⟩) (fun k hk => hu k hk.1) ⟨hrs.1, fun i h1 h2 => forget_repK (List.all_eq_true.1 hy _ (List.getElem_mem h2)) (hrs.2 i h1 h2)⟩
  suffices key : ∀ v w', (∃ S', S'.w = w' ∧ S'.wf ∧ Ext (S.forgetK K) S' ∧ HeapOK S' hp' ∧ (∀ k, S'.used k → k < nc' ∨ rsv ≤ k) ∧ Rep S' v r) → ∃ S', S'.w = w' ∧ S'.wf ∧ Ext S S' ∧ HeapOK S' hp' ∧ (∀ k o, K k = false → look A k = some o → S'.used k ∧ S'.live k ∧ ObjOK S' k o) ∧
      (∀ k, S'.used k → (K k = false ∧ S.used k) ∨ (K k = true ∧ (k < nc' ∨ rsv ≤ k))) ∧ Rep S' v r by
    unfold CalledTo at h0 ⊢
    revert h0
    show (match (callFunc g vals.toArray).run P S.w with | .ok (.value v) w' => _ | .ok (.enter g args) w' => _ | _ => _) → _
    cases (callFunc g vals.toArray).run P S.w with
    | halt x w' => exact fun h => h
    | ok nx w' =>
      cases nx with
      | value v => exact fun h => key v w' h
      | enter f args => exact fun h => ⟨h.1, h.2.mono fun e w'' ⟨v, he, hv⟩ => ⟨v, he, key v w'' hv⟩⟩
      | _ => exact fun h => h
  rintro v w' ⟨S1, h1, h2, h3, h4, h5, h6⟩
  have gwf : (S1.forgetK K).wf := forget_wfK h2
  have hE : Ext (S.forgetK K) (S1.forgetK K) := ext_forgetK h3 fun k hk => hk.2
  have hU : ∀ k, (S1.forgetK K).used k → K k = true := fun k hk => hk.2
  have hX := recall_extK hwf gwf hE
  refine ⟨S.recallK (S1.forgetK K) K, h1, recall_wfK hwf gwf hE, hX, fun k o hk => ?_, fun k o hk ho => ?_, fun k hk => ?_, recall_repK hwf gwf hE hU (forget_repK hr h6)⟩
  · obtain ⟨a1, a2, a3⟩ := h4 k o hk
    obtain ⟨k1, k2⟩ := hpK_spec hb' hk
    exact ⟨.inl ⟨k1, a1, k1⟩, .inl ⟨k1, a2, k1⟩, obj_map (fun v x hvx => recall_repK hwf gwf hE hU hvx) (forget_objK k1 k2 a3) (same_kpK hwf hE k1)⟩
  · obtain ⟨a1, a2, a3⟩ := hh k o ho
    have nk : ¬ K k = true := by rw [hk]; simp
    exact ⟨.inr ⟨nk, a1⟩, .inr ⟨nk, a2⟩, ObjOK.same hX a3 (same_nkK hwf hE nk)⟩
  · rcases hk with hk | hk
    · exact .inr ⟨hk.1, h5 k hk.2.1⟩
    · exact .inl ⟨by cases hK : K k with | true => exact absurd hK hk.1 | false => rfl, hk.2⟩
end Go.Ev

/- Regions that draw their order, with calls that are run within: the keys of the region's own operations may be hidden from a call. -/
set_option maxRecDepth 20000
namespace Go.Ev
open Go

/-- an operation with what it looks at and turns; a call with the region's keys that it knows, and the objects that it surely leaves -/
inductive EntQ where
  | op (f : FP)
  | call (D KL : List Nat)

/-- the keys that a call may know: none of the region's own but those of D -/
def kIn (N sz : Nat) (D : List Nat) (k : Nat) : Bool := Nat.blt k N || Nat.ble (N + sz) k || D.any (Nat.beq k)

def hid (K : Nat → Bool) (hp : Hp) : Hp := hp.filter fun x => !K x.1

theorem look_hid {K : Nat → Bool} {k : Nat} : ∀ {hp : Hp}, look (hid K hp) k = if K k = true then none else look hp k
  | [] => by simp [hid, look]
  | (j, o) :: r => by
    have ih := look_hid (K := K) (k := k) (hp := r)
    unfold hid at ih ⊢
    have e : look ((j, o) :: r) k = match Nat.beq j k with | true => some o | false => look r k := rfl
    rw [List.filter_cons, e]
    cases hb : Nat.beq j k with
    | true =>
      have hj := Nat.eq_of_beq_eq_true hb
      subst hj
      cases hk : K j with
      | true => simp only [hk, Bool.not_true, Bool.false_eq_true, if_false, if_true]; rw [ih, if_pos hk]
      | false => simp only [hk, Bool.not_false, if_true, Bool.false_eq_true, if_false, look, hb]
    | false =>
      cases hj : K j with
      | true => simp only [hj, Bool.not_true, Bool.false_eq_true, if_false]; exact ih
      | false => simp only [hj, Bool.not_false, if_true, look, hb]; exact ih

theorem look_none_append {l m : Hp} {k : Nat} : look (l ++ m) k = match look l k with | some o => some o | none => look m k := by
  induction l with
  | nil => rfl
  | cons x r ih =>
    obtain ⟨j, a⟩ := x
    simp only [List.cons_append, look]
    split
    · rfl
    · exact ih

section
variable [Globs] {P : Program} {SG : SGT} {Q : Exit → Act → World → Prop}

theorem look_join {K : Nat → Bool} {hp1 hp : Hp} (h : hpK K hp1 = true) (k : Nat) : look (hp1 ++ hid K hp) k = if K k = true then look hp1 k else look hp k := by
  rw [look_none_append, look_hid]
  cases h1 : look hp1 k with
  | some o => simp [(hpK_spec h h1).1]
  | none => by_cases hk : K k = true <;> simp [hk]

/-- the state behind a call -/
def callOut (K : Nat → Bool) (A : AS) (dst : Option Tmp) (r : AV) (hp1 : Hp) : Option AS :=
  match putA A dst r with
  | some A2 => some { A2 with hp := hp1 ++ hid K A.hp }
  | none => none

theorem callOut_spec {K : Nat → Bool} {A A1 : AS} {dst : Option Tmp} {r : AV} {hp1 : Hp} (h : callOut K A dst r hp1 = some A1) :
    ∃ A2, putA A dst r = some A2 ∧ (∀ d, dst = some d → d < A.n) ∧ A1.n = A.n ∧ A1.nx = A.nx ∧ A1.fr = A2.fr ∧ A1.hp = hp1 ++ hid K A.hp ∧ ∀ t, look A1.fr t = if dst = some t then some r else look A.fr t := by
  unfold callOut at h
  split at h
  · next A2 hp =>
    cases h
    obtain ⟨h1, h2, h3, h4, h5⟩ := putA_spec hp
    exact ⟨A2, hp, h1, h2, h3, rfl, rfl, h5⟩
  · cases h

/-- what an operation looks at and turns does not matter to a call -/
def inQ (K : Nat → Bool) (KL : List Nat) (f : FP) : Bool := (f.2.all fun n => !K (n / 2)) && f.1.all fun n => !K (n / 2) || KL.any (Nat.beq (n / 2))

theorem inQ_spec {K : Nat → Bool} {KL : List Nat} {f : FP} (h : inQ K KL f = true) : (∀ n, n ∈ f.2 → K (n / 2) = false) ∧ ∀ n, n ∈ f.1 → K (n / 2) = false ∨ n / 2 ∈ KL := by
  unfold inQ at h
  rw [Bool.and_eq_true] at h
  refine ⟨fun n hn => by simpa using List.all_eq_true.1 h.1 n hn, fun n hn => ?_⟩
  have := List.all_eq_true.1 h.2 n hn
  rw [Bool.or_eq_true] at this
  rcases this with h1 | h1
  · exact .inl (by simpa using h1)
  · exact .inr (mem_any_beq.1 h1)

/-- a call, from what A says, the first free key being nc -/
structure CallQ (P : Program) (SG : SGT) (ops : Array Oper) (i : Nat) (D KL : List Nat) (A : AS) (nc : Nat) (o : Oper) (g : FuncId) (ys : List AV) (r : AV) (hpI hp1 : Hp) (nc1 : Nat) (A1 : AS) : Prop where
  op : ops[i]? = some o
  want : wantedA ops.toList A.fr o = some true
  callee : callOf SG A.fr o = some (g, ys)
  out : callOut (kIn A.nx ops.size D) A o.dst r hp1 = some A1
  goes : InTo P g hpI nc ys r hp1 nc1
  sub : ∀ k x, look hpI k = some x → look A.hp k = some x
  okI : hpK (kIn A.nx ops.size D) hpI = true
  ok1 : hpK (kIn A.nx ops.size D) hp1 = true
  oky : ys.all (belowAK (kIn A.nx ops.size D)) = true
  okr : belowAK (kIn A.nx ops.size D) r = true
  left : ∀ k, k ∈ KL → kIn A.nx ops.size D k = true ∧ look hp1 k = look A.hp k
  le : nc ≤ nc1
  rs : nc1 ≤ rsv

def RunQ (P : Program) (SG : SGT) (hs : List (Nat × Hint)) (ops : Array Oper) : List (Nat × EntQ) → AS → Nat → AS → Nat → Prop
  | [], A, nc, A', nc' => Like A A' ∧ nc = nc'
  | (i, .op f) :: l, A, nc, A', nc' => ∃ T, takeOp P SG hs ops.toList i A = some T ∧ AllP T.cond ∧ (T.need, T.ups) = f ∧ RunQ P SG hs ops l T.A nc A' nc'
  | (i, .call D KL) :: l, A, nc, A', nc' => ∃ o g ys r hpI hp1 n1 A1, CallQ P SG ops i D KL A nc o g ys r hpI hp1 n1 A1 ∧ RunQ P SG hs ops l A1 n1 A' nc'

/-- the call from another state in which it reads the same -/
theorem CallQ.again {ops : Array Oper} {i : Nat} {D KL : List Nat} {A B : AS} {nc : Nat} {o : Oper} {g : FuncId} {ys : List AV} {r : AV} {hpI hp1 : Hp} {nc1 : Nat} {A1 : AS} (h : CallQ P SG ops i D KL A nc o g ys r hpI hp1 nc1 A1)
    (hB : Reads ops.toList o A B) (hl : ∀ k, kIn A.nx ops.size D k = true → look B.hp k = look A.hp k) : ∃ B1, CallQ P SG ops i D KL B nc o g ys r hpI hp1 nc1 B1 := by
  obtain ⟨A2, p1, h1, h2, h3, h4, h5, h6⟩ := callOut_spec h.out
  obtain ⟨B2, hB2⟩ := putA_ok (A := B) r (dst := o.dst) fun d hd => by
    rw [hB.n]
    exact h1 d hd
  refine ⟨{ B2 with hp := hp1 ++ hid (kIn B.nx ops.size D) B.hp }, h.op, by rw [hB.wanted]; exact h.want, by rw [callOf_reads hB]; exact h.callee, by unfold callOut; rw [hB2], h.goes, fun k x hk => ?_, ?_, ?_, ?_, ?_, fun k hk => ?_, h.le, h.rs⟩
  · rw [hl k (hpK_spec h.okI hk).1]; exact h.sub k x hk
  · rw [hB.nx]; exact h.okI
  · rw [hB.nx]; exact h.ok1
  · rw [hB.nx]; exact h.oky
  · rw [hB.nx]; exact h.okr
  · obtain ⟨k1, k2⟩ := h.left k hk
    exact ⟨by rw [hB.nx]; exact k1, by rw [hl k k1]; exact k2⟩

theorem CallQ.state {ops : Array Oper} {i : Nat} {D KL : List Nat} {A : AS} {nc : Nat} {o : Oper} {g : FuncId} {ys : List AV} {r : AV} {hpI hp1 : Hp} {nc1 : Nat} {A1 : AS} (h : CallQ P SG ops i D KL A nc o g ys r hpI hp1 nc1 A1) :
    A1.n = A.n ∧ A1.nx = A.nx ∧ (∀ k, look A1.hp k = if kIn A.nx ops.size D k = true then look hp1 k else look A.hp k) ∧ ∀ t, look A1.fr t = if o.dst = some t then some r else look A.fr t := by
  obtain ⟨A2, p1, h1, h2, h3, h4, h5, h6⟩ := callOut_spec h.out
  exact ⟨h2, h3, fun k => by rw [h5]; exact look_join h.ok1 k, h6⟩

theorem RunQ.like {hs : List (Nat × Hint)} {ops : Array Oper} : ∀ {l : List (Nat × EntQ)} {A B C : AS} {nc m : Nat}, RunQ P SG hs ops l A nc C m → Like A B → RunQ P SG hs ops l B nc C m
  | [], A, B, C, nc, m, h, hl => ⟨hl.symm.trans h.1, h.2⟩
  | (i, .op f) :: l, A, B, C, nc, m, h, hl => by
    obtain ⟨T, h1, h2, h3, h4⟩ := h
    obtain ⟨T', g1, g2, g3, g4, g5⟩ := takeOp_like h1 hl
    exact ⟨T', g1, by rw [g2]; exact h2, by rw [g3, g4]; exact h3, RunQ.like h4 g5⟩
  | (i, .call D KL) :: l, A, B, C, nc, m, h, hl => by
    obtain ⟨o, g, ys, r, hpI, hp1, n1, A1, h1, h2⟩ := h
    obtain ⟨B1, g1⟩ := h1.again (B := B) ⟨hl.n, hl.nx, fun t _ => hl.fr t⟩ fun k _ => hl.hp k
    obtain ⟨a1, a2, a3, a4⟩ := h1.state
    obtain ⟨b1, b2, b3, b4⟩ := g1.state
    exact ⟨o, g, ys, r, hpI, hp1, n1, B1, g1, RunQ.like h2 ⟨by rw [b1, a1, hl.n], by rw [b2, a2, hl.nx], fun t => by rw [b4, a4, hl.fr], fun k => by rw [b3, a3, hl.nx, hl.hp]⟩⟩

theorem up_in {o : Op} {up : List (Nat × Option AObj)} {K : Nat → Bool} (h : ∀ n, n ∈ turnsA o (up.map (·.1)) → K (n / 2) = false) {k : Nat} (hk : K k = true) : k ∉ up.map (·.1) := fun hm => by
  have := h _ (mem_turns (o := o) hm)
  rw [show 2 * k / 2 = k by omega, hk] at this
  cases this

/-- a call and an operation, the other way round -/
theorem swapQ_call_op {hs : List (Nat × Hint)} {ops : Array Oper} {i j : Nat} {y : Oper} {D KL : List Nat} {A A1 : AS} {nc n1 : Nat} {o : Oper} {g : FuncId} {ys : List AV} {r : AV} {hpI hp1 : Hp} {T : Took}
    (h1 : CallQ P SG ops i D KL A nc o g ys r hpI hp1 n1 A1) (h2 : takeOp P SG hs ops.toList j A1 = some T) (hy : ops[j]? = some y) (ha : o.apart ops y = true) (hk : inQ (kIn A.nx ops.size D) KL (T.need, T.ups) = true) :
    ∃ T' B1, takeOp P SG hs ops.toList j A = some T' ∧ T'.cond = T.cond ∧ T'.need = T.need ∧ T'.ups = T.ups ∧ CallQ P SG ops i D KL T'.A nc o g ys r hpI hp1 n1 B1 ∧ Like T.A B1 := by
  obtain ⟨a1, a2, a3⟩ := Oper.apart_spec ha
  obtain ⟨s1, s2, s3, s4⟩ := h1.state
  obtain ⟨k1, k2⟩ := inQ_spec hk
  obtain ⟨o2, v2, up2, d2⟩ := takeOp_does h2
  have e2 : o2 = y := by have := d2.op; rw [Array.getElem?_toList, hy] at this; exact (Option.some.inj this).symm
  subst e2
  have hops : ops.toList.toArray = ops := by simp
  have hup : ∀ k, kIn A.nx ops.size D k = true → k ∉ up2.map (·.1) := fun k hk => up_in (o := o2.op) (fun n hn => k1 n (by rw [d2.ups]; exact hn)) hk
  have hl : ∀ k, (kIn A.nx ops.size D k = false ∨ k ∈ KL) → look A.hp k = look A1.hp k := fun k hk => by
    rw [s3]
    rcases hk with hk | hk
    · rw [if_neg (by rw [hk]; simp)]
    · obtain ⟨q1, q2⟩ := h1.left k hk
      rw [if_pos q1, q2]
  obtain ⟨T', t1, t2, t3, t4, t5, t6, t7, t8⟩ := d2.again A ⟨s1.symm, s2.symm, fun t ht => by
      rw [s4, if_neg]
      intro hd
      rw [hops] at ht
      exact a1 t hd ht⟩ fun n hn => ⟨fun k e => hl k (by have := k2 n hn; rw [e] at this; rwa [show 2 * k / 2 = k by omega] at this), fun k e => congrArg shapeOf (hl k (by have := k2 n hn; rw [e] at this; rwa [show (2 * k + 1) / 2 = k by omega] at this))⟩
  obtain ⟨B1, hB⟩ := h1.again (B := T'.A) ⟨t5, t6, fun t ht => by
      rw [t7, if_neg]
      intro hd
      rw [hops] at ht
      exact a3 t hd ht⟩ fun k hk => by rw [t8, updAt_not (hup k hk)]
  obtain ⟨b1, b2, b3, b4⟩ := hB.state
  refine ⟨T', B1, t1, t2, t3, t4, hB, ⟨by rw [b1, t5, d2.n, s1], by rw [b2, t6, d2.nx, s2], fun t => ?_, fun k => ?_⟩⟩
  · rw [b4, t7, d2.fr, s4]
    by_cases hd1 : o.dst = some t
    · rw [if_pos hd1, if_pos hd1, if_neg (a2 t hd1)]
    · rw [if_neg hd1, if_neg hd1]
  · rw [b3, d2.hp, s3, t8, t6]
    by_cases hk : kIn A.nx ops.size D k = true
    · rw [if_pos hk, if_pos hk, updAt_not (hup k hk)]
    · rw [if_neg hk, if_neg hk]

/-- an operation and a call, the other way round -/
theorem swapQ_op_call {hs : List (Nat × Hint)} {ops : Array Oper} {i j : Nat} {y : Oper} {D KL : List Nat} {A A1 : AS} {nc n1 : Nat} {o : Oper} {g : FuncId} {ys : List AV} {r : AV} {hpI hp1 : Hp} {T : Took}
    (h2 : takeOp P SG hs ops.toList j A = some T) (h1 : CallQ P SG ops i D KL T.A nc o g ys r hpI hp1 n1 A1) (hy : ops[j]? = some y) (ha : y.apart ops o = true) (hk : inQ (kIn A.nx ops.size D) KL (T.need, T.ups) = true) :
    ∃ T' B1, CallQ P SG ops i D KL A nc o g ys r hpI hp1 n1 B1 ∧ takeOp P SG hs ops.toList j B1 = some T' ∧ T'.cond = T.cond ∧ T'.need = T.need ∧ T'.ups = T.ups ∧ Like A1 T'.A := by
  obtain ⟨a1, a2, a3⟩ := Oper.apart_spec ha
  obtain ⟨k1, k2⟩ := inQ_spec hk
  obtain ⟨o2, v2, up2, d2⟩ := takeOp_does h2
  have e2 : o2 = y := by have := d2.op; rw [Array.getElem?_toList, hy] at this; exact (Option.some.inj this).symm
  subst e2
  have hops : ops.toList.toArray = ops := by simp
  have hup : ∀ k, kIn A.nx ops.size D k = true → k ∉ up2.map (·.1) := fun k hk => up_in (o := o2.op) (fun n hn => k1 n (by rw [d2.ups]; exact hn)) hk
  obtain ⟨B1, hB⟩ := h1.again (B := A) ⟨d2.n.symm, d2.nx.symm, fun t ht => by
      rw [d2.fr, if_neg]
      intro hd
      rw [hops] at ht
      exact a1 t hd ht⟩ fun k hk => by rw [d2.nx] at hk; rw [d2.hp, updAt_not (hup k hk)]
  obtain ⟨b1, b2, b3, b4⟩ := hB.state
  obtain ⟨s1, s2, s3, s4⟩ := h1.state
  have hl : ∀ k, (kIn A.nx ops.size D k = false ∨ k ∈ KL) → look B1.hp k = look A.hp k := fun k hk => by
    rw [b3]
    rcases hk with hk | hk
    · rw [if_neg (by rw [hk]; simp)]
    · obtain ⟨q1, q2⟩ := hB.left k hk
      rw [if_pos q1, q2]
  obtain ⟨T', t1, t2, t3, t4, t5, t6, t7, t8⟩ := d2.again B1 ⟨b1, b2, fun t ht => by
      rw [b4, if_neg]
      intro hd
      rw [hops] at ht
      exact a3 t hd ht⟩ fun n hn => ⟨fun k e => hl k (by have := k2 n hn; rw [e] at this; rwa [show 2 * k / 2 = k by omega] at this), fun k e => congrArg shapeOf (hl k (by have := k2 n hn; rw [e] at this; rwa [show (2 * k + 1) / 2 = k by omega] at this))⟩
  refine ⟨T', B1, hB, t1, t2, t3, t4, ⟨by rw [t5, b1, s1, d2.n], by rw [t6, b2, s2, d2.nx], fun t => ?_, fun k => ?_⟩⟩
  · rw [t7, b4, s4, d2.fr]
    by_cases hd1 : o.dst = some t
    · rw [if_pos hd1, if_pos hd1, if_neg fun h => a2 t h hd1]
    · rw [if_neg hd1, if_neg hd1]
  · rw [t8, b3, s3, d2.hp, d2.nx]
    by_cases hk : kIn A.nx ops.size D k = true
    · rw [if_pos hk, if_pos hk, updAt_not (hup k hk)]
    · rw [if_neg hk, if_neg hk]

/-- apart: operations x and y; N: the region's first key -/
def indepQ (N : Nat) (ops : Array Oper) (x y : Oper) : EntQ → EntQ → Bool
  | .op f, .op g => indep ops x y f g
  | .op f, .call D KL => x.apart ops y && inQ (kIn N ops.size D) KL f
  | .call D KL, .op f => x.apart ops y && inQ (kIn N ops.size D) KL f
  | .call _ _, .call _ _ => false

theorem RunQ.first {hs : List (Nat × Hint)} {ops : Array Oper} {i : Nat} {e : EntQ} {l2 : List (Nat × EntQ)} {C : AS} {m : Nat} : ∀ {l1 : List (Nat × EntQ)} {A : AS} {nc : Nat}, RunQ P SG hs ops (l1 ++ (i, e) :: l2) A nc C m →
    (∀ k g, (k, g) ∈ l1 → ∃ x y, ops[k]? = some x ∧ ops[i]? = some y ∧ indepQ A.nx ops x y g e = true) → RunQ P SG hs ops ((i, e) :: (l1 ++ l2)) A nc C m
  | [], A, nc, h, _ => h
  | (k, g) :: l1, A, nc, h, hi => by
    obtain ⟨x, y, hx, hy, hxy⟩ := hi k g (by simp)
    cases g with
    | op fg =>
      obtain ⟨T, h1, h2, h3, h4⟩ := h
      have hnx := takeOp_frame h1
      have h5 := RunQ.first (l1 := l1) h4 fun k' g' hm => by rw [hnx]; exact hi k' g' (by simp [hm])
      cases e with
      | op f =>
        obtain ⟨U, g1, g2, g3, g4⟩ := h5
        have hxy' : indep ops x y fg f = true := hxy
        rw [← h3, ← g3] at hxy'
        obtain ⟨U', T', u1, t1, u2, u3, u4, t2, t3, t4, hl⟩ := takeOp_swap h1 g1 hx hy hxy'
        exact ⟨U', u1, by rw [u2]; exact g2, by rw [u3, u4]; exact g3, T', t1, by rw [t2]; exact h2, by rw [t3, t4]; exact h3, RunQ.like g4 hl⟩
      | call D KL =>
        obtain ⟨o, g, ys, r, hpI, hp1, n1, A1, g1, g2⟩ := h5
        have hxy' : (x.apart ops y && inQ (kIn A.nx ops.size D) KL fg) = true := hxy
        rw [Bool.and_eq_true, ← h3] at hxy'
        have : o = y := by have := g1.op; rw [hy] at this; exact (Option.some.inj this).symm
        subst this
        obtain ⟨T', B1, u1, u2, u3, u4, u5, hl⟩ := swapQ_op_call h1 g1 hx hxy'.1 hxy'.2
        exact ⟨o, g, ys, r, hpI, hp1, n1, B1, u1, T', u2, by rw [u3]; exact h2, by rw [u4, u5]; exact h3, RunQ.like g2 hl⟩
    | call D KL =>
      obtain ⟨o, g, ys, r, hpI, hp1, n1, A1, h1, h2⟩ := h
      have hnx := h1.state.2.1
      have h5 := RunQ.first (l1 := l1) h2 fun k' g' hm => by rw [hnx]; exact hi k' g' (by simp [hm])
      cases e with
      | op f =>
        obtain ⟨U, g1, g2, g3, g4⟩ := h5
        have hxy' : (x.apart ops y && inQ (kIn A.nx ops.size D) KL f) = true := hxy
        rw [Bool.and_eq_true, ← g3] at hxy'
        have : o = x := by have := h1.op; rw [hx] at this; exact (Option.some.inj this).symm
        subst this
        obtain ⟨T', B1, u1, u2, u3, u4, u5, hl⟩ := swapQ_call_op h1 g1 hy hxy'.1 hxy'.2
        exact ⟨T', u1, by rw [u2]; exact g2, by rw [u3, u4]; exact g3, o, g, ys, r, hpI, hp1, n1, B1, u5, RunQ.like g4 hl⟩
      | call D' KL' => cases hxy

theorem RunQ.op {hs : List (Nat × Hint)} {ops : Array Oper} {i : Nat} {f : EntQ} {l : List (Nat × EntQ)} {A C : AS} {nc m : Nat} (h : RunQ P SG hs ops ((i, f) :: l) A nc C m) : ∃ o, ops[i]? = some o := by
  cases f with
  | call D KL =>
    obtain ⟨o, g, ys, r, hpI, hp1, n1, A1, h1, _⟩ := h
    exact ⟨o, h1.op⟩
  | op f =>
    obtain ⟨T, h1, _⟩ := h
    exact Run.op h1

def ApartQ (N : Nat) (ops : Array Oper) (x y : Nat × EntQ) : Prop :=
  x.1 < y.1 ∧ (Anc ops y.1 x.1 ∨ ∃ o p, ops[x.1]? = some o ∧ ops[y.1]? = some p ∧ indepQ N ops o p x.2 y.2 = true)

/-- a call knows only keys of operations that stand ahead of it -/
def DOk (N : Nat) (ops : Array Oper) (l : List (Nat × EntQ)) : Prop := ∀ i D KL, (i, EntQ.call D KL) ∈ l → ∀ k, k ∈ D → ∃ j, k = N + j ∧ Anc ops i j

theorem any_wpQ {hs : List (Nat × Hint)} {ops : Array Oper} (hsg : SigsOK P SG) (hback : backOk ops.toList 0 = true) : ∀ (fuel : Nat) (l : List (Nat × EntQ)) (listed : Array Bool) (A A' : AS) (nc nc' : Nat) (S : St) (a : Act),
    A.nx + ops.size ≤ nc → nc ≤ rsv → DOk A.nx ops l → l.length = fuel → listed.size = ops.size → (∀ i, i < ops.size → (listed.getD i true = false ↔ ∃ f, (i, f) ∈ l)) →
    (∀ j o, listed.getD j false = true → ops[j]? = some o → ∀ e ∈ o.after, Region.binds .any e = true → listed.getD e.on false = true) →
    l.Pairwise (ApartQ A.nx ops) → RunQ P SG hs ops l A nc A' nc' → RelU (fun k => k < nc ∨ rsv ≤ k) S A a → (∀ i f, (i, f) ∈ l → ¬ S.used (A.nx + i)) →
    (∀ S' a', Ext S S' → RelU (fun k => k < nc' ∨ rsv ≤ k) S' A' a' → Q .normal a' S'.w) → wpAny P .any ops Q fuel listed a S.w := by
  intro fuel
  induction fuel with
  | zero =>
    intro l listed A A' nc nc' S a hnc hrs hD hlen hls hmem hcl hpw hrun hR hused hK
    have hl : l = [] := List.length_eq_zero_iff.1 hlen
    subst hl
    obtain ⟨hrun', rfl⟩ := hrun
    refine ⟨?_, hK S a (Ext.refl S) (hR.like hrun')⟩
    cases hrd : Region.ready .any ops listed with
    | nil => rfl
    | cons i r =>
      have hi : i ∈ Region.ready .any ops listed := by rw [hrd]; simp
      obtain ⟨h0, o, ho, _⟩ := mem_ready.1 hi
      obtain ⟨f, hf⟩ := (hmem i (Array.getElem?_eq_some_iff.1 ho).1).1 h0
      cases hf
  | succ fuel ih =>
    intro l listed A A' nc nc' S a hnc hrs hD hlen hls hmem hcl hpw hrun hR hused hK
    have hsame : ∀ i, i < ops.size → listed.getD i false = listed.getD i true := fun i hi => by
      have : i < listed.size := by rw [hls]; exact hi
      simp [this]
    refine ⟨fun hnil => ?_, fun i hi => ?_⟩
    · exfalso
      cases l with
      | nil => cases hlen
      | cons x l =>
        obtain ⟨i, f⟩ := x
        obtain ⟨o, ho⟩ := RunQ.op hrun
        have hlt := (Array.getElem?_eq_some_iff.1 ho).1
        have : i ∈ Region.ready .any ops listed := by
          rw [mem_ready]
          refine ⟨(hmem i hlt).2 ⟨f, by simp⟩, o, ho, fun e he hb => ?_⟩
          have hon := backOk_spec hback i o (by rw [Array.getElem?_toList]; exact ho) e he hb
          simp only [Nat.zero_add] at hon
          have hons : e.on < ops.size := by omega
          rw [hsame _ hons]
          cases hv : listed.getD e.on true with
          | true => rfl
          | false =>
            exfalso
            obtain ⟨g, hg⟩ := (hmem _ hons).1 hv
            rcases List.mem_cons.1 hg with h1 | h1
            · cases h1; omega
            · have : i < e.on := ((List.pairwise_cons.1 hpw).1 _ h1).1
              omega
        rw [hnil] at this
        cases this
    · obtain ⟨h0, o, ho, hdeps⟩ := mem_ready.1 hi
      have hlt := (Array.getElem?_eq_some_iff.1 ho).1
      obtain ⟨f, hf⟩ := (hmem i hlt).1 h0
      obtain ⟨l1, l2, hl⟩ := List.append_of_mem hf
      subst hl
      have hpw' := List.pairwise_append.1 hpw
      have hap : ∀ k g, (k, g) ∈ l1 → ∃ x y, ops[k]? = some x ∧ ops[i]? = some y ∧ indepQ A.nx ops x y g f = true := fun k g hk => by
        have hap := hpw'.2.2 (k, g) hk (i, f) (by simp)
        rcases hap.2 with hanc | hind
        · exfalso
          have hkl : k < ops.size := Nat.lt_trans (show k < i from hap.1) hlt
          have h1 := hanc.listed (listed := listed) (fun o' ho' e he hb => by rw [ho] at ho'; cases ho'; exact hdeps e he hb) hcl
          rw [hsame _ hkl] at h1
          have h2 := (hmem k hkl).2 ⟨g, by simp [hk]⟩
          rw [h1] at h2
          cases h2
        · exact hind
      have hne : ∀ k g, (k, g) ∈ l1 ++ l2 → k ≠ i := fun k g hk => by
        rcases List.mem_append.1 hk with h1 | h1
        · have : k < i := (hpw'.2.2 (k, g) h1 (i, f) (by simp)).1
          omega
        · have : i < k := ((List.pairwise_cons.1 hpw'.2.1).1 (k, g) h1).1
          omega
      have hlt' : ∀ k g, (k, g) ∈ l1 ++ l2 → k < ops.size := fun k g hk => by
        rcases Nat.lt_or_ge k ops.size with h | h
        · exact h
        · exfalso
          rcases List.mem_append.1 hk with h1 | h1
          · have : k < i := (hpw'.2.2 (k, g) h1 (i, f) (by simp)).1
            omega
          · have ha := ((List.pairwise_cons.1 hpw'.2.1).1 (k, g) h1).2
            rcases ha with ha | ⟨_, p, _, hp, _⟩
            · obtain ⟨o', ho'⟩ := ha.op
              have := (Array.getElem?_eq_some_iff.1 ho').1
              omega
            · have := (Array.getElem?_eq_some_iff.1 hp).1
              simp only at this
              omega
      have mem' : ∀ k, k < ops.size → ((listed.setIfInBounds i true).getD k true = false ↔ ∃ f, (k, f) ∈ l1 ++ l2) := fun k hk => by
        by_cases hki : k = i
        · subst hki
          have : (listed.setIfInBounds k true).getD k true = true := by
            have : k < listed.size := by rw [hls]; exact hk
            simp [this]
          rw [this]
          constructor
          · intro h; cases h
          · rintro ⟨g, hg⟩
            exact absurd rfl (hne k g hg)
        · rw [getD_set_ne true (Ne.symm hki), hmem k hk]
          constructor
          · rintro ⟨g, hg⟩
            refine ⟨g, ?_⟩
            simp only [List.mem_append, List.mem_cons, Prod.mk.injEq] at hg ⊢
            rcases hg with h | ⟨h, _⟩ | h
            · exact .inl h
            · exact absurd h hki
            · exact .inr h
          · rintro ⟨g, hg⟩
            refine ⟨g, ?_⟩
            simp only [List.mem_append, List.mem_cons] at hg ⊢
            rcases hg with h | h
            · exact .inl h
            · exact .inr (.inr h)
      have cl' : ∀ j o, (listed.setIfInBounds i true).getD j false = true → ops[j]? = some o → ∀ e ∈ o.after, Region.binds .any e = true → (listed.setIfInBounds i true).getD e.on false = true := fun j o' hj ho' e he hb => by
        by_cases hji : j = i
        · subst hji
          rw [ho] at ho'
          cases ho'
          exact getD_set_true (hdeps e he hb)
        · rw [getD_set_ne false (Ne.symm hji)] at hj
          exact getD_set_true (hcl j o' hj ho' e he hb)
      have hD' : DOk A.nx ops (l1 ++ l2) := fun i' D KL hm k hk => hD i' D KL (by
        simp only [List.mem_append, List.mem_cons] at hm ⊢
        rcases hm with h | h
        · exact .inl h
        · exact .inr (.inr h)) k hk
      have hfirst := RunQ.first hrun hap
      cases f with
      | call D KL =>
        obtain ⟨o', g, ys, r, hpI, hp1, n1, A1, h1, h2⟩ := hfirst
        have : o' = o := by have := h1.op; rw [ho] at this; exact (Option.some.inj this).symm
        subst this
        obtain ⟨c, f, as, bs, e1, e2, e3, rfl⟩ := callOf_spec h1.callee
        unfold wpOp
        simp only [ho]
        rw [wantedA_sound hR.fr hR.size h1.want]
        simp only [if_true]
        left
        refine call_wp e1 e2 e3 hR.fr (fun vals hv => hidden_call h1.goes h1.okI h1.ok1 h1.oky h1.okr hR.wf hR.hp h1.sub hR.used hv) ?_
        rintro v w ⟨S', rfl, hwf, hext, hhp, hhid, hu, hrep⟩
        obtain ⟨A2, p1, q1, q2, q3, q4, q5, q6⟩ := callOut_spec h1.out
        obtain ⟨s1, s2, s3, s4⟩ := h1.state
        have p2 := (putA_spec p1).2.1
        refine ih (l1 ++ l2) _ A1 A' n1 nc' S' _ (by rw [s2]; have := h1.le; omega) h1.rs (by rw [s2]; exact hD') (by simp at hlen ⊢; omega) (by simp [hls]) mem' cl' (by rw [s2]; exact hpw.sublist (by simp)) h2
          ⟨hwf, by rw [put_size, hR.size, s1], by rw [put_defers]; exact hR.defers, by rw [q4, q2, ← p2]; exact put_fr hR.fr hR.size hext hrep p1, fun k x hk => ?_, fun k hk => ?_⟩ (fun k e hk hus => ?_) fun S'' a'' he' hR'' => hK S'' a'' (hext.trans he') hR''
        · rw [s3] at hk
          by_cases hkk : kIn A.nx ops.size D k = true
          · rw [if_pos hkk] at hk
            exact hhp k x hk
          · rw [if_neg hkk] at hk
            exact hhid k x (by simpa using hkk) hk
        · have h3 := h1.le
          rcases hu k hk with h4 | h4
          · have := hR.used k h4.2; omega
          · exact h4.2
        · rw [s2] at hus
          have hks := hlt' k e hk
          rcases hu _ hus with h4 | h4
          · exact hused k e (by
              rcases List.mem_append.1 hk with h | h
              · simp [h]
              · simp [h]) h4.2
          · -- a key that the call knows is that of an operation which was done
            have h5 := h4.1
            unfold kIn at h5
            simp only [Bool.or_eq_true, Nat.blt_eq, Nat.ble_eq] at h5
            rcases h5 with (h5 | h5) | h5
            · omega
            · omega
            · obtain ⟨j, hj, hanc⟩ := hD i D KL hf _ (mem_any_beq.1 h5)
              have : j = k := by omega
              subst this
              have h6 := hanc.listed (listed := listed) (fun o'' ho'' e' he' hb => by rw [ho] at ho''; cases ho''; exact hdeps e' he' hb) hcl
              rw [hsame _ hks] at h6
              have h7 := (hmem j hks).2 ⟨e, by
                rcases List.mem_append.1 hk with h | h
                · simp [h]
                · simp [h]⟩
              rw [h6] at h7
              cases h7
      | op f =>
        obtain ⟨T, ht, hc, hfp, hrest⟩ := hfirst
        have hTnx := takeOp_frame ht
        refine takeOp_wp (U := fun k => k < nc ∨ rsv ≤ k) hsg ht hc hR (hused i _ hf) fun S' a' he hR' hu => ?_
        refine ih (l1 ++ l2) _ T.A A' nc nc' S' a' (by rw [hTnx]; exact hnc) hrs (by rw [hTnx]; exact hD') (by simp at hlen ⊢; omega) (by simp [hls]) mem' cl' (by rw [hTnx]; exact hpw.sublist (by simp)) hrest
          ⟨hR'.wf, hR'.size, hR'.defers, hR'.fr, hR'.hp, fun k hk => ?_⟩ (fun k g hk hus => ?_) fun S'' a'' he' hR'' => hK S'' a'' (he.trans he') hR''
        · rcases hR'.used k hk with h1 | h1
          · exact h1
          · omega
        · rw [hTnx] at hus
          rcases hu _ hus with h1 | h1
          · exact hused k g (by
              rcases List.mem_append.1 hk with h | h
              · simp [h]
              · simp [h]) h1
          · have := hne k g hk
            omega

/-- each pair of operations: one behind the other, or apart; a call knows only what stands ahead -/
def drawOkQ (N : Nat) (ops : Array Oper) (fs : List EntQ) : Bool :=
  backOk ops.toList 0 &&
  ((List.range ops.size).all fun j => (List.range j).all fun i =>
    ((Region.before ops).getD j 0).testBit i ||
    match ops[i]?, ops[j]?, fs[i]?, fs[j]? with
    | some x, some y, some f, some g => indepQ N ops x y f g
    | _, _, _, _ => false) &&
  (List.range ops.size).all fun i => match fs[i]? with
    | some (.call D _) => D.all fun k => Nat.ble N k && ((Region.before ops).getD i 0).testBit (k - N)
    | _ => true

theorem drawOkQ_pairwise {N : Nat} {ops : Array Oper} {fs : List EntQ} (h : drawOkQ N ops fs = true) (hl : fs.length = ops.size) : (numbered 0 fs).Pairwise (ApartQ N ops) ∧ DOk N ops (numbered 0 fs) := by
  unfold drawOkQ at h
  rw [Bool.and_eq_true, Bool.and_eq_true] at h
  have hp := h.1.2
  refine ⟨(numbered_pairwise fs 0).imp_of_mem fun {x y} hx hy hlt => ⟨hlt, ?_⟩, fun i D KL hm k hk => ?_⟩
  · obtain ⟨i, f⟩ := x
    obtain ⟨j, g⟩ := y
    have hi := (numbered_mem.1 hx).2
    have hj := (numbered_mem.1 hy).2
    simp only [Nat.sub_zero] at hi hj
    have hjlt : j < ops.size := by rw [← hl]; exact (List.getElem?_eq_some_iff.1 hj).1
    have h1 := List.all_eq_true.1 hp j (List.mem_range.2 hjlt)
    have h2 := List.all_eq_true.1 h1 i (List.mem_range.2 hlt)
    rw [Bool.or_eq_true] at h2
    rcases h2 with h2 | h2
    · exact .inl (before_anc ops j i h2)
    · split at h2
      · next o p f' g' e1 e2 e3 e4 =>
        rw [hi] at e3
        rw [hj] at e4
        cases e3
        cases e4
        exact .inr ⟨o, p, e1, e2, h2⟩
      · cases h2
  · have hi := (numbered_mem.1 hm).2
    simp only [Nat.sub_zero] at hi
    have hilt : i < ops.size := by rw [← hl]; exact (List.getElem?_eq_some_iff.1 hi).1
    have h1 := List.all_eq_true.1 h.2 i (List.mem_range.2 hilt)
    simp only [hi] at h1
    have h2 := List.all_eq_true.1 h1 k hk
    rw [Bool.and_eq_true, Nat.ble_eq] at h2
    exact ⟨k - N, by omega, before_anc ops i (k - N) h2.2⟩
end
end Go.Ev

/- Runs with calls within, some conditions left open, hints told in the order of the run. -/
set_option maxRecDepth 20000
namespace Go.Ev
open Go

/-- hints of a region: of its operations; whose conditions are left open; of the calls that are run within -/
inductive JH where
  | r (id : Nat) (hs : List (Nat × Hint)) (acc : List Nat) (calls : List (List JH))
  /-- the next loop is run turn by turn -/
  | u
  /-- the next loop goes as is said; left open -/
  | l (slots keys : List Nat) (nx : Nat) (e : Exit) (A : AS)
  /-- the call goes as is said; left open -/
  | c (r : AV) (hp : Hp) (nx : Nat)

abbrev InlJ := List JH → FuncId → Hp → Nat → List AV → Option (AV × Hp × Nat × List Prop)

def jAt (id : Nat) : List JH → (List (Nat × Hint) × List Nat × List (List JH)) × List JH
  | .r i hs acc calls :: r => match Nat.beq i id with
    | true => ((hs, acc, calls), r)
    | false => (([], [], []), .r i hs acc calls :: r)
  | x => (([], [], []), x)

/-- a call of a function -/
def isVC : Op → Bool
  | .call c => match c.callee with
    | .value _ => true
    | _ => false
  | _ => false
def vcAt (ops : List Oper) (i : Nat) : Bool :=
  match ops[i]? with
  | some o => isVC o.op
  | none => false

section
variable [Globs] {P : Program} {SG : SGT}
theorem opA_noVC {key : Nat} {h : Option Hint} {o : Op} {ev : Operand → AV} {hp : Nat → Option AObj} (hv : isVC o = false) : opA P SG key h o ev hp = opA P [] key h o ev hp := by
  cases o with
  | call c =>
    obtain ⟨callee, args, ts⟩ := c
    cases callee <;> first | rfl | cases hv
  | makeMap t n => cases n <;> rfl
  | _ => rfl
theorem okOp_noVC {h : Option Hint} {o : Op} {ev : Operand → AV} {hp : Nat → Option AObj} (hv : isVC o = false) : okOp P SG h o ev hp = okOp P [] h o ev hp := by
  cases o with
  | call c =>
    obtain ⟨callee, args, ts⟩ := c
    cases callee <;> first | rfl | cases hv
  | _ => rfl
theorem takeOpC_noVC {hs : List (Nat × Hint)} {ops : List Oper} {i : Nat} {A : AS} (hv : vcAt ops i = false) : takeOpC P SG hs ops i A = takeOpC P [] hs ops i A := by
  unfold takeOpC
  unfold vcAt at hv
  cases ho : ops[i]? with
  | none => rfl
  | some o =>
    rw [ho] at hv
    simp only [opA_noVC (SG := SG) hv, okOp_noVC (SG := SG) hv]
theorem takeOp_noVC {hs : List (Nat × Hint)} {ops : List Oper} {i : Nat} {A : AS} (hv : vcAt ops i = false) : takeOp P SG hs ops i A = takeOp P [] hs ops i A := by
  unfold takeOp
  unfold vcAt at hv
  cases ho : ops[i]? with
  | none => rfl
  | some o =>
    rw [ho] at hv
    simp only [opA_noVC (SG := SG) hv]
end

section
variable [Globs] (P : Program) (SG : SGT) (IN : InlJ)

def takeOpJ (hs : List (Nat × Hint)) (acc : List Nat) (ops : List Oper) (i : Nat) (A : AS) : Option Took :=
  match acc.any (Nat.beq i) with
  | true => takeOp P SG hs ops i A
  | false => match vcAt ops i with
    | true => none
    | false => takeOpC P SG hs ops i A

abbrev StepJ := Option (AS × List Prop × List (List JH))

def stepJ (hs : List (Nat × Hint)) (acc : List Nat) (ops : List Oper) (i : Nat) (cs : List (List JH)) (A : AS) : StepJ :=
  match ops[i]? with
  | none => none
  | some o =>
    match wantedA ops A.fr o with
    | none => none
    | some false => match putA A o.dst (.tup []) with
      | some A' => some (A', [], cs)
      | none => none
    | some true => match callOf SG A.fr o with
      | some (g, ys) => match IN (cs.headD []) g A.hp (A.nx + i) ys with
        | some (r, hp, nx, c) => match putA { A with hp := hp, nx := nx } o.dst r with
          | some A' => some (A', c, cs.tail)
          | none => none
        | none => none
      | none => match extraA P (look A.hp) o.op (evalA A.fr) with
        | some r => match putA A o.dst r with
          | some A' => some (A', [], cs)
          | none => none
        | none => match Nat.blt (A.nx + i) rsv, takeOpJ P SG hs acc ops i A with
          | true, some t => some (t.A, t.cond, cs)
          | _, _ => none

def stepsJ (hs : List (Nat × Hint)) (acc : List Nat) (ops : List Oper) : Nat → Nat → List (List JH) → AS → Option (AS × List Prop)
  | 0, _, _, A => some (A, [])
  | n + 1, i, cs, A => match stepJ P SG IN hs acc ops i cs A with
    | none => none
    | some (A1, c, cs') => match stepsJ hs acc ops n (i + 1) cs' A1 with
      | some (A', c') => some (A', c ++ c')
      | none => none

/-- the objects that a call is said to leave -/
def leftBy (hs : List (Nat × Hint)) (i : Nat) : List Nat :=
  match hs with
  | [] => []
  | (j, h) :: r => match Nat.beq j i, h with
    | true, .at k => k :: leftBy r i
    | _, _ => leftBy r i

def leftC (K : List Nat) (hp hp' : Hp) : List Prop :=
  match K with
  | [] => []
  | K => [K.map (look hp') = K.map (look hp)]

/-- the region's own keys that a call is said to know -/
def knownBy (hs : List (Nat × Hint)) (i : Nat) : List Nat :=
  match hs with
  | [] => []
  | (j, h) :: r => match Nat.beq j i, h with
    | true, .nil k => k :: knownBy r i
    | _, _ => knownBy r i

/-- the objects that a call may know -/
def knownHp (K : Nat → Bool) (hp : Hp) : Hp := hid (fun k => !(K k && !((hp.filter fun x => !belowOK K x.2).any fun x => Nat.beq x.1 k))) hp

/-- an operation of a region that draws its order -/
def stepDrJ (hs : List (Nat × Hint)) (acc : List Nat) (ops : List Oper) (sz i : Nat) (cs : List (List JH)) (A : AS) (nc : Nat) : Option (AS × Nat × EntQ × List Prop × List (List JH)) :=
  match (match ops[i]? with
    | none => none
    | some o => match wantedA ops A.fr o with
      | some true => match callOf SG A.fr o with
        | some (g, ys) => some (o, g, ys)
        | none => none
      | _ => none) with
  | some (o, g, ys) => match IN (cs.headD []) g (knownHp (kIn A.nx sz (knownBy hs i)) A.hp) nc ys with
    | some (r, hp, nx, c) => match hpK (kIn A.nx sz (knownBy hs i)) hp && (ys.all (belowAK (kIn A.nx sz (knownBy hs i))) && (belowAK (kIn A.nx sz (knownBy hs i)) r && ((leftBy hs i).all (kIn A.nx sz (knownBy hs i)) && (Nat.ble nc nx && Nat.ble nx rsv)))),
        callOut (kIn A.nx sz (knownBy hs i)) A o.dst r hp with
      | true, some A' => some (A', nx, .call (knownBy hs i) (leftBy hs i), leftC (leftBy hs i) A.hp hp ++ c, cs.tail)
      | _, _ => none
    | none => none
  | none => match takeOpJ P SG hs acc ops i A with
    | some t => some (t.A, nc, .op (t.need, t.ups), t.cond, cs)
    | none => none

def stepsDrJ (hs : List (Nat × Hint)) (acc : List Nat) (ops : List Oper) (sz : Nat) : Nat → Nat → List (List JH) → AS → Nat → Option (AS × Nat × List EntQ × List Prop)
  | 0, _, _, A, nc => some (A, nc, [], [])
  | n + 1, i, cs, A, nc => match stepDrJ P SG IN hs acc ops sz i cs A nc with
    | none => none
    | some (A1, n1, f, c, cs') => match stepsDrJ hs acc ops sz n (i + 1) cs' A1 n1 with
      | some (A', n', fs, c') => some (A', n', f :: fs, c ++ c')
      | none => none

abbrev ResJ := Option (Exit × AS × List Prop × List JH)

def iterJ (f : List JH → AS → ResJ) : Nat → List JH → AS → ResJ
  | 0, _, _ => none
  | n + 1, hs, A => match f hs A with
    | some (.normal, A1, c, hs') => match iterJ f n hs' A1 with
      | some (e, A', c', hs'') => some (e, A', c ++ c', hs'')
      | none => none
    | r => r

def evJ (fuel : Nat) : Code → List JH → AS → ResJ
  | .skip, hs, A => some (.normal, A, [], hs)
  | .region id ops draw, hs, A =>
    match draw with
    | false => match stepsJ P SG IN (jAt id hs).1.1 (jAt id hs).1.2.1 ops.toList ops.size 0 (jAt id hs).1.2.2 A with
      | none => none
      | some (A', c) => some (.normal, { A' with nx := A'.nx + ops.size }, c, (jAt id hs).2)
    | true => match stepsDrJ P SG IN (jAt id hs).1.1 (jAt id hs).1.2.1 ops.toList ops.size ops.size 0 (jAt id hs).1.2.2 A (A.nx + ops.size) with
      | none => none
      | some (A', n', fs, c) => match drawOkQ A.nx ops fs && Nat.ble (A.nx + ops.size) rsv with
        | true => some (.normal, { A' with nx := n' }, c, (jAt id hs).2)
        | false => none
  | .seq a b, hs, A => match evJ fuel a hs A with
    | some (.normal, A', c, hs') => match evJ fuel b hs' A' with
      | some (e, A'', c', hs'') => some (e, A'', c ++ c', hs'')
      | none => none
    | r => r
  | .cond x a b, hs, A => match evalA A.fr x with
    | .v (.bool true) => evJ fuel a hs A
    | .v (.bool false) => evJ fuel b hs A
    | _ => none
  | .block id a, hs, A => match evJ fuel a hs A with
    | some (.exit i, A', c, hs') => match Nat.beq i id with
      | true => some (.normal, A', c, hs')
      | false => some (.exit i, A', c, hs')
    | r => r
  | .loop a, hs, A => match hs with
    | .l slots keys nx e A' :: hs' => match weaken A slots keys nx, Nat.ble A.nx nx with
      | some A0, true => some (e, A', [LoopToX P a A0 e A'], hs')
      | _, _ => none
    | .u :: hs' => iterJ (fun hs A => evJ fuel a hs A) fuel hs' A
    | hs => iterJ (fun hs A => evJ fuel a hs A) fuel hs A
  | .exit id, hs, A => some (.exit id, A, [], hs)
  | .ret, hs, A => some (.ret, A, [], hs)
  | _, _, _ => none

def fnJ (fuel : Nat) (hs : List JH) (fn : Func) (hp : Hp) (nx : Nat) (ys : List AV) : Option (AV × Hp × Nat × List Prop) :=
  match fn.body with
  | none => none
  | some code => match evJ P SG IN fuel code hs (startI fn hp nx ys) with
    | some (e, A, c, _) => match endR e, resIs P A fn.results.toList with
      | true, some rs => some (packA rs, A.hp, A.nx, c)
      | _, _ => none
    | none => none
end

/-- calls within calls, so many deep -/
def inlJ [Globs] (P : Program) (SG : SGT) (fuel : Nat) : Nat → InlJ
  | 0 => fun _ _ _ _ _ => none
  | d + 1 => fun hs g hp nx ys => match hs with
    | [.c r hp' nx'] => some (r, hp', nx', [InTo P g hp nx ys r hp' nx'])
    | hs => match P.funcs[g]? with
      | none => none
      | some fn => fnJ P SG (inlJ P SG fuel d) fuel hs fn hp nx ys

section
variable [Globs] {P : Program} {SG : SGT} {IN : InlJ}

def InlOKJ (P : Program) (IN : InlJ) : Prop := ∀ hs g hp nx ys r hp' nx' c, IN hs g hp nx ys = some (r, hp', nx', c) → AllP c → InTo P g hp nx ys r hp' nx'

theorem takeOpJ_ok {hs : List (Nat × Hint)} {acc : List Nat} {ops : List Oper} {i : Nat} {A : AS} {t : Took} (h : takeOpJ P SG hs acc ops i A = some t) (hc : AllP t.cond) :
    ∃ c, takeOp P SG hs ops i A = some ⟨t.A, c, t.need, t.ups⟩ ∧ AllP c := by
  unfold takeOpJ at h
  split at h
  · exact ⟨t.cond, h, hc⟩
  · split at h
    · cases h
    · next hv =>
      rw [takeOpC_noVC hv] at h
      rw [takeOp_noVC hv]
      exact takeOpC_ok quiet_nil h

/-- one operation -/
theorem stepJ_wp {hs : List (Nat × Hint)} {acc : List Nat} {ops : Array Oper} {i : Nat} {cs cs' : List (List JH)} {A A' : AS} {c0 : List Prop} {S : St} {a : Act} {Q : Exit → Act → World → Prop} {K : Act → World → Prop} (hsg : SigsOK P SG) (hin : InlOKJ P IN) (h : stepJ P SG IN hs acc ops.toList i cs A = some (A', c0, cs')) (hc0 : AllP c0)
    (hR : RelU (fun k => k < A.nx + i ∨ rsv ≤ k) S A a) (hK : ∀ S' a', Ext S S' → RelU (fun k => k < A'.nx + (i + 1) ∨ rsv ≤ k) S' A' a' → K a' S'.w) : wpOp P ops Q i K a S.w := by
  unfold stepJ at h
  split at h
  · cases h
  · next o ho =>
    have ho' := ho
    rw [Array.getElem?_toList] at ho
    split at h
    · cases h
    · next hw =>
      unfold wpOp
      simp only [ho]
      rw [wantedA_sound hR.fr hR.size hw]
      simp only [Bool.false_eq_true, if_false]
      split at h
      · next A1 hput =>
        cases h
        obtain ⟨h1, h2, h3, h4, h5⟩ := putA_spec hput
        exact hK S _ (Ext.refl S) ⟨hR.wf, by rw [put_size, hR.size, h2], by rw [put_defers]; exact hR.defers, put_fr hR.fr hR.size (Ext.refl S) rep_undef hput, by rw [h4]; exact hR.hp, fun k hk => by have := hR.used k hk; rw [h3]; omega⟩
      · cases h
    · next hw =>
      split at h
      · next g ys hcall =>
        split at h
        · next r hp nx c1 hin' =>
          split at h
          · next A1 hput =>
            cases h
            obtain ⟨c, f, as, bs, e1, e2, e3, rfl⟩ := callOf_spec hcall
            unfold wpOp
            simp only [ho]
            rw [wantedA_sound hR.fr hR.size hw]
            simp only [if_true]
            left
            refine call_wp (R := fun v w' => ∃ S', S'.w = w' ∧ S'.wf ∧ Ext S S' ∧ HeapOK S' hp ∧ (∀ k, S'.used k → k < nx ∨ rsv ≤ k) ∧ Rep S' v r) e1 e2 e3 hR.fr (fun vals hv => hin _ _ _ _ _ _ _ _ _ hin' hc0 S vals hR.wf hR.hp hR.used hv) ?_
            rintro v w ⟨S', rfl, hwf, hext, hhp, hu, hrep⟩
            obtain ⟨h1, h2, h3, h4, h5⟩ := putA_spec hput
            refine hK S' _ hext ⟨hwf, by rw [put_size, hR.size, h2], by rw [put_defers]; exact hR.defers, put_fr (A := { A with hp := hp, nx := nx }) hR.fr hR.size hext hrep hput, by rw [h4]; exact hhp, fun k hk => ?_⟩
            have := hu k hk
            rw [h3]
            show k < nx + (i + 1) ∨ _
            omega
          · cases h
        · cases h
      · split at h
        · next r hx =>
          split at h
          case h_2 => cases h
          next A1 hput =>
          cases h
          unfold wpOp
          simp only [ho]
          rw [wantedA_sound hR.fr hR.size hw]
          simp only [if_true]
          left
          obtain ⟨v, S', g1, g2, g3, g4, g5, g6⟩ := extraA_out (o := o) hR.wf hR.hp hR.fr hx
          unfold Oper.wp
          rw [g1]
          obtain ⟨h1, h2, h3, h4, h5⟩ := putA_spec hput
          refine hK S' _ g3 ⟨g2, by rw [put_size, hR.size, h2], by rw [put_defers]; exact hR.defers, put_fr hR.fr hR.size g3 g6 hput, by rw [h4]; exact g4, fun k hk => ?_⟩
          have := hR.used k (g5 k hk)
          rw [h3]
          omega
        · split at h
          case h_2 => cases h
          next t hlt ht =>
          cases h
          obtain ⟨c, h1, hc⟩ := takeOpJ_ok ht hc0
          have hn := takeOp_frame h1
          simp only [Nat.blt_eq] at hlt
          refine takeOp_wp hsg h1 hc hR (fun hu => absurd (hR.used _ hu) (by omega)) fun S' a' he hR' _ => hK S' a' he ⟨hR'.wf, hR'.size, hR'.defers, hR'.fr, hR'.hp, fun k hk => ?_⟩
          have := hR'.used k hk
          simp only at hn
          rw [hn]
          omega

theorem stepsJ_wp {hs : List (Nat × Hint)} {acc : List Nat} {ops : Array Oper} {Q : Exit → Act → World → Prop} (hsg : SigsOK P SG) (hin : InlOKJ P IN) : ∀ (n i : Nat) (cs : List (List JH)) (A A' : AS) (c : List Prop) (S : St) (a : Act), stepsJ P SG IN hs acc ops.toList n i cs A = some (A', c) → AllP c →
    RelU (fun k => k < A.nx + i ∨ rsv ≤ k) S A a → (∀ S' a', Ext S S' → RelU (fun k => k < A'.nx + (i + n) ∨ rsv ≤ k) S' A' a' → Q .normal a' S'.w) → wpOps P ops Q (List.range' i n) a S.w := by
  intro n
  induction n with
  | zero =>
    intro i cs A A' c S a h hc hR hK
    simp only [stepsJ, Option.some.injEq, Prod.mk.injEq] at h
    obtain ⟨rfl, rfl⟩ := h
    exact hK S a (Ext.refl S) hR
  | succ n ih =>
    intro i cs A A' c S a h hc hR hK
    simp only [stepsJ] at h
    split at h
    · cases h
    · next A1 c1 cs' h1 =>
      split at h
      · next A2 c2 h2 =>
        cases h
        have hc := allP_append hc
        rw [List.range'_succ, wpOps_cons]
        refine stepJ_wp hsg hin h1 hc.1 hR fun S' a' he hR' => ih (i + 1) cs' A1 _ _ S' a' h2 hc.2 hR' fun S'' a'' he' hR'' => hK S'' a'' (he.trans he') ?_
        have e : i + 1 + n = i + (n + 1) := by omega
        rw [← e]
        exact hR''
      · cases h

theorem knownHp_sub {K : Nat → Bool} {hp : Hp} : ∀ k o, look (knownHp K hp) k = some o → look hp k = some o := fun k o h => by
  unfold knownHp at h
  rw [look_hid] at h
  split at h
  · cases h
  · exact h

theorem knownHp_ok {K : Nat → Bool} {hp : Hp} : hpK K (knownHp K hp) = true := by
  refine List.all_eq_true.2 fun x hx => ?_
  unfold knownHp hid at hx
  obtain ⟨h1, h2⟩ := List.mem_filter.1 hx
  simp only [Bool.not_not, Bool.and_eq_true, Bool.not_eq_true'] at h2
  obtain ⟨h3, h4⟩ := h2
  rw [h3, Bool.true_and]
  cases hb : belowOK K x.2 with
  | true => rfl
  | false =>
    exfalso
    have := List.any_eq_false.1 h4 x (List.mem_filter.2 ⟨h1, by rw [hb]; rfl⟩)
    exact this (Nat.beq_refl _)

theorem stepDrJ_run (hin : InlOKJ P IN) {hs : List (Nat × Hint)} {acc : List Nat} {ops : Array Oper} {i : Nat} {cs cs' : List (List JH)} {A A1 : AS} {nc n1 : Nat} {f : EntQ} {c0 : List Prop} (h : stepDrJ P SG IN hs acc ops.toList ops.size i cs A nc = some (A1, n1, f, c0, cs')) (hc0 : AllP c0) {l : List (Nat × EntQ)} {A' : AS} {m : Nat} (hl : RunQ P SG hs ops l A1 n1 A' m) :
    RunQ P SG hs ops ((i, f) :: l) A nc A' m := by
  unfold stepDrJ at h
  split at h
  · next o g ys hsel =>
    split at hsel
    · cases hsel
    · next o' ho =>
      split at hsel
      · next hw =>
        split at hsel
        · next hcall =>
          cases hsel
          split at h
          · next r hp nx c1 hin' =>
            split at h
            · next A2 hb hput =>
              cases h
              simp only [Bool.and_eq_true, Nat.ble_eq] at hb
              obtain ⟨b1, b2, b3, b4, b5, b6⟩ := hb
              rw [Array.getElem?_toList] at ho
              have hc := allP_append hc0
              refine ⟨o, g, ys, r, _, hp, n1, A1, ⟨ho, hw, hcall, hput, hin _ _ _ _ _ _ _ _ _ hin' hc.2, ?_, knownHp_ok, b1, b2, b3, fun k hk => ⟨List.all_eq_true.1 b4 k hk, ?_⟩, b5, b6⟩, hl⟩
              · exact knownHp_sub
              · have h0 := hc.1
                unfold leftC at h0
                split at h0
                · next he => rw [he] at hk; cases hk
                · exact List.map_inj_left.1 h0.1 k hk
            · cases h
          · cases h
        · cases hsel
      · cases hsel
  · split at h
    · next t ht =>
      cases h
      obtain ⟨c, h1, hc⟩ := takeOpJ_ok ht hc0
      exact ⟨_, h1, hc, rfl, hl⟩
    · cases h

theorem stepsDrJ_run (hin : InlOKJ P IN) {hs : List (Nat × Hint)} {acc : List Nat} {ops : Array Oper} : ∀ {n i : Nat} {cs : List (List JH)} {A A' : AS} {nc nc' : Nat} {fs : List EntQ} {c : List Prop}, stepsDrJ P SG IN hs acc ops.toList ops.size n i cs A nc = some (A', nc', fs, c) → AllP c → fs.length = n ∧ RunQ P SG hs ops (numbered i fs) A nc A' nc'
  | 0, i, cs, A, A', nc, nc', fs, c, h, _ => by simp only [stepsDrJ, Option.some.injEq, Prod.mk.injEq] at h; obtain ⟨rfl, rfl, rfl, rfl⟩ := h; exact ⟨rfl, Like.refl _, rfl⟩
  | n + 1, i, cs, A, A', nc, nc', fs, c, h, hc => by
    simp only [stepsDrJ] at h
    split at h
    · cases h
    · next A1 n1 f c1 cs' h1 =>
      split at h
      · next A2 n2 fs' c2 h2 =>
        simp only [Option.some.injEq, Prod.mk.injEq] at h
        obtain ⟨rfl, rfl, rfl, rfl⟩ := h
        have hc := allP_append hc
        obtain ⟨k1, k2⟩ := stepsDrJ_run hin h2 hc.2
        exact ⟨by simp [k1], stepDrJ_run hin h1 hc.1 k2⟩
      · cases h

theorem iterJ_wp {c : Code} {f : List JH → AS → ResJ} (hf : ∀ hs A e A' cs hs', f hs A = some (e, A', cs, hs') → AllP cs → ToX P c A e A') : ∀ (n : Nat) (hs : List JH) (A : AS) (e : Exit) (A' : AS) (cs : List Prop) (hs' : List JH), iterJ f n hs A = some (e, A', cs, hs') → AllP cs →
    ∃ m, ∀ S a, Rel S A a → Code.rounds P c (fun e1 a1 w1 => e1 = e ∧ ∃ S', S'.w = w1 ∧ Ext S S' ∧ Rel S' A' a1) m a S.w
  | 0, hs, A, e, A', cs, hs', h, _ => by unfold iterJ at h; cases h
  | n + 1, hs, A, e, A', cs, hs', h, hc => by
    unfold iterJ at h
    split at h
    · next A1 c1 hs1 h1 =>
      split at h
      · next e2 A2 c2 hs2 h2 =>
        cases h
        have hc := allP_append hc
        obtain ⟨m, hm⟩ := iterJ_wp hf n hs1 A1 _ _ _ _ h2 hc.2
        refine ⟨m + 1, fun S a hR => wp_mono (hf _ _ _ _ _ _ h1 hc.1 S a hR) fun e1 a1 w1 hg => ?_⟩
        obtain ⟨rfl, S', rfl, hk, hR'⟩ := hg
        exact rounds_mono (fun e2 a2 w2 ⟨he, S'', hS, hk', hR''⟩ => ⟨he, S'', hS, hk.trans hk', hR''⟩) m a1 _ (hm S' a1 hR')
      · cases h
    · next hne =>
      refine ⟨1, fun S a hR => wp_mono (hf _ _ _ _ _ _ h hc S a hR) fun e1 a1 w1 hg => ?_⟩
      obtain ⟨rfl, hg⟩ := hg
      cases e1 with
      | normal => exact (hne _ _ _ h).elim
      | _ => exact ⟨rfl, hg⟩

/-- A RUN WITH ITS CALLS WITHIN, SOME CONDITIONS LEFT OPEN, IS RIGHT. -/
theorem evJ_to (hm : P.follows .mixedOrders = true) (hsg : SigsOK P SG) (hin : InlOKJ P IN) {fuel : Nat} (code : Code) : ∀ (hs : List JH) (A : AS) (e : Exit) (A' : AS) (c : List Prop) (hs' : List JH),
    evJ P SG IN fuel code hs A = some (e, A', c, hs') → AllP c → ToX P code A e A' := by
  induction code with
  | skip =>
    intro hs A e A' c hs' h hc
    simp only [evJ, Option.some.injEq, Prod.mk.injEq] at h
    obtain ⟨rfl, rfl, rfl, rfl⟩ := h
    exact fun S a hR => wp_skip ⟨rfl, S, rfl, Ext.refl S, hR⟩
  | region id ops draw =>
    intro hs A e A' c hs' h hc
    simp only [evJ] at h
    cases draw with
    | false =>
      simp only at h
      split at h
      · cases h
      · next A1 c1 ht =>
        simp only [Option.some.injEq, Prod.mk.injEq] at h
        obtain ⟨rfl, rfl, rfl, rfl⟩ := h
        intro S a hR
        refine wp_region ?_
        rw [List.range_eq_range']
        refine stepsJ_wp hsg hin ops.size 0 _ A A1 _ S a ht hc ⟨hR.wf, hR.size, hR.defers, hR.fr, hR.hp, hR.used⟩ fun S' a' he hR' => ⟨rfl, S', rfl, he, ⟨hR'.wf, hR'.size, hR'.defers, hR'.fr, hR'.hp, fun k hk => ?_⟩⟩
        have := hR'.used k hk
        show k < A1.nx + ops.size ∨ _
        omega
    | true =>
      simp only at h
      split at h
      · cases h
      · next A1 n1 fs c1 ht =>
        split at h
        · next hd =>
          simp only [Option.some.injEq, Prod.mk.injEq] at h
          obtain ⟨rfl, rfl, rfl, rfl⟩ := h
          rw [Bool.and_eq_true, Nat.ble_eq] at hd
          obtain ⟨hlen, hrun⟩ := stepsDrJ_run hin ht hc
          obtain ⟨hpw, hD⟩ := drawOkQ_pairwise hd.1 hlen
          intro S a hR
          have hback : backOk ops.toList 0 = true := by
            have := hd.1
            unfold drawOkQ at this
            rw [Bool.and_eq_true, Bool.and_eq_true] at this
            exact this.1.1
          have hg := drew_grows S.w
          refine wp_region_any hm ?_
          show wpAny P .any ops _ ops.size (Array.replicate ops.size false) a (S.at S.w.drew).w
          refine any_wpQ hsg hback ops.size (numbered 0 fs) _ A A1 (A.nx + ops.size) n1 (S.at S.w.drew) a (Nat.le_refl _) hd.2 hD (by rw [numbered_length, hlen]) (by simp) (fun i hi => ?_) (fun j o hj => ?_) hpw hrun
            ⟨wf_at hg hR.wf, hR.size, hR.defers, hR.fr.ext (ext_at hg hR.wf), heap_at hg hR.wf hR.hp, fun k hk => by have := hR.used k hk; omega⟩ (fun i f hf hu => ?_) fun S' a' he hR' => ⟨rfl, S', rfl, (ext_at hg hR.wf).trans he, ⟨hR'.wf, hR'.size, hR'.defers, hR'.fr, hR'.hp, hR'.used⟩⟩
          · have : (Array.replicate ops.size false).getD i true = false := by simp [hi]
            rw [this]
            constructor
            · intro _
              refine ⟨fs[i]'(by rw [hlen]; exact hi), numbered_mem.2 ⟨Nat.zero_le _, ?_⟩⟩
              simp
            · intro _; rfl
          · exfalso
            by_cases hjs : j < ops.size
            · simp [hjs] at hj
            · simp [hjs] at hj
          · have h1 := hR.used _ hu
            have h2 := (numbered_mem.1 hf).2
            have h3 : i < ops.size := by
              rcases Nat.lt_or_ge i fs.length with h | h
              · omega
              · rw [List.getElem?_eq_none (by omega)] at h2; cases h2
            omega
        · cases h
  | seq x y ihx ihy =>
    intro hs A e A' c hs' h hc
    simp only [evJ] at h
    split at h
    · next A1 c1 hs1 h1 =>
      split at h
      · next e2 A2 c2 hs2 h2 =>
        cases h
        have hc := allP_append hc
        have t1 := ihx _ _ _ _ _ _ h1 hc.1
        have t2 := ihy _ _ _ _ _ _ h2 hc.2
        refine fun S a hR => wp_seq (wp_mono (t1 S a hR) fun e1 a1 w1 hg => ?_)
        obtain ⟨rfl, S', rfl, hk, hR'⟩ := hg
        exact wp_mono (t2 S' a1 hR') fun e2 a2 w2 ⟨he, S'', hS, hk', hR''⟩ => ⟨he, S'', hS, hk.trans hk', hR''⟩
      · cases h
    · next hne =>
      have t1 := ihx _ _ _ _ _ _ h hc
      refine fun S a hR => wp_seq (wp_mono (t1 S a hR) fun e1 a1 w1 hg => ?_)
      obtain ⟨rfl, hg⟩ := hg
      cases e1 with
      | normal => exact (hne _ _ _ h).elim
      | _ => exact ⟨rfl, hg⟩
  | cond x p q ihp ihq =>
    intro hs A e A' c hs' h hc
    simp only [evJ] at h
    split at h
    · next hv =>
      intro S a hR
      have hr := rep_eval hR.fr x
      rw [hv] at hr
      exact wp_cond_true (rep_v hr).1 (ihp _ _ _ _ _ _ h hc S a hR)
    · next hv =>
      intro S a hR
      have hr := rep_eval hR.fr x
      rw [hv] at hr
      exact wp_cond_false (rep_v hr).1 (ihq _ _ _ _ _ _ h hc S a hR)
    · cases h
  | block id x ih =>
    intro hs A e A' c hs' h hc
    simp only [evJ] at h
    split at h
    · next i A1 c1 hs1 h1 =>
      have t1 := fun hc => ih _ _ _ _ _ _ h1 hc
      split at h
      · next hb =>
        simp only [Option.some.injEq, Prod.mk.injEq] at h
        obtain ⟨rfl, rfl, rfl, rfl⟩ := h
        have hi := Nat.eq_of_beq_eq_true hb
        refine fun S a hR => wp_block (wp_mono (t1 hc S a hR) fun e1 a1 w1 hg => ?_)
        obtain ⟨rfl, hg⟩ := hg
        show if i = id then _ else _
        rw [if_pos hi]
        exact ⟨rfl, hg⟩
      · next hb =>
        simp only [Option.some.injEq, Prod.mk.injEq] at h
        obtain ⟨rfl, rfl, rfl, rfl⟩ := h
        have hi : i ≠ id := fun e => by subst e; rw [Nat.beq_refl] at hb; cases hb
        refine fun S a hR => wp_block (wp_mono (t1 hc S a hR) fun e1 a1 w1 hg => ?_)
        obtain ⟨rfl, hg⟩ := hg
        show if i = id then _ else _
        rw [if_neg hi]
        exact ⟨rfl, hg⟩
    · next hne =>
      have t1 := ih _ _ _ _ _ _ h hc
      refine fun S a hR => wp_block (wp_mono (t1 S a hR) fun e1 a1 w1 hg => ?_)
      obtain ⟨rfl, hg⟩ := hg
      cases e1 with
      | exit i => exact (hne _ _ _ _ h).elim
      | _ => exact ⟨rfl, hg⟩
  | loop x ih =>
    intro hs A e A' c hs' h hc
    simp only [evJ] at h
    split at h
    · split at h
      · next A0 hw hb =>
        simp only [Option.some.injEq, Prod.mk.injEq] at h
        obtain ⟨rfl, rfl, rfl, rfl⟩ := h
        exact (hc.1.pre hw (Nat.le_of_ble_eq_true hb)).loop
      · cases h
    all_goals
      obtain ⟨m, hm'⟩ := iterJ_wp (fun hs A e A' cs hs' => ih hs A e A' cs hs') fuel _ A e A' c hs' h hc
      exact fun S a hR => wp_loop_rounds m (hm' S a hR)
  | exit id =>
    intro hs A e A' c hs' h hc
    simp only [evJ, Option.some.injEq, Prod.mk.injEq] at h
    obtain ⟨rfl, rfl, rfl, rfl⟩ := h
    exact fun S a hR => wp_exit ⟨rfl, S, rfl, Ext.refl S, hR⟩
  | ret =>
    intro hs A e A' c hs' h hc
    simp only [evJ, Option.some.injEq, Prod.mk.injEq] at h
    obtain ⟨rfl, rfl, rfl, rfl⟩ := h
    exact fun S a hR => wp_ret ⟨rfl, S, rfl, Ext.refl S, hR⟩
  | _ => intro hs A e A' c hs' h hc; simp only [evJ, reduceCtorEq] at h

/-- a function whose code goes as is said, within the caller's heap -/
theorem fn_in {g : FuncId} {fn : Func} {code : Code} {hp : Hp} {nx : Nat} {ys : List AV} {e : Exit} {A : AS} {rs : List AV} (hf : P.funcs[g]? = some fn) (hn : (fn.name == "runtime.NumGoroutine") = false) (hb : fn.body = some code)
    (ht : ToX P code (startI fn hp nx ys) e A) (he : endR e = true) (h2 : resIs P A fn.results.toList = some rs) : InTo P g hp nx ys (packA rs) A.hp A.nx := by
  intro S vals hwf hh hu hr
  have hrun : (callFunc g vals.toArray).run P S.w = .ok (.enter g vals.toArray) S.w := by
    have hn' : fn.name ≠ "runtime.NumGoroutine" := by simpa using hn
    simp [callFunc, hf, hn', hb]
  unfold CalledTo
  rw [hrun]
  refine ⟨rfl, calls_of_wp hf hb ?_⟩
  refine wp_mono (ht S _ (startI_rel (fn := fn) hwf hh hu hr)) fun e1 a1 w1 hg => ?_
  obtain ⟨rfl, S', rfl, hk, hR⟩ := hg
  obtain ⟨vs, h3, h4⟩ := resIs_rep hR h2
  have hres := results_reads (P := P) (fn := fn) (tmps := a1.tmps) (w := S'.w) h3
  have hfin : ∃ S'', S''.w = S'.w ∧ S''.wf ∧ Ext S S'' ∧ HeapOK S'' A.hp ∧ (∀ k, S''.used k → k < A.nx ∨ rsv ≤ k) ∧ Rep S'' (packed vs) (packA rs) := ⟨S', rfl, hR.wf, hk, hR.hp, hR.used, packA_rep h4⟩
  cases e1 with
  | ret => exact ⟨hR.defers, _, hres, _, rfl, hfin⟩
  | normal => exact ⟨hR.defers, _, hres, _, rfl, hfin⟩
  | _ => cases he

theorem inlJ_ok (hm : P.follows .mixedOrders = true) (hng : noGo P = true) (hsg : SigsOK P SG) {fuel : Nat} : ∀ d, InlOKJ P (inlJ P SG fuel d)
  | 0 => fun hs g hp nx ys r hp' nx' c h _ => by simp only [inlJ, reduceCtorEq] at h
  | d + 1 => fun hs g hp nx ys r hp' nx' c h hc => by
    simp only [inlJ] at h
    split at h
    · cases h; exact hc.1
    split at h
    · cases h
    · next fn hf =>
      unfold fnJ at h
      split at h
      · cases h
      · next code hb =>
        split at h
        · next e A c1 hs1 h1 =>
          split at h
          · next rs he h2 =>
            cases h
            refine fn_in hf ?_ hb (evJ_to hm hsg (inlJ_ok hm hng hsg d) code _ _ _ _ _ _ h1 hc) he h2
            unfold noGo at hng
            obtain ⟨hlt, he⟩ := Array.getElem?_eq_some_iff.1 hf
            have := Array.all_eq_true.1 hng g hlt
            rw [he] at this
            simpa using this
          · cases h
        · cases h

/-- what a run comes to, without its objects -/
def runR (x : Option (AV × Hp × Nat × List Prop)) : Option (AV × List Prop) :=
  match x with
  | some (r, _, _, c) => some (r, c)
  | none => none
theorem runR_pure {IN : InlJ} (hin : InlOKJ P IN) {hs : List JH} {g : FuncId} {ys : List AV} {r : AV} {c : List Prop} (h : runR (IN hs g [] 0 ys) = some (r, c)) (hc : AllP c) (hk : plainA r = true) : PureTo P g ys r := by
  unfold runR at h
  split at h
  · next r' hp nx c' h' =>
    cases h
    exact (hin _ _ _ _ _ _ _ _ _ h' hc).pure hk
  · cases h

/-- a piece of code, and what is forgotten behind it -/
def evJW (P : Program) (SG : SGT) (IN : InlJ) (fuel : Nat) (code : Code) (hs : List JH) (A : AS) (slots keys : List Nat) (nx : Nat) : Option (Exit × AS × List Prop) :=
  match evJ P SG IN fuel code hs A with
  | some (e, A', c, _) => match weaken A' slots keys nx, Nat.ble A.nx nx with
    | some A'', true => some (e, A'', c)
    | _, _ => none
  | none => none

theorem evJW_to (hm : P.follows .mixedOrders = true) (hsg : SigsOK P SG) (hin : InlOKJ P IN) {fuel : Nat} {code : Code} {hs : List JH} {A A' : AS} {e : Exit} {c : List Prop} {slots keys : List Nat} {nx : Nat}
    (h : evJW P SG IN fuel code hs A slots keys nx = some (e, A', c)) (hc : AllP c) : ToX P code A e A' := by
  unfold evJW at h
  split at h
  · next e1 A1 c1 hs1 h1 =>
    split at h
    · next A2 hw hb =>
      simp only [Option.some.injEq, Prod.mk.injEq] at h
      obtain ⟨rfl, rfl, rfl⟩ := h
      exact (evJ_to hm hsg hin code _ _ _ _ _ _ h1 hc).weaken hw (Nat.le_of_ble_eq_true hb)
    · cases h
  · cases h

/-- contracts of calls within ahead of others -/
def orJ (IN1 IN2 : InlJ) : InlJ := fun hs g hp nx ys => match IN1 hs g hp nx ys with
  | some x => some x
  | none => IN2 hs g hp nx ys
theorem orJ_ok {IN1 IN2 : InlJ} (h1 : InlOKJ P IN1) (h2 : InlOKJ P IN2) : InlOKJ P (orJ IN1 IN2) := by
  intro hs g hp nx ys r hp' nx' c h hc
  unfold orJ at h
  split at h
  · next x hx => cases h; exact h1 _ _ _ _ _ _ _ _ _ hx hc
  · exact h2 _ _ _ _ _ _ _ _ _ h hc

/-- fewer objects may be told of, and a later number -/
theorem InTo.less {g : FuncId} {hp hp' hp2 : Hp} {nx nx' nx2 : Nat} {ys : List AV} {r : AV} (h : InTo P g hp nx ys r hp' nx') (hs : ∀ k o, look hp2 k = some o → look hp' k = some o) (hn : nx' ≤ nx2) : InTo P g hp nx ys r hp2 nx2 := by
  intro S vals hwf hh hu hr
  have h0 := h S vals hwf hh hu hr
  have key : ∀ v w', (∃ S', S'.w = w' ∧ S'.wf ∧ Ext S S' ∧ HeapOK S' hp' ∧ (∀ k, S'.used k → k < nx' ∨ rsv ≤ k) ∧ Rep S' v r) → ∃ S', S'.w = w' ∧ S'.wf ∧ Ext S S' ∧ HeapOK S' hp2 ∧ (∀ k, S'.used k → k < nx2 ∨ rsv ≤ k) ∧ Rep S' v r := by
    rintro v w' ⟨S', h1, h2, h3, h4, h5, h6⟩
    exact ⟨S', h1, h2, h3, fun k o hk => h4 k o (hs k o hk), fun k hk => by have := h5 k hk; omega, h6⟩
  unfold CalledTo at h0 ⊢
  revert h0
  cases (callFunc g vals.toArray).run P S.w with
  | halt x w' => exact fun h => h
  | ok n w' =>
    cases n with
    | value v => exact fun h => key v w' h
    | enter f args => exact fun h => ⟨h.1, h.2.mono fun e w'' ⟨v, he, hv⟩ => ⟨v, he, key v w'' hv⟩⟩
    | _ => exact fun h => h
end
end Go.Ev
