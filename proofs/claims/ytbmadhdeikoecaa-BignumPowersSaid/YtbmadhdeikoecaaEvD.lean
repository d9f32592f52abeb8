/- Operations on numbers, texts and truths come to what the model's come to. -/
import Derived.Test.YtbmadhdeikoecaaEvC
namespace Go.Ev

theorem wrap_inR {k : IntKind} {n : Int} (h : inR k n) : k.wrap n = n := by
  cases k <;> simp only [inR] at h <;> simp only [IntKind.wrap, IntKind.bits, IntKind.signed] <;> simp <;> omega

theorem arith_val (h : Option Hint) (k : IntKind) (n : Int) (hc : AllP (arith h k n).cond) : (arith h k n).val = .v (.int k (k.wrap n)) ∧ (arith h k n).upd = [] := by
  unfold arith at *
  split
  · exact ⟨rfl, rfl⟩
  · next hh =>
    have : inR k n := by
      cases h with
      | none => exact hc.1
      | some x => cases x <;> first | exact hc.1 | exact absurd rfl (hh)
    rw [wrap_inR this]
    exact ⟨rfl, rfl⟩

theorem kindEq_eq {a b : IntKind} (h : kindEq a b = true) : a = b := by
  cases a <;> cases b <;> first | rfl | cases h

section
variable {P : Program}

theorem intOp_run {h : Option Hint} {op : BinOp} {k : IntKind} {x y : Int} {r : R} (hr : intOp h op k x y = some r) (hc : AllP r.cond) (t : TypeId) (w : World) :
    ∃ v, r.val = .v v ∧ okV v ∧ r.upd = [] ∧ (binOp op t (.int k x) (.int k y)).run P w = .ok v w := by
  cases op <;> simp only [intOp, vR, Option.some.injEq, reduceCtorEq] at hr <;> subst hr
  case add => exact ⟨_, (arith_val h k _ hc).1, trivial, (arith_val h k _ hc).2, by simp [binOp, Op.intArith]⟩
  case sub => exact ⟨_, (arith_val h k _ hc).1, trivial, (arith_val h k _ hc).2, by simp [binOp, Op.intArith]⟩
  case mul => exact ⟨_, (arith_val h k _ hc).1, trivial, (arith_val h k _ hc).2, by simp [binOp, Op.intArith]⟩
  case quo =>
    obtain ⟨hy, hc⟩ := hc
    exact ⟨_, (arith_val h k _ hc).1, trivial, (arith_val h k _ hc).2, by simp [binOp, Op.intDiv, hy]⟩
  case rem =>
    obtain ⟨hy, _⟩ := hc
    exact ⟨_, rfl, trivial, rfl, by simp [binOp, Op.intDiv, hy]⟩
  all_goals exact ⟨_, rfl, trivial, rfl, by simp [binOp, Op.intCmp, Op.intBits, bitsOf]⟩

theorem shiftOp_run {h : Option Hint} {op : BinOp} {k k' : IntKind} {x y : Int} {r : R} (hr : shiftOp h op k x y = some r) (hc : AllP r.cond) (t : TypeId) (w : World) :
    ∃ v, r.val = .v v ∧ okV v ∧ r.upd = [] ∧ (binOp op t (.int k x) (.int k' y)).run P w = .ok v w := by
  cases op <;> simp only [shiftOp, Option.some.injEq, reduceCtorEq] at hr <;> subst hr
  case shl =>
    obtain ⟨hy, hc⟩ := hc
    have hy' : ¬ y < 0 := by omega
    exact ⟨_, (arith_val h k _ hc).1, trivial, (arith_val h k _ hc).2, by simp [binOp, Op.shift, hy']⟩
  case shr =>
    obtain ⟨hy, _⟩ := hc
    have hy' : ¬ y < 0 := by omega
    exact ⟨_, rfl, trivial, rfl, by simp [binOp, Op.shift, hy']⟩

theorem strOp_run {h : Option Hint} {op : BinOp} {x y : ByteArray} {r : R} (hr : strOp h op x y = some r) (hc : AllP r.cond) (t : TypeId) (w : World) :
    ∃ v, r.val = .v v ∧ okV v ∧ r.upd = [] ∧ (binOp op t (.string x) (.string y)).run P w = .ok v w := by
  cases op <;> simp only [strOp, vR, Option.some.injEq, reduceCtorEq] at hr <;> subst hr
  case add =>
    obtain ⟨hy, _⟩ := hc
    have hm : IntKind.i64.max = 9223372036854775807 := by decide
    have hy' : ¬ (9223372036854775807 : Int) < ((x.size + y.size : Nat) : Int) := by omega
    refine ⟨_, rfl, trivial, rfl, ?_⟩
    simp only [binOp, Op.stringOp, hm, gt_iff_lt, if_neg hy', Sem.run_pure]
  all_goals exact ⟨_, rfl, trivial, rfl, by simp [binOp, Op.stringOp]⟩

theorem run_eq_bool {t : TypeId} (ht : P.underlying t = some .bool) (a b : Bool) (w : World) : (Op.equal t (.bool a) (.bool b)).run P w = .ok (a == b) w := by
  have h : ∀ d, (Op.equalIn (d + 1) t (.bool a) (.bool b)).run P w = .ok (a == b) w := fun d => by simp [Op.equalIn, run_underlying ht]
  exact h 9999

theorem binA_run {h : Option Hint} {op : BinOp} {t : TypeId} {x y : AV} {vx vy : Value} {S : St} {r : R} (hr : binA P h op t x y = some r) (hc : AllP r.cond) (hx : Rep S vx x) (hy : Rep S vy y) (w : World) :
    ∃ v, r.val = .v v ∧ okV v ∧ r.upd = [] ∧ (binOp op t vx vy).run P w = .ok v w ∧ ∀ X Y, (eqGuard op t X Y vx vy).run P w = .ok () w := by
  unfold binA at hr
  split at hr
  · next k a yk b =>
    obtain ⟨rfl, _⟩ := rep_v hx
    obtain ⟨rfl, _⟩ := rep_v hy
    have hg : ∀ X Y, (eqGuard op t X Y (.int k a) (.int yk b)).run P w = .ok () w := fun X Y => by
      unfold eqGuard; cases op <;> simp
    split at hr
    · obtain ⟨v, h1, h2, h3, h4⟩ := shiftOp_run (P := P) (k' := yk) hr hc t w
      exact ⟨v, h1, h2, h3, h4, hg⟩
    · obtain ⟨v, h1, h2, h3, h4⟩ := shiftOp_run (P := P) (k' := yk) hr hc t w
      exact ⟨v, h1, h2, h3, h4, hg⟩
    · split at hr
      · next hk =>
        have := kindEq_eq hk
        subst this
        obtain ⟨v, h1, h2, h3, h4⟩ := intOp_run (P := P) hr hc t w
        exact ⟨v, h1, h2, h3, h4, hg⟩
      · cases hr
  · next a b =>
    obtain ⟨rfl, _⟩ := rep_v hx
    obtain ⟨rfl, _⟩ := rep_v hy
    obtain ⟨v, h1, h2, h3, h4⟩ := strOp_run (P := P) hr hc t w
    exact ⟨v, h1, h2, h3, h4, fun X Y => by unfold eqGuard; cases op <;> simp⟩
  · next a b =>
    obtain ⟨rfl, _⟩ := rep_v hx
    obtain ⟨rfl, _⟩ := rep_v hy
    split at hr
    · next ht =>
      cases hr
      exact ⟨_, rfl, trivial, rfl, by simp [binOp, run_eq_bool ht], fun X Y => by unfold eqGuard; simp⟩
    · next ht =>
      cases hr
      exact ⟨_, rfl, trivial, rfl, by simp [binOp, run_eq_bool ht], fun X Y => by unfold eqGuard; simp⟩
    · cases hr
  · cases hr

theorem unA_run {h : Option Hint} {op : UnOp} {x : AV} {vx : Value} {S : St} {r : R} (hr : unA h op x = some r) (hc : AllP r.cond) (hx : Rep S vx x) (w : World) :
    ∃ v, r.val = .v v ∧ okV v ∧ r.upd = [] ∧ (Op.unary op vx).run P w = .ok v w := by
  unfold unA at hr
  split at hr
  · next k n =>
    obtain ⟨rfl, _⟩ := rep_v hx
    cases hr
    exact ⟨_, (arith_val h k _ hc).1, trivial, (arith_val h k _ hc).2, by simp [Op.unary, Op.intArith]⟩
  · next k n =>
    obtain ⟨rfl, _⟩ := rep_v hx
    cases hr
    exact ⟨_, rfl, trivial, rfl, by simp [Op.unary, Op.intBits, bitsOf]⟩
  · next b =>
    obtain ⟨rfl, _⟩ := rep_v hx
    cases hr
    exact ⟨_, rfl, trivial, rfl, by simp [Op.unary]⟩
  · cases hr

theorem nilP_spec {S : St} {x : AV} {v : Value} {a : Bool} (hx : Rep S v x) (h : nilP x = some a) : ∃ b : Option Addr, v = .pointer b ∧ b.isNone = a := by
  unfold nilP at h
  split at h
  · obtain ⟨rfl, _⟩ := rep_v hx; cases h; exact ⟨none, rfl, rfl⟩
  · cases h
    cases hx with
    | i _ _ h => cases h with | ip ad _ _ _ _ _ => exact ⟨some ad, rfl, rfl⟩
  · cases h
    cases hx with
    | i _ _ h => cases h
    | rp _ _ _ _ _ _ _ h => obtain ⟨ad, rfl⟩ := h; exact ⟨some ad, rfl, rfl⟩
  · cases h
    cases hx with
    | i _ _ h => cases h
    | ptr _ _ _ _ _ h => obtain ⟨ad, rfl⟩ := h; exact ⟨some ad, rfl, rfl⟩
  · cases h

theorem nilF_spec {S : St} {x : AV} {v : Value} {a : Bool} (hx : Rep S v x) (h : nilF x = some a) : (v = .nilFunc ∧ a = true) ∨ (∃ f g k, v = .func f g k ∧ a = false) := by
  unfold nilF at h
  split at h
  · obtain ⟨rfl, _⟩ := rep_v hx; cases h; exact .inl ⟨rfl, rfl⟩
  · cases h
    cases hx with
    | i _ _ h => cases h; exact .inr ⟨_, _, _, rfl, rfl⟩
    | fnv => exact .inr ⟨_, _, _, rfl, rfl⟩
  · cases h

theorem nilA_run {op : BinOp} {t : TypeId} {x y : AV} {vx vy : Value} {S : St} {r : R} (hr : nilA P op t x y = some r) (hx : Rep S vx x) (hy : Rep S vy y) (w : World) :
    ∃ v, r.val = .v v ∧ okV v ∧ r.upd = [] ∧ (binOp op t vx vy).run P w = .ok v w ∧ ∀ X Y, (eqGuard op t X Y vx vy).run P w = .ok () w := by
  have hp : ∀ e, P.underlying t = some (.pointer e) → ∀ (a : Option Addr), (Op.equal t (.pointer a) (.pointer none)).run P w = .ok a.isNone w := fun e ht a => by
    have h : ∀ d, (Op.equalIn (d + 1) t (.pointer a) (.pointer none)).run P w = .ok a.isNone w := fun d => by cases a <;> simp [Op.equalIn, run_underlying ht]
    exact h 9999
  have hf : ∀ a b c, P.underlying t = some (.func a b c) → (Op.equal t .nilFunc .nilFunc).run P w = .ok true w := fun a b c ht => by
    have h : ∀ d, (Op.equalIn (d + 1) t .nilFunc .nilFunc).run P w = .ok true w := fun d => by simp [Op.equalIn, run_underlying ht]
    exact h 9999
  have hf' : ∀ a b c, P.underlying t = some (.func a b c) → ∀ f g k, (Op.equal t (.func f g k) .nilFunc).run P w = .ok false w := fun a b c ht f g k => by
    have h : ∀ d, (Op.equalIn (d + 1) t (.func f g k) .nilFunc).run P w = .ok false w := fun d => by simp [Op.equalIn, run_underlying ht]
    exact h 9999
  have guard : ∀ X Y, vy = .pointer none ∨ vy = .nilFunc → (eqGuard op t X Y vx vy).run P w = .ok () w := by
    intro X Y h
    unfold eqGuard
    rcases h with rfl | rfl <;> cases op <;> cases vx <;> simp
  unfold nilA at hr
  split at hr
  · next e ht =>
    obtain ⟨rfl, _⟩ := rep_v hy
    split at hr
    · next a ha =>
      cases hr
      obtain ⟨b, rfl, rfl⟩ := nilP_spec hx ha
      exact ⟨_, rfl, trivial, rfl, by simp [binOp, hp e ht], fun X Y => guard X Y (.inl rfl)⟩
    · next a ha =>
      cases hr
      obtain ⟨b, rfl, rfl⟩ := nilP_spec hx ha
      exact ⟨_, rfl, trivial, rfl, by simp [binOp, hp e ht], fun X Y => guard X Y (.inl rfl)⟩
    · cases hr
  · next p q c ht =>
    obtain ⟨rfl, _⟩ := rep_v hy
    split at hr
    · next a ha =>
      cases hr
      rcases nilF_spec hx ha with ⟨rfl, rfl⟩ | ⟨f, g, k, rfl, rfl⟩
      · exact ⟨_, rfl, trivial, rfl, by simp [binOp, hf p q c ht], fun X Y => guard X Y (.inr rfl)⟩
      · exact ⟨_, rfl, trivial, rfl, by simp [binOp, hf' p q c ht], fun X Y => guard X Y (.inr rfl)⟩
    · next a ha =>
      cases hr
      rcases nilF_spec hx ha with ⟨rfl, rfl⟩ | ⟨f, g, k, rfl, rfl⟩
      · exact ⟨_, rfl, trivial, rfl, by simp [binOp, hf p q c ht], fun X Y => guard X Y (.inr rfl)⟩
      · exact ⟨_, rfl, trivial, rfl, by simp [binOp, hf' p q c ht], fun X Y => guard X Y (.inr rfl)⟩
    · cases hr
  · cases hr

end
end Go.Ev
