/- An evaluator of the model's code, proved right. No condition. -/
import Derived.Test.YtipiambcccfhmaaGreatDoorEvAll2
import Derived.Test.YtipiambcccfhmaaGreatDoorFlAll1
import Derived.WideMake
import Derived.Lib.Builder
set_option linter.unusedSimpArgs false
set_option linter.unusedVariables false
set_option linter.unusedSectionVars false
/- Floats reckoned with: what is not a number is any NaN. -/
set_option exponentiation.threshold 2000
namespace Go.Ev
variable [Globs]
open Ieee

theorem nanB_iff {a : Nat} : nanB .f64 a ↔ (FloatKind.f64.format.read a).isNaN = true := by
  constructor
  · intro h
    cases hn : (FloatKind.f64.format.read a).isNaN with
    | true => rfl
    | false =>
      have := Go.Fl.order_self hn
      unfold nanB at h
      rw [h] at this
      cases this
  · exact fun h => Go.Fl.nan_order (.inl h)

theorem qnan_nan : nanB .f64 qnan := by
  unfold nanB
  decide +kernel

/-- what is drawn where there is no number -/
theorem drawn_nan (x y t : Nat) : nanB .f64 ((Question.nanBits .f64 x y).cut t) := by
  rw [nanB_iff]
  have e : (Question.nanBits .f64 x y).cut t = (t % 2) * 9223372036854775808 + (9218868437227405312 + 1 + (t / 2) % 4503599627370495) := by
    show (t % 2) * 2 ^ 63 + 0x7ff0000000000000 + 1 + (t / 2) % (2 ^ 52 - 1) = _
    rw [show (2 : Nat) ^ 63 = 9223372036854775808 from rfl, show (2 : Nat) ^ 52 - 1 = 4503599627370495 from rfl]
    omega
  rw [e]
  generalize hr : (t / 2) % 4503599627370495 = r
  have hr1 : r < 4503599627370495 := by rw [← hr]; exact Nat.mod_lt _ (by decide)
  have hm : ((t % 2) * 9223372036854775808 + (9218868437227405312 + 1 + r)) % 9223372036854775808 = 9218868437227405312 + 1 + r := by omega
  rw [Go.Fl.read64, hm, if_neg (by omega), if_neg (by omega), if_neg (by omega)]
  rfl

/-- a float of which that is known -/
def FRep (a' a : Nat) : Prop := a' = a ∨ (nanB .f64 a' ∧ nanB .f64 a)

theorem rep_fbits {S : St} {v : Value} {x : AV} {a : Nat} (h : fbits x = some a) (hx : Rep S v x) : ∃ a', v = .float .f64 a' ∧ FRep a' a := by
  unfold fbits at h
  split at h
  · cases h
    obtain ⟨rfl, _⟩ := rep_v hx
    exact ⟨a, rfl, .inl rfl⟩
  · cases h
    cases hx with
    | i _ _ h => cases h with | fl _ b _ h => exact ⟨b, rfl, h⟩
  · cases h

theorem FRep.rep {S : St} {a' a : Nat} (h : FRep a' a) : Rep S (.float .f64 a') (.fl .f64 a) := .i _ _ (.fl _ _ _ h)

theorem nan_read {a : Nat} (h : nanB .f64 a) : ∃ s t, FloatKind.f64.format.read a = .nan s t := by
  rw [nanB_iff] at h
  cases hr : FloatKind.f64.format.read a with
  | nan s t => exact ⟨s, t, rfl⟩
  | _ => rw [hr] at h; cases h

theorem order_rep {a' a b' b : Nat} (ha : FRep a' a) (hb : FRep b' b) : FloatKind.f64.format.order a' b' = FloatKind.f64.format.order a b := by
  have n1 : ∀ x y, nanB .f64 x → FloatKind.f64.format.order x y = none := fun x y h => Go.Fl.nan_order (.inl (nanB_iff.1 h))
  have n2 : ∀ x y, nanB .f64 y → FloatKind.f64.format.order x y = none := fun x y h => Go.Fl.nan_order (.inr (nanB_iff.1 h))
  rcases ha with rfl | ⟨h1, h2⟩
  · rcases hb with rfl | ⟨h3, h4⟩
    · rfl
    · rw [n2 _ _ h3, n2 _ _ h4]
  · rw [n1 _ _ h1, n1 _ _ h2]

/-- an operation that answers NaN to NaN -/
theorem arith_rep {f : Nat → Nat → Option Nat} (h1 : ∀ x y, nanB .f64 x → f x y = none) (h2 : ∀ x y, nanB .f64 y → f x y = none) {a' a b' b : Nat} (ha : FRep a' a) (hb : FRep b' b) :
    (∃ r, f a' b' = some r ∧ FRep r ((f a b).getD qnan)) ∨ (f a' b' = none ∧ nanB .f64 ((f a b).getD qnan)) := by
  have hn : f a b = none → nanB .f64 ((f a b).getD qnan) := fun h => by rw [h]; exact qnan_nan
  rcases ha with rfl | ⟨h3, h4⟩
  · rcases hb with rfl | ⟨h5, h6⟩
    · cases hf : f a' b' with
      | some r => exact .inl ⟨r, rfl, .inl rfl⟩
      | none => exact .inr ⟨rfl, qnan_nan⟩
    · exact .inr ⟨h2 _ _ h5, hn (h2 _ _ h6)⟩
  · exact .inr ⟨h1 _ _ h3, hn (h1 _ _ h4)⟩

theorem add_nan1 (x y : Nat) (h : nanB .f64 x) : FloatKind.f64.format.add x y = none := by
  obtain ⟨s, t, hr⟩ := nan_read h
  unfold Format.add
  rw [hr]
  cases FloatKind.f64.format.read y <;> rfl
theorem add_nan2 (x y : Nat) (h : nanB .f64 y) : FloatKind.f64.format.add x y = none := by
  obtain ⟨s, t, hr⟩ := nan_read h
  unfold Format.add
  rw [hr]
  cases FloatKind.f64.format.read x <;> rfl
theorem sub_nan1 (x y : Nat) (h : nanB .f64 x) : FloatKind.f64.format.sub x y = none := by
  obtain ⟨s, t, hr⟩ := nan_read h
  unfold Format.sub
  rw [hr]
  cases (FloatKind.f64.format.read y).opposite <;> rfl
theorem sub_nan2 (x y : Nat) (h : nanB .f64 y) : FloatKind.f64.format.sub x y = none := by
  obtain ⟨s, t, hr⟩ := nan_read h
  unfold Format.sub
  rw [hr]
  cases FloatKind.f64.format.read x <;> rfl
theorem mul_nan1 (x y : Nat) (h : nanB .f64 x) : FloatKind.f64.format.mul x y = none := by
  obtain ⟨s, t, hr⟩ := nan_read h
  unfold Format.mul
  rw [hr]
  cases FloatKind.f64.format.read y <;> rfl
theorem mul_nan2 (x y : Nat) (h : nanB .f64 y) : FloatKind.f64.format.mul x y = none := by
  obtain ⟨s, t, hr⟩ := nan_read h
  unfold Format.mul
  rw [hr]
  cases FloatKind.f64.format.read x <;> rfl
theorem div_nan1 (x y : Nat) (h : nanB .f64 x) : FloatKind.f64.format.div x y = none := by
  obtain ⟨s, t, hr⟩ := nan_read h
  unfold Format.div
  rw [hr]
  cases FloatKind.f64.format.read y <;> rfl
theorem div_nan2 (x y : Nat) (h : nanB .f64 y) : FloatKind.f64.format.div x y = none := by
  obtain ⟨s, t, hr⟩ := nan_read h
  unfold Format.div
  rw [hr]
  cases FloatKind.f64.format.read x <;> rfl

section
variable {P : Program}

theorem run_farith {op : BinOp} {t : TypeId} {f : Nat → Nat → Option Nat} (hop : (op = .add ∧ f = FloatKind.f64.format.add) ∨ (op = .sub ∧ f = FloatKind.f64.format.sub) ∨ (op = .mul ∧ f = FloatKind.f64.format.mul) ∨ (op = .quo ∧ f = FloatKind.f64.format.div))
    (a b : Nat) (w : World) : (binOp op t (.float .f64 a) (.float .f64 b)).run P w = match f a b with
      | some r => .ok (.float .f64 r) w
      | none => .ok (.float .f64 ((Question.nanBits .f64 a b).cut (w.tape w.drawn (.nanBits .f64 a b)))) w.drew := by
  rcases hop with ⟨rfl, rfl⟩ | ⟨rfl, rfl⟩ | ⟨rfl, rfl⟩ | ⟨rfl, rfl⟩
  · simp only [binOp, Op.floatArith, Sem.run_bind, Sem.run_pure, Result.andThen_ok, if_true]
    cases FloatKind.f64.format.add a b with
    | some r => rfl
    | none => simp [Question.forced]
  · simp only [binOp, Op.floatArith, Sem.run_bind, Sem.run_pure, Result.andThen_ok, if_true]
    cases FloatKind.f64.format.sub a b with
    | some r => rfl
    | none => simp [Question.forced]
  · simp only [binOp, Op.floatArith, Sem.run_bind, Sem.run_pure, Result.andThen_ok, if_true]
    cases FloatKind.f64.format.mul a b with
    | some r => rfl
    | none => simp [Question.forced]
  · simp only [binOp, Op.floatArith, Sem.run_bind, Sem.run_pure, Result.andThen_ok, if_true]
    cases FloatKind.f64.format.div a b with
    | some r => rfl
    | none => simp [Question.forced]

theorem fbinA_run {S : St} {key : Nat} {hp : List (Nat × AObj)} {op : BinOp} {t : TypeId} {x y : AV} {vx vy : Value} {r : R} (hwf : S.wf) (hh : HeapOK S hp) (hr : fbinA op x y = some r) (hx : Rep S vx x) (hy : Rep S vy y) :
    ∃ v S', (binOp op t vx vy).run P S.w = .ok v S'.w ∧ Post S key (applyUpd hp r.upd) r.val v S' ∧ ∀ X Y, (eqGuard op t X Y vx vy).run P S.w = .ok () S.w := by
  unfold fbinA at hr
  split at hr
  · next a b ha hb =>
    obtain ⟨a', rfl, ra⟩ := rep_fbits ha hx
    obtain ⟨b', rfl, rb⟩ := rep_fbits hb hy
    have hg : ∀ X Y, (eqGuard op t X Y (.float .f64 a') (.float .f64 b')).run P S.w = .ok () S.w := fun X Y => by unfold eqGuard; cases op <;> simp
    have go : ∀ (f : Nat → Nat → Option Nat), ((op = .add ∧ f = FloatKind.f64.format.add) ∨ (op = .sub ∧ f = FloatKind.f64.format.sub) ∨ (op = .mul ∧ f = FloatKind.f64.format.mul) ∨ (op = .quo ∧ f = FloatKind.f64.format.div)) →
        (∀ x y, nanB .f64 x → f x y = none) → (∀ x y, nanB .f64 y → f x y = none) → r = ⟨.fl .f64 ((f a b).getD qnan), [], []⟩ →
        ∃ v S', (binOp op t (.float .f64 a') (.float .f64 b')).run P S.w = .ok v S'.w ∧ Post S key (applyUpd hp r.upd) r.val v S' ∧ ∀ X Y, (eqGuard op t X Y (.float .f64 a') (.float .f64 b')).run P S.w = .ok () S.w := by
      intro f hop h1 h2 hr
      subst hr
      rcases arith_rep h1 h2 ra rb with ⟨q, e, hq⟩ | ⟨e, hq⟩
      · refine ⟨_, S, by rw [run_farith hop, e], ⟨hwf, Ext.refl S, fun k h => .inl h, hq.rep, hh⟩, hg⟩
      · have gr := Grows.drew S.w
        refine ⟨_, S.at S.w.drew, by rw [run_farith hop, e]; rfl, ⟨wf_at gr hwf, ext_at gr hwf, fun k h => .inl h, FRep.rep (.inr ⟨drawn_nan _ _ _, hq⟩), heap_at gr hwf hh⟩, hg⟩
    split at hr
    · exact go _ (.inl ⟨rfl, rfl⟩) add_nan1 add_nan2 (Option.some.inj hr).symm
    · exact go _ (.inr (.inl ⟨rfl, rfl⟩)) sub_nan1 sub_nan2 (Option.some.inj hr).symm
    · exact go _ (.inr (.inr (.inl ⟨rfl, rfl⟩))) mul_nan1 mul_nan2 (Option.some.inj hr).symm
    · exact go _ (.inr (.inr (.inr ⟨rfl, rfl⟩))) div_nan1 div_nan2 (Option.some.inj hr).symm
    · have e := order_rep ra rb
      have hr2 : floatOp op .f64 a' b' = some r := by
        rw [← hr]
        unfold floatOp feq flt fgt
        rw [e]
      obtain ⟨v, h1, h2, h3, h4⟩ := floatOp_run (P := P) hr2 t S.w
      refine ⟨v, S, h4, ⟨hwf, Ext.refl S, fun k h => .inl h, by rw [h1]; exact .i _ _ (.v _ h2), by rw [h3]; exact hh⟩, hg⟩
  · cases hr

theorem neg_low (a : Nat) : fneg a % 9223372036854775808 = a % 9223372036854775808 := by
  have e : fneg a = a ^^^ 9223372036854775808 := rfl
  rw [e, show (9223372036854775808 : Nat) = 2 ^ 63 from rfl, Nat.xor_mod_two_pow]
  simp

theorem neg_nan {a : Nat} (h : nanB .f64 a) : nanB .f64 (fneg a) := by
  rw [nanB_iff, Go.Fl.read64] at h ⊢
  rw [neg_low]
  split at h
  · cases h
  · next h1 =>
    split at h
    · cases h
    · next h2 =>
      split at h
      · cases h
      · next h3 => rw [if_neg h1, if_neg h2, if_neg h3]; rfl

theorem funA_run {S : St} {op : UnOp} {x : AV} {vx : Value} {r : R} (hr : funA op x = some r) (hx : Rep S vx x) (w : World) :
    ∃ v, r.upd = [] ∧ Rep S v r.val ∧ (Op.unary op vx).run P w = .ok v w := by
  unfold funA at hr
  split at hr
  · cases hr
    obtain ⟨rfl, _⟩ := rep_v hx
    exact ⟨_, rfl, .i _ _ (.v _ trivial), by simp [Op.unary]; rfl⟩
  · next a =>
    cases hr
    obtain ⟨a', rfl, ra⟩ := rep_fbits (x := .fl .f64 a) rfl hx
    refine ⟨.float .f64 (fneg a'), rfl, FRep.rep ?_, by simp [Op.unary]; rfl⟩
    rcases ra with rfl | ⟨h1, h2⟩
    · exact .inl rfl
    · exact .inr ⟨neg_nan h1, neg_nan h2⟩
  · cases hr

theorem inR_min {k : IntKind} {n : Int} (h : inR k n) : k.min ≤ n ∧ n ≤ k.max := by
  cases k <;> simp only [inR] at h <;> (constructor <;> simp [IntKind.min, IntKind.max, IntKind.signed, IntKind.bits] <;> omega)

theorem fconvA_run {S : St} {src dst : TypeId} {x : AV} {v : Value} {r : R} (hr : fconvA P src dst x = some r) (hc : AllP r.cond) (hx : Rep S v x) (w : World) :
    ∃ y, r.upd = [] ∧ Rep S y r.val ∧ (convert src dst v).run P w = .ok y w := by
  unfold fconvA at hr
  split at hr
  · next d k n hs hd =>
    cases hr
    obtain ⟨rfl, _⟩ := rep_v hx
    exact ⟨_, rfl, .i _ _ (.v _ trivial), by simp [convert, run_underlying hs, run_underlying hd, Conv.intToFloat]; rfl⟩
  · next d a hs hd =>
    cases hr
    obtain ⟨rfl, _⟩ := rep_v hx
    exact ⟨_, rfl, .i _ _ (.v _ trivial), by simp [convert, run_underlying hs, run_underlying hd, Conv.floatToFloat]⟩
  · next d a hs hd =>
    cases hr
    obtain ⟨a', rfl, ra⟩ := rep_fbits (x := .fl .f64 a) rfl hx
    exact ⟨_, rfl, ra.rep, by simp [convert, run_underlying hs, run_underlying hd, Conv.floatToFloat]⟩
  · next d k hs hd =>
    split at hr
    · next a ha =>
      cases hr
      obtain ⟨a', rfl, ra⟩ := rep_fbits ha hx
      obtain ⟨h1, h2, _⟩ := hc
      have hna : ¬ nanB .f64 a := fun hn => by
        obtain ⟨s, t, e⟩ := nan_read hn
        unfold fhasI FloatKind.decode at h1
        rw [e] at h1
        cases h1
      have e : a' = a := by
        rcases ra with h | ⟨_, h⟩
        · exact h
        · exact absurd h hna
      subst e
      obtain ⟨n, hn⟩ := Option.isSome_iff_exists.1 h1
      have hn2 : ftoI a' = n := by unfold ftoI; rw [hn]; rfl
      rw [hn2] at h2
      obtain ⟨g1, g2⟩ := inR_min h2
      refine ⟨.int k n, rfl, by rw [hn2]; exact .i _ _ (.v _ trivial), ?_⟩
      simp [convert, run_underlying hs, run_underlying hd, Conv.floatToInt, hn, g1, g2]
    · cases hr
  · cases hr

end
end Go.Ev

/- Maps: asked, made, written. -/
namespace Go.Ev
variable [Globs]

theorem ba_beq (a b : ByteArray) : (a == b) = decide (a = b) := by
  have h : (a == b) = (a.data == b.data) := by cases a; cases b; rfl
  rw [h, Bool.eq_iff_iff]
  simp only [beq_iff_eq, decide_eq_true_eq]
  exact ⟨fun h => ByteArray.ext h, fun h => by rw [h]⟩
theorem bytesEq_iff {a b : ByteArray} : bytesEq a b = true ↔ a = b := by
  unfold bytesEq
  simp only [beq_iff_eq]
  exact ⟨fun h => ByteArray.ext (Array.ext' h), fun h => by rw [h]⟩
theorem bytesEq_beq (a b : ByteArray) : (a == b) = bytesEq a b := by
  rw [ba_beq, Bool.eq_iff_iff, bytesEq_iff, decide_eq_true_eq]

theorem sameNow_alike {kd : TypeDesc} {key k : Value} (hk : isKeyA kd key = true) (h : alikeK key k = true) : Instr.sameNow kd key k = some (sameKB key k) := by
  cases key with
  | int a n =>
    cases k with
    | int b m =>
      have h : kindEq a b = true := h
      have := kindEq_eq h
      subst this
      cases kd <;> first | (simp [Instr.sameNow, sameKB, h]; done) | cases hk
    | _ => cases h
  | string s =>
    cases k with
    | string u => cases kd <;> first | (simp [Instr.sameNow, sameKB, bytesEq_beq]; done) | cases hk
    | _ => cases h
  | _ => cases h

theorem sameKB_eq {key k : Value} (h : sameKB key k = true) : key = k := by
  unfold sameKB at h
  split at h
  · split at h
    · next hk =>
      have := kindEq_eq hk
      subst this
      rw [eq_of_beq h]
    · cases h
  · rw [bytesEq_iff.1 h]
  · cases h

/-- a map's entries, and what is known of them -/
structure EntsOK (R : Value → AV → Prop) (arr : List MapEntry) (es : List (Value × AV)) : Prop where
  len : arr.length = es.length
  ent : ∀ i (h : i < es.length), (arr.getD i default).key = es[i].1 ∧ R (arr.getD i default).val es[i].2

theorem EntsOK.tail {R : Value → AV → Prop} {e : MapEntry} {arr : List MapEntry} {p : Value × AV} {es : List (Value × AV)} (h : EntsOK R (e :: arr) (p :: es)) : e.key = p.1 ∧ R e.val p.2 ∧ EntsOK R arr es := by
  have h0 := h.ent 0 (by simp)
  refine ⟨h0.1, h0.2, by have := h.len; simpa using this, fun i hi => ?_⟩
  have := h.ent (i + 1) (by simpa using hi)
  simpa using this

/-- what is found -/
theorem find_spec {R : Value → AV → Prop} {kd : TypeDesc} {key : Value} (hk : isKeyA kd key = true) : ∀ {arr : List MapEntry} {es : List (Value × AV)} (i : Nat), EntsOK R arr es → KeysOK key es →
    (getM key es = none ∧ Instr.findNow kd key arr i = some none ∧ ixM key es = es.length ∧ ∀ x, putM key x es = es ++ [(key, x)]) ∨
    (∃ v, getM key es = some v ∧ ixM key es < es.length ∧ es[ixM key es]? = some (key, v) ∧ (∀ x, putM key x es = es.set (ixM key es) (key, x)) ∧ Instr.findNow kd key arr i = some (some (i + ixM key es, (arr.getD (ixM key es) default).val)))
  | [], [], i, _, _ => .inl ⟨rfl, rfl, rfl, fun _ => rfl⟩
  | [], p :: es, i, h, _ => by have := h.len; simp at this
  | e :: arr, [], i, h, _ => by have := h.len; simp at this
  | e :: arr, p :: es, i, h, hal => by
    obtain ⟨h1, h2, h3⟩ := h.tail
    have hal' : alikeK key p.1 = true ∧ KeysOK key es := by
      unfold KeysOK at hal ⊢
      simpa [List.all_cons] using hal
    have hs := sameNow_alike hk hal'.1
    rw [← h1] at hs
    cases hb : sameKB key p.1 with
    | true =>
      have heq := sameKB_eq hb
      refine .inr ⟨p.2, by simp [getM, hb], by simp [ixM, hb], by simp only [ixM, hb, List.getElem?_cons_zero]; rw [heq], fun x => by simp [putM, ixM, hb], ?_⟩
      unfold Instr.findNow
      rw [hs, h1, hb]
      simp [ixM, hb]
    | false =>
      have hf : Instr.findNow kd key (e :: arr) i = Instr.findNow kd key arr (i + 1) := by
        conv => lhs; unfold Instr.findNow
        rw [hs, h1, hb]
      rw [hf]
      rcases find_spec hk (i + 1) h3 hal'.2 with ⟨g1, g2, g3, g4⟩ | ⟨v, g1, g2, g3, g4, g5⟩
      · exact .inl ⟨by simp [getM, hb, g1], g2, by simp [ixM, hb, g3], fun x => by simp [putM, hb, g4]⟩
      · refine .inr ⟨v, by simp [getM, hb, g1], by simp [ixM, hb]; exact g2, by simpa [ixM, hb] using g3, fun x => by simp [putM, ixM, hb, g4], ?_⟩
        rw [g5]
        simp only [ixM, hb, List.getD_cons_succ]
        congr 3
        omega

section
variable {P : Program}

theorem checkKey_run {kd : TypeDesc} {kt : TypeId} {key : Value} (hk : P.underlying kt = some kd) (h : isKeyA kd key = true) (w : World) (e : Bool) : (Instr.checkKey e 10000 kt key).run P w = .ok () w := by
  have go : ∀ (n : Nat), (Instr.checkKey e (n + 1) kt key).run P w = .ok () w := fun n => by
    unfold isKeyA at h
    split at h
    · simp [Instr.checkKey, run_underlying hk]
    · simp [Instr.checkKey, run_underlying hk]
    · cases h
  exact go 9999

theorem zeroA_run {t : TypeId} {z : AV} (h : zeroA P t = some z) (S : St) : ∃ v, (zeroValue t).run P S.w = .ok v S.w ∧ Rep S v z := by
  unfold zeroA at h
  split at h
  · next zv hz =>
    cases hi : P.info? t with
    | none => rw [hi] at hz; cases hz
    | some info =>
      rw [hi] at hz
      have hz' : info.zero = some zv := hz
      have hrep : Rep S zv (constA zv) := rep_const S zv
      split at h
      · cases h
      · next hne =>
        cases h
        exact ⟨zv, by simp [zeroValue, typeInfo, hi, hz'], hrep⟩
  · cases h

theorem zip2_ents {R : Value → AV → Prop} : ∀ {arr : List MapEntry} {ks : List Value} {vs : List AV}, arr.length = ks.length → ks.length = vs.length → (∀ i, i < vs.length → (arr.getD i default).key = ks.getD i undef) → (∀ i (h : i < vs.length), R (arr.getD i default).val vs[i]) → EntsOK R arr (zip2 ks vs)
  | [], [], [], _, _, _, _ => ⟨rfl, fun i hi => absurd hi (by simp [zip2])⟩
  | e :: arr, k :: ks, v :: vs, h1, h2, h3, h4 => by
    have ih := zip2_ents (arr := arr) (ks := ks) (vs := vs) (by simpa using h1) (by simpa using h2) (fun i hi => by have := h3 (i + 1) (by simpa using hi); simpa using this) (fun i hi => by have := h4 (i + 1) (by simpa using hi); simpa using this)
    refine ⟨by simp [zip2, ih.len], fun i hi => ?_⟩
    cases i with
    | zero =>
      have a := h3 0 (by simp)
      have b := h4 0 (by simp)
      exact ⟨by simpa [zip2] using a, by simpa [zip2] using b⟩
    | succ i =>
      have := ih.ent i (by simpa [zip2] using hi)
      simpa [zip2] using this
  | _ :: _, [], _, h, _, _, _ => by simp at h
  | [], _ :: _, _, h, _, _, _ => by simp at h
  | _, _ :: _, [], _, h, _, _ => by simp at h
  | _, [], _ :: _, _, h, _, _ => by simp at h

/-- the entries that lookups meet -/
theorem ents_run {S : St} {hp : List (Nat × AObj)} {nd : List Nat} {vx : Value} {x : AV} {es : List (Value × AV)} (hh : HeapOK S hp) (h : entsA (restr hp nd) x = some es) (hx : Rep S vx x) :
    (vx = .map none ∧ es = []) ∨ ∃ r arr clock, vx = .map (some r) ∧ S.w.heap[r]? = some (.map arr clock) ∧ EntsOK (Rep S) arr.toList es := by
  unfold entsA at h
  split at h
  · next k =>
    split at h
    · next es' hk =>
      cases h
      obtain ⟨_, hlive, hobj⟩ := hh _ _ (restr_look hk)
      cases hx with
      | i _ _ h => cases h
      | mpk b _ _ hp =>
      obtain ⟨_, b', hb', he⟩ := hp hlive
      obtain ⟨_, b'', arr, hb, ho, hheap, hsz, hrep⟩ := hobj
      rw [hb] at hb'
      cases hb'
      cases he
      refine .inr ⟨_, arr, _, rfl, hheap, by simpa using hsz, fun i hi => ?_⟩
      obtain ⟨h1, h2, h3⟩ := hrep i hi
      refine ⟨?_, ?_⟩
      · simpa [List.getD_eq_getElem?_getD, Array.getD_eq_getD_getElem?] using h1
      · simpa [List.getD_eq_getElem?_getD, Array.getD_eq_getD_getElem?] using h3
    · cases h
  · next ks vs =>
    cases h
    have hmp : RepI S.w S.free vx (.mp ks vs) := by cases hx with | i _ _ h => exact h
    cases hmp with
    | mp r0 arr clock _ _ hU hheap h1 h2 h3 h4 =>
    refine .inr ⟨r0, arr, clock, rfl, hheap, zip2_ents (by simpa using h1) h2 (fun i hi => ?_) (fun i hi => ?_)⟩
    · have := h3 i hi
      simpa [List.getD_eq_getElem?_getD, Array.getD_eq_getD_getElem?] using this
    · have := h4 i hi
      have e : (arr.toList.getD i default).val = (arr.getD i default).val := by simp [List.getD_eq_getElem?_getD, Array.getD_eq_getD_getElem?]
      rw [e]
      exact .i _ _ this
  · cases h
    exact .inl ⟨(rep_v hx).1, rfl⟩
  · cases h

theorem getObj_map {w : World} {r : Nat} {arr : Array MapEntry} {clock : Nat} (h : w.heap[r]? = some (.map arr clock)) : (getObj r).run P w = .ok (.map arr clock) w := by
  simp only [getObj, Sem.run, h]

theorem lookupA_run {S : St} {hp : List (Nat × AObj)} {nd : List Nat} {t : TypeId} {x i : AV} {ok : Bool} {vx vi : Value} {r : R} (hh : HeapOK S hp) (hr : lookupA P (restr hp nd) t x i ok = some r) (hc : AllP r.cond) (hx : Rep S vx x) (hi : Rep S vi i) :
    r.upd = [] ∧ ∃ v, (Instr.lookup t vx vi ok).run P S.w = .ok v S.w ∧ Rep S v r.val := by
  unfold lookupA at hr
  split at hr
  · next kt et key ht =>
    have hvi := (rep_v hi).1
    rw [hvi]
    split at hr
    · next kd es z hk hes hz =>
      split at hr
      · next hkey =>
        cases hr
        have hc := hc.1
        obtain ⟨zv, hz1, hz2⟩ := zeroA_run hz S
        have hck := fun e => checkKey_run (P := P) hk hkey S.w e
        have tupR : ∀ (v : Value) (y : AV) (b : Bool), Rep S v y → Rep S (.tuple #[v, .bool b]) (.tup [y, .v (.bool b)]) := fun v y b h => by
          refine .tup _ _ rfl fun i hi => ?_
          match i, hi with
          | 0, _ => exact h
          | 1, _ => exact .i _ _ (.v _ trivial)
        refine ⟨rfl, ?_⟩
        rcases ents_run hh hes hx with ⟨rfl, rfl⟩ | ⟨r0, arr, clock, rfl, hheap, hE⟩
        · have hf : Instr.findNow kd key [] 0 = some none := rfl
          cases ok with
          | false => exact ⟨zv, by simp [Instr.lookup, run_underlying ht, hck, Instr.findKey, run_underlying hk, hf, hz1], hz2⟩
          | true => exact ⟨.tuple #[zv, .bool false], by simp [Instr.lookup, run_underlying ht, hck, Instr.findKey, run_underlying hk, hf, hz1], tupR _ _ _ hz2⟩
        · rcases find_spec hkey 0 hE hc with ⟨g1, g2, _, _⟩ | ⟨v, g1, g2, g3, _, g5⟩
          · rw [g1]
            cases ok with
            | false => exact ⟨zv, by simp [Instr.lookup, run_underlying ht, getObj_map hheap, hck, Instr.findKey, run_underlying hk, g2, hz1], hz2⟩
            | true => exact ⟨.tuple #[zv, .bool false], by simp [Instr.lookup, run_underlying ht, getObj_map hheap, hck, Instr.findKey, run_underlying hk, g2, hz1], tupR _ _ _ hz2⟩
          · rw [g1]
            have hv : Rep S (arr.toList.getD (ixM key es) default).val v := by
              have := (hE.ent _ g2).2
              rw [List.getElem?_eq_getElem g2] at g3
              have g3 := Option.some.inj g3
              rwa [g3] at this
            cases ok with
            | false => exact ⟨_, by simp [Instr.lookup, run_underlying ht, getObj_map hheap, hck, Instr.findKey, run_underlying hk, g5], hv⟩
            | true => exact ⟨.tuple #[_, .bool true], by simp [Instr.lookup, run_underlying ht, getObj_map hheap, hck, Instr.findKey, run_underlying hk, g5], tupR _ _ _ hv⟩
      · cases hr
    · cases hr
  · cases hr

/-! ### an own map that is made -/
/-- a new own map -/
def St.newM (S : St) (key : Nat) : St :=
  { w := S.w.alloc (.map #[] 0), own := upd S.own S.w.heap.size (some (some key)), cur := upd S.cur key (some S.w.heap.size), len := upd S.len key 0, sz := upd S.sz key 0, floor := upd S.floor key 0, isRow := upd S.isRow key false,
    live := fun k => k = key ∨ S.live k, used := fun k => k = key ∨ S.used k }

section
variable {S : St} {key : Nat}
theorem newM_same (hwf : S.wf) {k : Nat} (hk : k ≠ key) : Same S (S.newM key) k := by
  refine ⟨upd_ne _ _ hk, upd_ne _ _ hk, upd_ne _ _ hk, upd_ne _ _ hk, upd_ne _ _ hk, fun b hb => ?_⟩
  have hlt := hwf.bound b _ hb
  exact ⟨alloc_old S.w _ b hlt, (upd_ne _ _ (by omega)).trans hb⟩
theorem newM_wf (hwf : S.wf) : (S.newM key).wf := by
  refine ⟨fun b o hb => ?_, fun k hl => ?_, fun k hl => hl.imp id (hwf.lu k), hwf.glob.keep (fun b hb ho => ⟨alloc_old S.w _ b hb, (upd_ne _ _ (by omega)).trans ho⟩) (by
    show _ ≤ (S.w.alloc _).heap.size
    rw [alloc_size]; omega)⟩
  · show b < (S.w.alloc _).heap.size
    rw [alloc_size]
    by_cases hbe : b = S.w.heap.size
    · omega
    · have : S.own b = some o := by rwa [show (S.newM key).own b = S.own b from upd_ne _ _ hbe] at hb
      have := hwf.bound b o this
      omega
  · intro b hb
    by_cases hk : k = key
    · subst hk
      have : S.w.heap.size = b := Option.some.inj (by rw [← hb]; exact (upd_self _ _ _).symm)
      subst this
      exact upd_self _ _ _
    · have hl' : S.live k := hl.resolve_left hk
      have hc : S.cur k = some b := by rw [← hb]; exact (upd_ne _ _ hk).symm
      have ho := hwf.kept k hl' b hc
      have := hwf.bound b _ ho
      exact (upd_ne _ _ (by omega)).trans ho
theorem newM_ext (hwf : S.wf) (hkey : ¬ S.used key) : Ext S (S.newM key) := by
  refine ⟨by show _ ≤ (S.w.alloc _).heap.size; rw [alloc_size]; omega, rfl, rfl, rfl, fun b hb _ => ⟨alloc_old S.w _ b hb, upd_ne _ _ (by omega)⟩, fun k hk => .inr hk, fun k hu hl => ?_⟩
  have hk : k ≠ key := fun e => hkey (e ▸ hu)
  have hl' : S.live k := hl.resolve_left hk
  have hs := newM_same (key := key) hwf hk
  exact ⟨hl', fun _ _ _ _ _ r => hs.row (hwf.kept k hl') r, fun _ _ _ _ r => hs.rp (hwf.kept k hl') r, fun _ _ r => hs.ptr r, hs.moves (hwf.kept k hl')⟩
theorem newM_post (hwf : S.wf) (hkey : ¬ S.used key) {hp : List (Nat × AObj)} (hh : HeapOK S hp) : Post S key (applyUpd hp [(key, some (.map []))]) (.mpk key) (.map (some S.w.heap.size)) (S.newM key) := by
  refine ⟨newM_wf hwf, newM_ext hwf hkey, fun k h => h.elim .inr .inl, .mpk _ _ (.inl rfl) fun _ => ⟨upd_self _ _ _, _, upd_self _ _ _, rfl⟩, fun k o' hk => ?_⟩
  simp only [applyUpd] at hk
  rw [look_put] at hk
  split at hk
  · next h =>
    subst h
    cases hk
    exact ⟨.inl rfl, .inl rfl, upd_self _ _ _, _, #[], upd_self _ _ _, upd_self _ _ _, alloc_new _ _, rfl, fun i hi => absurd hi (by simp)⟩
  · next h =>
    obtain ⟨h1, h2, h3⟩ := hh k o' hk
    exact ⟨.inr h1, .inr h2, h3.same (newM_ext hwf hkey) (newM_same hwf h)⟩
end

/-! ### an own map that is written -/
def World.setMap (w : World) (b : Nat) (arr : Array MapEntry) (clock : Nat) : World := { w with heap := w.heap.setIfInBounds b (.map arr clock) }
def St.setM (S : St) (b : Nat) (arr : Array MapEntry) (clock : Nat) : St := { S with w := World.setMap S.w b arr clock }

theorem setMap_other (w : World) (b c : Nat) (arr : Array MapEntry) (clock : Nat) (h : c ≠ b) : (World.setMap w b arr clock).heap[c]? = w.heap[c]? := by
  simp [World.setMap, Array.getElem?_setIfInBounds, Ne.symm h]

section
variable {S : St} {k b : Nat} {arr : Array MapEntry} {clock : Nat}
theorem setM_same (ho : S.own b = some (some k)) {j : Nat} (hj : j ≠ k) : Same S (S.setM b arr clock) j := by
  refine ⟨rfl, rfl, rfl, rfl, rfl, fun c hc => ⟨?_, hc⟩⟩
  have : c ≠ b := fun e => hj (by subst e; rw [ho] at hc; injection hc with hc; injection hc with hc; exact hc.symm)
  exact setMap_other S.w b c arr clock this
theorem setM_wf (hwf : S.wf) (ho : S.own b = some (some k)) : (S.setM b arr clock).wf :=
  ⟨fun c o hc => by show c < (World.setMap S.w b arr clock).heap.size; simp only [World.setMap, Array.size_setIfInBounds]; exact hwf.bound c o hc, hwf.kept, hwf.lu,
    hwf.glob.keep (fun c _ hc => ⟨setMap_other S.w b c arr clock (fun e => by subst e; rw [ho] at hc; cases hc), hc⟩) (by show _ ≤ (World.setMap S.w b arr clock).heap.size; simp [World.setMap])⟩
theorem setM_ext (hwf : S.wf) (ho : S.own b = some (some k)) (hrow : S.isRow k = false) (hc : S.cur k = some b) {old : Array MapEntry} {c0 : Nat} (hh : S.w.heap[b]? = some (.map old c0)) : Ext S (S.setM b arr clock) := by
  refine ⟨by show _ ≤ (World.setMap S.w b arr clock).heap.size; simp [World.setMap], rfl, rfl, rfl, fun c _ hc => ⟨setMap_other S.w b c arr clock (fun e => hc k (e ▸ ho)), rfl⟩, fun _ h => h, fun j hu hl => ?_⟩
  by_cases hj : j = k
  · subst hj
    refine ⟨hl, fun v off len ver t h => ?_, fun v i ver off h => ?_, fun v off h => h, ⟨rfl, rfl, Nat.le_refl _, fun _ => rfl, fun _ => rfl, fun _ c h => ?_⟩⟩
    · have := h.1; rw [hrow] at this; cases this
    · have := h.1; rw [hrow] at this; cases this
    · rw [hc] at h
      cases h
      unfold blockSize
      rw [hh]
      exact Nat.zero_le _
  · have hs := setM_same (arr := arr) (clock := clock) ho hj
    exact ⟨hl, fun _ _ _ _ _ r => hs.row (hwf.kept j hl) r, fun _ _ _ _ r => hs.rp (hwf.kept j hl) r, fun _ _ r => hs.ptr r, hs.moves (hwf.kept j hl)⟩
end

/-- an own map holds other entries -/
theorem setM_post {S : St} {key : Nat} {hp : List (Nat × AObj)} {k b : Nat} {es es' : List (Value × AV)} {arr arr' : Array MapEntry} {val : AV} {v : Value} (hwf : S.wf) (hh : HeapOK S hp) (hu : S.used k) (hl : S.live k) (hrow : S.isRow k = false) (hc : S.cur k = some b) (ho : S.own b = some (some k))
    (hheap : S.w.heap[b]? = some (.map arr es.length)) (hlen : arr'.size = es'.length) (hent : ∀ i (h : i < es'.length), (arr'.getD i default).key = es'[i].1 ∧ (arr'.getD i default).born = i ∧ Rep S (arr'.getD i default).val es'[i].2) (hv : Rep S v val) :
    Post S key (applyUpd hp [(k, some (.map es'))]) val v (S.setM b arr' es'.length) := by
  have e := setM_ext (arr := arr') (clock := es'.length) hwf ho hrow hc hheap
  have hlt : b < S.w.heap.size := hwf.bound b _ ho
  refine ⟨setM_wf hwf ho, e, fun j h => .inl h, hv.ext e, fun j o' hj => ?_⟩
  simp only [applyUpd] at hj
  rw [look_put] at hj
  split at hj
  · next h =>
    subst h
    cases hj
    refine ⟨hu, hl, hrow, b, arr', hc, ho, ?_, hlen, fun i hi => ⟨(hent i hi).1, (hent i hi).2.1, (hent i hi).2.2.ext e⟩⟩
    show (World.setMap S.w b arr' es'.length).heap[b]? = _
    simp [World.setMap, hlt]
  · next h =>
    obtain ⟨h1, h2, h3⟩ := hh j o' hj
    exact ⟨h1, h2, h3.same e (setM_same ho h)⟩

/-- the own map that is named -/
theorem mpk_obj {S : St} {hp : List (Nat × AObj)} {nd : List Nat} {k : Nat} {es : List (Value × AV)} {vm : Value} (hh : HeapOK S hp) (hk : restr hp nd k = some (.map es)) (hm : Rep S vm (.mpk k)) :
    ∃ b arr, vm = .map (some b) ∧ S.used k ∧ S.live k ∧ S.isRow k = false ∧ S.cur k = some b ∧ S.own b = some (some k) ∧ S.w.heap[b]? = some (.map arr es.length) ∧ arr.size = es.length ∧ (∀ i (h : i < es.length), (arr.getD i default).key = es[i].1 ∧ (arr.getD i default).born = i ∧ Rep S (arr.getD i default).val es[i].2) ∧ EntsOK (Rep S) arr.toList es := by
  obtain ⟨hu, hlive, hobj⟩ := hh _ _ (restr_look hk)
  cases hm with
  | i _ _ h => cases h
  | mpk b _ _ hp =>
  obtain ⟨_, b', hb', he⟩ := hp hlive
  obtain ⟨hrow, b'', arr, hb, ho, hheap, hsz, hrep⟩ := hobj
  rw [hb] at hb'
  cases hb'
  cases he
  refine ⟨_, arr, rfl, hu, hlive, hrow, hb, ho, hheap, hsz, hrep, by simpa using hsz, fun i hi => ?_⟩
  obtain ⟨h1, h2, h3⟩ := hrep i hi
  refine ⟨?_, ?_⟩
  · simpa [List.getD_eq_getElem?_getD, Array.getD_eq_getD_getElem?] using h1
  · simpa [List.getD_eq_getElem?_getD, Array.getD_eq_getD_getElem?] using h3

theorem setObj_map_run {w : World} {b : Nat} {arr arr' : Array MapEntry} {c c' : Nat} (hb : w.heap[b]? = some (.map arr c)) : (setObj b (.map arr' c')).run P w = .ok () (World.setMap w b arr' c') := MapKept.run_setObj_map _ hb

theorem keyStays_run {key : Value} {kd : TypeDesc} (h : isKeyA kd key = true) (w : World) : (Instr.keyThatStays key key).run P w = .ok key w := by
  unfold isKeyA at h
  split at h
  · simp [Instr.keyThatStays, Instr.sameBits]
  · simp [Instr.keyThatStays, Instr.sameBits, ba_beq]
  · cases h

/-- entries behind a write at a place -/
theorem modify_ents {S : St} {arr : Array MapEntry} {es : List (Value × AV)} {j : Nat} {key v : Value} {x : AV} (hsz : arr.size = es.length) (hrep : ∀ i (h : i < es.length), (arr.getD i default).key = es[i].1 ∧ (arr.getD i default).born = i ∧ Rep S (arr.getD i default).val es[i].2)
    (hj : j < es.length) (hv : Rep S v x) (f : MapEntry → MapEntry) (f1 : (f (arr.getD j default)).key = key) (f2 : (f (arr.getD j default)).val = v) (f3 : (f (arr.getD j default)).born = (arr.getD j default).born) :
    (arr.modify j f).size = (es.set j (key, x)).length ∧ ∀ i (h : i < (es.set j (key, x)).length), ((arr.modify j f).getD i default).key = (es.set j (key, x))[i].1 ∧ ((arr.modify j f).getD i default).born = i ∧ Rep S ((arr.modify j f).getD i default).val (es.set j (key, x))[i].2 := by
  refine ⟨by simpa using hsz, fun i hi => ?_⟩
  have hi' : i < es.length := by simpa using hi
  have hia : i < arr.size := by omega
  by_cases hji : j = i
  · subst hji
    have e : (arr.modify j f).getD j default = f (arr.getD j default) := by
      simp [Array.getD_eq_getD_getElem?, Array.getElem_modify, hia]
    rw [e, List.getElem_set_self]
    exact ⟨f1, by rw [f3]; exact (hrep j hi').2.1, by rw [f2]; exact hv⟩
  · have e : (arr.modify j f).getD i default = arr.getD i default := by
      simp [Array.getD_eq_getD_getElem?, Array.getElem_modify, hia, hji]
    rw [e, List.getElem_set_ne hji]
    exact hrep i hi'

theorem push_ents {S : St} {arr : Array MapEntry} {es : List (Value × AV)} {key v : Value} {x : AV} (hsz : arr.size = es.length) (hrep : ∀ i (h : i < es.length), (arr.getD i default).key = es[i].1 ∧ (arr.getD i default).born = i ∧ Rep S (arr.getD i default).val es[i].2) (hv : Rep S v x) :
    (arr.push { key, val := v, born := es.length }).size = (es ++ [(key, x)]).length ∧ ∀ i (h : i < (es ++ [(key, x)]).length), ((arr.push { key, val := v, born := es.length }).getD i default).key = (es ++ [(key, x)])[i].1 ∧ ((arr.push { key, val := v, born := es.length }).getD i default).born = i ∧ Rep S ((arr.push { key, val := v, born := es.length }).getD i default).val (es ++ [(key, x)])[i].2 := by
  refine ⟨by simp [hsz], fun i hi => ?_⟩
  by_cases hi' : i < es.length
  · have e : (arr.push { key, val := v, born := es.length }).getD i default = arr.getD i default := by
      rw [Array.getD_eq_getD_getElem?, Array.getElem?_push, if_neg (by omega), Array.getD_eq_getD_getElem?]
    rw [e, List.getElem_append_left hi']
    exact hrep i hi'
  · have he : i = es.length := by simp at hi; omega
    have e : (arr.push { key, val := v, born := es.length }).getD i default = { key, val := v, born := es.length } := by
      rw [Array.getD_eq_getD_getElem?, Array.getElem?_push, if_pos (by omega)]
      rfl
    have e2 : (es ++ [(key, x)])[i] = (key, x) := by
      apply Option.some.inj
      rw [← List.getElem?_eq_getElem, List.getElem?_append_right (by omega)]
      simp [he]
    rw [e, e2]
    exact ⟨rfl, he.symm, hv⟩

theorem mapUpdateA_run {S : St} {key : Nat} {hp : List (Nat × AObj)} {nd : List Nat} {t : TypeId} {m i x : AV} {vm vi vx : Value} {r : R} (hwf : S.wf) (hh : HeapOK S hp) (hr : mapUpdateA P (restr hp nd) t m i x = some r) (hc : AllP r.cond) (hm : Rep S vm m) (hi : Rep S vi i) (hx : Rep S vx x) :
    r.val = .junk ∧ ∃ S', (Instr.mapUpdate t vm vi vx).run P S.w = .ok () S'.w ∧ Post S key (applyUpd hp r.upd) r.val undef S' := by
  unfold mapUpdateA at hr
  split at hr
  · next kt et k ky ht =>
    have hvi := (rep_v hi).1
    rw [hvi]
    split at hr
    · next kd es hk hes =>
      split at hr
      · next hkey =>
        cases hr
        obtain ⟨b, arr, rfl, hu, hl, hrow, hcur, ho, hheap, hsz, hrep, hE⟩ := mpk_obj hh hes hm
        have hck := checkKey_run (P := P) hk hkey S.w false
        refine ⟨rfl, ?_⟩
        rcases find_spec hkey 0 hE hc.1 with ⟨g1, g2, g3, g4⟩ | ⟨v, g1, g2, g3, g4, g5⟩
        · obtain ⟨a1, a2⟩ := push_ents (key := ky) hsz hrep hx
          have hpost := setM_post (key := key) (arr' := arr.push { key := ky, val := vx, born := es.length }) hwf hh hu hl hrow hcur ho hheap a1 a2 (.junk undef)
          rw [g4]
          refine ⟨_, ?_, hpost⟩
          have hlen : (es ++ [(ky, x)]).length = es.length + 1 := by simp
          simp [Instr.mapUpdate, run_underlying ht, getObj_map hheap, hck, Instr.findKey, run_underlying hk, g2, setObj_map_run hheap, St.setM, hlen]
        · have hkv : ((arr[ixM ky es]?).map (·.key)).getD ky = ky := by
            have h1 := (hrep _ g2).1
            rw [List.getElem?_eq_getElem g2] at g3
            have g3 := Option.some.inj g3
            rw [g3] at h1
            rw [Array.getD_eq_getD_getElem?] at h1
            have hlt : ixM ky es < arr.size := by omega
            rw [Array.getElem?_eq_getElem hlt] at h1 ⊢
            simpa using h1
          obtain ⟨a1, a2⟩ := modify_ents (j := ixM ky es) (key := ky) hsz hrep g2 hx (fun e => { e with key := ky, val := vx }) rfl rfl rfl
          have hpost := setM_post (key := key) hwf hh hu hl hrow hcur ho hheap a1 a2 (.junk undef)
          rw [g4]
          refine ⟨_, ?_, hpost⟩
          have hlen : (es.set (ixM ky es) (ky, x)).length = es.length := by simp
          simp only [Instr.mapUpdate, Instr.findKey, Sem.run_bind, Sem.run_pure, run_underlying ht, run_underlying hk, getObj_map hheap, hck, Result.andThen_ok, g5, Nat.zero_add, hkv, keyStays_run (P := P) hkey]
          rw [setObj_map_run hheap, hlen]
          rfl
      · cases hr
    · cases hr
  · cases hr

theorem mapEntryA_run {S : St} {key : Nat} {hp : List (Nat × AObj)} {nd : List Nat} {t : TypeId} {m i : AV} {vm vi : Value} {r : R} (hwf : S.wf) (hh : HeapOK S hp) (hr : mapEntryA P (restr hp nd) t m i = some r) (hc : AllP r.cond) (hm : Rep S vm m) (hi : Rep S vi i) :
    ∃ v S', (Instr.mapEntry t vm vi).run P S.w = .ok v S'.w ∧ Post S key (applyUpd hp r.upd) r.val v S' := by
  unfold mapEntryA at hr
  split at hr
  · next kt et k ky ht =>
    have hvi := (rep_v hi).1
    rw [hvi]
    split at hr
    · next kd es z hk hes hz =>
      split at hr
      · next hkey =>
        cases hr
        obtain ⟨b, arr, rfl, hu, hl, hrow, hcur, ho, hheap, hsz, hrep, hE⟩ := mpk_obj hh hes hm
        obtain ⟨zv, hz1, hz2⟩ := zeroA_run hz S
        have hck := checkKey_run (P := P) hk hkey S.w false
        have tupR : ∀ (v : Value) (y : AV) (j : Int), Rep S v y → Rep S (.tuple #[v, goInt j]) (.tup [y, .v (.int .i64 j)]) := fun v y j h => by
          refine .tup _ _ rfl fun i hi => ?_
          match i, hi with
          | 0, _ => exact h
          | 1, _ => exact .i _ _ (.v _ trivial)
        rcases find_spec hkey 0 hE hc.1 with ⟨g1, g2, g3, g4⟩ | ⟨v, g1, g2, g3, g4, g5⟩
        · obtain ⟨a1, a2⟩ := push_ents (key := ky) hsz hrep hz2
          have hpost := setM_post (key := key) (arr' := arr.push { key := ky, val := zv, born := es.length }) hwf hh hu hl hrow hcur ho hheap a1 a2 (tupR zv z es.length hz2)
          have hlen : (es ++ [(ky, z)]).length = es.length + 1 := by simp
          simp only [g1, lookV, g3, g4]
          refine ⟨_, _, ?_, hpost⟩
          simp [Instr.mapEntry, run_underlying ht, getObj_map hheap, hck, Instr.findKey, run_underlying hk, g2, setObj_map_run hheap, St.setM, hlen, hz1, goInt]
        · have hlt : ixM ky es < arr.size := by omega
          obtain ⟨r1, r2, r3⟩ := hrep _ g2
          rw [List.getElem?_eq_getElem g2] at g3
          have g3 := Option.some.inj g3
          rw [g3] at r1 r3
          have hkv : ((arr[ixM ky es]?).map (·.key)).getD ky = ky := by
            rw [Array.getD_eq_getD_getElem?] at r1
            rw [Array.getElem?_eq_getElem hlt] at r1 ⊢
            simpa using r1
          have hborn : ((arr[ixM ky es]?).map fun x => ((x.born : Nat) : Int)).getD 0 = (ixM ky es : Int) := by
            rw [Array.getD_eq_getD_getElem?] at r2
            rw [Array.getElem?_eq_getElem hlt] at r2 ⊢
            have r2 : arr[ixM ky es].born = ixM ky es := by simpa using r2
            simp [r2]
          have hval : (arr.toList.getD (ixM ky es) default).val = (arr.getD (ixM ky es) default).val := by simp [List.getD_eq_getElem?_getD, Array.getD_eq_getD_getElem?]
          obtain ⟨a1, a2⟩ := modify_ents (j := ixM ky es) (key := ky) hsz hrep g2 r3 (fun e => { e with key := ky }) rfl rfl rfl
          have hpost := setM_post (key := key) hwf hh hu hl hrow hcur ho hheap a1 a2 (tupR _ v (ixM ky es) r3)
          have hlen : (es.set (ixM ky es) (ky, v)).length = es.length := by simp
          simp only [g1, lookV, g4]
          refine ⟨_, _, ?_, hpost⟩
          simp only [Instr.mapEntry, Instr.findKey, Sem.run_bind, Sem.run_pure, run_underlying ht, run_underlying hk, getObj_map hheap, hck, Result.andThen_ok, g5, Nat.zero_add, hkv, hborn, keyStays_run (P := P) hkey, hval]
          rw [setObj_map_run hheap]
          simp only [St.setM, Result.andThen_ok, hlen]
      · cases hr
    · cases hr
  · cases hr

theorem entryStoreA_run {S : St} {key : Nat} {hp : List (Nat × AObj)} {nd : List Nat} {t : TypeId} {m s x : AV} {vm vs vx : Value} {r : R} (hwf : S.wf) (hh : HeapOK S hp) (hr : entryStoreA (restr hp nd) m s x = some r) (hc : AllP r.cond) (hm : Rep S vm m) (hs : Rep S vs s) (hx : Rep S vx x) :
    r.val = .junk ∧ ∃ S', (Instr.entryStore t vm vs vx).run P S.w = .ok () S'.w ∧ Post S key (applyUpd hp r.upd) r.val undef S' := by
  unfold entryStoreA at hr
  split at hr
  · next k j =>
    obtain ⟨rfl, _⟩ := rep_v hs
    split at hr
    · next es hes =>
      cases hr
      obtain ⟨b, arr, rfl, hu, hl, hrow, hcur, ho, hheap, hsz, hrep, hE⟩ := mpk_obj hh hes hm
      obtain ⟨⟨c1, c2⟩, _⟩ := hc
      have hj : j.toNat < es.length := by omega
      have hja : j.toNat < arr.size := by omega
      have hset : setM es j.toNat x = es.set j.toNat (es[j.toNat].1, x) := by
        unfold setM
        apply List.ext_getElem?
        intro i
        rw [List.getElem?_modify, List.getElem?_set]
        by_cases hi : j.toNat = i
        · subst hi
          simp [hj]
        · simp [hi]
      obtain ⟨r1, r2, r3⟩ := hrep _ hj
      obtain ⟨a1, a2⟩ := modify_ents (j := j.toNat) (key := es[j.toNat].1) hsz hrep hj hx (fun e => { e with val := vx }) r1 rfl rfl
      have hpost := setM_post (key := key) hwf hh hu hl hrow hcur ho hheap a1 a2 (.junk undef)
      have hlen : (es.set j.toNat (es[j.toNat].1, x)).length = es.length := by simp
      refine ⟨rfl, _, ?_, by rw [hset]; exact hpost⟩
      have hfi : arr.findIdx? (fun e => (e.born : Int) == j) = some j.toNat := by
        rw [Array.findIdx?_eq_some_iff_getElem]
        refine ⟨hja, ?_, fun i hi => ?_⟩
        · have := r2
          rw [Array.getD_eq_getD_getElem?, Array.getElem?_eq_getElem hja] at this
          have h2 : arr[j.toNat].born = j.toNat := this
          rw [h2]
          simp only [beq_iff_eq]
          omega
        · have := (hrep i (by omega)).2.1
          rw [Array.getD_eq_getD_getElem?, Array.getElem?_eq_getElem (by omega)] at this
          have h2 : arr[i].born = i := this
          rw [h2]
          simp only [beq_iff_eq]
          omega
      simp only [Instr.entryStore, asInt, asIntOf, Sem.run_bind, Sem.run_pure, getObj_map hheap, Result.andThen_ok, hfi]
      rw [setObj_map_run hheap]
      simp only [St.setM, hlen]
    · cases hr
  · cases hr

end
end Go.Ev

/- Conversions, built-in functions, calls. -/
namespace Go.Ev
variable [Globs]

section
variable {P : Program}

theorem widens_eq {a b : IntKind} (_h : widens a b = true) {n : Int} (h : inR b n) : b.wrap n = n := wrap_inR h

theorem strOfInts_eq (l : List Int) : strOfInts l = strOfNums l := rfl

theorem isSliceA_spec {S : St} {x : AV} {v : Value} (h : isSliceA x = true) (hx : Rep S v x) : ∃ a n c, v = .slice a n c := by
  unfold isSliceA at h
  split at h
  · obtain ⟨a, c, h, _⟩ := rep_sl hx; exact ⟨a, _, c, h⟩
  · obtain ⟨a, c, h, _⟩ := (rep_row hx).2.2; exact ⟨a, _, c, h⟩
  · obtain ⟨rfl, _⟩ := rep_v hx; exact ⟨_, _, _, rfl⟩
  · cases hx with
    | i _ _ h => cases h; exact ⟨_, _, _, rfl⟩
  · cases h

/-- where a pointer into an own variable points -/
theorem ptr_cells {S : St} {hp : List (Nat × AObj)} {k off : Nat} {T : TypeId} {cs : List AV} {v : Value} (hh : HeapOK S hp) (hk : look hp k = some (.cells T cs)) (hx : Rep S v (.ptr k off)) :
    ∃ b arr, v = .pointer (some ⟨b, off, none⟩) ∧ S.w.heap[b]? = some (.cells arr T (0, 0)) ∧ arr.size = cs.length := by
  obtain ⟨_, hl, _, b, arr, hc, _, hb, hlen, _⟩ := hh k _ hk
  cases hx with
  | i _ _ h => cases h
  | ptr _ _ _ _ h _ =>
    obtain ⟨_, b', hc', hv⟩ := h hl
    rw [hc] at hc'
    cases hc'
    exact ⟨b, arr, hv, hb, hlen⟩

theorem ptrEqA_run {S : St} {hp : List (Nat × AObj)} {ks : List Nat} {op : BinOp} {t : TypeId} {x y : AV} {vx vy : Value} {r : R} (hh : HeapOK S hp) (hr : ptrEqA P (restr hp ks) op t x y = some r) (hx : Rep S vx x) (hy : Rep S vy y) :
    ∃ v, r.val = .v v ∧ okV v ∧ r.upd = [] ∧ (binOp op t vx vy).run P S.w = .ok v S.w ∧ ∀ X Y, (eqGuard op t X Y vx vy).run P S.w = .ok () S.w := by
  unfold ptrEqA at hr
  split at hr
  · next e k off k' off' ht =>
    split at hr
    · next T cs j hkk hk he =>
      simp only [Bool.and_eq_true] at hkk
      have h1 := Nat.eq_of_beq_eq_true hkk.1
      have h2 := Nat.eq_of_beq_eq_true hkk.2
      subst h1 h2
      obtain ⟨b, arr, rfl, hb, _⟩ := ptr_cells hh (restr_look hk) hx
      obtain ⟨b', arr', rfl, hb', _⟩ := ptr_cells hh (restr_look hk) hy
      obtain ⟨_, hl, _, b0, _, hc0, _⟩ := hh k _ (restr_look hk)
      have e1 : b' = b := by
        cases hx with
        | i _ _ h => cases h
        | ptr _ _ _ _ h _ =>
          cases hy with
          | i _ _ h' => cases h'
          | ptr _ _ _ _ h' _ =>
            obtain ⟨_, b1, hc1, e1⟩ := h hl
            obtain ⟨_, b2, hc2, e2⟩ := h' hl
            rw [hc1] at hc2
            cases hc2
            cases e1
            cases e2
            rfl
      subst e1
      have heq : (Op.equal t (.pointer (some ⟨b', off, none⟩)) (.pointer (some ⟨b', off, none⟩))).run P S.w = .ok true S.w := by
        have h : ∀ d : Nat, (Op.equalIn (d + 1) t (.pointer (some ⟨b', off, none⟩)) (.pointer (some ⟨b', off, none⟩))).run P S.w = .ok true S.w := fun d => by
          simp [Op.equalIn, run_underlying ht, sizeOf, typeInfo, he, run_sameAddr_same]
        exact h 9999
      split at hr
      · cases hr
        exact ⟨_, rfl, trivial, rfl, by simp [binOp, heq], fun X Y => by unfold eqGuard; simp⟩
      · cases hr
        exact ⟨_, rfl, trivial, rfl, by simp [binOp, heq], fun X Y => by unfold eqGuard; simp⟩
      · cases hr
    · cases hr
  · cases hr

theorem convA_run {S : St} {key : Nat} {hp : List (Nat × AObj)} {ks : List Nat} {src dst : TypeId} {x : AV} {v : Value} {r : R} (hwf : S.wf) (hh : HeapOK S hp) (hr : convA P (restr hp ks) src dst x = some r) (hc : AllP r.cond) (hx : Rep S v x) :
    ∃ y S', (convert src dst v).run P S.w = .ok y S'.w ∧ Post S key (applyUpd hp r.upd) r.val y S' := by
  have same : ∀ y, (convert src dst v).run P S.w = .ok y S.w → r.upd = [] → Rep S y r.val → ∃ y S', (convert src dst v).run P S.w = .ok y S'.w ∧ Post S key (applyUpd hp r.upd) r.val y S' := by
    intro y h1 h2 h3
    refine ⟨y, S, h1, hwf, Ext.refl S, fun k h => .inl h, h3, ?_⟩
    rw [h2]
    exact hh
  unfold convA at hr
  split at hr
  · next d k k' n hs hd =>
    obtain ⟨rfl, _⟩ := rep_v hx
    have hrun : (convert src dst (.int k' n)).run P S.w = .ok (.int k (k.wrap n)) S.w := by simp [convert, run_underlying hs, run_underlying hd, Conv.intToInt]
    split at hr
    · next hwd =>
      cases hr
      have := wrap_inR hc.1
      rw [this] at hrun
      exact same _ hrun rfl (.v trivial)
    · cases hr
      exact same _ hrun rfl (.v trivial)
  · next d s hs hd =>
    obtain ⟨rfl, _⟩ := rep_v hx
    cases hr
    exact same _ (by simp [convert, run_underlying hs, run_underlying hd]) rfl (.v trivial)
  · next e s hs hd =>
    obtain ⟨rfl, _⟩ := rep_v hx
    split at hr
    · next he =>
      cases hr
      have hrun := run_bytes_of_string (P := P) S.w src dst e s hs hd he
      have hg : Grows S.w (S.w.drew.alloc (.cells (bytesRow s (grownCap S.w s.size 0 e)) e ((bytesRow s (grownCap S.w s.size 0 e)).size, (bytesRow s (grownCap S.w s.size 0 e)).size + 1))) := (Grows.drew S.w).trans (alloc_grows _ _)
      refine ⟨_, S.at _, hrun, wf_at hg hwf, ext_at hg hwf, fun k h => .inl h, ?_, heap_at hg hwf hh⟩
      have hge := grownCap_ge S.w s.size 0 e
      have hlen : (Seq.ints (α := AV) .u8 (intsOfStr s)).len = s.size := intsOfStr_len s
      have hbs : s.size ≤ (bytesRow s (grownCap S.w s.size 0 e)).size := by
        have : s.data.size = s.size := rfl
        simp [bytesRow]
      refine new_sl hwf (Grows.drew S.w) (Nat.succ_pos 0) hlen hge (fun h => by cases h) (by simpa using hbs) (fun i _ => rfl) (fun i j hi hj => ?_)
      have hj0 : j = 0 := by simpa [Seq.get, AV.cells] using hj
      subst hj0
      have hi2 : i < s.data.size := hi
      simp only [Seq.get, AV.cells, List.getElem_cons_zero, Nat.mul_one, Nat.add_zero]
      have e1 : (bytesRow s (grownCap S.w s.size 0 e)).getD i undef = .int .u8 (s.data[i].toNat : Int) := by
        unfold bytesRow
        rw [getD_append_left (by simpa using hi2), Array.getD_eq_getD_getElem?, Array.getElem?_map, Array.getElem?_eq_getElem hi2]
        rfl
      have e2 : (intsOfStr s).getD i 0 = (s.data[i].toNat : Int) := by simp [intsOfStr, Array.getElem?_eq_getElem hi2]
      rw [e1, e2]
      exact ⟨.v _ trivial, trivial⟩
    · cases hr
  · next e hs hd hne =>
    split at hr
    · next l c he hcont hsl =>
      cases hr
      have hsz : ∃ sz, sizeA P e = some sz := by
        unfold contents at hcont
        split at hcont
        · cases hcont
        · next s hs => exact ⟨s, hs⟩
      obtain ⟨sz, hsz⟩ := hsz
      obtain ⟨hl, arr, ha, hf⟩ := contents_spec hh hsz hcont hc hx
      obtain ⟨a, n, c', rfl⟩ := isSliceA_spec hsl hx
      have hbytes : sz = 1 ∨ l = [] := by
        rcases Nat.eq_zero_or_pos l.length with h0 | h0
        · exact .inr (List.eq_nil_of_length_eq_zero h0)
        · left
          have := ha.2.1 0 h0
          simpa [Seq.get, AV.cells] using this.symm
      have harr : arr = (l.map (Value.int .u8)).toArray := by
        rcases hbytes with h1 | h1
        · subst h1
          apply Array.ext
          · have := ha.1
            simpa [Seq.len] using this
          · intro i h1 h2
            have hi : i < l.length := by simpa using h2
            have := (ha.2.2 i 0 hi (by simp [Seq.get, AV.cells])).1
            simp only [Nat.mul_one, Nat.add_zero, Seq.get, AV.cells, List.getElem_cons_zero] at this
            obtain ⟨h3, _⟩ := rep_v this
            rw [Array.getD_eq_getD_getElem?, Array.getElem?_eq_getElem h1] at h3
            simp only [Option.getD_some] at h3
            rw [h3]
            simp [hi]
        · subst h1
          apply Array.eq_empty_of_size_eq_zero
          rw [ha.1]
          simp [Seq.len]
      have hfc := hf S.w rfl
      have hlen : n = l.length := by
        have := hl S.w
        simp only [Builtin.lenOf, Sem.run_pure] at this
        injection this
      subst hlen
      have hlsz : l.length * sz = l.length := by
        rcases hbytes with h1 | h1
        · rw [h1, Nat.mul_one]
        · rw [h1]; simp
      refine same (.string (strOfInts l)) ?_ rfl (.v trivial)
      rw [run_convert_bytes_string S.w src dst e a l.length c' hs he hd]
      cases a with
      | none =>
        have : arr = #[] := by
          have : Result.ok #[] S.w = Result.ok arr S.w := hfc
          injection this with h
          exact h.symm
        rw [this] at harr
        have hl0 : l = [] := by
          have := congrArg Array.size harr
          simp at this
          exact List.eq_nil_of_length_eq_zero this.symm
        subst hl0
        rfl
      | some ad =>
        have hload : (loadCells ad l.length).run P S.w = .ok (l.map (Value.int .u8)).toArray S.w := by
          rw [← harr]
          have : (loadCells ad (l.length * sz)).run P S.w = .ok arr S.w := hfc
          rwa [hlsz] at this
        rw [run_bytesToString S.w ad l.length c' l hload, foldl_push_bytes]
        congr 2
        simp [strOfInts, ByteArray.empty, ByteArray.emptyWithCapacity]
        rfl
    · cases hr
  · next t k off hs hd =>
    split at hr
    · next T cs j hk ht =>
      split at hr
      · next hlt hz =>
        cases hr
        obtain ⟨b, arr, hv, hb, hlen⟩ := ptr_cells hh (restr_look hk) hx
        subst hv
        refine same _ ?_ rfl hx
        refine Go.Lib.run_to_unsafe (P := P) S.w (j := j) (e := T) (cells := arr.size) ⟨b, off, none⟩ hs hd ht (fun h => ?_) (by simp [World.shape?, hb]) ?_
        · rw [h] at hz; cases hz
        · rw [Nat.blt_eq] at hlt
          show off < arr.size
          omega
      · cases hr
    · cases hr
  · next u k off hs hd =>
    split at hr
    · next T cs j hk ht =>
      split at hr
      · next hlies =>
        cases hr
        obtain ⟨b, arr, hv, hb, hlen⟩ := ptr_cells hh (restr_look hk) hx
        subst hv
        refine same _ ?_ rfl hx
        exact Go.Lib.run_from_unsafe (P := P) S.w (j := j) (e := T) (cells := arr.size) ⟨b, off, none⟩ hs hd ht (by simp [World.shape?, hb]) (by rw [hlen]; exact hlies)
      · cases hr
    · cases hr
  · cases hr

/-! ### built-in functions -/

theorem builtinA_run {S : St} {key : Nat} {hp : List (Nat × AObj)} {ks : List Nat} {b : Builtin} {ts : List TypeId} {ty : TypeId} {xs : List AV} {vs : List Value} {consts : Array Bool} {r : R} (hwf : S.wf) (hh : HeapOK S hp) (hkey : ¬ S.used key) (hr : builtinA P key (restr hp ks) b ts xs = some r) (hc : AllP r.cond)
    (hl : vs.length = xs.length) (hx : ∀ i (h1 : i < vs.length) (h2 : i < xs.length), Rep S vs[i] xs[i]) :
    ∃ y S', (builtin b ts.toArray ty consts vs.toArray).run P S.w = .ok (.value y) S'.w ∧ Post S key (applyUpd hp r.upd) r.val y S' := by
  have same : ∀ y, (builtin b ts.toArray ty consts vs.toArray).run P S.w = .ok (.value y) S.w → r.upd = [] → Rep S y r.val → ∃ y S', (builtin b ts.toArray ty consts vs.toArray).run P S.w = .ok (.value y) S'.w ∧ Post S key (applyUpd hp r.upd) r.val y S' := by
    intro y h1 h2 h3
    refine ⟨y, S, h1, hwf, Ext.refl S, fun k h => .inl h, h3, ?_⟩
    rw [h2]
    exact hh
  unfold builtinA at hr
  split at hr
  · next t x =>
    obtain ⟨v, rfl⟩ : ∃ v, vs = [v] := by
      match vs, hl with
      | [v], _ => exact ⟨v, rfl⟩
    have h0 := hx 0 (by simp) (by simp)
    simp only [List.getElem_cons_zero] at h0
    clear hx
    split at hr
    · next s ht =>
      cases hr
      obtain ⟨rfl, _⟩ := rep_v h0
      exact same _ (by simp [builtin, Builtin.len_, run_underlying ht]; rfl) rfl (.v trivial)
    · next e sz q tt ht =>
      cases hr
      obtain ⟨a, c, rfl, _⟩ := rep_sl h0
      exact same _ (by simp [builtin, Builtin.len_, run_underlying ht]; rfl) rfl (.v trivial)
    · next e k off len ver tt ht =>
      cases hr
      obtain ⟨_, _, a, c, rfl, _⟩ := rep_row h0
      exact same _ (by simp [builtin, Builtin.len_, run_underlying ht]; rfl) rfl (.v trivial)
    · next e ht =>
      cases hr
      obtain ⟨rfl, _⟩ := rep_v h0
      exact same _ (by simp [builtin, Builtin.len_, run_underlying ht]; rfl) rfl (.v trivial)
    · next e ht =>
      cases hr
      obtain ⟨ad, c, rfl⟩ : ∃ ad c, v = .slice (some ad) 0 c := by
        cases h0 with
        | i _ _ h => cases h; exact ⟨_, _, rfl⟩
      exact same _ (by simp [builtin, Builtin.len_, run_underlying ht]; rfl) rfl (.v trivial)
    · next n e ht =>
      cases hr
      exact same _ (by simp [builtin, Builtin.len_, run_underlying ht]; rfl) rfl (.v trivial)
    · cases hr
  · next t xt s x =>
    obtain ⟨v, u, rfl⟩ : ∃ v u, vs = [v, u] := by
      match vs, hl with
      | [v, u], _ => exact ⟨v, u, rfl⟩
    have h0 := hx 0 (by simp) (by simp)
    have h1 := hx 1 (by simp) (by simp)
    simp only [List.getElem_cons_zero, List.getElem_cons_succ] at h0 h1
    obtain ⟨y, S', h2, h3⟩ := appendA_run (P := P) (ty := ty) hwf hh hkey hr hc h0 h1
    exact ⟨y, S', by simp [builtin, h2], h3⟩
  · next k x k' y =>
    obtain ⟨v, u, rfl⟩ : ∃ v u, vs = [v, u] := by
      match vs, hl with
      | [v, u], _ => exact ⟨v, u, rfl⟩
    have h0 := hx 0 (by simp) (by simp)
    have h1 := hx 1 (by simp) (by simp)
    simp only [List.getElem_cons_zero, List.getElem_cons_succ] at h0 h1
    obtain ⟨rfl, _⟩ := rep_v h0
    obtain ⟨rfl, _⟩ := rep_v h1
    cases hr
    exact same _ (by simp [builtin, Builtin.max_, Builtin.max2]) rfl (.v trivial)
  · next k x k' y =>
    obtain ⟨v, u, rfl⟩ : ∃ v u, vs = [v, u] := by
      match vs, hl with
      | [v, u], _ => exact ⟨v, u, rfl⟩
    have h0 := hx 0 (by simp) (by simp)
    have h1 := hx 1 (by simp) (by simp)
    simp only [List.getElem_cons_zero, List.getElem_cons_succ] at h0 h1
    obtain ⟨rfl, _⟩ := rep_v h0
    obtain ⟨rfl, _⟩ := rep_v h1
    cases hr
    exact same _ (by simp [builtin, Builtin.min_, Builtin.min2]) rfl (.v trivial)
  · cases hr

end
end Go.Ev

/- Calls of functions by their contracts. -/
namespace Go.Ev
variable [Globs]

/-- what was there is there still, but for what is one's own -/
structure Kept (S S' : St) : Prop where
  size : S.w.heap.size ≤ S'.w.heap.size
  os : S'.w.os = S.w.os
  tape : S'.w.tape = S.w.tape
  output : S'.w.output = S.w.output
  old : ∀ b, b < S.w.heap.size → (∀ k, S.own b ≠ some (some k)) → S'.w.heap[b]? = S.w.heap[b]? ∧ S'.own b = S.own b
  res : ∀ k, rsv ≤ k → S.used k → S'.used k ∧ (S'.live k → S.live k ∧ Moves S S' k)

theorem Ext.kept {S S' : St} (h : Ext S S') : Kept S S' := ⟨h.size, h.os, h.tape, h.output, h.old, fun k _ hu => ⟨h.used k hu, fun hl => ⟨(h.keys k hu hl).1, (h.keys k hu hl).2.2.2.2⟩⟩⟩
theorem Kept.refl (S : St) : Kept S S := (Ext.refl S).kept
theorem Kept.trans {S S' S'' : St} (h : Kept S S') (g : Kept S' S'') : Kept S S'' := by
  refine ⟨Nat.le_trans h.size g.size, g.os.trans h.os, g.tape.trans h.tape, g.output.trans h.output, fun b hb ho => ?_, fun k hk hu => ?_⟩
  · obtain ⟨h1, h2⟩ := h.old b hb ho
    obtain ⟨g1, g2⟩ := g.old b (Nat.lt_of_lt_of_le hb h.size) (fun k => by rw [h2]; exact ho k)
    exact ⟨g1.trans h1, g2.trans h2⟩
  · obtain ⟨h1, h2⟩ := h.res k hk hu
    obtain ⟨g1, g2⟩ := g.res k hk h1
    refine ⟨g1, fun hl => ?_⟩
    obtain ⟨g3, g4⟩ := g2 hl
    exact ⟨(h2 g3).1, (h2 g3).2.trans g4⟩

/-- what a call comes to: the callee's value at once, or its run -/
def CalledTo (P : Program) (f : FuncId) (vals : Array Value) (w : World) (R : Value → World → Prop) : Prop :=
  match (callFunc f vals).run P w with
  | .ok (.value v) w' => R v w'
  | .ok (.enter g args) w' => w' = w ∧ Calls P g args w fun e w'' => ∃ v, e = .returned v ∧ R v w''
  | _ => False

/-- values, each of which means what is said, with no own keys -/
def RepIs (w : World) (U : Nat → Prop) (vs : List Value) (xs : List AV) : Prop :=
  vs.length = xs.length ∧ ∀ i (h1 : i < vs.length) (h2 : i < xs.length), RepI w U vs[i] xs[i]

/-- THE CONTRACT OF A FUNCTION THAT KEEPS NOTHING: called with what means ys it returns what means r, and nothing that was there has turned. -/
def PureTo (P : Program) (f : FuncId) (ys : List AV) (r : AV) : Prop :=
  ∀ (S : St) (vals : List Value), S.wf → RepIs S.w S.free vals ys → CalledTo P f vals.toArray S.w fun v w' => Grows S.w w' ∧ RepI w' S.free v r

def RepsS (S : St) (vs : List Value) (xs : List AV) : Prop :=
  vs.length = xs.length ∧ ∀ i (h1 : i < vs.length) (h2 : i < xs.length), Rep S vs[i] xs[i]

/-- the lent objects are what is said -/
def ObjsOK (S : St) (os : List AObj) : Prop := ∀ i o, os[i]? = some o → S.used (rsv + i) ∧ S.live (rsv + i) ∧ ObjOK S (rsv + i) o

/-- THE CONTRACT OF A FUNCTION TO WHICH OBJECTS ARE LENT: called where these are os, with what means ys, it returns what means r, the objects are os' (which may hold one more, that is new), and nothing else that was there has turned. -/
def SharedTo (P : Program) (f : FuncId) (os : List AObj) (ys : List AV) (r : AV) (os' : List AObj) : Prop :=
  ∀ (S : St) (vals : List Value), S.wf → ObjsOK S os → (∀ k, S.used k → ∃ i, i < os.length ∧ k = rsv + i) → RepsS S vals ys →
    CalledTo P f vals.toArray S.w fun v w' => ∃ S', S'.w = w' ∧ S'.wf ∧ Kept S S' ∧ ObjsOK S' os' ∧ Rep S' v r

def SigOK (P : Program) (f : FuncId) : Sig → Prop
  | .p sig => ∀ ys r c, sig ys = some (r, c) → AllP c → PureTo P f ys r
  | .s _ sig => ∀ os ys r os' c, sig os ys = some (r, os', c) → AllP c → SharedTo P f os ys r os'

/-- the contracts that a walk may use -/
def SigsOK (P : Program) (SG : SGT) : Prop := ∀ f sig, look SG f = some sig → SigOK P f sig

/-- own rows that are handed on: nobody writes them for now -/
def St.lend (S : St) (ks : List Nat) : St :=
  { S with own := fun b => match S.own b with
      | some (some k) => if k ∈ ks then none else some (some k)
      | o => o }

theorem lend_own {S : St} {ks : List Nat} {b : Nat} {o : Option Nat} (h : (S.lend ks).own b = some o) : S.own b = some o ∧ ∀ k, o = some k → k ∉ ks := by
  have h' : (match S.own b with | some (some k) => if k ∈ ks then none else some (some k) | o => o) = some o := h
  split at h'
  · next k hk =>
    split at h'
    · cases h'
    · next hn => cases h'; exact ⟨hk, fun k' e => by cases e; exact hn⟩
  · next hne => exact ⟨h', fun k e => by subst e; exact (hne k h').elim⟩

theorem lend_free {S : St} {ks : List Nat} {b : Nat} (h : S.free b) : (S.lend ks).free b := by
  show (match S.own b with | some (some k) => if k ∈ ks then none else some (some k) | o => o) = none
  rw [show S.own b = none from h]

theorem lend_key {S : St} {ks : List Nat} {b k : Nat} (h : S.own b = some (some k)) (hk : k ∈ ks) : (S.lend ks).free b := by
  show (match S.own b with | some (some k) => if k ∈ ks then none else some (some k) | o => o) = none
  rw [h]
  simp [hk]

/-- the state behind a call to which rows were lent that may be part of what it told -/
def St.drop (S : St) (ks : List Nat) (w : World) : St :=
  { S.lend ks with w := w, live := fun k => S.live k ∧ k ∉ ks }

section drop
variable {S : St} {ks : List Nat} {w : World}

theorem drop_same (hwf : S.wf) (hg : Grows S.w w) {k : Nat} (hk : k ∉ ks) : Same S (S.drop ks w) k := by
  refine ⟨rfl, rfl, rfl, rfl, rfl, fun b hb => ⟨hg.block b (hwf.bound b _ hb), ?_⟩⟩
  show (match S.own b with | some (some k) => if k ∈ ks then none else some (some k) | o => o) = some (some k)
  rw [hb]
  simp [hk]

theorem drop_wf (hwf : S.wf) (hg : Grows S.w w) : (S.drop ks w).wf := by
  refine ⟨fun b o hb => Nat.lt_of_lt_of_le (hwf.bound b o (lend_own hb).1) hg.size, fun k hl => ?_, fun k hl => hwf.lu k hl.1, hwf.glob.keep (fun b hb ho => ⟨hg.block b hb, lend_free ho⟩) hg.size⟩
  intro b hb
  have := hwf.kept k hl.1 b hb
  show (match S.own b with | some (some k) => if k ∈ ks then none else some (some k) | o => o) = some (some k)
  rw [this]
  simp [hl.2]

theorem drop_ext (hwf : S.wf) (hg : Grows S.w w) : Ext S (S.drop ks w) := by
  refine ⟨hg.size, hg.os, hg.tape, hg.output, fun b hb ho => ⟨hg.block b hb, ?_⟩, fun _ h => h, fun k _ hl => ?_⟩
  · show (match S.own b with | some (some k) => if k ∈ ks then none else some (some k) | o => o) = S.own b
    split
    · next k hk => exact (ho k hk).elim
    · rfl
  · have hs := drop_same (ks := ks) hwf hg hl.2
    exact ⟨hl.1, fun _ _ _ _ _ r => hs.row (hwf.kept k hl.1) r, fun _ _ _ _ r => hs.rp (hwf.kept k hl.1) r, fun _ _ r => hs.ptr r, hs.moves (hwf.kept k hl.1)⟩
end drop

theorem lend_wf {S : St} {ks : List Nat} (hwf : S.wf) : ({ S.lend ks with live := fun k => S.live k ∧ k ∉ ks } : St).wf := by
  refine ⟨fun b o hb => hwf.bound b o (lend_own hb).1, fun k hl => ?_, fun k hl => hwf.lu k hl.1, hwf.glob.keep (fun _ _ ho => ⟨rfl, lend_free ho⟩) (Nat.le_refl _)⟩
  intro b hb
  have := hwf.kept k hl.1 b hb
  show (match S.own b with | some (some k) => if k ∈ ks then none else some (some k) | o => o) = some (some k)
  rw [this]
  simp [hl.2]

/-! ### handing on -/

/-- an own row as what it holds, once it is lent -/
theorem row_lent {S : St} {T : TypeId} {k off len ver sz floor : Nat} {q q' : Seq AV} {tight : Bool} {v : Value} {ks : List Nat} (hwf : S.wf) (ho : ObjOK S k (.row T sz q floor)) (hp : SeqPlain q) (hr : RowOK S v k off len ver tight) (hf : floor ≤ ver) (hq : q'.len = len)
    (hg : ∀ i, i < len → q'.get i = q.get (off + i)) (hk : k ∈ ks) (hn : ∃ a c, v = .slice a len c ∧ (a = none → c = 0)) : RepI S.w (S.lend ks).free v (.sl sz q' tight) := by
  obtain ⟨_, o1, o2, o3, o4, _, o5, o6⟩ := ho
  obtain ⟨_, a, c, rfl, h1, h2, h3, h4, h5, h6⟩ := hr
  subst hq
  rcases Nat.eq_zero_or_pos q'.len with h0 | h0
  · cases a with
    | none =>
      obtain ⟨a', c', he, hn⟩ := hn
      cases he
      have := hn rfl
      subst this
      rw [h0]
      exact .slNil _ _ _ h0
    | some ad => exact .sl ad _ c sz q' tight (fun _ _ => undef) rfl h3 h4 o2 (fun h => by omega) (fun i hi => by omega) (fun i j hi => by omega) (fun i j hi => by omega)
  · obtain ⟨ad, rfl, hrest⟩ := h5 h0
    obtain ⟨h7, h8, h9⟩ := hrest (by omega)
    cases hc : S.cur k with
    | none =>
      have h10 := (h9 0 (by rw [o1]; exact Nat.mul_pos h0 o2))
      rw [h10.1] at h10
      have h11 := h10.2
      unfold curCell at h11
      rw [hc] at h11
      cases h11
    | some b =>
      rw [hc] at o6
      obtain ⟨_, arr, ⟨fz, hheap, _⟩, hsz, hrep⟩ := o6
      have hin : ∀ i j, i < q'.len → j < sz → (off + i) * sz + j < arr.size := fun i j hi hj => by
        have : (off + i + 1) * sz ≤ q.len * sz := Nat.mul_le_mul_right _ (by omega)
        rw [Nat.add_mul (off + i), Nat.one_mul] at this
        omega
      refine .sl ad _ c sz q' tight (fun i j => arr.getD ((off + i) * sz + j) undef) rfl h3 h4 o2 (fun _ => lend_key h7 hk) (fun i hi => ?_) (fun i j hi hj => ?_) (fun i j hi hj => ?_)
      · rw [hg i hi]; exact o5 _ (by omega)
      · have hp2 : i * sz + j < q'.len * S.sz k := by
          rw [o1]
          have : (i + 1) * sz ≤ q'.len * sz := Nat.mul_le_mul_right _ hi
          rw [Nat.add_mul, Nat.one_mul] at this
          omega
        have hcell := (h9 (i * sz + j) hp2).1
        unfold curCell at hcell
        rw [hc] at hcell
        simp only [cell_arr hheap] at hcell
        rw [o1, ← Nat.add_assoc, ← Nat.add_mul, Array.getElem?_eq_getElem (hin i j hi hj)] at hcell
        have h11 := (hrep (off + i) j (by omega) (by rw [o5 _ (by omega)]; exact hj)).2
        rw [hcell, Array.getD_eq_getD_getElem?, Array.getElem?_eq_getElem (hin i j hi hj)]
        rw [Array.getD_eq_getD_getElem?, Array.getElem?_eq_getElem (hin i j hi hj)] at h11
        exact ⟨rfl, h11⟩
      · have he := hg i hi
        have hj2 : j < (q.get (off + i)).cells.length := by rw [he] at hj; exact hj
        have h12 := (hrep (off + i) j (by omega) hj2).1
        have hpl := hp (off + i) (show off + i < q.len by omega) _ hj2
        have h13 := plain1_rep h12 hpl
        have h14 : RepI S.w (S.lend ks).free (arr.getD ((off + i) * sz + j) undef) ((q.get (off + i)).cells[j]) := h13.ext fun b _ hU => ⟨rfl, lend_free hU⟩
        simpa [he] using h14

theorem aggPlain {S : St} {v : Value} {cs : List AV} (h : Rep S v (.agg cs)) (hp : cs.all plain1 = true) : RepI S.w S.free v (.agg cs) := by
  obtain ⟨arr, rfl, hs, hr⟩ := rep_agg h
  exact .agg arr cs hs fun i hi => plain1_rep (hr i hi) (List.all_eq_true.1 hp _ (List.getElem_mem hi))

theorem plainA_rep {S : St} {v : Value} {x : AV} (h : Rep S v x) (hp : plainA x = true) : RepI S.w S.free v x := by
  unfold plainA at hp
  split at hp
  · exact aggPlain h hp
  · next cs =>
    obtain ⟨arr, rfl, hs, hr⟩ := rep_tup h
    refine .tup arr _ hs fun i hi => ?_
    have h1 := List.all_eq_true.1 hp _ (List.getElem_mem hi)
    have h2 := hr i hi
    revert h1 h2
    generalize cs[i] = y
    intro h1 h2
    split at h1
    · exact aggPlain h2 h1
    · exact plain1_rep h2 h1
  · cases h with
    | i _ _ h => exact h
    | fnv _ a b _ _ h1 h2 h3 h4 => exact .fnv _ a b _ _ h1 (fun i hi => absurd hi (by simp)) h3 (fun i hi => absurd hi (by simp))
  · cases h with
    | i _ _ h => exact h
    | ifc _ x _ h => exact .ifc _ x _ (plain1_rep h hp)
  · exact plain1_rep h hp

theorem repI_lend {S : St} {ks : List Nat} {v : Value} {x : AV} (h : RepI S.w S.free v x) : RepI S.w (S.lend ks).free v x :=
  h.ext fun _ _ hU => ⟨rfl, lend_free hU⟩

section
variable {P : Program}

theorem snapRow_rep {S : St} {hp : List (Nat × AObj)} {nd ks : List Nat} {k off len ver : Nat} {tight : Bool} {v : Value} {y : AV} {c : List Prop} {kk : List Nat} (hwf : S.wf) (hh : HeapOK S hp) (h : snapRow (restr hp nd) k off len ver tight = some (y, c, kk)) (hc : AllP c)
    (hx : Rep S v (.row k off len ver tight)) (hks : ∀ k, k ∈ kk → k ∈ ks) : RepI S.w (S.lend ks).free v y := by
  obtain ⟨T, sz, q, floor, q', hk, hpl, rfl, rfl, hf, hq⟩ := snapRow_spec h hc
  obtain ⟨hu, hl, ho⟩ := hh _ _ hk
  obtain ⟨_, hr, hn⟩ := rep_row hx
  have hr := hr hl
  have ho2 := ho
  obtain ⟨_, _, _, o3, _⟩ := ho2
  have hr2 := hr
  obtain ⟨_, _, _, _, h1, h2, _⟩ := hr2
  obtain ⟨hq1, hq2⟩ := hq (by omega)
  exact row_lent hwf ho hpl hr hf hq1 hq2 (hks k (by simp)) hn

theorem snap1_rep {S : St} {hp : List (Nat × AObj)} {nd ks : List Nat} {x y : AV} {v : Value} {c : List Prop} {kk : List Nat} (hwf : S.wf) (hh : HeapOK S hp) (h : snap1 (restr hp nd) x = some (y, c, kk)) (hc : AllP c) (hx : Rep S v x) (hks : ∀ k, k ∈ kk → k ∈ ks) :
    RepI S.w (S.lend ks).free v y := by
  unfold snap1 at h
  split at h
  · exact snapRow_rep hwf hh h hc hx hks
  · split at h
    · next hp => cases h; exact repI_lend (plain1_rep hx hp)
    · cases h

theorem snapL_rep {S : St} {hp : List (Nat × AObj)} {nd ks : List Nat} (hwf : S.wf) (hh : HeapOK S hp) : ∀ {xs ys : List AV} {vs : List Value} {c : List Prop} {kk : List Nat}, snapL (restr hp nd) xs = some (ys, c, kk) → AllP c → vs.length = xs.length →
    (∀ i (h1 : i < vs.length) (h2 : i < xs.length), Rep S vs[i] xs[i]) → (∀ k, k ∈ kk → k ∈ ks) → RepIs S.w (S.lend ks).free vs ys
  | [], ys, vs, c, kk, h, _, hl, _, _ => by
    cases h
    exact ⟨hl, fun i h1 h2 => absurd h2 (by simp)⟩
  | x :: xs, ys, vs, c, kk, h, hc, hl, hr, hks => by
    unfold snapL at h
    split at h
    · next y c1 k1 ys' c2 k2 h1 h2 =>
      cases h
      obtain ⟨hc1, hc2⟩ := allP_append hc
      match vs, hl with
      | v :: vs, hl =>
        have a1 := snap1_rep hwf hh h1 hc1 (hr 0 (by simp) (by simp)) (fun k hk => hks k (List.mem_append_left _ hk))
        have a2 := snapL_rep hwf hh h2 hc2 (by simpa using hl) (fun i h1 h2 => hr (i + 1) (by simp; omega) (by simp; omega)) (fun k hk => hks k (List.mem_append_right _ hk))
        refine ⟨by simp [a2.1], fun i h1 h2 => ?_⟩
        cases i with
        | zero => exact a1
        | succ i => exact a2.2 i (by simpa using h1) (by simpa using h2)
    · cases h

theorem snap_rep {S : St} {hp : List (Nat × AObj)} {nd ks : List Nat} {t : TypeId} {x y : AV} {v : Value} {c : List Prop} {kk : List Nat} (hwf : S.wf) (hh : HeapOK S hp) (h : snap P (restr hp nd) t x = some (y, c, kk)) (hc : AllP c) (hx : Rep S v x) (hks : ∀ k, k ∈ kk → k ∈ ks) :
    RepI S.w (S.lend ks).free v y := by
  unfold snap at h
  split at h
  · exact snapRow_rep hwf hh h hc hx hks
  · obtain ⟨rfl, _⟩ := rep_v hx
    split at h
    · split at h
      · cases h
        exact .slNil _ _ _ (seqEmpty_len _)
      · cases h
    · cases h
  · split at h
    · next ds c' k' hl =>
      cases h
      obtain ⟨arr, rfl, hs, hr⟩ := rep_agg hx
      have := snapL_rep (vs := arr.toList) hwf hh hl hc (by simpa using hs) (fun i h1 h2 => by
        have := hr i h2
        rw [Array.getD_eq_getD_getElem?, Array.getElem?_eq_getElem (by simpa using h1)] at this
        simpa using this) hks
      refine .agg arr ds (by simpa using this.1) fun i hi => ?_
      have hi2 : i < arr.size := by have := this.1; simp at this; omega
      have h3 := this.2 i (by simpa using hi2) hi
      rw [Array.getD_eq_getD_getElem?, Array.getElem?_eq_getElem hi2]
      simpa using h3
    · cases h
  · split at h
    · next hp => cases h; exact repI_lend (plainA_rep hx hp)
    · cases h

theorem snaps_rep {S : St} {hp : List (Nat × AObj)} {nd ks : List Nat} (hwf : S.wf) (hh : HeapOK S hp) : ∀ {xs : List AV} {ts : List TypeId} {ys : List AV} {vs : List Value} {c : List Prop} {kk : List Nat}, snaps P (restr hp nd) ts xs = some (ys, c, kk) → AllP c → vs.length = xs.length →
    (∀ i (h1 : i < vs.length) (h2 : i < xs.length), Rep S vs[i] xs[i]) → (∀ k, k ∈ kk → k ∈ ks) → RepIs S.w (S.lend ks).free vs ys
  | [], ts, ys, vs, c, kk, h, _, hl, _, _ => by
    unfold snaps at h
    cases h
    exact ⟨hl, fun i h1 h2 => absurd h2 (by simp)⟩
  | x :: xs, ts, ys, vs, c, kk, h, hc, hl, hr, hks => by
    unfold snaps at h
    split at h
    · next y c1 k1 ys' c2 k2 h1 h2 =>
      cases h
      obtain ⟨hc1, hc2⟩ := allP_append hc
      match vs, hl with
      | v :: vs, hl =>
        have a1 := snap_rep (P := P) hwf hh h1 hc1 (hr 0 (by simp) (by simp)) (fun k hk => hks k (List.mem_append_left _ hk))
        have a2 := snaps_rep hwf hh h2 hc2 (by simpa using hl) (fun i h1 h2 => hr (i + 1) (by simp; omega) (by simp; omega)) (fun k hk => hks k (List.mem_append_right _ hk))
        refine ⟨by simp [a2.1], fun i h1 h2 => ?_⟩
        cases i with
        | zero => exact a1
        | succ i => exact a2.2 i (by simpa using h1) (by simpa using h2)
    · cases h

theorem repI_agg {w : World} {U : Nat → Prop} {v : Value} {cs : List AV} (h : RepI w U v (.agg cs)) : ∃ arr, v = .agg arr ∧ arr.size = cs.length ∧ ∀ i (hi : i < cs.length), RepI w U (arr.getD i undef) cs[i] := by
  cases h with
  | agg arr _ hs hr => exact ⟨arr, rfl, hs, hr⟩

theorem flat1_any {w w' : World} {U U' : Nat → Prop} {v : Value} {x : AV} (h : RepI w U v x) (hf : flat1 x = true) : RepI w' U' v x := by
  cases h with
  | v _ hx => exact .v _ hx
  | fl _ _ _ hx => exact .fl _ _ _ hx
  | _ => cases hf

theorem flat_any {w w' : World} {U U' : Nat → Prop} {v : Value} {x : AV} (h : RepI w U v x) (hf : flat x = true) : RepI w' U' v x := by
  cases h with
  | v _ hx => exact .v _ hx
  | fl _ _ _ hx => exact .fl _ _ _ hx
  | agg arr cs hs hr => exact .agg arr cs hs fun i hi => flat1_any (hr i hi) (List.all_eq_true.1 hf _ (List.getElem_mem hi))
  | tup arr cs hs hr =>
    refine .tup arr cs hs fun i hi => ?_
    have h1 := List.all_eq_true.1 hf _ (List.getElem_mem hi)
    have h2 := hr i hi
    revert h1 h2
    generalize cs[i] = y
    intro h1 h2
    split at h1
    · obtain ⟨arr, he, hs, hr⟩ := repI_agg h2
      rw [he]
      exact .agg arr _ hs fun i hi => flat1_any (hr i hi) (List.all_eq_true.1 h1 _ (List.getElem_mem hi))
    · exact flat1_any h2 h1
  | _ => cases hf

theorem applyUpd_none (hp : List (Nat × AObj)) : ∀ (ks : List Nat) (k : Nat), look (applyUpd hp (ks.map fun k => (k, none))) k = if k ∈ ks then none else look hp k := by
  intro ks
  induction ks generalizing hp with
  | nil => intro k; simp [applyUpd]
  | cons j ks ih =>
    intro k
    simp only [List.map_cons, applyUpd]
    rw [ih, look_drop]
    by_cases h1 : k ∈ ks
    · simp [h1]
    · by_cases h2 : k = j
      · simp [h2]
      · simp [h1, h2]

/-- the call of a function by its contract -/
theorem callP_run {g : FuncId} {sig : List AV → Option (AV × List Prop)} {S : St} {key : Nat} {hp : List (Nat × AObj)} {nd : List Nat} {xs : List AV} {vs : List Value} {r : R} (hsg : SigOK P g (.p sig)) (hwf : S.wf) (hh : HeapOK S hp) (hr : callP P (restr hp nd) g sig xs = some r) (hc : AllP r.cond)
    (hl : vs.length = xs.length) (hx : ∀ i (h1 : i < vs.length) (h2 : i < xs.length), Rep S vs[i] xs[i]) :
    CalledTo P g vs.toArray S.w fun v w' => ∃ S', S'.w = w' ∧ Post S key (applyUpd hp r.upd) r.val v S' := by
  unfold callP at hr
  split at hr
  case h_2 => cases hr
  next ys c kk hsn =>
  split at hr
  case h_2 => cases hr
  next x c' hs =>
  split at hr
  case h_2 => cases hr
  next hpl =>
  cases hr
  obtain ⟨hc1, hc2⟩ := allP_append hc
  have hargs : RepIs S.w (S.lend kk).free vs ys := snaps_rep (P := P) hwf hh hsn hc1 hl hx (fun k h => h)
  have hcall := hsg ys x c' hs hc2 { S.lend kk with live := fun k => S.live k ∧ k ∉ kk } vs (lend_wf hwf) hargs
  -- what is left behind the call
  have post : ∀ v w', Grows S.w w' ∧ RepI w' (S.lend kk).free v x → ∃ S', S'.w = w' ∧ Post S key (applyUpd hp (match flat x with | true => [] | false => kk.map fun k => (k, none))) x v S' := by
    rintro v w' ⟨hg, hrep⟩
    cases hfl : flat x with
    | true => exact ⟨S.at w', rfl, wf_at hg hwf, ext_at hg hwf, fun k h => .inl h, .i _ _ (flat_any hrep hfl), heap_at hg hwf hh⟩
    | false =>
      refine ⟨S.drop kk w', rfl, drop_wf hwf hg, drop_ext hwf hg, fun k h => .inl h, .i _ _ hrep, fun k o hk => ?_⟩
      rw [applyUpd_none] at hk
      split at hk
      · cases hk
      · next hn =>
        obtain ⟨h1, h2, h3⟩ := hh k o hk
        exact ⟨h1, ⟨h2, hn⟩, h3.same (drop_ext hwf hg) (drop_same hwf hg hn)⟩
  unfold CalledTo at hcall ⊢
  show (match (callFunc g vs.toArray).run P S.w with | .ok (.value v) w' => _ | .ok (.enter g args) w' => _ | _ => False)
  revert hcall
  show (match (callFunc g vs.toArray).run P S.w with | .ok (.value v) w' => _ | .ok (.enter g args) w' => _ | _ => False) → _
  cases (callFunc g vs.toArray).run P S.w with
  | halt x w' => exact fun h => h
  | ok n w' =>
    cases n with
    | value v => exact fun h => post v w' h
    | enter f args => exact fun h => ⟨h.1, h.2.mono fun e w'' ⟨v, he, hv⟩ => ⟨v, he, post v w'' hv⟩⟩
    | _ => exact fun h => h

end
end Go.Ev

/- Calls to which own objects are lent. -/
namespace Go.Ev
variable [Globs]

/-! ### the same object under another key -/

/-- key j of S' is key k of S, read at least as narrowly -/
structure KeyTo (S S' : St) (k j : Nat) : Prop where
  cur : S'.cur j = S.cur k
  len : S'.len j = S.len k
  sz : S'.sz j = S.sz k
  floor : S.floor k ≤ S'.floor j
  isRow : S'.isRow j = S.isRow k
  block : ∀ b, S.own b = some (some k) → S'.w.heap[b]? = S.w.heap[b]? ∧ S'.own b = some (some j)

section keyTo
variable {S S' : St} {k j : Nat}

theorem KeyTo.curOwn (h : KeyTo S S' k j) (ho : CurOwn S k) (i : Nat) : curCell S' j i = curCell S k i := by
  unfold curCell
  rw [h.cur]
  cases hc : S.cur k with
  | none => rfl
  | some b => exact cell_same (h.block b (ho b hc)).1

theorem KeyTo.row (h : KeyTo S S' k j) (ho : CurOwn S k) {v : Value} {off len ver : Nat} {t : Bool} (r : RowOK S v k off len ver t) : RowOK S' v j off len ver t := by
  obtain ⟨hrow, a, c, hv, h1, h2, h3, h4, h5, h6⟩ := r
  refine ⟨h.isRow.trans hrow, a, c, hv, h1, by rw [h.len]; exact h2, h3, h4, fun hl => ?_, fun hv => ?_⟩
  · obtain ⟨ad, ha, hrest⟩ := h5 hl
    refine ⟨ad, ha, fun hf => ?_⟩
    obtain ⟨hown, hcur, hcell⟩ := hrest (Nat.le_trans h.floor hf)
    refine ⟨(h.block _ hown).2, by rw [h.cur, h.sz]; exact hcur, fun m hm => ?_⟩
    rw [h.sz] at hm
    rw [h.sz, h.curOwn ho, cell_same (w := S.w) (w' := S'.w) (by rw [add_block]; exact (h.block _ hown).1)]
    exact hcell m hm
  · rw [h.len] at hv
    have := h6 hv
    rw [h.cur]
    cases hc : S.cur k with
    | none => rw [hc] at this; exact this
    | some b =>
      rw [hc] at this
      refine ⟨by rw [h.sz]; exact this.1, ?_⟩
      rw [h.sz]
      unfold blockSize
      rw [(h.block b (ho b hc)).1]
      exact this.2

theorem KeyTo.rp (h : KeyTo S S' k j) (ho : CurOwn S k) {v : Value} {i ver off : Nat} (r : RpOK S v k i ver off) : RpOK S' v j i ver off := by
  obtain ⟨hrow, ad, hv, h1, h2, h3, h4⟩ := r
  refine ⟨h.isRow.trans hrow, ad, hv, h1, by rw [h.len]; exact h2, fun hf => ?_, fun hv => ?_⟩
  · obtain ⟨hown, hcur, hcell⟩ := h3 (Nat.le_trans h.floor hf)
    refine ⟨(h.block _ hown).2, by rw [h.cur, h.sz]; exact hcur, fun m hm => ?_⟩
    rw [h.sz] at hm
    rw [h.sz, h.curOwn ho, cell_same (w := S.w) (w' := S'.w) (by rw [add_block]; exact (h.block _ hown).1)]
    exact hcell m hm
  · rw [h.len] at hv
    obtain ⟨b, hb, ha⟩ := h4 hv
    exact ⟨b, by rw [h.cur]; exact hb, by rw [h.sz]; exact ha⟩

theorem KeyTo.ptr (h : KeyTo S S' k j) {v : Value} {off : Nat} (r : PtrOK S v k off) : PtrOK S' v j off := by
  obtain ⟨hrow, b, hb, hv⟩ := r
  exact ⟨h.isRow.trans hrow, b, by rw [h.cur]; exact hb, hv⟩
end keyTo

/-- what is said by the key map g of S, said of S' -/
structure KeysTo (S S' : St) (g : Nat → Option Nat) : Prop where
  key : ∀ k j, g k = some j → (S.used k → S'.used j) ∧ (S'.live j → S.live k ∧ KeyTo S S' k j ∧ CurOwn S k)
  free : ∀ b, b < S.w.heap.size → S.free b → S'.w.heap[b]? = S.w.heap[b]? ∧ S'.free b

section ren
variable {S S' : St} {g : Nat → Option Nat}

theorem KeysTo.rep1 (h : KeysTo S S' g) {x y : AV} {v : Value} (hx : ren1 g x = some y) (hr : Rep S v x) : Rep S' v y := by
  unfold ren1 at hx
  split at hx
  · next k off len ver t =>
    split at hx
    · next j hj =>
      cases hx
      cases hr with
      | i _ _ h => cases h
      | row _ _ _ _ _ _ hu hro hn =>
        obtain ⟨h1, h2⟩ := h.key k j hj
        exact .row _ _ _ _ _ _ (h1 hu) (fun hl => (h2 hl).2.1.row (h2 hl).2.2 (hro (h2 hl).1)) hn
    · cases hx
  · next k i ver off =>
    split at hx
    · next j hj =>
      cases hx
      cases hr with
      | i _ _ h => cases h
      | rp _ _ _ _ _ hu hro hn =>
        obtain ⟨h1, h2⟩ := h.key k j hj
        exact .rp _ _ _ _ _ (h1 hu) (fun hl => (h2 hl).2.1.rp (h2 hl).2.2 (hro (h2 hl).1)) hn
    · cases hx
  · next k off =>
    split at hx
    · next j hj =>
      cases hx
      cases hr with
      | i _ _ h => cases h
      | ptr _ _ _ hu hro hn =>
        obtain ⟨h1, h2⟩ := h.key k j hj
        exact .ptr _ _ _ (h1 hu) (fun hl => (h2 hl).2.1.ptr (hro (h2 hl).1)) hn
    · cases hx
  · split at hx
    · next hp =>
      cases hx
      exact .i _ _ ((plain1_rep hr hp).ext h.free)
    · cases hx

theorem renL_spec {xs ys : List AV} (h : renL g xs = some ys) : ys.length = xs.length ∧ ∀ i (h1 : i < xs.length) (h2 : i < ys.length), ren1 g xs[i] = some ys[i] := by
  induction xs generalizing ys with
  | nil => cases h; exact ⟨rfl, fun i h1 => absurd h1 (by simp)⟩
  | cons x xs ih =>
    unfold renL at h
    split at h
    · next y ys' h1 h2 =>
      cases h
      obtain ⟨a1, a2⟩ := ih h2
      refine ⟨by simp [a1], fun i g1 g2 => ?_⟩
      cases i with
      | zero => exact h1
      | succ i => exact a2 i (by simpa using g1) (by simpa using g2)
    · cases h

theorem renLL_spec {xs ys : List AV} (h : renLL g xs = some ys) : ys.length = xs.length ∧ ∀ i (h1 : i < xs.length) (h2 : i < ys.length), ren2 g xs[i] = some ys[i] := by
  induction xs generalizing ys with
  | nil => cases h; exact ⟨rfl, fun i h1 => absurd h1 (by simp)⟩
  | cons x xs ih =>
    unfold renLL at h
    split at h
    · next y ys' h1 h2 =>
      cases h
      obtain ⟨a1, a2⟩ := ih h2
      refine ⟨by simp [a1], fun i g1 g2 => ?_⟩
      cases i with
      | zero => exact h1
      | succ i => exact a2 i (by simpa using g1) (by simpa using g2)
    · cases h

theorem KeysTo.rep2 (h : KeysTo S S' g) {x y : AV} {v : Value} (hx : ren2 g x = some y) (hr : Rep S v x) : Rep S' v y := by
  unfold ren2 at hx
  split at hx
  · split at hx
    · next ds hd =>
      cases hx
      obtain ⟨h1, h2⟩ := renL_spec hd
      obtain ⟨arr, rfl, hs, hrep⟩ := rep_agg hr
      exact .agg arr _ (hs.trans h1.symm) fun i hi => h.rep1 (h2 i (by omega) hi) (hrep i (by omega))
    · cases hx
  · exact h.rep1 hx hr

theorem rep_fnv {S : St} {v : Value} {f : Fn} {as bs : List AV} (h : Rep S v (.fnv f as bs)) : ∃ fa ca, v = .func f fa ca ∧ fa.size = as.length ∧ (∀ i (h : i < as.length), Rep S (fa.getD i undef) as[i]) ∧ ca.size = bs.length ∧ (∀ i (h : i < bs.length), Rep S (ca.getD i undef) bs[i]) := by
  cases h with
  | fnv _ a b _ _ h1 h2 h3 h4 => exact ⟨a, b, rfl, h1, h2, h3, h4⟩
  | i _ _ h => cases h with | fnv _ a b _ _ h1 h2 h3 h4 => exact ⟨a, b, rfl, h1, fun i hi => .i _ _ (h2 i hi), h3, fun i hi => .i _ _ (h4 i hi)⟩

theorem KeysTo.rep (h : KeysTo S S' g) {x y : AV} {v : Value} (hx : renA g x = some y) (hr : Rep S v x) : Rep S' v y := by
  unfold renA at hx
  split at hx
  · split at hx
    · next ds hd =>
      cases hx
      obtain ⟨h1, h2⟩ := renLL_spec hd
      obtain ⟨arr, rfl, hs, hrep⟩ := rep_tup hr
      exact .tup arr _ (hs.trans h1.symm) fun i hi => h.rep2 (h2 i (by omega) hi) (hrep i (by omega))
    · cases hx
  · split at hx
    · next as' bs' h1 h2 =>
      cases hx
      obtain ⟨a1, a2⟩ := renL_spec h1
      obtain ⟨b1, b2⟩ := renL_spec h2
      obtain ⟨fa, ca, rfl, e1, e2, e3, e4⟩ := rep_fnv hr
      exact .fnv _ fa ca _ _ (e1.trans a1.symm) (fun i hi => h.rep1 (a2 i (by omega) hi) (e2 i (by omega))) (e3.trans b1.symm) (fun i hi => h.rep1 (b2 i (by omega) hi) (e4 i (by omega)))
    · cases hx
  · exact h.rep2 hx hr

/-- an object under another key; 'up': read as it is now alone -/
theorem KeysTo.obj (h : KeysTo S S' g) {k j : Nat} {o o' : AObj} (ho : renO g o = some o') (hkj : g k = some j) (hl : S'.live j) (up : Bool) (hf : S'.floor j = if up then max (S.len k) (S.floor k) else S.floor k) (hobj : ObjOK S k o) : ObjOK S' j (if up then raised o' else o') := by
  obtain ⟨_, hk, hco⟩ := (h.key k j hkj).2 hl
  cases o with
  | map es => cases ho
  | cells T cs =>
    unfold renO at ho
    simp only at ho
    split at ho
    · next ds hd =>
      cases ho
      obtain ⟨h1, h2⟩ := renL_spec hd
      obtain ⟨hrow, b, arr, hc, hown, hh, hs, hr⟩ := hobj
      have : (if up then raised (AObj.cells T ds) else AObj.cells T ds) = AObj.cells T ds := by cases up <;> rfl
      rw [this]
      exact ⟨hk.isRow.trans hrow, b, arr, hk.cur.trans hc, (hk.block b hown).2, (hk.block b hown).1.trans hh, hs.trans h1.symm, fun i hi => h.rep1 (h2 i (by omega) hi) (hr i (by omega))⟩
    · cases ho
  | row T sz q fl =>
    unfold renO at ho
    simp only at ho
    split at ho
    · next hp =>
      cases ho
      obtain ⟨hrow, h1, h2, h3, h4, h5, h6, h7⟩ := hobj
      have hgen : ∀ fl', S'.floor j = fl' → fl' ≤ q.len → ObjOK S' j (.row T sz q fl') := by
        intro fl' hfl hle
        refine ⟨hk.isRow.trans hrow, hk.sz.trans h1, h2, hk.len.trans h3, hfl, hle, h6, ?_⟩
        rw [hk.cur]
        cases hc : S.cur k with
        | none => rw [hc] at h7; exact h7
        | some b =>
          rw [hc] at h7
          obtain ⟨hown, arr, ⟨fz, hh, hfz⟩, hs, hr⟩ := h7
          refine ⟨(hk.block b hown).2, arr, ⟨fz, (hk.block b hown).1.trans hh, hfz⟩, hs, fun i m hi hm => ⟨?_, (hr i m hi hm).2⟩⟩
          exact .i _ _ ((plain1_rep (hr i m hi hm).1 (plain1_cells hp hi hm)).ext h.free)
      cases up with
      | false => exact hgen fl (by rw [hf]; exact h4) h5
      | true =>
        refine hgen q.len ?_ (Nat.le_refl _)
        rw [hf, if_pos rfl, h3, h4]
        omega
    · cases ho
end ren

/-! ### keys by number -/

theorem keyIx_get {ρ : List Nat} {k i : Nat} (h : keyIx ρ k = some i) : ρ[i]? = some k := by
  induction ρ generalizing i with
  | nil => cases h
  | cons j r ih =>
    unfold keyIx at h
    split at h
    · next hb =>
      cases h
      have := Nat.eq_of_beq_eq_true hb
      subst this
      rfl
    · split at h
      · next i' hi =>
        cases h
        simpa using ih hi
      · cases h

theorem keyIx_none {ρ : List Nat} {k : Nat} (h : keyIx ρ k = none) : k ∉ ρ := by
  induction ρ with
  | nil => simp
  | cons j r ih =>
    unfold keyIx at h
    split at h
    · cases h
    · next hb =>
      split at h
      · cases h
      · next hi =>
        have h1 := ih hi
        intro hm
        rcases List.mem_cons.1 hm with rfl | hm
        · rw [Nat.beq_refl] at hb; cases hb
        · exact h1 hm

theorem keyIx_of {ρ : List Nat} (hd : ρ.Nodup) {k i : Nat} (h : ρ[i]? = some k) : keyIx ρ k = some i := by
  induction ρ generalizing i with
  | nil => simp at h
  | cons j r ih =>
    have hd' := List.nodup_cons.1 hd
    unfold keyIx
    cases i with
    | zero =>
      simp at h
      subst h
      rw [Nat.beq_refl]
    | succ i =>
      have hr : r[i]? = some k := by simpa using h
      have hne : j ≠ k := by
        intro e
        subst e
        exact hd'.1 (List.mem_of_getElem? hr)
      have hb : Nat.beq j k = false := by
        cases hb : Nat.beq j k with
        | false => rfl
        | true => exact absurd (Nat.eq_of_beq_eq_true hb) hne
      rw [hb]
      simp only
      rw [ih hd'.2 hr]

theorem fromR_ix {ρ : List Nat} {j k : Nat} (h : fromR ρ j = some k) : ∃ i, j = rsv + i ∧ ρ[i]? = some k := by
  unfold fromR at h
  split at h
  · next hb => exact ⟨j - rsv, by have := Nat.le_of_ble_eq_true hb; omega, h⟩
  · cases h

theorem fromR_add (ρ : List Nat) (i : Nat) : fromR ρ (rsv + i) = ρ[i]? := by
  unfold fromR
  have : Nat.ble rsv (rsv + i) = true := by rw [Nat.ble_eq]; omega
  rw [this]
  simp

theorem toR_ix {ρ : List Nat} {k j : Nat} (h : toR ρ k = some j) : ∃ i, j = rsv + i ∧ ρ[i]? = some k := by
  unfold toR at h
  split at h
  · next i hi => cases h; exact ⟨i, rfl, keyIx_get hi⟩
  · cases h

theorem dedup_mem (l : List Nat) (k : Nat) : k ∈ dedup l ↔ k ∈ l := by
  induction l with
  | nil => simp [dedup]
  | cons x r ih =>
    unfold dedup
    split
    · next h =>
      rw [ih]
      have := (ih).1
      have hx : x ∈ dedup r := mem_any.1 h
      constructor
      · intro h; exact List.mem_cons_of_mem _ h
      · intro h
        rcases List.mem_cons.1 h with rfl | h
        · rw [← ih]; exact hx
        · exact h
    · simp [ih]
where
  mem_any {ks : List Nat} {k : Nat} : (ks.any (Nat.beq k)) = true ↔ k ∈ ks := by
    rw [List.any_eq_true]
    constructor
    · rintro ⟨x, h1, h2⟩
      have := Nat.eq_of_beq_eq_true h2
      subst this
      exact h1
    · intro h
      exact ⟨k, h, Nat.beq_refl k⟩

theorem dedup_nodup (l : List Nat) : (dedup l).Nodup := by
  induction l with
  | nil => simp [dedup]
  | cons x r ih =>
    unfold dedup
    split
    · exact ih
    · next h =>
      refine List.nodup_cons.2 ⟨fun hm => ?_, ih⟩
      have : (dedup r).any (Nat.beq x) = true := dedup_mem.mem_any.2 hm
      rw [this] at h
      cases h

/-! ### the callee's view -/

/-- the keys of ρ, numbered from rsv on; nothing else is one's own -/
def St.view (S : St) (ρ : List Nat) : St :=
  { w := S.w
    own := fun b => match S.own b with
      | some (some k) => match keyIx ρ k with
        | some i => some (some (rsv + i))
        | none => some none
      | o => o
    cur := fun j => match fromR ρ j with
      | some k => S.cur k
      | none => none
    len := fun j => match fromR ρ j with
      | some k => S.len k
      | none => 0
    sz := fun j => match fromR ρ j with
      | some k => S.sz k
      | none => 0
    floor := fun j => match fromR ρ j with
      | some k => S.floor k
      | none => 0
    isRow := fun j => match fromR ρ j with
      | some k => S.isRow k
      | none => false
    live := fun j => ∃ k, fromR ρ j = some k ∧ S.live k
    used := fun j => ∃ k, fromR ρ j = some k ∧ S.used k }

section view
variable {S : St} {ρ : List Nat}

theorem view_own (hd : ρ.Nodup) {b k i : Nat} (h : S.own b = some (some k)) (hi : ρ[i]? = some k) : (S.view ρ).own b = some (some (rsv + i)) := by
  show (match S.own b with | some (some k) => _ | o => o) = _
  rw [h]
  simp only [keyIx_of hd hi]

theorem view_other {b k : Nat} (h : S.own b = some (some k)) (hi : k ∉ ρ) : (S.view ρ).own b = some none := by
  show (match S.own b with | some (some k) => _ | o => o) = _
  rw [h]
  simp only
  cases hk : keyIx ρ k with
  | none => rfl
  | some i => exact absurd (List.mem_of_getElem? (keyIx_get hk)) hi

theorem view_none {b : Nat} : (S.view ρ).own b = none ↔ S.own b = none := by
  show (match S.own b with | some (some k) => _ | o => o) = _ ↔ _
  split
  · next k hk =>
    rw [hk]
    split <;> simp
  · rfl

theorem view_wf (hd : ρ.Nodup) (h : S.wf) : (S.view ρ).wf := by
  refine ⟨fun b o hb => ?_, fun j ⟨k, hk, hl⟩ => ?_, fun j ⟨k, hk, hl⟩ => ⟨k, hk, h.lu k hl⟩, h.glob.keep (fun _ _ ho => ⟨rfl, view_none.2 ho⟩) (Nat.le_refl _)⟩
  · show b < S.w.heap.size
    cases ho : S.own b with
    | none => rw [view_none.2 ho] at hb; cases hb
    | some o' => exact h.bound b o' ho
  · intro b hb
    have hb' : (match fromR ρ j with | some k => S.cur k | none => none) = some b := hb
    rw [hk] at hb'
    obtain ⟨i, rfl, hi⟩ := fromR_ix hk
    exact view_own hd (h.kept k hl b hb') hi

theorem view_keyTo (hd : ρ.Nodup) {k i : Nat} (hi : ρ[i]? = some k) : KeyTo S (S.view ρ) k (rsv + i) := by
  have hf : fromR ρ (rsv + i) = some k := by rw [fromR_add]; exact hi
  refine ⟨?_, ?_, ?_, ?_, ?_, fun b hb => ⟨rfl, view_own hd hb hi⟩⟩
  · show (match fromR ρ (rsv + i) with | some k => S.cur k | none => none) = _
    rw [hf]
  · show (match fromR ρ (rsv + i) with | some k => S.len k | none => 0) = _
    rw [hf]
  · show (match fromR ρ (rsv + i) with | some k => S.sz k | none => 0) = _
    rw [hf]
  · show _ ≤ (match fromR ρ (rsv + i) with | some k => S.floor k | none => 0)
    rw [hf]
    exact Nat.le_refl _
  · show (match fromR ρ (rsv + i) with | some k => S.isRow k | none => false) = _
    rw [hf]

theorem view_floor {k i : Nat} (hi : ρ[i]? = some k) : (S.view ρ).floor (rsv + i) = S.floor k := by
  have hf : fromR ρ (rsv + i) = some k := by rw [fromR_add]; exact hi
  show (match fromR ρ (rsv + i) with | some k => S.floor k | none => 0) = _
  rw [hf]

theorem view_keys (hd : ρ.Nodup) (hwf : S.wf) : KeysTo S (S.view ρ) (toR ρ) := by
  refine ⟨fun k j hj => ?_, fun b _ hb => ⟨rfl, view_none.2 hb⟩⟩
  obtain ⟨i, rfl, hi⟩ := toR_ix hj
  have hf : fromR ρ (rsv + i) = some k := by rw [fromR_add]; exact hi
  refine ⟨fun hu => ⟨k, hf, hu⟩, fun ⟨k', hk', hl⟩ => ?_⟩
  rw [hf] at hk'
  cases hk'
  exact ⟨hl, view_keyTo hd hi, hwf.kept k hl⟩
end view

/-- what is lent for reading, before a call -/
def St.lent (S : St) (ks : List Nat) : St := { S.lend ks with live := fun k => S.live k ∧ k ∉ ks }

theorem lent_keyTo {S : St} {ks : List Nat} {k : Nat} (hk : k ∉ ks) : KeyTo S (S.lent ks) k k := by
  refine ⟨rfl, rfl, rfl, Nat.le_refl _, rfl, fun b hb => ⟨rfl, ?_⟩⟩
  show (match S.own b with | some (some k) => if k ∈ ks then none else some (some k) | o => o) = _
  rw [hb]
  simp [hk]

theorem lent_keys {S : St} {ks ρ : List Nat} (hd : ρ.Nodup) (hwf : S.wf) (hdis : ∀ k, k ∈ ρ → k ∉ ks) : KeysTo S ((S.lent ks).view ρ) (toR ρ) := by
  have hwf' : (S.lent ks).wf := lend_wf hwf
  refine ⟨fun k j hj => ?_, fun b _ hb => ⟨rfl, view_none.2 (lend_free hb)⟩⟩
  obtain ⟨h1, h2⟩ := (view_keys (S := S.lent ks) hd hwf').key k j hj
  obtain ⟨i, rfl, hi⟩ := toR_ix hj
  have hk := hdis k (List.mem_of_getElem? hi)
  refine ⟨h1, fun hl => ?_⟩
  obtain ⟨a1, a2, _⟩ := h2 hl
  have b := lent_keyTo (S := S) (ks := ks) hk
  exact ⟨a1.1, ⟨a2.cur.trans b.cur, a2.len.trans b.len, a2.sz.trans b.sz, Nat.le_trans b.floor a2.floor, a2.isRow.trans b.isRow, fun c hc => ⟨rfl, (a2.block c (b.block c hc).2).2⟩⟩, hwf.kept k a1.1⟩

/-! ### behind the call -/

/-- the caller's state: T is what the callee left, ρ' the caller's keys of its numbers, ks what was lent for reading -/
def St.merge (S T : St) (ρ' ks : List Nat) : St :=
  { w := T.w
    own := fun b => match T.own b with
      | some (some j) => match fromR ρ' j with
        | some k => some (some k)
        | none => some none
      | some none => match S.own b with
        | some (some k) => if k ∈ ρ' then some none else some (some k)
        | _ => some none
      | none => none
    cur := fun k => match keyIx ρ' k with
      | some i => T.cur (rsv + i)
      | none => S.cur k
    len := fun k => match keyIx ρ' k with
      | some i => T.len (rsv + i)
      | none => S.len k
    sz := fun k => match keyIx ρ' k with
      | some i => T.sz (rsv + i)
      | none => S.sz k
    floor := fun k => match keyIx ρ' k with
      | some i => max (T.len (rsv + i)) (T.floor (rsv + i))
      | none => S.floor k
    isRow := fun k => match keyIx ρ' k with
      | some i => T.isRow (rsv + i)
      | none => S.isRow k
    live := fun k => match keyIx ρ' k with
      | some i => T.live (rsv + i)
      | none => S.live k ∧ k ∉ ks
    used := fun k => S.used k ∨ k ∈ ρ' }

section merge
variable {S T : St} {ρ' ks : List Nat}

theorem merge_ix {k i : Nat} (hi : keyIx ρ' k = some i) : (S.merge T ρ' ks).cur k = T.cur (rsv + i) ∧ (S.merge T ρ' ks).len k = T.len (rsv + i) ∧ (S.merge T ρ' ks).sz k = T.sz (rsv + i) ∧
    (S.merge T ρ' ks).floor k = max (T.len (rsv + i)) (T.floor (rsv + i)) ∧ (S.merge T ρ' ks).isRow k = T.isRow (rsv + i) ∧ ((S.merge T ρ' ks).live k ↔ T.live (rsv + i)) := by
  refine ⟨?_, ?_, ?_, ?_, ?_, ?_⟩
  · show (match keyIx ρ' k with | some i => _ | none => _) = _
    rw [hi]
  · show (match keyIx ρ' k with | some i => _ | none => _) = _
    rw [hi]
  · show (match keyIx ρ' k with | some i => _ | none => _) = _
    rw [hi]
  · show (match keyIx ρ' k with | some i => _ | none => _) = _
    rw [hi]
  · show (match keyIx ρ' k with | some i => _ | none => _) = _
    rw [hi]
  · show (match keyIx ρ' k with | some i => _ | none => _) ↔ _
    rw [hi]

theorem merge_own {b j k : Nat} (h : T.own b = some (some j)) (hj : fromR ρ' j = some k) : (S.merge T ρ' ks).own b = some (some k) := by
  show (match T.own b with | some (some j) => _ | some none => _ | none => none) = _
  rw [h]
  simp only [hj]

theorem merge_none {b : Nat} (h : T.own b = none) : (S.merge T ρ' ks).own b = none := by
  show (match T.own b with | some (some j) => _ | some none => _ | none => none) = _
  rw [h]

theorem merge_some {b : Nat} {o : Option Nat} (h : (S.merge T ρ' ks).own b = some o) : ∃ o', T.own b = some o' := by
  cases hb : T.own b with
  | none => rw [merge_none hb] at h; cases h
  | some o' => exact ⟨o', rfl⟩

theorem merge_other {b k : Nat} (h : T.own b = some none) (hs : S.own b = some (some k)) (hk : k ∉ ρ') : (S.merge T ρ' ks).own b = some (some k) := by
  show (match T.own b with | some (some j) => _ | some none => _ | none => none) = _
  rw [h]
  simp only [hs, if_neg hk]

theorem merge_foreign {b : Nat} (h : T.own b = some none) (hs : ∀ k, S.own b ≠ some (some k)) : (S.merge T ρ' ks).own b = some none := by
  have h' : (S.merge T ρ' ks).own b = (match S.own b with
        | some (some k) => if k ∈ ρ' then some none else some (some k)
        | _ => some none) := by
    show (match T.own b with | some (some j) => _ | some none => _ | none => none) = _
    rw [h]
  rw [h']
  split
  · next k hk => exact absurd hk (hs k)
  · rfl

theorem merge_keys (hd : ρ'.Nodup) (hwf : T.wf) : KeysTo T (S.merge T ρ' ks) (fromR ρ') := by
  refine ⟨fun j k hj => ?_, fun b _ hb => ⟨rfl, merge_none hb⟩⟩
  obtain ⟨i, rfl, hi⟩ := fromR_ix hj
  have hix := keyIx_of hd hi
  obtain ⟨h1, h2, h3, h4, h5, h6⟩ := merge_ix (S := S) (T := T) (ks := ks) hix
  refine ⟨fun _ => .inr (List.mem_of_getElem? hi), fun hl => ?_⟩
  have hl' := h6.1 hl
  exact ⟨hl', ⟨h1, h2, h3, by rw [h4]; omega, h5, fun b hb => ⟨rfl, merge_own hb hj⟩⟩, hwf.kept _ hl'⟩
end merge

section back
variable {S T : St} {ρ ks : List Nat} {key : Nat} {os' : List AObj}

/-- what is known when the callee has returned -/
structure Back (S T : St) (ρ ks : List Nat) (key : Nat) (os' : List AObj) : Prop where
  wf : S.wf
  nd : ρ.Nodup
  dis : ∀ k, k ∈ ρ → k ∉ ks
  fresh : ¬ S.used key
  use : ∀ k, k ∈ ρ → S.used k
  twf : T.wf
  kept : Kept ((S.lent ks).view ρ) T
  objs : ObjsOK T os'
  len : os'.length = ρ.length ∨ os'.length = ρ.length + 1

variable (B : Back S T ρ ks key os')
include B

theorem Back.nd' : (ρ ++ [key]).Nodup := by
  rw [List.nodup_append]
  refine ⟨B.nd, by simp, fun a ha b hb => ?_⟩
  have : b = key := by simpa using hb
  subst this
  intro e
  subst e
  exact B.fresh (B.use _ ha)

theorem Back.ix {k i : Nat} (hi : ρ[i]? = some k) : keyIx (ρ ++ [key]) k = some i := by
  refine keyIx_of B.nd' ?_
  have : i < ρ.length := by
    rcases Nat.lt_or_ge i ρ.length with h | h
    · exact h
    · rw [List.getElem?_eq_none h] at hi; cases hi
  rw [List.getElem?_append_left this]
  exact hi

theorem Back.ixKey : keyIx (ρ ++ [key]) key = some ρ.length := keyIx_of B.nd' (by simp)

theorem Back.notIn {k : Nat} (hu : S.used k) (hk : k ∉ ρ) : k ∉ ρ ++ [key] := by
  intro hm
  rcases List.mem_append.1 hm with h | h
  · exact hk h
  · have : k = key := by simpa using h
    subst this
    exact B.fresh hu

omit B in
theorem Back.notIx {k : Nat} (h : k ∉ ρ ++ [key]) : keyIx (ρ ++ [key]) k = none := by
  cases hk : keyIx (ρ ++ [key]) k with
  | none => rfl
  | some i => exact absurd (List.mem_of_getElem? (keyIx_get hk)) h

/-- a block of a key that was not handed on -/
theorem Back.stay {b k : Nat} (h : S.own b = some (some k)) (hk : k ∉ ρ) (hks : k ∉ ks) : T.own b = some none ∧ T.w.heap[b]? = S.w.heap[b]? := by
  have h1 : (S.lent ks).own b = some (some k) := by
    show (match S.own b with | some (some k) => if k ∈ ks then none else some (some k) | o => o) = _
    rw [h]
    simp [hks]
  have h2 := view_other (S := S.lent ks) h1 hk
  have h3 := B.kept.old b (B.wf.bound b _ h) fun j hj => by rw [h2] at hj; cases hj
  exact ⟨h3.2.trans h2, h3.1⟩

theorem Back.same {k : Nat} (hu : S.used k) (hk : k ∉ ρ) (hks : k ∉ ks) : Same S (S.merge T (ρ ++ [key]) ks) k := by
  have hix := Back.notIx (B.notIn hu hk)
  refine ⟨?_, ?_, ?_, ?_, ?_, fun b hb => ?_⟩
  · show (match keyIx (ρ ++ [key]) k with | some i => _ | none => _) = _
    rw [hix]
  · show (match keyIx (ρ ++ [key]) k with | some i => _ | none => _) = _
    rw [hix]
  · show (match keyIx (ρ ++ [key]) k with | some i => _ | none => _) = _
    rw [hix]
  · show (match keyIx (ρ ++ [key]) k with | some i => _ | none => _) = _
    rw [hix]
  · show (match keyIx (ρ ++ [key]) k with | some i => _ | none => _) = _
    rw [hix]
  · obtain ⟨h1, h2⟩ := B.stay hb hk hks
    exact ⟨h2, merge_other h1 hb (B.notIn hu hk)⟩

theorem Back.mwf : (S.merge T (ρ ++ [key]) ks).wf := by
  refine ⟨fun b o hb => ?_, fun k hl => ?_, fun k hl => ?_, B.twf.glob.keep (fun _ _ ho => ⟨rfl, merge_none ho⟩) (Nat.le_refl _)⟩
  · obtain ⟨o', ho⟩ := merge_some hb
    exact B.twf.bound b o' ho
  · intro b hb
    cases hk : keyIx (ρ ++ [key]) k with
    | some i =>
      obtain ⟨h1, _, _, _, _, h6⟩ := merge_ix (S := S) (T := T) (ks := ks) hk
      rw [h1] at hb
      refine merge_own (B.twf.kept _ (h6.1 hl) b hb) ?_
      rw [fromR_add]
      exact keyIx_get hk
    | none =>
      have hl' : (match keyIx (ρ ++ [key]) k with | some i => T.live (rsv + i) | none => S.live k ∧ k ∉ ks) := hl
      rw [hk] at hl'
      have hb' : (match keyIx (ρ ++ [key]) k with | some i => T.cur (rsv + i) | none => S.cur k) = some b := hb
      rw [hk] at hb'
      have hn := keyIx_none hk
      have ho := B.wf.kept k hl'.1 b hb'
      have := B.stay ho (fun h => hn (List.mem_append_left _ h)) hl'.2
      exact merge_other this.1 ho hn
  · show S.used k ∨ k ∈ ρ ++ [key]
    cases hk : keyIx (ρ ++ [key]) k with
    | some i => exact .inr (List.mem_of_getElem? (keyIx_get hk))
    | none =>
      have hl' : (match keyIx (ρ ++ [key]) k with | some i => T.live (rsv + i) | none => S.live k ∧ k ∉ ks) := hl
      rw [hk] at hl'
      exact .inl (B.wf.lu k hl'.1)

/-- an object that was handed on -/
theorem Back.moves {k i : Nat} (hi : ρ[i]? = some k) (hl : T.live (rsv + i)) : S.live k ∧ S.used k ∧ CurOwn S k ∧ T.isRow (rsv + i) = S.isRow k ∧ T.sz (rsv + i) = S.sz k ∧ S.len k ≤ T.len (rsv + i) ∧
    (T.len (rsv + i) = S.len k → T.cur (rsv + i) = S.cur k ∧ ∀ b, S.cur k = some b → blockSize S.w b ≤ blockSize T.w b) ∧ (S.isRow k = false → T.cur (rsv + i) = S.cur k) := by
  have hm := List.mem_of_getElem? hi
  have kt := view_keyTo (S := S.lent ks) B.nd hi
  have hf : fromR ρ (rsv + i) = some k := by rw [fromR_add]; exact hi
  obtain ⟨_, h2⟩ := B.kept.res (rsv + i) (by omega) ⟨k, hf, B.use k hm⟩
  obtain ⟨⟨k', hk', hl'⟩, mv⟩ := h2 hl
  rw [hf] at hk'
  cases hk'
  have e1 : ((S.lent ks).view ρ).len (rsv + i) = S.len k := kt.len
  have e2 : ((S.lent ks).view ρ).cur (rsv + i) = S.cur k := kt.cur
  refine ⟨hl'.1, B.use k hm, B.wf.kept k hl'.1, mv.isRow.trans kt.isRow, mv.sz.trans kt.sz, by rw [← e1]; exact mv.len, fun e => ⟨(mv.cur (by rw [e1]; exact e)).trans e2, fun b hb => mv.size (by rw [e1]; exact e) b (by rw [e2]; exact hb)⟩, fun e => (mv.var (kt.isRow.trans e)).trans e2⟩

theorem Back.obj {i : Nat} (h : i < ρ.length) : ∃ o, os'[i]? = some o ∧ T.live (rsv + i) ∧ ObjOK T (rsv + i) o := by
  have hlen := B.len
  have hi : i < os'.length := by omega
  obtain ⟨h1, h2, h3⟩ := B.objs i os'[i] (by simp [hi])
  exact ⟨_, by simp [hi], h2, h3⟩

theorem Back.ext : Ext S (S.merge T (ρ ++ [key]) ks) := by
  have hk := B.kept
  refine ⟨hk.size, hk.os, hk.tape, hk.output, fun b hb ho => ?_, fun k hu => .inl hu, fun k hu hl => ?_⟩
  · have h1 : ∀ j, ((S.lent ks).view ρ).own b ≠ some (some j) := by
      intro j hj
      cases hs : S.own b with
      | none =>
        have : (S.lent ks).own b = none := lend_free hs
        rw [view_none.2 this] at hj
        cases hj
      | some o =>
        cases o with
        | some k => exact ho k hs
        | none =>
          have h2 : (S.lent ks).own b = some none := by
            show (match S.own b with | some (some k) => if k ∈ ks then none else some (some k) | o => o) = _
            rw [hs]
          have h3 : ((S.lent ks).view ρ).own b = some none := by
            show (match (S.lent ks).own b with | some (some k) => _ | o => o) = _
            rw [h2]
          rw [h3] at hj
          cases hj
    obtain ⟨h2, h3⟩ := hk.old b hb h1
    refine ⟨h2, ?_⟩
    cases hs : S.own b with
    | none =>
      have : (S.lent ks).own b = none := lend_free hs
      rw [view_none.2 this] at h3
      exact merge_none h3
    | some o =>
      cases o with
      | some k => exact absurd hs (ho k)
      | none =>
        have h2 : (S.lent ks).own b = some none := by
          show (match S.own b with | some (some k) => if k ∈ ks then none else some (some k) | o => o) = _
          rw [hs]
        have h4 : ((S.lent ks).view ρ).own b = some none := by
          show (match (S.lent ks).own b with | some (some k) => _ | o => o) = _
          rw [h2]
        rw [h4] at h3
        exact merge_foreign h3 fun k => by rw [hs]; simp
  · by_cases hm : k ∈ ρ
    · obtain ⟨i, hi, hik⟩ := List.getElem_of_mem hm
      have hi' : ρ[i]? = some k := by rw [List.getElem?_eq_getElem hi, hik]
      have hix := B.ix hi'
      obtain ⟨m1, m2, m3, m4, m5, m6⟩ := merge_ix (S := S) (T := T) (ks := ks) hix
      have hl' := m6.1 hl
      obtain ⟨a1, a2, a3, a4, a5, a6, a7, a8⟩ := B.moves hi' hl'
      obtain ⟨o, _, _, hobj⟩ := B.obj hi
      have own : ∀ b, T.cur (rsv + i) = some b → (S.merge T (ρ ++ [key]) ks).own b = some (some k) := fun b hb => merge_own (B.twf.kept _ hl' b hb) (by rw [fromR_add]; exact keyIx_get hix)
      have hcells : S.isRow k = true → ∀ b, T.cur (rsv + i) = some b → ∀ p, p < blockSize T.w b → (T.w.cell? ⟨b, p, none⟩).isSome := by
        intro hr b hb p hp
        cases o with
        | cells Ty cs => have := hobj.1; rw [a4, hr] at this; cases this
        | map es => have := hobj.1; rw [a4, hr] at this; cases this
        | row Ty sz q fl =>
          obtain ⟨_, _, _, _, _, _, _, h8⟩ := hobj
          rw [hb] at h8
          obtain ⟨_, arr, ⟨fz, hh, _⟩, _, _⟩ := h8
          rw [cell_arr hh]
          rw [blockSize_of hh] at hp
          simp [hp]
      have hmv : Moves S (S.merge T (ρ ++ [key]) ks) k := by
        refine ⟨m5.trans a4, m3.trans a5, by rw [m2]; exact a6, fun e => ?_, fun e => by rw [m1]; exact a8 e, fun e b hb => ?_⟩
        · rw [m2] at e; rw [m1]; exact (a7 e).1
        · rw [m2] at e; exact (a7 e).2 b hb
      refine ⟨a1, ?_, ?_, ?_, hmv⟩
      · rintro v off len ver t ⟨hrow, a, c, hv, h1, h2, h3, h4, h5, h6⟩
        refine ⟨m5.trans (a4.trans hrow), a, c, hv, h1, by rw [m2]; omega, h3, h4, fun h0 => ?_, fun he => ?_⟩
        · obtain ⟨ad, ha, _⟩ := h5 h0
          refine ⟨ad, ha, fun hf => ?_⟩
          rw [m4] at hf
          have hver : ver = S.len k := by omega
          have hle : T.len (rsv + i) = S.len k := by omega
          obtain ⟨c1, c2⟩ := a7 hle
          have h6' := h6 hver
          rw [m1, m3, c1, a5]
          cases hc : S.cur k with
          | none => rw [hc] at h6'; rw [h6'.1] at ha; cases ha
          | some b =>
            rw [hc] at h6'
            obtain ⟨g1, g2⟩ := h6'
            have g1 := g1 (by omega)
            rw [ha] at g1
            cases g1
            refine ⟨own b (by rw [c1]; exact hc), fun _ => rfl, fun m hm => ?_⟩
            have hcur : curCell (S.merge T (ρ ++ [key]) ks) k (off * S.sz k + m) = T.w.cell? ⟨b, off * S.sz k + m, none⟩ := by
              unfold curCell
              rw [m1, c1, hc]
              rfl
            rw [hcur, addr_add]
            refine ⟨rfl, hcells hrow b (by rw [c1]; exact hc) _ ?_⟩
            have g3 := c2 b hc
            have g4 : (off + len) * S.sz k ≤ (off + c) * S.sz k := Nat.mul_le_mul_right _ (by omega)
            rw [Nat.add_mul off len] at g4
            omega
        · rw [m2] at he
          have hver : ver = S.len k := by omega
          have hle : T.len (rsv + i) = S.len k := by omega
          obtain ⟨c1, c2⟩ := a7 hle
          have h6' := h6 hver
          rw [m1, m3, c1, a5]
          cases hc : S.cur k with
          | none => rw [hc] at h6'; exact h6'
          | some b =>
            rw [hc] at h6'
            exact ⟨h6'.1, Nat.le_trans h6'.2 (c2 b hc)⟩
      · rintro v p ver off ⟨hrow, ad, hv, h1, h2, h3, h4⟩
        refine ⟨m5.trans (a4.trans hrow), ad, hv, h1, by rw [m2]; omega, fun hf => ?_, fun he => ?_⟩
        · rw [m4] at hf
          have hver : ver = S.len k := by omega
          have hle : T.len (rsv + i) = S.len k := by omega
          obtain ⟨c1, c2⟩ := a7 hle
          obtain ⟨b, hb, rfl⟩ := h4 hver
          have hcb : T.cur (rsv + i) = some b := by rw [c1]; exact hb
          rw [m3, a5]
          refine ⟨own b hcb, fun _ => rfl, fun m hm => ?_⟩
          have hcur : curCell (S.merge T (ρ ++ [key]) ks) k (p * S.sz k + off + m) = T.w.cell? ⟨b, p * S.sz k + off + m, none⟩ := by
            unfold curCell
            rw [m1, hcb]
            rfl
          rw [hcur, addr_add]
          refine ⟨rfl, hcells hrow b hcb _ ?_⟩
          cases o with
          | cells Ty cs => have := hobj.1; rw [a4, hrow] at this; cases this
          | map es => have := hobj.1; rw [a4, hrow] at this; cases this
          | row Ty sz q fl =>
            obtain ⟨_, o1, _, o3, _, _, _, h8⟩ := hobj
            rw [hcb] at h8
            obtain ⟨_, arr, ⟨fz, hh, _⟩, hsz, _⟩ := h8
            rw [blockSize_of hh]
            have e1 : sz = S.sz k := o1.symm.trans a5
            have e2 : q.len = S.len k := o3.symm.trans hle
            rw [e1, e2] at hsz
            have g4 : (p + 1) * S.sz k ≤ S.len k * S.sz k := Nat.mul_le_mul_right _ (by omega)
            rw [Nat.add_mul, Nat.one_mul] at g4
            omega
        · rw [m2] at he
          have hver : ver = S.len k := by omega
          have hle : T.len (rsv + i) = S.len k := by omega
          obtain ⟨b, hb, ha⟩ := h4 hver
          exact ⟨b, by rw [m1, (a7 hle).1]; exact hb, by rw [m3, a5]; exact ha⟩
      · rintro v off ⟨hrow, b, hb, hv⟩
        exact ⟨m5.trans (a4.trans hrow), b, by rw [m1, a8 hrow]; exact hb, hv⟩
    · have hix := Back.notIx (B.notIn hu hm)
      have hl' : (match keyIx (ρ ++ [key]) k with | some i => T.live (rsv + i) | none => S.live k ∧ k ∉ ks) := hl
      rw [hix] at hl'
      have hs := B.same hu hm hl'.2
      have ho := B.wf.kept k hl'.1
      exact ⟨hl'.1, fun _ _ _ _ _ r => hs.row ho r, fun _ _ _ _ r => hs.rp ho r, fun _ _ r => hs.ptr r, hs.moves ho⟩
end back

/-! ### the call -/

theorem objsA_spec {hp : Nat → Option AObj} {g : Nat → Option Nat} {ρ : List Nat} {os : List AObj} (h : objsA hp g ρ = some os) : os.length = ρ.length ∧ ∀ (i k : Nat), ρ[i]? = some k → ∃ o o', hp k = some o ∧ renO g o = some o' ∧ os[i]? = some o' := by
  induction ρ generalizing os with
  | nil => cases h; exact ⟨rfl, fun i k h => by simp at h⟩
  | cons j r ih =>
    unfold objsA at h
    split at h
    · next o ho =>
      split at h
      · next o' os' h1 h2 =>
        cases h
        obtain ⟨a1, a2⟩ := ih h2
        refine ⟨by simp [a1], fun i k hk => ?_⟩
        cases i with
        | zero => simp at hk; subst hk; exact ⟨o, o', ho, h1, rfl⟩
        | succ i => exact a2 i k (by simpa using hk)
      · cases h
    · cases h

theorem backA_spec {g : Nat → Option Nat} {ks : List Nat} {os : List AObj} {up : List (Nat × Option AObj)} (h : backA g ks os = some up) (hd : ks.Nodup) : ∀ (hp : List (Nat × AObj)) (k : Nat) (o : AObj), look (applyUpd hp up) k = some o →
    (∃ (i : Nat) (o1 o' : AObj), ks[i]? = some k ∧ os[i]? = some o1 ∧ renO g o1 = some o' ∧ o = raised o') ∨ (look hp k = some o ∧ ∀ i : Nat, i < os.length → ks[i]? ≠ some k) := by
  induction os generalizing ks up with
  | nil =>
    intro hp k o hk
    cases ks <;> (unfold backA at h; cases h; exact .inr ⟨hk, fun i hi => absurd hi (by simp)⟩)
  | cons o1 os ih =>
    intro hp k o hk
    cases ks with
    | nil => unfold backA at h; cases h
    | cons j ks =>
      unfold backA at h
      split at h
      · next o' l h1 h2 =>
        cases h
        have hd' := List.nodup_cons.1 hd
        rcases ih h2 hd'.2 (put1 hp j (raised o')) k o hk with ⟨i, p1, p2, g1, g2, g3, g4⟩ | ⟨g1, g2⟩
        · exact .inl ⟨i + 1, p1, p2, by simpa using g1, by simpa using g2, g3, g4⟩
        · rw [look_put] at g1
          split at g1
          · next e =>
            subst e
            cases g1
            exact .inl ⟨0, o1, o', rfl, rfl, h1, rfl⟩
          · next e =>
            refine .inr ⟨g1, fun i hi => ?_⟩
            cases i with
            | zero => simp; exact fun h => e h.symm
            | succ i => simpa using g2 i (by simpa using hi)
      · cases h

theorem applyUpd_append (hp : List (Nat × AObj)) : ∀ (l m : List (Nat × Option AObj)), applyUpd hp (l ++ m) = applyUpd (applyUpd hp l) m := by
  intro l
  induction l generalizing hp with
  | nil => intro m; rfl
  | cons x l ih =>
    intro m
    obtain ⟨k, o⟩ := x
    cases o <;> exact ih _ m

section
variable {P : Program}

theorem lendA_spec {S : St} {hp : List (Nat × AObj)} {nd ks ρ : List Nat} (hwf : S.wf) (hh : HeapOK S hp) (hK : KeysTo S ((S.lent ks).view ρ) (toR ρ)) : ∀ {xs : List AV} {ms : List Bool} {ts : List TypeId} {ys : List AV} {vs : List Value} {c : List Prop} {kk : List Nat},
    lendA P (restr hp nd) ρ ms ts xs = some (ys, c, kk) → AllP c → vs.length = xs.length → (∀ i (h1 : i < vs.length) (h2 : i < xs.length), Rep S vs[i] xs[i]) → (∀ k, k ∈ kk → k ∈ ks) → RepsS ((S.lent ks).view ρ) vs ys
  | [], ms, ts, ys, vs, c, kk, h, _, hl, _, _ => by
    unfold lendA at h
    cases h
    exact ⟨hl, fun i h1 h2 => absurd h2 (by simp)⟩
  | x :: xs, ms, ts, ys, vs, c, kk, h, hc, hl, hr, hks => by
    unfold lendA at h
    split at h
    · next y c1 k1 ys' c2 k2 h1 h2 =>
      cases h
      obtain ⟨hc1, hc2⟩ := allP_append hc
      match vs, hl with
      | v :: vs, hl =>
        have hr0 : Rep S v x := hr 0 (by simp) (by simp)
        have a1 : Rep ((S.lent ks).view ρ) v y := by
          split at h1
          · split at h1
            · next hy => cases h1; exact hK.rep hy hr0
            · cases h1
          · have := snap_rep (P := P) (ks := ks) hwf hh h1 hc1 hr0 (fun k hk => hks k (List.mem_append_left _ hk))
            exact .i _ _ (this.ext fun b _ hb => ⟨rfl, view_none.2 hb⟩)
        have a2 := lendA_spec hwf hh hK h2 hc2 (by simpa using hl) (fun i h1 h2 => hr (i + 1) (by simp; omega) (by simp; omega)) (fun k hk => hks k (List.mem_append_right _ hk))
        refine ⟨by simp [a2.1], fun i h1 h2 => ?_⟩
        cases i with
        | zero => exact a1
        | succ i => exact a2.2 i (by simpa using h1) (by simpa using h2)
    · cases h

theorem callS_run {g : FuncId} {mask : List Bool} {sig : List AObj → List AV → Option (AV × List AObj × List Prop)} {S : St} {key : Nat} {hp : List (Nat × AObj)} {nd : List Nat} {xs : List AV} {vs : List Value} {r : R} (hsg : SigOK P g (.s mask sig)) (hwf : S.wf) (hh : HeapOK S hp)
    (hkey : ¬ S.used key) (hr : callS P key (restr hp nd) g mask sig xs = some r) (hc : AllP r.cond) (hl : vs.length = xs.length) (hx : ∀ i (h1 : i < vs.length) (h2 : i < xs.length), Rep S vs[i] xs[i]) :
    CalledTo P g vs.toArray S.w fun v w' => ∃ S', S'.w = w' ∧ Post S key (applyUpd hp r.upd) r.val v S' := by
  unfold callS at hr
  simp only at hr
  generalize hρ : dedup (maskKeys mask xs ++ (maskKeys mask xs).flatMap fun k => match restr hp nd k with | some o => objKeys o | none => []) = ρ at hr
  have hd : ρ.Nodup := by rw [← hρ]; exact dedup_nodup _
  split at hr
  case h_2 => cases hr
  next os ys c ks ho hlend =>
  split at hr
  · cases hr
  next hdis =>
  split at hr
  case h_2 => cases hr
  next x os' c' hs =>
  split at hr
  case h_2 => cases hr
  next r' up hlen hren hback =>
  cases hr
  obtain ⟨hc1, hc2⟩ := allP_append hc
  obtain ⟨o1, o2⟩ := objsA_spec ho
  have hdis' : ∀ k, k ∈ ρ → k ∉ ks := fun k hk hk' => by
    have : (ks.any fun k => ρ.any (Nat.beq k)) = true := List.any_eq_true.2 ⟨k, hk', List.any_eq_true.2 ⟨k, hk, Nat.beq_refl k⟩⟩
    rw [this] at hdis
    cases hdis
  have hobj : ∀ (i k : Nat), ρ[i]? = some k → ∃ o o', S.used k ∧ S.live k ∧ ObjOK S k o ∧ renO (toR ρ) o = some o' ∧ os[i]? = some o' := fun i k hk => by
    obtain ⟨o, o', h1, h2, h3⟩ := o2 i k hk
    obtain ⟨g1, g2, g3⟩ := hh k o (restr_look h1)
    exact ⟨o, o', g1, g2, g3, h2, h3⟩
  have huse : ∀ k, k ∈ ρ → S.used k := fun k hk => by
    obtain ⟨i, hi, rfl⟩ := List.getElem_of_mem hk
    obtain ⟨_, _, h, _⟩ := hobj i ρ[i] (by simp [hi])
    exact h
  have hK := lent_keys (ks := ks) hd hwf hdis'
  have hargs := lendA_spec (P := P) hwf hh hK hlend hc1 hl hx fun k h => h
  have hT : ((S.lent ks).view ρ).wf := view_wf hd (lend_wf hwf)
  have hOs : ObjsOK ((S.lent ks).view ρ) os := by
    intro i o' hi
    have hilt : i < ρ.length := by
      rcases Nat.lt_or_ge i os.length with h | h
      · omega
      · rw [List.getElem?_eq_none h] at hi; cases hi
    have hik : ρ[i]? = some ρ[i] := by simp [hilt]
    obtain ⟨o, o'', g1, g2, g3, g4, g5⟩ := hobj i ρ[i] hik
    rw [g5] at hi
    cases hi
    have hf : fromR ρ (rsv + i) = some ρ[i] := by rw [fromR_add]; exact hik
    have hlive : ((S.lent ks).view ρ).live (rsv + i) := ⟨_, hf, g2, hdis' _ (List.getElem_mem hilt)⟩
    have hto : toR ρ ρ[i] = some (rsv + i) := by unfold toR; rw [keyIx_of hd hik]
    exact ⟨⟨_, hf, g1⟩, hlive, hK.obj g4 hto hlive false (view_floor (S := S.lent ks) hik) g3⟩
  have hcall := hsg os ys x os' c' hs hc2 ((S.lent ks).view ρ) vs hT hOs (fun k ⟨k', hk', _⟩ => by
    obtain ⟨i, rfl, hi⟩ := fromR_ix hk'
    refine ⟨i, ?_, rfl⟩
    rcases Nat.lt_or_ge i ρ.length with h | h
    · omega
    · rw [List.getElem?_eq_none h] at hi; cases hi) hargs
  have post : ∀ v w', (∃ T, T.w = w' ∧ T.wf ∧ Kept ((S.lent ks).view ρ) T ∧ ObjsOK T os' ∧ Rep T v x) → ∃ S', S'.w = w' ∧ Post S key (applyUpd hp ((ks.map fun k => (k, none)) ++ up)) r' v S' := by
    rintro v w' ⟨T, rfl, ht, hk, hos, hrep⟩
    have hlen' : os'.length = ρ.length ∨ os'.length = ρ.length + 1 := by
      simp only [Bool.or_eq_true] at hlen
      exact hlen.imp Nat.eq_of_beq_eq_true Nat.eq_of_beq_eq_true
    have B : Back S T ρ ks key os' := ⟨hwf, hd, hdis', hkey, huse, ht, hk, hos, hlen'⟩
    have hM := merge_keys (S := S) (T := T) (ks := ks) B.nd' ht
    refine ⟨S.merge T (ρ ++ [key]) ks, rfl, B.mwf, B.ext, fun k hu => ?_, hM.rep hren hrep, fun k o hk' => ?_⟩
    · rcases hu with h | h
      · exact .inl h
      · rcases List.mem_append.1 h with h | h
        · exact .inl (huse k h)
        · exact .inr (by simpa using h)
    · rw [applyUpd_append] at hk'
      rcases backA_spec hback B.nd' _ _ _ hk' with ⟨i, p1, p2, g1, g2, g3, g4⟩ | ⟨g1, g2⟩
      · subst g4
        obtain ⟨h1, h2, h3⟩ := hos i p1 g2
        have hix := keyIx_of B.nd' g1
        obtain ⟨_, _, _, m4, _, m6⟩ := merge_ix (S := S) (T := T) (ks := ks) hix
        have hfr : fromR (ρ ++ [key]) (rsv + i) = some k := by rw [fromR_add]; exact g1
        have hl := m6.2 h2
        exact ⟨.inr (List.mem_of_getElem? g1), hl, hM.obj g3 hfr hl true m4 h3⟩
      · rw [applyUpd_none] at g1
        split at g1
        · cases g1
        · next hnk =>
          obtain ⟨h1, h2, h3⟩ := hh k o g1
          have hnr : k ∉ ρ := fun hm => by
            obtain ⟨i, hi, hik⟩ := List.getElem_of_mem hm
            exact g2 i (by omega) (by rw [List.getElem?_append_left hi]; simp [hi, hik])
          have hs := B.same h1 hnr hnk
          refine ⟨.inl h1, ?_, h3.same B.ext hs⟩
          show (match keyIx (ρ ++ [key]) k with | some i => T.live (rsv + i) | none => S.live k ∧ k ∉ ks)
          rw [Back.notIx (B.notIn h1 hnr)]
          exact ⟨h2, hnk⟩
  unfold CalledTo at hcall ⊢
  revert hcall
  show (match (callFunc g vs.toArray).run P S.w with | .ok (.value v) w' => _ | .ok (.enter g args) w' => _ | _ => False) → _
  cases (callFunc g vs.toArray).run P S.w with
  | halt x w' => exact fun h => h
  | ok n w' =>
    cases n with
    | value v => exact fun h => post v w' h
    | enter f args => exact fun h => ⟨h.1, h.2.mono fun e w'' ⟨v, he, hv⟩ => ⟨v, he, post v w'' hv⟩⟩
    | _ => exact fun h => h

/-- the call of a function by its contract -/
theorem callA_run {SG : SGT} {S : St} {key : Nat} {hp : List (Nat × AObj)} {nd : List Nat} {f : AV} {vf : Value} {xs : List AV} {vs : List Value} {r : R} (hsg : SigsOK P SG) (hwf : S.wf) (hh : HeapOK S hp) (hkey : ¬ S.used key) (hr : callA P SG key (restr hp nd) f xs = some r) (hc : AllP r.cond)
    (hf : Rep S vf f) (hl : vs.length = xs.length) (hx : ∀ i (h1 : i < vs.length) (h2 : i < xs.length), Rep S vs[i] xs[i]) :
    ∃ (g : FuncId) (fa ca : Array Value), vf = .func (.func g) fa ca ∧
    CalledTo P g (fa ++ vs.toArray ++ ca) S.w fun v w' => ∃ S', S'.w = w' ∧ Post S key (applyUpd hp r.upd) r.val v S' := by
  unfold callA at hr
  split at hr
  case h_2 => cases hr
  next g as bs =>
  obtain ⟨fa, ca, rfl, e1, e2, e3, e4⟩ := rep_fnv hf
  refine ⟨g, fa, ca, rfl, ?_⟩
  have harr : (fa.toList ++ vs ++ ca.toList).toArray = fa ++ vs.toArray ++ ca := by
    apply Array.ext'
    simp
  have hl2 : (fa.toList ++ vs ++ ca.toList).length = (as ++ xs ++ bs).length := by simp [e1, e3, hl]
  have hx2 : ∀ i (h1 : i < (fa.toList ++ vs ++ ca.toList).length) (h2 : i < (as ++ xs ++ bs).length), Rep S (fa.toList ++ vs ++ ca.toList)[i] (as ++ xs ++ bs)[i] := fun i h1 h2 => by
    have arrGet : ∀ (a : Array Value) (j : Nat) (h : j < a.size), a.toList[j]'(by simpa using h) = a.getD j undef := fun a j h => by
      rw [Array.getD_eq_getD_getElem?, Array.getElem?_eq_getElem h]; simp
    simp only [List.getElem_append, Array.length_toList, List.length_append]
    by_cases h3 : i < as.length
    · rw [dif_pos (by omega), dif_pos (by omega), dif_pos (by omega), dif_pos h3, arrGet _ _ (by omega)]
      exact e2 i h3
    · by_cases h4 : i < as.length + xs.length
      · rw [dif_pos (by omega), dif_neg (by omega), dif_pos h4, dif_neg h3]
        have := hx (i - fa.size) (by omega) (by omega)
        simpa [e1] using this
      · rw [dif_neg (by omega), dif_neg h4, arrGet _ _ (by simp at h1; omega)]
        have := e4 (i - (fa.size + vs.length)) (by simp at h2; omega)
        have he : fa.size + vs.length = as.length + xs.length := by omega
        simpa [he] using this
  rw [← harr]
  split at hr
  · next sig hsig => exact callP_run (P := P) (hsg g _ hsig) hwf hh hr hc hl2 hx2
  · next mask sig hsig => exact callS_run (P := P) (hsg g _ hsig) hwf hh hkey hr hc hl2 hx2
  · cases hr
end

end Go.Ev

/- Arrays that are rows of their own: parts, elements. -/
set_option maxRecDepth 20000
namespace Go.Ev
open Go
variable [Globs]
section
variable {P : Program}
theorem bound_run {S : St} {v : Value} {x : AV} {cap d i : Nat} {code : BoundsCode} (h : bndA (some x) cap d = some i) (hx : Rep S v x) : (Instr.sliceBound v cap code).run P S.w = .ok i S.w ∧ i ≤ cap := by
  unfold bndA at h
  split at h
  · next e => cases e
  · next k j e =>
    cases e
    obtain ⟨rfl, _⟩ := rep_v hx
    split at h
    · next hb =>
      cases h
      simp only [Bool.and_eq_true, decide_eq_true_eq] at hb
      refine ⟨?_, by omega⟩
      simp [Instr.sliceBound, asIntOf, hb.1, hb.2]
    · cases h
  · cases h

theorem bounds_run {S : St} {n m h l : Nat} {lo hi mx : Option AV} {vlo vhi vmx : Option Value} (hm : bndA mx n n = some m) (hh : bndA hi m n = some h) (hl : bndA lo h 0 = some l) (hc : (hi.isSome || mx.isNone) = true)
    (rlo : RepO S vlo lo) (rhi : RepO S vhi hi) (rmx : RepO S vmx mx) : (Instr.sliceBounds false n n vlo vhi vmx).run P S.w = .ok (l, h, m) S.w ∧ l ≤ h ∧ h ≤ m ∧ m ≤ n := by
  have key : ∀ {v : Option Value} {x : Option AV} {cap d i : Nat}, RepO S v x → bndA x cap d = some i → (v = none ∧ x = none ∧ i = d) ∨ ∃ u, v = some u ∧ x.isSome = true ∧ (∀ code, (Instr.sliceBound u cap code).run P S.w = .ok i S.w) ∧ i ≤ cap := by
    intro v x cap d i r hb
    cases x with
    | none =>
      cases v with
      | none => cases hb; exact .inl ⟨rfl, rfl, rfl⟩
      | some _ => exact r.elim
    | some x =>
      cases v with
      | none => exact r.elim
      | some u => exact .inr ⟨u, rfl, rfl, fun code => (bound_run (code := code) hb r).1, (bound_run (P := P) (code := .sliceB) hb r).2⟩
  rcases key rmx hm with ⟨rfl, hx, rfl⟩ | ⟨um, rfl, _, gm, lm⟩
  · rcases key rhi hh with ⟨rfl, _, rfl⟩ | ⟨uh, rfl, _, gh, lh⟩
    · rcases key rlo hl with ⟨rfl, _, rfl⟩ | ⟨ul, rfl, _, gl, ll⟩
      · exact ⟨by simp [Instr.sliceBounds], by omega, by omega, by omega⟩
      · exact ⟨by simp [Instr.sliceBounds, gl], ll, by omega, by omega⟩
    · rcases key rlo hl with ⟨rfl, _, rfl⟩ | ⟨ul, rfl, _, gl, ll⟩
      · exact ⟨by simp [Instr.sliceBounds, gh], by omega, lh, by omega⟩
      · exact ⟨by simp [Instr.sliceBounds, gh, gl], ll, lh, by omega⟩
  · rcases key rhi hh with ⟨rfl, hx, rfl⟩ | ⟨uh, rfl, _, gh, lh⟩
    · subst hx
      exfalso
      cases mx with
      | none => exact rmx.elim
      | some _ => cases hc
    · rcases key rlo hl with ⟨rfl, _, rfl⟩ | ⟨ul, rfl, _, gl, ll⟩
      · exact ⟨by simp [Instr.sliceBounds, gm, gh], by omega, lh, lm⟩
      · exact ⟨by simp [Instr.sliceBounds, gm, gh, gl], ll, lh, lm⟩

/-- an array that is a row of its own -/
theorem whole_obj {S : St} {hp : List (Nat × AObj)} {nd : List Nat} {e : TypeId} {k n ver : Nat} {vx : Value} (hh : HeapOK S hp) (hw : wholeA P (restr hp nd) e k n ver = true) (hx : Rep S vx (.rp k 0 ver 0)) :
    ∃ b sz arr T fz, vx = .pointer (some ⟨b, 0, none⟩) ∧ S.used k ∧ S.isRow k = true ∧ sizeA P e = some sz ∧ S.sz k = sz ∧ 0 < sz ∧ S.len k = n ∧ ver = n ∧ S.cur k = some b ∧ S.own b = some (some k) ∧ S.w.heap[b]? = some (.cells arr T fz) ∧ n * sz ≤ arr.size := by
  unfold wholeA at hw
  split at hw
  · next T sz q fl s hk hs =>
    simp only [Bool.and_eq_true] at hw
    have h1 := Nat.eq_of_beq_eq_true hw.1
    have h2 := Nat.eq_of_beq_eq_true hw.2.1
    have h3 := Nat.eq_of_beq_eq_true hw.2.2
    subst h1
    obtain ⟨hu, hl, hobj⟩ := hh _ _ (restr_look hk)
    obtain ⟨hrow, o1, o2, o3, o4, _, _, o5⟩ := hobj
    cases hx with
    | i _ _ h => cases h
    | rp _ _ _ _ _ _ hp _ =>
    obtain ⟨_, ad, rfl, _, _, _, r4⟩ := hp hl
    obtain ⟨b, hb, had⟩ := r4 (by omega)
    rw [hb] at o5
    obtain ⟨ho, arr, ⟨fz, hheap, _⟩, hsz, _⟩ := o5
    refine ⟨b, sz, arr, T, fz, ?_, hu, hrow, hs, o1, o2, by omega, by omega, hb, ho, hheap, by rw [h3]; exact hsz⟩
    rw [had]
    simp
  · cases hw

theorem arrIxA_run {S : St} {hp : List (Nat × AObj)} {nd : List Nat} {t : TypeId} {x i r : AV} {vx vi : Value} (hh : HeapOK S hp) (hr : arrIxA P (restr hp nd) t x i = some r) (hx : Rep S vx x) (hi : Rep S vi i) : ∃ v, (Instr.indexAt t vx vi).run P S.w = .ok v S.w ∧ Rep S v r := by
  unfold arrIxA at hr
  split at hr
  · next n e k ver kk j ht =>
    split at hr
    · next hc =>
      cases hr
      simp only [Bool.and_eq_true, decide_eq_true_eq] at hc
      obtain ⟨hw, h0, h1⟩ := hc
      obtain ⟨rfl, _⟩ := rep_v hi
      obtain ⟨b, sz, arr, T, fz, rfl, hu, hrow, hs, o1, o2, o3, hver, hb, ho, hheap, hsz⟩ := whole_obj hh hw hx
      refine ⟨.pointer (some ⟨b, j.toNat * sz, none⟩), ?_, .rp _ _ _ _ _ hu (fun _ => ⟨hrow, _, rfl, by omega, by omega, fun _ => ⟨ho, fun _ => by rw [o1]; simp, fun m hm => ?_⟩, fun _ => ⟨b, hb, by rw [o1]; simp⟩⟩) ⟨_, rfl⟩⟩
      · simp [Instr.indexAt, asIntOf, run_underlying ht, Instr.sureAddr, h0, h1, run_sizeOf hs, addr_add]
      · rw [o1] at hm ⊢
        have h7 : (j.toNat + 1) * sz ≤ n * sz := Nat.mul_le_mul_right _ (by omega)
        rw [Nat.add_mul, Nat.one_mul] at h7
        rw [addr_add]
        unfold curCell
        rw [hb]
        simp only [cell_arr hheap, Nat.add_zero]
        exact ⟨trivial, by simp; omega⟩
    · cases hr
  · cases hr

theorem arrSlA_run {S : St} {hp : List (Nat × AObj)} {nd : List Nat} {t : TypeId} {x r : AV} {lo hi mx : Option AV} {vx : Value} {vlo vhi vmx : Option Value} (hh : HeapOK S hp) (hr : arrSlA P (restr hp nd) t x lo hi mx = some r) (hx : Rep S vx x) (rlo : RepO S vlo lo) (rhi : RepO S vhi hi) (rmx : RepO S vmx mx) :
    ∃ v, (Instr.sliceAt t vx vlo vhi vmx).run P S.w = .ok v S.w ∧ Rep S v r := by
  unfold arrSlA at hr
  split at hr
  · next n e k ver ht =>
    split at hr
    · next hc =>
      rw [Bool.and_eq_true] at hc
      split at hr
      · next m hm =>
        split at hr
        · next h hhi =>
          split at hr
          · next l hl =>
            cases hr
            obtain ⟨b, sz, arr, T, fz, rfl, hu, hrow, hs, o1, o2, o3, hver, hb, ho, hheap, hsz⟩ := whole_obj hh hc.1 hx
            obtain ⟨g1, g2, g3, g4⟩ := bounds_run (P := P) hm hhi hl hc.2 rlo rhi rmx
            have hbs : blockSize S.w b = arr.size := blockSize_of hheap
            refine ⟨.slice (some (if m = l then ⟨b, 0, none⟩ else ⟨b, l * sz, none⟩)) (h - l) (m - l), ?_, .row _ _ _ _ _ _ hu (fun _ => ⟨hrow, _, _, rfl, by omega, by omega, by omega, fun ht => ?_, fun h0 => ⟨_, rfl, fun _ => ⟨?_, fun _ => ?_, fun j hj => ?_⟩⟩, fun _ => ?_⟩) ⟨_, _, rfl, fun h => by cases h⟩⟩
            · have e : (⟨b, 0, none⟩ : Addr).add (l * sz) = ⟨b, l * sz, none⟩ := by rw [addr_add]; simp
              simp [Instr.sliceAt, run_underlying ht, Instr.sureAddr, g1, run_sizeOf hs, e]
            · have := Nat.eq_of_beq_eq_true ht
              omega
            · rw [if_neg (by omega)]; exact ho
            · rw [if_neg (by omega), o1]
            · rw [if_neg (by omega), addr_add]
              rw [o1] at hj ⊢
              have h7 : h * sz ≤ n * sz := Nat.mul_le_mul_right _ (by omega)
              have h8 : l * sz + (h - l) * sz = h * sz := by rw [← Nat.add_mul]; congr 1; omega
              unfold curCell
              rw [hb]
              simp only [cell_arr hheap]
              exact ⟨trivial, by simp; omega⟩
            · rw [hb]
              refine ⟨fun h0 => by rw [if_neg (by omega), o1], ?_⟩
              rw [o1, hbs]
              have h7 : (l + (m - l)) * sz ≤ n * sz := Nat.mul_le_mul_right _ (by omega)
              omega
          · cases hr
        · cases hr
      · cases hr
    · cases hr
  · cases hr

end
end Go.Ev

/- Each operation that the evaluator takes is what the model does. -/
namespace Go.Ev
variable [Globs]

section
variable {P : Program} {SG : SGT}

theorem Out.val {S : St} {key : Nat} {hp : List (Nat × AObj)} {val : AV} {x : Result Next} {v : Value} {S' : St} (hx : x = .ok (.value v) S'.w) (h : Post S key hp val v S') : Out P S key hp val x := by
  subst hx
  exact ⟨S', rfl, h⟩

theorem Out.skip {S : St} {key : Nat} {hp : List (Nat × AObj)} {val : AV} {x : Result Next} {S' : St} (hx : x = .ok .skip S'.w) (h : Post S key hp val undef S') : Out P S key hp val x := by
  subst hx
  exact ⟨S', rfl, h⟩

theorem repO_map {S : St} {n : Nat} {fr : List (Nat × AV)} {a : Act} (h : FrOK S n fr a.tmps) (x : Option Operand) : RepO S (x.map a.eval) (x.map (evalA fr)) := by
  cases x with
  | none => trivial
  | some x => exact rep_eval h x

theorem nilIfA_run {S : St} {bop : BinOp} {t : TypeId} {x : AV} {vx : Value} {y : Operand} {r : R} (hr : nilIfA P bop t x y = some r) (hx : Rep S vx x) (w : World) :
    y = .const .nilIface ∧ r.upd = [] ∧ ∃ v, r.val = .v v ∧ okV v ∧ (binOp bop t vx .nilIface).run P w = .ok v w ∧ ∀ X, (eqGuard bop t X (.const .nilIface) vx .nilIface).run P w = .ok () w := by
  unfold nilIfA at hr
  split at hr
  · next ms ht =>
    have e1 : ∀ d, (Op.equalIn (d + 1) t .nilIface .nilIface).run P w = .ok true w := fun d => by simp [Op.equalIn, run_underlying ht]
    have e1' : (Op.equal t .nilIface .nilIface).run P w = .ok true w := e1 9999
    have e2 : ∀ d u z, (Op.equalIn (d + 1) t (.iface u z) .nilIface).run P w = .ok false w := fun d u z => by simp [Op.equalIn, run_underlying ht]
    have e2' : ∀ u z, (Op.equal t (.iface u z) .nilIface).run P w = .ok false w := fun u z => e2 9999 u z
    have ifcV : ∀ {u : TypeId} {z : AV} {q : Value}, Rep S q (.ifc u z) → ∃ p, q = .iface u p := fun h => by
      cases h with
      | i _ _ h => cases h; exact ⟨_, rfl⟩
      | ifc _ x _ _ => exact ⟨x, rfl⟩
    split at hr
    · cases hr
      obtain ⟨rfl, _⟩ := rep_v hx
      exact ⟨rfl, rfl, _, rfl, trivial, by simp [binOp, e1'], fun X => by simp [eqGuard]⟩
    · cases hr
      obtain ⟨rfl, _⟩ := rep_v hx
      exact ⟨rfl, rfl, _, rfl, trivial, by simp [binOp, e1'], fun X => by simp [eqGuard]⟩
    · cases hr
      obtain ⟨p, rfl⟩ := ifcV hx
      exact ⟨rfl, rfl, _, rfl, trivial, by simp [binOp, e2'], fun X => by simp [eqGuard]⟩
    · cases hr
      obtain ⟨p, rfl⟩ := ifcV hx
      exact ⟨rfl, rfl, _, rfl, trivial, by simp [binOp, e2'], fun X => by simp [eqGuard]⟩
    · cases hr
  · cases hr

theorem opA_out {S : St} {key n : Nat} {hint : Option Hint} {hp : List (Nat × AObj)} {fr : List (Nat × AV)} {nd : List Nat} {a : Act} {o : Oper} {r : R} (hsg : SigsOK P SG) (hwf : S.wf) (hh : HeapOK S hp) (hkey : ¬ S.used key) (hfr : FrOK S n fr a.tmps)
    (hr : opA P SG key hint o.op (evalA fr) (restr hp nd) = some r) (hc : AllP r.cond) : Out P S key (applyUpd hp r.upd) r.val ((execOp a.eval o).run P S.w) := by
  obtain ⟨dst, op, ty, pos, after, guard⟩ := o
  have ev := rep_eval hfr
  have noUpd : r.upd = [] → HeapOK S (applyUpd hp r.upd) := fun h => by rw [h]; exact hh
  cases op <;> simp only [opA, reduceCtorEq] at hr
  case move x =>
    split at hr
    · next T hx =>
      split at hr
      · next sz hs =>
        cases hr
        have h := ev x
        rw [hx] at h
        obtain ⟨h, _⟩ := rep_v h
        have h0 := seqEmpty_len (P.underlying T)
        refine Out.val (v := a.eval x) (S' := S.newNil key (sz + 1)) rfl ?_
        rw [h]
        have := newNil_post (S := S) (key := key) (sz := sz + 1) (hp := hp) (T := T) (q := seqEmpty (P.underlying T)) hwf hh hkey (Nat.succ_pos _) h0
        rw [h0] at this
        exact this
      · cases hr
    · next T hx =>
      split at hr
      · next sz hs =>
        cases hr
        have h := ev x
        rw [hx] at h
        obtain ⟨h, _⟩ := rep_v h
        exact Out.same (v := a.eval x) hwf hh rfl (by rw [h]; exact .i _ _ (.slNil _ _ _ (seqEmpty_len _)))
      · cases hr
    · cases hr
      exact Out.same hwf hh rfl (ev x)
  case assign x =>
    split at hr
    · next T hx =>
      split at hr
      · next sz hs =>
        cases hr
        have h := ev x
        rw [hx] at h
        obtain ⟨h, _⟩ := rep_v h
        have h0 := seqEmpty_len (P.underlying T)
        refine Out.val (v := a.eval x) (S' := S.newNil key (sz + 1)) rfl ?_
        rw [h]
        have := newNil_post (S := S) (key := key) (sz := sz + 1) (hp := hp) (T := T) (q := seqEmpty (P.underlying T)) hwf hh hkey (Nat.succ_pos _) h0
        rw [h0] at this
        exact this
      · cases hr
    · next T hx =>
      split at hr
      · next sz hs =>
        cases hr
        have h := ev x
        rw [hx] at h
        obtain ⟨h, _⟩ := rep_v h
        exact Out.same (v := a.eval x) hwf hh rfl (by rw [h]; exact .i _ _ (.slNil _ _ _ (seqEmpty_len _)))
      · cases hr
    · cases hr
      exact Out.same hwf hh rfl (ev x)
  case pick c x y =>
    split at hr
    · next hcv =>
      cases hr
      have h := ev c
      rw [hcv] at h
      obtain ⟨h, _⟩ := rep_v h
      exact Out.same hwf hh (by simp [execOp, h, asBool]) (ev x)
    · next hcv =>
      cases hr
      have h := ev c
      rw [hcv] at h
      obtain ⟨h, _⟩ := rep_v h
      exact Out.same hwf hh (by simp [execOp, h, asBool]) (ev y)
    · cases hr
  case alloc T =>
    split at hr
    · unfold allocRowA at hr
      split at hr
      · next n e ht =>
        split at hr
        · next sz z hs hz =>
          split at hr
          · next q hl hq =>
            cases hr
            obtain ⟨v, h1, h2, h3⟩ := zeroCells_spec hz
            have hzl := Nat.eq_of_beq_eq_true hl
            obtain ⟨q1, q2, q3⟩ := chunk_rep (S := S) (arr := v.cells) (Nat.succ_pos sz) hzl (fun i hi => by
              obtain ⟨u, e1, e2, e3⟩ := h3 i hi
              rw [e1, e2]
              exact ⟨.i _ _ (.v u e3), e3⟩) hq
            refine Out.val (S' := S.new key true S.w v.cells T (n + 1) (sz + 1)) ?_ (new_arr hwf (Grows.refl S.w) hh hkey (Nat.succ_pos sz) q1 (Nat.succ_pos n) (by omega) q2 fun i j hi hj => ⟨(q3 i j hi hj).1, (q3 i j hi hj).2.1⟩)
            simp [execOp, Instr.alloc, h1, run_newVar]
            rfl
          · cases hr
        · cases hr
      · cases hr
    split at hr
    · next z hz =>
      cases hr
      obtain ⟨v, h1, h2, h3⟩ := zeroCells_spec hz
      refine Out.val (S' := S.new key false S.w v.cells T 0 0) ?_ (new_cells hwf hh hkey h2 fun i hi => by obtain ⟨u, e1, e2, e3⟩ := h3 i hi; rw [e1, e2]; exact .v e3)
      simp [execOp, Instr.alloc, h1, run_newVar]
      rfl
    · cases hr
  case box T x =>
    split at hr
    · next sz hs =>
      split at hr
      · next cs hst =>
        cases hr
        obtain ⟨rfl, hj, hlen⟩ := stored_spec hst
        obtain ⟨h1, h2, h3⟩ := rep_cells (ev x) hj
        refine Out.val (S' := S.new key false S.w (a.eval x).cells T 0 0) ?_ (new_cells hwf hh hkey h1 h2)
        simp [execOp, Instr.box, run_newVar]
        rfl
      · cases hr
    · cases hr
  case build t parts =>
    split at hr
    · next z hz =>
      split at hr
      · next cs hb =>
        cases hr
        obtain ⟨v, h1, h2⟩ := build_run (P := P) hfr hz hb S.w
        exact Out.same hwf hh (by simp [execOp, h1]) h2
      · cases hr
    · cases hr
  case buildSlice t len parts =>
    obtain ⟨v, S', h1, h2⟩ := buildSlice_run (P := P) hwf hh hkey hfr hr
    exact Out.val (by simp [execOp, h1]) h2
  case load t x =>
    obtain ⟨h1, v, h2, h3⟩ := loadA_run (P := P) hwf hh hr hc (ev x)
    exact Out.same hwf (noUpd h1) (by simp [execOp, h2]) h3
  case store t x y =>
    obtain ⟨S', h1, h2⟩ := storeA_run (P := P) (key := key) hwf hh hr hc (ev x) (ev y)
    have hval : r.val = .junk := by
      unfold storeA at hr
      repeat' split at hr
      all_goals first | (cases hr; rfl) | cases hr
    refine Out.skip (S' := S') (by simp [execOp, h1]) ?_
    exact h2
  case nilCheck x =>
    have h := ev x
    split at hr
    · next cs he =>
      cases hr
      rw [he] at h
      obtain ⟨ad, hv⟩ : ∃ ad, a.eval x = .pointer (some ad) := by
        generalize a.eval x = w at h
        cases h with
        | i _ _ h => cases h; exact ⟨_, rfl⟩
      exact Out.same hwf hh (by simp [execOp, hv]) (hv ▸ h)
    · next k i ver off he =>
      cases hr
      rw [he] at h
      obtain ⟨ad, hv⟩ : ∃ ad, a.eval x = .pointer (some ad) := by
        generalize a.eval x = w at h
        cases h with
        | i _ _ h => cases h
        | rp _ _ _ _ _ _ _ h => exact h
      exact Out.same hwf hh (by simp [execOp, hv]) (hv ▸ h)
    · next k off he =>
      cases hr
      rw [he] at h
      obtain ⟨ad, hv⟩ : ∃ ad, a.eval x = .pointer (some ad) := by
        generalize a.eval x = w at h
        cases h with
        | i _ _ h => cases h
        | ptr _ _ _ _ _ h => exact h
      exact Out.same hwf hh (by simp [execOp, hv]) (hv ▸ h)
    · next g he =>
      cases hr
      rw [he] at h
      obtain ⟨ad, hv⟩ : ∃ ad, a.eval x = .pointer (some ad) := by
        generalize a.eval x = w at h
        cases h with
        | i _ _ h => cases h; exact ⟨_, rfl⟩
      exact Out.same hwf hh (by simp [execOp, hv]) (hv ▸ h)
    · next g as bs he =>
      cases hr
      rw [he] at h
      obtain ⟨fa, ca, hv⟩ : ∃ fa ca, a.eval x = .func (.func g) fa ca := by
        generalize a.eval x = w at h
        cases h with
        | i _ _ h => cases h; exact ⟨_, _, rfl⟩
        | fnv => exact ⟨_, _, rfl⟩
      exact Out.same hwf hh (by simp [execOp, hv]) (hv ▸ h)
    · cases hr
  case binOp bop t x y yt =>
    split at hr
    · next r' hb =>
      cases hr
      obtain ⟨v, h1, h2, h3, h4, h5⟩ := binA_run (P := P) hb hc (ev x) (ev y) S.w
      refine Out.same hwf (noUpd h3) ?_ (by rw [h1]; exact .v h2)
      simp [execOp, h5, h4]
    · split at hr
      · next r' hb =>
        cases hr
        obtain ⟨v, S', h1, h2, h3⟩ := fbinA_run (P := P) (key := key) (t := t) hwf hh hb (ev x) (ev y)
        exact Out.val (by simp [execOp, h3, h1]) h2
      split at hr
      · next r' hb =>
        cases hr
        obtain ⟨v, h1, h2, h3, h4, h5⟩ := nilA_run (P := P) hb hc (ev x) (ev y) S.w
        refine Out.same hwf (noUpd h3) ?_ (by rw [h1]; exact .v h2)
        simp [execOp, h5, h4]
      · split at hr
        · next r' hb =>
          cases hr
          obtain ⟨v, h1, h2, h3, h4, h5⟩ := ptrEqA_run (P := P) hh hb (ev x) (ev y)
          refine Out.same hwf (noUpd h3) ?_ (by rw [h1]; exact .v h2)
          simp [execOp, h5, h4]
        · split at hr
          · next r' hb =>
            cases hr
            obtain ⟨v, h1, h2, h3, h4, h5⟩ := aggEqA_run (P := P) hb (ev x) (ev y) S.w
            refine Out.same hwf (noUpd h3) ?_ (by rw [h1]; exact .v h2)
            simp [execOp, h5, h4]
          · obtain ⟨hy, h3, v, h1, h2, h4, h5⟩ := nilIfA_run (P := P) hr (ev x) S.w
            subst hy
            refine Out.same hwf (noUpd h3) ?_ (by rw [h1]; exact .v h2)
            have he : a.eval (.const .nilIface) = .nilIface := rfl
            simp [execOp, he, h5, h4]
  case unOp uop t x =>
    split at hr
    · next r' hb =>
      cases hr
      obtain ⟨v, h1, h2, h3, h4⟩ := unA_run (P := P) hb hc (ev x) S.w
      exact Out.same hwf (noUpd h3) (v := v) (by simp [execOp, h4]) (by rw [h1]; exact .v h2)
    · obtain ⟨v, h3, h2, h4⟩ := funA_run (P := P) hr (ev x) S.w
      exact Out.same hwf (noUpd h3) (v := v) (by simp [execOp, h4]) h2
  case convert src dst' x =>
    split at hr
    · next r' hb =>
      cases hr
      obtain ⟨v, S', h1, h2⟩ := convA_run (P := P) (key := key) hwf hh hb hc (ev x)
      exact Out.val (by simp [execOp, h1]) h2
    · obtain ⟨v, h3, h2, h4⟩ := fconvA_run (P := P) hr hc (ev x) S.w
      exact Out.same hwf (noUpd h3) (v := v) (by simp [execOp, h4]) h2
  case makeFunc f first captured =>
    cases hr
    refine Out.same hwf hh (v := .func f (first.map a.eval) (captured.map a.eval)) (by simp [execOp, Instr.makeFunc]) (.fnv _ _ _ _ _ (by simp) (fun i hi => ?_) (by simp) (fun i hi => ?_))
    · have hi' : i < first.size := by simpa using hi
      rw [Array.getD_eq_getD_getElem?, Array.getElem?_map, Array.getElem?_eq_getElem hi']
      simpa using ev first[i]
    · have hi' : i < captured.size := by simpa using hi
      rw [Array.getD_eq_getD_getElem?, Array.getElem?_map, Array.getElem?_eq_getElem hi']
      simpa using ev captured[i]
  case makeSlice t l c =>
    obtain ⟨v, S', h1, h2⟩ := makeSlice_run (P := P) hwf hh hkey (ev l) (ev c) hr hc
    exact Out.val (by simp [execOp, h1]) h2
  case slice t x lo hi mx =>
    split at hr
    · next y hy =>
      cases hr
      obtain ⟨v, h1, h2⟩ := arrSlA_run (P := P) hh hy (ev x) (repO_map hfr lo) (repO_map hfr hi) (repO_map hfr mx)
      exact Out.same hwf hh (by simp [execOp, h1]) h2
    obtain ⟨h1, v, h2, h3⟩ := sliceA_run (P := P) hh hr hc (ev x) (repO_map hfr lo) (repO_map hfr hi) (repO_map hfr mx)
    exact Out.same hwf (noUpd h1) (by simp [execOp, h2]) h3
  case fieldAddr t x f =>
    have h := ev x
    split at hr
    · next o cs ho he =>
      cases hr
      rw [he] at h
      obtain ⟨y, h1, h2⟩ := fieldAddr_run (P := P) ho h
      exact Out.same hwf hh (by simp [execOp, h1]) h2
    · next o k off ho he =>
      cases hr
      rw [he] at h
      obtain ⟨y, h1, h2⟩ := fieldAddr_run (P := P) ho h
      exact Out.same hwf hh (by simp [execOp, h1]) h2
    · next o k i ver off ho he =>
      cases hr
      rw [he] at h
      obtain ⟨y, h1, h2⟩ := fieldAddr_run (P := P) ho h
      exact Out.same hwf hh (by simp [execOp, h1]) h2
    · cases hr
  case field t x f =>
    have h := ev x
    split at hr
    · next fields cs ht he =>
      split at hr
      · next fd hf =>
        split at hr
        · next y hp =>
          cases hr
          rw [he] at h
          obtain ⟨arr, hv, hs, hrep⟩ := rep_agg h
          obtain ⟨u, h1, h2⟩ := partA_run (P := P) hp hs hrep S.w
          exact Out.same hwf hh (by simp [execOp, Instr.field, run_underlying ht, hf, hv, asAgg, h1]) h2
        · cases hr
      · cases hr
    · cases hr
  case indexAddr t x i =>
    split at hr
    · next y hy =>
      cases hr
      obtain ⟨v, h1, h2⟩ := arrIxA_run (P := P) hh hy (ev x) (ev i)
      exact Out.same hwf hh (by simp [execOp, h1]) h2
    obtain ⟨h1, v, h2, h3⟩ := indexAddrA_run (P := P) hwf hh hr hc (ev x) (ev i)
    exact Out.same hwf (noUpd h1) (by simp [execOp, h2]) h3
  case index t x i =>
    obtain ⟨h1, v, h2, h3⟩ := indexA_run (P := P) hr hc (ev x) (ev i) S.w
    exact Out.same hwf (noUpd h1) (by simp [execOp, h2]) h3
  case makeMap t n =>
    cases n with
    | some n => simp only [opA, reduceCtorEq] at hr
    | none =>
      simp only [opA] at hr
      have hrun := run_makeMap_plain (P := P) (w := S.w) t
      split at hr
      · cases hr
        refine Out.more (v := .map (some S.w.heap.size)) (w' := S.w.alloc (.map #[] 0)) hwf hh (by simp [execOp, hrun]) (alloc_grows _ _) (.i _ _ (.mp S.w.heap.size #[] 0 [] [] ?_ (alloc_new _ _) rfl rfl (fun j hj => absurd hj (by simp)) (fun j hj => absurd hj (by simp))))
        show S.own S.w.heap.size = none
        cases ho : S.own S.w.heap.size with
        | none => rfl
        | some o => exact absurd (hwf.bound _ _ ho) (Nat.lt_irrefl _)
      · cases hr
        refine Out.val (v := .map (some S.w.heap.size)) (S' := S.newM key) ?_ (newM_post hwf hkey hh)
        simp [execOp, hrun, St.newM]
  case lookup t x i ok =>
    obtain ⟨h1, v, h2, h3⟩ := lookupA_run (P := P) hh hr hc (ev x) (ev i)
    exact Out.same hwf (noUpd h1) (by simp [execOp, h2]) h3
  case insert t m i x =>
    obtain ⟨h0, S', h1, h2⟩ := mapUpdateA_run (P := P) (key := key) hwf hh hr hc (ev m) (ev i) (ev x)
    exact Out.skip (S' := S') (by simp [execOp, h1]) h2
  case mapUpdate t m i x =>
    obtain ⟨h0, S', h1, h2⟩ := mapUpdateA_run (P := P) (key := key) hwf hh hr hc (ev m) (ev i) (ev x)
    exact Out.skip (S' := S') (by simp [execOp, h1]) h2
  case mapEntry t m i =>
    obtain ⟨v, S', h1, h2⟩ := mapEntryA_run (P := P) (key := key) hwf hh hr hc (ev m) (ev i)
    exact Out.val (S' := S') (by simp [execOp, h1]) h2
  case entryStore t m s x =>
    obtain ⟨h0, S', h1, h2⟩ := entryStoreA_run (P := P) (key := key) (t := t) hwf hh hr hc (ev m) (ev s) (ev x)
    exact Out.skip (S' := S') (by simp [execOp, h1]) h2
  case extract x i =>
    have h := ev x
    split at hr
    · next vs he =>
      split at hr
      · next y hy =>
        cases hr
        rw [he] at h
        obtain ⟨u, h1, h2⟩ := extract_run (P := P) h hy S.w
        exact Out.same hwf hh (by simp [execOp, h1]) h2
      · cases hr
    · cases hr
  case call c =>
    obtain ⟨callee, args, argTypes⟩ := c
    have hargs : ∀ i (h1 : i < (args.toList.map a.eval).length) (h2 : i < (args.toList.map (evalA fr)).length), Rep S (args.toList.map a.eval)[i] (args.toList.map (evalA fr))[i] := fun i h1 h2 => by
      simp only [List.getElem_map]
      exact ev _
    cases callee with
    | builtin b =>
      simp only at hr
      have hr' : ∃ v S', (builtin b argTypes ty (args.map fun | .const _ => true | _ => false) (args.map a.eval)).run P S.w = .ok (.value v) S'.w ∧ Post S key (applyUpd hp r.upd) r.val v S' := by
        have e : (args.toList.map a.eval).toArray = args.map a.eval := by apply Array.ext'; simp
        split at hr
        · next r' hu =>
          cases hr
          obtain ⟨v, S', h1, h2⟩ := unsafeA_run (P := P) (key := key) (ty := ty) (vs := args.toList.map a.eval) (consts := args.map fun | .const _ => true | _ => false) hwf hh hu hc (by simp) hargs
          rw [e] at h1
          exact ⟨v, S', h1, h2⟩
        · obtain ⟨v, S', h1, h2⟩ := builtinA_run (P := P) (ty := ty) (vs := args.toList.map a.eval) (consts := args.map fun | .const _ => true | _ => false) hwf hh hkey hr hc (by simp) hargs
          rw [e] at h1
          exact ⟨v, S', h1, h2⟩
      obtain ⟨v, S', h1, h2⟩ := hr'
      refine Out.val (S' := S') ?_ h2
      simp only [execOp, resolve, invoke, Sem.run_bind, Sem.run_pure, Result.andThen_ok]
      exact h1
    | value f =>
      simp only at hr
      obtain ⟨g, fa, ca, hv, hcall⟩ := callA_run (P := P) (key := key) (vs := args.toList.map a.eval) hsg hwf hh hkey hr hc (ev f) (by simp) hargs
      have e : (args.toList.map a.eval).toArray = args.map a.eval := by apply Array.ext'; simp
      rw [e] at hcall
      have hrun : (execOp a.eval { dst, op := .call { callee := .value f, args, argTypes }, type := ty, pos, after, guard }).run P S.w = (callFunc g (fa ++ args.map a.eval ++ ca)).run P S.w := by
        simp [execOp, resolve, hv, Deferred.ofValue, invoke]
      rw [hrun]
      unfold CalledTo at hcall
      revert hcall
      cases (callFunc g (fa ++ args.map a.eval ++ ca)).run P S.w with
      | halt x w' => exact fun h => h
      | ok nx w' =>
        cases nx with
        | value v => exact fun h => h
        | enter f' args' => exact fun h => ⟨h.1, h.2.mono fun e w'' ⟨v, he, S', hS, hp⟩ => ⟨v, S', he, hS, hp⟩⟩
        | _ => exact fun h => h.elim
    | invoke r m => cases hr

end
end Go.Ev

/- The order of a region's operations: what the evaluator comes to is the same in each order that the region allows. No program in sight. -/
namespace Go.Ev
variable [Globs]

section
variable {P : Program} {SG : SGT}

theorem opA_congr {key : Nat} {h : Option Hint} {o : Op} {ev ev' : Operand → AV} {hp : Nat → Option AObj} (he : ∀ x ∈ o.operands, ev x = ev' x) : opA P SG key h o ev hp = opA P SG key h o ev' hp := by
  have pairs : ∀ ps : Array (Nat × Operand), (∀ x ∈ (ps.toList.map (·.2)).toArray, ev x = ev' x) → (ps.toList.map fun p => (p.1, ev p.2)) = ps.toList.map fun p => (p.1, ev' p.2) := fun ps hp =>
    List.map_congr_left fun p hm => by
      rw [hp p.2 (by simp only [List.mem_toArray, List.mem_map]; exact ⟨p, hm, rfl⟩)]
  have lists : ∀ xs : Array Operand, (∀ x ∈ xs, ev x = ev' x) → xs.toList.map ev = xs.toList.map ev' := fun xs hx =>
    List.map_congr_left fun x hm => hx x (by simpa using hm)
  cases o <;> simp only [Op.operands] at he <;> simp only [opA]
  case build t ps => rw [pairs ps he]
  case buildSlice t n ps => rw [pairs ps he]
  case makeFunc fn first captured =>
    rw [lists first fun x hx => he x (by simp [hx]), lists captured fun x hx => he x (by simp [hx])]
  case call c =>
    obtain ⟨callee, args, argTypes⟩ := c
    cases callee with
    | builtin b => simp only [Call.operands] at he; simp only; rw [lists args fun x hx => he x (by simp [hx])]
    | value f => simp only [Call.operands] at he; simp only; rw [he f (by simp), lists args fun x hx => he x (by simp [hx])]
    | invoke r m => rfl
  case makeMap t n => cases n <;> rfl
  case lookup t x i ok => rw [he x (by simp), he i (by simp)]
  case slice t x lo hi mx =>
    have hx : ev x = ev' x := he x (by simp)
    have opt : ∀ y : Option Operand, (∀ z ∈ y.toArray, ev z = ev' z) → y.map ev = y.map ev' := fun y hy => by
      cases y with
      | none => rfl
      | some z => simp [hy z (by simp)]
    rw [hx, opt lo fun z hz => he z (by simp only [Array.mem_append]; exact .inl (.inl (.inr hz))), opt hi fun z hz => he z (by simp only [Array.mem_append]; exact .inl (.inr hz)), opt mx fun z hz => he z (by simp only [Array.mem_append]; exact .inr hz)]
  all_goals first | rfl | (simp_all; done)

/-- the same frame and the same heap, place by place -/
structure Like (A B : AS) : Prop where
  n : B.n = A.n
  nx : B.nx = A.nx
  fr : ∀ t, look B.fr t = look A.fr t
  hp : ∀ k, look B.hp k = look A.hp k

theorem Like.refl (A : AS) : Like A A := ⟨rfl, rfl, fun _ => rfl, fun _ => rfl⟩
theorem Like.symm {A B : AS} (h : Like A B) : Like B A := ⟨h.n.symm, h.nx.symm, fun t => (h.fr t).symm, fun k => (h.hp k).symm⟩
theorem Like.trans {A B C : AS} (h : Like A B) (g : Like B C) : Like A C := ⟨g.n.trans h.n, g.nx.trans h.nx, fun t => (g.fr t).trans (h.fr t), fun k => (g.hp k).trans (h.hp k)⟩

/-- what a list of updates leaves at a key -/
def updAt (l : List (Nat × Option AObj)) (k : Nat) (d : Option AObj) : Option AObj :=
  match l with
  | [] => d
  | (j, o) :: r => updAt r k (if k = j then o else d)

theorem look_applyUpd (l : List (Nat × Option AObj)) (hp : List (Nat × AObj)) (k : Nat) : look (applyUpd hp l) k = updAt l k (look hp k) := by
  induction l generalizing hp with
  | nil => rfl
  | cons x r ih =>
    obtain ⟨j, o⟩ := x
    cases o with
    | none => simp only [applyUpd, updAt, ih, look_drop]
    | some o => simp only [applyUpd, updAt, ih, look_put]

theorem updAt_not {l : List (Nat × Option AObj)} {k : Nat} (h : k ∉ l.map (·.1)) (d : Option AObj) : updAt l k d = d := by
  induction l generalizing d with
  | nil => rfl
  | cons x r ih =>
    obtain ⟨j, o⟩ := x
    simp only [List.map_cons, List.mem_cons, not_or] at h
    simp only [updAt, if_neg h.1]
    exact ih h.2 d

/-- what is written at a key at all does not hang on what was there -/
theorem updAt_mem {l : List (Nat × Option AObj)} {k : Nat} (h : k ∈ l.map (·.1)) (d d' : Option AObj) : updAt l k d = updAt l k d' := by
  induction l generalizing d d' with
  | nil => cases h
  | cons x r ih =>
    obtain ⟨j, o⟩ := x
    simp only [updAt]
    by_cases hk : k = j
    · rw [if_pos hk, if_pos hk]
    · rw [if_neg hk, if_neg hk]
      refine ih ?_ d d'
      simp only [List.map_cons, List.mem_cons] at h
      exact h.resolve_left hk

theorem updAt_comm {l m : List (Nat × Option AObj)} (h : ∀ k, k ∈ l.map (·.1) → k ∉ m.map (·.1)) (k : Nat) (d : Option AObj) : updAt m k (updAt l k d) = updAt l k (updAt m k d) := by
  by_cases hl : k ∈ l.map (·.1)
  · rw [updAt_not (h k hl), updAt_not (h k hl)]
  · rw [updAt_not hl, updAt_not hl]

theorem meets_spec {a b : List Nat} (h : meets a b = false) : ∀ k, k ∈ a → k ∉ b := by
  intro k ha hb
  unfold meets at h
  have h1 := List.any_eq_false.1 h k ha
  have : (b.any fun y => Nat.beq k y) = true := List.any_eq_true.2 ⟨k, hb, Nat.beq_refl k⟩
  exact h1 this

theorem mem_any_beq {ks : List Nat} {k : Nat} : (ks.any (Nat.beq k)) = true ↔ k ∈ ks := by
  rw [List.any_eq_true]
  exact ⟨fun ⟨x, hx, he⟩ => by rw [Nat.eq_of_beq_eq_true he]; exact hx, fun h => ⟨k, h, Nat.beq_refl k⟩⟩

theorem restr_eq {hp hp' : List (Nat × AObj)} {ks : List Nat} (h : ∀ k, k ∈ ks → look hp' k = look hp k) : restr hp' ks = restr hp ks := by
  funext k
  unfold restr
  cases hk : ks.any (Nat.beq k) with
  | false => rfl
  | true => exact h k (mem_any_beq.1 hk)

/-- what an operation reads of the state -/
structure Reads (ops : List Oper) (o : Oper) (A B : AS) : Prop where
  n : B.n = A.n
  nx : B.nx = A.nx
  fr : ∀ t, t ∈ o.looksAt ops.toArray → look B.fr t = look A.fr t

theorem Reads.eval {ops : List Oper} {o : Oper} {A B : AS} (h : Reads ops o A B) (x : Operand) (hx : x ∈ o.op.operands) : evalA A.fr x = evalA B.fr x := by
  cases x with
  | tmp t =>
    have : t ∈ o.looksAt ops.toArray := List.mem_append_left _ (List.mem_filterMap.2 ⟨.tmp t, by simpa using hx, rfl⟩)
    simp only [evalA, h.fr t this]
  | _ => rfl

theorem Reads.wanted {ops : List Oper} {o : Oper} {A B : AS} (h : Reads ops o A B) : wantedA ops B.fr o = wantedA ops A.fr o := by
  unfold wantedA
  cases hg : o.guard with
  | none => rfl
  | some jw =>
    obtain ⟨j, want⟩ := jw
    simp only
    cases ho : ops[j]? with
    | none => rfl
    | some g =>
      simp only
      cases hd : g.dst with
      | none => rfl
      | some d =>
        simp only
        rw [h.fr d]
        unfold Oper.looksAt
        rw [hg]
        refine List.mem_append_right _ ?_
        simp [ho, hd]

theorem Reads.need {ops : List Oper} {o : Oper} {A B : AS} (h : Reads ops o A B) : (o.op.operands.toList.flatMap fun x => keysOf (evalA B.fr x)) = o.op.operands.toList.flatMap fun x => keysOf (evalA A.fr x) := by
  have : ∀ l : List Operand, (∀ x, x ∈ l → evalA A.fr x = evalA B.fr x) → (l.flatMap fun x => keysOf (evalA B.fr x)) = l.flatMap fun x => keysOf (evalA A.fr x) := by
    intro l
    induction l with
    | nil => intro _; rfl
    | cons x r ih =>
      intro hl
      simp only [List.flatMap_cons]
      rw [hl x (by simp), ih fun y hy => hl y (by simp [hy])]
  exact this _ fun x hx => h.eval x (by simpa using hx)

theorem deep_eq {hp hp' : List (Nat × AObj)} {ks : List Nat} (h : ∀ k, k ∈ deep hp ks → look hp' k = look hp k) : deep hp' ks = deep hp ks := by
  have : ∀ l : List Nat, (∀ k, k ∈ l → look hp' k = look hp k) → (l.flatMap fun k => match look hp' k with | some o => objKeys o | none => []) = l.flatMap fun k => match look hp k with | some o => objKeys o | none => [] := by
    intro l
    induction l with
    | nil => intro _; rfl
    | cons x r ih =>
      intro hl
      simp only [List.flatMap_cons]
      rw [hl x (by simp), ih fun y hy => hl y (by simp [hy])]
  exact congrArg (fun l => ks ++ l) (this ks fun k hk => h k (List.mem_append_left _ hk))

theorem putA_spec {A A' : AS} {dst : Option Tmp} {x : AV} (h : putA A dst x = some A') : (∀ d, dst = some d → d < A.n) ∧ A'.n = A.n ∧ A'.nx = A.nx ∧ A'.hp = A.hp ∧
    ∀ t, look A'.fr t = if dst = some t then some x else look A.fr t := by
  unfold putA at h
  split at h
  · cases h
    exact ⟨fun d hd => (by cases hd), rfl, rfl, rfl, fun t => by simp⟩
  · next d =>
    split at h
    · next hb =>
      cases h
      refine ⟨fun d' hd => by cases hd; simpa [Nat.blt_eq] using hb, rfl, rfl, rfl, fun t => ?_⟩
      simp only [look_put, Option.some.injEq]
      by_cases ht : t = d
      · rw [if_pos ht, if_pos ht.symm]
      · rw [if_neg ht, if_neg fun e => ht e.symm]
    · cases h

theorem putA_ok {A : AS} {dst : Option Tmp} (x : AV) (h : ∀ d, dst = some d → d < A.n) : ∃ A', putA A dst x = some A' := by
  unfold putA
  cases dst with
  | none => exact ⟨_, rfl⟩
  | some d =>
    have : Nat.blt d A.n = true := by simpa [Nat.blt_eq] using h d rfl
    simp [this]

/-- the kind of what lies at a key -/
def shapeOf (o : Option AObj) : Option AObj := o.map shapeO

/-- what a footprint's number says is the same -/
def Agree (A B : AS) (n : Nat) : Prop := (∀ k, n = 2 * k → look B.hp k = look A.hp k) ∧ ∀ k, n = 2 * k + 1 → shapeOf (look B.hp k) = shapeOf (look A.hp k)

theorem mem_dbl {l : List Nat} {n : Nat} : n ∈ dbl l ↔ ∃ k, k ∈ l ∧ n = 2 * k := by
  induction l with
  | nil => simp [dbl]
  | cons x r ih =>
    simp only [dbl, List.mem_cons, ih]
    constructor
    · rintro (rfl | ⟨k, h, rfl⟩)
      · exact ⟨x, .inl rfl, rfl⟩
      · exact ⟨k, .inr h, rfl⟩
    · rintro ⟨k, rfl | h, rfl⟩
      · exact .inl rfl
      · exact .inr ⟨k, h, rfl⟩

theorem mem_dbl1 {l : List Nat} {n : Nat} : n ∈ dbl1 l ↔ ∃ k, k ∈ l ∧ n = 2 * k + 1 := by
  induction l with
  | nil => simp [dbl1]
  | cons x r ih =>
    simp only [dbl1, List.mem_cons, ih]
    constructor
    · rintro (rfl | ⟨k, h, rfl⟩)
      · exact ⟨x, .inl rfl, rfl⟩
      · exact ⟨k, .inr h, rfl⟩
    · rintro ⟨k, rfl | h, rfl⟩
      · exact .inl rfl
      · exact .inr ⟨k, h, rfl⟩

theorem mem_turns {o : Op} {l : List Nat} {k : Nat} (h : k ∈ l) : 2 * k ∈ turnsA o l := by
  unfold turnsA
  split
  · exact mem_dbl.2 ⟨k, h, rfl⟩
  · exact List.mem_append_left _ (mem_dbl.2 ⟨k, h, rfl⟩)

theorem mem_turns1 {o : Op} {l : List Nat} {k : Nat} (ho : isStore o = false) (h : k ∈ l) : 2 * k + 1 ∈ turnsA o l := by
  unfold turnsA
  rw [ho]
  exact List.mem_append_right _ (mem_dbl1.2 ⟨k, h, rfl⟩)

/-- an operation sees what it looks at alone -/
theorem seen_eq {A B : AS} {kd : OpKind} {ks : List Nat} (h : ∀ n, n ∈ looksA A.hp kd ks → Agree A B n) : seen B.hp kd ks = seen A.hp kd ks ∧ looksA B.hp kd ks = looksA A.hp kd ks := by
  cases kd with
  | full =>
    have hd : ∀ k, k ∈ deep A.hp ks → look B.hp k = look A.hp k := fun k hk => (h (2 * k) (mem_dbl.2 ⟨k, hk, rfl⟩)).1 k rfl
    have e := deep_eq hd
    refine ⟨?_, congrArg dbl e⟩
    show restr B.hp (deep B.hp ks) = restr A.hp (deep A.hp ks)
    rw [e]
    exact restr_eq hd
  | shape =>
    refine ⟨?_, rfl⟩
    funext k
    show (match restr B.hp ks k with | some o => some (shapeO o) | none => none) = (match restr A.hp ks k with | some o => some (shapeO o) | none => none)
    unfold restr
    cases hk : ks.any (Nat.beq k) with
    | false => rfl
    | true =>
      have := (h (2 * k + 1) (mem_dbl1.2 ⟨k, mem_any_beq.1 hk, rfl⟩)).2 k rfl
      unfold shapeOf at this
      simp only
      revert this
      cases look B.hp k <;> cases look A.hp k <;> simp
  | none => exact ⟨rfl, rfl⟩

theorem lay_len {cs xs ys : List AV} {off : Nat} (_ : lay cs off xs = some ys) : True := trivial

theorem seqSet_len {q q' : Seq AV} {i : Nat} {x : AV} (h : q.set i x = some q') : q'.len = q.len := by
  unfold Seq.set at h
  split at h
  · split at h
    · cases h; simp [Seq.len]
    · cases h
  · cases h; simp [Seq.len]
  · cases h; simp [Seq.len]
  · cases h

/-- a store turns what a variable or row holds, not what kind it is -/
theorem store_shape {P : Program} {hp : Nat → Option AObj} {t : TypeId} {a x : AV} {r : R} (h : storeA P hp t a x = some r) : r.upd = [] ∨ ∃ k o o', r.upd = [(k, some o')] ∧ hp k = some o ∧ shapeO o' = shapeO o := by
  unfold storeA at h
  split at h
  · cases h
  · split at h
    · cases h
    · split at h
      · split at h
        · next hk =>
          split at h
          · cases h
            exact .inr ⟨_, _, _, rfl, hk, rfl⟩
          · cases h
        · cases h
      · split at h
        · next hk =>
          split at h
          · split at h
            · next hq =>
              cases h
              exact .inr ⟨_, _, _, rfl, hk, by simp only [shapeO, seqSet_len hq]⟩
            · cases h
          · split at h
            · split at h
              · next hq =>
                cases h
                exact .inr ⟨_, _, _, rfl, hk, by simp only [shapeO, seqSet_len hq]⟩
              · cases h
            · cases h
        · cases h
      · cases h

theorem isStore_spec {o : Op} (h : isStore o = true) : ∃ t a x, o = .store t a x := by
  cases o <;> first | exact ⟨_, _, _, rfl⟩ | cases h

theorem hinted_upd' {h : Option Hint} {r : R} : (hinted h r).upd = r.upd := by
  unfold hinted
  split
  · split <;> rfl
  · rfl
  · rfl

structure Does (hs : List (Nat × Hint)) (ops : List Oper) (i : Nat) (o : Oper) (A : AS) (T : Took) (val : AV) (up : List (Nat × Option AObj)) : Prop where
  op : ops[i]? = some o
  dst : ∀ d, o.dst = some d → d < A.n
  ups : T.ups = turnsA o.op (up.map (·.1))
  shape : isStore o.op = true → ∀ k, shapeOf (updAt up k (look A.hp k)) = shapeOf (look A.hp k)
  n : T.A.n = A.n
  nx : T.A.nx = A.nx
  fr : ∀ t, look T.A.fr t = if o.dst = some t then some val else look A.fr t
  hp : ∀ k, look T.A.hp k = updAt up k (look A.hp k)
  again : ∀ B, Reads ops o A B → (∀ n, n ∈ T.need → Agree A B n) → ∃ T', takeOp P SG hs ops i B = some T' ∧ T'.cond = T.cond ∧ T'.need = T.need ∧ T'.ups = T.ups ∧
    T'.A.n = B.n ∧ T'.A.nx = B.nx ∧ (∀ t, look T'.A.fr t = if o.dst = some t then some val else look B.fr t) ∧ ∀ k, look T'.A.hp k = updAt up k (look B.hp k)

theorem takeOp_does {hs : List (Nat × Hint)} {ops : List Oper} {i : Nat} {A : AS} {T : Took} (h : takeOp P SG hs ops i A = some T) : ∃ o val up, Does (P := P) (SG := SG) hs ops i o A T val up := by
  have h0 := h
  unfold takeOp at h
  split at h
  · cases h
  · next o ho =>
    split at h
    · cases h
    · next hw =>
      split at h
      · next A' hp =>
        cases h
        obtain ⟨h1, h2, h3, h4, h5⟩ := putA_spec hp
        refine ⟨o, .tup [], [], ho, h1, by unfold turnsA; split <;> rfl, fun _ k => rfl, h2, h3, h5, fun k => by rw [h4]; rfl, fun B hB hneed => ?_⟩
        obtain ⟨B', hB'⟩ := putA_ok (A := B) (.tup []) fun d hd => by rw [hB.n]; exact h1 d hd
        obtain ⟨g1, g2, g3, g4, g5⟩ := putA_spec hB'
        refine ⟨⟨B', [], [], []⟩, ?_, rfl, rfl, rfl, g2, g3, g5, fun k => by rw [g4]; rfl⟩
        unfold takeOp
        simp only [ho, hB.wanted, hw, hB']
      · cases h
    · next hw =>
      simp only at h
      split at h
      · cases h
      · next r0 hr =>
        split at h
        · next A' hp =>
          cases h
          obtain ⟨h1, h2, h3, h4, h5⟩ := putA_spec hp
          have hup : (hinted (look hs i) r0).upd = r0.upd := hinted_upd'
          refine ⟨o, (hinted (look hs i) r0).val, (hinted (look hs i) r0).upd, ho, h1, rfl, fun hst k => ?_, h2, h3, h5, fun k => by rw [h4]; exact look_applyUpd _ _ _, fun B hB hneed => ?_⟩
          · rw [hup]
            obtain ⟨t, a, x, hox⟩ := isStore_spec hst
            rw [hox] at hr
            rcases store_shape hr with h | ⟨k1, o1, o2, h, hk, hs⟩
            · rw [h]; rfl
            · rw [h]
              show shapeOf (if k = k1 then some o2 else look A.hp k) = _
              split
              · next e =>
                have : look A.hp k = some o1 := by rw [e]; exact restr_look hk
                rw [this]
                unfold shapeOf
                simp [hs]
              · rfl
          · obtain ⟨B', hB'⟩ := putA_ok (A := { B with hp := applyUpd B.hp (hinted (look hs i) r0).upd }) (hinted (look hs i) r0).val fun d hd => by
              show d < B.n
              rw [hB.n]
              exact h1 d hd
            obtain ⟨g1, g2, g3, g4, g5⟩ := putA_spec hB'
            obtain ⟨s1, s2⟩ := seen_eq hneed
            refine ⟨⟨B', (hinted (look hs i) r0).cond, _, turnsA o.op ((hinted (look hs i) r0).upd.map (·.1))⟩, ?_, rfl, rfl, rfl, g2, g3, g5, fun k => by rw [g4]; exact look_applyUpd _ _ _⟩
            unfold takeOp
            simp only [ho, hB.wanted, hw, hB.need, hB.nx, s1, s2]
            rw [opA_congr (ev' := evalA A.fr) (fun x hx => (hB.eval x hx).symm), hr]
            simp only [hB.nx] at hB'
            simp only [hB']
        · cases h

theorem takeOp_like {hs : List (Nat × Hint)} {ops : List Oper} {i : Nat} {A B : AS} {T : Took} (h : takeOp P SG hs ops i A = some T) (hl : Like A B) :
    ∃ T', takeOp P SG hs ops i B = some T' ∧ T'.cond = T.cond ∧ T'.need = T.need ∧ T'.ups = T.ups ∧ Like T.A T'.A := by
  obtain ⟨o, val, up, d⟩ := takeOp_does h
  obtain ⟨T', h1, h2, h3, h4, h5, h6, h7, h8⟩ := d.again B ⟨hl.n, hl.nx, fun t _ => hl.fr t⟩ fun n _ => ⟨fun k _ => hl.hp k, fun k _ => congrArg shapeOf (hl.hp k)⟩
  exact ⟨T', h1, h2, h3, h4, by rw [h5, d.n, hl.n], by rw [h6, d.nx, hl.nx], fun t => by rw [h7, d.fr, hl.fr], fun k => by rw [h8, d.hp, hl.hp]⟩

/-- two operations, the other way round -/
theorem takeOp_swap {hs : List (Nat × Hint)} {ops : Array Oper} {i j : Nat} {x y : Oper} {A : AS} {T U : Took} (h1 : takeOp P SG hs ops.toList i A = some T) (h2 : takeOp P SG hs ops.toList j T.A = some U)
    (hx : ops[i]? = some x) (hy : ops[j]? = some y) (hi : indep ops x y (T.need, T.ups) (U.need, U.ups) = true) :
    ∃ U' T', takeOp P SG hs ops.toList j A = some U' ∧ takeOp P SG hs ops.toList i U'.A = some T' ∧ U'.cond = U.cond ∧ U'.need = U.need ∧ U'.ups = U.ups ∧ T'.cond = T.cond ∧ T'.need = T.need ∧ T'.ups = T.ups ∧ Like U.A T'.A := by
  obtain ⟨o1, v1, up1, d1⟩ := takeOp_does h1
  obtain ⟨o2, v2, up2, d2⟩ := takeOp_does h2
  have e1 : o1 = x := by have := d1.op; rw [Array.getElem?_toList, hx] at this; exact (Option.some.inj this).symm
  have e2 : o2 = y := by have := d2.op; rw [Array.getElem?_toList, hy] at this; exact (Option.some.inj this).symm
  subst e1 e2
  simp only [indep, Bool.and_eq_true, Bool.not_eq_true'] at hi
  obtain ⟨⟨⟨ha, hm1⟩, hm2⟩, hm3⟩ := hi
  obtain ⟨a1, a2, a3⟩ := Oper.apart_spec ha
  have hm1 := meets_spec hm1
  have hm2 := meets_spec hm2
  have hm3 := meets_spec hm3
  have hops : ops.toList.toArray = ops := by simp
  obtain ⟨U', u1, u2, u3, u4, u5, u6, u7, u8⟩ := d2.again A ⟨d1.n.symm, d1.nx.symm, fun t ht => by
      rw [d1.fr, if_neg]
      intro hd
      rw [hops] at ht
      exact a1 t hd ht⟩ fun n hn => ⟨fun k e => by
      subst e
      rw [d1.hp, updAt_not]
      intro hu
      exact hm1 _ (by rw [d1.ups]; exact mem_turns hu) hn, fun k e => by
      subst e
      rw [d1.hp]
      cases hst : isStore o1.op with
      | true => exact (d1.shape hst k).symm
      | false =>
        rw [updAt_not]
        intro hu
        exact hm1 _ (by rw [d1.ups]; exact mem_turns1 hst hu) hn⟩
  obtain ⟨T', t1, t2, t3, t4, t5, t6, t7, t8⟩ := d1.again U'.A ⟨u5, u6, fun t ht => by
      rw [u7, if_neg]
      intro hd
      rw [hops] at ht
      exact a3 t hd ht⟩ fun n hn => ⟨fun k e => by
      subst e
      rw [u8, updAt_not]
      intro hu
      exact hm3 _ (by rw [d2.ups]; exact mem_turns hu) hn, fun k e => by
      subst e
      rw [u8]
      by_cases hu : k ∈ up2.map (·.1)
      · cases hst : isStore o2.op with
        | true =>
          have h1 := d2.shape hst k
          have h2 : look T.A.hp k = look A.hp k := by
            rw [d1.hp, updAt_not]
            intro hu1
            exact hm2 _ (by rw [d1.ups]; exact mem_turns hu1) (by rw [d2.ups]; exact mem_turns hu)
          rw [h2] at h1
          exact h1
        | false => exact absurd hn (hm3 _ (by rw [d2.ups]; exact mem_turns1 hst hu))
      · rw [updAt_not hu]⟩
  refine ⟨U', T', u1, t1, u2, u3, u4, t2, t3, t4, by rw [t5, u5, d2.n, d1.n], by rw [t6, u6, d2.nx, d1.nx], fun t => ?_, fun k => ?_⟩
  · rw [t7, u7, d2.fr, d1.fr]
    by_cases hd1 : o1.dst = some t
    · rw [if_pos hd1, if_pos hd1, if_neg (a2 t hd1)]
    · rw [if_neg hd1, if_neg hd1]
  · rw [t8, u8, d2.hp, d1.hp]
    exact (updAt_comm (fun k hk hk2 => hm2 _ (by rw [d1.ups]; exact mem_turns hk) (by rw [d2.ups]; exact mem_turns hk2)) k _).symm

/-- a list of operations, taken one behind the other, with what each looks at and turns -/
def Run (P : Program) (SG : SGT) (hs : List (Nat × Hint)) (ops : Array Oper) : List (Nat × (List Nat × List Nat)) → AS → AS → Prop
  | [], A, A' => Like A A'
  | (i, f) :: l, A, A' => ∃ T, takeOp P SG hs ops.toList i A = some T ∧ AllP T.cond ∧ (T.need, T.ups) = f ∧ Run P SG hs ops l T.A A'

theorem Run.like {hs : List (Nat × Hint)} {ops : Array Oper} {l : List (Nat × (List Nat × List Nat))} {A B C : AS} (h : Run P SG hs ops l A C) (hl : Like A B) : Run P SG hs ops l B C := by
  induction l generalizing A B with
  | nil => exact hl.symm.trans h
  | cons x l ih =>
    obtain ⟨i, f⟩ := x
    obtain ⟨T, h1, h2, h3, h4⟩ := h
    obtain ⟨T', g1, g2, g3, g4, g5⟩ := takeOp_like h1 hl
    exact ⟨T', g1, by rw [g2]; exact h2, by rw [g3, g4]; exact h3, ih h4 g5⟩

theorem Run.op {hs : List (Nat × Hint)} {ops : Array Oper} {i : Nat} {A : AS} {T : Took} (h : takeOp P SG hs ops.toList i A = some T) : ∃ o, ops[i]? = some o := by
  obtain ⟨o, _, _, d⟩ := takeOp_does h
  exact ⟨o, by have := d.op; rwa [Array.getElem?_toList] at this⟩

/-- one of them may come up first, if it is apart from those ahead of it -/
theorem Run.first {hs : List (Nat × Hint)} {ops : Array Oper} {i : Nat} {f : List Nat × List Nat} {l1 l2 : List (Nat × (List Nat × List Nat))} {A C : AS} (h : Run P SG hs ops (l1 ++ (i, f) :: l2) A C)
    (hi : ∀ k g, (k, g) ∈ l1 → ∃ x y, ops[k]? = some x ∧ ops[i]? = some y ∧ indep ops x y g f = true) : Run P SG hs ops ((i, f) :: (l1 ++ l2)) A C := by
  induction l1 generalizing A with
  | nil => exact h
  | cons x l1 ih =>
    obtain ⟨k, g⟩ := x
    obtain ⟨T, h1, h2, h3, h4⟩ := h
    obtain ⟨U, g1, g2, g3, g4⟩ := ih h4 fun k' g' hm => hi k' g' (by simp [hm])
    obtain ⟨x, y, hx, hy, hxy⟩ := hi k g (by simp)
    rw [← h3, ← g3] at hxy
    obtain ⟨U', T', u1, t1, u2, u3, u4, t2, t3, t4, hl⟩ := takeOp_swap h1 g1 hx hy hxy
    exact ⟨U', u1, by rw [u2]; exact g2, by rw [u3, u4]; exact g3, T', t1, by rw [t2]; exact h2, by rw [t3, t4]; exact h3, g4.like hl⟩

end
end Go.Ev

/- A region of operations is what the evaluator says, in whatever order. -/
namespace Go.Ev
variable [Globs]

section
variable {P : Program} {SG : SGT} {Q : Exit → Act → World → Prop}

/-- as 'Rel', but for the keys in use -/
structure RelU (U : Nat → Prop) (S : St) (A : AS) (a : Act) : Prop where
  wf : S.wf
  size : a.tmps.size = A.n
  defers : a.defers = []
  fr : FrOK S A.n A.fr a.tmps
  hp : HeapOK S A.hp
  used : ∀ k, S.used k → U k

theorem RelU.like {U : Nat → Prop} {S : St} {A B : AS} {a : Act} (h : RelU U S A a) (hl : Like A B) : RelU U S B a :=
  ⟨h.wf, h.size.trans hl.n.symm, h.defers, fun t x hx => by rw [hl.n]; exact h.fr t x (by rw [← hl.fr t]; exact hx), fun k o hk => h.hp k o (by rw [← hl.hp k]; exact hk), h.used⟩

theorem put_size (a : Act) (dst : Option Tmp) (v : Value) : (a.put dst v).tmps.size = a.tmps.size := by
  cases dst <;> simp [Act.put]

theorem put_defers (a : Act) (dst : Option Tmp) (v : Value) : (a.put dst v).defers = a.defers := by
  cases dst <;> rfl

theorem put_fr {S S' : St} {A A' : AS} {a : Act} {dst : Option Tmp} {v : Value} {x : AV} (h : FrOK S A.n A.fr a.tmps) (hs : a.tmps.size = A.n) (he : Ext S S') (hr : Rep S' v x) (hp : putA A dst x = some A') : FrOK S' A'.n A'.fr (a.put dst v).tmps := by
  obtain ⟨h1, h2, h3, h4, h5⟩ := putA_spec hp
  intro t y hy
  rw [h5] at hy
  rw [h2]
  cases dst with
  | none =>
    simp only [reduceCtorEq, if_false] at hy
    exact ⟨(h t y hy).1, (h t y hy).2.ext he⟩
  | some d =>
    have hd := h1 d rfl
    by_cases ht : d = t
    · subst ht
      simp only [if_true, Option.some.injEq] at hy
      subst hy
      refine ⟨hd, ?_⟩
      show Rep S' ((a.tmps.setIfInBounds d v).getD d undef) x
      rw [Array.getD_eq_getD_getElem?, Array.getElem?_setIfInBounds_self, if_pos (by rw [hs]; exact hd)]
      exact hr
    · rw [if_neg (by simpa using ht)] at hy
      refine ⟨(h t y hy).1, ?_⟩
      show Rep S' ((a.tmps.setIfInBounds d v).getD t undef) y
      rw [Array.getD_eq_getD_getElem?, Array.getElem?_setIfInBounds_ne ht, ← Array.getD_eq_getD_getElem?]
      exact (h t y hy).2.ext he

/-- a guard that the evaluator knows -/
theorem rep_undef {S : St} : Rep S undef (.tup []) := .i _ _ (.tup #[] [] rfl fun i h => absurd h (by simp))

theorem wantedA_sound {S : St} {n : Nat} {ops : Array Oper} {fr : List (Nat × AV)} {a : Act} {o : Oper} {b : Bool} (hfr : FrOK S n fr a.tmps) (hs : a.tmps.size = n) (h : wantedA ops.toList fr o = some b) : Region.wanted o (yielded ops a.tmps) = b := by
  unfold wantedA at h
  unfold Region.wanted
  split at h
  · next hg => rw [hg]; cases h; rfl
  · next j want hg =>
    rw [hg]
    simp only
    split at h
    · next g ho =>
      split at h
      · next d hd =>
        split at h
        · next c hl =>
          cases h
          obtain ⟨hlt, hr⟩ := hfr d _ hl
          obtain ⟨hv, _⟩ := rep_v hr
          have e : a.tmps[d]? = some (.bool c) := by
            have hlt' : d < a.tmps.size := by rw [hs]; exact hlt
            rw [Array.getD_eq_getD_getElem?, Array.getElem?_eq_getElem hlt'] at hv
            rw [Array.getElem?_eq_getElem hlt']
            exact congrArg some hv
          rw [Array.getElem?_toList] at ho
          unfold yielded
          simp only [ho, Option.bind_some, hd, e]
          cases c <;> cases want <;> rfl
        · next hl =>
          cases h
          obtain ⟨hlt, hr⟩ := hfr d _ hl
          obtain ⟨arr, hv, _, _⟩ := rep_tup hr
          have e : a.tmps[d]? = some (.tuple arr) := by
            have hlt' : d < a.tmps.size := by rw [hs]; exact hlt
            rw [Array.getD_eq_getD_getElem?, Array.getElem?_eq_getElem hlt'] at hv
            rw [Array.getElem?_eq_getElem hlt']
            exact congrArg some hv
          rw [Array.getElem?_toList] at ho
          unfold yielded
          simp only [ho, Option.bind_some, hd, e]
          cases want <;> rfl
        · cases h
      · cases h
    · cases h

theorem hinted_rep {S : St} {v : Value} {h : Option Hint} {r : R} (hc : AllP (hinted h r).cond) (hr : Rep S v r.val) : Rep S v (hinted h r).val := by
  unfold hinted at *
  split at *
  · split at *
    · next x hx =>
      have e := hc.1
      rw [hx, e] at hr
      exact hr
    · exact hr
  · have e := hc.1
    rw [← e]
    exact hr
  · exact hr

theorem hinted_cond {h : Option Hint} {r : R} (hc : AllP (hinted h r).cond) : AllP r.cond := by
  unfold hinted at hc
  split at hc
  · split at hc
    · exact hc.2
    · exact hc
  · exact hc.2
  · exact hc

theorem hinted_upd {h : Option Hint} {r : R} : (hinted h r).upd = r.upd := by
  unfold hinted
  split
  · split <;> rfl
  · rfl
  · rfl

theorem rowSz_shape (hp : Nat → Option AObj) (k : Nat) : rowSz (fun k => match hp k with | some o => some (shapeO o) | none => none) k = rowSz hp k := by
  unfold rowSz
  simp only
  generalize hp k = o
  cases o with
  | none => rfl
  | some o => cases o <;> rfl

theorem wholeA_shape (hp : Nat → Option AObj) (e : TypeId) (k n ver : Nat) : wholeA P (fun k => match hp k with | some o => some (shapeO o) | none => none) e k n ver = wholeA P hp e k n ver := by
  unfold wholeA
  simp only
  generalize hp k = o
  cases o with
  | none => rfl
  | some o => cases sizeA P e <;> cases o <;> rfl
theorem arrSlA_congr {hp hp' : Nat → Option AObj} (h : ∀ e k n ver, wholeA P hp e k n ver = wholeA P hp' e k n ver) (t : TypeId) (x : AV) (lo hi mx : Option AV) : arrSlA P hp t x lo hi mx = arrSlA P hp' t x lo hi mx := by
  unfold arrSlA
  simp only [h]
theorem arrIxA_congr {hp hp' : Nat → Option AObj} (h : ∀ e k n ver, wholeA P hp e k n ver = wholeA P hp' e k n ver) (t : TypeId) (x i : AV) : arrIxA P hp t x i = arrIxA P hp' t x i := by
  unfold arrIxA
  simp only [h]

theorem sliceA_congr {hp hp' : Nat → Option AObj} (h : ∀ k, rowSz hp k = rowSz hp' k) (t : TypeId) (x : AV) (lo hi mx : Option AV) : sliceA P hp t x lo hi mx = sliceA P hp' t x lo hi mx := by
  cases x <;> first | rfl | (simp only [sliceA, h]) | (rename_i v; cases v <;> rfl)

theorem indexAddrA_congr {hp hp' : Nat → Option AObj} (h : ∀ k, rowSz hp k = rowSz hp' k) (t : TypeId) (x i : AV) : indexAddrA P hp t x i = indexAddrA P hp' t x i := by
  unfold indexAddrA
  split <;> first | rfl | simp only [h]

theorem ptrEqA_shape {op : BinOp} {t : TypeId} {x y : AV} {hp : List (Nat × AObj)} {ks : List Nat} : ptrEqA P (fun k => match restr hp ks k with | some o => some (shapeO o) | none => none) op t x y = ptrEqA P (restr hp ks) op t x y := by
  unfold ptrEqA
  split
  · next e k off k' off' ht =>
    simp only
    generalize restr hp ks k = o
    cases o with
    | none => rfl
    | some o => cases o <;> cases (k.beq k' && off.beq off') <;> cases P.info? e <;> rfl
  · rfl

/-- what an operation sees is enough -/
theorem opA_seen {key : Nat} {h : Option Hint} {o : Op} {ev : Operand → AV} {hp : List (Nat × AObj)} {ks : List Nat} {r : R} (hr : opA P SG key h o ev (seen hp (opKind o) ks) = some r) : ∃ nd, opA P SG key h o ev (restr hp nd) = some r := by
  cases hk : opKind o with
  | full =>
    rw [hk] at hr
    exact ⟨_, hr⟩
  | none =>
    rw [hk] at hr
    refine ⟨[], ?_⟩
    have e : restr hp [] = fun _ => none := by funext k; rfl
    rw [e]
    exact hr
  | shape =>
    rw [hk] at hr
    refine ⟨ks, ?_⟩
    cases o <;> try (first | cases hk | (simp only [opKind] at hk; split at hk <;> cases hk))
    case shape.slice.refl t x lo hi mx =>
      simp only [opA] at hr ⊢
      rw [← hr]
      have e1 := arrSlA_congr (P := P) (hp := seen hp .shape ks) (hp' := restr hp ks) (fun e k n ver => wholeA_shape _ e k n ver) t (ev x) (lo.map ev) (hi.map ev) (mx.map ev)
      have e2 := sliceA_congr (P := P) (hp := seen hp .shape ks) (hp' := restr hp ks) (fun k => rowSz_shape _ k) t (ev x) (lo.map ev) (hi.map ev) (mx.map ev)
      rw [e1, e2]
    case shape.binOp.refl bop t x y yt =>
      simp only [opA] at hr ⊢
      rw [← hr]
      have e : ptrEqA P (seen hp .shape ks) bop t (ev x) (ev y) = ptrEqA P (restr hp ks) bop t (ev x) (ev y) := ptrEqA_shape
      rw [e]
    case shape.indexAddr.refl t x i =>
      simp only [opA] at hr ⊢
      rw [← hr]
      have e1 := arrIxA_congr (P := P) (hp := seen hp .shape ks) (hp' := restr hp ks) (fun e k n ver => wholeA_shape _ e k n ver) t (ev x) (ev i)
      have e2 := indexAddrA_congr (P := P) (hp := seen hp .shape ks) (hp' := restr hp ks) (fun k => rowSz_shape _ k) t (ev x) (ev i)
      rw [e1, e2]

/-- one operation -/
theorem takeOp_wp {hs : List (Nat × Hint)} {ops : Array Oper} {i : Nat} {A : AS} {T : Took} {U : Nat → Prop} {S : St} {a : Act} {K : Act → World → Prop} (hsg : SigsOK P SG) (h : takeOp P SG hs ops.toList i A = some T) (hc : AllP T.cond)
    (hR : RelU U S A a) (hkey : ¬ S.used (A.nx + i)) (hK : ∀ S' a', Ext S S' → RelU (fun k => U k ∨ k = A.nx + i) S' T.A a' → (∀ k, S'.used k → S.used k ∨ k = A.nx + i) → K a' S'.w) : wpOp P ops Q i K a S.w := by
  unfold takeOp at h
  split at h
  · cases h
  · next o ho =>
    rw [Array.getElem?_toList] at ho
    unfold wpOp
    simp only [ho]
    split at h
    · cases h
    · next hw =>
      rw [wantedA_sound hR.fr hR.size hw]
      simp only [Bool.false_eq_true, if_false]
      split at h
      · next A' hp =>
        cases h
        obtain ⟨h1, h2, h3, h4, h5⟩ := putA_spec hp
        refine hK S _ (Ext.refl S) ⟨hR.wf, by rw [put_size, hR.size, h2], by rw [put_defers]; exact hR.defers, put_fr hR.fr hR.size (Ext.refl S) rep_undef hp, by rw [h4]; exact hR.hp, fun k hk => .inl (hR.used k hk)⟩ fun k hk => .inl hk
      · cases h
    · next hw =>
      rw [wantedA_sound hR.fr hR.size hw]
      simp only [if_true]
      simp only at h
      split at h
      · cases h
      · next r0 hr =>
        split at h
        · next A' hp =>
          cases h
          obtain ⟨nd, hr⟩ := opA_seen hr
          have out := opA_out (o := o) (a := a) hsg hR.wf hR.hp hkey hR.fr hr (hinted_cond hc)
          have fin : ∀ v S', Post S (A.nx + i) (applyUpd A.hp r0.upd) r0.val v S' → K (a.put o.dst v) S'.w := by
            intro v S' hpost
            have hrep := hinted_rep (h := look hs i) hc hpost.rep
            have hfr := put_fr (A := { A with hp := applyUpd A.hp (hinted (look hs i) r0).upd }) (v := v) hR.fr hR.size hpost.ext hrep hp
            obtain ⟨h1, h2, h3, h4, h5⟩ := putA_spec hp
            refine hK S' _ hpost.ext ⟨hpost.wf, by rw [put_size, hR.size, h2], by rw [put_defers]; exact hR.defers, hfr, ?_, fun k hk => (hpost.used k hk).imp (hR.used k) id⟩ hpost.used
            rw [h4]
            show HeapOK S' (applyUpd A.hp (hinted (look hs i) r0).upd)
            rw [hinted_upd]
            exact hpost.hp
          left
          unfold Oper.wp
          revert out
          cases (execOp a.eval o).run P S.w with
          | halt x w' => exact fun h => h.elim
          | ok nx w' =>
            cases nx with
            | value v =>
              intro ⟨S', hw', hpost⟩
              subst hw'
              exact fin v S' hpost
            | skip =>
              intro ⟨S', hw', hpost⟩
              subst hw'
              exact fin undef S' hpost
            | enter f args =>
              intro ⟨hw', hcall⟩
              subst hw'
              refine hcall.mono fun e w'' ⟨v, S', he, hw'', hpost⟩ => ?_
              subst he hw''
              exact fin v S' hpost
            | _ => exact fun h => h.elim
        · cases h

theorem takeOp_frame {hs : List (Nat × Hint)} {ops : List Oper} {i : Nat} {A : AS} {T : Took} (h : takeOp P SG hs ops i A = some T) : T.A.nx = A.nx := by
  obtain ⟨_, _, _, d⟩ := takeOp_does h
  exact d.nx

theorem takeOps_frame {hs : List (Nat × Hint)} {ops : List Oper} {n i : Nat} {A A' : AS} {c : List Prop} {fs : List (List Nat × List Nat)} (h : takeOps P SG hs ops n i A = some (A', c, fs)) : A'.nx = A.nx := by
  induction n generalizing i A A' c fs with
  | zero =>
    simp only [takeOps, Option.some.injEq, Prod.mk.injEq] at h
    rw [h.1]
  | succ n ih =>
    simp only [takeOps] at h
    split at h
    · cases h
    · next t ht =>
      split at h
      · next A1 c1 fs1 hr =>
        simp only [Option.some.injEq, Prod.mk.injEq] at h
        obtain ⟨rfl, rfl, rfl⟩ := h
        exact (ih hr).trans (takeOp_frame ht)
      · cases h

/-- the operations in the text's order -/
theorem takeOps_wp {hs : List (Nat × Hint)} {ops : Array Oper} (hsg : SigsOK P SG) (n : Nat) : ∀ (i : Nat) (A A' : AS) (c : List Prop) (fs : List (List Nat × List Nat)) (S : St) (a : Act),
    takeOps P SG hs ops.toList n i A = some (A', c, fs) → AllP c → RelU (fun k => k < A.nx + i ∨ rsv ≤ k) S A a → A.nx + (i + n) ≤ rsv →
    (∀ S' a', Ext S S' → RelU (fun k => k < A.nx + (i + n) ∨ rsv ≤ k) S' A' a' → A'.nx = A.nx → Q .normal a' S'.w) → wpOps P ops Q (List.range' i n) a S.w := by
  induction n with
  | zero =>
    intro i A A' c fs S a h hc hR hr0 hK
    simp only [takeOps, Option.some.injEq, Prod.mk.injEq] at h
    obtain ⟨rfl, rfl, rfl⟩ := h
    exact hK S a (Ext.refl S) hR rfl
  | succ n ih =>
    intro i A A' c fs S a h hc hR hr0 hK
    simp only [takeOps] at h
    split at h
    · cases h
    · next t ht =>
      split at h
      · next A1 c1 fs1 hr =>
        simp only [Option.some.injEq, Prod.mk.injEq] at h
        obtain ⟨rfl, rfl, rfl⟩ := h
        have hc := allP_append hc
        have hnx := takeOp_frame ht
        rw [List.range'_succ, wpOps_cons]
        refine takeOp_wp hsg ht hc.1 hR (fun hu => absurd (hR.used _ hu) (by omega)) fun S' a' he hR' _ => ?_
        refine ih (i + 1) t.A _ _ _ S' a' hr hc.2 ⟨hR'.wf, hR'.size, hR'.defers, hR'.fr, hR'.hp, fun k hk => ?_⟩ (by rw [hnx]; omega) fun S'' a'' he' hR'' hnx' => ?_
        · have := hR'.used k hk
          rw [hnx]
          omega
        · refine hK S'' a'' (he.trans he') ⟨hR''.wf, hR''.size, hR''.defers, hR''.fr, hR''.hp, fun k hk => ?_⟩ (hnx'.trans hnx)
          have := hR''.used k hk
          rw [hnx] at this
          omega
      · cases h

end
end Go.Ev

/- A region that draws its order: whatever order is drawn, it comes to what the evaluator says. -/
namespace Go.Ev
variable [Globs]

/-- j waits for k -/
inductive Anc (ops : Array Oper) : Nat → Nat → Prop
  | one {j : Nat} {o : Oper} {e : Edge} : ops[j]? = some o → e ∈ o.after → Region.binds .any e = true → Anc ops j e.on
  | more {j k : Nat} {o : Oper} {e : Edge} : ops[j]? = some o → e ∈ o.after → Region.binds .any e = true → Anc ops e.on k → Anc ops j k

theorem Anc.listed {ops : Array Oper} {listed : Array Bool} {j k : Nat} (h : Anc ops j k) (hj : ∀ o, ops[j]? = some o → ∀ e ∈ o.after, Region.binds .any e = true → listed.getD e.on false = true)
    (hc : ∀ j o, listed.getD j false = true → ops[j]? = some o → ∀ e ∈ o.after, Region.binds .any e = true → listed.getD e.on false = true) : listed.getD k false = true := by
  induction h with
  | one ho he hb => exact hj _ ho _ he hb
  | more ho he hb _ ih => exact ih fun o ho' e' he' hb' => hc _ o (hj _ ho _ he hb) ho' e' he' hb'

theorem before_anc (ops : Array Oper) : ∀ j k, ((Region.before ops).getD j 0).testBit k = true → Anc ops j k := by
  have main : (Region.before ops).size = ops.size ∧ ∀ j k, ((Region.before ops).getD j 0).testBit k = true → Anc ops j k := by
    unfold Region.before
    refine Array.foldl_induction (as := ops) (motive := fun (i : Nat) (acc : Array Nat) => acc.size = i ∧ ∀ j k, (acc.getD j 0).testBit k = true → Anc ops j k) ⟨rfl, fun j k h => by simp at h⟩ ?_
    intro i acc ⟨hs, hacc⟩
    refine ⟨by simp [hs], fun j k h => ?_⟩
    rw [Array.getD_eq_getD_getElem?, Array.getElem?_push] at h
    split at h
    · next hj =>
      simp only [Option.getD_some] at h
      have ho : ops[j]? = some (ops[i.val]'i.isLt) := (congrArg (fun n => ops[n]?) (hj.trans hs)).trans (Array.getElem?_eq_getElem i.isLt)
      have inner : ∀ s : Nat, (∀ k, s.testBit k = true → Anc ops j k) → ∀ (l : List Edge), (∀ e ∈ l, e ∈ ops[i].after) →
          ∀ k, (l.foldl (fun s e => if Region.binds .any e then s ||| 2 ^ e.on ||| acc.getD e.on 0 else s) s).testBit k = true → Anc ops j k := by
        intro s hs l
        induction l generalizing s with
        | nil => intro _ k hk; exact hs k hk
        | cons e l ih =>
          intro hl k hk
          simp only [List.foldl_cons] at hk
          refine ih _ ?_ (fun e he => hl e (by simp [he])) k hk
          intro k' hk'
          split at hk'
          · next hb =>
            simp only [Nat.testBit_or, Bool.or_eq_true] at hk'
            rcases hk' with (h1 | h1) | h1
            · exact hs k' h1
            · have : e.on = k' := by
                rw [Nat.testBit_two_pow] at h1
                simpa using h1
              rw [← this]
              exact .one ho (hl e (by simp)) hb
            · exact .more ho (hl e (by simp)) hb (hacc _ _ h1)
          · exact hs k' hk'
      rw [← Array.foldl_toList] at h
      exact inner 0 (fun k hk => by simp at hk) ops[i].after.toList (fun e he => by simpa using he) k h
    · rw [← Array.getD_eq_getD_getElem?] at h
      exact hacc j k h
  exact main.2

theorem backOk_spec {l : List Oper} {i : Nat} (h : backOk l i = true) : ∀ j o, l[j]? = some o → ∀ e ∈ o.after, Region.binds .any e = true → e.on < i + j := by
  induction l generalizing i with
  | nil => intro j o ho; simp at ho
  | cons x r ih =>
    simp only [backOk, Bool.and_eq_true] at h
    intro j o ho e he hb
    cases j with
    | zero =>
      simp only [List.getElem?_cons_zero, Option.some.injEq] at ho
      subst ho
      have := Array.all_eq_true_iff_forall_mem.1 h.1 e he
      rw [hb] at this
      simpa [Nat.blt_eq] using this
    | succ j =>
      have := ih h.2 j o (by simpa using ho) e he hb
      omega

def numbered {α : Type} : Nat → List α → List (Nat × α)
  | _, [] => []
  | i, f :: r => (i, f) :: numbered (i + 1) r

theorem numbered_mem {α : Type} {l : List α} {i j : Nat} {f : α} : (j, f) ∈ numbered i l ↔ i ≤ j ∧ l[j - i]? = some f := by
  induction l generalizing i with
  | nil => simp [numbered]
  | cons x r ih =>
    simp only [numbered, List.mem_cons, Prod.mk.injEq, ih]
    constructor
    · rintro (⟨rfl, rfl⟩ | ⟨h1, h2⟩)
      · simp
      · refine ⟨by omega, ?_⟩
        rw [show j - i = (j - (i + 1)) + 1 by omega]
        simpa using h2
    · rintro ⟨h1, h2⟩
      by_cases hji : j = i
      · subst hji
        simp at h2
        exact .inl ⟨rfl, h2.symm⟩
      · refine .inr ⟨by omega, ?_⟩
        rw [show j - i = (j - (i + 1)) + 1 by omega] at h2
        simpa using h2

theorem numbered_length {α : Type} (l : List α) (i : Nat) : (numbered i l).length = l.length := by
  induction l generalizing i with
  | nil => rfl
  | cons x r ih => simp [numbered, ih]

theorem numbered_pairwise {α : Type} (l : List α) (i : Nat) : (numbered i l).Pairwise fun x y => x.1 < y.1 := by
  induction l generalizing i with
  | nil => exact .nil
  | cons x r ih =>
    refine .cons (fun y hy => ?_) (ih (i + 1))
    obtain ⟨j, f⟩ := y
    have := (numbered_mem.1 hy).1
    show i < j
    omega

section
variable {P : Program} {SG : SGT} {Q : Exit → Act → World → Prop}

theorem takeOps_run {hs : List (Nat × Hint)} {ops : Array Oper} (n : Nat) : ∀ (i : Nat) (A A' : AS) (c : List Prop) (fs : List (List Nat × List Nat)), takeOps P SG hs ops.toList n i A = some (A', c, fs) → AllP c →
    fs.length = n ∧ Run P SG hs ops (numbered i fs) A A' := by
  induction n with
  | zero =>
    intro i A A' c fs h _
    simp only [takeOps, Option.some.injEq, Prod.mk.injEq] at h
    obtain ⟨rfl, rfl, rfl⟩ := h
    exact ⟨rfl, Like.refl _⟩
  | succ n ih =>
    intro i A A' c fs h hc
    simp only [takeOps] at h
    split at h
    · cases h
    · next t ht =>
      split at h
      · next A1 c1 fs1 hr =>
        simp only [Option.some.injEq, Prod.mk.injEq] at h
        obtain ⟨rfl, rfl, rfl⟩ := h
        have hc := allP_append hc
        obtain ⟨h1, h2⟩ := ih (i + 1) t.A _ _ _ hr hc.2
        exact ⟨by simp [h1], t, ht, hc.1, rfl, h2⟩
      · cases h

/-- two operations, the first ahead of the second in the text -/
def Apart (ops : Array Oper) (x y : Nat × (List Nat × List Nat)) : Prop :=
  x.1 < y.1 ∧ (Anc ops y.1 x.1 ∨ ∃ o p, ops[x.1]? = some o ∧ ops[y.1]? = some p ∧ indep ops o p x.2 y.2 = true)

theorem drawOk_pairwise {ops : Array Oper} {fs : List (List Nat × List Nat)} (h : drawOk ops fs = true) (hl : fs.length = ops.size) : (numbered 0 fs).Pairwise (Apart ops) := by
  unfold drawOk at h
  rw [Bool.and_eq_true] at h
  have hp := h.2
  refine (numbered_pairwise fs 0).imp_of_mem fun {x y} hx hy hlt => ⟨hlt, ?_⟩
  obtain ⟨i, f⟩ := x
  obtain ⟨j, g⟩ := y
  have hi := (numbered_mem.1 hx).2
  have hj := (numbered_mem.1 hy).2
  simp only [Nat.sub_zero] at hi hj
  have hjlt : j < ops.size := by rw [← hl]; exact (List.getElem?_eq_some_iff.1 hj).1
  have h1 := List.all_eq_true.1 hp j (List.mem_range.2 hjlt)
  have h2 := List.all_eq_true.1 h1 i (List.mem_range.2 hlt)
  rw [Bool.or_eq_true] at h2
  rcases h2 with h2 | h2
  · exact .inl (before_anc ops j i h2)
  · split at h2
    · next o p f' g' e1 e2 e3 e4 =>
      rw [hi] at e3
      rw [hj] at e4
      cases e3
      cases e4
      exact .inr ⟨o, p, e1, e2, h2⟩
    · cases h2

theorem any_wp {hs : List (Nat × Hint)} {ops : Array Oper} (hsg : SigsOK P SG) (hback : backOk ops.toList 0 = true) (nx : Nat) : ∀ (fuel : Nat) (l : List (Nat × (List Nat × List Nat))) (listed : Array Bool) (A A' : AS) (S : St) (a : Act),
    l.length = fuel → listed.size = ops.size → (∀ i, i < ops.size → (listed.getD i true = false ↔ ∃ f, (i, f) ∈ l)) →
    (∀ j o, listed.getD j false = true → ops[j]? = some o → ∀ e ∈ o.after, Region.binds .any e = true → listed.getD e.on false = true) →
    l.Pairwise (Apart ops) → Run P SG hs ops l A A' → A.nx = nx → RelU (fun k => k < nx + ops.size ∨ rsv ≤ k) S A a → (∀ i f, (i, f) ∈ l → ¬ S.used (nx + i)) →
    (∀ S' a', Ext S S' → RelU (fun k => k < nx + ops.size ∨ rsv ≤ k) S' A' a' → A'.nx = nx → Q .normal a' S'.w) → wpAny P .any ops Q fuel listed a S.w := by
  intro fuel
  induction fuel with
  | zero =>
    intro l listed A A' S a hlen hls hmem hcl hpw hrun hnx hR hused hK
    have hl : l = [] := List.length_eq_zero_iff.1 hlen
    subst hl
    refine ⟨?_, hK S a (Ext.refl S) (hR.like hrun) (hrun.nx.trans hnx)⟩
    cases hrd : Region.ready .any ops listed with
    | nil => rfl
    | cons i r =>
      have hi : i ∈ Region.ready .any ops listed := by rw [hrd]; simp
      obtain ⟨h0, o, ho, _⟩ := mem_ready.1 hi
      obtain ⟨f, hf⟩ := (hmem i (Array.getElem?_eq_some_iff.1 ho).1).1 h0
      cases hf
  | succ fuel ih =>
    intro l listed A A' S a hlen hls hmem hcl hpw hrun hnx hR hused hK
    have hsame : ∀ i, i < ops.size → listed.getD i false = listed.getD i true := fun i hi => by
      have : i < listed.size := by rw [hls]; exact hi
      simp [this]
    refine ⟨fun hnil => ?_, fun i hi => ?_⟩
    · exfalso
      cases l with
      | nil => cases hlen
      | cons x l =>
        obtain ⟨i, f⟩ := x
        obtain ⟨T, ht, _⟩ := hrun
        obtain ⟨o, ho⟩ := Run.op ht
        have hlt := (Array.getElem?_eq_some_iff.1 ho).1
        have : i ∈ Region.ready .any ops listed := by
          rw [mem_ready]
          refine ⟨(hmem i hlt).2 ⟨f, by simp⟩, o, ho, fun e he hb => ?_⟩
          have hon := backOk_spec hback i o (by rw [Array.getElem?_toList]; exact ho) e he hb
          simp only [Nat.zero_add] at hon
          have hons : e.on < ops.size := by omega
          rw [hsame _ hons]
          cases hv : listed.getD e.on true with
          | true => rfl
          | false =>
            exfalso
            obtain ⟨g, hg⟩ := (hmem _ hons).1 hv
            rcases List.mem_cons.1 hg with h1 | h1
            · cases h1; omega
            · have : i < e.on := ((List.pairwise_cons.1 hpw).1 _ h1).1
              omega
        rw [hnil] at this
        cases this
    · obtain ⟨h0, o, ho, hdeps⟩ := mem_ready.1 hi
      have hlt := (Array.getElem?_eq_some_iff.1 ho).1
      obtain ⟨f, hf⟩ := (hmem i hlt).1 h0
      obtain ⟨l1, l2, hl⟩ := List.append_of_mem hf
      subst hl
      have hpw' := List.pairwise_append.1 hpw
      have hfirst := Run.first hrun fun k g hk => by
        have hap := hpw'.2.2 (k, g) hk (i, f) (by simp)
        rcases hap.2 with hanc | hind
        · exfalso
          have hkl : k < ops.size := Nat.lt_trans (show k < i from hap.1) hlt
          have h1 := hanc.listed (listed := listed) (fun o' ho' e he hb => by rw [ho] at ho'; cases ho'; exact hdeps e he hb) hcl
          rw [hsame _ hkl] at h1
          have h2 := (hmem k hkl).2 ⟨g, by simp [hk]⟩
          rw [h1] at h2
          cases h2
        · exact hind
      obtain ⟨T, ht, hc, hfp, hrest⟩ := hfirst
      have hTnx := takeOp_frame ht
      refine takeOp_wp (U := fun k => k < nx + ops.size ∨ rsv ≤ k) hsg ht hc hR (by rw [hnx]; exact hused i f hf) fun S' a' he hR' hu => ?_
      have hne : ∀ k g, (k, g) ∈ l1 ++ l2 → k ≠ i := fun k g hk => by
        rcases List.mem_append.1 hk with h1 | h1
        · have : k < i := (hpw'.2.2 (k, g) h1 (i, f) (by simp)).1
          omega
        · have : i < k := ((List.pairwise_cons.1 hpw'.2.1).1 (k, g) h1).1
          omega
      refine ih (l1 ++ l2) _ T.A A' S' a' (by simp at hlen ⊢; omega) (by simp [hls]) (fun k hk => ?_) (fun j o' hj ho' e he hb => ?_) (hpw.sublist (by simp)) hrest (hTnx.trans hnx)
        ⟨hR'.wf, hR'.size, hR'.defers, hR'.fr, hR'.hp, fun k hk => ?_⟩ (fun k g hk hus => ?_) fun S'' a'' he' hR'' hn => hK S'' a'' (he.trans he') hR'' hn
      · by_cases hki : k = i
        · subst hki
          have : (listed.setIfInBounds k true).getD k true = true := by
            have : k < listed.size := by rw [hls]; exact hk
            simp [this]
          rw [this]
          constructor
          · intro h; cases h
          · rintro ⟨g, hg⟩
            exact absurd rfl (hne k g hg)
        · rw [getD_set_ne true (Ne.symm hki), hmem k hk]
          constructor
          · rintro ⟨g, hg⟩
            refine ⟨g, ?_⟩
            simp only [List.mem_append, List.mem_cons, Prod.mk.injEq] at hg ⊢
            rcases hg with h | ⟨h, _⟩ | h
            · exact .inl h
            · exact absurd h hki
            · exact .inr h
          · rintro ⟨g, hg⟩
            refine ⟨g, ?_⟩
            simp only [List.mem_append, List.mem_cons] at hg ⊢
            rcases hg with h | h
            · exact .inl h
            · exact .inr (.inr h)
      · by_cases hji : j = i
        · subst hji
          rw [ho] at ho'
          cases ho'
          exact getD_set_true (hdeps e he hb)
        · rw [getD_set_ne false (Ne.symm hji)] at hj
          exact getD_set_true (hcl j o' hj ho' e he hb)
      · rcases hR'.used k hk with h1 | h1
        · exact h1
        · rw [hnx] at h1; omega
      · rcases hu _ hus with h1 | h1
        · exact hused k g (by
            rcases List.mem_append.1 hk with h | h
            · simp [h]
            · simp [h]) h1
        · rw [hnx] at h1
          have := hne k g hk
          omega

/-- a region -/
theorem region_wp {hs : List (Nat × Hint)} {id : Nat} {ops : Array Oper} {draw : Bool} {A A' : AS} {c : List Prop} {fs : List (List Nat × List Nat)} {S : St} {a : Act} (hm : P.follows .mixedOrders = true) (hsg : SigsOK P SG)
    (h : takeOps P SG hs ops.toList ops.size 0 A = some (A', c, fs)) (hc : AllP c) (hd : (!draw || drawOk ops fs) = true) (hlim : A'.nx + ops.size ≤ rsv) (hR : Rel S A a)
    (hK : ∀ S' a', Ext S S' → Rel S' { A' with nx := A'.nx + ops.size } a' → Q .normal a' S'.w) : (Code.region id ops draw).wp P Q a S.w := by
  have fin : ∀ S' a', Ext S S' → RelU (fun k => k < A.nx + ops.size ∨ rsv ≤ k) S' A' a' → A'.nx = A.nx → Q .normal a' S'.w := fun S' a' he hR' hn =>
    hK S' a' he ⟨hR'.wf, hR'.size, hR'.defers, hR'.fr, hR'.hp, fun k hk => by have := hR'.used k hk; show k < A'.nx + ops.size ∨ rsv ≤ k; rw [hn]; exact this⟩
  have hlim' : A.nx + ops.size ≤ rsv := by rw [← takeOps_frame h]; exact hlim
  cases draw with
  | false =>
    refine wp_region ?_
    rw [List.range_eq_range']
    exact takeOps_wp hsg ops.size 0 A A' c fs S a h hc ⟨hR.wf, hR.size, hR.defers, hR.fr, hR.hp, hR.used⟩ (by simpa using hlim') fun S' a' he hR' hn =>
      fin S' a' he ⟨hR'.wf, hR'.size, hR'.defers, hR'.fr, hR'.hp, fun k hk => by have := hR'.used k hk; simpa using this⟩ hn
  | true =>
    simp only [Bool.not_true, Bool.false_or] at hd
    obtain ⟨hlen, hrun⟩ := takeOps_run ops.size 0 A A' c fs h hc
    have hback : backOk ops.toList 0 = true := by
      unfold drawOk at hd
      rw [Bool.and_eq_true] at hd
      exact hd.1
    have hg := drew_grows S.w
    refine wp_region_any hm ?_
    show wpAny P .any ops Q ops.size (Array.replicate ops.size false) a (S.at S.w.drew).w
    refine any_wp hsg hback A.nx ops.size (numbered 0 fs) _ A A' (S.at S.w.drew) a (by rw [numbered_length, hlen]) (by simp) (fun i hi => ?_) (fun j o hj => ?_) (drawOk_pairwise hd hlen) hrun rfl
      ⟨wf_at hg hR.wf, hR.size, hR.defers, hR.fr.ext (ext_at hg hR.wf), heap_at hg hR.wf hR.hp, fun k hk => by have := hR.used k hk; omega⟩ (fun i f hf hu => ?_) fun S' a' he hR' hn => fin S' a' ((ext_at hg hR.wf).trans he) hR' hn
    · have : (Array.replicate ops.size false).getD i true = false := by simp [hi]
      rw [this]
      constructor
      · intro _
        refine ⟨fs[i]'(by rw [hlen]; exact hi), numbered_mem.2 ⟨Nat.zero_le _, ?_⟩⟩
        simp
      · intro _; rfl
    · exfalso
      by_cases hjs : j < ops.size
      · simp [hjs] at hj
      · simp [hjs] at hj
    · have h1 := hR.used _ hu
      have h2 := (numbered_mem.1 hf).2
      have h3 : i < ops.size := by
        rcases Nat.lt_or_ge i fs.length with h | h
        · omega
        · rw [List.getElem?_eq_none (by omega)] at h2; cases h2
      omega

end
end Go.Ev

/- What is kept of a state; what is forgotten. -/
namespace Go.Ev
variable [Globs]

/-- is this key kept where those from n on are forgotten? -/
def kp (n k : Nat) : Prop := k < n ∨ rsv ≤ k
instance (n k : Nat) : Decidable (kp n k) := by unfold kp; infer_instance

/-- the keys from n on are forgotten -/
def St.forget (S : St) (n : Nat) : St :=
  { S with
    own := fun b => match S.own b with
      | some (some k) => if kp n k then some (some k) else some none
      | o => o
    live := fun k => S.live k ∧ kp n k
    used := fun k => S.used k ∧ kp n k }

section forget
variable {S : St} {n : Nat}

theorem forget_own_lt {b k : Nat} (h : S.own b = some (some k)) (hk : kp n k) : (S.forget n).own b = some (some k) := by
  show (match S.own b with | some (some k) => if kp n k then some (some k) else some none | o => o) = some (some k)
  rw [h]
  simp [hk]

theorem forget_some {b : Nat} {o : Option Nat} (h : (S.forget n).own b = some o) : ∃ o', S.own b = some o' := by
  have h' : (match S.own b with | some (some k) => if kp n k then some (some k) else some none | o => o) = some o := h
  split at h'
  · next k hk => exact ⟨_, hk⟩
  · exact ⟨_, h'⟩

theorem forget_free {b : Nat} : (S.forget n).free b ↔ S.free b := by
  show (match S.own b with | some (some k) => if kp n k then some (some k) else some none | o => o) = none ↔ S.own b = none
  split
  · next k hk =>
    rw [hk]
    split <;> simp
  · rfl

theorem forget_wf (h : S.wf) : (S.forget n).wf := by
  refine ⟨fun b o hb => ?_, fun k hl => ?_, fun k hl => ⟨h.lu k hl.1, hl.2⟩, h.glob.keep (fun _ _ ho => ⟨rfl, forget_free.2 ho⟩) (Nat.le_refl _)⟩
  · obtain ⟨o', ho⟩ := forget_some hb
    exact h.bound b o' ho
  · intro b hb
    exact forget_own_lt (h.kept k hl.1 b hb) hl.2

theorem forget_kept : Kept S (S.forget n) := by
  refine ⟨Nat.le_refl _, rfl, rfl, rfl, fun b hb ho => ⟨rfl, ?_⟩, fun k hk hu => ⟨⟨hu, .inr hk⟩, fun hl => ⟨hl.1, ⟨rfl, rfl, Nat.le_refl _, fun _ => rfl, fun _ => rfl, fun _ _ _ => Nat.le_refl _⟩⟩⟩⟩
  show (match S.own b with | some (some k) => if kp n k then some (some k) else some none | o => o) = S.own b
  split
  · next k hk => exact (ho k hk).elim
  · rfl

theorem forget_row {v : Value} {k off len ver : Nat} {t : Bool} (hk : kp n k) (h : RowOK S v k off len ver t) : RowOK (S.forget n) v k off len ver t := by
  obtain ⟨hrow, a, c, hv, h1, h2, h3, h4, h5, h6⟩ := h
  refine ⟨hrow, a, c, hv, h1, h2, h3, h4, fun hl => ?_, h6⟩
  obtain ⟨ad, ha, hrest⟩ := h5 hl
  exact ⟨ad, ha, fun hf => ⟨forget_own_lt (hrest hf).1 hk, (hrest hf).2⟩⟩

theorem forget_rp {v : Value} {k i ver off : Nat} (hk : kp n k) (h : RpOK S v k i ver off) : RpOK (S.forget n) v k i ver off := by
  obtain ⟨hrow, ad, hv, h1, h2, h3, h4⟩ := h
  exact ⟨hrow, ad, hv, h1, h2, fun hf => ⟨forget_own_lt (h3 hf).1 hk, (h3 hf).2⟩, h4⟩

theorem below1_spec {x : AV} (h : below1 n x = true) : ∀ k, k ∈ keyOf x → kp n k := fun k hk => by
  have := List.all_eq_true.1 h k hk
  unfold kp
  simpa [Nat.blt_eq] using this

def nests : AV → Bool
  | .agg _ | .tup _ | .fnv _ _ _ | .ifc _ _ => true
  | _ => false

theorem forget_rep1 {v : Value} {x : AV} (hn : nests x = false) (hb : below1 n x = true) (h : Rep S v x) : Rep (S.forget n) v x := by
  have hk := below1_spec hb
  cases h with
  | i _ _ h => exact .i _ _ (h.ext fun b _ hU => ⟨rfl, forget_free.2 hU⟩)
  | junk => exact .junk _
  | agg => cases hn
  | tup => cases hn
  | row _ k off len ver t hu hr hx =>
    have := hk k (by simp [keyOf])
    exact .row _ k off len ver t ⟨hu, this⟩ (fun hl => forget_row this (hr hl.1)) hx
  | rp _ k i ver off hu hr hx =>
    have := hk k (by simp [keyOf])
    exact .rp _ k i ver off ⟨hu, this⟩ (fun hl => forget_rp this (hr hl.1)) hx
  | ptr _ k off hu hr hx =>
    have := hk k (by simp [keyOf])
    exact .ptr _ k off ⟨hu, this⟩ (fun hl => hr hl.1) hx
  | mpk b k hu hr =>
    have := hk k (by simp [keyOf])
    exact .mpk b k ⟨hu, this⟩ (fun hl => hr hl.1)
  | fnv => cases hn
  | ifc => cases hn

theorem part_nests {l : List AV} (h : (l.all fun
    | .agg _ | .tup _ | .fnv _ _ _ | .ifc _ _ => false
    | x => below1 n x) = true) {i : Nat} (hi : i < l.length) : nests l[i] = false ∧ below1 n l[i] = true := by
  have := List.all_eq_true.1 h l[i] (List.getElem_mem hi)
  split at this
  all_goals first | cases this | skip
  next x h1 h2 h3 h4 =>
    refine ⟨?_, this⟩
    unfold nests
    split
    · next he => exact (h1 _ he).elim
    · next he => exact (h2 _ he).elim
    · next he => exact (h3 _ _ _ he).elim
    · next he => exact (h4 _ _ he).elim
    · rfl

theorem forget_rep {v : Value} {x : AV} (hb : belowA n x = true) (h : Rep S v x) : Rep (S.forget n) v x := by
  cases hx : nests x with
  | false =>
    refine forget_rep1 hx ?_ h
    cases x <;> first | exact hb | cases hx
  | true =>
    cases h with
    | i _ _ h => exact .i _ _ (h.ext fun b _ hU => ⟨rfl, forget_free.2 hU⟩)
    | junk => cases hx
    | agg arr cs hs hr =>
      refine .agg arr cs hs fun i hi => ?_
      obtain ⟨h1, h2⟩ := part_nests (l := cs) hb hi
      exact forget_rep1 h1 h2 (hr i hi)
    | tup arr cs hs hr =>
      refine .tup arr cs hs fun i hi => ?_
      obtain ⟨h1, h2⟩ := part_nests (l := cs) hb hi
      exact forget_rep1 h1 h2 (hr i hi)
    | row => cases hx
    | rp => cases hx
    | ptr => cases hx
    | mpk => cases hx
    | fnv f a b as bs h1 h2 h3 h4 =>
      simp only [belowA, Bool.and_eq_true] at hb
      obtain ⟨⟨ha, hbb⟩, hall⟩ := hb
      have one : ∀ x, x ∈ as ++ bs → nests x = false := fun x hx => by
        have := List.all_eq_true.1 hall x hx
        cases x <;> first | rfl | cases this
      refine .fnv f a b as bs h1 (fun i hi => ?_) h3 (fun i hi => ?_)
      · exact forget_rep1 (one _ (List.mem_append_left _ (List.getElem_mem hi))) (List.all_eq_true.1 ha _ (List.getElem_mem hi)) (h2 i hi)
      · exact forget_rep1 (one _ (List.mem_append_right _ (List.getElem_mem hi))) (List.all_eq_true.1 hbb _ (List.getElem_mem hi)) (h4 i hi)
    | ifc t x y h =>
      have hy : nests y = false ∧ below1 n y = true := by
        simp only [belowA] at hb
        cases y <;> first | exact ⟨rfl, hb⟩ | cases hb
      exact .ifc t x y (forget_rep1 hy.1 hy.2 h)

theorem forget_obj {k : Nat} {o : AObj} (hk : kp n k) (hb : belowO n o = true) (h : ObjOK S k o) : ObjOK (S.forget n) k o := by
  cases o with
  | map es =>
    obtain ⟨hrow, b, arr, hc, ho, hh, hl, hr⟩ := h
    exact ⟨hrow, b, arr, hc, forget_own_lt ho hk, hh, hl, fun i hi => ⟨(hr i hi).1, (hr i hi).2.1, forget_rep (List.all_eq_true.1 hb _ (List.getElem_mem hi)) (hr i hi).2.2⟩⟩
  | cells T cs =>
    obtain ⟨hrow, b, arr, hc, ho, hh, hl, hr⟩ := h
    exact ⟨hrow, b, arr, hc, forget_own_lt ho hk, hh, hl, fun i hi => forget_rep (List.all_eq_true.1 hb _ (List.getElem_mem hi)) (hr i hi)⟩
  | row T sz q floor =>
    obtain ⟨hrow, h1, h2, h3, h4, hfl, h5, h6⟩ := h
    refine ⟨hrow, h1, h2, h3, h4, hfl, h5, ?_⟩
    have hcell : ∀ i j, i < q.len → ∀ hj : j < (q.get i).cells.length, belowA n ((q.get i).cells[j]) = true := by
      intro i j hi hj
      cases q with
      | ints k l =>
        have : j = 0 := by simpa [Seq.get, AV.cells] using hj
        subst this
        rfl
      | frz l =>
        have : j = 0 := by simpa [Seq.get, AV.cells] using hj
        subst this
        rfl
      | strs l =>
        have : j = 0 := by simpa [Seq.get, AV.cells] using hj
        subst this
        rfl
      | avs l =>
        have hi' : i < l.length := hi
        have := List.all_eq_true.1 hb l[i] (List.getElem_mem hi')
        have he : (Seq.avs l).get i = l[i] := by simp [Seq.get, hi']
        simp only [he] at hj ⊢
        exact List.all_eq_true.1 this _ (List.getElem_mem hj)
      | fn m f => cases hb
    show match S.cur k with | none => q.len = 0 | some b => _
    cases hc : S.cur k with
    | none => rw [hc] at h6; exact h6
    | some b =>
      rw [hc] at h6
      obtain ⟨ho, arr, ⟨fz, hh, hfz⟩, hl, hr⟩ := h6
      exact ⟨forget_own_lt ho hk, arr, ⟨fz, hh, hfz⟩, hl, fun i j hi hj => ⟨forget_rep (hcell i j hi hj) (hr i j hi hj).1, (hr i j hi hj).2⟩⟩
end forget

theorem look_mem {α : Type} {l : List (Nat × α)} {t : Nat} {x : α} (h : look l t = some x) : (t, x) ∈ l := by
  induction l with
  | nil => cases h
  | cons y r ih =>
    obtain ⟨k, a⟩ := y
    simp only [look] at h
    split at h
    · next hk =>
      cases h
      have := Nat.eq_of_beq_eq_true hk
      subst this
      simp
    · exact List.mem_cons_of_mem _ (ih h)

theorem keep_look {α : Type} {l : List (Nat × α)} {ks : List Nat} {t : Nat} {x : α} (h : look (keep l ks) t = some x) : look l t = some x := by
  induction ks with
  | nil => cases h
  | cons k r ih =>
    simp only [keep] at h
    split at h
    · next a ha =>
      simp only [look] at h
      split at h
      · next hk =>
        cases h
        have := Nat.eq_of_beq_eq_true hk
        subst this
        exact ha
      · exact ih h
    · exact ih h

theorem weaken_rel {A A0 : AS} {slots keys : List Nat} {nx : Nat} {S : St} {a : Act} (h : weaken A slots keys nx = some A0) (hR : Rel S A a) : Rel (S.forget nx) A0 a := by
  unfold weaken at h
  simp only at h
  split at h
  · next hc =>
    cases h
    simp only [Bool.and_eq_true] at hc
    obtain ⟨⟨h1, h2⟩, h3⟩ := hc
    refine ⟨forget_wf hR.wf, hR.size, hR.defers, fun t x hx => ?_, fun k o hk => ?_, fun k hk => hk.2⟩
    · have hb := List.all_eq_true.1 h1 _ (look_mem hx)
      have := hR.fr t x (keep_look hx)
      exact ⟨this.1, forget_rep hb this.2⟩
    · have hb := List.all_eq_true.1 h2 _ (look_mem hk)
      simp only [Bool.and_eq_true, Bool.or_eq_true, Nat.blt_eq, Nat.ble_eq] at hb
      have hkp : kp nx k := hb.1
      have := hR.hp k o (keep_look hk)
      exact ⟨⟨this.1, hkp⟩, ⟨this.2.1, hkp⟩, forget_obj hkp hb.2 this.2.2⟩
  · cases h

/-- the code c goes from what A says to what A' says, by way of e -/
def Goes (A : AS) (e : Exit) (A' : AS) (S : St) (e1 : Exit) (a1 : Act) (w1 : World) : Prop := e1 = e ∧ ∃ S', S'.w = w1 ∧ Kept S S' ∧ Rel S' A' a1

def To (P : Program) (c : Code) (A : AS) (e : Exit) (A' : AS) : Prop :=
  ∀ S a, Rel S A a → c.wp P (Goes A e A' S) a S.w

/-- rounds of c, from what A says on, end by way of e -/
def LoopTo (P : Program) (c : Code) (A : AS) (e : Exit) (A' : AS) : Prop :=
  ∃ n, ∀ S a, Rel S A a → Code.rounds P c (Goes A e A' S) n a S.w

section
variable {P : Program}

theorem To.weaken {c : Code} {A A' A'' : AS} {e : Exit} {slots keys : List Nat} {nx : Nat} (h : To P c A e A') (hw : Ev.weaken A' slots keys nx = some A'') : To P c A e A'' := fun S a hR =>
  wp_mono (h S a hR) fun e1 a1 w1 ⟨he, S', hS, hk, hR'⟩ => ⟨he, S'.forget nx, hS, hk.trans forget_kept, weaken_rel hw hR'⟩

theorem To.pre {c : Code} {A A0 A' : AS} {e : Exit} {slots keys : List Nat} {nx : Nat} (hw : Ev.weaken A slots keys nx = some A0) (h : To P c A0 e A') : To P c A e A' := fun S a hR =>
  wp_mono (h (S.forget nx) a (weaken_rel hw hR)) fun e1 a1 w1 ⟨he, S', hS, hk, hR'⟩ => ⟨he, S', hS, forget_kept.trans hk, hR'⟩

theorem rounds_mono {c : Code} {Q Q' : Exit → Act → World → Prop} (hq : ∀ e a w, Q e a w → Q' e a w) : ∀ (n : Nat) (a : Act) (w : World), Code.rounds P c Q n a w → Code.rounds P c Q' n a w
  | 0, _, _, h => h
  | n + 1, _, _, h => wp_mono h fun e a w hx => by
    cases e with
    | normal => exact rounds_mono hq n a w hx
    | _ => exact hq _ _ _ hx

theorem LoopTo.pre {c : Code} {A A0 A' : AS} {e : Exit} {slots keys : List Nat} {nx : Nat} (hw : Ev.weaken A slots keys nx = some A0) (h : LoopTo P c A0 e A') : LoopTo P c A e A' := by
  obtain ⟨n, h⟩ := h
  exact ⟨n, fun S a hR => rounds_mono (fun e1 a1 w1 ⟨he, S', hS, hk, hR'⟩ => ⟨he, S', hS, forget_kept.trans hk, hR'⟩) n a _ (h (S.forget nx) a (weaken_rel hw hR))⟩

theorem LoopTo.done {c : Code} {A A' : AS} {e : Exit} (he : e ≠ .normal) (h : To P c A e A') : LoopTo P c A e A' :=
  ⟨1, fun S a hR => wp_mono (h S a hR) fun e1 a1 w1 hg => by
    obtain ⟨rfl, hg⟩ := hg
    cases e1 with
    | normal => exact (he rfl).elim
    | _ => exact ⟨rfl, hg⟩⟩

theorem LoopTo.step {c : Code} {A A1 A' : AS} {e : Exit} (h1 : To P c A .normal A1) (h : LoopTo P c A1 e A') : LoopTo P c A e A' := by
  obtain ⟨n, h⟩ := h
  refine ⟨n + 1, fun S a hR => wp_mono (h1 S a hR) fun e1 a1 w1 hg => ?_⟩
  obtain ⟨rfl, S', rfl, hk, hR'⟩ := hg
  exact rounds_mono (fun e2 a2 w2 ⟨he, S'', hS, hk', hR''⟩ => ⟨he, S'', hS, hk.trans hk', hR''⟩) n a1 _ (h S' a1 hR')

theorem LoopTo.loop {c : Code} {A A' : AS} {e : Exit} (h : LoopTo P c A e A') : To P (.loop c) A e A' := by
  obtain ⟨n, h⟩ := h
  exact fun S a hR => wp_loop_rounds n (h S a hR)

end

section
variable {P : Program} {SG : SGT}

/-- THE EVALUATOR IS RIGHT. -/
theorem ev_to (hm : P.follows .mixedOrders = true) (hsg : SigsOK P SG) (code : Code) : ∀ (hs : List CHint) (A : AS) (e : Exit) (A' : AS) (c : List Prop) (hs' : List CHint),
    evCode P SG (LoopTo P) code hs A = some (e, A', c, hs') → AllP c → To P code A e A' := by
  induction code with
  | skip =>
    intro hs A e A' c hs' h hc
    simp only [evCode, Option.some.injEq, Prod.mk.injEq] at h
    obtain ⟨rfl, rfl, rfl, rfl⟩ := h
    exact fun S a hR => wp_skip ⟨rfl, S, rfl, Kept.refl S, hR⟩
  | region id ops draw =>
    intro hs A e A' c hs' h hc
    simp only [evCode] at h
    split at h
    · cases h
    · next A1 c1 fs ht =>
      split at h
      · next hd =>
        simp only [Option.some.injEq, Prod.mk.injEq] at h
        obtain ⟨rfl, rfl, rfl, rfl⟩ := h
        rw [Bool.and_eq_true, Nat.ble_eq] at hd
        exact fun S a hR => region_wp hm hsg ht hc hd.1 hd.2 hR fun S' a' he hR' => ⟨rfl, S', rfl, he.kept, hR'⟩
      · cases h
  | seq x y ihx ihy =>
    intro hs A e A' c hs' h hc
    simp only [evCode] at h
    split at h
    · next A1 c1 hs1 h1 =>
      split at h
      · next e2 A2 c2 hs2 h2 =>
        simp only [Option.some.injEq, Prod.mk.injEq] at h
        obtain ⟨rfl, rfl, rfl, rfl⟩ := h
        have hc := allP_append hc
        have t1 := ihx _ _ _ _ _ _ h1 hc.1
        have t2 := ihy _ _ _ _ _ _ h2 hc.2
        refine fun S a hR => wp_seq (wp_mono (t1 S a hR) fun e1 a1 w1 hg => ?_)
        obtain ⟨rfl, S', rfl, hk, hR'⟩ := hg
        exact wp_mono (t2 S' a1 hR') fun e2 a2 w2 ⟨he, S'', hS, hk', hR''⟩ => ⟨he, S'', hS, hk.trans hk', hR''⟩
      · cases h
    · next hne =>
      have t1 := ihx _ _ _ _ _ _ h hc
      refine fun S a hR => wp_seq (wp_mono (t1 S a hR) fun e1 a1 w1 hg => ?_)
      obtain ⟨rfl, hg⟩ := hg
      cases e1 with
      | normal => exact (hne _ _ _ h).elim
      | _ => exact ⟨rfl, hg⟩
  | cond x p q ihp ihq =>
    intro hs A e A' c hs' h hc
    simp only [evCode] at h
    split at h
    · next hv =>
      intro S a hR
      have hr := rep_eval hR.fr x
      rw [hv] at hr
      exact wp_cond_true (rep_v hr).1 (ihp _ _ _ _ _ _ h hc S a hR)
    · next hv =>
      intro S a hR
      have hr := rep_eval hR.fr x
      rw [hv] at hr
      exact wp_cond_false (rep_v hr).1 (ihq _ _ _ _ _ _ h hc S a hR)
    · cases h
  | block id x ih =>
    intro hs A e A' c hs' h hc
    simp only [evCode] at h
    split at h
    · next i A1 c1 hs1 h1 =>
      have t1 := fun hc => ih _ _ _ _ _ _ h1 hc
      split at h
      · next hb =>
        simp only [Option.some.injEq, Prod.mk.injEq] at h
        obtain ⟨rfl, rfl, rfl, rfl⟩ := h
        have hi := Nat.eq_of_beq_eq_true hb
        refine fun S a hR => wp_block (wp_mono (t1 hc S a hR) fun e1 a1 w1 hg => ?_)
        obtain ⟨rfl, hg⟩ := hg
        show if i = id then _ else _
        rw [if_pos hi]
        exact ⟨rfl, hg⟩
      · next hb =>
        simp only [Option.some.injEq, Prod.mk.injEq] at h
        obtain ⟨rfl, rfl, rfl, rfl⟩ := h
        have hi : i ≠ id := fun e => by subst e; rw [Nat.beq_refl] at hb; cases hb
        refine fun S a hR => wp_block (wp_mono (t1 hc S a hR) fun e1 a1 w1 hg => ?_)
        obtain ⟨rfl, hg⟩ := hg
        show if i = id then _ else _
        rw [if_neg hi]
        exact ⟨rfl, hg⟩
    · next hne =>
      have t1 := ih _ _ _ _ _ _ h hc
      refine fun S a hR => wp_block (wp_mono (t1 S a hR) fun e1 a1 w1 hg => ?_)
      obtain ⟨rfl, hg⟩ := hg
      cases e1 with
      | exit i => exact (hne _ _ _ _ h).elim
      | _ => exact ⟨rfl, hg⟩
  | loop x ih =>
    intro hs A e A' c hs' h hc
    simp only [evCode] at h
    split at h
    · split at h
      · next A0 hw =>
        simp only [Option.some.injEq, Prod.mk.injEq] at h
        obtain ⟨rfl, rfl, rfl, rfl⟩ := h
        exact (hc.1.pre hw).loop
      · cases h
    · cases h
  | exit id =>
    intro hs A e A' c hs' h hc
    simp only [evCode, Option.some.injEq, Prod.mk.injEq] at h
    obtain ⟨rfl, rfl, rfl, rfl⟩ := h
    exact fun S a hR => wp_exit ⟨rfl, S, rfl, Kept.refl S, hR⟩
  | ret =>
    intro hs A e A' c hs' h hc
    simp only [evCode, Option.some.injEq, Prod.mk.injEq] at h
    obtain ⟨rfl, rfl, rfl, rfl⟩ := h
    exact fun S a hR => wp_ret ⟨rfl, S, rfl, Kept.refl S, hR⟩
  | _ => intro hs A e A' c hs' h hc; simp only [evCode, reduceCtorEq] at h

theorem evW_to (hm : P.follows .mixedOrders = true) (hsg : SigsOK P SG) {code : Code} {hs : List CHint} {A A' : AS} {e : Exit} {c : List Prop} {slots keys : List Nat} {nx : Nat}
    (h : evW P SG (LoopTo P) code hs A slots keys nx = some (e, A', c)) (hc : AllP c) : To P code A e A' := by
  unfold evW at h
  split at h
  · next e1 A1 c1 h1 =>
    split at h
    · next A2 hw =>
      simp only [Option.some.injEq, Prod.mk.injEq] at h
      obtain ⟨rfl, rfl, rfl⟩ := h
      exact (ev_to hm hsg code _ _ _ _ _ _ h1 hc).weaken hw
    · cases h
  · cases h

end
end Go.Ev

/- Whole functions. -/
namespace Go.Ev
variable [Globs]

/-- the loops of a code, as they stand in the text -/
def loopsOf : Code → List Code
  | .seq a b => loopsOf a ++ loopsOf b
  | .cond _ a b => loopsOf a ++ loopsOf b
  | .block _ a => loopsOf a
  | .scope a => loopsOf a
  | .loop a => a :: loopsOf a
  | _ => []

def loopAt (fn : Func) (i : Nat) : Code :=
  match fn.body with
  | some c => (loopsOf c).getD i .skip
  | none => .skip

theorem RepI.mono {w : World} {U U' : Nat → Prop} (h : ∀ b, U b → U' b) {x : Value} {y : AV} (hx : RepI w U x y) : RepI w U' x y :=
  hx.ext fun b _ hU => ⟨rfl, h b hU⟩

/-- how a call begins: nothing is one's own -/
def St.start (S : St) : St :=
  { w := S.w, own := fun b => (S.own b).map fun _ => none, cur := fun _ => none, len := fun _ => 0, sz := fun _ => 0, floor := fun _ => 0, isRow := fun _ => false, live := fun _ => False, used := fun _ => False }

theorem start_wf {S : St} (h : S.wf) : S.start.wf := by
  refine ⟨fun b o hb => ?_, fun k hl => hl.elim, fun k hl => hl.elim, h.glob.keep (fun b _ ho => ⟨rfl, by show (S.own b).map (fun _ => (none : Option Nat)) = none; rw [ho]; rfl⟩) (Nat.le_refl _)⟩
  have hb' : (S.own b).map (fun _ => (none : Option Nat)) = some o := hb
  cases ho : S.own b with
  | none => rw [ho] at hb'; cases hb'
  | some o' => exact h.bound b o' ho

theorem start_free {S : St} {b : Nat} : S.start.free b ↔ S.free b := by
  show (S.own b).map (fun _ => (none : Option Nat)) = none ↔ S.own b = none
  cases S.own b <;> simp

theorem start_own {S : St} {b k : Nat} : S.start.own b ≠ some (some k) := by
  show (S.own b).map (fun _ => (none : Option Nat)) ≠ some (some k)
  cases S.own b <;> simp

/-- what a call leaves, seen from the caller -/
theorem end_free {S S' : St} (hwf : S.wf) (hk : Kept S.start S') {b : Nat} (ks : List Nat) (h : (S'.lend ks).free b) : S.free b := by
  rcases Nat.lt_or_ge b S.w.heap.size with hb | hb
  · obtain ⟨_, ho⟩ := hk.old b hb fun k => start_own
    cases hs : S.start.own b with
    | none => exact start_free.1 hs
    | some o =>
      cases o with
      | some k => exact (start_own hs).elim
      | none =>
        rw [hs] at ho
        have h' : (match S'.own b with | some (some k) => if k ∈ ks then none else some (some k) | o => o) = none := h
        rw [ho] at h'
        cases h'
  · show S.own b = none
    cases ho : S.own b with
    | none => rfl
    | some o => exact absurd (hwf.bound b o ho) (by omega)

theorem end_grows {S S' : St} (hk : Kept S.start S') : Grows S.w S'.w :=
  ⟨hk.size, hk.os, hk.tape, hk.output, fun b hb => (hk.old b hb fun k => start_own).1⟩

theorem look_argsFr {i : Nat} {l : List AV} {t : Nat} {x : AV} (h : look (argsFr i l) t = some x) : ∃ j, j < l.length ∧ t = i + j ∧ l[j]? = some x := by
  induction l generalizing i with
  | nil => cases h
  | cons y r ih =>
    simp only [argsFr, look] at h
    split at h
    · next hb =>
      have := Nat.eq_of_beq_eq_true hb
      cases h
      exact ⟨0, by simp, by omega, by simp⟩
    · obtain ⟨j, h1, h2, h3⟩ := ih h
      exact ⟨j + 1, by simp; omega, by omega, by simpa using h3⟩

theorem start_rel {S : St} {fn : Func} {vals : List Value} {ys : List AV} (hwf : S.wf) (hr : RepIs S.w S.free vals ys) :
    Rel S.start (startA fn ys) { tmps := vals.toArray ++ Array.replicate (fn.ntmps - vals.toArray.size) undef, defers := [] } := by
  refine ⟨start_wf hwf, ?_, rfl, fun t x hx => ?_, fun k o hk => (by cases hk), fun k hk => hk.elim⟩
  · simp [startA, hr.1]
  · obtain ⟨j, h1, h2, h3⟩ := look_argsFr hx
    simp only [Nat.zero_add] at h2
    subst h2
    refine ⟨by simp only [startA]; omega, ?_⟩
    have hj : t < vals.length := by rw [hr.1]; exact h1
    have := hr.2 t hj h1
    rw [List.getElem?_eq_getElem h1] at h3
    cases h3
    have e : (vals.toArray ++ Array.replicate (fn.ntmps - vals.toArray.size) undef).getD t undef = vals[t] := by
      rw [Array.getD_eq_getD_getElem?, Array.getElem?_append_left (by simpa using hj)]
      simp [hj]
    show Rep S.start ((vals.toArray ++ Array.replicate (fn.ntmps - vals.toArray.size) undef).getD t undef) _
    rw [e]
    exact .i _ _ (this.mono fun b hb => start_free.2 hb)

theorem loose1_rep {w : World} {U : Nat → Prop} {v : Value} {x : AV} (ti : Bool) (h : RepI w U v x) : RepI w U v (loose1 ti x) := by
  unfold loose1
  split
  · next sz q t =>
    cases h with
    | slNil _ _ _ hq => exact .slNil _ _ _ hq
    | sl ad n c _ _ _ u h1 h2 h3 h4 h5 h6 h7 h8 =>
      exact .sl ad n c _ _ _ u h1 h2 (fun ht => h3 (by revert ht; cases t <;> simp)) h4 h5 h6 h7 h8
  · exact h

theorem loose_rep {w : World} {U : Nat → Prop} {v : Value} {x : AV} (ti : Bool) (h : RepI w U v x) : RepI w U v (loose ti x) := by
  unfold loose
  split
  · next cs =>
    obtain ⟨arr, rfl, hs, hr⟩ := repI_agg h
    refine .agg arr _ (by simpa using hs) fun i hi => ?_
    simp only [List.getElem_map]
    exact loose1_rep ti (hr i (by simpa using hi))
  · exact loose1_rep ti h

section
variable {P : Program} {SG : SGT}

/-- a result variable is read -/
def readRes (tmps : Array Value) : ResultVar → Sem Value
  | .tmp t => pure (tmps.getD t undef)
  | .cell a t => do loadVar t (← asAddr (tmps.getD a undef))

theorem loadAt_as {t : TypeId} {v y : Value} {w w' : World} (h : (Instr.loadAt t v).run P w = .ok y w') : (do loadVar t (← asAddr v) : Sem Value).run P w = .ok y w' := by
  cases v with
  | pointer p =>
    cases p with
    | some a => simpa [Instr.loadAt, Instr.sureAddr, asAddr] using h
    | none => simp [Instr.loadAt, Instr.sureAddr, stuck, Sem.run] at h
  | _ => simp [Instr.loadAt, Instr.sureAddr, stuck, Sem.run] at h

theorem resA_rep {ti : Bool} {A : AS} {t : TypeId} {r : ResultVar} {y : AV} {c : List Prop} {S S' : St} {a : Act} (hwf : S.wf) (hk : Kept S.start S') (hR : Rel S' A a) (h : resA P ti A t r = some (y, c)) (hc : AllP c) :
    ∃ v, (readRes a.tmps r).run P S'.w = .ok v S'.w ∧ RepI S'.w S.free v y := by
  unfold resA at h
  split at h
  · next s =>
    split at h
    · next x hx =>
      split at h
      · next x' c' kk hs =>
        cases h
        refine ⟨_, rfl, ?_⟩
        have := snap_rep (ks := kk) hR.wf hR.hp hs hc (hR.fr s x hx).2 fun k h => h
        exact loose_rep ti (this.mono fun b hb => end_free hwf hk kk hb)
      · cases h
    · cases h
  · next s ct =>
    split at h
    · next x hx =>
      split at h
      · next r hl =>
        split at h
        · next x' c' kk hs =>
          cases h
          have hc := allP_append hc
          obtain ⟨_, v, h1, h2⟩ := loadA_run hR.wf hR.hp hl hc.1 (hR.fr s x hx).2
          refine ⟨v, loadAt_as h1, ?_⟩
          have := snap_rep (ks := kk) hR.wf hR.hp hs hc.2 h2 fun k h => h
          exact loose_rep ti (this.mono fun b hb => end_free hwf hk kk hb)
        · cases h
      · cases h
    · cases h

def tmpOf : ResultVar → Tmp
  | .tmp s => s
  | .cell s _ => s

theorem resAs_rep {ti : Bool} {A : AS} {S S' : St} {a : Act} (hwf : S.wf) (hk : Kept S.start S') (hR : Rel S' A a) : ∀ (rs : List ResultVar) (ts : List TypeId) (ys : List AV) (c : List Prop), resAs P ti A ts rs = some (ys, c) → AllP c →
    ∃ vs, (rs.mapM (readRes a.tmps)).run P S'.w = .ok vs S'.w ∧ RepIs S'.w S.free vs ys
  | [], ts, ys, c, h, _ => by
    unfold resAs at h
    cases h
    exact ⟨[], by simp, rfl, fun i h1 h2 => absurd h2 (by simp)⟩
  | r :: rs, ts, ys, c, h, hc => by
    unfold resAs at h
    split at h
    · next x c1 xs c2 h1 h2 =>
      cases h
      have hc := allP_append hc
      obtain ⟨v, g1, h3⟩ := resA_rep hwf hk hR h1 hc.1
      obtain ⟨vs, h4, h5⟩ := resAs_rep hwf hk hR rs _ _ _ h2 hc.2
      refine ⟨v :: vs, by simp [List.mapM_cons, g1, h4], by have := h5.1; simpa using this, fun i g1 g2 => ?_⟩
      cases i with
      | zero => exact h3
      | succ i => exact h5.2 i (by simpa using g1) (by simpa using g2)
    · cases h

theorem mapM_tmps {tmps : Array Value} {w : World} (f : ResultVar → Sem Value) (hf : ∀ s, f (.tmp s) = pure (tmps.getD s undef)) (rs : List ResultVar) (h : ∀ r, r ∈ rs → ∃ s, r = .tmp s) :
    (rs.mapM f).run P w = .ok (rs.map fun r => tmps.getD (tmpOf r) undef) w := by
  induction rs with
  | nil => simp
  | cons r rs ih =>
    obtain ⟨s, rfl⟩ := h r (by simp)
    have := ih fun r hr => h r (by simp [hr])
    simp [List.mapM_cons, this, tmpOf, hf]

def packed : List Value → Value
  | [x] => x
  | l => .tuple l.toArray

theorem results_run {fn : Func} {tmps : Array Value} {w : World} (h : ∀ r, r ∈ fn.results.toList → ∃ s, r = .tmp s) :
    (results fn tmps).run P w = .ok (packed (fn.results.toList.map fun r => tmps.getD (tmpOf r) undef)) w := by
  unfold results
  rw [Array.mapM_eq_mapM_toList]
  rw [Sem.run_bind, Sem.run_map, mapM_tmps (tmps := tmps) _ (fun s => rfl) _ h]
  generalize fn.results.toList.map (fun r => tmps.getD (tmpOf r) undef) = l
  simp only [Result.andThen_ok, Sem.run_pure]
  match l with
  | [] => rfl
  | [x] => rfl
  | x :: y :: r => rfl

theorem results_reads {fn : Func} {tmps : Array Value} {w : World} {vs : List Value} (h : (fn.results.toList.mapM (readRes tmps)).run P w = .ok vs w) : (results fn tmps).run P w = .ok (packed vs) w := by
  unfold results
  rw [Array.mapM_eq_mapM_toList]
  have e : (fn.results.toList.mapM (fun x => match x with
      | .tmp t => pure (tmps.getD t undef)
      | .cell a t => do loadVar t (← asAddr (tmps.getD a undef)) : ResultVar → Sem Value)) = fn.results.toList.mapM (readRes tmps) := by
    congr 1
  rw [Sem.run_bind, Sem.run_map]
  erw [e]
  rw [h]
  simp only [Result.andThen_ok, Sem.run_pure]
  match vs with
  | [] => rfl
  | [x] => rfl
  | x :: y :: r => rfl

theorem resOf_rep {ti : Bool} {A : AS} {ts : List TypeId} {rs : List ResultVar} {y : AV} {c : List Prop} {S S' : St} {a : Act} (hwf : S.wf) (hk : Kept S.start S') (hR : Rel S' A a) (h : resOf P ti A ts rs = some (y, c)) (hc : AllP c) :
    ∃ vs, (rs.mapM (readRes a.tmps)).run P S'.w = .ok vs S'.w ∧ RepI S'.w S.free (packed vs) y := by
  unfold resOf at h
  split at h
  · next x c' h1 =>
    cases h
    obtain ⟨l, h2, h4, h5⟩ := resAs_rep hwf hk hR rs ts _ _ h1 hc
    refine ⟨l, h2, ?_⟩
    match l, h4 with
    | [v], _ => exact h5 0 (by simp) (by simp)
  · next xs c' hne h1 =>
    cases h
    obtain ⟨l, h2, h4, h5⟩ := resAs_rep hwf hk hR rs ts _ _ h1 hc
    refine ⟨l, h2, ?_⟩
    have tup : packed l = .tuple l.toArray := by
      match l with
      | [] => rfl
      | [v] =>
        exfalso
        match xs, h4 with
        | [x], _ => exact hne x rfl
      | _ :: _ :: _ => rfl
    rw [tup]
    refine .tup _ _ (by simpa using h4) fun i hi => ?_
    have := h5 i (by omega) hi
    rw [Array.getD_eq_getD_getElem?]
    simpa [show i < l.length by omega] using this
  · cases h

/-- **A FUNCTION IS WHAT THE EVALUATOR SAYS.** -/
theorem evFn_pure {f : FuncId} {fn : Func} {ti : Bool} {hs : List CHint} {ys : List AV} {r : AV} {c : List Prop} (hm : P.follows .mixedOrders = true) (hsg : SigsOK P SG) (hf : P.funcs[f]? = some fn) (hn : (fn.name == "runtime.NumGoroutine") = false)
    (h : evFn P SG (LoopTo P) ti fn hs ys = some (r, c)) (hc : AllP c) : PureTo P f ys r := by
  unfold evFn at h
  split at h
  · cases h
  · next code hb =>
    have fin : ∀ e A c1 c2, evCode P SG (LoopTo P) code hs (startA fn ys) = some (e, A, c1, []) → (e = .ret ∨ e = .normal) → resOf P ti A fn.resultTypes.toList fn.results.toList = some (r, c2) → AllP c1 → AllP c2 → PureTo P f ys r := by
      intro e A c1 c2 h1 he h2 hc1 hc2 S vals hwf hr
      have hrun : (callFunc f vals.toArray).run P S.w = .ok (.enter f vals.toArray) S.w := by
        have hn' : fn.name ≠ "runtime.NumGoroutine" := by simpa using hn
        simp [callFunc, hf, hn', hb]
      unfold CalledTo
      rw [hrun]
      refine ⟨rfl, calls_of_wp hf hb ?_⟩
      have := ev_to hm hsg code _ _ _ _ _ _ h1 hc1 S.start _ (start_rel hwf hr)
      refine wp_mono this fun e1 a1 w1 hg => ?_
      obtain ⟨rfl, S', rfl, hk, hR⟩ := hg
      obtain ⟨vs, h3, h4⟩ := resOf_rep hwf hk hR h2 hc2
      have hres := results_reads (P := P) (fn := fn) (tmps := a1.tmps) (w := S'.w) h3
      rcases he with rfl | rfl
      · exact ⟨hR.defers, _, hres, _, rfl, end_grows hk, h4⟩
      · exact ⟨hR.defers, _, hres, _, rfl, end_grows hk, h4⟩
    split at h
    · next A c1 h1 =>
      split at h
      · next r' c2 h2 =>
        cases h
        have hc := allP_append hc
        exact fin _ _ _ _ h1 (.inl rfl) h2 hc.1 hc.2
      · cases h
    · next A c1 h1 =>
      split at h
      · next r' c2 h2 =>
        cases h
        have hc := allP_append hc
        exact fin _ _ _ _ h1 (.inr rfl) h2 hc.1 hc.2
      · cases h
    · cases h

end
end Go.Ev

/- Rows of which only the newest version is read any more. -/
namespace Go.Ev
variable [Globs]

def raiseO : AObj → AObj
  | .row T sz q _ => .row T sz q q.len
  | o => o

/-- only who knows a row as it is now may read it -/
def raiseA (A : AS) : AS := { A with hp := A.hp.map fun x => (x.1, raiseO x.2) }

theorem look_map {α β : Type} (f : α → β) (l : List (Nat × α)) (k : Nat) : look (l.map fun x => (x.1, f x.2)) k = (look l k).map f := by
  induction l with
  | nil => rfl
  | cons x r ih =>
    obtain ⟨j, a⟩ := x
    simp only [List.map_cons, look]
    split <;> simp [ih]

/-- the rows of hp, read as they are now alone -/
noncomputable def St.raise (S : St) (hp : List (Nat × AObj)) : St :=
  { S with floor := fun k => match look hp k with
      | some (.row _ _ _ _) => S.len k
      | _ => S.floor k }

section
variable {S : St} {hp : List (Nat × AObj)}

theorem raise_floor (hh : HeapOK S hp) {k ver : Nat} (h : (S.raise hp).floor k ≤ ver) : S.floor k ≤ ver := by
  have h' : (match look hp k with | some (.row _ _ _ _) => S.len k | _ => S.floor k) ≤ ver := h
  split at h'
  · next T sz q fl hk =>
    obtain ⟨_, _, ho⟩ := hh k _ hk
    obtain ⟨_, _, _, h1, h2, h3, _⟩ := ho
    omega
  · exact h'

theorem raise_row (hh : HeapOK S hp) {v : Value} {k off len ver : Nat} {t : Bool} (h : RowOK S v k off len ver t) : RowOK (S.raise hp) v k off len ver t := by
  obtain ⟨hrow, a, c, hv, h1, h2, h3, h4, h5, h6⟩ := h
  refine ⟨hrow, a, c, hv, h1, h2, h3, h4, fun hl => ?_, h6⟩
  obtain ⟨ad, ha, hrest⟩ := h5 hl
  exact ⟨ad, ha, fun hf => hrest (raise_floor hh hf)⟩

theorem raise_rp (hh : HeapOK S hp) {v : Value} {k i ver off : Nat} (h : RpOK S v k i ver off) : RpOK (S.raise hp) v k i ver off := by
  obtain ⟨hrow, ad, hv, h1, h2, h3, h4⟩ := h
  exact ⟨hrow, ad, hv, h1, h2, fun hf => h3 (raise_floor hh hf), h4⟩

theorem raise_ext (hh : HeapOK S hp) : Ext S (S.raise hp) :=
  ⟨Nat.le_refl _, rfl, rfl, rfl, fun _ _ _ => ⟨rfl, rfl⟩, fun _ h => h, fun _ _ hl => ⟨hl, fun _ _ _ _ _ r => raise_row hh r, fun _ _ _ _ r => raise_rp hh r, fun _ _ r => r, ⟨rfl, rfl, Nat.le_refl _, fun _ => rfl, fun _ => rfl, fun _ _ _ => Nat.le_refl _⟩⟩⟩

theorem raise_obj (hh : HeapOK S hp) {k : Nat} {o : AObj} (hk : look hp k = some o) (h : ObjOK S k o) : ObjOK (S.raise hp) k (raiseO o) := by
  cases o with
  | map es =>
    obtain ⟨hrow, b, arr, hc, ho, hw, hl, hr⟩ := h
    exact ⟨hrow, b, arr, hc, ho, hw, hl, fun i hi => ⟨(hr i hi).1, (hr i hi).2.1, (hr i hi).2.2.ext (raise_ext hh)⟩⟩
  | cells T cs =>
    obtain ⟨hrow, b, arr, hc, ho, hw, hl, hr⟩ := h
    exact ⟨hrow, b, arr, hc, ho, hw, hl, fun i hi => (hr i hi).ext (raise_ext hh)⟩
  | row T sz q floor =>
    obtain ⟨hrow, h1, h2, h3, h4, hfl, h5, h6⟩ := h
    refine ⟨hrow, h1, h2, h3, ?_, Nat.le_refl _, h5, ?_⟩
    · show (match look hp k with | some (.row _ _ _ _) => S.len k | _ => S.floor k) = q.len
      rw [hk]
      exact h3
    · show match S.cur k with | none => q.len = 0 | some b => _
      cases hc : S.cur k with
      | none => rw [hc] at h6; exact h6
      | some b =>
        rw [hc] at h6
        obtain ⟨ho, arr, hw, hl, hr⟩ := h6
        exact ⟨ho, arr, hw, hl, fun i j hi hj => ⟨(hr i j hi hj).1.ext (raise_ext hh), (hr i j hi hj).2⟩⟩
end

theorem raise_rel {A : AS} {S : St} {a : Act} (hR : Rel S A a) : Rel (S.raise A.hp) (raiseA A) a := by
  refine ⟨⟨hR.wf.bound, hR.wf.kept, hR.wf.lu, hR.wf.glob.keep (fun _ _ ho => ⟨rfl, ho⟩) (Nat.le_refl _)⟩, hR.size, hR.defers, hR.fr.ext (raise_ext hR.hp), fun k o hk => ?_, hR.used⟩
  have hk' : look (A.hp.map fun x => (x.1, raiseO x.2)) k = some o := hk
  rw [look_map] at hk'
  cases hl : look A.hp k with
  | none => rw [hl] at hk'; cases hk'
  | some o' =>
    rw [hl] at hk'
    cases hk'
    obtain ⟨h1, h2, h3⟩ := hR.hp k o' hl
    exact ⟨h1, h2, raise_obj hR.hp hl h3⟩

theorem To.raise {P : Program} {c : Code} {A A' : AS} {e : Exit} (h : To P c A e A') : To P c A e (raiseA A') := fun S a hR =>
  wp_mono (h S a hR) fun e1 a1 w1 ⟨he, S', hS, hk, hR'⟩ => ⟨he, S'.raise A'.hp, hS, hk.trans (raise_ext hR'.hp).kept, raise_rel hR'⟩

theorem LoopTo.raise {P : Program} {c : Code} {A A' : AS} {e : Exit} (h : LoopTo P c (raiseA A) e A') : LoopTo P c A e A' := by
  obtain ⟨n, h⟩ := h
  exact ⟨n, fun S a hR => rounds_mono (fun e1 a1 w1 ⟨he, S', hS, hk, hR'⟩ => ⟨he, S', hS, (raise_ext hR.hp).kept.trans hk, hR'⟩) n a _ (h (S.raise A.hp) a (raise_rel hR))⟩

end Go.Ev
