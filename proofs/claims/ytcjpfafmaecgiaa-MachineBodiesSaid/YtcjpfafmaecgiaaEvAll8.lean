/- An evaluator of the model's code, proved right. No condition. -/
import Derived.Test.YtcjpfafmaecgiaaEvAll3
set_option linter.unusedSimpArgs false
set_option linter.unusedVariables false
set_option linter.unusedSectionVars false
/- States that are told otherwise: rows of open contents. -/
namespace Go.Ev
open Go
variable [Globs]

/-- the same object, its keys below n; a row's contents may be told otherwise -/
def Turns (n : Nat) (o o' : AObj) : Prop :=
  (o' = o ∧ belowO n o = true) ∨ ∃ T sz q q' fl, o = .row T sz q fl ∧ o' = .row T sz q' fl ∧ q'.len = q.len ∧ (∀ fz, FzOK q sz fz → FzOK q' sz fz) ∧ (∀ i, i < q.len → q'.get i = q.get i ∧ ∀ c ∈ (q.get i).cells, belowA n c = true)

theorem turns_obj {S : St} {n k : Nat} {o o' : AObj} (hk : kp n k) (ht : Turns n o o') (h : ObjOK S k o) : ObjOK (S.forget n) k o' := by
  rcases ht with ⟨rfl, hb⟩ | ⟨T, sz, q, q', fl, rfl, rfl, hlen, hfz0, hq⟩
  · exact forget_obj hk hb h
  · obtain ⟨hrow, h1, h2, h3, h4, hfl, h5, h6⟩ := h
    refine ⟨hrow, h1, h2, h3.trans hlen.symm, h4, by rw [hlen]; exact hfl, fun i hi => by rw [hlen] at hi; rw [(hq i hi).1]; exact h5 i hi, ?_⟩
    show match S.cur k with | none => q'.len = 0 | some b => _
    cases hc : S.cur k with
    | none => rw [hc] at h6; exact hlen.trans h6
    | some b =>
      rw [hc] at h6
      obtain ⟨ho, arr, ⟨fz, hh, hfz⟩, hl, hr⟩ := h6
      refine ⟨forget_own_lt ho hk, arr, ⟨fz, hh, hfz0 fz hfz⟩, by rw [hlen]; exact hl, fun i j hi hj => ?_⟩
      rw [hlen] at hi
      obtain ⟨e, hb⟩ := hq i hi
      have hj' : j < (q.get i).cells.length := by rw [e] at hj; exact hj
      have hr' := hr i j hi hj'
      have e2 : (q'.get i).cells[j] = (q.get i).cells[j] := by simp only [e]
      rw [e2]
      exact ⟨forget_rep (hb _ (List.getElem_mem hj')) hr'.1, hr'.2⟩

theorem turn_rel {A A0 : AS} {S : St} {a : Act} (hn : A0.n = A.n) (hfr : ∀ t x, look A0.fr t = some x → look A.fr t = some x ∧ belowA A0.nx x = true)
    (hhp : ∀ k o', look A0.hp k = some o' → kp A0.nx k ∧ ∃ o, look A.hp k = some o ∧ Turns A0.nx o o') (hR : Rel S A a) : Rel (S.forget A0.nx) A0 a := by
  refine ⟨forget_wf hR.wf, hR.size.trans hn.symm, hR.defers, fun t x hx => ?_, fun k o hk => ?_, fun k hk => hk.2⟩
  · obtain ⟨h1, h2⟩ := hfr t x hx
    have := hR.fr t x h1
    exact ⟨by rw [hn]; exact this.1, forget_rep h2 this.2⟩
  · obtain ⟨hkp, o1, h1, h2⟩ := hhp k o hk
    have := hR.hp k o1 h1
    exact ⟨⟨this.1, hkp⟩, ⟨this.2.1, hkp⟩, turns_obj hkp h2 this.2.2⟩

theorem To.turn {P : Program} {c : Code} {A A' A0 : AS} {e : Exit} (h : To P c A e A') (hn : A0.n = A'.n) (hfr : ∀ t x, look A0.fr t = some x → look A'.fr t = some x ∧ belowA A0.nx x = true)
    (hhp : ∀ k o', look A0.hp k = some o' → kp A0.nx k ∧ ∃ o, look A'.hp k = some o ∧ Turns A0.nx o o') : To P c A e A0 := fun S a hR =>
  wp_mono (h S a hR) fun e1 a1 w1 ⟨he, S', hS, hk, hR'⟩ => ⟨he, S'.forget A0.nx, hS, hk.trans forget_kept, turn_rel hn hfr hhp hR'⟩
theorem LoopTo.turn {P : Program} {c : Code} {A A0 A' : AS} {e : Exit} (hn : A0.n = A.n) (hfr : ∀ t x, look A0.fr t = some x → look A.fr t = some x ∧ belowA A0.nx x = true)
    (hhp : ∀ k o', look A0.hp k = some o' → kp A0.nx k ∧ ∃ o, look A.hp k = some o ∧ Turns A0.nx o o') (h : LoopTo P c A0 e A') : LoopTo P c A e A' := by
  obtain ⟨n, h⟩ := h
  exact ⟨n, fun S a hR => rounds_mono (fun e1 a1 w1 ⟨he, S', hS, hk, hR'⟩ => ⟨he, S', hS, forget_kept.trans hk, hR'⟩) n a _ (h (S.forget A0.nx) a (turn_rel hn hfr hhp hR))⟩
end Go.Ev
