/- Rows of which only the newest version is read any more. -/
import Derived.Test.YtbmadhdeikoecaaEvS
namespace Go.Ev

def raiseO : AObj → AObj
  | .row T sz q _ => .row T sz q q.len
  | o => o

/-- only who knows a row as it is now may read it -/
def raiseA (A : AS) : AS := { A with hp := A.hp.map fun x => (x.1, raiseO x.2) }

theorem look_map {α β : Type} (f : α → β) (l : List (Nat × α)) (k : Nat) : look (l.map fun x => (x.1, f x.2)) k = (look l k).map f := by
  induction l with
  | nil => rfl
  | cons x r ih =>
    obtain ⟨j, a⟩ := x
    simp only [List.map_cons, look]
    split <;> simp [ih]

/-- the rows of hp, read as they are now alone -/
noncomputable def St.raise (S : St) (hp : List (Nat × AObj)) : St :=
  { S with floor := fun k => match look hp k with
      | some (.row _ _ _ _) => S.len k
      | _ => S.floor k }

section
variable {S : St} {hp : List (Nat × AObj)}

theorem raise_floor (hh : HeapOK S hp) {k ver : Nat} (h : (S.raise hp).floor k ≤ ver) : S.floor k ≤ ver := by
  have h' : (match look hp k with | some (.row _ _ _ _) => S.len k | _ => S.floor k) ≤ ver := h
  split at h'
  · next T sz q fl hk =>
    obtain ⟨_, _, ho⟩ := hh k _ hk
    obtain ⟨_, _, _, h1, h2, h3, _⟩ := ho
    omega
  · exact h'

theorem raise_row (hh : HeapOK S hp) {v : Value} {k off len ver : Nat} {t : Bool} (h : RowOK S v k off len ver t) : RowOK (S.raise hp) v k off len ver t := by
  obtain ⟨hrow, a, c, hv, h1, h2, h3, h4, h5, h6⟩ := h
  refine ⟨hrow, a, c, hv, h1, h2, h3, h4, fun hl => ?_, h6⟩
  obtain ⟨ad, ha, hrest⟩ := h5 hl
  exact ⟨ad, ha, fun hf => hrest (raise_floor hh hf)⟩

theorem raise_rp (hh : HeapOK S hp) {v : Value} {k i ver off : Nat} (h : RpOK S v k i ver off) : RpOK (S.raise hp) v k i ver off := by
  obtain ⟨hrow, ad, hv, h1, h2, h3, h4⟩ := h
  exact ⟨hrow, ad, hv, h1, h2, fun hf => h3 (raise_floor hh hf), h4⟩

theorem raise_ext (hh : HeapOK S hp) : Ext S (S.raise hp) :=
  ⟨Nat.le_refl _, rfl, rfl, rfl, fun _ _ _ => ⟨rfl, rfl⟩, fun _ h => h, fun _ _ hl => ⟨hl, fun _ _ _ _ _ r => raise_row hh r, fun _ _ _ _ r => raise_rp hh r, fun _ _ r => r⟩⟩

theorem raise_obj (hh : HeapOK S hp) {k : Nat} {o : AObj} (hk : look hp k = some o) (h : ObjOK S k o) : ObjOK (S.raise hp) k (raiseO o) := by
  cases o with
  | cells T cs =>
    obtain ⟨hrow, b, arr, hc, ho, hw, hl, hr⟩ := h
    exact ⟨hrow, b, arr, hc, ho, hw, hl, fun i hi => (hr i hi).ext (raise_ext hh)⟩
  | row T sz q floor =>
    obtain ⟨hrow, h1, h2, h3, h4, hfl, h5, h6⟩ := h
    refine ⟨hrow, h1, h2, h3, ?_, Nat.le_refl _, h5, ?_⟩
    · show (match look hp k with | some (.row _ _ _ _) => S.len k | _ => S.floor k) = q.len
      rw [hk]
      exact h3
    · show match S.cur k with | none => q.len = 0 | some b => _
      cases hc : S.cur k with
      | none => rw [hc] at h6; exact h6
      | some b =>
        rw [hc] at h6
        obtain ⟨ho, arr, hw, hl, hr⟩ := h6
        exact ⟨ho, arr, hw, hl, fun i j hi hj => ⟨(hr i j hi hj).1.ext (raise_ext hh), (hr i j hi hj).2⟩⟩
end

theorem raise_rel {A : AS} {S : St} {a : Act} (hR : Rel S A a) : Rel (S.raise A.hp) (raiseA A) a := by
  refine ⟨⟨hR.wf.bound, hR.wf.kept, hR.wf.lu⟩, hR.size, hR.defers, hR.fr.ext (raise_ext hR.hp), fun k o hk => ?_, hR.used⟩
  have hk' : look (A.hp.map fun x => (x.1, raiseO x.2)) k = some o := hk
  rw [look_map] at hk'
  cases hl : look A.hp k with
  | none => rw [hl] at hk'; cases hk'
  | some o' =>
    rw [hl] at hk'
    cases hk'
    obtain ⟨h1, h2, h3⟩ := hR.hp k o' hl
    exact ⟨h1, h2, raise_obj hR.hp hl h3⟩

theorem To.raise {P : Program} {c : Code} {A A' : AS} {e : Exit} (h : To P c A e A') : To P c A e (raiseA A') := fun S a hR =>
  wp_mono (h S a hR) fun e1 a1 w1 ⟨he, S', hS, hk, hR'⟩ => ⟨he, S'.raise A'.hp, hS, hk.trans (raise_ext hR'.hp).kept, raise_rel hR'⟩

theorem LoopTo.raise {P : Program} {c : Code} {A A' : AS} {e : Exit} (h : LoopTo P c (raiseA A) e A') : LoopTo P c A e A' := by
  obtain ⟨n, h⟩ := h
  exact ⟨n, fun S a hR => rounds_mono (fun e1 a1 w1 ⟨he, S', hS, hk, hR'⟩ => ⟨he, S', hS, (raise_ext hR.hp).kept.trans hk, hR'⟩) n a _ (h (S.raise A.hp) a (raise_rel hR))⟩

end Go.Ev
