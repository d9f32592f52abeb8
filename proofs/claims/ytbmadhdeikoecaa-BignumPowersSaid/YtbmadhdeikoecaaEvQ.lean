/- A region that draws its order: whatever order is drawn, it comes to what the evaluator says. -/
import Derived.Test.YtbmadhdeikoecaaEvP
namespace Go.Ev

/-- j waits for k -/
inductive Anc (ops : Array Oper) : Nat → Nat → Prop
  | one {j : Nat} {o : Oper} {e : Edge} : ops[j]? = some o → e ∈ o.after → Region.binds .any e = true → Anc ops j e.on
  | more {j k : Nat} {o : Oper} {e : Edge} : ops[j]? = some o → e ∈ o.after → Region.binds .any e = true → Anc ops e.on k → Anc ops j k

theorem Anc.listed {ops : Array Oper} {listed : Array Bool} {j k : Nat} (h : Anc ops j k) (hj : ∀ o, ops[j]? = some o → ∀ e ∈ o.after, Region.binds .any e = true → listed.getD e.on false = true)
    (hc : ∀ j o, listed.getD j false = true → ops[j]? = some o → ∀ e ∈ o.after, Region.binds .any e = true → listed.getD e.on false = true) : listed.getD k false = true := by
  induction h with
  | one ho he hb => exact hj _ ho _ he hb
  | more ho he hb _ ih => exact ih fun o ho' e' he' hb' => hc _ o (hj _ ho _ he hb) ho' e' he' hb'

theorem before_anc (ops : Array Oper) : ∀ j k, ((Region.before ops).getD j 0).testBit k = true → Anc ops j k := by
  have main : (Region.before ops).size = ops.size ∧ ∀ j k, ((Region.before ops).getD j 0).testBit k = true → Anc ops j k := by
    unfold Region.before
    refine Array.foldl_induction (as := ops) (motive := fun (i : Nat) (acc : Array Nat) => acc.size = i ∧ ∀ j k, (acc.getD j 0).testBit k = true → Anc ops j k) ⟨rfl, fun j k h => by simp at h⟩ ?_
    intro i acc ⟨hs, hacc⟩
    refine ⟨by simp [hs], fun j k h => ?_⟩
    rw [Array.getD_eq_getD_getElem?, Array.getElem?_push] at h
    split at h
    · next hj =>
      simp only [Option.getD_some] at h
      have ho : ops[j]? = some (ops[i.val]'i.isLt) := (congrArg (fun n => ops[n]?) (hj.trans hs)).trans (Array.getElem?_eq_getElem i.isLt)
      have inner : ∀ s : Nat, (∀ k, s.testBit k = true → Anc ops j k) → ∀ (l : List Edge), (∀ e ∈ l, e ∈ ops[i].after) →
          ∀ k, (l.foldl (fun s e => if Region.binds .any e then s ||| 2 ^ e.on ||| acc.getD e.on 0 else s) s).testBit k = true → Anc ops j k := by
        intro s hs l
        induction l generalizing s with
        | nil => intro _ k hk; exact hs k hk
        | cons e l ih =>
          intro hl k hk
          simp only [List.foldl_cons] at hk
          refine ih _ ?_ (fun e he => hl e (by simp [he])) k hk
          intro k' hk'
          split at hk'
          · next hb =>
            simp only [Nat.testBit_or, Bool.or_eq_true] at hk'
            rcases hk' with (h1 | h1) | h1
            · exact hs k' h1
            · have : e.on = k' := by
                rw [Nat.testBit_two_pow] at h1
                simpa using h1
              rw [← this]
              exact .one ho (hl e (by simp)) hb
            · exact .more ho (hl e (by simp)) hb (hacc _ _ h1)
          · exact hs k' hk'
      rw [← Array.foldl_toList] at h
      exact inner 0 (fun k hk => by simp at hk) ops[i].after.toList (fun e he => by simpa using he) k h
    · rw [← Array.getD_eq_getD_getElem?] at h
      exact hacc j k h
  exact main.2

theorem backOk_spec {l : List Oper} {i : Nat} (h : backOk l i = true) : ∀ j o, l[j]? = some o → ∀ e ∈ o.after, Region.binds .any e = true → e.on < i + j := by
  induction l generalizing i with
  | nil => intro j o ho; simp at ho
  | cons x r ih =>
    simp only [backOk, Bool.and_eq_true] at h
    intro j o ho e he hb
    cases j with
    | zero =>
      simp only [List.getElem?_cons_zero, Option.some.injEq] at ho
      subst ho
      have := Array.all_eq_true_iff_forall_mem.1 h.1 e he
      rw [hb] at this
      simpa [Nat.blt_eq] using this
    | succ j =>
      have := ih h.2 j o (by simpa using ho) e he hb
      omega

def numbered {α : Type} : Nat → List α → List (Nat × α)
  | _, [] => []
  | i, f :: r => (i, f) :: numbered (i + 1) r

theorem numbered_mem {α : Type} {l : List α} {i j : Nat} {f : α} : (j, f) ∈ numbered i l ↔ i ≤ j ∧ l[j - i]? = some f := by
  induction l generalizing i with
  | nil => simp [numbered]
  | cons x r ih =>
    simp only [numbered, List.mem_cons, Prod.mk.injEq, ih]
    constructor
    · rintro (⟨rfl, rfl⟩ | ⟨h1, h2⟩)
      · simp
      · refine ⟨by omega, ?_⟩
        rw [show j - i = (j - (i + 1)) + 1 by omega]
        simpa using h2
    · rintro ⟨h1, h2⟩
      by_cases hji : j = i
      · subst hji
        simp at h2
        exact .inl ⟨rfl, h2.symm⟩
      · refine .inr ⟨by omega, ?_⟩
        rw [show j - i = (j - (i + 1)) + 1 by omega] at h2
        simpa using h2

theorem numbered_length {α : Type} (l : List α) (i : Nat) : (numbered i l).length = l.length := by
  induction l generalizing i with
  | nil => rfl
  | cons x r ih => simp [numbered, ih]

theorem numbered_pairwise {α : Type} (l : List α) (i : Nat) : (numbered i l).Pairwise fun x y => x.1 < y.1 := by
  induction l generalizing i with
  | nil => exact .nil
  | cons x r ih =>
    refine .cons (fun y hy => ?_) (ih (i + 1))
    obtain ⟨j, f⟩ := y
    have := (numbered_mem.1 hy).1
    show i < j
    omega

section
variable {P : Program} {SG : List (FuncId × (List AV → Option (AV × List Prop)))} {Q : Exit → Act → World → Prop}

theorem takeOps_run {hs : List (Nat × Hint)} {ops : Array Oper} (n : Nat) : ∀ (i : Nat) (A A' : AS) (c : List Prop) (fs : List (List Nat × List Nat)), takeOps P SG hs ops.toList n i A = some (A', c, fs) → AllP c →
    fs.length = n ∧ Run P SG hs ops (numbered i fs) A A' := by
  induction n with
  | zero =>
    intro i A A' c fs h _
    simp only [takeOps, Option.some.injEq, Prod.mk.injEq] at h
    obtain ⟨rfl, rfl, rfl⟩ := h
    exact ⟨rfl, Like.refl _⟩
  | succ n ih =>
    intro i A A' c fs h hc
    simp only [takeOps] at h
    split at h
    · cases h
    · next t ht =>
      split at h
      · next A1 c1 fs1 hr =>
        simp only [Option.some.injEq, Prod.mk.injEq] at h
        obtain ⟨rfl, rfl, rfl⟩ := h
        have hc := allP_append hc
        obtain ⟨h1, h2⟩ := ih (i + 1) t.A _ _ _ hr hc.2
        exact ⟨by simp [h1], t, ht, hc.1, rfl, h2⟩
      · cases h

/-- two operations, the first ahead of the second in the text -/
def Apart (ops : Array Oper) (x y : Nat × (List Nat × List Nat)) : Prop :=
  x.1 < y.1 ∧ (Anc ops y.1 x.1 ∨ ∃ o p, ops[x.1]? = some o ∧ ops[y.1]? = some p ∧ indep ops o p x.2 y.2 = true)

theorem drawOk_pairwise {ops : Array Oper} {fs : List (List Nat × List Nat)} (h : drawOk ops fs = true) (hl : fs.length = ops.size) : (numbered 0 fs).Pairwise (Apart ops) := by
  unfold drawOk at h
  rw [Bool.and_eq_true] at h
  have hp := h.2
  refine (numbered_pairwise fs 0).imp_of_mem fun {x y} hx hy hlt => ⟨hlt, ?_⟩
  obtain ⟨i, f⟩ := x
  obtain ⟨j, g⟩ := y
  have hi := (numbered_mem.1 hx).2
  have hj := (numbered_mem.1 hy).2
  simp only [Nat.sub_zero] at hi hj
  have hjlt : j < ops.size := by rw [← hl]; exact (List.getElem?_eq_some_iff.1 hj).1
  have h1 := List.all_eq_true.1 hp j (List.mem_range.2 hjlt)
  have h2 := List.all_eq_true.1 h1 i (List.mem_range.2 hlt)
  rw [Bool.or_eq_true] at h2
  rcases h2 with h2 | h2
  · exact .inl (before_anc ops j i h2)
  · split at h2
    · next o p f' g' e1 e2 e3 e4 =>
      rw [hi] at e3
      rw [hj] at e4
      cases e3
      cases e4
      exact .inr ⟨o, p, e1, e2, h2⟩
    · cases h2

theorem any_wp {hs : List (Nat × Hint)} {ops : Array Oper} (hsg : SigsOK P SG) (hback : backOk ops.toList 0 = true) (nx : Nat) : ∀ (fuel : Nat) (l : List (Nat × (List Nat × List Nat))) (listed : Array Bool) (A A' : AS) (S : St) (a : Act),
    l.length = fuel → listed.size = ops.size → (∀ i, i < ops.size → (listed.getD i true = false ↔ ∃ f, (i, f) ∈ l)) →
    (∀ j o, listed.getD j false = true → ops[j]? = some o → ∀ e ∈ o.after, Region.binds .any e = true → listed.getD e.on false = true) →
    l.Pairwise (Apart ops) → Run P SG hs ops l A A' → A.nx = nx → RelU (fun k => k < nx + ops.size) S A a → (∀ i f, (i, f) ∈ l → ¬ S.used (nx + i)) →
    (∀ S' a', Ext S S' → RelU (fun k => k < nx + ops.size) S' A' a' → A'.nx = nx → Q .normal a' S'.w) → wpAny P .any ops Q fuel listed a S.w := by
  intro fuel
  induction fuel with
  | zero =>
    intro l listed A A' S a hlen hls hmem hcl hpw hrun hnx hR hused hK
    have hl : l = [] := List.length_eq_zero_iff.1 hlen
    subst hl
    refine ⟨?_, hK S a (Ext.refl S) (hR.like hrun) (hrun.nx.trans hnx)⟩
    cases hrd : Region.ready .any ops listed with
    | nil => rfl
    | cons i r =>
      have hi : i ∈ Region.ready .any ops listed := by rw [hrd]; simp
      obtain ⟨h0, o, ho, _⟩ := mem_ready.1 hi
      obtain ⟨f, hf⟩ := (hmem i (Array.getElem?_eq_some_iff.1 ho).1).1 h0
      cases hf
  | succ fuel ih =>
    intro l listed A A' S a hlen hls hmem hcl hpw hrun hnx hR hused hK
    have hsame : ∀ i, i < ops.size → listed.getD i false = listed.getD i true := fun i hi => by
      have : i < listed.size := by rw [hls]; exact hi
      simp [this]
    refine ⟨fun hnil => ?_, fun i hi => ?_⟩
    · exfalso
      cases l with
      | nil => cases hlen
      | cons x l =>
        obtain ⟨i, f⟩ := x
        obtain ⟨T, ht, _⟩ := hrun
        obtain ⟨o, ho⟩ := Run.op ht
        have hlt := (Array.getElem?_eq_some_iff.1 ho).1
        have : i ∈ Region.ready .any ops listed := by
          rw [mem_ready]
          refine ⟨(hmem i hlt).2 ⟨f, by simp⟩, o, ho, fun e he hb => ?_⟩
          have hon := backOk_spec hback i o (by rw [Array.getElem?_toList]; exact ho) e he hb
          simp only [Nat.zero_add] at hon
          have hons : e.on < ops.size := by omega
          rw [hsame _ hons]
          cases hv : listed.getD e.on true with
          | true => rfl
          | false =>
            exfalso
            obtain ⟨g, hg⟩ := (hmem _ hons).1 hv
            rcases List.mem_cons.1 hg with h1 | h1
            · cases h1; omega
            · have : i < e.on := ((List.pairwise_cons.1 hpw).1 _ h1).1
              omega
        rw [hnil] at this
        cases this
    · obtain ⟨h0, o, ho, hdeps⟩ := mem_ready.1 hi
      have hlt := (Array.getElem?_eq_some_iff.1 ho).1
      obtain ⟨f, hf⟩ := (hmem i hlt).1 h0
      obtain ⟨l1, l2, hl⟩ := List.append_of_mem hf
      subst hl
      have hpw' := List.pairwise_append.1 hpw
      have hfirst := Run.first hrun fun k g hk => by
        have hap := hpw'.2.2 (k, g) hk (i, f) (by simp)
        rcases hap.2 with hanc | hind
        · exfalso
          have hkl : k < ops.size := Nat.lt_trans (show k < i from hap.1) hlt
          have h1 := hanc.listed (listed := listed) (fun o' ho' e he hb => by rw [ho] at ho'; cases ho'; exact hdeps e he hb) hcl
          rw [hsame _ hkl] at h1
          have h2 := (hmem k hkl).2 ⟨g, by simp [hk]⟩
          rw [h1] at h2
          cases h2
        · exact hind
      obtain ⟨T, ht, hc, hfp, hrest⟩ := hfirst
      have hTnx := takeOp_frame ht
      refine takeOp_wp (U := fun k => k < nx + ops.size) hsg ht hc hR (by rw [hnx]; exact hused i f hf) fun S' a' he hR' hu => ?_
      have hne : ∀ k g, (k, g) ∈ l1 ++ l2 → k ≠ i := fun k g hk => by
        rcases List.mem_append.1 hk with h1 | h1
        · have : k < i := (hpw'.2.2 (k, g) h1 (i, f) (by simp)).1
          omega
        · have : i < k := ((List.pairwise_cons.1 hpw'.2.1).1 (k, g) h1).1
          omega
      refine ih (l1 ++ l2) _ T.A A' S' a' (by simp at hlen ⊢; omega) (by simp [hls]) (fun k hk => ?_) (fun j o' hj ho' e he hb => ?_) (hpw.sublist (by simp)) hrest (hTnx.trans hnx)
        ⟨hR'.wf, hR'.size, hR'.defers, hR'.fr, hR'.hp, fun k hk => ?_⟩ (fun k g hk hus => ?_) fun S'' a'' he' hR'' hn => hK S'' a'' (he.trans he') hR'' hn
      · by_cases hki : k = i
        · subst hki
          have : (listed.setIfInBounds k true).getD k true = true := by
            have : k < listed.size := by rw [hls]; exact hk
            simp [this]
          rw [this]
          constructor
          · intro h; cases h
          · rintro ⟨g, hg⟩
            exact absurd rfl (hne k g hg)
        · rw [getD_set_ne true (Ne.symm hki), hmem k hk]
          constructor
          · rintro ⟨g, hg⟩
            refine ⟨g, ?_⟩
            simp only [List.mem_append, List.mem_cons, Prod.mk.injEq] at hg ⊢
            rcases hg with h | ⟨h, _⟩ | h
            · exact .inl h
            · exact absurd h hki
            · exact .inr h
          · rintro ⟨g, hg⟩
            refine ⟨g, ?_⟩
            simp only [List.mem_append, List.mem_cons] at hg ⊢
            rcases hg with h | h
            · exact .inl h
            · exact .inr (.inr h)
      · by_cases hji : j = i
        · subst hji
          rw [ho] at ho'
          cases ho'
          exact getD_set_true (hdeps e he hb)
        · rw [getD_set_ne false (Ne.symm hji)] at hj
          exact getD_set_true (hcl j o' hj ho' e he hb)
      · rcases hR'.used k hk with h1 | h1
        · exact h1
        · rw [hnx] at h1; omega
      · rcases hu _ hus with h1 | h1
        · exact hused k g (by
            rcases List.mem_append.1 hk with h | h
            · simp [h]
            · simp [h]) h1
        · rw [hnx] at h1
          have := hne k g hk
          omega

/-- a region -/
theorem region_wp {hs : List (Nat × Hint)} {id : Nat} {ops : Array Oper} {draw : Bool} {A A' : AS} {c : List Prop} {fs : List (List Nat × List Nat)} {S : St} {a : Act} (hm : P.follows .mixedOrders = true) (hsg : SigsOK P SG)
    (h : takeOps P SG hs ops.toList ops.size 0 A = some (A', c, fs)) (hc : AllP c) (hd : (!draw || drawOk ops fs) = true) (hR : Rel S A a)
    (hK : ∀ S' a', Ext S S' → Rel S' { A' with nx := A'.nx + ops.size } a' → Q .normal a' S'.w) : (Code.region id ops draw).wp P Q a S.w := by
  have fin : ∀ S' a', Ext S S' → RelU (fun k => k < A.nx + ops.size) S' A' a' → A'.nx = A.nx → Q .normal a' S'.w := fun S' a' he hR' hn =>
    hK S' a' he ⟨hR'.wf, hR'.size, hR'.defers, hR'.fr, hR'.hp, fun k hk => by have := hR'.used k hk; show k < A'.nx + ops.size; rw [hn]; exact this⟩
  cases draw with
  | false =>
    refine wp_region ?_
    rw [List.range_eq_range']
    exact takeOps_wp hsg ops.size 0 A A' c fs S a h hc ⟨hR.wf, hR.size, hR.defers, hR.fr, hR.hp, hR.used⟩ fun S' a' he hR' hn =>
      fin S' a' he ⟨hR'.wf, hR'.size, hR'.defers, hR'.fr, hR'.hp, fun k hk => by have := hR'.used k hk; simpa using this⟩ hn
  | true =>
    simp only [Bool.not_true, Bool.false_or] at hd
    obtain ⟨hlen, hrun⟩ := takeOps_run ops.size 0 A A' c fs h hc
    have hback : backOk ops.toList 0 = true := by
      unfold drawOk at hd
      rw [Bool.and_eq_true] at hd
      exact hd.1
    have hg := drew_grows S.w
    refine wp_region_any hm ?_
    show wpAny P .any ops Q ops.size (Array.replicate ops.size false) a (S.at S.w.drew).w
    refine any_wp hsg hback A.nx ops.size (numbered 0 fs) _ A A' (S.at S.w.drew) a (by rw [numbered_length, hlen]) (by simp) (fun i hi => ?_) (fun j o hj => ?_) (drawOk_pairwise hd hlen) hrun rfl
      ⟨wf_at hg hR.wf, hR.size, hR.defers, hR.fr.ext (ext_at hg hR.wf), heap_at hg hR.wf hR.hp, fun k hk => by have := hR.used k hk; omega⟩ (fun i f hf hu => ?_) fun S' a' he hR' hn => fin S' a' ((ext_at hg hR.wf).trans he) hR' hn
    · have : (Array.replicate ops.size false).getD i true = false := by simp [hi]
      rw [this]
      constructor
      · intro _
        refine ⟨fs[i]'(by rw [hlen]; exact hi), numbered_mem.2 ⟨Nat.zero_le _, ?_⟩⟩
        simp
      · intro _; rfl
    · exfalso
      by_cases hjs : j < ops.size
      · simp [hjs] at hj
      · simp [hjs] at hj
    · have := hR.used _ hu
      omega

end
end Go.Ev
