/- What is kept of a state; what is forgotten. -/
import Derived.Test.YtbmadhdeikoecaaEvQ
namespace Go.Ev

/-- what was there is there still, but for what is one's own -/
structure Kept (S S' : St) : Prop where
  size : S.w.heap.size ≤ S'.w.heap.size
  os : S'.w.os = S.w.os
  tape : S'.w.tape = S.w.tape
  output : S'.w.output = S.w.output
  old : ∀ b, b < S.w.heap.size → (∀ k, S.own b ≠ some (some k)) → S'.w.heap[b]? = S.w.heap[b]? ∧ S'.own b = S.own b

theorem Ext.kept {S S' : St} (h : Ext S S') : Kept S S' := ⟨h.size, h.os, h.tape, h.output, h.old⟩
theorem Kept.refl (S : St) : Kept S S := (Ext.refl S).kept
theorem Kept.trans {S S' S'' : St} (h : Kept S S') (g : Kept S' S'') : Kept S S'' := by
  refine ⟨Nat.le_trans h.size g.size, g.os.trans h.os, g.tape.trans h.tape, g.output.trans h.output, fun b hb ho => ?_⟩
  obtain ⟨h1, h2⟩ := h.old b hb ho
  obtain ⟨g1, g2⟩ := g.old b (Nat.lt_of_lt_of_le hb h.size) (fun k => by rw [h2]; exact ho k)
  exact ⟨g1.trans h1, g2.trans h2⟩

/-- the keys from n on are forgotten -/
def St.forget (S : St) (n : Nat) : St :=
  { S with
    own := fun b => match S.own b with
      | some (some k) => if k < n then some (some k) else some none
      | o => o
    live := fun k => S.live k ∧ k < n
    used := fun k => S.used k ∧ k < n }

section forget
variable {S : St} {n : Nat}

theorem forget_own_lt {b k : Nat} (h : S.own b = some (some k)) (hk : k < n) : (S.forget n).own b = some (some k) := by
  show (match S.own b with | some (some k) => if k < n then some (some k) else some none | o => o) = some (some k)
  rw [h]
  simp [hk]

theorem forget_some {b : Nat} {o : Option Nat} (h : (S.forget n).own b = some o) : ∃ o', S.own b = some o' := by
  have h' : (match S.own b with | some (some k) => if k < n then some (some k) else some none | o => o) = some o := h
  split at h'
  · next k hk => exact ⟨_, hk⟩
  · exact ⟨_, h'⟩

theorem forget_free {b : Nat} : (S.forget n).free b ↔ S.free b := by
  show (match S.own b with | some (some k) => if k < n then some (some k) else some none | o => o) = none ↔ S.own b = none
  split
  · next k hk =>
    rw [hk]
    split <;> simp
  · rfl

theorem forget_wf (h : S.wf) : (S.forget n).wf := by
  refine ⟨fun b o hb => ?_, fun k hl => ?_, fun k hl => ⟨h.lu k hl.1, hl.2⟩⟩
  · obtain ⟨o', ho⟩ := forget_some hb
    exact h.bound b o' ho
  · intro b hb
    exact forget_own_lt (h.kept k hl.1 b hb) hl.2

theorem forget_kept : Kept S (S.forget n) := by
  refine ⟨Nat.le_refl _, rfl, rfl, rfl, fun b hb ho => ⟨rfl, ?_⟩⟩
  show (match S.own b with | some (some k) => if k < n then some (some k) else some none | o => o) = S.own b
  split
  · next k hk => exact (ho k hk).elim
  · rfl

theorem forget_row {v : Value} {k off len ver : Nat} {t : Bool} (hk : k < n) (h : RowOK S v k off len ver t) : RowOK (S.forget n) v k off len ver t := by
  obtain ⟨hrow, a, c, hv, h1, h2, h3, h4, h5, h6⟩ := h
  refine ⟨hrow, a, c, hv, h1, h2, h3, h4, fun hl => ?_, h6⟩
  obtain ⟨ad, ha, hrest⟩ := h5 hl
  exact ⟨ad, ha, fun hf => ⟨forget_own_lt (hrest hf).1 hk, (hrest hf).2⟩⟩

theorem forget_rp {v : Value} {k i ver off : Nat} (hk : k < n) (h : RpOK S v k i ver off) : RpOK (S.forget n) v k i ver off := by
  obtain ⟨hrow, ad, hv, h1, h2, h3, h4⟩ := h
  exact ⟨hrow, ad, hv, h1, h2, fun hf => ⟨forget_own_lt (h3 hf).1 hk, (h3 hf).2⟩, h4⟩

theorem below1_spec {x : AV} (h : below1 n x = true) : ∀ k, k ∈ keyOf x → k < n := fun k hk => by
  have := List.all_eq_true.1 h k hk
  simpa [Nat.blt_eq] using this

def nests : AV → Bool
  | .agg _ | .tup _ | .fnv _ _ _ | .ifc _ _ => true
  | _ => false

theorem forget_rep1 {v : Value} {x : AV} (hn : nests x = false) (hb : below1 n x = true) (h : Rep S v x) : Rep (S.forget n) v x := by
  have hk := below1_spec hb
  cases h with
  | i _ _ h => exact .i _ _ (h.ext fun b _ hU => ⟨rfl, forget_free.2 hU⟩)
  | junk => exact .junk _
  | agg => cases hn
  | tup => cases hn
  | row _ k off len ver t hu hr hx =>
    have := hk k (by simp [keyOf])
    exact .row _ k off len ver t ⟨hu, this⟩ (fun hl => forget_row this (hr hl.1)) hx
  | rp _ k i ver off hu hr hx =>
    have := hk k (by simp [keyOf])
    exact .rp _ k i ver off ⟨hu, this⟩ (fun hl => forget_rp this (hr hl.1)) hx
  | ptr _ k off hu hr hx =>
    have := hk k (by simp [keyOf])
    exact .ptr _ k off ⟨hu, this⟩ (fun hl => hr hl.1) hx
  | fnv => cases hn
  | ifc => cases hn

theorem part_nests {l : List AV} (h : (l.all fun
    | .agg _ | .tup _ | .fnv _ _ _ | .ifc _ _ => false
    | x => below1 n x) = true) {i : Nat} (hi : i < l.length) : nests l[i] = false ∧ below1 n l[i] = true := by
  have := List.all_eq_true.1 h l[i] (List.getElem_mem hi)
  split at this
  all_goals first | cases this | skip
  next x h1 h2 h3 h4 =>
    refine ⟨?_, this⟩
    unfold nests
    split
    · next he => exact (h1 _ he).elim
    · next he => exact (h2 _ he).elim
    · next he => exact (h3 _ _ _ he).elim
    · next he => exact (h4 _ _ he).elim
    · rfl

theorem forget_rep {v : Value} {x : AV} (hb : belowA n x = true) (h : Rep S v x) : Rep (S.forget n) v x := by
  cases hx : nests x with
  | false =>
    refine forget_rep1 hx ?_ h
    cases x <;> first | exact hb | cases hx
  | true =>
    cases h with
    | i _ _ h => exact .i _ _ (h.ext fun b _ hU => ⟨rfl, forget_free.2 hU⟩)
    | junk => cases hx
    | agg arr cs hs hr =>
      refine .agg arr cs hs fun i hi => ?_
      obtain ⟨h1, h2⟩ := part_nests (l := cs) hb hi
      exact forget_rep1 h1 h2 (hr i hi)
    | tup arr cs hs hr =>
      refine .tup arr cs hs fun i hi => ?_
      obtain ⟨h1, h2⟩ := part_nests (l := cs) hb hi
      exact forget_rep1 h1 h2 (hr i hi)
    | row => cases hx
    | rp => cases hx
    | ptr => cases hx
    | fnv f a b as bs h1 h2 h3 h4 =>
      simp only [belowA, Bool.and_eq_true] at hb
      obtain ⟨⟨ha, hbb⟩, hall⟩ := hb
      have one : ∀ x, x ∈ as ++ bs → nests x = false := fun x hx => by
        have := List.all_eq_true.1 hall x hx
        cases x <;> first | rfl | cases this
      refine .fnv f a b as bs h1 (fun i hi => ?_) h3 (fun i hi => ?_)
      · exact forget_rep1 (one _ (List.mem_append_left _ (List.getElem_mem hi))) (List.all_eq_true.1 ha _ (List.getElem_mem hi)) (h2 i hi)
      · exact forget_rep1 (one _ (List.mem_append_right _ (List.getElem_mem hi))) (List.all_eq_true.1 hbb _ (List.getElem_mem hi)) (h4 i hi)
    | ifc t x y h =>
      have hy : nests y = false ∧ below1 n y = true := by
        simp only [belowA] at hb
        cases y <;> first | exact ⟨rfl, hb⟩ | cases hb
      exact .ifc t x y (forget_rep1 hy.1 hy.2 h)

theorem forget_obj {k : Nat} {o : AObj} (hk : k < n) (hb : belowO n o = true) (h : ObjOK S k o) : ObjOK (S.forget n) k o := by
  cases o with
  | cells T cs =>
    obtain ⟨hrow, b, arr, hc, ho, hh, hl, hr⟩ := h
    exact ⟨hrow, b, arr, hc, forget_own_lt ho hk, hh, hl, fun i hi => forget_rep (List.all_eq_true.1 hb _ (List.getElem_mem hi)) (hr i hi)⟩
  | row T sz q floor =>
    obtain ⟨hrow, h1, h2, h3, h4, hfl, h5, h6⟩ := h
    refine ⟨hrow, h1, h2, h3, h4, hfl, h5, ?_⟩
    have hcell : ∀ i j, i < q.len → ∀ hj : j < (q.get i).cells.length, belowA n ((q.get i).cells[j]) = true := by
      intro i j hi hj
      cases q with
      | ints k l =>
        have : j = 0 := by simpa [Seq.get, AV.cells] using hj
        subst this
        rfl
      | strs l =>
        have : j = 0 := by simpa [Seq.get, AV.cells] using hj
        subst this
        rfl
      | avs l =>
        have hi' : i < l.length := hi
        have := List.all_eq_true.1 hb l[i] (List.getElem_mem hi')
        have he : (Seq.avs l).get i = l[i] := by simp [Seq.get, hi']
        simp only [he] at hj ⊢
        exact List.all_eq_true.1 this _ (List.getElem_mem hj)
      | fn m f => cases hb
    show match S.cur k with | none => q.len = 0 | some b => _
    cases hc : S.cur k with
    | none => rw [hc] at h6; exact h6
    | some b =>
      rw [hc] at h6
      obtain ⟨ho, arr, hh, hl, hr⟩ := h6
      exact ⟨forget_own_lt ho hk, arr, hh, hl, fun i j hi hj => ⟨forget_rep (hcell i j hi hj) (hr i j hi hj).1, (hr i j hi hj).2⟩⟩
end forget

theorem look_mem {α : Type} {l : List (Nat × α)} {t : Nat} {x : α} (h : look l t = some x) : (t, x) ∈ l := by
  induction l with
  | nil => cases h
  | cons y r ih =>
    obtain ⟨k, a⟩ := y
    simp only [look] at h
    split at h
    · next hk =>
      cases h
      have := Nat.eq_of_beq_eq_true hk
      subst this
      simp
    · exact List.mem_cons_of_mem _ (ih h)

theorem keep_look {α : Type} {l : List (Nat × α)} {ks : List Nat} {t : Nat} {x : α} (h : look (keep l ks) t = some x) : look l t = some x := by
  induction ks with
  | nil => cases h
  | cons k r ih =>
    simp only [keep] at h
    split at h
    · next a ha =>
      simp only [look] at h
      split at h
      · next hk =>
        cases h
        have := Nat.eq_of_beq_eq_true hk
        subst this
        exact ha
      · exact ih h
    · exact ih h

theorem weaken_rel {A A0 : AS} {slots keys : List Nat} {nx : Nat} {S : St} {a : Act} (h : weaken A slots keys nx = some A0) (hR : Rel S A a) : Rel (S.forget nx) A0 a := by
  unfold weaken at h
  simp only at h
  split at h
  · next hc =>
    cases h
    simp only [Bool.and_eq_true] at hc
    obtain ⟨⟨h1, h2⟩, h3⟩ := hc
    refine ⟨forget_wf hR.wf, hR.size, hR.defers, fun t x hx => ?_, fun k o hk => ?_, fun k hk => hk.2⟩
    · have hb := List.all_eq_true.1 h1 _ (look_mem hx)
      have := hR.fr t x (keep_look hx)
      exact ⟨this.1, forget_rep hb this.2⟩
    · have hb := List.all_eq_true.1 h2 _ (look_mem hk)
      simp only [Bool.and_eq_true, Nat.blt_eq] at hb
      have := hR.hp k o (keep_look hk)
      exact ⟨⟨this.1, hb.1⟩, ⟨this.2.1, hb.1⟩, forget_obj hb.1 hb.2 this.2.2⟩
  · cases h

/-- the code c goes from what A says to what A' says, by way of e -/
def Goes (A : AS) (e : Exit) (A' : AS) (S : St) (e1 : Exit) (a1 : Act) (w1 : World) : Prop := e1 = e ∧ ∃ S', S'.w = w1 ∧ Kept S S' ∧ Rel S' A' a1

def To (P : Program) (c : Code) (A : AS) (e : Exit) (A' : AS) : Prop :=
  ∀ S a, Rel S A a → c.wp P (Goes A e A' S) a S.w

/-- rounds of c, from what A says on, end by way of e -/
def LoopTo (P : Program) (c : Code) (A : AS) (e : Exit) (A' : AS) : Prop :=
  ∃ n, ∀ S a, Rel S A a → Code.rounds P c (Goes A e A' S) n a S.w

section
variable {P : Program}

theorem To.weaken {c : Code} {A A' A'' : AS} {e : Exit} {slots keys : List Nat} {nx : Nat} (h : To P c A e A') (hw : Ev.weaken A' slots keys nx = some A'') : To P c A e A'' := fun S a hR =>
  wp_mono (h S a hR) fun e1 a1 w1 ⟨he, S', hS, hk, hR'⟩ => ⟨he, S'.forget nx, hS, hk.trans forget_kept, weaken_rel hw hR'⟩

theorem To.pre {c : Code} {A A0 A' : AS} {e : Exit} {slots keys : List Nat} {nx : Nat} (hw : Ev.weaken A slots keys nx = some A0) (h : To P c A0 e A') : To P c A e A' := fun S a hR =>
  wp_mono (h (S.forget nx) a (weaken_rel hw hR)) fun e1 a1 w1 ⟨he, S', hS, hk, hR'⟩ => ⟨he, S', hS, forget_kept.trans hk, hR'⟩

theorem rounds_mono {c : Code} {Q Q' : Exit → Act → World → Prop} (hq : ∀ e a w, Q e a w → Q' e a w) : ∀ (n : Nat) (a : Act) (w : World), Code.rounds P c Q n a w → Code.rounds P c Q' n a w
  | 0, _, _, h => h
  | n + 1, _, _, h => wp_mono h fun e a w hx => by
    cases e with
    | normal => exact rounds_mono hq n a w hx
    | _ => exact hq _ _ _ hx

theorem LoopTo.pre {c : Code} {A A0 A' : AS} {e : Exit} {slots keys : List Nat} {nx : Nat} (hw : Ev.weaken A slots keys nx = some A0) (h : LoopTo P c A0 e A') : LoopTo P c A e A' := by
  obtain ⟨n, h⟩ := h
  exact ⟨n, fun S a hR => rounds_mono (fun e1 a1 w1 ⟨he, S', hS, hk, hR'⟩ => ⟨he, S', hS, forget_kept.trans hk, hR'⟩) n a _ (h (S.forget nx) a (weaken_rel hw hR))⟩

theorem LoopTo.done {c : Code} {A A' : AS} {e : Exit} (he : e ≠ .normal) (h : To P c A e A') : LoopTo P c A e A' :=
  ⟨1, fun S a hR => wp_mono (h S a hR) fun e1 a1 w1 hg => by
    obtain ⟨rfl, hg⟩ := hg
    cases e1 with
    | normal => exact (he rfl).elim
    | _ => exact ⟨rfl, hg⟩⟩

theorem LoopTo.step {c : Code} {A A1 A' : AS} {e : Exit} (h1 : To P c A .normal A1) (h : LoopTo P c A1 e A') : LoopTo P c A e A' := by
  obtain ⟨n, h⟩ := h
  refine ⟨n + 1, fun S a hR => wp_mono (h1 S a hR) fun e1 a1 w1 hg => ?_⟩
  obtain ⟨rfl, S', rfl, hk, hR'⟩ := hg
  exact rounds_mono (fun e2 a2 w2 ⟨he, S'', hS, hk', hR''⟩ => ⟨he, S'', hS, hk.trans hk', hR''⟩) n a1 _ (h S' a1 hR')

theorem LoopTo.loop {c : Code} {A A' : AS} {e : Exit} (h : LoopTo P c A e A') : To P (.loop c) A e A' := by
  obtain ⟨n, h⟩ := h
  exact fun S a hR => wp_loop_rounds n (h S a hR)

end

section
variable {P : Program} {SG : List (FuncId × (List AV → Option (AV × List Prop)))}

/-- THE EVALUATOR IS RIGHT. -/
theorem ev_to (hm : P.follows .mixedOrders = true) (hsg : SigsOK P SG) (code : Code) : ∀ (hs : List CHint) (A : AS) (e : Exit) (A' : AS) (c : List Prop) (hs' : List CHint),
    evCode P SG (LoopTo P) code hs A = some (e, A', c, hs') → AllP c → To P code A e A' := by
  induction code with
  | skip =>
    intro hs A e A' c hs' h hc
    simp only [evCode, Option.some.injEq, Prod.mk.injEq] at h
    obtain ⟨rfl, rfl, rfl, rfl⟩ := h
    exact fun S a hR => wp_skip ⟨rfl, S, rfl, Kept.refl S, hR⟩
  | region id ops draw =>
    intro hs A e A' c hs' h hc
    simp only [evCode] at h
    split at h
    · cases h
    · next A1 c1 fs ht =>
      split at h
      · next hd =>
        simp only [Option.some.injEq, Prod.mk.injEq] at h
        obtain ⟨rfl, rfl, rfl, rfl⟩ := h
        exact fun S a hR => region_wp hm hsg ht hc hd hR fun S' a' he hR' => ⟨rfl, S', rfl, he.kept, hR'⟩
      · cases h
  | seq x y ihx ihy =>
    intro hs A e A' c hs' h hc
    simp only [evCode] at h
    split at h
    · next A1 c1 hs1 h1 =>
      split at h
      · next e2 A2 c2 hs2 h2 =>
        simp only [Option.some.injEq, Prod.mk.injEq] at h
        obtain ⟨rfl, rfl, rfl, rfl⟩ := h
        have hc := allP_append hc
        have t1 := ihx _ _ _ _ _ _ h1 hc.1
        have t2 := ihy _ _ _ _ _ _ h2 hc.2
        refine fun S a hR => wp_seq (wp_mono (t1 S a hR) fun e1 a1 w1 hg => ?_)
        obtain ⟨rfl, S', rfl, hk, hR'⟩ := hg
        exact wp_mono (t2 S' a1 hR') fun e2 a2 w2 ⟨he, S'', hS, hk', hR''⟩ => ⟨he, S'', hS, hk.trans hk', hR''⟩
      · cases h
    · next hne =>
      have t1 := ihx _ _ _ _ _ _ h hc
      refine fun S a hR => wp_seq (wp_mono (t1 S a hR) fun e1 a1 w1 hg => ?_)
      obtain ⟨rfl, hg⟩ := hg
      cases e1 with
      | normal => exact (hne _ _ _ h).elim
      | _ => exact ⟨rfl, hg⟩
  | cond x p q ihp ihq =>
    intro hs A e A' c hs' h hc
    simp only [evCode] at h
    split at h
    · next hv =>
      intro S a hR
      have hr := rep_eval hR.fr x
      rw [hv] at hr
      exact wp_cond_true (rep_v hr).1 (ihp _ _ _ _ _ _ h hc S a hR)
    · next hv =>
      intro S a hR
      have hr := rep_eval hR.fr x
      rw [hv] at hr
      exact wp_cond_false (rep_v hr).1 (ihq _ _ _ _ _ _ h hc S a hR)
    · cases h
  | block id x ih =>
    intro hs A e A' c hs' h hc
    simp only [evCode] at h
    split at h
    · next i A1 c1 hs1 h1 =>
      have t1 := fun hc => ih _ _ _ _ _ _ h1 hc
      split at h
      · next hb =>
        simp only [Option.some.injEq, Prod.mk.injEq] at h
        obtain ⟨rfl, rfl, rfl, rfl⟩ := h
        have hi := Nat.eq_of_beq_eq_true hb
        refine fun S a hR => wp_block (wp_mono (t1 hc S a hR) fun e1 a1 w1 hg => ?_)
        obtain ⟨rfl, hg⟩ := hg
        show if i = id then _ else _
        rw [if_pos hi]
        exact ⟨rfl, hg⟩
      · next hb =>
        simp only [Option.some.injEq, Prod.mk.injEq] at h
        obtain ⟨rfl, rfl, rfl, rfl⟩ := h
        have hi : i ≠ id := fun e => by subst e; rw [Nat.beq_refl] at hb; cases hb
        refine fun S a hR => wp_block (wp_mono (t1 hc S a hR) fun e1 a1 w1 hg => ?_)
        obtain ⟨rfl, hg⟩ := hg
        show if i = id then _ else _
        rw [if_neg hi]
        exact ⟨rfl, hg⟩
    · next hne =>
      have t1 := ih _ _ _ _ _ _ h hc
      refine fun S a hR => wp_block (wp_mono (t1 S a hR) fun e1 a1 w1 hg => ?_)
      obtain ⟨rfl, hg⟩ := hg
      cases e1 with
      | exit i => exact (hne _ _ _ _ h).elim
      | _ => exact ⟨rfl, hg⟩
  | loop x ih =>
    intro hs A e A' c hs' h hc
    simp only [evCode] at h
    split at h
    · split at h
      · next A0 hw =>
        simp only [Option.some.injEq, Prod.mk.injEq] at h
        obtain ⟨rfl, rfl, rfl, rfl⟩ := h
        exact (hc.1.pre hw).loop
      · cases h
    · cases h
  | exit id =>
    intro hs A e A' c hs' h hc
    simp only [evCode, Option.some.injEq, Prod.mk.injEq] at h
    obtain ⟨rfl, rfl, rfl, rfl⟩ := h
    exact fun S a hR => wp_exit ⟨rfl, S, rfl, Kept.refl S, hR⟩
  | ret =>
    intro hs A e A' c hs' h hc
    simp only [evCode, Option.some.injEq, Prod.mk.injEq] at h
    obtain ⟨rfl, rfl, rfl, rfl⟩ := h
    exact fun S a hR => wp_ret ⟨rfl, S, rfl, Kept.refl S, hR⟩
  | _ => intro hs A e A' c hs' h hc; simp only [evCode, reduceCtorEq] at h

theorem evW_to (hm : P.follows .mixedOrders = true) (hsg : SigsOK P SG) {code : Code} {hs : List CHint} {A A' : AS} {e : Exit} {c : List Prop} {slots keys : List Nat} {nx : Nat}
    (h : evW P SG (LoopTo P) code hs A slots keys nx = some (e, A', c)) (hc : AllP c) : To P code A e A' := by
  unfold evW at h
  split at h
  · next e1 A1 c1 h1 =>
    split at h
    · next A2 hw =>
      simp only [Option.some.injEq, Prod.mk.injEq] at h
      obtain ⟨rfl, rfl, rfl⟩ := h
      exact (ev_to hm hsg code _ _ _ _ _ _ h1 hc).weaken hw
    · cases h
  · cases h

end
end Go.Ev
