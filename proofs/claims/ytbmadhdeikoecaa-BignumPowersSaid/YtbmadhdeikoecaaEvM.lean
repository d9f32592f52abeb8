/- Calls of functions by their contracts. -/
import Derived.Test.YtbmadhdeikoecaaEvL
namespace Go.Ev

/-- what a call comes to: the callee's value at once, or its run -/
def CalledTo (P : Program) (f : FuncId) (vals : Array Value) (w : World) (R : Value → World → Prop) : Prop :=
  match (callFunc f vals).run P w with
  | .ok (.value v) w' => R v w'
  | .ok (.enter g args) w' => w' = w ∧ Calls P g args w fun e w'' => ∃ v, e = .returned v ∧ R v w''
  | _ => False

/-- values, each of which means what is said, with no own keys -/
def RepIs (w : World) (U : Nat → Prop) (vs : List Value) (xs : List AV) : Prop :=
  vs.length = xs.length ∧ ∀ i (h1 : i < vs.length) (h2 : i < xs.length), RepI w U vs[i] xs[i]

/-- THE CONTRACT OF A FUNCTION THAT KEEPS NOTHING: called with what means ys it returns what means r, and nothing that was there has turned. -/
def PureTo (P : Program) (f : FuncId) (ys : List AV) (r : AV) : Prop :=
  ∀ (S : St) (vals : List Value), S.wf → RepIs S.w S.free vals ys → CalledTo P f vals.toArray S.w fun v w' => Grows S.w w' ∧ RepI w' S.free v r

/-- the contracts that a walk may use -/
def SigsOK (P : Program) (SG : List (FuncId × (List AV → Option (AV × List Prop)))) : Prop :=
  ∀ f sig, look SG f = some sig → ∀ ys r c, sig ys = some (r, c) → AllP c → PureTo P f ys r

/-- own rows that are handed on: nobody writes them for now -/
def St.lend (S : St) (ks : List Nat) : St :=
  { S with own := fun b => match S.own b with
      | some (some k) => if k ∈ ks then none else some (some k)
      | o => o }

theorem lend_own {S : St} {ks : List Nat} {b : Nat} {o : Option Nat} (h : (S.lend ks).own b = some o) : S.own b = some o ∧ ∀ k, o = some k → k ∉ ks := by
  have h' : (match S.own b with | some (some k) => if k ∈ ks then none else some (some k) | o => o) = some o := h
  split at h'
  · next k hk =>
    split at h'
    · cases h'
    · next hn => cases h'; exact ⟨hk, fun k' e => by cases e; exact hn⟩
  · next hne => exact ⟨h', fun k e => by subst e; exact (hne k h').elim⟩

theorem lend_free {S : St} {ks : List Nat} {b : Nat} (h : S.free b) : (S.lend ks).free b := by
  show (match S.own b with | some (some k) => if k ∈ ks then none else some (some k) | o => o) = none
  rw [show S.own b = none from h]

theorem lend_key {S : St} {ks : List Nat} {b k : Nat} (h : S.own b = some (some k)) (hk : k ∈ ks) : (S.lend ks).free b := by
  show (match S.own b with | some (some k) => if k ∈ ks then none else some (some k) | o => o) = none
  rw [h]
  simp [hk]

/-- the state behind a call to which rows were lent that may be part of what it told -/
def St.drop (S : St) (ks : List Nat) (w : World) : St :=
  { S.lend ks with w := w, live := fun k => S.live k ∧ k ∉ ks }

section drop
variable {S : St} {ks : List Nat} {w : World}

theorem drop_same (hwf : S.wf) (hg : Grows S.w w) {k : Nat} (hk : k ∉ ks) : Same S (S.drop ks w) k := by
  refine ⟨rfl, rfl, rfl, rfl, rfl, fun b hb => ⟨hg.block b (hwf.bound b _ hb), ?_⟩⟩
  show (match S.own b with | some (some k) => if k ∈ ks then none else some (some k) | o => o) = some (some k)
  rw [hb]
  simp [hk]

theorem drop_wf (hwf : S.wf) (hg : Grows S.w w) : (S.drop ks w).wf := by
  refine ⟨fun b o hb => Nat.lt_of_lt_of_le (hwf.bound b o (lend_own hb).1) hg.size, fun k hl => ?_, fun k hl => hwf.lu k hl.1⟩
  intro b hb
  have := hwf.kept k hl.1 b hb
  show (match S.own b with | some (some k) => if k ∈ ks then none else some (some k) | o => o) = some (some k)
  rw [this]
  simp [hl.2]

theorem drop_ext (hwf : S.wf) (hg : Grows S.w w) : Ext S (S.drop ks w) := by
  refine ⟨hg.size, hg.os, hg.tape, hg.output, fun b hb ho => ⟨hg.block b hb, ?_⟩, fun _ h => h, fun k _ hl => ?_⟩
  · show (match S.own b with | some (some k) => if k ∈ ks then none else some (some k) | o => o) = S.own b
    split
    · next k hk => exact (ho k hk).elim
    · rfl
  · have hs := drop_same (ks := ks) hwf hg hl.2
    exact ⟨hl.1, fun _ _ _ _ _ r => hs.row (hwf.kept k hl.1) r, fun _ _ _ _ r => hs.rp (hwf.kept k hl.1) r, fun _ _ r => hs.ptr r⟩
end drop

theorem lend_wf {S : St} {ks : List Nat} (hwf : S.wf) : ({ S.lend ks with live := fun k => S.live k ∧ k ∉ ks } : St).wf := by
  refine ⟨fun b o hb => hwf.bound b o (lend_own hb).1, fun k hl => ?_, fun k hl => hwf.lu k hl.1⟩
  intro b hb
  have := hwf.kept k hl.1 b hb
  show (match S.own b with | some (some k) => if k ∈ ks then none else some (some k) | o => o) = some (some k)
  rw [this]
  simp [hl.2]

/-! ### handing on -/

theorem plain1_cells {q : Seq AV} (h : seqPlain q = true) {i : Nat} (hi : i < q.len) {j : Nat} (hj : j < (q.get i).cells.length) : plain1 ((q.get i).cells[j]) = true := by
  cases q with
  | ints k l =>
    have : j = 0 := by simpa [Seq.get, AV.cells] using hj
    subst this
    rfl
  | strs l =>
    have : j = 0 := by simpa [Seq.get, AV.cells] using hj
    subst this
    rfl
  | avs l =>
    have hi' : i < l.length := hi
    have := List.all_eq_true.1 h l[i] (List.getElem_mem hi')
    have he : (Seq.avs l).get i = l[i] := by simp [Seq.get, hi']
    simp only [he] at hj ⊢
    exact List.all_eq_true.1 this _ (List.getElem_mem hj)
  | fn n f => cases h

/-- an own row as what it holds, once it is lent -/
theorem row_lent {S : St} {T : TypeId} {k off len ver sz floor : Nat} {q q' : Seq AV} {tight : Bool} {v : Value} {ks : List Nat} (hwf : S.wf) (ho : ObjOK S k (.row T sz q floor)) (hp : seqPlain q = true) (hr : RowOK S v k off len ver tight) (hf : floor ≤ ver) (hq : q'.len = len)
    (hg : ∀ i, i < len → q'.get i = q.get (off + i)) (hk : k ∈ ks) (hn : ∃ a c, v = .slice a len c ∧ (a = none → c = 0)) : RepI S.w (S.lend ks).free v (.sl sz q' tight) := by
  obtain ⟨_, o1, o2, o3, o4, _, o5, o6⟩ := ho
  obtain ⟨_, a, c, rfl, h1, h2, h3, h4, h5, h6⟩ := hr
  subst hq
  rcases Nat.eq_zero_or_pos q'.len with h0 | h0
  · cases a with
    | none =>
      obtain ⟨a', c', he, hn⟩ := hn
      cases he
      have := hn rfl
      subst this
      rw [h0]
      exact .slNil _ _ _ h0
    | some ad => exact .sl ad _ c sz q' tight (fun _ _ => undef) rfl h3 h4 o2 (fun h => by omega) (fun i hi => by omega) (fun i j hi => by omega) (fun i j hi => by omega)
  · obtain ⟨ad, rfl, hrest⟩ := h5 h0
    obtain ⟨h7, h8, h9⟩ := hrest (by omega)
    cases hc : S.cur k with
    | none =>
      have h10 := (h9 0 (by rw [o1]; exact Nat.mul_pos h0 o2))
      rw [h10.1] at h10
      have h11 := h10.2
      unfold curCell at h11
      rw [hc] at h11
      cases h11
    | some b =>
      rw [hc] at o6
      obtain ⟨_, arr, hheap, hsz, hrep⟩ := o6
      have hin : ∀ i j, i < q'.len → j < sz → (off + i) * sz + j < arr.size := fun i j hi hj => by
        have : (off + i + 1) * sz ≤ q.len * sz := Nat.mul_le_mul_right _ (by omega)
        rw [Nat.add_mul (off + i), Nat.one_mul] at this
        omega
      refine .sl ad _ c sz q' tight (fun i j => arr.getD ((off + i) * sz + j) undef) rfl h3 h4 o2 (fun _ => lend_key h7 hk) (fun i hi => ?_) (fun i j hi hj => ?_) (fun i j hi hj => ?_)
      · rw [hg i hi]; exact o5 _ (by omega)
      · have hp2 : i * sz + j < q'.len * S.sz k := by
          rw [o1]
          have : (i + 1) * sz ≤ q'.len * sz := Nat.mul_le_mul_right _ hi
          rw [Nat.add_mul, Nat.one_mul] at this
          omega
        have hcell := (h9 (i * sz + j) hp2).1
        unfold curCell at hcell
        rw [hc] at hcell
        simp only [cell_arr hheap] at hcell
        rw [o1, ← Nat.add_assoc, ← Nat.add_mul, Array.getElem?_eq_getElem (hin i j hi hj)] at hcell
        have h11 := (hrep (off + i) j (by omega) (by rw [o5 _ (by omega)]; exact hj)).2
        rw [hcell, Array.getD_eq_getD_getElem?, Array.getElem?_eq_getElem (hin i j hi hj)]
        rw [Array.getD_eq_getD_getElem?, Array.getElem?_eq_getElem (hin i j hi hj)] at h11
        exact ⟨rfl, h11⟩
      · have he := hg i hi
        have hj2 : j < (q.get (off + i)).cells.length := by rw [he] at hj; exact hj
        have h12 := (hrep (off + i) j (by omega) hj2).1
        have hpl := plain1_cells hp (show off + i < q.len by omega) hj2
        have h13 := plain1_rep h12 hpl
        have h14 : RepI S.w (S.lend ks).free (arr.getD ((off + i) * sz + j) undef) ((q.get (off + i)).cells[j]) := h13.ext fun b _ hU => ⟨rfl, lend_free hU⟩
        simpa [he] using h14

theorem aggPlain {S : St} {v : Value} {cs : List AV} (h : Rep S v (.agg cs)) (hp : cs.all plain1 = true) : RepI S.w S.free v (.agg cs) := by
  obtain ⟨arr, rfl, hs, hr⟩ := rep_agg h
  exact .agg arr cs hs fun i hi => plain1_rep (hr i hi) (List.all_eq_true.1 hp _ (List.getElem_mem hi))

theorem plainA_rep {S : St} {v : Value} {x : AV} (h : Rep S v x) (hp : plainA x = true) : RepI S.w S.free v x := by
  unfold plainA at hp
  split at hp
  · exact aggPlain h hp
  · next cs =>
    obtain ⟨arr, rfl, hs, hr⟩ := rep_tup h
    refine .tup arr _ hs fun i hi => ?_
    have h1 := List.all_eq_true.1 hp _ (List.getElem_mem hi)
    have h2 := hr i hi
    revert h1 h2
    generalize cs[i] = y
    intro h1 h2
    split at h1
    · exact aggPlain h2 h1
    · exact plain1_rep h2 h1
  · cases h with
    | i _ _ h => exact h
    | fnv _ a b _ _ h1 h2 h3 h4 => exact .fnv _ a b _ _ h1 (fun i hi => absurd hi (by simp)) h3 (fun i hi => absurd hi (by simp))
  · cases h with
    | i _ _ h => exact h
    | ifc _ x _ h => exact .ifc _ x _ (plain1_rep h hp)
  · exact plain1_rep h hp

theorem repI_lend {S : St} {ks : List Nat} {v : Value} {x : AV} (h : RepI S.w S.free v x) : RepI S.w (S.lend ks).free v x :=
  h.ext fun _ _ hU => ⟨rfl, lend_free hU⟩

section
variable {P : Program}

theorem snapRow_rep {S : St} {hp : List (Nat × AObj)} {nd ks : List Nat} {k off len ver : Nat} {tight : Bool} {v : Value} {y : AV} {c : List Prop} {kk : List Nat} (hwf : S.wf) (hh : HeapOK S hp) (h : snapRow (restr hp nd) k off len ver tight = some (y, c, kk)) (hc : AllP c)
    (hx : Rep S v (.row k off len ver tight)) (hks : ∀ k, k ∈ kk → k ∈ ks) : RepI S.w (S.lend ks).free v y := by
  obtain ⟨T, sz, q, floor, q', hk, hpl, rfl, rfl, hf, hq⟩ := snapRow_spec h hc
  obtain ⟨hu, hl, ho⟩ := hh _ _ hk
  obtain ⟨_, hr, hn⟩ := rep_row hx
  have hr := hr hl
  have ho2 := ho
  obtain ⟨_, _, _, o3, _⟩ := ho2
  have hr2 := hr
  obtain ⟨_, _, _, _, h1, h2, _⟩ := hr2
  obtain ⟨hq1, hq2⟩ := hq (by omega)
  exact row_lent hwf ho hpl hr hf hq1 hq2 (hks k (by simp)) hn

theorem snap1_rep {S : St} {hp : List (Nat × AObj)} {nd ks : List Nat} {x y : AV} {v : Value} {c : List Prop} {kk : List Nat} (hwf : S.wf) (hh : HeapOK S hp) (h : snap1 (restr hp nd) x = some (y, c, kk)) (hc : AllP c) (hx : Rep S v x) (hks : ∀ k, k ∈ kk → k ∈ ks) :
    RepI S.w (S.lend ks).free v y := by
  unfold snap1 at h
  split at h
  · exact snapRow_rep hwf hh h hc hx hks
  · split at h
    · next hp => cases h; exact repI_lend (plain1_rep hx hp)
    · cases h

theorem snapL_rep {S : St} {hp : List (Nat × AObj)} {nd ks : List Nat} (hwf : S.wf) (hh : HeapOK S hp) : ∀ {xs ys : List AV} {vs : List Value} {c : List Prop} {kk : List Nat}, snapL (restr hp nd) xs = some (ys, c, kk) → AllP c → vs.length = xs.length →
    (∀ i (h1 : i < vs.length) (h2 : i < xs.length), Rep S vs[i] xs[i]) → (∀ k, k ∈ kk → k ∈ ks) → RepIs S.w (S.lend ks).free vs ys
  | [], ys, vs, c, kk, h, _, hl, _, _ => by
    cases h
    exact ⟨hl, fun i h1 h2 => absurd h2 (by simp)⟩
  | x :: xs, ys, vs, c, kk, h, hc, hl, hr, hks => by
    unfold snapL at h
    split at h
    · next y c1 k1 ys' c2 k2 h1 h2 =>
      cases h
      obtain ⟨hc1, hc2⟩ := allP_append hc
      match vs, hl with
      | v :: vs, hl =>
        have a1 := snap1_rep hwf hh h1 hc1 (hr 0 (by simp) (by simp)) (fun k hk => hks k (List.mem_append_left _ hk))
        have a2 := snapL_rep hwf hh h2 hc2 (by simpa using hl) (fun i h1 h2 => hr (i + 1) (by simp; omega) (by simp; omega)) (fun k hk => hks k (List.mem_append_right _ hk))
        refine ⟨by simp [a2.1], fun i h1 h2 => ?_⟩
        cases i with
        | zero => exact a1
        | succ i => exact a2.2 i (by simpa using h1) (by simpa using h2)
    · cases h

theorem snap_rep {S : St} {hp : List (Nat × AObj)} {nd ks : List Nat} {t : TypeId} {x y : AV} {v : Value} {c : List Prop} {kk : List Nat} (hwf : S.wf) (hh : HeapOK S hp) (h : snap P (restr hp nd) t x = some (y, c, kk)) (hc : AllP c) (hx : Rep S v x) (hks : ∀ k, k ∈ kk → k ∈ ks) :
    RepI S.w (S.lend ks).free v y := by
  unfold snap at h
  split at h
  · exact snapRow_rep hwf hh h hc hx hks
  · obtain ⟨rfl, _⟩ := rep_v hx
    split at h
    · split at h
      · cases h
        exact .slNil _ _ _ (seqEmpty_len _)
      · cases h
    · cases h
  · split at h
    · next ds c' k' hl =>
      cases h
      obtain ⟨arr, rfl, hs, hr⟩ := rep_agg hx
      have := snapL_rep (vs := arr.toList) hwf hh hl hc (by simpa using hs) (fun i h1 h2 => by
        have := hr i h2
        rw [Array.getD_eq_getD_getElem?, Array.getElem?_eq_getElem (by simpa using h1)] at this
        simpa using this) hks
      refine .agg arr ds (by simpa using this.1) fun i hi => ?_
      have hi2 : i < arr.size := by have := this.1; simp at this; omega
      have h3 := this.2 i (by simpa using hi2) hi
      rw [Array.getD_eq_getD_getElem?, Array.getElem?_eq_getElem hi2]
      simpa using h3
    · cases h
  · split at h
    · next hp => cases h; exact repI_lend (plainA_rep hx hp)
    · cases h

theorem snaps_rep {S : St} {hp : List (Nat × AObj)} {nd ks : List Nat} (hwf : S.wf) (hh : HeapOK S hp) : ∀ {xs : List AV} {ts : List TypeId} {ys : List AV} {vs : List Value} {c : List Prop} {kk : List Nat}, snaps P (restr hp nd) ts xs = some (ys, c, kk) → AllP c → vs.length = xs.length →
    (∀ i (h1 : i < vs.length) (h2 : i < xs.length), Rep S vs[i] xs[i]) → (∀ k, k ∈ kk → k ∈ ks) → RepIs S.w (S.lend ks).free vs ys
  | [], ts, ys, vs, c, kk, h, _, hl, _, _ => by
    unfold snaps at h
    cases h
    exact ⟨hl, fun i h1 h2 => absurd h2 (by simp)⟩
  | x :: xs, ts, ys, vs, c, kk, h, hc, hl, hr, hks => by
    unfold snaps at h
    split at h
    · next y c1 k1 ys' c2 k2 h1 h2 =>
      cases h
      obtain ⟨hc1, hc2⟩ := allP_append hc
      match vs, hl with
      | v :: vs, hl =>
        have a1 := snap_rep (P := P) hwf hh h1 hc1 (hr 0 (by simp) (by simp)) (fun k hk => hks k (List.mem_append_left _ hk))
        have a2 := snaps_rep hwf hh h2 hc2 (by simpa using hl) (fun i h1 h2 => hr (i + 1) (by simp; omega) (by simp; omega)) (fun k hk => hks k (List.mem_append_right _ hk))
        refine ⟨by simp [a2.1], fun i h1 h2 => ?_⟩
        cases i with
        | zero => exact a1
        | succ i => exact a2.2 i (by simpa using h1) (by simpa using h2)
    · cases h

theorem repI_agg {w : World} {U : Nat → Prop} {v : Value} {cs : List AV} (h : RepI w U v (.agg cs)) : ∃ arr, v = .agg arr ∧ arr.size = cs.length ∧ ∀ i (hi : i < cs.length), RepI w U (arr.getD i undef) cs[i] := by
  cases h with
  | agg arr _ hs hr => exact ⟨arr, rfl, hs, hr⟩

theorem flat1_any {w w' : World} {U U' : Nat → Prop} {v : Value} {x : AV} (h : RepI w U v x) (hf : flat1 x = true) : RepI w' U' v x := by
  cases h with
  | v _ hx => exact .v _ hx
  | fl _ _ _ hx => exact .fl _ _ _ hx
  | _ => cases hf

theorem flat_any {w w' : World} {U U' : Nat → Prop} {v : Value} {x : AV} (h : RepI w U v x) (hf : flat x = true) : RepI w' U' v x := by
  cases h with
  | v _ hx => exact .v _ hx
  | fl _ _ _ hx => exact .fl _ _ _ hx
  | agg arr cs hs hr => exact .agg arr cs hs fun i hi => flat1_any (hr i hi) (List.all_eq_true.1 hf _ (List.getElem_mem hi))
  | tup arr cs hs hr =>
    refine .tup arr cs hs fun i hi => ?_
    have h1 := List.all_eq_true.1 hf _ (List.getElem_mem hi)
    have h2 := hr i hi
    revert h1 h2
    generalize cs[i] = y
    intro h1 h2
    split at h1
    · obtain ⟨arr, he, hs, hr⟩ := repI_agg h2
      rw [he]
      exact .agg arr _ hs fun i hi => flat1_any (hr i hi) (List.all_eq_true.1 h1 _ (List.getElem_mem hi))
    · exact flat1_any h2 h1
  | _ => cases hf

theorem applyUpd_none (hp : List (Nat × AObj)) : ∀ (ks : List Nat) (k : Nat), look (applyUpd hp (ks.map fun k => (k, none))) k = if k ∈ ks then none else look hp k := by
  intro ks
  induction ks generalizing hp with
  | nil => intro k; simp [applyUpd]
  | cons j ks ih =>
    intro k
    simp only [List.map_cons, applyUpd]
    rw [ih, look_drop]
    by_cases h1 : k ∈ ks
    · simp [h1]
    · by_cases h2 : k = j
      · simp [h2]
      · simp [h1, h2]

/-- the call of a function by its contract -/
theorem callA_run {SG : List (FuncId × (List AV → Option (AV × List Prop)))} {S : St} {key : Nat} {hp : List (Nat × AObj)} {nd : List Nat} {f : AV} {vf : Value} {xs : List AV} {vs : List Value} {r : R} (hsg : SigsOK P SG) (hwf : S.wf) (hh : HeapOK S hp) (hr : callA P SG (restr hp nd) f xs = some r) (hc : AllP r.cond)
    (hf : Rep S vf f) (hl : vs.length = xs.length) (hx : ∀ i (h1 : i < vs.length) (h2 : i < xs.length), Rep S vs[i] xs[i]) :
    ∃ (g : FuncId) (fa ca : Array Value), vf = .func (.func g) fa ca ∧
    CalledTo P g (fa ++ vs.toArray ++ ca) S.w fun v w' => ∃ S', S'.w = w' ∧ Post S key (applyUpd hp r.upd) r.val v S' := by
  unfold callA at hr
  split at hr
  case h_2 => cases hr
  next g as bs =>
  split at hr
  case h_2 => cases hr
  next sig ys c kk hsig hsn =>
  split at hr
  case h_2 => cases hr
  next x c' hs =>
  split at hr
  case h_2 => cases hr
  next hpl =>
  cases hr
  obtain ⟨hc1, hc2⟩ := allP_append hc
  obtain ⟨fa, ca, rfl, e1, e2, e3, e4⟩ : ∃ fa ca, vf = .func (.func g) fa ca ∧ fa.size = as.length ∧ (∀ i (h : i < as.length), Rep S (fa.getD i undef) as[i]) ∧ ca.size = bs.length ∧ (∀ i (h : i < bs.length), Rep S (ca.getD i undef) bs[i]) := by
    cases hf with
    | fnv _ a b _ _ h1 h2 h3 h4 => exact ⟨a, b, rfl, h1, h2, h3, h4⟩
    | i _ _ h => cases h with | fnv _ a b _ _ h1 h2 h3 h4 => exact ⟨a, b, rfl, h1, fun i hi => .i _ _ (h2 i hi), h3, fun i hi => .i _ _ (h4 i hi)⟩
  refine ⟨g, fa, ca, rfl, ?_⟩
  have hargs : RepIs S.w (S.lend kk).free (fa.toList ++ vs ++ ca.toList) ys := by
    refine snaps_rep (P := P) hwf hh hsn hc1 (by simp [e1, e3, hl]) (fun i h1 h2 => ?_) (fun k h => h)
    have arrGet : ∀ (a : Array Value) (j : Nat) (h : j < a.size), a.toList[j]'(by simpa using h) = a.getD j undef := fun a j h => by
      rw [Array.getD_eq_getD_getElem?, Array.getElem?_eq_getElem h]; simp
    simp only [List.getElem_append, Array.length_toList, List.length_append]
    by_cases h3 : i < as.length
    · rw [dif_pos (by omega), dif_pos (by omega), dif_pos (by omega), dif_pos h3, arrGet _ _ (by omega)]
      exact e2 i h3
    · by_cases h4 : i < as.length + xs.length
      · rw [dif_pos (by omega), dif_neg (by omega), dif_pos h4, dif_neg h3]
        have := hx (i - fa.size) (by omega) (by omega)
        simpa [e1] using this
      · rw [dif_neg (by omega), dif_neg h4, arrGet _ _ (by simp at h1; omega)]
        have := e4 (i - (fa.size + vs.length)) (by simp at h2; omega)
        have he : fa.size + vs.length = as.length + xs.length := by omega
        simpa [he] using this
  have hcall := hsg g sig hsig ys x c' hs hc2 { S.lend kk with live := fun k => S.live k ∧ k ∉ kk } (fa.toList ++ vs ++ ca.toList) (lend_wf hwf) hargs
  have harr : (fa.toList ++ vs ++ ca.toList).toArray = fa ++ vs.toArray ++ ca := by
    apply Array.ext'
    simp
  rw [harr] at hcall
  -- what is left behind the call
  have post : ∀ v w', Grows S.w w' ∧ RepI w' (S.lend kk).free v x → ∃ S', S'.w = w' ∧ Post S key (applyUpd hp (match flat x with | true => [] | false => kk.map fun k => (k, none))) x v S' := by
    rintro v w' ⟨hg, hrep⟩
    cases hfl : flat x with
    | true => exact ⟨S.at w', rfl, wf_at hg hwf, ext_at hg hwf, fun k h => .inl h, .i _ _ (flat_any hrep hfl), heap_at hg hwf hh⟩
    | false =>
      refine ⟨S.drop kk w', rfl, drop_wf hwf hg, drop_ext hwf hg, fun k h => .inl h, .i _ _ hrep, fun k o hk => ?_⟩
      rw [applyUpd_none] at hk
      split at hk
      · cases hk
      · next hn =>
        obtain ⟨h1, h2, h3⟩ := hh k o hk
        exact ⟨h1, ⟨h2, hn⟩, h3.same (drop_ext hwf hg) (drop_same hwf hg hn)⟩
  unfold CalledTo at hcall ⊢
  show (match (callFunc g (fa ++ vs.toArray ++ ca)).run P S.w with | .ok (.value v) w' => _ | .ok (.enter g args) w' => _ | _ => False)
  revert hcall
  show (match (callFunc g (fa ++ vs.toArray ++ ca)).run P S.w with | .ok (.value v) w' => _ | .ok (.enter g args) w' => _ | _ => False) → _
  cases (callFunc g (fa ++ vs.toArray ++ ca)).run P S.w with
  | halt x w' => exact fun h => h
  | ok n w' =>
    cases n with
    | value v => exact fun h => post v w' h
    | enter f args => exact fun h => ⟨h.1, h.2.mono fun e w'' ⟨v, he, hv⟩ => ⟨v, he, post v w'' hv⟩⟩
    | _ => exact fun h => h

end
end Go.Ev
