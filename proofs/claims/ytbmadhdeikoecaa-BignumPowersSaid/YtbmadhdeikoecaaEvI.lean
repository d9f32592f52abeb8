/- New variables, aggregates, new slices. -/
import Derived.Test.YtbmadhdeikoecaaEvH
namespace Go.Ev

section
variable {P : Program}

theorem zeroCells_spec {t : TypeId} {z : List AV} (h : zeroCellsA P t = some z) : ∃ v, (∀ w, (zeroValue t).run P w = .ok v w) ∧ v.cells.size = z.length ∧ ∀ i (hi : i < z.length), ∃ u, v.cells.getD i undef = u ∧ z[i] = .v u ∧ okV u := by
  unfold zeroCellsA at h
  split at h
  · next zv hz =>
    split at h
    · next hall =>
      cases h
      cases hi : P.info? t with
      | none => rw [hi] at hz; cases hz
      | some info =>
        rw [hi] at hz
        have hz' : info.zero = some zv := hz
        refine ⟨zv, fun w => by simp [zeroValue, typeInfo, hi, hz'], by simp, fun i hi2 => ?_⟩
        have hi3 : i < zv.cells.size := by simpa using hi2
        refine ⟨zv.cells[i], ?_, by simp, ?_⟩
        · rw [Array.getD_eq_getD_getElem?, Array.getElem?_eq_getElem hi3]; rfl
        · exact okV_of_scalar (List.all_eq_true.1 hall zv.cells[i] (by simp))
    · cases h
  · cases h

theorem new_cells {S : St} {key : Nat} {T : TypeId} {v : Value} {cs : List AV} {hp : List (Nat × AObj)} (hwf : S.wf) (hh : HeapOK S hp) (hkey : ¬ S.used key) (hs : v.cells.size = cs.length) (hr : ∀ i (hi : i < cs.length), Rep S (v.cells.getD i undef) cs[i]) :
    Post S key (applyUpd hp [(key, some (.cells T cs))]) (.ptr key 0) (.pointer (some ⟨S.w.heap.size, 0, none⟩)) (S.new key false S.w v.cells T 0 0) := by
  have hg := Grows.refl S.w
  have e := new_ext (row := false) (arr := v.cells) (T := T) (n := 0) (sz := 0) hwf hg hkey
  refine ⟨new_wf hwf hg hkey, e, fun k h => h.elim .inr .inl, .ptr _ _ _ (.inl rfl) (fun _ => ⟨upd_self _ _ _, _, upd_self _ _ _, rfl⟩) ⟨_, rfl⟩, new_heap hwf hg hkey hh ⟨upd_self _ _ _, _, v.cells, upd_self _ _ _, upd_self _ _ _, alloc_new _ _, hs, fun i hi => (hr i hi).ext e⟩⟩

theorem run_newVar (t : TypeId) (v : Value) (w : World) : (newVar t v).run P w = .ok ⟨w.heap.size, 0, none⟩ (w.alloc (.cells v.cells t)) := by
  simp [newVar, newRow]

/-- parts laid into an aggregate -/
theorem fillA_run {S : St} {place : Nat → Option (Nat × Nat)} {vs : List (Nat × Value)} {xs : List (Nat × AV)} (hvx : vs.length = xs.length) (hr : ∀ i (h1 : i < vs.length) (h2 : i < xs.length), vs[i].1 = xs[i].1 ∧ Rep S vs[i].2 xs[i].2) :
    ∀ (arr : Array Value) (cs cs' : List AV), fillA place cs xs = some cs' → arr.size = cs.length → (∀ i (hi : i < cs.length), Rep S (arr.getD i undef) cs[i] ∧ okV (arr.getD i undef)) →
      ∃ arr', Instr.fill place arr vs = some arr' ∧ arr'.size = cs'.length ∧ cs'.length = cs.length ∧ ∀ i (hi : i < cs'.length), Rep S (arr'.getD i undef) cs'[i] ∧ okV (arr'.getD i undef) := by
  induction xs generalizing vs with
  | nil =>
    intro arr cs cs' h hs hrep
    cases vs with
    | cons _ _ => simp at hvx
    | nil => cases h; exact ⟨arr, rfl, hs, rfl, hrep⟩
  | cons x xs ih =>
    intro arr cs cs' h hs hrep
    cases vs with
    | nil => simp at hvx
    | cons v vs =>
    obtain ⟨j, y⟩ := x
    obtain ⟨j', u⟩ := v
    obtain ⟨rfl, hy⟩ := hr 0 (by simp) (by simp)
    replace hy : Rep S u y := hy
    simp only [fillA] at h
    split at h
    · cases h
    · next off size hpl =>
      split at h
      · next ys hst =>
        split at h
        · next cs2 hl =>
          obtain ⟨rfl, hj, hlen⟩ := stored_spec hst
          obtain ⟨rfl, hfit⟩ := lay_spec hl
          obtain ⟨c1, c2, c3⟩ := rep_cells hy hj
          have hpl' : place j' = some (off, size) := hpl
          have hfit' : off + u.cells.toList.length ≤ arr.toList.length := by simp; omega
          have hbad : ¬ (u.cells.size ≠ size ∨ off + u.cells.size > arr.size) := by
            have := hfit'
            simp at this
            omega
          -- what fill lays is the list with the other laid over it
          have hfold : (u.cells.zipIdx.foldl (fun cs (p : Value × Nat) => cs.setIfInBounds (off + p.2) p.1) arr) = (seg arr.toList off u.cells.toList).toArray := by
            have gen : ∀ (l : List Value) (n : Nat) (a : Array Value), off + n + l.length ≤ a.size → ((l.zipIdx n).foldl (fun cs (p : Value × Nat) => cs.setIfInBounds (off + p.2) p.1) a) = (seg a.toList (off + n) l).toArray := by
              intro l
              induction l with
              | nil => intro n a _; simp [seg]
              | cons w l ih =>
                intro n a hle
                simp only [List.length_cons] at hle
                rw [List.zipIdx_cons, List.foldl_cons, ih (n + 1) _ (by simp; omega)]
                congr 1
                apply List.ext_getElem?
                intro p
                rw [← Nat.add_assoc, seg_get _ _ _ (by simp; omega), seg_get _ _ _ (by simp; omega)]
                simp only [List.length_cons, Array.toList_setIfInBounds]
                by_cases hp : p = off + n
                · subst hp
                  rw [if_neg (by omega), if_pos (by omega), List.getElem?_set_self (by simp; omega), Nat.sub_self]
                  rfl
                · by_cases hp2 : off + n + 1 ≤ p ∧ p < off + n + 1 + l.length
                  · rw [if_pos hp2, if_pos (by omega)]
                    rw [show p - (off + n) = (p - (off + n + 1)) + 1 by omega, List.getElem?_cons_succ]
                  · rw [if_neg hp2, if_neg (by omega), List.getElem?_set_ne (by omega)]
            have := gen u.cells.toList 0 arr (by simp at hfit' ⊢; omega)
            simp only [Nat.add_zero] at this
            rw [← this, ← Array.foldl_toList, Array.toList_zipIdx]
          obtain ⟨arr', h1, h2, h3, h4⟩ := ih (vs := vs) (by simpa using hvx) (fun i h1 h2 => hr (i + 1) (by simp; omega) (by simp; omega)) (seg arr.toList off u.cells.toList).toArray (seg cs off y.cells) cs' h
            (by rw [List.size_toArray, seg_length _ _ _ hfit', seg_length _ _ _ hfit]; simpa using hs) (fun i hi => by
              rw [seg_length _ _ _ hfit] at hi
              have hl2 : u.cells.toList.length = y.cells.length := by simp; omega
              have hg := seg_get cs off y.cells hfit i
              have hget : (seg cs off y.cells)[i]'(by rw [seg_length _ _ _ hfit]; exact hi) = (if h : off ≤ i ∧ i < off + y.cells.length then y.cells[i - off]'(by omega) else cs[i]) := by
                apply Option.some.inj
                rw [← List.getElem?_eq_getElem, hg]
                split
                · exact List.getElem?_eq_getElem _
                · exact List.getElem?_eq_getElem _
              rw [hget, getD_of_get rfl, seg_get _ _ _ hfit', hl2]
              by_cases h : off ≤ i ∧ i < off + y.cells.length
              · rw [dif_pos h, if_pos h]
                have a1 := c2 (i - off) (by omega)
                have a2 := c3 (i - off) (by omega)
                rw [Array.getD_eq_getD_getElem?] at a1 a2
                refine ⟨?_, ?_⟩
                · simpa using a1
                · simpa using a2
              · rw [dif_neg h, if_neg h]
                obtain ⟨a1, a2⟩ := hrep i hi
                rw [Array.getD_eq_getD_getElem?] at a1 a2
                refine ⟨?_, ?_⟩
                · simpa using a1
                · simpa using a2)
          refine ⟨arr', ?_, h2, by rw [h3, seg_length _ _ _ hfit], h4⟩
          show (match place j' with | none => none | some (off, size) => _) = _
          rw [hpl']
          simp only
          have hbad' : (decide (u.cells.size ≠ size) || decide (off + u.cells.size > arr.size)) = false := by
            rw [Bool.or_eq_false_iff]
            constructor
            · exact decide_eq_false (fun h => hbad (.inl h))
            · exact decide_eq_false (fun h => hbad (.inr h))
          rw [hbad', if_neg (by simp), hfold]
          exact h1
        · cases h
      · cases h

theorem parts_map {α β : Type} (f : α → β) (parts : Array (Nat × α)) : (parts.map fun (i, x) => (i, f x)).toList = parts.toList.map fun p => (p.1, f p.2) := by
  rw [Array.toList_map]

theorem parts_rep {S : St} {n : Nat} {fr : List (Nat × AV)} {a : Act} (h : FrOK S n fr a.tmps) (parts : List (Nat × Operand)) :
    ∀ i (h1 : i < (parts.map fun p => (p.1, a.eval p.2)).length) (h2 : i < (parts.map fun p => (p.1, evalA fr p.2)).length),
      (parts.map fun p => (p.1, a.eval p.2))[i].1 = (parts.map fun p => (p.1, evalA fr p.2))[i].1 ∧ Rep S (parts.map fun p => (p.1, a.eval p.2))[i].2 (parts.map fun p => (p.1, evalA fr p.2))[i].2 := by
  intro i h1 h2
  simp only [List.getElem_map]
  exact ⟨trivial, rep_eval h _⟩

theorem places_run : ∀ (fs : List Field) (l : List (Nat × Nat)), placesA P fs = some l → ∀ w, (fs.mapM fun f => do pure (f.offset, ← sizeOf f.type) : Sem (List (Nat × Nat))).run P w = .ok l w
  | [], l, h, w => by cases h; simp
  | f :: r, l, h, w => by
    unfold placesA at h
    split at h
    · next s l' hs hl =>
      cases h
      have := places_run r l' hl w
      simp only [List.mapM_cons, Sem.run_bind, run_sizeOf hs, Result.andThen_ok, Sem.run_pure, this]
    · cases h

/-- a struct's or an array's literal -/
theorem build_run {S : St} {n : Nat} {fr : List (Nat × AV)} {a : Act} {t : TypeId} {parts : Array (Nat × Operand)} {z cs : List AV} (h : FrOK S n fr a.tmps) (hz : zeroCellsA P t = some z)
    (hb : buildA P t z (parts.toList.map fun p => (p.1, evalA fr p.2)) = some cs) (w : World) : ∃ v, (Instr.build t (parts.map fun (i, x) => (i, a.eval x))).run P w = .ok v w ∧ Rep S v (.agg cs) := by
  obtain ⟨zv, hzr, hzs, hzc⟩ := zeroCells_spec hz
  have p2 := parts_rep h parts.toList
  have p1 : (parts.toList.map fun p => (p.1, a.eval p.2)).length = (parts.toList.map fun p => (p.1, evalA fr p.2)).length := by simp
  have hzrep : ∀ i (hi : i < z.length), Rep S (zv.cells.getD i undef) z[i] ∧ okV (zv.cells.getD i undef) := fun i hi => by
    obtain ⟨u, h1, h2, h3⟩ := hzc i hi
    rw [h1, h2]
    exact ⟨.v h3, h3⟩
  unfold buildA at hb
  split at hb
  · next fields ht =>
    split at hb
    · next l hl =>
      obtain ⟨arr', h1, h2, _, h4⟩ := fillA_run p1 p2 zv.cells z cs hb hzs hzrep
      refine ⟨.agg arr', ?_, .agg _ _ h2 fun i hi => (h4 i hi).1⟩
      have hm : (fields.mapM fun f => do pure (f.offset, ← sizeOf f.type) : Sem (Array (Nat × Nat))).run P w = .ok l.toArray w := by
        rw [Array.mapM_eq_mapM_toList, Sem.run_map, places_run fields.toList l hl w]
        rfl
      simp only [Instr.build, Sem.run_bind, hzr, Result.andThen_ok, run_underlying ht]
      rw [hm]
      simp only [Result.andThen_ok, parts_map]
      have he : (fun (x : Nat) => (l.toArray[x]? : Option (Nat × Nat))) = fun (i : Nat) => l[i]? := by funext i; simp
      rw [he, h1]
      rfl
    · cases hb
  · next len e ht =>
    split at hb
    · next s hs =>
      obtain ⟨arr', h1, h2, _, h4⟩ := fillA_run p1 p2 zv.cells z cs hb hzs hzrep
      refine ⟨.agg arr', ?_, .agg _ _ h2 fun i hi => (h4 i hi).1⟩
      simp only [Instr.build, Sem.run_bind, hzr, Result.andThen_ok, run_underlying ht, run_sizeOf hs, parts_map, h1, Sem.run_pure]
    · cases hb
  · cases hb

theorem intsOf_spec {k : IntKind} : ∀ {l : List AV} {ns : List Int}, intsOf k l = some ns → ns.length = l.length ∧ ∀ i (h : i < l.length), l[i] = .v (.int k (ns.getD i 0))
  | [], ns, h => by cases h; exact ⟨rfl, fun i h => absurd h (by simp)⟩
  | x :: r, ns, h => by
    unfold intsOf at h
    split at h
    · next heq => cases heq
    · next k' n r heq =>
      cases heq
      split at h
      · next l hk hl =>
        cases h
        have := kindEq_eq hk
        subst this
        obtain ⟨h1, h2⟩ := intsOf_spec hl
        refine ⟨by simp [h1], fun i hi => ?_⟩
        cases i with
        | zero => rfl
        | succ i => simpa using h2 i (by simpa using hi)
      · cases h
    · cases h

theorem strsOf_spec : ∀ {l : List AV} {ns : List ByteArray}, strsOf l = some ns → ns.length = l.length ∧ ∀ i (h : i < l.length), l[i] = .v (.string (ns.getD i ByteArray.empty))
  | [], ns, h => by cases h; exact ⟨rfl, fun i h => absurd h (by simp)⟩
  | x :: r, ns, h => by
    unfold strsOf at h
    split at h
    · next heq => cases heq
    · next s r heq =>
      cases heq
      split at h
      · next l hl =>
        cases h
        obtain ⟨h1, h2⟩ := strsOf_spec hl
        refine ⟨by simp [h1], fun i hi => ?_⟩
        cases i with
        | zero => rfl
        | succ i => simpa using h2 i (by simpa using hi)
      · cases h
    · cases h

theorem seqOf_spec {d : Option TypeDesc} {l : List AV} {q : Seq AV} (h : seqOf d l = some q) : q.len = l.length ∧ ∀ i (hi : i < l.length), q.get i = l[i] := by
  unfold seqOf at h
  split at h
  · split at h
    · next ns hn =>
      cases h
      obtain ⟨h1, h2⟩ := intsOf_spec hn
      exact ⟨h1, fun i hi => (h2 i hi).symm⟩
    · cases h
  · split at h
    · next ns hn =>
      cases h
      obtain ⟨h1, h2⟩ := strsOf_spec hn
      exact ⟨h1, fun i hi => (h2 i hi).symm⟩
    · cases h
  · cases h
    exact ⟨rfl, fun i hi => by simp [Seq.get, hi]⟩

theorem chunk_length (sz : Nat) : ∀ (n : Nat) (l : List AV), (chunk sz n l).length = n
  | 0, _ => rfl
  | n + 1, l => by simp [chunk, chunk_length sz n]

theorem chunk_cells {sz : Nat} (hsz : 0 < sz) : ∀ (n : Nat) (l : List AV), n * sz ≤ l.length → (∀ x ∈ l, ∀ cs, x ≠ .agg cs) → ∀ i (hi : i < (chunk sz n l).length), (chunk sz n l)[i].cells = (l.drop (i * sz)).take sz
  | 0, l, _, _, i, hi => absurd hi (by simp [chunk])
  | n + 1, l, hl, hx, i, hi => by
    rw [Nat.add_mul, Nat.one_mul] at hl
    cases i with
    | zero =>
      simp only [chunk, List.getElem_cons_zero, Nat.zero_mul, List.drop_zero]
      split
      · cases l with
        | nil => simp at hl
        | cons y ys =>
          simp only [List.headD_cons, List.take_succ_cons, List.take_zero]
          cases y with
          | agg cs => exact absurd rfl (hx _ (by simp) cs)
          | _ => rfl
      · rfl
    | succ i =>
      simp only [chunk, List.getElem_cons_succ]
      rw [chunk_cells hsz n (l.drop sz) (by simp; omega) (fun x h => hx x (List.mem_of_mem_drop h)) i (by simpa [chunk] using hi), List.drop_drop]
      congr 2
      rw [Nat.add_mul, Nat.one_mul, Nat.add_comm]

/-- a slice over cells that are laid together -/
theorem chunk_rep {S : St} {sz n : Nat} {arr : Array Value} {cells : List AV} {d : Option TypeDesc} {q : Seq AV} (hsz : 0 < sz) (hl : cells.length = n * sz) (hr : ∀ i (hi : i < cells.length), Rep S (arr.getD i undef) cells[i] ∧ okV (arr.getD i undef)) (hq : seqOf d (chunk sz n cells) = some q) :
    q.len = n ∧ (∀ i, i < n → (q.get i).cells.length = sz) ∧ ∀ i j, i < n → ∀ h : j < (q.get i).cells.length, Rep S (arr.getD (i * sz + j) undef) ((q.get i).cells[j]) ∧ okV (arr.getD (i * sz + j) undef) ∧ (q.get i).cells[j] ∈ cells := by
  have hx : ∀ x ∈ cells, ∀ cs, x ≠ .agg cs := by
    intro x hx cs he
    obtain ⟨i, hi, rfl⟩ := List.getElem_of_mem hx
    obtain ⟨h1, h2⟩ := hr i hi
    rw [he] at h1
    obtain ⟨a, ha, _⟩ := rep_agg h1
    rw [ha] at h2
    exact h2
  obtain ⟨h1, h2⟩ := seqOf_spec hq
  rw [chunk_length] at h1
  have hc : ∀ i, i < n → (q.get i).cells = (cells.drop (i * sz)).take sz := fun i hi => by
    rw [h2 i (by rw [chunk_length]; exact hi)]
    exact chunk_cells hsz n cells (by omega) hx i (by rw [chunk_length]; exact hi)
  have hb : ∀ i, i < n → i * sz + sz ≤ cells.length := fun i hi => by
    have : (i + 1) * sz ≤ n * sz := Nat.mul_le_mul_right _ hi
    rw [Nat.add_mul, Nat.one_mul] at this
    omega
  refine ⟨h1, fun i hi => ?_, fun i j hi hj => ?_⟩
  · rw [hc i hi]
    have := hb i hi
    simp
    omega
  · have he := hc i hi
    have hj2 : j < sz := by rw [he] at hj; simp at hj; omega
    have := hb i hi
    have hlt : i * sz + j < cells.length := by omega
    have hcell : (q.get i).cells[j] = cells[i * sz + j] := by simp [he]
    rw [hcell]
    exact ⟨(hr _ hlt).1, (hr _ hlt).2, List.getElem_mem _⟩

theorem getElem!_of {l : Array Value} {i : Nat} (h : i < l.size) : l[i]! = l.getD i undef := by
  rw [Array.getD_eq_getD_getElem?, Array.getElem?_eq_getElem h]
  simp [h]

/-- zeros laid one behind the other -/
theorem zeros_rep {S : St} {z : List AV} {zv : Value} {sz : Nat} (hsz : 0 < sz) (hz : z.length = sz) (hzs : zv.cells.size = z.length) (hzc : ∀ i (hi : i < z.length), ∃ u, zv.cells.getD i undef = u ∧ z[i] = .v u ∧ okV u) (n : Nat) :
    (madeCells zv.cells (n * sz)).size = ((List.replicate n z).flatten).length ∧ ((List.replicate n z).flatten).length = n * sz ∧
    ∀ i (hi : i < ((List.replicate n z).flatten).length), Rep S ((madeCells zv.cells (n * sz)).getD i undef) ((List.replicate n z).flatten)[i] ∧ okV ((madeCells zv.cells (n * sz)).getD i undef) := by
  have hlen : ((List.replicate n z).flatten).length = n * sz := by simp [hz]
  have hget : ∀ (n i : Nat), i < n * sz → ((List.replicate n z).flatten)[i]? = z[i % sz]? := by
    intro n
    induction n with
    | zero => intro i hi; simp at hi
    | succ n ih =>
      intro i hi
      rw [List.replicate_succ, List.flatten_cons, List.getElem?_append]
      by_cases h : i < z.length
      · rw [if_pos h, Nat.mod_eq_of_lt (by omega)]
      · rw [if_neg h, ih _ (by rw [Nat.add_mul] at hi; omega), hz, ← Nat.mod_eq_sub_mod (by omega)]
  refine ⟨by rw [size_madeCells, hlen], hlen, fun i hi => ?_⟩
  have hi2 : i < n * sz := by omega
  have hm : i % sz < z.length := by rw [hz]; exact Nat.mod_lt _ hsz
  obtain ⟨u, h1, h2, h3⟩ := hzc (i % sz) hm
  have e1 : ((List.replicate n z).flatten)[i] = .v u := by
    apply Option.some.inj
    rw [← List.getElem?_eq_getElem, hget n i hi2, List.getElem?_eq_getElem hm, h2]
  have e2 : (madeCells zv.cells (n * sz)).getD i undef = u := by
    rw [Array.getD_eq_getD_getElem?, madeCells, Array.getElem?_map, Array.getElem?_range, if_pos hi2]
    simp only [Option.map_some, Option.getD_some]
    rw [hzs, hz, getElem!_of (by rw [hzs]; exact hm), h1]
  rw [e1, e2]
  exact ⟨.v h3, h3⟩

/-- a new own row -/
theorem new_row {S : St} {key : Nat} {w : World} {arr : Array Value} {T : TypeId} {sz n cap : Nat} {q : Seq AV} {tt : Bool} {hp : List (Nat × AObj)} (hwf : S.wf) (hg : Grows S.w w) (hh : HeapOK S hp) (hkey : ¬ S.used key) (hsz : 0 < sz) (hn : q.len = n) (hcap : n ≤ cap) (hct : tt = true → cap = n)
    (harr : cap * sz ≤ arr.size) (hlen : ∀ i, i < n → (q.get i).cells.length = sz)
    (hr : ∀ i j, i < n → ∀ h : j < (q.get i).cells.length, Rep S (arr.getD (i * sz + j) undef) ((q.get i).cells[j]) ∧ okV (arr.getD (i * sz + j) undef)) :
    Post S key (applyUpd hp [(key, some (.row T sz q 0))]) (.row key 0 n n tt) (.slice (some ⟨w.heap.size, 0, none⟩) n cap) (S.new key true w arr T n sz) := by
  have e := new_ext (row := true) (arr := arr) (T := T) (n := n) (sz := sz) hwf hg hkey
  have hcur : (S.new key true w arr T n sz).cur key = some w.heap.size := upd_self _ _ _
  have hlen' : (S.new key true w arr T n sz).len key = n := upd_self _ _ _
  have hsz' : (S.new key true w arr T n sz).sz key = sz := upd_self _ _ _
  have hown : (S.new key true w arr T n sz).own w.heap.size = some (some key) := upd_self _ _ _
  have hheap : (S.new key true w arr T n sz).w.heap[w.heap.size]? = some (.cells arr T (0, 0)) := alloc_new _ _
  have hns : n * sz ≤ arr.size := Nat.le_trans (Nat.mul_le_mul_right _ hcap) harr
  refine ⟨new_wf hwf hg hkey, e, fun k h => h.elim .inr .inl, .row _ _ _ _ _ _ (.inl rfl) (fun _ => ⟨upd_self _ _ _, _, _, rfl, by omega, by rw [hlen']; omega, hcap, hct, fun h0 => ⟨_, rfl, fun _ => ⟨hown, fun _ => by rw [Nat.zero_mul], fun j hj => ?_⟩⟩, fun _ => ?_⟩) ⟨_, _, rfl, (fun h => by cases h)⟩,
    new_heap hwf hg hkey hh ⟨upd_self _ _ _, hsz', hsz, by rw [hlen', hn], upd_self _ _ _, Nat.zero_le _, fun i hi => hlen i (by omega), ?_⟩⟩
  · rw [hsz'] at hj
    rw [addr_add, Nat.zero_mul]
    unfold curCell
    rw [hcur]
    simp only [cell_arr hheap]
    exact ⟨trivial, by simp; omega⟩
  · rw [hcur]
    refine ⟨fun _ => by rw [Nat.zero_mul], ?_⟩
    rw [blockSize_of hheap, hsz', Nat.zero_add]
    exact harr
  · rw [hcur]
    exact ⟨hown, arr, hheap, by rw [hn]; exact hns, fun i j hi hj => ⟨(hr i j (by omega) hj).1.ext e, (hr i j (by omega) hj).2⟩⟩

/-- plain cells have no own keys -/
theorem plain1_rep {S : St} {v : Value} {x : AV} (h : Rep S v x) (hp : plain1 x = true) : RepI S.w S.free v x := by
  cases h with
  | i _ _ h => exact h
  | junk => cases hp
  | agg => cases hp
  | tup => cases hp
  | row => cases hp
  | rp => cases hp
  | ptr => cases hp
  | fnv => cases hp
  | ifc => cases hp

theorem repI_at {S : St} {w : World} (hg : Grows S.w w) {v : Value} {x : AV} (h : RepI S.w S.free v x) : RepI w S.free v x :=
  h.ext fun b hb hU => ⟨hg.block b hb, hU⟩

/-- a new block of which nothing is said but what it holds -/
theorem new_sl {S : St} {w : World} {arr : Array Value} {T : TypeId} {sz n cap : Nat} {q : Seq AV} {tt : Bool} {fr : Nat × Nat} (hwf : S.wf) (hg : Grows S.w w) (hsz : 0 < sz) (hn : q.len = n) (hcap : n ≤ cap) (hct : tt = true → cap = n)
    (harr : n * sz ≤ arr.size) (hlen : ∀ i, i < n → (q.get i).cells.length = sz)
    (hr : ∀ i j, i < n → ∀ h : j < (q.get i).cells.length, RepI S.w S.free (arr.getD (i * sz + j) undef) ((q.get i).cells[j]) ∧ okV (arr.getD (i * sz + j) undef)) :
    Rep (S.at (w.alloc (.cells arr T fr))) (.slice (some ⟨w.heap.size, 0, none⟩) n cap) (.sl sz q tt) := by
  have hg2 : Grows S.w (w.alloc (.cells arr T fr)) := hg.trans (alloc_grows _ _)
  refine .i _ _ (.sl _ _ _ _ _ _ (fun i j => arr.getD (i * sz + j) undef) hn.symm (by omega) (fun h => by rw [hn]; exact hct h) hsz (fun _ => ?_) (fun i hi => hlen i (by omega)) (fun i j hi hj => ⟨?_, (hr i j (by omega) (by rw [hlen i (by omega)]; exact hj)).2⟩) (fun i j hi hj => ?_))
  · show S.own w.heap.size = none
    cases ho : S.own w.heap.size with
    | none => rfl
    | some o => have := hwf.bound _ _ ho; have := hg.size; omega
  · have hlt : i * sz + j < arr.size := by
      have : (i + 1) * sz ≤ n * sz := Nat.mul_le_mul_right _ (by omega)
      rw [Nat.add_mul, Nat.one_mul] at this
      omega
    show (w.alloc _).cell? _ = _
    rw [addr_add, Nat.zero_add, cell_arr (alloc_new w _), Array.getElem?_eq_getElem hlt, Array.getD_eq_getD_getElem?, Array.getElem?_eq_getElem hlt]
    rfl
  · exact repI_at hg2 (hr i j (by omega) hj).1

theorem buildSlice_run {S : St} {key : Nat} {hint : Option Hint} {n : Nat} {fr : List (Nat × AV)} {a : Act} {t : TypeId} {len : Nat} {parts : Array (Nat × Operand)} {hp : List (Nat × AObj)} {r : R} (hwf : S.wf) (hh : HeapOK S hp) (hkey : ¬ S.used key) (h : FrOK S n fr a.tmps)
    (hb : buildSliceA P key hint t len (parts.toList.map fun p => (p.1, evalA fr p.2)) = some r) : ∃ v S', (Instr.buildSlice t len (parts.map fun (i, x) => (i, a.eval x))).run P S.w = .ok v S'.w ∧ Post S key (applyUpd hp r.upd) r.val v S' := by
  unfold buildSliceA at hb
  split at hb
  · cases hb
  next e he =>
  have ht := elemOf_spec he
  split at hb
  case h_2 => cases hb
  next sz z hs hz =>
  split at hb
  case h_2 => cases hb
  next cells hchk hfill =>
  simp only [Bool.and_eq_true] at hchk
  have hle := Nat.le_of_ble_eq_true hchk.1
  have hzl := Nat.eq_of_beq_eq_true hchk.2
  split at hb
  case h_2 => cases hb
  next q hq =>
  obtain ⟨zv, hzr, hzs, hzc⟩ := zeroCells_spec hz
  obtain ⟨z1, z2, z3⟩ := zeros_rep (S := S) (Nat.succ_pos sz) hzl hzs hzc len
  have p2 := parts_rep h parts.toList
  have p1 : (parts.toList.map fun p => (p.1, a.eval p.2)).length = (parts.toList.map fun p => (p.1, evalA fr p.2)).length := by simp
  obtain ⟨arr, f1, f2, f3, f4⟩ := fillA_run p1 p2 _ _ _ hfill z1 z3
  have hcl : cells.length = len * (sz + 1) := by rw [f3, z2]
  obtain ⟨q1, q2, q3⟩ := chunk_rep (Nat.succ_pos sz) hcl f4 hq
  have hrun : (Instr.buildSlice t len (parts.map fun (i, x) => (i, a.eval x))).run P S.w = .ok (.slice (some ⟨S.w.heap.size, 0, none⟩) len len) (S.w.alloc (.cells arr e)) := by
    have hnot : ¬ (len * (sz + 1) > 2 ^ 24) := by omega
    simp only [Instr.buildSlice, Sem.run_bind, run_underlying ht, Result.andThen_ok, run_sizeOf hs, if_neg hnot, Sem.run_pure, parts_map]
    by_cases h0 : len * (sz + 1) = 0
    · have hf : Instr.fill (fun i => some (i * (sz + 1), sz + 1)) (madeCells zv.cells 0) (parts.toList.map fun p => (p.1, a.eval p.2)) = some arr := by rw [h0] at f1; exact f1
      have he0 : madeCells zv.cells 0 = (#[] : Array Value) := by simp [madeCells]
      rw [he0] at hf
      have he1 : (Array.range 0).map ((#[] : Array Value)[· % (#[] : Array Value).size]!) = #[] := by simp
      simp only [h0, if_true, Sem.run_bind, Sem.run_pure, Result.andThen_ok, he1, Nat.succ_eq_add_one, hf]
      simp [newRow]
    · have hf : Instr.fill (fun i => some (i * (sz + 1), sz + 1)) ((Array.range (len * (sz + 1))).map (zv.cells[· % zv.cells.size]!)) (parts.toList.map fun p => (p.1, a.eval p.2)) = some arr := f1
      simp only [h0, if_false, Sem.run_bind, hzr, Result.andThen_ok, Sem.run_pure, hf, newRow, run_newObj]
      rfl
  split at hb
  · cases hb
    refine ⟨.slice (some ⟨S.w.heap.size, 0, none⟩) len len, S.new key true S.w arr e len (sz + 1), hrun, ?_⟩
    · have := new_row (T := e) (tt := true) hwf (Grows.refl S.w) hh hkey (Nat.succ_pos sz) q1 (Nat.le_refl len) (fun _ => rfl) (arr := arr) (by omega) q2 (fun i j hi hj => ⟨(q3 i j hi hj).1, (q3 i j hi hj).2.1⟩)
      simp only [q1]
      exact this
  · split at hb
    · next hall =>
      cases hb
      refine ⟨_, S.at (S.w.alloc (.cells arr e)), hrun, wf_at (alloc_grows _ _) hwf, ext_at (alloc_grows _ _) hwf, fun k h => .inl h, ?_, heap_at (alloc_grows _ _) hwf hh⟩
      refine new_sl hwf (Grows.refl S.w) (Nat.succ_pos sz) q1 (Nat.le_refl _) (fun _ => rfl) (by omega) q2 (fun i j hi hj => ⟨plain1_rep (q3 i j hi hj).1 (List.all_eq_true.1 hall _ (q3 i j hi hj).2.2), (q3 i j hi hj).2.1⟩)
    · cases hb

theorem seqZero_spec {d : Option TypeDesc} {n : Nat} {z : AV} {q : Seq AV} (h : seqZero d n z = some q) : q.len = n ∧ ∀ i, i < n → q.get i = z := by
  unfold seqZero at h
  split at h
  · split at h
    · next hk =>
      cases h
      have := kindEq_eq hk
      subst this
      exact ⟨by simp [Seq.len], fun i hi => by simp [Seq.get, hi]⟩
    · cases h
  · cases h
    exact ⟨by simp [Seq.len], fun i hi => by simp [Seq.get, hi]⟩
  · cases h
  · cases h
  · cases h
    exact ⟨by simp [Seq.len], fun i hi => by simp [Seq.get, hi]⟩

theorem bytesA_spec {t : TypeId} {b sz : Nat} (h : bytesA P t = some b) (hs : sizeA P t = some sz) : ∃ i, P.info? t = some i ∧ i.bytes = b ∧ i.size = sz := by
  unfold bytesA at h
  unfold sizeA at hs
  cases hi : P.info? t with
  | none => rw [hi] at h; cases h
  | some i =>
    rw [hi] at h hs
    cases h
    cases hs
    exact ⟨i, rfl, rfl, rfl⟩

theorem zero_of {t : TypeId} {z : List AV} (h : zeroCellsA P t = some z) : ∃ i v, P.info? t = some i ∧ i.zero = some v ∧ (∀ w, (zeroValue t).run P w = .ok v w) := by
  unfold zeroCellsA at h
  split at h
  · next zv hz =>
    cases hi : P.info? t with
    | none => rw [hi] at hz; cases hz
    | some info =>
      rw [hi] at hz
      exact ⟨info, zv, rfl, hz, fun w => by simp [zeroValue, typeInfo, hi, show info.zero = some zv from hz]⟩
  · cases h

theorem makeSlice_run {S : St} {key : Nat} {t : TypeId} {l c : AV} {vl vc : Value} {hp : List (Nat × AObj)} {r : R} (hwf : S.wf) (hh : HeapOK S hp) (hkey : ¬ S.used key) (hl : Rep S vl l) (hc : Rep S vc c)
    (hr : makeSliceA P key t l c = some r) (hcond : AllP r.cond) : ∃ v S', (Instr.makeSlice t vl vc).run P S.w = .ok v S'.w ∧ Post S key (applyUpd hp r.upd) r.val v S' := by
  unfold makeSliceA at hr
  split at hr
  case h_2 => cases hr
  next e k n k' m he =>
  obtain ⟨rfl, _⟩ := rep_v hl
  obtain ⟨rfl, _⟩ := rep_v hc
  have ht := elemOf_spec he
  split at hr
  case h_2 => cases hr
  next sz bytes z hs hb hz =>
  split at hr
  case h_2 => cases hr
  next q hbeq hq =>
  cases hr
  obtain ⟨⟨h0, h1⟩, ⟨h2, h3⟩, _⟩ := hcond
  have hzl := Nat.eq_of_beq_eq_true hbeq
  obtain ⟨i, hi, hib, his⟩ := bytesA_spec hb hs
  obtain ⟨i', zv, hi', hiz, hzr⟩ := zero_of hz
  rw [hi] at hi'
  cases hi'
  obtain ⟨zv', hzr', hzs, hzc⟩ := zeroCells_spec hz
  have hzz : zv' = zv := by
    have := (hzr' S.w).symm.trans (hzr S.w)
    injection this
  subst hzz
  have hrun := run_make (P := P) S.w t e i zv' ht hi hiz k k' n m h0 h1 (by rw [hib, Int.mul_comm]; exact h2) h3
  rw [his] at hrun
  obtain ⟨q1, q2⟩ := seqZero_spec hq
  have hcells : ∀ i, i < n.toNat → (q.get i).cells = z := fun i hi => by
    rw [q2 i hi]
    split
    · next y hy => 
      obtain ⟨u, _, hu, hok⟩ := hzc 0 (by simp)
      simp only [List.getElem_cons_zero] at hu
      subst hu
      cases u <;> first | rfl | exact hok.elim
    · rfl
  have hge : n.toNat ≤ m.toNat := by omega
  refine ⟨_, S.new key true S.w (madeCells zv'.cells (m.toNat * (sz + 1))) e n.toNat (sz + 1), hrun, ?_⟩
  refine new_row hwf (Grows.refl S.w) hh hkey (Nat.succ_pos sz) q1 hge (fun h => by cases h) (by rw [size_madeCells]; exact Nat.le_refl _) (fun i hi => by rw [hcells i hi]; exact hzl) (fun i j hi hj => ?_)
  have he := hcells i hi
  have hj2 : j < z.length := by rw [he] at hj; exact hj
  obtain ⟨u, a1, a2, a3⟩ := hzc j hj2
  have e1 : (q.get i).cells[j] = .v u := by simp [he, a2]
  have hlt : i * (sz + 1) + j < m.toNat * (sz + 1) := by
    have : (i + 1) * (sz + 1) ≤ m.toNat * (sz + 1) := Nat.mul_le_mul_right _ (by omega)
    rw [Nat.add_mul, Nat.one_mul] at this
    omega
  have hmod : (i * (sz + 1) + j) % (sz + 1) = j := by
    rw [Nat.mul_comm, Nat.mul_add_mod]
    exact Nat.mod_eq_of_lt (by omega)
  have e2 : (madeCells zv'.cells (m.toNat * (sz + 1))).getD (i * (sz + 1) + j) undef = u := by
    rw [Array.getD_eq_getD_getElem?, madeCells, Array.getElem?_map, Array.getElem?_range, if_pos hlt]
    simp only [Option.map_some, Option.getD_some]
    rw [hzs, hzl, hmod, getElem!_of (by omega), a1]
  rw [e1, e2]
  exact ⟨.v a3, a3⟩

end
end Go.Ev
