/- Stores. -/
import Derived.Test.YtbmadhdeikoecaaEvG
namespace Go.Ev

/-- a list with others laid over it -/
def seg {α : Type} (l : List α) (o : Nat) (vs : List α) : List α := l.take o ++ vs ++ l.drop (o + vs.length)

theorem seg_length {α : Type} (l : List α) (o : Nat) (vs : List α) (h : o + vs.length ≤ l.length) : (seg l o vs).length = l.length := by
  simp [seg]
  omega

theorem seg_get {α : Type} (l : List α) (o : Nat) (vs : List α) (h : o + vs.length ≤ l.length) (p : Nat) : (seg l o vs)[p]? = if o ≤ p ∧ p < o + vs.length then vs[p - o]? else l[p]? := by
  unfold seg
  rw [List.append_assoc, List.getElem?_append]
  have ho : (l.take o).length = o := by simp; omega
  rw [ho]
  by_cases h1 : p < o
  · rw [if_pos h1, if_neg (by omega), List.getElem?_take, if_pos h1]
  · rw [if_neg h1, List.getElem?_append]
    by_cases h2 : p - o < vs.length
    · rw [if_pos h2, if_pos (by omega)]
    · rw [if_neg h2, if_neg (by omega), List.getElem?_drop]
      congr 1
      omega

theorem lay_spec {cs xs ys : List AV} {o : Nat} (h : lay cs o xs = some ys) : ys = seg cs o xs ∧ o + xs.length ≤ cs.length := by
  unfold lay at h
  split at h
  · next hb => cases h; exact ⟨rfl, Nat.le_of_ble_eq_true hb⟩
  · cases h

theorem getD_of_get {l : List Value} {arr : Array Value} (h : arr = l.toArray) (i : Nat) : arr.getD i undef = (l[i]?).getD undef := by
  subst h
  simp [Array.getD_eq_getD_getElem?]

theorem seqSet_spec {q q' : Seq AV} {i : Nat} {x : AV} (h : q.set i x = some q') (hi : i < q.len) : q'.len = q.len ∧ q'.get i = x ∧ ∀ j, j ≠ i → q'.get j = q.get j := by
  unfold Seq.set at h
  split at h
  · next k l k' n =>
    split at h
    · next hk =>
      cases h
      have := kindEq_eq hk
      subst this
      have hi' : i < l.length := hi
      refine ⟨by simp [Seq.len], by simp [Seq.get, hi'], fun j hj => ?_⟩
      simp [Seq.get, Ne.symm hj]
    · cases h
  · next l s =>
    cases h
    have hi' : i < l.length := hi
    refine ⟨by simp [Seq.len], by simp [Seq.get, hi'], fun j hj => ?_⟩
    simp [Seq.get, Ne.symm hj]
  · next x l =>
    cases h
    have hi' : i < l.length := hi
    refine ⟨by simp [Seq.len], by simp [Seq.get, hi'], fun j hj => ?_⟩
    simp [Seq.get, Ne.symm hj]
  · cases h

section
variable {P : Program}

theorem run_storeVar {t : TypeId} {sz : Nat} (hs : sizeA P t = some sz) {w : World} {b o : Nat} {arr : Array Value} {T : TypeId} (hh : w.heap[b]? = some (.cells arr T (0, 0))) {v : Value} (hv : v.cells.size = sz) (hfit : o + sz ≤ arr.size)
    (h1 : ∀ i, i < v.cells.size → okV (v.cells.getD i undef)) : (Instr.storeAt t (.pointer (some ⟨b, o, none⟩)) v).run P w = .ok () (w.setRow b (seg arr.toList o v.cells.toList).toArray) := by
  have hst := run_storeCells_at P b o T v.cells.toList 0 arr w hh (by simp; omega) (fun x hx => by
    obtain ⟨i, hi, rfl⟩ := List.getElem_of_mem hx
    have hi' : i < v.cells.size := by simpa using hi
    have := h1 i hi'
    rw [Array.getD_eq_getD_getElem?, Array.getElem?_eq_getElem hi'] at this
    simpa using okV_one this)
  simp only [Instr.storeAt, Instr.sureAddr, Sem.run_bind, Sem.run_pure, Result.andThen_ok, storeVar, run_sizeOf hs, hv, ne_eq, not_true_eq_false, if_false]
  simpa [seg] using hst

theorem storeA_run {S : St} {key : Nat} {hp : List (Nat × AObj)} {ks : List Nat} {t : TypeId} {a x : AV} {va vx : Value} {r : R} (hwf : S.wf) (hh : HeapOK S hp) (hr : storeA P (restr hp ks) t a x = some r) (hc : AllP r.cond) (ha : Rep S va a) (hx : Rep S vx x) :
    ∃ S', (Instr.storeAt t va vx).run P S.w = .ok () S'.w ∧ Post S key (applyUpd hp r.upd) r.val undef S' := by
  unfold storeA at hr
  split at hr
  · cases hr
  next sz hs =>
  split at hr
  · cases hr
  next xs hxs =>
  obtain ⟨rfl, hj, hlen⟩ := stored_spec hxs
  obtain ⟨hc1, hc2, hc3⟩ := rep_cells hx hj
  have hvs : vx.cells.size = sz := by omega
  split at hr
  · next k off =>
    split at hr
    · next T cs hk =>
      split at hr
      · next cs' hl =>
        cases hr
        obtain ⟨rfl, hfit⟩ := lay_spec hl
        obtain ⟨hu, hlive, hobj⟩ := hh _ _ (restr_look hk)
        have hptr : PtrOK S va k off := by cases ha with | i _ _ h => cases h | ptr _ _ _ _ hp _ => exact hp hlive
        obtain ⟨hrow, b, hb, rfl⟩ := hptr
        obtain ⟨_, b', arr, hb', ho, hheap, hsz, hrep⟩ := hobj
        rw [hb] at hb'
        cases hb'
        have hrun := run_storeVar (P := P) hs hheap hvs (by omega) (fun i hi => hc3 i (by omega)) (o := off)
        have hfit' : off + vx.cells.toList.length ≤ arr.toList.length := by simp; omega
        have e : Ext S (S.set k b (seg arr.toList off vx.cells.toList).toArray (S.len k) (S.floor k)) :=
          set_ext hwf ho fun _ => ⟨(fun _ _ _ _ _ h => by have := h.1; rw [hrow] at this; cases this), (fun _ _ _ _ h => by have := h.1; rw [hrow] at this; cases this)⟩
        refine ⟨_, hrun, set_wf hwf, e, fun j h => .inl h, .junk _, set_heap e ho hh hu hlive ⟨hrow, b, _, hb, ho, setRow_heap _ _ _ _ _ _ hheap, ?_, fun i hi => ?_⟩⟩
        · rw [List.size_toArray, seg_length _ _ _ hfit', seg_length _ _ _ hfit]
          simpa using hsz
        · rw [seg_length _ _ _ hfit] at hi
          have hi2 : i < arr.size := by omega
          have hg := seg_get cs off x.cells hfit i
          have hg2 := seg_get arr.toList off vx.cells.toList hfit' i
          have hget : (seg cs off x.cells)[i]'(by rw [seg_length _ _ _ hfit]; exact hi) = (if h : off ≤ i ∧ i < off + x.cells.length then x.cells[i - off]'(by omega) else cs[i]) := by
            apply Option.some.inj
            rw [← List.getElem?_eq_getElem, hg]
            split
            · exact List.getElem?_eq_getElem _
            · exact List.getElem?_eq_getElem _
          rw [hget, getD_of_get rfl, hg2]
          have hl2 : vx.cells.toList.length = x.cells.length := by simp; omega
          rw [hl2]
          split
          · next h =>
            have := hc2 (i - off) (by omega)
            rw [Array.getD_eq_getD_getElem?] at this
            simpa using this.ext e
          · next h =>
            have := hrep i hi
            rw [Array.getD_eq_getD_getElem?] at this
            simpa using this.ext e
      · cases hr
    · cases hr
  · next k i ver off =>
    split at hr
    · next T s q floor hk =>
      obtain ⟨hu, hlive, hobj⟩ := hh _ _ (restr_look hk)
      have hrp : RpOK S va k i ver off := by cases ha with | i _ _ h => cases h | rp _ _ _ _ _ _ hp _ => exact hp hlive
      have key2 : ∀ q' : Seq AV, ver = q.len → off + sz ≤ s → q'.len = q.len → (q'.get i).cells = seg (q.get i).cells off x.cells → (∀ j, j ≠ i → q'.get j = q.get j) →
          ∃ S', (Instr.storeAt t va vx).run P S.w = .ok () S'.w ∧ Post S key (put1 hp k (.row T s q' q.len)) .junk undef S' := by
        intro q' hver hoff hq1 hq2 hq3
        obtain ⟨hrow, ad, rfl, h1, h2, h3, h4⟩ := hrp
        obtain ⟨_, o1, o2, o3, o4, ofl, o5, o6⟩ := hobj
        obtain ⟨b, hb, rfl⟩ := h4 (by omega)
        rw [hb] at o6
        obtain ⟨ho, arr, hheap, hsz, hrep⟩ := o6
        have hi : i < q.len := by omega
        have hbound : i * s + s ≤ arr.size := by
          have : (i + 1) * s ≤ q.len * s := Nat.mul_le_mul_right _ hi
          rw [Nat.add_mul, Nat.one_mul] at this
          omega
        rw [o1]
        have hrun := run_storeVar (P := P) hs hheap hvs (by omega) (fun i hi => hc3 i (by omega)) (o := i * s + off)
        have hl2 : vx.cells.toList.length = x.cells.length := by simp; omega
        have hfit' : i * s + off + vx.cells.toList.length ≤ arr.toList.length := by simp; omega
        have hfit : off + x.cells.length ≤ (q.get i).cells.length := by rw [o5 i hi]; omega
        have hsame : (seg arr.toList (i * s + off) vx.cells.toList).toArray.size = arr.size := by rw [List.size_toArray, seg_length _ _ _ hfit']; simp
        have hst := set_row_store hb ho hheap hsame (by rw [o3, o1]; exact hsz)
        have e : Ext S (S.set k b (seg arr.toList (i * s + off) vx.cells.toList).toArray (S.len k) (S.len k)) := set_ext hwf ho fun _ => hst
        refine ⟨_, hrun, set_wf hwf, e, fun j h => .inl h, .junk _, set_heap e ho hh hu hlive ⟨hrow, o1, o2, (upd_self _ _ _).trans (o3.trans hq1.symm), (upd_self _ _ _).trans o3, by rw [hq1]; exact Nat.le_refl _, fun j hj => ?_, ?_⟩⟩
        · rw [hq1] at hj
          by_cases hji : j = i
          · subst hji; rw [hq2, seg_length _ _ _ hfit]; exact o5 j hj
          · rw [hq3 j hji]; exact o5 j hj
        · show (match S.cur k with | none => _ | some b => _)
          rw [hb]
          refine ⟨ho, _, setRow_heap _ _ _ _ _ _ hheap, by rw [hsame, hq1]; exact hsz, fun j m hj hm => ?_⟩
          rw [hq1] at hj
          rw [getD_of_get rfl, seg_get _ _ _ hfit', hl2]
          by_cases hji : j = i
          · subst hji
            have hg := seg_get (q.get j).cells off x.cells hfit m
            have hm2 : m < (q.get j).cells.length := by rw [hq2, seg_length _ _ _ hfit] at hm; exact hm
            have hget : (q'.get j).cells[m] = (if h : off ≤ m ∧ m < off + x.cells.length then x.cells[m - off]'(by omega) else (q.get j).cells[m]) := by
              apply Option.some.inj
              rw [← List.getElem?_eq_getElem, hq2, hg]
              split
              · exact List.getElem?_eq_getElem _
              · exact List.getElem?_eq_getElem _
            rw [hget]
            by_cases h : off ≤ m ∧ m < off + x.cells.length
            · rw [dif_pos h, if_pos (by omega)]
              have a1 := hc2 (m - off) (by omega)
              have a2 := hc3 (m - off) (by omega)
              rw [Array.getD_eq_getD_getElem?] at a1 a2
              have he : j * s + m - (j * s + off) = m - off := by omega
              rw [he]
              refine ⟨?_, ?_⟩
              · simpa using a1.ext e
              · simpa using a2
            · rw [dif_neg h, if_neg (by omega)]
              obtain ⟨a1, a2⟩ := hrep j m hj hm2
              rw [Array.getD_eq_getD_getElem?] at a1 a2
              refine ⟨?_, ?_⟩
              · simpa using a1.ext e
              · simpa using a2
          · have hout : ¬ (i * s + off ≤ j * s + m ∧ j * s + m < i * s + off + x.cells.length) := by
              have hm3 : m < s := by rw [hq3 j hji, o5 j hj] at hm; exact hm
              rcases Nat.lt_or_gt_of_ne hji with h' | h'
              · have : (j + 1) * s ≤ i * s := Nat.mul_le_mul_right _ h'
                rw [Nat.add_mul, Nat.one_mul] at this
                omega
              · have : (i + 1) * s ≤ j * s := Nat.mul_le_mul_right _ h'
                rw [Nat.add_mul, Nat.one_mul] at this
                omega
            rw [if_neg hout]
            have hqe := hq3 j hji
            simp only [hqe] at hm ⊢
            obtain ⟨a1, a2⟩ := hrep j m hj hm
            rw [Array.getD_eq_getD_getElem?] at a1 a2
            refine ⟨?_, ?_⟩
            · simpa using a1.ext e
            · simpa using a2
      have hver : r.cond = [ver = q.len] → ver = q.len := fun h => by rw [h] at hc; exact hc.1
      have hi' : ver = q.len → i < q.len := fun h => by obtain ⟨_, _, _, h1, _⟩ := hrp; omega
      have hslen : ver = q.len → (q.get i).cells.length = s := fun h => by
        obtain ⟨_, _, _, _, _, _, o5, _⟩ := hobj
        exact o5 i (hi' h)
      split at hr
      · next hbeq =>
        have hss := Nat.eq_of_beq_eq_true hbeq
        split at hr
        · next q' hq =>
          cases hr
          have hv := hver rfl
          obtain ⟨q1, q2, q3⟩ := seqSet_spec hq (hi' hv)
          refine key2 q' hv (by omega) q1 ?_ q3
          rw [q2]
          have h1 := hslen hv
          simp [seg]
          omega
        · cases hr
      · split at hr
        · next ys hl =>
          obtain ⟨rfl, hfit⟩ := lay_spec hl
          split at hr
          · next q' hq =>
            cases hr
            have hv := hver rfl
            obtain ⟨q1, q2, q3⟩ := seqSet_spec hq (hi' hv)
            have h1 := hslen hv
            refine key2 q' hv (by omega) q1 ?_ q3
            rw [q2]
            rfl
          · cases hr
        · cases hr
    · cases hr
  · cases hr

end
end Go.Ev
