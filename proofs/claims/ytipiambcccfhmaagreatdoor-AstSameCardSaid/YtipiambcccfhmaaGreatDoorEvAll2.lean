/- An evaluator of the model's code, proved right. No condition. -/
import Derived.Test.YtipiambcccfhmaaGreatDoorEvAll1
import Derived.Lib.FrozenHead
import Derived.Lib.UnsafeStr
set_option linter.unusedSimpArgs false
set_option linter.unusedVariables false
set_option linter.unusedSectionVars false
/- append, on what the evaluator knows. -/
namespace Go.Ev
variable [Globs]

/-- a new own row that is nil -/
def St.newNil (S : St) (key sz : Nat) : St :=
  { S with cur := upd S.cur key none, len := upd S.len key 0, sz := upd S.sz key sz, floor := upd S.floor key 0, isRow := upd S.isRow key true, live := fun k => k = key ∨ S.live k, used := fun k => k = key ∨ S.used k }

section newNil
variable {S : St} {key sz : Nat}

theorem newNil_same {k : Nat} (hk : k ≠ key) : Same S (S.newNil key sz) k :=
  ⟨upd_ne _ _ hk, upd_ne _ _ hk, upd_ne _ _ hk, upd_ne _ _ hk, upd_ne _ _ hk, fun _ hb => ⟨rfl, hb⟩⟩

theorem newNil_wf (hwf : S.wf) : (S.newNil key sz).wf := by
  refine ⟨hwf.bound, fun k hl => ?_, fun k hl => hl.imp id (hwf.lu k), hwf.glob.keep (fun _ _ ho => ⟨rfl, ho⟩) (Nat.le_refl _)⟩
  intro b hb
  by_cases hk : k = key
  · subst hk
    have : (none : Option Nat) = some b := by rw [← hb]; exact (upd_self _ _ _).symm
    cases this
  · exact hwf.kept k (hl.resolve_left hk) b (by rw [← hb]; exact (upd_ne _ _ hk).symm)

theorem newNil_ext (hwf : S.wf) (hkey : ¬ S.used key) : Ext S (S.newNil key sz) := by
  refine ⟨Nat.le_refl _, rfl, rfl, rfl, fun _ _ _ => ⟨rfl, rfl⟩, fun _ h => .inr h, fun k hu hl => ?_⟩
  have hk : k ≠ key := fun e => hkey (e ▸ hu)
  have hl' : S.live k := hl.resolve_left hk
  have hs := newNil_same (S := S) (sz := sz) hk
  exact ⟨hl', fun _ _ _ _ _ r => hs.row (hwf.kept k hl') r, fun _ _ _ _ r => hs.rp (hwf.kept k hl') r, fun _ _ r => hs.ptr r, hs.moves (hwf.kept k hl')⟩

theorem newNil_post {hp : List (Nat × AObj)} {T : TypeId} {q : Seq AV} (hwf : S.wf) (hh : HeapOK S hp) (hkey : ¬ S.used key) (hsz : 0 < sz) (hq : q.len = 0) :
    Post S key (applyUpd hp [(key, some (.row T sz q 0))]) (.row key 0 q.len q.len false) (.slice none 0 0) (S.newNil key sz) := by
  have e := newNil_ext (sz := sz) hwf hkey
  have hcur : (S.newNil key sz).cur key = none := upd_self _ _ _
  refine ⟨newNil_wf hwf, e, fun k h => h.elim .inr .inl, ?_, ?_⟩
  · rw [hq]
    refine .row _ _ _ _ _ _ (.inl rfl) (fun _ => ⟨upd_self _ _ _, none, 0, rfl, by omega, by rw [show (S.newNil key sz).len key = 0 from upd_self _ _ _]; exact Nat.le_refl _, by omega, (fun h => by cases h), (fun h => by omega), fun _ => ?_⟩) ⟨_, _, rfl, fun _ => rfl⟩
    rw [hcur]
    exact ⟨rfl, rfl, rfl⟩
  · intro k o hk
    rw [show applyUpd hp [(key, some (.row T sz q 0))] = put1 hp key (.row T sz q 0) from rfl, look_put] at hk
    split at hk
    · next h =>
      subst h
      cases hk
      refine ⟨.inl rfl, .inl rfl, upd_self _ _ _, upd_self _ _ _, hsz, (upd_self _ _ _).trans hq.symm, upd_self _ _ _, Nat.zero_le _, fun i hi => by omega, ?_⟩
      rw [hcur]
      exact hq
    · next h =>
      obtain ⟨h1, h2, h3⟩ := hh k o hk
      exact ⟨.inr h1, .inr h2, h3.same e (newNil_same h)⟩
end newNil

section
variable {P : Program}

theorem heap_put_same {S : St} {hp : List (Nat × AObj)} {k : Nat} {o : AObj} (hh : HeapOK S hp) (hu : S.used k) (hl : S.live k) (ho : ObjOK S k o) : HeapOK S (put1 hp k o) := by
  intro j o' hj
  rw [look_put] at hj
  split at hj
  · next h => subst h; cases hj; exact ⟨hu, hl, ho⟩
  · exact hh j o' hj

/-- a row of the same elements -/
theorem obj_congr {S : St} {k : Nat} {T : TypeId} {sz floor : Nat} {q q' : Seq AV} (h : ObjOK S k (.row T sz q floor)) (hl : q'.len = q.len) (hg : ∀ i, i < q.len → q'.get i = q.get i) (hz : ∀ fz, FzOK q sz fz → FzOK q' sz fz) : ObjOK S k (.row T sz q' floor) := by
  obtain ⟨o0, o1, o2, o3, o4, ofl, o5, o6⟩ := h
  refine ⟨o0, o1, o2, o3.trans hl.symm, o4, by rw [hl]; exact ofl, fun i hi => by rw [hg i (by omega)]; exact o5 i (by omega), ?_⟩
  cases hc : S.cur k with
  | none => rw [hc] at o6; exact hl.trans o6
  | some b =>
    rw [hc] at o6
    obtain ⟨p1, arr, ⟨fz, p2, p5⟩, p3, p4⟩ := o6
    refine ⟨p1, arr, ⟨fz, p2, hz fz p5⟩, by rw [hl]; exact p3, fun i j hi hj => ?_⟩
    have he := hg i (by omega)
    have hj2 : j < (q.get i).cells.length := by rw [he] at hj; exact hj
    simpa [he] using p4 i j (by omega) hj2

theorem grownCap_bound (w : World) (need old : Nat) (e : TypeId) : need ≤ grownCap w need old e := grownCap_ge w need old e

/-- a new block with more behind what is told -/
theorem cells_prefix {S : St} {sz : Nat} {q : Seq AV} {a rest : Array Value} (h : CellsOf S sz q a) (hsz : 0 < sz) : ∀ i j, i < q.len → ∀ hj : j < (q.get i).cells.length, Rep S ((a ++ rest).getD (i * sz + j) undef) ((q.get i).cells[j]) ∧ okV ((a ++ rest).getD (i * sz + j) undef) := by
  intro i j hi hj
  have hlt : i * sz + j < a.size := by
    rw [h.1]
    have : (i + 1) * sz ≤ q.len * sz := Nat.mul_le_mul_right _ hi
    rw [Nat.add_mul, Nat.one_mul] at this
    have := h.2.1 i hi
    omega
  rw [getD_append_left hlt]
  exact h.2.2 i j hi hj

theorem Grows.drew (w : World) : Grows w w.drew := ⟨Nat.le_refl _, rfl, rfl, rfl, fun _ _ => rfl⟩

theorem zeroOk_spec {e : TypeId} {sz : Nat} (h : zeroOk P e = true) (hs : sizeA P e = some sz) : ∃ z, zeroCellsA P e = some z ∧ z.length = sz := by
  unfold zeroOk at h
  split at h
  · next z s hz hs' =>
    rw [hs] at hs'
    cases hs'
    exact ⟨z, hz, Nat.eq_of_beq_eq_true h⟩
  · cases h

theorem appendA_run {S : St} {key : Nat} {hp : List (Nat × AObj)} {ks : List Nat} {t xt ty : TypeId} {s x : AV} {vs vx : Value} {r : R} (hwf : S.wf) (hh : HeapOK S hp) (hkey : ¬ S.used key) (hr : appendA P key (restr hp ks) t xt s x = some r) (hc : AllP r.cond) (hs : Rep S vs s) (hx : Rep S vx x) :
    ∃ v S', (Builtin.append_ #[t, xt] ty #[vs, vx]).run P S.w = .ok v S'.w ∧ Post S key (applyUpd hp r.upd) r.val v S' := by
  unfold appendA at hr
  split at hr
  · cases hr
  next e he =>
  have ht := elemOf_spec he
  split at hr
  case h_2 => cases hr
  next sz by1 q c hsz hby hcont hchk =>
  simp only [Bool.and_eq_true] at hchk
  obtain ⟨hni, hzo⟩ := hchk
  obtain ⟨z, hz, hzl⟩ := zeroOk_spec hzo hsz
  have holds : AllP c → Holds P S (sz + 1) vx q := fun h => contents_spec hh hsz hcont h hx
  split at hr
  · -- onto nil
    cases hr
    obtain ⟨hb, hc⟩ := hc
    obtain ⟨hl, arr, ha, hf⟩ := holds hc
    obtain ⟨rfl, _⟩ := rep_v hs
    rcases Nat.eq_zero_or_pos q.len with h0 | h0
    · have hrun := run_append_in (P := P) (ty := ty) ht hsz hni (base := none) (n := 0) (c := 0) (hl S.w) (hf S.w rfl) (by omega) (w' := S.w) (fun a h => by cases h) (fun _ => rfl)
      rw [h0] at hrun
      exact ⟨_, S.newNil key (sz + 1), hrun, newNil_post hwf hh hkey (Nat.succ_pos _) h0⟩
    · obtain ⟨rest, hrs, hrun⟩ := run_append_out (P := P) (ty := ty) ht hsz hby hz hni (base := none) (n := 0) (c := 0) (hl S.w) (hf S.w.drew rfl) (old := #[]) rfl (by omega) (by simpa using hb)
      simp only [Nat.zero_add] at hrun hrs
      refine ⟨_, S.new key true S.w.drew (#[] ++ arr ++ rest) e q.len (sz + 1), hrun, ?_⟩
      have hge := grownCap_ge S.w q.len 0 e
      refine new_row hwf (Grows.drew S.w) hh hkey (Nat.succ_pos _) rfl hge (fun h => by cases h) ?_ ha.2.1 ?_
      · rw [hzl] at hrs
        simp only [Array.size_append, ha.1, hrs, Array.size_empty, Nat.zero_add, ← Nat.add_mul]
        rw [show q.len + (grownCap S.w q.len 0 e - q.len) = grownCap S.w q.len 0 e by omega]
        exact Nat.le_refl _
      · simp only [Array.empty_append]
        exact cells_prefix ha (Nat.succ_pos _)
  · -- onto an own row
    next k len ver tt =>
    split at hr
    case h_2 => cases hr
    next T sz' q0 floor hk =>
    split at hr
    case h_2 => cases hr
    next q' hT happ =>
    cases hr
    obtain ⟨hc1, hc2, hb, hc⟩ := hc
    subst hc1
    subst hc2
    have hTe := Nat.eq_of_beq_eq_true hT
    subst hTe
    obtain ⟨hse, happ2⟩ := appA_spec happ
    subst hse
    clear happ
    obtain ⟨a1, a2, a3⟩ := Seq.app_spec happ2
    obtain ⟨hl, arr, ha, hf⟩ := holds hc
    obtain ⟨hu, hlive, hobj⟩ := hh _ _ (restr_look hk)
    obtain ⟨_, hrow, a0, c0, hv0, hn0⟩ := rep_row hs
    have hobj2 := hobj
    obtain ⟨o0, o1, o2, o3, o4, ofl, o5, o6⟩ := hobj
    obtain ⟨_, base, cap, rfl, r1, r2, r3, r4, r5, r6⟩ := hrow hlive
    have r6 := r6 o3.symm
    have hput : applyUpd hp [(k, some (AObj.row T (sz + 1) q' floor))] = put1 hp k (.row T (sz + 1) q' floor) := rfl
    -- nothing is appended
    have none_more : q.len = 0 → ∃ v S', (Builtin.append_ #[t, xt] ty #[.slice base q0.len cap, vx]).run P S.w = .ok v S'.w ∧ Post S key (put1 hp k (.row T (sz + 1) q' floor)) (.row k 0 q'.len q'.len false) v S' := by
      intro h0
      have harr : arr.toList = [] := by
        apply List.eq_nil_of_length_eq_zero
        rw [Array.length_toList, ha.1, h0, Nat.zero_mul]
      have hrun := run_append_in (P := P) (ty := ty) ht hsz hni (base := base) (n := q0.len) (c := cap) (hl S.w) (hf S.w rfl) (by omega) (w' := S.w) (fun a _ => by rw [harr]; rfl) (fun _ => rfl)
      have hl' : q'.len = q0.len := by omega
      refine ⟨_, S, hrun, hwf, Ext.refl S, fun k h => .inl h, ?_, heap_put_same hh hu hlive (obj_congr hobj2 hl' a2 fun fz => Seq.app_fz happ2)⟩
      rw [hl', h0, Nat.add_zero]
      exact .row _ _ _ _ _ _ hu (fun _ => ⟨o0, base, cap, rfl, r1, r2, r3, (fun h => by cases h), r5, fun _ => r6⟩) ⟨_, _, rfl, by
        have hae : base = a0 := by injection hv0
        have hce : cap = c0 := by injection hv0
        rw [hae, hce]; exact hn0⟩
    -- the row moves
    have grow : ∀ old : Array Value, CellsOf S (sz + 1) q0 old → (∀ w : World, w.heap = S.w.heap → (Builtin.firstCells (sz + 1) q0.len (.slice base q0.len cap)).run P w = .ok old w) → (∀ i, i < q0.len * (sz + 1) → curCell S k i = old[i]?) → 0 < q.len → cap < q0.len + q.len →
        ∃ v S', (Builtin.append_ #[t, xt] ty #[.slice base q0.len cap, vx]).run P S.w = .ok v S'.w ∧ Post S key (put1 hp k (.row T (sz + 1) q' floor)) (.row k 0 q'.len q'.len false) v S' := by
      intro old hold hof hkeep h0 hroom
      obtain ⟨rest, hrs, hrun⟩ := run_append_out (P := P) (ty := ty) ht hsz hby hz hni (base := base) (n := q0.len) (c := cap) (hl S.w) (hf S.w.drew rfl) (old := old) (hof S.w.drew rfl) hroom (by rw [← a1]; exact hb)
      have hcells := cellsOf_append hold ha happ2
      have hsize : (old ++ arr ++ rest).size = grownCap S.w (q0.len + q.len) cap T * (sz + 1) := by
        have hge := grownCap_ge S.w (q0.len + q.len) cap T
        rw [hzl] at hrs
        rw [Array.size_append, hcells.1, hrs, a1, ← Nat.add_mul]
        congr 1
        omega
      have hlen : S.len k < q0.len + q.len := by omega
      have hge := grownCap_ge S.w (q0.len + q.len) cap T
      have e : Ext S (S.move k S.w.drew (old ++ arr ++ rest) T (q0.len + q.len)) := move_ext hwf (Grows.drew S.w) o0 hlen fun i hi => by
        rw [o1, o3] at hi
        rw [hkeep i hi, Array.append_assoc, Array.getElem?_append, if_pos (by rw [hold.1]; exact hi)]
      have hcur : (S.move k S.w.drew (old ++ arr ++ rest) T (q0.len + q.len)).cur k = some S.w.drew.heap.size := upd_self _ _ _
      have hown : (S.move k S.w.drew (old ++ arr ++ rest) T (q0.len + q.len)).own S.w.drew.heap.size = some (some k) := upd_self _ _ _
      have hheap : (S.move k S.w.drew (old ++ arr ++ rest) T (q0.len + q.len)).w.heap[S.w.drew.heap.size]? = some (.cells (old ++ arr ++ rest) T (0, 0)) := alloc_new _ _
      have hlen' : (S.move k S.w.drew (old ++ arr ++ rest) T (q0.len + q.len)).len k = q0.len + q.len := upd_self _ _ _
      have hle : (q0.len + q.len) * (sz + 1) ≤ (old ++ arr ++ rest).size := by rw [hsize]; exact Nat.mul_le_mul_right _ hge
      refine ⟨_, S.move k S.w.drew (old ++ arr ++ rest) T (q0.len + q.len), hrun, move_wf hwf (Grows.drew S.w), e, fun j h => .inl h, ?_, move_heap hwf (Grows.drew S.w) e hh hu hlive ⟨o0, o1, o2, hlen'.trans a1.symm, o4, by omega, fun i hi => hcells.2.1 i hi, ?_⟩⟩
      · rw [a1]
        refine .row _ _ _ _ _ _ hu (fun _ => ⟨o0, _, _, rfl, by omega, by rw [hlen']; exact Nat.le_refl _, hge, (fun h => by cases h), fun _ => ⟨_, rfl, fun _ => ⟨hown, fun _ => by rw [Nat.zero_mul], fun j hj => ?_⟩⟩, fun _ => ?_⟩) ⟨_, _, rfl, (fun h => by cases h)⟩
        · have hj' : j < (q0.len + q.len) * S.sz k := hj
          rw [o1] at hj'
          rw [show S.w.heap.size = S.w.drew.heap.size from rfl, addr_add, Nat.zero_mul]
          unfold curCell
          rw [hcur]
          simp only [cell_arr hheap, Nat.zero_add]
          refine ⟨trivial, ?_⟩
          rw [Array.getElem?_eq_getElem (by omega)]
          rfl
        · rw [hcur]
          refine ⟨fun _ => by rw [Nat.zero_mul]; rfl, ?_⟩
          rw [blockSize_of hheap, Nat.zero_add, show (S.move k S.w.drew (old ++ arr ++ rest) T (q0.len + q.len)).sz k = S.sz k from rfl, o1, hsize]
          exact Nat.le_refl _
      · rw [hcur]
        refine ⟨hown, _, ⟨_, hheap, fzOK_zero _ _⟩, by rw [a1]; exact hle, fun i j hi hj => ?_⟩
        obtain ⟨c1, c2⟩ := cells_prefix (rest := rest) hcells (Nat.succ_pos _) i j hi hj
        exact ⟨c1.ext e, c2⟩
    cases hcur : S.cur k with
    | none =>
      rw [hcur] at o6 r6
      obtain ⟨rfl, rfl, _⟩ := r6
      rcases Nat.eq_zero_or_pos q.len with h0 | h0
      · exact none_more h0
      · refine grow #[] ⟨by rw [o6]; simp, fun i hi => by omega, fun i j hi => by omega⟩ (fun w _ => by rw [o6]; rfl) (fun i hi => by rw [o6] at hi; omega) h0 (by omega)
    | some b =>
      rw [hcur] at o6 r6
      obtain ⟨hown, arr0, ⟨fz, hheap, hfz⟩, hs0, hrep⟩ := o6
      obtain ⟨r7, r8⟩ := r6
      rcases Nat.eq_zero_or_pos q.len with h0 | h0
      · exact none_more h0
      by_cases hroom : q0.len + q.len ≤ cap
      · -- in place
        have hbase := r7 (by omega)
        subst hbase
        rw [blockSize_of hheap, Nat.zero_add, o1] at r8
        have hfit : q0.len * (sz + 1) + arr.toList.length ≤ arr0.toList.length := by
          rw [Array.length_toList, Array.length_toList, ha.1, ← Nat.add_mul]
          exact Nat.le_trans (Nat.mul_le_mul_right _ hroom) r8
        have hok : ∀ v ∈ arr.toList, v.oneCell' = true := by
          intro v hv
          obtain ⟨p, hp, rfl⟩ := List.getElem_of_mem hv
          have hp' : p < arr.size := by simpa using hp
          have hpp : p < q.len * (sz + 1) := by rw [← ha.1]; exact hp'
          have h1 : p / (sz + 1) < q.len := Nat.div_lt_of_lt_mul (by rw [Nat.mul_comm]; exact hpp)
          have h2 : p % (sz + 1) < sz + 1 := Nat.mod_lt _ (Nat.succ_pos _)
          have := (ha.2.2 (p / (sz + 1)) (p % (sz + 1)) h1 (by rw [ha.2.1 _ h1]; exact h2)).2
          rw [Nat.div_add_mod', Array.getD_eq_getD_getElem?, Array.getElem?_eq_getElem hp'] at this
          simpa using okV_one this
        have hfz0 : fz.2 ≤ q0.len * (sz + 1) + 0 := fzOK_le hfz
        have hst := Go.run_storeCells_atF P b (q0.len * (sz + 1)) T fz arr.toList 0 arr0 S.w hheap hfz0 (by simpa using hfit) hok
        simp only [Nat.add_zero] at hst
        have hrun := run_append_in (P := P) (ty := ty) ht hsz hni (base := some ⟨b, 0 * S.sz k, none⟩) (n := q0.len) (c := cap) (hl S.w) (hf S.w rfl) hroom (w' := S.w.setRow b (seg arr0.toList (q0.len * (sz + 1)) arr.toList).toArray) (fun a h => by
          cases h
          rw [addr_add, Nat.zero_mul, Nat.zero_add]
          exact hst) (fun h => by cases h)
        have hlen : S.len k < q0.len + q.len := by omega
        have hkeep : ∀ i, i < S.len k * S.sz k → (seg arr0.toList (q0.len * (sz + 1)) arr.toList).toArray[i]? = arr0[i]? := fun i hi => by
          rw [o1, o3] at hi
          rw [List.getElem?_toArray, seg_get _ _ _ hfit, if_neg (by omega), Array.getElem?_toList]
        have hg := set_row_grow (n := q0.len + q.len) hcur hheap hlen hkeep
        have e : Ext S (S.set k b (seg arr0.toList (q0.len * (sz + 1)) arr.toList).toArray (q0.len + q.len) (S.floor k)) := set_ext hwf hown (fun _ => hg) ⟨by omega, fun _ => size_kept hcur hheap (by rw [List.size_toArray, seg_length _ _ _ hfit, Array.length_toList])⟩
        have hlen' : (S.set k b (seg arr0.toList (q0.len * (sz + 1)) arr.toList).toArray (q0.len + q.len) (S.floor k)).len k = q0.len + q.len := upd_self _ _ _
        have hh' := setRow_heap S.w b arr0 (seg arr0.toList (q0.len * (sz + 1)) arr.toList).toArray T fz hheap
        have hsz' : (seg arr0.toList (q0.len * (sz + 1)) arr.toList).toArray.size = arr0.size := by rw [List.size_toArray, seg_length _ _ _ hfit, Array.length_toList]
        have hle : (q0.len + q.len) * (sz + 1) ≤ arr0.size := Nat.le_trans (Nat.mul_le_mul_right _ hroom) r8
        refine ⟨_, S.set k b (seg arr0.toList (q0.len * (sz + 1)) arr.toList).toArray (q0.len + q.len) (S.floor k), hrun, set_wf hwf hown, e, fun j h => .inl h, ?_, set_heap e hown hh hu hlive ⟨o0, o1, o2, hlen'.trans a1.symm, (upd_self _ _ _).trans o4, by omega, fun i hi => ?_, ?_⟩⟩
        · rw [a1]
          refine .row _ _ _ _ _ _ hu (fun _ => ⟨o0, _, _, rfl, by omega, by rw [hlen']; exact Nat.le_refl _, hroom, (fun h => by cases h), fun _ => ⟨_, rfl, fun _ => ⟨hown, fun _ => rfl, fun j hj => ?_⟩⟩, fun _ => ?_⟩) ⟨_, _, rfl, (fun h => by cases h)⟩
          · have hj' : j < (q0.len + q.len) * S.sz k := hj
            rw [o1] at hj'
            unfold curCell
            rw [show (S.set k b (seg arr0.toList (q0.len * (sz + 1)) arr.toList).toArray (q0.len + q.len) (S.floor k)).cur k = some b from hcur]
            rw [addr_add]
            refine ⟨rfl, ?_⟩
            rw [show (S.set k b (seg arr0.toList (q0.len * (sz + 1)) arr.toList).toArray (q0.len + q.len) (S.floor k)).w = S.w.setRow b (seg arr0.toList (q0.len * (sz + 1)) arr.toList).toArray from rfl, cell_arr hh', Array.getElem?_eq_getElem (by omega)]
            rfl
          · rw [show (S.set k b (seg arr0.toList (q0.len * (sz + 1)) arr.toList).toArray (q0.len + q.len) (S.floor k)).cur k = some b from hcur]
            refine ⟨fun _ => rfl, ?_⟩
            show _ ≤ blockSize (S.w.setRow b _) b
            rw [blockSize_of hh', hsz', Nat.zero_add]
            show cap * S.sz k ≤ _
            rw [o1]
            exact r8
        · rcases Nat.lt_or_ge i q0.len with h1 | h1
          · rw [a2 i h1]; exact o5 i h1
          · obtain ⟨i, rfl⟩ := Nat.exists_eq_add_of_le h1
            rw [a3 i (by omega)]; exact ha.2.1 i (by omega)
        · rw [show (S.set k b (seg arr0.toList (q0.len * (sz + 1)) arr.toList).toArray (q0.len + q.len) (S.floor k)).cur k = some b from hcur]
          refine ⟨hown, _, ⟨_, hh', Seq.app_fz happ2 hfz⟩, by rw [hsz', a1]; exact hle, fun i j hi hj => ?_⟩
          rw [getD_of_get rfl, seg_get _ _ _ hfit]
          rcases Nat.lt_or_ge i q0.len with h1 | h1
          · have he := a2 i h1
            have hj2 : j < (q0.get i).cells.length := by rw [he] at hj; exact hj
            have hlt : i * (sz + 1) + j < q0.len * (sz + 1) := by
              have : (i + 1) * (sz + 1) ≤ q0.len * (sz + 1) := Nat.mul_le_mul_right _ h1
              rw [Nat.add_mul i 1, Nat.one_mul] at this
              have := o5 i h1
              omega
            rw [if_neg (by omega)]
            obtain ⟨b1, b2⟩ := hrep i j h1 hj2
            rw [Array.getD_eq_getD_getElem?] at b1 b2
            simp only [Array.getElem?_toList]
            refine ⟨?_, b2⟩
            simpa [he] using b1.ext e
          · obtain ⟨i, rfl⟩ := Nat.exists_eq_add_of_le h1
            have hi2 : i < q.len := by omega
            have he := a3 i hi2
            have hj2 : j < (q.get i).cells.length := by rw [he] at hj; exact hj
            have hlt : i * (sz + 1) + j < arr.toList.length := by
              rw [Array.length_toList, ha.1]
              have : (i + 1) * (sz + 1) ≤ q.len * (sz + 1) := Nat.mul_le_mul_right _ hi2
              rw [Nat.add_mul i 1, Nat.one_mul] at this
              have := ha.2.1 i hi2
              omega
            have hpos : (q0.len + i) * (sz + 1) + j = q0.len * (sz + 1) + (i * (sz + 1) + j) := by rw [Nat.add_mul]; omega
            rw [hpos, if_pos (by omega), Nat.add_sub_cancel_left]
            obtain ⟨b1, b2⟩ := ha.2.2 i j hi2 hj2
            rw [Array.getD_eq_getD_getElem?] at b1 b2
            simp only [Array.getElem?_toList]
            refine ⟨?_, b2⟩
            simpa [he] using b1.ext e
      · -- it grows
        have hold : ∀ w : World, w.heap = S.w.heap → (Builtin.firstCells (sz + 1) q0.len (.slice base q0.len cap)).run P w = .ok ((List.range (q0.len * (sz + 1))).map fun p => arr0.getD p undef).toArray w := by
          intro w hw
          rcases Nat.eq_zero_or_pos q0.len with hz0 | hz0
          · rw [hz0]
            cases base with
            | none => simp [Builtin.firstCells]
            | some ad => simp [Builtin.firstCells, loadCells, loadCellsFrom]
          · obtain ⟨ad, rfl, hrest⟩ := r5 hz0
            obtain ⟨_, _, h9⟩ := hrest (by omega)
            refine run_loadCells w ad _ _ fun p hp => ?_
            rw [cell_heap hw]
            have := (h9 p (by rw [o1]; exact hp)).1
            rw [this, Nat.zero_mul, Nat.zero_add]
            unfold curCell
            rw [hcur]
            simp only [cell_arr hheap]
            have hlt : p < arr0.size := by omega
            rw [Array.getElem?_eq_getElem hlt, Array.getD_eq_getD_getElem?, Array.getElem?_eq_getElem hlt]
            rfl
        refine grow _ ⟨by simp, o5, fun i j hi hj => ?_⟩ hold (fun i hi => ?_) h0 (by omega)
        · have hlt : i * (sz + 1) + j < q0.len * (sz + 1) := by
            have : (i + 1) * (sz + 1) ≤ q0.len * (sz + 1) := Nat.mul_le_mul_right _ hi
            rw [Nat.add_mul i 1, Nat.one_mul] at this
            have := o5 i hi
            omega
          have he : (((List.range (q0.len * (sz + 1))).map fun p => arr0.getD p undef).toArray).getD (i * (sz + 1) + j) undef = arr0.getD (i * (sz + 1) + j) undef := by
            simp [Array.getD_eq_getD_getElem?, hlt]
          rw [he]
          exact hrep i j hi hj
        · unfold curCell
          rw [hcur]
          simp only [cell_arr hheap]
          have hlt : i < arr0.size := by omega
          rw [Array.getElem?_eq_getElem hlt]
          simp [hi, hlt]
  · -- onto a full slice that nobody writes
    next sz' q0 =>
    split at hr
    · next hemp =>
      cases hr
      obtain ⟨hl, arr, ha, hf⟩ := holds hc
      have h0 : q.len = 0 := by
        unfold emptyA at hemp
        split at hemp
        · unfold contents at hcont
          rw [hsz] at hcont
          cases hcont
          exact seqEmpty_len _
        · unfold contents at hcont
          rw [hsz] at hcont
          cases hcont
          exact seqEmpty_len _
        · cases hemp
      obtain ⟨base, cap, rfl, hrep, hle, hcap⟩ := rep_sl hs
      have harr : arr.toList = [] := by
        apply List.eq_nil_of_length_eq_zero
        rw [Array.length_toList, ha.1, h0, Nat.zero_mul]
      have hrun := run_append_in (P := P) (ty := ty) ht hsz hni (base := base) (n := q0.len) (c := cap) (hl S.w) (hf S.w rfl) (by omega) (w' := S.w) (fun a _ => by rw [harr]; rfl) (fun _ => rfl)
      rw [h0, Nat.add_zero] at hrun
      exact ⟨_, S, hrun, hwf, Ext.refl S, fun k h => .inl h, hs, hh⟩
    split at hr
    case h_2 => cases hr
    next q' happ =>
    cases hr
    obtain ⟨hc1, hb, hc⟩ := hc
    obtain ⟨hse, happ2⟩ := appA_spec happ
    subst hse
    clear happ
    obtain ⟨a1, a2, a3⟩ := Seq.app_spec happ2
    obtain ⟨hl, arr, ha, hf⟩ := holds hc
    obtain ⟨base, cap, rfl, hrep, _, hcap⟩ := rep_sl hs
    have hcap := hcap rfl
    obtain ⟨_, old, hold, hof⟩ := holds_sl (P := P) hrep
    obtain ⟨rest, hrs, hrun⟩ := run_append_out (P := P) (ty := ty) ht hsz hby hz hni (base := base) (n := q0.len) (c := cap) (hl S.w) (hf S.w.drew rfl) (old := old) (hof S.w.drew rfl) (by omega) (by rw [← a1]; exact hb)
    have hcells := cellsOf_append hold ha happ2
    have hge := grownCap_ge S.w (q0.len + q.len) cap e
    refine ⟨_, S.new key true S.w.drew (old ++ arr ++ rest) e (q0.len + q.len) (sz + 1), hrun, ?_⟩
    simp only [a1]
    refine new_row hwf (Grows.drew S.w) hh hkey (Nat.succ_pos _) a1 hge (fun h => by cases h) ?_ (fun i hi => hcells.2.1 i (by omega)) (fun i j hi hj => cells_prefix hcells (Nat.succ_pos _) i j (by omega) hj)
    rw [hzl] at hrs
    rw [Array.size_append, hcells.1, hrs, a1, ← Nat.add_mul, show q0.len + q.len + (grownCap S.w (q0.len + q.len) cap e - (q0.len + q.len)) = grownCap S.w (q0.len + q.len) cap e by omega]
    exact Nat.le_refl _
  · cases hr

end
end Go.Ev

/- Bytes that strings share: what SliceData and String make of an own row. -/
namespace Go.Ev
variable [Globs]

section
variable {w : World} {b n : Nat}

theorem freeze_other {c : Nat} (h : c ≠ b) : (w.freeze ⟨b, 0, none⟩ n).heap[c]? = w.heap[c]? := by
  unfold World.freeze
  split
  · rfl
  · simp only [Array.getElem?_modify]
    rw [if_neg (Ne.symm h)]

theorem freeze_size : (w.freeze ⟨b, 0, none⟩ n).heap.size = w.heap.size := by
  unfold World.freeze
  split
  · rfl
  · simp

theorem freeze_rest : (w.freeze ⟨b, 0, none⟩ n).os = w.os ∧ (w.freeze ⟨b, 0, none⟩ n).tape = w.tape ∧ (w.freeze ⟨b, 0, none⟩ n).output = w.output := by
  unfold World.freeze
  split <;> exact ⟨rfl, rfl, rfl⟩

theorem freeze_heap {arr : Array Value} {T : TypeId} {fz : Nat × Nat} (h : w.heap[b]? = some (.cells arr T fz)) : ∃ fz', (w.freeze ⟨b, 0, none⟩ n).heap[b]? = some (.cells arr T fz') ∧ fz'.2 ≤ max fz.2 n := by
  unfold World.freeze
  split
  · exact ⟨fz, h, Nat.le_max_left _ _⟩
  · simp only [Array.getElem?_modify, if_true, h, Option.map_some]
    refine ⟨_, rfl, ?_⟩
    split
    · show 0 + n ≤ _
      omega
    · show max _ (0 + n) ≤ _
      omega

theorem freeze_cell (ad : Addr) : (w.freeze ⟨b, 0, none⟩ n).cell? ad = w.cell? ad := by
  by_cases hb : ad.block = b
  · subst hb
    cases hh : w.heap[ad.block]? with
    | none =>
      have : (w.freeze ⟨ad.block, 0, none⟩ n).heap[ad.block]? = none := by
        unfold World.freeze
        split
        · exact hh
        · simp [Array.getElem?_modify, hh]
      unfold World.cell?
      rw [this, hh]
    | some o =>
      cases o with
      | cells arr T fz =>
        obtain ⟨fz', h', _⟩ := freeze_heap (n := n) hh
        unfold World.cell?
        rw [h', hh]
      | _ =>
        have : (w.freeze ⟨ad.block, 0, none⟩ n).heap[ad.block]? = w.heap[ad.block]? := by
          unfold World.freeze
          split
          · rfl
          · simp [Array.getElem?_modify, hh]
        unfold World.cell?
        rw [this]
  · exact cell_same (freeze_other hb)

theorem freeze_blockSize (c : Nat) : blockSize (w.freeze ⟨b, 0, none⟩ n) c = blockSize w c := by
  by_cases hb : c = b
  · subst hb
    unfold blockSize
    cases hh : w.heap[c]? with
    | none =>
      have : (w.freeze ⟨c, 0, none⟩ n).heap[c]? = none := by
        unfold World.freeze
        split
        · exact hh
        · simp [Array.getElem?_modify, hh]
      rw [this]
    | some o =>
      cases o with
      | cells arr T fz =>
        obtain ⟨fz', h', _⟩ := freeze_heap (n := n) hh
        rw [h']
      | _ =>
        have : (w.freeze ⟨c, 0, none⟩ n).heap[c]? = w.heap[c]? := by
          unfold World.freeze
          split
          · rfl
          · simp [Array.getElem?_modify, hh]
        rw [this, hh]
  · unfold blockSize
    rw [freeze_other hb]
end

/-- a head of an own block is shared by a string -/
def St.fz (S : St) (b n : Nat) : St := { S with w := S.w.freeze ⟨b, 0, none⟩ n }

section
variable {S : St} {k b n : Nat}

theorem fz_cur (j i : Nat) : curCell (S.fz b n) j i = curCell S j i := by
  unfold curCell
  show (match S.cur j with | some c => (S.w.freeze ⟨b, 0, none⟩ n).cell? ⟨c, i, none⟩ | none => none) = _
  cases S.cur j with
  | none => rfl
  | some c => exact freeze_cell _

theorem fz_row {j : Nat} {v : Value} {off len ver : Nat} {t : Bool} (h : RowOK S v j off len ver t) : RowOK (S.fz b n) v j off len ver t := by
  obtain ⟨h0, a, c, hv, h1, h2, h3, h4, h5, h6⟩ := h
  refine ⟨h0, a, c, hv, h1, h2, h3, h4, fun hl => ?_, fun he => ?_⟩
  · obtain ⟨ad, ha, hrest⟩ := h5 hl
    refine ⟨ad, ha, fun hf => ?_⟩
    obtain ⟨g1, g2, g3⟩ := hrest hf
    refine ⟨g1, g2, fun i hi => ?_⟩
    rw [fz_cur]
    show (S.w.freeze ⟨b, 0, none⟩ n).cell? _ = _ ∧ ((S.w.freeze ⟨b, 0, none⟩ n).cell? _).isSome
    rw [freeze_cell]
    exact g3 i hi
  · have := h6 he
    show (match S.cur j with | none => _ | some b => _)
    cases hc : S.cur j with
    | none => rw [hc] at this; exact this
    | some c' =>
      rw [hc] at this
      refine ⟨this.1, ?_⟩
      show _ ≤ blockSize (S.w.freeze ⟨b, 0, none⟩ n) c'
      rw [freeze_blockSize]
      exact this.2

theorem fz_rp {j : Nat} {v : Value} {i ver off : Nat} (h : RpOK S v j i ver off) : RpOK (S.fz b n) v j i ver off := by
  obtain ⟨h0, ad, hv, h1, h2, h3, h4⟩ := h
  refine ⟨h0, ad, hv, h1, h2, fun hf => ?_, h4⟩
  obtain ⟨g1, g2, g3⟩ := h3 hf
  refine ⟨g1, g2, fun i hi => ?_⟩
  rw [fz_cur]
  show (S.w.freeze ⟨b, 0, none⟩ n).cell? _ = _ ∧ ((S.w.freeze ⟨b, 0, none⟩ n).cell? _).isSome
  rw [freeze_cell]
  exact g3 i hi

theorem fz_moves (j : Nat) : Moves S (S.fz b n) j :=
  ⟨rfl, rfl, Nat.le_refl _, fun _ => rfl, fun _ => rfl, fun _ c _ => by
    show _ ≤ blockSize (S.w.freeze ⟨b, 0, none⟩ n) c
    rw [freeze_blockSize]
    exact Nat.le_refl _⟩

theorem fz_ext (ho : S.own b = some (some k)) : Ext S (S.fz b n) := by
  obtain ⟨r1, r2, r3⟩ := freeze_rest (w := S.w) (b := b) (n := n)
  refine ⟨by show _ ≤ (S.w.freeze ⟨b, 0, none⟩ n).heap.size; rw [freeze_size]; exact Nat.le_refl _, r1, r2, r3, fun c _ hc => ⟨freeze_other fun e => hc k (e ▸ ho), rfl⟩, fun _ h => h, fun j _ hl => ⟨hl, fun _ _ _ _ _ h => fz_row h, fun _ _ _ _ h => fz_rp h, fun _ _ h => h, fz_moves j⟩⟩

theorem fz_wf (hwf : S.wf) (ho : S.own b = some (some k)) : (S.fz b n).wf := by
  refine ⟨fun c o hc => ?_, hwf.kept, hwf.lu, hwf.glob.keep (fun c _ hc => ⟨freeze_other fun e => ?_, hc⟩) ?_⟩
  · show c < (S.w.freeze ⟨b, 0, none⟩ n).heap.size
    rw [freeze_size]
    exact hwf.bound c o hc
  · rw [e, ho] at hc; cases hc
  · show _ ≤ (S.w.freeze ⟨b, 0, none⟩ n).heap.size
    rw [freeze_size]
    exact Nat.le_refl _

theorem fz_same (ho : S.own b = some (some k)) {j : Nat} (hj : j ≠ k) : Same S (S.fz b n) j :=
  ⟨rfl, rfl, rfl, rfl, rfl, fun c hc => ⟨freeze_other fun e => by rw [e, ho] at hc; cases hc; exact hj rfl, hc⟩⟩
end

section
variable {P : Program}

theorem run_string_row (w : World) (pt it ty e : TypeId) (hp : P.underlying pt = some (.pointer e)) (hc : P.cellsOf e = 1) (g cells : Nat) (hsh : w.shape? g = some (e, cells)) (l : List Int) (h0 : 0 < l.length) (hn : l.length ≤ cells) (h63 : l.length ≤ 9223372036854775807)
    (hb : ∀ x ∈ l, 0 ≤ x ∧ x ≤ 255) (hcell : ∀ j, j < l.length → w.cell? ((⟨g, 0, none⟩ : Addr).add j) = some (.int .u8 (l.getD j 0))) :
    (Builtin.unsafeString_ #[pt, it] ty #[.pointer (some ⟨g, 0, none⟩), .int .i64 l.length]).run P w = .ok (.string (strOfInts l)) (w.freeze ⟨g, 0, none⟩ l.length) := by
  have hl : (l.map fun n => UInt8.ofNat n.toNat).length = l.length := by simp
  have h := Go.Lib.run_unsafeString_row (P := P) w pt it ty e hp hc g cells hsh (l.map fun n => UInt8.ofNat n.toNat) (by intro h; rw [h] at hl; simp at hl; omega) (by omega) (by omega) fun j x hx => by
    rw [List.getElem?_map, Option.map_eq_some_iff] at hx
    obtain ⟨n, hn, rfl⟩ := hx
    have hj : j < l.length := by
      rcases Nat.lt_or_ge j l.length with h | h
      · exact h
      · rw [List.getElem?_eq_none h] at hn; cases hn
    rw [hcell j hj]
    have hg : l.getD j 0 = n := by rw [List.getD_eq_getElem?_getD, hn]; rfl
    rw [hg]
    have := hb n (List.mem_of_getElem? hn)
    simp only [UInt8.toNat_ofNat', Option.some.injEq, Value.int.injEq, true_and]
    omega
  rw [hl] at h
  exact h

/-- SliceData and String, on an own row -/
theorem unsafeA_run {S : St} {key : Nat} {h : Option Hint} {hp : List (Nat × AObj)} {ks : List Nat} {b : Builtin} {ts : List TypeId} {ty : TypeId} {xs : List AV} {vs : List Value} {consts : Array Bool} {r : R} (hwf : S.wf) (hh : HeapOK S hp) (hr : unsafeA P h (restr hp ks) b ts xs = some r) (hc : AllP r.cond)
    (hl : vs.length = xs.length) (hx : ∀ i (h1 : i < vs.length) (h2 : i < xs.length), Rep S vs[i] xs[i]) :
    ∃ y S', (builtin b ts.toArray ty consts vs.toArray).run P S.w = .ok (.value y) S'.w ∧ Post S key (applyUpd hp r.upd) r.val y S' := by
  have same : ∀ y, (builtin b ts.toArray ty consts vs.toArray).run P S.w = .ok (.value y) S.w → r.upd = [] → Rep S y r.val → ∃ y S', (builtin b ts.toArray ty consts vs.toArray).run P S.w = .ok (.value y) S'.w ∧ Post S key (applyUpd hp r.upd) r.val y S' := by
    intro y h1 h2 h3
    refine ⟨y, S, h1, hwf, Ext.refl S, fun k h => .inl h, h3, ?_⟩
    rw [h2]
    exact hh
  unfold unsafeA at hr
  split at hr
  · next t x =>
    obtain ⟨v, rfl⟩ : ∃ v, vs = [v] := by
      match vs, hl with
      | [v], _ => exact ⟨v, rfl⟩
    have h0 := hx 0 (by simp) (by simp)
    simp only [List.getElem_cons_zero] at h0
    clear hx
    split at hr
    · cases hr
      obtain ⟨rfl, _⟩ := rep_v h0
      exact same (.pointer none) (by simp [builtin, Go.Lib.run_unsafeSliceData_nil]) rfl (.i _ _ (.v _ trivial))
    · next k len ver tt =>
      split at hr
      · next T sz q floor hk =>
        cases hr
        obtain ⟨hu, hlive, hobj⟩ := hh k _ (restr_look hk)
        obtain ⟨_, hrow, _⟩ := rep_row h0
        obtain ⟨g0, a, c, rfl, g1, g2, g3, g4, g5, g6⟩ := hrow hlive
        obtain ⟨ad, rfl, grest⟩ := g5 hc.1
        obtain ⟨_, o1, o2, o3, o4, ofl, o5, o6⟩ := hobj
        have hpos := hc.1
        refine same (.pointer (some ad)) ?_ rfl (.rp _ _ _ _ _ hu (fun _ => ⟨g0, ad, rfl, by omega, g2, fun hf => ?_, fun he => ?_⟩) ⟨_, rfl⟩)
        · simp [builtin, Go.Lib.run_unsafeSliceData_row S.w _ _ ad len c (by omega)]
        · obtain ⟨p1, p2, p3⟩ := grest hf
          refine ⟨p1, fun hcur => by simpa using p2 hcur, fun j hj => ?_⟩
          have := p3 j (by
            have : 1 * S.sz k ≤ len * S.sz k := Nat.mul_le_mul_right _ hpos
            omega)
          simpa using this
        · have := g6 he
          cases hcur : S.cur k with
          | none => rw [hcur] at this; omega
          | some b =>
            rw [hcur] at this
            have h1 := this.1 (by omega)
            refine ⟨b, rfl, ?_⟩
            injection h1
      · cases hr
    · cases hr
  · next t t2 x n =>
    obtain ⟨v, u, rfl⟩ : ∃ v u, vs = [v, u] := by
      match vs, hl with
      | [v, u], _ => exact ⟨v, u, rfl⟩
    have h0 := hx 0 (by simp) (by simp)
    have h1 := hx 1 (by simp) (by simp)
    simp only [List.getElem_cons_zero, List.getElem_cons_succ] at h0 h1
    obtain ⟨rfl, _⟩ := rep_v h1
    split at hr
    · cases hr
      obtain ⟨rfl, _⟩ := rep_v h0
      have hn := hc.1
      subst hn
      exact same (.string ByteArray.empty) (by simp [builtin, Go.Lib.run_unsafeString_none]) rfl (.i _ _ (.v _ trivial))
    · next k ver =>
      split at hr
      · next T q floor e hk hpt =>
        split at hr
        case h_2 => cases hr
        next l hb hTe hce =>
        cases hr
        obtain ⟨hc1, hc2, hc3, hc4, hc5, _⟩ := hc
        have hTe := Nat.eq_of_beq_eq_true hTe
        subst hTe
        have hce := Nat.eq_of_beq_eq_true hce
        obtain ⟨hu, hlive, hobj⟩ := hh k _ (restr_look hk)
        have hrp : RpOK S v k 0 ver 0 := by cases h0 with | i _ _ h => cases h | rp _ _ _ _ _ _ hp _ => exact hp hlive
        obtain ⟨g0, ad, rfl, g1, g2, g3, g4⟩ := hrp
        obtain ⟨o0, o1, o2, o3, o4, ofl, o5, o6⟩ := hobj
        obtain ⟨b, hb', rfl⟩ := g4 (by omega)
        rw [hb'] at o6
        obtain ⟨ho, arr, ⟨fz, hheap, hfz⟩, hsz, hrep⟩ := o6
        have hlen : q.len = l.length := by
          revert hb
          cases q with
          | ints kk m => cases kk <;> (intro hb; first | (cases hb; rfl) | cases hb)
          | frz m => intro hb; cases hb; rfl
          | _ => intro hb; cases hb
        have hget : ∀ j, q.get j = .v (.int .u8 (l.getD j 0)) := by
          intro j
          revert hb
          cases q with
          | ints kk m => cases kk <;> (intro hb; first | (cases hb; rfl) | cases hb)
          | frz m => intro hb; cases hb; rfl
          | _ => intro hb; cases hb
        have hn : n = (l.length : Int) := by rw [← hlen]; exact hc3
        subst hn
        have hcell : ∀ j, j < l.length → S.w.cell? ((⟨b, 0, none⟩ : Addr).add j) = some (.int .u8 (l.getD j 0)) := by
          intro j hj
          have h2 := (hrep j 0 (by omega) (by rw [hget]; simp [AV.cells])).1
          rw [addr_add, cell_arr hheap]
          have hjs : 0 + j < arr.size := by omega
          rw [Array.getElem?_eq_getElem hjs]
          simp only [hget, AV.cells, List.getElem_cons_zero, Nat.mul_one, Nat.add_zero] at h2
          obtain ⟨h3, _⟩ := rep_v h2
          rw [Array.getD_eq_getD_getElem?, Array.getElem?_eq_getElem (by omega)] at h3
          simp only [Option.getD_some] at h3
          simp only [Nat.zero_add]
          rw [h3]
        have hrun := run_string_row (P := P) S.w t t2 ty T hpt hce b arr.size (by simp [World.shape?, hheap]) l (by omega) (by omega) (by omega) hc5 hcell
        obtain ⟨fz', hheap', hfz'⟩ := freeze_heap (n := l.length) hheap
        have e := fz_ext (S := S) (n := l.length) ho
        refine ⟨_, S.fz b l.length, ?_, fz_wf hwf ho, e, fun k h => .inl h, .i _ _ (.v _ trivial), fun j o hj => ?_⟩
        · have e0 : (⟨b, 0 * S.sz k + 0, none⟩ : Addr) = ⟨b, 0, none⟩ := by simp
          rw [e0]
          show (do let r ← Builtin.unsafeString_ #[t, t2] ty #[.pointer (some ⟨b, 0, none⟩), .int .i64 l.length]; pure (Next.value r) : Sem Next).run P S.w = _
          rw [Sem.run_bind, hrun]
          rfl
        · have hj' : look (put1 hp k (.row T 1 (.frz l) floor)) j = some o := hj
          rw [look_put] at hj'
          split at hj'
          · next h =>
            rw [h]
            cases hj'
            refine ⟨hu, hlive, o0, o1, o2, o3.trans hlen, o4, by show floor ≤ l.length; rw [← hlen]; exact ofl, fun i hi => rfl, ?_⟩
            show (match S.cur k with | none => _ | some b => _)
            rw [hb']
            refine ⟨ho, arr, ⟨fz', hheap', ?_⟩, by show l.length * 1 ≤ _; rw [← hlen]; exact hsz, fun i j hi hj => ?_⟩
            · have := fzOK_le hfz
              show fz'.2 ≤ l.length * 1
              omega
            · have h2 := hrep i j (by have : i < l.length := hi; omega) (by rw [hget]; exact hj)
              have e2 : q.get i = (Seq.frz (α := AV) l).get i := hget i
              simp only [e2] at h2
              exact ⟨h2.1.ext e, h2.2⟩
          · next h =>
            obtain ⟨h1, h2, h3⟩ := hh j o hj'
            exact ⟨h1, h2, h3.same e (fz_same ho fun e => h e)⟩
      · cases hr
    · cases hr
  · next t xt s =>
    split at hr
    · next e hh' ht hxt =>
      split at hr
      · next sz hsz =>
        cases hr
        obtain ⟨v, u, rfl⟩ : ∃ v u, vs = [v, u] := by
          match vs, hl with
          | [v, u], _ => exact ⟨v, u, rfl⟩
        have h0 := hx 0 (by simp) (by simp)
        have h1 := hx 1 (by simp) (by simp)
        simp only [List.getElem_cons_zero, List.getElem_cons_succ] at h0 h1
        obtain ⟨rfl, _⟩ := rep_v h0
        obtain ⟨rfl, _⟩ := rep_v h1
        have hs : s.size = 0 := hc.1
        have hni : notInt P xt = true := by unfold notInt; rw [hxt]
        have hext : s.extract 0 0 = ByteArray.empty := by simp
        have hrun := run_append_in (P := P) (ty := ty) (elemOf_spec ht) hsz hni (base := none) (n := 0) (c := 0) (x := .string s) (m := 0) (arr := #[]) (w := S.w) (by simp [Builtin.lenOf, hs]) (by simp [Builtin.firstCells]) (by omega) (w' := S.w) (fun a h => by cases h) (fun _ => rfl)
        exact same _ (by simp [builtin, hrun]) rfl (.i _ _ (.v _ trivial))
      · cases hr
    · cases hr
  · cases hr

end
end Go.Ev
