/- What is appended; append itself; texts and bytes. -/
import Derived.Test.YtbmadhdeikoecaaEvI
namespace Go.Ev

/-- cells that hold a list of elements -/
def CellsOf (S : St) (sz : Nat) (q : Seq AV) (arr : Array Value) : Prop :=
  arr.size = q.len * sz ∧ (∀ i, i < q.len → (q.get i).cells.length = sz) ∧
  ∀ i j, i < q.len → ∀ h : j < (q.get i).cells.length, Rep S (arr.getD (i * sz + j) undef) ((q.get i).cells[j]) ∧ okV (arr.getD (i * sz + j) undef)

/-- a slice or a text, and what it holds -/
structure Holds (P : Program) (S : St) (sz : Nat) (v : Value) (q : Seq AV) : Prop where
  len : ∀ w, (Builtin.lenOf v).run P w = .ok q.len w
  cells : ∃ arr, CellsOf S sz q arr ∧ ∀ w : World, w.heap = S.w.heap → (Builtin.firstCells sz q.len v).run P w = .ok arr w

theorem cell_heap {w w' : World} (h : w'.heap = w.heap) (a : Addr) : w'.cell? a = w.cell? a := by
  unfold World.cell?
  rw [h]

section
variable {P : Program}

theorem seqEmpty_len (d : Option TypeDesc) : (seqEmpty d).len = 0 := by
  unfold seqEmpty
  split <;> rfl

theorem holds_nil {S : St} {sz : Nat} {q : Seq AV} {a : Option Addr} {c : Nat} (hq : q.len = 0) : Holds P S sz (.slice a 0 c) q := by
  refine ⟨fun w => by rw [hq]; rfl, #[], ⟨by rw [hq]; simp, fun i hi => by omega, fun i j hi => by omega⟩, fun w _ => ?_⟩
  rw [hq]
  cases a with
  | none => rfl
  | some ad => simp [Builtin.firstCells, loadCells, loadCellsFrom]

/-- cells at an address, element by element -/
theorem holds_cells {S : St} {sz : Nat} {q : Seq AV} {ad : Addr} {c : Nat} (u : Nat → Nat → Value) (hsz : 0 < sz) (hl : ∀ i, i < q.len → (q.get i).cells.length = sz)
    (hc : ∀ i j, i < q.len → j < sz → S.w.cell? (ad.add (i * sz + j)) = some (u i j) ∧ okV (u i j)) (hr : ∀ i j, i < q.len → ∀ h : j < (q.get i).cells.length, Rep S (u i j) ((q.get i).cells[j])) : Holds P S sz (.slice (some ad) q.len c) q := by
  refine ⟨fun w => rfl, ((List.range (q.len * sz)).map fun p => u (p / sz) (p % sz)).toArray, ⟨by simp, hl, fun i j hi hj => ?_⟩, fun w hw => ?_⟩
  · have hj2 : j < sz := by rw [hl i hi] at hj; exact hj
    have hlt : i * sz + j < q.len * sz := by
      have : (i + 1) * sz ≤ q.len * sz := Nat.mul_le_mul_right _ hi
      rw [Nat.add_mul, Nat.one_mul] at this
      omega
    have e : (((List.range (q.len * sz)).map fun p => u (p / sz) (p % sz)).toArray).getD (i * sz + j) undef = u i j := by
      have h1 : (i * sz + j) / sz = i := by rw [Nat.mul_comm, Nat.mul_add_div hsz, Nat.div_eq_of_lt hj2, Nat.add_zero]
      have h2 : (i * sz + j) % sz = j := by rw [Nat.mul_comm, Nat.mul_add_mod]; exact Nat.mod_eq_of_lt hj2
      simp [Array.getD_eq_getD_getElem?, hlt, h1, h2]
    rw [e]
    exact ⟨hr i j hi hj, (hc i j hi hj2).2⟩
  · refine run_loadCells w ad (q.len * sz) (fun p => u (p / sz) (p % sz)) fun p hp => ?_
    rw [cell_heap hw]
    have h1 : p / sz < q.len := Nat.div_lt_of_lt_mul (by rw [Nat.mul_comm]; exact hp)
    have h2 : p % sz < sz := Nat.mod_lt _ hsz
    have := (hc (p / sz) (p % sz) h1 h2).1
    rwa [Nat.div_add_mod'] at this

theorem snapRow_spec {hp : List (Nat × AObj)} {ks : List Nat} {k off len ver : Nat} {tight : Bool} {x : AV} {c : List Prop} {kk : List Nat} (h : snapRow (restr hp ks) k off len ver tight = some (x, c, kk)) (hc : AllP c) :
    ∃ T sz q floor q', look hp k = some (.row T sz q floor) ∧ seqPlain q = true ∧ x = .sl sz q' tight ∧ kk = [k] ∧ floor ≤ ver ∧ (off + len ≤ q.len → q'.len = len ∧ ∀ i, i < len → q'.get i = q.get (off + i)) := by
  unfold snapRow at h
  split at h
  · next T sz q floor hk =>
    split at h
    · next hp =>
      cases h
      refine ⟨T, sz, q, floor, q, restr_look hk, hp, rfl, rfl, hc.2.1, fun _ => ⟨hc.1.symm, fun i _ => by rw [Nat.zero_add]⟩⟩
    · next off hp =>
      cases h
      refine ⟨T, sz, q, floor, (q.drop (off + 1)).take len, restr_look hk, hp, rfl, rfl, hc.1, fun hle => ⟨?_, fun i hi => ?_⟩⟩
      · exact Seq.len_take _ _ (by rw [Seq.len_drop]; omega)
      · rw [Seq.get_take _ _ _ hi, Seq.get_drop]
    · cases h
  · cases h

/-- what an own row's part holds -/
theorem row_holds {S : St} {T : TypeId} {k off len ver sz floor : Nat} {q q' : Seq AV} {tight : Bool} {v : Value} (ho : ObjOK S k (.row T sz q floor)) (hr : RowOK S v k off len ver tight) (hf : floor ≤ ver) (hq : q'.len = len) (hg : ∀ i, i < len → q'.get i = q.get (off + i)) :
    Holds P S sz v q' := by
  obtain ⟨_, o1, o2, o3, o4, _, o5, o6⟩ := ho
  obtain ⟨_, a, c, rfl, h1, h2, h3, h4, h5, h6⟩ := hr
  rcases Nat.eq_zero_or_pos len with h0 | h0
  · subst h0
    exact holds_nil hq
  · obtain ⟨ad, rfl, hrest⟩ := h5 h0
    obtain ⟨h7, h8, h9⟩ := hrest (by omega)
    subst hq
    cases hc : S.cur k with
    | none =>
      have := (h9 0 (by rw [o1]; exact Nat.mul_pos h0 o2)).1
      have h10 := (h9 0 (by rw [o1]; exact Nat.mul_pos h0 o2)).2
      rw [this] at h10
      unfold curCell at h10
      rw [hc] at h10
      cases h10
    | some b =>
      rw [hc] at o6
      obtain ⟨_, arr, hheap, hsz, hrep⟩ := o6
      have hin : ∀ i j, i < q'.len → j < sz → (off + i) * sz + j < arr.size := fun i j hi hj => by
        have : (off + i + 1) * sz ≤ q.len * sz := Nat.mul_le_mul_right _ (by omega)
        rw [Nat.add_mul (off + i), Nat.one_mul] at this
        omega
      refine holds_cells (fun i j => arr.getD ((off + i) * sz + j) undef) o2 (fun i hi => ?_) (fun i j hi hj => ?_) (fun i j hi hj => ?_)
      · rw [hg i hi]; exact o5 _ (by omega)
      · have hp : i * sz + j < q'.len * S.sz k := by
          rw [o1]
          have : (i + 1) * sz ≤ q'.len * sz := Nat.mul_le_mul_right _ hi
          rw [Nat.add_mul, Nat.one_mul] at this
          omega
        have hcell := (h9 (i * sz + j) hp).1
        unfold curCell at hcell
        rw [hc] at hcell
        simp only [cell_arr hheap] at hcell
        rw [o1, ← Nat.add_assoc, ← Nat.add_mul, Array.getElem?_eq_getElem (hin i j hi hj)] at hcell
        have h11 := (hrep (off + i) j (by omega) (by rw [o5 _ (by omega)]; exact hj)).2
        rw [hcell, Array.getD_eq_getD_getElem?, Array.getElem?_eq_getElem (hin i j hi hj)]
        rw [Array.getD_eq_getD_getElem?, Array.getElem?_eq_getElem (hin i j hi hj)] at h11
        exact ⟨rfl, h11⟩
      · have he := hg i hi
        have hj2 : j < (q.get (off + i)).cells.length := by rw [he] at hj; exact hj
        have := (hrep (off + i) j (by omega) hj2).1
        simpa [he] using this

theorem holds_sl {S : St} {sz : Nat} {q : Seq AV} {t : Bool} {v : Value} (h : RepI S.w S.free v (.sl sz q t)) : Holds P S sz v q := by
  cases h with
  | slNil _ _ _ hq => exact holds_nil hq
  | sl ad n c _ _ _ u hn hcap ht hsz hU hl hcell hrep =>
    subst hn
    exact holds_cells u hsz hl hcell fun i j hi hj => .i _ _ (hrep i j hi hj)

theorem intsOfStr_len (s : ByteArray) : (intsOfStr s).length = s.size := by simp [intsOfStr]

theorem contents_spec {S : St} {hp : List (Nat × AObj)} {ks : List Nat} {e : TypeId} {x : AV} {v : Value} {q : Seq AV} {c : List Prop} {sz : Nat} (hh : HeapOK S hp) (hs : sizeA P e = some sz) (h : contents P (restr hp ks) e x = some (q, c)) (hc : AllP c) (hx : Rep S v x) : Holds P S sz v q := by
  unfold contents at h
  rw [hs] at h
  simp only at h
  split at h
  · split at h
    · next hb =>
      cases h
      have := Nat.eq_of_beq_eq_true hb
      subst this
      obtain ⟨_, _, _, h, _⟩ := rep_sl hx
      exact holds_sl h
    · cases h
  · next k off len ver t =>
    split at h
    · next sz' q0 t' c0 kk hsn =>
      split at h
      · next hb =>
        cases h
        have := Nat.eq_of_beq_eq_true hb
        subst this
        obtain ⟨T, sz2, q2, floor, q', hk, _, hxe, _, hf, hq⟩ := snapRow_spec hsn hc
        cases hxe
        obtain ⟨hu, hl, ho⟩ := hh _ _ hk
        obtain ⟨_, hr, _⟩ := rep_row hx
        have hr := hr hl
        have ho2 := ho
        obtain ⟨_, _, _, o3, _⟩ := ho2
        have hr2 := hr
        obtain ⟨_, _, _, _, h1, h2, _⟩ := hr2
        obtain ⟨hq1, hq2⟩ := hq (by omega)
        exact row_holds ho hr hf hq1 hq2
      · cases h
    · cases h
  · cases h
    obtain ⟨rfl, _⟩ := rep_v hx
    exact holds_nil (seqEmpty_len _)
  · next t =>
    split at h
    · next he hb =>
      cases h
      have := Nat.eq_of_beq_eq_true hb
      subst this
      obtain ⟨rfl, _⟩ := rep_v hx
      have hlen : (Seq.ints (α := AV) .u8 (intsOfStr t)).len = t.size := intsOfStr_len t
      refine ⟨fun w => by rw [hlen]; rfl, (t.data.map fun b => .int .u8 b.toNat), ⟨by rw [hlen]; simp, fun i _ => rfl, fun i j hi hj => ?_⟩, fun w _ => ?_⟩
      · have hj0 : j = 0 := by simpa [Seq.get, AV.cells] using hj
        subst hj0
        rw [hlen] at hi
        have hi2 : i < t.data.size := hi
        simp only [Seq.get, AV.cells, List.getElem_cons_zero, Nat.mul_one, Nat.add_zero]
        rw [Array.getD_eq_getD_getElem?, Array.getElem?_map, Array.getElem?_eq_getElem hi2]
        simp only [Option.map_some, Option.getD_some]
        have : (intsOfStr t).getD i 0 = (t.data[i].toNat : Int) := by simp [intsOfStr, Array.getElem?_eq_getElem hi2]
        rw [this]
        exact ⟨.v trivial, trivial⟩
      · rw [hlen]
        simp only [Builtin.firstCells, Sem.run_pure]
        congr 1
        have : t.extract 0 t.size = t := by
          apply ByteArray.ext
          simp
        rw [this]
    · cases h
  · cases h

/-! ### append -/

theorem notInt_run {t : TypeId} (h : notInt P t = true) : (∃ e, P.underlying t = some (.slice e)) ∨ P.underlying t = some .string := by
  unfold notInt at h
  split at h
  · next e he => exact .inl ⟨e, he⟩
  · next he => exact .inr he
  · cases h

/-- append where there is room -/
theorem run_append_in {t xt ty e : TypeId} {sz : Nat} (ht : P.underlying t = some (.slice e)) (hs : sizeA P e = some sz) (hx : notInt P xt = true) {w : World} {base : Option Addr} {n c m : Nat} {x : Value} {arr : Array Value}
    (hl : (Builtin.lenOf x).run P w = .ok m w) (hf : (Builtin.firstCells sz m x).run P w = .ok arr w) (hroom : n + m ≤ c) {w' : World}
    (hst : ∀ a, base = some a → (storeCells (a.add (n * sz)) arr.toList).run P w = .ok () w') (hno : base = none → w' = w) :
    (Builtin.append_ #[t, xt] ty #[.slice base n c, x]).run P w = .ok (.slice base (n + m) c) w' := by
  rcases notInt_run hx with ⟨e', hd⟩ | hd
  all_goals cases base with
  | none =>
    have := hno rfl
    subst this
    simp [Builtin.append_, run_underlying ht, run_sizeOf hs, run_underlying hd, hl, hf, hroom]
  | some a =>
    have := hst a rfl
    simp [Builtin.append_, run_underlying ht, run_sizeOf hs, run_underlying hd, hl, hf, hroom, this]

/-- append where there is none -/
theorem run_append_out {t xt ty e : TypeId} {sz bytes : Nat} {z : List AV} (ht : P.underlying t = some (.slice e)) (hs : sizeA P e = some sz) (hb : bytesA P e = some (bytes + 1)) (hz : zeroCellsA P e = some z) (hx : notInt P xt = true) {w : World} {base : Option Addr} {n c m : Nat} {x : Value} {arr old : Array Value}
    (hl : (Builtin.lenOf x).run P w = .ok m w) (hf : (Builtin.firstCells sz m x).run P w.drew = .ok arr w.drew) (ho : (Builtin.firstCells sz n (.slice base n c)).run P w.drew = .ok old w.drew) (hroom : c < n + m) (hfit : (n + m) * (bytes + 1) ≤ 140737488355328) :
    ∃ rest : Array Value, rest.size = (grownCap w (n + m) c e - (n + m)) * z.length ∧
    (Builtin.append_ #[t, xt] ty #[.slice base n c, x]).run P w = .ok (.slice (some ⟨w.heap.size, 0, none⟩) (n + m) (grownCap w (n + m) c e)) (w.drew.alloc (.cells (old ++ arr ++ rest) e)) := by
  obtain ⟨i, hi, hib, his⟩ := bytesA_spec hb hs
  obtain ⟨i', zv, hi', hiz, hzr⟩ := zero_of hz
  obtain ⟨zv', hzr', hzs, _⟩ := zeroCells_spec hz
  have hzz : zv' = zv := by
    have := (hzr' w).symm.trans (hzr w)
    injection this
  subst hzz
  have hn : ¬ (n + m ≤ c) := by omega
  have hle : n + m ≤ (n + m) * (bytes + 1) := Nat.le_mul_of_pos_right _ (Nat.succ_pos _)
  have h63 : ¬ (9223372036854775807 < ((n : Int) + (m : Int))) := by omega
  have hfits := growslice_fits hroom hfit
  have h48 : ¬ (281474976710656 < Builtin.nextslicecap (n + m) c * (bytes + 1)) := by omega
  have hm : IntKind.i64.max = 9223372036854775807 := by decide
  refine ⟨Builtin.zeroCells zv'.cells (grownCap w (n + m) c e - (n + m)), by rw [size_zeroCells, hzs], ?_⟩
  rcases notInt_run hx with ⟨e', hd⟩ | hd <;>
  simp [Builtin.append_, run_underlying ht, run_sizeOf hs, run_underlying hd, hl, hn, typeInfo, hi, hib, hm, h63, h48, Question.forced, hf, ho, hzr, newRow, grownCap]

theorem Seq.app_spec {q r q' : Seq AV} (h : q.app r = some q') : q'.len = q.len + r.len ∧ (∀ i, i < q.len → q'.get i = q.get i) ∧ ∀ i, i < r.len → q'.get (q.len + i) = r.get i := by
  unfold Seq.app at h
  split at h
  · next k l k' l' =>
    split at h
    · next hk =>
      cases h
      have := kindEq_eq hk
      subst this
      refine ⟨by simp [Seq.len], fun i hi => ?_, fun i hi => ?_⟩
      · have hi' : i < l.length := hi
        simp [Seq.get, List.getElem?_append, hi']
      · show AV.v (.int k ((l ++ l').getD (l.length + i) 0)) = AV.v (.int k (l'.getD i 0))
        rw [List.getD_eq_getElem?_getD, List.getElem?_append_right (by omega), Nat.add_sub_cancel_left, List.getD_eq_getElem?_getD]
    · cases h
  · next l l' =>
    cases h
    refine ⟨by simp [Seq.len], fun i hi => ?_, fun i hi => ?_⟩
    · have hi' : i < l.length := hi
      simp [Seq.get, List.getElem?_append, hi']
    · show AV.v (.string ((l ++ l').getD (l.length + i) ByteArray.empty)) = AV.v (.string (l'.getD i ByteArray.empty))
      rw [List.getD_eq_getElem?_getD, List.getElem?_append_right (by omega), Nat.add_sub_cancel_left, List.getD_eq_getElem?_getD]
  · next l l' =>
    cases h
    refine ⟨by simp [Seq.len], fun i hi => ?_, fun i hi => ?_⟩
    · have hi' : i < l.length := hi
      simp [Seq.get, List.getElem?_append, hi']
    · show (l ++ l').getD (l.length + i) AV.junk = l'.getD i AV.junk
      rw [List.getD_eq_getElem?_getD, List.getElem?_append_right (by omega), Nat.add_sub_cancel_left, List.getD_eq_getElem?_getD]
  · cases h

theorem appA_spec {sz sz' : Nat} {q r q' : Seq AV} (h : appA sz sz' q r = some q') : sz' = sz ∧ q.app r = some q' := by
  unfold appA at h
  split at h
  · next hb => exact ⟨Nat.eq_of_beq_eq_true hb, h⟩
  · cases h

theorem getD_append_left {a b : Array Value} {i : Nat} (h : i < a.size) : (a ++ b).getD i undef = a.getD i undef := by
  simp [Array.getD_eq_getD_getElem?, Array.getElem?_append, h]

theorem getD_append_right {a b : Array Value} {i : Nat} (h : a.size ≤ i) : (a ++ b).getD i undef = b.getD (i - a.size) undef := by
  have : ¬ i < a.size := by omega
  simp [Array.getD_eq_getD_getElem?, Array.getElem?_append, this]

/-- two lists of elements, one behind the other -/
theorem cellsOf_append {S : St} {sz : Nat} {q r q' : Seq AV} {a b : Array Value} (hq : CellsOf S sz q a) (hr : CellsOf S sz r b) (h : q.app r = some q') : CellsOf S sz q' (a ++ b) := by
  obtain ⟨a1, a2, a3⟩ := hq
  obtain ⟨b1, b2, b3⟩ := hr
  obtain ⟨h1, h2, h3⟩ := Seq.app_spec h
  refine ⟨by simp [a1, b1, h1, Nat.add_mul], fun i hi => ?_, fun i j hi hj => ?_⟩
  · rcases Nat.lt_or_ge i q.len with hl | hl
    · rw [h2 i hl]; exact a2 i hl
    · obtain ⟨i, rfl⟩ := Nat.exists_eq_add_of_le hl
      rw [h3 i (by omega)]; exact b2 i (by omega)
  · rcases Nat.lt_or_ge i q.len with hl | hl
    · have he := h2 i hl
      have hj2 : j < (q.get i).cells.length := by rw [he] at hj; exact hj
      have hlt : i * sz + j < a.size := by
        rw [a1]
        have : (i + 1) * sz ≤ q.len * sz := Nat.mul_le_mul_right _ hl
        rw [Nat.add_mul, Nat.one_mul] at this
        rw [a2 i hl] at hj2
        omega
      rw [getD_append_left hlt]
      simpa [he] using a3 i j hl hj2
    · obtain ⟨i, rfl⟩ := Nat.exists_eq_add_of_le hl
      have he := h3 i (by omega)
      have hj2 : j < (r.get i).cells.length := by rw [he] at hj; exact hj
      have hge : a.size ≤ (q.len + i) * sz + j := by rw [a1, Nat.add_mul]; omega
      rw [getD_append_right hge, a1, show (q.len + i) * sz + j - q.len * sz = i * sz + j by rw [Nat.add_mul]; omega]
      simpa [he] using b3 i j (by omega) hj2

theorem cellsOf_ext {S S' : St} (e : Ext S S') {sz : Nat} {q : Seq AV} {a : Array Value} (h : CellsOf S sz q a) : CellsOf S' sz q a :=
  ⟨h.1, h.2.1, fun i j hi hj => ⟨(h.2.2 i j hi hj).1.ext e, (h.2.2 i j hi hj).2⟩⟩

end
end Go.Ev
