/- Operations on memory come to what the model's come to: reading, places, fields, indexes. -/
import Derived.Test.YtbmadhdeikoecaaEvD
namespace Go.Ev

section
variable {P : Program}

theorem run_sizeOf {t : TypeId} {sz : Nat} (h : sizeA P t = some sz) (w : World) : (sizeOf t).run P w = .ok sz w := by
  unfold sizeA at h
  cases hi : P.info? t with
  | none => rw [hi] at h; cases h
  | some i =>
    rw [hi] at h
    cases h
    simp [sizeOf, typeInfo, hi]

theorem underlying_info {t : TypeId} {d : TypeDesc} (h : P.underlying t = some d) : ∃ i, P.info? t = some i := by
  unfold Program.underlying at h
  cases hi : P.info? t with
  | none => rw [hi] at h; cases h
  | some i => exact ⟨i, rfl⟩

theorem run_isAgg {t : TypeId} {b : Bool} (h : isAggA P t = some b) (w : World) : (isAgg t).run P w = .ok b w := by
  unfold isAggA at h
  split at h
  · next ht => cases h; simp [isAgg, run_underlying ht]
  · next ht => cases h; simp [isAgg, run_underlying ht]
  · next d hs ha ht =>
    cases h
    cases d <;> first | (simp [isAgg, run_underlying ht]; done) | exact (hs _ rfl).elim | exact (ha _ _ rfl).elim
  · cases h

theorem elemOf_spec {t e : TypeId} (h : elemOf P t = some e) : P.underlying t = some (.slice e) := by
  unfold elemOf at h
  split at h
  · next ht => cases h; exact ht
  · cases h

/-- the variable at an address -/
theorem run_loadVar {t : TypeId} {sz : Nat} {agg : Bool} (hs : sizeA P t = some sz) (ha : isAggA P t = some agg) (w : World) (ad : Addr) (u : Nat → Value)
    (hu : ∀ j, j < (if agg then sz else 1) → w.cell? (ad.add j) = some (u j)) : (loadVar t ad).run P w = .ok (if agg then .agg ((List.range sz).map u).toArray else u 0) w := by
  unfold loadVar
  rw [Sem.run_bind, run_isAgg ha]
  cases agg with
  | true =>
    simp only [Result.andThen_ok, if_true, Sem.run_bind, run_sizeOf hs]
    rw [run_loadCells w ad sz u (fun j hj => hu j hj)]
    simp
  | false =>
    have h0 := hu 0 (by simp)
    have : ad.add 0 = ad := rfl
    rw [this] at h0
    simp [h0]

/-! ### where a pointer leads -/

/-- a pointer, and the cells that are known from there on -/
def PtrCells (S : St) (v : Value) (cs : List AV) : Prop :=
  ∃ (ad : Addr) (u : Nat → Value), v = .pointer (some ad) ∧ ∀ j (h : j < cs.length), S.w.cell? (ad.add j) = some (u j) ∧ Rep S (u j) cs[j]

theorem addr_add (b o j : Nat) : (⟨b, o, none⟩ : Addr).add j = ⟨b, o + j, none⟩ := by
  unfold Addr.add; split <;> simp_all

theorem cell_arr {w : World} {b : Nat} {arr : Array Value} {T : TypeId} {fr : Nat × Nat} (h : w.heap[b]? = some (.cells arr T fr)) (i : Nat) : w.cell? ⟨b, i, none⟩ = arr[i]? := by
  simp [World.cell?, h]

theorem ptrCells_ip {S : St} {v : Value} {cs : List AV} (h : Rep S v (.ip cs)) : PtrCells S v cs := by
  cases h with
  | i _ _ h =>
    cases h with
    | ip ad _ u _ hc hr => exact ⟨ad, u, rfl, fun j hj => ⟨hc j hj, .i _ _ (hr j hj)⟩⟩

theorem ptrCells_ptr {S : St} {v : Value} {k off : Nat} {T : TypeId} {cs : List AV} (h : Rep S v (.ptr k off)) (hl : S.live k) (ho : ObjOK S k (.cells T cs)) : PtrCells S v (cs.drop off) := by
  cases h with
  | i _ _ h => cases h
  | ptr _ _ _ _ hp _ =>
    obtain ⟨_, b, hb, rfl⟩ := hp hl
    obtain ⟨_, b', arr, hc, _, hh, hs, hr⟩ := ho
    rw [hb] at hc
    cases hc
    refine ⟨_, fun j => arr.getD (off + j) undef, rfl, fun j hj => ?_⟩
    have hj' : off + j < cs.length := by have := hj; simp at this; omega
    have hja : off + j < arr.size := by omega
    constructor
    · rw [addr_add, cell_arr hh, Array.getElem?_eq_getElem hja]
      simp [hja]
    · have := hr (off + j) hj'
      simpa using this

theorem ptrCells_rp {S : St} {v : Value} {k i ver off : Nat} {T : TypeId} {sz floor : Nat} {q : Seq AV} (h : Rep S v (.rp k i ver off)) (hl : S.live k) (ho : ObjOK S k (.row T sz q floor)) (hf : floor ≤ ver) :
    PtrCells S v ((q.get i).cells.drop off) := by
  cases h with
  | i _ _ h => cases h
  | rp _ _ _ _ _ _ hp _ =>
    obtain ⟨_, ad, rfl, h1, h2, h3, _⟩ := hp hl
    obtain ⟨_, h4, h5, h6, h7, _, h8, h9⟩ := ho
    rw [h7] at h3
    rw [h4] at h3
    obtain ⟨_, _, hcell⟩ := h3 hf
    have hi : i < q.len := by omega
    have hlen := h8 i hi
    cases hc : S.cur k with
    | none => rw [hc] at h9; omega
    | some b =>
      rw [hc] at h9
      obtain ⟨_, arr, hh, hsz, hr⟩ := h9
      refine ⟨ad, fun j => arr.getD (i * sz + (off + j)) undef, rfl, fun j hj => ?_⟩
      have hj' : off + j < (q.get i).cells.length := by have := hj; simp at this; omega
      have hin : i * sz + (off + j) < arr.size := by
        have h1 : i * sz + sz ≤ q.len * sz := by rw [← Nat.succ_mul]; exact Nat.mul_le_mul_right _ hi
        omega
      constructor
      · rw [(hcell j (by omega)).1]
        unfold curCell
        rw [hc]
        show S.w.cell? _ = _
        rw [cell_arr hh, Nat.add_assoc, Array.getElem?_eq_getElem hin]
        simp [hin]
      · have := (hr i (off + j) hi hj').1
        simpa using this

theorem restr_look {hp : List (Nat × AObj)} {ks : List Nat} {k : Nat} {o : AObj} (h : restr hp ks k = some o) : look hp k = some o := by
  unfold restr at h
  split at h
  · exact h
  · cases h

theorem loadFin_run {S : St} {t : TypeId} {sz : Nat} {agg : Bool} {cs : List AV} {c : List Prop} {v : Value} {r : R} (hs : sizeA P t = some sz) (ha : isAggA P t = some agg) (he : loadFin agg sz cs c = some r) (hp : PtrCells S v cs) :
    r.upd = [] ∧ ∃ y, (Instr.loadAt t v).run P S.w = .ok y S.w ∧ Rep S y r.val := by
  obtain ⟨ad, u, rfl, hcs⟩ := hp
  cases agg with
  | true =>
    simp only [loadFin] at he
    split at he
    · next hb =>
      cases he
      have hle : sz ≤ cs.length := Nat.le_of_ble_eq_true hb
      refine ⟨rfl, .agg ((List.range sz).map u).toArray, ?_, ?_⟩
      · simp only [Instr.loadAt, Instr.sureAddr, Sem.run_bind, Sem.run_pure, Result.andThen_ok]
        exact run_loadVar hs ha S.w ad u (fun j hj => (hcs j (by simp at hj; omega)).1)
      · refine .agg _ _ (by simp; omega) fun i hi => ?_
        have hi' : i < sz := by simp at hi; omega
        have := (hcs i (by omega)).2
        simpa [hi', List.getElem_take] using this
    · cases he
  | false =>
    cases cs with
    | nil => cases he
    | cons y ys =>
      cases he
      refine ⟨rfl, u 0, ?_, ?_⟩
      · simp only [Instr.loadAt, Instr.sureAddr, Sem.run_bind, Sem.run_pure, Result.andThen_ok]
        have := run_loadVar hs ha S.w ad u (fun j hj => (hcs j (by simp at hj ⊢; omega)).1)
        simpa using this
      · exact (hcs 0 (by simp)).2

theorem loadFin_cond {sz : Nat} {agg : Bool} {cs : List AV} {c : List Prop} {r : R} (he : loadFin agg sz cs c = some r) : r.cond = c := by
  cases agg with
  | true => simp only [loadFin] at he; split at he <;> cases he; rfl
  | false => cases cs <;> cases he; rfl

theorem cellsA_spec {S : St} {hp : List (Nat × AObj)} {ks : List Nat} {x : AV} {v : Value} {cs : List AV} {c : List Prop} (hh : HeapOK S hp) (he : cellsA (restr hp ks) x = some (cs, c)) (hc : AllP c) (hx : Rep S v x) : PtrCells S v cs := by
  unfold cellsA at he
  split at he
  · cases he; exact ptrCells_ip hx
  · split at he
    · next hk =>
      cases he
      obtain ⟨_, h2, h3⟩ := hh _ _ (restr_look hk)
      exact ptrCells_ptr hx h2 h3
    · cases he
  · split at he
    · next hk =>
      cases he
      obtain ⟨_, h2, h3⟩ := hh _ _ (restr_look hk)
      exact ptrCells_rp hx h2 h3 hc.1
    · cases he
  · cases he

theorem loadA_run {S : St} {hp : List (Nat × AObj)} {ks : List Nat} {t : TypeId} {x : AV} {v : Value} {r : R} (hh : HeapOK S hp) (hr : loadA P (restr hp ks) t x = some r) (hc : AllP r.cond) (hx : Rep S v x) :
    r.upd = [] ∧ ∃ y, (Instr.loadAt t v).run P S.w = .ok y S.w ∧ Rep S y r.val := by
  unfold loadA at hr
  split at hr
  · next sz agg cs c hs ha he =>
    rw [loadFin_cond hr] at hc
    exact loadFin_run hs ha hr (cellsA_spec hh he hc hx)
  · cases hr

/-! ### places -/

theorem add_add (ad : Addr) (i j : Nat) : (ad.add i).add j = ad.add (i + j) := by
  unfold Addr.add
  by_cases hi : i = 0
  · subst hi; simp
  · by_cases hj : j = 0
    · subst hj; simp [hi]
    · simp [hi, hj, Nat.add_assoc]

theorem run_fieldPlace {t : TypeId} {f o : Nat} (h : fieldPlaceA P t f = some o) (w : World) (ad : Addr) : (Instr.fieldAt t (.pointer (some ad)) f).run P w = .ok (.pointer (some (ad.add o))) w := by
  unfold fieldPlaceA at h
  split at h
  · next fields ht =>
    split at h
    · next fd hf =>
      split at h
      · next s hs =>
        cases h
        simp [Instr.fieldAt, run_underlying ht, hf, Instr.sureAddr, fieldPlace, run_sizeOf hs]
      · cases h
    · cases h
  · cases h

/-- a field's place, in whatever memory a pointer leads to -/
theorem fieldAddr_run {S : St} {t : TypeId} {f o : Nat} {x : AV} {v : Value} (h : fieldPlaceA P t f = some o) (hx : Rep S v x) :
    match x with
    | .ip cs => ∃ y, (Instr.fieldAt t v f).run P S.w = .ok y S.w ∧ Rep S y (.ip (cs.drop o))
    | .ptr k off => ∃ y, (Instr.fieldAt t v f).run P S.w = .ok y S.w ∧ Rep S y (.ptr k (off + o))
    | .rp k i ver off => ∃ y, (Instr.fieldAt t v f).run P S.w = .ok y S.w ∧ Rep S y (.rp k i ver (off + o))
    | _ => True := by
  cases x <;> simp only
  case ip cs =>
    cases hx with
    | i _ _ hx =>
      cases hx with
      | ip ad _ u hU hc hr =>
        refine ⟨_, run_fieldPlace h S.w ad, .i _ _ (.ip _ _ (fun j => u (o + j)) (fun h0 => ?_) (fun j hj => ?_) (fun j hj => ?_))⟩
        · rw [add_block]; exact hU (by simp at h0; omega)
        · rw [add_add]; exact hc _ (by simp at hj; omega)
        · have := hr (o + j) (by simp at hj; omega)
          simpa using this
  case ptr k off =>
    cases hx with
    | i _ _ hx => cases hx
    | ptr _ _ _ hu hp hv =>
      obtain ⟨ad, rfl⟩ := hv
      refine ⟨_, run_fieldPlace h S.w ad, .ptr _ _ _ hu (fun hl => ?_) ⟨_, rfl⟩⟩
      obtain ⟨h1, b, hb, he⟩ := hp hl
      cases he
      exact ⟨h1, b, hb, by rw [addr_add]⟩
  case rp k i ver off =>
    cases hx with
    | i _ _ hx => cases hx
    | rp _ _ _ _ _ hu hp hv =>
      obtain ⟨ad, rfl⟩ := hv
      refine ⟨_, run_fieldPlace h S.w ad, .rp _ _ _ _ _ hu (fun hl => ?_) ⟨_, rfl⟩⟩
      obtain ⟨h0, ad', he, h1, h2, h3, h4⟩ := hp hl
      cases he
      refine ⟨h0, _, rfl, h1, h2, fun hf => ?_, fun hv => ?_⟩
      · obtain ⟨ho, hcur, hc⟩ := h3 hf
        refine ⟨by rw [add_block]; exact ho, fun hcc => ?_, fun j hj => ?_⟩
        · rw [add_block] at hcc ⊢
          have := hcur hcc
          rw [this, addr_add, Nat.add_assoc]
        have := hc (o + j) (by omega)
        rw [add_add, show i * S.sz k + (off + o) + j = i * S.sz k + off + (o + j) by omega]
        exact this
      · obtain ⟨b, hb, he⟩ := h4 hv
        subst he
        exact ⟨b, hb, by rw [addr_add, Nat.add_assoc]⟩

/-- a part of a value -/
theorem partA_run {S : St} {t : TypeId} {arr : Array Value} {cs : List AV} {off : Nat} {x : AV} (h : partA P t cs off = some x) (hs : arr.size = cs.length) (hr : ∀ i (hi : i < cs.length), Rep S (arr.getD i undef) cs[i]) (w : World) :
    ∃ y, (part t arr off).run P w = .ok y w ∧ Rep S y x := by
  unfold partA at h
  split at h
  · next sz ha hz =>
    split at h
    · next hb =>
      cases h
      have hle := Nat.le_of_ble_eq_true hb
      refine ⟨.agg (arr.extract off (off + sz)), ?_, ?_⟩
      · simp [part, run_isAgg ha, run_sizeOf hz]
      · refine .agg _ _ (by simp; omega) fun i hi => ?_
        have hi' : i < sz := by simp at hi; omega
        have := hr (off + i) (by omega)
        have h1 : off + i < arr.size := by omega
        simp only [List.getElem_take, List.getElem_drop]
        rw [Array.getD_eq_getD_getElem?] at this ⊢
        rw [Array.getElem?_extract]
        have h2 : i < min (off + sz) arr.size - off := by omega
        simpa [h2] using this
    · cases h
  · next sz ha hz =>
    have hlt : off < cs.length := by
      rcases Nat.lt_or_ge off cs.length with h' | h'
      · exact h'
      · rw [List.getElem?_eq_none h'] at h; cases h
    rw [List.getElem?_eq_getElem hlt] at h
    cases h
    have h1 : off < arr.size := by omega
    have := hr off hlt
    refine ⟨arr[off], ?_, ?_⟩
    · simp [part, run_isAgg ha, Array.getElem?_eq_getElem h1]
    · rw [Array.getD_eq_getD_getElem?, Array.getElem?_eq_getElem h1] at this
      exact this
  · cases h

theorem rep_agg {S : St} {v : Value} {cs : List AV} (h : Rep S v (.agg cs)) : ∃ arr, v = .agg arr ∧ arr.size = cs.length ∧ ∀ i (hi : i < cs.length), Rep S (arr.getD i undef) cs[i] := by
  cases h with
  | agg arr _ hs hr => exact ⟨arr, rfl, hs, hr⟩
  | i _ _ h => cases h with | agg arr _ hs hr => exact ⟨arr, rfl, hs, fun i hi => .i _ _ (hr i hi)⟩

theorem rep_tup {S : St} {v : Value} {cs : List AV} (h : Rep S v (.tup cs)) : ∃ arr, v = .tuple arr ∧ arr.size = cs.length ∧ ∀ i (hi : i < cs.length), Rep S (arr.getD i undef) cs[i] := by
  cases h with
  | tup arr _ hs hr => exact ⟨arr, rfl, hs, hr⟩
  | i _ _ h => cases h with | tup arr _ hs hr => exact ⟨arr, rfl, hs, fun i hi => .i _ _ (hr i hi)⟩

theorem extract_run {S : St} {v : Value} {cs : List AV} {i : Nat} {x : AV} (h : Rep S v (.tup cs)) (hx : cs[i]? = some x) (w : World) : ∃ y, (Instr.extract v i).run P w = .ok y w ∧ Rep S y x := by
  obtain ⟨arr, rfl, hs, hr⟩ := rep_tup h
  have hlt : i < cs.length := by
    rcases Nat.lt_or_ge i cs.length with h' | h'
    · exact h'
    · rw [List.getElem?_eq_none h'] at hx; cases hx
  rw [List.getElem?_eq_getElem hlt] at hx
  cases hx
  have h1 : i < arr.size := by omega
  have := hr i hlt
  rw [Array.getD_eq_getD_getElem?, Array.getElem?_eq_getElem h1] at this
  exact ⟨arr[i], by simp [Instr.extract, Array.getElem?_eq_getElem h1], this⟩

/-! ### indexes -/

theorem ixPlus_eq (off i : Nat) : ixPlus off i = off + i := by
  unfold ixPlus
  split
  · omega
  · rfl

theorem run_indexAt {t e : TypeId} {sz : Nat} (ht : P.underlying t = some (.slice e)) (hs : sizeA P e = some sz) (w : World) (ad : Addr) (n c : Nat) (k : IntKind) (i : Int) (h0 : 0 ≤ i) (h1 : i < (n : Int)) :
    (Instr.indexAt t (.slice (some ad) n c) (.int k i)).run P w = .ok (.pointer (some (ad.add (i.toNat * sz)))) w := by
  simp [Instr.indexAt, asIntOf, run_underlying ht, h0, h1, run_sizeOf hs]

theorem run_index_string {t : TypeId} (ht : P.underlying t = some .string) (w : World) (s : ByteArray) (k : IntKind) (i : Int) (h0 : 0 ≤ i) (h1 : i < (s.size : Int)) :
    (Instr.index t (.string s) (.int k i)).run P w = .ok (.int .u8 (byteAt s i.toNat)) w := by
  have hlt : i.toNat < s.size := by omega
  have hl : i.toNat < s.data.toList.length := by simpa using hlt
  have hb : s[i.toNat]? = some s[i.toNat] := by simp [hlt]
  simp only [Instr.index, Sem.run_bind, asIntOf, Sem.run_pure, Result.andThen_ok, run_underlying ht, h0, if_true, hb, byteAt, List.getD_eq_getElem?_getD, List.getElem?_eq_getElem hl, Option.getD_some]
  rfl

theorem indexA_run {S : St} {t : TypeId} {x i : AV} {vx vi : Value} {r : R} (hr : indexA P t x i = some r) (hc : AllP r.cond) (hx : Rep S vx x) (hi : Rep S vi i) (w : World) :
    r.upd = [] ∧ ∃ y, (Instr.index t vx vi).run P w = .ok y w ∧ Rep S y r.val := by
  unfold indexA at hr
  split at hr
  · next s k i ht =>
    cases hr
    obtain ⟨rfl, _⟩ := rep_v hx
    obtain ⟨rfl, _⟩ := rep_v hi
    exact ⟨rfl, _, run_index_string ht w s k i hc.1.1 hc.1.2, .v trivial⟩
  · next n e cs k i ht =>
    obtain ⟨rfl, _⟩ := rep_v hi
    obtain ⟨arr, rfl, hs, hr'⟩ := rep_agg hx
    split at hr
    · next sz hz =>
      split at hr
      · next y hp =>
        cases hr
        obtain ⟨v, h1, h2⟩ := partA_run hp hs hr' w
        refine ⟨rfl, v, ?_, h2⟩
        simp [Instr.index, asIntOf, run_underlying ht, hc.1.1, hc.1.2, run_sizeOf hz, h1]
      · cases hr
    · cases hr
  · cases hr

end
end Go.Ev
