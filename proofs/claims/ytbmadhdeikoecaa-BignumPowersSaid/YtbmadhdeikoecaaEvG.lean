/- Memory that turns: stores, new variables. -/
import Derived.Test.YtbmadhdeikoecaaEvF
namespace Go.Ev

/-- the block of a key holds other cells -/
def St.set (S : St) (k b : Nat) (arr : Array Value) (n fl : Nat) : St :=
  { S with w := S.w.setRow b arr, len := upd S.len k n, floor := upd S.floor k fl }

theorem setRow_size (w : World) (b : Nat) (arr : Array Value) : (w.setRow b arr).heap.size = w.heap.size := by simp [World.setRow]

section set
variable {S : St} {k b : Nat} {arr : Array Value} {n fl : Nat}

theorem set_same (ho : S.own b = some (some k)) {j : Nat} (hj : j ≠ k) : Same S (S.set k b arr n fl) j := by
  refine ⟨rfl, upd_ne _ _ hj, rfl, upd_ne _ _ hj, rfl, fun c hc => ⟨?_, hc⟩⟩
  have : c ≠ b := fun e => hj (by subst e; rw [ho] at hc; injection hc with hc; injection hc with hc; exact hc.symm)
  exact setRow_other S.w b c arr this

theorem set_wf (hwf : S.wf) : (S.set k b arr n fl).wf :=
  ⟨fun c o hc => by show c < (S.w.setRow b arr).heap.size; rw [setRow_size]; exact hwf.bound c o hc, hwf.kept, hwf.lu⟩

theorem set_ext (hwf : S.wf) (ho : S.own b = some (some k))
    (hk : S.live k → (∀ v off len ver t, RowOK S v k off len ver t → RowOK (S.set k b arr n fl) v k off len ver t) ∧ (∀ v i ver off, RpOK S v k i ver off → RpOK (S.set k b arr n fl) v k i ver off)) : Ext S (S.set k b arr n fl) := by
  refine ⟨by show _ ≤ (S.w.setRow b arr).heap.size; rw [setRow_size]; omega, rfl, rfl, rfl, fun c _ hc => ⟨setRow_other S.w b c arr (fun e => hc k (e ▸ ho)), rfl⟩, fun _ h => h, fun j hu hl => ?_⟩
  by_cases hj : j = k
  · subst hj
    exact ⟨hl, (hk hl).1, (hk hl).2, fun _ _ h => h⟩
  · have hs := set_same (arr := arr) (n := n) (fl := fl) ho hj
    exact ⟨hl, fun _ _ _ _ _ r => hs.row (hwf.kept j hl) r, fun _ _ _ _ r => hs.rp (hwf.kept j hl) r, fun _ _ r => hs.ptr r⟩

theorem set_heap (e : Ext S (S.set k b arr n fl)) (ho : S.own b = some (some k)) {hp : List (Nat × AObj)} (hh : HeapOK S hp) {o : AObj} (hu : S.used k) (hl : S.live k) (hobj : ObjOK (S.set k b arr n fl) k o) : HeapOK (S.set k b arr n fl) (put1 hp k o) := by
  intro j o' hj
  rw [look_put] at hj
  split at hj
  · next h => subst h; cases hj; exact ⟨hu, hl, hobj⟩
  · next h =>
    obtain ⟨h1, h2, h3⟩ := hh j o' hj
    exact ⟨h1, h2, h3.same e (set_same ho h)⟩
end set

theorem set_cell {w : World} {b : Nat} {old arr : Array Value} {T : TypeId} {fr : Nat × Nat} (h : w.heap[b]? = some (.cells old T fr)) (i : Nat) : (w.setRow b arr).cell? ⟨b, i, none⟩ = arr[i]? := by
  rw [cell_arr (setRow_heap w b old arr T fr h)]

theorem set_cell_other {w : World} {b : Nat} {arr : Array Value} {ad : Addr} (h : ad.block ≠ b) : (w.setRow b arr).cell? ad = w.cell? ad :=
  cell_same (setRow_other w b _ arr h)

theorem set_blockSize {w : World} {b : Nat} {old arr : Array Value} {T : TypeId} {fr : Nat × Nat} (h : w.heap[b]? = some (.cells old T fr)) : blockSize (w.setRow b arr) b = arr.size := by
  unfold blockSize
  rw [setRow_heap w b old arr T fr h]

theorem blockSize_of {w : World} {b : Nat} {old : Array Value} {T : TypeId} {fr : Nat × Nat} (h : w.heap[b]? = some (.cells old T fr)) : blockSize w b = old.size := by
  unfold blockSize
  rw [h]

/-- a row's cells turn, none is added: only those who know the row as it is now may read it -/
theorem set_row_store {S : St} {k b : Nat} {old arr : Array Value} {T : TypeId} (hc : S.cur k = some b) (ho : S.own b = some (some k)) (hh : S.w.heap[b]? = some (.cells old T (0, 0))) (hs : arr.size = old.size) (hl : S.len k * S.sz k ≤ old.size) :
    (∀ v off len ver t, RowOK S v k off len ver t → RowOK (S.set k b arr (S.len k) (S.len k)) v k off len ver t) ∧ (∀ v i ver off, RpOK S v k i ver off → RpOK (S.set k b arr (S.len k) (S.len k)) v k i ver off) := by
  have hlen : (S.set k b arr (S.len k) (S.len k)).len k = S.len k := upd_self _ _ _
  have hfl : (S.set k b arr (S.len k) (S.len k)).floor k = S.len k := upd_self _ _ _
  have hcc : ∀ i, curCell (S.set k b arr (S.len k) (S.len k)) k i = arr[i]? := fun i => by
    unfold curCell
    show (match S.cur k with | some b => _ | none => none) = _
    rw [hc]
    exact set_cell hh i
  constructor
  · rintro v off len ver t ⟨hr, a, c, hv, h1, h2, h3, h4, h5, h6⟩
    refine ⟨hr, a, c, hv, h1, by rw [hlen]; exact h2, h3, h4, fun h0 => ?_, fun he => ?_⟩
    · obtain ⟨ad, ha, hrest⟩ := h5 h0
      refine ⟨ad, ha, fun hf => ?_⟩
      rw [hfl] at hf
      have hver : ver = S.len k := by omega
      have hcur := h6 hver
      rw [hc] at hcur
      obtain ⟨had, hsz⟩ := hcur
      rw [blockSize_of hh] at hsz
      have had := had (by omega)
      rw [ha] at had
      cases had
      refine ⟨ho, fun _ => rfl, fun j hj => ?_⟩
      have hj' : j < len * S.sz k := hj
      have hin : off * S.sz k + j < arr.size := by
        have h7 : (off + len) * S.sz k ≤ (off + c) * S.sz k := Nat.mul_le_mul_right _ (by omega)
        rw [Nat.add_mul] at h7
        omega
      have : (S.set k b arr (S.len k) (S.len k)).w.cell? ((⟨b, off * S.sz k, none⟩ : Addr).add j) = arr[off * S.sz k + j]? := by rw [addr_add]; exact set_cell hh _
      rw [this]
      exact ⟨(hcc _).symm, by simp [hin]⟩
    · rw [hlen] at he
      have hcur := h6 he
      rw [hc] at hcur
      show (match S.cur k with | none => _ | some b => _)
      rw [hc]
      obtain ⟨hcur1, hcur2⟩ := hcur
      refine ⟨hcur1, ?_⟩
      rw [blockSize_of hh] at hcur2
      show _ ≤ blockSize (S.w.setRow b arr) b
      rw [set_blockSize hh, hs]
      exact hcur2
  · rintro v i ver off ⟨hr, ad, hv, h1, h2, h3, h4⟩
    refine ⟨hr, ad, hv, h1, by rw [hlen]; exact h2, fun hf => ?_, fun he => ?_⟩
    · rw [hfl] at hf
      have hver : ver = S.len k := by omega
      obtain ⟨b', hb', he⟩ := h4 hver
      rw [hc] at hb'
      cases hb'
      subst he
      refine ⟨ho, fun _ => rfl, fun j hj => ?_⟩
      have hj' : off + j < S.sz k := hj
      have hin : i * S.sz k + off + j < arr.size := by
        have h7 : (i + 1) * S.sz k ≤ S.len k * S.sz k := Nat.mul_le_mul_right _ (by omega)
        rw [Nat.add_mul, Nat.one_mul] at h7
        omega
      have : (S.set k b arr (S.len k) (S.len k)).w.cell? ((⟨b, i * S.sz k + off, none⟩ : Addr).add j) = arr[i * S.sz k + off + j]? := by rw [addr_add]; exact set_cell hh _
      rw [this]
      exact ⟨(hcc _).symm, by simp [hin]⟩
    · rw [hlen] at he
      exact h4 he

/-- a row's block gets more cells of the row, what it held stays -/
theorem set_row_grow {S : St} {k b : Nat} {old arr : Array Value} {T : TypeId} {n : Nat} (hc : S.cur k = some b) (hh : S.w.heap[b]? = some (.cells old T (0, 0)))
    (hn : S.len k < n) (hkeep : ∀ i, i < S.len k * S.sz k → arr[i]? = old[i]?) :
    (∀ v off len ver t, RowOK S v k off len ver t → RowOK (S.set k b arr n (S.floor k)) v k off len ver t) ∧ (∀ v i ver off, RpOK S v k i ver off → RpOK (S.set k b arr n (S.floor k)) v k i ver off) := by
  have hlen : (S.set k b arr n (S.floor k)).len k = n := upd_self _ _ _
  have hfl : (S.set k b arr n (S.floor k)).floor k = S.floor k := upd_self _ _ _
  have hcc : ∀ i, i < S.len k * S.sz k → curCell (S.set k b arr n (S.floor k)) k i = curCell S k i := fun i hi => by
    unfold curCell
    show (match S.cur k with | some b => _ | none => none) = _
    rw [hc]
    show (S.w.setRow b arr).cell? _ = S.w.cell? _
    rw [set_cell hh, cell_arr hh]
    exact hkeep i hi
  constructor
  · rintro v off len ver t ⟨hr, a, c, hv, h1, h2, h3, h4, h5, h6⟩
    refine ⟨hr, a, c, hv, h1, by rw [hlen]; omega, h3, h4, fun h0 => ?_, fun he => ?_⟩
    · obtain ⟨ad, ha, hrest⟩ := h5 h0
      refine ⟨ad, ha, fun hf => ?_⟩
      rw [hfl] at hf
      obtain ⟨h7, h8, h9⟩ := hrest hf
      refine ⟨h7, h8, fun j hj => ?_⟩
      have hj' : j < len * S.sz k := hj
      have hb : off * S.sz k + j < S.len k * S.sz k := by
        have h10 : (off + len) * S.sz k ≤ S.len k * S.sz k := Nat.mul_le_mul_right _ (by omega)
        rw [Nat.add_mul] at h10
        omega
      obtain ⟨h10, h11⟩ := h9 j hj'
      have hsame : (S.w.setRow b arr).cell? (ad.add j) = S.w.cell? (ad.add j) := by
        by_cases hbl : ad.block = b
        · have := h8 (by rw [hc, hbl])
          rw [this, hbl, addr_add, set_cell hh, cell_arr hh]
          exact hkeep _ hb
        · exact set_cell_other (by rw [add_block]; exact hbl)
      show (S.w.setRow b arr).cell? (ad.add j) = _ ∧ ((S.w.setRow b arr).cell? (ad.add j)).isSome
      rw [hsame]
      exact ⟨h10.trans (hcc _ hb).symm, h11⟩
    · rw [hlen] at he
      omega
  · rintro v i ver off ⟨hr, ad, hv, h1, h2, h3, h4⟩
    refine ⟨hr, ad, hv, h1, by rw [hlen]; omega, fun hf => ?_, fun he => by rw [hlen] at he; omega⟩
    rw [hfl] at hf
    obtain ⟨h7, h8, h9⟩ := h3 hf
    refine ⟨h7, h8, fun j hj => ?_⟩
    have hj' : off + j < S.sz k := hj
    have hb : i * S.sz k + off + j < S.len k * S.sz k := by
      have h10 : (i + 1) * S.sz k ≤ S.len k * S.sz k := Nat.mul_le_mul_right _ (by omega)
      rw [Nat.add_mul, Nat.one_mul] at h10
      omega
    obtain ⟨h10, h11⟩ := h9 j hj'
    have hsame : (S.w.setRow b arr).cell? (ad.add j) = S.w.cell? (ad.add j) := by
      by_cases hbl : ad.block = b
      · have := h8 (by rw [hc, hbl])
        rw [this, hbl, addr_add, set_cell hh, cell_arr hh]
        exact hkeep _ hb
      · exact set_cell_other (by rw [add_block]; exact hbl)
    show (S.w.setRow b arr).cell? (ad.add j) = _ ∧ ((S.w.setRow b arr).cell? (ad.add j)).isSome
    rw [hsame]
    exact ⟨h10.trans (hcc _ hb).symm, h11⟩

/-- a row moves to a new block -/
def St.move (S : St) (k : Nat) (w : World) (arr : Array Value) (T : TypeId) (n : Nat) : St :=
  { S with w := w.alloc (.cells arr T), own := upd S.own w.heap.size (some (some k)), cur := upd S.cur k (some w.heap.size), len := upd S.len k n }

section move
variable {S : St} {k : Nat} {w : World} {arr : Array Value} {T : TypeId} {n : Nat}

theorem move_same (hwf : S.wf) (hg : Grows S.w w) {j : Nat} (hj : j ≠ k) : Same S (S.move k w arr T n) j := by
  refine ⟨upd_ne _ _ hj, upd_ne _ _ hj, rfl, rfl, rfl, fun b hb => ?_⟩
  have hlt := hwf.bound b _ hb
  have hne : b ≠ w.heap.size := by have := hg.size; omega
  refine ⟨?_, (upd_ne _ _ hne).trans hb⟩
  show (w.alloc _).heap[b]? = _
  rw [alloc_old w _ b (Nat.lt_of_lt_of_le hlt hg.size)]
  exact hg.block b hlt

theorem move_wf (hwf : S.wf) (hg : Grows S.w w) : (S.move k w arr T n).wf := by
  refine ⟨fun b o hb => ?_, fun j hl => ?_, hwf.lu⟩
  · show b < (w.alloc _).heap.size
    rw [alloc_size]
    by_cases hbe : b = w.heap.size
    · omega
    · have : S.own b = some o := by rwa [show (S.move k w arr T n).own b = S.own b from upd_ne _ _ hbe] at hb
      have := hwf.bound b o this
      have := hg.size
      omega
  · intro b hb
    by_cases hk : j = k
    · subst hk
      have : w.heap.size = b := Option.some.inj (by rw [← hb]; exact (upd_self _ _ _).symm)
      subst this
      exact upd_self _ _ _
    · have hc : S.cur j = some b := by rw [← hb]; exact (upd_ne _ _ hk).symm
      have ho := hwf.kept j hl b hc
      have hne : b ≠ w.heap.size := by have := hwf.bound b _ ho; have := hg.size; omega
      exact (upd_ne _ _ hne).trans ho

/-- what is written of the old block stands in the new one -/
theorem move_ext (hwf : S.wf) (hg : Grows S.w w) (hr : S.isRow k = true) (hn : S.len k < n) (hkeep : ∀ i, i < S.len k * S.sz k → curCell S k i = arr[i]?) : Ext S (S.move k w arr T n) := by
  have hsz : S.w.heap.size ≤ (w.alloc (.cells arr T)).heap.size := Nat.le_trans hg.size (by rw [alloc_size]; omega)
  have hlen : (S.move k w arr T n).len k = n := upd_self _ _ _
  have hblk : ∀ b, b < S.w.heap.size → (S.move k w arr T n).w.heap[b]? = S.w.heap[b]? := fun b hb => by
    show (w.alloc _).heap[b]? = _
    rw [alloc_old w _ b (Nat.lt_of_lt_of_le hb hg.size)]
    exact hg.block b hb
  have hcc : ∀ i, i < S.len k * S.sz k → curCell (S.move k w arr T n) k i = curCell S k i := fun i hi => by
    rw [hkeep i hi]
    unfold curCell
    show (match upd S.cur k (some w.heap.size) k with | some b => _ | none => none) = _
    rw [upd_self]
    exact cell_arr (alloc_new w _) i
  refine ⟨hsz, hg.os, hg.tape, hg.output, fun b hb _ => ⟨hblk b hb, upd_ne _ _ (by have := hg.size; omega)⟩, fun _ h => h, fun j hu hl => ?_⟩
  by_cases hj : j = k
  · subst hj
    refine ⟨hl, ?_, ?_, fun v off h => by have := h.1; rw [hr] at this; cases this⟩
    · rintro v off len ver t ⟨hr, a, c, hv, h1, h2, h3, h4, h5, h6⟩
      refine ⟨hr, a, c, hv, h1, by rw [hlen]; omega, h3, h4, fun h0 => ?_, fun he => by rw [hlen] at he; omega⟩
      obtain ⟨ad, ha, hrest⟩ := h5 h0
      refine ⟨ad, ha, fun hf => ?_⟩
      obtain ⟨h7, h8, h9⟩ := hrest hf
      have hlt := hwf.bound _ _ h7
      refine ⟨(upd_ne _ _ (by have := hg.size; omega)).trans h7, fun hcur => ?_, fun i hi => ?_⟩
      · have : w.heap.size = ad.block := Option.some.inj (by rw [← hcur]; exact (upd_self _ _ _).symm)
        have := hg.size
        omega
      · have hi' : i < len * S.sz j := hi
        have hb : off * S.sz j + i < S.len j * S.sz j := by
          have h10 : (off + len) * S.sz j ≤ S.len j * S.sz j := Nat.mul_le_mul_right _ (by omega)
          rw [Nat.add_mul] at h10
          omega
        obtain ⟨h10, h11⟩ := h9 i hi'
        have hsame : (S.move j w arr T n).w.cell? (ad.add i) = S.w.cell? (ad.add i) := cell_same (by rw [add_block]; exact hblk _ hlt)
        rw [hsame]
        exact ⟨h10.trans (hcc _ hb).symm, h11⟩
    · rintro v i ver off ⟨hr, ad, hv, h1, h2, h3, h4⟩
      refine ⟨hr, ad, hv, h1, by rw [hlen]; omega, fun hf => ?_, fun he => by rw [hlen] at he; omega⟩
      obtain ⟨h7, h8, h9⟩ := h3 hf
      have hlt := hwf.bound _ _ h7
      refine ⟨(upd_ne _ _ (by have := hg.size; omega)).trans h7, fun hcur => ?_, fun m hm => ?_⟩
      · have : w.heap.size = ad.block := Option.some.inj (by rw [← hcur]; exact (upd_self _ _ _).symm)
        have := hg.size
        omega
      · have hm' : off + m < S.sz j := hm
        have hb : i * S.sz j + off + m < S.len j * S.sz j := by
          have h10 : (i + 1) * S.sz j ≤ S.len j * S.sz j := Nat.mul_le_mul_right _ (by omega)
          rw [Nat.add_mul, Nat.one_mul] at h10
          omega
        obtain ⟨h10, h11⟩ := h9 m hm'
        have hsame : (S.move j w arr T n).w.cell? (ad.add m) = S.w.cell? (ad.add m) := cell_same (by rw [add_block]; exact hblk _ hlt)
        rw [hsame]
        exact ⟨h10.trans (hcc _ hb).symm, h11⟩
  · have hs := move_same (arr := arr) (T := T) (n := n) hwf hg hj
    exact ⟨hl, fun _ _ _ _ _ r => hs.row (hwf.kept j hl) r, fun _ _ _ _ r => hs.rp (hwf.kept j hl) r, fun _ _ r => hs.ptr r⟩

theorem move_heap (hwf : S.wf) (hg : Grows S.w w) (e : Ext S (S.move k w arr T n)) {hp : List (Nat × AObj)} (hh : HeapOK S hp) {o : AObj} (hu : S.used k) (hl : S.live k) (hobj : ObjOK (S.move k w arr T n) k o) : HeapOK (S.move k w arr T n) (put1 hp k o) := by
  intro j o' hj
  rw [look_put] at hj
  split at hj
  · next h => subst h; cases hj; exact ⟨hu, hl, hobj⟩
  · next h =>
    obtain ⟨h1, h2, h3⟩ := hh j o' hj
    exact ⟨h1, h2, h3.same e (move_same hwf hg h)⟩
end move

end Go.Ev
