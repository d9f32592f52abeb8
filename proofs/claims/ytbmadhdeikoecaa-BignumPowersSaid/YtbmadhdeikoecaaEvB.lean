/- What the evaluator's values mean in the model's memory; how they live on while memory turns. -/
import Derived.Test.YtbmadhdeikoecaaEvA
namespace Go.Ev

def okV : Value → Prop
  | .agg _ | .tuple _ => False
  | _ => True

def nanB (k : FloatKind) (b : Nat) : Prop := k.format.order b b = none

/-- values whose memory nobody writes: U: the blocks that nobody owns -/
inductive RepI (w : World) (U : Nat → Prop) : Value → AV → Prop
  | v (x : Value) : okV x → RepI w U x (.v x)
  | fl (k : FloatKind) (b x : Nat) : (b = x ∨ (nanB k b ∧ nanB k x)) → RepI w U (.float k b) (.fl k x)
  | agg (arr : Array Value) (cs : List AV) : arr.size = cs.length → (∀ i (h : i < cs.length), RepI w U (arr.getD i undef) cs[i]) → RepI w U (.agg arr) (.agg cs)
  | tup (arr : Array Value) (cs : List AV) : arr.size = cs.length → (∀ i (h : i < cs.length), RepI w U (arr.getD i undef) cs[i]) → RepI w U (.tuple arr) (.tup cs)
  | slNil (sz : Nat) (q : Seq AV) (t : Bool) : q.len = 0 → RepI w U (.slice none 0 0) (.sl sz q t)
  | sl (ad : Addr) (n c sz : Nat) (q : Seq AV) (t : Bool) (u : Nat → Nat → Value) : n = q.len → q.len ≤ c → (t = true → c = q.len) → 0 < sz → (0 < q.len → U ad.block) →
      (∀ i, i < q.len → (q.get i).cells.length = sz) → (∀ i j, i < q.len → j < sz → w.cell? (ad.add (i * sz + j)) = some (u i j) ∧ okV (u i j)) →
      (∀ i j, i < q.len → ∀ h : j < (q.get i).cells.length, RepI w U (u i j) ((q.get i).cells[j])) → RepI w U (.slice (some ad) n c) (.sl sz q t)
  | ip (ad : Addr) (cs : List AV) (u : Nat → Value) : (0 < cs.length → U ad.block) → (∀ j, j < cs.length → w.cell? (ad.add j) = some (u j)) →
      (∀ j (h : j < cs.length), RepI w U (u j) cs[j]) → RepI w U (.pointer (some ad)) (.ip cs)
  | fnv (f : Fn) (a b : Array Value) (as bs : List AV) : a.size = as.length → (∀ i (h : i < as.length), RepI w U (a.getD i undef) as[i]) →
      b.size = bs.length → (∀ i (h : i < bs.length), RepI w U (b.getD i undef) bs[i]) → RepI w U (.func f a b) (.fnv f as bs)
  | ifc (t : TypeId) (x : Value) (y : AV) : RepI w U x y → RepI w U (.iface t x) (.ifc t y)

/-- memory, and who owns which block: 'some none': somebody else; 'some (some k)': own key k; of each key: the block that counts, a row's length, size, least version -/
structure St where
  w : World
  own : Nat → Option (Option Nat)
  cur : Nat → Option Nat
  len : Nat → Nat
  sz : Nat → Nat
  floor : Nat → Nat
  isRow : Nat → Bool
  live : Nat → Prop
  used : Nat → Prop

def St.free (S : St) (b : Nat) : Prop := S.own b = none

/-- the block that counts is owned -/
def CurOwn (S : St) (k : Nat) : Prop := ∀ b, S.cur k = some b → S.own b = some (some k)

structure St.wf (S : St) : Prop where
  bound : ∀ b o, S.own b = some o → b < S.w.heap.size
  kept : ∀ k, S.live k → CurOwn S k
  lu : ∀ k, S.live k → S.used k

def blockSize (w : World) (b : Nat) : Nat :=
  match w.heap[b]? with
  | some (.cells c _ _) => c.size
  | _ => 0

def curCell (S : St) (k i : Nat) : Option Value :=
  match S.cur k with
  | some b => S.w.cell? ⟨b, i, none⟩
  | none => none

def RowOK (S : St) (v : Value) (k off len ver : Nat) (tight : Bool) : Prop :=
  S.isRow k = true ∧ ∃ a c, v = .slice a len c ∧ off + len ≤ ver ∧ ver ≤ S.len k ∧ len ≤ c ∧ (tight = true → c = len) ∧
    (0 < len → ∃ ad, a = some ad ∧ (S.floor k ≤ ver → S.own ad.block = some (some k) ∧ (S.cur k = some ad.block → ad = ⟨ad.block, off * S.sz k, none⟩) ∧
      ∀ j, j < len * S.sz k → S.w.cell? (ad.add j) = curCell S k (off * S.sz k + j) ∧ (S.w.cell? (ad.add j)).isSome)) ∧
    (ver = S.len k → match S.cur k with
      | none => a = none ∧ c = 0 ∧ len = 0
      | some b => (0 < c → a = some ⟨b, off * S.sz k, none⟩) ∧ (off + c) * S.sz k ≤ blockSize S.w b)

def RpOK (S : St) (v : Value) (k i ver off : Nat) : Prop :=
  S.isRow k = true ∧ ∃ ad, v = .pointer (some ad) ∧ i < ver ∧ ver ≤ S.len k ∧
    (S.floor k ≤ ver → S.own ad.block = some (some k) ∧ (S.cur k = some ad.block → ad = ⟨ad.block, i * S.sz k + off, none⟩) ∧ ∀ j, off + j < S.sz k → S.w.cell? (ad.add j) = curCell S k (i * S.sz k + off + j) ∧ (S.w.cell? (ad.add j)).isSome) ∧
    (ver = S.len k → ∃ b, S.cur k = some b ∧ ad = ⟨b, i * S.sz k + off, none⟩)

def PtrOK (S : St) (v : Value) (k off : Nat) : Prop := S.isRow k = false ∧ ∃ b, S.cur k = some b ∧ v = .pointer (some ⟨b, off, none⟩)

inductive Rep (S : St) : Value → AV → Prop
  | i (x : Value) (y : AV) : RepI S.w S.free x y → Rep S x y
  | junk (x : Value) : Rep S x .junk
  | agg (arr : Array Value) (cs : List AV) : arr.size = cs.length → (∀ i (h : i < cs.length), Rep S (arr.getD i undef) cs[i]) → Rep S (.agg arr) (.agg cs)
  | tup (arr : Array Value) (cs : List AV) : arr.size = cs.length → (∀ i (h : i < cs.length), Rep S (arr.getD i undef) cs[i]) → Rep S (.tuple arr) (.tup cs)
  | row (x : Value) (k off len ver : Nat) (t : Bool) : S.used k → (S.live k → RowOK S x k off len ver t) → (∃ a c, x = .slice a len c ∧ (a = none → c = 0)) → Rep S x (.row k off len ver t)
  | rp (x : Value) (k i ver off : Nat) : S.used k → (S.live k → RpOK S x k i ver off) → (∃ ad, x = .pointer (some ad)) → Rep S x (.rp k i ver off)
  | ptr (x : Value) (k off : Nat) : S.used k → (S.live k → PtrOK S x k off) → (∃ ad, x = .pointer (some ad)) → Rep S x (.ptr k off)
  | fnv (f : Fn) (a b : Array Value) (as bs : List AV) : a.size = as.length → (∀ i (h : i < as.length), Rep S (a.getD i undef) as[i]) →
      b.size = bs.length → (∀ i (h : i < bs.length), Rep S (b.getD i undef) bs[i]) → Rep S (.func f a b) (.fnv f as bs)
  | ifc (t : TypeId) (x : Value) (y : AV) : Rep S x y → Rep S (.iface t x) (.ifc t y)

def ObjOK (S : St) (k : Nat) : AObj → Prop
  | .cells T cs => S.isRow k = false ∧ ∃ b arr, S.cur k = some b ∧ S.own b = some (some k) ∧ S.w.heap[b]? = some (.cells arr T (0, 0)) ∧ arr.size = cs.length ∧
      ∀ i (h : i < cs.length), Rep S (arr.getD i undef) cs[i]
  | .row T sz q floor => S.isRow k = true ∧ S.sz k = sz ∧ 0 < sz ∧ S.len k = q.len ∧ S.floor k = floor ∧ floor ≤ q.len ∧ (∀ i, i < q.len → (q.get i).cells.length = sz) ∧
      match S.cur k with
      | none => q.len = 0
      | some b => S.own b = some (some k) ∧ ∃ arr, S.w.heap[b]? = some (.cells arr T (0, 0)) ∧ q.len * sz ≤ arr.size ∧
          ∀ i j, i < q.len → ∀ h : j < (q.get i).cells.length, Rep S (arr.getD (i * sz + j) undef) ((q.get i).cells[j]) ∧ okV (arr.getD (i * sz + j) undef)

def HeapOK (S : St) (hp : List (Nat × AObj)) : Prop := ∀ k o, look hp k = some o → S.used k ∧ S.live k ∧ ObjOK S k o
def FrOK (S : St) (n : Nat) (fr : List (Nat × AV)) (tmps : Array Value) : Prop := ∀ t x, look fr t = some x → t < n ∧ Rep S (tmps.getD t undef) x

structure Rel (S : St) (A : AS) (a : Act) : Prop where
  wf : S.wf
  size : a.tmps.size = A.n
  defers : a.defers = []
  fr : FrOK S A.n A.fr a.tmps
  hp : HeapOK S A.hp
  used : ∀ k, S.used k → k < A.nx

/-- what was there is there still, but for what is one's own; nothing that lives has moved -/
structure Grows (w w' : World) : Prop where
  size : w.heap.size ≤ w'.heap.size
  os : w'.os = w.os
  tape : w'.tape = w.tape
  output : w'.output = w.output
  block : ∀ b, b < w.heap.size → w'.heap[b]? = w.heap[b]?

theorem Grows.refl (w : World) : Grows w w := ⟨Nat.le_refl _, rfl, rfl, rfl, fun _ _ => rfl⟩
theorem Grows.trans {a b c : World} (h : Grows a b) (k : Grows b c) : Grows a c :=
  ⟨Nat.le_trans h.size k.size, k.os.trans h.os, k.tape.trans h.tape, k.output.trans h.output, fun i hi => (k.block i (Nat.lt_of_lt_of_le hi h.size)).trans (h.block i hi)⟩

structure Ext (S S' : St) : Prop where
  size : S.w.heap.size ≤ S'.w.heap.size
  os : S'.w.os = S.w.os
  tape : S'.w.tape = S.w.tape
  output : S'.w.output = S.w.output
  old : ∀ b, b < S.w.heap.size → (∀ k, S.own b ≠ some (some k)) → S'.w.heap[b]? = S.w.heap[b]? ∧ S'.own b = S.own b
  used : ∀ k, S.used k → S'.used k
  keys : ∀ k, S.used k → S'.live k → S.live k ∧ (∀ v off len ver t, RowOK S v k off len ver t → RowOK S' v k off len ver t) ∧
    (∀ v i ver off, RpOK S v k i ver off → RpOK S' v k i ver off) ∧ (∀ v off, PtrOK S v k off → PtrOK S' v k off)

theorem Ext.refl (S : St) : Ext S S := ⟨Nat.le_refl _, rfl, rfl, rfl, fun _ _ _ => ⟨rfl, rfl⟩, fun _ h => h, fun _ _ h => ⟨h, fun _ _ _ _ _ h => h, fun _ _ _ _ h => h, fun _ _ h => h⟩⟩

theorem Ext.trans {S S' S'' : St} (h : Ext S S') (g : Ext S' S'') : Ext S S'' := by
  refine ⟨Nat.le_trans h.size g.size, g.os.trans h.os, g.tape.trans h.tape, g.output.trans h.output, fun b hb ho => ?_, fun k hk => g.used k (h.used k hk), fun k hk hl => ?_⟩
  · obtain ⟨h1, h2⟩ := h.old b hb ho
    obtain ⟨g1, g2⟩ := g.old b (Nat.lt_of_lt_of_le hb h.size) (fun k => by rw [h2]; exact ho k)
    exact ⟨g1.trans h1, g2.trans h2⟩
  · obtain ⟨g1, g2, g3, g4⟩ := g.keys k (h.used k hk) hl
    obtain ⟨h1, h2, h3, h4⟩ := h.keys k hk g1
    exact ⟨h1, fun v off len ver t x => g2 _ _ _ _ _ (h2 _ _ _ _ _ x), fun v i ver off x => g3 _ _ _ _ (h3 _ _ _ _ x), fun v off x => g4 _ _ (h4 _ _ x)⟩

theorem cell_block {w : World} {ad : Addr} {v : Value} (h : w.cell? ad = some v) : ad.block < w.heap.size := World.block_lt_of_cell? w ad h

theorem cell_same {w w' : World} {ad : Addr} (h : w'.heap[ad.block]? = w.heap[ad.block]?) : w'.cell? ad = w.cell? ad := by
  unfold World.cell?
  rw [h]

theorem add_block (ad : Addr) (n : Nat) : (ad.add n).block = ad.block := by unfold Addr.add; split <;> rfl

/-- what is nobody's own lives on -/
theorem RepI.ext {w w' : World} {U U' : Nat → Prop} (hb : ∀ b, b < w.heap.size → U b → w'.heap[b]? = w.heap[b]? ∧ U' b) {x : Value} {y : AV} (h : RepI w U x y) : RepI w' U' x y := by
  induction h with
  | v x hx => exact .v x hx
  | fl k b x hx => exact .fl k b x hx
  | agg arr cs hs _ ih => exact .agg arr cs hs ih
  | tup arr cs hs _ ih => exact .tup arr cs hs ih
  | slNil sz q t hq => exact .slNil sz q t hq
  | sl ad n c sz q t u hn hc ht hsz hU hl hcell _ ih =>
    have hblk : 0 < q.len → ad.block < w.heap.size := fun h0 => by
      have := cell_block (hcell 0 0 h0 hsz).1
      rwa [add_block] at this
    refine .sl ad n c sz q t u hn hc ht hsz (fun h0 => (hb _ (hblk h0) (hU h0)).2) hl (fun i j hi hj => ?_) ih
    have h0 : 0 < q.len := by omega
    rw [cell_same (w := w) (w' := w') (by rw [add_block]; exact (hb _ (hblk h0) (hU h0)).1)]
    exact hcell i j hi hj
  | ip ad cs u hU hcell _ ih =>
    have hblk : 0 < cs.length → ad.block < w.heap.size := fun h0 => by
      have := cell_block (hcell 0 h0)
      rwa [add_block] at this
    refine .ip ad cs u (fun h0 => (hb _ (hblk h0) (hU h0)).2) (fun j hj => ?_) ih
    have h0 : 0 < cs.length := by omega
    rw [cell_same (w := w) (w' := w') (by rw [add_block]; exact (hb _ (hblk h0) (hU h0)).1)]
    exact hcell j hj
  | fnv f a b as bs h1 _ h2 _ ih1 ih2 => exact .fnv f a b as bs h1 ih1 h2 ih2
  | ifc t x y _ ih => exact .ifc t x y ih

theorem Rep.ext {S S' : St} (e : Ext S S') {x : Value} {y : AV} (h : Rep S x y) : Rep S' x y := by
  induction h with
  | i x y h => exact .i x y (h.ext fun b hb hU => by
      have := e.old b hb (fun k hk => by unfold St.free at hU; rw [hU] at hk; cases hk)
      exact ⟨this.1, this.2.trans hU⟩)
  | junk x => exact .junk x
  | agg arr cs hs _ ih => exact .agg arr cs hs ih
  | tup arr cs hs _ ih => exact .tup arr cs hs ih
  | row x k off len ver t hu hr hx => exact .row x k off len ver t (e.used k hu) (fun hl => (e.keys k hu hl).2.1 _ _ _ _ _ (hr (e.keys k hu hl).1)) hx
  | rp x k i ver off hu hr hx => exact .rp x k i ver off (e.used k hu) (fun hl => (e.keys k hu hl).2.2.1 _ _ _ _ (hr (e.keys k hu hl).1)) hx
  | ptr x k off hu hr hx => exact .ptr x k off (e.used k hu) (fun hl => (e.keys k hu hl).2.2.2 _ _ (hr (e.keys k hu hl).1)) hx
  | fnv f a b as bs h1 _ h2 _ ih1 ih2 => exact .fnv f a b as bs h1 ih1 h2 ih2
  | ifc t x y _ ih => exact .ifc t x y ih

/-- key k is as it was -/
structure Same (S S' : St) (k : Nat) : Prop where
  cur : S'.cur k = S.cur k
  len : S'.len k = S.len k
  sz : S'.sz k = S.sz k
  floor : S'.floor k = S.floor k
  isRow : S'.isRow k = S.isRow k
  block : ∀ b, S.own b = some (some k) → S'.w.heap[b]? = S.w.heap[b]? ∧ S'.own b = some (some k)

theorem Same.curOwn {S S' : St} {k : Nat} (h : Same S S' k) (ho : ∀ b, S.cur k = some b → S.own b = some (some k)) (i : Nat) : curCell S' k i = curCell S k i := by
  unfold curCell
  rw [h.cur]
  cases hc : S.cur k with
  | none => rfl
  | some b => exact cell_same (h.block b (ho b hc)).1

theorem Same.row {S S' : St} {k : Nat} (h : Same S S' k) (ho : CurOwn S k) {v : Value} {off len ver : Nat} {t : Bool} (r : RowOK S v k off len ver t) : RowOK S' v k off len ver t := by
  obtain ⟨hrow, a, c, hv, h1, h2, h3, h4, h5, h6⟩ := r
  refine ⟨h.isRow.trans hrow, a, c, hv, h1, by rw [h.len]; exact h2, h3, h4, fun hl => ?_, fun hv => ?_⟩
  · obtain ⟨ad, ha, hrest⟩ := h5 hl
    refine ⟨ad, ha, fun hf => ?_⟩
    rw [h.floor] at hf
    obtain ⟨hown, hcur, hcell⟩ := hrest hf
    refine ⟨(h.block _ hown).2, by rw [h.cur, h.sz]; exact hcur, fun j hj => ?_⟩
    rw [h.sz] at hj
    rw [h.sz, h.curOwn ho, cell_same (w := S.w) (w' := S'.w) (by rw [add_block]; exact (h.block _ hown).1)]
    exact hcell j hj
  · rw [h.len] at hv
    have := h6 hv
    rw [h.cur]
    cases hc : S.cur k with
    | none => rw [hc] at this; exact this
    | some b =>
      rw [hc] at this
      refine ⟨by rw [h.sz]; exact this.1, ?_⟩
      rw [h.sz]
      unfold blockSize
      rw [(h.block b (ho b hc)).1]
      exact this.2

theorem Same.rp {S S' : St} {k : Nat} (h : Same S S' k) (ho : CurOwn S k) {v : Value} {i ver off : Nat} (r : RpOK S v k i ver off) : RpOK S' v k i ver off := by
  obtain ⟨hrow, ad, hv, h1, h2, h3, h4⟩ := r
  refine ⟨h.isRow.trans hrow, ad, hv, h1, by rw [h.len]; exact h2, fun hf => ?_, fun hv => ?_⟩
  · rw [h.floor] at hf
    obtain ⟨hown, hcur, hcell⟩ := h3 hf
    refine ⟨(h.block _ hown).2, by rw [h.cur, h.sz]; exact hcur, fun j hj => ?_⟩
    rw [h.sz] at hj
    rw [h.sz, h.curOwn ho, cell_same (w := S.w) (w' := S'.w) (by rw [add_block]; exact (h.block _ hown).1)]
    exact hcell j hj
  · rw [h.len] at hv
    obtain ⟨b, hb, ha⟩ := h4 hv
    exact ⟨b, by rw [h.cur]; exact hb, by rw [h.sz]; exact ha⟩

theorem Same.ptr {S S' : St} {k : Nat} (h : Same S S' k) {v : Value} {off : Nat} (r : PtrOK S v k off) : PtrOK S' v k off := by
  obtain ⟨hrow, b, hb, hv⟩ := r
  exact ⟨h.isRow.trans hrow, b, by rw [h.cur]; exact hb, hv⟩

theorem ObjOK.curOwn {S : St} {k : Nat} {o : AObj} (h : ObjOK S k o) : CurOwn S k := by
  intro b hb
  cases o with
  | cells T cs =>
    obtain ⟨_, b', arr, hc, ho, _⟩ := h
    rw [hb] at hc
    cases hc
    exact ho
  | row T sz q floor =>
    obtain ⟨_, _, _, _, _, _, _, h⟩ := h
    rw [hb] at h
    exact h.1

theorem ObjOK.same {S S' : St} (e : Ext S S') {k : Nat} {o : AObj} (h : ObjOK S k o) (hs : Same S S' k) : ObjOK S' k o := by
  cases o with
  | cells T cs =>
    obtain ⟨hrow, b, arr, hc, ho, hh, hl, hr⟩ := h
    exact ⟨hs.isRow.trans hrow, b, arr, by rw [hs.cur]; exact hc, (hs.block b ho).2, (hs.block b ho).1.trans hh, hl, fun i hi => (hr i hi).ext e⟩
  | row T sz q floor =>
    obtain ⟨hrow, h1, h2, h3, h4, hfl, h5, h6⟩ := h
    refine ⟨hs.isRow.trans hrow, hs.sz.trans h1, h2, hs.len.trans h3, hs.floor.trans h4, hfl, h5, ?_⟩
    rw [hs.cur]
    cases hc : S.cur k with
    | none => rw [hc] at h6; exact h6
    | some b =>
      rw [hc] at h6
      obtain ⟨ho, arr, hh, hl, hr⟩ := h6
      exact ⟨(hs.block b ho).2, arr, (hs.block b ho).1.trans hh, hl, fun i j hi hj => ⟨(hr i j hi hj).1.ext e, (hr i j hi hj).2⟩⟩

theorem FrOK.ext {S S' : St} (e : Ext S S') {n : Nat} {fr : List (Nat × AV)} {tmps : Array Value} (h : FrOK S n fr tmps) : FrOK S' n fr tmps :=
  fun t x hx => ⟨(h t x hx).1, (h t x hx).2.ext e⟩

/-! ### the ways in which memory turns -/

/-- more memory that nobody owns; nothing else -/
def St.at (S : St) (w : World) : St := { S with w := w }

theorem same_at {S : St} {w : World} (g : Grows S.w w) (hwf : S.wf) (k : Nat) : Same S (S.at w) k :=
  ⟨rfl, rfl, rfl, rfl, rfl, fun b hb => ⟨g.block b (hwf.bound b _ hb), hb⟩⟩

theorem ext_at {S : St} {w : World} (g : Grows S.w w) (hwf : S.wf) : Ext S (S.at w) :=
  ⟨g.size, g.os, g.tape, g.output, fun b hb _ => ⟨g.block b hb, rfl⟩, fun _ h => h, fun k _ hl =>
    ⟨hl, fun _ _ _ _ _ r => (same_at g hwf k).row (hwf.kept k hl) r, fun _ _ _ _ r => (same_at g hwf k).rp (hwf.kept k hl) r, fun _ _ r => (same_at g hwf k).ptr r⟩⟩

theorem wf_at {S : St} {w : World} (g : Grows S.w w) (hwf : S.wf) : (S.at w).wf :=
  ⟨fun b o hb => Nat.lt_of_lt_of_le (hwf.bound b o hb) g.size, hwf.kept, hwf.lu⟩

theorem heap_at {S : St} {w : World} (g : Grows S.w w) (hwf : S.wf) {hp : List (Nat × AObj)} (h : HeapOK S hp) : HeapOK (S.at w) hp :=
  fun k o ho => ⟨(h k o ho).1, (h k o ho).2.1, (h k o ho).2.2.same (ext_at g hwf) (same_at g hwf k)⟩

end Go.Ev
