/- Each operation of the evaluator comes to what the model's operation comes to: the ways in which memory turns; small laws. -/
import Derived.Test.YtbmadhdeikoecaaEvB
namespace Go.Ev

/-! ### lists with keys -/
theorem look_put_self {α : Type} (l : List (Nat × α)) (t : Nat) (a : α) : look (put1 l t a) t = some a := by
  simp [put1, look]

theorem look_drop_self {α : Type} (l : List (Nat × α)) (t : Nat) : look (drop1 l t) t = none := by
  induction l with
  | nil => rfl
  | cons x r ih =>
    obtain ⟨k, a⟩ := x
    simp only [drop1]
    cases h : Nat.beq k t with
    | true => exact ih
    | false => simp only [look, h]; exact ih

theorem look_drop_ne {α : Type} (l : List (Nat × α)) {t u : Nat} (h : u ≠ t) : look (drop1 l t) u = look l u := by
  induction l with
  | nil => rfl
  | cons x r ih =>
    obtain ⟨k, a⟩ := x
    simp only [drop1, look]
    cases hk : Nat.beq k t with
    | true =>
      have : k = t := Nat.eq_of_beq_eq_true hk
      subst this
      have hne : Nat.beq k u = false := by
        cases hb : Nat.beq k u with
        | false => rfl
        | true => exact absurd (Nat.eq_of_beq_eq_true hb).symm h
      simp only [hne]
      exact ih
    | false =>
      simp only [look]
      cases Nat.beq k u with
      | true => rfl
      | false => exact ih

theorem look_put_ne {α : Type} (l : List (Nat × α)) {t u : Nat} (a : α) (h : u ≠ t) : look (put1 l t a) u = look l u := by
  have hne : Nat.beq t u = false := by
    cases hb : Nat.beq t u with
    | false => rfl
    | true => exact absurd (Nat.eq_of_beq_eq_true hb).symm h
  simp only [put1, look, hne]
  exact look_drop_ne l h

theorem look_put {α : Type} (l : List (Nat × α)) (t u : Nat) (a : α) : look (put1 l t a) u = if u = t then some a else look l u := by
  split
  · next h => subst h; exact look_put_self l u a
  · next h => exact look_put_ne l a h

theorem look_drop {α : Type} (l : List (Nat × α)) (t u : Nat) : look (drop1 l t) u = if u = t then none else look l u := by
  split
  · next h => subst h; exact look_drop_self l u
  · next h => exact look_drop_ne l h

/-! ### what a value is -/
theorem okV_of_scalar {x : Value} (h : scalarV x = true) : okV x := by
  cases x <;> first | trivial | cases h

theorem rep_v {S : St} {x y : Value} (h : Rep S x (.v y)) : x = y ∧ okV y := by
  cases h with
  | i _ _ h => cases h with | v _ hx => exact ⟨rfl, hx⟩

theorem repI_v {w : World} {U : Nat → Prop} {x y : Value} (h : RepI w U x (.v y)) : x = y ∧ okV y := by
  cases h with | v _ hx => exact ⟨rfl, hx⟩

theorem Rep.v {S : St} {x : Value} (h : okV x) : Rep S x (.v x) := .i _ _ (.v _ h)

theorem rep_const (S : St) (x : Value) : Rep S x (constA x) := by
  cases x with
  | agg cs =>
    simp only [constA]
    split
    · next h =>
      refine .agg cs _ (by simp) fun i hi => ?_
      have hi' : i < cs.size := by simpa using hi
      have hs : scalarV cs[i] = true := by
        have := List.all_eq_true.1 h cs[i] (by simp)
        exact this
      simp only [List.getElem_map, Array.getElem_toList]
      rw [Array.getD_eq_getD_getElem?, Array.getElem?_eq_getElem hi', Option.getD_some]
      exact .v (okV_of_scalar hs)
    · exact .junk _
  | tuple vs => exact .junk _
  | _ => exact .v trivial

theorem rep_eval {S : St} {n : Nat} {fr : List (Nat × AV)} {a : Act} (h : FrOK S n fr a.tmps) (x : Operand) : Rep S (a.eval x) (evalA fr x) := by
  cases x with
  | tmp t =>
    show Rep S (a.tmps.getD t undef) ((look fr t).getD .junk)
    cases hl : look fr t with
    | none => exact .junk _
    | some y => exact (h t y hl).2
  | const v => exact rep_const S v
  | global g => exact .junk _
  | func f => exact .fnv _ _ _ _ _ rfl (fun i hi => absurd hi (by simp)) rfl (fun i hi => absurd hi (by simp))

/-- a value of one cell -/
theorem okV_one {x : Value} (h : okV x) : x.oneCell' = true := by
  cases x <;> first | rfl | exact h.elim

theorem okV_cells {x : Value} (h : okV x) : x.cells = #[x] := by
  cases x <;> first | rfl | exact h.elim

/-- what is no aggregate, no tuple and not unknown is one cell -/
theorem rep_one {S : St} {x : Value} {y : AV} (h : Rep S x y) (hy : isJunk y = false) : okV x := by
  cases h with
  | i _ _ h => cases h <;> first | trivial | assumption | (simp [isJunk] at hy)
  | junk => simp [isJunk] at hy
  | agg => simp [isJunk] at hy
  | tup => simp [isJunk] at hy
  | row _ _ _ _ _ _ _ _ hx => obtain ⟨_, _, rfl, _⟩ := hx; trivial
  | rp _ _ _ _ _ _ _ hx => obtain ⟨_, rfl⟩ := hx; trivial
  | ptr _ _ _ _ _ hx => obtain ⟨_, rfl⟩ := hx; trivial
  | fnv => trivial
  | ifc => trivial

/-- a value's cells are its parts -/
theorem rep_cells {S : St} {x : Value} {y : AV} (h : Rep S x y) (hy : y.cells.any isJunk = false) : x.cells.size = y.cells.length ∧ (∀ i (hi : i < y.cells.length), Rep S (x.cells.getD i undef) y.cells[i]) ∧ ∀ i, i < y.cells.length → okV (x.cells.getD i undef) := by
  have single : y.cells = [y] → x.cells.size = y.cells.length ∧ (∀ i (hi : i < y.cells.length), Rep S (x.cells.getD i undef) y.cells[i]) ∧ ∀ i, i < y.cells.length → okV (x.cells.getD i undef) := by
    intro he
    have hj : isJunk y = false := by rw [he] at hy; simpa using hy
    have hx := okV_cells (rep_one h hj)
    rw [hx]
    refine ⟨by rw [he]; rfl, fun i hi => ?_, fun i hi => ?_⟩
    · have h0 : i = 0 := by rw [he] at hi; simpa using hi
      subst h0
      simp only [he, List.getElem_cons_zero]
      exact h
    · have h0 : i = 0 := by rw [he] at hi; simpa using hi
      subst h0
      exact rep_one h hj
  have parts : ∀ (arr : Array Value) (cs : List AV), x = .agg arr → y = .agg cs → arr.size = cs.length → (∀ i (hi : i < cs.length), Rep S (arr.getD i undef) cs[i]) →
      x.cells.size = y.cells.length ∧ (∀ i (hi : i < y.cells.length), Rep S (x.cells.getD i undef) y.cells[i]) ∧ ∀ i, i < y.cells.length → okV (x.cells.getD i undef) := by
    intro arr cs hx he hs hr
    subst hx
    subst he
    refine ⟨hs, hr, fun i hi => rep_one (hr i hi) ?_⟩
    have := List.any_eq_false.1 hy cs[i] (List.getElem_mem hi)
    simpa using this
  cases h with
  | agg arr cs hs hr => exact parts arr cs rfl rfl hs hr
  | i _ _ h =>
    cases h with
    | agg arr cs hs hr => exact parts arr cs rfl rfl hs fun i hi => .i _ _ (hr i hi)
    | _ => exact single rfl
  | _ => exact single rfl

theorem stored_spec {y : AV} {sz : Nat} {xs : List AV} (h : stored y sz = some xs) : xs = y.cells ∧ y.cells.any isJunk = false ∧ y.cells.length = sz := by
  unfold stored at h
  split at h
  · next h1 h2 => exact ⟨(Option.some.inj h).symm, h1, Nat.eq_of_beq_eq_true h2⟩
  · cases h

/-! ### memory -/
theorem alloc_size (w : World) (o : Obj) : (w.alloc o).heap.size = w.heap.size + 1 := World.size_alloc w o
theorem alloc_old (w : World) (o : Obj) (b : Nat) (h : b < w.heap.size) : (w.alloc o).heap[b]? = w.heap[b]? := by
  show (w.heap.push o)[b]? = w.heap[b]?
  rw [Array.getElem?_push, if_neg (Nat.ne_of_lt h)]
theorem alloc_new (w : World) (o : Obj) : (w.alloc o).heap[w.heap.size]? = some o := by
  show (w.heap.push o)[w.heap.size]? = some o
  simp
theorem alloc_grows (w : World) (o : Obj) : Grows w (w.alloc o) := ⟨by rw [alloc_size]; omega, rfl, rfl, rfl, fun b hb => alloc_old w o b hb⟩
theorem drew_grows (w : World) : Grows w w.drew := ⟨Nat.le_refl _, rfl, rfl, rfl, fun _ _ => rfl⟩

/-- what an operation leaves -/
structure Post (S : St) (key : Nat) (hp : List (Nat × AObj)) (val : AV) (v : Value) (S' : St) : Prop where
  wf : S'.wf
  ext : Ext S S'
  used : ∀ k, S'.used k → S.used k ∨ k = key
  rep : Rep S' v val
  hp : HeapOK S' hp

def Out (P : Program) (S : St) (key : Nat) (hp : List (Nat × AObj)) (val : AV) : Result Next → Prop
  | .ok (.value v) w' => ∃ S', S'.w = w' ∧ Post S key hp val v S'
  | .ok .skip w' => ∃ S', S'.w = w' ∧ Post S key hp val undef S'
  | .ok (.enter f args) w' => w' = S.w ∧ Calls P f args S.w fun e w'' => ∃ v S', e = .returned v ∧ S'.w = w'' ∧ Post S key hp val v S'
  | _ => False

/-- an operation that only reads -/
theorem Out.same {P : Program} {S : St} {key : Nat} {hp : List (Nat × AObj)} {val : AV} {v : Value} {x : Result Next} (hwf : S.wf) (hh : HeapOK S hp) (hx : x = .ok (.value v) S.w) (hr : Rep S v val) : Out P S key hp val x := by
  subst hx
  exact ⟨S, rfl, hwf, Ext.refl S, fun k h => .inl h, hr, hh⟩

/-- memory that nobody owns is laid -/
theorem Out.more {P : Program} {S : St} {key : Nat} {hp : List (Nat × AObj)} {val : AV} {v : Value} {x : Result Next} {w' : World} (hwf : S.wf) (hh : HeapOK S hp) (hx : x = .ok (.value v) w') (hg : Grows S.w w')
    (hr : Rep (S.at w') v val) : Out P S key hp val x := by
  subst hx
  exact ⟨S.at w', rfl, wf_at hg hwf, ext_at hg hwf, fun k h => .inl h, hr, heap_at hg hwf hh⟩

def upd {α : Type} (f : Nat → α) (k : Nat) (x : α) (i : Nat) : α := if i = k then x else f i
theorem upd_self {α : Type} (f : Nat → α) (k : Nat) (x : α) : upd f k x k = x := by simp [upd]
theorem upd_ne {α : Type} (f : Nat → α) {k i : Nat} (x : α) (h : i ≠ k) : upd f k x i = f i := by simp [upd, h]

/-- a new own block: world w (more than S.w, nothing of it owned), then the block -/
def St.new (S : St) (key : Nat) (row : Bool) (w : World) (arr : Array Value) (T : TypeId) (n sz : Nat) : St :=
  { w := w.alloc (.cells arr T), own := upd S.own w.heap.size (some (some key)), cur := upd S.cur key (some w.heap.size), len := upd S.len key n, sz := upd S.sz key sz, floor := upd S.floor key 0, isRow := upd S.isRow key row,
    live := fun k => k = key ∨ S.live k, used := fun k => k = key ∨ S.used k }

section new
variable {S : St} {key : Nat} {row : Bool} {w : World} {arr : Array Value} {T : TypeId} {n sz : Nat}

theorem new_ne_block (hwf : S.wf) (hg : Grows S.w w) {b : Nat} {o : Option Nat} (h : S.own b = some o) : b ≠ w.heap.size := by
  have := hwf.bound b o h
  have := hg.size
  omega

theorem new_same (hwf : S.wf) (hg : Grows S.w w) {k : Nat} (hk : k ≠ key) : Same S (S.new key row w arr T n sz) k := by
  refine ⟨upd_ne _ _ hk, upd_ne _ _ hk, upd_ne _ _ hk, upd_ne _ _ hk, upd_ne _ _ hk, fun b hb => ?_⟩
  have hne := new_ne_block hwf hg hb
  have hlt := hwf.bound b _ hb
  refine ⟨?_, (upd_ne _ _ hne).trans hb⟩
  show (w.alloc _).heap[b]? = _
  rw [alloc_old w _ b (Nat.lt_of_lt_of_le hlt hg.size)]
  exact hg.block b hlt

theorem new_wf (hwf : S.wf) (hg : Grows S.w w) (hkey : ¬ S.used key) : (S.new key row w arr T n sz).wf := by
  refine ⟨fun b o hb => ?_, fun k hl => ?_, fun k hl => hl.imp id (hwf.lu k)⟩
  · show b < (w.alloc _).heap.size
    by_cases hbe : b = w.heap.size
    · subst hbe; rw [alloc_size]; omega
    · have : S.own b = some o := by rwa [show (S.new key row w arr T n sz).own b = S.own b from upd_ne _ _ hbe] at hb
      have := hwf.bound b o this
      have := hg.size
      rw [alloc_size]
      omega
  · intro b hb
    by_cases hk : k = key
    · subst hk
      have : w.heap.size = b := Option.some.inj (by rw [← hb]; exact (upd_self _ _ _).symm)
      subst this
      exact upd_self _ _ _
    · have hl' : S.live k := hl.resolve_left hk
      have hc : S.cur k = some b := by rw [← hb]; exact (upd_ne _ _ hk).symm
      have ho := hwf.kept k hl' b hc
      exact (upd_ne _ _ (new_ne_block hwf hg ho)).trans ho

theorem new_ext (hwf : S.wf) (hg : Grows S.w w) (hkey : ¬ S.used key) : Ext S (S.new key row w arr T n sz) := by
  have hsz : S.w.heap.size ≤ (w.alloc (.cells arr T)).heap.size := Nat.le_trans hg.size (by rw [alloc_size]; omega)
  refine ⟨hsz, hg.os, hg.tape, hg.output, fun b hb _ => ⟨?_, upd_ne _ _ (by have := hg.size; omega)⟩, fun k hk => .inr hk, fun k hu hl => ?_⟩
  · show (w.alloc _).heap[b]? = _
    rw [alloc_old w _ b (Nat.lt_of_lt_of_le hb hg.size)]
    exact hg.block b hb
  · have hk : k ≠ key := fun e => hkey (e ▸ hu)
    have hl' : S.live k := hl.resolve_left hk
    have hs := new_same (row := row) (arr := arr) (T := T) (n := n) (sz := sz) hwf hg hk
    exact ⟨hl', fun _ _ _ _ _ r => hs.row (hwf.kept k hl') r, fun _ _ _ _ r => hs.rp (hwf.kept k hl') r, fun _ _ r => hs.ptr r⟩

theorem new_heap (hwf : S.wf) (hg : Grows S.w w) (hkey : ¬ S.used key) {hp : List (Nat × AObj)} (hh : HeapOK S hp) {o : AObj} (ho : ObjOK (S.new key row w arr T n sz) key o) : HeapOK (S.new key row w arr T n sz) (put1 hp key o) := by
  intro k o' hk
  rw [look_put] at hk
  split at hk
  · next h => subst h; cases hk; exact ⟨.inl rfl, .inl rfl, ho⟩
  · next h =>
    obtain ⟨h1, h2, h3⟩ := hh k o' hk
    exact ⟨.inr h1, .inr h2, h3.same (new_ext hwf hg hkey) (new_same hwf hg h)⟩
end new

end Go.Ev
