/- Slices: places in them, parts of them. -/
import Derived.Test.YtbmadhdeikoecaaEvE
namespace Go.Ev

theorem Seq.len_take (q : Seq AV) (n : Nat) (h : n ≤ q.len) : (q.take n).len = n := by
  cases q <;> simp_all [Seq.len, Seq.take]

theorem Seq.len_drop (q : Seq AV) (n : Nat) : (q.drop n).len = q.len - n := by
  cases q <;> simp [Seq.len, Seq.drop]

theorem Seq.get_take (q : Seq AV) (n i : Nat) (h : i < n) : (q.take n).get i = q.get i := by
  cases q <;> simp [Seq.get, Seq.take, h]

theorem Seq.get_drop (q : Seq AV) (n i : Nat) : (q.drop n).get i = q.get (n + i) := by
  cases q <;> simp [Seq.get, Seq.drop]

theorem cutSeq_len (q : Seq AV) (l h : Nat) (hl hh : Bool) (h1 : l ≤ h) (h2 : h ≤ q.len) (h3 : hh = false → h = q.len) (h4 : hl = false → l = 0) : (cutSeq q l h hl hh).len = h - l := by
  cases hl <;> cases hh <;> simp only [cutSeq]
  · have := h3 rfl; have := h4 rfl; omega
  · rw [Seq.len_take q h h2]; have := h4 rfl; omega
  · rw [Seq.len_drop]; have := h3 rfl; omega
  · rw [Seq.len_drop, Seq.len_take q h h2]

theorem cutSeq_get (q : Seq AV) (l h : Nat) (hl hh : Bool) (h4 : hl = false → l = 0) (i : Nat) (hi : l + i < h) : (cutSeq q l h hl hh).get i = q.get (l + i) := by
  cases hl <;> cases hh <;> simp only [cutSeq]
  · have := h4 rfl; subst this; rw [Nat.zero_add]
  · have := h4 rfl; subst this; rw [Seq.get_take _ _ _ (by omega), Nat.zero_add]
  · rw [Seq.get_drop]
  · rw [Seq.get_drop, Seq.get_take _ _ _ hi]

section
variable {P : Program}

theorem elemSz_spec {t : TypeId} {sz : Nat} (h : elemSz P t sz = true) : ∃ e, P.underlying t = some (.slice e) ∧ sizeA P e = some sz := by
  unfold elemSz at h
  split at h
  · next e he =>
    split at h
    · next s hs =>
      have := Nat.eq_of_beq_eq_true h
      subst this
      exact ⟨e, elemOf_spec he, hs⟩
    · cases h
  · cases h

theorem rowSz_spec {hp : Nat → Option AObj} {k sz : Nat} (h : rowSz hp k = some sz) : ∃ T q f, hp k = some (.row T sz q f) := by
  unfold rowSz at h
  split at h
  · next hk => cases h; exact ⟨_, _, _, hk⟩
  · cases h

/-- of a slice that nobody writes -/
theorem rep_sl {S : St} {v : Value} {sz : Nat} {q : Seq AV} {t : Bool} (h : Rep S v (.sl sz q t)) : ∃ a c, v = .slice a q.len c ∧ RepI S.w S.free v (.sl sz q t) ∧ q.len ≤ c ∧ (t = true → c = q.len) := by
  cases h with
  | i _ _ h =>
    refine (fun hh => ?_) h
    cases h with
    | slNil _ _ _ hq => exact ⟨none, 0, by rw [hq], hh, by omega, fun _ => hq.symm⟩
    | sl ad n c _ _ _ u hn hc ht => subst hn; exact ⟨some ad, c, rfl, hh, hc, ht⟩

theorem rep_row {S : St} {v : Value} {k off len ver : Nat} {t : Bool} (h : Rep S v (.row k off len ver t)) : S.used k ∧ (S.live k → RowOK S v k off len ver t) ∧ ∃ a c, v = .slice a len c ∧ (a = none → c = 0) := by
  cases h with
  | i _ _ h => cases h
  | row _ _ _ _ _ _ hu hr hx => exact ⟨hu, hr, hx⟩

theorem indexAddrA_run {S : St} {hp : List (Nat × AObj)} {ks : List Nat} {t : TypeId} {x i : AV} {vx vi : Value} {r : R} (hh : HeapOK S hp) (hr : indexAddrA P (restr hp ks) t x i = some r) (hc : AllP r.cond) (hx : Rep S vx x) (hi : Rep S vi i) :
    r.upd = [] ∧ ∃ y, (Instr.indexAt t vx vi).run P S.w = .ok y S.w ∧ Rep S y r.val := by
  unfold indexAddrA at hr
  split at hr
  · next sz q tt k i =>
    obtain ⟨rfl, _⟩ := rep_v hi
    split at hr
    · next he =>
      cases hr
      obtain ⟨e, ht, hs⟩ := elemSz_spec he
      obtain ⟨⟨h0, h1⟩, _⟩ := hc
      have hlt : i.toNat < q.len := by omega
      cases hx with
      | i _ _ hx =>
        cases hx with
        | slNil _ _ _ hq => omega
        | sl ad n c _ _ _ u hn hcap htt hsz hU hl hcell hrep =>
          refine ⟨rfl, _, run_indexAt ht hs S.w ad n c k i h0 (by omega), .i _ _ (.ip _ _ (fun j => u i.toNat j) (fun _ => ?_) (fun j hj => ?_) (fun j hj => ?_))⟩
          · rw [add_block]; exact hU (by omega)
          · rw [add_add]; exact (hcell _ _ hlt (by rw [← hl _ hlt]; exact hj)).1
          · exact hrep _ _ hlt hj
    · cases hr
  · next kk off len ver tt k i =>
    obtain ⟨rfl, _⟩ := rep_v hi
    split at hr
    · next sz hz =>
      split at hr
      · next he =>
        cases hr
        obtain ⟨e, ht, hs⟩ := elemSz_spec he
        obtain ⟨⟨h0, h1⟩, _⟩ := hc
        obtain ⟨T, q, f, hk⟩ := rowSz_spec hz
        obtain ⟨hu, hl, ho⟩ := hh _ _ (restr_look hk)
        obtain ⟨_, hrow, _⟩ := rep_row hx
        obtain ⟨hr1, a, c, rfl, hr2, hr3, hr4, hr5, hr6, hr7⟩ := hrow hl
        obtain ⟨_, ho1, ho2, _⟩ := ho
        have hlen : 0 < len := by omega
        obtain ⟨ad, rfl, hr8⟩ := hr6 hlen
        refine ⟨rfl, _, run_indexAt ht hs S.w ad len c k i h0 h1, .rp _ _ _ _ _ hu (fun _ => ⟨hr1, _, rfl, ?_, hr3, fun hf => ?_, fun hv => ?_⟩) ⟨_, rfl⟩⟩
        · rw [ixPlus_eq]; omega
        · obtain ⟨h2, hcur, h3⟩ := hr8 hf
          refine ⟨by rw [add_block]; exact h2, fun hcc => ?_, fun j hj => ?_⟩
          · rw [add_block] at hcc ⊢
            have := hcur hcc
            rw [this, addr_add, ixPlus_eq, ho1, Nat.add_mul, Nat.add_zero]
          rw [ho1] at hj h3 ⊢
          have hb : i.toNat * sz + j < len * sz := by
            have h1 : i.toNat * sz + sz ≤ len * sz := by rw [← Nat.succ_mul]; exact Nat.mul_le_mul_right _ (by omega)
            omega
          have := h3 (i.toNat * sz + j) hb
          rw [add_add, ixPlus_eq, Nat.add_zero, show (off + i.toNat) * sz + j = off * sz + (i.toNat * sz + j) by rw [Nat.add_mul]; omega]
          exact this
        · have h2 := hr7 hv
          cases hcur : S.cur kk with
          | none => rw [hcur] at h2; omega
          | some b =>
            rw [hcur] at h2
            have h3 := h2.1 (by omega)
            cases h3
            exact ⟨b, rfl, by rw [addr_add, ixPlus_eq, ho1, Nat.add_mul, Nat.add_zero]⟩
      · cases hr
    · cases hr
  · cases hr

/-! ### parts -/

/-- the values of a slice expression's bounds -/
def RepO (S : St) : Option Value → Option AV → Prop
  | none, none => True
  | some v, some x => Rep S v x
  | _, _ => False

theorem allP_append {a b : List Prop} (h : AllP (a ++ b)) : AllP a ∧ AllP b := by
  induction a with
  | nil => exact ⟨trivial, h⟩
  | cons x a ih => exact ⟨⟨h.1, (ih h.2).1⟩, (ih h.2).2⟩

theorem allP_mk {a b : List Prop} (h : AllP a) (k : AllP b) : AllP (a ++ b) := by
  induction a with
  | nil => exact k
  | cons x a ih => exact ⟨h.1, ih h.2⟩

/-- bounds as numbers -/
def IntO : Option Value → Option Int → Prop
  | none, none => True
  | some v, some n => ∃ k, v = .int k n
  | _, _ => False

def BHi (hi mx : Option Int) (h len : Nat) : Prop :=
  match hi with
  | none => h = len ∧ mx = none
  | some n => 0 ≤ n ∧ h = n.toNat ∧ n ≤ (len : Int)
def BMx (mx : Option Int) (h : Nat) : Prop :=
  match mx with
  | none => True
  | some m => m = (h : Int)
def BLo (lo : Option Int) (l h : Nat) : Prop :=
  match lo with
  | none => l = 0
  | some n => 0 ≤ n ∧ n ≤ (h : Int) ∧ l = n.toNat

theorem run_bounds {vlo vhi vmx : Option Value} {lo hi mx : Option Int} (hlo : IntO vlo lo) (hhi : IntO vhi hi) (hmx : IntO vmx mx) (isS : Bool) (len cap : Nat) (hcap : len ≤ cap) (w : World) (l h : Nat)
    (h1 : BHi hi mx h len) (h2 : BMx mx h) (h3 : BLo lo l h) :
    (Instr.sliceBounds isS len cap vlo vhi vmx).run P w = .ok (l, h, (match mx with | none => cap | some _ => h)) w := by
  have hb : ∀ (k : IntKind) (n : Int) (y : Nat) (code : BoundsCode), 0 ≤ n → n ≤ (y : Int) → (Instr.sliceBound (.int k n) y code).run P w = .ok n.toNat w := fun k n y code a b => run_sliceBound w k n y code a b
  cases vhi with
  | none =>
    cases hi with
    | some _ => exact hhi.elim
    | none =>
    obtain ⟨rfl, rfl⟩ := h1
    cases vmx with
    | some _ => exact hmx.elim
    | none =>
    cases vlo with
    | none => cases lo with
      | some _ => exact hlo.elim
      | none => cases h3; simp [Instr.sliceBounds]
    | some vl => cases lo with
      | none => exact hlo.elim
      | some n =>
        obtain ⟨k, rfl⟩ := hlo
        obtain ⟨a, b, rfl⟩ := h3
        simp [Instr.sliceBounds, hb _ _ _ _ a b]
  | some vh =>
    cases hi with
    | none => exact hhi.elim
    | some n =>
    obtain ⟨kh, rfl⟩ := hhi
    obtain ⟨h0, rfl, hle⟩ := h1
    obtain ⟨n, rfl⟩ := Int.eq_ofNat_of_zero_le h0
    simp only [Int.toNat_natCast] at *
    cases vmx with
    | none => cases mx with
      | some _ => exact hmx.elim
      | none =>
      have hb1 := fun code => hb kh n cap code h0 (by omega)
      simp only [Int.toNat_natCast] at hb1
      cases vlo with
      | none => cases lo with
        | some _ => exact hlo.elim
        | none => cases h3; simp [Instr.sliceBounds, hb1]
      | some vl => cases lo with
        | none => exact hlo.elim
        | some m =>
          obtain ⟨k, rfl⟩ := hlo
          obtain ⟨a, b, rfl⟩ := h3
          simp [Instr.sliceBounds, hb1, hb _ _ _ _ a b]
    | some vm => cases mx with
      | none => exact hmx.elim
      | some m =>
      obtain ⟨km, rfl⟩ := hmx
      cases h2
      have hb0 := fun code => hb km (n : Int) cap code (by omega) (by omega)
      have hb1 := fun code => hb kh n n code h0 (by omega)
      simp only [Int.toNat_natCast] at hb0 hb1
      cases vlo with
      | none => cases lo with
        | some _ => exact hlo.elim
        | none => cases h3; simp [Instr.sliceBounds, hb0, hb1]
      | some vl => cases lo with
        | none => exact hlo.elim
        | some m =>
          obtain ⟨k, rfl⟩ := hlo
          obtain ⟨a, b, rfl⟩ := h3
          simp [Instr.sliceBounds, hb0, hb1, hb _ _ _ _ a b]

theorem cutA_run {S : St} {lo hi mx : Option AV} {vlo vhi vmx : Option Value} {len cap l h : Nat} {tight tt : Bool} {c : List Prop} (hr : cutA lo hi mx len tight = some (l, h, tt, c)) (hc : AllP c)
    (hlo : RepO S vlo lo) (hhi : RepO S vhi hi) (hmx : RepO S vmx mx) (hcap : len ≤ cap) (ht : tight = true → cap = len) (isS : Bool) (w : World) :
    ∃ m, (Instr.sliceBounds isS len cap vlo vhi vmx).run P w = .ok (l, h, m) w ∧ l ≤ h ∧ h ≤ len ∧ h ≤ m ∧ m ≤ cap ∧ (tt = true → m = h) ∧ (mx = none → m = cap) ∧ (lo = none → l = 0) ∧ (hi = none → h = len) := by
  unfold cutA at hr
  split at hr
  case h_2 => cases hr
  next h' t1 c1 hhi' hmm =>
  have hm : hi = none → mx = none := fun h => by
    subst h
    cases mx with
    | none => rfl
    | some _ => simp at hmm
  split at hr
  case h_2 => cases hr
  next t2 c2 l' c3 hmx' hlo' =>
  cases hr
  obtain ⟨hc1, hc23⟩ := allP_append hc
  obtain ⟨hc2, hc3⟩ := allP_append hc23
  -- the three bounds as numbers
  have Hhi : ∃ ih : Option Int, IntO vhi ih ∧ (∀ im, (hi = none → im = none) → BHi ih im h len) ∧ h ≤ len ∧ (hi = none → h = len) ∧ (t1 = true → h = len ∧ tight = true) := by
    unfold cutHi at hhi'
    split at hhi'
    · cases hhi'
      cases vhi with
      | some _ => exact hhi.elim
      | none => exact ⟨none, trivial, fun im h => ⟨rfl, h rfl⟩, Nat.le_refl _, fun _ => rfl, fun h => ⟨rfl, h⟩⟩
    · next k n =>
      cases hhi'
      cases vhi with
      | none => exact hhi.elim
      | some v =>
        obtain ⟨rfl, _⟩ := rep_v hhi
        obtain ⟨⟨a, b⟩, _⟩ := hc1
        exact ⟨some n, ⟨k, rfl⟩, fun _ _ => ⟨a, rfl, b⟩, by omega, (fun h => by cases h), (fun h => by cases h)⟩
    · cases hhi'
  obtain ⟨ih, hih, hih2, hle, hinone, ht1⟩ := Hhi
  have Hmx : ∃ im : Option Int, IntO vmx im ∧ BMx im h ∧ (mx = none ↔ im = none) ∧ (tt = true → mx = none → t1 = true) := by
    unfold cutMx at hmx'
    split at hmx'
    · cases hmx'
      cases vmx with
      | some _ => exact hmx.elim
      | none => exact ⟨none, trivial, trivial, by simp, fun h _ => h⟩
    · next k n =>
      cases hmx'
      cases vmx with
      | none => exact hmx.elim
      | some v =>
        obtain ⟨rfl, _⟩ := rep_v hmx
        exact ⟨some n, ⟨k, rfl⟩, hc2.1, by simp, (fun _ h => by cases h)⟩
    · cases hmx'
  obtain ⟨im, him, him2, himn, ht2⟩ := Hmx
  have Hlo : ∃ il : Option Int, IntO vlo il ∧ BLo il l h ∧ l ≤ h ∧ (lo = none → l = 0) := by
    unfold cutLo at hlo'
    split at hlo'
    · cases hlo'
      cases vlo with
      | some _ => exact hlo.elim
      | none => exact ⟨none, trivial, rfl, Nat.zero_le _, fun _ => rfl⟩
    · next k n =>
      cases hlo'
      cases vlo with
      | none => exact hlo.elim
      | some v =>
        obtain ⟨rfl, _⟩ := rep_v hlo
        obtain ⟨⟨a, b⟩, _⟩ := hc3
        exact ⟨some n, ⟨k, rfl⟩, ⟨a, b, rfl⟩, by omega, (fun h => by cases h)⟩
    · cases hlo'
  obtain ⟨il, hil, hil2, hlh, hl0⟩ := Hlo
  have hrun := run_bounds (P := P) hil hih him isS len cap hcap w l h (hih2 im fun h => himn.1 (hm h)) him2 hil2
  refine ⟨_, hrun, hlh, hle, ?_, ?_, ?_, ?_, hl0, hinone⟩
  · cases im <;> simp only <;> omega
  · cases im <;> simp only <;> omega
  · intro htt
    cases im with
    | none =>
      simp only
      obtain ⟨a, b⟩ := ht1 (ht2 htt (himn.2 rfl))
      have := ht b
      omega
    | some m => rfl
  · intro hmn
    have := himn.1 hmn
    subst this
    rfl

theorem sliceA_run {S : St} {hp : List (Nat × AObj)} {ks : List Nat} {t : TypeId} {x : AV} {lo hi mx : Option AV} {vx : Value} {vlo vhi vmx : Option Value} {r : R} (hh : HeapOK S hp) (hr : sliceA P (restr hp ks) t x lo hi mx = some r) (hc : AllP r.cond)
    (hx : Rep S vx x) (hlo : RepO S vlo lo) (hhi : RepO S vhi hi) (hmx : RepO S vmx mx) :
    r.upd = [] ∧ ∃ y, (Instr.sliceAt t vx vlo vhi vmx).run P S.w = .ok y S.w ∧ Rep S y r.val := by
  unfold sliceA at hr
  split at hr
  · next s =>
    obtain ⟨rfl, _⟩ := rep_v hx
    split at hr
    · next l h tt c ht hct =>
      cases hr
      have hvm : vmx = none := by
        cases vmx with
        | none => rfl
        | some _ => exact hmx.elim
      subst hvm
      obtain ⟨m, hrun, _⟩ := cutA_run (P := P) (cap := s.size) hct hc hlo hhi (vmx := none) trivial (Nat.le_refl _) (fun h => by cases h) false S.w
      refine ⟨rfl, _, ?_, .v trivial⟩
      simp [Instr.sliceAt, Instr.slice, run_underlying ht, hrun]
    · cases hr
  · next sz q tight =>
    split at hr
    · next l h tt c he hct =>
      cases hr
      obtain ⟨e, ht, hs⟩ := elemSz_spec he
      obtain ⟨a, cap, rfl, hi', hcap, htight⟩ := rep_sl hx
      obtain ⟨m, hrun, hlh, hhl, hhm, hmc, htt, hmn, hl0, hh0⟩ := cutA_run (P := P) hct hc hlo hhi hmx hcap htight true S.w
      have hlo0 : lo.isSome = false → l = 0 := fun h => hl0 (by cases lo <;> simp_all)
      have hhi0 : hi.isSome = false → h = q.len := fun h' => hh0 (by cases hi <;> simp_all)
      have hlen : (cutSeq q l h lo.isSome hi.isSome).len = h - l := cutSeq_len q l h _ _ hlh hhl hhi0 hlo0
      refine ⟨rfl, .slice (if m = l then a else a.map (·.add (l * sz))) (h - l) (m - l), ?_, ?_⟩
      · simp [Instr.sliceAt, Instr.slice, run_underlying ht, hrun, run_sizeOf hs]
      · generalize hqe : q.len = n at hi'
        cases hi' with
        | slNil _ _ _ hq =>
          have h1 : l = 0 := by omega
          have h2 : h = 0 := by omega
          have h3 : m = 0 := by omega
          subst h1; subst h2; subst h3
          exact .i _ _ (.slNil _ _ _ (by rw [hlen]))
        | sl ad _ _ _ _ _ u hn hc' ht' hsz hU hl hcell hrep =>
          have he : (if m = l then some ad else (some ad).map (·.add (l * sz))) = some (if m = l then ad else ad.add (l * sz)) := by split <;> rfl
          rw [he]
          refine .i _ _ (.sl _ _ _ _ _ _ (fun i j => u (l + i) j) hlen.symm (by rw [hlen]; omega) (fun h1 => by rw [hlen, htt h1]) hsz (fun h0 => ?_) (fun i hi1 => ?_) (fun i j hi1 hj => ?_) (fun i j hi1 hj => ?_))
          · have : 0 < q.len := by omega
            split
            · exact hU this
            · rw [add_block]; exact hU this
          · rw [hlen] at hi1
            rw [cutSeq_get q l h _ _ hlo0 i (by omega)]
            exact hl _ (by omega)
          · rw [hlen] at hi1
            have hml : ¬ m = l := by omega
            rw [if_neg hml, add_add]
            have := hcell (l + i) j (by omega) hj
            rwa [Nat.add_mul, Nat.add_assoc] at this
          · rw [hlen] at hi1
            have hg := cutSeq_get q l h lo.isSome hi.isSome hlo0 i (by omega)
            simp only [hg] at hj ⊢
            exact hrep (l + i) j (by omega) hj
    · cases hr
  · next k off len ver tight =>
    split at hr
    · next sz l h tt c hz hct =>
      split at hr
      · next he =>
        cases hr
        obtain ⟨e, ht, hs⟩ := elemSz_spec he
        obtain ⟨T, q, f, hk⟩ := rowSz_spec hz
        obtain ⟨hu, hl, ho⟩ := hh _ _ (restr_look hk)
        obtain ⟨_, hrow, a0, c0, hv0, hn0⟩ := rep_row hx
        obtain ⟨hr1, a, cap, rfl, hr2, hr3, hcap, htight, hr6, hr7⟩ := hrow hl
        obtain ⟨_, ho1, ho2, _⟩ := ho
        obtain ⟨m, hrun, hlh, hhl, hhm, hmc, htt, hmn, hl0, hh0⟩ := cutA_run (P := P) hct hc hlo hhi hmx hcap htight true S.w
        have heo : rowOff lo off l = off + l := by
          cases lo with
          | none => have := hl0 rfl; subst this; rfl
          | some _ => exact ixPlus_eq off l
        have hel : rowLen lo l h = h - l := by
          cases lo with
          | none => have := hl0 rfl; subst this; rfl
          | some _ => rfl
        refine ⟨rfl, .slice (if m = l then a else a.map (·.add (l * sz))) (h - l) (m - l), ?_, ?_⟩
        · simp [Instr.sliceAt, Instr.slice, run_underlying ht, hrun, run_sizeOf hs]
        · simp only [heo, hel]
          refine .row _ _ _ _ _ _ hu (fun _ => ⟨hr1, _, _, rfl, by omega, hr3, by omega, fun h1 => by rw [htt h1], fun h0 => ?_, fun hv => ?_⟩) ⟨_, _, rfl, fun hn => ?_⟩
          rotate_left 2
          · have hae : a = a0 := by injection hv0
            have hce : cap = c0 := by injection hv0
            have : a = none := by
              cases a with
              | none => rfl
              | some _ => split at hn <;> cases hn
            have := hn0 (hae ▸ this)
            omega
          · obtain ⟨ad, rfl, hr8⟩ := hr6 (by omega)
            have hml : ¬ m = l := by omega
            refine ⟨ad.add (l * sz), by rw [if_neg hml]; rfl, fun hf => ?_⟩
            obtain ⟨h1, hcur, h2⟩ := hr8 hf
            refine ⟨by rw [add_block]; exact h1, fun hcc => ?_, fun j hj => ?_⟩
            · rw [add_block] at hcc ⊢
              have := hcur hcc
              rw [this, addr_add, ho1, Nat.add_mul]
            rw [ho1] at hj h2 ⊢
            have hb : l * sz + j < len * sz := by
              have h3 : (l + (h - l)) * sz ≤ len * sz := Nat.mul_le_mul_right _ (by omega)
              rw [Nat.add_mul] at h3
              omega
            have := h2 (l * sz + j) hb
            rw [add_add, Nat.add_mul, Nat.add_assoc]
            exact this
          · have h2 := hr7 hv
            cases hcur : S.cur k with
            | none =>
              rw [hcur] at h2
              obtain ⟨h3, h4, h5⟩ := h2
              have e1 : m = 0 := by omega
              have e2 : l = 0 := by omega
              subst e1; subst e2
              exact ⟨by simp [h3], by omega, by omega⟩
            | some b =>
              rw [hcur] at h2
              obtain ⟨h3, h4⟩ := h2
              refine ⟨fun h0 => ?_, ?_⟩
              · have hml : ¬ m = l := by omega
                rw [if_neg hml, h3 (by omega)]
                simp only [Option.map_some, addr_add]
                rw [ho1, Nat.add_mul]
              · refine Nat.le_trans (Nat.mul_le_mul_right _ ?_) h4
                omega
      · cases hr
    · cases hr
  · cases hr

end
end Go.Ev
