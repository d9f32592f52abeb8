/- Conversions, built-in functions, calls. -/
import Derived.Test.YtbmadhdeikoecaaEvK
namespace Go.Ev

section
variable {P : Program}

theorem widens_eq {a b : IntKind} (_h : widens a b = true) {n : Int} (h : inR b n) : b.wrap n = n := wrap_inR h

theorem strOfInts_eq (l : List Int) : strOfInts l = strOfNums l := rfl

theorem isSliceA_spec {S : St} {x : AV} {v : Value} (h : isSliceA x = true) (hx : Rep S v x) : ∃ a n c, v = .slice a n c := by
  unfold isSliceA at h
  split at h
  · obtain ⟨a, c, h, _⟩ := rep_sl hx; exact ⟨a, _, c, h⟩
  · obtain ⟨a, c, h, _⟩ := (rep_row hx).2.2; exact ⟨a, _, c, h⟩
  · obtain ⟨rfl, _⟩ := rep_v hx; exact ⟨_, _, _, rfl⟩
  · cases h

theorem convA_run {S : St} {key : Nat} {hp : List (Nat × AObj)} {ks : List Nat} {src dst : TypeId} {x : AV} {v : Value} {r : R} (hwf : S.wf) (hh : HeapOK S hp) (hr : convA P (restr hp ks) src dst x = some r) (hc : AllP r.cond) (hx : Rep S v x) :
    ∃ y S', (convert src dst v).run P S.w = .ok y S'.w ∧ Post S key (applyUpd hp r.upd) r.val y S' := by
  have same : ∀ y, (convert src dst v).run P S.w = .ok y S.w → r.upd = [] → Rep S y r.val → ∃ y S', (convert src dst v).run P S.w = .ok y S'.w ∧ Post S key (applyUpd hp r.upd) r.val y S' := by
    intro y h1 h2 h3
    refine ⟨y, S, h1, hwf, Ext.refl S, fun k h => .inl h, h3, ?_⟩
    rw [h2]
    exact hh
  unfold convA at hr
  split at hr
  · next d k k' n hs hd =>
    obtain ⟨rfl, _⟩ := rep_v hx
    have hrun : (convert src dst (.int k' n)).run P S.w = .ok (.int k (k.wrap n)) S.w := by simp [convert, run_underlying hs, run_underlying hd, Conv.intToInt]
    split at hr
    · next hwd =>
      cases hr
      have := wrap_inR hc.1
      rw [this] at hrun
      exact same _ hrun rfl (.v trivial)
    · cases hr
      exact same _ hrun rfl (.v trivial)
  · next d s hs hd =>
    obtain ⟨rfl, _⟩ := rep_v hx
    cases hr
    exact same _ (by simp [convert, run_underlying hs, run_underlying hd]) rfl (.v trivial)
  · next e s hs hd =>
    obtain ⟨rfl, _⟩ := rep_v hx
    split at hr
    · next he =>
      cases hr
      have hrun := run_bytes_of_string (P := P) S.w src dst e s hs hd he
      have hg : Grows S.w (S.w.drew.alloc (.cells (bytesRow s (grownCap S.w s.size 0 e)) e ((bytesRow s (grownCap S.w s.size 0 e)).size, (bytesRow s (grownCap S.w s.size 0 e)).size + 1))) := (Grows.drew S.w).trans (alloc_grows _ _)
      refine ⟨_, S.at _, hrun, wf_at hg hwf, ext_at hg hwf, fun k h => .inl h, ?_, heap_at hg hwf hh⟩
      have hge := grownCap_ge S.w s.size 0 e
      have hlen : (Seq.ints (α := AV) .u8 (intsOfStr s)).len = s.size := intsOfStr_len s
      have hbs : s.size ≤ (bytesRow s (grownCap S.w s.size 0 e)).size := by
        have : s.data.size = s.size := rfl
        simp [bytesRow]
      refine new_sl hwf (Grows.drew S.w) (Nat.succ_pos 0) hlen hge (fun h => by cases h) (by simpa using hbs) (fun i _ => rfl) (fun i j hi hj => ?_)
      have hj0 : j = 0 := by simpa [Seq.get, AV.cells] using hj
      subst hj0
      have hi2 : i < s.data.size := hi
      simp only [Seq.get, AV.cells, List.getElem_cons_zero, Nat.mul_one, Nat.add_zero]
      have e1 : (bytesRow s (grownCap S.w s.size 0 e)).getD i undef = .int .u8 (s.data[i].toNat : Int) := by
        unfold bytesRow
        rw [getD_append_left (by simpa using hi2), Array.getD_eq_getD_getElem?, Array.getElem?_map, Array.getElem?_eq_getElem hi2]
        rfl
      have e2 : (intsOfStr s).getD i 0 = (s.data[i].toNat : Int) := by simp [intsOfStr, Array.getElem?_eq_getElem hi2]
      rw [e1, e2]
      exact ⟨.v _ trivial, trivial⟩
    · cases hr
  · next e hs hd hne =>
    split at hr
    · next l c he hcont hsl =>
      cases hr
      have hsz : ∃ sz, sizeA P e = some sz := by
        unfold contents at hcont
        split at hcont
        · cases hcont
        · next s hs => exact ⟨s, hs⟩
      obtain ⟨sz, hsz⟩ := hsz
      obtain ⟨hl, arr, ha, hf⟩ := contents_spec hh hsz hcont hc hx
      obtain ⟨a, n, c', rfl⟩ := isSliceA_spec hsl hx
      have hbytes : sz = 1 ∨ l = [] := by
        rcases Nat.eq_zero_or_pos l.length with h0 | h0
        · exact .inr (List.eq_nil_of_length_eq_zero h0)
        · left
          have := ha.2.1 0 h0
          simpa [Seq.get, AV.cells] using this.symm
      have harr : arr = (l.map (Value.int .u8)).toArray := by
        rcases hbytes with h1 | h1
        · subst h1
          apply Array.ext
          · have := ha.1
            simpa [Seq.len] using this
          · intro i h1 h2
            have hi : i < l.length := by simpa using h2
            have := (ha.2.2 i 0 hi (by simp [Seq.get, AV.cells])).1
            simp only [Nat.mul_one, Nat.add_zero, Seq.get, AV.cells, List.getElem_cons_zero] at this
            obtain ⟨h3, _⟩ := rep_v this
            rw [Array.getD_eq_getD_getElem?, Array.getElem?_eq_getElem h1] at h3
            simp only [Option.getD_some] at h3
            rw [h3]
            simp [hi]
        · subst h1
          apply Array.eq_empty_of_size_eq_zero
          rw [ha.1]
          simp [Seq.len]
      have hfc := hf S.w rfl
      have hlen : n = l.length := by
        have := hl S.w
        simp only [Builtin.lenOf, Sem.run_pure] at this
        injection this
      subst hlen
      have hlsz : l.length * sz = l.length := by
        rcases hbytes with h1 | h1
        · rw [h1, Nat.mul_one]
        · rw [h1]; simp
      refine same (.string (strOfInts l)) ?_ rfl (.v trivial)
      rw [run_convert_bytes_string S.w src dst e a l.length c' hs he hd]
      cases a with
      | none =>
        have : arr = #[] := by
          have : Result.ok #[] S.w = Result.ok arr S.w := hfc
          injection this with h
          exact h.symm
        rw [this] at harr
        have hl0 : l = [] := by
          have := congrArg Array.size harr
          simp at this
          exact List.eq_nil_of_length_eq_zero this.symm
        subst hl0
        rfl
      | some ad =>
        have hload : (loadCells ad l.length).run P S.w = .ok (l.map (Value.int .u8)).toArray S.w := by
          rw [← harr]
          have : (loadCells ad (l.length * sz)).run P S.w = .ok arr S.w := hfc
          rwa [hlsz] at this
        rw [run_bytesToString S.w ad l.length c' l hload, foldl_push_bytes]
        congr 2
        simp [strOfInts, ByteArray.empty, ByteArray.emptyWithCapacity]
        rfl
    · cases hr
  · cases hr

/-! ### built-in functions -/

theorem builtinA_run {S : St} {key : Nat} {hp : List (Nat × AObj)} {ks : List Nat} {b : Builtin} {ts : List TypeId} {ty : TypeId} {xs : List AV} {vs : List Value} {consts : Array Bool} {r : R} (hwf : S.wf) (hh : HeapOK S hp) (hkey : ¬ S.used key) (hr : builtinA P key (restr hp ks) b ts xs = some r) (hc : AllP r.cond)
    (hl : vs.length = xs.length) (hx : ∀ i (h1 : i < vs.length) (h2 : i < xs.length), Rep S vs[i] xs[i]) :
    ∃ y S', (builtin b ts.toArray ty consts vs.toArray).run P S.w = .ok (.value y) S'.w ∧ Post S key (applyUpd hp r.upd) r.val y S' := by
  have same : ∀ y, (builtin b ts.toArray ty consts vs.toArray).run P S.w = .ok (.value y) S.w → r.upd = [] → Rep S y r.val → ∃ y S', (builtin b ts.toArray ty consts vs.toArray).run P S.w = .ok (.value y) S'.w ∧ Post S key (applyUpd hp r.upd) r.val y S' := by
    intro y h1 h2 h3
    refine ⟨y, S, h1, hwf, Ext.refl S, fun k h => .inl h, h3, ?_⟩
    rw [h2]
    exact hh
  unfold builtinA at hr
  split at hr
  · next t x =>
    obtain ⟨v, rfl⟩ : ∃ v, vs = [v] := by
      match vs, hl with
      | [v], _ => exact ⟨v, rfl⟩
    have h0 := hx 0 (by simp) (by simp)
    simp only [List.getElem_cons_zero] at h0
    clear hx
    split at hr
    · next s ht =>
      cases hr
      obtain ⟨rfl, _⟩ := rep_v h0
      exact same _ (by simp [builtin, Builtin.len_, run_underlying ht]; rfl) rfl (.v trivial)
    · next e sz q tt ht =>
      cases hr
      obtain ⟨a, c, rfl, _⟩ := rep_sl h0
      exact same _ (by simp [builtin, Builtin.len_, run_underlying ht]; rfl) rfl (.v trivial)
    · next e k off len ver tt ht =>
      cases hr
      obtain ⟨_, _, a, c, rfl, _⟩ := rep_row h0
      exact same _ (by simp [builtin, Builtin.len_, run_underlying ht]; rfl) rfl (.v trivial)
    · next e ht =>
      cases hr
      obtain ⟨rfl, _⟩ := rep_v h0
      exact same _ (by simp [builtin, Builtin.len_, run_underlying ht]; rfl) rfl (.v trivial)
    · next n e ht =>
      cases hr
      exact same _ (by simp [builtin, Builtin.len_, run_underlying ht]; rfl) rfl (.v trivial)
    · cases hr
  · next t xt s x =>
    obtain ⟨v, u, rfl⟩ : ∃ v u, vs = [v, u] := by
      match vs, hl with
      | [v, u], _ => exact ⟨v, u, rfl⟩
    have h0 := hx 0 (by simp) (by simp)
    have h1 := hx 1 (by simp) (by simp)
    simp only [List.getElem_cons_zero, List.getElem_cons_succ] at h0 h1
    obtain ⟨y, S', h2, h3⟩ := appendA_run (P := P) (ty := ty) hwf hh hkey hr hc h0 h1
    exact ⟨y, S', by simp [builtin, h2], h3⟩
  · next k x k' y =>
    obtain ⟨v, u, rfl⟩ : ∃ v u, vs = [v, u] := by
      match vs, hl with
      | [v, u], _ => exact ⟨v, u, rfl⟩
    have h0 := hx 0 (by simp) (by simp)
    have h1 := hx 1 (by simp) (by simp)
    simp only [List.getElem_cons_zero, List.getElem_cons_succ] at h0 h1
    obtain ⟨rfl, _⟩ := rep_v h0
    obtain ⟨rfl, _⟩ := rep_v h1
    cases hr
    exact same _ (by simp [builtin, Builtin.max_, Builtin.max2]) rfl (.v trivial)
  · next k x k' y =>
    obtain ⟨v, u, rfl⟩ : ∃ v u, vs = [v, u] := by
      match vs, hl with
      | [v, u], _ => exact ⟨v, u, rfl⟩
    have h0 := hx 0 (by simp) (by simp)
    have h1 := hx 1 (by simp) (by simp)
    simp only [List.getElem_cons_zero, List.getElem_cons_succ] at h0 h1
    obtain ⟨rfl, _⟩ := rep_v h0
    obtain ⟨rfl, _⟩ := rep_v h1
    cases hr
    exact same _ (by simp [builtin, Builtin.min_, Builtin.min2]) rfl (.v trivial)
  · cases hr

end
end Go.Ev
