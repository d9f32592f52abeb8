/- Contracts of the program's functions, and the plain law behind them. No condition beyond those in each statement. -/
import Derived.Test.YtcjpfafmaecgiaaMbAll2
import Derived.Test.YtcjpfafmaecgiaaEvAll8
set_option linter.unusedSimpArgs false
set_option linter.unusedVariables false
set_option linter.unusedSectionVars false
/- Machine: contracts of CleanAll, Clone, Done. -/
set_option maxRecDepth 100000
namespace Go.Proofs.Ma
open Go Go.Ev

noncomputable abbrev evCl (l : List VR) (n : Nat) (t : Bool) (b : Bool) := evCode Try.prog SB4 (LoopTo Try.prog) (loopAt Try.f18 0) [CHint.ops 3 [(3, Hint.b b)]] (clS l n t)
abbrev seenCl (r : Exit × AS × List Prop × List CHint) := (r.1, r.2.1.n, Go.Ev.look r.2.1.fr 0, Go.Ev.look r.2.1.fr 3, Go.Ev.look r.2.1.fr 4, Go.Ev.look r.2.1.hp 1, r.2.2.1)

theorem clF_below (l : List VR) (i : Nat) : ∀ c ∈ (clF l i).cells, belowA 2 c = true := by
  intro c hc
  simp only [clF, vR, vA, AV.cells, List.mem_cons, List.not_mem_nil, or_false] at hc
  rcases hc with rfl | rfl | rfl | rfl | rfl <;> rfl

theorem clean_step {l : List VR} {n : Nat} (t : Bool) (hn : n < l.length) (hl : l.length * 48 ≤ 140737488355328) : To Try.prog (loopAt Try.f18 0) (clS l n t) .normal (clS l (n + 1) false) := by
  have hR : (evCl l n t true).map seenCl = some (.normal, 21, some (valsQ l), some (.row 1 0 (n + 1) (n + 1) false), some (.v (.int .i64 ((n : Int) + 1))), some (.row 49 5 (.fn (n + 1) (fun i => match Nat.blt i n with | true => clF l i | false => [vR (clV (l.getD (n : Int).toNat v0))].getD (i - n) .junk)) 0),
      [decide ((n : Int) < (l.length : Int)) = true, (0 : Int) ≤ n ∧ (n : Int) < (l.length : Int), n = n, n = n, (n + 1) * 48 ≤ 140737488355328, inR IntKind.i64 ((n : Int) + 1)]) := by kernel_rfl
  cases h0 : evCl l n t true with
  | none => rw [h0] at hR; cases hR
  | some r =>
    rw [h0] at hR
    obtain ⟨e, A', c, hs'⟩ := r
    simp only [seenCl, Option.map_some, Option.some.injEq, Prod.mk.injEq] at hR
    obtain ⟨rfl, r2, r3, r4, r5, r6, rfl⟩ := hR
    have ht := ev_to hm soB4 _ _ _ _ _ _ _ h0 ⟨by simp; omega, ⟨by omega, by omega⟩, trivial, trivial, by omega, ⟨by omega, by omega⟩, trivial⟩
    refine ht.turn r2.symm (fun t x hx => ?_) (fun k o hk => ?_)
    · have := look_mem hx
      simp only [List.mem_cons, Prod.mk.injEq, List.not_mem_nil, or_false] at this
      rcases this with ⟨rfl, rfl⟩ | ⟨rfl, rfl⟩ | ⟨rfl, rfl⟩
      · exact ⟨r3, rfl⟩
      · exact ⟨r4, rfl⟩
      · exact ⟨r5, rfl⟩
    · have := look_mem hk
      simp only [List.mem_cons, Prod.mk.injEq, List.not_mem_nil, or_false] at this
      obtain ⟨rfl, rfl⟩ := this
      refine ⟨.inl (show 1 < 2 by omega), _, r6, .inr ⟨49, 5, _, _, 0, rfl, rfl, rfl, fun fz h => h, fun i hi => ?_⟩⟩
      have hi' : i < n + 1 := hi
      have e : (match Nat.blt i n with | true => clF l i | false => [vR (clV (l.getD (n : Int).toNat v0))].getD (i - n) AV.junk) = clF l i := by
        cases hb : Nat.blt i n with
        | true => rfl
        | false =>
          have : i = n := by
            have : ¬ i < n := fun h => by rw [← Nat.blt_eq, hb] at h; cases h
            omega
          subst this
          simp
      constructor
      · exact e.symm
      · intro c hc
        have hc' : c ∈ (match Nat.blt i n with | true => clF l i | false => [vR (clV (l.getD (n : Int).toNat v0))].getD (i - n) AV.junk).cells := hc
        rw [e] at hc'
        exact clF_below l i c hc'

theorem clean_exit {l : List VR} (t : Bool) : To Try.prog (loopAt Try.f18 0) (clS l l.length t) (.exit 0) (clX l l.length t) := by
  have hR : (evCl l l.length t false).map seenCl = some (.exit 0, 21, some (valsQ l), some (.row 1 0 l.length l.length t), some (.v (.int .i64 (l.length : Int))), some (.row 49 5 (.fn l.length (clF l)) 0),
      [decide ((l.length : Int) < (l.length : Int)) = false]) := by kernel_rfl
  cases h0 : evCl l l.length t false with
  | none => rw [h0] at hR; cases hR
  | some r =>
    rw [h0] at hR
    obtain ⟨e, A', c, hs'⟩ := r
    simp only [seenCl, Option.map_some, Option.some.injEq, Prod.mk.injEq] at hR
    obtain ⟨rfl, r2, r3, r4, r5, r6, rfl⟩ := hR
    have ht := ev_to hm soB4 _ _ _ _ _ _ _ h0 ⟨by simp, trivial⟩
    refine ht.turn r2.symm (fun t x hx => ?_) (fun k o hk => ?_)
    · have := look_mem hx
      simp only [List.mem_cons, Prod.mk.injEq, List.not_mem_nil, or_false] at this
      obtain ⟨rfl, rfl⟩ := this
      exact ⟨r4, rfl⟩
    · have := look_mem hk
      simp only [List.mem_cons, Prod.mk.injEq, List.not_mem_nil, or_false] at this
      obtain ⟨rfl, rfl⟩ := this
      exact ⟨.inl (show 1 < 2 by omega), _, r6, .inr ⟨49, 5, _, _, 0, rfl, rfl, rfl, fun fz h => h, fun i hi => ⟨rfl, fun c hc => clF_below l i c hc⟩⟩⟩

theorem clean_loop {l : List VR} (hl : l.length * 48 ≤ 140737488355328) : ∀ k n : Nat, ∀ t : Bool, k = l.length - n → n ≤ l.length → ∃ t', LoopTo Try.prog (loopAt Try.f18 0) (clS l n t) (.exit 0) (clX l l.length t') := by
  intro k
  induction k with
  | zero =>
    intro n t hk hn
    have : n = l.length := by omega
    subst this
    exact ⟨t, .done (by simp) (clean_exit t)⟩
  | succ k ih =>
    intro n t hk hn
    obtain ⟨t', h⟩ := ih (n + 1) false (by omega) (by omega)
    exact ⟨t', .step (clean_step t (by omega) hl) h⟩

theorem cleanAll_c (l : List VR) (hl : l.length * 48 ≤ 140737488355328) : PureTo Try.prog 18 [valsQ l] (.sl 5 (.fn l.length (clF l)) false) := by
  obtain ⟨t, h⟩ := clean_loop hl l.length 0 true (by omega) (by omega)
  have h2 := cleanAll1 l l.length t ⟨LoopTo.turn (A0 := clS l 0 true) rfl (fun t x hx => by
      have := look_mem hx
      simp only [List.mem_cons, Prod.mk.injEq, List.not_mem_nil, or_false] at this
      rcases this with ⟨rfl, rfl⟩ | ⟨rfl, rfl⟩ | ⟨rfl, rfl⟩ <;> exact ⟨rfl, rfl⟩) (fun k o hk => by
      have := look_mem hk
      simp only [List.mem_cons, Prod.mk.injEq, List.not_mem_nil, or_false] at this
      obtain ⟨rfl, rfl⟩ := this
      exact ⟨.inl (show 1 < 2 by omega), _, rfl, .inr ⟨49, 5, _, _, 0, rfl, rfl, rfl, fun fz h => h, fun i hi => absurd hi (by simp [Seq.len])⟩⟩) h, rfl, Nat.zero_le _, fun i hi => rfl, trivial⟩
  simpa using h2

theorem vclone_c (l : List VR) (hl : l.length * 48 ≤ 140737488355328) : PureTo Try.prog 58 [valsQ l] (valsQ l) := by
  refine PureTo.nil_split (ys := []) (zs := []) (fun h => ?_) (fun h => ?_) (fun h => ?_)
  · have hl0 : l.length = 0 := h
    exact ans_sl (vcloneN1 trivial) (by simpa [Seq.len] using hl0) (fun i hi => absurd hi (by simp [Seq.len]))
  · have hl0 : l.length = 0 := h
    exact ans_sl (vcloneE1 trivial) (by simpa [Seq.len] using hl0) (fun i hi => absurd hi (by simp [Seq.len]))
  · have hl0 : 0 < l.length := h
    exact vclone1 l ⟨hl0, hl0, hl, rfl, Nat.zero_le _, fun i hi => rfl, trivial⟩

theorem done_c (K k : Int) (b : Bool) (x : Nat) (s : ByteArray) (o : Int) (L : ByteArray) (hL : L.size ≤ 9223372036854775807) : ∃ K' k' b' x' s' o' L', PureTo Try.prog 16 [dA K k b x s o L] (dA K' k' b' x' s' o' L') := by
  by_cases h1 : K < 0
  · exact ⟨_, _, _, _, _, _, _, done1 K k b x s o L ⟨by simp; omega, by omega, trivial⟩⟩
  · by_cases h2 : K ≥ 5
    · exact ⟨_, _, _, _, _, _, _, done2 K k b x s o L ⟨by simp; omega, by simp; omega, by omega, trivial⟩⟩
    · by_cases h3 : K < 3
      · exact ⟨_, _, _, _, _, _, _, done3 K k b x s o L ⟨by simp; omega, by simp; omega, by simp; omega, by omega, trivial⟩⟩
      · exact ⟨_, _, _, _, _, _, _, done4 K k b x s o L ⟨by simp; omega, by simp; omega, by simp; omega, hL, trivial⟩⟩
end Go.Proofs.Ma
