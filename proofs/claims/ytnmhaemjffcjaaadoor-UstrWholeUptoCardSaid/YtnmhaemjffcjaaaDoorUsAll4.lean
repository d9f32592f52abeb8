/- Contracts of the program's functions, and the plain law behind them. No condition beyond those in each statement. -/
import Derived.Test.YtnmhaemjffcjaaaDoorUsAll3
import Derived.Test.YtnmhaemjffcjaaaDoorEvAll5
import Derived.Test.YtnmhaemjffcjaaaDoorEvAll4
set_option linter.unusedSimpArgs false
set_option linter.unusedVariables false
set_option linter.unusedSectionVars false
/- Texts: contracts of the small functions. -/
set_option maxRecDepth 100000
namespace Go.Proofs.Us
open Go Go.Ev

theorem byteAt_lt (s : ByteArray) (i : Nat) : 0 ≤ byteAt s i ∧ byteAt s i ≤ 255 := by
  unfold byteAt
  have := (s.data.toList.getD i 0).toNat_lt
  omega

/-- a text that a machine can hold -/
def SZ (s : ByteArray) : Prop := s.size < 1125899906842624

/-- how many units -/
def ul (s : ByteArray) : Nat := s.size / 2
/-- a unit -/
def un (s : ByteArray) (i : Nat) : Int := byteAt s (2 * i) * 256 + byteAt s (2 * i + 1)
/-- without a byte that is too much -/
def evn (s : ByteArray) : ByteArray := s.extract 0 (2 * ul s)

theorem un_lt (s : ByteArray) (i : Nat) : 0 ≤ un s i ∧ un s i ≤ 65535 := by
  unfold un
  have := byteAt_lt s (2 * i)
  have := byteAt_lt s (2 * i + 1)
  omega

theorem len_eq (s : ByteArray) : len s = (ul s : Int) := by
  unfold len ul
  rw [Int.tdiv_eq_ediv_of_nonneg (by omega)]
  omega

theorem len_c {s : ByteArray} (h : SZ s) : PureTo Tryd.prog 39 [.v (.string s)] (.v (.int .i64 (ul s))) := by
  have := len_pure s ⟨by decide, by
    rw [Int.tdiv_eq_ediv_of_nonneg (by omega)]
    unfold SZ at h
    simp only [inR]; omega, trivial⟩
  rwa [len_eq] at this

theorem rlen_c {s : ByteArray} (h : SZ s) : PureTo Tryd.prog 19 [.v (.string s)] (.v (.int .i64 (ul s))) := by
  have := rlen_pure s ⟨by decide, by
    rw [Int.tdiv_eq_ediv_of_nonneg (by omega)]
    unfold SZ at h
    simp only [inR]; omega, trivial⟩
  rwa [show rlen s = (ul s : Int) from len_eq s] at this

/-- the last bit away -/
theorem andNot_one {n : Nat} (h : n < 1125899906842624) : bitsOf .andNot .i64 (n : Int) 1 = ((2 * (n / 2) : Nat) : Int) := by
  have e : bitsOf .andNot .i64 (n : Int) 1 = IntKind.i64.wrap ((BitVec.ofInt 64 (n : Int) &&& ~~~1#64).toNat : Int) := rfl
  rw [e, ofInt_nat]
  have hx : (BitVec.ofNat 64 n).toNat = n := by rw [BitVec.toNat_ofNat]; omega
  have h2 : (BitVec.ofNat 64 n &&& ~~~1#64).toNat = 2 * (n / 2) := by
    have hsplit : (BitVec.ofNat 64 n &&& ~~~1#64) = BitVec.ofNat 64 (2 * (n / 2)) := by
      apply BitVec.eq_of_getLsbD_eq
      intro i hi
      simp only [BitVec.getLsbD_and, BitVec.getLsbD_not, hi, decide_true, Bool.true_and, BitVec.getLsbD_ofNat]
      cases i with
      | zero => simp
      | succ i =>
        have h1 : (1#64).getLsbD (i + 1) = false := by
          show Nat.testBit 1 (i + 1) = false
          simp [Nat.testBit_succ]
        have h3 : Nat.testBit (1 % 2 ^ 64) (i + 1) = false := by simp [Nat.testBit_succ]
        rw [show (2 * (n / 2)) = 2 * (n / 2) from rfl]
        simp [Nat.testBit_succ, h3]
    rw [hsplit, BitVec.toNat_ofNat]
    omega
  rw [h2]
  exact wrap_inR (k := .i64) (by simp only [inR]; omega)

theorem even_c {s : ByteArray} (h : SZ s) : PureTo Tryd.prog 63 [.v (.string s)] (.v (.string (evn s))) := by
  have e := andNot_one h
  have := even_pure s ⟨by rw [e]; omega, trivial⟩
  have e2 : even s = evn s := by
    unfold even evn ul
    rw [e]
    congr 1
  rwa [e2] at this

theorem or_bytes (a b : Int) (ha : 0 ≤ a ∧ a ≤ 255) (hb : 0 ≤ b ∧ b ≤ 255) : bitsOf .or .u16 (a * 256) b = a * 256 + b := by
  have := (or_add (k := .u16) rfl (x := b) (y := a * 256) (s := 8) (by omega) (by omega) (by omega) (by show a * 256 < 65536; omega) (by omega) (by decide)).2
  omega

theorem unit_val (s : ByteArray) (i : Nat) : bitsOf .or .u16 (byteAt s ((2 : Int) * i).toNat * 256) (byteAt s ((2 : Int) * i + 1).toNat) = un s i := by
  have e1 : ((2 : Int) * i).toNat = 2 * i := by omega
  have e2 : ((2 : Int) * i + 1).toNat = 2 * i + 1 := by omega
  rw [e1, e2, or_bytes _ _ (byteAt_lt _ _) (byteAt_lt _ _)]
  rfl

theorem unit_c {s : ByteArray} {i : Int} (hs : SZ s) (h : 0 ≤ i ∧ i < (ul s : Int)) : PureTo Tryd.prog 64 [.v (.string s), .v (.int .i64 i)] (.v (.int .u16 (un s i.toNat))) := by
  obtain ⟨j, rfl⟩ : ∃ j : Nat, i = j := ⟨i.toNat, by omega⟩
  have h1 := byteAt_lt s ((2 : Int) * j).toNat
  have h2 := byteAt_lt s ((2 : Int) * j + 1).toNat
  unfold SZ at hs
  unfold ul at h
  have := unit_pure s j (by simp only [AllP, inR]; refine ⟨?_, ?_, ?_, ?_, ?_, ?_, ?_, ?_, ?_, trivial⟩ <;> omega)
  rwa [show unit s j = un s (j : Int).toNat by rw [Int.toNat_natCast]; exact unit_val s j] at this

theorem rat_c {s : ByteArray} {i : Int} (hs : SZ s) (h : 0 ≤ i ∧ i < (ul s : Int)) : PureTo Tryd.prog 68 [.v (.string s), .v (.int .i64 i)] (.v (.int .u16 (un s i.toNat))) := by
  obtain ⟨j, rfl⟩ : ∃ j : Nat, i = j := ⟨i.toNat, by omega⟩
  have h1 := byteAt_lt s ((2 : Int) * j).toNat
  have h2 := byteAt_lt s ((2 : Int) * j + 1).toNat
  unfold SZ at hs
  unfold ul at h
  have := rat_pure s j (by simp only [AllP, inR]; refine ⟨?_, ?_, ?_, ?_, ?_, ?_, ?_, ?_, ?_, trivial⟩ <;> omega)
  rwa [show rat s j = un s (j : Int).toNat by rw [Int.toNat_natCast]; exact unit_val s j] at this

/-! ### tables of contracts -/

def sigS (f : ByteArray → AV × List Prop) : List AV → Option (AV × List Prop)
  | [.v (.string s)] => some (f s)
  | _ => none
def sigSI (f : ByteArray → Int → AV × List Prop) : List AV → Option (AV × List Prop)
  | [.v (.string s), .v (.int .i64 i)] => some (f s i)
  | _ => none
def sigSII (f : ByteArray → Int → Int → AV × List Prop) : List AV → Option (AV × List Prop)
  | [.v (.string s), .v (.int .i64 i), .v (.int .i64 j)] => some (f s i j)
  | _ => none
def sigSS (f : ByteArray → ByteArray → AV × List Prop) : List AV → Option (AV × List Prop)
  | [.v (.string s), .v (.string t)] => some (f s t)
  | _ => none
def sigSSI (f : ByteArray → ByteArray → Int → AV × List Prop) : List AV → Option (AV × List Prop)
  | [.v (.string s), .v (.string t), .v (.int .i64 i)] => some (f s t i)
  | _ => none
def sigU (f : Int → AV × List Prop) : List AV → Option (AV × List Prop)
  | [.v (.int .u16 u)] => some (f u)
  | _ => none
def sigNo (x : AV) : List AV → Option (AV × List Prop)
  | [] => some (x, [])
  | _ => none

section
variable {P : Program} {i : FuncId}
theorem sigS_ok {f : ByteArray → AV × List Prop} (h : ∀ s, AllP (f s).2 → PureTo P i [.v (.string s)] (f s).1) : ∀ ys r c, sigS f ys = some (r, c) → AllP c → PureTo P i ys r := by
  intro ys r c hs hc
  unfold sigS at hs
  split at hs
  · next s => have e := Option.some.inj hs; have := h s; rw [e] at this; exact this hc
  · cases hs
theorem sigSI_ok {f : ByteArray → Int → AV × List Prop} (h : ∀ s j, AllP (f s j).2 → PureTo P i [.v (.string s), .v (.int .i64 j)] (f s j).1) : ∀ ys r c, sigSI f ys = some (r, c) → AllP c → PureTo P i ys r := by
  intro ys r c hs hc
  unfold sigSI at hs
  split at hs
  · next s j => have e := Option.some.inj hs; have := h s j; rw [e] at this; exact this hc
  · cases hs
theorem sigSII_ok {f : ByteArray → Int → Int → AV × List Prop} (h : ∀ s j k, AllP (f s j k).2 → PureTo P i [.v (.string s), .v (.int .i64 j), .v (.int .i64 k)] (f s j k).1) : ∀ ys r c, sigSII f ys = some (r, c) → AllP c → PureTo P i ys r := by
  intro ys r c hs hc
  unfold sigSII at hs
  split at hs
  · next s j k => have e := Option.some.inj hs; have := h s j k; rw [e] at this; exact this hc
  · cases hs
theorem sigSS_ok {f : ByteArray → ByteArray → AV × List Prop} (h : ∀ s t, AllP (f s t).2 → PureTo P i [.v (.string s), .v (.string t)] (f s t).1) : ∀ ys r c, sigSS f ys = some (r, c) → AllP c → PureTo P i ys r := by
  intro ys r c hs hc
  unfold sigSS at hs
  split at hs
  · next s t => have e := Option.some.inj hs; have := h s t; rw [e] at this; exact this hc
  · cases hs
theorem sigSSI_ok {f : ByteArray → ByteArray → Int → AV × List Prop} (h : ∀ s t j, AllP (f s t j).2 → PureTo P i [.v (.string s), .v (.string t), .v (.int .i64 j)] (f s t j).1) : ∀ ys r c, sigSSI f ys = some (r, c) → AllP c → PureTo P i ys r := by
  intro ys r c hs hc
  unfold sigSSI at hs
  split at hs
  · next s t j => have e := Option.some.inj hs; have := h s t j; rw [e] at this; exact this hc
  · cases hs
theorem sigU_ok {f : Int → AV × List Prop} (h : ∀ u, AllP (f u).2 → PureTo P i [.v (.int .u16 u)] (f u).1) : ∀ ys r c, sigU f ys = some (r, c) → AllP c → PureTo P i ys r := by
  intro ys r c hs hc
  unfold sigU at hs
  split at hs
  · next u => have e := Option.some.inj hs; have := h u; rw [e] at this; exact this hc
  · cases hs
theorem sigNo_ok {x : AV} (h : PureTo P i [] x) : ∀ ys r c, sigNo x ys = some (r, c) → AllP c → PureTo P i ys r := by
  intro ys r c hs _
  unfold sigNo at hs
  split at hs
  · cases hs; exact h
  · cases hs
end

def SG1 : SGT := (39, .p (sigS fun s => (.v (.int .i64 (ul s)), [SZ s]))) :: (19, .p (sigS fun s => (.v (.int .i64 (ul s)), [SZ s]))) :: (63, .p (sigS fun s => (.v (.string (evn s)), [SZ s]))) ::
  (64, .p (sigSI fun s i => (.v (.int .u16 (un s i.toNat)), [SZ s, 0 ≤ i ∧ i < (ul s : Int)]))) :: (68, .p (sigSI fun s i => (.v (.int .u16 (un s i.toNat)), [SZ s, 0 ≤ i ∧ i < (ul s : Int)]))) ::
  (65, .p (sigU fun u => (.v (.bool (high u)), []))) :: (66, .p (sigU fun u => (.v (.bool (low u)), []))) :: (69, .p (sigU fun u => (.v (.bool (high u)), []))) :: (70, .p (sigU fun u => (.v (.bool (low u)), []))) ::
  (23, .p (sigU fun u => (.v (.bool (space u)), []))) :: (24, .p (sigU fun u => (.v (.bool (space u)), []))) :: (25, .p (sigU fun u => (.v (.bool (ends u)), []))) :: (26, .p (sigU fun u => (.v (.bool (ends u)), []))) ::
  (80, .p (sigSI fun s i => (.v (.bool (cont s i)), [0 ≤ i]))) :: SG0

theorem sok1 : SigsOK Tryd.prog SG1 := by
  refine sigs_cons (sigs_cons (sigs_cons (sigs_cons (sigs_cons (sigs_cons (sigs_cons (sigs_cons (sigs_cons (sigs_cons (sigs_cons (sigs_cons (sigs_cons (sigs_cons sok0 ?_) ?_) ?_) ?_) ?_) ?_) ?_) ?_) ?_) ?_) ?_) ?_) ?_) ?_
  · exact sigSI_ok fun s i h => cont_pure s i ⟨fun hi => ⟨⟨h.1, of_decide_eq_true hi⟩, trivial⟩, trivial⟩
  · exact sigU_ok fun u _ => rends_pure u
  · exact sigU_ok fun u _ => ends_pure u
  · exact sigU_ok fun u _ => rspace_pure u
  · exact sigU_ok fun u _ => space_pure u
  · exact sigU_ok fun u _ => rlow_pure u
  · exact sigU_ok fun u _ => rhigh_pure u
  · exact sigU_ok fun u _ => low_pure u
  · exact sigU_ok fun u _ => high_pure u
  · exact sigSI_ok fun s i h => rat_c h.1 h.2.1
  · exact sigSI_ok fun s i h => unit_c h.1 h.2.1
  · exact sigS_ok fun s h => even_c h.1
  · exact sigS_ok fun s h => rlen_c h.1
  · exact sigS_ok fun s h => len_c h.1

end Go.Proofs.Us

/- Texts: walks, written by the tool. -/
set_option maxRecDepth 100000
namespace Go.Proofs.Us
open Go Go.Ev

theorem point_ev (s : ByteArray) (i : Int) (h : AllP [(0 : Int) ≤ i ∧ i < (↑s.size : Int), inR IntKind.u32 (byteAt s i.toNat), (!decide (byteAt s i.toNat < (128 : Int))) = true → AllP [(bif decide (byteAt s i.toNat ≥ (194 : Int)) then decide (byteAt s i.toNat < (224 : Int)) else false) = true → AllP [inR IntKind.i64 (i + (1 : Int)), (0 : Int) ≤ i + (1 : Int)], (bif bif decide (byteAt s i.toNat ≥ (194 : Int)) then decide (byteAt s i.toNat < (224 : Int)) else false then cont s (i + (1 : Int)) else false) = true → AllP [(0 : Int) ≤ (6 : Int), inR IntKind.u32 (bitsOf BinOp.and IntKind.u32 (byteAt s i.toNat) (31 : Int) * (64 : Int)), inR IntKind.i64 (i + (1 : Int)), (0 : Int) ≤ i + (1 : Int) ∧ i + (1 : Int) < (↑s.size : Int), inR IntKind.u32 (bitsOf BinOp.and IntKind.u8 (byteAt s (i + (1 : Int)).toNat) (63 : Int))], (!bif bif decide (byteAt s i.toNat ≥ (194 : Int)) then decide (byteAt s i.toNat < (224 : Int)) else false then cont s (i + (1 : Int)) else false) = true → AllP [(bif decide (byteAt s i.toNat ≥ (224 : Int)) then decide (byteAt s i.toNat < (240 : Int)) else false) = true → AllP [inR IntKind.i64 (i + (1 : Int)), (0 : Int) ≤ i + (1 : Int)], (bif bif decide (byteAt s i.toNat ≥ (224 : Int)) then decide (byteAt s i.toNat < (240 : Int)) else false then cont s (i + (1 : Int)) else false) = true → AllP [inR IntKind.i64 (i + (2 : Int)), (0 : Int) ≤ i + (2 : Int)], (bif bif bif decide (byteAt s i.toNat ≥ (224 : Int)) then decide (byteAt s i.toNat < (240 : Int)) else false then cont s (i + (1 : Int)) else false then cont s (i + (2 : Int)) else false) = true → AllP [(0 : Int) ≤ (12 : Int), inR IntKind.u32 (bitsOf BinOp.and IntKind.u32 (byteAt s i.toNat) (15 : Int) * (4096 : Int)), inR IntKind.i64 (i + (1 : Int)), (0 : Int) ≤ i + (1 : Int) ∧ i + (1 : Int) < (↑s.size : Int), inR IntKind.u32 (bitsOf BinOp.and IntKind.u8 (byteAt s (i + (1 : Int)).toNat) (63 : Int)), (0 : Int) ≤ (6 : Int), inR IntKind.u32 (bitsOf BinOp.and IntKind.u8 (byteAt s (i + (1 : Int)).toNat) (63 : Int) * (64 : Int)), inR IntKind.i64 (i + (2 : Int)), (0 : Int) ≤ i + (2 : Int) ∧ i + (2 : Int) < (↑s.size : Int), inR IntKind.u32 (bitsOf BinOp.and IntKind.u8 (byteAt s (i + (2 : Int)).toNat) (63 : Int))], (!bif bif bif decide (byteAt s i.toNat ≥ (224 : Int)) then decide (byteAt s i.toNat < (240 : Int)) else false then cont s (i + (1 : Int)) else false then cont s (i + (2 : Int)) else false) = true → AllP [(bif decide (byteAt s i.toNat ≥ (240 : Int)) then decide (byteAt s i.toNat < (245 : Int)) else false) = true → AllP [inR IntKind.i64 (i + (1 : Int)), (0 : Int) ≤ i + (1 : Int)], (bif bif decide (byteAt s i.toNat ≥ (240 : Int)) then decide (byteAt s i.toNat < (245 : Int)) else false then cont s (i + (1 : Int)) else false) = true → AllP [inR IntKind.i64 (i + (2 : Int)), (0 : Int) ≤ i + (2 : Int)], (bif bif bif decide (byteAt s i.toNat ≥ (240 : Int)) then decide (byteAt s i.toNat < (245 : Int)) else false then cont s (i + (1 : Int)) else false then cont s (i + (2 : Int)) else false) = true → AllP [inR IntKind.i64 (i + (3 : Int)), (0 : Int) ≤ i + (3 : Int)], (bif bif bif bif decide (byteAt s i.toNat ≥ (240 : Int)) then decide (byteAt s i.toNat < (245 : Int)) else false then cont s (i + (1 : Int)) else false then cont s (i + (2 : Int)) else false then cont s (i + (3 : Int)) else false) = true → AllP [(0 : Int) ≤ (18 : Int), inR IntKind.u32 (bitsOf BinOp.and IntKind.u32 (byteAt s i.toNat) (7 : Int) * (262144 : Int)), inR IntKind.i64 (i + (1 : Int)), (0 : Int) ≤ i + (1 : Int) ∧ i + (1 : Int) < (↑s.size : Int), inR IntKind.u32 (bitsOf BinOp.and IntKind.u8 (byteAt s (i + (1 : Int)).toNat) (63 : Int)), (0 : Int) ≤ (12 : Int), inR IntKind.u32 (bitsOf BinOp.and IntKind.u8 (byteAt s (i + (1 : Int)).toNat) (63 : Int) * (4096 : Int)), inR IntKind.i64 (i + (2 : Int)), (0 : Int) ≤ i + (2 : Int) ∧ i + (2 : Int) < (↑s.size : Int), inR IntKind.u32 (bitsOf BinOp.and IntKind.u8 (byteAt s (i + (2 : Int)).toNat) (63 : Int)), (0 : Int) ≤ (6 : Int), inR IntKind.u32 (bitsOf BinOp.and IntKind.u8 (byteAt s (i + (2 : Int)).toNat) (63 : Int) * (64 : Int)), inR IntKind.i64 (i + (3 : Int)), (0 : Int) ≤ i + (3 : Int) ∧ i + (3 : Int) < (↑s.size : Int), inR IntKind.u32 (bitsOf BinOp.and IntKind.u8 (byteAt s (i + (3 : Int)).toNat) (63 : Int))]]]]]) : PureTo Tryd.prog 61 [.v (.string s), .v (.int .i64 i)] (AV.tup [AV.v (.int .u32 (bif !decide (byteAt s i.toNat < (128 : Int)) then bif !bif bif decide (byteAt s i.toNat ≥ (194 : Int)) then decide (byteAt s i.toNat < (224 : Int)) else false then cont s (i + (1 : Int)) else false then bif !bif bif bif decide (byteAt s i.toNat ≥ (224 : Int)) then decide (byteAt s i.toNat < (240 : Int)) else false then cont s (i + (1 : Int)) else false then cont s (i + (2 : Int)) else false then bif (!bif bif bif bif decide (byteAt s i.toNat ≥ (240 : Int)) then decide (byteAt s i.toNat < (245 : Int)) else false then cont s (i + (1 : Int)) else false then cont s (i + (2 : Int)) else false then cont s (i + (3 : Int)) else false) || !bif decide (bitsOf BinOp.or IntKind.u32 (bitsOf BinOp.or IntKind.u32 (bitsOf BinOp.or IntKind.u32 (bitsOf BinOp.and IntKind.u32 (byteAt s i.toNat) (7 : Int) * (262144 : Int)) (bitsOf BinOp.and IntKind.u8 (byteAt s (i + (1 : Int)).toNat) (63 : Int) * (4096 : Int))) (bitsOf BinOp.and IntKind.u8 (byteAt s (i + (2 : Int)).toNat) (63 : Int) * (64 : Int))) (bitsOf BinOp.and IntKind.u8 (byteAt s (i + (3 : Int)).toNat) (63 : Int)) ≥ (65536 : Int)) then decide (bitsOf BinOp.or IntKind.u32 (bitsOf BinOp.or IntKind.u32 (bitsOf BinOp.or IntKind.u32 (bitsOf BinOp.and IntKind.u32 (byteAt s i.toNat) (7 : Int) * (262144 : Int)) (bitsOf BinOp.and IntKind.u8 (byteAt s (i + (1 : Int)).toNat) (63 : Int) * (4096 : Int))) (bitsOf BinOp.and IntKind.u8 (byteAt s (i + (2 : Int)).toNat) (63 : Int) * (64 : Int))) (bitsOf BinOp.and IntKind.u8 (byteAt s (i + (3 : Int)).toNat) (63 : Int)) ≤ (1114111 : Int)) else false then (0 : Int) else bitsOf BinOp.or IntKind.u32 (bitsOf BinOp.or IntKind.u32 (bitsOf BinOp.or IntKind.u32 (bitsOf BinOp.and IntKind.u32 (byteAt s i.toNat) (7 : Int) * (262144 : Int)) (bitsOf BinOp.and IntKind.u8 (byteAt s (i + (1 : Int)).toNat) (63 : Int) * (4096 : Int))) (bitsOf BinOp.and IntKind.u8 (byteAt s (i + (2 : Int)).toNat) (63 : Int) * (64 : Int))) (bitsOf BinOp.and IntKind.u8 (byteAt s (i + (3 : Int)).toNat) (63 : Int)) else bif !bif decide (bitsOf BinOp.or IntKind.u32 (bitsOf BinOp.or IntKind.u32 (bitsOf BinOp.and IntKind.u32 (byteAt s i.toNat) (15 : Int) * (4096 : Int)) (bitsOf BinOp.and IntKind.u8 (byteAt s (i + (1 : Int)).toNat) (63 : Int) * (64 : Int))) (bitsOf BinOp.and IntKind.u8 (byteAt s (i + (2 : Int)).toNat) (63 : Int)) ≥ (2048 : Int)) then bif decide (bitsOf BinOp.or IntKind.u32 (bitsOf BinOp.or IntKind.u32 (bitsOf BinOp.and IntKind.u32 (byteAt s i.toNat) (15 : Int) * (4096 : Int)) (bitsOf BinOp.and IntKind.u8 (byteAt s (i + (1 : Int)).toNat) (63 : Int) * (64 : Int))) (bitsOf BinOp.and IntKind.u8 (byteAt s (i + (2 : Int)).toNat) (63 : Int)) < (55296 : Int)) then true else decide (bitsOf BinOp.or IntKind.u32 (bitsOf BinOp.or IntKind.u32 (bitsOf BinOp.and IntKind.u32 (byteAt s i.toNat) (15 : Int) * (4096 : Int)) (bitsOf BinOp.and IntKind.u8 (byteAt s (i + (1 : Int)).toNat) (63 : Int) * (64 : Int))) (bitsOf BinOp.and IntKind.u8 (byteAt s (i + (2 : Int)).toNat) (63 : Int)) > (57343 : Int)) else false then (0 : Int) else bitsOf BinOp.or IntKind.u32 (bitsOf BinOp.or IntKind.u32 (bitsOf BinOp.and IntKind.u32 (byteAt s i.toNat) (15 : Int) * (4096 : Int)) (bitsOf BinOp.and IntKind.u8 (byteAt s (i + (1 : Int)).toNat) (63 : Int) * (64 : Int))) (bitsOf BinOp.and IntKind.u8 (byteAt s (i + (2 : Int)).toNat) (63 : Int)) else bitsOf BinOp.or IntKind.u32 (bitsOf BinOp.and IntKind.u32 (byteAt s i.toNat) (31 : Int) * (64 : Int)) (bitsOf BinOp.and IntKind.u8 (byteAt s (i + (1 : Int)).toNat) (63 : Int)) else byteAt s i.toNat)), AV.v (.int .i64 (bif !decide (byteAt s i.toNat < (128 : Int)) then bif !bif bif decide (byteAt s i.toNat ≥ (194 : Int)) then decide (byteAt s i.toNat < (224 : Int)) else false then cont s (i + (1 : Int)) else false then bif !bif bif bif decide (byteAt s i.toNat ≥ (224 : Int)) then decide (byteAt s i.toNat < (240 : Int)) else false then cont s (i + (1 : Int)) else false then cont s (i + (2 : Int)) else false then bif (!bif bif bif bif decide (byteAt s i.toNat ≥ (240 : Int)) then decide (byteAt s i.toNat < (245 : Int)) else false then cont s (i + (1 : Int)) else false then cont s (i + (2 : Int)) else false then cont s (i + (3 : Int)) else false) || !bif decide (bitsOf BinOp.or IntKind.u32 (bitsOf BinOp.or IntKind.u32 (bitsOf BinOp.or IntKind.u32 (bitsOf BinOp.and IntKind.u32 (byteAt s i.toNat) (7 : Int) * (262144 : Int)) (bitsOf BinOp.and IntKind.u8 (byteAt s (i + (1 : Int)).toNat) (63 : Int) * (4096 : Int))) (bitsOf BinOp.and IntKind.u8 (byteAt s (i + (2 : Int)).toNat) (63 : Int) * (64 : Int))) (bitsOf BinOp.and IntKind.u8 (byteAt s (i + (3 : Int)).toNat) (63 : Int)) ≥ (65536 : Int)) then decide (bitsOf BinOp.or IntKind.u32 (bitsOf BinOp.or IntKind.u32 (bitsOf BinOp.or IntKind.u32 (bitsOf BinOp.and IntKind.u32 (byteAt s i.toNat) (7 : Int) * (262144 : Int)) (bitsOf BinOp.and IntKind.u8 (byteAt s (i + (1 : Int)).toNat) (63 : Int) * (4096 : Int))) (bitsOf BinOp.and IntKind.u8 (byteAt s (i + (2 : Int)).toNat) (63 : Int) * (64 : Int))) (bitsOf BinOp.and IntKind.u8 (byteAt s (i + (3 : Int)).toNat) (63 : Int)) ≤ (1114111 : Int)) else false then (0 : Int) else (4 : Int) else bif !bif decide (bitsOf BinOp.or IntKind.u32 (bitsOf BinOp.or IntKind.u32 (bitsOf BinOp.and IntKind.u32 (byteAt s i.toNat) (15 : Int) * (4096 : Int)) (bitsOf BinOp.and IntKind.u8 (byteAt s (i + (1 : Int)).toNat) (63 : Int) * (64 : Int))) (bitsOf BinOp.and IntKind.u8 (byteAt s (i + (2 : Int)).toNat) (63 : Int)) ≥ (2048 : Int)) then bif decide (bitsOf BinOp.or IntKind.u32 (bitsOf BinOp.or IntKind.u32 (bitsOf BinOp.and IntKind.u32 (byteAt s i.toNat) (15 : Int) * (4096 : Int)) (bitsOf BinOp.and IntKind.u8 (byteAt s (i + (1 : Int)).toNat) (63 : Int) * (64 : Int))) (bitsOf BinOp.and IntKind.u8 (byteAt s (i + (2 : Int)).toNat) (63 : Int)) < (55296 : Int)) then true else decide (bitsOf BinOp.or IntKind.u32 (bitsOf BinOp.or IntKind.u32 (bitsOf BinOp.and IntKind.u32 (byteAt s i.toNat) (15 : Int) * (4096 : Int)) (bitsOf BinOp.and IntKind.u8 (byteAt s (i + (1 : Int)).toNat) (63 : Int) * (64 : Int))) (bitsOf BinOp.and IntKind.u8 (byteAt s (i + (2 : Int)).toNat) (63 : Int)) > (57343 : Int)) else false then (0 : Int) else (3 : Int) else (2 : Int) else (1 : Int)))]) :=
  evFnM_pure hm sok1 (fn := Tryd.f61) rfl rfl (ti := false) (m := Mode.parts [Mode.mix, Mode.mix]) (hs := [MHint.br, MHint.ops 4 [] [(2, 3), (6, 5)], MHint.br, MHint.ops 6 [] [(2, 3), (6, 5), (12, 5)], MHint.br, MHint.ops 8 [] [(2, 7), (5, 3)], MHint.br, MHint.ops 11 [] [(2, 3), (6, 5), (12, 5), (18, 5)], MHint.br, MHint.ops 13 [] [(2, 3)], MHint.br, MHint.join { slots := [], keys := [] }]) (c := _) (by kernel_rfl) (by kernel_rfl) h
def point_1 (s : ByteArray) (i : Int) : Int := bif !decide (byteAt s i.toNat < (128 : Int)) then bif !bif bif decide (byteAt s i.toNat ≥ (194 : Int)) then decide (byteAt s i.toNat < (224 : Int)) else false then cont s (i + (1 : Int)) else false then bif !bif bif bif decide (byteAt s i.toNat ≥ (224 : Int)) then decide (byteAt s i.toNat < (240 : Int)) else false then cont s (i + (1 : Int)) else false then cont s (i + (2 : Int)) else false then bif (!bif bif bif bif decide (byteAt s i.toNat ≥ (240 : Int)) then decide (byteAt s i.toNat < (245 : Int)) else false then cont s (i + (1 : Int)) else false then cont s (i + (2 : Int)) else false then cont s (i + (3 : Int)) else false) || !bif decide (bitsOf BinOp.or IntKind.u32 (bitsOf BinOp.or IntKind.u32 (bitsOf BinOp.or IntKind.u32 (bitsOf BinOp.and IntKind.u32 (byteAt s i.toNat) (7 : Int) * (262144 : Int)) (bitsOf BinOp.and IntKind.u8 (byteAt s (i + (1 : Int)).toNat) (63 : Int) * (4096 : Int))) (bitsOf BinOp.and IntKind.u8 (byteAt s (i + (2 : Int)).toNat) (63 : Int) * (64 : Int))) (bitsOf BinOp.and IntKind.u8 (byteAt s (i + (3 : Int)).toNat) (63 : Int)) ≥ (65536 : Int)) then decide (bitsOf BinOp.or IntKind.u32 (bitsOf BinOp.or IntKind.u32 (bitsOf BinOp.or IntKind.u32 (bitsOf BinOp.and IntKind.u32 (byteAt s i.toNat) (7 : Int) * (262144 : Int)) (bitsOf BinOp.and IntKind.u8 (byteAt s (i + (1 : Int)).toNat) (63 : Int) * (4096 : Int))) (bitsOf BinOp.and IntKind.u8 (byteAt s (i + (2 : Int)).toNat) (63 : Int) * (64 : Int))) (bitsOf BinOp.and IntKind.u8 (byteAt s (i + (3 : Int)).toNat) (63 : Int)) ≤ (1114111 : Int)) else false then (0 : Int) else bitsOf BinOp.or IntKind.u32 (bitsOf BinOp.or IntKind.u32 (bitsOf BinOp.or IntKind.u32 (bitsOf BinOp.and IntKind.u32 (byteAt s i.toNat) (7 : Int) * (262144 : Int)) (bitsOf BinOp.and IntKind.u8 (byteAt s (i + (1 : Int)).toNat) (63 : Int) * (4096 : Int))) (bitsOf BinOp.and IntKind.u8 (byteAt s (i + (2 : Int)).toNat) (63 : Int) * (64 : Int))) (bitsOf BinOp.and IntKind.u8 (byteAt s (i + (3 : Int)).toNat) (63 : Int)) else bif !bif decide (bitsOf BinOp.or IntKind.u32 (bitsOf BinOp.or IntKind.u32 (bitsOf BinOp.and IntKind.u32 (byteAt s i.toNat) (15 : Int) * (4096 : Int)) (bitsOf BinOp.and IntKind.u8 (byteAt s (i + (1 : Int)).toNat) (63 : Int) * (64 : Int))) (bitsOf BinOp.and IntKind.u8 (byteAt s (i + (2 : Int)).toNat) (63 : Int)) ≥ (2048 : Int)) then bif decide (bitsOf BinOp.or IntKind.u32 (bitsOf BinOp.or IntKind.u32 (bitsOf BinOp.and IntKind.u32 (byteAt s i.toNat) (15 : Int) * (4096 : Int)) (bitsOf BinOp.and IntKind.u8 (byteAt s (i + (1 : Int)).toNat) (63 : Int) * (64 : Int))) (bitsOf BinOp.and IntKind.u8 (byteAt s (i + (2 : Int)).toNat) (63 : Int)) < (55296 : Int)) then true else decide (bitsOf BinOp.or IntKind.u32 (bitsOf BinOp.or IntKind.u32 (bitsOf BinOp.and IntKind.u32 (byteAt s i.toNat) (15 : Int) * (4096 : Int)) (bitsOf BinOp.and IntKind.u8 (byteAt s (i + (1 : Int)).toNat) (63 : Int) * (64 : Int))) (bitsOf BinOp.and IntKind.u8 (byteAt s (i + (2 : Int)).toNat) (63 : Int)) > (57343 : Int)) else false then (0 : Int) else bitsOf BinOp.or IntKind.u32 (bitsOf BinOp.or IntKind.u32 (bitsOf BinOp.and IntKind.u32 (byteAt s i.toNat) (15 : Int) * (4096 : Int)) (bitsOf BinOp.and IntKind.u8 (byteAt s (i + (1 : Int)).toNat) (63 : Int) * (64 : Int))) (bitsOf BinOp.and IntKind.u8 (byteAt s (i + (2 : Int)).toNat) (63 : Int)) else bitsOf BinOp.or IntKind.u32 (bitsOf BinOp.and IntKind.u32 (byteAt s i.toNat) (31 : Int) * (64 : Int)) (bitsOf BinOp.and IntKind.u8 (byteAt s (i + (1 : Int)).toNat) (63 : Int)) else byteAt s i.toNat
def point_2 (s : ByteArray) (i : Int) : Int := bif !decide (byteAt s i.toNat < (128 : Int)) then bif !bif bif decide (byteAt s i.toNat ≥ (194 : Int)) then decide (byteAt s i.toNat < (224 : Int)) else false then cont s (i + (1 : Int)) else false then bif !bif bif bif decide (byteAt s i.toNat ≥ (224 : Int)) then decide (byteAt s i.toNat < (240 : Int)) else false then cont s (i + (1 : Int)) else false then cont s (i + (2 : Int)) else false then bif (!bif bif bif bif decide (byteAt s i.toNat ≥ (240 : Int)) then decide (byteAt s i.toNat < (245 : Int)) else false then cont s (i + (1 : Int)) else false then cont s (i + (2 : Int)) else false then cont s (i + (3 : Int)) else false) || !bif decide (bitsOf BinOp.or IntKind.u32 (bitsOf BinOp.or IntKind.u32 (bitsOf BinOp.or IntKind.u32 (bitsOf BinOp.and IntKind.u32 (byteAt s i.toNat) (7 : Int) * (262144 : Int)) (bitsOf BinOp.and IntKind.u8 (byteAt s (i + (1 : Int)).toNat) (63 : Int) * (4096 : Int))) (bitsOf BinOp.and IntKind.u8 (byteAt s (i + (2 : Int)).toNat) (63 : Int) * (64 : Int))) (bitsOf BinOp.and IntKind.u8 (byteAt s (i + (3 : Int)).toNat) (63 : Int)) ≥ (65536 : Int)) then decide (bitsOf BinOp.or IntKind.u32 (bitsOf BinOp.or IntKind.u32 (bitsOf BinOp.or IntKind.u32 (bitsOf BinOp.and IntKind.u32 (byteAt s i.toNat) (7 : Int) * (262144 : Int)) (bitsOf BinOp.and IntKind.u8 (byteAt s (i + (1 : Int)).toNat) (63 : Int) * (4096 : Int))) (bitsOf BinOp.and IntKind.u8 (byteAt s (i + (2 : Int)).toNat) (63 : Int) * (64 : Int))) (bitsOf BinOp.and IntKind.u8 (byteAt s (i + (3 : Int)).toNat) (63 : Int)) ≤ (1114111 : Int)) else false then (0 : Int) else (4 : Int) else bif !bif decide (bitsOf BinOp.or IntKind.u32 (bitsOf BinOp.or IntKind.u32 (bitsOf BinOp.and IntKind.u32 (byteAt s i.toNat) (15 : Int) * (4096 : Int)) (bitsOf BinOp.and IntKind.u8 (byteAt s (i + (1 : Int)).toNat) (63 : Int) * (64 : Int))) (bitsOf BinOp.and IntKind.u8 (byteAt s (i + (2 : Int)).toNat) (63 : Int)) ≥ (2048 : Int)) then bif decide (bitsOf BinOp.or IntKind.u32 (bitsOf BinOp.or IntKind.u32 (bitsOf BinOp.and IntKind.u32 (byteAt s i.toNat) (15 : Int) * (4096 : Int)) (bitsOf BinOp.and IntKind.u8 (byteAt s (i + (1 : Int)).toNat) (63 : Int) * (64 : Int))) (bitsOf BinOp.and IntKind.u8 (byteAt s (i + (2 : Int)).toNat) (63 : Int)) < (55296 : Int)) then true else decide (bitsOf BinOp.or IntKind.u32 (bitsOf BinOp.or IntKind.u32 (bitsOf BinOp.and IntKind.u32 (byteAt s i.toNat) (15 : Int) * (4096 : Int)) (bitsOf BinOp.and IntKind.u8 (byteAt s (i + (1 : Int)).toNat) (63 : Int) * (64 : Int))) (bitsOf BinOp.and IntKind.u8 (byteAt s (i + (2 : Int)).toNat) (63 : Int)) > (57343 : Int)) else false then (0 : Int) else (3 : Int) else (2 : Int) else (1 : Int)
theorem point_pure (s : ByteArray) (i : Int) (h : AllP [(0 : Int) ≤ i ∧ i < (↑s.size : Int), inR IntKind.u32 (byteAt s i.toNat), (!decide (byteAt s i.toNat < (128 : Int))) = true → AllP [(bif decide (byteAt s i.toNat ≥ (194 : Int)) then decide (byteAt s i.toNat < (224 : Int)) else false) = true → AllP [inR IntKind.i64 (i + (1 : Int)), (0 : Int) ≤ i + (1 : Int)], (bif bif decide (byteAt s i.toNat ≥ (194 : Int)) then decide (byteAt s i.toNat < (224 : Int)) else false then cont s (i + (1 : Int)) else false) = true → AllP [(0 : Int) ≤ (6 : Int), inR IntKind.u32 (bitsOf BinOp.and IntKind.u32 (byteAt s i.toNat) (31 : Int) * (64 : Int)), inR IntKind.i64 (i + (1 : Int)), (0 : Int) ≤ i + (1 : Int) ∧ i + (1 : Int) < (↑s.size : Int), inR IntKind.u32 (bitsOf BinOp.and IntKind.u8 (byteAt s (i + (1 : Int)).toNat) (63 : Int))], (!bif bif decide (byteAt s i.toNat ≥ (194 : Int)) then decide (byteAt s i.toNat < (224 : Int)) else false then cont s (i + (1 : Int)) else false) = true → AllP [(bif decide (byteAt s i.toNat ≥ (224 : Int)) then decide (byteAt s i.toNat < (240 : Int)) else false) = true → AllP [inR IntKind.i64 (i + (1 : Int)), (0 : Int) ≤ i + (1 : Int)], (bif bif decide (byteAt s i.toNat ≥ (224 : Int)) then decide (byteAt s i.toNat < (240 : Int)) else false then cont s (i + (1 : Int)) else false) = true → AllP [inR IntKind.i64 (i + (2 : Int)), (0 : Int) ≤ i + (2 : Int)], (bif bif bif decide (byteAt s i.toNat ≥ (224 : Int)) then decide (byteAt s i.toNat < (240 : Int)) else false then cont s (i + (1 : Int)) else false then cont s (i + (2 : Int)) else false) = true → AllP [(0 : Int) ≤ (12 : Int), inR IntKind.u32 (bitsOf BinOp.and IntKind.u32 (byteAt s i.toNat) (15 : Int) * (4096 : Int)), inR IntKind.i64 (i + (1 : Int)), (0 : Int) ≤ i + (1 : Int) ∧ i + (1 : Int) < (↑s.size : Int), inR IntKind.u32 (bitsOf BinOp.and IntKind.u8 (byteAt s (i + (1 : Int)).toNat) (63 : Int)), (0 : Int) ≤ (6 : Int), inR IntKind.u32 (bitsOf BinOp.and IntKind.u8 (byteAt s (i + (1 : Int)).toNat) (63 : Int) * (64 : Int)), inR IntKind.i64 (i + (2 : Int)), (0 : Int) ≤ i + (2 : Int) ∧ i + (2 : Int) < (↑s.size : Int), inR IntKind.u32 (bitsOf BinOp.and IntKind.u8 (byteAt s (i + (2 : Int)).toNat) (63 : Int))], (!bif bif bif decide (byteAt s i.toNat ≥ (224 : Int)) then decide (byteAt s i.toNat < (240 : Int)) else false then cont s (i + (1 : Int)) else false then cont s (i + (2 : Int)) else false) = true → AllP [(bif decide (byteAt s i.toNat ≥ (240 : Int)) then decide (byteAt s i.toNat < (245 : Int)) else false) = true → AllP [inR IntKind.i64 (i + (1 : Int)), (0 : Int) ≤ i + (1 : Int)], (bif bif decide (byteAt s i.toNat ≥ (240 : Int)) then decide (byteAt s i.toNat < (245 : Int)) else false then cont s (i + (1 : Int)) else false) = true → AllP [inR IntKind.i64 (i + (2 : Int)), (0 : Int) ≤ i + (2 : Int)], (bif bif bif decide (byteAt s i.toNat ≥ (240 : Int)) then decide (byteAt s i.toNat < (245 : Int)) else false then cont s (i + (1 : Int)) else false then cont s (i + (2 : Int)) else false) = true → AllP [inR IntKind.i64 (i + (3 : Int)), (0 : Int) ≤ i + (3 : Int)], (bif bif bif bif decide (byteAt s i.toNat ≥ (240 : Int)) then decide (byteAt s i.toNat < (245 : Int)) else false then cont s (i + (1 : Int)) else false then cont s (i + (2 : Int)) else false then cont s (i + (3 : Int)) else false) = true → AllP [(0 : Int) ≤ (18 : Int), inR IntKind.u32 (bitsOf BinOp.and IntKind.u32 (byteAt s i.toNat) (7 : Int) * (262144 : Int)), inR IntKind.i64 (i + (1 : Int)), (0 : Int) ≤ i + (1 : Int) ∧ i + (1 : Int) < (↑s.size : Int), inR IntKind.u32 (bitsOf BinOp.and IntKind.u8 (byteAt s (i + (1 : Int)).toNat) (63 : Int)), (0 : Int) ≤ (12 : Int), inR IntKind.u32 (bitsOf BinOp.and IntKind.u8 (byteAt s (i + (1 : Int)).toNat) (63 : Int) * (4096 : Int)), inR IntKind.i64 (i + (2 : Int)), (0 : Int) ≤ i + (2 : Int) ∧ i + (2 : Int) < (↑s.size : Int), inR IntKind.u32 (bitsOf BinOp.and IntKind.u8 (byteAt s (i + (2 : Int)).toNat) (63 : Int)), (0 : Int) ≤ (6 : Int), inR IntKind.u32 (bitsOf BinOp.and IntKind.u8 (byteAt s (i + (2 : Int)).toNat) (63 : Int) * (64 : Int)), inR IntKind.i64 (i + (3 : Int)), (0 : Int) ≤ i + (3 : Int) ∧ i + (3 : Int) < (↑s.size : Int), inR IntKind.u32 (bitsOf BinOp.and IntKind.u8 (byteAt s (i + (3 : Int)).toNat) (63 : Int))]]]]]) : PureTo Tryd.prog 61 [.v (.string s), .v (.int .i64 i)] (AV.tup [AV.v (.int .u32 (point_1 s i)), AV.v (.int .i64 (point_2 s i))]) := point_ev s i h
theorem start_ev (u : Int) (h : AllP []) : PureTo Tryd.prog 27 [.v (.int .u16 u)] (AV.v (.bool (bif !decide (u ≥ (128 : Int)) then bif bif bif u == (36 : Int) then true else u == (95 : Int) then true else bif decide (u ≥ (97 : Int)) then decide (u ≤ (122 : Int)) else false then true else bif decide (u ≥ (65 : Int)) then decide (u ≤ (90 : Int)) else false else bif !space u then !ends u else false))) :=
  evFnM_pure hm sok1 (fn := Tryd.f27) rfl rfl (ti := false) (m := Mode.mix) (hs := [MHint.br, MHint.ops 2 [] [(3, 4)], MHint.ops 3 [] [(2, 3), (6, 7), (9, 3), (14, 7), (17, 3)]]) (c := _) (by kernel_rfl) (by kernel_rfl) h
def start (u : Int) : Bool := bif !decide (u ≥ (128 : Int)) then bif bif bif u == (36 : Int) then true else u == (95 : Int) then true else bif decide (u ≥ (97 : Int)) then decide (u ≤ (122 : Int)) else false then true else bif decide (u ≥ (65 : Int)) then decide (u ≤ (90 : Int)) else false else bif !space u then !ends u else false
theorem start_pure (u : Int) : PureTo Tryd.prog 27 [.v (.int .u16 u)] (AV.v (.bool (start u))) := start_ev u trivial
theorem rstart_ev (u : Int) (h : AllP []) : PureTo Tryd.prog 28 [.v (.int .u16 u)] (AV.v (.bool (bif !decide (u < (128 : Int)) then bif !space u then !ends u else false else bif bif bif bif decide (u ≥ (97 : Int)) then decide (u ≤ (122 : Int)) else false then true else bif decide (u ≥ (65 : Int)) then decide (u ≤ (90 : Int)) else false then true else u == (36 : Int) then true else u == (95 : Int)))) :=
  evFnM_pure hm sok1 (fn := Tryd.f28) rfl rfl (ti := false) (m := Mode.mix) (hs := [MHint.br, MHint.ops 2 [] [(2, 3), (6, 7), (9, 3), (14, 3), (18, 3)], MHint.ops 3 [] [(3, 4)]]) (c := _) (by kernel_rfl) (by kernel_rfl) h
def rstart (u : Int) : Bool := bif !decide (u < (128 : Int)) then bif !space u then !ends u else false else bif bif bif bif decide (u ≥ (97 : Int)) then decide (u ≤ (122 : Int)) else false then true else bif decide (u ≥ (65 : Int)) then decide (u ≤ (90 : Int)) else false then true else u == (36 : Int) then true else u == (95 : Int)
theorem rstart_pure (u : Int) : PureTo Tryd.prog 28 [.v (.int .u16 u)] (AV.v (.bool (rstart u))) := rstart_ev u trivial
theorem unitOk_ev (s : ByteArray) (i : Int) (h : AllP [(!decide (i < (0 : Int))) = true → AllP [SZ s], (!bif decide (i < (0 : Int)) then true else decide (i ≥ (↑(ul s) : Int))) = true → AllP [SZ s, (0 : Int) ≤ i ∧ i < (↑(ul s) : Int)]]) : PureTo Tryd.prog 31 [.v (.string s), .v (.int .i64 i)] (AV.tup [AV.v (.int .u16 (bif !bif decide (i < (0 : Int)) then true else decide (i ≥ (↑(ul s) : Int)) then un s i.toNat else (0 : Int))), AV.v (.bool (bif !bif decide (i < (0 : Int)) then true else decide (i ≥ (↑(ul s) : Int)) then true else false))]) :=
  evFnM_pure hm sok1 (fn := Tryd.f31) rfl rfl (ti := false) (m := Mode.parts [Mode.mix, Mode.mix]) (hs := [MHint.ops 1 [] [(2, 5)], MHint.br]) (c := _) (by kernel_rfl) (by kernel_rfl) h
def unitOk_1 (s : ByteArray) (i : Int) : Int := bif !bif decide (i < (0 : Int)) then true else decide (i ≥ (↑(ul s) : Int)) then un s i.toNat else (0 : Int)
def unitOk_2 (s : ByteArray) (i : Int) : Bool := bif !bif decide (i < (0 : Int)) then true else decide (i ≥ (↑(ul s) : Int)) then true else false
theorem unitOk_pure (s : ByteArray) (i : Int) (h : AllP [(!decide (i < (0 : Int))) = true → AllP [SZ s], (!bif decide (i < (0 : Int)) then true else decide (i ≥ (↑(ul s) : Int))) = true → AllP [SZ s, (0 : Int) ≤ i ∧ i < (↑(ul s) : Int)]]) : PureTo Tryd.prog 31 [.v (.string s), .v (.int .i64 i)] (AV.tup [AV.v (.int .u16 (unitOk_1 s i)), AV.v (.bool (unitOk_2 s i))]) := unitOk_ev s i h
theorem runitOk_ev (s : ByteArray) (i : Int) (h : AllP [(!decide (i < (0 : Int))) = true → AllP [SZ s], (!bif decide (i < (0 : Int)) then true else decide (i ≥ (↑(ul s) : Int))) = true → AllP [SZ s, (0 : Int) ≤ i ∧ i < (↑(ul s) : Int)]]) : PureTo Tryd.prog 20 [.v (.string s), .v (.int .i64 i)] (AV.tup [AV.v (.int .u16 (bif !bif decide (i < (0 : Int)) then true else decide (i ≥ (↑(ul s) : Int)) then un s i.toNat else (0 : Int))), AV.v (.bool (bif !bif decide (i < (0 : Int)) then true else decide (i ≥ (↑(ul s) : Int)) then true else false))]) :=
  evFnM_pure hm sok1 (fn := Tryd.f20) rfl rfl (ti := false) (m := Mode.parts [Mode.mix, Mode.mix]) (hs := [MHint.ops 1 [] [(2, 5)], MHint.br]) (c := _) (by kernel_rfl) (by kernel_rfl) h
def runitOk_1 (s : ByteArray) (i : Int) : Int := bif !bif decide (i < (0 : Int)) then true else decide (i ≥ (↑(ul s) : Int)) then un s i.toNat else (0 : Int)
def runitOk_2 (s : ByteArray) (i : Int) : Bool := bif !bif decide (i < (0 : Int)) then true else decide (i ≥ (↑(ul s) : Int)) then true else false
theorem runitOk_pure (s : ByteArray) (i : Int) (h : AllP [(!decide (i < (0 : Int))) = true → AllP [SZ s], (!bif decide (i < (0 : Int)) then true else decide (i ≥ (↑(ul s) : Int))) = true → AllP [SZ s, (0 : Int) ≤ i ∧ i < (↑(ul s) : Int)]]) : PureTo Tryd.prog 20 [.v (.string s), .v (.int .i64 i)] (AV.tup [AV.v (.int .u16 (runitOk_1 s i)), AV.v (.bool (runitOk_2 s i))]) := runitOk_ev s i h
theorem slice_ev (s : ByteArray) (i j : Int) (h : AllP [SZ s, (!decide ((if (↑(ul s) : Int) < j then (↑(ul s) : Int) else j) ≤ if (0 : Int) > i then (0 : Int) else i)) = true → AllP [inR IntKind.i64 ((2 : Int) * if (0 : Int) > i then (0 : Int) else i), inR IntKind.i64 ((2 : Int) * if (↑(ul s) : Int) < j then (↑(ul s) : Int) else j), ((0 : Int) ≤ (2 : Int) * if (↑(ul s) : Int) < j then (↑(ul s) : Int) else j) ∧ ((2 : Int) * if (↑(ul s) : Int) < j then (↑(ul s) : Int) else j) ≤ (↑s.size : Int), ((0 : Int) ≤ (2 : Int) * if (0 : Int) > i then (0 : Int) else i) ∧ ((2 : Int) * if (0 : Int) > i then (0 : Int) else i) ≤ (↑((2 : Int) * if (↑(ul s) : Int) < j then (↑(ul s) : Int) else j).toNat : Int)]]) : PureTo Tryd.prog 21 [.v (.string s), .v (.int .i64 i), .v (.int .i64 j)] (AV.v (.string (bif !decide ((if (↑(ul s) : Int) < j then (↑(ul s) : Int) else j) ≤ if (0 : Int) > i then (0 : Int) else i) then s.extract ((2 : Int) * if (0 : Int) > i then (0 : Int) else i).toNat ((2 : Int) * if (↑(ul s) : Int) < j then (↑(ul s) : Int) else j).toNat else (ByteArray.mk #[])))) :=
  evFnM_pure hm sok1 (fn := Tryd.f21) rfl rfl (ti := false) (m := Mode.mix) (hs := [MHint.br]) (c := _) (by kernel_rfl) (by kernel_rfl) h
def slice (s : ByteArray) (i j : Int) : ByteArray := bif !decide ((if (↑(ul s) : Int) < j then (↑(ul s) : Int) else j) ≤ if (0 : Int) > i then (0 : Int) else i) then s.extract ((2 : Int) * if (0 : Int) > i then (0 : Int) else i).toNat ((2 : Int) * if (↑(ul s) : Int) < j then (↑(ul s) : Int) else j).toNat else (ByteArray.mk #[])
theorem slice_pure (s : ByteArray) (i j : Int) (h : AllP [SZ s, (!decide ((if (↑(ul s) : Int) < j then (↑(ul s) : Int) else j) ≤ if (0 : Int) > i then (0 : Int) else i)) = true → AllP [inR IntKind.i64 ((2 : Int) * if (0 : Int) > i then (0 : Int) else i), inR IntKind.i64 ((2 : Int) * if (↑(ul s) : Int) < j then (↑(ul s) : Int) else j), ((0 : Int) ≤ (2 : Int) * if (↑(ul s) : Int) < j then (↑(ul s) : Int) else j) ∧ ((2 : Int) * if (↑(ul s) : Int) < j then (↑(ul s) : Int) else j) ≤ (↑s.size : Int), ((0 : Int) ≤ (2 : Int) * if (0 : Int) > i then (0 : Int) else i) ∧ ((2 : Int) * if (0 : Int) > i then (0 : Int) else i) ≤ (↑((2 : Int) * if (↑(ul s) : Int) < j then (↑(ul s) : Int) else j).toNat : Int)]]) : PureTo Tryd.prog 21 [.v (.string s), .v (.int .i64 i), .v (.int .i64 j)] (AV.v (.string (slice s i j))) := slice_ev s i j h
theorem rslice_ev (s : ByteArray) (i j : Int) (h : AllP [SZ s, decide (j > (↑(ul s) : Int)) = true → AllP [SZ s], (!decide ((bif decide (j > (↑(ul s) : Int)) then (↑(ul s) : Int) else j) ≤ bif decide (i < (0 : Int)) then (0 : Int) else i)) = true → AllP [inR IntKind.i64 ((2 : Int) * bif decide (i < (0 : Int)) then (0 : Int) else i), inR IntKind.i64 ((2 : Int) * bif decide (j > (↑(ul s) : Int)) then (↑(ul s) : Int) else j), ((0 : Int) ≤ (2 : Int) * bif decide (j > (↑(ul s) : Int)) then (↑(ul s) : Int) else j) ∧ ((2 : Int) * bif decide (j > (↑(ul s) : Int)) then (↑(ul s) : Int) else j) ≤ (↑s.size : Int), ((0 : Int) ≤ (2 : Int) * bif decide (i < (0 : Int)) then (0 : Int) else i) ∧ ((2 : Int) * bif decide (i < (0 : Int)) then (0 : Int) else i) ≤ (↑((2 : Int) * bif decide (j > (↑(ul s) : Int)) then (↑(ul s) : Int) else j).toNat : Int)]]) : PureTo Tryd.prog 22 [.v (.string s), .v (.int .i64 i), .v (.int .i64 j)] (AV.v (.string (bif !decide ((bif decide (j > (↑(ul s) : Int)) then (↑(ul s) : Int) else j) ≤ bif decide (i < (0 : Int)) then (0 : Int) else i) then s.extract ((2 : Int) * bif decide (i < (0 : Int)) then (0 : Int) else i).toNat ((2 : Int) * bif decide (j > (↑(ul s) : Int)) then (↑(ul s) : Int) else j).toNat else (ByteArray.mk #[])))) :=
  evFnM_pure hm sok1 (fn := Tryd.f22) rfl rfl (ti := false) (m := Mode.mix) (hs := [MHint.br, MHint.join { slots := [(1, Mode.mix), (0, Mode.same), (2, Mode.same)], keys := [] }, MHint.br, MHint.join { slots := [(2, Mode.mix), (1, Mode.same), (0, Mode.same)], keys := [] }, MHint.br]) (c := _) (by kernel_rfl) (by kernel_rfl) h
def rslice (s : ByteArray) (i j : Int) : ByteArray := bif !decide ((bif decide (j > (↑(ul s) : Int)) then (↑(ul s) : Int) else j) ≤ bif decide (i < (0 : Int)) then (0 : Int) else i) then s.extract ((2 : Int) * bif decide (i < (0 : Int)) then (0 : Int) else i).toNat ((2 : Int) * bif decide (j > (↑(ul s) : Int)) then (↑(ul s) : Int) else j).toNat else (ByteArray.mk #[])
theorem rslice_pure (s : ByteArray) (i j : Int) (h : AllP [SZ s, decide (j > (↑(ul s) : Int)) = true → AllP [SZ s], (!decide ((bif decide (j > (↑(ul s) : Int)) then (↑(ul s) : Int) else j) ≤ bif decide (i < (0 : Int)) then (0 : Int) else i)) = true → AllP [inR IntKind.i64 ((2 : Int) * bif decide (i < (0 : Int)) then (0 : Int) else i), inR IntKind.i64 ((2 : Int) * bif decide (j > (↑(ul s) : Int)) then (↑(ul s) : Int) else j), ((0 : Int) ≤ (2 : Int) * bif decide (j > (↑(ul s) : Int)) then (↑(ul s) : Int) else j) ∧ ((2 : Int) * bif decide (j > (↑(ul s) : Int)) then (↑(ul s) : Int) else j) ≤ (↑s.size : Int), ((0 : Int) ≤ (2 : Int) * bif decide (i < (0 : Int)) then (0 : Int) else i) ∧ ((2 : Int) * bif decide (i < (0 : Int)) then (0 : Int) else i) ≤ (↑((2 : Int) * bif decide (j > (↑(ul s) : Int)) then (↑(ul s) : Int) else j).toNat : Int)]]) : PureTo Tryd.prog 22 [.v (.string s), .v (.int .i64 i), .v (.int .i64 j)] (AV.v (.string (rslice s i j))) := rslice_ev s i j h
theorem stands_ev (s t : ByteArray) (i : Int) (h : AllP [decide (i + (↑(ul t) : Int) ≤ (↑(ul s) : Int)) = true → AllP [SZ t, inR IntKind.i64 (i + (↑(ul t) : Int)), SZ s, inR IntKind.i64 ((2 : Int) * i), inR IntKind.i64 ((2 : Int) * i), SZ t, inR IntKind.i64 ((2 : Int) * (↑(ul t) : Int)), inR IntKind.i64 ((2 : Int) * i + (2 : Int) * (↑(ul t) : Int)), (0 : Int) ≤ (2 : Int) * i + (2 : Int) * (↑(ul t) : Int) ∧ (2 : Int) * i + (2 : Int) * (↑(ul t) : Int) ≤ (↑s.size : Int), (0 : Int) ≤ (2 : Int) * i ∧ (2 : Int) * i ≤ (↑((2 : Int) * i + (2 : Int) * (↑(ul t) : Int)).toNat : Int), SZ t, inR IntKind.i64 ((2 : Int) * (↑(ul t) : Int)), (0 : Int) ≤ (2 : Int) * (↑(ul t) : Int) ∧ (2 : Int) * (↑(ul t) : Int) ≤ (↑t.size : Int)], (!decide (i + (↑(ul t) : Int) ≤ (↑(ul s) : Int))) = true → AllP [SZ t, inR IntKind.i64 (i + (↑(ul t) : Int)), SZ s]]) : PureTo Tryd.prog 74 [.v (.string s), .v (.string t), .v (.int .i64 i)] (AV.v (.bool (bif decide (i + (↑(ul t) : Int) ≤ (↑(ul s) : Int)) then (s.extract ((2 : Int) * i).toNat ((2 : Int) * i + (2 : Int) * (↑(ul t) : Int)).toNat).toList == (t.extract 0 ((2 : Int) * (↑(ul t) : Int)).toNat).toList else false))) :=
  evFnM_pure hm sok1 (fn := Tryd.f74) rfl rfl (ti := false) (m := Mode.same) (hs := [MHint.tree 1 [] [7], MHint.join { slots := [(6, Mode.mix)], keys := [] }]) (c := _) (by kernel_rfl) (by kernel_rfl) h
def stands (s t : ByteArray) (i : Int) : Bool := bif decide (i + (↑(ul t) : Int) ≤ (↑(ul s) : Int)) then (s.extract ((2 : Int) * i).toNat ((2 : Int) * i + (2 : Int) * (↑(ul t) : Int)).toNat).toList == (t.extract 0 ((2 : Int) * (↑(ul t) : Int)).toNat).toList else false
theorem stands_pure (s t : ByteArray) (i : Int) (h : AllP [decide (i + (↑(ul t) : Int) ≤ (↑(ul s) : Int)) = true → AllP [SZ t, inR IntKind.i64 (i + (↑(ul t) : Int)), SZ s, inR IntKind.i64 ((2 : Int) * i), inR IntKind.i64 ((2 : Int) * i), SZ t, inR IntKind.i64 ((2 : Int) * (↑(ul t) : Int)), inR IntKind.i64 ((2 : Int) * i + (2 : Int) * (↑(ul t) : Int)), (0 : Int) ≤ (2 : Int) * i + (2 : Int) * (↑(ul t) : Int) ∧ (2 : Int) * i + (2 : Int) * (↑(ul t) : Int) ≤ (↑s.size : Int), (0 : Int) ≤ (2 : Int) * i ∧ (2 : Int) * i ≤ (↑((2 : Int) * i + (2 : Int) * (↑(ul t) : Int)).toNat : Int), SZ t, inR IntKind.i64 ((2 : Int) * (↑(ul t) : Int)), (0 : Int) ≤ (2 : Int) * (↑(ul t) : Int) ∧ (2 : Int) * (↑(ul t) : Int) ≤ (↑t.size : Int)], (!decide (i + (↑(ul t) : Int) ≤ (↑(ul s) : Int))) = true → AllP [SZ t, inR IntKind.i64 (i + (↑(ul t) : Int)), SZ s]]) : PureTo Tryd.prog 74 [.v (.string s), .v (.string t), .v (.int .i64 i)] (AV.v (.bool (stands s t i))) := stands_ev s t i h
end Go.Proofs.Us

/- Texts: code points in bytes. -/
set_option maxRecDepth 100000
namespace Go.Proofs.Us
open Go Go.Ev

theorem and_byte {k : IntKind} (hk : k.signed = false) (hb : 8 ≤ k.bits) {x : Int} (h : 0 ≤ x ∧ x ≤ 255) : bitsOf .and k x 7 = x % 8 ∧ bitsOf .and k x 15 = x % 16 ∧ bitsOf .and k x 31 = x % 32 ∧ bitsOf .and k x 63 = x % 64 := by
  have hp : (2 : Int) ^ 8 ≤ 2 ^ k.bits := by
    have : (2 : Nat) ^ 8 ≤ 2 ^ k.bits := Nat.pow_le_pow_right (by omega) hb
    exact_mod_cast this
  have h1 : x < 2 ^ k.bits := by omega
  exact ⟨and_low hk (s := 3) h.1 h1 (by omega), and_low hk (s := 4) h.1 h1 (by omega), and_low hk (s := 5) h.1 h1 (by omega), and_low hk (s := 6) h.1 h1 (by omega)⟩

theorem or_u32 {x y : Int} (s : Nat) (hs : s ≤ 32) (hx : 0 ≤ x ∧ x < (2 ^ s : Nat)) (hy : 0 ≤ y ∧ y < 4294967296) (hm : y % (2 ^ s : Nat) = 0) : bitsOf .or .u32 y x = y + x := by
  have := (or_add (k := .u32) rfl hx.1 hx.2 hy.1 hy.2 hm hs).2
  omega

/-- of small numbers the sign makes no difference -/
theorem or_i32 {x y : Int} (s : Nat) (hs : s ≤ 30) (hx : 0 ≤ x ∧ x < (2 ^ s : Nat)) (hy : 0 ≤ y ∧ y < 1073741824) (hm : y % (2 ^ s : Nat) = 0) : bitsOf .or .i32 y x = y + x := by
  have h := or_u32 s (by omega) hx ⟨hy.1, by omega⟩ hm
  have hx2 : x < 1073741824 := by
    have h30 : (2 : Nat) ^ s ≤ 1073741824 := Nat.pow_le_pow_right (n := 2) (by omega) hs
    omega
  have e1 : bitsOf .or .i32 y x = IntKind.i32.wrap ((BitVec.ofInt 32 y ||| BitVec.ofInt 32 x).toNat : Int) := rfl
  have e2 : bitsOf .or .u32 y x = IntKind.u32.wrap ((BitVec.ofInt 32 y ||| BitVec.ofInt 32 x).toNat : Int) := rfl
  rw [e2] at h
  rw [e1]
  have hlt := (BitVec.ofInt 32 y ||| BitVec.ofInt 32 x).isLt
  have h3 : IntKind.u32.wrap ((BitVec.ofInt 32 y ||| BitVec.ofInt 32 x).toNat : Int) = ((BitVec.ofInt 32 y ||| BitVec.ofInt 32 x).toNat : Int) := wrap_inR (k := .u32) (by simp only [inR]; omega)
  rw [h3] at h
  rw [h]
  exact wrap_inR (k := .i32) (by simp only [inR]; omega)

theorem cont_bits : ∀ b : Fin 256, (bitsOf .and .u8 (b.val : Int) 192 == 128) = (decide (128 ≤ b.val) && decide (b.val ≤ 191)) := by decide +kernel

theorem all256 {Q : Int → Prop} (h : ∀ n : Fin 256, Q (n.val : Int)) {n : Int} (hn : 0 ≤ n ∧ n ≤ 255) : Q n := by
  have := h ⟨n.toNat, by omega⟩
  have e : ((n.toNat : Nat) : Int) = n := by omega
  simpa [e] using this

/-- is there a byte that goes on? -/
def goes (s : ByteArray) (j : Nat) : Prop := j < s.size ∧ 128 ≤ byteAt s j ∧ byteAt s j ≤ 191
instance (s : ByteArray) (j : Nat) : Decidable (goes s j) := by unfold goes; infer_instance

theorem cont_eq (s : ByteArray) (j : Nat) : cont s (j : Int) = decide (goes s j) := by
  unfold cont goes
  rw [Int.toNat_natCast]
  have hb := all256 (Q := fun n => (bitsOf .and .u8 n 192 == 128) = (decide (128 ≤ n) && decide (n ≤ 191))) (fun n => by
    have := cont_bits n
    rw [this]
    congr 1 <;> (rw [decide_eq_decide]; omega)) (byteAt_lt s j)
  rw [hb]
  by_cases h : (j : Int) < (s.size : Int)
  · have h' : j < s.size := by omega
    by_cases h1 : 128 ≤ byteAt s j <;> by_cases h2 : byteAt s j ≤ 191 <;> simp [h, h', h1, h2]
  · have h' : ¬ j < s.size := by omega
    simp [h, h']

/-- the code point that begins at a place, and its length; 0: none -/
def pt (s : ByteArray) (i : Nat) : Int × Int :=
  if byteAt s i < 128 then (byteAt s i, 1)
  else if (194 ≤ byteAt s i ∧ byteAt s i < 224) ∧ goes s (i + 1) then (byteAt s i % 32 * 64 + byteAt s (i + 1) % 64, 2)
  else if ((224 ≤ byteAt s i ∧ byteAt s i < 240) ∧ goes s (i + 1)) ∧ goes s (i + 2) then
    (if 2048 ≤ byteAt s i % 16 * 4096 + byteAt s (i + 1) % 64 * 64 + byteAt s (i + 2) % 64 ∧ (byteAt s i % 16 * 4096 + byteAt s (i + 1) % 64 * 64 + byteAt s (i + 2) % 64 < 55296 ∨ 57343 < byteAt s i % 16 * 4096 + byteAt s (i + 1) % 64 * 64 + byteAt s (i + 2) % 64) then
      (byteAt s i % 16 * 4096 + byteAt s (i + 1) % 64 * 64 + byteAt s (i + 2) % 64, 3) else (0, 0))
  else if (((240 ≤ byteAt s i ∧ byteAt s i < 245) ∧ goes s (i + 1)) ∧ goes s (i + 2)) ∧ goes s (i + 3) then
    (if 65536 ≤ byteAt s i % 8 * 262144 + byteAt s (i + 1) % 64 * 4096 + byteAt s (i + 2) % 64 * 64 + byteAt s (i + 3) % 64 ∧ byteAt s i % 8 * 262144 + byteAt s (i + 1) % 64 * 4096 + byteAt s (i + 2) % 64 * 64 + byteAt s (i + 3) % 64 ≤ 1114111 then
      (byteAt s i % 8 * 262144 + byteAt s (i + 1) % 64 * 4096 + byteAt s (i + 2) % 64 * 64 + byteAt s (i + 3) % 64, 4) else (0, 0))
  else (0, 0)

theorem bif_and (a b : Bool) : (bif a then b else false) = (a && b) := by cases a <;> rfl
theorem bif_or (a b : Bool) : (bif a then true else b) = (a || b) := by cases a <;> rfl
theorem bif_not {α : Type} (a : Bool) (x y : α) : (bif !a then x else y) = bif a then y else x := by cases a <;> rfl
theorem bif_dec {α : Type} (p : Prop) [Decidable p] (x y : α) : (bif decide p then x else y) = if p then x else y := by by_cases h : p <;> simp [h]

theorem bif_ite {α : Type} (b : Bool) (x y : α) : (bif b then x else y) = if b = true then x else y := by cases b <;> simp
theorem not_t (b : Bool) : ((!b) = true) = ¬ (b = true) := by cases b <;> simp

theorem point_c {s : ByteArray} {i : Int} (hs : SZ s) (h : 0 ≤ i ∧ i < (s.size : Int)) : PureTo Tryd.prog 61 [.v (.string s), .v (.int .i64 i)] (.tup [.v (.int .u32 (pt s i.toNat).1), .v (.int .i64 (pt s i.toNat).2)]) := by
  obtain ⟨j, rfl⟩ : ∃ j : Nat, i = j := ⟨i.toNat, by omega⟩
  unfold SZ at hs
  rw [Int.toNat_natCast]
  have c1 : cont s ((j : Int) + 1) = decide (goes s (j + 1)) := cont_eq s (j + 1)
  have c2 : cont s ((j : Int) + 2) = decide (goes s (j + 2)) := cont_eq s (j + 2)
  have c3 : cont s ((j : Int) + 3) = decide (goes s (j + 3)) := cont_eq s (j + 3)
  have e0 : ((j : Int)).toNat = j := Int.toNat_natCast j
  have e1 : ((j : Int) + 1).toNat = j + 1 := by omega
  have e2 : ((j : Int) + 2).toNat = j + 2 := by omega
  have e3 : ((j : Int) + 3).toNat = j + 3 := by omega
  have a0 := byteAt_lt s j
  have a1 := byteAt_lt s (j + 1)
  have a2 := byteAt_lt s (j + 2)
  have a3 := byteAt_lt s (j + 3)
  obtain ⟨u07, u015, u031, u063⟩ := and_byte (k := .u32) rfl (by decide) a0
  obtain ⟨v17, v115, v131, v163⟩ := and_byte (k := .u8) rfl (by decide) a1
  obtain ⟨v27, v215, v231, v263⟩ := and_byte (k := .u8) rfl (by decide) a2
  obtain ⟨v37, v315, v331, v363⟩ := and_byte (k := .u8) rfl (by decide) a3
  have o2 : bitsOf .or .u32 (byteAt s j % 32 * 64) (byteAt s (j + 1) % 64) = byteAt s j % 32 * 64 + byteAt s (j + 1) % 64 := or_u32 6 (by omega) (by omega) (by omega) (by omega)
  have o3a : bitsOf .or .u32 (byteAt s j % 16 * 4096) (byteAt s (j + 1) % 64 * 64) = byteAt s j % 16 * 4096 + byteAt s (j + 1) % 64 * 64 := or_u32 12 (by omega) (by omega) (by omega) (by omega)
  have o3 : bitsOf .or .u32 (byteAt s j % 16 * 4096 + byteAt s (j + 1) % 64 * 64) (byteAt s (j + 2) % 64) = byteAt s j % 16 * 4096 + byteAt s (j + 1) % 64 * 64 + byteAt s (j + 2) % 64 := or_u32 6 (by omega) (by omega) (by omega) (by omega)
  have o4a : bitsOf .or .u32 (byteAt s j % 8 * 262144) (byteAt s (j + 1) % 64 * 4096) = byteAt s j % 8 * 262144 + byteAt s (j + 1) % 64 * 4096 := or_u32 18 (by omega) (by omega) (by omega) (by omega)
  have o4b : bitsOf .or .u32 (byteAt s j % 8 * 262144 + byteAt s (j + 1) % 64 * 4096) (byteAt s (j + 2) % 64 * 64) = byteAt s j % 8 * 262144 + byteAt s (j + 1) % 64 * 4096 + byteAt s (j + 2) % 64 * 64 := or_u32 12 (by omega) (by omega) (by omega) (by omega)
  have o4 : bitsOf .or .u32 (byteAt s j % 8 * 262144 + byteAt s (j + 1) % 64 * 4096 + byteAt s (j + 2) % 64 * 64) (byteAt s (j + 3) % 64) = byteAt s j % 8 * 262144 + byteAt s (j + 1) % 64 * 4096 + byteAt s (j + 2) % 64 * 64 + byteAt s (j + 3) % 64 := or_u32 6 (by omega) (by omega) (by omega) (by omega)
  have g1 : goes s (j + 1) → j + 1 < s.size := fun h => h.1
  have g2 : goes s (j + 2) → j + 2 < s.size := fun h => h.1
  have g3 : goes s (j + 3) → j + 3 < s.size := fun h => h.1
  have hp := point_pure s j (by
    simp only [e0, e1, e2, e3, c1, c2, c3, u07, u015, u031, u063, v163, v263, v363, AllP, inR, bif_and, not_t, Bool.and_eq_true, decide_eq_true_eq]
    simp only [goes]
    clear o2 o3a o3 o4a o4b o4 u07 u015 u031 u063 v17 v115 v131 v163 v27 v215 v231 v263 v37 v315 v331 v363 c1 c2 c3 g1 g2 g3
    generalize byteAt s j = a at *
    generalize byteAt s (j + 1) = b at *
    generalize byteAt s (j + 2) = c at *
    generalize byteAt s (j + 3) = d at *
    repeat' (first | apply And.intro | intro _)
    all_goals first | trivial | omega)
  have w : point_1 s j = (pt s j).1 ∧ point_2 s j = (pt s j).2 := by
    unfold point_1 point_2 pt
    simp only [e0, e1, e2, e3, c1, c2, c3, u07, u015, u031, u063, v163, v263, v363, o2, o3a, o3, o4a, o4b, o4, bif_and, bif_or, bif_not]
    simp only [bif_ite, Bool.and_eq_true, Bool.or_eq_true, not_t, decide_eq_true_eq, apply_ite Prod.fst, apply_ite Prod.snd]
    clear o2 o3a o3 o4a o4b o4 u07 u015 u031 u063 v17 v115 v131 v163 v27 v215 v231 v263 v37 v315 v331 v363 c1 c2 c3 g1 g2 g3 hp a0 a1 a2 a3
    generalize byteAt s j = a at *
    generalize byteAt s (j + 1) = b at *
    generalize byteAt s (j + 2) = c at *
    generalize byteAt s (j + 3) = d at *
    generalize a % 8 * 262144 + b % 64 * 4096 + c % 64 * 64 + d % 64 = p4 at *
    generalize a % 16 * 4096 + b % 64 * 64 + c % 64 = p3 at *
    by_cases h0 : a < 128
    · simp only [h0, if_true, and_self]
    simp only [h0, if_false]
    simp only [ge_iff_le, gt_iff_lt, not_false_eq_true, if_true]
    by_cases h1 : (194 ≤ a ∧ a < 224) ∧ goes s (j + 1)
    · simp only [h1, and_self, not_true_eq_false, if_true, if_false]
    simp only [h1, not_false_eq_true, if_true, if_false]
    by_cases h2 : ((224 ≤ a ∧ a < 240) ∧ goes s (j + 1)) ∧ goes s (j + 2)
    · simp only [h2, and_self, not_true_eq_false, if_true, if_false]
    simp only [h2, not_false_eq_true, if_true, if_false]
    by_cases h3 : (((240 ≤ a ∧ a < 245) ∧ goes s (j + 1)) ∧ goes s (j + 2)) ∧ goes s (j + 3)
    · simp only [h3, and_self, not_true_eq_false, if_true, if_false, false_or]
      by_cases h4 : 65536 ≤ p4 ∧ p4 ≤ 1114111
      · simp only [h4, and_self, not_true_eq_false, if_true, if_false]
      · simp only [h4, not_false_eq_true, if_true, if_false, and_self]
    · simp only [h3, not_false_eq_true, true_or, if_true, if_false, and_self]
  rw [w.1, w.2] at hp
  exact hp
end Go.Proofs.Us

/- Texts: code points as Go's library reads them. -/
set_option maxRecDepth 100000
namespace Go.Proofs.Us
open Go Go.Ev

/-- the code point at the beginning, as the library tells it -/
def dr (s : ByteArray) : Int × Int := if (pt s 0).2 = 0 then (65533, 1) else pt s 0

theorem first_class : ∀ n : Fin 256, firsts.getD n.val 0 = if n.val < 128 then 240 else if n.val < 194 then 241 else if n.val < 224 then 2 else if n.val = 224 then 19 else if n.val < 237 then 3 else if n.val = 237 then 35 else if n.val < 240 then 3 else if n.val = 240 then 52 else if n.val < 244 then 4 else if n.val = 244 then 68 else 241 := by decide +kernel

theorem keep_byte : ∀ n : Fin 256, bitsOf .or .i32 (bitsOf .andNot .i32 (n.val : Int) (IntKind.i32.wrap (240 * 2147483648) / 2147483648)) (bitsOf .and .i32 65533 (IntKind.i32.wrap (240 * 2147483648) / 2147483648)) = n.val := by decide +kernel
theorem lose_byte : ∀ n : Fin 256, bitsOf .or .i32 (bitsOf .andNot .i32 (n.val : Int) (IntKind.i32.wrap (241 * 2147483648) / 2147483648)) (bitsOf .and .i32 65533 (IntKind.i32.wrap (241 * 2147483648) / 2147483648)) = 65533 := by decide +kernel

theorem first_of {a : Int} (h : 0 ≤ a ∧ a ≤ 255) : firsts.getD a.toNat 0 = if a < 128 then 240 else if a < 194 then 241 else if a < 224 then 2 else if a = 224 then 19 else if a < 237 then 3 else if a = 237 then 35 else if a < 240 then 3 else if a = 240 then 52 else if a < 244 then 4 else if a = 244 then 68 else 241 := by
  have := first_class ⟨a.toNat, by omega⟩
  simp only at this
  rw [this]
  obtain ⟨n, rfl⟩ : ∃ n : Nat, a = n := ⟨a.toNat, by omega⟩
  simp only [Int.toNat_natCast]
  have e : ∀ (p q : Prop) [Decidable p] [Decidable q] (x y x' y' : Int), (p ↔ q) → x = x' → y = y' → (if p then x else y) = if q then x' else y' := by
    intro p q _ _ x y x' y' h1 h2 h3
    subst h2; subst h3
    by_cases hp : p
    · rw [if_pos hp, if_pos (h1.1 hp)]
    · rw [if_neg hp, if_neg (fun h => hp (h1.2 h))]
  refine e _ _ _ _ _ _ (by omega) rfl (e _ _ _ _ _ _ (by omega) rfl (e _ _ _ _ _ _ (by omega) rfl (e _ _ _ _ _ _ (by omega) rfl (e _ _ _ _ _ _ (by omega) rfl (e _ _ _ _ _ _ (by omega) rfl (e _ _ _ _ _ _ (by omega) rfl (e _ _ _ _ _ _ (by omega) rfl (e _ _ _ _ _ _ (by omega) rfl (e _ _ _ _ _ _ (by omega) rfl rfl)))))))))

/-- a table's words on a first byte -/
structure Cls (a A n lo hi : Int) : Prop where
  f : firsts.getD a.toNat 0 = A
  n : bitsOf .and .u8 A 7 = n
  lo : lows.getD (A / 16).toNat 0 = lo
  hi : highs.getD (A / 16).toNat 0 = hi

theorem cls2 {a : Int} (h : 194 ≤ a ∧ a < 224) : Cls a 2 2 128 191 := ⟨by rw [first_of (by omega), if_neg (by omega), if_neg (by omega), if_pos (by omega)], rfl, rfl, rfl⟩
theorem cls19 {a : Int} (h : a = 224) : Cls a 19 3 160 191 := ⟨by subst h; rfl, rfl, rfl, rfl⟩
theorem cls35 {a : Int} (h : a = 237) : Cls a 35 3 128 159 := ⟨by subst h; rfl, rfl, rfl, rfl⟩
theorem cls3 {a : Int} (h : 225 ≤ a ∧ a < 240) (h' : a ≠ 237) : Cls a 3 3 128 191 := by
  refine ⟨?_, rfl, rfl, rfl⟩
  rw [first_of (by omega), if_neg (by omega), if_neg (by omega), if_neg (by omega), if_neg (by omega)]
  by_cases h1 : a < 237
  · rw [if_pos h1]
  · rw [if_neg h1, if_neg h', if_pos (by omega)]
theorem cls52 {a : Int} (h : a = 240) : Cls a 52 4 144 191 := ⟨by subst h; rfl, rfl, rfl, rfl⟩
theorem cls68 {a : Int} (h : a = 244) : Cls a 68 4 128 143 := ⟨by subst h; rfl, rfl, rfl, rfl⟩
theorem cls4 {a : Int} (h : 241 ≤ a ∧ a < 244) : Cls a 4 4 128 191 := ⟨by rw [first_of (by omega), if_neg (by omega), if_neg (by omega), if_neg (by omega), if_neg (by omega), if_neg (by omega), if_neg (by omega), if_neg (by omega), if_neg (by omega), if_pos (by omega)], rfl, rfl, rfl⟩


theorem pt_1 {s : ByteArray} {i : Nat} (h : byteAt s i < 128) : pt s i = (byteAt s i, 1) := by unfold pt; rw [if_pos h]
theorem pt_0 {s : ByteArray} {i : Nat} (h : (128 ≤ byteAt s i ∧ byteAt s i < 194) ∨ 245 ≤ byteAt s i) : pt s i = (0, 0) := by
  unfold pt
  rw [if_neg (by omega), if_neg (by omega), if_neg (by omega), if_neg (by omega)]
theorem pt_2 {s : ByteArray} {i : Nat} (h : 194 ≤ byteAt s i ∧ byteAt s i < 224) : pt s i = if goes s (i + 1) then (byteAt s i % 32 * 64 + byteAt s (i + 1) % 64, 2) else (0, 0) := by
  unfold pt
  rw [if_neg (by omega)]
  by_cases g : goes s (i + 1)
  · rw [if_pos ⟨h, g⟩, if_pos g]
  · rw [if_neg (fun x => g x.2), if_neg g, if_neg (by omega), if_neg (by omega)]
def p3 (s : ByteArray) (i : Nat) : Int := byteAt s i % 16 * 4096 + byteAt s (i + 1) % 64 * 64 + byteAt s (i + 2) % 64
def p4 (s : ByteArray) (i : Nat) : Int := byteAt s i % 8 * 262144 + byteAt s (i + 1) % 64 * 4096 + byteAt s (i + 2) % 64 * 64 + byteAt s (i + 3) % 64
theorem pt_3 {s : ByteArray} {i : Nat} (h : 224 ≤ byteAt s i ∧ byteAt s i < 240) : pt s i = if goes s (i + 1) ∧ goes s (i + 2) ∧ 2048 ≤ p3 s i ∧ (p3 s i < 55296 ∨ 57343 < p3 s i) then (p3 s i, 3) else (0, 0) := by
  unfold pt
  rw [if_neg (by omega), if_neg (by omega)]
  have e : byteAt s i % 16 * 4096 + byteAt s (i + 1) % 64 * 64 + byteAt s (i + 2) % 64 = p3 s i := rfl
  simp only [e]
  by_cases g : goes s (i + 1) ∧ goes s (i + 2)
  · rw [if_pos ⟨⟨h, g.1⟩, g.2⟩]
    by_cases r : 2048 ≤ p3 s i ∧ (p3 s i < 55296 ∨ 57343 < p3 s i)
    · rw [if_pos r, if_pos ⟨g.1, g.2, r⟩]
    · rw [if_neg r, if_neg (fun x => r x.2.2)]
  · rw [if_neg (fun x => g ⟨x.1.2, x.2⟩), if_neg (by omega), if_neg (fun x => g ⟨x.1, x.2.1⟩)]
theorem pt_4 {s : ByteArray} {i : Nat} (h : 240 ≤ byteAt s i ∧ byteAt s i < 245) : pt s i = if goes s (i + 1) ∧ goes s (i + 2) ∧ goes s (i + 3) ∧ 65536 ≤ p4 s i ∧ p4 s i ≤ 1114111 then (p4 s i, 4) else (0, 0) := by
  unfold pt
  rw [if_neg (by omega), if_neg (by omega), if_neg (by omega)]
  have e : byteAt s i % 8 * 262144 + byteAt s (i + 1) % 64 * 4096 + byteAt s (i + 2) % 64 * 64 + byteAt s (i + 3) % 64 = p4 s i := rfl
  simp only [e]
  by_cases g : goes s (i + 1) ∧ goes s (i + 2) ∧ goes s (i + 3)
  · rw [if_pos ⟨⟨⟨h, g.1⟩, g.2.1⟩, g.2.2⟩]
    by_cases r : 65536 ≤ p4 s i ∧ p4 s i ≤ 1114111
    · rw [if_pos r, if_pos ⟨g.1, g.2.1, g.2.2, r⟩]
    · rw [if_neg r, if_neg (fun x => r x.2.2.2)]
  · rw [if_neg (fun x => g ⟨x.1.1.2, x.1.2, x.2⟩), if_neg (fun x => g ⟨x.1, x.2.1, x.2.2.1⟩)]

/-- the library's words on a first byte that begins more -/
theorem slow_more {s : ByteArray} (hs : SZ s) (h : 0 < s.size) {A n lo hi : Int} (c : Cls (byteAt s 0) A n lo hi) (hA : 0 ≤ A ∧ A < 240) (hn : 2 ≤ n ∧ n ≤ 4) (hlo : 128 ≤ lo) (hhi : hi ≤ 191) :
    PureTo Tryd.prog 79 [.v (.string s)] (.tup [.v (.int .i32 (if (s.size : Int) < n ∨ byteAt s 1 < lo ∨ hi < byteAt s 1 then 65533 else if n ≤ 2 then byteAt s 0 % 32 * 64 + byteAt s 1 % 64 else if byteAt s 2 < 128 ∨ 191 < byteAt s 2 then 65533 else if n ≤ 3 then p3 s 0 else if byteAt s 3 < 128 ∨ 191 < byteAt s 3 then 65533 else p4 s 0)),
      .v (.int .i64 (if (s.size : Int) < n ∨ byteAt s 1 < lo ∨ hi < byteAt s 1 then 1 else if n ≤ 2 then 2 else if byteAt s 2 < 128 ∨ 191 < byteAt s 2 then 1 else if n ≤ 3 then 3 else if byteAt s 3 < 128 ∨ 191 < byteAt s 3 then 1 else 4))]) := by
  have a0 := byteAt_lt s 0
  have a1 := byteAt_lt s 1
  have a2 := byteAt_lt s 2
  have a3 := byteAt_lt s 3
  obtain ⟨u07, u015, u031, u063⟩ := and_byte (k := .u8) rfl (by decide) a0
  obtain ⟨v17, v115, v131, v163⟩ := and_byte (k := .u8) rfl (by decide) a1
  obtain ⟨v27, v215, v231, v263⟩ := and_byte (k := .u8) rfl (by decide) a2
  obtain ⟨v37, v315, v331, v363⟩ := and_byte (k := .u8) rfl (by decide) a3
  have o2 : bitsOf .or .i32 (byteAt s 0 % 32 * 64) (byteAt s 1 % 64) = byteAt s 0 % 32 * 64 + byteAt s 1 % 64 := or_i32 6 (by omega) (by omega) (by omega) (by omega)
  have o3a : bitsOf .or .i32 (byteAt s 0 % 16 * 4096) (byteAt s 1 % 64 * 64) = byteAt s 0 % 16 * 4096 + byteAt s 1 % 64 * 64 := or_i32 12 (by omega) (by omega) (by omega) (by omega)
  have o3 : bitsOf .or .i32 (byteAt s 0 % 16 * 4096 + byteAt s 1 % 64 * 64) (byteAt s 2 % 64) = p3 s 0 := or_i32 6 (by omega) (by omega) (by omega) (by omega)
  have o4a : bitsOf .or .i32 (byteAt s 0 % 8 * 262144) (byteAt s 1 % 64 * 4096) = byteAt s 0 % 8 * 262144 + byteAt s 1 % 64 * 4096 := or_i32 18 (by omega) (by omega) (by omega) (by omega)
  have o4b : bitsOf .or .i32 (byteAt s 0 % 8 * 262144 + byteAt s 1 % 64 * 4096) (byteAt s 2 % 64 * 64) = byteAt s 0 % 8 * 262144 + byteAt s 1 % 64 * 4096 + byteAt s 2 % 64 * 64 := or_i32 12 (by omega) (by omega) (by omega) (by omega)
  have o4 : bitsOf .or .i32 (byteAt s 0 % 8 * 262144 + byteAt s 1 % 64 * 4096 + byteAt s 2 % 64 * 64) (byteAt s 3 % 64) = p4 s 0 := or_i32 6 (by omega) (by omega) (by omega) (by omega)
  unfold SZ at hs
  obtain ⟨cf, cn, cl, ch⟩ := c
  have hp := slow_pure s (by
    simp only [cf, cn, cl, ch, u07, u015, u031, u063, v163, v263, v363, AllP, inR, bif_and, bif_or, not_t, Bool.and_eq_true, Bool.or_eq_true, decide_eq_true_eq]
    clear o2 o3a o3 o4a o4b o4 u07 u015 u031 u063 v17 v115 v131 v163 v27 v215 v231 v263 v37 v315 v331 v363 cf cn cl ch
    generalize byteAt s 0 = a at *
    generalize byteAt s 1 = b at *
    generalize byteAt s 2 = c at *
    generalize byteAt s 3 = d at *
    repeat' (first | apply And.intro | intro _)
    all_goals first | trivial | omega)
  have e : ∀ (x1 x2 x3 x4 z y : Int), (if ¬ (s.size : Int) < 1 then if ¬ A ≥ 240 then if ¬ (s.size : Int) < n then if ¬ (byteAt s 1 < lo ∨ hi < byteAt s 1) then if ¬ n ≤ 2 then if ¬ (byteAt s 2 < 128 ∨ 191 < byteAt s 2) then if ¬ n ≤ 3 then if ¬ (byteAt s 3 < 128 ∨ 191 < byteAt s 3) then x4 else x1 else x3 else x1 else x2 else x1 else x1 else z else y) =
      (if (s.size : Int) < n ∨ byteAt s 1 < lo ∨ hi < byteAt s 1 then x1 else if n ≤ 2 then x2 else if byteAt s 2 < 128 ∨ 191 < byteAt s 2 then x1 else if n ≤ 3 then x3 else if byteAt s 3 < 128 ∨ 191 < byteAt s 3 then x1 else x4) := by
    intro x1 x2 x3 x4 z y
    rw [if_pos (by omega), if_pos (by omega)]
    by_cases h1 : (s.size : Int) < n
    · rw [if_neg (fun hx => hx h1), if_pos (.inl h1)]
    · rw [if_pos h1]
      by_cases h2 : byteAt s 1 < lo ∨ hi < byteAt s 1
      · rw [if_neg (fun hx => hx h2), if_pos (.inr h2)]
      · have hn' : ¬ ((s.size : Int) < n ∨ byteAt s 1 < lo ∨ hi < byteAt s 1) := fun hx => hx.elim h1 h2
        rw [if_pos h2, if_neg hn']
        by_cases h3 : n ≤ 2
        · rw [if_neg (fun hx => hx h3), if_pos h3]
        · rw [if_pos h3, if_neg h3]
          by_cases h4 : byteAt s 2 < 128 ∨ 191 < byteAt s 2
          · rw [if_neg (fun hx => hx h4), if_pos h4]
          · rw [if_pos h4, if_neg h4]
            by_cases h5 : n ≤ 3
            · rw [if_neg (fun hx => hx h5), if_pos h5]
            · rw [if_pos h5, if_neg h5]
              by_cases h6 : byteAt s 3 < 128 ∨ 191 < byteAt s 3
              · rw [if_neg (fun hx => hx h6), if_pos h6]
              · rw [if_pos h6, if_neg h6]
  have w1 : slow_1 s = (if (s.size : Int) < n ∨ byteAt s 1 < lo ∨ hi < byteAt s 1 then 65533 else if n ≤ 2 then byteAt s 0 % 32 * 64 + byteAt s 1 % 64 else if byteAt s 2 < 128 ∨ 191 < byteAt s 2 then 65533 else if n ≤ 3 then p3 s 0 else if byteAt s 3 < 128 ∨ 191 < byteAt s 3 then 65533 else p4 s 0) := by
    unfold slow_1
    simp only [cf, cn, cl, ch, u07, u015, u031, u063, v163, v263, v363, o2, o3a, o3, o4a, o4b, o4, bif_or]
    simp only [bif_ite, Bool.or_eq_true, not_t, decide_eq_true_eq]
    exact e 65533 _ _ _ _ _
  have w2 : slow_2 s = (if (s.size : Int) < n ∨ byteAt s 1 < lo ∨ hi < byteAt s 1 then 1 else if n ≤ 2 then 2 else if byteAt s 2 < 128 ∨ 191 < byteAt s 2 then 1 else if n ≤ 3 then 3 else if byteAt s 3 < 128 ∨ 191 < byteAt s 3 then 1 else 4) := by
    unfold slow_2
    simp only [cf, cn, cl, ch, bif_or]
    simp only [bif_ite, Bool.or_eq_true, not_t, decide_eq_true_eq]
    exact e 1 2 3 4 1 0
  rw [w1, w2] at hp
  exact hp


theorem slow_one {s : ByteArray} (hs : SZ s) (h : 0 < s.size) (c : byteAt s 0 < 194 ∨ 245 ≤ byteAt s 0) :
    PureTo Tryd.prog 79 [.v (.string s)] (.tup [.v (.int .i32 (if byteAt s 0 < 128 then byteAt s 0 else 65533)), .v (.int .i64 1)]) := by
  have a0 := byteAt_lt s 0
  have hf := first_of a0
  unfold SZ at hs
  have key : ∀ A : Int, (A = 240 ∧ byteAt s 0 < 128) ∨ (A = 241 ∧ ¬ byteAt s 0 < 128) → firsts.getD (byteAt s 0).toNat 0 = A → PureTo Tryd.prog 79 [.v (.string s)] (.tup [.v (.int .i32 (if byteAt s 0 < 128 then byteAt s 0 else 65533)), .v (.int .i64 1)]) := by
    intro A hA cf
    have hp := slow_pure s (by
      simp only [cf, AllP, inR, not_t, decide_eq_true_eq]
      refine ⟨fun _ => ⟨by omega, by omega, fun _ => ?_, fun hn => absurd hn (by omega), trivial⟩, trivial⟩
      repeat' (first | apply And.intro | intro _)
      all_goals first | trivial | omega)
    have h1 : decide ((s.size : Int) < 1) = false := by simp; omega
    have h2 : decide (A ≥ 240) = true := by simp; omega
    have w2 : slow_2 s = 1 := by
      unfold slow_2
      simp only [cf, h1, h2, Bool.not_false, Bool.not_true, cond_true, cond_false]
    have w1 : slow_1 s = (if byteAt s 0 < 128 then byteAt s 0 else 65533) := by
      unfold slow_1
      simp only [cf, h1, h2, Bool.not_false, Bool.not_true, cond_true, cond_false]
      rcases hA with ⟨rfl, h3⟩ | ⟨rfl, h3⟩
      · rw [if_pos h3]
        exact all256 (Q := fun n => bitsOf .or .i32 (bitsOf .andNot .i32 n (IntKind.i32.wrap (240 * 2147483648) / 2147483648)) (bitsOf .and .i32 65533 (IntKind.i32.wrap (240 * 2147483648) / 2147483648)) = n) keep_byte a0
      · rw [if_neg h3]
        exact all256 (Q := fun n => bitsOf .or .i32 (bitsOf .andNot .i32 n (IntKind.i32.wrap (241 * 2147483648) / 2147483648)) (bitsOf .and .i32 65533 (IntKind.i32.wrap (241 * 2147483648) / 2147483648)) = 65533) lose_byte a0
    rw [w1, w2] at hp
    exact hp
  by_cases h1 : byteAt s 0 < 128
  · exact key 240 (.inl ⟨rfl, h1⟩) (by rw [hf, if_pos h1])
  · refine key 241 (.inr ⟨rfl, h1⟩) ?_
    rw [hf, if_neg h1]
    rcases c with c | c
    · rw [if_pos c]
    · rw [if_neg (by omega), if_neg (by omega), if_neg (by omega), if_neg (by omega), if_neg (by omega), if_neg (by omega), if_neg (by omega), if_neg (by omega), if_neg (by omega)]

theorem tup_eq {s : ByteArray} {r n : Int} {x : Int × Int} (h : PureTo Tryd.prog 79 [.v (.string s)] (.tup [.v (.int .i32 r), .v (.int .i64 n)])) (h1 : r = x.1) (h2 : n = x.2) : PureTo Tryd.prog 79 [.v (.string s)] (.tup [.v (.int .i32 x.1), .v (.int .i64 x.2)]) := by
  rw [← h1, ← h2]; exact h

theorem slow_c {s : ByteArray} (hs : SZ s) (h : 0 < s.size) : PureTo Tryd.prog 79 [.v (.string s)] (.tup [.v (.int .i32 (dr s).1), .v (.int .i64 (dr s).2)]) := by
  have a0 := byteAt_lt s 0
  have a1 := byteAt_lt s 1
  have a2 := byteAt_lt s 2
  have a3 := byteAt_lt s 3
  have three : ∀ A lo hi : Int, Cls (byteAt s 0) A 3 lo hi → 0 ≤ A ∧ A < 240 → 128 ≤ lo → hi ≤ 191 → 224 ≤ byteAt s 0 ∧ byteAt s 0 < 240 → (∀ b c : Int, 128 ≤ b ∧ b ≤ 191 → 128 ≤ c ∧ c ≤ 191 → (byteAt s 0 % 16 * 4096 + b % 64 * 64 + c % 64 < 2048 ∨ (55296 ≤ byteAt s 0 % 16 * 4096 + b % 64 * 64 + c % 64 ∧ byteAt s 0 % 16 * 4096 + b % 64 * 64 + c % 64 ≤ 57343) ↔ b < lo ∨ hi < b)) →
      PureTo Tryd.prog 79 [.v (.string s)] (.tup [.v (.int .i32 (dr s).1), .v (.int .i64 (dr s).2)]) := by
    intro A lo hi c hA hlo hhi hr hb
    have hp := slow_more hs h c hA (by omega) hlo hhi
    have e := pt_3 (s := s) (i := 0) hr
    unfold dr
    rw [e]
    have hb := hb (byteAt s 1) (byteAt s 2)
    unfold p3 at *
    unfold goes
    simp only [Nat.zero_add] at *
    by_cases ok : (1 < s.size ∧ 128 ≤ byteAt s 1 ∧ byteAt s 1 ≤ 191) ∧ (2 < s.size ∧ 128 ≤ byteAt s 2 ∧ byteAt s 2 ≤ 191) ∧ 2048 ≤ byteAt s 0 % 16 * 4096 + byteAt s 1 % 64 * 64 + byteAt s 2 % 64 ∧ (byteAt s 0 % 16 * 4096 + byteAt s 1 % 64 * 64 + byteAt s 2 % 64 < 55296 ∨ 57343 < byteAt s 0 % 16 * 4096 + byteAt s 1 % 64 * 64 + byteAt s 2 % 64)
    · rw [if_pos ok, if_neg (by show ¬ (3 : Int) = 0; omega)]
      have hb := hb ok.1.2 ok.2.1.2
      have n1 : ¬ ((s.size : Int) < 3 ∨ byteAt s 1 < lo ∨ hi < byteAt s 1) := by omega
      have n2 : ¬ (byteAt s 2 < 128 ∨ 191 < byteAt s 2) := by omega
      rw [if_neg n1, if_neg (by omega), if_neg n2, if_pos (by omega), if_neg n1, if_neg (by omega), if_neg n2, if_pos (by omega)] at hp
      exact hp
    · rw [if_neg ok, if_pos rfl]
      by_cases n1 : (s.size : Int) < 3 ∨ byteAt s 1 < lo ∨ hi < byteAt s 1
      · rw [if_pos n1, if_pos n1] at hp; exact hp
      · have n2 : byteAt s 2 < 128 ∨ 191 < byteAt s 2 := by
          rcases Classical.em (128 ≤ byteAt s 2 ∧ byteAt s 2 ≤ 191) with h2 | h2
          · have hb := hb (by omega) h2
            omega
          · omega
        rw [if_neg n1, if_neg (by omega), if_pos n2, if_neg n1, if_neg (by omega), if_pos n2] at hp
        exact hp
  have four : ∀ A lo hi : Int, Cls (byteAt s 0) A 4 lo hi → 0 ≤ A ∧ A < 240 → 128 ≤ lo → hi ≤ 191 → 240 ≤ byteAt s 0 ∧ byteAt s 0 < 245 → (∀ b c d : Int, 128 ≤ b ∧ b ≤ 191 → 128 ≤ c ∧ c ≤ 191 → 128 ≤ d ∧ d ≤ 191 → (byteAt s 0 % 8 * 262144 + b % 64 * 4096 + c % 64 * 64 + d % 64 < 65536 ∨ 1114111 < byteAt s 0 % 8 * 262144 + b % 64 * 4096 + c % 64 * 64 + d % 64 ↔ b < lo ∨ hi < b)) →
      PureTo Tryd.prog 79 [.v (.string s)] (.tup [.v (.int .i32 (dr s).1), .v (.int .i64 (dr s).2)]) := by
    intro A lo hi c hA hlo hhi hr hb
    have hp := slow_more hs h c hA (by omega) hlo hhi
    have e := pt_4 (s := s) (i := 0) hr
    unfold dr
    rw [e]
    have hb := hb (byteAt s 1) (byteAt s 2) (byteAt s 3)
    unfold p4 at *
    unfold goes
    simp only [Nat.zero_add] at *
    by_cases ok : (1 < s.size ∧ 128 ≤ byteAt s 1 ∧ byteAt s 1 ≤ 191) ∧ (2 < s.size ∧ 128 ≤ byteAt s 2 ∧ byteAt s 2 ≤ 191) ∧ (3 < s.size ∧ 128 ≤ byteAt s 3 ∧ byteAt s 3 ≤ 191) ∧ 65536 ≤ byteAt s 0 % 8 * 262144 + byteAt s 1 % 64 * 4096 + byteAt s 2 % 64 * 64 + byteAt s 3 % 64 ∧ byteAt s 0 % 8 * 262144 + byteAt s 1 % 64 * 4096 + byteAt s 2 % 64 * 64 + byteAt s 3 % 64 ≤ 1114111
    · rw [if_pos ok, if_neg (by show ¬ (4 : Int) = 0; omega)]
      have hb := hb ok.1.2 ok.2.1.2 ok.2.2.1.2
      have n1 : ¬ ((s.size : Int) < 4 ∨ byteAt s 1 < lo ∨ hi < byteAt s 1) := by omega
      have n2 : ¬ (byteAt s 2 < 128 ∨ 191 < byteAt s 2) := by omega
      have n3 : ¬ (byteAt s 3 < 128 ∨ 191 < byteAt s 3) := by omega
      rw [if_neg n1, if_neg (by omega), if_neg n2, if_neg (by omega), if_neg n3, if_neg n1, if_neg (by omega), if_neg n2, if_neg (by omega), if_neg n3] at hp
      exact hp
    · rw [if_neg ok, if_pos rfl]
      by_cases n1 : (s.size : Int) < 4 ∨ byteAt s 1 < lo ∨ hi < byteAt s 1
      · rw [if_pos n1, if_pos n1] at hp; exact hp
      · by_cases n2 : byteAt s 2 < 128 ∨ 191 < byteAt s 2
        · rw [if_neg n1, if_neg (by omega), if_pos n2, if_neg n1, if_neg (by omega), if_pos n2] at hp
          exact hp
        · have n3 : byteAt s 3 < 128 ∨ 191 < byteAt s 3 := by
            rcases Classical.em (128 ≤ byteAt s 3 ∧ byteAt s 3 ≤ 191) with h2 | h2
            · have hb := hb (by omega) (by omega) h2
              omega
            · omega
          rw [if_neg n1, if_neg (by omega), if_neg n2, if_neg (by omega), if_pos n3, if_neg n1, if_neg (by omega), if_neg n2, if_neg (by omega), if_pos n3] at hp
          exact hp
  by_cases c1 : byteAt s 0 < 194 ∨ 245 ≤ byteAt s 0
  · have hp := slow_one hs h c1
    refine tup_eq hp ?_ ?_
    · unfold dr
      by_cases c2 : byteAt s 0 < 128
      · rw [pt_1 c2, if_pos c2, if_neg (by show ¬ (1 : Int) = 0; omega)]
      · rw [pt_0 (by omega), if_neg c2, if_pos rfl]
    · unfold dr
      by_cases c2 : byteAt s 0 < 128
      · rw [pt_1 c2, if_neg (by show ¬ (1 : Int) = 0; omega)]
      · rw [pt_0 (by omega), if_pos rfl]
  by_cases c2 : byteAt s 0 < 224
  · have hp := slow_more hs h (cls2 ⟨by omega, c2⟩) (by omega) (by omega) (by omega) (by omega)
    unfold dr
    rw [pt_2 ⟨by omega, c2⟩]
    unfold goes
    simp only [Nat.zero_add] at *
    by_cases ok : 1 < s.size ∧ 128 ≤ byteAt s 1 ∧ byteAt s 1 ≤ 191
    · have n1 : ¬ ((s.size : Int) < 2 ∨ byteAt s 1 < 128 ∨ 191 < byteAt s 1) := by omega
      rw [if_pos ok, if_neg (by show ¬ (2 : Int) = 0; omega)]
      rw [if_neg n1, if_pos (by omega), if_neg n1, if_pos (by omega)] at hp
      exact hp
    · have n1 : (s.size : Int) < 2 ∨ byteAt s 1 < 128 ∨ 191 < byteAt s 1 := by omega
      rw [if_neg ok, if_pos rfl]
      rw [if_pos n1, if_pos n1] at hp
      exact hp
  by_cases c3 : byteAt s 0 < 240
  · by_cases c4 : byteAt s 0 = 224
    · exact three _ _ _ (cls19 c4) (by omega) (by omega) (by omega) ⟨by omega, c3⟩ (fun b c hb hc => by rw [c4]; omega)
    · by_cases c5 : byteAt s 0 = 237
      · exact three _ _ _ (cls35 c5) (by omega) (by omega) (by omega) ⟨by omega, c3⟩ (fun b c hb hc => by rw [c5]; omega)
      · exact three _ _ _ (cls3 ⟨by omega, c3⟩ c5) (by omega) (by omega) (by omega) ⟨by omega, c3⟩ (fun b c hb hc => by omega)
  · by_cases c4 : byteAt s 0 = 240
    · exact four _ _ _ (cls52 c4) (by omega) (by omega) (by omega) ⟨by omega, by omega⟩ (fun b c d hb hc hd => by rw [c4]; omega)
    · by_cases c5 : byteAt s 0 = 244
      · exact four _ _ _ (cls68 c5) (by omega) (by omega) (by omega) ⟨by omega, by omega⟩ (fun b c d hb hc hd => by rw [c5]; omega)
      · exact four _ _ _ (cls4 ⟨by omega, by omega⟩) (by omega) (by omega) (by omega) ⟨by omega, by omega⟩ (fun b c d hb hc hd => by omega)

end Go.Proofs.Us

/- Texts: more contracts in the table. -/
set_option maxRecDepth 100000
namespace Go.Proofs.Us
open Go Go.Ev

def SG2 : SGT := (79, .p (sigS fun s => (.tup [.v (.int .i32 (dr s).1), .v (.int .i64 (dr s).2)], [SZ s, 0 < s.size]))) ::
  (61, .p (sigSI fun s i => (.tup [.v (.int .u32 (pt s i.toNat).1), .v (.int .i64 (pt s i.toNat).2)], [SZ s, 0 ≤ i ∧ i < (s.size : Int)]))) :: SG1

theorem sok2 : SigsOK Tryd.prog SG2 := by
  refine sigs_cons (sigs_cons sok1 ?_) ?_
  · exact sigSI_ok fun s i h => point_c h.1 h.2.1
  · exact sigS_ok fun s h => slow_c h.1 h.2.1

end Go.Proofs.Us

/- Texts: walks, written by the tool. -/
set_option maxRecDepth 100000
namespace Go.Proofs.Us
open Go Go.Ev

theorem rune_ev (s : ByteArray) (h : AllP [(!s.toList == (ByteArray.mk #[]).toList) = true → AllP [(0 : Int) ≤ (0 : Int) ∧ (0 : Int) < (↑s.size : Int)], (bif !s.toList == (ByteArray.mk #[]).toList then decide (byteAt s 0 < (128 : Int)) else false) = true → AllP [(0 : Int) ≤ (0 : Int) ∧ (0 : Int) < (↑s.size : Int), inR IntKind.i32 (byteAt s 0)], (!bif !s.toList == (ByteArray.mk #[]).toList then decide (byteAt s 0 < (128 : Int)) else false) = true → AllP [SZ s, 0 < s.size]]) : PureTo Tryd.prog 59 [.v (.string s)] (AV.tup [AV.v (.int .i32 (bif !bif !s.toList == (ByteArray.mk #[]).toList then decide (byteAt s 0 < (128 : Int)) else false then (dr s).fst else byteAt s 0)), AV.v (.int .i64 (bif !bif !s.toList == (ByteArray.mk #[]).toList then decide (byteAt s 0 < (128 : Int)) else false then (dr s).snd else (1 : Int)))]) :=
  evFnM_pure hm sok2 (fn := Tryd.f59) rfl rfl (ti := false) (m := Mode.parts [Mode.mix, Mode.mix]) (hs := [MHint.ops 1 [] [(2, 4)], MHint.br]) (c := _) (by kernel_rfl) (by kernel_rfl) h
def rune_1 (s : ByteArray) : Int := bif !bif !s.toList == (ByteArray.mk #[]).toList then decide (byteAt s 0 < (128 : Int)) else false then (dr s).fst else byteAt s 0
def rune_2 (s : ByteArray) : Int := bif !bif !s.toList == (ByteArray.mk #[]).toList then decide (byteAt s 0 < (128 : Int)) else false then (dr s).snd else (1 : Int)
theorem rune_pure (s : ByteArray) (h : AllP [(!s.toList == (ByteArray.mk #[]).toList) = true → AllP [(0 : Int) ≤ (0 : Int) ∧ (0 : Int) < (↑s.size : Int)], (bif !s.toList == (ByteArray.mk #[]).toList then decide (byteAt s 0 < (128 : Int)) else false) = true → AllP [(0 : Int) ≤ (0 : Int) ∧ (0 : Int) < (↑s.size : Int), inR IntKind.i32 (byteAt s 0)], (!bif !s.toList == (ByteArray.mk #[]).toList then decide (byteAt s 0 < (128 : Int)) else false) = true → AllP [SZ s, 0 < s.size]]) : PureTo Tryd.prog 59 [.v (.string s)] (AV.tup [AV.v (.int .i32 (rune_1 s)), AV.v (.int .i64 (rune_2 s))]) := rune_ev s h
/- DEAD part: region 1 op 1: refused: Op.call { callee := Callee.value (Operand.func 27), args := #[Operand.tmp 3], argTypes := #[29] }
  state { n := 13, fr := [(3, AV.v (.int .u16 u)), (2, AV.v (.bool false)), (0, AV.v (.int .u16 u))], hp := [], nx := 1 }
region 1 op 1: refused: Op.call { callee := Callee.value (Operand.func 27), args := #[Operand.tmp 3], argTypes := #[29] }
  state { n := 13, fr := [(3, AV.v (.int .u16 u)), (2, AV.v (.bool false)), (0, AV.v (.int .u16 u))], hp := [], nx := 1 } -/
-- 1 paths
theorem put1 (l : List Int) (fl n : Nat) (t : Bool) (u : Int) (h : AllP [(0 : Int) ≤ (8 : Int), n = l.length, n = l.length, (l ++ [u / (256 : Int) % (256 : Int), u % (256 : Int)]).length * 1 ≤ 140737488355328]) : SharedTo Tryd.prog 72 [.row 5 1 (.ints .u8 l) fl] [.row rsv 0 n n t, .v (.int .u16 u)] (AV.row 4294967296 0 (l ++ [u / (256 : Int) % (256 : Int), u % (256 : Int)]).length (l ++ [u / (256 : Int) % (256 : Int), u % (256 : Int)]).length false) [AObj.row 5 1 (.ints .u8 (l ++ [u / (256 : Int) % (256 : Int), u % (256 : Int)])) fl] :=
  evFn_shared hm sok2 (fn := Tryd.f72) rfl rfl (ti := false) (ex := []) (hs := []) (c := _) (by kernel_rfl) h
-- 1 paths
theorem rput1 (l : List Int) (fl n : Nat) (t : Bool) (u : Int) (h : AllP [(0 : Int) ≤ (8 : Int), n = l.length, n = l.length, (l ++ [u / (256 : Int) % (256 : Int), bitsOf BinOp.and IntKind.u16 u (255 : Int) % (256 : Int)]).length * 1 ≤ 140737488355328]) : SharedTo Tryd.prog 62 [.row 5 1 (.ints .u8 l) fl] [.row rsv 0 n n t, .v (.int .u16 u)] (AV.row 4294967296 0 (l ++ [u / (256 : Int) % (256 : Int), bitsOf BinOp.and IntKind.u16 u (255 : Int) % (256 : Int)]).length (l ++ [u / (256 : Int) % (256 : Int), bitsOf BinOp.and IntKind.u16 u (255 : Int) % (256 : Int)]).length false) [AObj.row 5 1 (.ints .u8 (l ++ [u / (256 : Int) % (256 : Int), bitsOf BinOp.and IntKind.u16 u (255 : Int) % (256 : Int)])) fl] :=
  evFn_shared hm sok2 (fn := Tryd.f62) rfl rfl (ti := false) (ex := []) (hs := []) (c := _) (by kernel_rfl) h
end Go.Proofs.Us

/- Texts: units written behind a row; more contracts. -/
set_option maxRecDepth 100000
namespace Go.Proofs.Us
open Go Go.Ev

theorem loop_length (s : ByteArray) : ∀ (f i : Nat) (r : List UInt8), i + f = s.size → (ByteArray.toList.loop s i r).length = f + r.length := by
  intro f
  induction f with
  | zero => intro i r h; rw [ByteArray.toList.loop, if_neg (by omega), List.length_reverse, Nat.zero_add]
  | succ f ih => intro i r h; rw [ByteArray.toList.loop, if_pos (by omega), ih (i + 1) _ (by omega), List.length_cons]; omega

theorem toList_length (s : ByteArray) : s.toList.length = s.size := by
  rw [ByteArray.toList, loop_length s s.size 0 [] (by omega), List.length_nil, Nat.add_zero]

theorem toList_empty : (ByteArray.mk #[]).toList = [] := List.eq_nil_of_length_eq_zero (toList_length _)

/-- a unit's bytes -/
def ub (u : Int) : List Int := [u / 256, u % 256]

def lim : Nat := 70368744177664

theorem put_c (l : List Int) (fl : Nat) (t : Bool) (u : Int) (hu : 0 ≤ u ∧ u ≤ 65535) (hl : l.length < lim) :
    SharedTo Tryd.prog 72 [.row 5 1 (.ints .u8 l) fl] [.row rsv 0 l.length l.length t, .v (.int .u16 u)] (.row rsv 0 (l.length + 2) (l.length + 2) false) [.row 5 1 (.ints .u8 (l ++ ub u)) fl] := by
  have e : u / 256 % 256 = u / 256 := by omega
  have := put1 l fl l.length t u (by
    unfold lim at hl
    refine ⟨by omega, rfl, rfl, ?_, trivial⟩
    simp; omega)
  rw [e] at this
  rw [List.length_append] at this
  exact this

theorem rput_c (l : List Int) (fl : Nat) (t : Bool) (u : Int) (hu : 0 ≤ u ∧ u ≤ 65535) (hl : l.length < lim) :
    SharedTo Tryd.prog 62 [.row 5 1 (.ints .u8 l) fl] [.row rsv 0 l.length l.length t, .v (.int .u16 u)] (.row rsv 0 (l.length + 2) (l.length + 2) false) [.row 5 1 (.ints .u8 (l ++ ub u)) fl] := by
  have e : u / 256 % 256 = u / 256 := by omega
  have e2 : bitsOf .and .u16 u 255 % 256 = u % 256 := by
    have : bitsOf .and .u16 u 255 = u % 256 := and_low (k := .u16) rfl (s := 8) hu.1 (by show u < 65536; omega) (by decide)
    rw [this]; omega
  have := rput1 l fl l.length t u (by
    unfold lim at hl
    refine ⟨by omega, rfl, rfl, ?_, trivial⟩
    simp; omega)
  rw [e, e2] at this
  rw [List.length_append] at this
  exact this

def sigPut : List AObj → List AV → Option (AV × List AObj × List Prop)
  | [.row 5 1 (.ints .u8 l) fl], [.row k 0 n ver _, .v (.int .u16 u)] =>
    some (.row rsv 0 (l.length + 2) (l.length + 2) false, [.row 5 1 (.ints .u8 (l ++ ub u)) fl], [k = rsv, n = l.length, ver = l.length, 0 ≤ u ∧ u ≤ 65535, l.length < lim])
  | _, _ => none

theorem rune_c {s : ByteArray} (hs : SZ s) (h : 0 < s.size) : PureTo Tryd.prog 59 [.v (.string s)] (.tup [.v (.int .i32 (dr s).1), .v (.int .i64 (dr s).2)]) := by
  have hne : (s.toList == (ByteArray.mk #[]).toList) = false := by
    rw [toList_empty]
    cases hl : s.toList with
    | nil => have := toList_length s; rw [hl] at this; simp at this; omega
    | cons => rfl
  have hp := rune_pure s (by
    simp only [hne, AllP, inR, Bool.not_false, cond_true]
    have := byteAt_lt s 0
    refine ⟨fun _ => ⟨by omega, trivial⟩, fun _ => ⟨by omega, by omega, trivial⟩, fun _ => ⟨hs, h, trivial⟩, trivial⟩)
  have w : rune_1 s = (dr s).1 ∧ rune_2 s = (dr s).2 := by
    unfold rune_1 rune_2
    simp only [hne, Bool.not_false, cond_true]
    by_cases c : byteAt s 0 < 128
    · have : dr s = (byteAt s 0, 1) := by
        unfold dr
        rw [pt_1 c, if_neg (by show ¬ (1 : Int) = 0; omega)]
      rw [this]
      simp only [c, decide_true, Bool.not_true, cond_false, and_self]
    · simp only [c, decide_false, Bool.not_false, cond_true, and_self]
  rw [w.1, w.2] at hp
  exact hp

theorem start_eq (u : Int) : rstart u = start u := by
  unfold rstart start
  by_cases h : u < 128
  · have h2 : ¬ u ≥ 128 := by omega
    simp only [h, h2, decide_true, decide_false, Bool.not_true, Bool.not_false, cond_true, cond_false]
    simp only [bif_or]
    generalize (bif decide (u ≥ 97) then decide (u ≤ 122) else false) = a
    generalize (bif decide (u ≥ 65) then decide (u ≤ 90) else false) = b
    cases a <;> cases b <;> cases (u == 36) <;> cases (u == 95) <;> rfl
  · have h2 : u ≥ 128 := by omega
    simp only [h, h2, decide_true, decide_false, Bool.not_true, Bool.not_false, cond_true, cond_false]

def SG3 : SGT := (72, .s [true, false] sigPut) :: (62, .s [true, false] sigPut) :: (59, .p (sigS fun s => (.tup [.v (.int .i32 (dr s).1), .v (.int .i64 (dr s).2)], [SZ s, 0 < s.size]))) ::
  (27, .p (sigU fun u => (.v (.bool (start u)), []))) :: (28, .p (sigU fun u => (.v (.bool (start u)), []))) :: SG2

theorem sok3 : SigsOK Tryd.prog SG3 := by
  refine sigs_s (sigs_s (sigs_cons (sigs_cons (sigs_cons sok2 ?_) ?_) ?_) ?_) ?_
  · exact sigU_ok fun u _ => by rw [← start_eq]; exact rstart_pure u
  · exact sigU_ok fun u _ => start_pure u
  · exact sigS_ok fun s h => rune_c h.1 h.2.1
  · intro os ys r os' c h hc
    unfold sigPut at h
    split at h
    · cases h
      obtain ⟨rfl, rfl, rfl, h1, h2, _⟩ := hc
      exact rput_c _ _ _ _ h1 h2
    · cases h
  · intro os ys r os' c h hc
    unfold sigPut at h
    split at h
    · cases h
      obtain ⟨rfl, rfl, rfl, h1, h2, _⟩ := hc
      exact put_c _ _ _ _ h1 h2
    · cases h

end Go.Proofs.Us

/- Texts: walks, written by the tool. -/
set_option maxRecDepth 100000
namespace Go.Proofs.Us
open Go Go.Ev
def rdecS0 (s : ByteArray) (x0 : Int) (l0 : List Int) (n0 : Nat) : AS := { n := 47, fr := [(0, AV.v (.string s)), (5, AV.row 3 0 l0.length l0.length false), (6, AV.v (.int .i64 x0))], hp := [(3, AObj.row 5 1 (.ints .u8 l0) n0)], nx := 4 }
def rdecX0 (s : ByteArray) (l1 : List Int) (n1 : Nat) : AS := { n := 47, fr := [(5, AV.row 3 0 l1.length l1.length false)], hp := [(3, AObj.row 5 1 (.ints .u8 l1) n1)], nx := 4 }
def rdecX0_1 (s : ByteArray) (x1 : Int) (x2 : Int) (s0 : ByteArray) : AS := { n := 47, fr := [(2, AV.v (.string s0)), (3, AV.v (.int .i64 x1)), (4, AV.v (.int .i64 x2))], hp := [], nx := 4 }
def wideS0 (s : ByteArray) (x0 : Int) (l0 : List Int) (n0 : Nat) : AS := { n := 23, fr := [(0, AV.v (.string s)), (3, AV.row 4 0 l0.length l0.length false), (10, AV.v (.int .i64 (↑s.size : Int))), (11, AV.v (.int .i64 x0))], hp := [(4, AObj.row 5 1 (.ints .u8 l0) n0)], nx := 5 }
def wideX0 (s : ByteArray) (l1 : List Int) (n1 : Nat) : AS := { n := 23, fr := [(3, AV.row 4 0 l1.length l1.length false)], hp := [(4, AObj.row 5 1 (.ints .u8 l1) n1)], nx := 5 }
def rwideS0 (s : ByteArray) (x0 : Int) (l0 : List Int) (n0 : Nat) : AS := { n := 19, fr := [(0, AV.v (.string s)), (3, AV.row 1 0 l0.length l0.length false), (4, AV.v (.int .i64 x0))], hp := [(1, AObj.row 5 1 (.ints .u8 l0) n0)], nx := 2 }
def rwideX0 (s : ByteArray) (l1 : List Int) (n1 : Nat) : AS := { n := 19, fr := [(3, AV.row 1 0 l1.length l1.length false)], hp := [(1, AObj.row 5 1 (.ints .u8 l1) n1)], nx := 2 }
def makeS0 (l : List Int) (t : Bool) (x0 : Int) (l0 : List Int) (n0 : Nat) : AS := { n := 22, fr := [(3, AV.row 4 0 l0.length l0.length false), (10, AV.sl 1 (.ints .u16 l) t), (11, AV.v (.int .i64 (↑l.length : Int))), (12, AV.v (.int .i64 x0))], hp := [(4, AObj.row 5 1 (.ints .u8 l0) n0)], nx := 5 }
def makeX0 (l : List Int) (t : Bool) (l1 : List Int) (n1 : Nat) : AS := { n := 22, fr := [(3, AV.row 4 0 l1.length l1.length false)], hp := [(4, AObj.row 5 1 (.ints .u8 l1) n1)], nx := 5 }
def rmakeS0 (l : List Int) (t : Bool) (x0 : Int) (l0 : List Int) (n0 : Nat) : AS := { n := 19, fr := [(0, AV.sl 1 (.ints .u16 l) t), (3, AV.row 1 0 l0.length l0.length false), (4, AV.v (.int .i64 x0))], hp := [(1, AObj.row 5 1 (.ints .u8 l0) n0)], nx := 2 }
def rmakeX0 (l : List Int) (t : Bool) (l1 : List Int) (n1 : Nat) : AS := { n := 19, fr := [(3, AV.row 1 0 l1.length l1.length false)], hp := [(1, AObj.row 5 1 (.ints .u8 l1) n1)], nx := 2 }
def unitsS0 (s : ByteArray) (x0 : Int) (l0 : List Int) (n0 : Nat) : AS := { n := 18, fr := [(0, AV.v (.string s)), (3, AV.row 1 0 l0.length l0.length false), (6, AV.v (.int .i64 (↑(ul s) : Int))), (7, AV.v (.int .i64 x0))], hp := [(1, AObj.row 29 1 (.ints .u16 l0) n0)], nx := 2 }
def unitsX0 (s : ByteArray) (l1 : List Int) (n1 : Nat) : AS := { n := 18, fr := [(3, AV.row 1 0 l1.length l1.length false)], hp := [(1, AObj.row 29 1 (.ints .u16 l1) n1)], nx := 2 }
def runitsS0 (s : ByteArray) (x0 : Int) (l0 : List Int) (n0 : Nat) : AS := { n := 18, fr := [(0, AV.v (.string s)), (3, AV.row 1 0 l0.length l0.length false), (4, AV.v (.int .i64 x0))], hp := [(1, AObj.row 29 1 (.ints .u16 l0) n0)], nx := 2 }
def runitsX0 (s : ByteArray) (l1 : List Int) (n1 : Nat) : AS := { n := 18, fr := [(3, AV.row 1 0 l1.length l1.length false)], hp := [(1, AObj.row 29 1 (.ints .u16 l1) n1)], nx := 2 }
theorem part_ev (u : Int) (h : AllP []) : PureTo Tryd.prog 29 [.v (.int .u16 u)] (AV.v (.bool (bif Us.start u then true else bif decide (u ≥ (48 : Int)) then decide (u ≤ (57 : Int)) else false))) :=
  evFnM_pure hm sok3 (fn := Tryd.f29) rfl rfl (ti := false) (m := Mode.same) (hs := [MHint.ops 1 [] [(2, 7), (5, 3)]]) (c := _) (by kernel_rfl) (by kernel_rfl) h
def part (u : Int) : Bool := bif Us.start u then true else bif decide (u ≥ (48 : Int)) then decide (u ≤ (57 : Int)) else false
theorem part_pure (u : Int) : PureTo Tryd.prog 29 [.v (.int .u16 u)] (AV.v (.bool (part u))) := part_ev u trivial
theorem rpart_ev (u : Int) (h : AllP []) : PureTo Tryd.prog 30 [.v (.int .u16 u)] (AV.v (.bool (bif Us.start u then true else bif decide (u ≥ (48 : Int)) then decide (u ≤ (57 : Int)) else false))) :=
  evFnM_pure hm sok3 (fn := Tryd.f30) rfl rfl (ti := false) (m := Mode.same) (hs := [MHint.ops 1 [] [(2, 7), (5, 3)]]) (c := _) (by kernel_rfl) (by kernel_rfl) h
def rpart (u : Int) : Bool := bif Us.start u then true else bif decide (u ≥ (48 : Int)) then decide (u ≤ (57 : Int)) else false
theorem rpart_pure (u : Int) : PureTo Tryd.prog 30 [.v (.int .u16 u)] (AV.v (.bool (rpart u))) := rpart_ev u trivial
-- 2 paths
theorem putr1 (l : List Int) (fl n : Nat) (t : Bool) (u : Int) (h : AllP [decide (u < (65536 : Int)) = true, 4294967296 = rsv, n = l.length, n = l.length, (0 : Int) ≤ u % (65536 : Int) ∧ u % (65536 : Int) ≤ (65535 : Int), l.length < lim]) : SharedTo Tryd.prog 60 [.row 5 1 (.ints .u8 l) fl] [.row rsv 0 n n t, .v (.int .i32 u)] (AV.row 4294967296 0 (l.length + 2) (l.length + 2) false) [AObj.row 5 1 (.ints .u8 (l ++ ub (u % (65536 : Int)))) (l ++ ub (u % (65536 : Int))).length] :=
  evFn_shared hm sok3 (fn := Tryd.f60) rfl rfl (ti := false) (ex := []) (hs := [CHint.ops 1 [(1, Hint.b true)]]) (c := _) (by kernel_rfl) h
theorem putr2 (l : List Int) (fl n : Nat) (t : Bool) (u : Int) (h : AllP [decide (u < (65536 : Int)) = false, inR IntKind.i32 (u - (65536 : Int)), (0 : Int) ≤ (10 : Int), 4294967296 = rsv, n = l.length, n = l.length, (0 : Int) ≤ bitsOf BinOp.or IntKind.u16 (55296 : Int) ((u - (65536 : Int)) / (1024 : Int) % (65536 : Int)) ∧ bitsOf BinOp.or IntKind.u16 (55296 : Int) ((u - (65536 : Int)) / (1024 : Int) % (65536 : Int)) ≤ (65535 : Int), l.length < lim, 4294967296 = rsv, l.length + 2 = (l ++ ub (bitsOf BinOp.or IntKind.u16 (55296 : Int) ((u - (65536 : Int)) / (1024 : Int) % (65536 : Int)))).length, l.length + 2 = (l ++ ub (bitsOf BinOp.or IntKind.u16 (55296 : Int) ((u - (65536 : Int)) / (1024 : Int) % (65536 : Int)))).length, (0 : Int) ≤ bitsOf BinOp.or IntKind.u16 (56320 : Int) (bitsOf BinOp.and IntKind.i32 (u - (65536 : Int)) (1023 : Int) % (65536 : Int)) ∧ bitsOf BinOp.or IntKind.u16 (56320 : Int) (bitsOf BinOp.and IntKind.i32 (u - (65536 : Int)) (1023 : Int) % (65536 : Int)) ≤ (65535 : Int), (l ++ ub (bitsOf BinOp.or IntKind.u16 (55296 : Int) ((u - (65536 : Int)) / (1024 : Int) % (65536 : Int)))).length < lim]) : SharedTo Tryd.prog 60 [.row 5 1 (.ints .u8 l) fl] [.row rsv 0 n n t, .v (.int .i32 u)] (AV.row 4294967296 0 ((l ++ ub (bitsOf BinOp.or IntKind.u16 (55296 : Int) ((u - (65536 : Int)) / (1024 : Int) % (65536 : Int)))).length + 2) ((l ++ ub (bitsOf BinOp.or IntKind.u16 (55296 : Int) ((u - (65536 : Int)) / (1024 : Int) % (65536 : Int)))).length + 2) false) [AObj.row 5 1 (.ints .u8 (l ++ ub (bitsOf BinOp.or IntKind.u16 (55296 : Int) ((u - (65536 : Int)) / (1024 : Int) % (65536 : Int))) ++ ub (bitsOf BinOp.or IntKind.u16 (56320 : Int) (bitsOf BinOp.and IntKind.i32 (u - (65536 : Int)) (1023 : Int) % (65536 : Int))))) (l ++ ub (bitsOf BinOp.or IntKind.u16 (55296 : Int) ((u - (65536 : Int)) / (1024 : Int) % (65536 : Int))) ++ ub (bitsOf BinOp.or IntKind.u16 (56320 : Int) (bitsOf BinOp.and IntKind.i32 (u - (65536 : Int)) (1023 : Int) % (65536 : Int)))).length] :=
  evFn_shared hm sok3 (fn := Tryd.f60) rfl rfl (ti := false) (ex := []) (hs := [CHint.ops 1 [(1, Hint.b false)]]) (c := _) (by kernel_rfl) h
-- 4 paths
theorem rdecL0_1 (s : ByteArray) (x0 : Int) (l0 : List Int) (n0 : Nat) (h : AllP [decide (x0 < (↑s.size : Int)) = true, SZ s, (0 : Int) ≤ x0 ∧ x0 < (↑s.size : Int), ((pt s x0.toNat).snd == (0 : Int)) = true]) : To Tryd.prog (loopAt Tryd.f15 0) ({ n := 47, fr := [(0, AV.v (.string s)), (5, AV.row 3 0 l0.length l0.length false), (6, AV.v (.int .i64 x0))], hp := [(3, AObj.row 5 1 (.ints .u8 l0) n0)], nx := 4 }) (Exit.ret) { n := 47, fr := [(2, AV.v (.string (ByteArray.mk #[]))), (3, AV.v (.int .i64 x0)), (4, AV.v (.int .i64 (10 : Int)))], hp := [], nx := 4 } :=
  evW_to hm sok3 (hs := [CHint.ops 3 [(3, Hint.b true)], CHint.ops 5 [(1, Hint.b true)]]) (slots := [2, 3, 4]) (keys := []) (nx := 4) (c := _) (by kernel_rfl) h
theorem rdecL0_2 (s : ByteArray) (x0 : Int) (l0 : List Int) (n0 : Nat) (h : AllP [decide (x0 < (↑s.size : Int)) = true, SZ s, (0 : Int) ≤ x0 ∧ x0 < (↑s.size : Int), ((pt s x0.toNat).snd == (0 : Int)) = false, inR IntKind.i64 (x0 + (pt s x0.toNat).snd), decide ((pt s x0.toNat).fst < (65536 : Int)) = true, 4294967296 = rsv, l0.length = l0.length, l0.length = l0.length, (0 : Int) ≤ (pt s x0.toNat).fst % (65536 : Int) ∧ (pt s x0.toNat).fst % (65536 : Int) ≤ (65535 : Int), l0.length < lim]) : To Tryd.prog (loopAt Tryd.f15 0) ({ n := 47, fr := [(0, AV.v (.string s)), (5, AV.row 3 0 l0.length l0.length false), (6, AV.v (.int .i64 x0))], hp := [(3, AObj.row 5 1 (.ints .u8 l0) n0)], nx := 4 }) (.normal) { n := 47, fr := [(0, AV.v (.string s)), (5, AV.row 3 0 (l0.length + 2) (l0.length + 2) false), (6, AV.v (.int .i64 (x0 + (pt s x0.toNat).snd)))], hp := [(3, AObj.row 5 1 (.ints .u8 (l0 ++ ub ((pt s x0.toNat).fst % (65536 : Int)))) (l0 ++ ub ((pt s x0.toNat).fst % (65536 : Int))).length)], nx := 4 } :=
  evW_to hm sok3 (hs := [CHint.ops 3 [(3, Hint.b true)], CHint.ops 5 [(1, Hint.b false)], CHint.ops 8 [(1, Hint.b true)]]) (slots := [0, 5, 6]) (keys := [3]) (nx := 4) (c := _) (by kernel_rfl) h
theorem rdecL0_3 (s : ByteArray) (x0 : Int) (l0 : List Int) (n0 : Nat) (h : AllP [decide (x0 < (↑s.size : Int)) = true, SZ s, (0 : Int) ≤ x0 ∧ x0 < (↑s.size : Int), ((pt s x0.toNat).snd == (0 : Int)) = false, inR IntKind.i64 (x0 + (pt s x0.toNat).snd), decide ((pt s x0.toNat).fst < (65536 : Int)) = false, (0 : Int) ≤ (10 : Int), inR IntKind.u32 ((55296 : Int) + ((pt s x0.toNat).fst - (65536 : Int)) % (4294967296 : Int) / (1024 : Int)), 4294967296 = rsv, l0.length = l0.length, l0.length = l0.length, (0 : Int) ≤ ((55296 : Int) + ((pt s x0.toNat).fst - (65536 : Int)) % (4294967296 : Int) / (1024 : Int)) % (65536 : Int) ∧ ((55296 : Int) + ((pt s x0.toNat).fst - (65536 : Int)) % (4294967296 : Int) / (1024 : Int)) % (65536 : Int) ≤ (65535 : Int), l0.length < lim, inR IntKind.u32 ((56320 : Int) + bitsOf BinOp.and IntKind.u32 (((pt s x0.toNat).fst - (65536 : Int)) % (4294967296 : Int)) (1023 : Int)), 4294967296 = rsv, l0.length + 2 = (l0 ++ ub (((55296 : Int) + ((pt s x0.toNat).fst - (65536 : Int)) % (4294967296 : Int) / (1024 : Int)) % (65536 : Int))).length, l0.length + 2 = (l0 ++ ub (((55296 : Int) + ((pt s x0.toNat).fst - (65536 : Int)) % (4294967296 : Int) / (1024 : Int)) % (65536 : Int))).length, (0 : Int) ≤ ((56320 : Int) + bitsOf BinOp.and IntKind.u32 (((pt s x0.toNat).fst - (65536 : Int)) % (4294967296 : Int)) (1023 : Int)) % (65536 : Int) ∧ ((56320 : Int) + bitsOf BinOp.and IntKind.u32 (((pt s x0.toNat).fst - (65536 : Int)) % (4294967296 : Int)) (1023 : Int)) % (65536 : Int) ≤ (65535 : Int), (l0 ++ ub (((55296 : Int) + ((pt s x0.toNat).fst - (65536 : Int)) % (4294967296 : Int) / (1024 : Int)) % (65536 : Int))).length < lim]) : To Tryd.prog (loopAt Tryd.f15 0) ({ n := 47, fr := [(0, AV.v (.string s)), (5, AV.row 3 0 l0.length l0.length false), (6, AV.v (.int .i64 x0))], hp := [(3, AObj.row 5 1 (.ints .u8 l0) n0)], nx := 4 }) (.normal) { n := 47, fr := [(0, AV.v (.string s)), (5, AV.row 3 0 ((l0 ++ ub (((55296 : Int) + ((pt s x0.toNat).fst - (65536 : Int)) % (4294967296 : Int) / (1024 : Int)) % (65536 : Int))).length + 2) ((l0 ++ ub (((55296 : Int) + ((pt s x0.toNat).fst - (65536 : Int)) % (4294967296 : Int) / (1024 : Int)) % (65536 : Int))).length + 2) false), (6, AV.v (.int .i64 (x0 + (pt s x0.toNat).snd)))], hp := [(3, AObj.row 5 1 (.ints .u8 (l0 ++ ub (((55296 : Int) + ((pt s x0.toNat).fst - (65536 : Int)) % (4294967296 : Int) / (1024 : Int)) % (65536 : Int)) ++ ub (((56320 : Int) + bitsOf BinOp.and IntKind.u32 (((pt s x0.toNat).fst - (65536 : Int)) % (4294967296 : Int)) (1023 : Int)) % (65536 : Int)))) (l0 ++ ub (((55296 : Int) + ((pt s x0.toNat).fst - (65536 : Int)) % (4294967296 : Int) / (1024 : Int)) % (65536 : Int)) ++ ub (((56320 : Int) + bitsOf BinOp.and IntKind.u32 (((pt s x0.toNat).fst - (65536 : Int)) % (4294967296 : Int)) (1023 : Int)) % (65536 : Int))).length)], nx := 4 } :=
  evW_to hm sok3 (hs := [CHint.ops 3 [(3, Hint.b true)], CHint.ops 5 [(1, Hint.b false)], CHint.ops 8 [(1, Hint.b false)], CHint.ops 10 [(1, Hint.wrap)]]) (slots := [0, 5, 6]) (keys := [3]) (nx := 4) (c := _) (by kernel_rfl) h
theorem rdecL0_4 (s : ByteArray) (x0 : Int) (l0 : List Int) (n0 : Nat) (h : AllP [decide (x0 < (↑s.size : Int)) = false]) : To Tryd.prog (loopAt Tryd.f15 0) ({ n := 47, fr := [(0, AV.v (.string s)), (5, AV.row 3 0 l0.length l0.length false), (6, AV.v (.int .i64 x0))], hp := [(3, AObj.row 5 1 (.ints .u8 l0) n0)], nx := 4 }) (Exit.exit 0) { n := 47, fr := [(5, AV.row 3 0 l0.length l0.length false)], hp := [(3, AObj.row 5 1 (.ints .u8 l0) n0)], nx := 4 } :=
  evW_to hm sok3 (hs := [CHint.ops 3 [(3, Hint.b false)]]) (slots := [5]) (keys := [3]) (nx := 4) (c := _) (by kernel_rfl) h
-- 2 paths
theorem rdecF1 (s : ByteArray) (x1 : Int) (x2 : Int) (l1 : List Int) (n1 : Nat) (s0 : ByteArray) (h : AllP [LoopTo Tryd.prog (loopAt Tryd.f15 0) { n := 47, fr := [(0, AV.v (.string s)), (5, AV.row 3 0 0 0 false), (6, AV.v (.int .i64 (0 : Int)))], hp := [(3, AObj.row 5 1 (.ints .u8 []) 0)], nx := 4 } (Exit.exit 0) { n := 47, fr := [(5, AV.row 3 0 l1.length l1.length false)], hp := [(3, AObj.row 5 1 (.ints .u8 l1) n1)], nx := 4 }, l1.length = l1.length, n1 ≤ l1.length]) : PureTo Tryd.prog 15 [.v (.string s)] (AV.tup [AV.v (.string (strOfInts l1)), AV.v (.int .i64 (0 : Int)), AV.v (.int .i64 (0 : Int))]) :=
  evFn_pure hm sok3 (fn := Tryd.f15) rfl rfl (ti := false) (hs := [CHint.ops 1 [(0, Hint.nil 5)], CHint.loop [0, 5, 6] [3] 4 (Exit.exit 0) { n := 47, fr := [(5, AV.row 3 0 l1.length l1.length false)], hp := [(3, AObj.row (5 : TypeId) 1 (.ints .u8 l1) n1)], nx := 4 }]) (c := _) (by kernel_rfl) h
theorem rdecF2 (s : ByteArray) (x1 : Int) (x2 : Int) (l1 : List Int) (n1 : Nat) (s0 : ByteArray) (h : AllP [LoopTo Tryd.prog (loopAt Tryd.f15 0) { n := 47, fr := [(0, AV.v (.string s)), (5, AV.row 3 0 0 0 false), (6, AV.v (.int .i64 (0 : Int)))], hp := [(3, AObj.row 5 1 (.ints .u8 []) 0)], nx := 4 } Exit.ret { n := 47, fr := [(2, AV.v (.string s0)), (3, AV.v (.int .i64 x1)), (4, AV.v (.int .i64 x2))], hp := [], nx := 4 }]) : PureTo Tryd.prog 15 [.v (.string s)] (AV.tup [AV.v (.string s0), AV.v (.int .i64 x1), AV.v (.int .i64 x2)]) :=
  evFn_pure hm sok3 (fn := Tryd.f15) rfl rfl (ti := false) (hs := [CHint.ops 1 [(0, Hint.nil 5)], CHint.loop [0, 5, 6] [3] 4 Exit.ret { n := 47, fr := [(2, AV.v (.string s0)), (3, AV.v (.int .i64 x1)), (4, AV.v (.int .i64 x2))], hp := [], nx := 4 }]) (c := _) (by kernel_rfl) h
-- 2 paths
theorem wideL0_1 (s : ByteArray) (x0 : Int) (l0 : List Int) (n0 : Nat) (h : AllP [decide (x0 < (↑s.size : Int)) = true, (0 : Int) ≤ x0 ∧ x0 < (↑s.size : Int), l0.length = l0.length, l0.length = l0.length, (l0 ++ [(0 : Int), byteAt s x0.toNat]).length * 1 ≤ 140737488355328, inR IntKind.i64 (x0 + (1 : Int))]) : To Tryd.prog (loopAt Tryd.f32 0) ({ n := 23, fr := [(0, AV.v (.string s)), (3, AV.row 4 0 l0.length l0.length false), (10, AV.v (.int .i64 (↑s.size : Int))), (11, AV.v (.int .i64 x0))], hp := [(4, AObj.row 5 1 (.ints .u8 l0) n0)], nx := 5 }) (.normal) { n := 23, fr := [(0, AV.v (.string s)), (3, AV.row 4 0 (l0 ++ [(0 : Int), byteAt s x0.toNat]).length (l0 ++ [(0 : Int), byteAt s x0.toNat]).length false), (10, AV.v (.int .i64 (↑s.size : Int))), (11, AV.v (.int .i64 (x0 + (1 : Int))))], hp := [(4, AObj.row 5 1 (.ints .u8 (l0 ++ [(0 : Int), byteAt s x0.toNat])) n0)], nx := 5 } :=
  evW_to hm sok3 (hs := [CHint.ops 3 [(0, Hint.b true)]]) (slots := [0, 3, 10, 11]) (keys := [4]) (nx := 5) (c := _) (by kernel_rfl) h
theorem wideL0_2 (s : ByteArray) (x0 : Int) (l0 : List Int) (n0 : Nat) (h : AllP [decide (x0 < (↑s.size : Int)) = false]) : To Tryd.prog (loopAt Tryd.f32 0) ({ n := 23, fr := [(0, AV.v (.string s)), (3, AV.row 4 0 l0.length l0.length false), (10, AV.v (.int .i64 (↑s.size : Int))), (11, AV.v (.int .i64 x0))], hp := [(4, AObj.row 5 1 (.ints .u8 l0) n0)], nx := 5 }) (Exit.exit 0) { n := 23, fr := [(3, AV.row 4 0 l0.length l0.length false)], hp := [(4, AObj.row 5 1 (.ints .u8 l0) n0)], nx := 5 } :=
  evW_to hm sok3 (hs := [CHint.ops 3 [(0, Hint.b false)]]) (slots := [3]) (keys := [4]) (nx := 5) (c := _) (by kernel_rfl) h
-- 1 paths
theorem wideF1 (s : ByteArray) (l1 : List Int) (n1 : Nat) (h : AllP [inR IntKind.i64 ((2 : Int) * (↑s.size : Int)), (0 : Int) ≤ (0 : Int) ∧ (0 : Int) ≤ (2 : Int) * (↑s.size : Int), (2 : Int) * (↑s.size : Int) * (1 : Int) ≤ (281474976710656 : Int) ∧ (2 : Int) * (↑s.size : Int) ≤ (9223372036854775807 : Int), LoopTo Tryd.prog (loopAt Tryd.f32 0) { n := 23, fr := [(0, AV.v (.string s)), (3, AV.row 4 0 0 0 false), (10, AV.v (.int .i64 (↑s.size : Int))), (11, AV.v (.int .i64 (0 : Int)))], hp := [(4, AObj.row 5 1 (.ints .u8 (List.replicate 0 (0 : Int))) 0)], nx := 5 } (Exit.exit 0) { n := 23, fr := [(3, AV.row 4 0 l1.length l1.length false)], hp := [(4, AObj.row 5 1 (.ints .u8 l1) n1)], nx := 5 }, l1.length = l1.length, n1 ≤ l1.length]) : PureTo Tryd.prog 32 [.v (.string s)] (AV.v (.string (strOfInts l1))) :=
  evFn_pure hm sok3 (fn := Tryd.f32) rfl rfl (ti := false) (hs := [CHint.loop [0, 3, 10, 11] [4] 5 (Exit.exit 0) { n := 23, fr := [(3, AV.row 4 0 l1.length l1.length false)], hp := [(4, AObj.row (5 : TypeId) 1 (.ints .u8 l1) n1)], nx := 5 }]) (c := _) (by kernel_rfl) h
-- 2 paths
theorem rwideL0_1 (s : ByteArray) (x0 : Int) (l0 : List Int) (n0 : Nat) (h : AllP [decide (x0 < (↑s.size : Int)) = true, (0 : Int) ≤ x0 ∧ x0 < (↑s.size : Int), inR IntKind.u16 (byteAt s x0.toNat), 4294967296 = rsv, l0.length = l0.length, l0.length = l0.length, (0 : Int) ≤ byteAt s x0.toNat ∧ byteAt s x0.toNat ≤ (65535 : Int), l0.length < lim, inR IntKind.i64 (x0 + (1 : Int))]) : To Tryd.prog (loopAt Tryd.f33 0) ({ n := 19, fr := [(0, AV.v (.string s)), (3, AV.row 1 0 l0.length l0.length false), (4, AV.v (.int .i64 x0))], hp := [(1, AObj.row 5 1 (.ints .u8 l0) n0)], nx := 2 }) (.normal) { n := 19, fr := [(0, AV.v (.string s)), (3, AV.row 1 0 (l0.length + 2) (l0.length + 2) false), (4, AV.v (.int .i64 (x0 + (1 : Int))))], hp := [(1, AObj.row 5 1 (.ints .u8 (l0 ++ ub (byteAt s x0.toNat))) (l0 ++ ub (byteAt s x0.toNat)).length)], nx := 2 } :=
  evW_to hm sok3 (hs := [CHint.ops 3 [(3, Hint.b true)]]) (slots := [0, 3, 4]) (keys := [1]) (nx := 2) (c := _) (by kernel_rfl) h
theorem rwideL0_2 (s : ByteArray) (x0 : Int) (l0 : List Int) (n0 : Nat) (h : AllP [decide (x0 < (↑s.size : Int)) = false]) : To Tryd.prog (loopAt Tryd.f33 0) ({ n := 19, fr := [(0, AV.v (.string s)), (3, AV.row 1 0 l0.length l0.length false), (4, AV.v (.int .i64 x0))], hp := [(1, AObj.row 5 1 (.ints .u8 l0) n0)], nx := 2 }) (Exit.exit 0) { n := 19, fr := [(3, AV.row 1 0 l0.length l0.length false)], hp := [(1, AObj.row 5 1 (.ints .u8 l0) n0)], nx := 2 } :=
  evW_to hm sok3 (hs := [CHint.ops 3 [(3, Hint.b false)]]) (slots := [3]) (keys := [1]) (nx := 2) (c := _) (by kernel_rfl) h
-- 1 paths
theorem rwideF1 (s : ByteArray) (l1 : List Int) (n1 : Nat) (h : AllP [LoopTo Tryd.prog (loopAt Tryd.f33 0) { n := 19, fr := [(0, AV.v (.string s)), (3, AV.row 1 0 0 0 false), (4, AV.v (.int .i64 (0 : Int)))], hp := [(1, AObj.row 5 1 (.ints .u8 []) 0)], nx := 2 } (Exit.exit 0) { n := 19, fr := [(3, AV.row 1 0 l1.length l1.length false)], hp := [(1, AObj.row 5 1 (.ints .u8 l1) n1)], nx := 2 }, l1.length = l1.length, n1 ≤ l1.length]) : PureTo Tryd.prog 33 [.v (.string s)] (AV.v (.string (strOfInts l1))) :=
  evFn_pure hm sok3 (fn := Tryd.f33) rfl rfl (ti := false) (hs := [CHint.ops 1 [(0, Hint.nil 5)], CHint.loop [0, 3, 4] [1] 2 (Exit.exit 0) { n := 19, fr := [(3, AV.row 1 0 l1.length l1.length false)], hp := [(1, AObj.row (5 : TypeId) 1 (.ints .u8 l1) n1)], nx := 2 }]) (c := _) (by kernel_rfl) h
-- 2 paths
theorem makeL0_1 (l : List Int) (t : Bool) (x0 : Int) (l0 : List Int) (n0 : Nat) (h : AllP [decide (x0 < (↑l.length : Int)) = true, (0 : Int) ≤ x0 ∧ x0 < (↑l.length : Int), 4294967296 = rsv, l0.length = l0.length, l0.length = l0.length, (0 : Int) ≤ l.getD x0.toNat (0 : Int) ∧ l.getD x0.toNat (0 : Int) ≤ (65535 : Int), l0.length < lim, inR IntKind.i64 (x0 + (1 : Int))]) : To Tryd.prog (loopAt Tryd.f34 0) ({ n := 22, fr := [(3, AV.row 4 0 l0.length l0.length false), (10, AV.sl 1 (.ints .u16 l) t), (11, AV.v (.int .i64 (↑l.length : Int))), (12, AV.v (.int .i64 x0))], hp := [(4, AObj.row 5 1 (.ints .u8 l0) n0)], nx := 5 }) (.normal) { n := 22, fr := [(3, AV.row 4 0 (l0.length + 2) (l0.length + 2) false), (10, AV.sl 1 (.ints .u16 l) t), (11, AV.v (.int .i64 (↑l.length : Int))), (12, AV.v (.int .i64 (x0 + (1 : Int))))], hp := [(4, AObj.row 5 1 (.ints .u8 (l0 ++ ub (l.getD x0.toNat (0 : Int)))) (l0 ++ ub (l.getD x0.toNat (0 : Int))).length)], nx := 5 } :=
  evW_to hm sok3 (hs := [CHint.ops 3 [(0, Hint.b true)]]) (slots := [3, 10, 11, 12]) (keys := [4]) (nx := 5) (c := _) (by kernel_rfl) h
theorem makeL0_2 (l : List Int) (t : Bool) (x0 : Int) (l0 : List Int) (n0 : Nat) (h : AllP [decide (x0 < (↑l.length : Int)) = false]) : To Tryd.prog (loopAt Tryd.f34 0) ({ n := 22, fr := [(3, AV.row 4 0 l0.length l0.length false), (10, AV.sl 1 (.ints .u16 l) t), (11, AV.v (.int .i64 (↑l.length : Int))), (12, AV.v (.int .i64 x0))], hp := [(4, AObj.row 5 1 (.ints .u8 l0) n0)], nx := 5 }) (Exit.exit 0) { n := 22, fr := [(3, AV.row 4 0 l0.length l0.length false)], hp := [(4, AObj.row 5 1 (.ints .u8 l0) n0)], nx := 5 } :=
  evW_to hm sok3 (hs := [CHint.ops 3 [(0, Hint.b false)]]) (slots := [3]) (keys := [4]) (nx := 5) (c := _) (by kernel_rfl) h
-- 1 paths
theorem makeF1 (l : List Int) (t : Bool) (l1 : List Int) (n1 : Nat) (h : AllP [inR IntKind.i64 ((2 : Int) * (↑l.length : Int)), (0 : Int) ≤ (0 : Int) ∧ (0 : Int) ≤ (2 : Int) * (↑l.length : Int), (2 : Int) * (↑l.length : Int) * (1 : Int) ≤ (281474976710656 : Int) ∧ (2 : Int) * (↑l.length : Int) ≤ (9223372036854775807 : Int), LoopTo Tryd.prog (loopAt Tryd.f34 0) { n := 22, fr := [(3, AV.row 4 0 0 0 false), (10, AV.sl 1 (.ints .u16 l) t), (11, AV.v (.int .i64 (↑l.length : Int))), (12, AV.v (.int .i64 (0 : Int)))], hp := [(4, AObj.row 5 1 (.ints .u8 (List.replicate 0 (0 : Int))) 0)], nx := 5 } (Exit.exit 0) { n := 22, fr := [(3, AV.row 4 0 l1.length l1.length false)], hp := [(4, AObj.row 5 1 (.ints .u8 l1) n1)], nx := 5 }, l1.length = l1.length, n1 ≤ l1.length]) : PureTo Tryd.prog 34 [.sl 1 (.ints .u16 l) t] (AV.v (.string (strOfInts l1))) :=
  evFn_pure hm sok3 (fn := Tryd.f34) rfl rfl (ti := false) (hs := [CHint.loop [3, 10, 11, 12] [4] 5 (Exit.exit 0) { n := 22, fr := [(3, AV.row 4 0 l1.length l1.length false)], hp := [(4, AObj.row (5 : TypeId) 1 (.ints .u8 l1) n1)], nx := 5 }]) (c := _) (by kernel_rfl) h
-- 2 paths
theorem rmakeL0_1 (l : List Int) (t : Bool) (x0 : Int) (l0 : List Int) (n0 : Nat) (h : AllP [decide (x0 < (↑l.length : Int)) = true, (0 : Int) ≤ x0 ∧ x0 < (↑l.length : Int), 4294967296 = rsv, l0.length = l0.length, l0.length = l0.length, (0 : Int) ≤ l.getD x0.toNat (0 : Int) ∧ l.getD x0.toNat (0 : Int) ≤ (65535 : Int), l0.length < lim, inR IntKind.i64 (x0 + (1 : Int))]) : To Tryd.prog (loopAt Tryd.f35 0) ({ n := 19, fr := [(0, AV.sl 1 (.ints .u16 l) t), (3, AV.row 1 0 l0.length l0.length false), (4, AV.v (.int .i64 x0))], hp := [(1, AObj.row 5 1 (.ints .u8 l0) n0)], nx := 2 }) (.normal) { n := 19, fr := [(0, AV.sl 1 (.ints .u16 l) t), (3, AV.row 1 0 (l0.length + 2) (l0.length + 2) false), (4, AV.v (.int .i64 (x0 + (1 : Int))))], hp := [(1, AObj.row 5 1 (.ints .u8 (l0 ++ ub (l.getD x0.toNat (0 : Int)))) (l0 ++ ub (l.getD x0.toNat (0 : Int))).length)], nx := 2 } :=
  evW_to hm sok3 (hs := [CHint.ops 3 [(3, Hint.b true)]]) (slots := [0, 3, 4]) (keys := [1]) (nx := 2) (c := _) (by kernel_rfl) h
theorem rmakeL0_2 (l : List Int) (t : Bool) (x0 : Int) (l0 : List Int) (n0 : Nat) (h : AllP [decide (x0 < (↑l.length : Int)) = false]) : To Tryd.prog (loopAt Tryd.f35 0) ({ n := 19, fr := [(0, AV.sl 1 (.ints .u16 l) t), (3, AV.row 1 0 l0.length l0.length false), (4, AV.v (.int .i64 x0))], hp := [(1, AObj.row 5 1 (.ints .u8 l0) n0)], nx := 2 }) (Exit.exit 0) { n := 19, fr := [(3, AV.row 1 0 l0.length l0.length false)], hp := [(1, AObj.row 5 1 (.ints .u8 l0) n0)], nx := 2 } :=
  evW_to hm sok3 (hs := [CHint.ops 3 [(3, Hint.b false)]]) (slots := [3]) (keys := [1]) (nx := 2) (c := _) (by kernel_rfl) h
-- 1 paths
theorem rmakeF1 (l : List Int) (t : Bool) (l1 : List Int) (n1 : Nat) (h : AllP [LoopTo Tryd.prog (loopAt Tryd.f35 0) { n := 19, fr := [(0, AV.sl 1 (.ints .u16 l) t), (3, AV.row 1 0 0 0 false), (4, AV.v (.int .i64 (0 : Int)))], hp := [(1, AObj.row 5 1 (.ints .u8 []) 0)], nx := 2 } (Exit.exit 0) { n := 19, fr := [(3, AV.row 1 0 l1.length l1.length false)], hp := [(1, AObj.row 5 1 (.ints .u8 l1) n1)], nx := 2 }, l1.length = l1.length, n1 ≤ l1.length]) : PureTo Tryd.prog 35 [.sl 1 (.ints .u16 l) t] (AV.v (.string (strOfInts l1))) :=
  evFn_pure hm sok3 (fn := Tryd.f35) rfl rfl (ti := false) (hs := [CHint.ops 1 [(0, Hint.nil 5)], CHint.loop [0, 3, 4] [1] 2 (Exit.exit 0) { n := 19, fr := [(3, AV.row 1 0 l1.length l1.length false)], hp := [(1, AObj.row (5 : TypeId) 1 (.ints .u8 l1) n1)], nx := 2 }]) (c := _) (by kernel_rfl) h
-- 2 paths
theorem unitsL0_1 (s : ByteArray) (x0 : Int) (l0 : List Int) (n0 : Nat) (h : AllP [decide (x0 < (↑(ul s) : Int)) = true, SZ s, (0 : Int) ≤ x0 ∧ x0 < (↑(ul s) : Int), l0.length = l0.length, l0.length = l0.length, (l0 ++ [un s x0.toNat]).length * 2 ≤ 140737488355328, inR IntKind.i64 (x0 + (1 : Int))]) : To Tryd.prog (loopAt Tryd.f37 0) ({ n := 18, fr := [(0, AV.v (.string s)), (3, AV.row 1 0 l0.length l0.length false), (6, AV.v (.int .i64 (↑(ul s) : Int))), (7, AV.v (.int .i64 x0))], hp := [(1, AObj.row 29 1 (.ints .u16 l0) n0)], nx := 2 }) (.normal) { n := 18, fr := [(0, AV.v (.string s)), (3, AV.row 1 0 (l0 ++ [un s x0.toNat]).length (l0 ++ [un s x0.toNat]).length false), (6, AV.v (.int .i64 (↑(ul s) : Int))), (7, AV.v (.int .i64 (x0 + (1 : Int))))], hp := [(1, AObj.row 29 1 (.ints .u16 (l0 ++ [un s x0.toNat])) n0)], nx := 2 } :=
  evW_to hm sok3 (hs := [CHint.ops 3 [(0, Hint.b true)]]) (slots := [0, 3, 6, 7]) (keys := [1]) (nx := 2) (c := _) (by kernel_rfl) h
theorem unitsL0_2 (s : ByteArray) (x0 : Int) (l0 : List Int) (n0 : Nat) (h : AllP [decide (x0 < (↑(ul s) : Int)) = false]) : To Tryd.prog (loopAt Tryd.f37 0) ({ n := 18, fr := [(0, AV.v (.string s)), (3, AV.row 1 0 l0.length l0.length false), (6, AV.v (.int .i64 (↑(ul s) : Int))), (7, AV.v (.int .i64 x0))], hp := [(1, AObj.row 29 1 (.ints .u16 l0) n0)], nx := 2 }) (Exit.exit 0) { n := 18, fr := [(3, AV.row 1 0 l0.length l0.length false)], hp := [(1, AObj.row 29 1 (.ints .u16 l0) n0)], nx := 2 } :=
  evW_to hm sok3 (hs := [CHint.ops 3 [(0, Hint.b false)]]) (slots := [3]) (keys := [1]) (nx := 2) (c := _) (by kernel_rfl) h
-- 1 paths
theorem unitsF1 (s : ByteArray) (l1 : List Int) (n1 : Nat) (h : AllP [SZ s, LoopTo Tryd.prog (loopAt Tryd.f37 0) { n := 18, fr := [(0, AV.v (.string s)), (3, AV.row 1 0 0 0 false), (6, AV.v (.int .i64 (↑(ul s) : Int))), (7, AV.v (.int .i64 (0 : Int)))], hp := [(1, AObj.row 29 1 (.ints .u16 []) 0)], nx := 2 } (Exit.exit 0) { n := 18, fr := [(3, AV.row 1 0 l1.length l1.length false)], hp := [(1, AObj.row 29 1 (.ints .u16 l1) n1)], nx := 2 }, l1.length = l1.length, n1 ≤ l1.length]) : PureTo Tryd.prog 37 [.v (.string s)] (AV.sl 1 (.ints .u16 l1) false) :=
  evFn_pure hm sok3 (fn := Tryd.f37) rfl rfl (ti := false) (hs := [CHint.ops 1 [(0, Hint.nil 29)], CHint.loop [0, 3, 6, 7] [1] 2 (Exit.exit 0) { n := 18, fr := [(3, AV.row 1 0 l1.length l1.length false)], hp := [(1, AObj.row (29 : TypeId) 1 (.ints .u16 l1) n1)], nx := 2 }]) (c := _) (by kernel_rfl) h
-- 2 paths
theorem runitsL0_1 (s : ByteArray) (x0 : Int) (l0 : List Int) (n0 : Nat) (h : AllP [SZ s, decide (x0 < (↑(ul s) : Int)) = true, SZ s, (0 : Int) ≤ x0 ∧ x0 < (↑(ul s) : Int), l0.length = l0.length, l0.length = l0.length, (l0 ++ [un s x0.toNat]).length * 2 ≤ 140737488355328, inR IntKind.i64 (x0 + (1 : Int))]) : To Tryd.prog (loopAt Tryd.f38 0) ({ n := 18, fr := [(0, AV.v (.string s)), (3, AV.row 1 0 l0.length l0.length false), (4, AV.v (.int .i64 x0))], hp := [(1, AObj.row 29 1 (.ints .u16 l0) n0)], nx := 2 }) (.normal) { n := 18, fr := [(0, AV.v (.string s)), (3, AV.row 1 0 (l0 ++ [un s x0.toNat]).length (l0 ++ [un s x0.toNat]).length false), (4, AV.v (.int .i64 (x0 + (1 : Int))))], hp := [(1, AObj.row 29 1 (.ints .u16 (l0 ++ [un s x0.toNat])) n0)], nx := 2 } :=
  evW_to hm sok3 (hs := [CHint.ops 3 [(3, Hint.b true)]]) (slots := [0, 3, 4]) (keys := [1]) (nx := 2) (c := _) (by kernel_rfl) h
theorem runitsL0_2 (s : ByteArray) (x0 : Int) (l0 : List Int) (n0 : Nat) (h : AllP [SZ s, decide (x0 < (↑(ul s) : Int)) = false]) : To Tryd.prog (loopAt Tryd.f38 0) ({ n := 18, fr := [(0, AV.v (.string s)), (3, AV.row 1 0 l0.length l0.length false), (4, AV.v (.int .i64 x0))], hp := [(1, AObj.row 29 1 (.ints .u16 l0) n0)], nx := 2 }) (Exit.exit 0) { n := 18, fr := [(3, AV.row 1 0 l0.length l0.length false)], hp := [(1, AObj.row 29 1 (.ints .u16 l0) n0)], nx := 2 } :=
  evW_to hm sok3 (hs := [CHint.ops 3 [(3, Hint.b false)]]) (slots := [3]) (keys := [1]) (nx := 2) (c := _) (by kernel_rfl) h
-- 1 paths
theorem runitsF1 (s : ByteArray) (l1 : List Int) (n1 : Nat) (h : AllP [LoopTo Tryd.prog (loopAt Tryd.f38 0) { n := 18, fr := [(0, AV.v (.string s)), (3, AV.row 1 0 0 0 false), (4, AV.v (.int .i64 (0 : Int)))], hp := [(1, AObj.row 29 1 (.ints .u16 []) 0)], nx := 2 } (Exit.exit 0) { n := 18, fr := [(3, AV.row 1 0 l1.length l1.length false)], hp := [(1, AObj.row 29 1 (.ints .u16 l1) n1)], nx := 2 }, l1.length = l1.length, n1 ≤ l1.length]) : PureTo Tryd.prog 38 [.v (.string s)] (AV.sl 1 (.ints .u16 l1) false) :=
  evFn_pure hm sok3 (fn := Tryd.f38) rfl rfl (ti := false) (hs := [CHint.ops 1 [(0, Hint.nil 29)], CHint.loop [0, 3, 4] [1] 2 (Exit.exit 0) { n := 18, fr := [(3, AV.row 1 0 l1.length l1.length false)], hp := [(1, AObj.row (29 : TypeId) 1 (.ints .u16 l1) n1)], nx := 2 }]) (c := _) (by kernel_rfl) h
end Go.Proofs.Us

/- Texts: loops that count; wide texts, texts of units, units of texts. -/
set_option maxRecDepth 100000
namespace Go.Proofs.Us
open Go Go.Ev

def cat (f : Nat → List Int) : Nat → List Int
  | 0 => []
  | n + 1 => cat f n ++ f n

theorem cat_congr {f g : Nat → List Int} : ∀ {n : Nat}, (∀ i, i < n → f i = g i) → cat f n = cat g n
  | 0, _ => rfl
  | n + 1, h => by simp only [cat]; rw [cat_congr fun i hi => h i (by omega), h n (by omega)]

theorem cat_length {f : Nat → List Int} {k : Nat} (h : ∀ i, (f i).length = k) : ∀ n, (cat f n).length = n * k
  | 0 => by simp [cat]
  | n + 1 => by simp only [cat, List.length_append, h, cat_length h n]; rw [Nat.succ_mul]

/-- a loop that counts up to n and lays f i behind a row -/
theorem count_loop {P : Program} {c : Code} {S : Nat → List Int → Nat → AS} {X : List Int → Nat → AS} {e : Exit} (f : Nat → List Int) (n : Nat) (he : e ≠ .normal)
    (step : ∀ i l n0, i < n → l = cat f i → n0 ≤ l.length → ∃ n1, n1 ≤ (l ++ f i).length ∧ To P c (S i l n0) .normal (S (i + 1) (l ++ f i) n1))
    (done : ∀ n0, To P c (S n (cat f n) n0) e (X (cat f n) n0)) : ∃ n1, n1 ≤ (cat f n).length ∧ LoopTo P c (S 0 [] 0) e (X (cat f n) n1) := by
  have go : ∀ k i n0, i + k = n → n0 ≤ (cat f i).length → ∃ n1, n1 ≤ (cat f n).length ∧ LoopTo P c (S i (cat f i) n0) e (X (cat f n) n1) := by
    intro k
    induction k with
    | zero =>
      intro i n0 h h0
      obtain rfl : i = n := by omega
      exact ⟨n0, h0, .done he (done n0)⟩
    | succ k ih =>
      intro i n0 h h0
      obtain ⟨n1, h1, hs⟩ := step i _ n0 (by omega) rfl h0
      obtain ⟨n2, h2, hl⟩ := ih (i + 1) n1 (by omega) h1
      exact ⟨n2, h2, .step hs hl⟩
  exact go n 0 0 (by omega) (Nat.zero_le _)

/-- a text of which twice as much fits well -/
def SM (s : ByteArray) : Prop := s.size < 4294967296
theorem SM.sz {s : ByteArray} (h : SM s) : SZ s := by unfold SM at h; unfold SZ; omega

def wideL (s : ByteArray) : List Int := cat (fun i => ub (byteAt s i)) s.size
theorem ub_byte (s : ByteArray) (i : Nat) : ub (byteAt s i) = [0, byteAt s i] := by
  have := byteAt_lt s i
  unfold ub
  rw [show byteAt s i / 256 = 0 by omega, show byteAt s i % 256 = byteAt s i by omega]
theorem ub_length (u : Int) : (ub u).length = 2 := rfl
theorem wideL_length (s : ByteArray) (n : Nat) : (cat (fun i => ub (byteAt s i)) n).length = n * 2 := cat_length (k := 2) (fun _ => rfl) n

theorem wide_c {s : ByteArray} (hs : SM s) : PureTo Tryd.prog 32 [.v (.string s)] (.v (.string (strOfInts (wideL s)))) := by
  unfold SM at hs
  obtain ⟨n1, h1, hl⟩ := count_loop (P := Tryd.prog) (c := loopAt Tryd.f32 0) (S := fun i l n0 => wideS0 s i l n0) (X := fun l n1 => wideX0 s l n1) (e := .exit 0) (fun i => ub (byteAt s i)) s.size (by simp)
    (fun i l n0 hi hl h0 => by
      have hlen : l.length = i * 2 := by rw [hl]; exact wideL_length s i
      refine ⟨n0, by rw [List.length_append]; omega, ?_⟩
      rw [ub_byte]
      exact wideL0_1 s i l n0 ⟨by simpa using hi, ⟨by omega, by omega⟩, rfl, rfl, by simp; omega, by simp only [inR]; omega, trivial⟩)
    (fun n0 => wideL0_2 s s.size _ n0 ⟨by simp, trivial⟩)
  exact wideF1 s _ n1 ⟨by simp only [inR]; omega, by omega, by omega, hl, rfl, h1, trivial⟩

theorem rwide_c {s : ByteArray} (hs : SM s) : PureTo Tryd.prog 33 [.v (.string s)] (.v (.string (strOfInts (wideL s)))) := by
  unfold SM at hs
  obtain ⟨n1, h1, hl⟩ := count_loop (P := Tryd.prog) (c := loopAt Tryd.f33 0) (S := fun i l n0 => rwideS0 s i l n0) (X := fun l n1 => rwideX0 s l n1) (e := .exit 0) (fun i => ub (byteAt s i)) s.size (by simp)
    (fun i l n0 hi hl h0 => by
      have hlen : l.length = i * 2 := by rw [hl]; exact wideL_length s i
      have hb := byteAt_lt s i
      have e : l.length + 2 = (l ++ ub (byteAt s i)).length := by rw [List.length_append]; rfl
      have := rwideL0_1 s i l n0 ⟨by simpa using hi, ⟨by omega, by omega⟩, by simp only [inR, Int.toNat_natCast]; omega, rfl, rfl, rfl, by simp only [Int.toNat_natCast]; omega, by unfold lim; omega, by simp only [inR]; omega, trivial⟩
      simp only [Int.toNat_natCast] at this
      rw [e] at this
      exact ⟨_, Nat.le_refl _, this⟩)
    (fun n0 => rwideL0_2 s s.size _ n0 ⟨by simp, trivial⟩)
  exact rwideF1 s _ n1 ⟨hl, rfl, h1, trivial⟩

/-- all units of a list -/
def U16 (l : List Int) : Prop := ∀ x, x ∈ l → 0 ≤ x ∧ x ≤ 65535
def makeL (l : List Int) : List Int := cat (fun i => ub (l.getD i 0)) l.length
theorem makeL_length (l : List Int) (n : Nat) : (cat (fun i => ub (l.getD i 0)) n).length = n * 2 := cat_length (k := 2) (fun _ => rfl) n
theorem U16.get {l : List Int} (h : U16 l) {i : Nat} (hi : i < l.length) : 0 ≤ l.getD i 0 ∧ l.getD i 0 ≤ 65535 := by
  rw [List.getD_eq_getElem?_getD, List.getElem?_eq_getElem hi]
  exact h _ (List.getElem_mem hi)

theorem make_c {l : List Int} {t : Bool} (hu : U16 l) (hs : l.length < 4294967296) : PureTo Tryd.prog 34 [.sl 1 (.ints .u16 l) t] (.v (.string (strOfInts (makeL l)))) := by
  obtain ⟨n1, h1, hl⟩ := count_loop (P := Tryd.prog) (c := loopAt Tryd.f34 0) (S := fun i r n0 => makeS0 l t i r n0) (X := fun r n1 => makeX0 l t r n1) (e := .exit 0) (fun i => ub (l.getD i 0)) l.length (by simp)
    (fun i r n0 hi hr h0 => by
      have hlen : r.length = i * 2 := by rw [hr]; exact makeL_length l i
      have hb := hu.get hi
      have e : r.length + 2 = (r ++ ub (l.getD i 0)).length := by rw [List.length_append]; rfl
      have := makeL0_1 l t i r n0 ⟨by simpa using hi, ⟨by omega, by omega⟩, rfl, rfl, rfl, by simp only [Int.toNat_natCast]; omega, by unfold lim; omega, by simp only [inR]; omega, trivial⟩
      simp only [Int.toNat_natCast] at this
      rw [e] at this
      exact ⟨_, Nat.le_refl _, this⟩)
    (fun n0 => makeL0_2 l t l.length _ n0 ⟨by simp, trivial⟩)
  exact makeF1 l t _ n1 ⟨by simp only [inR]; omega, by omega, by omega, hl, rfl, h1, trivial⟩

theorem rmake_c {l : List Int} {t : Bool} (hu : U16 l) (hs : l.length < 4294967296) : PureTo Tryd.prog 35 [.sl 1 (.ints .u16 l) t] (.v (.string (strOfInts (makeL l)))) := by
  obtain ⟨n1, h1, hl⟩ := count_loop (P := Tryd.prog) (c := loopAt Tryd.f35 0) (S := fun i r n0 => rmakeS0 l t i r n0) (X := fun r n1 => rmakeX0 l t r n1) (e := .exit 0) (fun i => ub (l.getD i 0)) l.length (by simp)
    (fun i r n0 hi hr h0 => by
      have hlen : r.length = i * 2 := by rw [hr]; exact makeL_length l i
      have hb := hu.get hi
      have e : r.length + 2 = (r ++ ub (l.getD i 0)).length := by rw [List.length_append]; rfl
      have := rmakeL0_1 l t i r n0 ⟨by simpa using hi, ⟨by omega, by omega⟩, rfl, rfl, rfl, by simp only [Int.toNat_natCast]; omega, by unfold lim; omega, by simp only [inR]; omega, trivial⟩
      simp only [Int.toNat_natCast] at this
      rw [e] at this
      exact ⟨_, Nat.le_refl _, this⟩)
    (fun n0 => rmakeL0_2 l t l.length _ n0 ⟨by simp, trivial⟩)
  exact rmakeF1 l t _ n1 ⟨hl, rfl, h1, trivial⟩

def unitsL (s : ByteArray) : List Int := cat (fun i => [un s i]) (ul s)
theorem unitsL_length (s : ByteArray) (n : Nat) : (cat (fun i => [un s i]) n).length = n := by rw [cat_length (k := 1) (fun _ => rfl), Nat.mul_one]

theorem units_c {s : ByteArray} (hs : SM s) : PureTo Tryd.prog 37 [.v (.string s)] (.sl 1 (.ints .u16 (unitsL s)) false) := by
  have hz := hs.sz
  unfold SM at hs
  obtain ⟨n1, h1, hl⟩ := count_loop (P := Tryd.prog) (c := loopAt Tryd.f37 0) (S := fun i r n0 => unitsS0 s i r n0) (X := fun r n1 => unitsX0 s r n1) (e := .exit 0) (fun i => [un s i]) (ul s) (by simp)
    (fun i r n0 hi hr h0 => by
      have hlen : r.length = i := by rw [hr]; exact unitsL_length s i
      have hu : ul s ≤ s.size := by unfold ul; omega
      refine ⟨n0, by rw [List.length_append]; omega, ?_⟩
      exact unitsL0_1 s i r n0 ⟨by simpa using hi, hz, ⟨by omega, by omega⟩, rfl, rfl, by simp; omega, by simp only [inR]; omega, trivial⟩)
    (fun n0 => unitsL0_2 s (ul s) _ n0 ⟨by simp, trivial⟩)
  exact unitsF1 s _ n1 ⟨hz, hl, rfl, h1, trivial⟩

theorem runits_c {s : ByteArray} (hs : SM s) : PureTo Tryd.prog 38 [.v (.string s)] (.sl 1 (.ints .u16 (unitsL s)) false) := by
  have hz := hs.sz
  unfold SM at hs
  obtain ⟨n1, h1, hl⟩ := count_loop (P := Tryd.prog) (c := loopAt Tryd.f38 0) (S := fun i r n0 => runitsS0 s i r n0) (X := fun r n1 => runitsX0 s r n1) (e := .exit 0) (fun i => [un s i]) (ul s) (by simp)
    (fun i r n0 hi hr h0 => by
      have hlen : r.length = i := by rw [hr]; exact unitsL_length s i
      have hu : ul s ≤ s.size := by unfold ul; omega
      refine ⟨n0, by rw [List.length_append]; omega, ?_⟩
      exact runitsL0_1 s i r n0 ⟨hz, by simpa using hi, hz, ⟨by omega, by omega⟩, rfl, rfl, by simp; omega, by simp only [inR]; omega, trivial⟩)
    (fun n0 => runitsL0_2 s (ul s) _ n0 ⟨hz, by simp, trivial⟩)
  exact runitsF1 s _ n1 ⟨hl, rfl, h1, trivial⟩

end Go.Proofs.Us

/- Texts: code points written as units. -/
set_option maxRecDepth 100000
namespace Go.Proofs.Us
open Go Go.Ev

/-- of small results the sign makes no difference -/
theorem and_i32 {x y : Int} (h : 0 ≤ bitsOf .and .u32 x y ∧ bitsOf .and .u32 x y < 2147483648) : bitsOf .and .i32 x y = bitsOf .and .u32 x y := by
  have e1 : bitsOf .and .i32 x y = IntKind.i32.wrap ((BitVec.ofInt 32 x &&& BitVec.ofInt 32 y).toNat : Int) := rfl
  have e2 : bitsOf .and .u32 x y = IntKind.u32.wrap ((BitVec.ofInt 32 x &&& BitVec.ofInt 32 y).toNat : Int) := rfl
  have hlt := (BitVec.ofInt 32 x &&& BitVec.ofInt 32 y).isLt
  have h3 : IntKind.u32.wrap ((BitVec.ofInt 32 x &&& BitVec.ofInt 32 y).toNat : Int) = ((BitVec.ofInt 32 x &&& BitVec.ofInt 32 y).toNat : Int) := wrap_inR (k := .u32) (by simp only [inR]; omega)
  rw [e2, h3] at h
  rw [e1, e2, h3]
  exact wrap_inR (k := .i32) (by simp only [inR]; omega)

/-- a code point in units -/
def enc16 (p : Int) : List Int := if p < 65536 then ub p else ub (55296 + (p - 65536) / 1024) ++ ub (56320 + (p - 65536) % 1024)
theorem enc16_length (p : Int) : (enc16 p).length = if p < 65536 then 2 else 4 := by unfold enc16; split <;> rfl

theorem putr_c (l : List Int) (fl : Nat) (t : Bool) (u : Int) (hu : 0 ≤ u ∧ u ≤ 1114111) (hl : l.length < lim - 2) :
    SharedTo Tryd.prog 60 [.row 5 1 (.ints .u8 l) fl] [.row rsv 0 l.length l.length t, .v (.int .i32 u)] (.row rsv 0 (l ++ enc16 u).length (l ++ enc16 u).length false) [.row 5 1 (.ints .u8 (l ++ enc16 u)) (l ++ enc16 u).length] := by
  unfold enc16
  unfold lim at hl
  by_cases c : u < 65536
  · rw [if_pos c]
    have e : u % 65536 = u := by omega
    have e2 : l.length + 2 = (l ++ ub u).length := by rw [List.length_append]; rfl
    have := putr1 l fl l.length t u ⟨by simpa using c, rfl, rfl, rfl, by omega, by unfold lim; omega, trivial⟩
    rw [e, e2] at this
    exact this
  · rw [if_neg c]
    have e1 : (u - 65536) / 1024 % 65536 = (u - 65536) / 1024 := by omega
    have a1 : bitsOf .and .u32 (u - 65536) 1023 = (u - 65536) % 1024 := and_low (k := .u32) rfl (s := 10) (by omega) (by show u - 65536 < 4294967296; omega) (by decide)
    have a2 : bitsOf .and .i32 (u - 65536) 1023 = (u - 65536) % 1024 := by rw [and_i32 (by omega), a1]
    have e2 : (u - 65536) % 1024 % 65536 = (u - 65536) % 1024 := by omega
    have o1 : bitsOf .or .u16 55296 ((u - 65536) / 1024) = 55296 + (u - 65536) / 1024 := by
      have := (or_add (k := .u16) rfl (x := (u - 65536) / 1024) (y := 55296) (s := 10) (by omega) (by omega) (by omega) (by decide) (by omega) (by decide)).2
      omega
    have o2 : bitsOf .or .u16 56320 ((u - 65536) % 1024) = 56320 + (u - 65536) % 1024 := by
      have := (or_add (k := .u16) rfl (x := (u - 65536) % 1024) (y := 56320) (s := 10) (by omega) (by omega) (by omega) (by decide) (by omega) (by decide)).2
      omega
    have this := putr2 l fl l.length t u
    rw [a2, e1, e2, o1, o2] at this
    have e3 : l.length + 2 = (l ++ ub (55296 + (u - 65536) / 1024)).length := by rw [List.length_append]; rfl
    have this := this ⟨by simpa using c, by simp only [inR]; omega, by omega, rfl, rfl, rfl, by omega, by unfold lim; omega, rfl, e3, e3, by omega, by rw [List.length_append]; show l.length + 2 < lim; unfold lim; omega, trivial⟩
    have e4 : (l ++ ub (55296 + (u - 65536) / 1024)).length + 2 = (l ++ (ub (55296 + (u - 65536) / 1024) ++ ub (56320 + (u - 65536) % 1024))).length := by simp [ub]
    rw [e4, List.append_assoc] at this
    exact this

def sigPutR : List AObj → List AV → Option (AV × List AObj × List Prop)
  | [.row 5 1 (.ints .u8 l) _], [.row k 0 n ver _, .v (.int .i32 u)] =>
    some (.row rsv 0 (l ++ enc16 u).length (l ++ enc16 u).length false, [.row 5 1 (.ints .u8 (l ++ enc16 u)) (l ++ enc16 u).length], [k = rsv, n = l.length, ver = l.length, 0 ≤ u ∧ u ≤ 1114111, l.length < lim - 2])
  | _, _ => none

def sigL (f : List Int → AV × List Prop) : List AV → Option (AV × List Prop)
  | [.sl 1 (.ints .u16 l) _] => some (f l)
  | _ => none
theorem sigL_ok {P : Program} {i : FuncId} {f : List Int → AV × List Prop} (h : ∀ l t, AllP (f l).2 → PureTo P i [.sl 1 (.ints .u16 l) t] (f l).1) : ∀ ys r c, sigL f ys = some (r, c) → AllP c → PureTo P i ys r := by
  intro ys r c hs hc
  unfold sigL at hs
  split at hs
  · next l t => have e := Option.some.inj hs; have := h l t; rw [e] at this; exact this hc
  · cases hs

def SG4 : SGT := (60, .s [true, false] sigPutR) :: (32, .p (sigS fun s => (.v (.string (strOfInts (wideL s))), [SM s]))) :: (33, .p (sigS fun s => (.v (.string (strOfInts (wideL s))), [SM s]))) ::
  (34, .p (sigL fun l => (.v (.string (strOfInts (makeL l))), [U16 l, l.length < 4294967296]))) :: (35, .p (sigL fun l => (.v (.string (strOfInts (makeL l))), [U16 l, l.length < 4294967296]))) ::
  (37, .p (sigS fun s => (.sl 1 (.ints .u16 (unitsL s)) false, [SM s]))) :: (38, .p (sigS fun s => (.sl 1 (.ints .u16 (unitsL s)) false, [SM s]))) :: (29, .p (sigU fun u => (.v (.bool (part u)), []))) :: (30, .p (sigU fun u => (.v (.bool (part u)), []))) :: SG3

theorem sok4 : SigsOK Tryd.prog SG4 := by
  refine sigs_s (sigs_cons (sigs_cons (sigs_cons (sigs_cons (sigs_cons (sigs_cons (sigs_cons (sigs_cons sok3 ?_) ?_) ?_) ?_) ?_) ?_) ?_) ?_) ?_
  · exact sigU_ok fun u _ => rpart_pure u
  · exact sigU_ok fun u _ => part_pure u
  · exact sigS_ok fun s h => runits_c h.1
  · exact sigS_ok fun s h => units_c h.1
  · exact sigL_ok fun l t h => rmake_c h.1 h.2.1
  · exact sigL_ok fun l t h => make_c h.1 h.2.1
  · exact sigS_ok fun s h => rwide_c h.1
  · exact sigS_ok fun s h => wide_c h.1
  · intro os ys r os' c h hc
    unfold sigPutR at h
    split at h
    · cases h
      obtain ⟨rfl, rfl, rfl, h1, h2, _⟩ := hc
      exact putr_c _ _ _ _ h1 h2
    · cases h

end Go.Proofs.Us

/- Texts: walks, written by the tool. -/
set_option maxRecDepth 100000
namespace Go.Proofs.Us
open Go Go.Ev
def decS0 (s : ByteArray) (x0 : Int) (l0 : List Int) (n0 : Nat) : AS := { n := 35, fr := [(0, AV.v (.string s)), (5, AV.row 3 0 l0.length l0.length false), (6, AV.v (.int .i64 x0))], hp := [(3, AObj.row 5 1 (.ints .u8 l0) n0)], nx := 4 }
def decX0 (s : ByteArray) (l1 : List Int) (n1 : Nat) : AS := { n := 35, fr := [(5, AV.row 3 0 l1.length l1.length false)], hp := [(3, AObj.row 5 1 (.ints .u8 l1) n1)], nx := 4 }
def decX0_1 (s : ByteArray) (x1 : Int) (x2 : Int) (s0 : ByteArray) : AS := { n := 35, fr := [(2, AV.v (.string s0)), (3, AV.v (.int .i64 x1)), (4, AV.v (.int .i64 x2))], hp := [], nx := 4 }
-- 4 paths
theorem decL0_1 (s : ByteArray) (x0 : Int) (l0 : List Int) (n0 : Nat) (h : AllP [decide (x0 < (↑s.size : Int)) = true, (0 : Int) ≤ x0 ∧ x0 ≤ (↑s.size : Int), SZ (s.extract x0.toNat s.size), 0 < (s.extract x0.toNat s.size).size, ((dr (s.extract x0.toNat s.size)).fst == (65533 : Int)) = true, decide ((dr (s.extract x0.toNat s.size)).snd < (2 : Int)) = true]) : To Tryd.prog (loopAt Tryd.f14 0) ({ n := 35, fr := [(0, AV.v (.string s)), (5, AV.row 3 0 l0.length l0.length false), (6, AV.v (.int .i64 x0))], hp := [(3, AObj.row 5 1 (.ints .u8 l0) n0)], nx := 4 }) (Exit.ret) { n := 35, fr := [(2, AV.v (.string (ByteArray.mk #[]))), (3, AV.v (.int .i64 x0)), (4, AV.v (.int .i64 (10 : Int)))], hp := [], nx := 4 } :=
  evW_to hm sok4 (hs := [CHint.ops 3 [(3, Hint.b true)], CHint.ops 5 [(1, Hint.b true), (4, Hint.b true)]]) (slots := [2, 3, 4]) (keys := []) (nx := 4) (c := _) (by kernel_rfl) h
theorem decL0_2 (s : ByteArray) (x0 : Int) (l0 : List Int) (n0 : Nat) (h : AllP [decide (x0 < (↑s.size : Int)) = true, (0 : Int) ≤ x0 ∧ x0 ≤ (↑s.size : Int), SZ (s.extract x0.toNat s.size), 0 < (s.extract x0.toNat s.size).size, ((dr (s.extract x0.toNat s.size)).fst == (65533 : Int)) = true, decide ((dr (s.extract x0.toNat s.size)).snd < (2 : Int)) = false, 4294967296 = rsv, l0.length = l0.length, l0.length = l0.length, (0 : Int) ≤ (dr (s.extract x0.toNat s.size)).fst ∧ (dr (s.extract x0.toNat s.size)).fst ≤ (1114111 : Int), l0.length < 70368744177662, inR IntKind.i64 (x0 + (dr (s.extract x0.toNat s.size)).snd)]) : To Tryd.prog (loopAt Tryd.f14 0) ({ n := 35, fr := [(0, AV.v (.string s)), (5, AV.row 3 0 l0.length l0.length false), (6, AV.v (.int .i64 x0))], hp := [(3, AObj.row 5 1 (.ints .u8 l0) n0)], nx := 4 }) (.normal) { n := 35, fr := [(0, AV.v (.string s)), (5, AV.row 3 0 (l0 ++ enc16 (dr (s.extract x0.toNat s.size)).fst).length (l0 ++ enc16 (dr (s.extract x0.toNat s.size)).fst).length false), (6, AV.v (.int .i64 (x0 + (dr (s.extract x0.toNat s.size)).snd)))], hp := [(3, AObj.row 5 1 (.ints .u8 (l0 ++ enc16 (dr (s.extract x0.toNat s.size)).fst)) (l0 ++ enc16 (dr (s.extract x0.toNat s.size)).fst).length)], nx := 4 } :=
  evW_to hm sok4 (hs := [CHint.ops 3 [(3, Hint.b true)], CHint.ops 5 [(1, Hint.b true), (4, Hint.b false)]]) (slots := [0, 5, 6]) (keys := [3]) (nx := 4) (c := _) (by kernel_rfl) h
theorem decL0_3 (s : ByteArray) (x0 : Int) (l0 : List Int) (n0 : Nat) (h : AllP [decide (x0 < (↑s.size : Int)) = true, (0 : Int) ≤ x0 ∧ x0 ≤ (↑s.size : Int), SZ (s.extract x0.toNat s.size), 0 < (s.extract x0.toNat s.size).size, ((dr (s.extract x0.toNat s.size)).fst == (65533 : Int)) = false, 4294967296 = rsv, l0.length = l0.length, l0.length = l0.length, (0 : Int) ≤ (dr (s.extract x0.toNat s.size)).fst ∧ (dr (s.extract x0.toNat s.size)).fst ≤ (1114111 : Int), l0.length < 70368744177662, inR IntKind.i64 (x0 + (dr (s.extract x0.toNat s.size)).snd)]) : To Tryd.prog (loopAt Tryd.f14 0) ({ n := 35, fr := [(0, AV.v (.string s)), (5, AV.row 3 0 l0.length l0.length false), (6, AV.v (.int .i64 x0))], hp := [(3, AObj.row 5 1 (.ints .u8 l0) n0)], nx := 4 }) (.normal) { n := 35, fr := [(0, AV.v (.string s)), (5, AV.row 3 0 (l0 ++ enc16 (dr (s.extract x0.toNat s.size)).fst).length (l0 ++ enc16 (dr (s.extract x0.toNat s.size)).fst).length false), (6, AV.v (.int .i64 (x0 + (dr (s.extract x0.toNat s.size)).snd)))], hp := [(3, AObj.row 5 1 (.ints .u8 (l0 ++ enc16 (dr (s.extract x0.toNat s.size)).fst)) (l0 ++ enc16 (dr (s.extract x0.toNat s.size)).fst).length)], nx := 4 } :=
  evW_to hm sok4 (hs := [CHint.ops 3 [(3, Hint.b true)], CHint.ops 5 [(1, Hint.b false)]]) (slots := [0, 5, 6]) (keys := [3]) (nx := 4) (c := _) (by kernel_rfl) h
theorem decL0_4 (s : ByteArray) (x0 : Int) (l0 : List Int) (n0 : Nat) (h : AllP [decide (x0 < (↑s.size : Int)) = false]) : To Tryd.prog (loopAt Tryd.f14 0) ({ n := 35, fr := [(0, AV.v (.string s)), (5, AV.row 3 0 l0.length l0.length false), (6, AV.v (.int .i64 x0))], hp := [(3, AObj.row 5 1 (.ints .u8 l0) n0)], nx := 4 }) (Exit.exit 0) { n := 35, fr := [(5, AV.row 3 0 l0.length l0.length false)], hp := [(3, AObj.row 5 1 (.ints .u8 l0) n0)], nx := 4 } :=
  evW_to hm sok4 (hs := [CHint.ops 3 [(3, Hint.b false)]]) (slots := [5]) (keys := [3]) (nx := 4) (c := _) (by kernel_rfl) h
-- 2 paths
theorem decF1 (s : ByteArray) (x1 : Int) (x2 : Int) (l1 : List Int) (n1 : Nat) (s0 : ByteArray) (h : AllP [LoopTo Tryd.prog (loopAt Tryd.f14 0) { n := 35, fr := [(0, AV.v (.string s)), (5, AV.row 3 0 0 0 false), (6, AV.v (.int .i64 (0 : Int)))], hp := [(3, AObj.row 5 1 (.ints .u8 []) 0)], nx := 4 } (Exit.exit 0) { n := 35, fr := [(5, AV.row 3 0 l1.length l1.length false)], hp := [(3, AObj.row 5 1 (.ints .u8 l1) n1)], nx := 4 }, l1.length = l1.length, n1 ≤ l1.length]) : PureTo Tryd.prog 14 [.v (.string s)] (AV.tup [AV.v (.string (strOfInts l1)), AV.v (.int .i64 (0 : Int)), AV.v (.int .i64 (0 : Int))]) :=
  evFn_pure hm sok4 (fn := Tryd.f14) rfl rfl (ti := false) (hs := [CHint.ops 1 [(0, Hint.nil 5)], CHint.loop [0, 5, 6] [3] 4 (Exit.exit 0) { n := 35, fr := [(5, AV.row 3 0 l1.length l1.length false)], hp := [(3, AObj.row (5 : TypeId) 1 (.ints .u8 l1) n1)], nx := 4 }]) (c := _) (by kernel_rfl) h
theorem decF2 (s : ByteArray) (x1 : Int) (x2 : Int) (l1 : List Int) (n1 : Nat) (s0 : ByteArray) (h : AllP [LoopTo Tryd.prog (loopAt Tryd.f14 0) { n := 35, fr := [(0, AV.v (.string s)), (5, AV.row 3 0 0 0 false), (6, AV.v (.int .i64 (0 : Int)))], hp := [(3, AObj.row 5 1 (.ints .u8 []) 0)], nx := 4 } Exit.ret { n := 35, fr := [(2, AV.v (.string s0)), (3, AV.v (.int .i64 x1)), (4, AV.v (.int .i64 x2))], hp := [], nx := 4 }]) : PureTo Tryd.prog 14 [.v (.string s)] (AV.tup [AV.v (.string s0), AV.v (.int .i64 x1), AV.v (.int .i64 x2)]) :=
  evFn_pure hm sok4 (fn := Tryd.f14) rfl rfl (ti := false) (hs := [CHint.ops 1 [(0, Hint.nil 5)], CHint.loop [0, 5, 6] [3] 4 Exit.ret { n := 35, fr := [(2, AV.v (.string s0)), (3, AV.v (.int .i64 x1)), (4, AV.v (.int .i64 x2))], hp := [], nx := 4 }]) (c := _) (by kernel_rfl) h
end Go.Proofs.Us

/- Texts: UTF-8 told as units. -/
set_option maxRecDepth 100000
namespace Go.Proofs.Us
open Go Go.Ev

theorem extract_list (s : ByteArray) (i n : Nat) : (s.extract i n).data.toList = (s.data.toList.take n).drop i := by
  rw [ByteArray.data_extract, Array.toList_extract, List.extract_eq_take_drop, List.drop_take]

theorem extract_size (s : ByteArray) (i : Nat) : (s.extract i s.size).size = s.size - i := by
  rw [ByteArray.size_extract]; omega

theorem byteAt_tail (s : ByteArray) (i j : Nat) : byteAt (s.extract i s.size) j = byteAt s (i + j) := by
  unfold byteAt
  rw [extract_list]
  have hl : s.data.toList.length = s.size := by rw [Array.length_toList]; rfl
  rw [← hl, List.take_length]
  simp only [List.getD_eq_getElem?_getD, List.getElem?_drop]

theorem goes_tail (s : ByteArray) (i j : Nat) : goes (s.extract i s.size) j ↔ goes s (i + j) := by
  unfold goes
  rw [extract_size, byteAt_tail]
  constructor
  · rintro ⟨a, b⟩; exact ⟨by omega, b⟩
  · rintro ⟨a, b⟩; exact ⟨by omega, b⟩

theorem pt_tail (s : ByteArray) (i : Nat) : pt (s.extract i s.size) 0 = pt s i := by
  unfold pt
  simp only [Nat.zero_add, byteAt_tail, goes_tail, Nat.add_zero]

theorem pt_spec (s : ByteArray) (i : Nat) : pt s i = (0, 0) ∨ (0 ≤ (pt s i).1 ∧ (pt s i).1 ≤ 1114111 ∧ 1 ≤ (pt s i).2 ∧ (pt s i).2 ≤ 4 ∧ ((pt s i).2 ≤ 2 → (pt s i).1 < 2048) ∧ ((pt s i).2 = 3 → (pt s i).1 < 65536) ∧ ((pt s i).2 = 1 → (pt s i).1 < 128)) := by
  have a0 := byteAt_lt s i
  have a1 := byteAt_lt s (i + 1)
  have a2 := byteAt_lt s (i + 2)
  have a3 := byteAt_lt s (i + 3)
  have key : ∀ p n : Int, 0 ≤ p → p ≤ 1114111 → 1 ≤ n → n ≤ 4 → (n ≤ 2 → p < 2048) → (n = 3 → p < 65536) → (n = 1 → p < 128) → (p, n) = ((0 : Int), (0 : Int)) ∨ (0 ≤ (p, n).1 ∧ (p, n).1 ≤ 1114111 ∧ 1 ≤ (p, n).2 ∧ (p, n).2 ≤ 4 ∧ ((p, n).2 ≤ 2 → (p, n).1 < 2048) ∧ ((p, n).2 = 3 → (p, n).1 < 65536) ∧ ((p, n).2 = 1 → (p, n).1 < 128)) :=
    fun p n h1 h2 h3 h4 h5 h6 h7 => .inr ⟨h1, h2, h3, h4, h5, h6, h7⟩
  by_cases c1 : byteAt s i < 128
  · rw [pt_1 c1]
    apply key <;> omega
  by_cases c2 : byteAt s i < 194 ∨ 245 ≤ byteAt s i
  · exact .inl (pt_0 (by omega))
  by_cases c3 : byteAt s i < 224
  · rw [pt_2 ⟨by omega, c3⟩]
    split
    · apply key <;> omega
    · exact .inl rfl
  by_cases c4 : byteAt s i < 240
  · rw [pt_3 ⟨by omega, c4⟩]
    split
    · unfold p3
      apply key <;> omega
    · exact .inl rfl
  · rw [pt_4 ⟨by omega, by omega⟩]
    split
    · next h => apply key <;> omega
    · exact .inl rfl

/-- decoding from place i on, behind l -/
def decG (s : ByteArray) : Nat → Nat → List Int → Nat ⊕ List Int
  | 0, _, l => .inr l
  | f + 1, i, l => if s.size ≤ i then .inr l else if (pt s i).2 = 0 then .inl i else decG s f (i + (pt s i).2.toNat) (l ++ enc16 (pt s i).1)

/-- what Decode tells -/
def decR (s : ByteArray) : ByteArray × Int × Int :=
  match decG s s.size 0 [] with
  | .inl i => (ByteArray.mk #[], i, 10)
  | .inr l => (strOfInts l, 0, 0)

theorem enc16_le {s : ByteArray} {i : Nat} (h : (pt s i).2 ≠ 0) : (enc16 (pt s i).1).length ≤ 2 * (pt s i).2.toNat := by
  rw [enc16_length]
  rcases pt_spec s i with h1 | ⟨h1, h2, h3, h4, h5, h6, _⟩
  · rw [h1] at h; exact absurd rfl h
  · split <;> omega

section
variable {P : Program} {c : Code} {S : Int → List Int → Nat → AS} {X : List Int → Nat → AS} {Y : ByteArray → Int → Int → AS}

/-- a loop that decodes -/
theorem dec_loop (s : ByteArray) (hs : SM s)
    (step : ∀ (i : Nat) l n0, i < s.size → l.length ≤ 2 * i → (pt s i).2 ≠ 0 → ∃ n1, n1 ≤ (l ++ enc16 (pt s i).1).length ∧ To P c (S i l n0) .normal (S (i + (pt s i).2) (l ++ enc16 (pt s i).1) n1))
    (bad : ∀ (i : Nat) l n0, i < s.size → (pt s i).2 = 0 → To P c (S i l n0) .ret (Y (ByteArray.mk #[]) i 10))
    (done : ∀ (i : Nat) l n0, s.size ≤ i → To P c (S i l n0) (.exit 0) (X l n0)) : ∀ (f i : Nat) (l : List Int) (n0 : Nat), s.size ≤ i + f → l.length ≤ 2 * i → n0 ≤ l.length →
    (∀ j, decG s f i l = .inl j → LoopTo P c (S i l n0) .ret (Y (ByteArray.mk #[]) j 10)) ∧ (∀ r, decG s f i l = .inr r → ∃ n1, n1 ≤ r.length ∧ LoopTo P c (S i l n0) (.exit 0) (X r n1)) := by
  intro f
  induction f with
  | zero =>
    intro i l n0 hf hl h0
    refine ⟨fun j h => (by cases h), fun r h => ?_⟩
    cases h
    exact ⟨n0, h0, .done (by simp) (done i l n0 (by omega))⟩
  | succ f ih =>
    intro i l n0 hf hl h0
    simp only [decG]
    by_cases c1 : s.size ≤ i
    · rw [if_pos c1]
      refine ⟨fun j h => (by cases h), fun r h => ?_⟩
      cases h
      exact ⟨n0, h0, .done (by simp) (done i l n0 c1)⟩
    · rw [if_neg c1]
      by_cases c2 : (pt s i).2 = 0
      · rw [if_pos c2]
        refine ⟨fun j h => ?_, fun r h => (by cases h)⟩
        cases h
        exact .done (by simp) (bad i l n0 (by omega) c2)
      · rw [if_neg c2]
        have hn : 1 ≤ (pt s i).2 := by
          rcases pt_spec s i with h1 | h1
          · rw [h1] at c2; exact absurd rfl c2
          · omega
        obtain ⟨n1, h1, hst⟩ := step i l n0 (by omega) hl c2
        have e : (i : Int) + (pt s i).2 = ((i + (pt s i).2.toNat : Nat) : Int) := by omega
        rw [e] at hst
        have hle := enc16_le c2
        obtain ⟨k1, k2⟩ := ih (i + (pt s i).2.toNat) (l ++ enc16 (pt s i).1) n1 (by omega) (by rw [List.length_append]; omega) h1
        refine ⟨fun j h => .step hst (k1 j h), fun r h => ?_⟩
        obtain ⟨n2, h2, hl2⟩ := k2 r h
        exact ⟨n2, h2, .step hst hl2⟩
end


theorem dr_tail (s : ByteArray) (i : Nat) : dr (s.extract i s.size) = if (pt s i).2 = 0 then (65533, 1) else pt s i := by
  unfold dr
  rw [pt_tail]

/-- what both Decodes tell -/
theorem dec_ret (s : ByteArray) {f : FuncId} (hret : ∀ j : Nat, decG s s.size 0 [] = .inl j → PureTo Tryd.prog f [.v (.string s)] (.tup [.v (.string (ByteArray.mk #[])), .v (.int .i64 j), .v (.int .i64 10)]))
    (hok : ∀ r, decG s s.size 0 [] = .inr r → PureTo Tryd.prog f [.v (.string s)] (.tup [.v (.string (strOfInts r)), .v (.int .i64 0), .v (.int .i64 0)])) :
    PureTo Tryd.prog f [.v (.string s)] (.tup [.v (.string (decR s).1), .v (.int .i64 (decR s).2.1), .v (.int .i64 (decR s).2.2)]) := by
  unfold decR
  cases h : decG s s.size 0 [] with
  | inl j => exact hret j h
  | inr r => exact hok r h

theorem dec_c {s : ByteArray} (hs : SM s) : PureTo Tryd.prog 14 [.v (.string s)] (.tup [.v (.string (decR s).1), .v (.int .i64 (decR s).2.1), .v (.int .i64 (decR s).2.2)]) := by
  have hz := hs.sz
  have hs0 := hs
  unfold SM at hs
  have hsz : ∀ i, SZ (s.extract i s.size) := fun i => by unfold SZ; rw [extract_size]; omega
  have main := dec_loop (P := Tryd.prog) (c := loopAt Tryd.f14 0) (S := fun i l n0 => decS0 s i l n0) (X := fun l n1 => decX0 s l n1) (Y := fun e i x => decX0_1 s i x e) s hs0
    (fun i l n0 hi hl hn => by
      have e := dr_tail s i
      rw [if_neg hn] at e
      have hsp := (pt_spec s i).resolve_left (fun h => by rw [h] at hn; exact hn rfl)
      refine ⟨_, Nat.le_refl _, ?_⟩
      by_cases c : (pt s i).1 = 65533
      · have h2 : ¬ (pt s i).2 < 2 := by omega
        have := decL0_2 s i l n0
        simp only [Int.toNat_natCast, e] at this
        exact this ⟨by simpa using hi, by omega, hsz i, by rw [extract_size]; omega, by simpa using c, by simpa using h2, (by first | rfl | trivial), (by first | rfl | trivial), (by first | rfl | trivial), by omega, by omega, by simp only [inR]; omega, trivial⟩
      · have := decL0_3 s i l n0
        simp only [Int.toNat_natCast, e] at this
        exact this ⟨by simpa using hi, by omega, hsz i, by rw [extract_size]; omega, by simpa using c, (by first | rfl | trivial), (by first | rfl | trivial), (by first | rfl | trivial), by omega, by omega, by simp only [inR]; omega, trivial⟩)
    (fun i l n0 hi hn => by
      have e := dr_tail s i
      rw [if_pos hn] at e
      have := decL0_1 s i l n0
      simp only [Int.toNat_natCast, e] at this
      exact this ⟨by simpa using hi, by omega, hsz i, by rw [extract_size]; omega, (by first | rfl | trivial), (by first | rfl | trivial), trivial⟩)
    (fun i l n0 hi => decL0_4 s i l n0 ⟨by simpa using hi, trivial⟩) s.size 0 [] 0 (by omega) (by simp) (Nat.le_refl _)
  refine dec_ret s (fun j h => ?_) (fun r h => ?_)
  · exact decF2 s _ _ [] 0 _ ⟨main.1 j h, trivial⟩
  · obtain ⟨n1, h1, hl⟩ := main.2 r h
    exact decF1 s 0 0 r n1 (ByteArray.mk #[]) ⟨hl, rfl, h1, trivial⟩

theorem rdec_c {s : ByteArray} (hs : SM s) : PureTo Tryd.prog 15 [.v (.string s)] (.tup [.v (.string (decR s).1), .v (.int .i64 (decR s).2.1), .v (.int .i64 (decR s).2.2)]) := by
  have hz := hs.sz
  have hs0 := hs
  unfold SM at hs
  have main := dec_loop (P := Tryd.prog) (c := loopAt Tryd.f15 0) (S := fun i l n0 => rdecS0 s i l n0) (X := fun l n1 => rdecX0 s l n1) (Y := fun e i x => rdecX0_1 s i x e) s hs0
    (fun i l n0 hi hl hn => by
      have hsp := (pt_spec s i).resolve_left (fun h => by rw [h] at hn; exact hn rfl)
      refine ⟨_, Nat.le_refl _, ?_⟩
      unfold enc16
      by_cases c : (pt s i).1 < 65536
      · rw [if_pos c]
        have e : (pt s i).1 % 65536 = (pt s i).1 := by omega
        have e2 : l.length + 2 = (l ++ ub (pt s i).1).length := by rw [List.length_append]; rfl
        have := rdecL0_2 s i l n0
        simp only [Int.toNat_natCast, e] at this
        rw [e2] at this
        exact this ⟨by simpa using hi, hz, by omega, by simpa using hn, by simp only [inR]; omega, by simpa using c, (by first | rfl | trivial), (by first | rfl | trivial), (by first | rfl | trivial), by omega, by unfold lim; omega, trivial⟩
      · rw [if_neg c]
        generalize hp : (pt s i).1 = p at *
        have b1 : (p - 65536) % 4294967296 = p - 65536 := by omega
        have a1 : bitsOf .and .u32 (p - 65536) 1023 = (p - 65536) % 1024 := and_low (k := .u32) rfl (s := 10) (by omega) (by show p - 65536 < 4294967296; omega) (by decide)
        have b2 : (55296 + (p - 65536) / 1024) % 65536 = 55296 + (p - 65536) / 1024 := by omega
        have b3 : (56320 + (p - 65536) % 1024) % 65536 = 56320 + (p - 65536) % 1024 := by omega
        have e3 : l.length + 2 = (l ++ ub (55296 + (p - 65536) / 1024)).length := by rw [List.length_append]; rfl
        have e4 : (l ++ ub (55296 + (p - 65536) / 1024)).length + 2 = (l ++ (ub (55296 + (p - 65536) / 1024) ++ ub (56320 + (p - 65536) % 1024))).length := by simp [ub]
        have this := rdecL0_3 s i l n0
        simp only [Int.toNat_natCast, hp, b1, a1, b2, b3] at this
        rw [e4, List.append_assoc] at this
        refine this ⟨by simpa using hi, hz, by omega, by simpa using hn, by simp only [inR]; omega, by simpa using c, by omega, by simp only [inR]; omega, (by first | rfl | trivial), (by first | rfl | trivial), (by first | rfl | trivial), by omega, by unfold lim; omega, by simp only [inR]; omega, (by first | rfl | trivial), e3, e3, by omega, ?_, trivial⟩
        rw [← e3]; unfold lim; omega)
    (fun i l n0 hi hn => rdecL0_1 s i l n0 ⟨by simpa using hi, hz, by omega, by simpa using hn, trivial⟩)
    (fun i l n0 hi => rdecL0_4 s i l n0 ⟨by simpa using hi, trivial⟩) s.size 0 [] 0 (by omega) (by simp) (Nat.le_refl _)
  refine dec_ret s (fun j h => ?_) (fun r h => ?_)
  · exact rdecF2 s _ _ [] 0 _ ⟨main.1 j h, trivial⟩
  · obtain ⟨n1, h1, hl⟩ := main.2 r h
    exact rdecF1 s 0 0 r n1 (ByteArray.mk #[]) ⟨hl, rfl, h1, trivial⟩

end Go.Proofs.Us

/- Texts: walks, written by the tool. -/
set_option maxRecDepth 100000
namespace Go.Proofs.Us
open Go Go.Ev

-- 4 paths
theorem utf1 (l : List Int) (fl n : Nat) (t : Bool) (u : Int) (h : AllP [decide (u < (128 : Int)) = true, n = l.length, n = l.length, (l ++ [u % (256 : Int)]).length * 1 ≤ 140737488355328]) : SharedTo Tryd.prog 71 [.row 5 1 (.ints .u8 l) fl] [.row rsv 0 n n t, .v (.int .u32 u)] (AV.row 4294967296 0 (l ++ [u % (256 : Int)]).length (l ++ [u % (256 : Int)]).length false) [AObj.row 5 1 (.ints .u8 (l ++ [u % (256 : Int)])) fl] :=
  evFn_shared hm sok4 (fn := Tryd.f71) rfl rfl (ti := false) (ex := []) (hs := [CHint.ops 1 [(1, Hint.b true)]]) (c := _) (by kernel_rfl) h
theorem utf2 (l : List Int) (fl n : Nat) (t : Bool) (u : Int) (h : AllP [decide (u < (128 : Int)) = false, decide (u < (2048 : Int)) = true, (0 : Int) ≤ (6 : Int), n = l.length, n = l.length, (l ++ [bitsOf BinOp.or IntKind.u32 (192 : Int) (u / (64 : Int)) % (256 : Int), bitsOf BinOp.or IntKind.u32 (128 : Int) (bitsOf BinOp.and IntKind.u32 u (63 : Int)) % (256 : Int)]).length * 1 ≤ 140737488355328]) : SharedTo Tryd.prog 71 [.row 5 1 (.ints .u8 l) fl] [.row rsv 0 n n t, .v (.int .u32 u)] (AV.row 4294967296 0 (l ++ [bitsOf BinOp.or IntKind.u32 (192 : Int) (u / (64 : Int)) % (256 : Int), bitsOf BinOp.or IntKind.u32 (128 : Int) (bitsOf BinOp.and IntKind.u32 u (63 : Int)) % (256 : Int)]).length (l ++ [bitsOf BinOp.or IntKind.u32 (192 : Int) (u / (64 : Int)) % (256 : Int), bitsOf BinOp.or IntKind.u32 (128 : Int) (bitsOf BinOp.and IntKind.u32 u (63 : Int)) % (256 : Int)]).length false) [AObj.row 5 1 (.ints .u8 (l ++ [bitsOf BinOp.or IntKind.u32 (192 : Int) (u / (64 : Int)) % (256 : Int), bitsOf BinOp.or IntKind.u32 (128 : Int) (bitsOf BinOp.and IntKind.u32 u (63 : Int)) % (256 : Int)])) fl] :=
  evFn_shared hm sok4 (fn := Tryd.f71) rfl rfl (ti := false) (ex := []) (hs := [CHint.ops 1 [(1, Hint.b false)], CHint.ops 3 [(1, Hint.b true)]]) (c := _) (by kernel_rfl) h
theorem utf3 (l : List Int) (fl n : Nat) (t : Bool) (u : Int) (h : AllP [decide (u < (128 : Int)) = false, decide (u < (2048 : Int)) = false, decide (u < (65536 : Int)) = true, (0 : Int) ≤ (12 : Int), (0 : Int) ≤ (6 : Int), n = l.length, n = l.length, (l ++ [bitsOf BinOp.or IntKind.u32 (224 : Int) (u / (4096 : Int)) % (256 : Int), bitsOf BinOp.or IntKind.u32 (128 : Int) (bitsOf BinOp.and IntKind.u32 (u / (64 : Int)) (63 : Int)) % (256 : Int), bitsOf BinOp.or IntKind.u32 (128 : Int) (bitsOf BinOp.and IntKind.u32 u (63 : Int)) % (256 : Int)]).length * 1 ≤ 140737488355328]) : SharedTo Tryd.prog 71 [.row 5 1 (.ints .u8 l) fl] [.row rsv 0 n n t, .v (.int .u32 u)] (AV.row 4294967296 0 (l ++ [bitsOf BinOp.or IntKind.u32 (224 : Int) (u / (4096 : Int)) % (256 : Int), bitsOf BinOp.or IntKind.u32 (128 : Int) (bitsOf BinOp.and IntKind.u32 (u / (64 : Int)) (63 : Int)) % (256 : Int), bitsOf BinOp.or IntKind.u32 (128 : Int) (bitsOf BinOp.and IntKind.u32 u (63 : Int)) % (256 : Int)]).length (l ++ [bitsOf BinOp.or IntKind.u32 (224 : Int) (u / (4096 : Int)) % (256 : Int), bitsOf BinOp.or IntKind.u32 (128 : Int) (bitsOf BinOp.and IntKind.u32 (u / (64 : Int)) (63 : Int)) % (256 : Int), bitsOf BinOp.or IntKind.u32 (128 : Int) (bitsOf BinOp.and IntKind.u32 u (63 : Int)) % (256 : Int)]).length false) [AObj.row 5 1 (.ints .u8 (l ++ [bitsOf BinOp.or IntKind.u32 (224 : Int) (u / (4096 : Int)) % (256 : Int), bitsOf BinOp.or IntKind.u32 (128 : Int) (bitsOf BinOp.and IntKind.u32 (u / (64 : Int)) (63 : Int)) % (256 : Int), bitsOf BinOp.or IntKind.u32 (128 : Int) (bitsOf BinOp.and IntKind.u32 u (63 : Int)) % (256 : Int)])) fl] :=
  evFn_shared hm sok4 (fn := Tryd.f71) rfl rfl (ti := false) (ex := []) (hs := [CHint.ops 1 [(1, Hint.b false)], CHint.ops 3 [(1, Hint.b false)], CHint.ops 5 [(1, Hint.b true)]]) (c := _) (by kernel_rfl) h
theorem utf4 (l : List Int) (fl n : Nat) (t : Bool) (u : Int) (h : AllP [decide (u < (128 : Int)) = false, decide (u < (2048 : Int)) = false, decide (u < (65536 : Int)) = false, (0 : Int) ≤ (18 : Int), (0 : Int) ≤ (12 : Int), (0 : Int) ≤ (6 : Int), n = l.length, n = l.length, (l ++ [bitsOf BinOp.or IntKind.u32 (240 : Int) (u / (262144 : Int)) % (256 : Int), bitsOf BinOp.or IntKind.u32 (128 : Int) (bitsOf BinOp.and IntKind.u32 (u / (4096 : Int)) (63 : Int)) % (256 : Int), bitsOf BinOp.or IntKind.u32 (128 : Int) (bitsOf BinOp.and IntKind.u32 (u / (64 : Int)) (63 : Int)) % (256 : Int), bitsOf BinOp.or IntKind.u32 (128 : Int) (bitsOf BinOp.and IntKind.u32 u (63 : Int)) % (256 : Int)]).length * 1 ≤ 140737488355328]) : SharedTo Tryd.prog 71 [.row 5 1 (.ints .u8 l) fl] [.row rsv 0 n n t, .v (.int .u32 u)] (AV.row 4294967296 0 (l ++ [bitsOf BinOp.or IntKind.u32 (240 : Int) (u / (262144 : Int)) % (256 : Int), bitsOf BinOp.or IntKind.u32 (128 : Int) (bitsOf BinOp.and IntKind.u32 (u / (4096 : Int)) (63 : Int)) % (256 : Int), bitsOf BinOp.or IntKind.u32 (128 : Int) (bitsOf BinOp.and IntKind.u32 (u / (64 : Int)) (63 : Int)) % (256 : Int), bitsOf BinOp.or IntKind.u32 (128 : Int) (bitsOf BinOp.and IntKind.u32 u (63 : Int)) % (256 : Int)]).length (l ++ [bitsOf BinOp.or IntKind.u32 (240 : Int) (u / (262144 : Int)) % (256 : Int), bitsOf BinOp.or IntKind.u32 (128 : Int) (bitsOf BinOp.and IntKind.u32 (u / (4096 : Int)) (63 : Int)) % (256 : Int), bitsOf BinOp.or IntKind.u32 (128 : Int) (bitsOf BinOp.and IntKind.u32 (u / (64 : Int)) (63 : Int)) % (256 : Int), bitsOf BinOp.or IntKind.u32 (128 : Int) (bitsOf BinOp.and IntKind.u32 u (63 : Int)) % (256 : Int)]).length false) [AObj.row 5 1 (.ints .u8 (l ++ [bitsOf BinOp.or IntKind.u32 (240 : Int) (u / (262144 : Int)) % (256 : Int), bitsOf BinOp.or IntKind.u32 (128 : Int) (bitsOf BinOp.and IntKind.u32 (u / (4096 : Int)) (63 : Int)) % (256 : Int), bitsOf BinOp.or IntKind.u32 (128 : Int) (bitsOf BinOp.and IntKind.u32 (u / (64 : Int)) (63 : Int)) % (256 : Int), bitsOf BinOp.or IntKind.u32 (128 : Int) (bitsOf BinOp.and IntKind.u32 u (63 : Int)) % (256 : Int)])) fl] :=
  evFn_shared hm sok4 (fn := Tryd.f71) rfl rfl (ti := false) (ex := []) (hs := [CHint.ops 1 [(1, Hint.b false)], CHint.ops 3 [(1, Hint.b false)], CHint.ops 5 [(1, Hint.b false)]]) (c := _) (by kernel_rfl) h
-- 9 paths
theorem nona1 (l : List Int) (fl n : Nat) (t : Bool) (u : Int) (h : AllP [decide (u % (4294967296 : Int) ≤ (2047 : Int)) = true, (0 : Int) ≤ (6 : Int), n = l.length, n = l.length, (l ++ [bitsOf BinOp.or IntKind.u8 (192 : Int) (u / (64 : Int) % (256 : Int)), bitsOf BinOp.or IntKind.u8 (128 : Int) (bitsOf BinOp.and IntKind.u8 (u % (256 : Int)) (63 : Int))]).length * 1 ≤ 140737488355328]) : SharedTo Tryd.prog 81 [.row 5 1 (.ints .u8 l) fl] [.row rsv 0 n n t, .v (.int .i32 u)] (AV.row 4294967296 0 (l ++ [bitsOf BinOp.or IntKind.u8 (192 : Int) (u / (64 : Int) % (256 : Int)), bitsOf BinOp.or IntKind.u8 (128 : Int) (bitsOf BinOp.and IntKind.u8 (u % (256 : Int)) (63 : Int))]).length (l ++ [bitsOf BinOp.or IntKind.u8 (192 : Int) (u / (64 : Int) % (256 : Int)), bitsOf BinOp.or IntKind.u8 (128 : Int) (bitsOf BinOp.and IntKind.u8 (u % (256 : Int)) (63 : Int))]).length false) [AObj.row 5 1 (.ints .u8 (l ++ [bitsOf BinOp.or IntKind.u8 (192 : Int) (u / (64 : Int) % (256 : Int)), bitsOf BinOp.or IntKind.u8 (128 : Int) (bitsOf BinOp.and IntKind.u8 (u % (256 : Int)) (63 : Int))])) fl] :=
  evFn_shared hm sok4 (fn := Tryd.f81) rfl rfl (ti := false) (ex := []) (hs := [CHint.ops 3 [(1, Hint.b true)]]) (c := _) (by kernel_rfl) h
theorem nona2 (l : List Int) (fl n : Nat) (t : Bool) (u : Int) (h : AllP [decide (u % (4294967296 : Int) ≤ (2047 : Int)) = false, decide (u % (4294967296 : Int) < (55296 : Int)) = true, (0 : Int) ≤ (12 : Int), (0 : Int) ≤ (6 : Int), n = l.length, n = l.length, (l ++ [bitsOf BinOp.or IntKind.u8 (224 : Int) (u / (4096 : Int) % (256 : Int)), bitsOf BinOp.or IntKind.u8 (128 : Int) (bitsOf BinOp.and IntKind.u8 (u / (64 : Int) % (256 : Int)) (63 : Int)), bitsOf BinOp.or IntKind.u8 (128 : Int) (bitsOf BinOp.and IntKind.u8 (u % (256 : Int)) (63 : Int))]).length * 1 ≤ 140737488355328]) : SharedTo Tryd.prog 81 [.row 5 1 (.ints .u8 l) fl] [.row rsv 0 n n t, .v (.int .i32 u)] (AV.row 4294967296 0 (l ++ [bitsOf BinOp.or IntKind.u8 (224 : Int) (u / (4096 : Int) % (256 : Int)), bitsOf BinOp.or IntKind.u8 (128 : Int) (bitsOf BinOp.and IntKind.u8 (u / (64 : Int) % (256 : Int)) (63 : Int)), bitsOf BinOp.or IntKind.u8 (128 : Int) (bitsOf BinOp.and IntKind.u8 (u % (256 : Int)) (63 : Int))]).length (l ++ [bitsOf BinOp.or IntKind.u8 (224 : Int) (u / (4096 : Int) % (256 : Int)), bitsOf BinOp.or IntKind.u8 (128 : Int) (bitsOf BinOp.and IntKind.u8 (u / (64 : Int) % (256 : Int)) (63 : Int)), bitsOf BinOp.or IntKind.u8 (128 : Int) (bitsOf BinOp.and IntKind.u8 (u % (256 : Int)) (63 : Int))]).length false) [AObj.row 5 1 (.ints .u8 (l ++ [bitsOf BinOp.or IntKind.u8 (224 : Int) (u / (4096 : Int) % (256 : Int)), bitsOf BinOp.or IntKind.u8 (128 : Int) (bitsOf BinOp.and IntKind.u8 (u / (64 : Int) % (256 : Int)) (63 : Int)), bitsOf BinOp.or IntKind.u8 (128 : Int) (bitsOf BinOp.and IntKind.u8 (u % (256 : Int)) (63 : Int))])) fl] :=
  evFn_shared hm sok4 (fn := Tryd.f81) rfl rfl (ti := false) (ex := []) (hs := [CHint.ops 3 [(1, Hint.b false)], CHint.ops 5 [(1, Hint.b true)]]) (c := _) (by kernel_rfl) h
theorem nona3 (l : List Int) (fl n : Nat) (t : Bool) (u : Int) (h : AllP [decide (u % (4294967296 : Int) ≤ (2047 : Int)) = false, decide (u % (4294967296 : Int) < (55296 : Int)) = false, decide ((57343 : Int) < u % (4294967296 : Int)) = true, decide (u % (4294967296 : Int) ≤ (65535 : Int)) = true, (0 : Int) ≤ (12 : Int), (0 : Int) ≤ (6 : Int), n = l.length, n = l.length, (l ++ [bitsOf BinOp.or IntKind.u8 (224 : Int) (u / (4096 : Int) % (256 : Int)), bitsOf BinOp.or IntKind.u8 (128 : Int) (bitsOf BinOp.and IntKind.u8 (u / (64 : Int) % (256 : Int)) (63 : Int)), bitsOf BinOp.or IntKind.u8 (128 : Int) (bitsOf BinOp.and IntKind.u8 (u % (256 : Int)) (63 : Int))]).length * 1 ≤ 140737488355328]) : SharedTo Tryd.prog 81 [.row 5 1 (.ints .u8 l) fl] [.row rsv 0 n n t, .v (.int .i32 u)] (AV.row 4294967296 0 (l ++ [bitsOf BinOp.or IntKind.u8 (224 : Int) (u / (4096 : Int) % (256 : Int)), bitsOf BinOp.or IntKind.u8 (128 : Int) (bitsOf BinOp.and IntKind.u8 (u / (64 : Int) % (256 : Int)) (63 : Int)), bitsOf BinOp.or IntKind.u8 (128 : Int) (bitsOf BinOp.and IntKind.u8 (u % (256 : Int)) (63 : Int))]).length (l ++ [bitsOf BinOp.or IntKind.u8 (224 : Int) (u / (4096 : Int) % (256 : Int)), bitsOf BinOp.or IntKind.u8 (128 : Int) (bitsOf BinOp.and IntKind.u8 (u / (64 : Int) % (256 : Int)) (63 : Int)), bitsOf BinOp.or IntKind.u8 (128 : Int) (bitsOf BinOp.and IntKind.u8 (u % (256 : Int)) (63 : Int))]).length false) [AObj.row 5 1 (.ints .u8 (l ++ [bitsOf BinOp.or IntKind.u8 (224 : Int) (u / (4096 : Int) % (256 : Int)), bitsOf BinOp.or IntKind.u8 (128 : Int) (bitsOf BinOp.and IntKind.u8 (u / (64 : Int) % (256 : Int)) (63 : Int)), bitsOf BinOp.or IntKind.u8 (128 : Int) (bitsOf BinOp.and IntKind.u8 (u % (256 : Int)) (63 : Int))])) fl] :=
  evFn_shared hm sok4 (fn := Tryd.f81) rfl rfl (ti := false) (ex := []) (hs := [CHint.ops 3 [(1, Hint.b false)], CHint.ops 5 [(1, Hint.b false)], CHint.ops 6 [(1, Hint.b true), (4, Hint.b true)]]) (c := _) (by kernel_rfl) h
theorem nona4 (l : List Int) (fl n : Nat) (t : Bool) (u : Int) (h : AllP [decide (u % (4294967296 : Int) ≤ (2047 : Int)) = false, decide (u % (4294967296 : Int) < (55296 : Int)) = false, decide ((57343 : Int) < u % (4294967296 : Int)) = true, decide (u % (4294967296 : Int) ≤ (65535 : Int)) = false, decide (u % (4294967296 : Int) > (65535 : Int)) = true, decide (u % (4294967296 : Int) ≤ (1114111 : Int)) = true, (0 : Int) ≤ (18 : Int), (0 : Int) ≤ (12 : Int), (0 : Int) ≤ (6 : Int), n = l.length, n = l.length, (l ++ [bitsOf BinOp.or IntKind.u8 (240 : Int) (u / (262144 : Int) % (256 : Int)), bitsOf BinOp.or IntKind.u8 (128 : Int) (bitsOf BinOp.and IntKind.u8 (u / (4096 : Int) % (256 : Int)) (63 : Int)), bitsOf BinOp.or IntKind.u8 (128 : Int) (bitsOf BinOp.and IntKind.u8 (u / (64 : Int) % (256 : Int)) (63 : Int)), bitsOf BinOp.or IntKind.u8 (128 : Int) (bitsOf BinOp.and IntKind.u8 (u % (256 : Int)) (63 : Int))]).length * 1 ≤ 140737488355328]) : SharedTo Tryd.prog 81 [.row 5 1 (.ints .u8 l) fl] [.row rsv 0 n n t, .v (.int .i32 u)] (AV.row 4294967296 0 (l ++ [bitsOf BinOp.or IntKind.u8 (240 : Int) (u / (262144 : Int) % (256 : Int)), bitsOf BinOp.or IntKind.u8 (128 : Int) (bitsOf BinOp.and IntKind.u8 (u / (4096 : Int) % (256 : Int)) (63 : Int)), bitsOf BinOp.or IntKind.u8 (128 : Int) (bitsOf BinOp.and IntKind.u8 (u / (64 : Int) % (256 : Int)) (63 : Int)), bitsOf BinOp.or IntKind.u8 (128 : Int) (bitsOf BinOp.and IntKind.u8 (u % (256 : Int)) (63 : Int))]).length (l ++ [bitsOf BinOp.or IntKind.u8 (240 : Int) (u / (262144 : Int) % (256 : Int)), bitsOf BinOp.or IntKind.u8 (128 : Int) (bitsOf BinOp.and IntKind.u8 (u / (4096 : Int) % (256 : Int)) (63 : Int)), bitsOf BinOp.or IntKind.u8 (128 : Int) (bitsOf BinOp.and IntKind.u8 (u / (64 : Int) % (256 : Int)) (63 : Int)), bitsOf BinOp.or IntKind.u8 (128 : Int) (bitsOf BinOp.and IntKind.u8 (u % (256 : Int)) (63 : Int))]).length false) [AObj.row 5 1 (.ints .u8 (l ++ [bitsOf BinOp.or IntKind.u8 (240 : Int) (u / (262144 : Int) % (256 : Int)), bitsOf BinOp.or IntKind.u8 (128 : Int) (bitsOf BinOp.and IntKind.u8 (u / (4096 : Int) % (256 : Int)) (63 : Int)), bitsOf BinOp.or IntKind.u8 (128 : Int) (bitsOf BinOp.and IntKind.u8 (u / (64 : Int) % (256 : Int)) (63 : Int)), bitsOf BinOp.or IntKind.u8 (128 : Int) (bitsOf BinOp.and IntKind.u8 (u % (256 : Int)) (63 : Int))])) fl] :=
  evFn_shared hm sok4 (fn := Tryd.f81) rfl rfl (ti := false) (ex := []) (hs := [CHint.ops 3 [(1, Hint.b false)], CHint.ops 5 [(1, Hint.b false)], CHint.ops 6 [(1, Hint.b true), (4, Hint.b false)], CHint.ops 8 [(1, Hint.b true), (4, Hint.b true)]]) (c := _) (by kernel_rfl) h
theorem nona5 (l : List Int) (fl n : Nat) (t : Bool) (u : Int) (h : AllP [decide (u % (4294967296 : Int) ≤ (2047 : Int)) = false, decide (u % (4294967296 : Int) < (55296 : Int)) = false, decide ((57343 : Int) < u % (4294967296 : Int)) = true, decide (u % (4294967296 : Int) ≤ (65535 : Int)) = false, decide (u % (4294967296 : Int) > (65535 : Int)) = true, decide (u % (4294967296 : Int) ≤ (1114111 : Int)) = false, n = l.length, n = l.length, (l ++ [(239 : Int), (191 : Int), (189 : Int)]).length * 1 ≤ 140737488355328]) : SharedTo Tryd.prog 81 [.row 5 1 (.ints .u8 l) fl] [.row rsv 0 n n t, .v (.int .i32 u)] (AV.row 4294967296 0 (l ++ [(239 : Int), (191 : Int), (189 : Int)]).length (l ++ [(239 : Int), (191 : Int), (189 : Int)]).length false) [AObj.row 5 1 (.ints .u8 (l ++ [(239 : Int), (191 : Int), (189 : Int)])) fl] :=
  evFn_shared hm sok4 (fn := Tryd.f81) rfl rfl (ti := false) (ex := []) (hs := [CHint.ops 3 [(1, Hint.b false)], CHint.ops 5 [(1, Hint.b false)], CHint.ops 6 [(1, Hint.b true), (4, Hint.b false)], CHint.ops 8 [(1, Hint.b true), (4, Hint.b false)]]) (c := _) (by kernel_rfl) h
theorem nona6 (l : List Int) (fl n : Nat) (t : Bool) (u : Int) (h : AllP [decide (u % (4294967296 : Int) ≤ (2047 : Int)) = false, decide (u % (4294967296 : Int) < (55296 : Int)) = false, decide ((57343 : Int) < u % (4294967296 : Int)) = true, decide (u % (4294967296 : Int) ≤ (65535 : Int)) = false, decide (u % (4294967296 : Int) > (65535 : Int)) = false, n = l.length, n = l.length, (l ++ [(239 : Int), (191 : Int), (189 : Int)]).length * 1 ≤ 140737488355328]) : SharedTo Tryd.prog 81 [.row 5 1 (.ints .u8 l) fl] [.row rsv 0 n n t, .v (.int .i32 u)] (AV.row 4294967296 0 (l ++ [(239 : Int), (191 : Int), (189 : Int)]).length (l ++ [(239 : Int), (191 : Int), (189 : Int)]).length false) [AObj.row 5 1 (.ints .u8 (l ++ [(239 : Int), (191 : Int), (189 : Int)])) fl] :=
  evFn_shared hm sok4 (fn := Tryd.f81) rfl rfl (ti := false) (ex := []) (hs := [CHint.ops 3 [(1, Hint.b false)], CHint.ops 5 [(1, Hint.b false)], CHint.ops 6 [(1, Hint.b true), (4, Hint.b false)], CHint.ops 8 [(1, Hint.b false)]]) (c := _) (by kernel_rfl) h
theorem nona7 (l : List Int) (fl n : Nat) (t : Bool) (u : Int) (h : AllP [decide (u % (4294967296 : Int) ≤ (2047 : Int)) = false, decide (u % (4294967296 : Int) < (55296 : Int)) = false, decide ((57343 : Int) < u % (4294967296 : Int)) = false, decide (u % (4294967296 : Int) > (65535 : Int)) = true, decide (u % (4294967296 : Int) ≤ (1114111 : Int)) = true, (0 : Int) ≤ (18 : Int), (0 : Int) ≤ (12 : Int), (0 : Int) ≤ (6 : Int), n = l.length, n = l.length, (l ++ [bitsOf BinOp.or IntKind.u8 (240 : Int) (u / (262144 : Int) % (256 : Int)), bitsOf BinOp.or IntKind.u8 (128 : Int) (bitsOf BinOp.and IntKind.u8 (u / (4096 : Int) % (256 : Int)) (63 : Int)), bitsOf BinOp.or IntKind.u8 (128 : Int) (bitsOf BinOp.and IntKind.u8 (u / (64 : Int) % (256 : Int)) (63 : Int)), bitsOf BinOp.or IntKind.u8 (128 : Int) (bitsOf BinOp.and IntKind.u8 (u % (256 : Int)) (63 : Int))]).length * 1 ≤ 140737488355328]) : SharedTo Tryd.prog 81 [.row 5 1 (.ints .u8 l) fl] [.row rsv 0 n n t, .v (.int .i32 u)] (AV.row 4294967296 0 (l ++ [bitsOf BinOp.or IntKind.u8 (240 : Int) (u / (262144 : Int) % (256 : Int)), bitsOf BinOp.or IntKind.u8 (128 : Int) (bitsOf BinOp.and IntKind.u8 (u / (4096 : Int) % (256 : Int)) (63 : Int)), bitsOf BinOp.or IntKind.u8 (128 : Int) (bitsOf BinOp.and IntKind.u8 (u / (64 : Int) % (256 : Int)) (63 : Int)), bitsOf BinOp.or IntKind.u8 (128 : Int) (bitsOf BinOp.and IntKind.u8 (u % (256 : Int)) (63 : Int))]).length (l ++ [bitsOf BinOp.or IntKind.u8 (240 : Int) (u / (262144 : Int) % (256 : Int)), bitsOf BinOp.or IntKind.u8 (128 : Int) (bitsOf BinOp.and IntKind.u8 (u / (4096 : Int) % (256 : Int)) (63 : Int)), bitsOf BinOp.or IntKind.u8 (128 : Int) (bitsOf BinOp.and IntKind.u8 (u / (64 : Int) % (256 : Int)) (63 : Int)), bitsOf BinOp.or IntKind.u8 (128 : Int) (bitsOf BinOp.and IntKind.u8 (u % (256 : Int)) (63 : Int))]).length false) [AObj.row 5 1 (.ints .u8 (l ++ [bitsOf BinOp.or IntKind.u8 (240 : Int) (u / (262144 : Int) % (256 : Int)), bitsOf BinOp.or IntKind.u8 (128 : Int) (bitsOf BinOp.and IntKind.u8 (u / (4096 : Int) % (256 : Int)) (63 : Int)), bitsOf BinOp.or IntKind.u8 (128 : Int) (bitsOf BinOp.and IntKind.u8 (u / (64 : Int) % (256 : Int)) (63 : Int)), bitsOf BinOp.or IntKind.u8 (128 : Int) (bitsOf BinOp.and IntKind.u8 (u % (256 : Int)) (63 : Int))])) fl] :=
  evFn_shared hm sok4 (fn := Tryd.f81) rfl rfl (ti := false) (ex := []) (hs := [CHint.ops 3 [(1, Hint.b false)], CHint.ops 5 [(1, Hint.b false)], CHint.ops 6 [(1, Hint.b false)], CHint.ops 8 [(1, Hint.b true), (4, Hint.b true)]]) (c := _) (by kernel_rfl) h
theorem nona8 (l : List Int) (fl n : Nat) (t : Bool) (u : Int) (h : AllP [decide (u % (4294967296 : Int) ≤ (2047 : Int)) = false, decide (u % (4294967296 : Int) < (55296 : Int)) = false, decide ((57343 : Int) < u % (4294967296 : Int)) = false, decide (u % (4294967296 : Int) > (65535 : Int)) = true, decide (u % (4294967296 : Int) ≤ (1114111 : Int)) = false, n = l.length, n = l.length, (l ++ [(239 : Int), (191 : Int), (189 : Int)]).length * 1 ≤ 140737488355328]) : SharedTo Tryd.prog 81 [.row 5 1 (.ints .u8 l) fl] [.row rsv 0 n n t, .v (.int .i32 u)] (AV.row 4294967296 0 (l ++ [(239 : Int), (191 : Int), (189 : Int)]).length (l ++ [(239 : Int), (191 : Int), (189 : Int)]).length false) [AObj.row 5 1 (.ints .u8 (l ++ [(239 : Int), (191 : Int), (189 : Int)])) fl] :=
  evFn_shared hm sok4 (fn := Tryd.f81) rfl rfl (ti := false) (ex := []) (hs := [CHint.ops 3 [(1, Hint.b false)], CHint.ops 5 [(1, Hint.b false)], CHint.ops 6 [(1, Hint.b false)], CHint.ops 8 [(1, Hint.b true), (4, Hint.b false)]]) (c := _) (by kernel_rfl) h
theorem nona9 (l : List Int) (fl n : Nat) (t : Bool) (u : Int) (h : AllP [decide (u % (4294967296 : Int) ≤ (2047 : Int)) = false, decide (u % (4294967296 : Int) < (55296 : Int)) = false, decide ((57343 : Int) < u % (4294967296 : Int)) = false, decide (u % (4294967296 : Int) > (65535 : Int)) = false, n = l.length, n = l.length, (l ++ [(239 : Int), (191 : Int), (189 : Int)]).length * 1 ≤ 140737488355328]) : SharedTo Tryd.prog 81 [.row 5 1 (.ints .u8 l) fl] [.row rsv 0 n n t, .v (.int .i32 u)] (AV.row 4294967296 0 (l ++ [(239 : Int), (191 : Int), (189 : Int)]).length (l ++ [(239 : Int), (191 : Int), (189 : Int)]).length false) [AObj.row 5 1 (.ints .u8 (l ++ [(239 : Int), (191 : Int), (189 : Int)])) fl] :=
  evFn_shared hm sok4 (fn := Tryd.f81) rfl rfl (ti := false) (ex := []) (hs := [CHint.ops 3 [(1, Hint.b false)], CHint.ops 5 [(1, Hint.b false)], CHint.ops 6 [(1, Hint.b false)], CHint.ops 8 [(1, Hint.b false)]]) (c := _) (by kernel_rfl) h
end Go.Proofs.Us

/- Texts: code points written as UTF-8. -/
set_option maxRecDepth 100000
namespace Go.Proofs.Us
open Go Go.Ev

/-- a code point in bytes -/
def enc8 (u : Int) : List Int :=
  if u < 128 then [u] else if u < 2048 then [192 + u / 64, 128 + u % 64] else if u < 65536 then [224 + u / 4096, 128 + u / 64 % 64, 128 + u % 64]
  else [240 + u / 262144, 128 + u / 4096 % 64, 128 + u / 64 % 64, 128 + u % 64]

theorem enc8_length (u : Int) : (enc8 u).length ≤ 4 := by
  unfold enc8
  split
  · simp
  · split
    · simp
    · split <;> simp
theorem enc8_le {u : Int} (h : u < 65536) : (enc8 u).length ≤ 3 := by
  unfold enc8
  split
  · simp
  · split
    · simp
    · simp

theorem or_lead {k : IntKind} (hk : k.signed = false) (hb : 8 ≤ k.bits) (b x : Int) (s : Nat) (hs : s ≤ 8) (hx : 0 ≤ x ∧ x < (2 ^ s : Nat)) (hb0 : 0 ≤ b ∧ b ≤ 255) (hm : b % (2 ^ s : Nat) = 0) : bitsOf .or k b x = b + x := by
  have hp : (2 : Int) ^ 8 ≤ 2 ^ k.bits := by
    have : (2 : Nat) ^ 8 ≤ 2 ^ k.bits := Nat.pow_le_pow_right (by omega) hb
    exact_mod_cast this
  have := (or_add (k := k) hk hx.1 hx.2 hb0.1 (by omega) hm (by omega)).2
  omega

theorem utf_c (l : List Int) (fl : Nat) (t : Bool) (u : Int) (hu : 0 ≤ u ∧ u ≤ 1114111) (hl : l.length < lim) :
    SharedTo Tryd.prog 71 [.row 5 1 (.ints .u8 l) fl] [.row rsv 0 l.length l.length t, .v (.int .u32 u)] (.row rsv 0 (l ++ enc8 u).length (l ++ enc8 u).length false) [.row 5 1 (.ints .u8 (l ++ enc8 u)) fl] := by
  unfold lim at hl
  unfold enc8
  have a6 : ∀ x : Int, 0 ≤ x → x < 4294967296 → bitsOf .and .u32 x 63 = x % 64 := fun x h1 h2 => and_low (k := .u32) rfl (s := 6) h1 h2 (by decide)
  have o6 : ∀ x : Int, bitsOf .or .u32 128 (x % 64) % 256 = 128 + x % 64 := fun x => by rw [or_lead (k := .u32) rfl (by decide) 128 (x % 64) 6 (by omega) (by omega) (by omega) (by decide)]; omega
  by_cases c1 : u < 128
  · rw [if_pos c1]
    have := utf1 l fl l.length t u ⟨by simpa using c1, rfl, rfl, by simp; omega, trivial⟩
    rw [show u % 256 = u by omega] at this
    exact this
  rw [if_neg c1]
  by_cases c2 : u < 2048
  · rw [if_pos c2]
    have := utf2 l fl l.length t u ⟨by simpa using c1, by simpa using c2, by omega, rfl, rfl, by simp; omega, trivial⟩
    rw [a6 u (by omega) (by omega), o6, show bitsOf .or .u32 192 (u / 64) % 256 = 192 + u / 64 by rw [or_lead (k := .u32) rfl (by decide) 192 (u / 64) 5 (by omega) (by omega) (by omega) (by decide)]; omega] at this
    exact this
  rw [if_neg c2]
  by_cases c3 : u < 65536
  · rw [if_pos c3]
    have := utf3 l fl l.length t u ⟨by simpa using c1, by simpa using c2, by simpa using c3, by omega, by omega, rfl, rfl, by simp; omega, trivial⟩
    rw [a6 u (by omega) (by omega), a6 (u / 64) (by omega) (by omega), o6, o6, show bitsOf .or .u32 224 (u / 4096) % 256 = 224 + u / 4096 by rw [or_lead (k := .u32) rfl (by decide) 224 (u / 4096) 4 (by omega) (by omega) (by omega) (by decide)]; omega] at this
    exact this
  · rw [if_neg c3]
    have := utf4 l fl l.length t u ⟨by simpa using c1, by simpa using c2, by simpa using c3, by omega, by omega, by omega, rfl, rfl, by simp; omega, trivial⟩
    rw [a6 u (by omega) (by omega), a6 (u / 64) (by omega) (by omega), a6 (u / 4096) (by omega) (by omega), o6, o6, o6, show bitsOf .or .u32 240 (u / 262144) % 256 = 240 + u / 262144 by rw [or_lead (k := .u32) rfl (by decide) 240 (u / 262144) 3 (by omega) (by omega) (by omega) (by decide)]; omega] at this
    exact this

theorem nona_c (l : List Int) (fl : Nat) (t : Bool) (u : Int) (hu : 128 ≤ u ∧ u ≤ 1114111) (hsur : ¬ (55296 ≤ u ∧ u ≤ 57343)) (hl : l.length < lim) :
    SharedTo Tryd.prog 81 [.row 5 1 (.ints .u8 l) fl] [.row rsv 0 l.length l.length t, .v (.int .i32 u)] (.row rsv 0 (l ++ enc8 u).length (l ++ enc8 u).length false) [.row 5 1 (.ints .u8 (l ++ enc8 u)) fl] := by
  unfold lim at hl
  unfold enc8
  have m : u % 4294967296 = u := by omega
  have a6 : ∀ x : Int, 0 ≤ x → bitsOf .and .u8 (x % 256) 63 = x % 64 := fun x h1 => by
    have := and_low (k := .u8) rfl (x := x % 256) (s := 6) (by omega) (by show x % 256 < 256; omega) (by decide)
    have e : ((2 ^ 6 - 1 : Nat) : Int) = 63 := rfl
    rw [e] at this
    rw [this]
    show x % 256 % 64 = _
    omega
  have o6 : ∀ x : Int, bitsOf .or .u8 128 (x % 64) = 128 + x % 64 := fun x => or_lead (k := .u8) rfl (by decide) 128 (x % 64) 6 (by omega) (by omega) (by omega) (by decide)
  rw [if_neg (by omega)]
  by_cases c2 : u < 2048
  · rw [if_pos c2]
    have := nona1 l fl l.length t u ⟨by rw [m]; simp; omega, by omega, rfl, rfl, by simp; omega, trivial⟩
    rw [a6 u (by omega), o6, show u / 64 % 256 = u / 64 by omega, or_lead (k := .u8) rfl (by decide) 192 (u / 64) 5 (by omega) (by omega) (by omega) (by decide)] at this
    exact this
  rw [if_neg c2]
  by_cases c3 : u < 65536
  · rw [if_pos c3]
    have w : bitsOf .or .u8 224 (u / 4096 % 256) = 224 + u / 4096 := by rw [show u / 4096 % 256 = u / 4096 by omega]; exact or_lead (k := .u8) rfl (by decide) 224 (u / 4096) 4 (by omega) (by omega) (by omega) (by decide)
    by_cases c4 : u < 55296
    · have := nona2 l fl l.length t u ⟨by rw [m]; simp; omega, by rw [m]; simp; omega, by omega, by omega, rfl, rfl, by simp; omega, trivial⟩
      rw [a6 u (by omega), a6 (u / 64) (by omega), o6, o6, w] at this
      exact this
    · have := nona3 l fl l.length t u ⟨by rw [m]; simp; omega, by rw [m]; simp; omega, by rw [m]; simp; omega, by rw [m]; simp; omega, by omega, by omega, rfl, rfl, by simp; omega, trivial⟩
      rw [a6 u (by omega), a6 (u / 64) (by omega), o6, o6, w] at this
      exact this
  · rw [if_neg c3]
    have := nona4 l fl l.length t u ⟨by rw [m]; simp; omega, by rw [m]; simp; omega, by rw [m]; simp; omega, by rw [m]; simp; omega, by rw [m]; simp; omega, by rw [m]; simp; omega, by omega, by omega, by omega, rfl, rfl, by simp; omega, trivial⟩
    rw [a6 u (by omega), a6 (u / 64) (by omega), a6 (u / 4096) (by omega), o6, o6, o6, show u / 262144 % 256 = u / 262144 by omega, or_lead (k := .u8) rfl (by decide) 240 (u / 262144) 3 (by omega) (by omega) (by omega) (by decide)] at this
    exact this

def sigUtf : List AObj → List AV → Option (AV × List AObj × List Prop)
  | [.row 5 1 (.ints .u8 l) fl], [.row k 0 n ver _, .v (.int .u32 u)] =>
    some (.row rsv 0 (l ++ enc8 u).length (l ++ enc8 u).length false, [.row 5 1 (.ints .u8 (l ++ enc8 u)) fl], [k = rsv, n = l.length, ver = l.length, 0 ≤ u ∧ u ≤ 1114111, l.length < lim])
  | _, _ => none
def sigNona : List AObj → List AV → Option (AV × List AObj × List Prop)
  | [.row 5 1 (.ints .u8 l) fl], [.row k 0 n ver _, .v (.int .i32 u)] =>
    some (.row rsv 0 (l ++ enc8 u).length (l ++ enc8 u).length false, [.row 5 1 (.ints .u8 (l ++ enc8 u)) fl], [k = rsv, n = l.length, ver = l.length, 128 ≤ u ∧ u ≤ 1114111, ¬ (55296 ≤ u ∧ u ≤ 57343), l.length < lim])
  | _, _ => none

def SG5 : SGT := (71, .s [true, false] sigUtf) :: (81, .s [true, false] sigNona) :: (14, .p (sigS fun s => (.tup [.v (.string (decR s).1), .v (.int .i64 (decR s).2.1), .v (.int .i64 (decR s).2.2)], [SM s]))) ::
  (15, .p (sigS fun s => (.tup [.v (.string (decR s).1), .v (.int .i64 (decR s).2.1), .v (.int .i64 (decR s).2.2)], [SM s]))) :: SG4

theorem sok5 : SigsOK Tryd.prog SG5 := by
  refine sigs_s (sigs_s (sigs_cons (sigs_cons sok4 ?_) ?_) ?_) ?_
  · exact sigS_ok fun s h => rdec_c h.1
  · exact sigS_ok fun s h => dec_c h.1
  · intro os ys r os' c h hc
    unfold sigNona at h
    split at h
    · cases h
      obtain ⟨rfl, rfl, rfl, h1, h2, h3, _⟩ := hc
      exact nona_c _ _ _ _ h1 h2 h3
    · cases h
  · intro os ys r os' c h hc
    unfold sigUtf at h
    split at h
    · cases h
      obtain ⟨rfl, rfl, rfl, h1, h2, _⟩ := hc
      exact utf_c _ _ _ _ h1 h2
    · cases h

end Go.Proofs.Us

/- Texts: walks, written by the tool. -/
set_option maxRecDepth 100000
namespace Go.Proofs.Us
open Go Go.Ev
def rencS0 (s : ByteArray) (x0 : Int) (l0 : List Int) (n0 : Nat) : AS := { n := 75, fr := [(0, AV.v (.string s)), (3, AV.row 1 0 l0.length l0.length false), (4, AV.v (.int .i64 x0))], hp := [(1, AObj.row 5 1 (.ints .u8 l0) n0)], nx := 2 }
def rencX0 (s : ByteArray) (l1 : List Int) (n1 : Nat) : AS := { n := 75, fr := [(3, AV.row 1 0 l1.length l1.length false)], hp := [(1, AObj.row 5 1 (.ints .u8 l1) n1)], nx := 2 }
-- 2 paths
theorem appr1 (l : List Int) (fl n : Nat) (t : Bool) (u : Int) (h : AllP [decide (u % (4294967296 : Int) ≤ (127 : Int)) = true, n = l.length, n = l.length, (l ++ [u % (256 : Int)]).length * 1 ≤ 140737488355328]) : SharedTo Tryd.prog 67 [.row 5 1 (.ints .u8 l) fl] [.row rsv 0 n n t, .v (.int .i32 u)] (AV.row 4294967296 0 (l ++ [u % (256 : Int)]).length (l ++ [u % (256 : Int)]).length false) [AObj.row 5 1 (.ints .u8 (l ++ [u % (256 : Int)])) fl] :=
  evFn_shared hm sok5 (fn := Tryd.f67) rfl rfl (ti := false) (ex := []) (hs := [CHint.ops 1 [(2, Hint.b true)]]) (c := _) (by kernel_rfl) h
theorem appr2 (l : List Int) (fl n : Nat) (t : Bool) (u : Int) (h : AllP [decide (u % (4294967296 : Int) ≤ (127 : Int)) = false, 4294967296 = rsv, n = l.length, n = l.length, (128 : Int) ≤ u ∧ u ≤ (1114111 : Int), ¬((55296 : Int) ≤ u ∧ u ≤ (57343 : Int)), l.length < lim]) : SharedTo Tryd.prog 67 [.row 5 1 (.ints .u8 l) fl] [.row rsv 0 n n t, .v (.int .i32 u)] (AV.row 4294967296 0 (l ++ enc8 u).length (l ++ enc8 u).length false) [AObj.row 5 1 (.ints .u8 (l ++ enc8 u)) (l ++ enc8 u).length] :=
  evFn_shared hm sok5 (fn := Tryd.f67) rfl rfl (ti := false) (ex := []) (hs := [CHint.ops 1 [(2, Hint.b false)]]) (c := _) (by kernel_rfl) h
-- 11 paths
theorem rencL0_1 (s : ByteArray) (x0 : Int) (l0 : List Int) (n0 : Nat) (h : AllP [SZ s, decide (x0 < (↑(ul s) : Int)) = true, SZ s, (0 : Int) ≤ x0 ∧ x0 < (↑(ul s) : Int), high (un s x0.toNat) = true, inR IntKind.i64 (x0 + (1 : Int)), SZ s, decide (x0 + (1 : Int) < (↑(ul s) : Int)) = true, inR IntKind.i64 (x0 + (1 : Int)), SZ s, (0 : Int) ≤ x0 + (1 : Int) ∧ x0 + (1 : Int) < (↑(ul s) : Int), low (un s (x0 + (1 : Int)).toNat) = true, inR IntKind.i64 (x0 + (1 : Int)), inR IntKind.u32 ((un s x0.toNat - (55296 : Int)) % (65536 : Int)), (0 : Int) ≤ (10 : Int), inR IntKind.u32 ((un s x0.toNat - (55296 : Int)) % (65536 : Int) * (1024 : Int)), inR IntKind.u32 ((65536 : Int) + (un s x0.toNat - (55296 : Int)) % (65536 : Int) * (1024 : Int)), SZ s, (0 : Int) ≤ x0 + (1 : Int) ∧ x0 + (1 : Int) < (↑(ul s) : Int), inR IntKind.u32 ((un s (x0 + (1 : Int)).toNat - (56320 : Int)) % (65536 : Int)), inR IntKind.u32 ((65536 : Int) + (un s x0.toNat - (55296 : Int)) % (65536 : Int) * (1024 : Int) + (un s (x0 + (1 : Int)).toNat - (56320 : Int)) % (65536 : Int)), 4294967296 = rsv, l0.length = l0.length, l0.length = l0.length, (0 : Int) ≤ (65536 : Int) + (un s x0.toNat - (55296 : Int)) % (65536 : Int) * (1024 : Int) + (un s (x0 + (1 : Int)).toNat - (56320 : Int)) % (65536 : Int) ∧ (65536 : Int) + (un s x0.toNat - (55296 : Int)) % (65536 : Int) * (1024 : Int) + (un s (x0 + (1 : Int)).toNat - (56320 : Int)) % (65536 : Int) ≤ (1114111 : Int), l0.length < lim, inR IntKind.i64 (x0 + (1 : Int) + (1 : Int))]) : To Tryd.prog (loopAt Tryd.f18 0) ({ n := 75, fr := [(0, AV.v (.string s)), (3, AV.row 1 0 l0.length l0.length false), (4, AV.v (.int .i64 x0))], hp := [(1, AObj.row 5 1 (.ints .u8 l0) n0)], nx := 2 }) (.normal) { n := 75, fr := [(0, AV.v (.string s)), (3, AV.row 1 0 (l0 ++ enc8 ((65536 : Int) + (un s x0.toNat - (55296 : Int)) % (65536 : Int) * (1024 : Int) + (un s (x0 + (1 : Int)).toNat - (56320 : Int)) % (65536 : Int))).length (l0 ++ enc8 ((65536 : Int) + (un s x0.toNat - (55296 : Int)) % (65536 : Int) * (1024 : Int) + (un s (x0 + (1 : Int)).toNat - (56320 : Int)) % (65536 : Int))).length false), (4, AV.v (.int .i64 (x0 + (1 : Int) + (1 : Int))))], hp := [(1, AObj.row 5 1 (.ints .u8 (l0 ++ enc8 ((65536 : Int) + (un s x0.toNat - (55296 : Int)) % (65536 : Int) * (1024 : Int) + (un s (x0 + (1 : Int)).toNat - (56320 : Int)) % (65536 : Int)))) (l0 ++ enc8 ((65536 : Int) + (un s x0.toNat - (55296 : Int)) % (65536 : Int) * (1024 : Int) + (un s (x0 + (1 : Int)).toNat - (56320 : Int)) % (65536 : Int))).length)], nx := 2 } :=
  evW_to hm sok5 (hs := [CHint.ops 3 [(3, Hint.b true)], CHint.ops 6 [(1, Hint.b true), (7, Hint.b true), (14, Hint.b true)], CHint.ops 8 [(2, Hint.wrap), (9, Hint.wrap)]]) (slots := [0, 3, 4]) (keys := [1]) (nx := 2) (c := _) (by kernel_rfl) h
theorem rencL0_2 (s : ByteArray) (x0 : Int) (l0 : List Int) (n0 : Nat) (h : AllP [SZ s, decide (x0 < (↑(ul s) : Int)) = true, SZ s, (0 : Int) ≤ x0 ∧ x0 < (↑(ul s) : Int), high (un s x0.toNat) = true, inR IntKind.i64 (x0 + (1 : Int)), SZ s, decide (x0 + (1 : Int) < (↑(ul s) : Int)) = true, inR IntKind.i64 (x0 + (1 : Int)), SZ s, (0 : Int) ≤ x0 + (1 : Int) ∧ x0 + (1 : Int) < (↑(ul s) : Int), low (un s (x0 + (1 : Int)).toNat) = false, high (un s x0.toNat) = true, (0 : Int) ≤ (12 : Int), (0 : Int) ≤ un s x0.toNat / (4096 : Int) ∧ un s x0.toNat / (4096 : Int) < (16 : Int), (0 : Int) ≤ (8 : Int), (0 : Int) ≤ bitsOf BinOp.and IntKind.u16 (un s x0.toNat / (256 : Int)) (15 : Int) ∧ bitsOf BinOp.and IntKind.u16 (un s x0.toNat / (256 : Int)) (15 : Int) < (16 : Int), (0 : Int) ≤ (4 : Int), (0 : Int) ≤ bitsOf BinOp.and IntKind.u16 (un s x0.toNat / (16 : Int)) (15 : Int) ∧ bitsOf BinOp.and IntKind.u16 (un s x0.toNat / (16 : Int)) (15 : Int) < (16 : Int), (0 : Int) ≤ bitsOf BinOp.and IntKind.u16 (un s x0.toNat) (15 : Int) ∧ bitsOf BinOp.and IntKind.u16 (un s x0.toNat) (15 : Int) < (16 : Int), l0.length = l0.length, l0.length = l0.length, (l0 ++ [(92 : Int), (117 : Int), byteAt (ByteArray.mk #[(48 : UInt8), (49 : UInt8), (50 : UInt8), (51 : UInt8), (52 : UInt8), (53 : UInt8), (54 : UInt8), (55 : UInt8), (56 : UInt8), (57 : UInt8), (65 : UInt8), (66 : UInt8), (67 : UInt8), (68 : UInt8), (69 : UInt8), (70 : UInt8)]) (un s x0.toNat / (4096 : Int)).toNat, byteAt (ByteArray.mk #[(48 : UInt8), (49 : UInt8), (50 : UInt8), (51 : UInt8), (52 : UInt8), (53 : UInt8), (54 : UInt8), (55 : UInt8), (56 : UInt8), (57 : UInt8), (65 : UInt8), (66 : UInt8), (67 : UInt8), (68 : UInt8), (69 : UInt8), (70 : UInt8)]) (bitsOf BinOp.and IntKind.u16 (un s x0.toNat / (256 : Int)) (15 : Int)).toNat, byteAt (ByteArray.mk #[(48 : UInt8), (49 : UInt8), (50 : UInt8), (51 : UInt8), (52 : UInt8), (53 : UInt8), (54 : UInt8), (55 : UInt8), (56 : UInt8), (57 : UInt8), (65 : UInt8), (66 : UInt8), (67 : UInt8), (68 : UInt8), (69 : UInt8), (70 : UInt8)]) (bitsOf BinOp.and IntKind.u16 (un s x0.toNat / (16 : Int)) (15 : Int)).toNat, byteAt (ByteArray.mk #[(48 : UInt8), (49 : UInt8), (50 : UInt8), (51 : UInt8), (52 : UInt8), (53 : UInt8), (54 : UInt8), (55 : UInt8), (56 : UInt8), (57 : UInt8), (65 : UInt8), (66 : UInt8), (67 : UInt8), (68 : UInt8), (69 : UInt8), (70 : UInt8)]) (bitsOf BinOp.and IntKind.u16 (un s x0.toNat) (15 : Int)).toNat]).length * 1 ≤ 140737488355328, inR IntKind.i64 (x0 + (1 : Int))]) : To Tryd.prog (loopAt Tryd.f18 0) ({ n := 75, fr := [(0, AV.v (.string s)), (3, AV.row 1 0 l0.length l0.length false), (4, AV.v (.int .i64 x0))], hp := [(1, AObj.row 5 1 (.ints .u8 l0) n0)], nx := 2 }) (.normal) { n := 75, fr := [(0, AV.v (.string s)), (3, AV.row 1 0 (l0 ++ [(92 : Int), (117 : Int), byteAt (ByteArray.mk #[(48 : UInt8), (49 : UInt8), (50 : UInt8), (51 : UInt8), (52 : UInt8), (53 : UInt8), (54 : UInt8), (55 : UInt8), (56 : UInt8), (57 : UInt8), (65 : UInt8), (66 : UInt8), (67 : UInt8), (68 : UInt8), (69 : UInt8), (70 : UInt8)]) (un s x0.toNat / (4096 : Int)).toNat, byteAt (ByteArray.mk #[(48 : UInt8), (49 : UInt8), (50 : UInt8), (51 : UInt8), (52 : UInt8), (53 : UInt8), (54 : UInt8), (55 : UInt8), (56 : UInt8), (57 : UInt8), (65 : UInt8), (66 : UInt8), (67 : UInt8), (68 : UInt8), (69 : UInt8), (70 : UInt8)]) (bitsOf BinOp.and IntKind.u16 (un s x0.toNat / (256 : Int)) (15 : Int)).toNat, byteAt (ByteArray.mk #[(48 : UInt8), (49 : UInt8), (50 : UInt8), (51 : UInt8), (52 : UInt8), (53 : UInt8), (54 : UInt8), (55 : UInt8), (56 : UInt8), (57 : UInt8), (65 : UInt8), (66 : UInt8), (67 : UInt8), (68 : UInt8), (69 : UInt8), (70 : UInt8)]) (bitsOf BinOp.and IntKind.u16 (un s x0.toNat / (16 : Int)) (15 : Int)).toNat, byteAt (ByteArray.mk #[(48 : UInt8), (49 : UInt8), (50 : UInt8), (51 : UInt8), (52 : UInt8), (53 : UInt8), (54 : UInt8), (55 : UInt8), (56 : UInt8), (57 : UInt8), (65 : UInt8), (66 : UInt8), (67 : UInt8), (68 : UInt8), (69 : UInt8), (70 : UInt8)]) (bitsOf BinOp.and IntKind.u16 (un s x0.toNat) (15 : Int)).toNat]).length (l0 ++ [(92 : Int), (117 : Int), byteAt (ByteArray.mk #[(48 : UInt8), (49 : UInt8), (50 : UInt8), (51 : UInt8), (52 : UInt8), (53 : UInt8), (54 : UInt8), (55 : UInt8), (56 : UInt8), (57 : UInt8), (65 : UInt8), (66 : UInt8), (67 : UInt8), (68 : UInt8), (69 : UInt8), (70 : UInt8)]) (un s x0.toNat / (4096 : Int)).toNat, byteAt (ByteArray.mk #[(48 : UInt8), (49 : UInt8), (50 : UInt8), (51 : UInt8), (52 : UInt8), (53 : UInt8), (54 : UInt8), (55 : UInt8), (56 : UInt8), (57 : UInt8), (65 : UInt8), (66 : UInt8), (67 : UInt8), (68 : UInt8), (69 : UInt8), (70 : UInt8)]) (bitsOf BinOp.and IntKind.u16 (un s x0.toNat / (256 : Int)) (15 : Int)).toNat, byteAt (ByteArray.mk #[(48 : UInt8), (49 : UInt8), (50 : UInt8), (51 : UInt8), (52 : UInt8), (53 : UInt8), (54 : UInt8), (55 : UInt8), (56 : UInt8), (57 : UInt8), (65 : UInt8), (66 : UInt8), (67 : UInt8), (68 : UInt8), (69 : UInt8), (70 : UInt8)]) (bitsOf BinOp.and IntKind.u16 (un s x0.toNat / (16 : Int)) (15 : Int)).toNat, byteAt (ByteArray.mk #[(48 : UInt8), (49 : UInt8), (50 : UInt8), (51 : UInt8), (52 : UInt8), (53 : UInt8), (54 : UInt8), (55 : UInt8), (56 : UInt8), (57 : UInt8), (65 : UInt8), (66 : UInt8), (67 : UInt8), (68 : UInt8), (69 : UInt8), (70 : UInt8)]) (bitsOf BinOp.and IntKind.u16 (un s x0.toNat) (15 : Int)).toNat]).length false), (4, AV.v (.int .i64 (x0 + (1 : Int))))], hp := [(1, AObj.row 5 1 (.ints .u8 (l0 ++ [(92 : Int), (117 : Int), byteAt (ByteArray.mk #[(48 : UInt8), (49 : UInt8), (50 : UInt8), (51 : UInt8), (52 : UInt8), (53 : UInt8), (54 : UInt8), (55 : UInt8), (56 : UInt8), (57 : UInt8), (65 : UInt8), (66 : UInt8), (67 : UInt8), (68 : UInt8), (69 : UInt8), (70 : UInt8)]) (un s x0.toNat / (4096 : Int)).toNat, byteAt (ByteArray.mk #[(48 : UInt8), (49 : UInt8), (50 : UInt8), (51 : UInt8), (52 : UInt8), (53 : UInt8), (54 : UInt8), (55 : UInt8), (56 : UInt8), (57 : UInt8), (65 : UInt8), (66 : UInt8), (67 : UInt8), (68 : UInt8), (69 : UInt8), (70 : UInt8)]) (bitsOf BinOp.and IntKind.u16 (un s x0.toNat / (256 : Int)) (15 : Int)).toNat, byteAt (ByteArray.mk #[(48 : UInt8), (49 : UInt8), (50 : UInt8), (51 : UInt8), (52 : UInt8), (53 : UInt8), (54 : UInt8), (55 : UInt8), (56 : UInt8), (57 : UInt8), (65 : UInt8), (66 : UInt8), (67 : UInt8), (68 : UInt8), (69 : UInt8), (70 : UInt8)]) (bitsOf BinOp.and IntKind.u16 (un s x0.toNat / (16 : Int)) (15 : Int)).toNat, byteAt (ByteArray.mk #[(48 : UInt8), (49 : UInt8), (50 : UInt8), (51 : UInt8), (52 : UInt8), (53 : UInt8), (54 : UInt8), (55 : UInt8), (56 : UInt8), (57 : UInt8), (65 : UInt8), (66 : UInt8), (67 : UInt8), (68 : UInt8), (69 : UInt8), (70 : UInt8)]) (bitsOf BinOp.and IntKind.u16 (un s x0.toNat) (15 : Int)).toNat])) n0)], nx := 2 } :=
  evW_to hm sok5 (hs := [CHint.ops 3 [(3, Hint.b true)], CHint.ops 6 [(1, Hint.b true), (7, Hint.b true), (14, Hint.b false)], CHint.ops 9 [(1, Hint.b true)]]) (slots := [0, 3, 4]) (keys := [1]) (nx := 2) (c := _) (by kernel_rfl) h
theorem rencL0_3 (s : ByteArray) (x0 : Int) (l0 : List Int) (n0 : Nat) (h : AllP [SZ s, decide (x0 < (↑(ul s) : Int)) = true, SZ s, (0 : Int) ≤ x0 ∧ x0 < (↑(ul s) : Int), high (un s x0.toNat) = true, inR IntKind.i64 (x0 + (1 : Int)), SZ s, decide (x0 + (1 : Int) < (↑(ul s) : Int)) = true, inR IntKind.i64 (x0 + (1 : Int)), SZ s, (0 : Int) ≤ x0 + (1 : Int) ∧ x0 + (1 : Int) < (↑(ul s) : Int), low (un s (x0 + (1 : Int)).toNat) = false, high (un s x0.toNat) = false, low (un s x0.toNat) = true, (0 : Int) ≤ (12 : Int), (0 : Int) ≤ un s x0.toNat / (4096 : Int) ∧ un s x0.toNat / (4096 : Int) < (16 : Int), (0 : Int) ≤ (8 : Int), (0 : Int) ≤ bitsOf BinOp.and IntKind.u16 (un s x0.toNat / (256 : Int)) (15 : Int) ∧ bitsOf BinOp.and IntKind.u16 (un s x0.toNat / (256 : Int)) (15 : Int) < (16 : Int), (0 : Int) ≤ (4 : Int), (0 : Int) ≤ bitsOf BinOp.and IntKind.u16 (un s x0.toNat / (16 : Int)) (15 : Int) ∧ bitsOf BinOp.and IntKind.u16 (un s x0.toNat / (16 : Int)) (15 : Int) < (16 : Int), (0 : Int) ≤ bitsOf BinOp.and IntKind.u16 (un s x0.toNat) (15 : Int) ∧ bitsOf BinOp.and IntKind.u16 (un s x0.toNat) (15 : Int) < (16 : Int), l0.length = l0.length, l0.length = l0.length, (l0 ++ [(92 : Int), (117 : Int), byteAt (ByteArray.mk #[(48 : UInt8), (49 : UInt8), (50 : UInt8), (51 : UInt8), (52 : UInt8), (53 : UInt8), (54 : UInt8), (55 : UInt8), (56 : UInt8), (57 : UInt8), (65 : UInt8), (66 : UInt8), (67 : UInt8), (68 : UInt8), (69 : UInt8), (70 : UInt8)]) (un s x0.toNat / (4096 : Int)).toNat, byteAt (ByteArray.mk #[(48 : UInt8), (49 : UInt8), (50 : UInt8), (51 : UInt8), (52 : UInt8), (53 : UInt8), (54 : UInt8), (55 : UInt8), (56 : UInt8), (57 : UInt8), (65 : UInt8), (66 : UInt8), (67 : UInt8), (68 : UInt8), (69 : UInt8), (70 : UInt8)]) (bitsOf BinOp.and IntKind.u16 (un s x0.toNat / (256 : Int)) (15 : Int)).toNat, byteAt (ByteArray.mk #[(48 : UInt8), (49 : UInt8), (50 : UInt8), (51 : UInt8), (52 : UInt8), (53 : UInt8), (54 : UInt8), (55 : UInt8), (56 : UInt8), (57 : UInt8), (65 : UInt8), (66 : UInt8), (67 : UInt8), (68 : UInt8), (69 : UInt8), (70 : UInt8)]) (bitsOf BinOp.and IntKind.u16 (un s x0.toNat / (16 : Int)) (15 : Int)).toNat, byteAt (ByteArray.mk #[(48 : UInt8), (49 : UInt8), (50 : UInt8), (51 : UInt8), (52 : UInt8), (53 : UInt8), (54 : UInt8), (55 : UInt8), (56 : UInt8), (57 : UInt8), (65 : UInt8), (66 : UInt8), (67 : UInt8), (68 : UInt8), (69 : UInt8), (70 : UInt8)]) (bitsOf BinOp.and IntKind.u16 (un s x0.toNat) (15 : Int)).toNat]).length * 1 ≤ 140737488355328, inR IntKind.i64 (x0 + (1 : Int))]) : To Tryd.prog (loopAt Tryd.f18 0) ({ n := 75, fr := [(0, AV.v (.string s)), (3, AV.row 1 0 l0.length l0.length false), (4, AV.v (.int .i64 x0))], hp := [(1, AObj.row 5 1 (.ints .u8 l0) n0)], nx := 2 }) (.normal) { n := 75, fr := [(0, AV.v (.string s)), (3, AV.row 1 0 (l0 ++ [(92 : Int), (117 : Int), byteAt (ByteArray.mk #[(48 : UInt8), (49 : UInt8), (50 : UInt8), (51 : UInt8), (52 : UInt8), (53 : UInt8), (54 : UInt8), (55 : UInt8), (56 : UInt8), (57 : UInt8), (65 : UInt8), (66 : UInt8), (67 : UInt8), (68 : UInt8), (69 : UInt8), (70 : UInt8)]) (un s x0.toNat / (4096 : Int)).toNat, byteAt (ByteArray.mk #[(48 : UInt8), (49 : UInt8), (50 : UInt8), (51 : UInt8), (52 : UInt8), (53 : UInt8), (54 : UInt8), (55 : UInt8), (56 : UInt8), (57 : UInt8), (65 : UInt8), (66 : UInt8), (67 : UInt8), (68 : UInt8), (69 : UInt8), (70 : UInt8)]) (bitsOf BinOp.and IntKind.u16 (un s x0.toNat / (256 : Int)) (15 : Int)).toNat, byteAt (ByteArray.mk #[(48 : UInt8), (49 : UInt8), (50 : UInt8), (51 : UInt8), (52 : UInt8), (53 : UInt8), (54 : UInt8), (55 : UInt8), (56 : UInt8), (57 : UInt8), (65 : UInt8), (66 : UInt8), (67 : UInt8), (68 : UInt8), (69 : UInt8), (70 : UInt8)]) (bitsOf BinOp.and IntKind.u16 (un s x0.toNat / (16 : Int)) (15 : Int)).toNat, byteAt (ByteArray.mk #[(48 : UInt8), (49 : UInt8), (50 : UInt8), (51 : UInt8), (52 : UInt8), (53 : UInt8), (54 : UInt8), (55 : UInt8), (56 : UInt8), (57 : UInt8), (65 : UInt8), (66 : UInt8), (67 : UInt8), (68 : UInt8), (69 : UInt8), (70 : UInt8)]) (bitsOf BinOp.and IntKind.u16 (un s x0.toNat) (15 : Int)).toNat]).length (l0 ++ [(92 : Int), (117 : Int), byteAt (ByteArray.mk #[(48 : UInt8), (49 : UInt8), (50 : UInt8), (51 : UInt8), (52 : UInt8), (53 : UInt8), (54 : UInt8), (55 : UInt8), (56 : UInt8), (57 : UInt8), (65 : UInt8), (66 : UInt8), (67 : UInt8), (68 : UInt8), (69 : UInt8), (70 : UInt8)]) (un s x0.toNat / (4096 : Int)).toNat, byteAt (ByteArray.mk #[(48 : UInt8), (49 : UInt8), (50 : UInt8), (51 : UInt8), (52 : UInt8), (53 : UInt8), (54 : UInt8), (55 : UInt8), (56 : UInt8), (57 : UInt8), (65 : UInt8), (66 : UInt8), (67 : UInt8), (68 : UInt8), (69 : UInt8), (70 : UInt8)]) (bitsOf BinOp.and IntKind.u16 (un s x0.toNat / (256 : Int)) (15 : Int)).toNat, byteAt (ByteArray.mk #[(48 : UInt8), (49 : UInt8), (50 : UInt8), (51 : UInt8), (52 : UInt8), (53 : UInt8), (54 : UInt8), (55 : UInt8), (56 : UInt8), (57 : UInt8), (65 : UInt8), (66 : UInt8), (67 : UInt8), (68 : UInt8), (69 : UInt8), (70 : UInt8)]) (bitsOf BinOp.and IntKind.u16 (un s x0.toNat / (16 : Int)) (15 : Int)).toNat, byteAt (ByteArray.mk #[(48 : UInt8), (49 : UInt8), (50 : UInt8), (51 : UInt8), (52 : UInt8), (53 : UInt8), (54 : UInt8), (55 : UInt8), (56 : UInt8), (57 : UInt8), (65 : UInt8), (66 : UInt8), (67 : UInt8), (68 : UInt8), (69 : UInt8), (70 : UInt8)]) (bitsOf BinOp.and IntKind.u16 (un s x0.toNat) (15 : Int)).toNat]).length false), (4, AV.v (.int .i64 (x0 + (1 : Int))))], hp := [(1, AObj.row 5 1 (.ints .u8 (l0 ++ [(92 : Int), (117 : Int), byteAt (ByteArray.mk #[(48 : UInt8), (49 : UInt8), (50 : UInt8), (51 : UInt8), (52 : UInt8), (53 : UInt8), (54 : UInt8), (55 : UInt8), (56 : UInt8), (57 : UInt8), (65 : UInt8), (66 : UInt8), (67 : UInt8), (68 : UInt8), (69 : UInt8), (70 : UInt8)]) (un s x0.toNat / (4096 : Int)).toNat, byteAt (ByteArray.mk #[(48 : UInt8), (49 : UInt8), (50 : UInt8), (51 : UInt8), (52 : UInt8), (53 : UInt8), (54 : UInt8), (55 : UInt8), (56 : UInt8), (57 : UInt8), (65 : UInt8), (66 : UInt8), (67 : UInt8), (68 : UInt8), (69 : UInt8), (70 : UInt8)]) (bitsOf BinOp.and IntKind.u16 (un s x0.toNat / (256 : Int)) (15 : Int)).toNat, byteAt (ByteArray.mk #[(48 : UInt8), (49 : UInt8), (50 : UInt8), (51 : UInt8), (52 : UInt8), (53 : UInt8), (54 : UInt8), (55 : UInt8), (56 : UInt8), (57 : UInt8), (65 : UInt8), (66 : UInt8), (67 : UInt8), (68 : UInt8), (69 : UInt8), (70 : UInt8)]) (bitsOf BinOp.and IntKind.u16 (un s x0.toNat / (16 : Int)) (15 : Int)).toNat, byteAt (ByteArray.mk #[(48 : UInt8), (49 : UInt8), (50 : UInt8), (51 : UInt8), (52 : UInt8), (53 : UInt8), (54 : UInt8), (55 : UInt8), (56 : UInt8), (57 : UInt8), (65 : UInt8), (66 : UInt8), (67 : UInt8), (68 : UInt8), (69 : UInt8), (70 : UInt8)]) (bitsOf BinOp.and IntKind.u16 (un s x0.toNat) (15 : Int)).toNat])) n0)], nx := 2 } :=
  evW_to hm sok5 (hs := [CHint.ops 3 [(3, Hint.b true)], CHint.ops 6 [(1, Hint.b true), (7, Hint.b true), (14, Hint.b false)], CHint.ops 9 [(1, Hint.b false), (4, Hint.b true)]]) (slots := [0, 3, 4]) (keys := [1]) (nx := 2) (c := _) (by kernel_rfl) h
theorem rencL0_4 (s : ByteArray) (x0 : Int) (l0 : List Int) (n0 : Nat) (h : AllP [SZ s, decide (x0 < (↑(ul s) : Int)) = true, SZ s, (0 : Int) ≤ x0 ∧ x0 < (↑(ul s) : Int), high (un s x0.toNat) = true, inR IntKind.i64 (x0 + (1 : Int)), SZ s, decide (x0 + (1 : Int) < (↑(ul s) : Int)) = true, inR IntKind.i64 (x0 + (1 : Int)), SZ s, (0 : Int) ≤ x0 + (1 : Int) ∧ x0 + (1 : Int) < (↑(ul s) : Int), low (un s (x0 + (1 : Int)).toNat) = false, high (un s x0.toNat) = false, low (un s x0.toNat) = false, inR IntKind.u32 (un s x0.toNat), 4294967296 = rsv, l0.length = l0.length, l0.length = l0.length, (0 : Int) ≤ un s x0.toNat ∧ un s x0.toNat ≤ (1114111 : Int), l0.length < lim, inR IntKind.i64 (x0 + (1 : Int))]) : To Tryd.prog (loopAt Tryd.f18 0) ({ n := 75, fr := [(0, AV.v (.string s)), (3, AV.row 1 0 l0.length l0.length false), (4, AV.v (.int .i64 x0))], hp := [(1, AObj.row 5 1 (.ints .u8 l0) n0)], nx := 2 }) (.normal) { n := 75, fr := [(0, AV.v (.string s)), (3, AV.row 1 0 (l0 ++ enc8 (un s x0.toNat)).length (l0 ++ enc8 (un s x0.toNat)).length false), (4, AV.v (.int .i64 (x0 + (1 : Int))))], hp := [(1, AObj.row 5 1 (.ints .u8 (l0 ++ enc8 (un s x0.toNat))) (l0 ++ enc8 (un s x0.toNat)).length)], nx := 2 } :=
  evW_to hm sok5 (hs := [CHint.ops 3 [(3, Hint.b true)], CHint.ops 6 [(1, Hint.b true), (7, Hint.b true), (14, Hint.b false)], CHint.ops 9 [(1, Hint.b false), (4, Hint.b false)]]) (slots := [0, 3, 4]) (keys := [1]) (nx := 2) (c := _) (by kernel_rfl) h
theorem rencL0_5 (s : ByteArray) (x0 : Int) (l0 : List Int) (n0 : Nat) (h : AllP [SZ s, decide (x0 < (↑(ul s) : Int)) = true, SZ s, (0 : Int) ≤ x0 ∧ x0 < (↑(ul s) : Int), high (un s x0.toNat) = true, inR IntKind.i64 (x0 + (1 : Int)), SZ s, decide (x0 + (1 : Int) < (↑(ul s) : Int)) = false, high (un s x0.toNat) = true, (0 : Int) ≤ (12 : Int), (0 : Int) ≤ un s x0.toNat / (4096 : Int) ∧ un s x0.toNat / (4096 : Int) < (16 : Int), (0 : Int) ≤ (8 : Int), (0 : Int) ≤ bitsOf BinOp.and IntKind.u16 (un s x0.toNat / (256 : Int)) (15 : Int) ∧ bitsOf BinOp.and IntKind.u16 (un s x0.toNat / (256 : Int)) (15 : Int) < (16 : Int), (0 : Int) ≤ (4 : Int), (0 : Int) ≤ bitsOf BinOp.and IntKind.u16 (un s x0.toNat / (16 : Int)) (15 : Int) ∧ bitsOf BinOp.and IntKind.u16 (un s x0.toNat / (16 : Int)) (15 : Int) < (16 : Int), (0 : Int) ≤ bitsOf BinOp.and IntKind.u16 (un s x0.toNat) (15 : Int) ∧ bitsOf BinOp.and IntKind.u16 (un s x0.toNat) (15 : Int) < (16 : Int), l0.length = l0.length, l0.length = l0.length, (l0 ++ [(92 : Int), (117 : Int), byteAt (ByteArray.mk #[(48 : UInt8), (49 : UInt8), (50 : UInt8), (51 : UInt8), (52 : UInt8), (53 : UInt8), (54 : UInt8), (55 : UInt8), (56 : UInt8), (57 : UInt8), (65 : UInt8), (66 : UInt8), (67 : UInt8), (68 : UInt8), (69 : UInt8), (70 : UInt8)]) (un s x0.toNat / (4096 : Int)).toNat, byteAt (ByteArray.mk #[(48 : UInt8), (49 : UInt8), (50 : UInt8), (51 : UInt8), (52 : UInt8), (53 : UInt8), (54 : UInt8), (55 : UInt8), (56 : UInt8), (57 : UInt8), (65 : UInt8), (66 : UInt8), (67 : UInt8), (68 : UInt8), (69 : UInt8), (70 : UInt8)]) (bitsOf BinOp.and IntKind.u16 (un s x0.toNat / (256 : Int)) (15 : Int)).toNat, byteAt (ByteArray.mk #[(48 : UInt8), (49 : UInt8), (50 : UInt8), (51 : UInt8), (52 : UInt8), (53 : UInt8), (54 : UInt8), (55 : UInt8), (56 : UInt8), (57 : UInt8), (65 : UInt8), (66 : UInt8), (67 : UInt8), (68 : UInt8), (69 : UInt8), (70 : UInt8)]) (bitsOf BinOp.and IntKind.u16 (un s x0.toNat / (16 : Int)) (15 : Int)).toNat, byteAt (ByteArray.mk #[(48 : UInt8), (49 : UInt8), (50 : UInt8), (51 : UInt8), (52 : UInt8), (53 : UInt8), (54 : UInt8), (55 : UInt8), (56 : UInt8), (57 : UInt8), (65 : UInt8), (66 : UInt8), (67 : UInt8), (68 : UInt8), (69 : UInt8), (70 : UInt8)]) (bitsOf BinOp.and IntKind.u16 (un s x0.toNat) (15 : Int)).toNat]).length * 1 ≤ 140737488355328, inR IntKind.i64 (x0 + (1 : Int))]) : To Tryd.prog (loopAt Tryd.f18 0) ({ n := 75, fr := [(0, AV.v (.string s)), (3, AV.row 1 0 l0.length l0.length false), (4, AV.v (.int .i64 x0))], hp := [(1, AObj.row 5 1 (.ints .u8 l0) n0)], nx := 2 }) (.normal) { n := 75, fr := [(0, AV.v (.string s)), (3, AV.row 1 0 (l0 ++ [(92 : Int), (117 : Int), byteAt (ByteArray.mk #[(48 : UInt8), (49 : UInt8), (50 : UInt8), (51 : UInt8), (52 : UInt8), (53 : UInt8), (54 : UInt8), (55 : UInt8), (56 : UInt8), (57 : UInt8), (65 : UInt8), (66 : UInt8), (67 : UInt8), (68 : UInt8), (69 : UInt8), (70 : UInt8)]) (un s x0.toNat / (4096 : Int)).toNat, byteAt (ByteArray.mk #[(48 : UInt8), (49 : UInt8), (50 : UInt8), (51 : UInt8), (52 : UInt8), (53 : UInt8), (54 : UInt8), (55 : UInt8), (56 : UInt8), (57 : UInt8), (65 : UInt8), (66 : UInt8), (67 : UInt8), (68 : UInt8), (69 : UInt8), (70 : UInt8)]) (bitsOf BinOp.and IntKind.u16 (un s x0.toNat / (256 : Int)) (15 : Int)).toNat, byteAt (ByteArray.mk #[(48 : UInt8), (49 : UInt8), (50 : UInt8), (51 : UInt8), (52 : UInt8), (53 : UInt8), (54 : UInt8), (55 : UInt8), (56 : UInt8), (57 : UInt8), (65 : UInt8), (66 : UInt8), (67 : UInt8), (68 : UInt8), (69 : UInt8), (70 : UInt8)]) (bitsOf BinOp.and IntKind.u16 (un s x0.toNat / (16 : Int)) (15 : Int)).toNat, byteAt (ByteArray.mk #[(48 : UInt8), (49 : UInt8), (50 : UInt8), (51 : UInt8), (52 : UInt8), (53 : UInt8), (54 : UInt8), (55 : UInt8), (56 : UInt8), (57 : UInt8), (65 : UInt8), (66 : UInt8), (67 : UInt8), (68 : UInt8), (69 : UInt8), (70 : UInt8)]) (bitsOf BinOp.and IntKind.u16 (un s x0.toNat) (15 : Int)).toNat]).length (l0 ++ [(92 : Int), (117 : Int), byteAt (ByteArray.mk #[(48 : UInt8), (49 : UInt8), (50 : UInt8), (51 : UInt8), (52 : UInt8), (53 : UInt8), (54 : UInt8), (55 : UInt8), (56 : UInt8), (57 : UInt8), (65 : UInt8), (66 : UInt8), (67 : UInt8), (68 : UInt8), (69 : UInt8), (70 : UInt8)]) (un s x0.toNat / (4096 : Int)).toNat, byteAt (ByteArray.mk #[(48 : UInt8), (49 : UInt8), (50 : UInt8), (51 : UInt8), (52 : UInt8), (53 : UInt8), (54 : UInt8), (55 : UInt8), (56 : UInt8), (57 : UInt8), (65 : UInt8), (66 : UInt8), (67 : UInt8), (68 : UInt8), (69 : UInt8), (70 : UInt8)]) (bitsOf BinOp.and IntKind.u16 (un s x0.toNat / (256 : Int)) (15 : Int)).toNat, byteAt (ByteArray.mk #[(48 : UInt8), (49 : UInt8), (50 : UInt8), (51 : UInt8), (52 : UInt8), (53 : UInt8), (54 : UInt8), (55 : UInt8), (56 : UInt8), (57 : UInt8), (65 : UInt8), (66 : UInt8), (67 : UInt8), (68 : UInt8), (69 : UInt8), (70 : UInt8)]) (bitsOf BinOp.and IntKind.u16 (un s x0.toNat / (16 : Int)) (15 : Int)).toNat, byteAt (ByteArray.mk #[(48 : UInt8), (49 : UInt8), (50 : UInt8), (51 : UInt8), (52 : UInt8), (53 : UInt8), (54 : UInt8), (55 : UInt8), (56 : UInt8), (57 : UInt8), (65 : UInt8), (66 : UInt8), (67 : UInt8), (68 : UInt8), (69 : UInt8), (70 : UInt8)]) (bitsOf BinOp.and IntKind.u16 (un s x0.toNat) (15 : Int)).toNat]).length false), (4, AV.v (.int .i64 (x0 + (1 : Int))))], hp := [(1, AObj.row 5 1 (.ints .u8 (l0 ++ [(92 : Int), (117 : Int), byteAt (ByteArray.mk #[(48 : UInt8), (49 : UInt8), (50 : UInt8), (51 : UInt8), (52 : UInt8), (53 : UInt8), (54 : UInt8), (55 : UInt8), (56 : UInt8), (57 : UInt8), (65 : UInt8), (66 : UInt8), (67 : UInt8), (68 : UInt8), (69 : UInt8), (70 : UInt8)]) (un s x0.toNat / (4096 : Int)).toNat, byteAt (ByteArray.mk #[(48 : UInt8), (49 : UInt8), (50 : UInt8), (51 : UInt8), (52 : UInt8), (53 : UInt8), (54 : UInt8), (55 : UInt8), (56 : UInt8), (57 : UInt8), (65 : UInt8), (66 : UInt8), (67 : UInt8), (68 : UInt8), (69 : UInt8), (70 : UInt8)]) (bitsOf BinOp.and IntKind.u16 (un s x0.toNat / (256 : Int)) (15 : Int)).toNat, byteAt (ByteArray.mk #[(48 : UInt8), (49 : UInt8), (50 : UInt8), (51 : UInt8), (52 : UInt8), (53 : UInt8), (54 : UInt8), (55 : UInt8), (56 : UInt8), (57 : UInt8), (65 : UInt8), (66 : UInt8), (67 : UInt8), (68 : UInt8), (69 : UInt8), (70 : UInt8)]) (bitsOf BinOp.and IntKind.u16 (un s x0.toNat / (16 : Int)) (15 : Int)).toNat, byteAt (ByteArray.mk #[(48 : UInt8), (49 : UInt8), (50 : UInt8), (51 : UInt8), (52 : UInt8), (53 : UInt8), (54 : UInt8), (55 : UInt8), (56 : UInt8), (57 : UInt8), (65 : UInt8), (66 : UInt8), (67 : UInt8), (68 : UInt8), (69 : UInt8), (70 : UInt8)]) (bitsOf BinOp.and IntKind.u16 (un s x0.toNat) (15 : Int)).toNat])) n0)], nx := 2 } :=
  evW_to hm sok5 (hs := [CHint.ops 3 [(3, Hint.b true)], CHint.ops 6 [(1, Hint.b true), (7, Hint.b false)], CHint.ops 9 [(1, Hint.b true)]]) (slots := [0, 3, 4]) (keys := [1]) (nx := 2) (c := _) (by kernel_rfl) h
theorem rencL0_6 (s : ByteArray) (x0 : Int) (l0 : List Int) (n0 : Nat) (h : AllP [SZ s, decide (x0 < (↑(ul s) : Int)) = true, SZ s, (0 : Int) ≤ x0 ∧ x0 < (↑(ul s) : Int), high (un s x0.toNat) = true, inR IntKind.i64 (x0 + (1 : Int)), SZ s, decide (x0 + (1 : Int) < (↑(ul s) : Int)) = false, high (un s x0.toNat) = false, low (un s x0.toNat) = true, (0 : Int) ≤ (12 : Int), (0 : Int) ≤ un s x0.toNat / (4096 : Int) ∧ un s x0.toNat / (4096 : Int) < (16 : Int), (0 : Int) ≤ (8 : Int), (0 : Int) ≤ bitsOf BinOp.and IntKind.u16 (un s x0.toNat / (256 : Int)) (15 : Int) ∧ bitsOf BinOp.and IntKind.u16 (un s x0.toNat / (256 : Int)) (15 : Int) < (16 : Int), (0 : Int) ≤ (4 : Int), (0 : Int) ≤ bitsOf BinOp.and IntKind.u16 (un s x0.toNat / (16 : Int)) (15 : Int) ∧ bitsOf BinOp.and IntKind.u16 (un s x0.toNat / (16 : Int)) (15 : Int) < (16 : Int), (0 : Int) ≤ bitsOf BinOp.and IntKind.u16 (un s x0.toNat) (15 : Int) ∧ bitsOf BinOp.and IntKind.u16 (un s x0.toNat) (15 : Int) < (16 : Int), l0.length = l0.length, l0.length = l0.length, (l0 ++ [(92 : Int), (117 : Int), byteAt (ByteArray.mk #[(48 : UInt8), (49 : UInt8), (50 : UInt8), (51 : UInt8), (52 : UInt8), (53 : UInt8), (54 : UInt8), (55 : UInt8), (56 : UInt8), (57 : UInt8), (65 : UInt8), (66 : UInt8), (67 : UInt8), (68 : UInt8), (69 : UInt8), (70 : UInt8)]) (un s x0.toNat / (4096 : Int)).toNat, byteAt (ByteArray.mk #[(48 : UInt8), (49 : UInt8), (50 : UInt8), (51 : UInt8), (52 : UInt8), (53 : UInt8), (54 : UInt8), (55 : UInt8), (56 : UInt8), (57 : UInt8), (65 : UInt8), (66 : UInt8), (67 : UInt8), (68 : UInt8), (69 : UInt8), (70 : UInt8)]) (bitsOf BinOp.and IntKind.u16 (un s x0.toNat / (256 : Int)) (15 : Int)).toNat, byteAt (ByteArray.mk #[(48 : UInt8), (49 : UInt8), (50 : UInt8), (51 : UInt8), (52 : UInt8), (53 : UInt8), (54 : UInt8), (55 : UInt8), (56 : UInt8), (57 : UInt8), (65 : UInt8), (66 : UInt8), (67 : UInt8), (68 : UInt8), (69 : UInt8), (70 : UInt8)]) (bitsOf BinOp.and IntKind.u16 (un s x0.toNat / (16 : Int)) (15 : Int)).toNat, byteAt (ByteArray.mk #[(48 : UInt8), (49 : UInt8), (50 : UInt8), (51 : UInt8), (52 : UInt8), (53 : UInt8), (54 : UInt8), (55 : UInt8), (56 : UInt8), (57 : UInt8), (65 : UInt8), (66 : UInt8), (67 : UInt8), (68 : UInt8), (69 : UInt8), (70 : UInt8)]) (bitsOf BinOp.and IntKind.u16 (un s x0.toNat) (15 : Int)).toNat]).length * 1 ≤ 140737488355328, inR IntKind.i64 (x0 + (1 : Int))]) : To Tryd.prog (loopAt Tryd.f18 0) ({ n := 75, fr := [(0, AV.v (.string s)), (3, AV.row 1 0 l0.length l0.length false), (4, AV.v (.int .i64 x0))], hp := [(1, AObj.row 5 1 (.ints .u8 l0) n0)], nx := 2 }) (.normal) { n := 75, fr := [(0, AV.v (.string s)), (3, AV.row 1 0 (l0 ++ [(92 : Int), (117 : Int), byteAt (ByteArray.mk #[(48 : UInt8), (49 : UInt8), (50 : UInt8), (51 : UInt8), (52 : UInt8), (53 : UInt8), (54 : UInt8), (55 : UInt8), (56 : UInt8), (57 : UInt8), (65 : UInt8), (66 : UInt8), (67 : UInt8), (68 : UInt8), (69 : UInt8), (70 : UInt8)]) (un s x0.toNat / (4096 : Int)).toNat, byteAt (ByteArray.mk #[(48 : UInt8), (49 : UInt8), (50 : UInt8), (51 : UInt8), (52 : UInt8), (53 : UInt8), (54 : UInt8), (55 : UInt8), (56 : UInt8), (57 : UInt8), (65 : UInt8), (66 : UInt8), (67 : UInt8), (68 : UInt8), (69 : UInt8), (70 : UInt8)]) (bitsOf BinOp.and IntKind.u16 (un s x0.toNat / (256 : Int)) (15 : Int)).toNat, byteAt (ByteArray.mk #[(48 : UInt8), (49 : UInt8), (50 : UInt8), (51 : UInt8), (52 : UInt8), (53 : UInt8), (54 : UInt8), (55 : UInt8), (56 : UInt8), (57 : UInt8), (65 : UInt8), (66 : UInt8), (67 : UInt8), (68 : UInt8), (69 : UInt8), (70 : UInt8)]) (bitsOf BinOp.and IntKind.u16 (un s x0.toNat / (16 : Int)) (15 : Int)).toNat, byteAt (ByteArray.mk #[(48 : UInt8), (49 : UInt8), (50 : UInt8), (51 : UInt8), (52 : UInt8), (53 : UInt8), (54 : UInt8), (55 : UInt8), (56 : UInt8), (57 : UInt8), (65 : UInt8), (66 : UInt8), (67 : UInt8), (68 : UInt8), (69 : UInt8), (70 : UInt8)]) (bitsOf BinOp.and IntKind.u16 (un s x0.toNat) (15 : Int)).toNat]).length (l0 ++ [(92 : Int), (117 : Int), byteAt (ByteArray.mk #[(48 : UInt8), (49 : UInt8), (50 : UInt8), (51 : UInt8), (52 : UInt8), (53 : UInt8), (54 : UInt8), (55 : UInt8), (56 : UInt8), (57 : UInt8), (65 : UInt8), (66 : UInt8), (67 : UInt8), (68 : UInt8), (69 : UInt8), (70 : UInt8)]) (un s x0.toNat / (4096 : Int)).toNat, byteAt (ByteArray.mk #[(48 : UInt8), (49 : UInt8), (50 : UInt8), (51 : UInt8), (52 : UInt8), (53 : UInt8), (54 : UInt8), (55 : UInt8), (56 : UInt8), (57 : UInt8), (65 : UInt8), (66 : UInt8), (67 : UInt8), (68 : UInt8), (69 : UInt8), (70 : UInt8)]) (bitsOf BinOp.and IntKind.u16 (un s x0.toNat / (256 : Int)) (15 : Int)).toNat, byteAt (ByteArray.mk #[(48 : UInt8), (49 : UInt8), (50 : UInt8), (51 : UInt8), (52 : UInt8), (53 : UInt8), (54 : UInt8), (55 : UInt8), (56 : UInt8), (57 : UInt8), (65 : UInt8), (66 : UInt8), (67 : UInt8), (68 : UInt8), (69 : UInt8), (70 : UInt8)]) (bitsOf BinOp.and IntKind.u16 (un s x0.toNat / (16 : Int)) (15 : Int)).toNat, byteAt (ByteArray.mk #[(48 : UInt8), (49 : UInt8), (50 : UInt8), (51 : UInt8), (52 : UInt8), (53 : UInt8), (54 : UInt8), (55 : UInt8), (56 : UInt8), (57 : UInt8), (65 : UInt8), (66 : UInt8), (67 : UInt8), (68 : UInt8), (69 : UInt8), (70 : UInt8)]) (bitsOf BinOp.and IntKind.u16 (un s x0.toNat) (15 : Int)).toNat]).length false), (4, AV.v (.int .i64 (x0 + (1 : Int))))], hp := [(1, AObj.row 5 1 (.ints .u8 (l0 ++ [(92 : Int), (117 : Int), byteAt (ByteArray.mk #[(48 : UInt8), (49 : UInt8), (50 : UInt8), (51 : UInt8), (52 : UInt8), (53 : UInt8), (54 : UInt8), (55 : UInt8), (56 : UInt8), (57 : UInt8), (65 : UInt8), (66 : UInt8), (67 : UInt8), (68 : UInt8), (69 : UInt8), (70 : UInt8)]) (un s x0.toNat / (4096 : Int)).toNat, byteAt (ByteArray.mk #[(48 : UInt8), (49 : UInt8), (50 : UInt8), (51 : UInt8), (52 : UInt8), (53 : UInt8), (54 : UInt8), (55 : UInt8), (56 : UInt8), (57 : UInt8), (65 : UInt8), (66 : UInt8), (67 : UInt8), (68 : UInt8), (69 : UInt8), (70 : UInt8)]) (bitsOf BinOp.and IntKind.u16 (un s x0.toNat / (256 : Int)) (15 : Int)).toNat, byteAt (ByteArray.mk #[(48 : UInt8), (49 : UInt8), (50 : UInt8), (51 : UInt8), (52 : UInt8), (53 : UInt8), (54 : UInt8), (55 : UInt8), (56 : UInt8), (57 : UInt8), (65 : UInt8), (66 : UInt8), (67 : UInt8), (68 : UInt8), (69 : UInt8), (70 : UInt8)]) (bitsOf BinOp.and IntKind.u16 (un s x0.toNat / (16 : Int)) (15 : Int)).toNat, byteAt (ByteArray.mk #[(48 : UInt8), (49 : UInt8), (50 : UInt8), (51 : UInt8), (52 : UInt8), (53 : UInt8), (54 : UInt8), (55 : UInt8), (56 : UInt8), (57 : UInt8), (65 : UInt8), (66 : UInt8), (67 : UInt8), (68 : UInt8), (69 : UInt8), (70 : UInt8)]) (bitsOf BinOp.and IntKind.u16 (un s x0.toNat) (15 : Int)).toNat])) n0)], nx := 2 } :=
  evW_to hm sok5 (hs := [CHint.ops 3 [(3, Hint.b true)], CHint.ops 6 [(1, Hint.b true), (7, Hint.b false)], CHint.ops 9 [(1, Hint.b false), (4, Hint.b true)]]) (slots := [0, 3, 4]) (keys := [1]) (nx := 2) (c := _) (by kernel_rfl) h
theorem rencL0_7 (s : ByteArray) (x0 : Int) (l0 : List Int) (n0 : Nat) (h : AllP [SZ s, decide (x0 < (↑(ul s) : Int)) = true, SZ s, (0 : Int) ≤ x0 ∧ x0 < (↑(ul s) : Int), high (un s x0.toNat) = true, inR IntKind.i64 (x0 + (1 : Int)), SZ s, decide (x0 + (1 : Int) < (↑(ul s) : Int)) = false, high (un s x0.toNat) = false, low (un s x0.toNat) = false, inR IntKind.u32 (un s x0.toNat), 4294967296 = rsv, l0.length = l0.length, l0.length = l0.length, (0 : Int) ≤ un s x0.toNat ∧ un s x0.toNat ≤ (1114111 : Int), l0.length < lim, inR IntKind.i64 (x0 + (1 : Int))]) : To Tryd.prog (loopAt Tryd.f18 0) ({ n := 75, fr := [(0, AV.v (.string s)), (3, AV.row 1 0 l0.length l0.length false), (4, AV.v (.int .i64 x0))], hp := [(1, AObj.row 5 1 (.ints .u8 l0) n0)], nx := 2 }) (.normal) { n := 75, fr := [(0, AV.v (.string s)), (3, AV.row 1 0 (l0 ++ enc8 (un s x0.toNat)).length (l0 ++ enc8 (un s x0.toNat)).length false), (4, AV.v (.int .i64 (x0 + (1 : Int))))], hp := [(1, AObj.row 5 1 (.ints .u8 (l0 ++ enc8 (un s x0.toNat))) (l0 ++ enc8 (un s x0.toNat)).length)], nx := 2 } :=
  evW_to hm sok5 (hs := [CHint.ops 3 [(3, Hint.b true)], CHint.ops 6 [(1, Hint.b true), (7, Hint.b false)], CHint.ops 9 [(1, Hint.b false), (4, Hint.b false)]]) (slots := [0, 3, 4]) (keys := [1]) (nx := 2) (c := _) (by kernel_rfl) h
theorem rencL0_8 (s : ByteArray) (x0 : Int) (l0 : List Int) (n0 : Nat) (h : AllP [SZ s, decide (x0 < (↑(ul s) : Int)) = true, SZ s, (0 : Int) ≤ x0 ∧ x0 < (↑(ul s) : Int), high (un s x0.toNat) = false, high (un s x0.toNat) = true, (0 : Int) ≤ (12 : Int), (0 : Int) ≤ un s x0.toNat / (4096 : Int) ∧ un s x0.toNat / (4096 : Int) < (16 : Int), (0 : Int) ≤ (8 : Int), (0 : Int) ≤ bitsOf BinOp.and IntKind.u16 (un s x0.toNat / (256 : Int)) (15 : Int) ∧ bitsOf BinOp.and IntKind.u16 (un s x0.toNat / (256 : Int)) (15 : Int) < (16 : Int), (0 : Int) ≤ (4 : Int), (0 : Int) ≤ bitsOf BinOp.and IntKind.u16 (un s x0.toNat / (16 : Int)) (15 : Int) ∧ bitsOf BinOp.and IntKind.u16 (un s x0.toNat / (16 : Int)) (15 : Int) < (16 : Int), (0 : Int) ≤ bitsOf BinOp.and IntKind.u16 (un s x0.toNat) (15 : Int) ∧ bitsOf BinOp.and IntKind.u16 (un s x0.toNat) (15 : Int) < (16 : Int), l0.length = l0.length, l0.length = l0.length, (l0 ++ [(92 : Int), (117 : Int), byteAt (ByteArray.mk #[(48 : UInt8), (49 : UInt8), (50 : UInt8), (51 : UInt8), (52 : UInt8), (53 : UInt8), (54 : UInt8), (55 : UInt8), (56 : UInt8), (57 : UInt8), (65 : UInt8), (66 : UInt8), (67 : UInt8), (68 : UInt8), (69 : UInt8), (70 : UInt8)]) (un s x0.toNat / (4096 : Int)).toNat, byteAt (ByteArray.mk #[(48 : UInt8), (49 : UInt8), (50 : UInt8), (51 : UInt8), (52 : UInt8), (53 : UInt8), (54 : UInt8), (55 : UInt8), (56 : UInt8), (57 : UInt8), (65 : UInt8), (66 : UInt8), (67 : UInt8), (68 : UInt8), (69 : UInt8), (70 : UInt8)]) (bitsOf BinOp.and IntKind.u16 (un s x0.toNat / (256 : Int)) (15 : Int)).toNat, byteAt (ByteArray.mk #[(48 : UInt8), (49 : UInt8), (50 : UInt8), (51 : UInt8), (52 : UInt8), (53 : UInt8), (54 : UInt8), (55 : UInt8), (56 : UInt8), (57 : UInt8), (65 : UInt8), (66 : UInt8), (67 : UInt8), (68 : UInt8), (69 : UInt8), (70 : UInt8)]) (bitsOf BinOp.and IntKind.u16 (un s x0.toNat / (16 : Int)) (15 : Int)).toNat, byteAt (ByteArray.mk #[(48 : UInt8), (49 : UInt8), (50 : UInt8), (51 : UInt8), (52 : UInt8), (53 : UInt8), (54 : UInt8), (55 : UInt8), (56 : UInt8), (57 : UInt8), (65 : UInt8), (66 : UInt8), (67 : UInt8), (68 : UInt8), (69 : UInt8), (70 : UInt8)]) (bitsOf BinOp.and IntKind.u16 (un s x0.toNat) (15 : Int)).toNat]).length * 1 ≤ 140737488355328, inR IntKind.i64 (x0 + (1 : Int))]) : To Tryd.prog (loopAt Tryd.f18 0) ({ n := 75, fr := [(0, AV.v (.string s)), (3, AV.row 1 0 l0.length l0.length false), (4, AV.v (.int .i64 x0))], hp := [(1, AObj.row 5 1 (.ints .u8 l0) n0)], nx := 2 }) (.normal) { n := 75, fr := [(0, AV.v (.string s)), (3, AV.row 1 0 (l0 ++ [(92 : Int), (117 : Int), byteAt (ByteArray.mk #[(48 : UInt8), (49 : UInt8), (50 : UInt8), (51 : UInt8), (52 : UInt8), (53 : UInt8), (54 : UInt8), (55 : UInt8), (56 : UInt8), (57 : UInt8), (65 : UInt8), (66 : UInt8), (67 : UInt8), (68 : UInt8), (69 : UInt8), (70 : UInt8)]) (un s x0.toNat / (4096 : Int)).toNat, byteAt (ByteArray.mk #[(48 : UInt8), (49 : UInt8), (50 : UInt8), (51 : UInt8), (52 : UInt8), (53 : UInt8), (54 : UInt8), (55 : UInt8), (56 : UInt8), (57 : UInt8), (65 : UInt8), (66 : UInt8), (67 : UInt8), (68 : UInt8), (69 : UInt8), (70 : UInt8)]) (bitsOf BinOp.and IntKind.u16 (un s x0.toNat / (256 : Int)) (15 : Int)).toNat, byteAt (ByteArray.mk #[(48 : UInt8), (49 : UInt8), (50 : UInt8), (51 : UInt8), (52 : UInt8), (53 : UInt8), (54 : UInt8), (55 : UInt8), (56 : UInt8), (57 : UInt8), (65 : UInt8), (66 : UInt8), (67 : UInt8), (68 : UInt8), (69 : UInt8), (70 : UInt8)]) (bitsOf BinOp.and IntKind.u16 (un s x0.toNat / (16 : Int)) (15 : Int)).toNat, byteAt (ByteArray.mk #[(48 : UInt8), (49 : UInt8), (50 : UInt8), (51 : UInt8), (52 : UInt8), (53 : UInt8), (54 : UInt8), (55 : UInt8), (56 : UInt8), (57 : UInt8), (65 : UInt8), (66 : UInt8), (67 : UInt8), (68 : UInt8), (69 : UInt8), (70 : UInt8)]) (bitsOf BinOp.and IntKind.u16 (un s x0.toNat) (15 : Int)).toNat]).length (l0 ++ [(92 : Int), (117 : Int), byteAt (ByteArray.mk #[(48 : UInt8), (49 : UInt8), (50 : UInt8), (51 : UInt8), (52 : UInt8), (53 : UInt8), (54 : UInt8), (55 : UInt8), (56 : UInt8), (57 : UInt8), (65 : UInt8), (66 : UInt8), (67 : UInt8), (68 : UInt8), (69 : UInt8), (70 : UInt8)]) (un s x0.toNat / (4096 : Int)).toNat, byteAt (ByteArray.mk #[(48 : UInt8), (49 : UInt8), (50 : UInt8), (51 : UInt8), (52 : UInt8), (53 : UInt8), (54 : UInt8), (55 : UInt8), (56 : UInt8), (57 : UInt8), (65 : UInt8), (66 : UInt8), (67 : UInt8), (68 : UInt8), (69 : UInt8), (70 : UInt8)]) (bitsOf BinOp.and IntKind.u16 (un s x0.toNat / (256 : Int)) (15 : Int)).toNat, byteAt (ByteArray.mk #[(48 : UInt8), (49 : UInt8), (50 : UInt8), (51 : UInt8), (52 : UInt8), (53 : UInt8), (54 : UInt8), (55 : UInt8), (56 : UInt8), (57 : UInt8), (65 : UInt8), (66 : UInt8), (67 : UInt8), (68 : UInt8), (69 : UInt8), (70 : UInt8)]) (bitsOf BinOp.and IntKind.u16 (un s x0.toNat / (16 : Int)) (15 : Int)).toNat, byteAt (ByteArray.mk #[(48 : UInt8), (49 : UInt8), (50 : UInt8), (51 : UInt8), (52 : UInt8), (53 : UInt8), (54 : UInt8), (55 : UInt8), (56 : UInt8), (57 : UInt8), (65 : UInt8), (66 : UInt8), (67 : UInt8), (68 : UInt8), (69 : UInt8), (70 : UInt8)]) (bitsOf BinOp.and IntKind.u16 (un s x0.toNat) (15 : Int)).toNat]).length false), (4, AV.v (.int .i64 (x0 + (1 : Int))))], hp := [(1, AObj.row 5 1 (.ints .u8 (l0 ++ [(92 : Int), (117 : Int), byteAt (ByteArray.mk #[(48 : UInt8), (49 : UInt8), (50 : UInt8), (51 : UInt8), (52 : UInt8), (53 : UInt8), (54 : UInt8), (55 : UInt8), (56 : UInt8), (57 : UInt8), (65 : UInt8), (66 : UInt8), (67 : UInt8), (68 : UInt8), (69 : UInt8), (70 : UInt8)]) (un s x0.toNat / (4096 : Int)).toNat, byteAt (ByteArray.mk #[(48 : UInt8), (49 : UInt8), (50 : UInt8), (51 : UInt8), (52 : UInt8), (53 : UInt8), (54 : UInt8), (55 : UInt8), (56 : UInt8), (57 : UInt8), (65 : UInt8), (66 : UInt8), (67 : UInt8), (68 : UInt8), (69 : UInt8), (70 : UInt8)]) (bitsOf BinOp.and IntKind.u16 (un s x0.toNat / (256 : Int)) (15 : Int)).toNat, byteAt (ByteArray.mk #[(48 : UInt8), (49 : UInt8), (50 : UInt8), (51 : UInt8), (52 : UInt8), (53 : UInt8), (54 : UInt8), (55 : UInt8), (56 : UInt8), (57 : UInt8), (65 : UInt8), (66 : UInt8), (67 : UInt8), (68 : UInt8), (69 : UInt8), (70 : UInt8)]) (bitsOf BinOp.and IntKind.u16 (un s x0.toNat / (16 : Int)) (15 : Int)).toNat, byteAt (ByteArray.mk #[(48 : UInt8), (49 : UInt8), (50 : UInt8), (51 : UInt8), (52 : UInt8), (53 : UInt8), (54 : UInt8), (55 : UInt8), (56 : UInt8), (57 : UInt8), (65 : UInt8), (66 : UInt8), (67 : UInt8), (68 : UInt8), (69 : UInt8), (70 : UInt8)]) (bitsOf BinOp.and IntKind.u16 (un s x0.toNat) (15 : Int)).toNat])) n0)], nx := 2 } :=
  evW_to hm sok5 (hs := [CHint.ops 3 [(3, Hint.b true)], CHint.ops 6 [(1, Hint.b false)], CHint.ops 9 [(1, Hint.b true)]]) (slots := [0, 3, 4]) (keys := [1]) (nx := 2) (c := _) (by kernel_rfl) h
theorem rencL0_9 (s : ByteArray) (x0 : Int) (l0 : List Int) (n0 : Nat) (h : AllP [SZ s, decide (x0 < (↑(ul s) : Int)) = true, SZ s, (0 : Int) ≤ x0 ∧ x0 < (↑(ul s) : Int), high (un s x0.toNat) = false, high (un s x0.toNat) = false, low (un s x0.toNat) = true, (0 : Int) ≤ (12 : Int), (0 : Int) ≤ un s x0.toNat / (4096 : Int) ∧ un s x0.toNat / (4096 : Int) < (16 : Int), (0 : Int) ≤ (8 : Int), (0 : Int) ≤ bitsOf BinOp.and IntKind.u16 (un s x0.toNat / (256 : Int)) (15 : Int) ∧ bitsOf BinOp.and IntKind.u16 (un s x0.toNat / (256 : Int)) (15 : Int) < (16 : Int), (0 : Int) ≤ (4 : Int), (0 : Int) ≤ bitsOf BinOp.and IntKind.u16 (un s x0.toNat / (16 : Int)) (15 : Int) ∧ bitsOf BinOp.and IntKind.u16 (un s x0.toNat / (16 : Int)) (15 : Int) < (16 : Int), (0 : Int) ≤ bitsOf BinOp.and IntKind.u16 (un s x0.toNat) (15 : Int) ∧ bitsOf BinOp.and IntKind.u16 (un s x0.toNat) (15 : Int) < (16 : Int), l0.length = l0.length, l0.length = l0.length, (l0 ++ [(92 : Int), (117 : Int), byteAt (ByteArray.mk #[(48 : UInt8), (49 : UInt8), (50 : UInt8), (51 : UInt8), (52 : UInt8), (53 : UInt8), (54 : UInt8), (55 : UInt8), (56 : UInt8), (57 : UInt8), (65 : UInt8), (66 : UInt8), (67 : UInt8), (68 : UInt8), (69 : UInt8), (70 : UInt8)]) (un s x0.toNat / (4096 : Int)).toNat, byteAt (ByteArray.mk #[(48 : UInt8), (49 : UInt8), (50 : UInt8), (51 : UInt8), (52 : UInt8), (53 : UInt8), (54 : UInt8), (55 : UInt8), (56 : UInt8), (57 : UInt8), (65 : UInt8), (66 : UInt8), (67 : UInt8), (68 : UInt8), (69 : UInt8), (70 : UInt8)]) (bitsOf BinOp.and IntKind.u16 (un s x0.toNat / (256 : Int)) (15 : Int)).toNat, byteAt (ByteArray.mk #[(48 : UInt8), (49 : UInt8), (50 : UInt8), (51 : UInt8), (52 : UInt8), (53 : UInt8), (54 : UInt8), (55 : UInt8), (56 : UInt8), (57 : UInt8), (65 : UInt8), (66 : UInt8), (67 : UInt8), (68 : UInt8), (69 : UInt8), (70 : UInt8)]) (bitsOf BinOp.and IntKind.u16 (un s x0.toNat / (16 : Int)) (15 : Int)).toNat, byteAt (ByteArray.mk #[(48 : UInt8), (49 : UInt8), (50 : UInt8), (51 : UInt8), (52 : UInt8), (53 : UInt8), (54 : UInt8), (55 : UInt8), (56 : UInt8), (57 : UInt8), (65 : UInt8), (66 : UInt8), (67 : UInt8), (68 : UInt8), (69 : UInt8), (70 : UInt8)]) (bitsOf BinOp.and IntKind.u16 (un s x0.toNat) (15 : Int)).toNat]).length * 1 ≤ 140737488355328, inR IntKind.i64 (x0 + (1 : Int))]) : To Tryd.prog (loopAt Tryd.f18 0) ({ n := 75, fr := [(0, AV.v (.string s)), (3, AV.row 1 0 l0.length l0.length false), (4, AV.v (.int .i64 x0))], hp := [(1, AObj.row 5 1 (.ints .u8 l0) n0)], nx := 2 }) (.normal) { n := 75, fr := [(0, AV.v (.string s)), (3, AV.row 1 0 (l0 ++ [(92 : Int), (117 : Int), byteAt (ByteArray.mk #[(48 : UInt8), (49 : UInt8), (50 : UInt8), (51 : UInt8), (52 : UInt8), (53 : UInt8), (54 : UInt8), (55 : UInt8), (56 : UInt8), (57 : UInt8), (65 : UInt8), (66 : UInt8), (67 : UInt8), (68 : UInt8), (69 : UInt8), (70 : UInt8)]) (un s x0.toNat / (4096 : Int)).toNat, byteAt (ByteArray.mk #[(48 : UInt8), (49 : UInt8), (50 : UInt8), (51 : UInt8), (52 : UInt8), (53 : UInt8), (54 : UInt8), (55 : UInt8), (56 : UInt8), (57 : UInt8), (65 : UInt8), (66 : UInt8), (67 : UInt8), (68 : UInt8), (69 : UInt8), (70 : UInt8)]) (bitsOf BinOp.and IntKind.u16 (un s x0.toNat / (256 : Int)) (15 : Int)).toNat, byteAt (ByteArray.mk #[(48 : UInt8), (49 : UInt8), (50 : UInt8), (51 : UInt8), (52 : UInt8), (53 : UInt8), (54 : UInt8), (55 : UInt8), (56 : UInt8), (57 : UInt8), (65 : UInt8), (66 : UInt8), (67 : UInt8), (68 : UInt8), (69 : UInt8), (70 : UInt8)]) (bitsOf BinOp.and IntKind.u16 (un s x0.toNat / (16 : Int)) (15 : Int)).toNat, byteAt (ByteArray.mk #[(48 : UInt8), (49 : UInt8), (50 : UInt8), (51 : UInt8), (52 : UInt8), (53 : UInt8), (54 : UInt8), (55 : UInt8), (56 : UInt8), (57 : UInt8), (65 : UInt8), (66 : UInt8), (67 : UInt8), (68 : UInt8), (69 : UInt8), (70 : UInt8)]) (bitsOf BinOp.and IntKind.u16 (un s x0.toNat) (15 : Int)).toNat]).length (l0 ++ [(92 : Int), (117 : Int), byteAt (ByteArray.mk #[(48 : UInt8), (49 : UInt8), (50 : UInt8), (51 : UInt8), (52 : UInt8), (53 : UInt8), (54 : UInt8), (55 : UInt8), (56 : UInt8), (57 : UInt8), (65 : UInt8), (66 : UInt8), (67 : UInt8), (68 : UInt8), (69 : UInt8), (70 : UInt8)]) (un s x0.toNat / (4096 : Int)).toNat, byteAt (ByteArray.mk #[(48 : UInt8), (49 : UInt8), (50 : UInt8), (51 : UInt8), (52 : UInt8), (53 : UInt8), (54 : UInt8), (55 : UInt8), (56 : UInt8), (57 : UInt8), (65 : UInt8), (66 : UInt8), (67 : UInt8), (68 : UInt8), (69 : UInt8), (70 : UInt8)]) (bitsOf BinOp.and IntKind.u16 (un s x0.toNat / (256 : Int)) (15 : Int)).toNat, byteAt (ByteArray.mk #[(48 : UInt8), (49 : UInt8), (50 : UInt8), (51 : UInt8), (52 : UInt8), (53 : UInt8), (54 : UInt8), (55 : UInt8), (56 : UInt8), (57 : UInt8), (65 : UInt8), (66 : UInt8), (67 : UInt8), (68 : UInt8), (69 : UInt8), (70 : UInt8)]) (bitsOf BinOp.and IntKind.u16 (un s x0.toNat / (16 : Int)) (15 : Int)).toNat, byteAt (ByteArray.mk #[(48 : UInt8), (49 : UInt8), (50 : UInt8), (51 : UInt8), (52 : UInt8), (53 : UInt8), (54 : UInt8), (55 : UInt8), (56 : UInt8), (57 : UInt8), (65 : UInt8), (66 : UInt8), (67 : UInt8), (68 : UInt8), (69 : UInt8), (70 : UInt8)]) (bitsOf BinOp.and IntKind.u16 (un s x0.toNat) (15 : Int)).toNat]).length false), (4, AV.v (.int .i64 (x0 + (1 : Int))))], hp := [(1, AObj.row 5 1 (.ints .u8 (l0 ++ [(92 : Int), (117 : Int), byteAt (ByteArray.mk #[(48 : UInt8), (49 : UInt8), (50 : UInt8), (51 : UInt8), (52 : UInt8), (53 : UInt8), (54 : UInt8), (55 : UInt8), (56 : UInt8), (57 : UInt8), (65 : UInt8), (66 : UInt8), (67 : UInt8), (68 : UInt8), (69 : UInt8), (70 : UInt8)]) (un s x0.toNat / (4096 : Int)).toNat, byteAt (ByteArray.mk #[(48 : UInt8), (49 : UInt8), (50 : UInt8), (51 : UInt8), (52 : UInt8), (53 : UInt8), (54 : UInt8), (55 : UInt8), (56 : UInt8), (57 : UInt8), (65 : UInt8), (66 : UInt8), (67 : UInt8), (68 : UInt8), (69 : UInt8), (70 : UInt8)]) (bitsOf BinOp.and IntKind.u16 (un s x0.toNat / (256 : Int)) (15 : Int)).toNat, byteAt (ByteArray.mk #[(48 : UInt8), (49 : UInt8), (50 : UInt8), (51 : UInt8), (52 : UInt8), (53 : UInt8), (54 : UInt8), (55 : UInt8), (56 : UInt8), (57 : UInt8), (65 : UInt8), (66 : UInt8), (67 : UInt8), (68 : UInt8), (69 : UInt8), (70 : UInt8)]) (bitsOf BinOp.and IntKind.u16 (un s x0.toNat / (16 : Int)) (15 : Int)).toNat, byteAt (ByteArray.mk #[(48 : UInt8), (49 : UInt8), (50 : UInt8), (51 : UInt8), (52 : UInt8), (53 : UInt8), (54 : UInt8), (55 : UInt8), (56 : UInt8), (57 : UInt8), (65 : UInt8), (66 : UInt8), (67 : UInt8), (68 : UInt8), (69 : UInt8), (70 : UInt8)]) (bitsOf BinOp.and IntKind.u16 (un s x0.toNat) (15 : Int)).toNat])) n0)], nx := 2 } :=
  evW_to hm sok5 (hs := [CHint.ops 3 [(3, Hint.b true)], CHint.ops 6 [(1, Hint.b false)], CHint.ops 9 [(1, Hint.b false), (4, Hint.b true)]]) (slots := [0, 3, 4]) (keys := [1]) (nx := 2) (c := _) (by kernel_rfl) h
theorem rencL0_10 (s : ByteArray) (x0 : Int) (l0 : List Int) (n0 : Nat) (h : AllP [SZ s, decide (x0 < (↑(ul s) : Int)) = true, SZ s, (0 : Int) ≤ x0 ∧ x0 < (↑(ul s) : Int), high (un s x0.toNat) = false, high (un s x0.toNat) = false, low (un s x0.toNat) = false, inR IntKind.u32 (un s x0.toNat), 4294967296 = rsv, l0.length = l0.length, l0.length = l0.length, (0 : Int) ≤ un s x0.toNat ∧ un s x0.toNat ≤ (1114111 : Int), l0.length < lim, inR IntKind.i64 (x0 + (1 : Int))]) : To Tryd.prog (loopAt Tryd.f18 0) ({ n := 75, fr := [(0, AV.v (.string s)), (3, AV.row 1 0 l0.length l0.length false), (4, AV.v (.int .i64 x0))], hp := [(1, AObj.row 5 1 (.ints .u8 l0) n0)], nx := 2 }) (.normal) { n := 75, fr := [(0, AV.v (.string s)), (3, AV.row 1 0 (l0 ++ enc8 (un s x0.toNat)).length (l0 ++ enc8 (un s x0.toNat)).length false), (4, AV.v (.int .i64 (x0 + (1 : Int))))], hp := [(1, AObj.row 5 1 (.ints .u8 (l0 ++ enc8 (un s x0.toNat))) (l0 ++ enc8 (un s x0.toNat)).length)], nx := 2 } :=
  evW_to hm sok5 (hs := [CHint.ops 3 [(3, Hint.b true)], CHint.ops 6 [(1, Hint.b false)], CHint.ops 9 [(1, Hint.b false), (4, Hint.b false)]]) (slots := [0, 3, 4]) (keys := [1]) (nx := 2) (c := _) (by kernel_rfl) h
theorem rencL0_11 (s : ByteArray) (x0 : Int) (l0 : List Int) (n0 : Nat) (h : AllP [SZ s, decide (x0 < (↑(ul s) : Int)) = false]) : To Tryd.prog (loopAt Tryd.f18 0) ({ n := 75, fr := [(0, AV.v (.string s)), (3, AV.row 1 0 l0.length l0.length false), (4, AV.v (.int .i64 x0))], hp := [(1, AObj.row 5 1 (.ints .u8 l0) n0)], nx := 2 }) (Exit.exit 0) { n := 75, fr := [(3, AV.row 1 0 l0.length l0.length false)], hp := [(1, AObj.row 5 1 (.ints .u8 l0) n0)], nx := 2 } :=
  evW_to hm sok5 (hs := [CHint.ops 3 [(3, Hint.b false)]]) (slots := [3]) (keys := [1]) (nx := 2) (c := _) (by kernel_rfl) h
-- 1 paths
theorem rencF1 (s : ByteArray) (l1 : List Int) (n1 : Nat) (h : AllP [LoopTo Tryd.prog (loopAt Tryd.f18 0) { n := 75, fr := [(0, AV.v (.string s)), (3, AV.row 1 0 0 0 false), (4, AV.v (.int .i64 (0 : Int)))], hp := [(1, AObj.row 5 1 (.ints .u8 []) 0)], nx := 2 } (Exit.exit 0) { n := 75, fr := [(3, AV.row 1 0 l1.length l1.length false)], hp := [(1, AObj.row 5 1 (.ints .u8 l1) n1)], nx := 2 }, l1.length = l1.length, n1 ≤ l1.length]) : PureTo Tryd.prog 18 [.v (.string s)] (AV.v (.string (strOfInts l1))) :=
  evFn_pure hm sok5 (fn := Tryd.f18) rfl rfl (ti := false) (hs := [CHint.ops 1 [(0, Hint.nil 5)], CHint.loop [0, 3, 4] [1] 2 (Exit.exit 0) { n := 75, fr := [(3, AV.row 1 0 l1.length l1.length false)], hp := [(1, AObj.row (5 : TypeId) 1 (.ints .u8 l1) n1)], nx := 2 }]) (c := _) (by kernel_rfl) h
end Go.Proofs.Us

/- Texts: a code point behind a row, as Go's library writes it. -/
set_option maxRecDepth 100000
namespace Go.Proofs.Us
open Go Go.Ev

theorem appr_c (l : List Int) (fl : Nat) (t : Bool) (u : Int) (hu : 0 ≤ u ∧ u ≤ 1114111) (hsur : ¬ (55296 ≤ u ∧ u ≤ 57343)) (hl : l.length < lim) :
    SharedTo Tryd.prog 67 [.row 5 1 (.ints .u8 l) fl] [.row rsv 0 l.length l.length t, .v (.int .i32 u)] (.row rsv 0 (l ++ enc8 u).length (l ++ enc8 u).length false) [.row 5 1 (.ints .u8 (l ++ enc8 u)) (bif decide (u < 128) then fl else (l ++ enc8 u).length)] := by
  have m : u % 4294967296 = u := by omega
  by_cases c : u < 128
  · have := appr1 l fl l.length t u ⟨by rw [m]; simp; omega, rfl, rfl, by unfold lim at hl; simp; omega, trivial⟩
    rw [show u % 256 = u by omega] at this
    have e : enc8 u = [u] := by unfold enc8; rw [if_pos c]
    rw [e, show decide (u < 128) = true by simpa using c]
    exact this
  · have := appr2 l fl l.length t u ⟨by rw [m]; simp; omega, rfl, rfl, rfl, by omega, hsur, hl, trivial⟩
    rw [show decide (u < 128) = false by simpa using c]
    exact this

def sigAppr : List AObj → List AV → Option (AV × List AObj × List Prop)
  | [.row 5 1 (.ints .u8 l) fl], [.row k 0 n ver _, .v (.int .i32 u)] =>
    some (.row rsv 0 (l ++ enc8 u).length (l ++ enc8 u).length false, [.row 5 1 (.ints .u8 (l ++ enc8 u)) (bif decide (u < 128) then fl else (l ++ enc8 u).length)], [k = rsv, n = l.length, ver = l.length, 0 ≤ u ∧ u ≤ 1114111, ¬ (55296 ≤ u ∧ u ≤ 57343), l.length < lim])
  | _, _ => none

def SG6 : SGT := (67, .s [true, false] sigAppr) :: SG5

theorem sok6 : SigsOK Tryd.prog SG6 := by
  refine sigs_s sok5 ?_
  intro os ys r os' c h hc
  unfold sigAppr at h
  split at h
  · cases h
    obtain ⟨rfl, rfl, rfl, h1, h2, h3, _⟩ := hc
    exact appr_c _ _ _ _ h1 h2 h3
  · cases h

end Go.Proofs.Us
