/- Contracts of the program's functions, and the plain law behind them. No condition beyond those in each statement. -/
import Derived.Test.YthceebioiinhiaaNuAll8
import Derived.Test.YthceebioiinhiaaRnAll1
import Derived.Test.YthceebioiinhiaaEvAll6
set_option linter.unusedSimpArgs false
set_option linter.unusedVariables false
set_option linter.unusedSectionVars false
/- Numbers: the table with the reference's naturals. -/
set_option maxRecDepth 100000
namespace Go.Proofs.Nu
open Go Go.Ev
theorem look_app {α : Type} (A B : List (Nat × α)) (g : Nat) : Ev.look (A ++ B) g = match Ev.look A g with | some x => some x | none => Ev.look B g := by
  induction A with
  | nil => rfl
  | cons x A ih =>
    obtain ⟨k, v⟩ := x
    rw [List.cons_append, look_cons, look_cons]
    by_cases h : k = g
    · rw [if_pos h, if_pos h]
    · rw [if_neg h, if_neg h]; exact ih
theorem sigs_app {P : Program} {A B : SGT} (ha : SigsOK P A) (hb : SigsOK P B) : SigsOK P (A ++ B) := by
  intro f sig h
  rw [look_app] at h
  cases hA : Ev.look A f with
  | some x => rw [hA] at h; exact ha f sig (by rw [hA]; exact h)
  | none => rw [hA] at h; exact hb f sig h
def SM6 : SGT := Bn.RS5 ++ SM3
theorem soM6 : SigsOK Try.prog SM6 := sigs_app Bn.rsok5 soM3
end Go.Proofs.Nu

/- Numbers: walks, written by the tool. -/
set_option maxRecDepth 100000
namespace Go.Proofs.Nu
open Go Go.Ev
def partsS0 (x : Nat) (x0 : Int) (x1 : Int) : AS := { n := 43, fr := [(6, AV.v (.int .u64 x0)), (7, AV.v (.int .i64 x1))], hp := [], nx := 0 }
def partsX0 (x : Nat) (x2 : Int) (x3 : Int) : AS := { n := 43, fr := [(6, AV.v (.int .u64 x2)), (7, AV.v (.int .i64 x3))], hp := [], nx := 0 }
-- 2 paths
theorem partsL0_1 (x : Nat) (x0 : Int) (x1 : Int) (h : AllP [(bitsOf BinOp.and IntKind.u64 x0 (1 : Int) == (0 : Int)) = true, (0 : Int) ≤ (1 : Int), inR IntKind.i64 (x1 + (1 : Int))]) : To Try.prog (loopAt Try.f67 0) ({ n := 43, fr := [(6, AV.v (.int .u64 x0)), (7, AV.v (.int .i64 x1))], hp := [], nx := 0 }) (.normal) { n := 43, fr := [(6, AV.v (.int .u64 (x0 / (2 : Int)))), (7, AV.v (.int .i64 (x1 + (1 : Int))))], hp := [], nx := 0 } :=
  evW_to hm soM6 (hs := [CHint.ops 11 [(2, Hint.b true)]]) (slots := [6, 7]) (keys := []) (nx := 0) (c := _) (by kernel_rfl) h
theorem partsL0_2 (x : Nat) (x0 : Int) (x1 : Int) (h : AllP [(bitsOf BinOp.and IntKind.u64 x0 (1 : Int) == (0 : Int)) = false]) : To Try.prog (loopAt Try.f67 0) ({ n := 43, fr := [(6, AV.v (.int .u64 x0)), (7, AV.v (.int .i64 x1))], hp := [], nx := 0 }) (Exit.exit 0) { n := 43, fr := [(6, AV.v (.int .u64 x0)), (7, AV.v (.int .i64 x1))], hp := [], nx := 0 } :=
  evW_to hm soM6 (hs := [CHint.ops 11 [(2, Hint.b false)]]) (slots := [6, 7]) (keys := []) (nx := 0) (c := _) (by kernel_rfl) h
-- 6 paths
theorem partsF1 (x : Nat) (x2 : Int) (x3 : Int) (h : AllP [isNaN x = true]) : PureTo Try.prog 67 [.v (.float .f64 x)] (AV.tup [AV.sl 1 (.ints .u32 []) false, AV.v (.int .i64 (0 : Int)), AV.v (.int .i64 (1 : Int))]) :=
  evFn_pure hm soM6 (fn := Try.f67) rfl rfl (ti := false) (hs := [CHint.ops 1 [(1, Hint.b true)]]) (c := _) (by kernel_rfl) h
theorem partsF2 (x : Nat) (x2 : Int) (x3 : Int) (h : AllP [isNaN x = false, isInf x (0 : Int) = true]) : PureTo Try.prog 67 [.v (.float .f64 x)] (AV.tup [AV.sl 1 (.ints .u32 []) false, AV.v (.int .i64 (0 : Int)), AV.v (.int .i64 (1 : Int))]) :=
  evFn_pure hm soM6 (fn := Try.f67) rfl rfl (ti := false) (hs := [CHint.ops 1 [(1, Hint.b false), (4, Hint.b true)]]) (c := _) (by kernel_rfl) h
theorem partsF3 (x : Nat) (x2 : Int) (x3 : Int) (h : AllP [isNaN x = false, isInf x (0 : Int) = false, flt FloatKind.f64 x 0 = true]) : PureTo Try.prog 67 [.v (.float .f64 x)] (AV.tup [AV.sl 1 (.ints .u32 []) false, AV.v (.int .i64 (0 : Int)), AV.v (.int .i64 (1 : Int))]) :=
  evFn_pure hm soM6 (fn := Try.f67) rfl rfl (ti := false) (hs := [CHint.ops 1 [(1, Hint.b false), (4, Hint.b false), (8, Hint.b true)]]) (c := _) (by kernel_rfl) h
theorem partsF4 (x : Nat) (x2 : Int) (x3 : Int) (h : AllP [isNaN x = false, isInf x (0 : Int) = false, flt FloatKind.f64 x 0 = false, feq FloatKind.f64 x 0 = true]) : PureTo Try.prog 67 [.v (.float .f64 x)] (AV.tup [AV.sl 1 (.ints .u32 []) false, AV.v (.int .i64 (0 : Int)), AV.v (.int .i64 (0 : Int))]) :=
  evFn_pure hm soM6 (fn := Try.f67) rfl rfl (ti := false) (hs := [CHint.ops 1 [(1, Hint.b false), (4, Hint.b false), (8, Hint.b false)], CHint.ops 3 [(1, Hint.b true)]]) (c := _) (by kernel_rfl) h
theorem partsF5 (x : Nat) (x2 : Int) (x3 : Int) (h : AllP [isNaN x = false, isInf x (0 : Int) = false, flt FloatKind.f64 x 0 = false, feq FloatKind.f64 x 0 = false, (0 : Int) ≤ (52 : Int), inR IntKind.i64 (IntKind.i64.wrap ((↑x : Int) / (4503599627370496 : Int)) - (1075 : Int)), (0 : Int) ≤ (52 : Int), ((↑x : Int) / (4503599627370496 : Int) == (0 : Int)) = true, LoopTo Try.prog (loopAt Try.f67 0) { n := 43, fr := [(6, AV.v (.int .u64 (bitsOf BinOp.and IntKind.u64 (↑x : Int) (4503599627370495 : Int)))), (7, AV.v (.int .i64 (-1074 : Int)))], hp := [], nx := 0 } (Exit.exit 0) { n := 43, fr := [(6, AV.v (.int .u64 x2)), (7, AV.v (.int .i64 x3))], hp := [], nx := 0 }, (0 : Int) ≤ x2, x2 < (18446744073709551616 : Int)]) : PureTo Try.prog 67 [.v (.float .f64 x)] (AV.tup [AV.sl 1 (.ints .u32 (Bn.dig x2.toNat)) false, AV.v (.int .i64 x3), AV.v (.int .i64 (0 : Int))]) :=
  evFn_pure hm soM6 (fn := Try.f67) rfl rfl (ti := false) (hs := [CHint.ops 1 [(1, Hint.b false), (4, Hint.b false), (8, Hint.b false)], CHint.ops 3 [(1, Hint.b false)], CHint.ops 8 [(2, Hint.b true)], CHint.loop [6, 7] [] 0 (Exit.exit 0) { n := 43, fr := [(6, AV.v (.int .u64 x2)), (7, AV.v (.int .i64 x3))], hp := [], nx := 0 }]) (c := _) (by kernel_rfl) h
theorem partsF6 (x : Nat) (x2 : Int) (x3 : Int) (h : AllP [isNaN x = false, isInf x (0 : Int) = false, flt FloatKind.f64 x 0 = false, feq FloatKind.f64 x 0 = false, (0 : Int) ≤ (52 : Int), inR IntKind.i64 (IntKind.i64.wrap ((↑x : Int) / (4503599627370496 : Int)) - (1075 : Int)), (0 : Int) ≤ (52 : Int), ((↑x : Int) / (4503599627370496 : Int) == (0 : Int)) = false, LoopTo Try.prog (loopAt Try.f67 0) { n := 43, fr := [(6, AV.v (.int .u64 (bitsOf BinOp.or IntKind.u64 (bitsOf BinOp.and IntKind.u64 (↑x : Int) (4503599627370495 : Int)) (4503599627370496 : Int)))), (7, AV.v (.int .i64 (IntKind.i64.wrap ((↑x : Int) / (4503599627370496 : Int)) - (1075 : Int))))], hp := [], nx := 0 } (Exit.exit 0) { n := 43, fr := [(6, AV.v (.int .u64 x2)), (7, AV.v (.int .i64 x3))], hp := [], nx := 0 }, (0 : Int) ≤ x2, x2 < (18446744073709551616 : Int)]) : PureTo Try.prog 67 [.v (.float .f64 x)] (AV.tup [AV.sl 1 (.ints .u32 (Bn.dig x2.toNat)) false, AV.v (.int .i64 x3), AV.v (.int .i64 (0 : Int))]) :=
  evFn_pure hm soM6 (fn := Try.f67) rfl rfl (ti := false) (hs := [CHint.ops 1 [(1, Hint.b false), (4, Hint.b false), (8, Hint.b false)], CHint.ops 3 [(1, Hint.b false)], CHint.ops 8 [(2, Hint.b false)], CHint.loop [6, 7] [] 0 (Exit.exit 0) { n := 43, fr := [(6, AV.v (.int .u64 x2)), (7, AV.v (.int .i64 x3))], hp := [], nx := 0 }]) (c := _) (by kernel_rfl) h
end Go.Proofs.Nu

/- Numbers: a float's parts. -/
set_option maxRecDepth 100000
set_option exponentiation.threshold 2200
namespace Go.Proofs.Nu
open Go Go.Ev Bn

/-- an odd number and a power of 2 -/
def strip : Nat → Nat → Nat × Nat
  | 0, n => (n, 0)
  | f + 1, n => if n % 2 = 0 then ((strip f (n / 2)).1, (strip f (n / 2)).2 + 1) else (n, 0)

theorem strip_is : ∀ f n, (strip f n).1 * 2 ^ (strip f n).2 = n := by
  intro f
  induction f with
  | zero => intro n; simp [strip]
  | succ f ih =>
    intro n
    unfold strip
    split
    · next h =>
      show (strip f (n / 2)).1 * 2 ^ ((strip f (n / 2)).2 + 1) = n
      rw [Nat.pow_succ, ← Nat.mul_assoc, ih]; omega
    · simp
theorem strip_le : ∀ f n, (strip f n).2 ≤ f := by
  intro f
  induction f with
  | zero => intro n; exact Nat.le_refl _
  | succ f ih =>
    intro n
    unfold strip
    split
    · exact Nat.succ_le_succ (ih _)
    · exact Nat.zero_le _

theorem and_one {n : Nat} (h : n < 18446744073709551616) : bitsOf BinOp.and IntKind.u64 (n : Int) (1 : Int) = ((n % 2 : Nat) : Int) := by
  have := and_low (k := .u64) rfl (x := (n : Int)) (s := 1) (by omega) (by show _ < (2 ^ 64 : Int); omega) (by decide)
  rw [show (((2 ^ 1 - 1 : Nat)) : Int) = 1 from rfl, show ((2 ^ 1 : Nat) : Int) = 2 from rfl] at this
  rw [this]; omega

theorem parts_loop (x : Nat) : ∀ (f n : Nat) (e : Int), 0 < n → n < 2 ^ f → f ≤ 63 → -5000 ≤ e → e + (f : Int) ≤ 5000 →
    LoopTo Try.prog (loopAt Try.f67 0) (partsS0 x n e) (.exit 0) (partsX0 x ((strip f n).1 : Nat) (e + (strip f n).2)) := by
  intro f
  induction f with
  | zero => intro n e h0 h1; omega
  | succ f ih =>
    intro n e h0 h1 hf h2 h3
    have hn : n < 18446744073709551616 := by
      have : 2 ^ (f + 1) ≤ 2 ^ 63 := Nat.pow_le_pow_right (by decide) (by omega)
      have e63 : (2 : Nat) ^ 63 = 9223372036854775808 := by decide
      omega
    by_cases hz : n % 2 = 0
    · have hs : strip (f + 1) n = ((strip f (n / 2)).1, (strip f (n / 2)).2 + 1) := by
        rw [strip]; rw [if_pos hz]
      have s1 := partsL0_1 x n e ⟨by rw [and_one hn, hz]; rfl, by decide, by simp only [inR]; omega, trivial⟩
      have hc : ((n : Int) / 2) = ((n / 2 : Nat) : Int) := by omega
      rw [hc] at s1
      have hlt : n / 2 < 2 ^ f := by rw [Nat.pow_succ] at h1; omega
      have l := ih (n / 2) (e + 1) (by omega) hlt (by omega) (by omega) (by omega)
      rw [hs]
      have he : e + 1 + ((strip f (n / 2)).2 : Int) = e + (((strip f (n / 2)).2 + 1 : Nat) : Int) := by omega
      rw [he] at l
      exact LoopTo.step s1 l
    · have hs : strip (f + 1) n = (n, 0) := by
        rw [strip]; rw [if_neg hz]
      have s2 := partsL0_2 x n e ⟨by rw [and_one hn, beq_eq_false_iff_ne]; omega, trivial⟩
      rw [hs]
      have he : e + ((0 : Nat) : Int) = e := by omega
      show LoopTo _ _ _ _ (partsX0 x (n : Int) (e + ((0 : Nat) : Int)))
      rw [he]
      exact LoopTo.done (by intro h; cases h) s2

/-- the odd part and the place -/
def pm (x : Nat) : Nat := if rg x = 0 then 0 else (strip 53 (sigM (rg x))).1
def pe (x : Nat) : Int := if rg x = 0 then 0 else -1074 + (sigK (rg x) : Int) + (strip 53 (sigM (rg x))).2

theorem sigM_nil {r : Nat} : sigM r = 0 ↔ r = 0 := by
  unfold sigM
  split <;> omega
theorem abs_low {x : Nat} (hw : FWord x) (hs : sg x = false) : x = rg x := by
  unfold FWord at hw
  unfold sg at hs
  rw [beq_eq_false_iff_ne] at hs
  unfold rg
  omega

theorem parts_c {x : Nat} (hw : FWord x) (hx : Fit x) (hs : sg x = false) : PureTo Try.prog 67 [.v (.float .f64 x)] (.tup [.sl 1 (.ints .u32 (dig (pm x))) false, .v (.int .i64 (pe x)), .v (.int .i64 0)]) := by
  have n1 := isNaN_num.2 hx.num
  have n2 := notInf hx
  have n3 : flt .f64 x 0 = false := by
    rw [flt_V hx.num fin_zero.num, V_null, decide_eq_false]
    have := V_pos hs
    omega
  by_cases h0 : rg x = 0
  · have n4 : feq .f64 x 0 = true := by rw [feq_V hx.num fin_zero.num, V_null, decide_eq_true (V_zero.2 h0)]
    have e1 : pm x = 0 := by unfold pm; rw [if_pos h0]
    have e2 : pe x = 0 := by unfold pe; rw [if_pos h0]
    rw [e1, e2, dig_zero]
    exact partsF4 x 0 0 ⟨n1, n2, n3, n4, trivial⟩
  · have n4 := notZero hx h0
    obtain ⟨s1, s2, s3⟩ := sig_parts (rg x)
    have hx' := abs_low hw hs
    have hlt : x < 9218868437227405312 := by unfold Fit at hx; omega
    have hmpos : 0 < sigM (rg x) := by
      rcases Nat.eq_zero_or_pos (sigM (rg x)) with h | h
      · exact (h0 (sigM_nil.1 h)).elim
      · exact h
    have e1 : pm x = (strip 53 (sigM (rg x))).1 := by unfold pm; rw [if_neg h0]
    have e2 : pe x = -1074 + (sigK (rg x) : Int) + (strip 53 (sigM (rg x))).2 := by unfold pe; rw [if_neg h0]
    have l := parts_loop x 53 (sigM (rg x)) (-1074 + (sigK (rg x) : Int)) hmpos s2 (by decide) (by omega) (by omega)
    rw [← e1, ← e2] at l
    have hpm : pm x < 9007199254740992 := by
      have h3 := strip_is 53 (sigM (rg x))
      rw [← e1] at h3
      have : pm x ≤ sigM (rg x) := by
        have hp := Nat.two_pow_pos (strip 53 (sigM (rg x))).2
        have := Nat.le_mul_of_pos_right (pm x) hp
        rw [h3] at this
        exact this
      have e53 : (2 : Nat) ^ 53 = 9007199254740992 := by decide
      omega
    have hwrap : IntKind.i64.wrap ((x : Int) / 4503599627370496) = ((x / 4503599627370496 : Nat) : Int) := by rw [IntKind.wrap_i64]; omega
    have hand : bitsOf BinOp.and IntKind.u64 (x : Int) (4503599627370495 : Int) = ((x % 4503599627370496 : Nat) : Int) := by
      have := and_low (k := .u64) rfl (x := (x : Int)) (s := 52) (by omega) (by show _ < (2 ^ 64 : Int); omega) (by decide)
      rw [show (((2 ^ 52 - 1 : Nat)) : Int) = 4503599627370495 from rfl, show ((2 ^ 52 : Nat) : Int) = 4503599627370496 from rfl] at this
      rw [this]; omega
    have r1 : inR IntKind.i64 (IntKind.i64.wrap ((x : Int) / 4503599627370496) - 1075) := by rw [hwrap]; simp only [inR]; omega
    by_cases hsub : x < 4503599627370496
    · have hM : sigM (rg x) = x % 4503599627370496 := by unfold sigM; rw [if_pos (by omega)]; omega
      have hK : sigK (rg x) = 0 := by unfold sigK; rw [if_pos (by omega)]
      have := partsF5 x (pm x) (pe x) ⟨n1, n2, n3, n4, by decide, r1, by decide, by rw [beq_iff_eq]; omega, by
        rw [hand, ← hM]
        rw [hK] at l
        exact l, by omega, by omega, trivial⟩
      rw [Int.toNat_natCast] at this
      exact this
    · have hM : sigM (rg x) = 4503599627370496 + x % 4503599627370496 := by unfold sigM; rw [if_neg (by omega)]; omega
      have hK : (sigK (rg x) : Int) - 1074 = (x / 4503599627370496 : Nat) - 1075 := by unfold sigK; rw [if_neg (by omega)]; omega
      have hor : bitsOf BinOp.or IntKind.u64 ((x % 4503599627370496 : Nat) : Int) (4503599627370496 : Int) = ((sigM (rg x) : Nat) : Int) := by
        rw [(or_add (k := .u64) rfl (s := 52) (by omega) (by show _ < ((2 ^ 52 : Nat) : Int); omega) (by decide) (by decide) (by decide) (by decide)).1, hM]
        omega
      have := partsF6 x (pm x) (pe x) ⟨n1, n2, n3, n4, by decide, r1, by decide, by rw [beq_eq_false_iff_ne]; omega, by
        rw [hand, hor, hwrap]
        have e3 : ((x / 4503599627370496 : Nat) : Int) - 1075 = -1074 + (sigK (rg x) : Int) := by omega
        rw [e3]
        exact l, by omega, by omega, trivial⟩
      rw [Int.toNat_natCast] at this
      exact this
def sigParts : List AV → Option (AV × List Prop)
  | [.v (.float .f64 x)] => some (.tup [.sl 1 (.ints .u32 (dig (pm x))) false, .v (.int .i64 (pe x)), .v (.int .i64 0)], [FWord x, Fit x, sg x = false])
  | _ => none
def SM7 : SGT := (67, .p sigParts) :: SM6
theorem soM7 : SigsOK Try.prog SM7 := by
  refine sigs_cons soM6 ?_
  intro ys r c hs hc
  unfold sigParts at hs
  split at hs
  · cases hs; exact parts_c hc.1 hc.2.1 hc.2.2.1
  · cases hs
end Go.Proofs.Nu

/- Numbers: walks, written by the tool. -/
set_option maxRecDepth 100000
namespace Go.Proofs.Nu
open Go Go.Ev

-- 14 paths
theorem ru321 (x : Nat) (h : AllP [fin x = true, FWord (abs x), Fit (abs x), sg (abs x) = false, decide (pe (abs x) ≥ (32 : Int)) = true]) : PureTo Try.prog 38 [.v (.float .f64 x)] (AV.v (.int .u32 (0 : Int))) :=
  evFn_pure hm soM7 (fn := Try.f38) rfl rfl (ti := false) (hs := [CHint.ops 1 [(1, Hint.b true)], CHint.ops 5 [(1, Hint.b true)]]) (c := _) (by kernel_rfl) h
theorem ru322 (x : Nat) (h : AllP [fin x = true, FWord (abs x), Fit (abs x), sg (abs x) = false, decide (pe (abs x) ≥ (32 : Int)) = false, decide (pe (abs x) ≥ (0 : Int)) = true, decide ((↑(Bn.dig (pm (abs x))).length : Int) > (0 : Int)) = true, (0 : Int) ≤ (0 : Int) ∧ (0 : Int) < (↑(Bn.dig (pm (abs x))).length : Int), (0 : Int) ≤ pe (abs x) % (18446744073709551616 : Int), flt FloatKind.f64 x 0 = true]) : PureTo Try.prog 38 [.v (.float .f64 x)] (AV.v (.int .u32 (((0 : Int) - (Bn.dig (pm (abs x))).getD 0 (0 : Int) * (2 : Int) ^ min (pe (abs x) % (18446744073709551616 : Int)).toNat 32 % (4294967296 : Int)) % (4294967296 : Int)))) :=
  evFn_pure hm soM7 (fn := Try.f38) rfl rfl (ti := false) (hs := [CHint.ops 1 [(1, Hint.b true)], CHint.ops 5 [(1, Hint.b false)], CHint.ops 7 [(1, Hint.b true)], CHint.ops 8 [(2, Hint.b true)], CHint.ops 9 [(5, Hint.wrap)], CHint.ops 13 [(1, Hint.b true)], CHint.ops 14 [(1, Hint.wrap)]]) (c := _) (by kernel_rfl) h
theorem ru323 (x : Nat) (h : AllP [fin x = true, FWord (abs x), Fit (abs x), sg (abs x) = false, decide (pe (abs x) ≥ (32 : Int)) = false, decide (pe (abs x) ≥ (0 : Int)) = true, decide ((↑(Bn.dig (pm (abs x))).length : Int) > (0 : Int)) = true, (0 : Int) ≤ (0 : Int) ∧ (0 : Int) < (↑(Bn.dig (pm (abs x))).length : Int), (0 : Int) ≤ pe (abs x) % (18446744073709551616 : Int), flt FloatKind.f64 x 0 = false]) : PureTo Try.prog 38 [.v (.float .f64 x)] (AV.v (.int .u32 ((Bn.dig (pm (abs x))).getD 0 (0 : Int) * (2 : Int) ^ min (pe (abs x) % (18446744073709551616 : Int)).toNat 32 % (4294967296 : Int)))) :=
  evFn_pure hm soM7 (fn := Try.f38) rfl rfl (ti := false) (hs := [CHint.ops 1 [(1, Hint.b true)], CHint.ops 5 [(1, Hint.b false)], CHint.ops 7 [(1, Hint.b true)], CHint.ops 8 [(2, Hint.b true)], CHint.ops 9 [(5, Hint.wrap)], CHint.ops 13 [(1, Hint.b false)]]) (c := _) (by kernel_rfl) h
theorem ru324 (x : Nat) (h : AllP [fin x = true, FWord (abs x), Fit (abs x), sg (abs x) = false, decide (pe (abs x) ≥ (32 : Int)) = false, decide (pe (abs x) ≥ (0 : Int)) = true, decide ((↑(Bn.dig (pm (abs x))).length : Int) > (0 : Int)) = false, flt FloatKind.f64 x 0 = true]) : PureTo Try.prog 38 [.v (.float .f64 x)] (AV.v (.int .u32 (0 : Int))) :=
  evFn_pure hm soM7 (fn := Try.f38) rfl rfl (ti := false) (hs := [CHint.ops 1 [(1, Hint.b true)], CHint.ops 5 [(1, Hint.b false)], CHint.ops 7 [(1, Hint.b true)], CHint.ops 8 [(2, Hint.b false)], CHint.ops 13 [(1, Hint.b true)], CHint.ops 14 [(1, Hint.wrap)]]) (c := _) (by kernel_rfl) h
theorem ru325 (x : Nat) (h : AllP [fin x = true, FWord (abs x), Fit (abs x), sg (abs x) = false, decide (pe (abs x) ≥ (32 : Int)) = false, decide (pe (abs x) ≥ (0 : Int)) = true, decide ((↑(Bn.dig (pm (abs x))).length : Int) > (0 : Int)) = false, flt FloatKind.f64 x 0 = false]) : PureTo Try.prog 38 [.v (.float .f64 x)] (AV.v (.int .u32 (0 : Int))) :=
  evFn_pure hm soM7 (fn := Try.f38) rfl rfl (ti := false) (hs := [CHint.ops 1 [(1, Hint.b true)], CHint.ops 5 [(1, Hint.b false)], CHint.ops 7 [(1, Hint.b true)], CHint.ops 8 [(2, Hint.b false)], CHint.ops 13 [(1, Hint.b false)]]) (c := _) (by kernel_rfl) h
theorem ru326 (x : Nat) (h : AllP [fin x = true, FWord (abs x), Fit (abs x), sg (abs x) = false, decide (pe (abs x) ≥ (32 : Int)) = false, decide (pe (abs x) ≥ (0 : Int)) = false, inR IntKind.i64 ((0 : Int) - pe (abs x)), Bn.Words (Bn.dig (pm (abs x))), (Bn.dig (pm (abs x))).length ≤ Bn.lim4, (Bn.ShrN (Bn.nat (Bn.dig (pm (abs x)))) ((0 : Int) - pe (abs x))).snd = true, decide ((↑(Bn.ShrN (Bn.nat (Bn.dig (pm (abs x)))) ((0 : Int) - pe (abs x))).fst.length : Int) > (0 : Int)) = true, (0 : Int) ≤ (0 : Int) ∧ (0 : Int) < (↑(Bn.ShrN (Bn.nat (Bn.dig (pm (abs x)))) ((0 : Int) - pe (abs x))).fst.length : Int), flt FloatKind.f64 x 0 = true]) : PureTo Try.prog 38 [.v (.float .f64 x)] (AV.v (.int .u32 (((0 : Int) - (Bn.ShrN (Bn.nat (Bn.dig (pm (abs x)))) ((0 : Int) - pe (abs x))).fst.getD 0 (0 : Int)) % (4294967296 : Int)))) :=
  evFn_pure hm soM7 (fn := Try.f38) rfl rfl (ti := false) (hs := [CHint.ops 1 [(1, Hint.b true)], CHint.ops 5 [(1, Hint.b false)], CHint.ops 7 [(1, Hint.b false)], CHint.ops 10 [(6, Hint.b true)], CHint.ops 11 [(2, Hint.b true)], CHint.ops 13 [(1, Hint.b true)], CHint.ops 14 [(1, Hint.wrap)]]) (c := _) (by kernel_rfl) h
theorem ru327 (x : Nat) (h : AllP [fin x = true, FWord (abs x), Fit (abs x), sg (abs x) = false, decide (pe (abs x) ≥ (32 : Int)) = false, decide (pe (abs x) ≥ (0 : Int)) = false, inR IntKind.i64 ((0 : Int) - pe (abs x)), Bn.Words (Bn.dig (pm (abs x))), (Bn.dig (pm (abs x))).length ≤ Bn.lim4, (Bn.ShrN (Bn.nat (Bn.dig (pm (abs x)))) ((0 : Int) - pe (abs x))).snd = true, decide ((↑(Bn.ShrN (Bn.nat (Bn.dig (pm (abs x)))) ((0 : Int) - pe (abs x))).fst.length : Int) > (0 : Int)) = true, (0 : Int) ≤ (0 : Int) ∧ (0 : Int) < (↑(Bn.ShrN (Bn.nat (Bn.dig (pm (abs x)))) ((0 : Int) - pe (abs x))).fst.length : Int), flt FloatKind.f64 x 0 = false]) : PureTo Try.prog 38 [.v (.float .f64 x)] (AV.v (.int .u32 ((Bn.ShrN (Bn.nat (Bn.dig (pm (abs x)))) ((0 : Int) - pe (abs x))).fst.getD 0 (0 : Int)))) :=
  evFn_pure hm soM7 (fn := Try.f38) rfl rfl (ti := false) (hs := [CHint.ops 1 [(1, Hint.b true)], CHint.ops 5 [(1, Hint.b false)], CHint.ops 7 [(1, Hint.b false)], CHint.ops 10 [(6, Hint.b true)], CHint.ops 11 [(2, Hint.b true)], CHint.ops 13 [(1, Hint.b false)]]) (c := _) (by kernel_rfl) h
theorem ru328 (x : Nat) (h : AllP [fin x = true, FWord (abs x), Fit (abs x), sg (abs x) = false, decide (pe (abs x) ≥ (32 : Int)) = false, decide (pe (abs x) ≥ (0 : Int)) = false, inR IntKind.i64 ((0 : Int) - pe (abs x)), Bn.Words (Bn.dig (pm (abs x))), (Bn.dig (pm (abs x))).length ≤ Bn.lim4, (Bn.ShrN (Bn.nat (Bn.dig (pm (abs x)))) ((0 : Int) - pe (abs x))).snd = true, decide ((↑(Bn.ShrN (Bn.nat (Bn.dig (pm (abs x)))) ((0 : Int) - pe (abs x))).fst.length : Int) > (0 : Int)) = false, flt FloatKind.f64 x 0 = true]) : PureTo Try.prog 38 [.v (.float .f64 x)] (AV.v (.int .u32 (0 : Int))) :=
  evFn_pure hm soM7 (fn := Try.f38) rfl rfl (ti := false) (hs := [CHint.ops 1 [(1, Hint.b true)], CHint.ops 5 [(1, Hint.b false)], CHint.ops 7 [(1, Hint.b false)], CHint.ops 10 [(6, Hint.b true)], CHint.ops 11 [(2, Hint.b false)], CHint.ops 13 [(1, Hint.b true)], CHint.ops 14 [(1, Hint.wrap)]]) (c := _) (by kernel_rfl) h
theorem ru329 (x : Nat) (h : AllP [fin x = true, FWord (abs x), Fit (abs x), sg (abs x) = false, decide (pe (abs x) ≥ (32 : Int)) = false, decide (pe (abs x) ≥ (0 : Int)) = false, inR IntKind.i64 ((0 : Int) - pe (abs x)), Bn.Words (Bn.dig (pm (abs x))), (Bn.dig (pm (abs x))).length ≤ Bn.lim4, (Bn.ShrN (Bn.nat (Bn.dig (pm (abs x)))) ((0 : Int) - pe (abs x))).snd = true, decide ((↑(Bn.ShrN (Bn.nat (Bn.dig (pm (abs x)))) ((0 : Int) - pe (abs x))).fst.length : Int) > (0 : Int)) = false, flt FloatKind.f64 x 0 = false]) : PureTo Try.prog 38 [.v (.float .f64 x)] (AV.v (.int .u32 (0 : Int))) :=
  evFn_pure hm soM7 (fn := Try.f38) rfl rfl (ti := false) (hs := [CHint.ops 1 [(1, Hint.b true)], CHint.ops 5 [(1, Hint.b false)], CHint.ops 7 [(1, Hint.b false)], CHint.ops 10 [(6, Hint.b true)], CHint.ops 11 [(2, Hint.b false)], CHint.ops 13 [(1, Hint.b false)]]) (c := _) (by kernel_rfl) h
theorem ru3210 (x : Nat) (h : AllP [fin x = true, FWord (abs x), Fit (abs x), sg (abs x) = false, decide (pe (abs x) ≥ (32 : Int)) = false, decide (pe (abs x) ≥ (0 : Int)) = false, inR IntKind.i64 ((0 : Int) - pe (abs x)), Bn.Words (Bn.dig (pm (abs x))), (Bn.dig (pm (abs x))).length ≤ Bn.lim4, (Bn.ShrN (Bn.nat (Bn.dig (pm (abs x)))) ((0 : Int) - pe (abs x))).snd = false, decide ((↑(Bn.ShrN (Bn.nat (Bn.dig (pm (abs x)))) ((0 : Int) - pe (abs x))).fst.length : Int) > (0 : Int)) = true, (0 : Int) ≤ (0 : Int) ∧ (0 : Int) < (↑(Bn.ShrN (Bn.nat (Bn.dig (pm (abs x)))) ((0 : Int) - pe (abs x))).fst.length : Int), flt FloatKind.f64 x 0 = true]) : PureTo Try.prog 38 [.v (.float .f64 x)] (AV.v (.int .u32 (((0 : Int) - (Bn.ShrN (Bn.nat (Bn.dig (pm (abs x)))) ((0 : Int) - pe (abs x))).fst.getD 0 (0 : Int)) % (4294967296 : Int)))) :=
  evFn_pure hm soM7 (fn := Try.f38) rfl rfl (ti := false) (hs := [CHint.ops 1 [(1, Hint.b true)], CHint.ops 5 [(1, Hint.b false)], CHint.ops 7 [(1, Hint.b false)], CHint.ops 10 [(6, Hint.b false)], CHint.ops 11 [(2, Hint.b true)], CHint.ops 13 [(1, Hint.b true)], CHint.ops 14 [(1, Hint.wrap)]]) (c := _) (by kernel_rfl) h
theorem ru3211 (x : Nat) (h : AllP [fin x = true, FWord (abs x), Fit (abs x), sg (abs x) = false, decide (pe (abs x) ≥ (32 : Int)) = false, decide (pe (abs x) ≥ (0 : Int)) = false, inR IntKind.i64 ((0 : Int) - pe (abs x)), Bn.Words (Bn.dig (pm (abs x))), (Bn.dig (pm (abs x))).length ≤ Bn.lim4, (Bn.ShrN (Bn.nat (Bn.dig (pm (abs x)))) ((0 : Int) - pe (abs x))).snd = false, decide ((↑(Bn.ShrN (Bn.nat (Bn.dig (pm (abs x)))) ((0 : Int) - pe (abs x))).fst.length : Int) > (0 : Int)) = true, (0 : Int) ≤ (0 : Int) ∧ (0 : Int) < (↑(Bn.ShrN (Bn.nat (Bn.dig (pm (abs x)))) ((0 : Int) - pe (abs x))).fst.length : Int), flt FloatKind.f64 x 0 = false]) : PureTo Try.prog 38 [.v (.float .f64 x)] (AV.v (.int .u32 ((Bn.ShrN (Bn.nat (Bn.dig (pm (abs x)))) ((0 : Int) - pe (abs x))).fst.getD 0 (0 : Int)))) :=
  evFn_pure hm soM7 (fn := Try.f38) rfl rfl (ti := false) (hs := [CHint.ops 1 [(1, Hint.b true)], CHint.ops 5 [(1, Hint.b false)], CHint.ops 7 [(1, Hint.b false)], CHint.ops 10 [(6, Hint.b false)], CHint.ops 11 [(2, Hint.b true)], CHint.ops 13 [(1, Hint.b false)]]) (c := _) (by kernel_rfl) h
theorem ru3212 (x : Nat) (h : AllP [fin x = true, FWord (abs x), Fit (abs x), sg (abs x) = false, decide (pe (abs x) ≥ (32 : Int)) = false, decide (pe (abs x) ≥ (0 : Int)) = false, inR IntKind.i64 ((0 : Int) - pe (abs x)), Bn.Words (Bn.dig (pm (abs x))), (Bn.dig (pm (abs x))).length ≤ Bn.lim4, (Bn.ShrN (Bn.nat (Bn.dig (pm (abs x)))) ((0 : Int) - pe (abs x))).snd = false, decide ((↑(Bn.ShrN (Bn.nat (Bn.dig (pm (abs x)))) ((0 : Int) - pe (abs x))).fst.length : Int) > (0 : Int)) = false, flt FloatKind.f64 x 0 = true]) : PureTo Try.prog 38 [.v (.float .f64 x)] (AV.v (.int .u32 (0 : Int))) :=
  evFn_pure hm soM7 (fn := Try.f38) rfl rfl (ti := false) (hs := [CHint.ops 1 [(1, Hint.b true)], CHint.ops 5 [(1, Hint.b false)], CHint.ops 7 [(1, Hint.b false)], CHint.ops 10 [(6, Hint.b false)], CHint.ops 11 [(2, Hint.b false)], CHint.ops 13 [(1, Hint.b true)], CHint.ops 14 [(1, Hint.wrap)]]) (c := _) (by kernel_rfl) h
theorem ru3213 (x : Nat) (h : AllP [fin x = true, FWord (abs x), Fit (abs x), sg (abs x) = false, decide (pe (abs x) ≥ (32 : Int)) = false, decide (pe (abs x) ≥ (0 : Int)) = false, inR IntKind.i64 ((0 : Int) - pe (abs x)), Bn.Words (Bn.dig (pm (abs x))), (Bn.dig (pm (abs x))).length ≤ Bn.lim4, (Bn.ShrN (Bn.nat (Bn.dig (pm (abs x)))) ((0 : Int) - pe (abs x))).snd = false, decide ((↑(Bn.ShrN (Bn.nat (Bn.dig (pm (abs x)))) ((0 : Int) - pe (abs x))).fst.length : Int) > (0 : Int)) = false, flt FloatKind.f64 x 0 = false]) : PureTo Try.prog 38 [.v (.float .f64 x)] (AV.v (.int .u32 (0 : Int))) :=
  evFn_pure hm soM7 (fn := Try.f38) rfl rfl (ti := false) (hs := [CHint.ops 1 [(1, Hint.b true)], CHint.ops 5 [(1, Hint.b false)], CHint.ops 7 [(1, Hint.b false)], CHint.ops 10 [(6, Hint.b false)], CHint.ops 11 [(2, Hint.b false)], CHint.ops 13 [(1, Hint.b false)]]) (c := _) (by kernel_rfl) h
theorem ru3214 (x : Nat) (h : AllP [fin x = false]) : PureTo Try.prog 38 [.v (.float .f64 x)] (AV.v (.int .u32 (0 : Int))) :=
  evFn_pure hm soM7 (fn := Try.f38) rfl rfl (ti := false) (hs := [CHint.ops 1 [(1, Hint.b false)]]) (c := _) (by kernel_rfl) h
end Go.Proofs.Nu

/- Numbers: the reference's Uint32 is Uint32. -/
set_option maxRecDepth 100000
set_option exponentiation.threshold 2200
namespace Go.Proofs.Nu
open Go Go.Ev Bn

theorem pm_val (x : Nat) : 0 ≤ pe x + 1074 ∧ pm x * 2 ^ (pe x + 1074).toNat = valN (rg x) ∧ pm x < 9007199254740992 ∧ pe x + 1074 ≤ 5000 + (sigK (rg x) : Int) := by
  unfold pm pe
  by_cases h0 : rg x = 0
  · rw [if_pos h0, if_pos h0, h0, valN_zero]
    refine ⟨by decide, Nat.zero_mul _, by decide, by omega⟩
  · rw [if_neg h0, if_neg h0]
    have h1 := strip_is 53 (sigM (rg x))
    have h2 := strip_le 53 (sigM (rg x))
    obtain ⟨s1, s2, s3⟩ := sig_parts (rg x)
    have e53 : (2 : Nat) ^ 53 = 9007199254740992 := by decide
    refine ⟨by omega, ?_, ?_, by omega⟩
    · rw [show (-1074 + (sigK (rg x) : Int) + ((strip 53 (sigM (rg x))).2 : Int) + 1074).toNat = (strip 53 (sigM (rg x))).2 + sigK (rg x) by omega, Nat.pow_add, ← Nat.mul_assoc, h1]
      rfl
    · have hp := Nat.two_pow_pos (strip 53 (sigM (rg x))).2
      have := Nat.le_mul_of_pos_right (strip 53 (sigM (rg x))).1 hp
      rw [h1] at this
      omega

theorem whole_up {x k : Nat} (h : pe x = k) : valN (rg x) / U = pm x * 2 ^ k := by
  obtain ⟨h1, h2, _⟩ := pm_val x
  have e : (pe x + 1074).toNat = k + 1074 := by omega
  rw [e, Nat.pow_add, ← Nat.mul_assoc] at h2
  rw [← h2]
  exact Nat.mul_div_cancel _ U_pos
theorem whole_down {x k : Nat} (h : pe x = -(k : Int)) : valN (rg x) / U = pm x / 2 ^ k := by
  obtain ⟨h1, h2, _⟩ := pm_val x
  obtain ⟨j, hj⟩ : ∃ j : Nat, 1074 = k + j := ⟨1074 - k, by omega⟩
  have e : (pe x + 1074).toNat = j := by omega
  rw [e] at h2
  unfold U
  rw [← h2, hj, Nat.pow_add]
  exact Nat.mul_div_mul_right _ _ (Nat.two_pow_pos _)

theorem dig_first (n : Nat) : (dig n).getD 0 0 = ((n % 4294967296 : Nat) : Int) := by
  by_cases h : n = 0
  · subst h; rw [dig_zero]; rfl
  · rw [dig_pos h]; rfl
theorem dig_len_pos (n : Nat) : 0 < (dig n).length ↔ n ≠ 0 := by
  constructor
  · intro h h0
    subst h0
    rw [dig_zero] at h
    exact absurd h (by decide)
  · intro h
    rw [dig_pos h]
    simp
theorem dig_small_len {n : Nat} (h : n < 9007199254740992) : (dig n).length ≤ 2 := by
  rcases Nat.lt_or_ge 2 (dig n).length with h1 | h1
  · rw [dig_len] at h1; omega
  · exact h1

/-- what is told of the low digits -/
theorem u32_sign {x : Nat} (hx : Fit x) {n : Int} (hn : n = ((valN (rg x) / U % 4294967296 : Nat) : Int)) : (flt .f64 x 0 = true → (0 - n) % 4294967296 = u32N x) ∧ (flt .f64 x 0 = false → n = u32N x) := by
  unfold u32N wholeI
  rw [if_pos hx, flt_V hx.num fin_zero.num, V_null]
  subst hn
  constructor
  · intro h
    rw [decide_eq_true_eq] at h
    have hs : sg x = true := by
      cases h2 : sg x with
      | true => rfl
      | false => have := V_pos h2; omega
    rw [hs, sv_neg]
    omega
  · intro h
    have h' := of_decide_eq_false h
    cases hs : sg x with
    | false => rw [sv_pos]; omega
    | true =>
      have h2 := V_neg hs
      have h3 := V_zero.1 (by omega : V x = 0)
      rw [h3, valN_zero, Nat.zero_div, sv_zero]
      rfl

theorem ru32_c {x : Nat} (hw : FWord x) : PureTo Try.prog 38 [.v (.float .f64 x)] (.v (.int .u32 (u32N x))) := by
  cases hfin : fin x with
  | false =>
    have hx : ¬ Fit x := fun h => by rw [fin_iff.2 h] at hfin; cases hfin
    unfold u32N
    rw [if_neg hx]
    exact ru3214 x ⟨hfin, trivial⟩
  | true =>
    have hx := fin_iff.1 hfin
    have hay : abs x = wordOf false (rg x) := abs_word x
    have ha : Fit (abs x) := by rw [hay]; exact fit_word hx
    have haw : FWord (abs x) := by rw [hay]; exact word_wordOf (Nat.le_of_lt hx)
    have hrg : rg (abs x) = rg x := rg_abs x
    have has : sg (abs x) = false := by rw [hay]; exact sg_wordOf (Nat.le_of_lt hx)
    obtain ⟨p1, p2, p3, p4⟩ := pm_val (abs x)
    have hK : sigK (rg (abs x)) ≤ 2045 := by
      have := sig_parts (rg (abs x))
      unfold Fit at ha
      omega
    have wu := @whole_up (abs x)
    have wd := @whole_down (abs x)
    rw [hrg] at wu wd
    have key := @u32_sign x hx
    have hl := dig_small_len p3
    generalize valN (rg x) / U = q at *
    generalize hM : pm (abs x) = M at *
    generalize he : pe (abs x) = e at *
    have t1 := ru321 x; have t2 := ru322 x; have t3 := ru323 x; have t4 := ru324 x; have t5 := ru325 x; have t6 := ru326 x; have t7 := ru327 x
    have t8 := ru328 x; have t9 := ru329 x; have t10 := ru3210 x; have t11 := ru3211 x; have t12 := ru3212 x; have t13 := ru3213 x
    rw [he] at t1
    rw [he, hM] at t2 t3 t4 t5 t6 t7 t8 t9 t10 t11 t12 t13
    by_cases h32 : e ≥ 32
    · obtain ⟨k, hk⟩ : ∃ k : Nat, e = (k + 32 : Nat) := ⟨(e - 32).toNat, by omega⟩
      have hq := wu hk
      have hz : q % 4294967296 = 0 := by
        rw [hq, Nat.pow_add, ← Nat.mul_assoc]
        exact Nat.mul_mod_left _ _
      have := key (n := 0) (by rw [hz]; rfl)
      have hres : u32N x = 0 := by
        cases hf : flt .f64 x 0 with
        | true => rw [← this.1 hf]; rfl
        | false => exact (this.2 hf).symm
      rw [hres]
      exact t1 ⟨hfin, haw, ha, has, decide_eq_true h32, trivial⟩
    · have d1 : decide (e ≥ 32) = false := decide_eq_false h32
      by_cases h0 : e ≥ 0
      · have d2 : decide (e ≥ 0) = true := decide_eq_true h0
        obtain ⟨k, hk⟩ : ∃ k : Nat, e = (k : Nat) := ⟨e.toNat, by omega⟩
        have hq := wu hk
        by_cases hM0 : M = 0
        · have d3 : decide (((dig M).length : Int) > 0) = false := by
            rw [decide_eq_false_iff_not]
            have := (dig_len_pos M).1
            intro h
            exact this (by omega) hM0
          have hz : q % 4294967296 = 0 := by rw [hq, hM0, Nat.zero_mul]
          have := key (n := 0) (by rw [hz]; rfl)
          have hres : u32N x = 0 := by
            cases hf : flt .f64 x 0 with
            | true => rw [← this.1 hf]; rfl
            | false => exact (this.2 hf).symm
          rw [hres]
          cases hf : flt .f64 x 0 with
          | true => exact t4 ⟨hfin, haw, ha, has, d1, d2, d3, hf, trivial⟩
          | false => exact t5 ⟨hfin, haw, ha, has, d1, d2, d3, hf, trivial⟩
        · have hlen := (dig_len_pos M).2 hM0
          have d3 : decide (((dig M).length : Int) > 0) = true := decide_eq_true (by omega)
          have hk32 : min (e % 18446744073709551616).toNat 32 = k := by omega
          have hn : (dig M).getD 0 0 * (2 : Int) ^ k % 4294967296 = ((q % 4294967296 : Nat) : Int) := by
            rw [dig_first, hq, show (2 : Int) ^ k = ((2 ^ k : Nat) : Int) from by rw [Int.natCast_pow]; rfl, ← Int.natCast_mul]
            rw [show (4294967296 : Int) = ((4294967296 : Nat) : Int) from rfl, ← Int.natCast_emod, Nat.mod_mul_mod]
          rw [hk32, hn] at t2 t3
          have := key rfl
          cases hf : flt .f64 x 0 with
          | true =>
            have r := t2 ⟨hfin, haw, ha, has, d1, d2, d3, by omega, by omega, hf, trivial⟩
            rw [this.1 hf] at r
            exact r
          | false =>
            have r := t3 ⟨hfin, haw, ha, has, d1, d2, d3, by omega, by omega, hf, trivial⟩
            rw [this.2 hf] at r
            exact r
      · have d2 : decide (e ≥ 0) = false := decide_eq_false h0
        obtain ⟨k, hk⟩ : ∃ k : Nat, e = -(k : Int) := ⟨(-e).toNat, by omega⟩
        have hq := wd hk
        have hsh : (ShrN (nat (dig M)) (0 - e)).1 = dig (M / 2 ^ k) := by
          rw [nat_dig]
          unfold ShrN
          rw [if_neg (by omega), show (0 - e).toNat = k by omega]
        have r1 : inR IntKind.i64 (0 - e) := by simp only [inR]; omega
        have r2 : (dig M).length ≤ lim4 := by unfold lim4; omega
        have hw' := words_dig M
        rw [hsh] at t6 t7 t8 t9 t10 t11 t12 t13
        rw [← hq] at t6 t7 t8 t9 t10 t11 t12 t13
        rw [dig_first] at t6 t7 t10 t11
        have kq := key (n := ((q % 4294967296 : Nat) : Int)) rfl
        by_cases hq0 : q = 0
        · have d3 : decide (((dig q).length : Int) > 0) = false := by
            rw [decide_eq_false_iff_not]
            have := (dig_len_pos q).1
            intro h
            exact this (by omega) hq0
          have hres : u32N x = 0 := by
            rw [hq0] at kq
            cases hf : flt .f64 x 0 with
            | true => rw [← kq.1 hf]; rfl
            | false => exact (kq.2 hf).symm
          rw [hres]
          cases hl2 : (ShrN (nat (dig M)) (0 - e)).2 with
          | true =>
            cases hf : flt .f64 x 0 with
            | true => exact t8 ⟨hfin, haw, ha, has, d1, d2, r1, hw', r2, hl2, d3, hf, trivial⟩
            | false => exact t9 ⟨hfin, haw, ha, has, d1, d2, r1, hw', r2, hl2, d3, hf, trivial⟩
          | false =>
            cases hf : flt .f64 x 0 with
            | true => exact t12 ⟨hfin, haw, ha, has, d1, d2, r1, hw', r2, hl2, d3, hf, trivial⟩
            | false => exact t13 ⟨hfin, haw, ha, has, d1, d2, r1, hw', r2, hl2, d3, hf, trivial⟩
        · have hlen := (dig_len_pos q).2 hq0
          have d3 : decide (((dig q).length : Int) > 0) = true := decide_eq_true (by omega)
          cases hl2 : (ShrN (nat (dig M)) (0 - e)).2 with
          | true =>
            cases hf : flt .f64 x 0 with
            | true =>
              have r := t6 ⟨hfin, haw, ha, has, d1, d2, r1, hw', r2, hl2, d3, by omega, hf, trivial⟩
              rw [kq.1 hf] at r
              exact r
            | false =>
              have r := t7 ⟨hfin, haw, ha, has, d1, d2, r1, hw', r2, hl2, d3, by omega, hf, trivial⟩
              rw [kq.2 hf] at r
              exact r
          | false =>
            cases hf : flt .f64 x 0 with
            | true =>
              have r := t10 ⟨hfin, haw, ha, has, d1, d2, r1, hw', r2, hl2, d3, by omega, hf, trivial⟩
              rw [kq.1 hf] at r
              exact r
            | false =>
              have r := t11 ⟨hfin, haw, ha, has, d1, d2, r1, hw', r2, hl2, d3, by omega, hf, trivial⟩
              rw [kq.2 hf] at r
              exact r
end Go.Proofs.Nu

/- Numbers: the table with both Uint32. -/
set_option maxRecDepth 100000
namespace Go.Proofs.Nu
open Go Go.Ev
theorem sigRU32_ok : ∀ ys r c, sigU32 ys = some (r, c) → AllP c → PureTo Try.prog 38 ys r := by
  intro ys r c hs hc
  unfold sigU32 at hs
  split at hs
  · cases hs; exact ru32_c hc.1
  · cases hs
def SM8 : SGT := (38, .p sigU32) :: SM7
theorem soM8 : SigsOK Try.prog SM8 := sigs_cons soM7 sigRU32_ok
end Go.Proofs.Nu

/- Numbers: walks, written by the tool. -/
set_option maxRecDepth 100000
namespace Go.Proofs.Nu
open Go Go.Ev

-- 1 paths
theorem ri321 (x : Nat) (h : AllP [FWord x]) : PureTo Try.prog 37 [.v (.float .f64 x)] (AV.v (.int .i32 (IntKind.i32.wrap (u32N x)))) :=
  evFn_pure hm soM8 (fn := Try.f37) rfl rfl (ti := false) (hs := []) (c := _) (by kernel_rfl) h
-- 1 paths
theorem ru161 (x : Nat) (h : AllP [FWord x]) : PureTo Try.prog 40 [.v (.float .f64 x)] (AV.v (.int .u16 (u32N x % (65536 : Int)))) :=
  evFn_pure hm soM8 (fn := Try.f40) rfl rfl (ti := false) (hs := []) (c := _) (by kernel_rfl) h
-- 2 paths
theorem integ1 (x : Nat) (h : AllP [isNaN x = true]) : PureTo Try.prog 35 [.v (.float .f64 x)] (AV.v (.float FloatKind.f64 0)) :=
  evFn_pure hm soM8 (fn := Try.f35) rfl rfl (ti := false) (hs := [CHint.ops 1 [(1, Hint.b true)]]) (c := _) (by kernel_rfl) h
theorem integ2 (x : Nat) (h : AllP [isNaN x = false]) : PureTo Try.prog 35 [.v (.float .f64 x)] (AV.fl FloatKind.f64 (intW Ieee.Toward.zero x)) :=
  evFn_pure hm soM8 (fn := Try.f35) rfl rfl (ti := false) (hs := [CHint.ops 1 [(1, Hint.b false)]]) (c := _) (by kernel_rfl) h
-- 2 paths
theorem rinteg1 (x : Nat) (h : AllP [isNaN x = true]) : PureTo Try.prog 36 [.v (.float .f64 x)] (AV.v (.float FloatKind.f64 0)) :=
  evFn_pure hm soM8 (fn := Try.f36) rfl rfl (ti := false) (hs := [CHint.ops 1 [(1, Hint.b true)]]) (c := _) (by kernel_rfl) h
theorem rinteg2 (x : Nat) (h : AllP [isNaN x = false]) : PureTo Try.prog 36 [.v (.float .f64 x)] (AV.fl FloatKind.f64 (intW Ieee.Toward.zero x)) :=
  evFn_pure hm soM8 (fn := Try.f36) rfl rfl (ti := false) (hs := [CHint.ops 1 [(1, Hint.b false)]]) (c := _) (by kernel_rfl) h
-- 4 paths
theorem index1 (x : Nat) (h : AllP [(fgt FloatKind.f64 x 0 || feq FloatKind.f64 x 0) = true, (flt FloatKind.f64 x 4751297606871678976 || feq FloatKind.f64 x 4751297606871678976) = true, feq FloatKind.f64 x (intW Ieee.Toward.zero x) = true, fhasI x, inR IntKind.u32 (ftoI x)]) : PureTo Try.prog 33 [.v (.float .f64 x)] (AV.tup [AV.v (.int .u32 (ftoI x)), AV.v (.bool true)]) :=
  evFn_pure hm soM8 (fn := Try.f33) rfl rfl (ti := false) (hs := [CHint.ops 1 [(1, Hint.b true), (4, Hint.b true), (10, Hint.b true)]]) (c := _) (by kernel_rfl) h
theorem index2 (x : Nat) (h : AllP [(fgt FloatKind.f64 x 0 || feq FloatKind.f64 x 0) = true, (flt FloatKind.f64 x 4751297606871678976 || feq FloatKind.f64 x 4751297606871678976) = true, feq FloatKind.f64 x (intW Ieee.Toward.zero x) = false]) : PureTo Try.prog 33 [.v (.float .f64 x)] (AV.tup [AV.v (.int .u32 (0 : Int)), AV.v (.bool false)]) :=
  evFn_pure hm soM8 (fn := Try.f33) rfl rfl (ti := false) (hs := [CHint.ops 1 [(1, Hint.b true), (4, Hint.b true), (10, Hint.b false)]]) (c := _) (by kernel_rfl) h
theorem index3 (x : Nat) (h : AllP [(fgt FloatKind.f64 x 0 || feq FloatKind.f64 x 0) = true, (flt FloatKind.f64 x 4751297606871678976 || feq FloatKind.f64 x 4751297606871678976) = false]) : PureTo Try.prog 33 [.v (.float .f64 x)] (AV.tup [AV.v (.int .u32 (0 : Int)), AV.v (.bool false)]) :=
  evFn_pure hm soM8 (fn := Try.f33) rfl rfl (ti := false) (hs := [CHint.ops 1 [(1, Hint.b true), (4, Hint.b false)]]) (c := _) (by kernel_rfl) h
theorem index4 (x : Nat) (h : AllP [(fgt FloatKind.f64 x 0 || feq FloatKind.f64 x 0) = false]) : PureTo Try.prog 33 [.v (.float .f64 x)] (AV.tup [AV.v (.int .u32 (0 : Int)), AV.v (.bool false)]) :=
  evFn_pure hm soM8 (fn := Try.f33) rfl rfl (ti := false) (hs := [CHint.ops 1 [(1, Hint.b false)]]) (c := _) (by kernel_rfl) h
-- 4 paths
theorem rindex1 (x : Nat) (h : AllP [(fgt FloatKind.f64 x 0 || feq FloatKind.f64 x 0) = true, fgt FloatKind.f64 x 4751297606871678976 = true]) : PureTo Try.prog 34 [.v (.float .f64 x)] (AV.tup [AV.v (.int .u32 (0 : Int)), AV.v (.bool false)]) :=
  evFn_pure hm soM8 (fn := Try.f34) rfl rfl (ti := false) (hs := [CHint.ops 1 [(1, Hint.b true), (5, Hint.b true)]]) (c := _) (by kernel_rfl) h
theorem rindex2 (x : Nat) (h : AllP [(fgt FloatKind.f64 x 0 || feq FloatKind.f64 x 0) = true, fgt FloatKind.f64 x 4751297606871678976 = false, (!feq FloatKind.f64 (intW Ieee.Toward.zero x) x) = true]) : PureTo Try.prog 34 [.v (.float .f64 x)] (AV.tup [AV.v (.int .u32 (0 : Int)), AV.v (.bool false)]) :=
  evFn_pure hm soM8 (fn := Try.f34) rfl rfl (ti := false) (hs := [CHint.ops 1 [(1, Hint.b true), (5, Hint.b false), (11, Hint.b true)]]) (c := _) (by kernel_rfl) h
theorem rindex3 (x : Nat) (h : AllP [(fgt FloatKind.f64 x 0 || feq FloatKind.f64 x 0) = true, fgt FloatKind.f64 x 4751297606871678976 = false, (!feq FloatKind.f64 (intW Ieee.Toward.zero x) x) = false, fhasI x, inR IntKind.u32 (ftoI x)]) : PureTo Try.prog 34 [.v (.float .f64 x)] (AV.tup [AV.v (.int .u32 (ftoI x)), AV.v (.bool true)]) :=
  evFn_pure hm soM8 (fn := Try.f34) rfl rfl (ti := false) (hs := [CHint.ops 1 [(1, Hint.b true), (5, Hint.b false), (11, Hint.b false)]]) (c := _) (by kernel_rfl) h
theorem rindex4 (x : Nat) (h : AllP [(fgt FloatKind.f64 x 0 || feq FloatKind.f64 x 0) = false]) : PureTo Try.prog 34 [.v (.float .f64 x)] (AV.tup [AV.v (.int .u32 (0 : Int)), AV.v (.bool false)]) :=
  evFn_pure hm soM8 (fn := Try.f34) rfl rfl (ti := false) (hs := [CHint.ops 1 [(1, Hint.b false)]]) (c := _) (by kernel_rfl) h
end Go.Proofs.Nu

/- Numbers: Integer, Index, Int32, Uint16, and the reference's. -/
set_option maxRecDepth 100000
set_option exponentiation.threshold 2200
namespace Go.Proofs.Nu
open Go Go.Ev

/-- Integer -/
def integW (x : Nat) : Nat := if isNaN x = true then 0 else intW .zero x
theorem trunc_num {x : Nat} (hw : FWord x) (hx : Num x) : Num (intW .zero x) ∧ FWord (intW .zero x) := by
  by_cases h : Fit x
  · obtain ⟨t, t1, t2, t3⟩ := trunc_V h
    rw [t3]
    exact ⟨num_word (Nat.le_of_lt t1), word_wordOf (Nat.le_of_lt t1)⟩
  · have hi : rg x = 9218868437227405312 := by unfold Fit at h; unfold Num at hx; omega
    rw [intW_inf .zero hw hi]
    exact ⟨hx, hw⟩
theorem integ_c {x : Nat} (hw : FWord x) : PureTo Try.prog 35 [.v (.float .f64 x)] (.v (.float .f64 (integW x))) ∧ PureTo Try.prog 36 [.v (.float .f64 x)] (.v (.float .f64 (integW x))) := by
  unfold integW
  cases h : isNaN x with
  | true => exact ⟨integ1 x ⟨h, trivial⟩, rinteg1 x ⟨h, trivial⟩⟩
  | false =>
    have hn := num_iff.1 (trunc_num hw (isNaN_num.1 h)).1
    exact ⟨(integ2 x ⟨h, trivial⟩).ans (.num _ hn), (rinteg2 x ⟨h, trivial⟩).ans (.num _ hn)⟩

def c94 : Nat := 4751297606871678976
theorem fit_c94 : Fit c94 := by decide
theorem V_c94 : V c94 = ((4294967294 * U : Nat) : Int) := by
  have e1 : sigM (rg c94) = 9007199250546688 := by decide
  have e2 : sigK (rg c94) = 1053 := by decide
  have h2 : sg c94 = false := by decide
  have h1 : V c94 = sv (sg c94) (sigM (rg c94) * 2 ^ sigK (rg c94)) := rfl
  rw [h1, h2, e1, e2, sv_pos]
  have e3 : (9007199250546688 : Nat) = 4294967294 * 2 ^ 21 := by decide
  rw [e3, Nat.mul_assoc]
  unfold U
  rw [← Nat.pow_add]
theorem le_V {r y : Nat} (hr : Num r) (hy : Num y) : (flt FloatKind.f64 r y || feq FloatKind.f64 r y) = decide (V r ≤ V y) := by
  rw [flt_V hr hy, feq_V hr hy]
  by_cases h : V r < V y
  · rw [decide_eq_true h, decide_eq_true (by omega : V r ≤ V y)]; rfl
  · rw [decide_eq_false h, Bool.false_or]
    by_cases h2 : V r = V y
    · rw [decide_eq_true h2, decide_eq_true (by omega)]
    · rw [decide_eq_false h2, decide_eq_false (by omega)]
theorem le_scale {a b u : Nat} (hu : 0 < u) (h : a * u ≤ b * u) : a ≤ b := Nat.le_of_mul_le_mul_right h hu
theorem div_bound {n a u : Nat} (hu : 0 < u) (h : n ≤ a * u) : n / u ≤ a := by
  have := Nat.div_le_div_right (c := u) h
  rwa [Nat.mul_div_cancel _ hu] at this

theorem index_both {x : Nat} (hw : FWord x) : ∃ n b, PureTo Try.prog 33 [.v (.float .f64 x)] (.tup [.v (.int .u32 n), .v (.bool b)]) ∧ PureTo Try.prog 34 [.v (.float .f64 x)] (.tup [.v (.int .u32 n), .v (.bool b)]) := by
  cases h0 : (fgt FloatKind.f64 x 0 || feq FloatKind.f64 x 0) with
  | false => exact ⟨_, _, index4 x ⟨h0, trivial⟩, rindex4 x ⟨h0, trivial⟩⟩
  | true =>
    have hn : Num x := by
      rcases Classical.em (Num x) with h | h
      · exact h
      · obtain ⟨a, b, c⟩ := nan_cmp (x := x) (y := 0) (.inl h)
        rw [b, c] at h0
        cases h0
    have hc : (4751297606871678976 : Nat) = c94 := rfl
    have hgt : fgt FloatKind.f64 x c94 = !(flt FloatKind.f64 x c94 || feq FloatKind.f64 x c94) := by
      rw [le_V hn fit_c94.num, fgt_V hn fit_c94.num]
      by_cases h : V x ≤ V c94
      · rw [decide_eq_true h, decide_eq_false (by omega)]; rfl
      · rw [decide_eq_false h, decide_eq_true (by omega)]; rfl
    cases h1 : (flt FloatKind.f64 x c94 || feq FloatKind.f64 x c94) with
    | false => exact ⟨_, _, index3 x ⟨h0, h1, trivial⟩, rindex1 x ⟨h0, by rw [hc, hgt, h1]; rfl, trivial⟩⟩
    | true =>
      have hg : fgt FloatKind.f64 x 4751297606871678976 = false := by rw [hc, hgt, h1]; rfl
      obtain ⟨t1, t2⟩ := trunc_num hw hn
      have hsym : feq .f64 (intW .zero x) x = feq .f64 x (intW .zero x) := by
        rw [feq_V t1 hn, feq_V hn t1]
        by_cases h : V x = V (intW .zero x)
        · rw [decide_eq_true h, decide_eq_true h.symm]
        · rw [decide_eq_false h, decide_eq_false fun h2 => h h2.symm]
      cases h2 : feq .f64 x (intW .zero x) with
      | false => exact ⟨_, _, index2 x ⟨h0, h1, h2, trivial⟩, rindex2 x ⟨h0, hg, by rw [hsym, h2]; rfl, trivial⟩⟩
      | true =>
        rw [ge_V hn fin_zero.num, V_null, decide_eq_true_eq] at h0
        have h0' := h0
        rw [le_V hn fit_c94.num, decide_eq_true_eq] at h1
        have hx : Fit x := by
          unfold Fit
          rcases Nat.lt_or_eq_of_le hn with h | h
          · exact h
          · exfalso
            have e1 : V x = valN 9218868437227405312 := by
              have e := wordOf_of hw
              cases hs : sg x with
              | true => have := V_neg hs; have := V_zero.1 (by omega : V x = 0); omega
              | false => unfold V; rw [hs, h]; rfl
            have e2 : V c94 = valN (rg c94) := rfl
            have e3 := valN_lt (show rg c94 < 9218868437227405312 by decide)
            omega
        obtain ⟨i1, i2⟩ := ftoI_V hx
        have hr : inR .u32 (ftoI x) := by
          rw [i2]
          rw [V_c94] at h1
          cases hs : sg x with
          | true =>
            have h3 := V_neg hs
            have h4 := V_zero.1 (by omega : V x = 0)
            rw [h4, valN_zero, Nat.zero_div, sv_zero]
            simp only [inR]; omega
          | false =>
            rw [sv_pos]
            have h3 : V x = valN (rg x) := by unfold V; rw [hs]; rfl
            rw [h3] at h1
            have h4 := div_bound U_pos (Int.ofNat_le.1 h1)
            generalize valN (rg x) / U = q at *
            simp only [inR]
            omega
        have h0b : (fgt FloatKind.f64 x 0 || feq FloatKind.f64 x 0) = true := by rw [ge_V hn fin_zero.num, V_null, decide_eq_true h0']
        have h1b : (flt FloatKind.f64 x 4751297606871678976 || feq FloatKind.f64 x 4751297606871678976) = true := by rw [hc, le_V hn fit_c94.num, decide_eq_true h1]
        exact ⟨_, _, index1 x ⟨h0b, h1b, h2, i1, hr, trivial⟩, rindex3 x ⟨h0b, hg, by rw [hsym, h2]; rfl, i1, hr, trivial⟩⟩

def sigInteg : List AV → Option (AV × List Prop)
  | [.v (.float .f64 x)] => some (.v (.float .f64 (integW x)), [FWord x])
  | _ => none
theorem sigInteg_ok : ∀ ys r c, sigInteg ys = some (r, c) → AllP c → PureTo Try.prog 35 ys r ∧ PureTo Try.prog 36 ys r := by
  intro ys r c hs hc
  unfold sigInteg at hs
  split at hs
  · cases hs; exact integ_c hc.1
  · cases hs
theorem sigRI32_ok : ∀ ys r c, sigI32 ys = some (r, c) → AllP c → PureTo Try.prog 37 ys r := by
  intro ys r c hs hc
  unfold sigI32 at hs
  split at hs
  · cases hs; exact ri321 _ ⟨hc.1, trivial⟩
  · cases hs
def SM9 : SGT := (35, .p sigInteg) :: (36, .p sigInteg) :: (37, .p sigI32) :: SM8
theorem soM9 : SigsOK Try.prog SM9 := sigs_cons (sigs_cons (sigs_cons soM8 sigRI32_ok) fun ys r c hs hc => (sigInteg_ok ys r c hs hc).2) fun ys r c hs hc => (sigInteg_ok ys r c hs hc).1
end Go.Proofs.Nu

/- Numbers: walks, written by the tool. -/
set_option maxRecDepth 100000
namespace Go.Proofs.Nu
open Go Go.Ev

-- 3 paths
theorem place1 (x : Nat) (a b : Int) (h : AllP [FWord x, (fgt FloatKind.f64 (integW x) 4890909195324358656 || feq FloatKind.f64 (integW x) 4890909195324358656) = true]) : PureTo Try.prog 41 [.v (.float .f64 x), .v (.int .i64 a), .v (.int .i64 b)] (AV.v (.int .i64 (if b < if a > (9223372036854775807 : Int) then a else (9223372036854775807 : Int) then b else if a > (9223372036854775807 : Int) then a else (9223372036854775807 : Int)))) :=
  evFn_pure hm soM9 (fn := Try.f41) rfl rfl (ti := false) (hs := [CHint.ops 4 [(1, Hint.b true)]]) (c := _) (by kernel_rfl) h
theorem place2 (x : Nat) (a b : Int) (h : AllP [FWord x, (fgt FloatKind.f64 (integW x) 4890909195324358656 || feq FloatKind.f64 (integW x) 4890909195324358656) = false, flt FloatKind.f64 (integW x) 14114281232179134464 = true]) : PureTo Try.prog 41 [.v (.float .f64 x), .v (.int .i64 a), .v (.int .i64 b)] (AV.v (.int .i64 (if b < if a > (-9223372036854775808 : Int) then a else (-9223372036854775808 : Int) then b else if a > (-9223372036854775808 : Int) then a else (-9223372036854775808 : Int)))) :=
  evFn_pure hm soM9 (fn := Try.f41) rfl rfl (ti := false) (hs := [CHint.ops 4 [(1, Hint.b false)], CHint.ops 6 [(1, Hint.b true)]]) (c := _) (by kernel_rfl) h
theorem place3 (x : Nat) (a b : Int) (h : AllP [FWord x, (fgt FloatKind.f64 (integW x) 4890909195324358656 || feq FloatKind.f64 (integW x) 4890909195324358656) = false, flt FloatKind.f64 (integW x) 14114281232179134464 = false, fhasI (integW x), inR IntKind.i64 (ftoI (integW x))]) : PureTo Try.prog 41 [.v (.float .f64 x), .v (.int .i64 a), .v (.int .i64 b)] (AV.v (.int .i64 (if b < if a > ftoI (integW x) then a else ftoI (integW x) then b else if a > ftoI (integW x) then a else ftoI (integW x)))) :=
  evFn_pure hm soM9 (fn := Try.f41) rfl rfl (ti := false) (hs := [CHint.ops 4 [(1, Hint.b false)], CHint.ops 6 [(1, Hint.b false)]]) (c := _) (by kernel_rfl) h
-- 9 paths
theorem rplace1 (x : Nat) (a b : Int) (h : AllP [decide (b < a) = true]) : PureTo Try.prog 42 [.v (.float .f64 x), .v (.int .i64 a), .v (.int .i64 b)] (AV.v (.int .i64 b)) :=
  evFn_pure hm soM9 (fn := Try.f42) rfl rfl (ti := false) (hs := [CHint.ops 1 [(2, Hint.b true)]]) (c := _) (by kernel_rfl) h
theorem rplace2 (x : Nat) (a b : Int) (h : AllP [decide (b < a) = false, FWord x, (fgt FloatKind.f64 (integW x) 4890909195324358656 || feq FloatKind.f64 (integW x) 4890909195324358656) = true]) : PureTo Try.prog 42 [.v (.float .f64 x), .v (.int .i64 a), .v (.int .i64 b)] (AV.v (.int .i64 b)) :=
  evFn_pure hm soM9 (fn := Try.f42) rfl rfl (ti := false) (hs := [CHint.ops 1 [(2, Hint.b false)], CHint.ops 4 [(1, Hint.b true)]]) (c := _) (by kernel_rfl) h
theorem rplace3 (x : Nat) (a b : Int) (h : AllP [decide (b < a) = false, FWord x, (fgt FloatKind.f64 (integW x) 4890909195324358656 || feq FloatKind.f64 (integW x) 4890909195324358656) = false, fgt FloatKind.f64 (integW x) 14114281232179134464 = true, fhasI (integW x), inR IntKind.i64 (ftoI (integW x)), decide (ftoI (integW x) > b) = true]) : PureTo Try.prog 42 [.v (.float .f64 x), .v (.int .i64 a), .v (.int .i64 b)] (AV.v (.int .i64 b)) :=
  evFn_pure hm soM9 (fn := Try.f42) rfl rfl (ti := false) (hs := [CHint.ops 1 [(2, Hint.b false)], CHint.ops 4 [(1, Hint.b false), (4, Hint.b true), (9, Hint.b true)]]) (c := _) (by kernel_rfl) h
theorem rplace4 (x : Nat) (a b : Int) (h : AllP [decide (b < a) = false, FWord x, (fgt FloatKind.f64 (integW x) 4890909195324358656 || feq FloatKind.f64 (integW x) 4890909195324358656) = false, fgt FloatKind.f64 (integW x) 14114281232179134464 = true, fhasI (integW x), inR IntKind.i64 (ftoI (integW x)), decide (ftoI (integW x) > b) = false, (flt FloatKind.f64 (integW x) 14114281232179134464 || feq FloatKind.f64 (integW x) 14114281232179134464) = true]) : PureTo Try.prog 42 [.v (.float .f64 x), .v (.int .i64 a), .v (.int .i64 b)] (AV.v (.int .i64 a)) :=
  evFn_pure hm soM9 (fn := Try.f42) rfl rfl (ti := false) (hs := [CHint.ops 1 [(2, Hint.b false)], CHint.ops 4 [(1, Hint.b false), (4, Hint.b true), (9, Hint.b false)], CHint.ops 6 [(1, Hint.b true)]]) (c := _) (by kernel_rfl) h
theorem rplace5 (x : Nat) (a b : Int) (h : AllP [decide (b < a) = false, FWord x, (fgt FloatKind.f64 (integW x) 4890909195324358656 || feq FloatKind.f64 (integW x) 4890909195324358656) = false, fgt FloatKind.f64 (integW x) 14114281232179134464 = true, fhasI (integW x), inR IntKind.i64 (ftoI (integW x)), decide (ftoI (integW x) > b) = false, (flt FloatKind.f64 (integW x) 14114281232179134464 || feq FloatKind.f64 (integW x) 14114281232179134464) = false, fhasI (integW x), inR IntKind.i64 (ftoI (integW x)), decide (ftoI (integW x) < a) = true]) : PureTo Try.prog 42 [.v (.float .f64 x), .v (.int .i64 a), .v (.int .i64 b)] (AV.v (.int .i64 a)) :=
  evFn_pure hm soM9 (fn := Try.f42) rfl rfl (ti := false) (hs := [CHint.ops 1 [(2, Hint.b false)], CHint.ops 4 [(1, Hint.b false), (4, Hint.b true), (9, Hint.b false)], CHint.ops 6 [(1, Hint.b false), (6, Hint.b true)]]) (c := _) (by kernel_rfl) h
theorem rplace6 (x : Nat) (a b : Int) (h : AllP [decide (b < a) = false, FWord x, (fgt FloatKind.f64 (integW x) 4890909195324358656 || feq FloatKind.f64 (integW x) 4890909195324358656) = false, fgt FloatKind.f64 (integW x) 14114281232179134464 = true, fhasI (integW x), inR IntKind.i64 (ftoI (integW x)), decide (ftoI (integW x) > b) = false, (flt FloatKind.f64 (integW x) 14114281232179134464 || feq FloatKind.f64 (integW x) 14114281232179134464) = false, fhasI (integW x), inR IntKind.i64 (ftoI (integW x)), decide (ftoI (integW x) < a) = false, fhasI (integW x), inR IntKind.i64 (ftoI (integW x))]) : PureTo Try.prog 42 [.v (.float .f64 x), .v (.int .i64 a), .v (.int .i64 b)] (AV.v (.int .i64 (ftoI (integW x)))) :=
  evFn_pure hm soM9 (fn := Try.f42) rfl rfl (ti := false) (hs := [CHint.ops 1 [(2, Hint.b false)], CHint.ops 4 [(1, Hint.b false), (4, Hint.b true), (9, Hint.b false)], CHint.ops 6 [(1, Hint.b false), (6, Hint.b false)]]) (c := _) (by kernel_rfl) h
theorem rplace7 (x : Nat) (a b : Int) (h : AllP [decide (b < a) = false, FWord x, (fgt FloatKind.f64 (integW x) 4890909195324358656 || feq FloatKind.f64 (integW x) 4890909195324358656) = false, fgt FloatKind.f64 (integW x) 14114281232179134464 = false, (flt FloatKind.f64 (integW x) 14114281232179134464 || feq FloatKind.f64 (integW x) 14114281232179134464) = true]) : PureTo Try.prog 42 [.v (.float .f64 x), .v (.int .i64 a), .v (.int .i64 b)] (AV.v (.int .i64 a)) :=
  evFn_pure hm soM9 (fn := Try.f42) rfl rfl (ti := false) (hs := [CHint.ops 1 [(2, Hint.b false)], CHint.ops 4 [(1, Hint.b false), (4, Hint.b false)], CHint.ops 6 [(1, Hint.b true)]]) (c := _) (by kernel_rfl) h
theorem rplace8 (x : Nat) (a b : Int) (h : AllP [decide (b < a) = false, FWord x, (fgt FloatKind.f64 (integW x) 4890909195324358656 || feq FloatKind.f64 (integW x) 4890909195324358656) = false, fgt FloatKind.f64 (integW x) 14114281232179134464 = false, (flt FloatKind.f64 (integW x) 14114281232179134464 || feq FloatKind.f64 (integW x) 14114281232179134464) = false, fhasI (integW x), inR IntKind.i64 (ftoI (integW x)), decide (ftoI (integW x) < a) = true]) : PureTo Try.prog 42 [.v (.float .f64 x), .v (.int .i64 a), .v (.int .i64 b)] (AV.v (.int .i64 a)) :=
  evFn_pure hm soM9 (fn := Try.f42) rfl rfl (ti := false) (hs := [CHint.ops 1 [(2, Hint.b false)], CHint.ops 4 [(1, Hint.b false), (4, Hint.b false)], CHint.ops 6 [(1, Hint.b false), (6, Hint.b true)]]) (c := _) (by kernel_rfl) h
theorem rplace9 (x : Nat) (a b : Int) (h : AllP [decide (b < a) = false, FWord x, (fgt FloatKind.f64 (integW x) 4890909195324358656 || feq FloatKind.f64 (integW x) 4890909195324358656) = false, fgt FloatKind.f64 (integW x) 14114281232179134464 = false, (flt FloatKind.f64 (integW x) 14114281232179134464 || feq FloatKind.f64 (integW x) 14114281232179134464) = false, fhasI (integW x), inR IntKind.i64 (ftoI (integW x)), decide (ftoI (integW x) < a) = false, fhasI (integW x), inR IntKind.i64 (ftoI (integW x))]) : PureTo Try.prog 42 [.v (.float .f64 x), .v (.int .i64 a), .v (.int .i64 b)] (AV.v (.int .i64 (ftoI (integW x)))) :=
  evFn_pure hm soM9 (fn := Try.f42) rfl rfl (ti := false) (hs := [CHint.ops 1 [(2, Hint.b false)], CHint.ops 4 [(1, Hint.b false), (4, Hint.b false)], CHint.ops 6 [(1, Hint.b false), (6, Hint.b false)]]) (c := _) (by kernel_rfl) h
-- 4 paths
theorem runa1 (s : ByteArray) (x : Nat) (h : AllP [(s.toList == (ByteArray.mk #[(45 : UInt8)]).toList) = true]) : PureTo Try.prog 21 [.v (.string s), .v (.float .f64 x)] (AV.tup [AV.v (.float FloatKind.f64 (toldW (fneg x))), AV.v (.int .i64 (0 : Int))]) :=
  evFn_pure hm soM9 (fn := Try.f21) rfl rfl (ti := false) (hs := [CHint.ops 2 [(0, Hint.b true)]]) (c := _) (by kernel_rfl) h
theorem runa2 (s : ByteArray) (x : Nat) (h : AllP [(s.toList == (ByteArray.mk #[(45 : UInt8)]).toList) = false, (s.toList == (ByteArray.mk #[(43 : UInt8)]).toList) = true]) : PureTo Try.prog 21 [.v (.string s), .v (.float .f64 x)] (AV.tup [AV.v (.float FloatKind.f64 (toldW x)), AV.v (.int .i64 (0 : Int))]) :=
  evFn_pure hm soM9 (fn := Try.f21) rfl rfl (ti := false) (hs := [CHint.ops 2 [(0, Hint.b false)], CHint.ops 4 [(0, Hint.b true)]]) (c := _) (by kernel_rfl) h
theorem runa3 (s : ByteArray) (x : Nat) (h : AllP [(s.toList == (ByteArray.mk #[(45 : UInt8)]).toList) = false, (s.toList == (ByteArray.mk #[(43 : UInt8)]).toList) = false, (s.toList == (ByteArray.mk #[(126 : UInt8)]).toList) = true, FWord x]) : PureTo Try.prog 21 [.v (.string s), .v (.float .f64 x)] (AV.tup [AV.v (.float FloatKind.f64 (fofI (bitsOf BinOp.xor IntKind.i32 (if IntKind.i32.signed = true then (-1 : Int) else IntKind.i32.max) (i32N x)))), AV.v (.int .i64 (0 : Int))]) :=
  evFn_pure hm soM9 (fn := Try.f21) rfl rfl (ti := false) (hs := [CHint.ops 2 [(0, Hint.b false)], CHint.ops 4 [(0, Hint.b false)], CHint.ops 6 [(0, Hint.b true)]]) (c := _) (by kernel_rfl) h
theorem runa4 (s : ByteArray) (x : Nat) (h : AllP [(s.toList == (ByteArray.mk #[(45 : UInt8)]).toList) = false, (s.toList == (ByteArray.mk #[(43 : UInt8)]).toList) = false, (s.toList == (ByteArray.mk #[(126 : UInt8)]).toList) = false]) : PureTo Try.prog 21 [.v (.string s), .v (.float .f64 x)] (AV.tup [AV.v (.float FloatKind.f64 0), AV.v (.int .i64 (1 : Int))]) :=
  evFn_pure hm soM9 (fn := Try.f21) rfl rfl (ti := false) (hs := [CHint.ops 2 [(0, Hint.b false)], CHint.ops 4 [(0, Hint.b false)], CHint.ops 6 [(0, Hint.b false)]]) (c := _) (by kernel_rfl) h
end Go.Proofs.Nu

/- Numbers: walks, written by the tool. -/
set_option maxRecDepth 100000
namespace Go.Proofs.Nu
open Go Go.Ev
def leastS0 (l : List Nat) (m : Nat) (x0 : Int) : AS := { n := 21, fr := [(3, AV.v (.float FloatKind.f64 m)), (7, AV.sl 1 (Seq.fn l.length fun (i : Nat) => AV.v (.float FloatKind.f64 (l.getD i 0))) false), (8, AV.v (.int .i64 (↑l.length : Int))), (9, AV.v (.int .i64 x0))], hp := [], nx := 0 }
def leastX0 (l : List Nat) (m : Nat)  : AS := { n := 21, fr := [(3, AV.v (.float FloatKind.f64 m))], hp := [], nx := 0 }
def leastX0_1 (l : List Nat) (m : Nat)  : AS := { n := 21, fr := [(2, AV.v (.float FloatKind.f64 m))], hp := [], nx := 0 }
def rleastS0 (l : List Nat) (m : Nat) (x0 : Int) : AS := { n := 33, fr := [(0, AV.sl 1 (Seq.fn l.length fun (i : Nat) => AV.v (.float FloatKind.f64 (l.getD i 0))) false), (3, AV.v (.float FloatKind.f64 m)), (4, AV.v (.int .i64 x0))], hp := [], nx := 0 }
def rleastX0 (l : List Nat) (m : Nat)  : AS := { n := 33, fr := [(3, AV.v (.float FloatKind.f64 m))], hp := [], nx := 0 }
def rleastX0_1 (l : List Nat) (m : Nat)  : AS := { n := 33, fr := [(2, AV.v (.float FloatKind.f64 m))], hp := [], nx := 0 }
def mostS0 (l : List Nat) (m : Nat) (x0 : Int) : AS := { n := 21, fr := [(3, AV.v (.float FloatKind.f64 m)), (7, AV.sl 1 (Seq.fn l.length fun (i : Nat) => AV.v (.float FloatKind.f64 (l.getD i 0))) false), (8, AV.v (.int .i64 (↑l.length : Int))), (9, AV.v (.int .i64 x0))], hp := [], nx := 0 }
def mostX0 (l : List Nat) (m : Nat)  : AS := { n := 21, fr := [(3, AV.v (.float FloatKind.f64 m))], hp := [], nx := 0 }
def mostX0_1 (l : List Nat) (m : Nat)  : AS := { n := 21, fr := [(2, AV.v (.float FloatKind.f64 m))], hp := [], nx := 0 }
def rmostS0 (l : List Nat) (m : Nat) (x0 : Int) : AS := { n := 33, fr := [(0, AV.sl 1 (Seq.fn l.length fun (i : Nat) => AV.v (.float FloatKind.f64 (l.getD i 0))) false), (3, AV.v (.float FloatKind.f64 m)), (4, AV.v (.int .i64 x0))], hp := [], nx := 0 }
def rmostX0 (l : List Nat) (m : Nat)  : AS := { n := 33, fr := [(3, AV.v (.float FloatKind.f64 m))], hp := [], nx := 0 }
def rmostX0_1 (l : List Nat) (m : Nat)  : AS := { n := 33, fr := [(2, AV.v (.float FloatKind.f64 m))], hp := [], nx := 0 }
-- 1 paths
theorem own1 (l : List Nat) (h : AllP [l.length * 8 ≤ 140737488355328, l.length = l.length, 0 ≤ l.length, ∀ (i : Nat), i < l.length → (AV.v (.float FloatKind.f64 (l.getD i 0))).cells.all Ev.plain1 = true]) : PureTo Try.prog 51 [.sl 1 (.fn l.length fun i => .v (.float .f64 (l.getD i 0))) false] (AV.sl 1 (Seq.fn l.length fun (i : Nat) => AV.v (.float FloatKind.f64 (l.getD i 0))) false) :=
  evFn_pure hm soM3 (fn := Try.f51) rfl rfl (ti := false) (hs := []) (c := _) (by kernel_rfl) h
-- 3 paths
theorem leastL0_1 (l : List Nat) (m : Nat) (x0 : Int) (h : AllP [decide (x0 < (↑l.length : Int)) = true, (0 : Int) ≤ x0 ∧ x0 < (↑l.length : Int), isNaN (l.getD x0.toNat 0) = true]) : To Try.prog (loopAt Try.f50 0) ({ n := 21, fr := [(3, AV.v (.float FloatKind.f64 m)), (7, AV.sl 1 (Seq.fn l.length fun (i : Nat) => AV.v (.float FloatKind.f64 (l.getD i 0))) false), (8, AV.v (.int .i64 (↑l.length : Int))), (9, AV.v (.int .i64 x0))], hp := [], nx := 0 }) (Exit.ret) { n := 21, fr := [(2, AV.v (.float FloatKind.f64 9221120237041090560))], hp := [], nx := 0 } :=
  evW_to hm soM3 (hs := [CHint.ops 3 [(0, Hint.b true)], CHint.ops 6 [(1, Hint.b true)]]) (slots := [2]) (keys := []) (nx := 0) (c := _) (by kernel_rfl) h
theorem leastL0_2 (l : List Nat) (m : Nat) (x0 : Int) (h : AllP [decide (x0 < (↑l.length : Int)) = true, (0 : Int) ≤ x0 ∧ x0 < (↑l.length : Int), isNaN (l.getD x0.toNat 0) = false, inR IntKind.i64 (x0 + (1 : Int))]) : To Try.prog (loopAt Try.f50 0) ({ n := 21, fr := [(3, AV.v (.float FloatKind.f64 m)), (7, AV.sl 1 (Seq.fn l.length fun (i : Nat) => AV.v (.float FloatKind.f64 (l.getD i 0))) false), (8, AV.v (.int .i64 (↑l.length : Int))), (9, AV.v (.int .i64 x0))], hp := [], nx := 0 }) (.normal) { n := 21, fr := [(3, AV.v (.float FloatKind.f64 (pickW true Ordering.lt m (l.getD x0.toNat 0)))), (7, AV.sl 1 (Seq.fn l.length fun (i : Nat) => AV.v (.float FloatKind.f64 (l.getD i 0))) false), (8, AV.v (.int .i64 (↑l.length : Int))), (9, AV.v (.int .i64 (x0 + (1 : Int))))], hp := [], nx := 0 } :=
  evW_to hm soM3 (hs := [CHint.ops 3 [(0, Hint.b true)], CHint.ops 6 [(1, Hint.b false)]]) (slots := [3, 7, 8, 9]) (keys := []) (nx := 0) (c := _) (by kernel_rfl) h
theorem leastL0_3 (l : List Nat) (m : Nat) (x0 : Int) (h : AllP [decide (x0 < (↑l.length : Int)) = false]) : To Try.prog (loopAt Try.f50 0) ({ n := 21, fr := [(3, AV.v (.float FloatKind.f64 m)), (7, AV.sl 1 (Seq.fn l.length fun (i : Nat) => AV.v (.float FloatKind.f64 (l.getD i 0))) false), (8, AV.v (.int .i64 (↑l.length : Int))), (9, AV.v (.int .i64 x0))], hp := [], nx := 0 }) (Exit.exit 0) { n := 21, fr := [(3, AV.v (.float FloatKind.f64 m))], hp := [], nx := 0 } :=
  evW_to hm soM3 (hs := [CHint.ops 3 [(0, Hint.b false)]]) (slots := [3]) (keys := []) (nx := 0) (c := _) (by kernel_rfl) h
-- 2 paths
theorem leastF1 (l : List Nat) (m : Nat) (h : AllP [LoopTo Try.prog (loopAt Try.f50 0) { n := 21, fr := [(3, AV.v (.float FloatKind.f64 9218868437227405312)), (7, AV.sl 1 (Seq.fn l.length fun (i : Nat) => AV.v (.float FloatKind.f64 (l.getD i 0))) false), (8, AV.v (.int .i64 (↑l.length : Int))), (9, AV.v (.int .i64 (0 : Int)))], hp := [], nx := 0 } (Exit.exit 0) { n := 21, fr := [(3, AV.v (.float FloatKind.f64 m))], hp := [], nx := 0 }]) : PureTo Try.prog 50 [.sl 1 (.fn l.length fun i => .v (.float .f64 (l.getD i 0))) false] (AV.v (.float FloatKind.f64 m)) :=
  evFn_pure hm soM3 (fn := Try.f50) rfl rfl (ti := false) (hs := [CHint.loop [3, 7, 8, 9] [] 0 (Exit.exit 0) { n := 21, fr := [(3, AV.v (.float FloatKind.f64 m))], hp := [], nx := 0 }]) (c := _) (by kernel_rfl) h
theorem leastF2 (l : List Nat) (m : Nat) (h : AllP [LoopTo Try.prog (loopAt Try.f50 0) { n := 21, fr := [(3, AV.v (.float FloatKind.f64 9218868437227405312)), (7, AV.sl 1 (Seq.fn l.length fun (i : Nat) => AV.v (.float FloatKind.f64 (l.getD i 0))) false), (8, AV.v (.int .i64 (↑l.length : Int))), (9, AV.v (.int .i64 (0 : Int)))], hp := [], nx := 0 } Exit.ret { n := 21, fr := [(2, AV.v (.float FloatKind.f64 m))], hp := [], nx := 0 }]) : PureTo Try.prog 50 [.sl 1 (.fn l.length fun i => .v (.float .f64 (l.getD i 0))) false] (AV.v (.float FloatKind.f64 m)) :=
  evFn_pure hm soM3 (fn := Try.f50) rfl rfl (ti := false) (hs := [CHint.loop [3, 7, 8, 9] [] 0 Exit.ret { n := 21, fr := [(2, AV.v (.float FloatKind.f64 m))], hp := [], nx := 0 }]) (c := _) (by kernel_rfl) h
-- 4 paths
theorem rleastL0_1 (l : List Nat) (m : Nat) (x0 : Int) (h : AllP [decide (x0 < (↑l.length : Int)) = true, (0 : Int) ≤ x0 ∧ x0 < (↑l.length : Int), isNaN (l.getD x0.toNat 0) = true, (0 : Int) ≤ x0 ∧ x0 < (↑l.length : Int)]) : To Try.prog (loopAt Try.f52 0) ({ n := 33, fr := [(0, AV.sl 1 (Seq.fn l.length fun (i : Nat) => AV.v (.float FloatKind.f64 (l.getD i 0))) false), (3, AV.v (.float FloatKind.f64 m)), (4, AV.v (.int .i64 x0))], hp := [], nx := 0 }) (Exit.ret) { n := 33, fr := [(2, AV.v (.float FloatKind.f64 (toldW (l.getD x0.toNat 0))))], hp := [], nx := 0 } :=
  evW_to hm soM3 (hs := [CHint.ops 3 [(3, Hint.b true)], CHint.ops 5 [(4, Hint.b true)]]) (slots := [2]) (keys := []) (nx := 0) (c := _) (by kernel_rfl) h
theorem rleastL0_2 (l : List Nat) (m : Nat) (x0 : Int) (h : AllP [decide (x0 < (↑l.length : Int)) = true, (0 : Int) ≤ x0 ∧ x0 < (↑l.length : Int), isNaN (l.getD x0.toNat 0) = false, (0 : Int) ≤ x0 ∧ x0 < (↑l.length : Int), Nu.ahead (l.getD x0.toNat 0) m = true, (0 : Int) ≤ x0 ∧ x0 < (↑l.length : Int), inR IntKind.i64 (x0 + (1 : Int))]) : To Try.prog (loopAt Try.f52 0) ({ n := 33, fr := [(0, AV.sl 1 (Seq.fn l.length fun (i : Nat) => AV.v (.float FloatKind.f64 (l.getD i 0))) false), (3, AV.v (.float FloatKind.f64 m)), (4, AV.v (.int .i64 x0))], hp := [], nx := 0 }) (.normal) { n := 33, fr := [(0, AV.sl 1 (Seq.fn l.length fun (i : Nat) => AV.v (.float FloatKind.f64 (l.getD i 0))) false), (3, AV.v (.float FloatKind.f64 (l.getD x0.toNat 0))), (4, AV.v (.int .i64 (x0 + (1 : Int))))], hp := [], nx := 0 } :=
  evW_to hm soM3 (hs := [CHint.ops 3 [(3, Hint.b true)], CHint.ops 5 [(4, Hint.b false)], CHint.ops 7 [(5, Hint.b true)]]) (slots := [0, 3, 4]) (keys := []) (nx := 0) (c := _) (by kernel_rfl) h
theorem rleastL0_3 (l : List Nat) (m : Nat) (x0 : Int) (h : AllP [decide (x0 < (↑l.length : Int)) = true, (0 : Int) ≤ x0 ∧ x0 < (↑l.length : Int), isNaN (l.getD x0.toNat 0) = false, (0 : Int) ≤ x0 ∧ x0 < (↑l.length : Int), Nu.ahead (l.getD x0.toNat 0) m = false, inR IntKind.i64 (x0 + (1 : Int))]) : To Try.prog (loopAt Try.f52 0) ({ n := 33, fr := [(0, AV.sl 1 (Seq.fn l.length fun (i : Nat) => AV.v (.float FloatKind.f64 (l.getD i 0))) false), (3, AV.v (.float FloatKind.f64 m)), (4, AV.v (.int .i64 x0))], hp := [], nx := 0 }) (.normal) { n := 33, fr := [(0, AV.sl 1 (Seq.fn l.length fun (i : Nat) => AV.v (.float FloatKind.f64 (l.getD i 0))) false), (3, AV.v (.float FloatKind.f64 m)), (4, AV.v (.int .i64 (x0 + (1 : Int))))], hp := [], nx := 0 } :=
  evW_to hm soM3 (hs := [CHint.ops 3 [(3, Hint.b true)], CHint.ops 5 [(4, Hint.b false)], CHint.ops 7 [(5, Hint.b false)]]) (slots := [0, 3, 4]) (keys := []) (nx := 0) (c := _) (by kernel_rfl) h
theorem rleastL0_4 (l : List Nat) (m : Nat) (x0 : Int) (h : AllP [decide (x0 < (↑l.length : Int)) = false]) : To Try.prog (loopAt Try.f52 0) ({ n := 33, fr := [(0, AV.sl 1 (Seq.fn l.length fun (i : Nat) => AV.v (.float FloatKind.f64 (l.getD i 0))) false), (3, AV.v (.float FloatKind.f64 m)), (4, AV.v (.int .i64 x0))], hp := [], nx := 0 }) (Exit.exit 0) { n := 33, fr := [(3, AV.v (.float FloatKind.f64 m))], hp := [], nx := 0 } :=
  evW_to hm soM3 (hs := [CHint.ops 3 [(3, Hint.b false)]]) (slots := [3]) (keys := []) (nx := 0) (c := _) (by kernel_rfl) h
-- 2 paths
theorem rleastF1 (l : List Nat) (m : Nat) (h : AllP [LoopTo Try.prog (loopAt Try.f52 0) { n := 33, fr := [(0, AV.sl 1 (Seq.fn l.length fun (i : Nat) => AV.v (.float FloatKind.f64 (l.getD i 0))) false), (3, AV.v (.float FloatKind.f64 9218868437227405312)), (4, AV.v (.int .i64 (0 : Int)))], hp := [], nx := 0 } (Exit.exit 0) { n := 33, fr := [(3, AV.v (.float FloatKind.f64 m))], hp := [], nx := 0 }]) : PureTo Try.prog 52 [.sl 1 (.fn l.length fun i => .v (.float .f64 (l.getD i 0))) false] (AV.v (.float FloatKind.f64 m)) :=
  evFn_pure hm soM3 (fn := Try.f52) rfl rfl (ti := false) (hs := [CHint.loop [0, 3, 4] [] 0 (Exit.exit 0) { n := 33, fr := [(3, AV.v (.float FloatKind.f64 m))], hp := [], nx := 0 }]) (c := _) (by kernel_rfl) h
theorem rleastF2 (l : List Nat) (m : Nat) (h : AllP [LoopTo Try.prog (loopAt Try.f52 0) { n := 33, fr := [(0, AV.sl 1 (Seq.fn l.length fun (i : Nat) => AV.v (.float FloatKind.f64 (l.getD i 0))) false), (3, AV.v (.float FloatKind.f64 9218868437227405312)), (4, AV.v (.int .i64 (0 : Int)))], hp := [], nx := 0 } Exit.ret { n := 33, fr := [(2, AV.v (.float FloatKind.f64 m))], hp := [], nx := 0 }]) : PureTo Try.prog 52 [.sl 1 (.fn l.length fun i => .v (.float .f64 (l.getD i 0))) false] (AV.v (.float FloatKind.f64 m)) :=
  evFn_pure hm soM3 (fn := Try.f52) rfl rfl (ti := false) (hs := [CHint.loop [0, 3, 4] [] 0 Exit.ret { n := 33, fr := [(2, AV.v (.float FloatKind.f64 m))], hp := [], nx := 0 }]) (c := _) (by kernel_rfl) h
-- 3 paths
theorem mostL0_1 (l : List Nat) (m : Nat) (x0 : Int) (h : AllP [decide (x0 < (↑l.length : Int)) = true, (0 : Int) ≤ x0 ∧ x0 < (↑l.length : Int), isNaN (l.getD x0.toNat 0) = true]) : To Try.prog (loopAt Try.f53 0) ({ n := 21, fr := [(3, AV.v (.float FloatKind.f64 m)), (7, AV.sl 1 (Seq.fn l.length fun (i : Nat) => AV.v (.float FloatKind.f64 (l.getD i 0))) false), (8, AV.v (.int .i64 (↑l.length : Int))), (9, AV.v (.int .i64 x0))], hp := [], nx := 0 }) (Exit.ret) { n := 21, fr := [(2, AV.v (.float FloatKind.f64 9221120237041090560))], hp := [], nx := 0 } :=
  evW_to hm soM3 (hs := [CHint.ops 3 [(0, Hint.b true)], CHint.ops 6 [(1, Hint.b true)]]) (slots := [2]) (keys := []) (nx := 0) (c := _) (by kernel_rfl) h
theorem mostL0_2 (l : List Nat) (m : Nat) (x0 : Int) (h : AllP [decide (x0 < (↑l.length : Int)) = true, (0 : Int) ≤ x0 ∧ x0 < (↑l.length : Int), isNaN (l.getD x0.toNat 0) = false, inR IntKind.i64 (x0 + (1 : Int))]) : To Try.prog (loopAt Try.f53 0) ({ n := 21, fr := [(3, AV.v (.float FloatKind.f64 m)), (7, AV.sl 1 (Seq.fn l.length fun (i : Nat) => AV.v (.float FloatKind.f64 (l.getD i 0))) false), (8, AV.v (.int .i64 (↑l.length : Int))), (9, AV.v (.int .i64 x0))], hp := [], nx := 0 }) (.normal) { n := 21, fr := [(3, AV.v (.float FloatKind.f64 (pickW false Ordering.gt m (l.getD x0.toNat 0)))), (7, AV.sl 1 (Seq.fn l.length fun (i : Nat) => AV.v (.float FloatKind.f64 (l.getD i 0))) false), (8, AV.v (.int .i64 (↑l.length : Int))), (9, AV.v (.int .i64 (x0 + (1 : Int))))], hp := [], nx := 0 } :=
  evW_to hm soM3 (hs := [CHint.ops 3 [(0, Hint.b true)], CHint.ops 6 [(1, Hint.b false)]]) (slots := [3, 7, 8, 9]) (keys := []) (nx := 0) (c := _) (by kernel_rfl) h
theorem mostL0_3 (l : List Nat) (m : Nat) (x0 : Int) (h : AllP [decide (x0 < (↑l.length : Int)) = false]) : To Try.prog (loopAt Try.f53 0) ({ n := 21, fr := [(3, AV.v (.float FloatKind.f64 m)), (7, AV.sl 1 (Seq.fn l.length fun (i : Nat) => AV.v (.float FloatKind.f64 (l.getD i 0))) false), (8, AV.v (.int .i64 (↑l.length : Int))), (9, AV.v (.int .i64 x0))], hp := [], nx := 0 }) (Exit.exit 0) { n := 21, fr := [(3, AV.v (.float FloatKind.f64 m))], hp := [], nx := 0 } :=
  evW_to hm soM3 (hs := [CHint.ops 3 [(0, Hint.b false)]]) (slots := [3]) (keys := []) (nx := 0) (c := _) (by kernel_rfl) h
-- 2 paths
theorem mostF1 (l : List Nat) (m : Nat) (h : AllP [LoopTo Try.prog (loopAt Try.f53 0) { n := 21, fr := [(3, AV.v (.float FloatKind.f64 18442240474082181120)), (7, AV.sl 1 (Seq.fn l.length fun (i : Nat) => AV.v (.float FloatKind.f64 (l.getD i 0))) false), (8, AV.v (.int .i64 (↑l.length : Int))), (9, AV.v (.int .i64 (0 : Int)))], hp := [], nx := 0 } (Exit.exit 0) { n := 21, fr := [(3, AV.v (.float FloatKind.f64 m))], hp := [], nx := 0 }]) : PureTo Try.prog 53 [.sl 1 (.fn l.length fun i => .v (.float .f64 (l.getD i 0))) false] (AV.v (.float FloatKind.f64 m)) :=
  evFn_pure hm soM3 (fn := Try.f53) rfl rfl (ti := false) (hs := [CHint.loop [3, 7, 8, 9] [] 0 (Exit.exit 0) { n := 21, fr := [(3, AV.v (.float FloatKind.f64 m))], hp := [], nx := 0 }]) (c := _) (by kernel_rfl) h
theorem mostF2 (l : List Nat) (m : Nat) (h : AllP [LoopTo Try.prog (loopAt Try.f53 0) { n := 21, fr := [(3, AV.v (.float FloatKind.f64 18442240474082181120)), (7, AV.sl 1 (Seq.fn l.length fun (i : Nat) => AV.v (.float FloatKind.f64 (l.getD i 0))) false), (8, AV.v (.int .i64 (↑l.length : Int))), (9, AV.v (.int .i64 (0 : Int)))], hp := [], nx := 0 } Exit.ret { n := 21, fr := [(2, AV.v (.float FloatKind.f64 m))], hp := [], nx := 0 }]) : PureTo Try.prog 53 [.sl 1 (.fn l.length fun i => .v (.float .f64 (l.getD i 0))) false] (AV.v (.float FloatKind.f64 m)) :=
  evFn_pure hm soM3 (fn := Try.f53) rfl rfl (ti := false) (hs := [CHint.loop [3, 7, 8, 9] [] 0 Exit.ret { n := 21, fr := [(2, AV.v (.float FloatKind.f64 m))], hp := [], nx := 0 }]) (c := _) (by kernel_rfl) h
-- 4 paths
theorem rmostL0_1 (l : List Nat) (m : Nat) (x0 : Int) (h : AllP [decide (x0 < (↑l.length : Int)) = true, (0 : Int) ≤ x0 ∧ x0 < (↑l.length : Int), isNaN (l.getD x0.toNat 0) = true, (0 : Int) ≤ x0 ∧ x0 < (↑l.length : Int)]) : To Try.prog (loopAt Try.f54 0) ({ n := 33, fr := [(0, AV.sl 1 (Seq.fn l.length fun (i : Nat) => AV.v (.float FloatKind.f64 (l.getD i 0))) false), (3, AV.v (.float FloatKind.f64 m)), (4, AV.v (.int .i64 x0))], hp := [], nx := 0 }) (Exit.ret) { n := 33, fr := [(2, AV.v (.float FloatKind.f64 (toldW (l.getD x0.toNat 0))))], hp := [], nx := 0 } :=
  evW_to hm soM3 (hs := [CHint.ops 3 [(3, Hint.b true)], CHint.ops 5 [(4, Hint.b true)]]) (slots := [2]) (keys := []) (nx := 0) (c := _) (by kernel_rfl) h
theorem rmostL0_2 (l : List Nat) (m : Nat) (x0 : Int) (h : AllP [decide (x0 < (↑l.length : Int)) = true, (0 : Int) ≤ x0 ∧ x0 < (↑l.length : Int), isNaN (l.getD x0.toNat 0) = false, (0 : Int) ≤ x0 ∧ x0 < (↑l.length : Int), Nu.ahead m (l.getD x0.toNat 0) = true, (0 : Int) ≤ x0 ∧ x0 < (↑l.length : Int), inR IntKind.i64 (x0 + (1 : Int))]) : To Try.prog (loopAt Try.f54 0) ({ n := 33, fr := [(0, AV.sl 1 (Seq.fn l.length fun (i : Nat) => AV.v (.float FloatKind.f64 (l.getD i 0))) false), (3, AV.v (.float FloatKind.f64 m)), (4, AV.v (.int .i64 x0))], hp := [], nx := 0 }) (.normal) { n := 33, fr := [(0, AV.sl 1 (Seq.fn l.length fun (i : Nat) => AV.v (.float FloatKind.f64 (l.getD i 0))) false), (3, AV.v (.float FloatKind.f64 (l.getD x0.toNat 0))), (4, AV.v (.int .i64 (x0 + (1 : Int))))], hp := [], nx := 0 } :=
  evW_to hm soM3 (hs := [CHint.ops 3 [(3, Hint.b true)], CHint.ops 5 [(4, Hint.b false)], CHint.ops 7 [(5, Hint.b true)]]) (slots := [0, 3, 4]) (keys := []) (nx := 0) (c := _) (by kernel_rfl) h
theorem rmostL0_3 (l : List Nat) (m : Nat) (x0 : Int) (h : AllP [decide (x0 < (↑l.length : Int)) = true, (0 : Int) ≤ x0 ∧ x0 < (↑l.length : Int), isNaN (l.getD x0.toNat 0) = false, (0 : Int) ≤ x0 ∧ x0 < (↑l.length : Int), Nu.ahead m (l.getD x0.toNat 0) = false, inR IntKind.i64 (x0 + (1 : Int))]) : To Try.prog (loopAt Try.f54 0) ({ n := 33, fr := [(0, AV.sl 1 (Seq.fn l.length fun (i : Nat) => AV.v (.float FloatKind.f64 (l.getD i 0))) false), (3, AV.v (.float FloatKind.f64 m)), (4, AV.v (.int .i64 x0))], hp := [], nx := 0 }) (.normal) { n := 33, fr := [(0, AV.sl 1 (Seq.fn l.length fun (i : Nat) => AV.v (.float FloatKind.f64 (l.getD i 0))) false), (3, AV.v (.float FloatKind.f64 m)), (4, AV.v (.int .i64 (x0 + (1 : Int))))], hp := [], nx := 0 } :=
  evW_to hm soM3 (hs := [CHint.ops 3 [(3, Hint.b true)], CHint.ops 5 [(4, Hint.b false)], CHint.ops 7 [(5, Hint.b false)]]) (slots := [0, 3, 4]) (keys := []) (nx := 0) (c := _) (by kernel_rfl) h
theorem rmostL0_4 (l : List Nat) (m : Nat) (x0 : Int) (h : AllP [decide (x0 < (↑l.length : Int)) = false]) : To Try.prog (loopAt Try.f54 0) ({ n := 33, fr := [(0, AV.sl 1 (Seq.fn l.length fun (i : Nat) => AV.v (.float FloatKind.f64 (l.getD i 0))) false), (3, AV.v (.float FloatKind.f64 m)), (4, AV.v (.int .i64 x0))], hp := [], nx := 0 }) (Exit.exit 0) { n := 33, fr := [(3, AV.v (.float FloatKind.f64 m))], hp := [], nx := 0 } :=
  evW_to hm soM3 (hs := [CHint.ops 3 [(3, Hint.b false)]]) (slots := [3]) (keys := []) (nx := 0) (c := _) (by kernel_rfl) h
-- 2 paths
theorem rmostF1 (l : List Nat) (m : Nat) (h : AllP [LoopTo Try.prog (loopAt Try.f54 0) { n := 33, fr := [(0, AV.sl 1 (Seq.fn l.length fun (i : Nat) => AV.v (.float FloatKind.f64 (l.getD i 0))) false), (3, AV.v (.float FloatKind.f64 18442240474082181120)), (4, AV.v (.int .i64 (0 : Int)))], hp := [], nx := 0 } (Exit.exit 0) { n := 33, fr := [(3, AV.v (.float FloatKind.f64 m))], hp := [], nx := 0 }]) : PureTo Try.prog 54 [.sl 1 (.fn l.length fun i => .v (.float .f64 (l.getD i 0))) false] (AV.v (.float FloatKind.f64 m)) :=
  evFn_pure hm soM3 (fn := Try.f54) rfl rfl (ti := false) (hs := [CHint.loop [0, 3, 4] [] 0 (Exit.exit 0) { n := 33, fr := [(3, AV.v (.float FloatKind.f64 m))], hp := [], nx := 0 }]) (c := _) (by kernel_rfl) h
theorem rmostF2 (l : List Nat) (m : Nat) (h : AllP [LoopTo Try.prog (loopAt Try.f54 0) { n := 33, fr := [(0, AV.sl 1 (Seq.fn l.length fun (i : Nat) => AV.v (.float FloatKind.f64 (l.getD i 0))) false), (3, AV.v (.float FloatKind.f64 18442240474082181120)), (4, AV.v (.int .i64 (0 : Int)))], hp := [], nx := 0 } Exit.ret { n := 33, fr := [(2, AV.v (.float FloatKind.f64 m))], hp := [], nx := 0 }]) : PureTo Try.prog 54 [.sl 1 (.fn l.length fun i => .v (.float .f64 (l.getD i 0))) false] (AV.v (.float FloatKind.f64 m)) :=
  evFn_pure hm soM3 (fn := Try.f54) rfl rfl (ti := false) (hs := [CHint.loop [0, 3, 4] [] 0 Exit.ret { n := 33, fr := [(2, AV.v (.float FloatKind.f64 m))], hp := [], nx := 0 }]) (c := _) (by kernel_rfl) h
end Go.Proofs.Nu

/- Numbers: the least and the greatest. -/
set_option maxRecDepth 100000
namespace Go.Proofs.Nu
open Go Go.Ev Ieee

def infR : Nat := 9218868437227405312
theorem dec_inf {x : Nat} (hx : Num x) (neg : Bool) : (FloatKind.f64.decode x == .infinity neg) = decide (rg x = infR ∧ sg x = neg) := by
  unfold FloatKind.decode
  unfold Num at hx
  rcases Nat.lt_or_eq_of_le hx with h | h
  · rw [read_fin h, decide_eq_false (fun h2 => by have := h2.1; unfold infR at this; omega)]
    rfl
  · rw [read_inf h]
    show (Datum.infinity (sg x) == Datum.infinity neg) = _
    by_cases h2 : sg x = neg
    · rw [h2, decide_eq_true ⟨h, rfl⟩]
      simp
    · rw [decide_eq_false (fun h3 => h2 h3.2), beq_eq_false_iff_ne]
      intro h3; cases h3; exact h2 rfl
theorem dec_nan {x : Nat} (hx : Num x) : (FloatKind.f64.decode x).isNaN = false := by
  unfold FloatKind.decode
  unfold Num at hx
  rcases Nat.lt_or_eq_of_le hx with h | h
  · rw [read_fin h]; rfl
  · rw [read_inf h]; rfl
theorem sigM_zero {r : Nat} : sigM r = 0 ↔ r = 0 := by
  unfold sigM
  split <;> omega
theorem dec_zero {x : Nat} (hx : Num x) : (FloatKind.f64.decode x).isZero = decide (rg x = 0) := by
  unfold FloatKind.decode
  unfold Num at hx
  rcases Nat.lt_or_eq_of_le hx with h | h
  · rw [read_fin h]
    by_cases h0 : rg x = 0
    · rw [decide_eq_true h0, sigM_zero.2 h0]; rfl
    · rw [decide_eq_false h0]
      have : sigM (rg x) ≠ 0 := fun h => h0 (sigM_zero.1 h)
      generalize sigM (rg x) = m at this
      cases m with
      | zero => exact (this rfl).elim
      | succ m => rfl
  · rw [read_inf h, decide_eq_false (by omega)]; rfl
theorem dec_neg (x : Nat) : (FloatKind.f64.decode x).neg = sg x := read_neg x

theorem pick_num {neg : Bool} {win : Ordering} {x y : Nat} (hx : Num x) (hy : Num y) : pickW neg win x y =
    if (rg x = infR ∧ sg x = neg) ∨ (rg y = infR ∧ sg y = neg) then wordOf neg infR
    else if rg x = 0 ∧ rg y = 0 then (if sg x = neg then x else y) else if compare (skey x) (skey y) = win then x else y := by
  unfold pickW
  rw [dec_inf hx, dec_inf hy, dec_nan hx, dec_nan hy, dec_zero hx, dec_zero hy, dec_neg]
  have ho : (FloatKind.f64.decode x).order (FloatKind.f64.decode y) = some (compare (skey x) (skey y)) := order_key hx hy
  have he : FloatKind.f64.encode (.infinity neg) = wordOf neg infR := word_form _ _
  rw [ho, he]
  by_cases h1 : (rg x = infR ∧ sg x = neg) ∨ (rg y = infR ∧ sg y = neg)
  · rw [if_pos h1, if_pos]
    simpa using h1
  · rw [if_neg h1, if_neg (by simpa using h1)]
    rw [if_neg (by decide)]
    by_cases h2 : rg x = 0 ∧ rg y = 0
    · rw [if_pos h2, if_pos (by simpa using h2)]
      by_cases h3 : sg x = neg
      · rw [if_pos h3, if_pos (by simpa using h3)]
      · rw [if_neg h3, if_neg (by simpa using h3)]
    · rw [if_neg h2, if_neg (by simpa using h2)]
      by_cases h3 : compare (skey x) (skey y) = win
      · rw [if_pos h3, if_pos (by rw [h3]; simp)]
      · rw [if_neg h3, if_neg (by simpa using h3)]

theorem cmp_lt {a b : Int} : compare a b = .lt ↔ a < b := by
  rw [compare_int]
  split
  · simp; assumption
  · split <;> simp <;> omega
theorem cmp_gt {a b : Int} : compare a b = .gt ↔ b < a := by
  rw [compare_int]
  split
  · simp; omega
  · split <;> simp <;> omega

theorem skey_eq (x : Nat) : skey x = if sg x = true then -(rg x : Int) else rg x := by
  unfold skey sg
  rfl
theorem ahead_eq {x y : Nat} (hx : Num x) (hy : Num y) : ahead x y = decide (skey x < skey y ∨ (rg x = 0 ∧ rg y = 0 ∧ sg x = true ∧ sg y = false)) := by
  unfold ahead
  rw [flt_key hx hy, feq_V hx fin_zero.num, feq_V hy fin_zero.num, V_null, sgn_sg, sgn_sg]
  have h1 := @V_zero x
  have h2 := @V_zero y
  by_cases a1 : skey x < skey y
  · rw [decide_eq_true a1, decide_eq_true (p := skey x < skey y ∨ _) (.inl a1)]; rfl
  rw [decide_eq_false a1]
  by_cases a2 : rg x = 0
  · rw [decide_eq_true (h1.2 a2)]
    by_cases a3 : rg y = 0
    · rw [decide_eq_true (h2.2 a3)]
      cases hx : sg x <;> cases hy : sg y
      · rw [decide_eq_false (p := skey x < skey y ∨ _) (by simp [a1])]; rfl
      · rw [decide_eq_false (p := skey x < skey y ∨ _) (by simp [a1])]; rfl
      · rw [decide_eq_true (p := skey x < skey y ∨ _) (.inr ⟨a2, a3, rfl, rfl⟩)]; rfl
      · rw [decide_eq_false (p := skey x < skey y ∨ _) (by simp [a1])]; rfl
    · rw [decide_eq_false (fun h => a3 (h2.1 h)), decide_eq_false (p := skey x < skey y ∨ _) (by simp [a1, a3])]; rfl
  · rw [decide_eq_false (fun h => a2 (h1.1 h)), decide_eq_false (p := skey x < skey y ∨ _) (by simp [a1, a2])]; rfl

theorem same_word {x y : Nat} (hx : FWord x) (hy : FWord y) (h1 : sg x = sg y) (h2 : rg x = rg y) : x = y := by rw [wordOf_of hx, wordOf_of hy, h1, h2]

theorem pick_min {m x : Nat} (hm : Num m) (hx : Num x) (wm : FWord m) (wx : FWord x) : pickW true .lt m x = if ahead x m = true then x else m := by
  rw [pick_num hm hx, ahead_eq hx hm]
  simp only [decide_eq_true_eq, cmp_lt]
  rw [skey_eq, skey_eq]
  have a := hm
  have b := hx
  unfold Num at a b
  have em := wordOf_of wm
  have ex := wordOf_of wx
  have key := @same_word m x wm wx
  unfold infR
  generalize hsm : sg m = s at *
  generalize hsx : sg x = t at *
  generalize hrm : rg m = p at *
  generalize hrx : rg x = q at *
  have em' : p = 9218868437227405312 → wordOf s 9218868437227405312 = m := fun h => by rw [em, h]
  have ex' : q = 9218868437227405312 → wordOf t 9218868437227405312 = x := fun h => by rw [ex, h]
  clear em ex hsm hsx hrm hrx wm wx hm hx
  cases s <;> cases t <;> simp only [Bool.false_eq_true, if_false, if_true, and_true, and_false, or_false, true_and, false_and, false_or, reduceCtorEq] <;> (repeat' split) <;>
    first | rfl | (exfalso; omega) | exact em' (by omega) | exact ex' (by omega) | exact key rfl (by omega) | exact (key rfl (by omega)).symm

theorem pick_max {m x : Nat} (hm : Num m) (hx : Num x) (wm : FWord m) (wx : FWord x) : pickW false .gt m x = if ahead m x = true then x else m := by
  rw [pick_num hm hx, ahead_eq hm hx]
  simp only [decide_eq_true_eq, cmp_gt]
  rw [skey_eq, skey_eq]
  have a := hm
  have b := hx
  unfold Num at a b
  have em := wordOf_of wm
  have ex := wordOf_of wx
  have key := @same_word m x wm wx
  unfold infR
  generalize hsm : sg m = s at *
  generalize hsx : sg x = t at *
  generalize hrm : rg m = p at *
  generalize hrx : rg x = q at *
  have em' : p = 9218868437227405312 → wordOf s 9218868437227405312 = m := fun h => by rw [em, h]
  have ex' : q = 9218868437227405312 → wordOf t 9218868437227405312 = x := fun h => by rw [ex, h]
  clear em ex hsm hsx hrm hrx wm wx hm hx
  cases s <;> cases t <;> simp only [Bool.false_eq_true, if_false, if_true, and_true, and_false, or_false, true_and, false_and, false_or, reduceCtorEq] <;> (repeat' split) <;>
    first | rfl | (exfalso; omega) | exact em' (by omega) | exact ex' (by omega) | exact key rfl (by omega) | exact (key rfl (by omega)).symm
end Go.Proofs.Nu

/- Numbers: Least and Most, and the reference's. -/
set_option maxRecDepth 100000
namespace Go.Proofs.Nu
open Go Go.Ev

def flts (l : List Nat) : AV := .sl 1 (.fn l.length fun i => .v (.float .f64 (l.getD i 0))) false

theorem qnan_told {x : Nat} (h : isNaN x = true) : toldW x = 9221120237041090560 := by unfold toldW; rw [if_pos h]; rfl

theorem getD_word {l : List Nat} (hw : ∀ x, x ∈ l → FWord x) {i : Nat} (hi : i < l.length) : FWord (l.getD i 0) := by
  rw [List.getD_eq_getElem?_getD, List.getElem?_eq_getElem hi]
  exact hw _ (List.getElem_mem hi)

theorem least_loop {l : List Nat} (hw : ∀ x, x ∈ l → FWord x) (hl : l.length ≤ 140737488355328) : ∀ n i m, l.length - i = n → i ≤ l.length → Num m → FWord m →
    ∃ r, (LoopTo Try.prog (loopAt Try.f50 0) (leastS0 l m i) (.exit 0) (leastX0 l r) ∧ LoopTo Try.prog (loopAt Try.f52 0) (rleastS0 l m i) (.exit 0) (rleastX0 l r)) ∨
      (LoopTo Try.prog (loopAt Try.f50 0) (leastS0 l m i) .ret (leastX0_1 l r) ∧ LoopTo Try.prog (loopAt Try.f52 0) (rleastS0 l m i) .ret (rleastX0_1 l r)) := by
  intro n
  induction n with
  | zero =>
    intro i m hn hi hm hwm
    have h : decide ((i : Int) < (l.length : Int)) = false := decide_eq_false (by omega)
    exact ⟨m, .inl ⟨LoopTo.done (by intro h; cases h) (leastL0_3 l m i ⟨h, trivial⟩), LoopTo.done (by intro h; cases h) (rleastL0_4 l m i ⟨h, trivial⟩)⟩⟩
  | succ n ih =>
    intro i m hn hi hm hwm
    have h : decide ((i : Int) < (l.length : Int)) = true := decide_eq_true (by omega)
    have hin : (0 : Int) ≤ (i : Int) ∧ (i : Int) < (l.length : Int) := by omega
    have hgw : FWord (l.getD (i : Int).toNat 0) := getD_word hw (by omega)
    have hnext : inR .i64 ((i : Int) + 1) := by simp only [inR]; omega
    have hcast : ((i : Int) + 1) = ((i + 1 : Nat) : Int) := by omega
    cases hx : isNaN (l.getD (i : Int).toNat 0) with
    | true =>
      refine ⟨9221120237041090560, .inr ⟨LoopTo.done (by intro h; cases h) (leastL0_1 l m i ⟨h, hin, hx, trivial⟩), ?_⟩⟩
      have := rleastL0_1 l m i ⟨h, hin, hx, hin, trivial⟩
      rw [qnan_told hx] at this
      exact LoopTo.done (by intro h; cases h) this
    | false =>
      have hxn := isNaN_num.1 hx
      have s1 := leastL0_2 l m i ⟨h, hin, hx, hnext, trivial⟩
      rw [pick_min hm hxn hwm hgw] at s1
      cases ha : ahead (l.getD (i : Int).toNat 0) m with
      | true =>
        have s2 := rleastL0_2 l m i ⟨h, hin, hx, hin, ha, hin, hnext, trivial⟩
        rw [ha, if_pos rfl] at s1
        rw [hcast] at s1 s2
        obtain ⟨r, hr⟩ := ih (i + 1) _ (by omega) (by omega) hxn hgw
        rcases hr with ⟨h1, h2⟩ | ⟨h1, h2⟩
        · exact ⟨r, .inl ⟨LoopTo.step s1 h1, LoopTo.step s2 h2⟩⟩
        · exact ⟨r, .inr ⟨LoopTo.step s1 h1, LoopTo.step s2 h2⟩⟩
      | false =>
        have s2 := rleastL0_3 l m i ⟨h, hin, hx, hin, ha, hnext, trivial⟩
        rw [ha, if_neg (by decide)] at s1
        rw [hcast] at s1 s2
        obtain ⟨r, hr⟩ := ih (i + 1) _ (by omega) (by omega) hm hwm
        rcases hr with ⟨h1, h2⟩ | ⟨h1, h2⟩
        · exact ⟨r, .inl ⟨LoopTo.step s1 h1, LoopTo.step s2 h2⟩⟩
        · exact ⟨r, .inr ⟨LoopTo.step s1 h1, LoopTo.step s2 h2⟩⟩

theorem least_both {l : List Nat} (hw : ∀ x, x ∈ l → FWord x) (hl : l.length ≤ 140737488355328) : ∃ r, PureTo Try.prog 50 [flts l] (.v (.float .f64 r)) ∧ PureTo Try.prog 52 [flts l] (.v (.float .f64 r)) := by
  obtain ⟨r, h⟩ := least_loop hw hl _ 0 9218868437227405312 rfl (by omega) (by unfold Num; decide) (by unfold FWord; decide)
  rcases h with ⟨h1, h2⟩ | ⟨h1, h2⟩
  · exact ⟨r, leastF1 l r ⟨h1, trivial⟩, rleastF1 l r ⟨h2, trivial⟩⟩
  · exact ⟨r, leastF2 l r ⟨h1, trivial⟩, rleastF2 l r ⟨h2, trivial⟩⟩

theorem most_loop {l : List Nat} (hw : ∀ x, x ∈ l → FWord x) (hl : l.length ≤ 140737488355328) : ∀ n i m, l.length - i = n → i ≤ l.length → Num m → FWord m →
    ∃ r, (LoopTo Try.prog (loopAt Try.f53 0) (mostS0 l m i) (.exit 0) (mostX0 l r) ∧ LoopTo Try.prog (loopAt Try.f54 0) (rmostS0 l m i) (.exit 0) (rmostX0 l r)) ∨
      (LoopTo Try.prog (loopAt Try.f53 0) (mostS0 l m i) .ret (mostX0_1 l r) ∧ LoopTo Try.prog (loopAt Try.f54 0) (rmostS0 l m i) .ret (rmostX0_1 l r)) := by
  intro n
  induction n with
  | zero =>
    intro i m hn hi hm hwm
    have h : decide ((i : Int) < (l.length : Int)) = false := decide_eq_false (by omega)
    exact ⟨m, .inl ⟨LoopTo.done (by intro h; cases h) (mostL0_3 l m i ⟨h, trivial⟩), LoopTo.done (by intro h; cases h) (rmostL0_4 l m i ⟨h, trivial⟩)⟩⟩
  | succ n ih =>
    intro i m hn hi hm hwm
    have h : decide ((i : Int) < (l.length : Int)) = true := decide_eq_true (by omega)
    have hin : (0 : Int) ≤ (i : Int) ∧ (i : Int) < (l.length : Int) := by omega
    have hgw : FWord (l.getD (i : Int).toNat 0) := getD_word hw (by omega)
    have hnext : inR .i64 ((i : Int) + 1) := by simp only [inR]; omega
    have hcast : ((i : Int) + 1) = ((i + 1 : Nat) : Int) := by omega
    cases hx : isNaN (l.getD (i : Int).toNat 0) with
    | true =>
      refine ⟨9221120237041090560, .inr ⟨LoopTo.done (by intro h; cases h) (mostL0_1 l m i ⟨h, hin, hx, trivial⟩), ?_⟩⟩
      have := rmostL0_1 l m i ⟨h, hin, hx, hin, trivial⟩
      rw [qnan_told hx] at this
      exact LoopTo.done (by intro h; cases h) this
    | false =>
      have hxn := isNaN_num.1 hx
      have s1 := mostL0_2 l m i ⟨h, hin, hx, hnext, trivial⟩
      rw [pick_max hm hxn hwm hgw] at s1
      cases ha : ahead m (l.getD (i : Int).toNat 0) with
      | true =>
        have s2 := rmostL0_2 l m i ⟨h, hin, hx, hin, ha, hin, hnext, trivial⟩
        rw [ha, if_pos rfl] at s1
        rw [hcast] at s1 s2
        obtain ⟨r, hr⟩ := ih (i + 1) _ (by omega) (by omega) hxn hgw
        rcases hr with ⟨h1, h2⟩ | ⟨h1, h2⟩
        · exact ⟨r, .inl ⟨LoopTo.step s1 h1, LoopTo.step s2 h2⟩⟩
        · exact ⟨r, .inr ⟨LoopTo.step s1 h1, LoopTo.step s2 h2⟩⟩
      | false =>
        have s2 := rmostL0_3 l m i ⟨h, hin, hx, hin, ha, hnext, trivial⟩
        rw [ha, if_neg (by decide)] at s1
        rw [hcast] at s1 s2
        obtain ⟨r, hr⟩ := ih (i + 1) _ (by omega) (by omega) hm hwm
        rcases hr with ⟨h1, h2⟩ | ⟨h1, h2⟩
        · exact ⟨r, .inl ⟨LoopTo.step s1 h1, LoopTo.step s2 h2⟩⟩
        · exact ⟨r, .inr ⟨LoopTo.step s1 h1, LoopTo.step s2 h2⟩⟩

theorem most_both {l : List Nat} (hw : ∀ x, x ∈ l → FWord x) (hl : l.length ≤ 140737488355328) : ∃ r, PureTo Try.prog 53 [flts l] (.v (.float .f64 r)) ∧ PureTo Try.prog 54 [flts l] (.v (.float .f64 r)) := by
  obtain ⟨r, h⟩ := most_loop hw hl _ 0 18442240474082181120 rfl (by omega) (by unfold Num; decide) (by unfold FWord; decide)
  rcases h with ⟨h1, h2⟩ | ⟨h1, h2⟩
  · exact ⟨r, mostF1 l r ⟨h1, trivial⟩, rmostF1 l r ⟨h2, trivial⟩⟩
  · exact ⟨r, mostF2 l r ⟨h1, trivial⟩, rmostF2 l r ⟨h2, trivial⟩⟩
end Go.Proofs.Nu

/- Numbers: the table for the ends. -/
set_option maxRecDepth 100000
namespace Go.Proofs.Nu
open Go Go.Ev
/-- the ends of l are told as r and s -/
structure EndsOK (l : List Nat) (r s : Nat) : Prop where
  own : PureTo Try.prog 51 [flts l] (flts l)
  least : PureTo Try.prog 50 [flts l] (.v (.float .f64 r))
  rleast : PureTo Try.prog 52 [flts l] (.v (.float .f64 r))
  most : PureTo Try.prog 53 [flts l] (.v (.float .f64 s))
  rmost : PureTo Try.prog 54 [flts l] (.v (.float .f64 s))
def sigOn (x r : AV) : List AV → Option (AV × List Prop) := fun ys => some (r, [ys = [x]])
theorem sigOn_ok {f : FuncId} {x r : AV} (h : PureTo Try.prog f [x] r) : ∀ ys r' c, sigOn x r ys = some (r', c) → AllP c → PureTo Try.prog f ys r' := by
  intro ys r' c hs hc
  cases hs
  obtain ⟨rfl, _⟩ := hc
  exact h
def SNE (l : List Nat) (r s : Nat) : SGT := (51, .p (sigOn (flts l) (flts l))) :: (50, .p (sigOn (flts l) (.v (.float .f64 r)))) :: (52, .p (sigOn (flts l) (.v (.float .f64 r)))) ::
  (53, .p (sigOn (flts l) (.v (.float .f64 s)))) :: (54, .p (sigOn (flts l) (.v (.float .f64 s)))) :: SM3
theorem soNE {l : List Nat} {r s : Nat} (h : EndsOK l r s) : SigsOK Try.prog (SNE l r s) :=
  sigs_cons (sigs_cons (sigs_cons (sigs_cons (sigs_cons soM3 (sigOn_ok h.rmost)) (sigOn_ok h.most)) (sigOn_ok h.rleast)) (sigOn_ok h.least)) (sigOn_ok h.own)
theorem ends_ok {l : List Nat} (hw : ∀ x, x ∈ l → FWord x) (hl : l.length * 8 ≤ 140737488355328) : ∃ r s, EndsOK l r s := by
  obtain ⟨r, h1, h2⟩ := least_both hw (by omega)
  obtain ⟨s, h3, h4⟩ := most_both hw (by omega)
  exact ⟨r, s, own1 l ⟨hl, rfl, Nat.zero_le _, fun _ _ => rfl, trivial⟩, h1, h2, h3, h4⟩
end Go.Proofs.Nu

/- Numbers: Place and Unary, and the reference's. -/
set_option maxRecDepth 100000
set_option exponentiation.threshold 2200
namespace Go.Proofs.Nu
open Go Go.Ev

def p63 : Nat := 4890909195324358656
def n63 : Nat := 14114281232179134464
theorem fit_p63 : Fit p63 := by decide
theorem fit_n63 : Fit n63 := by decide
theorem valN_p63 : valN (rg p63) = 9223372036854775808 * U := by
  have e1 : sigM (rg p63) = 2 ^ 52 := by decide
  have e2 : sigK (rg p63) = 1085 := by decide
  have e3 : (9223372036854775808 : Nat) = 2 ^ 63 := by decide
  unfold valN U
  rw [e1, e2, e3, ← Nat.pow_add]
theorem V_p63 : V p63 = ((9223372036854775808 * U : Nat) : Int) := by
  have h1 : V p63 = sv (sg p63) (valN (rg p63)) := rfl
  have h2 : sg p63 = false := by decide
  rw [h1, h2, valN_p63]; rfl
theorem V_n63 : V n63 = -((9223372036854775808 * U : Nat) : Int) := by
  have h1 : V n63 = sv (sg n63) (valN (rg p63)) := rfl
  have h2 : sg n63 = true := by decide
  rw [h1, h2, valN_p63]; rfl

/-- a float below 2^63 in amount, as an integer -/
theorem toI_range {y : Nat} (hn : Num y) {b : Nat} (hb : b = 9223372036854775808 * U) (h1 : V y < (b : Int)) (h2 : -(b : Int) ≤ V y) : fhasI y ∧ inR .i64 (ftoI y) ∧ (V y = -(b : Int) → ftoI y = -9223372036854775808) := by
  have hx : Fit y := by
    unfold Fit
    rcases Nat.lt_or_eq_of_le hn with h | h
    · exact h
    · exfalso
      have e3 := valN_lt (show rg p63 < 9218868437227405312 by decide)
      rw [valN_p63, ← hb, ← h] at e3
      unfold V sv at h1 h2
      split at h1 <;> split at h2 <;> omega
  obtain ⟨i1, i2⟩ := ftoI_V hx
  refine ⟨i1, ?_, ?_⟩
  · rw [i2]
    cases hs : sg y with
    | true =>
      have e : V y = -(valN (rg y) : Int) := by unfold V; rw [hs]; rfl
      rw [e] at h2
      have h3 : valN (rg y) ≤ 9223372036854775808 * U := by rw [← hb]; omega
      have h4 := div_bound U_pos h3
      generalize valN (rg y) / U = q at *
      rw [sv_neg]
      simp only [inR]
      omega
    | false =>
      have e : V y = (valN (rg y) : Int) := by unfold V; rw [hs]; rfl
      rw [e] at h1
      have h3 : valN (rg y) < 9223372036854775808 * U := by rw [← hb]; omega
      have h4 := (Nat.div_lt_iff_lt_mul U_pos).2 h3
      generalize valN (rg y) / U = q at *
      rw [sv_pos]
      simp only [inR]
      omega
  · intro h
    have hs : sg y = true := by
      cases hs : sg y with
      | true => rfl
      | false =>
        have := V_pos hs
        have hbp : 0 < b := by rw [hb]; exact Nat.mul_pos (by decide) U_pos
        omega
    have e : V y = -(valN (rg y) : Int) := by unfold V; rw [hs]; rfl
    have h3 : valN (rg y) = 9223372036854775808 * U := by rw [← hb]; omega
    rw [i2, hs, sv_neg, h3, Nat.mul_div_cancel _ U_pos]
    rfl

theorem place_both {x : Nat} (hw : FWord x) {a b : Int} (ha : inR .i64 a) (hb : inR .i64 b) : ∃ r, PureTo Try.prog 41 [.v (.float .f64 x), .v (.int .i64 a), .v (.int .i64 b)] (.v (.int .i64 r)) ∧ PureTo Try.prog 42 [.v (.float .f64 x), .v (.int .i64 a), .v (.int .i64 b)] (.v (.int .i64 r)) := by
  simp only [inR] at ha hb
  have hyn : Num (integW x) := by
    unfold integW
    by_cases h : isNaN x = true
    · rw [if_pos h]; exact fin_zero.num
    · rw [if_neg h]
      exact (trunc_num hw (isNaN_num.1 (by simpa using h))).1
  have t1 := place1 x a b; have t2 := place2 x a b; have t3 := place3 x a b
  have r1 := rplace1 x a b; have r2 := rplace2 x a b; have r3 := rplace3 x a b; have r4 := rplace4 x a b; have r5 := rplace5 x a b; have r6 := rplace6 x a b; have r7 := rplace7 x a b; have r8 := rplace8 x a b; have r9 := rplace9 x a b
  generalize integW x = y at *
  have hp : (4890909195324358656 : Nat) = p63 := rfl
  have hm : (14114281232179134464 : Nat) = n63 := rfl
  obtain ⟨B, hB⟩ : ∃ B, B = 9223372036854775808 * U := ⟨_, rfl⟩
  have vp : V p63 = (B : Int) := by rw [V_p63, hB]
  have vn : V n63 = -(B : Int) := by rw [V_n63, hB]
  rw [hp, ge_V hyn fit_p63.num, vp] at t1 t2 t3 r2 r3 r4 r5 r6 r7 r8 r9
  rw [hm, flt_V hyn fit_n63.num, vn] at t2 t3
  rw [hm, fgt_V hyn fit_n63.num, vn] at r3 r4 r5 r6 r7 r8 r9
  rw [le_V hyn fit_n63.num, vn] at r4 r5 r6 r7 r8 r9
  have rng := @toI_range y hyn B hB
  have hBp : 0 < B := by rw [hB]; exact Nat.mul_pos (by decide) U_pos
  clear hB vp vn
  -- what Place tells
  obtain ⟨r, hr, hval⟩ : ∃ r, PureTo Try.prog 41 [.v (.float .f64 x), .v (.int .i64 a), .v (.int .i64 b)] (.v (.int .i64 r)) ∧
      (b < a → r = b) ∧ (¬ b < a → ((B : Int) ≤ V y → r = b) ∧ (¬ (B : Int) ≤ V y → V y ≤ -(B : Int) → r = a) ∧ (¬ (B : Int) ≤ V y → ¬ V y ≤ -(B : Int) → (ftoI y > b → r = b) ∧ (¬ ftoI y > b → ftoI y < a → r = a) ∧ (¬ ftoI y > b → ¬ ftoI y < a → r = ftoI y))) := by
    by_cases c1 : (B : Int) ≤ V y
    · refine ⟨_, t1 ⟨hw, decide_eq_true c1, trivial⟩, ?_⟩
      split <;> split <;> omega
    · have d1 := decide_eq_false c1
      by_cases c2 : V y < -(B : Int)
      · refine ⟨_, t2 ⟨hw, d1, decide_eq_true c2, trivial⟩, ?_⟩
        split <;> split <;> omega
      · obtain ⟨i1, i2, i3⟩ := rng (by omega) (by omega)
        refine ⟨_, t3 ⟨hw, d1, decide_eq_false c2, i1, i2, trivial⟩, ?_⟩
        simp only [inR] at i2
        generalize ftoI y = t at *
        split <;> split <;> omega
  refine ⟨r, hr, ?_⟩
  by_cases c0 : b < a
  · rw [hval.1 c0]; exact r1 ⟨decide_eq_true c0, trivial⟩
  · have d0 := decide_eq_false c0
    obtain ⟨v1, v2, v3⟩ := hval.2 c0
    by_cases c1 : (B : Int) ≤ V y
    · rw [v1 c1]; exact r2 ⟨d0, hw, decide_eq_true c1, trivial⟩
    · have d1 := decide_eq_false c1
      by_cases c2 : V y ≤ -(B : Int)
      · rw [v2 c1 c2]
        exact r7 ⟨d0, hw, d1, decide_eq_false (by omega), decide_eq_true c2, trivial⟩
      · obtain ⟨i1, i2, i3⟩ := rng (by omega) (by omega)
        obtain ⟨w1, w2, w3⟩ := v3 c1 c2
        have d2 : decide (V y > -(B : Int)) = true := decide_eq_true (by omega)
        have d3 := decide_eq_false c2
        by_cases c4 : ftoI y > b
        · rw [w1 c4]; exact r3 ⟨d0, hw, d1, d2, i1, i2, decide_eq_true c4, trivial⟩
        · by_cases c5 : ftoI y < a
          · rw [w2 c4 c5]; exact r5 ⟨d0, hw, d1, d2, i1, i2, decide_eq_false c4, d3, i1, i2, decide_eq_true c5, trivial⟩
          · rw [w3 c4 c5]; exact r6 ⟨d0, hw, d1, d2, i1, i2, decide_eq_false c4, d3, i1, i2, decide_eq_false c5, i1, i2, trivial⟩

theorem runa_c {s : ByteArray} {x : Nat} (hx : FWord x) : PureTo Try.prog 21 [.v (.string s), .v (.float .f64 x)] (.tup [.v (.float .f64 (unW s x)), .v (.int .i64 (unE s))]) := by
  unfold unW unE unK
  by_cases h1 : (s.toList == (ByteArray.mk #[(45 : UInt8)]).toList) = true
  · rw [if_pos h1]
    exact runa1 s x ⟨h1, trivial⟩
  rw [if_neg h1]
  have h1' : (s.toList == (ByteArray.mk #[(45 : UInt8)]).toList) = false := by simpa using h1
  by_cases h2 : (s.toList == (ByteArray.mk #[(43 : UInt8)]).toList) = true
  · rw [if_pos h2]
    exact runa2 s x ⟨h1', h2, trivial⟩
  rw [if_neg h2]
  have h2' : (s.toList == (ByteArray.mk #[(43 : UInt8)]).toList) = false := by simpa using h2
  by_cases h3 : (s.toList == (ByteArray.mk #[(126 : UInt8)]).toList) = true
  · rw [if_pos h3]
    exact runa3 s x ⟨h1', h2', h3, hx, trivial⟩
  rw [if_neg h3]
  have h3' : (s.toList == (ByteArray.mk #[(126 : UInt8)]).toList) = false := by simpa using h3
  exact runa4 s x ⟨h1', h2', h3', trivial⟩
theorem sigRUn_ok : ∀ ys r c, sigUn ys = some (r, c) → AllP c → PureTo Try.prog 21 ys r := by
  intro ys r c hs hc
  unfold sigUn at hs
  split at hs
  · cases hs; exact runa_c hc.1
  · cases hs
def SMA : SGT := (20, .p sigUn) :: (21, .p sigUn) :: SM9
theorem soMA : SigsOK Try.prog SMA := sigs_cons (sigs_cons soM9 sigRUn_ok) sigUn_ok

/-- what a number is told as, by place and by index -/
structure WholesOK (x : Nat) (a b n : Int) (k : Bool) (r : Int) : Prop where
  index : PureTo Try.prog 33 [.v (.float .f64 x)] (.tup [.v (.int .u32 n), .v (.bool k)])
  rindex : PureTo Try.prog 34 [.v (.float .f64 x)] (.tup [.v (.int .u32 n), .v (.bool k)])
  place : PureTo Try.prog 41 [.v (.float .f64 x), .v (.int .i64 a), .v (.int .i64 b)] (.v (.int .i64 r))
  rplace : PureTo Try.prog 42 [.v (.float .f64 x), .v (.int .i64 a), .v (.int .i64 b)] (.v (.int .i64 r))
def sigOnL (xs : List AV) (r : AV) : List AV → Option (AV × List Prop) := fun ys => some (r, [ys = xs])
theorem sigOnL_ok {f : FuncId} {xs : List AV} {r : AV} (h : PureTo Try.prog f xs r) : ∀ ys r' c, sigOnL xs r ys = some (r', c) → AllP c → PureTo Try.prog f ys r' := by
  intro ys r' c hs hc
  cases hs
  obtain ⟨rfl, _⟩ := hc
  exact h
def sigU16 : List AV → Option (AV × List Prop)
  | [.v (.float .f64 x)] => some (.v (.int .u16 (u32N x % (65536 : Int))), [FWord x])
  | _ => none
theorem sigU16_ok {f : FuncId} (h : ∀ x, AllP [FWord x] → PureTo Try.prog f [.v (.float .f64 x)] (.v (.int .u16 (u32N x % (65536 : Int))))) : ∀ ys r c, sigU16 ys = some (r, c) → AllP c → PureTo Try.prog f ys r := by
  intro ys r c hs hc
  unfold sigU16 at hs
  split at hs
  · cases hs; exact h _ hc
  · cases hs
def SNW (x : Nat) (a b n : Int) (k : Bool) (r : Int) : SGT := (33, .p (sigOnL [.v (.float .f64 x)] (.tup [.v (.int .u32 n), .v (.bool k)]))) :: (34, .p (sigOnL [.v (.float .f64 x)] (.tup [.v (.int .u32 n), .v (.bool k)]))) ::
  (41, .p (sigOnL [.v (.float .f64 x), .v (.int .i64 a), .v (.int .i64 b)] (.v (.int .i64 r)))) :: (42, .p (sigOnL [.v (.float .f64 x), .v (.int .i64 a), .v (.int .i64 b)] (.v (.int .i64 r)))) ::
  (39, .p sigU16) :: (40, .p sigU16) :: SM9
theorem soNW {x : Nat} {a b n : Int} {k : Bool} {r : Int} (h : WholesOK x a b n k r) : SigsOK Try.prog (SNW x a b n k r) :=
  sigs_cons (sigs_cons (sigs_cons (sigs_cons (sigs_cons (sigs_cons soM9 (sigU16_ok ru161)) (sigU16_ok u161)) (sigOnL_ok h.rplace)) (sigOnL_ok h.place)) (sigOnL_ok h.rindex)) (sigOnL_ok h.index)
theorem wholes_ok {x : Nat} (hw : FWord x) {a b : Int} (ha : inR .i64 a) (hb : inR .i64 b) : ∃ n k r, WholesOK x a b n k r := by
  obtain ⟨n, k, h1, h2⟩ := index_both hw
  obtain ⟨r, h3, h4⟩ := place_both hw ha hb
  exact ⟨n, k, r, h1, h2, h3, h4⟩
end Go.Proofs.Nu

/- Numbers: walks, written by the tool. -/
set_option maxRecDepth 100000
namespace Go.Proofs.Nu
open Go Go.Ev
def nearFS0 (a : List Int) (ta : Bool) (e : Int) (m : Nat) (x0 : Int) : AS := { n := 113, fr := [(1, AV.v (.int .i64 e)), (7, AV.fl FloatKind.f64 m), (8, AV.sl 1 (.ints .u32 (Bn.norm a)) false), (9, AV.v (.int .i64 x0))], hp := [], nx := 0 }
def nearFX0 (a : List Int) (ta : Bool) (e : Int) (m : Nat)  : AS := { n := 113, fr := [(1, AV.v (.int .i64 e)), (7, AV.fl FloatKind.f64 m)], hp := [], nx := 0 }
-- 2 paths
theorem nearFL0_1 (a : List Int) (ta : Bool) (e : Int) (m : Nat) (x0 : Int) (h : AllP [decide (x0 ≥ (0 : Int)) = true, (0 : Int) ≤ x0 ∧ x0 < (↑(Bn.norm a).length : Int), inR IntKind.i64 (x0 - (1 : Int))]) : To Try.prog (loopAt Try.f88 0) ({ n := 113, fr := [(1, AV.v (.int .i64 e)), (7, AV.fl FloatKind.f64 m), (8, AV.sl 1 (.ints .u32 (Bn.norm a)) false), (9, AV.v (.int .i64 x0))], hp := [], nx := 0 }) (.normal) { n := 113, fr := [(1, AV.v (.int .i64 e)), (7, AV.fl FloatKind.f64 (fadd (fmul m 4751297606875873280) (fofI ((Bn.norm a).getD x0.toNat (0 : Int))))), (8, AV.sl 1 (.ints .u32 (Bn.norm a)) false), (9, AV.v (.int .i64 (x0 - (1 : Int))))], hp := [], nx := 0 } :=
  evW_to hm soMA (hs := [CHint.ops 13 [(1, Hint.b true)]]) (slots := [1, 7, 8, 9]) (keys := []) (nx := 0) (c := _) (by kernel_rfl) h
theorem nearFL0_2 (a : List Int) (ta : Bool) (e : Int) (m : Nat) (x0 : Int) (h : AllP [decide (x0 ≥ (0 : Int)) = false]) : To Try.prog (loopAt Try.f88 0) ({ n := 113, fr := [(1, AV.v (.int .i64 e)), (7, AV.fl FloatKind.f64 m), (8, AV.sl 1 (.ints .u32 (Bn.norm a)) false), (9, AV.v (.int .i64 x0))], hp := [], nx := 0 }) (Exit.exit 0) { n := 113, fr := [(1, AV.v (.int .i64 e)), (7, AV.fl FloatKind.f64 m)], hp := [], nx := 0 } :=
  evW_to hm soMA (hs := [CHint.ops 13 [(1, Hint.b false)]]) (slots := [1, 7]) (keys := []) (nx := 0) (c := _) (by kernel_rfl) h
-- 38 paths
theorem nearFF1 (a : List Int) (ta : Bool) (e : Int) (m : Nat) (h : AllP [Bn.Words a, a.length ≤ Bn.lim4, ((↑(Bn.bl (Bn.nat a)) : Int) == (0 : Int)) = true]) : PureTo Try.prog 88 [.sl 1 (.ints .u32 a) ta, .v (.int .i64 e)] (AV.v (.float FloatKind.f64 0)) :=
  evFn_pure hm soMA (fn := Try.f88) rfl rfl (ti := false) (hs := [CHint.ops 2 [(1, Hint.b true)]]) (c := _) (by kernel_rfl) h
theorem nearFF2 (a : List Int) (ta : Bool) (e : Int) (m : Nat) (h : AllP [Bn.Words a, a.length ≤ Bn.lim4, ((↑(Bn.bl (Bn.nat a)) : Int) == (0 : Int)) = false, inR IntKind.i64 ((↑(Bn.bl (Bn.nat a)) : Int) + e), decide ((↑(Bn.bl (Bn.nat a)) : Int) + e > (1024 : Int)) = true]) : PureTo Try.prog 88 [.sl 1 (.ints .u32 a) ta, .v (.int .i64 e)] (AV.v (.float FloatKind.f64 9218868437227405312)) :=
  evFn_pure hm soMA (fn := Try.f88) rfl rfl (ti := false) (hs := [CHint.ops 2 [(1, Hint.b false)], CHint.ops 4 [(3, Hint.b true)]]) (c := _) (by kernel_rfl) h
theorem nearFF3 (a : List Int) (ta : Bool) (e : Int) (m : Nat) (h : AllP [Bn.Words a, a.length ≤ Bn.lim4, ((↑(Bn.bl (Bn.nat a)) : Int) == (0 : Int)) = false, inR IntKind.i64 ((↑(Bn.bl (Bn.nat a)) : Int) + e), decide ((↑(Bn.bl (Bn.nat a)) : Int) + e > (1024 : Int)) = false, inR IntKind.i64 ((↑(Bn.bl (Bn.nat a)) : Int) - (53 : Int)), inR IntKind.i64 ((↑(Bn.bl (Bn.nat a)) : Int) - (53 : Int) + e), decide ((↑(Bn.bl (Bn.nat a)) : Int) - (53 : Int) + e < (-1074 : Int)) = true, inR IntKind.i64 ((-1074 : Int) - e), decide ((-1074 : Int) - e ≤ (0 : Int)) = true, a.length ≤ Bn.lim4, inR IntKind.i64 ((↑(Bn.norm a).length : Int) - (1 : Int)), LoopTo Try.prog (loopAt Try.f88 0) { n := 113, fr := [(1, AV.v (.int .i64 e)), (7, AV.v (.float FloatKind.f64 0)), (8, AV.sl 1 (.ints .u32 (Bn.norm a)) false), (9, AV.v (.int .i64 ((↑(Bn.norm a).length : Int) - (1 : Int))))], hp := [], nx := 0 } (Exit.exit 0) { n := 113, fr := [(1, AV.v (.int .i64 e)), (7, AV.fl FloatKind.f64 m)], hp := [], nx := 0 }, W m, (-4611686018427387904 : Int) ≤ e, e ≤ (4611686018427387904 : Int), ¬nanB FloatKind.f64 m]) : PureTo Try.prog 88 [.sl 1 (.ints .u32 a) ta, .v (.int .i64 e)] (AV.fl FloatKind.f64 (ldexpW m e)) :=
  evFn_pure hm soMA (fn := Try.f88) rfl rfl (ti := false) (hs := [CHint.ops 2 [(1, Hint.b false)], CHint.ops 4 [(3, Hint.b false)], CHint.ops 7 [(3, Hint.b true)], CHint.ops 9 [(1, Hint.b true)], CHint.loop [1, 7, 8, 9] [] 0 (Exit.exit 0) { n := 113, fr := [(1, AV.v (.int .i64 e)), (7, AV.fl FloatKind.f64 m)], hp := [], nx := 0 }]) (c := _) (by kernel_rfl) h
theorem nearFF10 (a : List Int) (ta : Bool) (e : Int) (m : Nat) (h : AllP [Bn.Words a, a.length ≤ Bn.lim4, ((↑(Bn.bl (Bn.nat a)) : Int) == (0 : Int)) = false, inR IntKind.i64 ((↑(Bn.bl (Bn.nat a)) : Int) + e), decide ((↑(Bn.bl (Bn.nat a)) : Int) + e > (1024 : Int)) = false, inR IntKind.i64 ((↑(Bn.bl (Bn.nat a)) : Int) - (53 : Int)), inR IntKind.i64 ((↑(Bn.bl (Bn.nat a)) : Int) - (53 : Int) + e), decide ((↑(Bn.bl (Bn.nat a)) : Int) - (53 : Int) + e < (-1074 : Int)) = true, inR IntKind.i64 ((-1074 : Int) - e), decide ((-1074 : Int) - e ≤ (0 : Int)) = false, inR IntKind.i64 ((↑(Bn.bl (Bn.nat a)) : Int) + (1 : Int)), decide ((-1074 : Int) - e > (↑(Bn.bl (Bn.nat a)) : Int) + (1 : Int)) = false, Bn.Words a, a.length ≤ Bn.lim4, (Bn.ShrN (Bn.nat a) ((-1074 : Int) - e)).snd = true, inR IntKind.i64 ((-1074 : Int) - e - (1 : Int)), Bn.Words a, a.length ≤ Bn.lim4, (Bn.ShrN (Bn.nat a) ((-1074 : Int) - e - (1 : Int))).snd = false, decide ((↑(Bn.ShrN (Bn.nat a) ((-1074 : Int) - e - (1 : Int))).fst.length : Int) > (0 : Int)) = true, (0 : Int) ≤ (0 : Int) ∧ (0 : Int) < (↑(Bn.ShrN (Bn.nat a) ((-1074 : Int) - e - (1 : Int))).fst.length : Int), (bitsOf BinOp.and IntKind.u32 ((Bn.ShrN (Bn.nat a) ((-1074 : Int) - e - (1 : Int))).fst.getD 0 (0 : Int)) (1 : Int) == (1 : Int)) = true, decide ((↑(Bn.ShrN (Bn.nat a) ((-1074 : Int) - e)).fst.length : Int) > (0 : Int)) = false, Bn.Words (Bn.ShrN (Bn.nat a) ((-1074 : Int) - e)).fst, (0 : Int) ≤ (1 : Int), (0 : Int) ≤ (32 : Int), inR IntKind.u64 (Bn.wd (Bn.ShrN (Bn.nat a) ((-1074 : Int) - e)).fst (1 : Int) * (4294967296 : Int)), Bn.Words (Bn.ShrN (Bn.nat a) ((-1074 : Int) - e)).fst, (0 : Int) ≤ (0 : Int), inR IntKind.i64 (e + ((-1074 : Int) - e)), W (fofI (bitsOf BinOp.or IntKind.u64 (Bn.wd (Bn.ShrN (Bn.nat a) ((-1074 : Int) - e)).fst (1 : Int) * (4294967296 : Int)) (Bn.wd (Bn.ShrN (Bn.nat a) ((-1074 : Int) - e)).fst (0 : Int)))), (-4611686018427387904 : Int) ≤ e + ((-1074 : Int) - e), e + ((-1074 : Int) - e) ≤ (4611686018427387904 : Int)]) : PureTo Try.prog 88 [.sl 1 (.ints .u32 a) ta, .v (.int .i64 e)] (AV.fl FloatKind.f64 (ldexpW (fofI (bitsOf BinOp.or IntKind.u64 (Bn.wd (Bn.ShrN (Bn.nat a) ((-1074 : Int) - e)).fst (1 : Int) * (4294967296 : Int)) (Bn.wd (Bn.ShrN (Bn.nat a) ((-1074 : Int) - e)).fst (0 : Int)))) (e + ((-1074 : Int) - e)))) :=
  evFn_pure hm soMA (fn := Try.f88) rfl rfl (ti := false) (hs := [CHint.ops 2 [(1, Hint.b false)], CHint.ops 4 [(3, Hint.b false)], CHint.ops 7 [(3, Hint.b true)], CHint.ops 9 [(1, Hint.b false)], CHint.ops 17 [(3, Hint.b false)], CHint.ops 19 [(5, Hint.b true)], CHint.ops 20 [(6, Hint.b false)], CHint.ops 21 [(2, Hint.b true), (8, Hint.b true), (15, Hint.b false)]]) (c := _) (by kernel_rfl) h
theorem nearFF11 (a : List Int) (ta : Bool) (e : Int) (m : Nat) (h : AllP [Bn.Words a, a.length ≤ Bn.lim4, ((↑(Bn.bl (Bn.nat a)) : Int) == (0 : Int)) = false, inR IntKind.i64 ((↑(Bn.bl (Bn.nat a)) : Int) + e), decide ((↑(Bn.bl (Bn.nat a)) : Int) + e > (1024 : Int)) = false, inR IntKind.i64 ((↑(Bn.bl (Bn.nat a)) : Int) - (53 : Int)), inR IntKind.i64 ((↑(Bn.bl (Bn.nat a)) : Int) - (53 : Int) + e), decide ((↑(Bn.bl (Bn.nat a)) : Int) - (53 : Int) + e < (-1074 : Int)) = true, inR IntKind.i64 ((-1074 : Int) - e), decide ((-1074 : Int) - e ≤ (0 : Int)) = false, inR IntKind.i64 ((↑(Bn.bl (Bn.nat a)) : Int) + (1 : Int)), decide ((-1074 : Int) - e > (↑(Bn.bl (Bn.nat a)) : Int) + (1 : Int)) = false, Bn.Words a, a.length ≤ Bn.lim4, (Bn.ShrN (Bn.nat a) ((-1074 : Int) - e)).snd = true, inR IntKind.i64 ((-1074 : Int) - e - (1 : Int)), Bn.Words a, a.length ≤ Bn.lim4, (Bn.ShrN (Bn.nat a) ((-1074 : Int) - e - (1 : Int))).snd = false, decide ((↑(Bn.ShrN (Bn.nat a) ((-1074 : Int) - e - (1 : Int))).fst.length : Int) > (0 : Int)) = true, (0 : Int) ≤ (0 : Int) ∧ (0 : Int) < (↑(Bn.ShrN (Bn.nat a) ((-1074 : Int) - e - (1 : Int))).fst.length : Int), (bitsOf BinOp.and IntKind.u32 ((Bn.ShrN (Bn.nat a) ((-1074 : Int) - e - (1 : Int))).fst.getD 0 (0 : Int)) (1 : Int) == (1 : Int)) = false, Bn.Words (Bn.ShrN (Bn.nat a) ((-1074 : Int) - e)).fst, (0 : Int) ≤ (1 : Int), (0 : Int) ≤ (32 : Int), inR IntKind.u64 (Bn.wd (Bn.ShrN (Bn.nat a) ((-1074 : Int) - e)).fst (1 : Int) * (4294967296 : Int)), Bn.Words (Bn.ShrN (Bn.nat a) ((-1074 : Int) - e)).fst, (0 : Int) ≤ (0 : Int), inR IntKind.i64 (e + ((-1074 : Int) - e)), W (fofI (bitsOf BinOp.or IntKind.u64 (Bn.wd (Bn.ShrN (Bn.nat a) ((-1074 : Int) - e)).fst (1 : Int) * (4294967296 : Int)) (Bn.wd (Bn.ShrN (Bn.nat a) ((-1074 : Int) - e)).fst (0 : Int)))), (-4611686018427387904 : Int) ≤ e + ((-1074 : Int) - e), e + ((-1074 : Int) - e) ≤ (4611686018427387904 : Int)]) : PureTo Try.prog 88 [.sl 1 (.ints .u32 a) ta, .v (.int .i64 e)] (AV.fl FloatKind.f64 (ldexpW (fofI (bitsOf BinOp.or IntKind.u64 (Bn.wd (Bn.ShrN (Bn.nat a) ((-1074 : Int) - e)).fst (1 : Int) * (4294967296 : Int)) (Bn.wd (Bn.ShrN (Bn.nat a) ((-1074 : Int) - e)).fst (0 : Int)))) (e + ((-1074 : Int) - e)))) :=
  evFn_pure hm soMA (fn := Try.f88) rfl rfl (ti := false) (hs := [CHint.ops 2 [(1, Hint.b false)], CHint.ops 4 [(3, Hint.b false)], CHint.ops 7 [(3, Hint.b true)], CHint.ops 9 [(1, Hint.b false)], CHint.ops 17 [(3, Hint.b false)], CHint.ops 19 [(5, Hint.b true)], CHint.ops 20 [(6, Hint.b false)], CHint.ops 21 [(2, Hint.b true), (8, Hint.b false)]]) (c := _) (by kernel_rfl) h
theorem nearFF12 (a : List Int) (ta : Bool) (e : Int) (m : Nat) (h : AllP [Bn.Words a, a.length ≤ Bn.lim4, ((↑(Bn.bl (Bn.nat a)) : Int) == (0 : Int)) = false, inR IntKind.i64 ((↑(Bn.bl (Bn.nat a)) : Int) + e), decide ((↑(Bn.bl (Bn.nat a)) : Int) + e > (1024 : Int)) = false, inR IntKind.i64 ((↑(Bn.bl (Bn.nat a)) : Int) - (53 : Int)), inR IntKind.i64 ((↑(Bn.bl (Bn.nat a)) : Int) - (53 : Int) + e), decide ((↑(Bn.bl (Bn.nat a)) : Int) - (53 : Int) + e < (-1074 : Int)) = true, inR IntKind.i64 ((-1074 : Int) - e), decide ((-1074 : Int) - e ≤ (0 : Int)) = false, inR IntKind.i64 ((↑(Bn.bl (Bn.nat a)) : Int) + (1 : Int)), decide ((-1074 : Int) - e > (↑(Bn.bl (Bn.nat a)) : Int) + (1 : Int)) = false, Bn.Words a, a.length ≤ Bn.lim4, (Bn.ShrN (Bn.nat a) ((-1074 : Int) - e)).snd = true, inR IntKind.i64 ((-1074 : Int) - e - (1 : Int)), Bn.Words a, a.length ≤ Bn.lim4, (Bn.ShrN (Bn.nat a) ((-1074 : Int) - e - (1 : Int))).snd = false, decide ((↑(Bn.ShrN (Bn.nat a) ((-1074 : Int) - e - (1 : Int))).fst.length : Int) > (0 : Int)) = false, Bn.Words (Bn.ShrN (Bn.nat a) ((-1074 : Int) - e)).fst, (0 : Int) ≤ (1 : Int), (0 : Int) ≤ (32 : Int), inR IntKind.u64 (Bn.wd (Bn.ShrN (Bn.nat a) ((-1074 : Int) - e)).fst (1 : Int) * (4294967296 : Int)), Bn.Words (Bn.ShrN (Bn.nat a) ((-1074 : Int) - e)).fst, (0 : Int) ≤ (0 : Int), inR IntKind.i64 (e + ((-1074 : Int) - e)), W (fofI (bitsOf BinOp.or IntKind.u64 (Bn.wd (Bn.ShrN (Bn.nat a) ((-1074 : Int) - e)).fst (1 : Int) * (4294967296 : Int)) (Bn.wd (Bn.ShrN (Bn.nat a) ((-1074 : Int) - e)).fst (0 : Int)))), (-4611686018427387904 : Int) ≤ e + ((-1074 : Int) - e), e + ((-1074 : Int) - e) ≤ (4611686018427387904 : Int)]) : PureTo Try.prog 88 [.sl 1 (.ints .u32 a) ta, .v (.int .i64 e)] (AV.fl FloatKind.f64 (ldexpW (fofI (bitsOf BinOp.or IntKind.u64 (Bn.wd (Bn.ShrN (Bn.nat a) ((-1074 : Int) - e)).fst (1 : Int) * (4294967296 : Int)) (Bn.wd (Bn.ShrN (Bn.nat a) ((-1074 : Int) - e)).fst (0 : Int)))) (e + ((-1074 : Int) - e)))) :=
  evFn_pure hm soMA (fn := Try.f88) rfl rfl (ti := false) (hs := [CHint.ops 2 [(1, Hint.b false)], CHint.ops 4 [(3, Hint.b false)], CHint.ops 7 [(3, Hint.b true)], CHint.ops 9 [(1, Hint.b false)], CHint.ops 17 [(3, Hint.b false)], CHint.ops 19 [(5, Hint.b true)], CHint.ops 20 [(6, Hint.b false)], CHint.ops 21 [(2, Hint.b false)]]) (c := _) (by kernel_rfl) h
theorem nearFF13 (a : List Int) (ta : Bool) (e : Int) (m : Nat) (h : AllP [Bn.Words a, a.length ≤ Bn.lim4, ((↑(Bn.bl (Bn.nat a)) : Int) == (0 : Int)) = false, inR IntKind.i64 ((↑(Bn.bl (Bn.nat a)) : Int) + e), decide ((↑(Bn.bl (Bn.nat a)) : Int) + e > (1024 : Int)) = false, inR IntKind.i64 ((↑(Bn.bl (Bn.nat a)) : Int) - (53 : Int)), inR IntKind.i64 ((↑(Bn.bl (Bn.nat a)) : Int) - (53 : Int) + e), decide ((↑(Bn.bl (Bn.nat a)) : Int) - (53 : Int) + e < (-1074 : Int)) = true, inR IntKind.i64 ((-1074 : Int) - e), decide ((-1074 : Int) - e ≤ (0 : Int)) = false, inR IntKind.i64 ((↑(Bn.bl (Bn.nat a)) : Int) + (1 : Int)), decide ((-1074 : Int) - e > (↑(Bn.bl (Bn.nat a)) : Int) + (1 : Int)) = false, Bn.Words a, a.length ≤ Bn.lim4, (Bn.ShrN (Bn.nat a) ((-1074 : Int) - e)).snd = false, inR IntKind.i64 ((-1074 : Int) - e - (1 : Int)), Bn.Words a, a.length ≤ Bn.lim4, (Bn.ShrN (Bn.nat a) ((-1074 : Int) - e - (1 : Int))).snd = true, decide ((↑(Bn.ShrN (Bn.nat a) ((-1074 : Int) - e - (1 : Int))).fst.length : Int) > (0 : Int)) = true, (0 : Int) ≤ (0 : Int) ∧ (0 : Int) < (↑(Bn.ShrN (Bn.nat a) ((-1074 : Int) - e - (1 : Int))).fst.length : Int), (bitsOf BinOp.and IntKind.u32 ((Bn.ShrN (Bn.nat a) ((-1074 : Int) - e - (1 : Int))).fst.getD 0 (0 : Int)) (1 : Int) == (1 : Int)) = true, Bn.Words (Bn.ShrN (Bn.nat a) ((-1074 : Int) - e)).fst, Bn.Words [(1 : Int)], (Bn.ShrN (Bn.nat a) ((-1074 : Int) - e)).fst.length + 1 ≤ Bn.lim4, 2 ≤ Bn.lim4, Bn.Words (Bn.dig (Bn.nat (Bn.ShrN (Bn.nat a) ((-1074 : Int) - e)).fst + Bn.nat [(1 : Int)])), (0 : Int) ≤ (1 : Int), (0 : Int) ≤ (32 : Int), inR IntKind.u64 (Bn.wd (Bn.dig (Bn.nat (Bn.ShrN (Bn.nat a) ((-1074 : Int) - e)).fst + Bn.nat [(1 : Int)])) (1 : Int) * (4294967296 : Int)), Bn.Words (Bn.dig (Bn.nat (Bn.ShrN (Bn.nat a) ((-1074 : Int) - e)).fst + Bn.nat [(1 : Int)])), (0 : Int) ≤ (0 : Int), inR IntKind.i64 (e + ((-1074 : Int) - e)), W (fofI (bitsOf BinOp.or IntKind.u64 (Bn.wd (Bn.dig (Bn.nat (Bn.ShrN (Bn.nat a) ((-1074 : Int) - e)).fst + Bn.nat [(1 : Int)])) (1 : Int) * (4294967296 : Int)) (Bn.wd (Bn.dig (Bn.nat (Bn.ShrN (Bn.nat a) ((-1074 : Int) - e)).fst + Bn.nat [(1 : Int)])) (0 : Int)))), (-4611686018427387904 : Int) ≤ e + ((-1074 : Int) - e), e + ((-1074 : Int) - e) ≤ (4611686018427387904 : Int)]) : PureTo Try.prog 88 [.sl 1 (.ints .u32 a) ta, .v (.int .i64 e)] (AV.fl FloatKind.f64 (ldexpW (fofI (bitsOf BinOp.or IntKind.u64 (Bn.wd (Bn.dig (Bn.nat (Bn.ShrN (Bn.nat a) ((-1074 : Int) - e)).fst + Bn.nat [(1 : Int)])) (1 : Int) * (4294967296 : Int)) (Bn.wd (Bn.dig (Bn.nat (Bn.ShrN (Bn.nat a) ((-1074 : Int) - e)).fst + Bn.nat [(1 : Int)])) (0 : Int)))) (e + ((-1074 : Int) - e)))) :=
  evFn_pure hm soMA (fn := Try.f88) rfl rfl (ti := false) (hs := [CHint.ops 2 [(1, Hint.b false)], CHint.ops 4 [(3, Hint.b false)], CHint.ops 7 [(3, Hint.b true)], CHint.ops 9 [(1, Hint.b false)], CHint.ops 17 [(3, Hint.b false)], CHint.ops 19 [(5, Hint.b false)], CHint.ops 20 [(6, Hint.b true)], CHint.ops 21 [(2, Hint.b true), (8, Hint.b true)]]) (c := _) (by kernel_rfl) h
theorem nearFF14 (a : List Int) (ta : Bool) (e : Int) (m : Nat) (h : AllP [Bn.Words a, a.length ≤ Bn.lim4, ((↑(Bn.bl (Bn.nat a)) : Int) == (0 : Int)) = false, inR IntKind.i64 ((↑(Bn.bl (Bn.nat a)) : Int) + e), decide ((↑(Bn.bl (Bn.nat a)) : Int) + e > (1024 : Int)) = false, inR IntKind.i64 ((↑(Bn.bl (Bn.nat a)) : Int) - (53 : Int)), inR IntKind.i64 ((↑(Bn.bl (Bn.nat a)) : Int) - (53 : Int) + e), decide ((↑(Bn.bl (Bn.nat a)) : Int) - (53 : Int) + e < (-1074 : Int)) = true, inR IntKind.i64 ((-1074 : Int) - e), decide ((-1074 : Int) - e ≤ (0 : Int)) = false, inR IntKind.i64 ((↑(Bn.bl (Bn.nat a)) : Int) + (1 : Int)), decide ((-1074 : Int) - e > (↑(Bn.bl (Bn.nat a)) : Int) + (1 : Int)) = false, Bn.Words a, a.length ≤ Bn.lim4, (Bn.ShrN (Bn.nat a) ((-1074 : Int) - e)).snd = false, inR IntKind.i64 ((-1074 : Int) - e - (1 : Int)), Bn.Words a, a.length ≤ Bn.lim4, (Bn.ShrN (Bn.nat a) ((-1074 : Int) - e - (1 : Int))).snd = true, decide ((↑(Bn.ShrN (Bn.nat a) ((-1074 : Int) - e - (1 : Int))).fst.length : Int) > (0 : Int)) = true, (0 : Int) ≤ (0 : Int) ∧ (0 : Int) < (↑(Bn.ShrN (Bn.nat a) ((-1074 : Int) - e - (1 : Int))).fst.length : Int), (bitsOf BinOp.and IntKind.u32 ((Bn.ShrN (Bn.nat a) ((-1074 : Int) - e - (1 : Int))).fst.getD 0 (0 : Int)) (1 : Int) == (1 : Int)) = false, Bn.Words (Bn.ShrN (Bn.nat a) ((-1074 : Int) - e)).fst, (0 : Int) ≤ (1 : Int), (0 : Int) ≤ (32 : Int), inR IntKind.u64 (Bn.wd (Bn.ShrN (Bn.nat a) ((-1074 : Int) - e)).fst (1 : Int) * (4294967296 : Int)), Bn.Words (Bn.ShrN (Bn.nat a) ((-1074 : Int) - e)).fst, (0 : Int) ≤ (0 : Int), inR IntKind.i64 (e + ((-1074 : Int) - e)), W (fofI (bitsOf BinOp.or IntKind.u64 (Bn.wd (Bn.ShrN (Bn.nat a) ((-1074 : Int) - e)).fst (1 : Int) * (4294967296 : Int)) (Bn.wd (Bn.ShrN (Bn.nat a) ((-1074 : Int) - e)).fst (0 : Int)))), (-4611686018427387904 : Int) ≤ e + ((-1074 : Int) - e), e + ((-1074 : Int) - e) ≤ (4611686018427387904 : Int)]) : PureTo Try.prog 88 [.sl 1 (.ints .u32 a) ta, .v (.int .i64 e)] (AV.fl FloatKind.f64 (ldexpW (fofI (bitsOf BinOp.or IntKind.u64 (Bn.wd (Bn.ShrN (Bn.nat a) ((-1074 : Int) - e)).fst (1 : Int) * (4294967296 : Int)) (Bn.wd (Bn.ShrN (Bn.nat a) ((-1074 : Int) - e)).fst (0 : Int)))) (e + ((-1074 : Int) - e)))) :=
  evFn_pure hm soMA (fn := Try.f88) rfl rfl (ti := false) (hs := [CHint.ops 2 [(1, Hint.b false)], CHint.ops 4 [(3, Hint.b false)], CHint.ops 7 [(3, Hint.b true)], CHint.ops 9 [(1, Hint.b false)], CHint.ops 17 [(3, Hint.b false)], CHint.ops 19 [(5, Hint.b false)], CHint.ops 20 [(6, Hint.b true)], CHint.ops 21 [(2, Hint.b true), (8, Hint.b false)]]) (c := _) (by kernel_rfl) h
theorem nearFF15 (a : List Int) (ta : Bool) (e : Int) (m : Nat) (h : AllP [Bn.Words a, a.length ≤ Bn.lim4, ((↑(Bn.bl (Bn.nat a)) : Int) == (0 : Int)) = false, inR IntKind.i64 ((↑(Bn.bl (Bn.nat a)) : Int) + e), decide ((↑(Bn.bl (Bn.nat a)) : Int) + e > (1024 : Int)) = false, inR IntKind.i64 ((↑(Bn.bl (Bn.nat a)) : Int) - (53 : Int)), inR IntKind.i64 ((↑(Bn.bl (Bn.nat a)) : Int) - (53 : Int) + e), decide ((↑(Bn.bl (Bn.nat a)) : Int) - (53 : Int) + e < (-1074 : Int)) = true, inR IntKind.i64 ((-1074 : Int) - e), decide ((-1074 : Int) - e ≤ (0 : Int)) = false, inR IntKind.i64 ((↑(Bn.bl (Bn.nat a)) : Int) + (1 : Int)), decide ((-1074 : Int) - e > (↑(Bn.bl (Bn.nat a)) : Int) + (1 : Int)) = false, Bn.Words a, a.length ≤ Bn.lim4, (Bn.ShrN (Bn.nat a) ((-1074 : Int) - e)).snd = false, inR IntKind.i64 ((-1074 : Int) - e - (1 : Int)), Bn.Words a, a.length ≤ Bn.lim4, (Bn.ShrN (Bn.nat a) ((-1074 : Int) - e - (1 : Int))).snd = true, decide ((↑(Bn.ShrN (Bn.nat a) ((-1074 : Int) - e - (1 : Int))).fst.length : Int) > (0 : Int)) = false, Bn.Words (Bn.ShrN (Bn.nat a) ((-1074 : Int) - e)).fst, (0 : Int) ≤ (1 : Int), (0 : Int) ≤ (32 : Int), inR IntKind.u64 (Bn.wd (Bn.ShrN (Bn.nat a) ((-1074 : Int) - e)).fst (1 : Int) * (4294967296 : Int)), Bn.Words (Bn.ShrN (Bn.nat a) ((-1074 : Int) - e)).fst, (0 : Int) ≤ (0 : Int), inR IntKind.i64 (e + ((-1074 : Int) - e)), W (fofI (bitsOf BinOp.or IntKind.u64 (Bn.wd (Bn.ShrN (Bn.nat a) ((-1074 : Int) - e)).fst (1 : Int) * (4294967296 : Int)) (Bn.wd (Bn.ShrN (Bn.nat a) ((-1074 : Int) - e)).fst (0 : Int)))), (-4611686018427387904 : Int) ≤ e + ((-1074 : Int) - e), e + ((-1074 : Int) - e) ≤ (4611686018427387904 : Int)]) : PureTo Try.prog 88 [.sl 1 (.ints .u32 a) ta, .v (.int .i64 e)] (AV.fl FloatKind.f64 (ldexpW (fofI (bitsOf BinOp.or IntKind.u64 (Bn.wd (Bn.ShrN (Bn.nat a) ((-1074 : Int) - e)).fst (1 : Int) * (4294967296 : Int)) (Bn.wd (Bn.ShrN (Bn.nat a) ((-1074 : Int) - e)).fst (0 : Int)))) (e + ((-1074 : Int) - e)))) :=
  evFn_pure hm soMA (fn := Try.f88) rfl rfl (ti := false) (hs := [CHint.ops 2 [(1, Hint.b false)], CHint.ops 4 [(3, Hint.b false)], CHint.ops 7 [(3, Hint.b true)], CHint.ops 9 [(1, Hint.b false)], CHint.ops 17 [(3, Hint.b false)], CHint.ops 19 [(5, Hint.b false)], CHint.ops 20 [(6, Hint.b true)], CHint.ops 21 [(2, Hint.b false)]]) (c := _) (by kernel_rfl) h
theorem nearFF16 (a : List Int) (ta : Bool) (e : Int) (m : Nat) (h : AllP [Bn.Words a, a.length ≤ Bn.lim4, ((↑(Bn.bl (Bn.nat a)) : Int) == (0 : Int)) = false, inR IntKind.i64 ((↑(Bn.bl (Bn.nat a)) : Int) + e), decide ((↑(Bn.bl (Bn.nat a)) : Int) + e > (1024 : Int)) = false, inR IntKind.i64 ((↑(Bn.bl (Bn.nat a)) : Int) - (53 : Int)), inR IntKind.i64 ((↑(Bn.bl (Bn.nat a)) : Int) - (53 : Int) + e), decide ((↑(Bn.bl (Bn.nat a)) : Int) - (53 : Int) + e < (-1074 : Int)) = true, inR IntKind.i64 ((-1074 : Int) - e), decide ((-1074 : Int) - e ≤ (0 : Int)) = false, inR IntKind.i64 ((↑(Bn.bl (Bn.nat a)) : Int) + (1 : Int)), decide ((-1074 : Int) - e > (↑(Bn.bl (Bn.nat a)) : Int) + (1 : Int)) = false, Bn.Words a, a.length ≤ Bn.lim4, (Bn.ShrN (Bn.nat a) ((-1074 : Int) - e)).snd = false, inR IntKind.i64 ((-1074 : Int) - e - (1 : Int)), Bn.Words a, a.length ≤ Bn.lim4, (Bn.ShrN (Bn.nat a) ((-1074 : Int) - e - (1 : Int))).snd = false, decide ((↑(Bn.ShrN (Bn.nat a) ((-1074 : Int) - e - (1 : Int))).fst.length : Int) > (0 : Int)) = true, (0 : Int) ≤ (0 : Int) ∧ (0 : Int) < (↑(Bn.ShrN (Bn.nat a) ((-1074 : Int) - e - (1 : Int))).fst.length : Int), (bitsOf BinOp.and IntKind.u32 ((Bn.ShrN (Bn.nat a) ((-1074 : Int) - e - (1 : Int))).fst.getD 0 (0 : Int)) (1 : Int) == (1 : Int)) = true, decide ((↑(Bn.ShrN (Bn.nat a) ((-1074 : Int) - e)).fst.length : Int) > (0 : Int)) = true, (0 : Int) ≤ (0 : Int) ∧ (0 : Int) < (↑(Bn.ShrN (Bn.nat a) ((-1074 : Int) - e)).fst.length : Int), (bitsOf BinOp.and IntKind.u32 ((Bn.ShrN (Bn.nat a) ((-1074 : Int) - e)).fst.getD 0 (0 : Int)) (1 : Int) == (1 : Int)) = true, Bn.Words (Bn.ShrN (Bn.nat a) ((-1074 : Int) - e)).fst, Bn.Words [(1 : Int)], (Bn.ShrN (Bn.nat a) ((-1074 : Int) - e)).fst.length + 1 ≤ Bn.lim4, 2 ≤ Bn.lim4, Bn.Words (Bn.dig (Bn.nat (Bn.ShrN (Bn.nat a) ((-1074 : Int) - e)).fst + Bn.nat [(1 : Int)])), (0 : Int) ≤ (1 : Int), (0 : Int) ≤ (32 : Int), inR IntKind.u64 (Bn.wd (Bn.dig (Bn.nat (Bn.ShrN (Bn.nat a) ((-1074 : Int) - e)).fst + Bn.nat [(1 : Int)])) (1 : Int) * (4294967296 : Int)), Bn.Words (Bn.dig (Bn.nat (Bn.ShrN (Bn.nat a) ((-1074 : Int) - e)).fst + Bn.nat [(1 : Int)])), (0 : Int) ≤ (0 : Int), inR IntKind.i64 (e + ((-1074 : Int) - e)), W (fofI (bitsOf BinOp.or IntKind.u64 (Bn.wd (Bn.dig (Bn.nat (Bn.ShrN (Bn.nat a) ((-1074 : Int) - e)).fst + Bn.nat [(1 : Int)])) (1 : Int) * (4294967296 : Int)) (Bn.wd (Bn.dig (Bn.nat (Bn.ShrN (Bn.nat a) ((-1074 : Int) - e)).fst + Bn.nat [(1 : Int)])) (0 : Int)))), (-4611686018427387904 : Int) ≤ e + ((-1074 : Int) - e), e + ((-1074 : Int) - e) ≤ (4611686018427387904 : Int)]) : PureTo Try.prog 88 [.sl 1 (.ints .u32 a) ta, .v (.int .i64 e)] (AV.fl FloatKind.f64 (ldexpW (fofI (bitsOf BinOp.or IntKind.u64 (Bn.wd (Bn.dig (Bn.nat (Bn.ShrN (Bn.nat a) ((-1074 : Int) - e)).fst + Bn.nat [(1 : Int)])) (1 : Int) * (4294967296 : Int)) (Bn.wd (Bn.dig (Bn.nat (Bn.ShrN (Bn.nat a) ((-1074 : Int) - e)).fst + Bn.nat [(1 : Int)])) (0 : Int)))) (e + ((-1074 : Int) - e)))) :=
  evFn_pure hm soMA (fn := Try.f88) rfl rfl (ti := false) (hs := [CHint.ops 2 [(1, Hint.b false)], CHint.ops 4 [(3, Hint.b false)], CHint.ops 7 [(3, Hint.b true)], CHint.ops 9 [(1, Hint.b false)], CHint.ops 17 [(3, Hint.b false)], CHint.ops 19 [(5, Hint.b false)], CHint.ops 20 [(6, Hint.b false)], CHint.ops 21 [(2, Hint.b true), (8, Hint.b true), (15, Hint.b true), (21, Hint.b true)]]) (c := _) (by kernel_rfl) h
theorem nearFF17 (a : List Int) (ta : Bool) (e : Int) (m : Nat) (h : AllP [Bn.Words a, a.length ≤ Bn.lim4, ((↑(Bn.bl (Bn.nat a)) : Int) == (0 : Int)) = false, inR IntKind.i64 ((↑(Bn.bl (Bn.nat a)) : Int) + e), decide ((↑(Bn.bl (Bn.nat a)) : Int) + e > (1024 : Int)) = false, inR IntKind.i64 ((↑(Bn.bl (Bn.nat a)) : Int) - (53 : Int)), inR IntKind.i64 ((↑(Bn.bl (Bn.nat a)) : Int) - (53 : Int) + e), decide ((↑(Bn.bl (Bn.nat a)) : Int) - (53 : Int) + e < (-1074 : Int)) = true, inR IntKind.i64 ((-1074 : Int) - e), decide ((-1074 : Int) - e ≤ (0 : Int)) = false, inR IntKind.i64 ((↑(Bn.bl (Bn.nat a)) : Int) + (1 : Int)), decide ((-1074 : Int) - e > (↑(Bn.bl (Bn.nat a)) : Int) + (1 : Int)) = false, Bn.Words a, a.length ≤ Bn.lim4, (Bn.ShrN (Bn.nat a) ((-1074 : Int) - e)).snd = false, inR IntKind.i64 ((-1074 : Int) - e - (1 : Int)), Bn.Words a, a.length ≤ Bn.lim4, (Bn.ShrN (Bn.nat a) ((-1074 : Int) - e - (1 : Int))).snd = false, decide ((↑(Bn.ShrN (Bn.nat a) ((-1074 : Int) - e - (1 : Int))).fst.length : Int) > (0 : Int)) = true, (0 : Int) ≤ (0 : Int) ∧ (0 : Int) < (↑(Bn.ShrN (Bn.nat a) ((-1074 : Int) - e - (1 : Int))).fst.length : Int), (bitsOf BinOp.and IntKind.u32 ((Bn.ShrN (Bn.nat a) ((-1074 : Int) - e - (1 : Int))).fst.getD 0 (0 : Int)) (1 : Int) == (1 : Int)) = true, decide ((↑(Bn.ShrN (Bn.nat a) ((-1074 : Int) - e)).fst.length : Int) > (0 : Int)) = true, (0 : Int) ≤ (0 : Int) ∧ (0 : Int) < (↑(Bn.ShrN (Bn.nat a) ((-1074 : Int) - e)).fst.length : Int), (bitsOf BinOp.and IntKind.u32 ((Bn.ShrN (Bn.nat a) ((-1074 : Int) - e)).fst.getD 0 (0 : Int)) (1 : Int) == (1 : Int)) = false, Bn.Words (Bn.ShrN (Bn.nat a) ((-1074 : Int) - e)).fst, (0 : Int) ≤ (1 : Int), (0 : Int) ≤ (32 : Int), inR IntKind.u64 (Bn.wd (Bn.ShrN (Bn.nat a) ((-1074 : Int) - e)).fst (1 : Int) * (4294967296 : Int)), Bn.Words (Bn.ShrN (Bn.nat a) ((-1074 : Int) - e)).fst, (0 : Int) ≤ (0 : Int), inR IntKind.i64 (e + ((-1074 : Int) - e)), W (fofI (bitsOf BinOp.or IntKind.u64 (Bn.wd (Bn.ShrN (Bn.nat a) ((-1074 : Int) - e)).fst (1 : Int) * (4294967296 : Int)) (Bn.wd (Bn.ShrN (Bn.nat a) ((-1074 : Int) - e)).fst (0 : Int)))), (-4611686018427387904 : Int) ≤ e + ((-1074 : Int) - e), e + ((-1074 : Int) - e) ≤ (4611686018427387904 : Int)]) : PureTo Try.prog 88 [.sl 1 (.ints .u32 a) ta, .v (.int .i64 e)] (AV.fl FloatKind.f64 (ldexpW (fofI (bitsOf BinOp.or IntKind.u64 (Bn.wd (Bn.ShrN (Bn.nat a) ((-1074 : Int) - e)).fst (1 : Int) * (4294967296 : Int)) (Bn.wd (Bn.ShrN (Bn.nat a) ((-1074 : Int) - e)).fst (0 : Int)))) (e + ((-1074 : Int) - e)))) :=
  evFn_pure hm soMA (fn := Try.f88) rfl rfl (ti := false) (hs := [CHint.ops 2 [(1, Hint.b false)], CHint.ops 4 [(3, Hint.b false)], CHint.ops 7 [(3, Hint.b true)], CHint.ops 9 [(1, Hint.b false)], CHint.ops 17 [(3, Hint.b false)], CHint.ops 19 [(5, Hint.b false)], CHint.ops 20 [(6, Hint.b false)], CHint.ops 21 [(2, Hint.b true), (8, Hint.b true), (15, Hint.b true), (21, Hint.b false)]]) (c := _) (by kernel_rfl) h
theorem nearFF18 (a : List Int) (ta : Bool) (e : Int) (m : Nat) (h : AllP [Bn.Words a, a.length ≤ Bn.lim4, ((↑(Bn.bl (Bn.nat a)) : Int) == (0 : Int)) = false, inR IntKind.i64 ((↑(Bn.bl (Bn.nat a)) : Int) + e), decide ((↑(Bn.bl (Bn.nat a)) : Int) + e > (1024 : Int)) = false, inR IntKind.i64 ((↑(Bn.bl (Bn.nat a)) : Int) - (53 : Int)), inR IntKind.i64 ((↑(Bn.bl (Bn.nat a)) : Int) - (53 : Int) + e), decide ((↑(Bn.bl (Bn.nat a)) : Int) - (53 : Int) + e < (-1074 : Int)) = true, inR IntKind.i64 ((-1074 : Int) - e), decide ((-1074 : Int) - e ≤ (0 : Int)) = false, inR IntKind.i64 ((↑(Bn.bl (Bn.nat a)) : Int) + (1 : Int)), decide ((-1074 : Int) - e > (↑(Bn.bl (Bn.nat a)) : Int) + (1 : Int)) = false, Bn.Words a, a.length ≤ Bn.lim4, (Bn.ShrN (Bn.nat a) ((-1074 : Int) - e)).snd = false, inR IntKind.i64 ((-1074 : Int) - e - (1 : Int)), Bn.Words a, a.length ≤ Bn.lim4, (Bn.ShrN (Bn.nat a) ((-1074 : Int) - e - (1 : Int))).snd = false, decide ((↑(Bn.ShrN (Bn.nat a) ((-1074 : Int) - e - (1 : Int))).fst.length : Int) > (0 : Int)) = true, (0 : Int) ≤ (0 : Int) ∧ (0 : Int) < (↑(Bn.ShrN (Bn.nat a) ((-1074 : Int) - e - (1 : Int))).fst.length : Int), (bitsOf BinOp.and IntKind.u32 ((Bn.ShrN (Bn.nat a) ((-1074 : Int) - e - (1 : Int))).fst.getD 0 (0 : Int)) (1 : Int) == (1 : Int)) = true, decide ((↑(Bn.ShrN (Bn.nat a) ((-1074 : Int) - e)).fst.length : Int) > (0 : Int)) = false, Bn.Words (Bn.ShrN (Bn.nat a) ((-1074 : Int) - e)).fst, (0 : Int) ≤ (1 : Int), (0 : Int) ≤ (32 : Int), inR IntKind.u64 (Bn.wd (Bn.ShrN (Bn.nat a) ((-1074 : Int) - e)).fst (1 : Int) * (4294967296 : Int)), Bn.Words (Bn.ShrN (Bn.nat a) ((-1074 : Int) - e)).fst, (0 : Int) ≤ (0 : Int), inR IntKind.i64 (e + ((-1074 : Int) - e)), W (fofI (bitsOf BinOp.or IntKind.u64 (Bn.wd (Bn.ShrN (Bn.nat a) ((-1074 : Int) - e)).fst (1 : Int) * (4294967296 : Int)) (Bn.wd (Bn.ShrN (Bn.nat a) ((-1074 : Int) - e)).fst (0 : Int)))), (-4611686018427387904 : Int) ≤ e + ((-1074 : Int) - e), e + ((-1074 : Int) - e) ≤ (4611686018427387904 : Int)]) : PureTo Try.prog 88 [.sl 1 (.ints .u32 a) ta, .v (.int .i64 e)] (AV.fl FloatKind.f64 (ldexpW (fofI (bitsOf BinOp.or IntKind.u64 (Bn.wd (Bn.ShrN (Bn.nat a) ((-1074 : Int) - e)).fst (1 : Int) * (4294967296 : Int)) (Bn.wd (Bn.ShrN (Bn.nat a) ((-1074 : Int) - e)).fst (0 : Int)))) (e + ((-1074 : Int) - e)))) :=
  evFn_pure hm soMA (fn := Try.f88) rfl rfl (ti := false) (hs := [CHint.ops 2 [(1, Hint.b false)], CHint.ops 4 [(3, Hint.b false)], CHint.ops 7 [(3, Hint.b true)], CHint.ops 9 [(1, Hint.b false)], CHint.ops 17 [(3, Hint.b false)], CHint.ops 19 [(5, Hint.b false)], CHint.ops 20 [(6, Hint.b false)], CHint.ops 21 [(2, Hint.b true), (8, Hint.b true), (15, Hint.b false)]]) (c := _) (by kernel_rfl) h
theorem nearFF19 (a : List Int) (ta : Bool) (e : Int) (m : Nat) (h : AllP [Bn.Words a, a.length ≤ Bn.lim4, ((↑(Bn.bl (Bn.nat a)) : Int) == (0 : Int)) = false, inR IntKind.i64 ((↑(Bn.bl (Bn.nat a)) : Int) + e), decide ((↑(Bn.bl (Bn.nat a)) : Int) + e > (1024 : Int)) = false, inR IntKind.i64 ((↑(Bn.bl (Bn.nat a)) : Int) - (53 : Int)), inR IntKind.i64 ((↑(Bn.bl (Bn.nat a)) : Int) - (53 : Int) + e), decide ((↑(Bn.bl (Bn.nat a)) : Int) - (53 : Int) + e < (-1074 : Int)) = true, inR IntKind.i64 ((-1074 : Int) - e), decide ((-1074 : Int) - e ≤ (0 : Int)) = false, inR IntKind.i64 ((↑(Bn.bl (Bn.nat a)) : Int) + (1 : Int)), decide ((-1074 : Int) - e > (↑(Bn.bl (Bn.nat a)) : Int) + (1 : Int)) = false, Bn.Words a, a.length ≤ Bn.lim4, (Bn.ShrN (Bn.nat a) ((-1074 : Int) - e)).snd = false, inR IntKind.i64 ((-1074 : Int) - e - (1 : Int)), Bn.Words a, a.length ≤ Bn.lim4, (Bn.ShrN (Bn.nat a) ((-1074 : Int) - e - (1 : Int))).snd = false, decide ((↑(Bn.ShrN (Bn.nat a) ((-1074 : Int) - e - (1 : Int))).fst.length : Int) > (0 : Int)) = true, (0 : Int) ≤ (0 : Int) ∧ (0 : Int) < (↑(Bn.ShrN (Bn.nat a) ((-1074 : Int) - e - (1 : Int))).fst.length : Int), (bitsOf BinOp.and IntKind.u32 ((Bn.ShrN (Bn.nat a) ((-1074 : Int) - e - (1 : Int))).fst.getD 0 (0 : Int)) (1 : Int) == (1 : Int)) = false, Bn.Words (Bn.ShrN (Bn.nat a) ((-1074 : Int) - e)).fst, (0 : Int) ≤ (1 : Int), (0 : Int) ≤ (32 : Int), inR IntKind.u64 (Bn.wd (Bn.ShrN (Bn.nat a) ((-1074 : Int) - e)).fst (1 : Int) * (4294967296 : Int)), Bn.Words (Bn.ShrN (Bn.nat a) ((-1074 : Int) - e)).fst, (0 : Int) ≤ (0 : Int), inR IntKind.i64 (e + ((-1074 : Int) - e)), W (fofI (bitsOf BinOp.or IntKind.u64 (Bn.wd (Bn.ShrN (Bn.nat a) ((-1074 : Int) - e)).fst (1 : Int) * (4294967296 : Int)) (Bn.wd (Bn.ShrN (Bn.nat a) ((-1074 : Int) - e)).fst (0 : Int)))), (-4611686018427387904 : Int) ≤ e + ((-1074 : Int) - e), e + ((-1074 : Int) - e) ≤ (4611686018427387904 : Int)]) : PureTo Try.prog 88 [.sl 1 (.ints .u32 a) ta, .v (.int .i64 e)] (AV.fl FloatKind.f64 (ldexpW (fofI (bitsOf BinOp.or IntKind.u64 (Bn.wd (Bn.ShrN (Bn.nat a) ((-1074 : Int) - e)).fst (1 : Int) * (4294967296 : Int)) (Bn.wd (Bn.ShrN (Bn.nat a) ((-1074 : Int) - e)).fst (0 : Int)))) (e + ((-1074 : Int) - e)))) :=
  evFn_pure hm soMA (fn := Try.f88) rfl rfl (ti := false) (hs := [CHint.ops 2 [(1, Hint.b false)], CHint.ops 4 [(3, Hint.b false)], CHint.ops 7 [(3, Hint.b true)], CHint.ops 9 [(1, Hint.b false)], CHint.ops 17 [(3, Hint.b false)], CHint.ops 19 [(5, Hint.b false)], CHint.ops 20 [(6, Hint.b false)], CHint.ops 21 [(2, Hint.b true), (8, Hint.b false)]]) (c := _) (by kernel_rfl) h
theorem nearFF20 (a : List Int) (ta : Bool) (e : Int) (m : Nat) (h : AllP [Bn.Words a, a.length ≤ Bn.lim4, ((↑(Bn.bl (Bn.nat a)) : Int) == (0 : Int)) = false, inR IntKind.i64 ((↑(Bn.bl (Bn.nat a)) : Int) + e), decide ((↑(Bn.bl (Bn.nat a)) : Int) + e > (1024 : Int)) = false, inR IntKind.i64 ((↑(Bn.bl (Bn.nat a)) : Int) - (53 : Int)), inR IntKind.i64 ((↑(Bn.bl (Bn.nat a)) : Int) - (53 : Int) + e), decide ((↑(Bn.bl (Bn.nat a)) : Int) - (53 : Int) + e < (-1074 : Int)) = true, inR IntKind.i64 ((-1074 : Int) - e), decide ((-1074 : Int) - e ≤ (0 : Int)) = false, inR IntKind.i64 ((↑(Bn.bl (Bn.nat a)) : Int) + (1 : Int)), decide ((-1074 : Int) - e > (↑(Bn.bl (Bn.nat a)) : Int) + (1 : Int)) = false, Bn.Words a, a.length ≤ Bn.lim4, (Bn.ShrN (Bn.nat a) ((-1074 : Int) - e)).snd = false, inR IntKind.i64 ((-1074 : Int) - e - (1 : Int)), Bn.Words a, a.length ≤ Bn.lim4, (Bn.ShrN (Bn.nat a) ((-1074 : Int) - e - (1 : Int))).snd = false, decide ((↑(Bn.ShrN (Bn.nat a) ((-1074 : Int) - e - (1 : Int))).fst.length : Int) > (0 : Int)) = false, Bn.Words (Bn.ShrN (Bn.nat a) ((-1074 : Int) - e)).fst, (0 : Int) ≤ (1 : Int), (0 : Int) ≤ (32 : Int), inR IntKind.u64 (Bn.wd (Bn.ShrN (Bn.nat a) ((-1074 : Int) - e)).fst (1 : Int) * (4294967296 : Int)), Bn.Words (Bn.ShrN (Bn.nat a) ((-1074 : Int) - e)).fst, (0 : Int) ≤ (0 : Int), inR IntKind.i64 (e + ((-1074 : Int) - e)), W (fofI (bitsOf BinOp.or IntKind.u64 (Bn.wd (Bn.ShrN (Bn.nat a) ((-1074 : Int) - e)).fst (1 : Int) * (4294967296 : Int)) (Bn.wd (Bn.ShrN (Bn.nat a) ((-1074 : Int) - e)).fst (0 : Int)))), (-4611686018427387904 : Int) ≤ e + ((-1074 : Int) - e), e + ((-1074 : Int) - e) ≤ (4611686018427387904 : Int)]) : PureTo Try.prog 88 [.sl 1 (.ints .u32 a) ta, .v (.int .i64 e)] (AV.fl FloatKind.f64 (ldexpW (fofI (bitsOf BinOp.or IntKind.u64 (Bn.wd (Bn.ShrN (Bn.nat a) ((-1074 : Int) - e)).fst (1 : Int) * (4294967296 : Int)) (Bn.wd (Bn.ShrN (Bn.nat a) ((-1074 : Int) - e)).fst (0 : Int)))) (e + ((-1074 : Int) - e)))) :=
  evFn_pure hm soMA (fn := Try.f88) rfl rfl (ti := false) (hs := [CHint.ops 2 [(1, Hint.b false)], CHint.ops 4 [(3, Hint.b false)], CHint.ops 7 [(3, Hint.b true)], CHint.ops 9 [(1, Hint.b false)], CHint.ops 17 [(3, Hint.b false)], CHint.ops 19 [(5, Hint.b false)], CHint.ops 20 [(6, Hint.b false)], CHint.ops 21 [(2, Hint.b false)]]) (c := _) (by kernel_rfl) h
theorem nearFF21 (a : List Int) (ta : Bool) (e : Int) (m : Nat) (h : AllP [Bn.Words a, a.length ≤ Bn.lim4, ((↑(Bn.bl (Bn.nat a)) : Int) == (0 : Int)) = false, inR IntKind.i64 ((↑(Bn.bl (Bn.nat a)) : Int) + e), decide ((↑(Bn.bl (Bn.nat a)) : Int) + e > (1024 : Int)) = false, inR IntKind.i64 ((↑(Bn.bl (Bn.nat a)) : Int) - (53 : Int)), inR IntKind.i64 ((↑(Bn.bl (Bn.nat a)) : Int) - (53 : Int) + e), decide ((↑(Bn.bl (Bn.nat a)) : Int) - (53 : Int) + e < (-1074 : Int)) = false, decide ((↑(Bn.bl (Bn.nat a)) : Int) - (53 : Int) ≤ (0 : Int)) = true, a.length ≤ Bn.lim4, inR IntKind.i64 ((↑(Bn.norm a).length : Int) - (1 : Int)), LoopTo Try.prog (loopAt Try.f88 0) { n := 113, fr := [(1, AV.v (.int .i64 e)), (7, AV.v (.float FloatKind.f64 0)), (8, AV.sl 1 (.ints .u32 (Bn.norm a)) false), (9, AV.v (.int .i64 ((↑(Bn.norm a).length : Int) - (1 : Int))))], hp := [], nx := 0 } (Exit.exit 0) { n := 113, fr := [(1, AV.v (.int .i64 e)), (7, AV.fl FloatKind.f64 m)], hp := [], nx := 0 }, W m, (-4611686018427387904 : Int) ≤ e, e ≤ (4611686018427387904 : Int), ¬nanB FloatKind.f64 m]) : PureTo Try.prog 88 [.sl 1 (.ints .u32 a) ta, .v (.int .i64 e)] (AV.fl FloatKind.f64 (ldexpW m e)) :=
  evFn_pure hm soMA (fn := Try.f88) rfl rfl (ti := false) (hs := [CHint.ops 2 [(1, Hint.b false)], CHint.ops 4 [(3, Hint.b false)], CHint.ops 7 [(3, Hint.b false)], CHint.ops 9 [(1, Hint.b true)], CHint.loop [1, 7, 8, 9] [] 0 (Exit.exit 0) { n := 113, fr := [(1, AV.v (.int .i64 e)), (7, AV.fl FloatKind.f64 m)], hp := [], nx := 0 }]) (c := _) (by kernel_rfl) h
theorem nearFF22 (a : List Int) (ta : Bool) (e : Int) (m : Nat) (h : AllP [Bn.Words a, a.length ≤ Bn.lim4, ((↑(Bn.bl (Bn.nat a)) : Int) == (0 : Int)) = false, inR IntKind.i64 ((↑(Bn.bl (Bn.nat a)) : Int) + e), decide ((↑(Bn.bl (Bn.nat a)) : Int) + e > (1024 : Int)) = false, inR IntKind.i64 ((↑(Bn.bl (Bn.nat a)) : Int) - (53 : Int)), inR IntKind.i64 ((↑(Bn.bl (Bn.nat a)) : Int) - (53 : Int) + e), decide ((↑(Bn.bl (Bn.nat a)) : Int) - (53 : Int) + e < (-1074 : Int)) = false, decide ((↑(Bn.bl (Bn.nat a)) : Int) - (53 : Int) ≤ (0 : Int)) = false, inR IntKind.i64 ((↑(Bn.bl (Bn.nat a)) : Int) + (1 : Int)), decide ((↑(Bn.bl (Bn.nat a)) : Int) - (53 : Int) > (↑(Bn.bl (Bn.nat a)) : Int) + (1 : Int)) = true]) : PureTo Try.prog 88 [.sl 1 (.ints .u32 a) ta, .v (.int .i64 e)] (AV.v (.float FloatKind.f64 0)) :=
  evFn_pure hm soMA (fn := Try.f88) rfl rfl (ti := false) (hs := [CHint.ops 2 [(1, Hint.b false)], CHint.ops 4 [(3, Hint.b false)], CHint.ops 7 [(3, Hint.b false)], CHint.ops 9 [(1, Hint.b false)], CHint.ops 17 [(3, Hint.b true)]]) (c := _) (by kernel_rfl) h
theorem nearFF23 (a : List Int) (ta : Bool) (e : Int) (m : Nat) (h : AllP [Bn.Words a, a.length ≤ Bn.lim4, ((↑(Bn.bl (Bn.nat a)) : Int) == (0 : Int)) = false, inR IntKind.i64 ((↑(Bn.bl (Bn.nat a)) : Int) + e), decide ((↑(Bn.bl (Bn.nat a)) : Int) + e > (1024 : Int)) = false, inR IntKind.i64 ((↑(Bn.bl (Bn.nat a)) : Int) - (53 : Int)), inR IntKind.i64 ((↑(Bn.bl (Bn.nat a)) : Int) - (53 : Int) + e), decide ((↑(Bn.bl (Bn.nat a)) : Int) - (53 : Int) + e < (-1074 : Int)) = false, decide ((↑(Bn.bl (Bn.nat a)) : Int) - (53 : Int) ≤ (0 : Int)) = false, inR IntKind.i64 ((↑(Bn.bl (Bn.nat a)) : Int) + (1 : Int)), decide ((↑(Bn.bl (Bn.nat a)) : Int) - (53 : Int) > (↑(Bn.bl (Bn.nat a)) : Int) + (1 : Int)) = false, Bn.Words a, a.length ≤ Bn.lim4, (Bn.ShrN (Bn.nat a) ((↑(Bn.bl (Bn.nat a)) : Int) - (53 : Int))).snd = true, inR IntKind.i64 ((↑(Bn.bl (Bn.nat a)) : Int) - (53 : Int) - (1 : Int)), Bn.Words a, a.length ≤ Bn.lim4, (Bn.ShrN (Bn.nat a) ((↑(Bn.bl (Bn.nat a)) : Int) - (53 : Int) - (1 : Int))).snd = true, decide ((↑(Bn.ShrN (Bn.nat a) ((↑(Bn.bl (Bn.nat a)) : Int) - (53 : Int) - (1 : Int))).fst.length : Int) > (0 : Int)) = true, (0 : Int) ≤ (0 : Int) ∧ (0 : Int) < (↑(Bn.ShrN (Bn.nat a) ((↑(Bn.bl (Bn.nat a)) : Int) - (53 : Int) - (1 : Int))).fst.length : Int), (bitsOf BinOp.and IntKind.u32 ((Bn.ShrN (Bn.nat a) ((↑(Bn.bl (Bn.nat a)) : Int) - (53 : Int) - (1 : Int))).fst.getD 0 (0 : Int)) (1 : Int) == (1 : Int)) = true, Bn.Words (Bn.ShrN (Bn.nat a) ((↑(Bn.bl (Bn.nat a)) : Int) - (53 : Int))).fst, Bn.Words [(1 : Int)], (Bn.ShrN (Bn.nat a) ((↑(Bn.bl (Bn.nat a)) : Int) - (53 : Int))).fst.length + 1 ≤ Bn.lim4, 2 ≤ Bn.lim4, Bn.Words (Bn.dig (Bn.nat (Bn.ShrN (Bn.nat a) ((↑(Bn.bl (Bn.nat a)) : Int) - (53 : Int))).fst + Bn.nat [(1 : Int)])), (0 : Int) ≤ (1 : Int), (0 : Int) ≤ (32 : Int), inR IntKind.u64 (Bn.wd (Bn.dig (Bn.nat (Bn.ShrN (Bn.nat a) ((↑(Bn.bl (Bn.nat a)) : Int) - (53 : Int))).fst + Bn.nat [(1 : Int)])) (1 : Int) * (4294967296 : Int)), Bn.Words (Bn.dig (Bn.nat (Bn.ShrN (Bn.nat a) ((↑(Bn.bl (Bn.nat a)) : Int) - (53 : Int))).fst + Bn.nat [(1 : Int)])), (0 : Int) ≤ (0 : Int), inR IntKind.i64 (e + ((↑(Bn.bl (Bn.nat a)) : Int) - (53 : Int))), W (fofI (bitsOf BinOp.or IntKind.u64 (Bn.wd (Bn.dig (Bn.nat (Bn.ShrN (Bn.nat a) ((↑(Bn.bl (Bn.nat a)) : Int) - (53 : Int))).fst + Bn.nat [(1 : Int)])) (1 : Int) * (4294967296 : Int)) (Bn.wd (Bn.dig (Bn.nat (Bn.ShrN (Bn.nat a) ((↑(Bn.bl (Bn.nat a)) : Int) - (53 : Int))).fst + Bn.nat [(1 : Int)])) (0 : Int)))), (-4611686018427387904 : Int) ≤ e + ((↑(Bn.bl (Bn.nat a)) : Int) - (53 : Int)), e + ((↑(Bn.bl (Bn.nat a)) : Int) - (53 : Int)) ≤ (4611686018427387904 : Int)]) : PureTo Try.prog 88 [.sl 1 (.ints .u32 a) ta, .v (.int .i64 e)] (AV.fl FloatKind.f64 (ldexpW (fofI (bitsOf BinOp.or IntKind.u64 (Bn.wd (Bn.dig (Bn.nat (Bn.ShrN (Bn.nat a) ((↑(Bn.bl (Bn.nat a)) : Int) - (53 : Int))).fst + Bn.nat [(1 : Int)])) (1 : Int) * (4294967296 : Int)) (Bn.wd (Bn.dig (Bn.nat (Bn.ShrN (Bn.nat a) ((↑(Bn.bl (Bn.nat a)) : Int) - (53 : Int))).fst + Bn.nat [(1 : Int)])) (0 : Int)))) (e + ((↑(Bn.bl (Bn.nat a)) : Int) - (53 : Int))))) :=
  evFn_pure hm soMA (fn := Try.f88) rfl rfl (ti := false) (hs := [CHint.ops 2 [(1, Hint.b false)], CHint.ops 4 [(3, Hint.b false)], CHint.ops 7 [(3, Hint.b false)], CHint.ops 9 [(1, Hint.b false)], CHint.ops 17 [(3, Hint.b false)], CHint.ops 19 [(5, Hint.b true)], CHint.ops 20 [(6, Hint.b true)], CHint.ops 21 [(2, Hint.b true), (8, Hint.b true)]]) (c := _) (by kernel_rfl) h
theorem nearFF24 (a : List Int) (ta : Bool) (e : Int) (m : Nat) (h : AllP [Bn.Words a, a.length ≤ Bn.lim4, ((↑(Bn.bl (Bn.nat a)) : Int) == (0 : Int)) = false, inR IntKind.i64 ((↑(Bn.bl (Bn.nat a)) : Int) + e), decide ((↑(Bn.bl (Bn.nat a)) : Int) + e > (1024 : Int)) = false, inR IntKind.i64 ((↑(Bn.bl (Bn.nat a)) : Int) - (53 : Int)), inR IntKind.i64 ((↑(Bn.bl (Bn.nat a)) : Int) - (53 : Int) + e), decide ((↑(Bn.bl (Bn.nat a)) : Int) - (53 : Int) + e < (-1074 : Int)) = false, decide ((↑(Bn.bl (Bn.nat a)) : Int) - (53 : Int) ≤ (0 : Int)) = false, inR IntKind.i64 ((↑(Bn.bl (Bn.nat a)) : Int) + (1 : Int)), decide ((↑(Bn.bl (Bn.nat a)) : Int) - (53 : Int) > (↑(Bn.bl (Bn.nat a)) : Int) + (1 : Int)) = false, Bn.Words a, a.length ≤ Bn.lim4, (Bn.ShrN (Bn.nat a) ((↑(Bn.bl (Bn.nat a)) : Int) - (53 : Int))).snd = true, inR IntKind.i64 ((↑(Bn.bl (Bn.nat a)) : Int) - (53 : Int) - (1 : Int)), Bn.Words a, a.length ≤ Bn.lim4, (Bn.ShrN (Bn.nat a) ((↑(Bn.bl (Bn.nat a)) : Int) - (53 : Int) - (1 : Int))).snd = true, decide ((↑(Bn.ShrN (Bn.nat a) ((↑(Bn.bl (Bn.nat a)) : Int) - (53 : Int) - (1 : Int))).fst.length : Int) > (0 : Int)) = true, (0 : Int) ≤ (0 : Int) ∧ (0 : Int) < (↑(Bn.ShrN (Bn.nat a) ((↑(Bn.bl (Bn.nat a)) : Int) - (53 : Int) - (1 : Int))).fst.length : Int), (bitsOf BinOp.and IntKind.u32 ((Bn.ShrN (Bn.nat a) ((↑(Bn.bl (Bn.nat a)) : Int) - (53 : Int) - (1 : Int))).fst.getD 0 (0 : Int)) (1 : Int) == (1 : Int)) = false, Bn.Words (Bn.ShrN (Bn.nat a) ((↑(Bn.bl (Bn.nat a)) : Int) - (53 : Int))).fst, (0 : Int) ≤ (1 : Int), (0 : Int) ≤ (32 : Int), inR IntKind.u64 (Bn.wd (Bn.ShrN (Bn.nat a) ((↑(Bn.bl (Bn.nat a)) : Int) - (53 : Int))).fst (1 : Int) * (4294967296 : Int)), Bn.Words (Bn.ShrN (Bn.nat a) ((↑(Bn.bl (Bn.nat a)) : Int) - (53 : Int))).fst, (0 : Int) ≤ (0 : Int), inR IntKind.i64 (e + ((↑(Bn.bl (Bn.nat a)) : Int) - (53 : Int))), W (fofI (bitsOf BinOp.or IntKind.u64 (Bn.wd (Bn.ShrN (Bn.nat a) ((↑(Bn.bl (Bn.nat a)) : Int) - (53 : Int))).fst (1 : Int) * (4294967296 : Int)) (Bn.wd (Bn.ShrN (Bn.nat a) ((↑(Bn.bl (Bn.nat a)) : Int) - (53 : Int))).fst (0 : Int)))), (-4611686018427387904 : Int) ≤ e + ((↑(Bn.bl (Bn.nat a)) : Int) - (53 : Int)), e + ((↑(Bn.bl (Bn.nat a)) : Int) - (53 : Int)) ≤ (4611686018427387904 : Int)]) : PureTo Try.prog 88 [.sl 1 (.ints .u32 a) ta, .v (.int .i64 e)] (AV.fl FloatKind.f64 (ldexpW (fofI (bitsOf BinOp.or IntKind.u64 (Bn.wd (Bn.ShrN (Bn.nat a) ((↑(Bn.bl (Bn.nat a)) : Int) - (53 : Int))).fst (1 : Int) * (4294967296 : Int)) (Bn.wd (Bn.ShrN (Bn.nat a) ((↑(Bn.bl (Bn.nat a)) : Int) - (53 : Int))).fst (0 : Int)))) (e + ((↑(Bn.bl (Bn.nat a)) : Int) - (53 : Int))))) :=
  evFn_pure hm soMA (fn := Try.f88) rfl rfl (ti := false) (hs := [CHint.ops 2 [(1, Hint.b false)], CHint.ops 4 [(3, Hint.b false)], CHint.ops 7 [(3, Hint.b false)], CHint.ops 9 [(1, Hint.b false)], CHint.ops 17 [(3, Hint.b false)], CHint.ops 19 [(5, Hint.b true)], CHint.ops 20 [(6, Hint.b true)], CHint.ops 21 [(2, Hint.b true), (8, Hint.b false)]]) (c := _) (by kernel_rfl) h
theorem nearFF25 (a : List Int) (ta : Bool) (e : Int) (m : Nat) (h : AllP [Bn.Words a, a.length ≤ Bn.lim4, ((↑(Bn.bl (Bn.nat a)) : Int) == (0 : Int)) = false, inR IntKind.i64 ((↑(Bn.bl (Bn.nat a)) : Int) + e), decide ((↑(Bn.bl (Bn.nat a)) : Int) + e > (1024 : Int)) = false, inR IntKind.i64 ((↑(Bn.bl (Bn.nat a)) : Int) - (53 : Int)), inR IntKind.i64 ((↑(Bn.bl (Bn.nat a)) : Int) - (53 : Int) + e), decide ((↑(Bn.bl (Bn.nat a)) : Int) - (53 : Int) + e < (-1074 : Int)) = false, decide ((↑(Bn.bl (Bn.nat a)) : Int) - (53 : Int) ≤ (0 : Int)) = false, inR IntKind.i64 ((↑(Bn.bl (Bn.nat a)) : Int) + (1 : Int)), decide ((↑(Bn.bl (Bn.nat a)) : Int) - (53 : Int) > (↑(Bn.bl (Bn.nat a)) : Int) + (1 : Int)) = false, Bn.Words a, a.length ≤ Bn.lim4, (Bn.ShrN (Bn.nat a) ((↑(Bn.bl (Bn.nat a)) : Int) - (53 : Int))).snd = true, inR IntKind.i64 ((↑(Bn.bl (Bn.nat a)) : Int) - (53 : Int) - (1 : Int)), Bn.Words a, a.length ≤ Bn.lim4, (Bn.ShrN (Bn.nat a) ((↑(Bn.bl (Bn.nat a)) : Int) - (53 : Int) - (1 : Int))).snd = true, decide ((↑(Bn.ShrN (Bn.nat a) ((↑(Bn.bl (Bn.nat a)) : Int) - (53 : Int) - (1 : Int))).fst.length : Int) > (0 : Int)) = false, Bn.Words (Bn.ShrN (Bn.nat a) ((↑(Bn.bl (Bn.nat a)) : Int) - (53 : Int))).fst, (0 : Int) ≤ (1 : Int), (0 : Int) ≤ (32 : Int), inR IntKind.u64 (Bn.wd (Bn.ShrN (Bn.nat a) ((↑(Bn.bl (Bn.nat a)) : Int) - (53 : Int))).fst (1 : Int) * (4294967296 : Int)), Bn.Words (Bn.ShrN (Bn.nat a) ((↑(Bn.bl (Bn.nat a)) : Int) - (53 : Int))).fst, (0 : Int) ≤ (0 : Int), inR IntKind.i64 (e + ((↑(Bn.bl (Bn.nat a)) : Int) - (53 : Int))), W (fofI (bitsOf BinOp.or IntKind.u64 (Bn.wd (Bn.ShrN (Bn.nat a) ((↑(Bn.bl (Bn.nat a)) : Int) - (53 : Int))).fst (1 : Int) * (4294967296 : Int)) (Bn.wd (Bn.ShrN (Bn.nat a) ((↑(Bn.bl (Bn.nat a)) : Int) - (53 : Int))).fst (0 : Int)))), (-4611686018427387904 : Int) ≤ e + ((↑(Bn.bl (Bn.nat a)) : Int) - (53 : Int)), e + ((↑(Bn.bl (Bn.nat a)) : Int) - (53 : Int)) ≤ (4611686018427387904 : Int)]) : PureTo Try.prog 88 [.sl 1 (.ints .u32 a) ta, .v (.int .i64 e)] (AV.fl FloatKind.f64 (ldexpW (fofI (bitsOf BinOp.or IntKind.u64 (Bn.wd (Bn.ShrN (Bn.nat a) ((↑(Bn.bl (Bn.nat a)) : Int) - (53 : Int))).fst (1 : Int) * (4294967296 : Int)) (Bn.wd (Bn.ShrN (Bn.nat a) ((↑(Bn.bl (Bn.nat a)) : Int) - (53 : Int))).fst (0 : Int)))) (e + ((↑(Bn.bl (Bn.nat a)) : Int) - (53 : Int))))) :=
  evFn_pure hm soMA (fn := Try.f88) rfl rfl (ti := false) (hs := [CHint.ops 2 [(1, Hint.b false)], CHint.ops 4 [(3, Hint.b false)], CHint.ops 7 [(3, Hint.b false)], CHint.ops 9 [(1, Hint.b false)], CHint.ops 17 [(3, Hint.b false)], CHint.ops 19 [(5, Hint.b true)], CHint.ops 20 [(6, Hint.b true)], CHint.ops 21 [(2, Hint.b false)]]) (c := _) (by kernel_rfl) h
theorem nearFF26 (a : List Int) (ta : Bool) (e : Int) (m : Nat) (h : AllP [Bn.Words a, a.length ≤ Bn.lim4, ((↑(Bn.bl (Bn.nat a)) : Int) == (0 : Int)) = false, inR IntKind.i64 ((↑(Bn.bl (Bn.nat a)) : Int) + e), decide ((↑(Bn.bl (Bn.nat a)) : Int) + e > (1024 : Int)) = false, inR IntKind.i64 ((↑(Bn.bl (Bn.nat a)) : Int) - (53 : Int)), inR IntKind.i64 ((↑(Bn.bl (Bn.nat a)) : Int) - (53 : Int) + e), decide ((↑(Bn.bl (Bn.nat a)) : Int) - (53 : Int) + e < (-1074 : Int)) = false, decide ((↑(Bn.bl (Bn.nat a)) : Int) - (53 : Int) ≤ (0 : Int)) = false, inR IntKind.i64 ((↑(Bn.bl (Bn.nat a)) : Int) + (1 : Int)), decide ((↑(Bn.bl (Bn.nat a)) : Int) - (53 : Int) > (↑(Bn.bl (Bn.nat a)) : Int) + (1 : Int)) = false, Bn.Words a, a.length ≤ Bn.lim4, (Bn.ShrN (Bn.nat a) ((↑(Bn.bl (Bn.nat a)) : Int) - (53 : Int))).snd = true, inR IntKind.i64 ((↑(Bn.bl (Bn.nat a)) : Int) - (53 : Int) - (1 : Int)), Bn.Words a, a.length ≤ Bn.lim4, (Bn.ShrN (Bn.nat a) ((↑(Bn.bl (Bn.nat a)) : Int) - (53 : Int) - (1 : Int))).snd = false, decide ((↑(Bn.ShrN (Bn.nat a) ((↑(Bn.bl (Bn.nat a)) : Int) - (53 : Int) - (1 : Int))).fst.length : Int) > (0 : Int)) = true, (0 : Int) ≤ (0 : Int) ∧ (0 : Int) < (↑(Bn.ShrN (Bn.nat a) ((↑(Bn.bl (Bn.nat a)) : Int) - (53 : Int) - (1 : Int))).fst.length : Int), (bitsOf BinOp.and IntKind.u32 ((Bn.ShrN (Bn.nat a) ((↑(Bn.bl (Bn.nat a)) : Int) - (53 : Int) - (1 : Int))).fst.getD 0 (0 : Int)) (1 : Int) == (1 : Int)) = true, decide ((↑(Bn.ShrN (Bn.nat a) ((↑(Bn.bl (Bn.nat a)) : Int) - (53 : Int))).fst.length : Int) > (0 : Int)) = true, (0 : Int) ≤ (0 : Int) ∧ (0 : Int) < (↑(Bn.ShrN (Bn.nat a) ((↑(Bn.bl (Bn.nat a)) : Int) - (53 : Int))).fst.length : Int), (bitsOf BinOp.and IntKind.u32 ((Bn.ShrN (Bn.nat a) ((↑(Bn.bl (Bn.nat a)) : Int) - (53 : Int))).fst.getD 0 (0 : Int)) (1 : Int) == (1 : Int)) = true, Bn.Words (Bn.ShrN (Bn.nat a) ((↑(Bn.bl (Bn.nat a)) : Int) - (53 : Int))).fst, Bn.Words [(1 : Int)], (Bn.ShrN (Bn.nat a) ((↑(Bn.bl (Bn.nat a)) : Int) - (53 : Int))).fst.length + 1 ≤ Bn.lim4, 2 ≤ Bn.lim4, Bn.Words (Bn.dig (Bn.nat (Bn.ShrN (Bn.nat a) ((↑(Bn.bl (Bn.nat a)) : Int) - (53 : Int))).fst + Bn.nat [(1 : Int)])), (0 : Int) ≤ (1 : Int), (0 : Int) ≤ (32 : Int), inR IntKind.u64 (Bn.wd (Bn.dig (Bn.nat (Bn.ShrN (Bn.nat a) ((↑(Bn.bl (Bn.nat a)) : Int) - (53 : Int))).fst + Bn.nat [(1 : Int)])) (1 : Int) * (4294967296 : Int)), Bn.Words (Bn.dig (Bn.nat (Bn.ShrN (Bn.nat a) ((↑(Bn.bl (Bn.nat a)) : Int) - (53 : Int))).fst + Bn.nat [(1 : Int)])), (0 : Int) ≤ (0 : Int), inR IntKind.i64 (e + ((↑(Bn.bl (Bn.nat a)) : Int) - (53 : Int))), W (fofI (bitsOf BinOp.or IntKind.u64 (Bn.wd (Bn.dig (Bn.nat (Bn.ShrN (Bn.nat a) ((↑(Bn.bl (Bn.nat a)) : Int) - (53 : Int))).fst + Bn.nat [(1 : Int)])) (1 : Int) * (4294967296 : Int)) (Bn.wd (Bn.dig (Bn.nat (Bn.ShrN (Bn.nat a) ((↑(Bn.bl (Bn.nat a)) : Int) - (53 : Int))).fst + Bn.nat [(1 : Int)])) (0 : Int)))), (-4611686018427387904 : Int) ≤ e + ((↑(Bn.bl (Bn.nat a)) : Int) - (53 : Int)), e + ((↑(Bn.bl (Bn.nat a)) : Int) - (53 : Int)) ≤ (4611686018427387904 : Int)]) : PureTo Try.prog 88 [.sl 1 (.ints .u32 a) ta, .v (.int .i64 e)] (AV.fl FloatKind.f64 (ldexpW (fofI (bitsOf BinOp.or IntKind.u64 (Bn.wd (Bn.dig (Bn.nat (Bn.ShrN (Bn.nat a) ((↑(Bn.bl (Bn.nat a)) : Int) - (53 : Int))).fst + Bn.nat [(1 : Int)])) (1 : Int) * (4294967296 : Int)) (Bn.wd (Bn.dig (Bn.nat (Bn.ShrN (Bn.nat a) ((↑(Bn.bl (Bn.nat a)) : Int) - (53 : Int))).fst + Bn.nat [(1 : Int)])) (0 : Int)))) (e + ((↑(Bn.bl (Bn.nat a)) : Int) - (53 : Int))))) :=
  evFn_pure hm soMA (fn := Try.f88) rfl rfl (ti := false) (hs := [CHint.ops 2 [(1, Hint.b false)], CHint.ops 4 [(3, Hint.b false)], CHint.ops 7 [(3, Hint.b false)], CHint.ops 9 [(1, Hint.b false)], CHint.ops 17 [(3, Hint.b false)], CHint.ops 19 [(5, Hint.b true)], CHint.ops 20 [(6, Hint.b false)], CHint.ops 21 [(2, Hint.b true), (8, Hint.b true), (15, Hint.b true), (21, Hint.b true)]]) (c := _) (by kernel_rfl) h
theorem nearFF27 (a : List Int) (ta : Bool) (e : Int) (m : Nat) (h : AllP [Bn.Words a, a.length ≤ Bn.lim4, ((↑(Bn.bl (Bn.nat a)) : Int) == (0 : Int)) = false, inR IntKind.i64 ((↑(Bn.bl (Bn.nat a)) : Int) + e), decide ((↑(Bn.bl (Bn.nat a)) : Int) + e > (1024 : Int)) = false, inR IntKind.i64 ((↑(Bn.bl (Bn.nat a)) : Int) - (53 : Int)), inR IntKind.i64 ((↑(Bn.bl (Bn.nat a)) : Int) - (53 : Int) + e), decide ((↑(Bn.bl (Bn.nat a)) : Int) - (53 : Int) + e < (-1074 : Int)) = false, decide ((↑(Bn.bl (Bn.nat a)) : Int) - (53 : Int) ≤ (0 : Int)) = false, inR IntKind.i64 ((↑(Bn.bl (Bn.nat a)) : Int) + (1 : Int)), decide ((↑(Bn.bl (Bn.nat a)) : Int) - (53 : Int) > (↑(Bn.bl (Bn.nat a)) : Int) + (1 : Int)) = false, Bn.Words a, a.length ≤ Bn.lim4, (Bn.ShrN (Bn.nat a) ((↑(Bn.bl (Bn.nat a)) : Int) - (53 : Int))).snd = true, inR IntKind.i64 ((↑(Bn.bl (Bn.nat a)) : Int) - (53 : Int) - (1 : Int)), Bn.Words a, a.length ≤ Bn.lim4, (Bn.ShrN (Bn.nat a) ((↑(Bn.bl (Bn.nat a)) : Int) - (53 : Int) - (1 : Int))).snd = false, decide ((↑(Bn.ShrN (Bn.nat a) ((↑(Bn.bl (Bn.nat a)) : Int) - (53 : Int) - (1 : Int))).fst.length : Int) > (0 : Int)) = true, (0 : Int) ≤ (0 : Int) ∧ (0 : Int) < (↑(Bn.ShrN (Bn.nat a) ((↑(Bn.bl (Bn.nat a)) : Int) - (53 : Int) - (1 : Int))).fst.length : Int), (bitsOf BinOp.and IntKind.u32 ((Bn.ShrN (Bn.nat a) ((↑(Bn.bl (Bn.nat a)) : Int) - (53 : Int) - (1 : Int))).fst.getD 0 (0 : Int)) (1 : Int) == (1 : Int)) = true, decide ((↑(Bn.ShrN (Bn.nat a) ((↑(Bn.bl (Bn.nat a)) : Int) - (53 : Int))).fst.length : Int) > (0 : Int)) = true, (0 : Int) ≤ (0 : Int) ∧ (0 : Int) < (↑(Bn.ShrN (Bn.nat a) ((↑(Bn.bl (Bn.nat a)) : Int) - (53 : Int))).fst.length : Int), (bitsOf BinOp.and IntKind.u32 ((Bn.ShrN (Bn.nat a) ((↑(Bn.bl (Bn.nat a)) : Int) - (53 : Int))).fst.getD 0 (0 : Int)) (1 : Int) == (1 : Int)) = false, Bn.Words (Bn.ShrN (Bn.nat a) ((↑(Bn.bl (Bn.nat a)) : Int) - (53 : Int))).fst, (0 : Int) ≤ (1 : Int), (0 : Int) ≤ (32 : Int), inR IntKind.u64 (Bn.wd (Bn.ShrN (Bn.nat a) ((↑(Bn.bl (Bn.nat a)) : Int) - (53 : Int))).fst (1 : Int) * (4294967296 : Int)), Bn.Words (Bn.ShrN (Bn.nat a) ((↑(Bn.bl (Bn.nat a)) : Int) - (53 : Int))).fst, (0 : Int) ≤ (0 : Int), inR IntKind.i64 (e + ((↑(Bn.bl (Bn.nat a)) : Int) - (53 : Int))), W (fofI (bitsOf BinOp.or IntKind.u64 (Bn.wd (Bn.ShrN (Bn.nat a) ((↑(Bn.bl (Bn.nat a)) : Int) - (53 : Int))).fst (1 : Int) * (4294967296 : Int)) (Bn.wd (Bn.ShrN (Bn.nat a) ((↑(Bn.bl (Bn.nat a)) : Int) - (53 : Int))).fst (0 : Int)))), (-4611686018427387904 : Int) ≤ e + ((↑(Bn.bl (Bn.nat a)) : Int) - (53 : Int)), e + ((↑(Bn.bl (Bn.nat a)) : Int) - (53 : Int)) ≤ (4611686018427387904 : Int)]) : PureTo Try.prog 88 [.sl 1 (.ints .u32 a) ta, .v (.int .i64 e)] (AV.fl FloatKind.f64 (ldexpW (fofI (bitsOf BinOp.or IntKind.u64 (Bn.wd (Bn.ShrN (Bn.nat a) ((↑(Bn.bl (Bn.nat a)) : Int) - (53 : Int))).fst (1 : Int) * (4294967296 : Int)) (Bn.wd (Bn.ShrN (Bn.nat a) ((↑(Bn.bl (Bn.nat a)) : Int) - (53 : Int))).fst (0 : Int)))) (e + ((↑(Bn.bl (Bn.nat a)) : Int) - (53 : Int))))) :=
  evFn_pure hm soMA (fn := Try.f88) rfl rfl (ti := false) (hs := [CHint.ops 2 [(1, Hint.b false)], CHint.ops 4 [(3, Hint.b false)], CHint.ops 7 [(3, Hint.b false)], CHint.ops 9 [(1, Hint.b false)], CHint.ops 17 [(3, Hint.b false)], CHint.ops 19 [(5, Hint.b true)], CHint.ops 20 [(6, Hint.b false)], CHint.ops 21 [(2, Hint.b true), (8, Hint.b true), (15, Hint.b true), (21, Hint.b false)]]) (c := _) (by kernel_rfl) h
theorem nearFF28 (a : List Int) (ta : Bool) (e : Int) (m : Nat) (h : AllP [Bn.Words a, a.length ≤ Bn.lim4, ((↑(Bn.bl (Bn.nat a)) : Int) == (0 : Int)) = false, inR IntKind.i64 ((↑(Bn.bl (Bn.nat a)) : Int) + e), decide ((↑(Bn.bl (Bn.nat a)) : Int) + e > (1024 : Int)) = false, inR IntKind.i64 ((↑(Bn.bl (Bn.nat a)) : Int) - (53 : Int)), inR IntKind.i64 ((↑(Bn.bl (Bn.nat a)) : Int) - (53 : Int) + e), decide ((↑(Bn.bl (Bn.nat a)) : Int) - (53 : Int) + e < (-1074 : Int)) = false, decide ((↑(Bn.bl (Bn.nat a)) : Int) - (53 : Int) ≤ (0 : Int)) = false, inR IntKind.i64 ((↑(Bn.bl (Bn.nat a)) : Int) + (1 : Int)), decide ((↑(Bn.bl (Bn.nat a)) : Int) - (53 : Int) > (↑(Bn.bl (Bn.nat a)) : Int) + (1 : Int)) = false, Bn.Words a, a.length ≤ Bn.lim4, (Bn.ShrN (Bn.nat a) ((↑(Bn.bl (Bn.nat a)) : Int) - (53 : Int))).snd = true, inR IntKind.i64 ((↑(Bn.bl (Bn.nat a)) : Int) - (53 : Int) - (1 : Int)), Bn.Words a, a.length ≤ Bn.lim4, (Bn.ShrN (Bn.nat a) ((↑(Bn.bl (Bn.nat a)) : Int) - (53 : Int) - (1 : Int))).snd = false, decide ((↑(Bn.ShrN (Bn.nat a) ((↑(Bn.bl (Bn.nat a)) : Int) - (53 : Int) - (1 : Int))).fst.length : Int) > (0 : Int)) = true, (0 : Int) ≤ (0 : Int) ∧ (0 : Int) < (↑(Bn.ShrN (Bn.nat a) ((↑(Bn.bl (Bn.nat a)) : Int) - (53 : Int) - (1 : Int))).fst.length : Int), (bitsOf BinOp.and IntKind.u32 ((Bn.ShrN (Bn.nat a) ((↑(Bn.bl (Bn.nat a)) : Int) - (53 : Int) - (1 : Int))).fst.getD 0 (0 : Int)) (1 : Int) == (1 : Int)) = true, decide ((↑(Bn.ShrN (Bn.nat a) ((↑(Bn.bl (Bn.nat a)) : Int) - (53 : Int))).fst.length : Int) > (0 : Int)) = false, Bn.Words (Bn.ShrN (Bn.nat a) ((↑(Bn.bl (Bn.nat a)) : Int) - (53 : Int))).fst, (0 : Int) ≤ (1 : Int), (0 : Int) ≤ (32 : Int), inR IntKind.u64 (Bn.wd (Bn.ShrN (Bn.nat a) ((↑(Bn.bl (Bn.nat a)) : Int) - (53 : Int))).fst (1 : Int) * (4294967296 : Int)), Bn.Words (Bn.ShrN (Bn.nat a) ((↑(Bn.bl (Bn.nat a)) : Int) - (53 : Int))).fst, (0 : Int) ≤ (0 : Int), inR IntKind.i64 (e + ((↑(Bn.bl (Bn.nat a)) : Int) - (53 : Int))), W (fofI (bitsOf BinOp.or IntKind.u64 (Bn.wd (Bn.ShrN (Bn.nat a) ((↑(Bn.bl (Bn.nat a)) : Int) - (53 : Int))).fst (1 : Int) * (4294967296 : Int)) (Bn.wd (Bn.ShrN (Bn.nat a) ((↑(Bn.bl (Bn.nat a)) : Int) - (53 : Int))).fst (0 : Int)))), (-4611686018427387904 : Int) ≤ e + ((↑(Bn.bl (Bn.nat a)) : Int) - (53 : Int)), e + ((↑(Bn.bl (Bn.nat a)) : Int) - (53 : Int)) ≤ (4611686018427387904 : Int)]) : PureTo Try.prog 88 [.sl 1 (.ints .u32 a) ta, .v (.int .i64 e)] (AV.fl FloatKind.f64 (ldexpW (fofI (bitsOf BinOp.or IntKind.u64 (Bn.wd (Bn.ShrN (Bn.nat a) ((↑(Bn.bl (Bn.nat a)) : Int) - (53 : Int))).fst (1 : Int) * (4294967296 : Int)) (Bn.wd (Bn.ShrN (Bn.nat a) ((↑(Bn.bl (Bn.nat a)) : Int) - (53 : Int))).fst (0 : Int)))) (e + ((↑(Bn.bl (Bn.nat a)) : Int) - (53 : Int))))) :=
  evFn_pure hm soMA (fn := Try.f88) rfl rfl (ti := false) (hs := [CHint.ops 2 [(1, Hint.b false)], CHint.ops 4 [(3, Hint.b false)], CHint.ops 7 [(3, Hint.b false)], CHint.ops 9 [(1, Hint.b false)], CHint.ops 17 [(3, Hint.b false)], CHint.ops 19 [(5, Hint.b true)], CHint.ops 20 [(6, Hint.b false)], CHint.ops 21 [(2, Hint.b true), (8, Hint.b true), (15, Hint.b false)]]) (c := _) (by kernel_rfl) h
theorem nearFF29 (a : List Int) (ta : Bool) (e : Int) (m : Nat) (h : AllP [Bn.Words a, a.length ≤ Bn.lim4, ((↑(Bn.bl (Bn.nat a)) : Int) == (0 : Int)) = false, inR IntKind.i64 ((↑(Bn.bl (Bn.nat a)) : Int) + e), decide ((↑(Bn.bl (Bn.nat a)) : Int) + e > (1024 : Int)) = false, inR IntKind.i64 ((↑(Bn.bl (Bn.nat a)) : Int) - (53 : Int)), inR IntKind.i64 ((↑(Bn.bl (Bn.nat a)) : Int) - (53 : Int) + e), decide ((↑(Bn.bl (Bn.nat a)) : Int) - (53 : Int) + e < (-1074 : Int)) = false, decide ((↑(Bn.bl (Bn.nat a)) : Int) - (53 : Int) ≤ (0 : Int)) = false, inR IntKind.i64 ((↑(Bn.bl (Bn.nat a)) : Int) + (1 : Int)), decide ((↑(Bn.bl (Bn.nat a)) : Int) - (53 : Int) > (↑(Bn.bl (Bn.nat a)) : Int) + (1 : Int)) = false, Bn.Words a, a.length ≤ Bn.lim4, (Bn.ShrN (Bn.nat a) ((↑(Bn.bl (Bn.nat a)) : Int) - (53 : Int))).snd = true, inR IntKind.i64 ((↑(Bn.bl (Bn.nat a)) : Int) - (53 : Int) - (1 : Int)), Bn.Words a, a.length ≤ Bn.lim4, (Bn.ShrN (Bn.nat a) ((↑(Bn.bl (Bn.nat a)) : Int) - (53 : Int) - (1 : Int))).snd = false, decide ((↑(Bn.ShrN (Bn.nat a) ((↑(Bn.bl (Bn.nat a)) : Int) - (53 : Int) - (1 : Int))).fst.length : Int) > (0 : Int)) = true, (0 : Int) ≤ (0 : Int) ∧ (0 : Int) < (↑(Bn.ShrN (Bn.nat a) ((↑(Bn.bl (Bn.nat a)) : Int) - (53 : Int) - (1 : Int))).fst.length : Int), (bitsOf BinOp.and IntKind.u32 ((Bn.ShrN (Bn.nat a) ((↑(Bn.bl (Bn.nat a)) : Int) - (53 : Int) - (1 : Int))).fst.getD 0 (0 : Int)) (1 : Int) == (1 : Int)) = false, Bn.Words (Bn.ShrN (Bn.nat a) ((↑(Bn.bl (Bn.nat a)) : Int) - (53 : Int))).fst, (0 : Int) ≤ (1 : Int), (0 : Int) ≤ (32 : Int), inR IntKind.u64 (Bn.wd (Bn.ShrN (Bn.nat a) ((↑(Bn.bl (Bn.nat a)) : Int) - (53 : Int))).fst (1 : Int) * (4294967296 : Int)), Bn.Words (Bn.ShrN (Bn.nat a) ((↑(Bn.bl (Bn.nat a)) : Int) - (53 : Int))).fst, (0 : Int) ≤ (0 : Int), inR IntKind.i64 (e + ((↑(Bn.bl (Bn.nat a)) : Int) - (53 : Int))), W (fofI (bitsOf BinOp.or IntKind.u64 (Bn.wd (Bn.ShrN (Bn.nat a) ((↑(Bn.bl (Bn.nat a)) : Int) - (53 : Int))).fst (1 : Int) * (4294967296 : Int)) (Bn.wd (Bn.ShrN (Bn.nat a) ((↑(Bn.bl (Bn.nat a)) : Int) - (53 : Int))).fst (0 : Int)))), (-4611686018427387904 : Int) ≤ e + ((↑(Bn.bl (Bn.nat a)) : Int) - (53 : Int)), e + ((↑(Bn.bl (Bn.nat a)) : Int) - (53 : Int)) ≤ (4611686018427387904 : Int)]) : PureTo Try.prog 88 [.sl 1 (.ints .u32 a) ta, .v (.int .i64 e)] (AV.fl FloatKind.f64 (ldexpW (fofI (bitsOf BinOp.or IntKind.u64 (Bn.wd (Bn.ShrN (Bn.nat a) ((↑(Bn.bl (Bn.nat a)) : Int) - (53 : Int))).fst (1 : Int) * (4294967296 : Int)) (Bn.wd (Bn.ShrN (Bn.nat a) ((↑(Bn.bl (Bn.nat a)) : Int) - (53 : Int))).fst (0 : Int)))) (e + ((↑(Bn.bl (Bn.nat a)) : Int) - (53 : Int))))) :=
  evFn_pure hm soMA (fn := Try.f88) rfl rfl (ti := false) (hs := [CHint.ops 2 [(1, Hint.b false)], CHint.ops 4 [(3, Hint.b false)], CHint.ops 7 [(3, Hint.b false)], CHint.ops 9 [(1, Hint.b false)], CHint.ops 17 [(3, Hint.b false)], CHint.ops 19 [(5, Hint.b true)], CHint.ops 20 [(6, Hint.b false)], CHint.ops 21 [(2, Hint.b true), (8, Hint.b false)]]) (c := _) (by kernel_rfl) h
theorem nearFF30 (a : List Int) (ta : Bool) (e : Int) (m : Nat) (h : AllP [Bn.Words a, a.length ≤ Bn.lim4, ((↑(Bn.bl (Bn.nat a)) : Int) == (0 : Int)) = false, inR IntKind.i64 ((↑(Bn.bl (Bn.nat a)) : Int) + e), decide ((↑(Bn.bl (Bn.nat a)) : Int) + e > (1024 : Int)) = false, inR IntKind.i64 ((↑(Bn.bl (Bn.nat a)) : Int) - (53 : Int)), inR IntKind.i64 ((↑(Bn.bl (Bn.nat a)) : Int) - (53 : Int) + e), decide ((↑(Bn.bl (Bn.nat a)) : Int) - (53 : Int) + e < (-1074 : Int)) = false, decide ((↑(Bn.bl (Bn.nat a)) : Int) - (53 : Int) ≤ (0 : Int)) = false, inR IntKind.i64 ((↑(Bn.bl (Bn.nat a)) : Int) + (1 : Int)), decide ((↑(Bn.bl (Bn.nat a)) : Int) - (53 : Int) > (↑(Bn.bl (Bn.nat a)) : Int) + (1 : Int)) = false, Bn.Words a, a.length ≤ Bn.lim4, (Bn.ShrN (Bn.nat a) ((↑(Bn.bl (Bn.nat a)) : Int) - (53 : Int))).snd = true, inR IntKind.i64 ((↑(Bn.bl (Bn.nat a)) : Int) - (53 : Int) - (1 : Int)), Bn.Words a, a.length ≤ Bn.lim4, (Bn.ShrN (Bn.nat a) ((↑(Bn.bl (Bn.nat a)) : Int) - (53 : Int) - (1 : Int))).snd = false, decide ((↑(Bn.ShrN (Bn.nat a) ((↑(Bn.bl (Bn.nat a)) : Int) - (53 : Int) - (1 : Int))).fst.length : Int) > (0 : Int)) = false, Bn.Words (Bn.ShrN (Bn.nat a) ((↑(Bn.bl (Bn.nat a)) : Int) - (53 : Int))).fst, (0 : Int) ≤ (1 : Int), (0 : Int) ≤ (32 : Int), inR IntKind.u64 (Bn.wd (Bn.ShrN (Bn.nat a) ((↑(Bn.bl (Bn.nat a)) : Int) - (53 : Int))).fst (1 : Int) * (4294967296 : Int)), Bn.Words (Bn.ShrN (Bn.nat a) ((↑(Bn.bl (Bn.nat a)) : Int) - (53 : Int))).fst, (0 : Int) ≤ (0 : Int), inR IntKind.i64 (e + ((↑(Bn.bl (Bn.nat a)) : Int) - (53 : Int))), W (fofI (bitsOf BinOp.or IntKind.u64 (Bn.wd (Bn.ShrN (Bn.nat a) ((↑(Bn.bl (Bn.nat a)) : Int) - (53 : Int))).fst (1 : Int) * (4294967296 : Int)) (Bn.wd (Bn.ShrN (Bn.nat a) ((↑(Bn.bl (Bn.nat a)) : Int) - (53 : Int))).fst (0 : Int)))), (-4611686018427387904 : Int) ≤ e + ((↑(Bn.bl (Bn.nat a)) : Int) - (53 : Int)), e + ((↑(Bn.bl (Bn.nat a)) : Int) - (53 : Int)) ≤ (4611686018427387904 : Int)]) : PureTo Try.prog 88 [.sl 1 (.ints .u32 a) ta, .v (.int .i64 e)] (AV.fl FloatKind.f64 (ldexpW (fofI (bitsOf BinOp.or IntKind.u64 (Bn.wd (Bn.ShrN (Bn.nat a) ((↑(Bn.bl (Bn.nat a)) : Int) - (53 : Int))).fst (1 : Int) * (4294967296 : Int)) (Bn.wd (Bn.ShrN (Bn.nat a) ((↑(Bn.bl (Bn.nat a)) : Int) - (53 : Int))).fst (0 : Int)))) (e + ((↑(Bn.bl (Bn.nat a)) : Int) - (53 : Int))))) :=
  evFn_pure hm soMA (fn := Try.f88) rfl rfl (ti := false) (hs := [CHint.ops 2 [(1, Hint.b false)], CHint.ops 4 [(3, Hint.b false)], CHint.ops 7 [(3, Hint.b false)], CHint.ops 9 [(1, Hint.b false)], CHint.ops 17 [(3, Hint.b false)], CHint.ops 19 [(5, Hint.b true)], CHint.ops 20 [(6, Hint.b false)], CHint.ops 21 [(2, Hint.b false)]]) (c := _) (by kernel_rfl) h
theorem nearFF31 (a : List Int) (ta : Bool) (e : Int) (m : Nat) (h : AllP [Bn.Words a, a.length ≤ Bn.lim4, ((↑(Bn.bl (Bn.nat a)) : Int) == (0 : Int)) = false, inR IntKind.i64 ((↑(Bn.bl (Bn.nat a)) : Int) + e), decide ((↑(Bn.bl (Bn.nat a)) : Int) + e > (1024 : Int)) = false, inR IntKind.i64 ((↑(Bn.bl (Bn.nat a)) : Int) - (53 : Int)), inR IntKind.i64 ((↑(Bn.bl (Bn.nat a)) : Int) - (53 : Int) + e), decide ((↑(Bn.bl (Bn.nat a)) : Int) - (53 : Int) + e < (-1074 : Int)) = false, decide ((↑(Bn.bl (Bn.nat a)) : Int) - (53 : Int) ≤ (0 : Int)) = false, inR IntKind.i64 ((↑(Bn.bl (Bn.nat a)) : Int) + (1 : Int)), decide ((↑(Bn.bl (Bn.nat a)) : Int) - (53 : Int) > (↑(Bn.bl (Bn.nat a)) : Int) + (1 : Int)) = false, Bn.Words a, a.length ≤ Bn.lim4, (Bn.ShrN (Bn.nat a) ((↑(Bn.bl (Bn.nat a)) : Int) - (53 : Int))).snd = false, inR IntKind.i64 ((↑(Bn.bl (Bn.nat a)) : Int) - (53 : Int) - (1 : Int)), Bn.Words a, a.length ≤ Bn.lim4, (Bn.ShrN (Bn.nat a) ((↑(Bn.bl (Bn.nat a)) : Int) - (53 : Int) - (1 : Int))).snd = true, decide ((↑(Bn.ShrN (Bn.nat a) ((↑(Bn.bl (Bn.nat a)) : Int) - (53 : Int) - (1 : Int))).fst.length : Int) > (0 : Int)) = true, (0 : Int) ≤ (0 : Int) ∧ (0 : Int) < (↑(Bn.ShrN (Bn.nat a) ((↑(Bn.bl (Bn.nat a)) : Int) - (53 : Int) - (1 : Int))).fst.length : Int), (bitsOf BinOp.and IntKind.u32 ((Bn.ShrN (Bn.nat a) ((↑(Bn.bl (Bn.nat a)) : Int) - (53 : Int) - (1 : Int))).fst.getD 0 (0 : Int)) (1 : Int) == (1 : Int)) = true, Bn.Words (Bn.ShrN (Bn.nat a) ((↑(Bn.bl (Bn.nat a)) : Int) - (53 : Int))).fst, Bn.Words [(1 : Int)], (Bn.ShrN (Bn.nat a) ((↑(Bn.bl (Bn.nat a)) : Int) - (53 : Int))).fst.length + 1 ≤ Bn.lim4, 2 ≤ Bn.lim4, Bn.Words (Bn.dig (Bn.nat (Bn.ShrN (Bn.nat a) ((↑(Bn.bl (Bn.nat a)) : Int) - (53 : Int))).fst + Bn.nat [(1 : Int)])), (0 : Int) ≤ (1 : Int), (0 : Int) ≤ (32 : Int), inR IntKind.u64 (Bn.wd (Bn.dig (Bn.nat (Bn.ShrN (Bn.nat a) ((↑(Bn.bl (Bn.nat a)) : Int) - (53 : Int))).fst + Bn.nat [(1 : Int)])) (1 : Int) * (4294967296 : Int)), Bn.Words (Bn.dig (Bn.nat (Bn.ShrN (Bn.nat a) ((↑(Bn.bl (Bn.nat a)) : Int) - (53 : Int))).fst + Bn.nat [(1 : Int)])), (0 : Int) ≤ (0 : Int), inR IntKind.i64 (e + ((↑(Bn.bl (Bn.nat a)) : Int) - (53 : Int))), W (fofI (bitsOf BinOp.or IntKind.u64 (Bn.wd (Bn.dig (Bn.nat (Bn.ShrN (Bn.nat a) ((↑(Bn.bl (Bn.nat a)) : Int) - (53 : Int))).fst + Bn.nat [(1 : Int)])) (1 : Int) * (4294967296 : Int)) (Bn.wd (Bn.dig (Bn.nat (Bn.ShrN (Bn.nat a) ((↑(Bn.bl (Bn.nat a)) : Int) - (53 : Int))).fst + Bn.nat [(1 : Int)])) (0 : Int)))), (-4611686018427387904 : Int) ≤ e + ((↑(Bn.bl (Bn.nat a)) : Int) - (53 : Int)), e + ((↑(Bn.bl (Bn.nat a)) : Int) - (53 : Int)) ≤ (4611686018427387904 : Int)]) : PureTo Try.prog 88 [.sl 1 (.ints .u32 a) ta, .v (.int .i64 e)] (AV.fl FloatKind.f64 (ldexpW (fofI (bitsOf BinOp.or IntKind.u64 (Bn.wd (Bn.dig (Bn.nat (Bn.ShrN (Bn.nat a) ((↑(Bn.bl (Bn.nat a)) : Int) - (53 : Int))).fst + Bn.nat [(1 : Int)])) (1 : Int) * (4294967296 : Int)) (Bn.wd (Bn.dig (Bn.nat (Bn.ShrN (Bn.nat a) ((↑(Bn.bl (Bn.nat a)) : Int) - (53 : Int))).fst + Bn.nat [(1 : Int)])) (0 : Int)))) (e + ((↑(Bn.bl (Bn.nat a)) : Int) - (53 : Int))))) :=
  evFn_pure hm soMA (fn := Try.f88) rfl rfl (ti := false) (hs := [CHint.ops 2 [(1, Hint.b false)], CHint.ops 4 [(3, Hint.b false)], CHint.ops 7 [(3, Hint.b false)], CHint.ops 9 [(1, Hint.b false)], CHint.ops 17 [(3, Hint.b false)], CHint.ops 19 [(5, Hint.b false)], CHint.ops 20 [(6, Hint.b true)], CHint.ops 21 [(2, Hint.b true), (8, Hint.b true)]]) (c := _) (by kernel_rfl) h
theorem nearFF32 (a : List Int) (ta : Bool) (e : Int) (m : Nat) (h : AllP [Bn.Words a, a.length ≤ Bn.lim4, ((↑(Bn.bl (Bn.nat a)) : Int) == (0 : Int)) = false, inR IntKind.i64 ((↑(Bn.bl (Bn.nat a)) : Int) + e), decide ((↑(Bn.bl (Bn.nat a)) : Int) + e > (1024 : Int)) = false, inR IntKind.i64 ((↑(Bn.bl (Bn.nat a)) : Int) - (53 : Int)), inR IntKind.i64 ((↑(Bn.bl (Bn.nat a)) : Int) - (53 : Int) + e), decide ((↑(Bn.bl (Bn.nat a)) : Int) - (53 : Int) + e < (-1074 : Int)) = false, decide ((↑(Bn.bl (Bn.nat a)) : Int) - (53 : Int) ≤ (0 : Int)) = false, inR IntKind.i64 ((↑(Bn.bl (Bn.nat a)) : Int) + (1 : Int)), decide ((↑(Bn.bl (Bn.nat a)) : Int) - (53 : Int) > (↑(Bn.bl (Bn.nat a)) : Int) + (1 : Int)) = false, Bn.Words a, a.length ≤ Bn.lim4, (Bn.ShrN (Bn.nat a) ((↑(Bn.bl (Bn.nat a)) : Int) - (53 : Int))).snd = false, inR IntKind.i64 ((↑(Bn.bl (Bn.nat a)) : Int) - (53 : Int) - (1 : Int)), Bn.Words a, a.length ≤ Bn.lim4, (Bn.ShrN (Bn.nat a) ((↑(Bn.bl (Bn.nat a)) : Int) - (53 : Int) - (1 : Int))).snd = true, decide ((↑(Bn.ShrN (Bn.nat a) ((↑(Bn.bl (Bn.nat a)) : Int) - (53 : Int) - (1 : Int))).fst.length : Int) > (0 : Int)) = true, (0 : Int) ≤ (0 : Int) ∧ (0 : Int) < (↑(Bn.ShrN (Bn.nat a) ((↑(Bn.bl (Bn.nat a)) : Int) - (53 : Int) - (1 : Int))).fst.length : Int), (bitsOf BinOp.and IntKind.u32 ((Bn.ShrN (Bn.nat a) ((↑(Bn.bl (Bn.nat a)) : Int) - (53 : Int) - (1 : Int))).fst.getD 0 (0 : Int)) (1 : Int) == (1 : Int)) = false, Bn.Words (Bn.ShrN (Bn.nat a) ((↑(Bn.bl (Bn.nat a)) : Int) - (53 : Int))).fst, (0 : Int) ≤ (1 : Int), (0 : Int) ≤ (32 : Int), inR IntKind.u64 (Bn.wd (Bn.ShrN (Bn.nat a) ((↑(Bn.bl (Bn.nat a)) : Int) - (53 : Int))).fst (1 : Int) * (4294967296 : Int)), Bn.Words (Bn.ShrN (Bn.nat a) ((↑(Bn.bl (Bn.nat a)) : Int) - (53 : Int))).fst, (0 : Int) ≤ (0 : Int), inR IntKind.i64 (e + ((↑(Bn.bl (Bn.nat a)) : Int) - (53 : Int))), W (fofI (bitsOf BinOp.or IntKind.u64 (Bn.wd (Bn.ShrN (Bn.nat a) ((↑(Bn.bl (Bn.nat a)) : Int) - (53 : Int))).fst (1 : Int) * (4294967296 : Int)) (Bn.wd (Bn.ShrN (Bn.nat a) ((↑(Bn.bl (Bn.nat a)) : Int) - (53 : Int))).fst (0 : Int)))), (-4611686018427387904 : Int) ≤ e + ((↑(Bn.bl (Bn.nat a)) : Int) - (53 : Int)), e + ((↑(Bn.bl (Bn.nat a)) : Int) - (53 : Int)) ≤ (4611686018427387904 : Int)]) : PureTo Try.prog 88 [.sl 1 (.ints .u32 a) ta, .v (.int .i64 e)] (AV.fl FloatKind.f64 (ldexpW (fofI (bitsOf BinOp.or IntKind.u64 (Bn.wd (Bn.ShrN (Bn.nat a) ((↑(Bn.bl (Bn.nat a)) : Int) - (53 : Int))).fst (1 : Int) * (4294967296 : Int)) (Bn.wd (Bn.ShrN (Bn.nat a) ((↑(Bn.bl (Bn.nat a)) : Int) - (53 : Int))).fst (0 : Int)))) (e + ((↑(Bn.bl (Bn.nat a)) : Int) - (53 : Int))))) :=
  evFn_pure hm soMA (fn := Try.f88) rfl rfl (ti := false) (hs := [CHint.ops 2 [(1, Hint.b false)], CHint.ops 4 [(3, Hint.b false)], CHint.ops 7 [(3, Hint.b false)], CHint.ops 9 [(1, Hint.b false)], CHint.ops 17 [(3, Hint.b false)], CHint.ops 19 [(5, Hint.b false)], CHint.ops 20 [(6, Hint.b true)], CHint.ops 21 [(2, Hint.b true), (8, Hint.b false)]]) (c := _) (by kernel_rfl) h
theorem nearFF33 (a : List Int) (ta : Bool) (e : Int) (m : Nat) (h : AllP [Bn.Words a, a.length ≤ Bn.lim4, ((↑(Bn.bl (Bn.nat a)) : Int) == (0 : Int)) = false, inR IntKind.i64 ((↑(Bn.bl (Bn.nat a)) : Int) + e), decide ((↑(Bn.bl (Bn.nat a)) : Int) + e > (1024 : Int)) = false, inR IntKind.i64 ((↑(Bn.bl (Bn.nat a)) : Int) - (53 : Int)), inR IntKind.i64 ((↑(Bn.bl (Bn.nat a)) : Int) - (53 : Int) + e), decide ((↑(Bn.bl (Bn.nat a)) : Int) - (53 : Int) + e < (-1074 : Int)) = false, decide ((↑(Bn.bl (Bn.nat a)) : Int) - (53 : Int) ≤ (0 : Int)) = false, inR IntKind.i64 ((↑(Bn.bl (Bn.nat a)) : Int) + (1 : Int)), decide ((↑(Bn.bl (Bn.nat a)) : Int) - (53 : Int) > (↑(Bn.bl (Bn.nat a)) : Int) + (1 : Int)) = false, Bn.Words a, a.length ≤ Bn.lim4, (Bn.ShrN (Bn.nat a) ((↑(Bn.bl (Bn.nat a)) : Int) - (53 : Int))).snd = false, inR IntKind.i64 ((↑(Bn.bl (Bn.nat a)) : Int) - (53 : Int) - (1 : Int)), Bn.Words a, a.length ≤ Bn.lim4, (Bn.ShrN (Bn.nat a) ((↑(Bn.bl (Bn.nat a)) : Int) - (53 : Int) - (1 : Int))).snd = true, decide ((↑(Bn.ShrN (Bn.nat a) ((↑(Bn.bl (Bn.nat a)) : Int) - (53 : Int) - (1 : Int))).fst.length : Int) > (0 : Int)) = false, Bn.Words (Bn.ShrN (Bn.nat a) ((↑(Bn.bl (Bn.nat a)) : Int) - (53 : Int))).fst, (0 : Int) ≤ (1 : Int), (0 : Int) ≤ (32 : Int), inR IntKind.u64 (Bn.wd (Bn.ShrN (Bn.nat a) ((↑(Bn.bl (Bn.nat a)) : Int) - (53 : Int))).fst (1 : Int) * (4294967296 : Int)), Bn.Words (Bn.ShrN (Bn.nat a) ((↑(Bn.bl (Bn.nat a)) : Int) - (53 : Int))).fst, (0 : Int) ≤ (0 : Int), inR IntKind.i64 (e + ((↑(Bn.bl (Bn.nat a)) : Int) - (53 : Int))), W (fofI (bitsOf BinOp.or IntKind.u64 (Bn.wd (Bn.ShrN (Bn.nat a) ((↑(Bn.bl (Bn.nat a)) : Int) - (53 : Int))).fst (1 : Int) * (4294967296 : Int)) (Bn.wd (Bn.ShrN (Bn.nat a) ((↑(Bn.bl (Bn.nat a)) : Int) - (53 : Int))).fst (0 : Int)))), (-4611686018427387904 : Int) ≤ e + ((↑(Bn.bl (Bn.nat a)) : Int) - (53 : Int)), e + ((↑(Bn.bl (Bn.nat a)) : Int) - (53 : Int)) ≤ (4611686018427387904 : Int)]) : PureTo Try.prog 88 [.sl 1 (.ints .u32 a) ta, .v (.int .i64 e)] (AV.fl FloatKind.f64 (ldexpW (fofI (bitsOf BinOp.or IntKind.u64 (Bn.wd (Bn.ShrN (Bn.nat a) ((↑(Bn.bl (Bn.nat a)) : Int) - (53 : Int))).fst (1 : Int) * (4294967296 : Int)) (Bn.wd (Bn.ShrN (Bn.nat a) ((↑(Bn.bl (Bn.nat a)) : Int) - (53 : Int))).fst (0 : Int)))) (e + ((↑(Bn.bl (Bn.nat a)) : Int) - (53 : Int))))) :=
  evFn_pure hm soMA (fn := Try.f88) rfl rfl (ti := false) (hs := [CHint.ops 2 [(1, Hint.b false)], CHint.ops 4 [(3, Hint.b false)], CHint.ops 7 [(3, Hint.b false)], CHint.ops 9 [(1, Hint.b false)], CHint.ops 17 [(3, Hint.b false)], CHint.ops 19 [(5, Hint.b false)], CHint.ops 20 [(6, Hint.b true)], CHint.ops 21 [(2, Hint.b false)]]) (c := _) (by kernel_rfl) h
theorem nearFF34 (a : List Int) (ta : Bool) (e : Int) (m : Nat) (h : AllP [Bn.Words a, a.length ≤ Bn.lim4, ((↑(Bn.bl (Bn.nat a)) : Int) == (0 : Int)) = false, inR IntKind.i64 ((↑(Bn.bl (Bn.nat a)) : Int) + e), decide ((↑(Bn.bl (Bn.nat a)) : Int) + e > (1024 : Int)) = false, inR IntKind.i64 ((↑(Bn.bl (Bn.nat a)) : Int) - (53 : Int)), inR IntKind.i64 ((↑(Bn.bl (Bn.nat a)) : Int) - (53 : Int) + e), decide ((↑(Bn.bl (Bn.nat a)) : Int) - (53 : Int) + e < (-1074 : Int)) = false, decide ((↑(Bn.bl (Bn.nat a)) : Int) - (53 : Int) ≤ (0 : Int)) = false, inR IntKind.i64 ((↑(Bn.bl (Bn.nat a)) : Int) + (1 : Int)), decide ((↑(Bn.bl (Bn.nat a)) : Int) - (53 : Int) > (↑(Bn.bl (Bn.nat a)) : Int) + (1 : Int)) = false, Bn.Words a, a.length ≤ Bn.lim4, (Bn.ShrN (Bn.nat a) ((↑(Bn.bl (Bn.nat a)) : Int) - (53 : Int))).snd = false, inR IntKind.i64 ((↑(Bn.bl (Bn.nat a)) : Int) - (53 : Int) - (1 : Int)), Bn.Words a, a.length ≤ Bn.lim4, (Bn.ShrN (Bn.nat a) ((↑(Bn.bl (Bn.nat a)) : Int) - (53 : Int) - (1 : Int))).snd = false, decide ((↑(Bn.ShrN (Bn.nat a) ((↑(Bn.bl (Bn.nat a)) : Int) - (53 : Int) - (1 : Int))).fst.length : Int) > (0 : Int)) = true, (0 : Int) ≤ (0 : Int) ∧ (0 : Int) < (↑(Bn.ShrN (Bn.nat a) ((↑(Bn.bl (Bn.nat a)) : Int) - (53 : Int) - (1 : Int))).fst.length : Int), (bitsOf BinOp.and IntKind.u32 ((Bn.ShrN (Bn.nat a) ((↑(Bn.bl (Bn.nat a)) : Int) - (53 : Int) - (1 : Int))).fst.getD 0 (0 : Int)) (1 : Int) == (1 : Int)) = true, decide ((↑(Bn.ShrN (Bn.nat a) ((↑(Bn.bl (Bn.nat a)) : Int) - (53 : Int))).fst.length : Int) > (0 : Int)) = true, (0 : Int) ≤ (0 : Int) ∧ (0 : Int) < (↑(Bn.ShrN (Bn.nat a) ((↑(Bn.bl (Bn.nat a)) : Int) - (53 : Int))).fst.length : Int), (bitsOf BinOp.and IntKind.u32 ((Bn.ShrN (Bn.nat a) ((↑(Bn.bl (Bn.nat a)) : Int) - (53 : Int))).fst.getD 0 (0 : Int)) (1 : Int) == (1 : Int)) = true, Bn.Words (Bn.ShrN (Bn.nat a) ((↑(Bn.bl (Bn.nat a)) : Int) - (53 : Int))).fst, Bn.Words [(1 : Int)], (Bn.ShrN (Bn.nat a) ((↑(Bn.bl (Bn.nat a)) : Int) - (53 : Int))).fst.length + 1 ≤ Bn.lim4, 2 ≤ Bn.lim4, Bn.Words (Bn.dig (Bn.nat (Bn.ShrN (Bn.nat a) ((↑(Bn.bl (Bn.nat a)) : Int) - (53 : Int))).fst + Bn.nat [(1 : Int)])), (0 : Int) ≤ (1 : Int), (0 : Int) ≤ (32 : Int), inR IntKind.u64 (Bn.wd (Bn.dig (Bn.nat (Bn.ShrN (Bn.nat a) ((↑(Bn.bl (Bn.nat a)) : Int) - (53 : Int))).fst + Bn.nat [(1 : Int)])) (1 : Int) * (4294967296 : Int)), Bn.Words (Bn.dig (Bn.nat (Bn.ShrN (Bn.nat a) ((↑(Bn.bl (Bn.nat a)) : Int) - (53 : Int))).fst + Bn.nat [(1 : Int)])), (0 : Int) ≤ (0 : Int), inR IntKind.i64 (e + ((↑(Bn.bl (Bn.nat a)) : Int) - (53 : Int))), W (fofI (bitsOf BinOp.or IntKind.u64 (Bn.wd (Bn.dig (Bn.nat (Bn.ShrN (Bn.nat a) ((↑(Bn.bl (Bn.nat a)) : Int) - (53 : Int))).fst + Bn.nat [(1 : Int)])) (1 : Int) * (4294967296 : Int)) (Bn.wd (Bn.dig (Bn.nat (Bn.ShrN (Bn.nat a) ((↑(Bn.bl (Bn.nat a)) : Int) - (53 : Int))).fst + Bn.nat [(1 : Int)])) (0 : Int)))), (-4611686018427387904 : Int) ≤ e + ((↑(Bn.bl (Bn.nat a)) : Int) - (53 : Int)), e + ((↑(Bn.bl (Bn.nat a)) : Int) - (53 : Int)) ≤ (4611686018427387904 : Int)]) : PureTo Try.prog 88 [.sl 1 (.ints .u32 a) ta, .v (.int .i64 e)] (AV.fl FloatKind.f64 (ldexpW (fofI (bitsOf BinOp.or IntKind.u64 (Bn.wd (Bn.dig (Bn.nat (Bn.ShrN (Bn.nat a) ((↑(Bn.bl (Bn.nat a)) : Int) - (53 : Int))).fst + Bn.nat [(1 : Int)])) (1 : Int) * (4294967296 : Int)) (Bn.wd (Bn.dig (Bn.nat (Bn.ShrN (Bn.nat a) ((↑(Bn.bl (Bn.nat a)) : Int) - (53 : Int))).fst + Bn.nat [(1 : Int)])) (0 : Int)))) (e + ((↑(Bn.bl (Bn.nat a)) : Int) - (53 : Int))))) :=
  evFn_pure hm soMA (fn := Try.f88) rfl rfl (ti := false) (hs := [CHint.ops 2 [(1, Hint.b false)], CHint.ops 4 [(3, Hint.b false)], CHint.ops 7 [(3, Hint.b false)], CHint.ops 9 [(1, Hint.b false)], CHint.ops 17 [(3, Hint.b false)], CHint.ops 19 [(5, Hint.b false)], CHint.ops 20 [(6, Hint.b false)], CHint.ops 21 [(2, Hint.b true), (8, Hint.b true), (15, Hint.b true), (21, Hint.b true)]]) (c := _) (by kernel_rfl) h
theorem nearFF35 (a : List Int) (ta : Bool) (e : Int) (m : Nat) (h : AllP [Bn.Words a, a.length ≤ Bn.lim4, ((↑(Bn.bl (Bn.nat a)) : Int) == (0 : Int)) = false, inR IntKind.i64 ((↑(Bn.bl (Bn.nat a)) : Int) + e), decide ((↑(Bn.bl (Bn.nat a)) : Int) + e > (1024 : Int)) = false, inR IntKind.i64 ((↑(Bn.bl (Bn.nat a)) : Int) - (53 : Int)), inR IntKind.i64 ((↑(Bn.bl (Bn.nat a)) : Int) - (53 : Int) + e), decide ((↑(Bn.bl (Bn.nat a)) : Int) - (53 : Int) + e < (-1074 : Int)) = false, decide ((↑(Bn.bl (Bn.nat a)) : Int) - (53 : Int) ≤ (0 : Int)) = false, inR IntKind.i64 ((↑(Bn.bl (Bn.nat a)) : Int) + (1 : Int)), decide ((↑(Bn.bl (Bn.nat a)) : Int) - (53 : Int) > (↑(Bn.bl (Bn.nat a)) : Int) + (1 : Int)) = false, Bn.Words a, a.length ≤ Bn.lim4, (Bn.ShrN (Bn.nat a) ((↑(Bn.bl (Bn.nat a)) : Int) - (53 : Int))).snd = false, inR IntKind.i64 ((↑(Bn.bl (Bn.nat a)) : Int) - (53 : Int) - (1 : Int)), Bn.Words a, a.length ≤ Bn.lim4, (Bn.ShrN (Bn.nat a) ((↑(Bn.bl (Bn.nat a)) : Int) - (53 : Int) - (1 : Int))).snd = false, decide ((↑(Bn.ShrN (Bn.nat a) ((↑(Bn.bl (Bn.nat a)) : Int) - (53 : Int) - (1 : Int))).fst.length : Int) > (0 : Int)) = true, (0 : Int) ≤ (0 : Int) ∧ (0 : Int) < (↑(Bn.ShrN (Bn.nat a) ((↑(Bn.bl (Bn.nat a)) : Int) - (53 : Int) - (1 : Int))).fst.length : Int), (bitsOf BinOp.and IntKind.u32 ((Bn.ShrN (Bn.nat a) ((↑(Bn.bl (Bn.nat a)) : Int) - (53 : Int) - (1 : Int))).fst.getD 0 (0 : Int)) (1 : Int) == (1 : Int)) = true, decide ((↑(Bn.ShrN (Bn.nat a) ((↑(Bn.bl (Bn.nat a)) : Int) - (53 : Int))).fst.length : Int) > (0 : Int)) = true, (0 : Int) ≤ (0 : Int) ∧ (0 : Int) < (↑(Bn.ShrN (Bn.nat a) ((↑(Bn.bl (Bn.nat a)) : Int) - (53 : Int))).fst.length : Int), (bitsOf BinOp.and IntKind.u32 ((Bn.ShrN (Bn.nat a) ((↑(Bn.bl (Bn.nat a)) : Int) - (53 : Int))).fst.getD 0 (0 : Int)) (1 : Int) == (1 : Int)) = false, Bn.Words (Bn.ShrN (Bn.nat a) ((↑(Bn.bl (Bn.nat a)) : Int) - (53 : Int))).fst, (0 : Int) ≤ (1 : Int), (0 : Int) ≤ (32 : Int), inR IntKind.u64 (Bn.wd (Bn.ShrN (Bn.nat a) ((↑(Bn.bl (Bn.nat a)) : Int) - (53 : Int))).fst (1 : Int) * (4294967296 : Int)), Bn.Words (Bn.ShrN (Bn.nat a) ((↑(Bn.bl (Bn.nat a)) : Int) - (53 : Int))).fst, (0 : Int) ≤ (0 : Int), inR IntKind.i64 (e + ((↑(Bn.bl (Bn.nat a)) : Int) - (53 : Int))), W (fofI (bitsOf BinOp.or IntKind.u64 (Bn.wd (Bn.ShrN (Bn.nat a) ((↑(Bn.bl (Bn.nat a)) : Int) - (53 : Int))).fst (1 : Int) * (4294967296 : Int)) (Bn.wd (Bn.ShrN (Bn.nat a) ((↑(Bn.bl (Bn.nat a)) : Int) - (53 : Int))).fst (0 : Int)))), (-4611686018427387904 : Int) ≤ e + ((↑(Bn.bl (Bn.nat a)) : Int) - (53 : Int)), e + ((↑(Bn.bl (Bn.nat a)) : Int) - (53 : Int)) ≤ (4611686018427387904 : Int)]) : PureTo Try.prog 88 [.sl 1 (.ints .u32 a) ta, .v (.int .i64 e)] (AV.fl FloatKind.f64 (ldexpW (fofI (bitsOf BinOp.or IntKind.u64 (Bn.wd (Bn.ShrN (Bn.nat a) ((↑(Bn.bl (Bn.nat a)) : Int) - (53 : Int))).fst (1 : Int) * (4294967296 : Int)) (Bn.wd (Bn.ShrN (Bn.nat a) ((↑(Bn.bl (Bn.nat a)) : Int) - (53 : Int))).fst (0 : Int)))) (e + ((↑(Bn.bl (Bn.nat a)) : Int) - (53 : Int))))) :=
  evFn_pure hm soMA (fn := Try.f88) rfl rfl (ti := false) (hs := [CHint.ops 2 [(1, Hint.b false)], CHint.ops 4 [(3, Hint.b false)], CHint.ops 7 [(3, Hint.b false)], CHint.ops 9 [(1, Hint.b false)], CHint.ops 17 [(3, Hint.b false)], CHint.ops 19 [(5, Hint.b false)], CHint.ops 20 [(6, Hint.b false)], CHint.ops 21 [(2, Hint.b true), (8, Hint.b true), (15, Hint.b true), (21, Hint.b false)]]) (c := _) (by kernel_rfl) h
theorem nearFF36 (a : List Int) (ta : Bool) (e : Int) (m : Nat) (h : AllP [Bn.Words a, a.length ≤ Bn.lim4, ((↑(Bn.bl (Bn.nat a)) : Int) == (0 : Int)) = false, inR IntKind.i64 ((↑(Bn.bl (Bn.nat a)) : Int) + e), decide ((↑(Bn.bl (Bn.nat a)) : Int) + e > (1024 : Int)) = false, inR IntKind.i64 ((↑(Bn.bl (Bn.nat a)) : Int) - (53 : Int)), inR IntKind.i64 ((↑(Bn.bl (Bn.nat a)) : Int) - (53 : Int) + e), decide ((↑(Bn.bl (Bn.nat a)) : Int) - (53 : Int) + e < (-1074 : Int)) = false, decide ((↑(Bn.bl (Bn.nat a)) : Int) - (53 : Int) ≤ (0 : Int)) = false, inR IntKind.i64 ((↑(Bn.bl (Bn.nat a)) : Int) + (1 : Int)), decide ((↑(Bn.bl (Bn.nat a)) : Int) - (53 : Int) > (↑(Bn.bl (Bn.nat a)) : Int) + (1 : Int)) = false, Bn.Words a, a.length ≤ Bn.lim4, (Bn.ShrN (Bn.nat a) ((↑(Bn.bl (Bn.nat a)) : Int) - (53 : Int))).snd = false, inR IntKind.i64 ((↑(Bn.bl (Bn.nat a)) : Int) - (53 : Int) - (1 : Int)), Bn.Words a, a.length ≤ Bn.lim4, (Bn.ShrN (Bn.nat a) ((↑(Bn.bl (Bn.nat a)) : Int) - (53 : Int) - (1 : Int))).snd = false, decide ((↑(Bn.ShrN (Bn.nat a) ((↑(Bn.bl (Bn.nat a)) : Int) - (53 : Int) - (1 : Int))).fst.length : Int) > (0 : Int)) = true, (0 : Int) ≤ (0 : Int) ∧ (0 : Int) < (↑(Bn.ShrN (Bn.nat a) ((↑(Bn.bl (Bn.nat a)) : Int) - (53 : Int) - (1 : Int))).fst.length : Int), (bitsOf BinOp.and IntKind.u32 ((Bn.ShrN (Bn.nat a) ((↑(Bn.bl (Bn.nat a)) : Int) - (53 : Int) - (1 : Int))).fst.getD 0 (0 : Int)) (1 : Int) == (1 : Int)) = true, decide ((↑(Bn.ShrN (Bn.nat a) ((↑(Bn.bl (Bn.nat a)) : Int) - (53 : Int))).fst.length : Int) > (0 : Int)) = false, Bn.Words (Bn.ShrN (Bn.nat a) ((↑(Bn.bl (Bn.nat a)) : Int) - (53 : Int))).fst, (0 : Int) ≤ (1 : Int), (0 : Int) ≤ (32 : Int), inR IntKind.u64 (Bn.wd (Bn.ShrN (Bn.nat a) ((↑(Bn.bl (Bn.nat a)) : Int) - (53 : Int))).fst (1 : Int) * (4294967296 : Int)), Bn.Words (Bn.ShrN (Bn.nat a) ((↑(Bn.bl (Bn.nat a)) : Int) - (53 : Int))).fst, (0 : Int) ≤ (0 : Int), inR IntKind.i64 (e + ((↑(Bn.bl (Bn.nat a)) : Int) - (53 : Int))), W (fofI (bitsOf BinOp.or IntKind.u64 (Bn.wd (Bn.ShrN (Bn.nat a) ((↑(Bn.bl (Bn.nat a)) : Int) - (53 : Int))).fst (1 : Int) * (4294967296 : Int)) (Bn.wd (Bn.ShrN (Bn.nat a) ((↑(Bn.bl (Bn.nat a)) : Int) - (53 : Int))).fst (0 : Int)))), (-4611686018427387904 : Int) ≤ e + ((↑(Bn.bl (Bn.nat a)) : Int) - (53 : Int)), e + ((↑(Bn.bl (Bn.nat a)) : Int) - (53 : Int)) ≤ (4611686018427387904 : Int)]) : PureTo Try.prog 88 [.sl 1 (.ints .u32 a) ta, .v (.int .i64 e)] (AV.fl FloatKind.f64 (ldexpW (fofI (bitsOf BinOp.or IntKind.u64 (Bn.wd (Bn.ShrN (Bn.nat a) ((↑(Bn.bl (Bn.nat a)) : Int) - (53 : Int))).fst (1 : Int) * (4294967296 : Int)) (Bn.wd (Bn.ShrN (Bn.nat a) ((↑(Bn.bl (Bn.nat a)) : Int) - (53 : Int))).fst (0 : Int)))) (e + ((↑(Bn.bl (Bn.nat a)) : Int) - (53 : Int))))) :=
  evFn_pure hm soMA (fn := Try.f88) rfl rfl (ti := false) (hs := [CHint.ops 2 [(1, Hint.b false)], CHint.ops 4 [(3, Hint.b false)], CHint.ops 7 [(3, Hint.b false)], CHint.ops 9 [(1, Hint.b false)], CHint.ops 17 [(3, Hint.b false)], CHint.ops 19 [(5, Hint.b false)], CHint.ops 20 [(6, Hint.b false)], CHint.ops 21 [(2, Hint.b true), (8, Hint.b true), (15, Hint.b false)]]) (c := _) (by kernel_rfl) h
theorem nearFF37 (a : List Int) (ta : Bool) (e : Int) (m : Nat) (h : AllP [Bn.Words a, a.length ≤ Bn.lim4, ((↑(Bn.bl (Bn.nat a)) : Int) == (0 : Int)) = false, inR IntKind.i64 ((↑(Bn.bl (Bn.nat a)) : Int) + e), decide ((↑(Bn.bl (Bn.nat a)) : Int) + e > (1024 : Int)) = false, inR IntKind.i64 ((↑(Bn.bl (Bn.nat a)) : Int) - (53 : Int)), inR IntKind.i64 ((↑(Bn.bl (Bn.nat a)) : Int) - (53 : Int) + e), decide ((↑(Bn.bl (Bn.nat a)) : Int) - (53 : Int) + e < (-1074 : Int)) = false, decide ((↑(Bn.bl (Bn.nat a)) : Int) - (53 : Int) ≤ (0 : Int)) = false, inR IntKind.i64 ((↑(Bn.bl (Bn.nat a)) : Int) + (1 : Int)), decide ((↑(Bn.bl (Bn.nat a)) : Int) - (53 : Int) > (↑(Bn.bl (Bn.nat a)) : Int) + (1 : Int)) = false, Bn.Words a, a.length ≤ Bn.lim4, (Bn.ShrN (Bn.nat a) ((↑(Bn.bl (Bn.nat a)) : Int) - (53 : Int))).snd = false, inR IntKind.i64 ((↑(Bn.bl (Bn.nat a)) : Int) - (53 : Int) - (1 : Int)), Bn.Words a, a.length ≤ Bn.lim4, (Bn.ShrN (Bn.nat a) ((↑(Bn.bl (Bn.nat a)) : Int) - (53 : Int) - (1 : Int))).snd = false, decide ((↑(Bn.ShrN (Bn.nat a) ((↑(Bn.bl (Bn.nat a)) : Int) - (53 : Int) - (1 : Int))).fst.length : Int) > (0 : Int)) = true, (0 : Int) ≤ (0 : Int) ∧ (0 : Int) < (↑(Bn.ShrN (Bn.nat a) ((↑(Bn.bl (Bn.nat a)) : Int) - (53 : Int) - (1 : Int))).fst.length : Int), (bitsOf BinOp.and IntKind.u32 ((Bn.ShrN (Bn.nat a) ((↑(Bn.bl (Bn.nat a)) : Int) - (53 : Int) - (1 : Int))).fst.getD 0 (0 : Int)) (1 : Int) == (1 : Int)) = false, Bn.Words (Bn.ShrN (Bn.nat a) ((↑(Bn.bl (Bn.nat a)) : Int) - (53 : Int))).fst, (0 : Int) ≤ (1 : Int), (0 : Int) ≤ (32 : Int), inR IntKind.u64 (Bn.wd (Bn.ShrN (Bn.nat a) ((↑(Bn.bl (Bn.nat a)) : Int) - (53 : Int))).fst (1 : Int) * (4294967296 : Int)), Bn.Words (Bn.ShrN (Bn.nat a) ((↑(Bn.bl (Bn.nat a)) : Int) - (53 : Int))).fst, (0 : Int) ≤ (0 : Int), inR IntKind.i64 (e + ((↑(Bn.bl (Bn.nat a)) : Int) - (53 : Int))), W (fofI (bitsOf BinOp.or IntKind.u64 (Bn.wd (Bn.ShrN (Bn.nat a) ((↑(Bn.bl (Bn.nat a)) : Int) - (53 : Int))).fst (1 : Int) * (4294967296 : Int)) (Bn.wd (Bn.ShrN (Bn.nat a) ((↑(Bn.bl (Bn.nat a)) : Int) - (53 : Int))).fst (0 : Int)))), (-4611686018427387904 : Int) ≤ e + ((↑(Bn.bl (Bn.nat a)) : Int) - (53 : Int)), e + ((↑(Bn.bl (Bn.nat a)) : Int) - (53 : Int)) ≤ (4611686018427387904 : Int)]) : PureTo Try.prog 88 [.sl 1 (.ints .u32 a) ta, .v (.int .i64 e)] (AV.fl FloatKind.f64 (ldexpW (fofI (bitsOf BinOp.or IntKind.u64 (Bn.wd (Bn.ShrN (Bn.nat a) ((↑(Bn.bl (Bn.nat a)) : Int) - (53 : Int))).fst (1 : Int) * (4294967296 : Int)) (Bn.wd (Bn.ShrN (Bn.nat a) ((↑(Bn.bl (Bn.nat a)) : Int) - (53 : Int))).fst (0 : Int)))) (e + ((↑(Bn.bl (Bn.nat a)) : Int) - (53 : Int))))) :=
  evFn_pure hm soMA (fn := Try.f88) rfl rfl (ti := false) (hs := [CHint.ops 2 [(1, Hint.b false)], CHint.ops 4 [(3, Hint.b false)], CHint.ops 7 [(3, Hint.b false)], CHint.ops 9 [(1, Hint.b false)], CHint.ops 17 [(3, Hint.b false)], CHint.ops 19 [(5, Hint.b false)], CHint.ops 20 [(6, Hint.b false)], CHint.ops 21 [(2, Hint.b true), (8, Hint.b false)]]) (c := _) (by kernel_rfl) h
theorem nearFF38 (a : List Int) (ta : Bool) (e : Int) (m : Nat) (h : AllP [Bn.Words a, a.length ≤ Bn.lim4, ((↑(Bn.bl (Bn.nat a)) : Int) == (0 : Int)) = false, inR IntKind.i64 ((↑(Bn.bl (Bn.nat a)) : Int) + e), decide ((↑(Bn.bl (Bn.nat a)) : Int) + e > (1024 : Int)) = false, inR IntKind.i64 ((↑(Bn.bl (Bn.nat a)) : Int) - (53 : Int)), inR IntKind.i64 ((↑(Bn.bl (Bn.nat a)) : Int) - (53 : Int) + e), decide ((↑(Bn.bl (Bn.nat a)) : Int) - (53 : Int) + e < (-1074 : Int)) = false, decide ((↑(Bn.bl (Bn.nat a)) : Int) - (53 : Int) ≤ (0 : Int)) = false, inR IntKind.i64 ((↑(Bn.bl (Bn.nat a)) : Int) + (1 : Int)), decide ((↑(Bn.bl (Bn.nat a)) : Int) - (53 : Int) > (↑(Bn.bl (Bn.nat a)) : Int) + (1 : Int)) = false, Bn.Words a, a.length ≤ Bn.lim4, (Bn.ShrN (Bn.nat a) ((↑(Bn.bl (Bn.nat a)) : Int) - (53 : Int))).snd = false, inR IntKind.i64 ((↑(Bn.bl (Bn.nat a)) : Int) - (53 : Int) - (1 : Int)), Bn.Words a, a.length ≤ Bn.lim4, (Bn.ShrN (Bn.nat a) ((↑(Bn.bl (Bn.nat a)) : Int) - (53 : Int) - (1 : Int))).snd = false, decide ((↑(Bn.ShrN (Bn.nat a) ((↑(Bn.bl (Bn.nat a)) : Int) - (53 : Int) - (1 : Int))).fst.length : Int) > (0 : Int)) = false, Bn.Words (Bn.ShrN (Bn.nat a) ((↑(Bn.bl (Bn.nat a)) : Int) - (53 : Int))).fst, (0 : Int) ≤ (1 : Int), (0 : Int) ≤ (32 : Int), inR IntKind.u64 (Bn.wd (Bn.ShrN (Bn.nat a) ((↑(Bn.bl (Bn.nat a)) : Int) - (53 : Int))).fst (1 : Int) * (4294967296 : Int)), Bn.Words (Bn.ShrN (Bn.nat a) ((↑(Bn.bl (Bn.nat a)) : Int) - (53 : Int))).fst, (0 : Int) ≤ (0 : Int), inR IntKind.i64 (e + ((↑(Bn.bl (Bn.nat a)) : Int) - (53 : Int))), W (fofI (bitsOf BinOp.or IntKind.u64 (Bn.wd (Bn.ShrN (Bn.nat a) ((↑(Bn.bl (Bn.nat a)) : Int) - (53 : Int))).fst (1 : Int) * (4294967296 : Int)) (Bn.wd (Bn.ShrN (Bn.nat a) ((↑(Bn.bl (Bn.nat a)) : Int) - (53 : Int))).fst (0 : Int)))), (-4611686018427387904 : Int) ≤ e + ((↑(Bn.bl (Bn.nat a)) : Int) - (53 : Int)), e + ((↑(Bn.bl (Bn.nat a)) : Int) - (53 : Int)) ≤ (4611686018427387904 : Int)]) : PureTo Try.prog 88 [.sl 1 (.ints .u32 a) ta, .v (.int .i64 e)] (AV.fl FloatKind.f64 (ldexpW (fofI (bitsOf BinOp.or IntKind.u64 (Bn.wd (Bn.ShrN (Bn.nat a) ((↑(Bn.bl (Bn.nat a)) : Int) - (53 : Int))).fst (1 : Int) * (4294967296 : Int)) (Bn.wd (Bn.ShrN (Bn.nat a) ((↑(Bn.bl (Bn.nat a)) : Int) - (53 : Int))).fst (0 : Int)))) (e + ((↑(Bn.bl (Bn.nat a)) : Int) - (53 : Int))))) :=
  evFn_pure hm soMA (fn := Try.f88) rfl rfl (ti := false) (hs := [CHint.ops 2 [(1, Hint.b false)], CHint.ops 4 [(3, Hint.b false)], CHint.ops 7 [(3, Hint.b false)], CHint.ops 9 [(1, Hint.b false)], CHint.ops 17 [(3, Hint.b false)], CHint.ops 19 [(5, Hint.b false)], CHint.ops 20 [(6, Hint.b false)], CHint.ops 21 [(2, Hint.b false)]]) (c := _) (by kernel_rfl) h
end Go.Proofs.Nu

/- Numbers: Ldexp of whole numbers; Near, where it is exact. -/
set_option maxRecDepth 100000
set_option exponentiation.threshold 2200
namespace Go.Proofs.Nu
open Go Go.Ev Bn

theorem mul_pow_eq {x y a b a' b' : Nat} (h : x * 2 ^ a = y * 2 ^ b) (hab : (a : Int) - b = a' - b') : x * 2 ^ a' = y * 2 ^ b' := by
  have h1 := mul_pow_le (x := x) (y := y) (a := a) (b := b) (q := 0) (p := a') (d := b') (by rw [Nat.zero_add]; exact Nat.le_of_eq h) (by omega)
  have h2 := mul_pow_ge (x := x) (y := y) (a := a) (b := b) (q := 0) (p := a') (d := b') (by rw [Nat.zero_add]; exact Nat.le_of_eq h.symm) (by omega)
  omega

theorem pow_lt_of {x y a b : Nat} (hx : 2 ^ a ≤ x) (hy : x < 2 ^ b) : a < b := by
  rcases Nat.lt_or_ge a b with h | h
  · exact h
  · have := Nat.pow_le_pow_right (n := 2) (by decide) h; omega

/-- LDEXP of a normal number, where it is exact -/
theorem ldexp_I {x E m : Nat} (hx : Fit x) (h0 : rg x ≠ 0) (h : Norm x E m 0) (k : Int) (p q r : Nat) (hk : k = (p : Int) - q) (hr : r < 9218868437227405312) (hr0 : r ≠ 0) (hv : valN (rg x) * 2 ^ p = valN r * 2 ^ q) : ldexpW x k = wordOf (sg x) r := by
  have hn := h.rgN
  obtain ⟨e1, e2⟩ := wordOf_parts (s := sg x) h.hi h.dig
  have hword : FWord (wordOf (sg x) (E * 4503599627370496 + m)) := word_wordOf (Nat.le_of_lt hn)
  have hlo := h.lo
  have hhi := h.hi
  have hdig := h.dig
  have e52 : (2 : Nat) ^ 52 = 4503599627370496 := by decide
  have e53 : (2 : Nat) ^ 53 = 9007199254740992 := by decide
  have hval : valN (rg x) = (4503599627370496 + m) * 2 ^ (E - 1) := by
    rcases h.val with ⟨_, h2⟩ | ⟨h1, _⟩
    · exact absurd h2 (by decide)
    · exact h1
  rw [hval, Nat.mul_assoc, ← Nat.pow_add] at hv
  have hpos : 1 ≤ valN r := by
    have := valN_lt (show 0 < r by omega)
    rw [valN_zero] at this
    exact this
  have up : E - 1 + p < 2046 + q := by
    have a1 : 2 ^ (52 + (E - 1 + p)) ≤ (4503599627370496 + m) * 2 ^ (E - 1 + p) := by rw [Nat.pow_add, e52]; exact Nat.mul_le_mul_right _ (by omega)
    have a2 : valN r * 2 ^ q < 2 ^ (52 + (2046 + q)) := by
      have := Nat.mul_lt_mul_of_pos_right (valN_bound hr) (Nat.two_pow_pos q)
      rw [← Nat.pow_add, ← Nat.pow_add] at this
      rw [show 52 + (2046 + q) = 53 + 2045 + q by omega]
      exact this
    have := pow_lt_of (y := 0) a1 (by rw [hv]; exact a2)
    omega
  have low : q < 53 + (E - 1 + p) := by
    have a1 : 2 ^ q ≤ valN r * 2 ^ q := Nat.le_mul_of_pos_left _ hpos
    have a2 : (4503599627370496 + m) * 2 ^ (E - 1 + p) < 2 ^ (53 + (E - 1 + p)) := by rw [Nat.pow_add 2 53, e53]; exact Nat.mul_lt_mul_of_pos_right (by omega) (Nat.two_pow_pos _)
    exact pow_lt_of (y := 0) a1 (by rw [← hv]; exact a2)
  have hset : ∀ F : Nat, F < 2048 → setE (wordOf (sg x) (E * 4503599627370496 + m)) (F : Int) = wordOf (sg x) (F * 4503599627370496 + m) := by
    intro F hF
    unfold setE
    have h9 : ((F : Int) % (18446744073709551616 : Int) * (4503599627370496 : Int)) = ((F * 4503599627370496 : Nat) : Int) := by omega
    rw [h9, exp_word hword hF, e2, sg_wordOf (Nat.le_of_lt hn)]
  unfold ldexpW
  simp only [notZero hx h0, notInf hx, isNaN_num.2 hx.num, Bool.false_eq_true, if_false]
  rw [h.ne, h.nw, e1, if_neg (by omega), if_neg (by omega)]
  by_cases hsmall : k + 0 + ((E : Int) - 1023) < -1022
  · rw [if_pos hsmall]
    obtain ⟨F, hF⟩ : ∃ F : Nat, k + 0 + ((E : Int) - 1023) + 53 + 1023 = F := ⟨(k + 0 + ((E : Int) - 1023) + 53 + 1023).toNat, by omega⟩
    rw [hF, hset F (by omega)]
    have hrF : F * 4503599627370496 + m < 9218868437227405312 := lt_inf (by omega) hdig
    have hfit : Fit (wordOf (sg x) (F * 4503599627370496 + m)) := fit_word hrF
    have hc : Fit 4368491638549381120 := by decide
    have hvF := (valN_normal (E := F) (m := m) (by omega) hdig).1
    have f1 : sigM (rg 4368491638549381120) = 2 ^ 52 := by decide
    have f2 : sigK (rg 4368491638549381120) = 969 := by decide
    have f : valN (rg 4368491638549381120) = 2 ^ 1021 := by unfold valN; rw [f1, f2, ← Nat.pow_add]
    have hz := mul_pow_eq (a' := F - 1 + 1021) (b' := 1074) hv (by omega)
    rw [fmul_exact hc hfit (Nat.le_of_lt hr), show sg 4368491638549381120 = false by decide, sg_wordOf (Nat.le_of_lt hrF), Bool.false_xor]
    rw [rg_wordOf (Nat.le_of_lt hrF), hvF, f]
    unfold U
    rw [← hz, Nat.pow_add]
    ac_rfl
  · rw [if_neg hsmall]
    obtain ⟨F, hF⟩ : ∃ F : Nat, k + 0 + ((E : Int) - 1023) + 1023 = F := ⟨(k + 0 + ((E : Int) - 1023) + 1023).toNat, by omega⟩
    rw [hF, hset F (by omega)]
    have hrF : F * 4503599627370496 + m < 9218868437227405312 := lt_inf (by omega) hdig
    have hfit : Fit (wordOf (sg x) (F * 4503599627370496 + m)) := fit_word hrF
    have hone : Fit 4607182418800017408 := by decide
    have hvF := (valN_normal (E := F) (m := m) (by omega) hdig).1
    have hz := mul_pow_eq (a' := F - 1) (b' := 0) hv (by omega)
    rw [Nat.pow_zero, Nat.mul_one] at hz
    have hreq : F * 4503599627370496 + m = r := valN_inj.1 (by rw [hvF, hz])
    rw [fmul_exact hone hfit (Nat.le_of_lt hr), show sg 4607182418800017408 = false by decide, sg_wordOf (Nat.le_of_lt hrF), Bool.false_xor]
    rw [rg_wordOf (Nat.le_of_lt hrF), hreq, show rg 4607182418800017408 = oneR by decide, valN_one, Nat.mul_comm]

theorem dig_get (n : Nat) : ∀ j, (dig n).getD j 0 = ((n / 4294967296 ^ j % 4294967296 : Nat) : Int) := by
  intro j
  induction j generalizing n with
  | zero => rw [Nat.pow_zero, Nat.div_one]; exact dig_first n
  | succ j ih =>
    by_cases h : n = 0
    · subst h; rw [dig_zero, Nat.zero_div]; rfl
    · rw [dig_pos h, List.getD_cons_succ, ih, Nat.div_div_eq_div_mul, ← Nat.pow_succ']

/-- the float of a small natural, word by word -/
theorem near_loop (a : List Int) (ta : Bool) (e : Int) (n : Nat) (hn : n < 9007199254740992) (ha : Bn.norm a = dig n) : ∀ i s : Nat, i ≤ (dig n).length → s < 9218868437227405312 → valN s = n / 4294967296 ^ i * U →
    ∃ s', s' < 9218868437227405312 ∧ valN s' = n * U ∧ LoopTo Try.prog (loopAt Try.f88 0) (nearFS0 a ta e (wordOf false s) ((i : Int) - 1)) (.exit 0) (nearFX0 a ta e (wordOf false s')) := by
  intro i
  induction i with
  | zero =>
    intro s hi hs hv
    rw [Nat.pow_zero, Nat.div_one] at hv
    exact ⟨s, hs, hv, LoopTo.done (by intro h; cases h) (nearFL0_2 a ta e (wordOf false s) _ ⟨decide_eq_false (by omega), trivial⟩)⟩
  | succ i ih =>
    intro s hi hs hv
    have hl := dig_small_len hn
    have ei : ((i + 1 : Nat) : Int) - 1 = (i : Int) := by omega
    rw [ei]
    have hdv : n / 4294967296 ^ i = n / 4294967296 ^ (i + 1) * 4294967296 + n / 4294967296 ^ i % 4294967296 := by
      rw [Nat.pow_succ, ← Nat.div_div_eq_div_mul]; omega
    have hle : n / 4294967296 ^ i ≤ n := Nat.div_le_self _ _
    generalize hQ : n / 4294967296 ^ (i + 1) = Q at *
    generalize hD : n / 4294967296 ^ i % 4294967296 = D at *
    have hDlt : D < 4294967296 := by rw [← hD]; exact Nat.mod_lt _ (by decide)
    -- the product
    obtain ⟨t, t1, t2⟩ := whole_rep (n := Q * 4294967296) (lt53 (by omega))
    have hmul : fmul (wordOf false s) 4751297606875873280 = wordOf false t := by
      have hc : (4751297606875873280 : Nat) = c32 := rfl
      rw [hc, fmul_exact (fit_word hs) fit_c32 (Nat.le_of_lt t1), sg_wordOf (Nat.le_of_lt hs), show sg c32 = false by decide]
      · rfl
      · rw [rg_wordOf (Nat.le_of_lt hs), hv, valN_c32, t2]; ac_rfl
    obtain ⟨d, d1, d2, d3⟩ := fofI_word (n := (D : Int)) (by omega)
    rw [decide_eq_false (show ¬ (D : Int) < 0 by omega), Int.natAbs_natCast] at *
    obtain ⟨u, u1, u2⟩ := whole_rep (n := Q * 4294967296 + D) (lt53 (by omega))
    have hadd : fadd (wordOf false t) (wordOf false d) = wordOf false u := by
      rw [fadd_V (fit_word t1) (fit_word d1), V_wordOf (Nat.le_of_lt t1), V_wordOf (Nat.le_of_lt d1), sv_pos, sv_pos, sg_wordOf (Nat.le_of_lt t1), Bool.false_and]
      have hs' : valN t + valN d = valN u := by rw [t2, d2, u2, Nat.add_mul]
      have e1 : ((valN t : Int) + (valN d : Int)).natAbs = valN u := by omega
      have e2 : ¬ ((valN t : Int) + (valN d : Int) < 0) := by omega
      rw [e1, rd_val (Nat.le_of_lt u1), decide_eq_false e2]
      simp
    have hstep := nearFL0_1 a ta e (wordOf false s) i ⟨decide_eq_true (by omega), by rw [ha]; omega, by simp only [inR]; omega, trivial⟩
    rw [ha, Int.toNat_natCast, dig_get, hD, hmul, d3, hadd, ← ha] at hstep
    obtain ⟨s', a1, a2, a3⟩ := ih u (by omega) u1 (by rw [u2, ← hdv])
    exact ⟨s', a1, a2, LoopTo.step hstep a3⟩

theorem near_begin {P : Program} {c : Code} {a : List Int} {ta : Bool} {k : Int} {x0 : Int} {r : Nat} {e : Exit} {A' : AS} (h : LoopTo P c (nearFS0 a ta k r x0) e A') :
    LoopTo P c { n := 113, fr := [(1, AV.v (.int .i64 k)), (7, AV.v (.float FloatKind.f64 r)), (8, AV.sl 1 (.ints .u32 (Bn.norm a)) false), (9, AV.v (.int .i64 x0))], hp := [], nx := 0 } e A' := by
  refine loop_closer (fun t x' ht => ?_) h
  rw [look_cons, look_cons, look_cons, look_cons] at ht ⊢
  by_cases h0 : 1 = t
  · rw [if_pos h0] at ht ⊢; cases ht; exact ⟨_, rfl, .same _⟩
  rw [if_neg h0] at ht ⊢
  by_cases h1 : 7 = t
  · rw [if_pos h1] at ht ⊢; cases ht; exact ⟨_, rfl, .fl _⟩
  rw [if_neg h1] at ht ⊢
  by_cases h5 : 8 = t
  · rw [if_pos h5] at ht ⊢; cases ht; exact ⟨_, rfl, .same _⟩
  rw [if_neg h5] at ht ⊢
  by_cases h6 : 9 = t
  · rw [if_pos h6] at ht ⊢; cases ht; exact ⟨_, rfl, .same _⟩
  rw [if_neg h6] at ht
  cases ht

/-- NEAR, where it is exact -/
theorem near_exact {n : Nat} (hn : n < 9007199254740992) (ta : Bool) {e : Int} (he : -1074 ≤ e) (he2 : e ≤ 100000) {r : Nat} (hr : r < 9218868437227405312) (hv : valN r = n * 2 ^ (e + 1074).toNat) :
    PureTo Try.prog 88 [.sl 1 (.ints .u32 (dig n)) ta, .v (.int .i64 e)] (.v (.float .f64 (wordOf false r))) := by
  have hw := words_dig n
  have hnorm : Bn.norm (dig n) = dig n := by rw [norm_eq hw, nat_dig]
  have hl := dig_small_len hn
  have hlim : (dig n).length ≤ lim4 := by unfold lim4; omega
  have f1 := nearFF1 (dig n) ta e 0
  have f3 := nearFF3 (dig n) ta e
  have f21 := nearFF21 (dig n) ta e
  rw [nat_dig] at f1
  simp only [nat_dig] at f3 f21
  by_cases h0 : n = 0
  · have hr0 : r = 0 := by
      rw [h0, Nat.zero_mul, ← valN_zero] at hv
      exact valN_inj.1 hv
    rw [hr0]
    exact f1 ⟨hw, hlim, by rw [h0]; rfl, trivial⟩
  · have hbl0 : bl n ≠ 0 := fun h => h0 (bl_zero.1 h)
    have hblle : bl n ≤ 53 := (bl_le n 53).2 (lt53 hn)
    have hnlow : 2 ^ (bl n - 1) ≤ n := by
      rcases Nat.lt_or_ge n (2 ^ (bl n - 1)) with h | h
      · have := (bl_le n (bl n - 1)).2 h; omega
      · exact h
    have hsum : (bl n : Int) + e ≤ 1024 := by
      have a1 : 2 ^ (bl n - 1 + (e + 1074).toNat) ≤ valN r := by rw [hv, Nat.pow_add]; exact Nat.mul_le_mul_right _ hnlow
      have a2 := valN_bound hr
      rw [← Nat.pow_add] at a2
      have := pow_lt_of (y := 0) a1 a2
      omega
    -- the float of n
    obtain ⟨s', s1, s2, s3⟩ := near_loop (dig n) ta e n hn hnorm (dig n).length 0 (Nat.le_refl _) (by decide) (by
      have : n / 4294967296 ^ (dig n).length = 0 := by
        have h1 := nat_lt hw
        rw [nat_dig] at h1
        exact Nat.div_eq_of_lt h1
      rw [this, Nat.zero_mul]; rfl)
    have hloop := near_begin s3
    have hxw : FWord (wordOf false s') := word_wordOf (Nat.le_of_lt s1)
    have hxf : Fit (wordOf false s') := fit_word s1
    have hx0 : rg (wordOf false s') ≠ 0 := by
      rw [rg_wordOf (Nat.le_of_lt s1)]
      intro h
      rw [h, valN_zero] at s2
      have := Nat.mul_pos (show 0 < n by omega) U_pos
      omega
    have hxbig : ¬ rg (wordOf false s') < 4503599627370496 := by
      rw [rg_wordOf (Nat.le_of_lt s1)]
      have : valN oneR ≤ valN s' := by rw [valN_one, s2]; exact Nat.le_mul_of_pos_left _ (by omega)
      have := valN_le_iff.1 this
      unfold oneR at this
      omega
    obtain ⟨E, m, c, hN⟩ := norm_of hxw hxf hx0
    have hc0 : c = 0 := by rw [← hN.ne, normE_eq hxf.num, if_neg hxbig]
    subst hc0
    have hr0 : r ≠ 0 := by
      intro h
      rw [h, valN_zero] at hv
      have := Nat.mul_pos (show 0 < n by omega) (Nat.two_pow_pos (e + 1074).toNat)
      omega
    have hld : ldexpW (wordOf false s') e = wordOf false r := by
      have := ldexp_I hxf hx0 hN e (e + 1074).toNat 1074 r (by omega) hr hr0 (by
        rw [rg_wordOf (Nat.le_of_lt s1), s2, hv]
        unfold U
        ac_rfl)
      rw [sg_wordOf (Nat.le_of_lt s1)] at this
      exact this
    have hb1 : (((bl n : Nat) : Int) == 0) = false := by rw [beq_eq_false_iff_ne]; omega
    have i1 : inR IntKind.i64 ((bl n : Int) + e) := by simp only [inR]; omega
    have i2 : inR IntKind.i64 ((bl n : Int) - 53) := by simp only [inR]; omega
    have i3 : inR IntKind.i64 ((bl n : Int) - 53 + e) := by simp only [inR]; omega
    have i4 : inR IntKind.i64 (((Bn.norm (dig n)).length : Int) - 1) := by rw [hnorm]; simp only [inR]; omega
    have hlen : ((Bn.norm (dig n)).length : Int) - 1 = ((dig n).length : Int) - 1 := by rw [hnorm]
    have hz0 : wordOf false 0 = 0 := rfl
    rw [hz0] at hloop
    have hfin : ∀ {f : FuncId} {ys : List AV}, PureTo Try.prog f ys (.fl .f64 (wordOf false r)) → PureTo Try.prog f ys (.v (.float .f64 (wordOf false r))) := fun h => h.ans (.num _ (num_iff.1 (num_word (Nat.le_of_lt hr))))
    have hnn : ¬ nanB .f64 (wordOf false s') := num_iff.1 hxf.num
    by_cases hcut : (bl n : Int) - 53 + e < -1074
    · have := f3 (wordOf false s') ⟨hw, hlim, hb1, i1, decide_eq_false (by omega), i2, i3, decide_eq_true hcut, by simp only [inR]; omega, decide_eq_true (by omega), hlim, i4, by rw [hlen]; exact hloop, hxw, by omega, by omega, hnn, trivial⟩
      rw [hld] at this
      exact hfin this
    · have := f21 (wordOf false s') ⟨hw, hlim, hb1, i1, decide_eq_false (by omega), i2, i3, decide_eq_false hcut, decide_eq_true (by omega), hlim, i4, by rw [hlen]; exact hloop, hxw, by omega, by omega, hnn, trivial⟩
      rw [hld] at this
      exact hfin this
end Go.Proofs.Nu

/- Numbers: the table with Near. -/
set_option maxRecDepth 100000
set_option exponentiation.threshold 2200
namespace Go.Proofs.Nu
open Go Go.Ev
def nearW (n : Nat) (e : Int) : Nat := wordOf false (rungOf n e)
def NearOK (n : Nat) (e : Int) : Prop := n < 9007199254740992 ∧ -1074 ≤ e ∧ e ≤ 100000 ∧ ∃ r, r < 9218868437227405312 ∧ valN r = n * 2 ^ (e + 1074).toNat
def sigNear : List AV → Option (AV × List Prop)
  | [.sl 1 (.ints .u32 a) _, .v (.int .i64 e)] => some (.v (.float .f64 (nearW (Bn.nat a) e)), [a = Bn.dig (Bn.nat a), NearOK (Bn.nat a) e])
  | _ => none
theorem sigNear_ok : ∀ ys r c, sigNear ys = some (r, c) → AllP c → PureTo Try.prog 88 ys r := by
  intro ys r c hs hc
  unfold sigNear at hs
  split at hs
  · next a t e =>
    cases hs
    obtain ⟨h1, ⟨h2, h3, h4, r, h5, h6⟩, _⟩ := hc
    have := near_exact h2 t h3 h4 h5 h6
    rw [← h1] at this
    have hr : nearW (Bn.nat a) e = wordOf false r := by
      unfold nearW
      rw [rung_exact (a := (e + 1074).toNat) (b := 0) (Nat.le_of_lt h5) (by omega) (by rw [h6, Nat.pow_zero, Nat.mul_one])]
    rw [hr]
    exact this
  · cases hs
def SMB : SGT := (88, .p sigNear) :: SMA
theorem soMB : SigsOK Try.prog SMB := sigs_cons soMA sigNear_ok
end Go.Proofs.Nu

/- Numbers: walks, written by the tool. -/
set_option maxRecDepth 100000
namespace Go.Proofs.Nu
open Go Go.Ev

-- 7 paths
theorem rrest1 (x y : Nat) (h : AllP [fin x = true, isNaN y = true]) : PureTo Try.prog 58 [.v (.float .f64 x), .v (.float .f64 y)] (AV.v (.float FloatKind.f64 9221120237041090560)) :=
  evFn_pure hm soMB (fn := Try.f58) rfl rfl (ti := false) (hs := [CHint.ops 1 [(1, Hint.b true), (5, Hint.b true)]]) (c := _) (by kernel_rfl) h
theorem rrest2 (x y : Nat) (h : AllP [fin x = true, isNaN y = false, feq FloatKind.f64 y 0 = true]) : PureTo Try.prog 58 [.v (.float .f64 x), .v (.float .f64 y)] (AV.v (.float FloatKind.f64 9221120237041090560)) :=
  evFn_pure hm soMB (fn := Try.f58) rfl rfl (ti := false) (hs := [CHint.ops 1 [(1, Hint.b true), (5, Hint.b false), (9, Hint.b true)]]) (c := _) (by kernel_rfl) h
theorem rrest3 (x y : Nat) (h : AllP [fin x = true, isNaN y = false, feq FloatKind.f64 y 0 = false, isInf y (0 : Int) = true]) : PureTo Try.prog 58 [.v (.float .f64 x), .v (.float .f64 y)] (AV.v (.float FloatKind.f64 x)) :=
  evFn_pure hm soMB (fn := Try.f58) rfl rfl (ti := false) (hs := [CHint.ops 1 [(1, Hint.b true), (5, Hint.b false), (9, Hint.b false)], CHint.ops 3 [(1, Hint.b true)]]) (c := _) (by kernel_rfl) h
theorem rrest4 (x y : Nat) (h : AllP [fin x = true, isNaN y = false, feq FloatKind.f64 y 0 = false, isInf y (0 : Int) = false, feq FloatKind.f64 x 0 = true]) : PureTo Try.prog 58 [.v (.float .f64 x), .v (.float .f64 y)] (AV.v (.float FloatKind.f64 x)) :=
  evFn_pure hm soMB (fn := Try.f58) rfl rfl (ti := false) (hs := [CHint.ops 1 [(1, Hint.b true), (5, Hint.b false), (9, Hint.b false)], CHint.ops 3 [(1, Hint.b false), (4, Hint.b true)]]) (c := _) (by kernel_rfl) h
theorem rrest5 (x y : Nat) (h : AllP [fin x = true, isNaN y = false, feq FloatKind.f64 y 0 = false, isInf y (0 : Int) = false, feq FloatKind.f64 x 0 = false, FWord (abs x), Fit (abs x), sg (abs x) = false, FWord (abs y), Fit (abs y), sg (abs y) = false, decide (pe (abs y) < pe (abs x)) = true, inR IntKind.i64 (pe (abs x) - pe (abs y)), Bn.Words (Bn.dig (pm (abs x))), (0 : Int) ≤ pe (abs x) - pe (abs y), pe (abs x) - pe (abs y) + (↑(Bn.dig (pm (abs x))).length : Int) + (2 : Int) ≤ (1000000000000 : Int), inR IntKind.i64 (pe (abs y) - pe (abs y)), Bn.Words (Bn.dig (pm (abs y))), (0 : Int) ≤ pe (abs y) - pe (abs y), pe (abs y) - pe (abs y) + (↑(Bn.dig (pm (abs y))).length : Int) + (2 : Int) ≤ (1000000000000 : Int), Bn.Words (Bn.dig (Bn.nat (Bn.dig (pm (abs x))) * 2 ^ (pe (abs x) - pe (abs y)).toNat)), Bn.dig (Bn.nat (Bn.dig (pm (abs y))) * 2 ^ (pe (abs y) - pe (abs y)).toNat) = Bn.dig (Bn.nat (Bn.dig (Bn.nat (Bn.dig (pm (abs y))) * 2 ^ (pe (abs y) - pe (abs y)).toNat))), 0 < Bn.nat (Bn.dig (Bn.nat (Bn.dig (pm (abs y))) * 2 ^ (pe (abs y) - pe (abs y)).toNat)), (Bn.dig (Bn.nat (Bn.dig (pm (abs x))) * 2 ^ (pe (abs x) - pe (abs y)).toNat)).length ≤ 2000, (Bn.dig (Bn.nat (Bn.dig (pm (abs y))) * 2 ^ (pe (abs y) - pe (abs y)).toNat)).length ≤ 2000, Bn.dig (Bn.nat (Bn.dig (Bn.nat (Bn.dig (pm (abs x))) * 2 ^ (pe (abs x) - pe (abs y)).toNat)) % Bn.nat (Bn.dig (Bn.nat (Bn.dig (pm (abs y))) * 2 ^ (pe (abs y) - pe (abs y)).toNat))) = Bn.dig (Bn.nat (Bn.dig (Bn.nat (Bn.dig (Bn.nat (Bn.dig (pm (abs x))) * 2 ^ (pe (abs x) - pe (abs y)).toNat)) % Bn.nat (Bn.dig (Bn.nat (Bn.dig (pm (abs y))) * 2 ^ (pe (abs y) - pe (abs y)).toNat))))), NearOK (Bn.nat (Bn.dig (Bn.nat (Bn.dig (Bn.nat (Bn.dig (pm (abs x))) * 2 ^ (pe (abs x) - pe (abs y)).toNat)) % Bn.nat (Bn.dig (Bn.nat (Bn.dig (pm (abs y))) * 2 ^ (pe (abs y) - pe (abs y)).toNat))))) (pe (abs y))]) : PureTo Try.prog 58 [.v (.float .f64 x), .v (.float .f64 y)] (AV.v (.float FloatKind.f64 (cs (nearW (Bn.nat (Bn.dig (Bn.nat (Bn.dig (Bn.nat (Bn.dig (pm (abs x))) * 2 ^ (pe (abs x) - pe (abs y)).toNat)) % Bn.nat (Bn.dig (Bn.nat (Bn.dig (pm (abs y))) * 2 ^ (pe (abs y) - pe (abs y)).toNat))))) (pe (abs y))) x))) :=
  evFn_pure hm soMB (fn := Try.f58) rfl rfl (ti := false) (hs := [CHint.ops 1 [(1, Hint.b true), (5, Hint.b false), (9, Hint.b false)], CHint.ops 3 [(1, Hint.b false), (4, Hint.b false)], CHint.ops 8 [(2, Hint.b true)]]) (c := _) (by kernel_rfl) h
theorem rrest6 (x y : Nat) (h : AllP [fin x = true, isNaN y = false, feq FloatKind.f64 y 0 = false, isInf y (0 : Int) = false, feq FloatKind.f64 x 0 = false, FWord (abs x), Fit (abs x), sg (abs x) = false, FWord (abs y), Fit (abs y), sg (abs y) = false, decide (pe (abs y) < pe (abs x)) = false, inR IntKind.i64 (pe (abs x) - pe (abs x)), Bn.Words (Bn.dig (pm (abs x))), (0 : Int) ≤ pe (abs x) - pe (abs x), pe (abs x) - pe (abs x) + (↑(Bn.dig (pm (abs x))).length : Int) + (2 : Int) ≤ (1000000000000 : Int), inR IntKind.i64 (pe (abs y) - pe (abs x)), Bn.Words (Bn.dig (pm (abs y))), (0 : Int) ≤ pe (abs y) - pe (abs x), pe (abs y) - pe (abs x) + (↑(Bn.dig (pm (abs y))).length : Int) + (2 : Int) ≤ (1000000000000 : Int), Bn.Words (Bn.dig (Bn.nat (Bn.dig (pm (abs x))) * 2 ^ (pe (abs x) - pe (abs x)).toNat)), Bn.dig (Bn.nat (Bn.dig (pm (abs y))) * 2 ^ (pe (abs y) - pe (abs x)).toNat) = Bn.dig (Bn.nat (Bn.dig (Bn.nat (Bn.dig (pm (abs y))) * 2 ^ (pe (abs y) - pe (abs x)).toNat))), 0 < Bn.nat (Bn.dig (Bn.nat (Bn.dig (pm (abs y))) * 2 ^ (pe (abs y) - pe (abs x)).toNat)), (Bn.dig (Bn.nat (Bn.dig (pm (abs x))) * 2 ^ (pe (abs x) - pe (abs x)).toNat)).length ≤ 2000, (Bn.dig (Bn.nat (Bn.dig (pm (abs y))) * 2 ^ (pe (abs y) - pe (abs x)).toNat)).length ≤ 2000, Bn.dig (Bn.nat (Bn.dig (Bn.nat (Bn.dig (pm (abs x))) * 2 ^ (pe (abs x) - pe (abs x)).toNat)) % Bn.nat (Bn.dig (Bn.nat (Bn.dig (pm (abs y))) * 2 ^ (pe (abs y) - pe (abs x)).toNat))) = Bn.dig (Bn.nat (Bn.dig (Bn.nat (Bn.dig (Bn.nat (Bn.dig (pm (abs x))) * 2 ^ (pe (abs x) - pe (abs x)).toNat)) % Bn.nat (Bn.dig (Bn.nat (Bn.dig (pm (abs y))) * 2 ^ (pe (abs y) - pe (abs x)).toNat))))), NearOK (Bn.nat (Bn.dig (Bn.nat (Bn.dig (Bn.nat (Bn.dig (pm (abs x))) * 2 ^ (pe (abs x) - pe (abs x)).toNat)) % Bn.nat (Bn.dig (Bn.nat (Bn.dig (pm (abs y))) * 2 ^ (pe (abs y) - pe (abs x)).toNat))))) (pe (abs x))]) : PureTo Try.prog 58 [.v (.float .f64 x), .v (.float .f64 y)] (AV.v (.float FloatKind.f64 (cs (nearW (Bn.nat (Bn.dig (Bn.nat (Bn.dig (Bn.nat (Bn.dig (pm (abs x))) * 2 ^ (pe (abs x) - pe (abs x)).toNat)) % Bn.nat (Bn.dig (Bn.nat (Bn.dig (pm (abs y))) * 2 ^ (pe (abs y) - pe (abs x)).toNat))))) (pe (abs x))) x))) :=
  evFn_pure hm soMB (fn := Try.f58) rfl rfl (ti := false) (hs := [CHint.ops 1 [(1, Hint.b true), (5, Hint.b false), (9, Hint.b false)], CHint.ops 3 [(1, Hint.b false), (4, Hint.b false)], CHint.ops 8 [(2, Hint.b false)]]) (c := _) (by kernel_rfl) h
theorem rrest7 (x y : Nat) (h : AllP [fin x = false]) : PureTo Try.prog 58 [.v (.float .f64 x), .v (.float .f64 y)] (AV.v (.float FloatKind.f64 9221120237041090560)) :=
  evFn_pure hm soMB (fn := Try.f58) rfl rfl (ti := false) (hs := [CHint.ops 1 [(1, Hint.b false)]]) (c := _) (by kernel_rfl) h
end Go.Proofs.Nu

/- Numbers: the reference's Rest is what % leaves. -/
set_option maxRecDepth 100000
set_option exponentiation.threshold 100000
namespace Go.Proofs.Nu
open Go Go.Ev Bn

theorem dig_pow_len {A k : Nat} (hA : A < 9007199254740992) (hk : k ≤ 10000) : (dig (A * 2 ^ k)).length ≤ 2000 := by
  rcases Nat.lt_or_ge 2000 (dig (A * 2 ^ k)).length with h | h
  · exfalso
    rw [dig_len] at h
    have a1 : 2 ^ 64000 ≤ A * 2 ^ k := by
      refine Nat.le_trans (Nat.le_of_eq ?_) h
      rw [show (4294967296 : Nat) = 2 ^ 32 from rfl, ← Nat.pow_mul]
    have a2 : A * 2 ^ k < 2 ^ (53 + k) := by rw [Nat.pow_add]; exact Nat.mul_lt_mul_of_pos_right (lt53 hA) (Nat.two_pow_pos _)
    have := pow_lt_of (y := 0) a1 a2
    omega
  · exact h

theorem mod_exact {x y : Nat} (hx : Fit x) (hy : Fit y) (hy0 : rg y ≠ 0) : ∃ s, s < 9218868437227405312 ∧ valN s = valN (rg x) % valN (rg y) := by
  obtain ⟨s', a1, a2, _⟩ := mod_loop (x := x) hy hy0 (valN (rg x)) (rg x) rfl hx
  exact ⟨s', a1, a2⟩

theorem mod_scale {A B n m p q k : Nat} (hx : A * 2 ^ p = n) (hy : B * 2 ^ q = m) (hpq : p = q + k) : n % m = A * 2 ^ k % B * 2 ^ q := by
  subst hpq
  rw [← hx, ← hy, Nat.add_comm, Nat.pow_add, ← Nat.mul_assoc, Nat.mul_mod_mul_right]
theorem mod_scale2 {A B n m p q k : Nat} (hx : A * 2 ^ p = n) (hy : B * 2 ^ q = m) (hpq : q = p + k) : n % m = A % (B * 2 ^ k) * 2 ^ p := by
  subst hpq
  rw [← hx, ← hy, Nat.add_comm, Nat.pow_add, ← Nat.mul_assoc, Nat.mul_mod_mul_right]

theorem cs_near {x s n : Nat} {e : Int} (hs : s < 9218868437227405312) (he : 0 ≤ e + 1074) (h : valN s = n * 2 ^ (e + 1074).toNat) : cs (nearW n e) x = wordOf (sg x) s := by
  have : nearW n e = wordOf false s := by
    unfold nearW
    rw [rung_exact (a := (e + 1074).toNat) (b := 0) (Nat.le_of_lt hs) (by omega) (by rw [h, Nat.pow_zero, Nat.mul_one])]
  rw [cs_word, this, rg_wordOf (Nat.le_of_lt hs)]

theorem rrest_c {x y : Nat} (hxw : FWord x) (hyw : FWord y) : PureTo Try.prog 58 [.v (.float .f64 x), .v (.float .f64 y)] (.v (.float .f64 (toldW (modW x y)))) := by
  have hnan : ¬ Num modNaN := by unfold Num; decide
  by_cases hbad : ¬ Fit x ∨ ¬ Num y ∨ rg y = 0
  · have e : toldW (modW x y) = 9221120237041090560 := by unfold modW; rw [if_pos hbad, toldW_nan hnan]; rfl
    rw [e]
    cases h1 : fin x with
    | false => exact rrest7 x y ⟨h1, trivial⟩
    | true =>
      cases h2 : isNaN y with
      | true => exact rrest1 x y ⟨h1, h2, trivial⟩
      | false =>
        have n2 := isNaN_num.1 h2
        rcases hbad with h | h | h
        · exact (h (fin_iff.1 h1)).elim
        · exact (h n2).elim
        · exact rrest2 x y ⟨h1, h2, by rw [feq_V n2 fin_zero.num, V_null, decide_eq_true (V_zero.2 h)], trivial⟩
  · have hx : Fit x := Classical.not_not.1 fun h => hbad (.inl h)
    have hny : Num y := Classical.not_not.1 fun h => hbad (.inr (.inl h))
    have hy0 : rg y ≠ 0 := fun h => hbad (.inr (.inr h))
    have hmod : modW x y = modR x y := by unfold modW; rw [if_neg hbad]
    rw [hmod]
    have h1 := fin_iff.2 hx
    have h2 := isNaN_num.2 hny
    have h3 : feq .f64 y 0 = false := by rw [feq_V hny fin_zero.num, V_null, decide_eq_false]; rw [V_zero]; exact hy0
    by_cases hyi : rg y = 9218868437227405312
    · have e : toldW (modR x y) = x := by unfold modR; rw [if_pos hyi, toldW_num hx.num]
      rw [e]
      exact rrest3 x y ⟨h1, h2, h3, by rw [isInf_eq, decide_eq_true hyi], trivial⟩
    · have hy : Fit y := by unfold Fit; unfold Num at hny; omega
      have h4 := notInf hy
      obtain ⟨s, s1, s2⟩ := mod_exact hx hy hy0
      have e : toldW (modR x y) = wordOf (sg x) s := by
        unfold modR
        rw [if_neg hyi, ← s2, rd_val (Nat.le_of_lt s1), toldW_num (num_word (Nat.le_of_lt s1))]
      rw [e]
      by_cases hx0 : rg x = 0
      · have hs0 : s = 0 := by
          rw [hx0, valN_zero, Nat.zero_mod, ← valN_zero] at s2
          exact valN_inj.1 s2
        have ex : wordOf (sg x) s = x := by rw [hs0, ← hx0]; exact (wordOf_of hxw).symm
        rw [ex]
        exact rrest4 x y ⟨h1, h2, h3, h4, by rw [feq_V hx.num fin_zero.num, V_null, decide_eq_true (V_zero.2 hx0)], trivial⟩
      · have h5 := notZero hx hx0
        have hax : abs x = wordOf false (rg x) := abs_word x
        have hay : abs y = wordOf false (rg y) := abs_word y
        have xa : Fit (abs x) := by rw [hax]; exact fit_word hx
        have ya : Fit (abs y) := by rw [hay]; exact fit_word hy
        have xw : FWord (abs x) := by rw [hax]; exact word_wordOf (Nat.le_of_lt hx)
        have yw : FWord (abs y) := by rw [hay]; exact word_wordOf (Nat.le_of_lt hy)
        have xs : sg (abs x) = false := by rw [hax]; exact sg_wordOf (Nat.le_of_lt hx)
        have ys : sg (abs y) = false := by rw [hay]; exact sg_wordOf (Nat.le_of_lt hy)
        obtain ⟨p1, p2, p3, _⟩ := pm_val (abs x)
        obtain ⟨q1, q2, q3, _⟩ := pm_val (abs y)
        rw [rg_abs] at p2 q2
        have pe_hi : ∀ z, Fit z → pe (abs z) ≤ 1100 := by
          intro z hz
          unfold pe
          split
          · decide
          · have a1 := strip_le 53 (sigM (rg (abs z)))
            have a2 := sig_parts (rg (abs z))
            rw [rg_abs] at a1 a2 ⊢
            unfold Fit at hz
            omega
        have xe := pe_hi x hx
        have ye := pe_hi y hy
        have hBpos : 0 < pm (abs y) := by
          rcases Nat.eq_zero_or_pos (pm (abs y)) with h | h
          · rw [h, Nat.zero_mul] at q2
            have := valN_lt (show 0 < rg y by omega)
            rw [valN_zero] at this
            omega
          · exact h
        have r5 := rrest5 x y
        have r6 := rrest6 x y
        simp only [nat_dig] at r5 r6
        generalize pm (abs x) = A at *
        generalize pm (abs y) = B at *
        generalize pe (abs x) = e at *
        generalize pe (abs y) = f at *
        have hlA := dig_small_len p3
        have hlB := dig_small_len q3
        by_cases hfe : f < e
        · obtain ⟨k, hk⟩ : ∃ k : Nat, (e - f) = k := ⟨(e - f).toNat, by omega⟩
          have hkn : (e - f).toNat = k := by omega
          have hff : f - f = 0 := by omega
          have hz : (0 : Int).toNat = 0 := rfl
          rw [hkn, hk, hff, hz, Nat.pow_zero, Nat.mul_one] at r5
          have hR := mod_scale (k := k) p2 q2 (by omega)
          have hs := s2.trans hR
          rw [cs_near s1 q1 hs] at r5
          have hRlt : A * 2 ^ k % B < 9007199254740992 := Nat.lt_trans (Nat.mod_lt _ hBpos) q3
          exact r5 ⟨h1, h2, h3, h4, h5, xw, xa, xs, yw, ya, ys, decide_eq_true hfe, by simp only [inR]; omega, words_dig _, by omega, by omega, by simp only [inR]; omega, words_dig _, by omega, by omega, words_dig _, trivial, hBpos, dig_pow_len p3 (by omega), by omega, trivial, ⟨hRlt, by omega, by omega, s, s1, hs⟩, trivial⟩
        · obtain ⟨k, hk⟩ : ∃ k : Nat, (f - e) = k := ⟨(f - e).toNat, by omega⟩
          have hkn : (f - e).toNat = k := by omega
          have hff : e - e = 0 := by omega
          have hz : (0 : Int).toNat = 0 := rfl
          rw [hkn, hk, hff, hz, Nat.pow_zero, Nat.mul_one] at r6
          have hR := mod_scale2 (k := k) p2 q2 (by omega)
          have hs := s2.trans hR
          rw [cs_near s1 p1 hs] at r6
          have hRlt : A % (B * 2 ^ k) < 9007199254740992 := Nat.lt_of_le_of_lt (Nat.mod_le _ _) p3
          exact r6 ⟨h1, h2, h3, h4, h5, xw, xa, xs, yw, ya, ys, decide_eq_false hfe, by simp only [inR]; omega, words_dig _, by omega, by omega, by simp only [inR]; omega, words_dig _, by omega, by omega, words_dig _, trivial, Nat.mul_pos hBpos (Nat.two_pow_pos _), by omega, dig_pow_len q3 (by omega), trivial, ⟨hRlt, by omega, by omega, s, s1, hs⟩, trivial⟩
def SMC : SGT := (58, .p (sigWW fun x y => .v (.float .f64 (toldW (modW x y))))) :: (12, .p sigBin) :: SMB
theorem soMC : SigsOK Try.prog SMC := cons_WW (fun x y => .v (.float .f64 (toldW (modW x y)))) (sigs_cons soMB sigBin_ok) fun x y a b => rrest_c a b
end Go.Proofs.Nu

/- Numbers: walks, written by the tool. -/
set_option maxRecDepth 100000
namespace Go.Proofs.Nu
open Go Go.Ev

-- 12 paths
theorem rbin1 (s : ByteArray) (x y : Nat) (h : AllP [(s.toList == (ByteArray.mk #[(43 : UInt8)]).toList) = true]) : PureTo Try.prog 13 [.v (.string s), .v (.float .f64 x), .v (.float .f64 y)] (AV.tup [AV.v (.float FloatKind.f64 (toldW (fadd x y))), AV.v (.int .i64 (0 : Int))]) :=
  evFn_pure hm soMC (fn := Try.f13) rfl rfl (ti := false) (hs := [CHint.ops 2 [(0, Hint.b true)]]) (c := _) (by kernel_rfl) h
theorem rbin2 (s : ByteArray) (x y : Nat) (h : AllP [(s.toList == (ByteArray.mk #[(43 : UInt8)]).toList) = false, (s.toList == (ByteArray.mk #[(45 : UInt8)]).toList) = true]) : PureTo Try.prog 13 [.v (.string s), .v (.float .f64 x), .v (.float .f64 y)] (AV.tup [AV.v (.float FloatKind.f64 (toldW (fsub x y))), AV.v (.int .i64 (0 : Int))]) :=
  evFn_pure hm soMC (fn := Try.f13) rfl rfl (ti := false) (hs := [CHint.ops 2 [(0, Hint.b false)], CHint.ops 4 [(0, Hint.b true)]]) (c := _) (by kernel_rfl) h
theorem rbin3 (s : ByteArray) (x y : Nat) (h : AllP [(s.toList == (ByteArray.mk #[(43 : UInt8)]).toList) = false, (s.toList == (ByteArray.mk #[(45 : UInt8)]).toList) = false, (s.toList == (ByteArray.mk #[(42 : UInt8)]).toList) = true]) : PureTo Try.prog 13 [.v (.string s), .v (.float .f64 x), .v (.float .f64 y)] (AV.tup [AV.v (.float FloatKind.f64 (toldW (fmul x y))), AV.v (.int .i64 (0 : Int))]) :=
  evFn_pure hm soMC (fn := Try.f13) rfl rfl (ti := false) (hs := [CHint.ops 2 [(0, Hint.b false)], CHint.ops 4 [(0, Hint.b false)], CHint.ops 6 [(0, Hint.b true)]]) (c := _) (by kernel_rfl) h
theorem rbin4 (s : ByteArray) (x y : Nat) (h : AllP [(s.toList == (ByteArray.mk #[(43 : UInt8)]).toList) = false, (s.toList == (ByteArray.mk #[(45 : UInt8)]).toList) = false, (s.toList == (ByteArray.mk #[(42 : UInt8)]).toList) = false, (s.toList == (ByteArray.mk #[(47 : UInt8)]).toList) = true]) : PureTo Try.prog 13 [.v (.string s), .v (.float .f64 x), .v (.float .f64 y)] (AV.tup [AV.v (.float FloatKind.f64 (toldW (fdiv x y))), AV.v (.int .i64 (0 : Int))]) :=
  evFn_pure hm soMC (fn := Try.f13) rfl rfl (ti := false) (hs := [CHint.ops 2 [(0, Hint.b false)], CHint.ops 4 [(0, Hint.b false)], CHint.ops 6 [(0, Hint.b false)], CHint.ops 8 [(0, Hint.b true)]]) (c := _) (by kernel_rfl) h
theorem rbin5 (s : ByteArray) (x y : Nat) (h : AllP [(s.toList == (ByteArray.mk #[(43 : UInt8)]).toList) = false, (s.toList == (ByteArray.mk #[(45 : UInt8)]).toList) = false, (s.toList == (ByteArray.mk #[(42 : UInt8)]).toList) = false, (s.toList == (ByteArray.mk #[(47 : UInt8)]).toList) = false, (s.toList == (ByteArray.mk #[(37 : UInt8)]).toList) = true, FWord x, FWord y]) : PureTo Try.prog 13 [.v (.string s), .v (.float .f64 x), .v (.float .f64 y)] (AV.tup [AV.v (.float FloatKind.f64 (toldW (modW x y))), AV.v (.int .i64 (0 : Int))]) :=
  evFn_pure hm soMC (fn := Try.f13) rfl rfl (ti := false) (hs := [CHint.ops 2 [(0, Hint.b false)], CHint.ops 4 [(0, Hint.b false)], CHint.ops 6 [(0, Hint.b false)], CHint.ops 8 [(0, Hint.b false)], CHint.ops 10 [(0, Hint.b true)]]) (c := _) (by kernel_rfl) h
theorem rbin6 (s : ByteArray) (x y : Nat) (h : AllP [(s.toList == (ByteArray.mk #[(43 : UInt8)]).toList) = false, (s.toList == (ByteArray.mk #[(45 : UInt8)]).toList) = false, (s.toList == (ByteArray.mk #[(42 : UInt8)]).toList) = false, (s.toList == (ByteArray.mk #[(47 : UInt8)]).toList) = false, (s.toList == (ByteArray.mk #[(37 : UInt8)]).toList) = false, (s.toList == (ByteArray.mk #[(60 : UInt8), (60 : UInt8)]).toList) = true, FWord x, FWord y, (32 : Int) ≠ (0 : Int), (0 : Int) ≤ (u32N y).tmod (32 : Int)]) : PureTo Try.prog 13 [.v (.string s), .v (.float .f64 x), .v (.float .f64 y)] (AV.tup [AV.v (.float FloatKind.f64 (fofI (IntKind.i32.wrap (i32N x * (2 : Int) ^ min ((u32N y).tmod (32 : Int)).toNat 32)))), AV.v (.int .i64 (0 : Int))]) :=
  evFn_pure hm soMC (fn := Try.f13) rfl rfl (ti := false) (hs := [CHint.ops 2 [(0, Hint.b false)], CHint.ops 4 [(0, Hint.b false)], CHint.ops 6 [(0, Hint.b false)], CHint.ops 8 [(0, Hint.b false)], CHint.ops 10 [(0, Hint.b false)], CHint.ops 12 [(0, Hint.b true)], CHint.ops 13 [(5, Hint.wrap)]]) (c := _) (by kernel_rfl) h
theorem rbin7 (s : ByteArray) (x y : Nat) (h : AllP [(s.toList == (ByteArray.mk #[(43 : UInt8)]).toList) = false, (s.toList == (ByteArray.mk #[(45 : UInt8)]).toList) = false, (s.toList == (ByteArray.mk #[(42 : UInt8)]).toList) = false, (s.toList == (ByteArray.mk #[(47 : UInt8)]).toList) = false, (s.toList == (ByteArray.mk #[(37 : UInt8)]).toList) = false, (s.toList == (ByteArray.mk #[(60 : UInt8), (60 : UInt8)]).toList) = false, (s.toList == (ByteArray.mk #[(62 : UInt8), (62 : UInt8)]).toList) = true, FWord x, FWord y, (32 : Int) ≠ (0 : Int), (0 : Int) ≤ (u32N y).tmod (32 : Int)]) : PureTo Try.prog 13 [.v (.string s), .v (.float .f64 x), .v (.float .f64 y)] (AV.tup [AV.v (.float FloatKind.f64 (fofI (i32N x / (2 : Int) ^ min ((u32N y).tmod (32 : Int)).toNat 32))), AV.v (.int .i64 (0 : Int))]) :=
  evFn_pure hm soMC (fn := Try.f13) rfl rfl (ti := false) (hs := [CHint.ops 2 [(0, Hint.b false)], CHint.ops 4 [(0, Hint.b false)], CHint.ops 6 [(0, Hint.b false)], CHint.ops 8 [(0, Hint.b false)], CHint.ops 10 [(0, Hint.b false)], CHint.ops 12 [(0, Hint.b false)], CHint.ops 14 [(0, Hint.b true)]]) (c := _) (by kernel_rfl) h
theorem rbin8 (s : ByteArray) (x y : Nat) (h : AllP [(s.toList == (ByteArray.mk #[(43 : UInt8)]).toList) = false, (s.toList == (ByteArray.mk #[(45 : UInt8)]).toList) = false, (s.toList == (ByteArray.mk #[(42 : UInt8)]).toList) = false, (s.toList == (ByteArray.mk #[(47 : UInt8)]).toList) = false, (s.toList == (ByteArray.mk #[(37 : UInt8)]).toList) = false, (s.toList == (ByteArray.mk #[(60 : UInt8), (60 : UInt8)]).toList) = false, (s.toList == (ByteArray.mk #[(62 : UInt8), (62 : UInt8)]).toList) = false, (s.toList == (ByteArray.mk #[(62 : UInt8), (62 : UInt8), (62 : UInt8)]).toList) = true, FWord x, FWord y, (32 : Int) ≠ (0 : Int), (0 : Int) ≤ (u32N y).tmod (32 : Int)]) : PureTo Try.prog 13 [.v (.string s), .v (.float .f64 x), .v (.float .f64 y)] (AV.tup [AV.v (.float FloatKind.f64 (fofI (u32N x / (2 : Int) ^ min ((u32N y).tmod (32 : Int)).toNat 32))), AV.v (.int .i64 (0 : Int))]) :=
  evFn_pure hm soMC (fn := Try.f13) rfl rfl (ti := false) (hs := [CHint.ops 2 [(0, Hint.b false)], CHint.ops 4 [(0, Hint.b false)], CHint.ops 6 [(0, Hint.b false)], CHint.ops 8 [(0, Hint.b false)], CHint.ops 10 [(0, Hint.b false)], CHint.ops 12 [(0, Hint.b false)], CHint.ops 14 [(0, Hint.b false)], CHint.ops 16 [(0, Hint.b true)]]) (c := _) (by kernel_rfl) h
theorem rbin9 (s : ByteArray) (x y : Nat) (h : AllP [(s.toList == (ByteArray.mk #[(43 : UInt8)]).toList) = false, (s.toList == (ByteArray.mk #[(45 : UInt8)]).toList) = false, (s.toList == (ByteArray.mk #[(42 : UInt8)]).toList) = false, (s.toList == (ByteArray.mk #[(47 : UInt8)]).toList) = false, (s.toList == (ByteArray.mk #[(37 : UInt8)]).toList) = false, (s.toList == (ByteArray.mk #[(60 : UInt8), (60 : UInt8)]).toList) = false, (s.toList == (ByteArray.mk #[(62 : UInt8), (62 : UInt8)]).toList) = false, (s.toList == (ByteArray.mk #[(62 : UInt8), (62 : UInt8), (62 : UInt8)]).toList) = false, (s.toList == (ByteArray.mk #[(38 : UInt8)]).toList) = true, FWord x, FWord y]) : PureTo Try.prog 13 [.v (.string s), .v (.float .f64 x), .v (.float .f64 y)] (AV.tup [AV.v (.float FloatKind.f64 (fofI (bitsOf BinOp.and IntKind.i32 (i32N x) (i32N y)))), AV.v (.int .i64 (0 : Int))]) :=
  evFn_pure hm soMC (fn := Try.f13) rfl rfl (ti := false) (hs := [CHint.ops 2 [(0, Hint.b false)], CHint.ops 4 [(0, Hint.b false)], CHint.ops 6 [(0, Hint.b false)], CHint.ops 8 [(0, Hint.b false)], CHint.ops 10 [(0, Hint.b false)], CHint.ops 12 [(0, Hint.b false)], CHint.ops 14 [(0, Hint.b false)], CHint.ops 16 [(0, Hint.b false)], CHint.ops 18 [(0, Hint.b true)]]) (c := _) (by kernel_rfl) h
theorem rbin10 (s : ByteArray) (x y : Nat) (h : AllP [(s.toList == (ByteArray.mk #[(43 : UInt8)]).toList) = false, (s.toList == (ByteArray.mk #[(45 : UInt8)]).toList) = false, (s.toList == (ByteArray.mk #[(42 : UInt8)]).toList) = false, (s.toList == (ByteArray.mk #[(47 : UInt8)]).toList) = false, (s.toList == (ByteArray.mk #[(37 : UInt8)]).toList) = false, (s.toList == (ByteArray.mk #[(60 : UInt8), (60 : UInt8)]).toList) = false, (s.toList == (ByteArray.mk #[(62 : UInt8), (62 : UInt8)]).toList) = false, (s.toList == (ByteArray.mk #[(62 : UInt8), (62 : UInt8), (62 : UInt8)]).toList) = false, (s.toList == (ByteArray.mk #[(38 : UInt8)]).toList) = false, (s.toList == (ByteArray.mk #[(124 : UInt8)]).toList) = true, FWord x, FWord y]) : PureTo Try.prog 13 [.v (.string s), .v (.float .f64 x), .v (.float .f64 y)] (AV.tup [AV.v (.float FloatKind.f64 (fofI (bitsOf BinOp.or IntKind.i32 (i32N x) (i32N y)))), AV.v (.int .i64 (0 : Int))]) :=
  evFn_pure hm soMC (fn := Try.f13) rfl rfl (ti := false) (hs := [CHint.ops 2 [(0, Hint.b false)], CHint.ops 4 [(0, Hint.b false)], CHint.ops 6 [(0, Hint.b false)], CHint.ops 8 [(0, Hint.b false)], CHint.ops 10 [(0, Hint.b false)], CHint.ops 12 [(0, Hint.b false)], CHint.ops 14 [(0, Hint.b false)], CHint.ops 16 [(0, Hint.b false)], CHint.ops 18 [(0, Hint.b false)], CHint.ops 20 [(0, Hint.b true)]]) (c := _) (by kernel_rfl) h
theorem rbin11 (s : ByteArray) (x y : Nat) (h : AllP [(s.toList == (ByteArray.mk #[(43 : UInt8)]).toList) = false, (s.toList == (ByteArray.mk #[(45 : UInt8)]).toList) = false, (s.toList == (ByteArray.mk #[(42 : UInt8)]).toList) = false, (s.toList == (ByteArray.mk #[(47 : UInt8)]).toList) = false, (s.toList == (ByteArray.mk #[(37 : UInt8)]).toList) = false, (s.toList == (ByteArray.mk #[(60 : UInt8), (60 : UInt8)]).toList) = false, (s.toList == (ByteArray.mk #[(62 : UInt8), (62 : UInt8)]).toList) = false, (s.toList == (ByteArray.mk #[(62 : UInt8), (62 : UInt8), (62 : UInt8)]).toList) = false, (s.toList == (ByteArray.mk #[(38 : UInt8)]).toList) = false, (s.toList == (ByteArray.mk #[(124 : UInt8)]).toList) = false, (s.toList == (ByteArray.mk #[(94 : UInt8)]).toList) = true, FWord x, FWord y]) : PureTo Try.prog 13 [.v (.string s), .v (.float .f64 x), .v (.float .f64 y)] (AV.tup [AV.v (.float FloatKind.f64 (fofI (bitsOf BinOp.xor IntKind.i32 (i32N x) (i32N y)))), AV.v (.int .i64 (0 : Int))]) :=
  evFn_pure hm soMC (fn := Try.f13) rfl rfl (ti := false) (hs := [CHint.ops 2 [(0, Hint.b false)], CHint.ops 4 [(0, Hint.b false)], CHint.ops 6 [(0, Hint.b false)], CHint.ops 8 [(0, Hint.b false)], CHint.ops 10 [(0, Hint.b false)], CHint.ops 12 [(0, Hint.b false)], CHint.ops 14 [(0, Hint.b false)], CHint.ops 16 [(0, Hint.b false)], CHint.ops 18 [(0, Hint.b false)], CHint.ops 20 [(0, Hint.b false)], CHint.ops 22 [(0, Hint.b true)]]) (c := _) (by kernel_rfl) h
theorem rbin12 (s : ByteArray) (x y : Nat) (h : AllP [(s.toList == (ByteArray.mk #[(43 : UInt8)]).toList) = false, (s.toList == (ByteArray.mk #[(45 : UInt8)]).toList) = false, (s.toList == (ByteArray.mk #[(42 : UInt8)]).toList) = false, (s.toList == (ByteArray.mk #[(47 : UInt8)]).toList) = false, (s.toList == (ByteArray.mk #[(37 : UInt8)]).toList) = false, (s.toList == (ByteArray.mk #[(60 : UInt8), (60 : UInt8)]).toList) = false, (s.toList == (ByteArray.mk #[(62 : UInt8), (62 : UInt8)]).toList) = false, (s.toList == (ByteArray.mk #[(62 : UInt8), (62 : UInt8), (62 : UInt8)]).toList) = false, (s.toList == (ByteArray.mk #[(38 : UInt8)]).toList) = false, (s.toList == (ByteArray.mk #[(124 : UInt8)]).toList) = false, (s.toList == (ByteArray.mk #[(94 : UInt8)]).toList) = false]) : PureTo Try.prog 13 [.v (.string s), .v (.float .f64 x), .v (.float .f64 y)] (AV.tup [AV.v (.float FloatKind.f64 0), AV.v (.int .i64 (1 : Int))]) :=
  evFn_pure hm soMC (fn := Try.f13) rfl rfl (ti := false) (hs := [CHint.ops 2 [(0, Hint.b false)], CHint.ops 4 [(0, Hint.b false)], CHint.ops 6 [(0, Hint.b false)], CHint.ops 8 [(0, Hint.b false)], CHint.ops 10 [(0, Hint.b false)], CHint.ops 12 [(0, Hint.b false)], CHint.ops 14 [(0, Hint.b false)], CHint.ops 16 [(0, Hint.b false)], CHint.ops 18 [(0, Hint.b false)], CHint.ops 20 [(0, Hint.b false)], CHint.ops 22 [(0, Hint.b false)]]) (c := _) (by kernel_rfl) h
end Go.Proofs.Nu

/- Numbers: the reference's Binary is Binary. -/
set_option maxRecDepth 100000
namespace Go.Proofs.Nu
open Go Go.Ev

theorem bytes_loop (bs : ByteArray) : ∀ n i (r : List UInt8), bs.size - i = n → ByteArray.toList.loop bs i r = r.reverse ++ bs.data.toList.drop i := by
  intro n
  induction n with
  | zero =>
    intro i r h
    rw [ByteArray.toList.loop]
    have h1 : ¬ i < bs.size := by omega
    rw [if_neg h1]
    have h2 : bs.data.toList.length ≤ i := by
      show bs.data.toList.length ≤ i
      rw [Array.length_toList]
      have : bs.size = bs.data.size := rfl
      omega
    rw [List.drop_eq_nil_of_le h2, List.append_nil]
  | succ n ih =>
    intro i r h
    rw [ByteArray.toList.loop]
    have h1 : i < bs.size := by omega
    rw [if_pos h1, ih (i + 1) _ (by omega)]
    have h2 : i < bs.data.toList.length := by
      rw [Array.length_toList]
      exact h1
    rw [List.drop_eq_getElem_cons h2, List.reverse_cons, List.append_assoc]
    congr 1
    show [bs.get! i] ++ _ = _
    have h3 : i < bs.data.size := h1
    have : bs.get! i = bs.data.toList[i] := by
      show bs.data[i]! = _
      rw [getElem!_pos bs.data i h3, Array.getElem_toList]
    rw [this]
    rfl
theorem bytes_list (bs : ByteArray) : bs.toList = bs.data.toList := by
  show ByteArray.toList.loop bs 0 [] = _
  rw [bytes_loop bs _ 0 [] rfl]
  rfl
theorem bytes_ne {s t : ByteArray} (h : t ≠ s) : (s.toList == t.toList) = false := by
  rw [beq_eq_false_iff_ne]
  intro h2
  rw [bytes_list, bytes_list] at h2
  apply h
  cases s
  cases t
  simp only at h2
  congr 1
  exact (Array.toList_inj.1 h2).symm

theorem fofI_told {n : Int} (h : n.natAbs < 9007199254740992) : fofI n = toldW (fofI n) := (told_fofI h).symm

theorem shift_small (x y : Nat) : (shrI x y).natAbs < 9007199254740992 ∧ (shuI x y).natAbs < 9007199254740992 := by
  have h1 := u32N_range x
  have h2 : -2147483648 ≤ i32N x ∧ i32N x < 2147483648 := by unfold i32N; rw [IntKind.wrap_i32]; omega
  have hp : (1 : Int) ≤ (2 : Int) ^ min (shiftN y) 32 := by
    have : (2 : Int) ^ min (shiftN y) 32 = ((2 ^ min (shiftN y) 32 : Nat) : Int) := by rw [Int.natCast_pow]; rfl
    rw [this]
    have := Nat.two_pow_pos (min (shiftN y) 32)
    omega
  unfold shrI shuI
  generalize (2 : Int) ^ min (shiftN y) 32 = p at *
  have b1 : u32N x / p ≤ u32N x := Int.ediv_le_self _ h1.1
  have b2 : 0 ≤ u32N x / p := Int.ediv_nonneg h1.1 (by omega)
  refine ⟨?_, by omega⟩
  have c1 : i32N x / p < 2147483648 := by
    rcases Int.lt_or_le (i32N x) 0 with h | h
    · have := Int.ediv_neg_of_neg_of_pos h (show 0 < p by omega); omega
    · have := Int.ediv_le_self p h; omega
  have c2 : -2147483648 ≤ i32N x / p := by
    have a1 : -2147483648 * p ≤ -2147483648 * 1 := by omega
    refine (Int.le_ediv_iff_mul_le (by omega)).2 (Int.le_trans a1 (by omega))
  omega

theorem rbin_c {s : ByteArray} {x y : Nat} (hx : FWord x) (hy : FWord y) : PureTo Try.prog 13 [.v (.string s), .v (.float .f64 x), .v (.float .f64 y)] (.tup [.v (.float .f64 (binW s x y)), .v (.int .i64 (binE s))]) := by
  by_cases h : ∀ k, k ∈ opNames → k ≠ s
  · have e := opIx_none h
    unfold binW binE
    rw [e]
    have hh : ∀ k, k ∈ opNames → (s.toList == k.toList) = false := fun k hk => bytes_ne (h k hk)
    unfold opNames at hh
    exact rbin12 s x y ⟨hh _ (by simp), hh _ (by simp), hh _ (by simp), hh _ (by simp), hh _ (by simp), hh _ (by simp), hh _ (by simp), hh _ (by simp), hh _ (by simp), hh _ (by simp), hh _ (by simp), trivial⟩
  · have hs : s ∈ opNames := Classical.not_not.1 fun hn => h fun k hk hks => hn (hks ▸ hk)
    clear h
    unfold opNames at hs
    simp only [List.mem_cons, List.not_mem_nil, or_false] at hs
    have h32 : (32 : Int) ≠ 0 := by decide
    have hsh := shift_nonneg y
    have ss := shift_small x y
    have wk : ∀ n : Int, (IntKind.i32.wrap n).natAbs < 9007199254740992 := fun n => wrap_small .i32 n rfl
    rcases hs with rfl | rfl | rfl | rfl | rfl | rfl | rfl | rfl | rfl | rfl | rfl
    · exact rbin1 _ x y ⟨by decide +kernel, trivial⟩
    · exact rbin2 _ x y ⟨by decide +kernel, by decide +kernel, trivial⟩
    · exact rbin3 _ x y ⟨by decide +kernel, by decide +kernel, by decide +kernel, trivial⟩
    · exact rbin4 _ x y ⟨by decide +kernel, by decide +kernel, by decide +kernel, by decide +kernel, trivial⟩
    · exact rbin5 _ x y ⟨by decide +kernel, by decide +kernel, by decide +kernel, by decide +kernel, by decide +kernel, hx, hy, trivial⟩
    · have := rbin6 (ByteArray.mk #[60, 60]) x y ⟨by decide +kernel, by decide +kernel, by decide +kernel, by decide +kernel, by decide +kernel, by decide +kernel, hx, hy, h32, hsh, trivial⟩
      have e : fofI (shlI x y) = toldW (fofI (shlI x y)) := fofI_told (wk _)
      show PureTo _ _ _ (.tup [.v (.float .f64 (toldW (fofI (shlI x y)))), _])
      rw [← e]
      exact this
    · have := rbin7 (ByteArray.mk #[62, 62]) x y ⟨by decide +kernel, by decide +kernel, by decide +kernel, by decide +kernel, by decide +kernel, by decide +kernel, by decide +kernel, hx, hy, h32, hsh, trivial⟩
      have e : fofI (shrI x y) = toldW (fofI (shrI x y)) := fofI_told ss.1
      show PureTo _ _ _ (.tup [.v (.float .f64 (toldW (fofI (shrI x y)))), _])
      rw [← e]
      exact this
    · have := rbin8 (ByteArray.mk #[62, 62, 62]) x y ⟨by decide +kernel, by decide +kernel, by decide +kernel, by decide +kernel, by decide +kernel, by decide +kernel, by decide +kernel, by decide +kernel, hx, hy, h32, hsh, trivial⟩
      have e : fofI (shuI x y) = toldW (fofI (shuI x y)) := fofI_told ss.2
      show PureTo _ _ _ (.tup [.v (.float .f64 (toldW (fofI (shuI x y)))), _])
      rw [← e]
      exact this
    · have := rbin9 (ByteArray.mk #[38]) x y ⟨by decide +kernel, by decide +kernel, by decide +kernel, by decide +kernel, by decide +kernel, by decide +kernel, by decide +kernel, by decide +kernel, by decide +kernel, hx, hy, trivial⟩
      have e : fofI (andI x y) = toldW (fofI (andI x y)) := fofI_told (wk _)
      show PureTo _ _ _ (.tup [.v (.float .f64 (toldW (fofI (andI x y)))), _])
      rw [← e]
      exact this
    · have := rbin10 (ByteArray.mk #[124]) x y ⟨by decide +kernel, by decide +kernel, by decide +kernel, by decide +kernel, by decide +kernel, by decide +kernel, by decide +kernel, by decide +kernel, by decide +kernel, by decide +kernel, hx, hy, trivial⟩
      have e : fofI (orI x y) = toldW (fofI (orI x y)) := fofI_told (wk _)
      show PureTo _ _ _ (.tup [.v (.float .f64 (toldW (fofI (orI x y)))), _])
      rw [← e]
      exact this
    · have := rbin11 (ByteArray.mk #[94]) x y ⟨by decide +kernel, by decide +kernel, by decide +kernel, by decide +kernel, by decide +kernel, by decide +kernel, by decide +kernel, by decide +kernel, by decide +kernel, by decide +kernel, by decide +kernel, hx, hy, trivial⟩
      have e : fofI (xorI x y) = toldW (fofI (xorI x y)) := fofI_told (wk _)
      show PureTo _ _ _ (.tup [.v (.float .f64 (toldW (fofI (xorI x y)))), _])
      rw [← e]
      exact this

def sigRBin : List AV → Option (AV × List Prop)
  | [.v (.string s), .v (.float .f64 x), .v (.float .f64 y)] => some (.tup [.v (.float .f64 (binW s x y)), .v (.int .i64 (binE s))], [FWord x, FWord y])
  | _ => none
theorem sigRBin_ok : ∀ ys r c, sigRBin ys = some (r, c) → AllP c → PureTo Try.prog 13 ys r := by
  intro ys r c hs hc
  unfold sigRBin at hs
  split at hs
  · cases hs; exact rbin_c hc.1 hc.2.1
  · cases hs
def SMD : SGT := (13, .p sigRBin) :: SMC
theorem soMD : SigsOK Try.prog SMD := sigs_cons soMC sigRBin_ok
end Go.Proofs.Nu

/- Numbers: walks, written by the tool. -/
set_option maxRecDepth 100000
namespace Go.Proofs.Nu
open Go Go.Ev

-- 2 paths
theorem binL1 (s : ByteArray) (x y : Nat) (h : AllP [FWord x, FWord y, FWord x, FWord y, samB (binW s x y) (binW s x y) = true, (binE s == binE s) = true]) : PureTo Try.prog 3 [.v (.string s), .v (.float .f64 x), .v (.float .f64 y)] (AV.v (.bool true)) :=
  evFn_pure hm soMD (fn := Try.f3) rfl rfl (ti := false) (hs := [CHint.ops 3 [(2, Hint.b true), (6, Hint.b true)]]) (c := _) (by kernel_rfl) h
theorem binL2 (s : ByteArray) (x y : Nat) (h : AllP [FWord x, FWord y, FWord x, FWord y, samB (binW s x y) (binW s x y) = false]) : PureTo Try.prog 3 [.v (.string s), .v (.float .f64 x), .v (.float .f64 y)] (AV.v (.bool false)) :=
  evFn_pure hm soMD (fn := Try.f3) rfl rfl (ti := false) (hs := [CHint.ops 3 [(2, Hint.b false)]]) (c := _) (by kernel_rfl) h
end Go.Proofs.Nu
