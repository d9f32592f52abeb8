/- Contracts of the program's functions, and the plain law behind them. No condition beyond those in each statement. -/
import Derived.Test.YthceebioiinhiaaNuAll8
import Derived.Test.YthceebioiinhiaaRnAll1
import Derived.Test.YthceebioiinhiaaEvAll6
set_option linter.unusedSimpArgs false
set_option linter.unusedVariables false
set_option linter.unusedSectionVars false
/- Numbers: the table with the reference's naturals. -/
set_option maxRecDepth 100000
namespace Go.Proofs.Nu
open Go Go.Ev
theorem look_app {α : Type} (A B : List (Nat × α)) (g : Nat) : Ev.look (A ++ B) g = match Ev.look A g with | some x => some x | none => Ev.look B g := by
  induction A with
  | nil => rfl
  | cons x A ih =>
    obtain ⟨k, v⟩ := x
    rw [List.cons_append, look_cons, look_cons]
    by_cases h : k = g
    · rw [if_pos h, if_pos h]
    · rw [if_neg h, if_neg h]; exact ih
theorem sigs_app {P : Program} {A B : SGT} (ha : SigsOK P A) (hb : SigsOK P B) : SigsOK P (A ++ B) := by
  intro f sig h
  rw [look_app] at h
  cases hA : Ev.look A f with
  | some x => rw [hA] at h; exact ha f sig (by rw [hA]; exact h)
  | none => rw [hA] at h; exact hb f sig h
def SM6 : SGT := Bn.RS5 ++ SM3
theorem soM6 : SigsOK Try.prog SM6 := sigs_app Bn.rsok5 soM3
end Go.Proofs.Nu

/- Numbers: walks, written by the tool. -/
set_option maxRecDepth 100000
namespace Go.Proofs.Nu
open Go Go.Ev
def partsS0 (x : Nat) (x0 : Int) (x1 : Int) : AS := { n := 43, fr := [(6, AV.v (.int .u64 x0)), (7, AV.v (.int .i64 x1))], hp := [], nx := 0 }
def partsX0 (x : Nat) (x2 : Int) (x3 : Int) : AS := { n := 43, fr := [(6, AV.v (.int .u64 x2)), (7, AV.v (.int .i64 x3))], hp := [], nx := 0 }
-- 2 paths
theorem partsL0_1 (x : Nat) (x0 : Int) (x1 : Int) (h : AllP [(bitsOf BinOp.and IntKind.u64 x0 (1 : Int) == (0 : Int)) = true, (0 : Int) ≤ (1 : Int), inR IntKind.i64 (x1 + (1 : Int))]) : To Try.prog (loopAt Try.f67 0) ({ n := 43, fr := [(6, AV.v (.int .u64 x0)), (7, AV.v (.int .i64 x1))], hp := [], nx := 0 }) (.normal) { n := 43, fr := [(6, AV.v (.int .u64 (x0 / (2 : Int)))), (7, AV.v (.int .i64 (x1 + (1 : Int))))], hp := [], nx := 0 } :=
  evW_to hm soM6 (hs := [CHint.ops 11 [(2, Hint.b true)]]) (slots := [6, 7]) (keys := []) (nx := 0) (c := _) (by kernel_rfl) h
theorem partsL0_2 (x : Nat) (x0 : Int) (x1 : Int) (h : AllP [(bitsOf BinOp.and IntKind.u64 x0 (1 : Int) == (0 : Int)) = false]) : To Try.prog (loopAt Try.f67 0) ({ n := 43, fr := [(6, AV.v (.int .u64 x0)), (7, AV.v (.int .i64 x1))], hp := [], nx := 0 }) (Exit.exit 0) { n := 43, fr := [(6, AV.v (.int .u64 x0)), (7, AV.v (.int .i64 x1))], hp := [], nx := 0 } :=
  evW_to hm soM6 (hs := [CHint.ops 11 [(2, Hint.b false)]]) (slots := [6, 7]) (keys := []) (nx := 0) (c := _) (by kernel_rfl) h
-- 6 paths
theorem partsF1 (x : Nat) (x2 : Int) (x3 : Int) (h : AllP [isNaN x = true]) : PureTo Try.prog 67 [.v (.float .f64 x)] (AV.tup [AV.sl 1 (.ints .u32 []) false, AV.v (.int .i64 (0 : Int)), AV.v (.int .i64 (1 : Int))]) :=
  evFn_pure hm soM6 (fn := Try.f67) rfl rfl (ti := false) (hs := [CHint.ops 1 [(1, Hint.b true)]]) (c := _) (by kernel_rfl) h
theorem partsF2 (x : Nat) (x2 : Int) (x3 : Int) (h : AllP [isNaN x = false, isInf x (0 : Int) = true]) : PureTo Try.prog 67 [.v (.float .f64 x)] (AV.tup [AV.sl 1 (.ints .u32 []) false, AV.v (.int .i64 (0 : Int)), AV.v (.int .i64 (1 : Int))]) :=
  evFn_pure hm soM6 (fn := Try.f67) rfl rfl (ti := false) (hs := [CHint.ops 1 [(1, Hint.b false), (4, Hint.b true)]]) (c := _) (by kernel_rfl) h
theorem partsF3 (x : Nat) (x2 : Int) (x3 : Int) (h : AllP [isNaN x = false, isInf x (0 : Int) = false, flt FloatKind.f64 x 0 = true]) : PureTo Try.prog 67 [.v (.float .f64 x)] (AV.tup [AV.sl 1 (.ints .u32 []) false, AV.v (.int .i64 (0 : Int)), AV.v (.int .i64 (1 : Int))]) :=
  evFn_pure hm soM6 (fn := Try.f67) rfl rfl (ti := false) (hs := [CHint.ops 1 [(1, Hint.b false), (4, Hint.b false), (8, Hint.b true)]]) (c := _) (by kernel_rfl) h
theorem partsF4 (x : Nat) (x2 : Int) (x3 : Int) (h : AllP [isNaN x = false, isInf x (0 : Int) = false, flt FloatKind.f64 x 0 = false, feq FloatKind.f64 x 0 = true]) : PureTo Try.prog 67 [.v (.float .f64 x)] (AV.tup [AV.sl 1 (.ints .u32 []) false, AV.v (.int .i64 (0 : Int)), AV.v (.int .i64 (0 : Int))]) :=
  evFn_pure hm soM6 (fn := Try.f67) rfl rfl (ti := false) (hs := [CHint.ops 1 [(1, Hint.b false), (4, Hint.b false), (8, Hint.b false)], CHint.ops 3 [(1, Hint.b true)]]) (c := _) (by kernel_rfl) h
theorem partsF5 (x : Nat) (x2 : Int) (x3 : Int) (h : AllP [isNaN x = false, isInf x (0 : Int) = false, flt FloatKind.f64 x 0 = false, feq FloatKind.f64 x 0 = false, (0 : Int) ≤ (52 : Int), inR IntKind.i64 (IntKind.i64.wrap ((↑x : Int) / (4503599627370496 : Int)) - (1075 : Int)), (0 : Int) ≤ (52 : Int), ((↑x : Int) / (4503599627370496 : Int) == (0 : Int)) = true, LoopTo Try.prog (loopAt Try.f67 0) { n := 43, fr := [(6, AV.v (.int .u64 (bitsOf BinOp.and IntKind.u64 (↑x : Int) (4503599627370495 : Int)))), (7, AV.v (.int .i64 (-1074 : Int)))], hp := [], nx := 0 } (Exit.exit 0) { n := 43, fr := [(6, AV.v (.int .u64 x2)), (7, AV.v (.int .i64 x3))], hp := [], nx := 0 }, (0 : Int) ≤ x2, x2 < (18446744073709551616 : Int)]) : PureTo Try.prog 67 [.v (.float .f64 x)] (AV.tup [AV.sl 1 (.ints .u32 (Bn.dig x2.toNat)) false, AV.v (.int .i64 x3), AV.v (.int .i64 (0 : Int))]) :=
  evFn_pure hm soM6 (fn := Try.f67) rfl rfl (ti := false) (hs := [CHint.ops 1 [(1, Hint.b false), (4, Hint.b false), (8, Hint.b false)], CHint.ops 3 [(1, Hint.b false)], CHint.ops 8 [(2, Hint.b true)], CHint.loop [6, 7] [] 0 (Exit.exit 0) { n := 43, fr := [(6, AV.v (.int .u64 x2)), (7, AV.v (.int .i64 x3))], hp := [], nx := 0 }]) (c := _) (by kernel_rfl) h
theorem partsF6 (x : Nat) (x2 : Int) (x3 : Int) (h : AllP [isNaN x = false, isInf x (0 : Int) = false, flt FloatKind.f64 x 0 = false, feq FloatKind.f64 x 0 = false, (0 : Int) ≤ (52 : Int), inR IntKind.i64 (IntKind.i64.wrap ((↑x : Int) / (4503599627370496 : Int)) - (1075 : Int)), (0 : Int) ≤ (52 : Int), ((↑x : Int) / (4503599627370496 : Int) == (0 : Int)) = false, LoopTo Try.prog (loopAt Try.f67 0) { n := 43, fr := [(6, AV.v (.int .u64 (bitsOf BinOp.or IntKind.u64 (bitsOf BinOp.and IntKind.u64 (↑x : Int) (4503599627370495 : Int)) (4503599627370496 : Int)))), (7, AV.v (.int .i64 (IntKind.i64.wrap ((↑x : Int) / (4503599627370496 : Int)) - (1075 : Int))))], hp := [], nx := 0 } (Exit.exit 0) { n := 43, fr := [(6, AV.v (.int .u64 x2)), (7, AV.v (.int .i64 x3))], hp := [], nx := 0 }, (0 : Int) ≤ x2, x2 < (18446744073709551616 : Int)]) : PureTo Try.prog 67 [.v (.float .f64 x)] (AV.tup [AV.sl 1 (.ints .u32 (Bn.dig x2.toNat)) false, AV.v (.int .i64 x3), AV.v (.int .i64 (0 : Int))]) :=
  evFn_pure hm soM6 (fn := Try.f67) rfl rfl (ti := false) (hs := [CHint.ops 1 [(1, Hint.b false), (4, Hint.b false), (8, Hint.b false)], CHint.ops 3 [(1, Hint.b false)], CHint.ops 8 [(2, Hint.b false)], CHint.loop [6, 7] [] 0 (Exit.exit 0) { n := 43, fr := [(6, AV.v (.int .u64 x2)), (7, AV.v (.int .i64 x3))], hp := [], nx := 0 }]) (c := _) (by kernel_rfl) h
end Go.Proofs.Nu

/- Numbers: a float's parts. -/
set_option maxRecDepth 100000
set_option exponentiation.threshold 2200
namespace Go.Proofs.Nu
open Go Go.Ev Bn

/-- an odd number and a power of 2 -/
def strip : Nat → Nat → Nat × Nat
  | 0, n => (n, 0)
  | f + 1, n => if n % 2 = 0 then ((strip f (n / 2)).1, (strip f (n / 2)).2 + 1) else (n, 0)

theorem strip_is : ∀ f n, (strip f n).1 * 2 ^ (strip f n).2 = n := by
  intro f
  induction f with
  | zero => intro n; simp [strip]
  | succ f ih =>
    intro n
    unfold strip
    split
    · next h =>
      show (strip f (n / 2)).1 * 2 ^ ((strip f (n / 2)).2 + 1) = n
      rw [Nat.pow_succ, ← Nat.mul_assoc, ih]; omega
    · simp
theorem strip_le : ∀ f n, (strip f n).2 ≤ f := by
  intro f
  induction f with
  | zero => intro n; exact Nat.le_refl _
  | succ f ih =>
    intro n
    unfold strip
    split
    · exact Nat.succ_le_succ (ih _)
    · exact Nat.zero_le _

theorem and_one {n : Nat} (h : n < 18446744073709551616) : bitsOf BinOp.and IntKind.u64 (n : Int) (1 : Int) = ((n % 2 : Nat) : Int) := by
  have := and_low (k := .u64) rfl (x := (n : Int)) (s := 1) (by omega) (by show _ < (2 ^ 64 : Int); omega) (by decide)
  rw [show (((2 ^ 1 - 1 : Nat)) : Int) = 1 from rfl, show ((2 ^ 1 : Nat) : Int) = 2 from rfl] at this
  rw [this]; omega

theorem parts_loop (x : Nat) : ∀ (f n : Nat) (e : Int), 0 < n → n < 2 ^ f → f ≤ 63 → -5000 ≤ e → e + (f : Int) ≤ 5000 →
    LoopTo Try.prog (loopAt Try.f67 0) (partsS0 x n e) (.exit 0) (partsX0 x ((strip f n).1 : Nat) (e + (strip f n).2)) := by
  intro f
  induction f with
  | zero => intro n e h0 h1; omega
  | succ f ih =>
    intro n e h0 h1 hf h2 h3
    have hn : n < 18446744073709551616 := by
      have : 2 ^ (f + 1) ≤ 2 ^ 63 := Nat.pow_le_pow_right (by decide) (by omega)
      have e63 : (2 : Nat) ^ 63 = 9223372036854775808 := by decide
      omega
    by_cases hz : n % 2 = 0
    · have hs : strip (f + 1) n = ((strip f (n / 2)).1, (strip f (n / 2)).2 + 1) := by
        rw [strip]; rw [if_pos hz]
      have s1 := partsL0_1 x n e ⟨by rw [and_one hn, hz]; rfl, by decide, by simp only [inR]; omega, trivial⟩
      have hc : ((n : Int) / 2) = ((n / 2 : Nat) : Int) := by omega
      rw [hc] at s1
      have hlt : n / 2 < 2 ^ f := by rw [Nat.pow_succ] at h1; omega
      have l := ih (n / 2) (e + 1) (by omega) hlt (by omega) (by omega) (by omega)
      rw [hs]
      have he : e + 1 + ((strip f (n / 2)).2 : Int) = e + (((strip f (n / 2)).2 + 1 : Nat) : Int) := by omega
      rw [he] at l
      exact LoopTo.step s1 l
    · have hs : strip (f + 1) n = (n, 0) := by
        rw [strip]; rw [if_neg hz]
      have s2 := partsL0_2 x n e ⟨by rw [and_one hn, beq_eq_false_iff_ne]; omega, trivial⟩
      rw [hs]
      have he : e + ((0 : Nat) : Int) = e := by omega
      show LoopTo _ _ _ _ (partsX0 x (n : Int) (e + ((0 : Nat) : Int)))
      rw [he]
      exact LoopTo.done (by intro h; cases h) s2

/-- the odd part and the place -/
def pm (x : Nat) : Nat := if rg x = 0 then 0 else (strip 53 (sigM (rg x))).1
def pe (x : Nat) : Int := if rg x = 0 then 0 else -1074 + (sigK (rg x) : Int) + (strip 53 (sigM (rg x))).2

theorem sigM_nil {r : Nat} : sigM r = 0 ↔ r = 0 := by
  unfold sigM
  split <;> omega
theorem abs_low {x : Nat} (hw : FWord x) (hs : sg x = false) : x = rg x := by
  unfold FWord at hw
  unfold sg at hs
  rw [beq_eq_false_iff_ne] at hs
  unfold rg
  omega

theorem parts_c {x : Nat} (hw : FWord x) (hx : Fit x) (hs : sg x = false) : PureTo Try.prog 67 [.v (.float .f64 x)] (.tup [.sl 1 (.ints .u32 (dig (pm x))) false, .v (.int .i64 (pe x)), .v (.int .i64 0)]) := by
  have n1 := isNaN_num.2 hx.num
  have n2 := notInf hx
  have n3 : flt .f64 x 0 = false := by
    rw [flt_V hx.num fin_zero.num, V_null, decide_eq_false]
    have := V_pos hs
    omega
  by_cases h0 : rg x = 0
  · have n4 : feq .f64 x 0 = true := by rw [feq_V hx.num fin_zero.num, V_null, decide_eq_true (V_zero.2 h0)]
    have e1 : pm x = 0 := by unfold pm; rw [if_pos h0]
    have e2 : pe x = 0 := by unfold pe; rw [if_pos h0]
    rw [e1, e2, dig_zero]
    exact partsF4 x 0 0 ⟨n1, n2, n3, n4, trivial⟩
  · have n4 := notZero hx h0
    obtain ⟨s1, s2, s3⟩ := sig_parts (rg x)
    have hx' := abs_low hw hs
    have hlt : x < 9218868437227405312 := by unfold Fit at hx; omega
    have hmpos : 0 < sigM (rg x) := by
      rcases Nat.eq_zero_or_pos (sigM (rg x)) with h | h
      · exact (h0 (sigM_nil.1 h)).elim
      · exact h
    have e1 : pm x = (strip 53 (sigM (rg x))).1 := by unfold pm; rw [if_neg h0]
    have e2 : pe x = -1074 + (sigK (rg x) : Int) + (strip 53 (sigM (rg x))).2 := by unfold pe; rw [if_neg h0]
    have l := parts_loop x 53 (sigM (rg x)) (-1074 + (sigK (rg x) : Int)) hmpos s2 (by decide) (by omega) (by omega)
    rw [← e1, ← e2] at l
    have hpm : pm x < 9007199254740992 := by
      have h3 := strip_is 53 (sigM (rg x))
      rw [← e1] at h3
      have : pm x ≤ sigM (rg x) := by
        have hp := Nat.two_pow_pos (strip 53 (sigM (rg x))).2
        have := Nat.le_mul_of_pos_right (pm x) hp
        rw [h3] at this
        exact this
      have e53 : (2 : Nat) ^ 53 = 9007199254740992 := by decide
      omega
    have hwrap : IntKind.i64.wrap ((x : Int) / 4503599627370496) = ((x / 4503599627370496 : Nat) : Int) := by rw [IntKind.wrap_i64]; omega
    have hand : bitsOf BinOp.and IntKind.u64 (x : Int) (4503599627370495 : Int) = ((x % 4503599627370496 : Nat) : Int) := by
      have := and_low (k := .u64) rfl (x := (x : Int)) (s := 52) (by omega) (by show _ < (2 ^ 64 : Int); omega) (by decide)
      rw [show (((2 ^ 52 - 1 : Nat)) : Int) = 4503599627370495 from rfl, show ((2 ^ 52 : Nat) : Int) = 4503599627370496 from rfl] at this
      rw [this]; omega
    have r1 : inR IntKind.i64 (IntKind.i64.wrap ((x : Int) / 4503599627370496) - 1075) := by rw [hwrap]; simp only [inR]; omega
    by_cases hsub : x < 4503599627370496
    · have hM : sigM (rg x) = x % 4503599627370496 := by unfold sigM; rw [if_pos (by omega)]; omega
      have hK : sigK (rg x) = 0 := by unfold sigK; rw [if_pos (by omega)]
      have := partsF5 x (pm x) (pe x) ⟨n1, n2, n3, n4, by decide, r1, by decide, by rw [beq_iff_eq]; omega, by
        rw [hand, ← hM]
        rw [hK] at l
        exact l, by omega, by omega, trivial⟩
      rw [Int.toNat_natCast] at this
      exact this
    · have hM : sigM (rg x) = 4503599627370496 + x % 4503599627370496 := by unfold sigM; rw [if_neg (by omega)]; omega
      have hK : (sigK (rg x) : Int) - 1074 = (x / 4503599627370496 : Nat) - 1075 := by unfold sigK; rw [if_neg (by omega)]; omega
      have hor : bitsOf BinOp.or IntKind.u64 ((x % 4503599627370496 : Nat) : Int) (4503599627370496 : Int) = ((sigM (rg x) : Nat) : Int) := by
        rw [(or_add (k := .u64) rfl (s := 52) (by omega) (by show _ < ((2 ^ 52 : Nat) : Int); omega) (by decide) (by decide) (by decide) (by decide)).1, hM]
        omega
      have := partsF6 x (pm x) (pe x) ⟨n1, n2, n3, n4, by decide, r1, by decide, by rw [beq_eq_false_iff_ne]; omega, by
        rw [hand, hor, hwrap]
        have e3 : ((x / 4503599627370496 : Nat) : Int) - 1075 = -1074 + (sigK (rg x) : Int) := by omega
        rw [e3]
        exact l, by omega, by omega, trivial⟩
      rw [Int.toNat_natCast] at this
      exact this
def sigParts : List AV → Option (AV × List Prop)
  | [.v (.float .f64 x)] => some (.tup [.sl 1 (.ints .u32 (dig (pm x))) false, .v (.int .i64 (pe x)), .v (.int .i64 0)], [FWord x, Fit x, sg x = false])
  | _ => none
def SM7 : SGT := (67, .p sigParts) :: SM6
theorem soM7 : SigsOK Try.prog SM7 := by
  refine sigs_cons soM6 ?_
  intro ys r c hs hc
  unfold sigParts at hs
  split at hs
  · cases hs; exact parts_c hc.1 hc.2.1 hc.2.2.1
  · cases hs
end Go.Proofs.Nu

/- Numbers: walks, written by the tool. -/
set_option maxRecDepth 100000
namespace Go.Proofs.Nu
open Go Go.Ev

-- 14 paths
theorem ru321 (x : Nat) (h : AllP [fin x = true, FWord (abs x), Fit (abs x), sg (abs x) = false, decide (pe (abs x) ≥ (32 : Int)) = true]) : PureTo Try.prog 38 [.v (.float .f64 x)] (AV.v (.int .u32 (0 : Int))) :=
  evFn_pure hm soM7 (fn := Try.f38) rfl rfl (ti := false) (hs := [CHint.ops 1 [(1, Hint.b true)], CHint.ops 5 [(1, Hint.b true)]]) (c := _) (by kernel_rfl) h
theorem ru322 (x : Nat) (h : AllP [fin x = true, FWord (abs x), Fit (abs x), sg (abs x) = false, decide (pe (abs x) ≥ (32 : Int)) = false, decide (pe (abs x) ≥ (0 : Int)) = true, decide ((↑(Bn.dig (pm (abs x))).length : Int) > (0 : Int)) = true, (0 : Int) ≤ (0 : Int) ∧ (0 : Int) < (↑(Bn.dig (pm (abs x))).length : Int), (0 : Int) ≤ pe (abs x) % (18446744073709551616 : Int), flt FloatKind.f64 x 0 = true]) : PureTo Try.prog 38 [.v (.float .f64 x)] (AV.v (.int .u32 (((0 : Int) - (Bn.dig (pm (abs x))).getD 0 (0 : Int) * (2 : Int) ^ min (pe (abs x) % (18446744073709551616 : Int)).toNat 32 % (4294967296 : Int)) % (4294967296 : Int)))) :=
  evFn_pure hm soM7 (fn := Try.f38) rfl rfl (ti := false) (hs := [CHint.ops 1 [(1, Hint.b true)], CHint.ops 5 [(1, Hint.b false)], CHint.ops 7 [(1, Hint.b true)], CHint.ops 8 [(2, Hint.b true)], CHint.ops 9 [(5, Hint.wrap)], CHint.ops 13 [(1, Hint.b true)], CHint.ops 14 [(1, Hint.wrap)]]) (c := _) (by kernel_rfl) h
theorem ru323 (x : Nat) (h : AllP [fin x = true, FWord (abs x), Fit (abs x), sg (abs x) = false, decide (pe (abs x) ≥ (32 : Int)) = false, decide (pe (abs x) ≥ (0 : Int)) = true, decide ((↑(Bn.dig (pm (abs x))).length : Int) > (0 : Int)) = true, (0 : Int) ≤ (0 : Int) ∧ (0 : Int) < (↑(Bn.dig (pm (abs x))).length : Int), (0 : Int) ≤ pe (abs x) % (18446744073709551616 : Int), flt FloatKind.f64 x 0 = false]) : PureTo Try.prog 38 [.v (.float .f64 x)] (AV.v (.int .u32 ((Bn.dig (pm (abs x))).getD 0 (0 : Int) * (2 : Int) ^ min (pe (abs x) % (18446744073709551616 : Int)).toNat 32 % (4294967296 : Int)))) :=
  evFn_pure hm soM7 (fn := Try.f38) rfl rfl (ti := false) (hs := [CHint.ops 1 [(1, Hint.b true)], CHint.ops 5 [(1, Hint.b false)], CHint.ops 7 [(1, Hint.b true)], CHint.ops 8 [(2, Hint.b true)], CHint.ops 9 [(5, Hint.wrap)], CHint.ops 13 [(1, Hint.b false)]]) (c := _) (by kernel_rfl) h
theorem ru324 (x : Nat) (h : AllP [fin x = true, FWord (abs x), Fit (abs x), sg (abs x) = false, decide (pe (abs x) ≥ (32 : Int)) = false, decide (pe (abs x) ≥ (0 : Int)) = true, decide ((↑(Bn.dig (pm (abs x))).length : Int) > (0 : Int)) = false, flt FloatKind.f64 x 0 = true]) : PureTo Try.prog 38 [.v (.float .f64 x)] (AV.v (.int .u32 (0 : Int))) :=
  evFn_pure hm soM7 (fn := Try.f38) rfl rfl (ti := false) (hs := [CHint.ops 1 [(1, Hint.b true)], CHint.ops 5 [(1, Hint.b false)], CHint.ops 7 [(1, Hint.b true)], CHint.ops 8 [(2, Hint.b false)], CHint.ops 13 [(1, Hint.b true)], CHint.ops 14 [(1, Hint.wrap)]]) (c := _) (by kernel_rfl) h
theorem ru325 (x : Nat) (h : AllP [fin x = true, FWord (abs x), Fit (abs x), sg (abs x) = false, decide (pe (abs x) ≥ (32 : Int)) = false, decide (pe (abs x) ≥ (0 : Int)) = true, decide ((↑(Bn.dig (pm (abs x))).length : Int) > (0 : Int)) = false, flt FloatKind.f64 x 0 = false]) : PureTo Try.prog 38 [.v (.float .f64 x)] (AV.v (.int .u32 (0 : Int))) :=
  evFn_pure hm soM7 (fn := Try.f38) rfl rfl (ti := false) (hs := [CHint.ops 1 [(1, Hint.b true)], CHint.ops 5 [(1, Hint.b false)], CHint.ops 7 [(1, Hint.b true)], CHint.ops 8 [(2, Hint.b false)], CHint.ops 13 [(1, Hint.b false)]]) (c := _) (by kernel_rfl) h
theorem ru326 (x : Nat) (h : AllP [fin x = true, FWord (abs x), Fit (abs x), sg (abs x) = false, decide (pe (abs x) ≥ (32 : Int)) = false, decide (pe (abs x) ≥ (0 : Int)) = false, inR IntKind.i64 ((0 : Int) - pe (abs x)), Bn.Words (Bn.dig (pm (abs x))), (Bn.dig (pm (abs x))).length ≤ Bn.lim4, (Bn.ShrN (Bn.nat (Bn.dig (pm (abs x)))) ((0 : Int) - pe (abs x))).snd = true, decide ((↑(Bn.ShrN (Bn.nat (Bn.dig (pm (abs x)))) ((0 : Int) - pe (abs x))).fst.length : Int) > (0 : Int)) = true, (0 : Int) ≤ (0 : Int) ∧ (0 : Int) < (↑(Bn.ShrN (Bn.nat (Bn.dig (pm (abs x)))) ((0 : Int) - pe (abs x))).fst.length : Int), flt FloatKind.f64 x 0 = true]) : PureTo Try.prog 38 [.v (.float .f64 x)] (AV.v (.int .u32 (((0 : Int) - (Bn.ShrN (Bn.nat (Bn.dig (pm (abs x)))) ((0 : Int) - pe (abs x))).fst.getD 0 (0 : Int)) % (4294967296 : Int)))) :=
  evFn_pure hm soM7 (fn := Try.f38) rfl rfl (ti := false) (hs := [CHint.ops 1 [(1, Hint.b true)], CHint.ops 5 [(1, Hint.b false)], CHint.ops 7 [(1, Hint.b false)], CHint.ops 10 [(6, Hint.b true)], CHint.ops 11 [(2, Hint.b true)], CHint.ops 13 [(1, Hint.b true)], CHint.ops 14 [(1, Hint.wrap)]]) (c := _) (by kernel_rfl) h
theorem ru327 (x : Nat) (h : AllP [fin x = true, FWord (abs x), Fit (abs x), sg (abs x) = false, decide (pe (abs x) ≥ (32 : Int)) = false, decide (pe (abs x) ≥ (0 : Int)) = false, inR IntKind.i64 ((0 : Int) - pe (abs x)), Bn.Words (Bn.dig (pm (abs x))), (Bn.dig (pm (abs x))).length ≤ Bn.lim4, (Bn.ShrN (Bn.nat (Bn.dig (pm (abs x)))) ((0 : Int) - pe (abs x))).snd = true, decide ((↑(Bn.ShrN (Bn.nat (Bn.dig (pm (abs x)))) ((0 : Int) - pe (abs x))).fst.length : Int) > (0 : Int)) = true, (0 : Int) ≤ (0 : Int) ∧ (0 : Int) < (↑(Bn.ShrN (Bn.nat (Bn.dig (pm (abs x)))) ((0 : Int) - pe (abs x))).fst.length : Int), flt FloatKind.f64 x 0 = false]) : PureTo Try.prog 38 [.v (.float .f64 x)] (AV.v (.int .u32 ((Bn.ShrN (Bn.nat (Bn.dig (pm (abs x)))) ((0 : Int) - pe (abs x))).fst.getD 0 (0 : Int)))) :=
  evFn_pure hm soM7 (fn := Try.f38) rfl rfl (ti := false) (hs := [CHint.ops 1 [(1, Hint.b true)], CHint.ops 5 [(1, Hint.b false)], CHint.ops 7 [(1, Hint.b false)], CHint.ops 10 [(6, Hint.b true)], CHint.ops 11 [(2, Hint.b true)], CHint.ops 13 [(1, Hint.b false)]]) (c := _) (by kernel_rfl) h
theorem ru328 (x : Nat) (h : AllP [fin x = true, FWord (abs x), Fit (abs x), sg (abs x) = false, decide (pe (abs x) ≥ (32 : Int)) = false, decide (pe (abs x) ≥ (0 : Int)) = false, inR IntKind.i64 ((0 : Int) - pe (abs x)), Bn.Words (Bn.dig (pm (abs x))), (Bn.dig (pm (abs x))).length ≤ Bn.lim4, (Bn.ShrN (Bn.nat (Bn.dig (pm (abs x)))) ((0 : Int) - pe (abs x))).snd = true, decide ((↑(Bn.ShrN (Bn.nat (Bn.dig (pm (abs x)))) ((0 : Int) - pe (abs x))).fst.length : Int) > (0 : Int)) = false, flt FloatKind.f64 x 0 = true]) : PureTo Try.prog 38 [.v (.float .f64 x)] (AV.v (.int .u32 (0 : Int))) :=
  evFn_pure hm soM7 (fn := Try.f38) rfl rfl (ti := false) (hs := [CHint.ops 1 [(1, Hint.b true)], CHint.ops 5 [(1, Hint.b false)], CHint.ops 7 [(1, Hint.b false)], CHint.ops 10 [(6, Hint.b true)], CHint.ops 11 [(2, Hint.b false)], CHint.ops 13 [(1, Hint.b true)], CHint.ops 14 [(1, Hint.wrap)]]) (c := _) (by kernel_rfl) h
theorem ru329 (x : Nat) (h : AllP [fin x = true, FWord (abs x), Fit (abs x), sg (abs x) = false, decide (pe (abs x) ≥ (32 : Int)) = false, decide (pe (abs x) ≥ (0 : Int)) = false, inR IntKind.i64 ((0 : Int) - pe (abs x)), Bn.Words (Bn.dig (pm (abs x))), (Bn.dig (pm (abs x))).length ≤ Bn.lim4, (Bn.ShrN (Bn.nat (Bn.dig (pm (abs x)))) ((0 : Int) - pe (abs x))).snd = true, decide ((↑(Bn.ShrN (Bn.nat (Bn.dig (pm (abs x)))) ((0 : Int) - pe (abs x))).fst.length : Int) > (0 : Int)) = false, flt FloatKind.f64 x 0 = false]) : PureTo Try.prog 38 [.v (.float .f64 x)] (AV.v (.int .u32 (0 : Int))) :=
  evFn_pure hm soM7 (fn := Try.f38) rfl rfl (ti := false) (hs := [CHint.ops 1 [(1, Hint.b true)], CHint.ops 5 [(1, Hint.b false)], CHint.ops 7 [(1, Hint.b false)], CHint.ops 10 [(6, Hint.b true)], CHint.ops 11 [(2, Hint.b false)], CHint.ops 13 [(1, Hint.b false)]]) (c := _) (by kernel_rfl) h
theorem ru3210 (x : Nat) (h : AllP [fin x = true, FWord (abs x), Fit (abs x), sg (abs x) = false, decide (pe (abs x) ≥ (32 : Int)) = false, decide (pe (abs x) ≥ (0 : Int)) = false, inR IntKind.i64 ((0 : Int) - pe (abs x)), Bn.Words (Bn.dig (pm (abs x))), (Bn.dig (pm (abs x))).length ≤ Bn.lim4, (Bn.ShrN (Bn.nat (Bn.dig (pm (abs x)))) ((0 : Int) - pe (abs x))).snd = false, decide ((↑(Bn.ShrN (Bn.nat (Bn.dig (pm (abs x)))) ((0 : Int) - pe (abs x))).fst.length : Int) > (0 : Int)) = true, (0 : Int) ≤ (0 : Int) ∧ (0 : Int) < (↑(Bn.ShrN (Bn.nat (Bn.dig (pm (abs x)))) ((0 : Int) - pe (abs x))).fst.length : Int), flt FloatKind.f64 x 0 = true]) : PureTo Try.prog 38 [.v (.float .f64 x)] (AV.v (.int .u32 (((0 : Int) - (Bn.ShrN (Bn.nat (Bn.dig (pm (abs x)))) ((0 : Int) - pe (abs x))).fst.getD 0 (0 : Int)) % (4294967296 : Int)))) :=
  evFn_pure hm soM7 (fn := Try.f38) rfl rfl (ti := false) (hs := [CHint.ops 1 [(1, Hint.b true)], CHint.ops 5 [(1, Hint.b false)], CHint.ops 7 [(1, Hint.b false)], CHint.ops 10 [(6, Hint.b false)], CHint.ops 11 [(2, Hint.b true)], CHint.ops 13 [(1, Hint.b true)], CHint.ops 14 [(1, Hint.wrap)]]) (c := _) (by kernel_rfl) h
theorem ru3211 (x : Nat) (h : AllP [fin x = true, FWord (abs x), Fit (abs x), sg (abs x) = false, decide (pe (abs x) ≥ (32 : Int)) = false, decide (pe (abs x) ≥ (0 : Int)) = false, inR IntKind.i64 ((0 : Int) - pe (abs x)), Bn.Words (Bn.dig (pm (abs x))), (Bn.dig (pm (abs x))).length ≤ Bn.lim4, (Bn.ShrN (Bn.nat (Bn.dig (pm (abs x)))) ((0 : Int) - pe (abs x))).snd = false, decide ((↑(Bn.ShrN (Bn.nat (Bn.dig (pm (abs x)))) ((0 : Int) - pe (abs x))).fst.length : Int) > (0 : Int)) = true, (0 : Int) ≤ (0 : Int) ∧ (0 : Int) < (↑(Bn.ShrN (Bn.nat (Bn.dig (pm (abs x)))) ((0 : Int) - pe (abs x))).fst.length : Int), flt FloatKind.f64 x 0 = false]) : PureTo Try.prog 38 [.v (.float .f64 x)] (AV.v (.int .u32 ((Bn.ShrN (Bn.nat (Bn.dig (pm (abs x)))) ((0 : Int) - pe (abs x))).fst.getD 0 (0 : Int)))) :=
  evFn_pure hm soM7 (fn := Try.f38) rfl rfl (ti := false) (hs := [CHint.ops 1 [(1, Hint.b true)], CHint.ops 5 [(1, Hint.b false)], CHint.ops 7 [(1, Hint.b false)], CHint.ops 10 [(6, Hint.b false)], CHint.ops 11 [(2, Hint.b true)], CHint.ops 13 [(1, Hint.b false)]]) (c := _) (by kernel_rfl) h
theorem ru3212 (x : Nat) (h : AllP [fin x = true, FWord (abs x), Fit (abs x), sg (abs x) = false, decide (pe (abs x) ≥ (32 : Int)) = false, decide (pe (abs x) ≥ (0 : Int)) = false, inR IntKind.i64 ((0 : Int) - pe (abs x)), Bn.Words (Bn.dig (pm (abs x))), (Bn.dig (pm (abs x))).length ≤ Bn.lim4, (Bn.ShrN (Bn.nat (Bn.dig (pm (abs x)))) ((0 : Int) - pe (abs x))).snd = false, decide ((↑(Bn.ShrN (Bn.nat (Bn.dig (pm (abs x)))) ((0 : Int) - pe (abs x))).fst.length : Int) > (0 : Int)) = false, flt FloatKind.f64 x 0 = true]) : PureTo Try.prog 38 [.v (.float .f64 x)] (AV.v (.int .u32 (0 : Int))) :=
  evFn_pure hm soM7 (fn := Try.f38) rfl rfl (ti := false) (hs := [CHint.ops 1 [(1, Hint.b true)], CHint.ops 5 [(1, Hint.b false)], CHint.ops 7 [(1, Hint.b false)], CHint.ops 10 [(6, Hint.b false)], CHint.ops 11 [(2, Hint.b false)], CHint.ops 13 [(1, Hint.b true)], CHint.ops 14 [(1, Hint.wrap)]]) (c := _) (by kernel_rfl) h
theorem ru3213 (x : Nat) (h : AllP [fin x = true, FWord (abs x), Fit (abs x), sg (abs x) = false, decide (pe (abs x) ≥ (32 : Int)) = false, decide (pe (abs x) ≥ (0 : Int)) = false, inR IntKind.i64 ((0 : Int) - pe (abs x)), Bn.Words (Bn.dig (pm (abs x))), (Bn.dig (pm (abs x))).length ≤ Bn.lim4, (Bn.ShrN (Bn.nat (Bn.dig (pm (abs x)))) ((0 : Int) - pe (abs x))).snd = false, decide ((↑(Bn.ShrN (Bn.nat (Bn.dig (pm (abs x)))) ((0 : Int) - pe (abs x))).fst.length : Int) > (0 : Int)) = false, flt FloatKind.f64 x 0 = false]) : PureTo Try.prog 38 [.v (.float .f64 x)] (AV.v (.int .u32 (0 : Int))) :=
  evFn_pure hm soM7 (fn := Try.f38) rfl rfl (ti := false) (hs := [CHint.ops 1 [(1, Hint.b true)], CHint.ops 5 [(1, Hint.b false)], CHint.ops 7 [(1, Hint.b false)], CHint.ops 10 [(6, Hint.b false)], CHint.ops 11 [(2, Hint.b false)], CHint.ops 13 [(1, Hint.b false)]]) (c := _) (by kernel_rfl) h
theorem ru3214 (x : Nat) (h : AllP [fin x = false]) : PureTo Try.prog 38 [.v (.float .f64 x)] (AV.v (.int .u32 (0 : Int))) :=
  evFn_pure hm soM7 (fn := Try.f38) rfl rfl (ti := false) (hs := [CHint.ops 1 [(1, Hint.b false)]]) (c := _) (by kernel_rfl) h
end Go.Proofs.Nu

/- Numbers: the reference's Uint32 is Uint32. -/
set_option maxRecDepth 100000
set_option exponentiation.threshold 2200
namespace Go.Proofs.Nu
open Go Go.Ev Bn

theorem pm_val (x : Nat) : 0 ≤ pe x + 1074 ∧ pm x * 2 ^ (pe x + 1074).toNat = valN (rg x) ∧ pm x < 9007199254740992 ∧ pe x + 1074 ≤ 5000 + (sigK (rg x) : Int) := by
  unfold pm pe
  by_cases h0 : rg x = 0
  · rw [if_pos h0, if_pos h0, h0, valN_zero]
    refine ⟨by decide, Nat.zero_mul _, by decide, by omega⟩
  · rw [if_neg h0, if_neg h0]
    have h1 := strip_is 53 (sigM (rg x))
    have h2 := strip_le 53 (sigM (rg x))
    obtain ⟨s1, s2, s3⟩ := sig_parts (rg x)
    have e53 : (2 : Nat) ^ 53 = 9007199254740992 := by decide
    refine ⟨by omega, ?_, ?_, by omega⟩
    · rw [show (-1074 + (sigK (rg x) : Int) + ((strip 53 (sigM (rg x))).2 : Int) + 1074).toNat = (strip 53 (sigM (rg x))).2 + sigK (rg x) by omega, Nat.pow_add, ← Nat.mul_assoc, h1]
      rfl
    · have hp := Nat.two_pow_pos (strip 53 (sigM (rg x))).2
      have := Nat.le_mul_of_pos_right (strip 53 (sigM (rg x))).1 hp
      rw [h1] at this
      omega

theorem whole_up {x k : Nat} (h : pe x = k) : valN (rg x) / U = pm x * 2 ^ k := by
  obtain ⟨h1, h2, _⟩ := pm_val x
  have e : (pe x + 1074).toNat = k + 1074 := by omega
  rw [e, Nat.pow_add, ← Nat.mul_assoc] at h2
  rw [← h2]
  exact Nat.mul_div_cancel _ U_pos
theorem whole_down {x k : Nat} (h : pe x = -(k : Int)) : valN (rg x) / U = pm x / 2 ^ k := by
  obtain ⟨h1, h2, _⟩ := pm_val x
  obtain ⟨j, hj⟩ : ∃ j : Nat, 1074 = k + j := ⟨1074 - k, by omega⟩
  have e : (pe x + 1074).toNat = j := by omega
  rw [e] at h2
  unfold U
  rw [← h2, hj, Nat.pow_add]
  exact Nat.mul_div_mul_right _ _ (Nat.two_pow_pos _)

theorem dig_first (n : Nat) : (dig n).getD 0 0 = ((n % 4294967296 : Nat) : Int) := by
  by_cases h : n = 0
  · subst h; rw [dig_zero]; rfl
  · rw [dig_pos h]; rfl
theorem dig_len_pos (n : Nat) : 0 < (dig n).length ↔ n ≠ 0 := by
  constructor
  · intro h h0
    subst h0
    rw [dig_zero] at h
    exact absurd h (by decide)
  · intro h
    rw [dig_pos h]
    simp
theorem dig_small_len {n : Nat} (h : n < 9007199254740992) : (dig n).length ≤ 2 := by
  rcases Nat.lt_or_ge 2 (dig n).length with h1 | h1
  · rw [dig_len] at h1; omega
  · exact h1

/-- what is told of the low digits -/
theorem u32_sign {x : Nat} (hx : Fit x) {n : Int} (hn : n = ((valN (rg x) / U % 4294967296 : Nat) : Int)) : (flt .f64 x 0 = true → (0 - n) % 4294967296 = u32N x) ∧ (flt .f64 x 0 = false → n = u32N x) := by
  unfold u32N wholeI
  rw [if_pos hx, flt_V hx.num fin_zero.num, V_null]
  subst hn
  constructor
  · intro h
    rw [decide_eq_true_eq] at h
    have hs : sg x = true := by
      cases h2 : sg x with
      | true => rfl
      | false => have := V_pos h2; omega
    rw [hs, sv_neg]
    omega
  · intro h
    have h' := of_decide_eq_false h
    cases hs : sg x with
    | false => rw [sv_pos]; omega
    | true =>
      have h2 := V_neg hs
      have h3 := V_zero.1 (by omega : V x = 0)
      rw [h3, valN_zero, Nat.zero_div, sv_zero]
      rfl

theorem ru32_c {x : Nat} (hw : FWord x) : PureTo Try.prog 38 [.v (.float .f64 x)] (.v (.int .u32 (u32N x))) := by
  cases hfin : fin x with
  | false =>
    have hx : ¬ Fit x := fun h => by rw [fin_iff.2 h] at hfin; cases hfin
    unfold u32N
    rw [if_neg hx]
    exact ru3214 x ⟨hfin, trivial⟩
  | true =>
    have hx := fin_iff.1 hfin
    have hay : abs x = wordOf false (rg x) := abs_word x
    have ha : Fit (abs x) := by rw [hay]; exact fit_word hx
    have haw : FWord (abs x) := by rw [hay]; exact word_wordOf (Nat.le_of_lt hx)
    have hrg : rg (abs x) = rg x := rg_abs x
    have has : sg (abs x) = false := by rw [hay]; exact sg_wordOf (Nat.le_of_lt hx)
    obtain ⟨p1, p2, p3, p4⟩ := pm_val (abs x)
    have hK : sigK (rg (abs x)) ≤ 2045 := by
      have := sig_parts (rg (abs x))
      unfold Fit at ha
      omega
    have wu := @whole_up (abs x)
    have wd := @whole_down (abs x)
    rw [hrg] at wu wd
    have key := @u32_sign x hx
    have hl := dig_small_len p3
    generalize valN (rg x) / U = q at *
    generalize hM : pm (abs x) = M at *
    generalize he : pe (abs x) = e at *
    have t1 := ru321 x; have t2 := ru322 x; have t3 := ru323 x; have t4 := ru324 x; have t5 := ru325 x; have t6 := ru326 x; have t7 := ru327 x
    have t8 := ru328 x; have t9 := ru329 x; have t10 := ru3210 x; have t11 := ru3211 x; have t12 := ru3212 x; have t13 := ru3213 x
    rw [he] at t1
    rw [he, hM] at t2 t3 t4 t5 t6 t7 t8 t9 t10 t11 t12 t13
    by_cases h32 : e ≥ 32
    · obtain ⟨k, hk⟩ : ∃ k : Nat, e = (k + 32 : Nat) := ⟨(e - 32).toNat, by omega⟩
      have hq := wu hk
      have hz : q % 4294967296 = 0 := by
        rw [hq, Nat.pow_add, ← Nat.mul_assoc]
        exact Nat.mul_mod_left _ _
      have := key (n := 0) (by rw [hz]; rfl)
      have hres : u32N x = 0 := by
        cases hf : flt .f64 x 0 with
        | true => rw [← this.1 hf]; rfl
        | false => exact (this.2 hf).symm
      rw [hres]
      exact t1 ⟨hfin, haw, ha, has, decide_eq_true h32, trivial⟩
    · have d1 : decide (e ≥ 32) = false := decide_eq_false h32
      by_cases h0 : e ≥ 0
      · have d2 : decide (e ≥ 0) = true := decide_eq_true h0
        obtain ⟨k, hk⟩ : ∃ k : Nat, e = (k : Nat) := ⟨e.toNat, by omega⟩
        have hq := wu hk
        by_cases hM0 : M = 0
        · have d3 : decide (((dig M).length : Int) > 0) = false := by
            rw [decide_eq_false_iff_not]
            have := (dig_len_pos M).1
            intro h
            exact this (by omega) hM0
          have hz : q % 4294967296 = 0 := by rw [hq, hM0, Nat.zero_mul]
          have := key (n := 0) (by rw [hz]; rfl)
          have hres : u32N x = 0 := by
            cases hf : flt .f64 x 0 with
            | true => rw [← this.1 hf]; rfl
            | false => exact (this.2 hf).symm
          rw [hres]
          cases hf : flt .f64 x 0 with
          | true => exact t4 ⟨hfin, haw, ha, has, d1, d2, d3, hf, trivial⟩
          | false => exact t5 ⟨hfin, haw, ha, has, d1, d2, d3, hf, trivial⟩
        · have hlen := (dig_len_pos M).2 hM0
          have d3 : decide (((dig M).length : Int) > 0) = true := decide_eq_true (by omega)
          have hk32 : min (e % 18446744073709551616).toNat 32 = k := by omega
          have hn : (dig M).getD 0 0 * (2 : Int) ^ k % 4294967296 = ((q % 4294967296 : Nat) : Int) := by
            rw [dig_first, hq, show (2 : Int) ^ k = ((2 ^ k : Nat) : Int) from by rw [Int.natCast_pow]; rfl, ← Int.natCast_mul]
            rw [show (4294967296 : Int) = ((4294967296 : Nat) : Int) from rfl, ← Int.natCast_emod, Nat.mod_mul_mod]
          rw [hk32, hn] at t2 t3
          have := key rfl
          cases hf : flt .f64 x 0 with
          | true =>
            have r := t2 ⟨hfin, haw, ha, has, d1, d2, d3, by omega, by omega, hf, trivial⟩
            rw [this.1 hf] at r
            exact r
          | false =>
            have r := t3 ⟨hfin, haw, ha, has, d1, d2, d3, by omega, by omega, hf, trivial⟩
            rw [this.2 hf] at r
            exact r
      · have d2 : decide (e ≥ 0) = false := decide_eq_false h0
        obtain ⟨k, hk⟩ : ∃ k : Nat, e = -(k : Int) := ⟨(-e).toNat, by omega⟩
        have hq := wd hk
        have hsh : (ShrN (nat (dig M)) (0 - e)).1 = dig (M / 2 ^ k) := by
          rw [nat_dig]
          unfold ShrN
          rw [if_neg (by omega), show (0 - e).toNat = k by omega]
        have r1 : inR IntKind.i64 (0 - e) := by simp only [inR]; omega
        have r2 : (dig M).length ≤ lim4 := by unfold lim4; omega
        have hw' := words_dig M
        rw [hsh] at t6 t7 t8 t9 t10 t11 t12 t13
        rw [← hq] at t6 t7 t8 t9 t10 t11 t12 t13
        rw [dig_first] at t6 t7 t10 t11
        have kq := key (n := ((q % 4294967296 : Nat) : Int)) rfl
        by_cases hq0 : q = 0
        · have d3 : decide (((dig q).length : Int) > 0) = false := by
            rw [decide_eq_false_iff_not]
            have := (dig_len_pos q).1
            intro h
            exact this (by omega) hq0
          have hres : u32N x = 0 := by
            rw [hq0] at kq
            cases hf : flt .f64 x 0 with
            | true => rw [← kq.1 hf]; rfl
            | false => exact (kq.2 hf).symm
          rw [hres]
          cases hl2 : (ShrN (nat (dig M)) (0 - e)).2 with
          | true =>
            cases hf : flt .f64 x 0 with
            | true => exact t8 ⟨hfin, haw, ha, has, d1, d2, r1, hw', r2, hl2, d3, hf, trivial⟩
            | false => exact t9 ⟨hfin, haw, ha, has, d1, d2, r1, hw', r2, hl2, d3, hf, trivial⟩
          | false =>
            cases hf : flt .f64 x 0 with
            | true => exact t12 ⟨hfin, haw, ha, has, d1, d2, r1, hw', r2, hl2, d3, hf, trivial⟩
            | false => exact t13 ⟨hfin, haw, ha, has, d1, d2, r1, hw', r2, hl2, d3, hf, trivial⟩
        · have hlen := (dig_len_pos q).2 hq0
          have d3 : decide (((dig q).length : Int) > 0) = true := decide_eq_true (by omega)
          cases hl2 : (ShrN (nat (dig M)) (0 - e)).2 with
          | true =>
            cases hf : flt .f64 x 0 with
            | true =>
              have r := t6 ⟨hfin, haw, ha, has, d1, d2, r1, hw', r2, hl2, d3, by omega, hf, trivial⟩
              rw [kq.1 hf] at r
              exact r
            | false =>
              have r := t7 ⟨hfin, haw, ha, has, d1, d2, r1, hw', r2, hl2, d3, by omega, hf, trivial⟩
              rw [kq.2 hf] at r
              exact r
          | false =>
            cases hf : flt .f64 x 0 with
            | true =>
              have r := t10 ⟨hfin, haw, ha, has, d1, d2, r1, hw', r2, hl2, d3, by omega, hf, trivial⟩
              rw [kq.1 hf] at r
              exact r
            | false =>
              have r := t11 ⟨hfin, haw, ha, has, d1, d2, r1, hw', r2, hl2, d3, by omega, hf, trivial⟩
              rw [kq.2 hf] at r
              exact r
end Go.Proofs.Nu

/- Numbers: the table with both Uint32. -/
set_option maxRecDepth 100000
namespace Go.Proofs.Nu
open Go Go.Ev
theorem sigRU32_ok : ∀ ys r c, sigU32 ys = some (r, c) → AllP c → PureTo Try.prog 38 ys r := by
  intro ys r c hs hc
  unfold sigU32 at hs
  split at hs
  · cases hs; exact ru32_c hc.1
  · cases hs
def SM8 : SGT := (38, .p sigU32) :: SM7
theorem soM8 : SigsOK Try.prog SM8 := sigs_cons soM7 sigRU32_ok
end Go.Proofs.Nu

/- Numbers: walks, written by the tool. -/
set_option maxRecDepth 100000
namespace Go.Proofs.Nu
open Go Go.Ev

-- 1 paths
theorem ri321 (x : Nat) (h : AllP [FWord x]) : PureTo Try.prog 37 [.v (.float .f64 x)] (AV.v (.int .i32 (IntKind.i32.wrap (u32N x)))) :=
  evFn_pure hm soM8 (fn := Try.f37) rfl rfl (ti := false) (hs := []) (c := _) (by kernel_rfl) h
-- 1 paths
theorem ru161 (x : Nat) (h : AllP [FWord x]) : PureTo Try.prog 40 [.v (.float .f64 x)] (AV.v (.int .u16 (u32N x % (65536 : Int)))) :=
  evFn_pure hm soM8 (fn := Try.f40) rfl rfl (ti := false) (hs := []) (c := _) (by kernel_rfl) h
-- 2 paths
theorem integ1 (x : Nat) (h : AllP [isNaN x = true]) : PureTo Try.prog 35 [.v (.float .f64 x)] (AV.v (.float FloatKind.f64 0)) :=
  evFn_pure hm soM8 (fn := Try.f35) rfl rfl (ti := false) (hs := [CHint.ops 1 [(1, Hint.b true)]]) (c := _) (by kernel_rfl) h
theorem integ2 (x : Nat) (h : AllP [isNaN x = false]) : PureTo Try.prog 35 [.v (.float .f64 x)] (AV.fl FloatKind.f64 (intW Ieee.Toward.zero x)) :=
  evFn_pure hm soM8 (fn := Try.f35) rfl rfl (ti := false) (hs := [CHint.ops 1 [(1, Hint.b false)]]) (c := _) (by kernel_rfl) h
-- 2 paths
theorem rinteg1 (x : Nat) (h : AllP [isNaN x = true]) : PureTo Try.prog 36 [.v (.float .f64 x)] (AV.v (.float FloatKind.f64 0)) :=
  evFn_pure hm soM8 (fn := Try.f36) rfl rfl (ti := false) (hs := [CHint.ops 1 [(1, Hint.b true)]]) (c := _) (by kernel_rfl) h
theorem rinteg2 (x : Nat) (h : AllP [isNaN x = false]) : PureTo Try.prog 36 [.v (.float .f64 x)] (AV.fl FloatKind.f64 (intW Ieee.Toward.zero x)) :=
  evFn_pure hm soM8 (fn := Try.f36) rfl rfl (ti := false) (hs := [CHint.ops 1 [(1, Hint.b false)]]) (c := _) (by kernel_rfl) h
-- 4 paths
theorem index1 (x : Nat) (h : AllP [(fgt FloatKind.f64 x 0 || feq FloatKind.f64 x 0) = true, (flt FloatKind.f64 x 4751297606871678976 || feq FloatKind.f64 x 4751297606871678976) = true, feq FloatKind.f64 x (intW Ieee.Toward.zero x) = true, fhasI x, inR IntKind.u32 (ftoI x)]) : PureTo Try.prog 33 [.v (.float .f64 x)] (AV.tup [AV.v (.int .u32 (ftoI x)), AV.v (.bool true)]) :=
  evFn_pure hm soM8 (fn := Try.f33) rfl rfl (ti := false) (hs := [CHint.ops 1 [(1, Hint.b true), (4, Hint.b true), (10, Hint.b true)]]) (c := _) (by kernel_rfl) h
theorem index2 (x : Nat) (h : AllP [(fgt FloatKind.f64 x 0 || feq FloatKind.f64 x 0) = true, (flt FloatKind.f64 x 4751297606871678976 || feq FloatKind.f64 x 4751297606871678976) = true, feq FloatKind.f64 x (intW Ieee.Toward.zero x) = false]) : PureTo Try.prog 33 [.v (.float .f64 x)] (AV.tup [AV.v (.int .u32 (0 : Int)), AV.v (.bool false)]) :=
  evFn_pure hm soM8 (fn := Try.f33) rfl rfl (ti := false) (hs := [CHint.ops 1 [(1, Hint.b true), (4, Hint.b true), (10, Hint.b false)]]) (c := _) (by kernel_rfl) h
theorem index3 (x : Nat) (h : AllP [(fgt FloatKind.f64 x 0 || feq FloatKind.f64 x 0) = true, (flt FloatKind.f64 x 4751297606871678976 || feq FloatKind.f64 x 4751297606871678976) = false]) : PureTo Try.prog 33 [.v (.float .f64 x)] (AV.tup [AV.v (.int .u32 (0 : Int)), AV.v (.bool false)]) :=
  evFn_pure hm soM8 (fn := Try.f33) rfl rfl (ti := false) (hs := [CHint.ops 1 [(1, Hint.b true), (4, Hint.b false)]]) (c := _) (by kernel_rfl) h
theorem index4 (x : Nat) (h : AllP [(fgt FloatKind.f64 x 0 || feq FloatKind.f64 x 0) = false]) : PureTo Try.prog 33 [.v (.float .f64 x)] (AV.tup [AV.v (.int .u32 (0 : Int)), AV.v (.bool false)]) :=
  evFn_pure hm soM8 (fn := Try.f33) rfl rfl (ti := false) (hs := [CHint.ops 1 [(1, Hint.b false)]]) (c := _) (by kernel_rfl) h
-- 4 paths
theorem rindex1 (x : Nat) (h : AllP [(fgt FloatKind.f64 x 0 || feq FloatKind.f64 x 0) = true, fgt FloatKind.f64 x 4751297606871678976 = true]) : PureTo Try.prog 34 [.v (.float .f64 x)] (AV.tup [AV.v (.int .u32 (0 : Int)), AV.v (.bool false)]) :=
  evFn_pure hm soM8 (fn := Try.f34) rfl rfl (ti := false) (hs := [CHint.ops 1 [(1, Hint.b true), (5, Hint.b true)]]) (c := _) (by kernel_rfl) h
theorem rindex2 (x : Nat) (h : AllP [(fgt FloatKind.f64 x 0 || feq FloatKind.f64 x 0) = true, fgt FloatKind.f64 x 4751297606871678976 = false, (!feq FloatKind.f64 (intW Ieee.Toward.zero x) x) = true]) : PureTo Try.prog 34 [.v (.float .f64 x)] (AV.tup [AV.v (.int .u32 (0 : Int)), AV.v (.bool false)]) :=
  evFn_pure hm soM8 (fn := Try.f34) rfl rfl (ti := false) (hs := [CHint.ops 1 [(1, Hint.b true), (5, Hint.b false), (11, Hint.b true)]]) (c := _) (by kernel_rfl) h
theorem rindex3 (x : Nat) (h : AllP [(fgt FloatKind.f64 x 0 || feq FloatKind.f64 x 0) = true, fgt FloatKind.f64 x 4751297606871678976 = false, (!feq FloatKind.f64 (intW Ieee.Toward.zero x) x) = false, fhasI x, inR IntKind.u32 (ftoI x)]) : PureTo Try.prog 34 [.v (.float .f64 x)] (AV.tup [AV.v (.int .u32 (ftoI x)), AV.v (.bool true)]) :=
  evFn_pure hm soM8 (fn := Try.f34) rfl rfl (ti := false) (hs := [CHint.ops 1 [(1, Hint.b true), (5, Hint.b false), (11, Hint.b false)]]) (c := _) (by kernel_rfl) h
theorem rindex4 (x : Nat) (h : AllP [(fgt FloatKind.f64 x 0 || feq FloatKind.f64 x 0) = false]) : PureTo Try.prog 34 [.v (.float .f64 x)] (AV.tup [AV.v (.int .u32 (0 : Int)), AV.v (.bool false)]) :=
  evFn_pure hm soM8 (fn := Try.f34) rfl rfl (ti := false) (hs := [CHint.ops 1 [(1, Hint.b false)]]) (c := _) (by kernel_rfl) h
end Go.Proofs.Nu

/- Numbers: Integer, Index, Int32, Uint16, and the reference's. -/
set_option maxRecDepth 100000
set_option exponentiation.threshold 2200
namespace Go.Proofs.Nu
open Go Go.Ev

/-- Integer -/
def integW (x : Nat) : Nat := if isNaN x = true then 0 else intW .zero x
theorem trunc_num {x : Nat} (hw : FWord x) (hx : Num x) : Num (intW .zero x) ∧ FWord (intW .zero x) := by
  by_cases h : Fit x
  · obtain ⟨t, t1, t2, t3⟩ := trunc_V h
    rw [t3]
    exact ⟨num_word (Nat.le_of_lt t1), word_wordOf (Nat.le_of_lt t1)⟩
  · have hi : rg x = 9218868437227405312 := by unfold Fit at h; unfold Num at hx; omega
    rw [intW_inf .zero hw hi]
    exact ⟨hx, hw⟩
theorem integ_c {x : Nat} (hw : FWord x) : PureTo Try.prog 35 [.v (.float .f64 x)] (.v (.float .f64 (integW x))) ∧ PureTo Try.prog 36 [.v (.float .f64 x)] (.v (.float .f64 (integW x))) := by
  unfold integW
  cases h : isNaN x with
  | true => exact ⟨integ1 x ⟨h, trivial⟩, rinteg1 x ⟨h, trivial⟩⟩
  | false =>
    have hn := num_iff.1 (trunc_num hw (isNaN_num.1 h)).1
    exact ⟨(integ2 x ⟨h, trivial⟩).ans (.num _ hn), (rinteg2 x ⟨h, trivial⟩).ans (.num _ hn)⟩

def c94 : Nat := 4751297606871678976
theorem fit_c94 : Fit c94 := by decide
theorem V_c94 : V c94 = ((4294967294 * U : Nat) : Int) := by
  have e1 : sigM (rg c94) = 9007199250546688 := by decide
  have e2 : sigK (rg c94) = 1053 := by decide
  have h2 : sg c94 = false := by decide
  have h1 : V c94 = sv (sg c94) (sigM (rg c94) * 2 ^ sigK (rg c94)) := rfl
  rw [h1, h2, e1, e2, sv_pos]
  have e3 : (9007199250546688 : Nat) = 4294967294 * 2 ^ 21 := by decide
  rw [e3, Nat.mul_assoc]
  unfold U
  rw [← Nat.pow_add]
theorem le_V {r y : Nat} (hr : Num r) (hy : Num y) : (flt FloatKind.f64 r y || feq FloatKind.f64 r y) = decide (V r ≤ V y) := by
  rw [flt_V hr hy, feq_V hr hy]
  by_cases h : V r < V y
  · rw [decide_eq_true h, decide_eq_true (by omega : V r ≤ V y)]; rfl
  · rw [decide_eq_false h, Bool.false_or]
    by_cases h2 : V r = V y
    · rw [decide_eq_true h2, decide_eq_true (by omega)]
    · rw [decide_eq_false h2, decide_eq_false (by omega)]
theorem le_scale {a b u : Nat} (hu : 0 < u) (h : a * u ≤ b * u) : a ≤ b := Nat.le_of_mul_le_mul_right h hu
theorem div_bound {n a u : Nat} (hu : 0 < u) (h : n ≤ a * u) : n / u ≤ a := by
  have := Nat.div_le_div_right (c := u) h
  rwa [Nat.mul_div_cancel _ hu] at this

theorem index_both {x : Nat} (hw : FWord x) : ∃ n b, PureTo Try.prog 33 [.v (.float .f64 x)] (.tup [.v (.int .u32 n), .v (.bool b)]) ∧ PureTo Try.prog 34 [.v (.float .f64 x)] (.tup [.v (.int .u32 n), .v (.bool b)]) := by
  cases h0 : (fgt FloatKind.f64 x 0 || feq FloatKind.f64 x 0) with
  | false => exact ⟨_, _, index4 x ⟨h0, trivial⟩, rindex4 x ⟨h0, trivial⟩⟩
  | true =>
    have hn : Num x := by
      rcases Classical.em (Num x) with h | h
      · exact h
      · obtain ⟨a, b, c⟩ := nan_cmp (x := x) (y := 0) (.inl h)
        rw [b, c] at h0
        cases h0
    have hc : (4751297606871678976 : Nat) = c94 := rfl
    have hgt : fgt FloatKind.f64 x c94 = !(flt FloatKind.f64 x c94 || feq FloatKind.f64 x c94) := by
      rw [le_V hn fit_c94.num, fgt_V hn fit_c94.num]
      by_cases h : V x ≤ V c94
      · rw [decide_eq_true h, decide_eq_false (by omega)]; rfl
      · rw [decide_eq_false h, decide_eq_true (by omega)]; rfl
    cases h1 : (flt FloatKind.f64 x c94 || feq FloatKind.f64 x c94) with
    | false => exact ⟨_, _, index3 x ⟨h0, h1, trivial⟩, rindex1 x ⟨h0, by rw [hc, hgt, h1]; rfl, trivial⟩⟩
    | true =>
      have hg : fgt FloatKind.f64 x 4751297606871678976 = false := by rw [hc, hgt, h1]; rfl
      obtain ⟨t1, t2⟩ := trunc_num hw hn
      have hsym : feq .f64 (intW .zero x) x = feq .f64 x (intW .zero x) := by
        rw [feq_V t1 hn, feq_V hn t1]
        by_cases h : V x = V (intW .zero x)
        · rw [decide_eq_true h, decide_eq_true h.symm]
        · rw [decide_eq_false h, decide_eq_false fun h2 => h h2.symm]
      cases h2 : feq .f64 x (intW .zero x) with
      | false => exact ⟨_, _, index2 x ⟨h0, h1, h2, trivial⟩, rindex2 x ⟨h0, hg, by rw [hsym, h2]; rfl, trivial⟩⟩
      | true =>
        rw [ge_V hn fin_zero.num, V_null, decide_eq_true_eq] at h0
        have h0' := h0
        rw [le_V hn fit_c94.num, decide_eq_true_eq] at h1
        have hx : Fit x := by
          unfold Fit
          rcases Nat.lt_or_eq_of_le hn with h | h
          · exact h
          · exfalso
            have e1 : V x = valN 9218868437227405312 := by
              have e := wordOf_of hw
              cases hs : sg x with
              | true => have := V_neg hs; have := V_zero.1 (by omega : V x = 0); omega
              | false => unfold V; rw [hs, h]; rfl
            have e2 : V c94 = valN (rg c94) := rfl
            have e3 := valN_lt (show rg c94 < 9218868437227405312 by decide)
            omega
        obtain ⟨i1, i2⟩ := ftoI_V hx
        have hr : inR .u32 (ftoI x) := by
          rw [i2]
          rw [V_c94] at h1
          cases hs : sg x with
          | true =>
            have h3 := V_neg hs
            have h4 := V_zero.1 (by omega : V x = 0)
            rw [h4, valN_zero, Nat.zero_div, sv_zero]
            simp only [inR]; omega
          | false =>
            rw [sv_pos]
            have h3 : V x = valN (rg x) := by unfold V; rw [hs]; rfl
            rw [h3] at h1
            have h4 := div_bound U_pos (Int.ofNat_le.1 h1)
            generalize valN (rg x) / U = q at *
            simp only [inR]
            omega
        have h0b : (fgt FloatKind.f64 x 0 || feq FloatKind.f64 x 0) = true := by rw [ge_V hn fin_zero.num, V_null, decide_eq_true h0']
        have h1b : (flt FloatKind.f64 x 4751297606871678976 || feq FloatKind.f64 x 4751297606871678976) = true := by rw [hc, le_V hn fit_c94.num, decide_eq_true h1]
        exact ⟨_, _, index1 x ⟨h0b, h1b, h2, i1, hr, trivial⟩, rindex3 x ⟨h0b, hg, by rw [hsym, h2]; rfl, i1, hr, trivial⟩⟩

def sigInteg : List AV → Option (AV × List Prop)
  | [.v (.float .f64 x)] => some (.v (.float .f64 (integW x)), [FWord x])
  | _ => none
theorem sigInteg_ok : ∀ ys r c, sigInteg ys = some (r, c) → AllP c → PureTo Try.prog 35 ys r ∧ PureTo Try.prog 36 ys r := by
  intro ys r c hs hc
  unfold sigInteg at hs
  split at hs
  · cases hs; exact integ_c hc.1
  · cases hs
theorem sigRI32_ok : ∀ ys r c, sigI32 ys = some (r, c) → AllP c → PureTo Try.prog 37 ys r := by
  intro ys r c hs hc
  unfold sigI32 at hs
  split at hs
  · cases hs; exact ri321 _ ⟨hc.1, trivial⟩
  · cases hs
def SM9 : SGT := (35, .p sigInteg) :: (36, .p sigInteg) :: (37, .p sigI32) :: SM8
theorem soM9 : SigsOK Try.prog SM9 := sigs_cons (sigs_cons (sigs_cons soM8 sigRI32_ok) fun ys r c hs hc => (sigInteg_ok ys r c hs hc).2) fun ys r c hs hc => (sigInteg_ok ys r c hs hc).1
end Go.Proofs.Nu

/- Numbers: walks, written by the tool. -/
set_option maxRecDepth 100000
namespace Go.Proofs.Nu
open Go Go.Ev

-- 3 paths
theorem place1 (x : Nat) (a b : Int) (h : AllP [FWord x, (fgt FloatKind.f64 (integW x) 4890909195324358656 || feq FloatKind.f64 (integW x) 4890909195324358656) = true]) : PureTo Try.prog 41 [.v (.float .f64 x), .v (.int .i64 a), .v (.int .i64 b)] (AV.v (.int .i64 (if b < if a > (9223372036854775807 : Int) then a else (9223372036854775807 : Int) then b else if a > (9223372036854775807 : Int) then a else (9223372036854775807 : Int)))) :=
  evFn_pure hm soM9 (fn := Try.f41) rfl rfl (ti := false) (hs := [CHint.ops 4 [(1, Hint.b true)]]) (c := _) (by kernel_rfl) h
theorem place2 (x : Nat) (a b : Int) (h : AllP [FWord x, (fgt FloatKind.f64 (integW x) 4890909195324358656 || feq FloatKind.f64 (integW x) 4890909195324358656) = false, flt FloatKind.f64 (integW x) 14114281232179134464 = true]) : PureTo Try.prog 41 [.v (.float .f64 x), .v (.int .i64 a), .v (.int .i64 b)] (AV.v (.int .i64 (if b < if a > (-9223372036854775808 : Int) then a else (-9223372036854775808 : Int) then b else if a > (-9223372036854775808 : Int) then a else (-9223372036854775808 : Int)))) :=
  evFn_pure hm soM9 (fn := Try.f41) rfl rfl (ti := false) (hs := [CHint.ops 4 [(1, Hint.b false)], CHint.ops 6 [(1, Hint.b true)]]) (c := _) (by kernel_rfl) h
theorem place3 (x : Nat) (a b : Int) (h : AllP [FWord x, (fgt FloatKind.f64 (integW x) 4890909195324358656 || feq FloatKind.f64 (integW x) 4890909195324358656) = false, flt FloatKind.f64 (integW x) 14114281232179134464 = false, fhasI (integW x), inR IntKind.i64 (ftoI (integW x))]) : PureTo Try.prog 41 [.v (.float .f64 x), .v (.int .i64 a), .v (.int .i64 b)] (AV.v (.int .i64 (if b < if a > ftoI (integW x) then a else ftoI (integW x) then b else if a > ftoI (integW x) then a else ftoI (integW x)))) :=
  evFn_pure hm soM9 (fn := Try.f41) rfl rfl (ti := false) (hs := [CHint.ops 4 [(1, Hint.b false)], CHint.ops 6 [(1, Hint.b false)]]) (c := _) (by kernel_rfl) h
-- 9 paths
theorem rplace1 (x : Nat) (a b : Int) (h : AllP [decide (b < a) = true]) : PureTo Try.prog 42 [.v (.float .f64 x), .v (.int .i64 a), .v (.int .i64 b)] (AV.v (.int .i64 b)) :=
  evFn_pure hm soM9 (fn := Try.f42) rfl rfl (ti := false) (hs := [CHint.ops 1 [(2, Hint.b true)]]) (c := _) (by kernel_rfl) h
theorem rplace2 (x : Nat) (a b : Int) (h : AllP [decide (b < a) = false, FWord x, (fgt FloatKind.f64 (integW x) 4890909195324358656 || feq FloatKind.f64 (integW x) 4890909195324358656) = true]) : PureTo Try.prog 42 [.v (.float .f64 x), .v (.int .i64 a), .v (.int .i64 b)] (AV.v (.int .i64 b)) :=
  evFn_pure hm soM9 (fn := Try.f42) rfl rfl (ti := false) (hs := [CHint.ops 1 [(2, Hint.b false)], CHint.ops 4 [(1, Hint.b true)]]) (c := _) (by kernel_rfl) h
theorem rplace3 (x : Nat) (a b : Int) (h : AllP [decide (b < a) = false, FWord x, (fgt FloatKind.f64 (integW x) 4890909195324358656 || feq FloatKind.f64 (integW x) 4890909195324358656) = false, fgt FloatKind.f64 (integW x) 14114281232179134464 = true, fhasI (integW x), inR IntKind.i64 (ftoI (integW x)), decide (ftoI (integW x) > b) = true]) : PureTo Try.prog 42 [.v (.float .f64 x), .v (.int .i64 a), .v (.int .i64 b)] (AV.v (.int .i64 b)) :=
  evFn_pure hm soM9 (fn := Try.f42) rfl rfl (ti := false) (hs := [CHint.ops 1 [(2, Hint.b false)], CHint.ops 4 [(1, Hint.b false), (4, Hint.b true), (9, Hint.b true)]]) (c := _) (by kernel_rfl) h
theorem rplace4 (x : Nat) (a b : Int) (h : AllP [decide (b < a) = false, FWord x, (fgt FloatKind.f64 (integW x) 4890909195324358656 || feq FloatKind.f64 (integW x) 4890909195324358656) = false, fgt FloatKind.f64 (integW x) 14114281232179134464 = true, fhasI (integW x), inR IntKind.i64 (ftoI (integW x)), decide (ftoI (integW x) > b) = false, (flt FloatKind.f64 (integW x) 14114281232179134464 || feq FloatKind.f64 (integW x) 14114281232179134464) = true]) : PureTo Try.prog 42 [.v (.float .f64 x), .v (.int .i64 a), .v (.int .i64 b)] (AV.v (.int .i64 a)) :=
  evFn_pure hm soM9 (fn := Try.f42) rfl rfl (ti := false) (hs := [CHint.ops 1 [(2, Hint.b false)], CHint.ops 4 [(1, Hint.b false), (4, Hint.b true), (9, Hint.b false)], CHint.ops 6 [(1, Hint.b true)]]) (c := _) (by kernel_rfl) h
theorem rplace5 (x : Nat) (a b : Int) (h : AllP [decide (b < a) = false, FWord x, (fgt FloatKind.f64 (integW x) 4890909195324358656 || feq FloatKind.f64 (integW x) 4890909195324358656) = false, fgt FloatKind.f64 (integW x) 14114281232179134464 = true, fhasI (integW x), inR IntKind.i64 (ftoI (integW x)), decide (ftoI (integW x) > b) = false, (flt FloatKind.f64 (integW x) 14114281232179134464 || feq FloatKind.f64 (integW x) 14114281232179134464) = false, fhasI (integW x), inR IntKind.i64 (ftoI (integW x)), decide (ftoI (integW x) < a) = true]) : PureTo Try.prog 42 [.v (.float .f64 x), .v (.int .i64 a), .v (.int .i64 b)] (AV.v (.int .i64 a)) :=
  evFn_pure hm soM9 (fn := Try.f42) rfl rfl (ti := false) (hs := [CHint.ops 1 [(2, Hint.b false)], CHint.ops 4 [(1, Hint.b false), (4, Hint.b true), (9, Hint.b false)], CHint.ops 6 [(1, Hint.b false), (6, Hint.b true)]]) (c := _) (by kernel_rfl) h
theorem rplace6 (x : Nat) (a b : Int) (h : AllP [decide (b < a) = false, FWord x, (fgt FloatKind.f64 (integW x) 4890909195324358656 || feq FloatKind.f64 (integW x) 4890909195324358656) = false, fgt FloatKind.f64 (integW x) 14114281232179134464 = true, fhasI (integW x), inR IntKind.i64 (ftoI (integW x)), decide (ftoI (integW x) > b) = false, (flt FloatKind.f64 (integW x) 14114281232179134464 || feq FloatKind.f64 (integW x) 14114281232179134464) = false, fhasI (integW x), inR IntKind.i64 (ftoI (integW x)), decide (ftoI (integW x) < a) = false, fhasI (integW x), inR IntKind.i64 (ftoI (integW x))]) : PureTo Try.prog 42 [.v (.float .f64 x), .v (.int .i64 a), .v (.int .i64 b)] (AV.v (.int .i64 (ftoI (integW x)))) :=
  evFn_pure hm soM9 (fn := Try.f42) rfl rfl (ti := false) (hs := [CHint.ops 1 [(2, Hint.b false)], CHint.ops 4 [(1, Hint.b false), (4, Hint.b true), (9, Hint.b false)], CHint.ops 6 [(1, Hint.b false), (6, Hint.b false)]]) (c := _) (by kernel_rfl) h
theorem rplace7 (x : Nat) (a b : Int) (h : AllP [decide (b < a) = false, FWord x, (fgt FloatKind.f64 (integW x) 4890909195324358656 || feq FloatKind.f64 (integW x) 4890909195324358656) = false, fgt FloatKind.f64 (integW x) 14114281232179134464 = false, (flt FloatKind.f64 (integW x) 14114281232179134464 || feq FloatKind.f64 (integW x) 14114281232179134464) = true]) : PureTo Try.prog 42 [.v (.float .f64 x), .v (.int .i64 a), .v (.int .i64 b)] (AV.v (.int .i64 a)) :=
  evFn_pure hm soM9 (fn := Try.f42) rfl rfl (ti := false) (hs := [CHint.ops 1 [(2, Hint.b false)], CHint.ops 4 [(1, Hint.b false), (4, Hint.b false)], CHint.ops 6 [(1, Hint.b true)]]) (c := _) (by kernel_rfl) h
theorem rplace8 (x : Nat) (a b : Int) (h : AllP [decide (b < a) = false, FWord x, (fgt FloatKind.f64 (integW x) 4890909195324358656 || feq FloatKind.f64 (integW x) 4890909195324358656) = false, fgt FloatKind.f64 (integW x) 14114281232179134464 = false, (flt FloatKind.f64 (integW x) 14114281232179134464 || feq FloatKind.f64 (integW x) 14114281232179134464) = false, fhasI (integW x), inR IntKind.i64 (ftoI (integW x)), decide (ftoI (integW x) < a) = true]) : PureTo Try.prog 42 [.v (.float .f64 x), .v (.int .i64 a), .v (.int .i64 b)] (AV.v (.int .i64 a)) :=
  evFn_pure hm soM9 (fn := Try.f42) rfl rfl (ti := false) (hs := [CHint.ops 1 [(2, Hint.b false)], CHint.ops 4 [(1, Hint.b false), (4, Hint.b false)], CHint.ops 6 [(1, Hint.b false), (6, Hint.b true)]]) (c := _) (by kernel_rfl) h
theorem rplace9 (x : Nat) (a b : Int) (h : AllP [decide (b < a) = false, FWord x, (fgt FloatKind.f64 (integW x) 4890909195324358656 || feq FloatKind.f64 (integW x) 4890909195324358656) = false, fgt FloatKind.f64 (integW x) 14114281232179134464 = false, (flt FloatKind.f64 (integW x) 14114281232179134464 || feq FloatKind.f64 (integW x) 14114281232179134464) = false, fhasI (integW x), inR IntKind.i64 (ftoI (integW x)), decide (ftoI (integW x) < a) = false, fhasI (integW x), inR IntKind.i64 (ftoI (integW x))]) : PureTo Try.prog 42 [.v (.float .f64 x), .v (.int .i64 a), .v (.int .i64 b)] (AV.v (.int .i64 (ftoI (integW x)))) :=
  evFn_pure hm soM9 (fn := Try.f42) rfl rfl (ti := false) (hs := [CHint.ops 1 [(2, Hint.b false)], CHint.ops 4 [(1, Hint.b false), (4, Hint.b false)], CHint.ops 6 [(1, Hint.b false), (6, Hint.b false)]]) (c := _) (by kernel_rfl) h
-- 4 paths
theorem runa1 (s : ByteArray) (x : Nat) (h : AllP [(s.toList == (ByteArray.mk #[(45 : UInt8)]).toList) = true]) : PureTo Try.prog 21 [.v (.string s), .v (.float .f64 x)] (AV.tup [AV.v (.float FloatKind.f64 (toldW (fneg x))), AV.v (.int .i64 (0 : Int))]) :=
  evFn_pure hm soM9 (fn := Try.f21) rfl rfl (ti := false) (hs := [CHint.ops 2 [(0, Hint.b true)]]) (c := _) (by kernel_rfl) h
theorem runa2 (s : ByteArray) (x : Nat) (h : AllP [(s.toList == (ByteArray.mk #[(45 : UInt8)]).toList) = false, (s.toList == (ByteArray.mk #[(43 : UInt8)]).toList) = true]) : PureTo Try.prog 21 [.v (.string s), .v (.float .f64 x)] (AV.tup [AV.v (.float FloatKind.f64 (toldW x)), AV.v (.int .i64 (0 : Int))]) :=
  evFn_pure hm soM9 (fn := Try.f21) rfl rfl (ti := false) (hs := [CHint.ops 2 [(0, Hint.b false)], CHint.ops 4 [(0, Hint.b true)]]) (c := _) (by kernel_rfl) h
theorem runa3 (s : ByteArray) (x : Nat) (h : AllP [(s.toList == (ByteArray.mk #[(45 : UInt8)]).toList) = false, (s.toList == (ByteArray.mk #[(43 : UInt8)]).toList) = false, (s.toList == (ByteArray.mk #[(126 : UInt8)]).toList) = true, FWord x]) : PureTo Try.prog 21 [.v (.string s), .v (.float .f64 x)] (AV.tup [AV.v (.float FloatKind.f64 (fofI (bitsOf BinOp.xor IntKind.i32 (if IntKind.i32.signed = true then (-1 : Int) else IntKind.i32.max) (i32N x)))), AV.v (.int .i64 (0 : Int))]) :=
  evFn_pure hm soM9 (fn := Try.f21) rfl rfl (ti := false) (hs := [CHint.ops 2 [(0, Hint.b false)], CHint.ops 4 [(0, Hint.b false)], CHint.ops 6 [(0, Hint.b true)]]) (c := _) (by kernel_rfl) h
theorem runa4 (s : ByteArray) (x : Nat) (h : AllP [(s.toList == (ByteArray.mk #[(45 : UInt8)]).toList) = false, (s.toList == (ByteArray.mk #[(43 : UInt8)]).toList) = false, (s.toList == (ByteArray.mk #[(126 : UInt8)]).toList) = false]) : PureTo Try.prog 21 [.v (.string s), .v (.float .f64 x)] (AV.tup [AV.v (.float FloatKind.f64 0), AV.v (.int .i64 (1 : Int))]) :=
  evFn_pure hm soM9 (fn := Try.f21) rfl rfl (ti := false) (hs := [CHint.ops 2 [(0, Hint.b false)], CHint.ops 4 [(0, Hint.b false)], CHint.ops 6 [(0, Hint.b false)]]) (c := _) (by kernel_rfl) h
end Go.Proofs.Nu

/- Numbers: walks, written by the tool. -/
set_option maxRecDepth 100000
namespace Go.Proofs.Nu
open Go Go.Ev
def leastS0 (l : List Nat) (m : Nat) (x0 : Int) : AS := { n := 21, fr := [(3, AV.v (.float FloatKind.f64 m)), (7, AV.sl 1 (Seq.fn l.length fun (i : Nat) => AV.v (.float FloatKind.f64 (l.getD i 0))) false), (8, AV.v (.int .i64 (↑l.length : Int))), (9, AV.v (.int .i64 x0))], hp := [], nx := 0 }
def leastX0 (l : List Nat) (m : Nat)  : AS := { n := 21, fr := [(3, AV.v (.float FloatKind.f64 m))], hp := [], nx := 0 }
def leastX0_1 (l : List Nat) (m : Nat)  : AS := { n := 21, fr := [(2, AV.v (.float FloatKind.f64 m))], hp := [], nx := 0 }
def rleastS0 (l : List Nat) (m : Nat) (x0 : Int) : AS := { n := 33, fr := [(0, AV.sl 1 (Seq.fn l.length fun (i : Nat) => AV.v (.float FloatKind.f64 (l.getD i 0))) false), (3, AV.v (.float FloatKind.f64 m)), (4, AV.v (.int .i64 x0))], hp := [], nx := 0 }
def rleastX0 (l : List Nat) (m : Nat)  : AS := { n := 33, fr := [(3, AV.v (.float FloatKind.f64 m))], hp := [], nx := 0 }
def rleastX0_1 (l : List Nat) (m : Nat)  : AS := { n := 33, fr := [(2, AV.v (.float FloatKind.f64 m))], hp := [], nx := 0 }
def mostS0 (l : List Nat) (m : Nat) (x0 : Int) : AS := { n := 21, fr := [(3, AV.v (.float FloatKind.f64 m)), (7, AV.sl 1 (Seq.fn l.length fun (i : Nat) => AV.v (.float FloatKind.f64 (l.getD i 0))) false), (8, AV.v (.int .i64 (↑l.length : Int))), (9, AV.v (.int .i64 x0))], hp := [], nx := 0 }
def mostX0 (l : List Nat) (m : Nat)  : AS := { n := 21, fr := [(3, AV.v (.float FloatKind.f64 m))], hp := [], nx := 0 }
def mostX0_1 (l : List Nat) (m : Nat)  : AS := { n := 21, fr := [(2, AV.v (.float FloatKind.f64 m))], hp := [], nx := 0 }
def rmostS0 (l : List Nat) (m : Nat) (x0 : Int) : AS := { n := 33, fr := [(0, AV.sl 1 (Seq.fn l.length fun (i : Nat) => AV.v (.float FloatKind.f64 (l.getD i 0))) false), (3, AV.v (.float FloatKind.f64 m)), (4, AV.v (.int .i64 x0))], hp := [], nx := 0 }
def rmostX0 (l : List Nat) (m : Nat)  : AS := { n := 33, fr := [(3, AV.v (.float FloatKind.f64 m))], hp := [], nx := 0 }
def rmostX0_1 (l : List Nat) (m : Nat)  : AS := { n := 33, fr := [(2, AV.v (.float FloatKind.f64 m))], hp := [], nx := 0 }
-- 1 paths
theorem own1 (l : List Nat) (h : AllP [l.length * 8 ≤ 140737488355328, l.length = l.length, 0 ≤ l.length, ∀ (i : Nat), i < l.length → (AV.v (.float FloatKind.f64 (l.getD i 0))).cells.all Ev.plain1 = true]) : PureTo Try.prog 51 [.sl 1 (.fn l.length fun i => .v (.float .f64 (l.getD i 0))) false] (AV.sl 1 (Seq.fn l.length fun (i : Nat) => AV.v (.float FloatKind.f64 (l.getD i 0))) false) :=
  evFn_pure hm soM3 (fn := Try.f51) rfl rfl (ti := false) (hs := []) (c := _) (by kernel_rfl) h
-- 3 paths
theorem leastL0_1 (l : List Nat) (m : Nat) (x0 : Int) (h : AllP [decide (x0 < (↑l.length : Int)) = true, (0 : Int) ≤ x0 ∧ x0 < (↑l.length : Int), isNaN (l.getD x0.toNat 0) = true]) : To Try.prog (loopAt Try.f50 0) ({ n := 21, fr := [(3, AV.v (.float FloatKind.f64 m)), (7, AV.sl 1 (Seq.fn l.length fun (i : Nat) => AV.v (.float FloatKind.f64 (l.getD i 0))) false), (8, AV.v (.int .i64 (↑l.length : Int))), (9, AV.v (.int .i64 x0))], hp := [], nx := 0 }) (Exit.ret) { n := 21, fr := [(2, AV.v (.float FloatKind.f64 9221120237041090560))], hp := [], nx := 0 } :=
  evW_to hm soM3 (hs := [CHint.ops 3 [(0, Hint.b true)], CHint.ops 6 [(1, Hint.b true)]]) (slots := [2]) (keys := []) (nx := 0) (c := _) (by kernel_rfl) h
theorem leastL0_2 (l : List Nat) (m : Nat) (x0 : Int) (h : AllP [decide (x0 < (↑l.length : Int)) = true, (0 : Int) ≤ x0 ∧ x0 < (↑l.length : Int), isNaN (l.getD x0.toNat 0) = false, inR IntKind.i64 (x0 + (1 : Int))]) : To Try.prog (loopAt Try.f50 0) ({ n := 21, fr := [(3, AV.v (.float FloatKind.f64 m)), (7, AV.sl 1 (Seq.fn l.length fun (i : Nat) => AV.v (.float FloatKind.f64 (l.getD i 0))) false), (8, AV.v (.int .i64 (↑l.length : Int))), (9, AV.v (.int .i64 x0))], hp := [], nx := 0 }) (.normal) { n := 21, fr := [(3, AV.v (.float FloatKind.f64 (pickW true Ordering.lt m (l.getD x0.toNat 0)))), (7, AV.sl 1 (Seq.fn l.length fun (i : Nat) => AV.v (.float FloatKind.f64 (l.getD i 0))) false), (8, AV.v (.int .i64 (↑l.length : Int))), (9, AV.v (.int .i64 (x0 + (1 : Int))))], hp := [], nx := 0 } :=
  evW_to hm soM3 (hs := [CHint.ops 3 [(0, Hint.b true)], CHint.ops 6 [(1, Hint.b false)]]) (slots := [3, 7, 8, 9]) (keys := []) (nx := 0) (c := _) (by kernel_rfl) h
theorem leastL0_3 (l : List Nat) (m : Nat) (x0 : Int) (h : AllP [decide (x0 < (↑l.length : Int)) = false]) : To Try.prog (loopAt Try.f50 0) ({ n := 21, fr := [(3, AV.v (.float FloatKind.f64 m)), (7, AV.sl 1 (Seq.fn l.length fun (i : Nat) => AV.v (.float FloatKind.f64 (l.getD i 0))) false), (8, AV.v (.int .i64 (↑l.length : Int))), (9, AV.v (.int .i64 x0))], hp := [], nx := 0 }) (Exit.exit 0) { n := 21, fr := [(3, AV.v (.float FloatKind.f64 m))], hp := [], nx := 0 } :=
  evW_to hm soM3 (hs := [CHint.ops 3 [(0, Hint.b false)]]) (slots := [3]) (keys := []) (nx := 0) (c := _) (by kernel_rfl) h
-- 2 paths
theorem leastF1 (l : List Nat) (m : Nat) (h : AllP [LoopTo Try.prog (loopAt Try.f50 0) { n := 21, fr := [(3, AV.v (.float FloatKind.f64 9218868437227405312)), (7, AV.sl 1 (Seq.fn l.length fun (i : Nat) => AV.v (.float FloatKind.f64 (l.getD i 0))) false), (8, AV.v (.int .i64 (↑l.length : Int))), (9, AV.v (.int .i64 (0 : Int)))], hp := [], nx := 0 } (Exit.exit 0) { n := 21, fr := [(3, AV.v (.float FloatKind.f64 m))], hp := [], nx := 0 }]) : PureTo Try.prog 50 [.sl 1 (.fn l.length fun i => .v (.float .f64 (l.getD i 0))) false] (AV.v (.float FloatKind.f64 m)) :=
  evFn_pure hm soM3 (fn := Try.f50) rfl rfl (ti := false) (hs := [CHint.loop [3, 7, 8, 9] [] 0 (Exit.exit 0) { n := 21, fr := [(3, AV.v (.float FloatKind.f64 m))], hp := [], nx := 0 }]) (c := _) (by kernel_rfl) h
theorem leastF2 (l : List Nat) (m : Nat) (h : AllP [LoopTo Try.prog (loopAt Try.f50 0) { n := 21, fr := [(3, AV.v (.float FloatKind.f64 9218868437227405312)), (7, AV.sl 1 (Seq.fn l.length fun (i : Nat) => AV.v (.float FloatKind.f64 (l.getD i 0))) false), (8, AV.v (.int .i64 (↑l.length : Int))), (9, AV.v (.int .i64 (0 : Int)))], hp := [], nx := 0 } Exit.ret { n := 21, fr := [(2, AV.v (.float FloatKind.f64 m))], hp := [], nx := 0 }]) : PureTo Try.prog 50 [.sl 1 (.fn l.length fun i => .v (.float .f64 (l.getD i 0))) false] (AV.v (.float FloatKind.f64 m)) :=
  evFn_pure hm soM3 (fn := Try.f50) rfl rfl (ti := false) (hs := [CHint.loop [3, 7, 8, 9] [] 0 Exit.ret { n := 21, fr := [(2, AV.v (.float FloatKind.f64 m))], hp := [], nx := 0 }]) (c := _) (by kernel_rfl) h
-- 4 paths
theorem rleastL0_1 (l : List Nat) (m : Nat) (x0 : Int) (h : AllP [decide (x0 < (↑l.length : Int)) = true, (0 : Int) ≤ x0 ∧ x0 < (↑l.length : Int), isNaN (l.getD x0.toNat 0) = true, (0 : Int) ≤ x0 ∧ x0 < (↑l.length : Int)]) : To Try.prog (loopAt Try.f52 0) ({ n := 33, fr := [(0, AV.sl 1 (Seq.fn l.length fun (i : Nat) => AV.v (.float FloatKind.f64 (l.getD i 0))) false), (3, AV.v (.float FloatKind.f64 m)), (4, AV.v (.int .i64 x0))], hp := [], nx := 0 }) (Exit.ret) { n := 33, fr := [(2, AV.v (.float FloatKind.f64 (toldW (l.getD x0.toNat 0))))], hp := [], nx := 0 } :=
  evW_to hm soM3 (hs := [CHint.ops 3 [(3, Hint.b true)], CHint.ops 5 [(4, Hint.b true)]]) (slots := [2]) (keys := []) (nx := 0) (c := _) (by kernel_rfl) h
theorem rleastL0_2 (l : List Nat) (m : Nat) (x0 : Int) (h : AllP [decide (x0 < (↑l.length : Int)) = true, (0 : Int) ≤ x0 ∧ x0 < (↑l.length : Int), isNaN (l.getD x0.toNat 0) = false, (0 : Int) ≤ x0 ∧ x0 < (↑l.length : Int), Nu.ahead (l.getD x0.toNat 0) m = true, (0 : Int) ≤ x0 ∧ x0 < (↑l.length : Int), inR IntKind.i64 (x0 + (1 : Int))]) : To Try.prog (loopAt Try.f52 0) ({ n := 33, fr := [(0, AV.sl 1 (Seq.fn l.length fun (i : Nat) => AV.v (.float FloatKind.f64 (l.getD i 0))) false), (3, AV.v (.float FloatKind.f64 m)), (4, AV.v (.int .i64 x0))], hp := [], nx := 0 }) (.normal) { n := 33, fr := [(0, AV.sl 1 (Seq.fn l.length fun (i : Nat) => AV.v (.float FloatKind.f64 (l.getD i 0))) false), (3, AV.v (.float FloatKind.f64 (l.getD x0.toNat 0))), (4, AV.v (.int .i64 (x0 + (1 : Int))))], hp := [], nx := 0 } :=
  evW_to hm soM3 (hs := [CHint.ops 3 [(3, Hint.b true)], CHint.ops 5 [(4, Hint.b false)], CHint.ops 7 [(5, Hint.b true)]]) (slots := [0, 3, 4]) (keys := []) (nx := 0) (c := _) (by kernel_rfl) h
theorem rleastL0_3 (l : List Nat) (m : Nat) (x0 : Int) (h : AllP [decide (x0 < (↑l.length : Int)) = true, (0 : Int) ≤ x0 ∧ x0 < (↑l.length : Int), isNaN (l.getD x0.toNat 0) = false, (0 : Int) ≤ x0 ∧ x0 < (↑l.length : Int), Nu.ahead (l.getD x0.toNat 0) m = false, inR IntKind.i64 (x0 + (1 : Int))]) : To Try.prog (loopAt Try.f52 0) ({ n := 33, fr := [(0, AV.sl 1 (Seq.fn l.length fun (i : Nat) => AV.v (.float FloatKind.f64 (l.getD i 0))) false), (3, AV.v (.float FloatKind.f64 m)), (4, AV.v (.int .i64 x0))], hp := [], nx := 0 }) (.normal) { n := 33, fr := [(0, AV.sl 1 (Seq.fn l.length fun (i : Nat) => AV.v (.float FloatKind.f64 (l.getD i 0))) false), (3, AV.v (.float FloatKind.f64 m)), (4, AV.v (.int .i64 (x0 + (1 : Int))))], hp := [], nx := 0 } :=
  evW_to hm soM3 (hs := [CHint.ops 3 [(3, Hint.b true)], CHint.ops 5 [(4, Hint.b false)], CHint.ops 7 [(5, Hint.b false)]]) (slots := [0, 3, 4]) (keys := []) (nx := 0) (c := _) (by kernel_rfl) h
theorem rleastL0_4 (l : List Nat) (m : Nat) (x0 : Int) (h : AllP [decide (x0 < (↑l.length : Int)) = false]) : To Try.prog (loopAt Try.f52 0) ({ n := 33, fr := [(0, AV.sl 1 (Seq.fn l.length fun (i : Nat) => AV.v (.float FloatKind.f64 (l.getD i 0))) false), (3, AV.v (.float FloatKind.f64 m)), (4, AV.v (.int .i64 x0))], hp := [], nx := 0 }) (Exit.exit 0) { n := 33, fr := [(3, AV.v (.float FloatKind.f64 m))], hp := [], nx := 0 } :=
  evW_to hm soM3 (hs := [CHint.ops 3 [(3, Hint.b false)]]) (slots := [3]) (keys := []) (nx := 0) (c := _) (by kernel_rfl) h
-- 2 paths
theorem rleastF1 (l : List Nat) (m : Nat) (h : AllP [LoopTo Try.prog (loopAt Try.f52 0) { n := 33, fr := [(0, AV.sl 1 (Seq.fn l.length fun (i : Nat) => AV.v (.float FloatKind.f64 (l.getD i 0))) false), (3, AV.v (.float FloatKind.f64 9218868437227405312)), (4, AV.v (.int .i64 (0 : Int)))], hp := [], nx := 0 } (Exit.exit 0) { n := 33, fr := [(3, AV.v (.float FloatKind.f64 m))], hp := [], nx := 0 }]) : PureTo Try.prog 52 [.sl 1 (.fn l.length fun i => .v (.float .f64 (l.getD i 0))) false] (AV.v (.float FloatKind.f64 m)) :=
  evFn_pure hm soM3 (fn := Try.f52) rfl rfl (ti := false) (hs := [CHint.loop [0, 3, 4] [] 0 (Exit.exit 0) { n := 33, fr := [(3, AV.v (.float FloatKind.f64 m))], hp := [], nx := 0 }]) (c := _) (by kernel_rfl) h
theorem rleastF2 (l : List Nat) (m : Nat) (h : AllP [LoopTo Try.prog (loopAt Try.f52 0) { n := 33, fr := [(0, AV.sl 1 (Seq.fn l.length fun (i : Nat) => AV.v (.float FloatKind.f64 (l.getD i 0))) false), (3, AV.v (.float FloatKind.f64 9218868437227405312)), (4, AV.v (.int .i64 (0 : Int)))], hp := [], nx := 0 } Exit.ret { n := 33, fr := [(2, AV.v (.float FloatKind.f64 m))], hp := [], nx := 0 }]) : PureTo Try.prog 52 [.sl 1 (.fn l.length fun i => .v (.float .f64 (l.getD i 0))) false] (AV.v (.float FloatKind.f64 m)) :=
  evFn_pure hm soM3 (fn := Try.f52) rfl rfl (ti := false) (hs := [CHint.loop [0, 3, 4] [] 0 Exit.ret { n := 33, fr := [(2, AV.v (.float FloatKind.f64 m))], hp := [], nx := 0 }]) (c := _) (by kernel_rfl) h
-- 3 paths
theorem mostL0_1 (l : List Nat) (m : Nat) (x0 : Int) (h : AllP [decide (x0 < (↑l.length : Int)) = true, (0 : Int) ≤ x0 ∧ x0 < (↑l.length : Int), isNaN (l.getD x0.toNat 0) = true]) : To Try.prog (loopAt Try.f53 0) ({ n := 21, fr := [(3, AV.v (.float FloatKind.f64 m)), (7, AV.sl 1 (Seq.fn l.length fun (i : Nat) => AV.v (.float FloatKind.f64 (l.getD i 0))) false), (8, AV.v (.int .i64 (↑l.length : Int))), (9, AV.v (.int .i64 x0))], hp := [], nx := 0 }) (Exit.ret) { n := 21, fr := [(2, AV.v (.float FloatKind.f64 9221120237041090560))], hp := [], nx := 0 } :=
  evW_to hm soM3 (hs := [CHint.ops 3 [(0, Hint.b true)], CHint.ops 6 [(1, Hint.b true)]]) (slots := [2]) (keys := []) (nx := 0) (c := _) (by kernel_rfl) h
theorem mostL0_2 (l : List Nat) (m : Nat) (x0 : Int) (h : AllP [decide (x0 < (↑l.length : Int)) = true, (0 : Int) ≤ x0 ∧ x0 < (↑l.length : Int), isNaN (l.getD x0.toNat 0) = false, inR IntKind.i64 (x0 + (1 : Int))]) : To Try.prog (loopAt Try.f53 0) ({ n := 21, fr := [(3, AV.v (.float FloatKind.f64 m)), (7, AV.sl 1 (Seq.fn l.length fun (i : Nat) => AV.v (.float FloatKind.f64 (l.getD i 0))) false), (8, AV.v (.int .i64 (↑l.length : Int))), (9, AV.v (.int .i64 x0))], hp := [], nx := 0 }) (.normal) { n := 21, fr := [(3, AV.v (.float FloatKind.f64 (pickW false Ordering.gt m (l.getD x0.toNat 0)))), (7, AV.sl 1 (Seq.fn l.length fun (i : Nat) => AV.v (.float FloatKind.f64 (l.getD i 0))) false), (8, AV.v (.int .i64 (↑l.length : Int))), (9, AV.v (.int .i64 (x0 + (1 : Int))))], hp := [], nx := 0 } :=
  evW_to hm soM3 (hs := [CHint.ops 3 [(0, Hint.b true)], CHint.ops 6 [(1, Hint.b false)]]) (slots := [3, 7, 8, 9]) (keys := []) (nx := 0) (c := _) (by kernel_rfl) h
theorem mostL0_3 (l : List Nat) (m : Nat) (x0 : Int) (h : AllP [decide (x0 < (↑l.length : Int)) = false]) : To Try.prog (loopAt Try.f53 0) ({ n := 21, fr := [(3, AV.v (.float FloatKind.f64 m)), (7, AV.sl 1 (Seq.fn l.length fun (i : Nat) => AV.v (.float FloatKind.f64 (l.getD i 0))) false), (8, AV.v (.int .i64 (↑l.length : Int))), (9, AV.v (.int .i64 x0))], hp := [], nx := 0 }) (Exit.exit 0) { n := 21, fr := [(3, AV.v (.float FloatKind.f64 m))], hp := [], nx := 0 } :=
  evW_to hm soM3 (hs := [CHint.ops 3 [(0, Hint.b false)]]) (slots := [3]) (keys := []) (nx := 0) (c := _) (by kernel_rfl) h
-- 2 paths
theorem mostF1 (l : List Nat) (m : Nat) (h : AllP [LoopTo Try.prog (loopAt Try.f53 0) { n := 21, fr := [(3, AV.v (.float FloatKind.f64 18442240474082181120)), (7, AV.sl 1 (Seq.fn l.length fun (i : Nat) => AV.v (.float FloatKind.f64 (l.getD i 0))) false), (8, AV.v (.int .i64 (↑l.length : Int))), (9, AV.v (.int .i64 (0 : Int)))], hp := [], nx := 0 } (Exit.exit 0) { n := 21, fr := [(3, AV.v (.float FloatKind.f64 m))], hp := [], nx := 0 }]) : PureTo Try.prog 53 [.sl 1 (.fn l.length fun i => .v (.float .f64 (l.getD i 0))) false] (AV.v (.float FloatKind.f64 m)) :=
  evFn_pure hm soM3 (fn := Try.f53) rfl rfl (ti := false) (hs := [CHint.loop [3, 7, 8, 9] [] 0 (Exit.exit 0) { n := 21, fr := [(3, AV.v (.float FloatKind.f64 m))], hp := [], nx := 0 }]) (c := _) (by kernel_rfl) h
theorem mostF2 (l : List Nat) (m : Nat) (h : AllP [LoopTo Try.prog (loopAt Try.f53 0) { n := 21, fr := [(3, AV.v (.float FloatKind.f64 18442240474082181120)), (7, AV.sl 1 (Seq.fn l.length fun (i : Nat) => AV.v (.float FloatKind.f64 (l.getD i 0))) false), (8, AV.v (.int .i64 (↑l.length : Int))), (9, AV.v (.int .i64 (0 : Int)))], hp := [], nx := 0 } Exit.ret { n := 21, fr := [(2, AV.v (.float FloatKind.f64 m))], hp := [], nx := 0 }]) : PureTo Try.prog 53 [.sl 1 (.fn l.length fun i => .v (.float .f64 (l.getD i 0))) false] (AV.v (.float FloatKind.f64 m)) :=
  evFn_pure hm soM3 (fn := Try.f53) rfl rfl (ti := false) (hs := [CHint.loop [3, 7, 8, 9] [] 0 Exit.ret { n := 21, fr := [(2, AV.v (.float FloatKind.f64 m))], hp := [], nx := 0 }]) (c := _) (by kernel_rfl) h
-- 4 paths
theorem rmostL0_1 (l : List Nat) (m : Nat) (x0 : Int) (h : AllP [decide (x0 < (↑l.length : Int)) = true, (0 : Int) ≤ x0 ∧ x0 < (↑l.length : Int), isNaN (l.getD x0.toNat 0) = true, (0 : Int) ≤ x0 ∧ x0 < (↑l.length : Int)]) : To Try.prog (loopAt Try.f54 0) ({ n := 33, fr := [(0, AV.sl 1 (Seq.fn l.length fun (i : Nat) => AV.v (.float FloatKind.f64 (l.getD i 0))) false), (3, AV.v (.float FloatKind.f64 m)), (4, AV.v (.int .i64 x0))], hp := [], nx := 0 }) (Exit.ret) { n := 33, fr := [(2, AV.v (.float FloatKind.f64 (toldW (l.getD x0.toNat 0))))], hp := [], nx := 0 } :=
  evW_to hm soM3 (hs := [CHint.ops 3 [(3, Hint.b true)], CHint.ops 5 [(4, Hint.b true)]]) (slots := [2]) (keys := []) (nx := 0) (c := _) (by kernel_rfl) h
theorem rmostL0_2 (l : List Nat) (m : Nat) (x0 : Int) (h : AllP [decide (x0 < (↑l.length : Int)) = true, (0 : Int) ≤ x0 ∧ x0 < (↑l.length : Int), isNaN (l.getD x0.toNat 0) = false, (0 : Int) ≤ x0 ∧ x0 < (↑l.length : Int), Nu.ahead m (l.getD x0.toNat 0) = true, (0 : Int) ≤ x0 ∧ x0 < (↑l.length : Int), inR IntKind.i64 (x0 + (1 : Int))]) : To Try.prog (loopAt Try.f54 0) ({ n := 33, fr := [(0, AV.sl 1 (Seq.fn l.length fun (i : Nat) => AV.v (.float FloatKind.f64 (l.getD i 0))) false), (3, AV.v (.float FloatKind.f64 m)), (4, AV.v (.int .i64 x0))], hp := [], nx := 0 }) (.normal) { n := 33, fr := [(0, AV.sl 1 (Seq.fn l.length fun (i : Nat) => AV.v (.float FloatKind.f64 (l.getD i 0))) false), (3, AV.v (.float FloatKind.f64 (l.getD x0.toNat 0))), (4, AV.v (.int .i64 (x0 + (1 : Int))))], hp := [], nx := 0 } :=
  evW_to hm soM3 (hs := [CHint.ops 3 [(3, Hint.b true)], CHint.ops 5 [(4, Hint.b false)], CHint.ops 7 [(5, Hint.b true)]]) (slots := [0, 3, 4]) (keys := []) (nx := 0) (c := _) (by kernel_rfl) h
theorem rmostL0_3 (l : List Nat) (m : Nat) (x0 : Int) (h : AllP [decide (x0 < (↑l.length : Int)) = true, (0 : Int) ≤ x0 ∧ x0 < (↑l.length : Int), isNaN (l.getD x0.toNat 0) = false, (0 : Int) ≤ x0 ∧ x0 < (↑l.length : Int), Nu.ahead m (l.getD x0.toNat 0) = false, inR IntKind.i64 (x0 + (1 : Int))]) : To Try.prog (loopAt Try.f54 0) ({ n := 33, fr := [(0, AV.sl 1 (Seq.fn l.length fun (i : Nat) => AV.v (.float FloatKind.f64 (l.getD i 0))) false), (3, AV.v (.float FloatKind.f64 m)), (4, AV.v (.int .i64 x0))], hp := [], nx := 0 }) (.normal) { n := 33, fr := [(0, AV.sl 1 (Seq.fn l.length fun (i : Nat) => AV.v (.float FloatKind.f64 (l.getD i 0))) false), (3, AV.v (.float FloatKind.f64 m)), (4, AV.v (.int .i64 (x0 + (1 : Int))))], hp := [], nx := 0 } :=
  evW_to hm soM3 (hs := [CHint.ops 3 [(3, Hint.b true)], CHint.ops 5 [(4, Hint.b false)], CHint.ops 7 [(5, Hint.b false)]]) (slots := [0, 3, 4]) (keys := []) (nx := 0) (c := _) (by kernel_rfl) h
theorem rmostL0_4 (l : List Nat) (m : Nat) (x0 : Int) (h : AllP [decide (x0 < (↑l.length : Int)) = false]) : To Try.prog (loopAt Try.f54 0) ({ n := 33, fr := [(0, AV.sl 1 (Seq.fn l.length fun (i : Nat) => AV.v (.float FloatKind.f64 (l.getD i 0))) false), (3, AV.v (.float FloatKind.f64 m)), (4, AV.v (.int .i64 x0))], hp := [], nx := 0 }) (Exit.exit 0) { n := 33, fr := [(3, AV.v (.float FloatKind.f64 m))], hp := [], nx := 0 } :=
  evW_to hm soM3 (hs := [CHint.ops 3 [(3, Hint.b false)]]) (slots := [3]) (keys := []) (nx := 0) (c := _) (by kernel_rfl) h
-- 2 paths
theorem rmostF1 (l : List Nat) (m : Nat) (h : AllP [LoopTo Try.prog (loopAt Try.f54 0) { n := 33, fr := [(0, AV.sl 1 (Seq.fn l.length fun (i : Nat) => AV.v (.float FloatKind.f64 (l.getD i 0))) false), (3, AV.v (.float FloatKind.f64 18442240474082181120)), (4, AV.v (.int .i64 (0 : Int)))], hp := [], nx := 0 } (Exit.exit 0) { n := 33, fr := [(3, AV.v (.float FloatKind.f64 m))], hp := [], nx := 0 }]) : PureTo Try.prog 54 [.sl 1 (.fn l.length fun i => .v (.float .f64 (l.getD i 0))) false] (AV.v (.float FloatKind.f64 m)) :=
  evFn_pure hm soM3 (fn := Try.f54) rfl rfl (ti := false) (hs := [CHint.loop [0, 3, 4] [] 0 (Exit.exit 0) { n := 33, fr := [(3, AV.v (.float FloatKind.f64 m))], hp := [], nx := 0 }]) (c := _) (by kernel_rfl) h
theorem rmostF2 (l : List Nat) (m : Nat) (h : AllP [LoopTo Try.prog (loopAt Try.f54 0) { n := 33, fr := [(0, AV.sl 1 (Seq.fn l.length fun (i : Nat) => AV.v (.float FloatKind.f64 (l.getD i 0))) false), (3, AV.v (.float FloatKind.f64 18442240474082181120)), (4, AV.v (.int .i64 (0 : Int)))], hp := [], nx := 0 } Exit.ret { n := 33, fr := [(2, AV.v (.float FloatKind.f64 m))], hp := [], nx := 0 }]) : PureTo Try.prog 54 [.sl 1 (.fn l.length fun i => .v (.float .f64 (l.getD i 0))) false] (AV.v (.float FloatKind.f64 m)) :=
  evFn_pure hm soM3 (fn := Try.f54) rfl rfl (ti := false) (hs := [CHint.loop [0, 3, 4] [] 0 Exit.ret { n := 33, fr := [(2, AV.v (.float FloatKind.f64 m))], hp := [], nx := 0 }]) (c := _) (by kernel_rfl) h
end Go.Proofs.Nu

/- Numbers: the least and the greatest. -/
set_option maxRecDepth 100000
namespace Go.Proofs.Nu
open Go Go.Ev Ieee

def infR : Nat := 9218868437227405312
theorem dec_inf {x : Nat} (hx : Num x) (neg : Bool) : (FloatKind.f64.decode x == .infinity neg) = decide (rg x = infR ∧ sg x = neg) := by
  unfold FloatKind.decode
  unfold Num at hx
  rcases Nat.lt_or_eq_of_le hx with h | h
  · rw [read_fin h, decide_eq_false (fun h2 => by have := h2.1; unfold infR at this; omega)]
    rfl
  · rw [read_inf h]
    show (Datum.infinity (sg x) == Datum.infinity neg) = _
    by_cases h2 : sg x = neg
    · rw [h2, decide_eq_true ⟨h, rfl⟩]
      simp
    · rw [decide_eq_false (fun h3 => h2 h3.2), beq_eq_false_iff_ne]
      intro h3; cases h3; exact h2 rfl
theorem dec_nan {x : Nat} (hx : Num x) : (FloatKind.f64.decode x).isNaN = false := by
  unfold FloatKind.decode
  unfold Num at hx
  rcases Nat.lt_or_eq_of_le hx with h | h
  · rw [read_fin h]; rfl
  · rw [read_inf h]; rfl
theorem sigM_zero {r : Nat} : sigM r = 0 ↔ r = 0 := by
  unfold sigM
  split <;> omega
theorem dec_zero {x : Nat} (hx : Num x) : (FloatKind.f64.decode x).isZero = decide (rg x = 0) := by
  unfold FloatKind.decode
  unfold Num at hx
  rcases Nat.lt_or_eq_of_le hx with h | h
  · rw [read_fin h]
    by_cases h0 : rg x = 0
    · rw [decide_eq_true h0, sigM_zero.2 h0]; rfl
    · rw [decide_eq_false h0]
      have : sigM (rg x) ≠ 0 := fun h => h0 (sigM_zero.1 h)
      generalize sigM (rg x) = m at this
      cases m with
      | zero => exact (this rfl).elim
      | succ m => rfl
  · rw [read_inf h, decide_eq_false (by omega)]; rfl
theorem dec_neg (x : Nat) : (FloatKind.f64.decode x).neg = sg x := read_neg x

theorem pick_num {neg : Bool} {win : Ordering} {x y : Nat} (hx : Num x) (hy : Num y) : pickW neg win x y =
    if (rg x = infR ∧ sg x = neg) ∨ (rg y = infR ∧ sg y = neg) then wordOf neg infR
    else if rg x = 0 ∧ rg y = 0 then (if sg x = neg then x else y) else if compare (skey x) (skey y) = win then x else y := by
  unfold pickW
  rw [dec_inf hx, dec_inf hy, dec_nan hx, dec_nan hy, dec_zero hx, dec_zero hy, dec_neg]
  have ho : (FloatKind.f64.decode x).order (FloatKind.f64.decode y) = some (compare (skey x) (skey y)) := order_key hx hy
  have he : FloatKind.f64.encode (.infinity neg) = wordOf neg infR := word_form _ _
  rw [ho, he]
  by_cases h1 : (rg x = infR ∧ sg x = neg) ∨ (rg y = infR ∧ sg y = neg)
  · rw [if_pos h1, if_pos]
    simpa using h1
  · rw [if_neg h1, if_neg (by simpa using h1)]
    rw [if_neg (by decide)]
    by_cases h2 : rg x = 0 ∧ rg y = 0
    · rw [if_pos h2, if_pos (by simpa using h2)]
      by_cases h3 : sg x = neg
      · rw [if_pos h3, if_pos (by simpa using h3)]
      · rw [if_neg h3, if_neg (by simpa using h3)]
    · rw [if_neg h2, if_neg (by simpa using h2)]
      by_cases h3 : compare (skey x) (skey y) = win
      · rw [if_pos h3, if_pos (by rw [h3]; simp)]
      · rw [if_neg h3, if_neg (by simpa using h3)]

theorem cmp_lt {a b : Int} : compare a b = .lt ↔ a < b := by
  rw [compare_int]
  split
  · simp; assumption
  · split <;> simp <;> omega
theorem cmp_gt {a b : Int} : compare a b = .gt ↔ b < a := by
  rw [compare_int]
  split
  · simp; omega
  · split <;> simp <;> omega

theorem skey_eq (x : Nat) : skey x = if sg x = true then -(rg x : Int) else rg x := by
  unfold skey sg
  rfl
theorem ahead_eq {x y : Nat} (hx : Num x) (hy : Num y) : ahead x y = decide (skey x < skey y ∨ (rg x = 0 ∧ rg y = 0 ∧ sg x = true ∧ sg y = false)) := by
  unfold ahead
  rw [flt_key hx hy, feq_V hx fin_zero.num, feq_V hy fin_zero.num, V_null, sgn_sg, sgn_sg]
  have h1 := @V_zero x
  have h2 := @V_zero y
  by_cases a1 : skey x < skey y
  · rw [decide_eq_true a1, decide_eq_true (p := skey x < skey y ∨ _) (.inl a1)]; rfl
  rw [decide_eq_false a1]
  by_cases a2 : rg x = 0
  · rw [decide_eq_true (h1.2 a2)]
    by_cases a3 : rg y = 0
    · rw [decide_eq_true (h2.2 a3)]
      cases hx : sg x <;> cases hy : sg y
      · rw [decide_eq_false (p := skey x < skey y ∨ _) (by simp [a1])]; rfl
      · rw [decide_eq_false (p := skey x < skey y ∨ _) (by simp [a1])]; rfl
      · rw [decide_eq_true (p := skey x < skey y ∨ _) (.inr ⟨a2, a3, rfl, rfl⟩)]; rfl
      · rw [decide_eq_false (p := skey x < skey y ∨ _) (by simp [a1])]; rfl
    · rw [decide_eq_false (fun h => a3 (h2.1 h)), decide_eq_false (p := skey x < skey y ∨ _) (by simp [a1, a3])]; rfl
  · rw [decide_eq_false (fun h => a2 (h1.1 h)), decide_eq_false (p := skey x < skey y ∨ _) (by simp [a1, a2])]; rfl

theorem same_word {x y : Nat} (hx : FWord x) (hy : FWord y) (h1 : sg x = sg y) (h2 : rg x = rg y) : x = y := by rw [wordOf_of hx, wordOf_of hy, h1, h2]

theorem pick_min {m x : Nat} (hm : Num m) (hx : Num x) (wm : FWord m) (wx : FWord x) : pickW true .lt m x = if ahead x m = true then x else m := by
  rw [pick_num hm hx, ahead_eq hx hm]
  simp only [decide_eq_true_eq, cmp_lt]
  rw [skey_eq, skey_eq]
  have a := hm
  have b := hx
  unfold Num at a b
  have em := wordOf_of wm
  have ex := wordOf_of wx
  have key := @same_word m x wm wx
  unfold infR
  generalize hsm : sg m = s at *
  generalize hsx : sg x = t at *
  generalize hrm : rg m = p at *
  generalize hrx : rg x = q at *
  have em' : p = 9218868437227405312 → wordOf s 9218868437227405312 = m := fun h => by rw [em, h]
  have ex' : q = 9218868437227405312 → wordOf t 9218868437227405312 = x := fun h => by rw [ex, h]
  clear em ex hsm hsx hrm hrx wm wx hm hx
  cases s <;> cases t <;> simp only [Bool.false_eq_true, if_false, if_true, and_true, and_false, or_false, true_and, false_and, false_or, reduceCtorEq] <;> (repeat' split) <;>
    first | rfl | (exfalso; omega) | exact em' (by omega) | exact ex' (by omega) | exact key rfl (by omega) | exact (key rfl (by omega)).symm

theorem pick_max {m x : Nat} (hm : Num m) (hx : Num x) (wm : FWord m) (wx : FWord x) : pickW false .gt m x = if ahead m x = true then x else m := by
  rw [pick_num hm hx, ahead_eq hm hx]
  simp only [decide_eq_true_eq, cmp_gt]
  rw [skey_eq, skey_eq]
  have a := hm
  have b := hx
  unfold Num at a b
  have em := wordOf_of wm
  have ex := wordOf_of wx
  have key := @same_word m x wm wx
  unfold infR
  generalize hsm : sg m = s at *
  generalize hsx : sg x = t at *
  generalize hrm : rg m = p at *
  generalize hrx : rg x = q at *
  have em' : p = 9218868437227405312 → wordOf s 9218868437227405312 = m := fun h => by rw [em, h]
  have ex' : q = 9218868437227405312 → wordOf t 9218868437227405312 = x := fun h => by rw [ex, h]
  clear em ex hsm hsx hrm hrx wm wx hm hx
  cases s <;> cases t <;> simp only [Bool.false_eq_true, if_false, if_true, and_true, and_false, or_false, true_and, false_and, false_or, reduceCtorEq] <;> (repeat' split) <;>
    first | rfl | (exfalso; omega) | exact em' (by omega) | exact ex' (by omega) | exact key rfl (by omega) | exact (key rfl (by omega)).symm
end Go.Proofs.Nu

/- Numbers: Least and Most, and the reference's. -/
set_option maxRecDepth 100000
namespace Go.Proofs.Nu
open Go Go.Ev

def flts (l : List Nat) : AV := .sl 1 (.fn l.length fun i => .v (.float .f64 (l.getD i 0))) false

theorem qnan_told {x : Nat} (h : isNaN x = true) : toldW x = 9221120237041090560 := by unfold toldW; rw [if_pos h]; rfl

theorem getD_word {l : List Nat} (hw : ∀ x, x ∈ l → FWord x) {i : Nat} (hi : i < l.length) : FWord (l.getD i 0) := by
  rw [List.getD_eq_getElem?_getD, List.getElem?_eq_getElem hi]
  exact hw _ (List.getElem_mem hi)

theorem least_loop {l : List Nat} (hw : ∀ x, x ∈ l → FWord x) (hl : l.length ≤ 140737488355328) : ∀ n i m, l.length - i = n → i ≤ l.length → Num m → FWord m →
    ∃ r, (LoopTo Try.prog (loopAt Try.f50 0) (leastS0 l m i) (.exit 0) (leastX0 l r) ∧ LoopTo Try.prog (loopAt Try.f52 0) (rleastS0 l m i) (.exit 0) (rleastX0 l r)) ∨
      (LoopTo Try.prog (loopAt Try.f50 0) (leastS0 l m i) .ret (leastX0_1 l r) ∧ LoopTo Try.prog (loopAt Try.f52 0) (rleastS0 l m i) .ret (rleastX0_1 l r)) := by
  intro n
  induction n with
  | zero =>
    intro i m hn hi hm hwm
    have h : decide ((i : Int) < (l.length : Int)) = false := decide_eq_false (by omega)
    exact ⟨m, .inl ⟨LoopTo.done (by intro h; cases h) (leastL0_3 l m i ⟨h, trivial⟩), LoopTo.done (by intro h; cases h) (rleastL0_4 l m i ⟨h, trivial⟩)⟩⟩
  | succ n ih =>
    intro i m hn hi hm hwm
    have h : decide ((i : Int) < (l.length : Int)) = true := decide_eq_true (by omega)
    have hin : (0 : Int) ≤ (i : Int) ∧ (i : Int) < (l.length : Int) := by omega
    have hgw : FWord (l.getD (i : Int).toNat 0) := getD_word hw (by omega)
    have hnext : inR .i64 ((i : Int) + 1) := by simp only [inR]; omega
    have hcast : ((i : Int) + 1) = ((i + 1 : Nat) : Int) := by omega
    cases hx : isNaN (l.getD (i : Int).toNat 0) with
    | true =>
      refine ⟨9221120237041090560, .inr ⟨LoopTo.done (by intro h; cases h) (leastL0_1 l m i ⟨h, hin, hx, trivial⟩), ?_⟩⟩
      have := rleastL0_1 l m i ⟨h, hin, hx, hin, trivial⟩
      rw [qnan_told hx] at this
      exact LoopTo.done (by intro h; cases h) this
    | false =>
      have hxn := isNaN_num.1 hx
      have s1 := leastL0_2 l m i ⟨h, hin, hx, hnext, trivial⟩
      rw [pick_min hm hxn hwm hgw] at s1
      cases ha : ahead (l.getD (i : Int).toNat 0) m with
      | true =>
        have s2 := rleastL0_2 l m i ⟨h, hin, hx, hin, ha, hin, hnext, trivial⟩
        rw [ha, if_pos rfl] at s1
        rw [hcast] at s1 s2
        obtain ⟨r, hr⟩ := ih (i + 1) _ (by omega) (by omega) hxn hgw
        rcases hr with ⟨h1, h2⟩ | ⟨h1, h2⟩
        · exact ⟨r, .inl ⟨LoopTo.step s1 h1, LoopTo.step s2 h2⟩⟩
        · exact ⟨r, .inr ⟨LoopTo.step s1 h1, LoopTo.step s2 h2⟩⟩
      | false =>
        have s2 := rleastL0_3 l m i ⟨h, hin, hx, hin, ha, hnext, trivial⟩
        rw [ha, if_neg (by decide)] at s1
        rw [hcast] at s1 s2
        obtain ⟨r, hr⟩ := ih (i + 1) _ (by omega) (by omega) hm hwm
        rcases hr with ⟨h1, h2⟩ | ⟨h1, h2⟩
        · exact ⟨r, .inl ⟨LoopTo.step s1 h1, LoopTo.step s2 h2⟩⟩
        · exact ⟨r, .inr ⟨LoopTo.step s1 h1, LoopTo.step s2 h2⟩⟩

theorem least_both {l : List Nat} (hw : ∀ x, x ∈ l → FWord x) (hl : l.length ≤ 140737488355328) : ∃ r, PureTo Try.prog 50 [flts l] (.v (.float .f64 r)) ∧ PureTo Try.prog 52 [flts l] (.v (.float .f64 r)) := by
  obtain ⟨r, h⟩ := least_loop hw hl _ 0 9218868437227405312 rfl (by omega) (by unfold Num; decide) (by unfold FWord; decide)
  rcases h with ⟨h1, h2⟩ | ⟨h1, h2⟩
  · exact ⟨r, leastF1 l r ⟨h1, trivial⟩, rleastF1 l r ⟨h2, trivial⟩⟩
  · exact ⟨r, leastF2 l r ⟨h1, trivial⟩, rleastF2 l r ⟨h2, trivial⟩⟩

theorem most_loop {l : List Nat} (hw : ∀ x, x ∈ l → FWord x) (hl : l.length ≤ 140737488355328) : ∀ n i m, l.length - i = n → i ≤ l.length → Num m → FWord m →
    ∃ r, (LoopTo Try.prog (loopAt Try.f53 0) (mostS0 l m i) (.exit 0) (mostX0 l r) ∧ LoopTo Try.prog (loopAt Try.f54 0) (rmostS0 l m i) (.exit 0) (rmostX0 l r)) ∨
      (LoopTo Try.prog (loopAt Try.f53 0) (mostS0 l m i) .ret (mostX0_1 l r) ∧ LoopTo Try.prog (loopAt Try.f54 0) (rmostS0 l m i) .ret (rmostX0_1 l r)) := by
  intro n
  induction n with
  | zero =>
    intro i m hn hi hm hwm
    have h : decide ((i : Int) < (l.length : Int)) = false := decide_eq_false (by omega)
    exact ⟨m, .inl ⟨LoopTo.done (by intro h; cases h) (mostL0_3 l m i ⟨h, trivial⟩), LoopTo.done (by intro h; cases h) (rmostL0_4 l m i ⟨h, trivial⟩)⟩⟩
  | succ n ih =>
    intro i m hn hi hm hwm
    have h : decide ((i : Int) < (l.length : Int)) = true := decide_eq_true (by omega)
    have hin : (0 : Int) ≤ (i : Int) ∧ (i : Int) < (l.length : Int) := by omega
    have hgw : FWord (l.getD (i : Int).toNat 0) := getD_word hw (by omega)
    have hnext : inR .i64 ((i : Int) + 1) := by simp only [inR]; omega
    have hcast : ((i : Int) + 1) = ((i + 1 : Nat) : Int) := by omega
    cases hx : isNaN (l.getD (i : Int).toNat 0) with
    | true =>
      refine ⟨9221120237041090560, .inr ⟨LoopTo.done (by intro h; cases h) (mostL0_1 l m i ⟨h, hin, hx, trivial⟩), ?_⟩⟩
      have := rmostL0_1 l m i ⟨h, hin, hx, hin, trivial⟩
      rw [qnan_told hx] at this
      exact LoopTo.done (by intro h; cases h) this
    | false =>
      have hxn := isNaN_num.1 hx
      have s1 := mostL0_2 l m i ⟨h, hin, hx, hnext, trivial⟩
      rw [pick_max hm hxn hwm hgw] at s1
      cases ha : ahead m (l.getD (i : Int).toNat 0) with
      | true =>
        have s2 := rmostL0_2 l m i ⟨h, hin, hx, hin, ha, hin, hnext, trivial⟩
        rw [ha, if_pos rfl] at s1
        rw [hcast] at s1 s2
        obtain ⟨r, hr⟩ := ih (i + 1) _ (by omega) (by omega) hxn hgw
        rcases hr with ⟨h1, h2⟩ | ⟨h1, h2⟩
        · exact ⟨r, .inl ⟨LoopTo.step s1 h1, LoopTo.step s2 h2⟩⟩
        · exact ⟨r, .inr ⟨LoopTo.step s1 h1, LoopTo.step s2 h2⟩⟩
      | false =>
        have s2 := rmostL0_3 l m i ⟨h, hin, hx, hin, ha, hnext, trivial⟩
        rw [ha, if_neg (by decide)] at s1
        rw [hcast] at s1 s2
        obtain ⟨r, hr⟩ := ih (i + 1) _ (by omega) (by omega) hm hwm
        rcases hr with ⟨h1, h2⟩ | ⟨h1, h2⟩
        · exact ⟨r, .inl ⟨LoopTo.step s1 h1, LoopTo.step s2 h2⟩⟩
        · exact ⟨r, .inr ⟨LoopTo.step s1 h1, LoopTo.step s2 h2⟩⟩

theorem most_both {l : List Nat} (hw : ∀ x, x ∈ l → FWord x) (hl : l.length ≤ 140737488355328) : ∃ r, PureTo Try.prog 53 [flts l] (.v (.float .f64 r)) ∧ PureTo Try.prog 54 [flts l] (.v (.float .f64 r)) := by
  obtain ⟨r, h⟩ := most_loop hw hl _ 0 18442240474082181120 rfl (by omega) (by unfold Num; decide) (by unfold FWord; decide)
  rcases h with ⟨h1, h2⟩ | ⟨h1, h2⟩
  · exact ⟨r, mostF1 l r ⟨h1, trivial⟩, rmostF1 l r ⟨h2, trivial⟩⟩
  · exact ⟨r, mostF2 l r ⟨h1, trivial⟩, rmostF2 l r ⟨h2, trivial⟩⟩
end Go.Proofs.Nu

/- Numbers: the table for the ends. -/
set_option maxRecDepth 100000
namespace Go.Proofs.Nu
open Go Go.Ev
/-- the ends of l are told as r and s -/
structure EndsOK (l : List Nat) (r s : Nat) : Prop where
  own : PureTo Try.prog 51 [flts l] (flts l)
  least : PureTo Try.prog 50 [flts l] (.v (.float .f64 r))
  rleast : PureTo Try.prog 52 [flts l] (.v (.float .f64 r))
  most : PureTo Try.prog 53 [flts l] (.v (.float .f64 s))
  rmost : PureTo Try.prog 54 [flts l] (.v (.float .f64 s))
def sigOn (x r : AV) : List AV → Option (AV × List Prop) := fun ys => some (r, [ys = [x]])
theorem sigOn_ok {f : FuncId} {x r : AV} (h : PureTo Try.prog f [x] r) : ∀ ys r' c, sigOn x r ys = some (r', c) → AllP c → PureTo Try.prog f ys r' := by
  intro ys r' c hs hc
  cases hs
  obtain ⟨rfl, _⟩ := hc
  exact h
def SNE (l : List Nat) (r s : Nat) : SGT := (51, .p (sigOn (flts l) (flts l))) :: (50, .p (sigOn (flts l) (.v (.float .f64 r)))) :: (52, .p (sigOn (flts l) (.v (.float .f64 r)))) ::
  (53, .p (sigOn (flts l) (.v (.float .f64 s)))) :: (54, .p (sigOn (flts l) (.v (.float .f64 s)))) :: SM3
theorem soNE {l : List Nat} {r s : Nat} (h : EndsOK l r s) : SigsOK Try.prog (SNE l r s) :=
  sigs_cons (sigs_cons (sigs_cons (sigs_cons (sigs_cons soM3 (sigOn_ok h.rmost)) (sigOn_ok h.most)) (sigOn_ok h.rleast)) (sigOn_ok h.least)) (sigOn_ok h.own)
theorem ends_ok {l : List Nat} (hw : ∀ x, x ∈ l → FWord x) (hl : l.length * 8 ≤ 140737488355328) : ∃ r s, EndsOK l r s := by
  obtain ⟨r, h1, h2⟩ := least_both hw (by omega)
  obtain ⟨s, h3, h4⟩ := most_both hw (by omega)
  exact ⟨r, s, own1 l ⟨hl, rfl, Nat.zero_le _, fun _ _ => rfl, trivial⟩, h1, h2, h3, h4⟩
end Go.Proofs.Nu

/- Numbers: Place and Unary, and the reference's. -/
set_option maxRecDepth 100000
set_option exponentiation.threshold 2200
namespace Go.Proofs.Nu
open Go Go.Ev

def p63 : Nat := 4890909195324358656
def n63 : Nat := 14114281232179134464
theorem fit_p63 : Fit p63 := by decide
theorem fit_n63 : Fit n63 := by decide
theorem valN_p63 : valN (rg p63) = 9223372036854775808 * U := by
  have e1 : sigM (rg p63) = 2 ^ 52 := by decide
  have e2 : sigK (rg p63) = 1085 := by decide
  have e3 : (9223372036854775808 : Nat) = 2 ^ 63 := by decide
  unfold valN U
  rw [e1, e2, e3, ← Nat.pow_add]
theorem V_p63 : V p63 = ((9223372036854775808 * U : Nat) : Int) := by
  have h1 : V p63 = sv (sg p63) (valN (rg p63)) := rfl
  have h2 : sg p63 = false := by decide
  rw [h1, h2, valN_p63]; rfl
theorem V_n63 : V n63 = -((9223372036854775808 * U : Nat) : Int) := by
  have h1 : V n63 = sv (sg n63) (valN (rg p63)) := rfl
  have h2 : sg n63 = true := by decide
  rw [h1, h2, valN_p63]; rfl

/-- a float below 2^63 in amount, as an integer -/
theorem toI_range {y : Nat} (hn : Num y) {b : Nat} (hb : b = 9223372036854775808 * U) (h1 : V y < (b : Int)) (h2 : -(b : Int) ≤ V y) : fhasI y ∧ inR .i64 (ftoI y) ∧ (V y = -(b : Int) → ftoI y = -9223372036854775808) := by
  have hx : Fit y := by
    unfold Fit
    rcases Nat.lt_or_eq_of_le hn with h | h
    · exact h
    · exfalso
      have e3 := valN_lt (show rg p63 < 9218868437227405312 by decide)
      rw [valN_p63, ← hb, ← h] at e3
      unfold V sv at h1 h2
      split at h1 <;> split at h2 <;> omega
  obtain ⟨i1, i2⟩ := ftoI_V hx
  refine ⟨i1, ?_, ?_⟩
  · rw [i2]
    cases hs : sg y with
    | true =>
      have e : V y = -(valN (rg y) : Int) := by unfold V; rw [hs]; rfl
      rw [e] at h2
      have h3 : valN (rg y) ≤ 9223372036854775808 * U := by rw [← hb]; omega
      have h4 := div_bound U_pos h3
      generalize valN (rg y) / U = q at *
      rw [sv_neg]
      simp only [inR]
      omega
    | false =>
      have e : V y = (valN (rg y) : Int) := by unfold V; rw [hs]; rfl
      rw [e] at h1
      have h3 : valN (rg y) < 9223372036854775808 * U := by rw [← hb]; omega
      have h4 := (Nat.div_lt_iff_lt_mul U_pos).2 h3
      generalize valN (rg y) / U = q at *
      rw [sv_pos]
      simp only [inR]
      omega
  · intro h
    have hs : sg y = true := by
      cases hs : sg y with
      | true => rfl
      | false =>
        have := V_pos hs
        have hbp : 0 < b := by rw [hb]; exact Nat.mul_pos (by decide) U_pos
        omega
    have e : V y = -(valN (rg y) : Int) := by unfold V; rw [hs]; rfl
    have h3 : valN (rg y) = 9223372036854775808 * U := by rw [← hb]; omega
    rw [i2, hs, sv_neg, h3, Nat.mul_div_cancel _ U_pos]
    rfl

theorem place_both {x : Nat} (hw : FWord x) {a b : Int} (ha : inR .i64 a) (hb : inR .i64 b) : ∃ r, PureTo Try.prog 41 [.v (.float .f64 x), .v (.int .i64 a), .v (.int .i64 b)] (.v (.int .i64 r)) ∧ PureTo Try.prog 42 [.v (.float .f64 x), .v (.int .i64 a), .v (.int .i64 b)] (.v (.int .i64 r)) := by
  simp only [inR] at ha hb
  have hyn : Num (integW x) := by
    unfold integW
    by_cases h : isNaN x = true
    · rw [if_pos h]; exact fin_zero.num
    · rw [if_neg h]
      exact (trunc_num hw (isNaN_num.1 (by simpa using h))).1
  have t1 := place1 x a b; have t2 := place2 x a b; have t3 := place3 x a b
  have r1 := rplace1 x a b; have r2 := rplace2 x a b; have r3 := rplace3 x a b; have r4 := rplace4 x a b; have r5 := rplace5 x a b; have r6 := rplace6 x a b; have r7 := rplace7 x a b; have r8 := rplace8 x a b; have r9 := rplace9 x a b
  generalize integW x = y at *
  have hp : (4890909195324358656 : Nat) = p63 := rfl
  have hm : (14114281232179134464 : Nat) = n63 := rfl
  obtain ⟨B, hB⟩ : ∃ B, B = 9223372036854775808 * U := ⟨_, rfl⟩
  have vp : V p63 = (B : Int) := by rw [V_p63, hB]
  have vn : V n63 = -(B : Int) := by rw [V_n63, hB]
  rw [hp, ge_V hyn fit_p63.num, vp] at t1 t2 t3 r2 r3 r4 r5 r6 r7 r8 r9
  rw [hm, flt_V hyn fit_n63.num, vn] at t2 t3
  rw [hm, fgt_V hyn fit_n63.num, vn] at r3 r4 r5 r6 r7 r8 r9
  rw [le_V hyn fit_n63.num, vn] at r4 r5 r6 r7 r8 r9
  have rng := @toI_range y hyn B hB
  have hBp : 0 < B := by rw [hB]; exact Nat.mul_pos (by decide) U_pos
  clear hB vp vn
  -- what Place tells
  obtain ⟨r, hr, hval⟩ : ∃ r, PureTo Try.prog 41 [.v (.float .f64 x), .v (.int .i64 a), .v (.int .i64 b)] (.v (.int .i64 r)) ∧
      (b < a → r = b) ∧ (¬ b < a → ((B : Int) ≤ V y → r = b) ∧ (¬ (B : Int) ≤ V y → V y ≤ -(B : Int) → r = a) ∧ (¬ (B : Int) ≤ V y → ¬ V y ≤ -(B : Int) → (ftoI y > b → r = b) ∧ (¬ ftoI y > b → ftoI y < a → r = a) ∧ (¬ ftoI y > b → ¬ ftoI y < a → r = ftoI y))) := by
    by_cases c1 : (B : Int) ≤ V y
    · refine ⟨_, t1 ⟨hw, decide_eq_true c1, trivial⟩, ?_⟩
      split <;> split <;> omega
    · have d1 := decide_eq_false c1
      by_cases c2 : V y < -(B : Int)
      · refine ⟨_, t2 ⟨hw, d1, decide_eq_true c2, trivial⟩, ?_⟩
        split <;> split <;> omega
      · obtain ⟨i1, i2, i3⟩ := rng (by omega) (by omega)
        refine ⟨_, t3 ⟨hw, d1, decide_eq_false c2, i1, i2, trivial⟩, ?_⟩
        simp only [inR] at i2
        generalize ftoI y = t at *
        split <;> split <;> omega
  refine ⟨r, hr, ?_⟩
  by_cases c0 : b < a
  · rw [hval.1 c0]; exact r1 ⟨decide_eq_true c0, trivial⟩
  · have d0 := decide_eq_false c0
    obtain ⟨v1, v2, v3⟩ := hval.2 c0
    by_cases c1 : (B : Int) ≤ V y
    · rw [v1 c1]; exact r2 ⟨d0, hw, decide_eq_true c1, trivial⟩
    · have d1 := decide_eq_false c1
      by_cases c2 : V y ≤ -(B : Int)
      · rw [v2 c1 c2]
        exact r7 ⟨d0, hw, d1, decide_eq_false (by omega), decide_eq_true c2, trivial⟩
      · obtain ⟨i1, i2, i3⟩ := rng (by omega) (by omega)
        obtain ⟨w1, w2, w3⟩ := v3 c1 c2
        have d2 : decide (V y > -(B : Int)) = true := decide_eq_true (by omega)
        have d3 := decide_eq_false c2
        by_cases c4 : ftoI y > b
        · rw [w1 c4]; exact r3 ⟨d0, hw, d1, d2, i1, i2, decide_eq_true c4, trivial⟩
        · by_cases c5 : ftoI y < a
          · rw [w2 c4 c5]; exact r5 ⟨d0, hw, d1, d2, i1, i2, decide_eq_false c4, d3, i1, i2, decide_eq_true c5, trivial⟩
          · rw [w3 c4 c5]; exact r6 ⟨d0, hw, d1, d2, i1, i2, decide_eq_false c4, d3, i1, i2, decide_eq_false c5, i1, i2, trivial⟩

theorem runa_c {s : ByteArray} {x : Nat} (hx : FWord x) : PureTo Try.prog 21 [.v (.string s), .v (.float .f64 x)] (.tup [.v (.float .f64 (unW s x)), .v (.int .i64 (unE s))]) := by
  unfold unW unE unK
  by_cases h1 : (s.toList == (ByteArray.mk #[(45 : UInt8)]).toList) = true
  · rw [if_pos h1]
    exact runa1 s x ⟨h1, trivial⟩
  rw [if_neg h1]
  have h1' : (s.toList == (ByteArray.mk #[(45 : UInt8)]).toList) = false := by simpa using h1
  by_cases h2 : (s.toList == (ByteArray.mk #[(43 : UInt8)]).toList) = true
  · rw [if_pos h2]
    exact runa2 s x ⟨h1', h2, trivial⟩
  rw [if_neg h2]
  have h2' : (s.toList == (ByteArray.mk #[(43 : UInt8)]).toList) = false := by simpa using h2
  by_cases h3 : (s.toList == (ByteArray.mk #[(126 : UInt8)]).toList) = true
  · rw [if_pos h3]
    exact runa3 s x ⟨h1', h2', h3, hx, trivial⟩
  rw [if_neg h3]
  have h3' : (s.toList == (ByteArray.mk #[(126 : UInt8)]).toList) = false := by simpa using h3
  exact runa4 s x ⟨h1', h2', h3', trivial⟩
theorem sigRUn_ok : ∀ ys r c, sigUn ys = some (r, c) → AllP c → PureTo Try.prog 21 ys r := by
  intro ys r c hs hc
  unfold sigUn at hs
  split at hs
  · cases hs; exact runa_c hc.1
  · cases hs
def SMA : SGT := (20, .p sigUn) :: (21, .p sigUn) :: SM9
theorem soMA : SigsOK Try.prog SMA := sigs_cons (sigs_cons soM9 sigRUn_ok) sigUn_ok

/-- what a number is told as, by place and by index -/
structure WholesOK (x : Nat) (a b n : Int) (k : Bool) (r : Int) : Prop where
  index : PureTo Try.prog 33 [.v (.float .f64 x)] (.tup [.v (.int .u32 n), .v (.bool k)])
  rindex : PureTo Try.prog 34 [.v (.float .f64 x)] (.tup [.v (.int .u32 n), .v (.bool k)])
  place : PureTo Try.prog 41 [.v (.float .f64 x), .v (.int .i64 a), .v (.int .i64 b)] (.v (.int .i64 r))
  rplace : PureTo Try.prog 42 [.v (.float .f64 x), .v (.int .i64 a), .v (.int .i64 b)] (.v (.int .i64 r))
def sigOnL (xs : List AV) (r : AV) : List AV → Option (AV × List Prop) := fun ys => some (r, [ys = xs])
theorem sigOnL_ok {f : FuncId} {xs : List AV} {r : AV} (h : PureTo Try.prog f xs r) : ∀ ys r' c, sigOnL xs r ys = some (r', c) → AllP c → PureTo Try.prog f ys r' := by
  intro ys r' c hs hc
  cases hs
  obtain ⟨rfl, _⟩ := hc
  exact h
def sigU16 : List AV → Option (AV × List Prop)
  | [.v (.float .f64 x)] => some (.v (.int .u16 (u32N x % (65536 : Int))), [FWord x])
  | _ => none
theorem sigU16_ok {f : FuncId} (h : ∀ x, AllP [FWord x] → PureTo Try.prog f [.v (.float .f64 x)] (.v (.int .u16 (u32N x % (65536 : Int))))) : ∀ ys r c, sigU16 ys = some (r, c) → AllP c → PureTo Try.prog f ys r := by
  intro ys r c hs hc
  unfold sigU16 at hs
  split at hs
  · cases hs; exact h _ hc
  · cases hs
def SNW (x : Nat) (a b n : Int) (k : Bool) (r : Int) : SGT := (33, .p (sigOnL [.v (.float .f64 x)] (.tup [.v (.int .u32 n), .v (.bool k)]))) :: (34, .p (sigOnL [.v (.float .f64 x)] (.tup [.v (.int .u32 n), .v (.bool k)]))) ::
  (41, .p (sigOnL [.v (.float .f64 x), .v (.int .i64 a), .v (.int .i64 b)] (.v (.int .i64 r)))) :: (42, .p (sigOnL [.v (.float .f64 x), .v (.int .i64 a), .v (.int .i64 b)] (.v (.int .i64 r)))) ::
  (39, .p sigU16) :: (40, .p sigU16) :: SM9
theorem soNW {x : Nat} {a b n : Int} {k : Bool} {r : Int} (h : WholesOK x a b n k r) : SigsOK Try.prog (SNW x a b n k r) :=
  sigs_cons (sigs_cons (sigs_cons (sigs_cons (sigs_cons (sigs_cons soM9 (sigU16_ok ru161)) (sigU16_ok u161)) (sigOnL_ok h.rplace)) (sigOnL_ok h.place)) (sigOnL_ok h.rindex)) (sigOnL_ok h.index)
theorem wholes_ok {x : Nat} (hw : FWord x) {a b : Int} (ha : inR .i64 a) (hb : inR .i64 b) : ∃ n k r, WholesOK x a b n k r := by
  obtain ⟨n, k, h1, h2⟩ := index_both hw
  obtain ⟨r, h3, h4⟩ := place_both hw ha hb
  exact ⟨n, k, r, h1, h2, h3, h4⟩
end Go.Proofs.Nu

/- Numbers: walks, written by the tool. -/
set_option maxRecDepth 100000
namespace Go.Proofs.Nu
open Go Go.Ev

-- 8 paths
theorem whoL1 (x : Nat) (a b n : Int) (k : Bool) (r : Int) (hh : WholesOK x a b n k r) (h : AllP [[AV.v (.float FloatKind.f64 x)] = [AV.v (.float FloatKind.f64 x)], k = true, [AV.v (.float FloatKind.f64 x)] = [AV.v (.float FloatKind.f64 x)], k = true, FWord x, FWord x, samB (integW x) (integW x) = true, FWord x, FWord x, (i32N x == i32N x) = true, FWord x, FWord x, (u32N x == u32N x) = true, FWord x, FWord x, (u32N x % (65536 : Int) == u32N x % (65536 : Int)) = true, [AV.v (.float FloatKind.f64 x), AV.v (.int .i64 a), AV.v (.int .i64 b)] = [AV.v (.float FloatKind.f64 x), AV.v (.int .i64 a), AV.v (.int .i64 b)], [AV.v (.float FloatKind.f64 x), AV.v (.int .i64 a), AV.v (.int .i64 b)] = [AV.v (.float FloatKind.f64 x), AV.v (.int .i64 a), AV.v (.int .i64 b)], (r == r) = true, (n == n) = true]) : PureTo Try.prog 9 [.v (.float .f64 x), .v (.int .i64 a), .v (.int .i64 b)] (AV.v (.bool true)) :=
  evFn_pure hm (soNW hh) (fn := Try.f9) rfl rfl (ti := false) (hs := [CHint.ops 1 [(4, Hint.b true)], CHint.ops 2 [(4, Hint.b true)], CHint.ops 3 [(4, Hint.b true), (10, Hint.b true), (17, Hint.b true), (24, Hint.b true), (35, Hint.b true), (40, Hint.b true)]]) (c := _) (by kernel_rfl) h
theorem whoL2 (x : Nat) (a b n : Int) (k : Bool) (r : Int) (hh : WholesOK x a b n k r) (h : AllP [[AV.v (.float FloatKind.f64 x)] = [AV.v (.float FloatKind.f64 x)], k = true, [AV.v (.float FloatKind.f64 x)] = [AV.v (.float FloatKind.f64 x)], k = true, FWord x, FWord x, samB (integW x) (integW x) = false]) : PureTo Try.prog 9 [.v (.float .f64 x), .v (.int .i64 a), .v (.int .i64 b)] (AV.v (.bool false)) :=
  evFn_pure hm (soNW hh) (fn := Try.f9) rfl rfl (ti := false) (hs := [CHint.ops 1 [(4, Hint.b true)], CHint.ops 2 [(4, Hint.b true)], CHint.ops 3 [(4, Hint.b false)]]) (c := _) (by kernel_rfl) h
theorem whoL3 (x : Nat) (a b n : Int) (k : Bool) (r : Int) (hh : WholesOK x a b n k r) (h : AllP [[AV.v (.float FloatKind.f64 x)] = [AV.v (.float FloatKind.f64 x)], k = true, [AV.v (.float FloatKind.f64 x)] = [AV.v (.float FloatKind.f64 x)], k = false, FWord x, FWord x, samB (integW x) (integW x) = true, FWord x, FWord x, (i32N x == i32N x) = true, FWord x, FWord x, (u32N x == u32N x) = true, FWord x, FWord x, (u32N x % (65536 : Int) == u32N x % (65536 : Int)) = true, [AV.v (.float FloatKind.f64 x), AV.v (.int .i64 a), AV.v (.int .i64 b)] = [AV.v (.float FloatKind.f64 x), AV.v (.int .i64 a), AV.v (.int .i64 b)], [AV.v (.float FloatKind.f64 x), AV.v (.int .i64 a), AV.v (.int .i64 b)] = [AV.v (.float FloatKind.f64 x), AV.v (.int .i64 a), AV.v (.int .i64 b)], (r == r) = true, (n == n) = true]) : PureTo Try.prog 9 [.v (.float .f64 x), .v (.int .i64 a), .v (.int .i64 b)] (AV.v (.bool false)) :=
  evFn_pure hm (soNW hh) (fn := Try.f9) rfl rfl (ti := false) (hs := [CHint.ops 1 [(4, Hint.b true)], CHint.ops 2 [(4, Hint.b false)], CHint.ops 3 [(4, Hint.b true), (10, Hint.b true), (17, Hint.b true), (24, Hint.b true), (35, Hint.b true), (40, Hint.b true)]]) (c := _) (by kernel_rfl) h
theorem whoL4 (x : Nat) (a b n : Int) (k : Bool) (r : Int) (hh : WholesOK x a b n k r) (h : AllP [[AV.v (.float FloatKind.f64 x)] = [AV.v (.float FloatKind.f64 x)], k = true, [AV.v (.float FloatKind.f64 x)] = [AV.v (.float FloatKind.f64 x)], k = false, FWord x, FWord x, samB (integW x) (integW x) = false]) : PureTo Try.prog 9 [.v (.float .f64 x), .v (.int .i64 a), .v (.int .i64 b)] (AV.v (.bool false)) :=
  evFn_pure hm (soNW hh) (fn := Try.f9) rfl rfl (ti := false) (hs := [CHint.ops 1 [(4, Hint.b true)], CHint.ops 2 [(4, Hint.b false)], CHint.ops 3 [(4, Hint.b false)]]) (c := _) (by kernel_rfl) h
theorem whoL5 (x : Nat) (a b n : Int) (k : Bool) (r : Int) (hh : WholesOK x a b n k r) (h : AllP [[AV.v (.float FloatKind.f64 x)] = [AV.v (.float FloatKind.f64 x)], k = false, [AV.v (.float FloatKind.f64 x)] = [AV.v (.float FloatKind.f64 x)], k = true, FWord x, FWord x, samB (integW x) (integW x) = true, FWord x, FWord x, (i32N x == i32N x) = true, FWord x, FWord x, (u32N x == u32N x) = true, FWord x, FWord x, (u32N x % (65536 : Int) == u32N x % (65536 : Int)) = true, [AV.v (.float FloatKind.f64 x), AV.v (.int .i64 a), AV.v (.int .i64 b)] = [AV.v (.float FloatKind.f64 x), AV.v (.int .i64 a), AV.v (.int .i64 b)], [AV.v (.float FloatKind.f64 x), AV.v (.int .i64 a), AV.v (.int .i64 b)] = [AV.v (.float FloatKind.f64 x), AV.v (.int .i64 a), AV.v (.int .i64 b)], (r == r) = true, (n == n) = true]) : PureTo Try.prog 9 [.v (.float .f64 x), .v (.int .i64 a), .v (.int .i64 b)] (AV.v (.bool false)) :=
  evFn_pure hm (soNW hh) (fn := Try.f9) rfl rfl (ti := false) (hs := [CHint.ops 1 [(4, Hint.b false)], CHint.ops 2 [(4, Hint.b true)], CHint.ops 3 [(4, Hint.b true), (10, Hint.b true), (17, Hint.b true), (24, Hint.b true), (35, Hint.b true), (40, Hint.b true)]]) (c := _) (by kernel_rfl) h
theorem whoL6 (x : Nat) (a b n : Int) (k : Bool) (r : Int) (hh : WholesOK x a b n k r) (h : AllP [[AV.v (.float FloatKind.f64 x)] = [AV.v (.float FloatKind.f64 x)], k = false, [AV.v (.float FloatKind.f64 x)] = [AV.v (.float FloatKind.f64 x)], k = true, FWord x, FWord x, samB (integW x) (integW x) = false]) : PureTo Try.prog 9 [.v (.float .f64 x), .v (.int .i64 a), .v (.int .i64 b)] (AV.v (.bool false)) :=
  evFn_pure hm (soNW hh) (fn := Try.f9) rfl rfl (ti := false) (hs := [CHint.ops 1 [(4, Hint.b false)], CHint.ops 2 [(4, Hint.b true)], CHint.ops 3 [(4, Hint.b false)]]) (c := _) (by kernel_rfl) h
theorem whoL7 (x : Nat) (a b n : Int) (k : Bool) (r : Int) (hh : WholesOK x a b n k r) (h : AllP [[AV.v (.float FloatKind.f64 x)] = [AV.v (.float FloatKind.f64 x)], k = false, [AV.v (.float FloatKind.f64 x)] = [AV.v (.float FloatKind.f64 x)], k = false, FWord x, FWord x, samB (integW x) (integW x) = true, FWord x, FWord x, (i32N x == i32N x) = true, FWord x, FWord x, (u32N x == u32N x) = true, FWord x, FWord x, (u32N x % (65536 : Int) == u32N x % (65536 : Int)) = true, [AV.v (.float FloatKind.f64 x), AV.v (.int .i64 a), AV.v (.int .i64 b)] = [AV.v (.float FloatKind.f64 x), AV.v (.int .i64 a), AV.v (.int .i64 b)], [AV.v (.float FloatKind.f64 x), AV.v (.int .i64 a), AV.v (.int .i64 b)] = [AV.v (.float FloatKind.f64 x), AV.v (.int .i64 a), AV.v (.int .i64 b)], (r == r) = true, (n == n) = true]) : PureTo Try.prog 9 [.v (.float .f64 x), .v (.int .i64 a), .v (.int .i64 b)] (AV.v (.bool true)) :=
  evFn_pure hm (soNW hh) (fn := Try.f9) rfl rfl (ti := false) (hs := [CHint.ops 1 [(4, Hint.b false)], CHint.ops 2 [(4, Hint.b false)], CHint.ops 3 [(4, Hint.b true), (10, Hint.b true), (17, Hint.b true), (24, Hint.b true), (35, Hint.b true), (40, Hint.b true)]]) (c := _) (by kernel_rfl) h
theorem whoL8 (x : Nat) (a b n : Int) (k : Bool) (r : Int) (hh : WholesOK x a b n k r) (h : AllP [[AV.v (.float FloatKind.f64 x)] = [AV.v (.float FloatKind.f64 x)], k = false, [AV.v (.float FloatKind.f64 x)] = [AV.v (.float FloatKind.f64 x)], k = false, FWord x, FWord x, samB (integW x) (integW x) = false]) : PureTo Try.prog 9 [.v (.float .f64 x), .v (.int .i64 a), .v (.int .i64 b)] (AV.v (.bool false)) :=
  evFn_pure hm (soNW hh) (fn := Try.f9) rfl rfl (ti := false) (hs := [CHint.ops 1 [(4, Hint.b false)], CHint.ops 2 [(4, Hint.b false)], CHint.ops 3 [(4, Hint.b false)]]) (c := _) (by kernel_rfl) h
-- 2 paths
theorem unL1 (s : ByteArray) (x : Nat) (h : AllP [FWord x, FWord x, samB (unW s x) (unW s x) = true, (unE s == unE s) = true]) : PureTo Try.prog 5 [.v (.string s), .v (.float .f64 x)] (AV.v (.bool true)) :=
  evFn_pure hm soMA (fn := Try.f5) rfl rfl (ti := false) (hs := [CHint.ops 3 [(2, Hint.b true), (6, Hint.b true)]]) (c := _) (by kernel_rfl) h
theorem unL2 (s : ByteArray) (x : Nat) (h : AllP [FWord x, FWord x, samB (unW s x) (unW s x) = false]) : PureTo Try.prog 5 [.v (.string s), .v (.float .f64 x)] (AV.v (.bool false)) :=
  evFn_pure hm soMA (fn := Try.f5) rfl rfl (ti := false) (hs := [CHint.ops 3 [(2, Hint.b false)]]) (c := _) (by kernel_rfl) h
end Go.Proofs.Nu
