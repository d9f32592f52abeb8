/- Contracts of the program's functions, and the plain law behind them. No condition beyond those in each statement. -/
import Derived.Test.YthceebioiinhiaaNuAll5
import Derived.Test.YthceebioiinhiaaEvAll8
import Derived.Test.YthceebioiinhiaaEvAll6
set_option linter.unusedSimpArgs false
set_option linter.unusedVariables false
set_option linter.unusedSectionVars false
/- Numbers: whole numbers, the less and the greater, roots; the table. -/
set_option maxRecDepth 100000
namespace Go.Proofs.Nu
open Go Go.Ev
theorem atrunc_c (x : Nat) : PureTo Try.prog 91 [.fl .f64 x] (.fl .f64 (intW .zero x)) := int_ext (fn := Try.f91) rfl (by kernel_rfl) (by kernel_rfl) (by kernel_rfl) (by kernel_rfl : Extern.find Try.f91 = some (Extern.MathFloor.toIntegral "math.archTrunc" .zero)) x
theorem afloor_c (x : Nat) : PureTo Try.prog 93 [.fl .f64 x] (.fl .f64 (intW .down x)) := int_ext (fn := Try.f93) rfl (by kernel_rfl) (by kernel_rfl) (by kernel_rfl) (by kernel_rfl : Extern.find Try.f93 = some (Extern.MathFloor.toIntegral "math.archFloor" .down)) x
theorem aceil_c (x : Nat) : PureTo Try.prog 95 [.fl .f64 x] (.fl .f64 (intW .up x)) := int_ext (fn := Try.f95) rfl (by kernel_rfl) (by kernel_rfl) (by kernel_rfl) (by kernel_rfl : Extern.find Try.f95 = some (Extern.MathFloor.toIntegral "math.archCeil" .up)) x
theorem asqrt_c (x : Nat) : PureTo Try.prog 100 [.fl .f64 x] (.fl .f64 (fsqrt x)) := sqrt_ext (fn := Try.f100) rfl (by kernel_rfl) (by kernel_rfl) (by kernel_rfl) (by kernel_rfl) x
theorem amin_c (x y : Nat) : PureTo Try.prog 101 [.fl .f64 x, .fl .f64 y] (.v (.float .f64 (pickW true .lt x y))) := pick_ext (fn := Try.f101) rfl (by kernel_rfl) (by kernel_rfl) (by kernel_rfl) (by kernel_rfl : Extern.find Try.f101 = some (Extern.MathDim.pick "math.archMin" true .lt)) x y
theorem amax_c (x y : Nat) : PureTo Try.prog 103 [.fl .f64 x, .fl .f64 y] (.v (.float .f64 (pickW false .gt x y))) := pick_ext (fn := Try.f103) rfl (by kernel_rfl) (by kernel_rfl) (by kernel_rfl) (by kernel_rfl : Extern.find Try.f103 = some (Extern.MathDim.pick "math.archMax" false .gt)) x y

def sF (g : Nat → Nat) : List AV → Option (AV × List Prop) := sigF fun x => (.fl .f64 (g x), [])
def sV (g : Nat → Nat → Nat) : List AV → Option (AV × List Prop) := sigFF fun x y => (.v (.float .f64 (g x y)), [])
theorem sF_ok {i : FuncId} {g : Nat → Nat} (h : ∀ x, PureTo Try.prog i [.fl .f64 x] (.fl .f64 (g x))) : ∀ ys r c, sF g ys = some (r, c) → AllP c → PureTo Try.prog i ys r := sigF_ok (f := fun x => (.fl .f64 (g x), [])) fun a _ => h a
theorem sV_ok {i : FuncId} {g : Nat → Nat → Nat} (h : ∀ x y, PureTo Try.prog i [.fl .f64 x, .fl .f64 y] (.v (.float .f64 (g x y)))) : ∀ ys r c, sV g ys = some (r, c) → AllP c → PureTo Try.prog i ys r :=
  sigFF_ok (f := fun x y => (.v (.float .f64 (g x y)), [])) fun a b _ => h a b
def SN3 : SGT := (91, .p (sF (intW .zero))) :: (93, .p (sF (intW .down))) :: (95, .p (sF (intW .up))) :: (100, .p (sF fsqrt)) :: (101, .p (sV (pickW true .lt))) :: (103, .p (sV (pickW false .gt))) :: SN2
theorem cons_F {SG : SGT} {f : FuncId} (g : Nat → Nat) (h : SigsOK Try.prog SG) (hf : ∀ x, PureTo Try.prog f [.fl .f64 x] (.fl .f64 (g x))) : SigsOK Try.prog ((f, .p (sF g)) :: SG) := sigs_cons h (sF_ok hf)
theorem cons_V {SG : SGT} {f : FuncId} (g : Nat → Nat → Nat) (h : SigsOK Try.prog SG) (hf : ∀ x y, PureTo Try.prog f [.fl .f64 x, .fl .f64 y] (.v (.float .f64 (g x y)))) : SigsOK Try.prog ((f, .p (sV g)) :: SG) := sigs_cons h (sV_ok hf)
theorem soN3 : SigsOK Try.prog SN3 :=
  cons_F (intW .zero) (cons_F (intW .down) (cons_F (intW .up) (cons_F fsqrt (cons_V (pickW true .lt) (cons_V (pickW false .gt) soN2 amax_c) amin_c) asqrt_c) aceil_c) afloor_c) atrunc_c
end Go.Proofs.Nu

/- Numbers: walks, written by the tool. -/
set_option maxRecDepth 100000
namespace Go.Proofs.Nu
open Go Go.Ev

-- 1 paths
theorem mtrunc1 (x : Nat) (h : AllP []) : PureTo Try.prog 62 [.fl .f64 x] (AV.fl FloatKind.f64 (intW Ieee.Toward.zero x)) :=
  evFn_pure hm soN3 (fn := Try.f62) rfl rfl (ti := false) (hs := []) (c := _) (by kernel_rfl) h
-- 1 paths
theorem mfloor1 (x : Nat) (h : AllP []) : PureTo Try.prog 63 [.fl .f64 x] (AV.fl FloatKind.f64 (intW Ieee.Toward.down x)) :=
  evFn_pure hm soN3 (fn := Try.f63) rfl rfl (ti := false) (hs := []) (c := _) (by kernel_rfl) h
-- 1 paths
theorem mceil1 (x : Nat) (h : AllP []) : PureTo Try.prog 65 [.fl .f64 x] (AV.fl FloatKind.f64 (intW Ieee.Toward.up x)) :=
  evFn_pure hm soN3 (fn := Try.f65) rfl rfl (ti := false) (hs := []) (c := _) (by kernel_rfl) h
-- 1 paths
theorem msqrt1 (x : Nat) (h : AllP []) : PureTo Try.prog 69 [.fl .f64 x] (AV.fl FloatKind.f64 (fsqrt x)) :=
  evFn_pure hm soN3 (fn := Try.f69) rfl rfl (ti := false) (hs := []) (c := _) (by kernel_rfl) h
-- 1 paths
theorem mmin1 (x y : Nat) (h : AllP []) : PureTo Try.prog 71 [.fl .f64 x, .fl .f64 y] (AV.v (.float FloatKind.f64 (pickW true Ordering.lt x y))) :=
  evFn_pure hm soN3 (fn := Try.f71) rfl rfl (ti := false) (hs := []) (c := _) (by kernel_rfl) h
-- 1 paths
theorem mmax1 (x y : Nat) (h : AllP []) : PureTo Try.prog 74 [.fl .f64 x, .fl .f64 y] (AV.v (.float FloatKind.f64 (pickW false Ordering.gt x y))) :=
  evFn_pure hm soN3 (fn := Try.f74) rfl rfl (ti := false) (hs := []) (c := _) (by kernel_rfl) h
end Go.Proofs.Nu

/- Numbers: package math's; the table. -/
set_option maxRecDepth 100000
namespace Go.Proofs.Nu
open Go Go.Ev
def SN4 : SGT := (62, .p (sF (intW .zero))) :: (63, .p (sF (intW .down))) :: (65, .p (sF (intW .up))) :: (69, .p (sF fsqrt)) :: (71, .p (sV (pickW true .lt))) :: (74, .p (sV (pickW false .gt))) :: SN3
theorem soN4 : SigsOK Try.prog SN4 :=
  cons_F (intW .zero) (cons_F (intW .down) (cons_F (intW .up) (cons_F fsqrt (cons_V (pickW true .lt) (cons_V (pickW false .gt) soN3 fun x y => mmax1 x y trivial) fun x y => mmin1 x y trivial) fun x => msqrt1 x trivial) fun x => mceil1 x trivial) fun x => mfloor1 x trivial) fun x => mtrunc1 x trivial
end Go.Proofs.Nu

/- Numbers: walks, written by the tool. -/
set_option maxRecDepth 100000
namespace Go.Proofs.Nu
open Go Go.Ev

theorem floor_ev (x : Nat) (h : AllP []) : PureTo Try.prog 24 [.fl .f64 x] (AV.v (.float FloatKind.f64 (toldW (intW Ieee.Toward.down x)))) :=
  evFnM_pure hm soN4 (fn := Try.f24) rfl rfl (ti := false) (m := Mode.same) (hs := []) (c := _) (by kernel_rfl) (by kernel_rfl) h
def floor (x : Nat) : Nat := toldW (intW Ieee.Toward.down x)
theorem floor_pure (x : Nat) : PureTo Try.prog 24 [.fl .f64 x] (AV.v (.float FloatKind.f64 (floor x))) := floor_ev x trivial
theorem rfloor_ev (x : Nat) (h : AllP []) : PureTo Try.prog 43 [.fl .f64 x] (AV.v (.float FloatKind.f64 (toldW (intW Ieee.Toward.down x)))) :=
  evFnM_pure hm soN4 (fn := Try.f43) rfl rfl (ti := false) (m := Mode.same) (hs := []) (c := _) (by kernel_rfl) (by kernel_rfl) h
def rfloor (x : Nat) : Nat := toldW (intW Ieee.Toward.down x)
theorem rfloor_pure (x : Nat) : PureTo Try.prog 43 [.fl .f64 x] (AV.v (.float FloatKind.f64 (rfloor x))) := rfloor_ev x trivial
theorem ceil_ev (x : Nat) (h : AllP []) : PureTo Try.prog 26 [.fl .f64 x] (AV.v (.float FloatKind.f64 (toldW (intW Ieee.Toward.up x)))) :=
  evFnM_pure hm soN4 (fn := Try.f26) rfl rfl (ti := false) (m := Mode.same) (hs := []) (c := _) (by kernel_rfl) (by kernel_rfl) h
def ceil (x : Nat) : Nat := toldW (intW Ieee.Toward.up x)
theorem ceil_pure (x : Nat) : PureTo Try.prog 26 [.fl .f64 x] (AV.v (.float FloatKind.f64 (ceil x))) := ceil_ev x trivial
theorem rceil_ev (x : Nat) (h : AllP []) : PureTo Try.prog 44 [.fl .f64 x] (AV.v (.float FloatKind.f64 (toldW (intW Ieee.Toward.up x)))) :=
  evFnM_pure hm soN4 (fn := Try.f44) rfl rfl (ti := false) (m := Mode.same) (hs := []) (c := _) (by kernel_rfl) (by kernel_rfl) h
def rceil (x : Nat) : Nat := toldW (intW Ieee.Toward.up x)
theorem rceil_pure (x : Nat) : PureTo Try.prog 44 [.fl .f64 x] (AV.v (.float FloatKind.f64 (rceil x))) := rceil_ev x trivial
theorem nabs_ev (x : Nat) (h : AllP []) : PureTo Try.prog 46 [.fl .f64 x] (AV.v (.float FloatKind.f64 (toldW (abs x)))) :=
  evFnM_pure hm soN4 (fn := Try.f46) rfl rfl (ti := false) (m := Mode.same) (hs := []) (c := _) (by kernel_rfl) (by kernel_rfl) h
def nabs (x : Nat) : Nat := toldW (abs x)
theorem nabs_pure (x : Nat) : PureTo Try.prog 46 [.fl .f64 x] (AV.v (.float FloatKind.f64 (nabs x))) := nabs_ev x trivial
theorem rabs_ev (x : Nat) (h : AllP []) : PureTo Try.prog 47 [.fl .f64 x] (AV.v (.float FloatKind.f64 (toldW (abs x)))) :=
  evFnM_pure hm soN4 (fn := Try.f47) rfl rfl (ti := false) (m := Mode.same) (hs := []) (c := _) (by kernel_rfl) (by kernel_rfl) h
def rabs (x : Nat) : Nat := toldW (abs x)
theorem rabs_pure (x : Nat) : PureTo Try.prog 47 [.fl .f64 x] (AV.v (.float FloatKind.f64 (rabs x))) := rabs_ev x trivial
theorem nsqrt_ev (x : Nat) (h : AllP []) : PureTo Try.prog 48 [.fl .f64 x] (AV.v (.float FloatKind.f64 (toldW (fsqrt x)))) :=
  evFnM_pure hm soN4 (fn := Try.f48) rfl rfl (ti := false) (m := Mode.same) (hs := []) (c := _) (by kernel_rfl) (by kernel_rfl) h
def nsqrt (x : Nat) : Nat := toldW (fsqrt x)
theorem nsqrt_pure (x : Nat) : PureTo Try.prog 48 [.fl .f64 x] (AV.v (.float FloatKind.f64 (nsqrt x))) := nsqrt_ev x trivial
theorem rsqrt_ev (x : Nat) (h : AllP []) : PureTo Try.prog 49 [.fl .f64 x] (AV.v (.float FloatKind.f64 (toldW (fsqrt x)))) :=
  evFnM_pure hm soN4 (fn := Try.f49) rfl rfl (ti := false) (m := Mode.same) (hs := []) (c := _) (by kernel_rfl) (by kernel_rfl) h
def rsqrt (x : Nat) : Nat := toldW (fsqrt x)
theorem rsqrt_pure (x : Nat) : PureTo Try.prog 49 [.fl .f64 x] (AV.v (.float FloatKind.f64 (rsqrt x))) := rsqrt_ev x trivial
theorem round_ev (x : Nat) (h : AllP []) : PureTo Try.prog 25 [.v (.float .f64 x)] (AV.v (.float FloatKind.f64 (bif !bif feq FloatKind.f64 (bif fgt FloatKind.f64 (fsub x (intW Ieee.Toward.down x)) 4602678819172646912 || feq FloatKind.f64 (fsub x (intW Ieee.Toward.down x)) 4602678819172646912 then fadd (intW Ieee.Toward.down x) 4607182418800017408 else intW Ieee.Toward.down x) 0 then bif flt FloatKind.f64 x 0 then true else sgn x else false then toldW (bif fgt FloatKind.f64 (fsub x (intW Ieee.Toward.down x)) 4602678819172646912 || feq FloatKind.f64 (fsub x (intW Ieee.Toward.down x)) 4602678819172646912 then fadd (intW Ieee.Toward.down x) 4607182418800017408 else intW Ieee.Toward.down x) else cs 0 13830554455654793216))) :=
  evFnM_pure hm soN4 (fn := Try.f25) rfl rfl (ti := false) (m := Mode.mix) (hs := [MHint.br, MHint.join { slots := [(3, Mode.mix), (0, Mode.same)], keys := [] }, MHint.ops 4 [] [(2, 7), (5, 3)], MHint.br]) (c := _) (by kernel_rfl) (by kernel_rfl) h
def round (x : Nat) : Nat := bif !bif feq FloatKind.f64 (bif fgt FloatKind.f64 (fsub x (intW Ieee.Toward.down x)) 4602678819172646912 || feq FloatKind.f64 (fsub x (intW Ieee.Toward.down x)) 4602678819172646912 then fadd (intW Ieee.Toward.down x) 4607182418800017408 else intW Ieee.Toward.down x) 0 then bif flt FloatKind.f64 x 0 then true else sgn x else false then toldW (bif fgt FloatKind.f64 (fsub x (intW Ieee.Toward.down x)) 4602678819172646912 || feq FloatKind.f64 (fsub x (intW Ieee.Toward.down x)) 4602678819172646912 then fadd (intW Ieee.Toward.down x) 4607182418800017408 else intW Ieee.Toward.down x) else cs 0 13830554455654793216
theorem round_pure (x : Nat) : PureTo Try.prog 25 [.v (.float .f64 x)] (AV.v (.float FloatKind.f64 (round x))) := round_ev x trivial
theorem fin_ev (x : Nat) (h : AllP []) : PureTo Try.prog 66 [.fl .f64 x] (AV.v (.bool (bif !isNaN x then !isInf x (0 : Int) else false))) :=
  evFnM_pure hm soN4 (fn := Try.f66) rfl rfl (ti := false) (m := Mode.same) (hs := [MHint.ops 1 [] [(3, 4)]]) (c := _) (by kernel_rfl) (by kernel_rfl) h
def fin (x : Nat) : Bool := bif !isNaN x then !isInf x (0 : Int) else false
theorem fin_pure (x : Nat) : PureTo Try.prog 66 [.fl .f64 x] (AV.v (.bool (fin x))) := fin_ev x trivial
theorem samB_ev (x y : Nat) (h : AllP []) : PureTo Try.prog 14 [.v (.float .f64 x), .v (.float .f64 y)] (AV.v (.bool ((↑x : Int) == (↑y : Int)))) :=
  evFnM_pure hm soN4 (fn := Try.f14) rfl rfl (ti := false) (m := Mode.same) (hs := []) (c := _) (by kernel_rfl) (by kernel_rfl) h
def samB (x y : Nat) : Bool := (↑x : Int) == (↑y : Int)
theorem samB_pure (x y : Nat) : PureTo Try.prog 14 [.v (.float .f64 x), .v (.float .f64 y)] (AV.v (.bool (samB x y))) := samB_ev x y trivial
theorem ahead_ev (x y : Nat) (h : AllP []) : PureTo Try.prog 73 [.v (.float .f64 x), .v (.float .f64 y)] (AV.v (.bool (bif flt FloatKind.f64 x y then true else bif bif bif feq FloatKind.f64 x 0 then feq FloatKind.f64 y 0 else false then sgn x else false then !sgn y else false))) :=
  evFnM_pure hm soN4 (fn := Try.f73) rfl rfl (ti := false) (m := Mode.same) (hs := [MHint.ops 1 [] [(3, 16), (6, 3), (10, 3), (14, 4)]]) (c := _) (by kernel_rfl) (by kernel_rfl) h
def ahead (x y : Nat) : Bool := bif flt FloatKind.f64 x y then true else bif bif bif feq FloatKind.f64 x 0 then feq FloatKind.f64 y 0 else false then sgn x else false then !sgn y else false
theorem ahead_pure (x y : Nat) : PureTo Try.prog 73 [.v (.float .f64 x), .v (.float .f64 y)] (AV.v (.bool (ahead x y))) := ahead_ev x y trivial
end Go.Proofs.Nu

/- Numbers: rounded numbers and their like; the table. -/
set_option maxRecDepth 100000
namespace Go.Proofs.Nu
open Go Go.Ev

/-- one float in, a known one out -/
def sK (g : Nat → Nat) : List AV → Option (AV × List Prop) := sigF fun x => (.v (.float .f64 (g x)), [])
theorem cons_K {SG : SGT} {f : FuncId} (g : Nat → Nat) (h : SigsOK Try.prog SG) (hf : ∀ x, PureTo Try.prog f [.fl .f64 x] (.v (.float .f64 (g x)))) : SigsOK Try.prog ((f, .p (sK g)) :: SG) :=
  sigs_cons h (sigF_ok (f := fun x => (.v (.float .f64 (g x)), [])) fun a _ => hf a)
/-- a known one in -/
def sX (g : Nat → AV) : List AV → Option (AV × List Prop)
  | [.v (.float .f64 x)] => some (g x, [])
  | _ => none
theorem cons_X {SG : SGT} {f : FuncId} (g : Nat → AV) (h : SigsOK Try.prog SG) (hf : ∀ x, PureTo Try.prog f [.v (.float .f64 x)] (g x)) : SigsOK Try.prog ((f, .p (sX g)) :: SG) := by
  refine sigs_cons h ?_
  intro ys r c hs hc
  unfold sX at hs
  split at hs
  · cases hs; exact hf _
  · cases hs
/-- two known ones in -/
def sXX (g : Nat → Nat → AV) : List AV → Option (AV × List Prop)
  | [.v (.float .f64 x), .v (.float .f64 y)] => some (g x y, [])
  | _ => none
theorem cons_XX {SG : SGT} {f : FuncId} (g : Nat → Nat → AV) (h : SigsOK Try.prog SG) (hf : ∀ x y, PureTo Try.prog f [.v (.float .f64 x), .v (.float .f64 y)] (g x y)) : SigsOK Try.prog ((f, .p (sXX g)) :: SG) := by
  refine sigs_cons h ?_
  intro ys r c hs hc
  unfold sXX at hs
  split at hs
  · cases hs; exact hf _ _
  · cases hs

def SN5 : SGT := (24, .p (sK floor)) :: (43, .p (sK floor)) :: (26, .p (sK ceil)) :: (44, .p (sK ceil)) :: (46, .p (sK nabs)) :: (47, .p (sK nabs)) :: (48, .p (sK nsqrt)) :: (49, .p (sK nsqrt)) ::
  (25, .p (sX fun x => .v (.float .f64 (round x)))) :: (66, .p (sX fun x => .v (.bool (fin x)))) :: (14, .p (sXX fun x y => .v (.bool (samB x y)))) :: (73, .p (sXX fun x y => .v (.bool (ahead x y)))) ::
  (27, .p (sXX fun x y => .v (.int .i64 (less x y)))) :: (28, .p (sXX fun x y => .v (.int .i64 (rless x y)))) :: (29, .p (sXX fun x y => .v (.bool (equ x y)))) :: (30, .p (sXX fun x y => .v (.bool (equ x y)))) ::
  (31, .p (sXX fun x y => .v (.bool (sam x y)))) :: (32, .p (sXX fun x y => .v (.bool (rsam x y)))) :: SN4

theorem two_fl {f : FuncId} {x y : Nat} {r : AV} (h : PureTo Try.prog f [.fl .f64 x, .fl .f64 y] r) : PureTo Try.prog f [.v (.float .f64 x), .v (.float .f64 y)] r :=
  h.args rfl fun i h1 h2 => by
    have : i = 0 ∨ i = 1 := by simp at h1; omega
    rcases this with rfl | rfl <;> exact .fl _
theorem one_fl {f : FuncId} {x : Nat} {r : AV} (h : PureTo Try.prog f [.fl .f64 x] r) : PureTo Try.prog f [.v (.float .f64 x)] r :=
  h.args rfl fun i h1 h2 => by
    have : i = 0 := by simpa using h1
    subst this
    exact .fl _

theorem soN5 : SigsOK Try.prog SN5 := by
  have a1 := cons_XX (fun x y => .v (.bool (rsam x y))) soN4 rsam_pure
  have a2 := cons_XX (fun x y => .v (.bool (sam x y))) a1 sam_pure
  have a3 := cons_XX (f := 30) (fun x y => .v (.bool (equ x y))) a2 fun x y => two_fl (requ_pure x y)
  have a4 := cons_XX (fun x y => .v (.bool (equ x y))) a3 fun x y => two_fl (equ_pure x y)
  have a5 := cons_XX (fun x y => .v (.int .i64 (rless x y))) a4 fun x y => two_fl (rless_pure x y)
  have a6 := cons_XX (fun x y => .v (.int .i64 (less x y))) a5 fun x y => two_fl (less_pure x y)
  have a7 := cons_XX (fun x y => .v (.bool (ahead x y))) a6 ahead_pure
  have a8 := cons_XX (fun x y => .v (.bool (samB x y))) a7 samB_pure
  have a9 := cons_X (fun x => .v (.bool (fin x))) a8 fun x => one_fl (fin_pure x)
  have b1 := cons_X (fun x => .v (.float .f64 (round x))) a9 round_pure
  have b2 := cons_K (f := 49) nsqrt b1 fun x => rsqrt_pure x
  have b3 := cons_K nsqrt b2 fun x => nsqrt_pure x
  have b4 := cons_K (f := 47) nabs b3 fun x => rabs_pure x
  have b5 := cons_K nabs b4 fun x => nabs_pure x
  have b6 := cons_K (f := 44) ceil b5 fun x => rceil_pure x
  have b7 := cons_K ceil b6 fun x => ceil_pure x
  have b8 := cons_K (f := 43) floor b7 fun x => rfloor_pure x
  exact cons_K floor b8 fun x => floor_pure x
end Go.Proofs.Nu
