/- Contracts of the program's functions, and the plain law behind them. No condition beyond those in each statement. -/
import Derived.Test.YtablfkgeobnnpaaMfAll2
import Derived.Test.YtablfkgeobnnpaaEvAll5
set_option linter.unusedSimpArgs false
set_option linter.unusedVariables false
set_option linter.unusedSectionVars false
/- Contracts of functions, taken over from another seat; no condition beyond those in each statement. -/
set_option maxRecDepth 100000
namespace Go.Proofs.Mf
open Go Go.Ev Ieee

def opNames : List ByteArray := [⟨#[43]⟩, ⟨#[45]⟩, ⟨#[42]⟩, ⟨#[47]⟩, ⟨#[37]⟩, ⟨#[60, 60]⟩, ⟨#[62, 62]⟩, ⟨#[62, 62, 62]⟩, ⟨#[38]⟩, ⟨#[124]⟩, ⟨#[94]⟩]

def opFns : List FuncId := [91, 92, 93, 94, 70, 95, 98, 99, 100, 101, 102]

def opTab : List (ByteArray × FuncId) := [(⟨#[43]⟩, 91), (⟨#[45]⟩, 92), (⟨#[42]⟩, 93), (⟨#[47]⟩, 94), (⟨#[37]⟩, 70), (⟨#[60, 60]⟩, 95), (⟨#[62, 62]⟩, 98), (⟨#[62, 62, 62]⟩, 99), (⟨#[38]⟩, 100), (⟨#[124]⟩, 101), (⟨#[94]⟩, 102)]

def opsAV : AV := .mp opNames (opFns.map fun g => .fnv (.func g) [] [])

theorem ops_nodup : (([] : List (ByteArray × Value)).map (·.1) ++ opTab.map (·.1)).Nodup := by decide

noncomputable def code55 : Code := (Try.f81.body).getD .skip

noncomputable def ops0 : Array Oper := match code55 with | .seq (.region _ o _) _ => o | _ => #[]

noncomputable def ops1 : Array Oper := match code55 with | .seq _ (.seq (.region _ o _) _) => o | _ => #[]

theorem body55 : Try.f81.body = some (.seq (.region 0 ops0 false) (.seq (.region 1 ops1 false) .ret)) := by kernel_rfl

theorem ops_at (j : Nat) (hj : j < 11) : ops1[1 + j]? = some (ops1.getD (1 + j) default) ∧ (ops1.getD (1 + j) default).op = .insert 49 (.tmp 1) (.const (.string (opTab.getD j (⟨#[]⟩, 0)).1)) (.func (opTab.getD j (⟨#[]⟩, 0)).2) ∧
    (ops1.getD (1 + j) default).guard = none ∧ (ops1.getD (1 + j) default).dst = none := by
  have h : j = 0 ∨ j = 1 ∨ j = 2 ∨ j = 3 ∨ j = 4 ∨ j = 5 ∨ j = 6 ∨ j = 7 ∨ j = 8 ∨ j = 9 ∨ j = 10 := by omega
  rcases h with rfl | rfl | rfl | rfl | rfl | rfl | rfl | rfl | rfl | rfl | rfl <;> exact ⟨by kernel_rfl, by kernel_rfl, by kernel_rfl, by kernel_rfl⟩

theorem operators_pure : PureTo Try.prog 81 [] opsAV := by
  intro S vals hwf hr
  obtain ⟨hl, _⟩ := hr
  have hv : vals = [] := List.eq_nil_of_length_eq_zero hl
  subst hv
  have hf : Try.prog.funcs[81]? = some Try.f81 := Try.func81
  have hn' : Try.f81.name ≠ "runtime.NumGoroutine" := by decide
  have hrun : (callFunc 81 ([] : List Value).toArray).run Try.prog S.w = .ok (.enter 81 #[]) S.w := by simp [callFunc, hf, hn', body55]
  unfold CalledTo
  rw [hrun]
  refine ⟨rfl, calls_of_wp hf body55 ?_⟩
  have e0 : (#[] ++ Array.replicate (Try.f81.ntmps - (#[] : Array Value).size) undef : Array Value) = #[undef, undef, undef] := by
    rw [show Try.f81.ntmps = 3 by kernel_rfl]
    rfl
  rw [e0]
  refine wp_seq (wp_region ?_)
  rw [show List.range ops0.size = [0] by kernel_rfl]
  refine op_assign (o := ops0.getD 0 default) (x := .const (.map none)) (d := 0) (by kernel_rfl) (by kernel_rfl) (by kernel_rfl) (by kernel_rfl) ?_
  show Exit.then _ _ _ _ _
  refine wp_seq (wp_region ?_)
  rw [show List.range ops1.size = 0 :: (List.range' 1 opTab.length ++ [12, 13]) by kernel_rfl]
  refine op_makeMap (o := ops1.getD 0 default) (T := 49) (d := 1) (by kernel_rfl) (by kernel_rfl) (by kernel_rfl) (by kernel_rfl) ?_
  have hnew : (S.w.alloc (.map #[] 0)).heap[S.w.heap.size]? = some (.map #[] 0) := alloc_new _ _
  refine inserts_wp (T := 49) (kt := 9) (et := 27) (m := 1) (r := S.w.heap.size) (by kernel_rfl) (by kernel_rfl) (by simp [Act.put, Act.eval]) opTab 1 [] #[] 0 _ (fun j hj => ?_) hnew rfl ops_nodup fun es' clock' w' g1 g2 g3 => ?_
  · have hj' : j < 11 := hj
    have ho := ops_at j hj'
    have h : j = 0 ∨ j = 1 ∨ j = 2 ∨ j = 3 ∨ j = 4 ∨ j = 5 ∨ j = 6 ∨ j = 7 ∨ j = 8 ∨ j = 9 ∨ j = 10 := by omega
    rcases h with rfl | rfl | rfl | rfl | rfl | rfl | rfl | rfl | rfl | rfl | rfl <;> exact ⟨_, ho⟩
  · refine op_move (o := ops1.getD 12 default) (x := .tmp 1) (d := 2) (by kernel_rfl) (by kernel_rfl) (by kernel_rfl) (by kernel_rfl) ?_
    refine op_assign (o := ops1.getD 13 default) (x := .tmp 2) (d := 0) (by kernel_rfl) (by kernel_rfl) (by kernel_rfl) (by kernel_rfl) ?_
    refine wp_ret ?_
    have hgr : Grows S.w w' := by
      have h1 := alloc_grows S.w (.map #[] 0)
      refine ⟨by rw [g2.size]; exact h1.size, g2.os.trans h1.os, g2.tape.trans h1.tape, g2.output.trans h1.output, fun b hb => ?_⟩
      rw [g2.block b (by omega)]
      exact h1.block b hb
    have hfree : S.free S.w.heap.size := by
      unfold St.free
      cases ho : S.own S.w.heap.size with
      | none => rfl
      | some o => exact absurd (hwf.bound _ o ho) (by omega)
    have hents : Ent es' (opTab.map fun p => (p.1, Value.func (.func p.2) #[] #[])) := g3
    have hsz : es'.toList.length = 11 := by
      have := congrArg List.length hents
      simpa [opTab] using this
    have hat : ∀ i, i < 11 → ((es'.getD i default).key, (es'.getD i default).val) = (Value.string (opNames.getD i ByteArray.empty), Value.func (.func (opFns.getD i 0)) #[] #[]) := fun i hi => by
      have h1 := congrArg (fun x => x[i]?) hents
      simp only [List.getElem?_map] at h1
      have h2 : i < opTab.length := hi
      have h3 : i < es'.toList.length := by rw [hsz]; exact hi
      rw [List.getElem?_eq_getElem h3, List.getElem?_eq_getElem h2] at h1
      simp only [Option.map_some, Option.some.injEq] at h1
      have h4 : es'.getD i default = es'.toList[i] := by
        rw [Array.getD_eq_getD_getElem?, ← Array.getElem?_toList, List.getElem?_eq_getElem h3]
        rfl
      rw [h4, h1]
      have h : i = 0 ∨ i = 1 ∨ i = 2 ∨ i = 3 ∨ i = 4 ∨ i = 5 ∨ i = 6 ∨ i = 7 ∨ i = 8 ∨ i = 9 ∨ i = 10 := by omega
      rcases h with rfl | rfl | rfl | rfl | rfl | rfl | rfl | rfl | rfl | rfl | rfl <;> rfl
    refine ⟨rfl, .map (some S.w.heap.size), ?_, _, rfl, hgr, ?_⟩
    · simp [Act.put, Act.eval, results]
    · refine .mp S.w.heap.size es' clock' _ _ hfree g1 (by rw [← Array.length_toList, hsz]; rfl) rfl (fun i hi => ?_) (fun i hi => ?_)
      · exact (Prod.mk.inj (hat i hi)).1
      · have hi' : i < 11 := hi
        have e := (Prod.mk.inj (hat i hi')).2
        rw [e]
        have key : ∀ g, RepI w' S.free (.func (.func g) #[] #[]) (.fnv (.func g) [] []) := fun g => .fnv _ _ _ _ _ rfl (fun i h => absurd h (by simp)) rfl (fun i h => absurd h (by simp))
        have h : i = 0 ∨ i = 1 ∨ i = 2 ∨ i = 3 ∨ i = 4 ∨ i = 5 ∨ i = 6 ∨ i = 7 ∨ i = 8 ∨ i = 9 ∨ i = 10 := by omega
        rcases h with rfl | rfl | rfl | rfl | rfl | rfl | rfl | rfl | rfl | rfl | rfl <;> exact key _

theorem bits_c (x : Nat) : PureTo Try.prog 35 [.v (.float .f64 x)] (.v (.int .u64 x)) := bits_pure Try.func35 (by kernel_rfl) (by kernel_rfl) (by kernel_rfl) (by kernel_rfl) x

theorem frombits_c (x : Int) : PureTo Try.prog 30 [.v (.int .u64 x)] (.v (.float .f64 x.toNat)) := frombits_pure Try.func30 (by kernel_rfl) (by kernel_rfl) (by kernel_rfl) (by kernel_rfl) x

def sigOf : List AV → Option (AV × List Prop)
  | [.v (.int .u64 n)] => some (.v (.float .f64 n.toNat), [])
  | _ => none

def SN0 : SGT := (35, .p sigBits) :: (30, .p sigOf) :: []

theorem soN0 : SigsOK Try.prog SN0 := by
  refine sigs_cons (sigs_cons sok0 ?_) (sigBits_ok bits_c)
  intro ys r c h hc
  unfold sigOf at h
  split at h
  · cases h; exact frombits_c _
  · cases h

theorem isNaN_ev (x : Nat) (h : AllP []) : PureTo Try.prog 27 [.fl .f64 x] (AV.v (.bool !feq FloatKind.f64 x x)) :=
  evFnM_pure hm soN0 (fn := Try.f27) rfl rfl (ti := false) (m := Mode.same) (hs := []) (c := _) (by kernel_rfl) (by kernel_rfl) h

def isNaN (x : Nat) : Bool := !feq FloatKind.f64 x x

theorem isNaN_pure (x : Nat) : PureTo Try.prog 27 [.fl .f64 x] (AV.v (.bool (isNaN x))) := isNaN_ev x trivial

theorem abs_ev (x : Nat) (h : AllP []) : PureTo Try.prog 18 [.v (.float .f64 x)] (AV.v (.float FloatKind.f64 (bitsOf BinOp.andNot IntKind.u64 (↑x : Int) (9223372036854775808 : Int)).toNat)) :=
  evFnM_pure hm soN0 (fn := Try.f18) rfl rfl (ti := false) (m := Mode.same) (hs := []) (c := _) (by kernel_rfl) (by kernel_rfl) h

def abs (x : Nat) : Nat := (bitsOf BinOp.andNot IntKind.u64 (↑x : Int) (9223372036854775808 : Int)).toNat

theorem abs_pure (x : Nat) : PureTo Try.prog 18 [.v (.float .f64 x)] (AV.v (.float FloatKind.f64 (abs x))) := abs_ev x trivial

theorem sgn_ev (x : Nat) (h : AllP []) : PureTo Try.prog 47 [.v (.float .f64 x)] (AV.v (.bool (decide (IntKind.i64.wrap (↑x : Int) < (0 : Int))))) :=
  evFnM_pure hm soN0 (fn := Try.f47) rfl rfl (ti := false) (m := Mode.same) (hs := []) (c := _) (by kernel_rfl) (by kernel_rfl) h

def sgn (x : Nat) : Bool := decide (IntKind.i64.wrap (↑x : Int) < (0 : Int))

theorem sgn_pure (x : Nat) : PureTo Try.prog 47 [.v (.float .f64 x)] (AV.v (.bool (sgn x))) := sgn_ev x trivial

theorem cs_ev (x y : Nat) (h : AllP []) : PureTo Try.prog 53 [.v (.float .f64 x), .v (.float .f64 y)] (AV.v (.float FloatKind.f64 (bitsOf BinOp.or IntKind.u64 (bitsOf BinOp.andNot IntKind.u64 (↑x : Int) (9223372036854775808 : Int)) (bitsOf BinOp.and IntKind.u64 (↑y : Int) (9223372036854775808 : Int))).toNat)) :=
  evFnM_pure hm soN0 (fn := Try.f53) rfl rfl (ti := false) (m := Mode.same) (hs := []) (c := _) (by kernel_rfl) (by kernel_rfl) h

def cs (x y : Nat) : Nat := (bitsOf BinOp.or IntKind.u64 (bitsOf BinOp.andNot IntKind.u64 (↑x : Int) (9223372036854775808 : Int)) (bitsOf BinOp.and IntKind.u64 (↑y : Int) (9223372036854775808 : Int))).toNat

theorem cs_pure (x y : Nat) : PureTo Try.prog 53 [.v (.float .f64 x), .v (.float .f64 y)] (AV.v (.float FloatKind.f64 (cs x y))) := cs_ev x y trivial

theorem inf_ev (s : Int) (h : AllP []) : PureTo Try.prog 42 [.v (.int .i64 s)] (AV.v (.float FloatKind.f64 (bif decide (s ≥ (0 : Int)) then (9218868437227405312 : Int) else (18442240474082181120 : Int)).toNat)) :=
  evFnM_pure hm soN0 (fn := Try.f42) rfl rfl (ti := false) (m := Mode.same) (hs := [MHint.br, MHint.join { slots := [(3, Mode.mix)], keys := [] }]) (c := _) (by kernel_rfl) (by kernel_rfl) h

def inf (s : Int) : Nat := (bif decide (s ≥ (0 : Int)) then (9218868437227405312 : Int) else (18442240474082181120 : Int)).toNat

theorem inf_pure (s : Int) : PureTo Try.prog 42 [.v (.int .i64 s)] (AV.v (.float FloatKind.f64 (inf s))) := inf_ev s trivial
-- 1 paths

theorem nan1  (h : AllP []) : PureTo Try.prog 103 [] (AV.v (.float FloatKind.f64 9221120237041090560)) :=
  evFn_pure hm soN0 (fn := Try.f103) rfl rfl (ti := false) (hs := []) (c := _) (by kernel_rfl) h
-- 1 paths

theorem nanm1  (h : AllP []) : PureTo Try.prog 85 [] (AV.v (.float FloatKind.f64 9221120237041090561)) :=
  evFn_pure hm soN0 (fn := Try.f85) rfl rfl (ti := false) (hs := []) (c := _) (by kernel_rfl) h

theorem low63 (x : Nat) : (BitVec.ofNat 64 x &&& ~~~9223372036854775808#64) = BitVec.ofNat 64 (x % 9223372036854775808) := by
  apply BitVec.eq_of_getLsbD_eq
  intro i hi
  have e : (9223372036854775808#64).getLsbD i = decide (i = 63) := by
    rw [show (9223372036854775808#64) = BitVec.ofNat 64 (2 ^ 63) from rfl, BitVec.getLsbD_ofNat, Nat.testBit_two_pow]
    simp [hi]
    omega
  simp only [BitVec.getLsbD_and, BitVec.getLsbD_not, hi, decide_true, Bool.true_and, BitVec.getLsbD_ofNat, e]
  rw [show (9223372036854775808 : Nat) = 2 ^ 63 from rfl, Nat.testBit_mod_two_pow]
  by_cases h : i = 63
  · subst h; simp
  · have : i < 63 := by omega
    simp [h, this]

theorem top63 (x : Nat) : (BitVec.ofNat 64 x &&& 9223372036854775808#64) = BitVec.ofNat 64 (x / 9223372036854775808 % 2 * 9223372036854775808) := by
  apply BitVec.eq_of_getLsbD_eq
  intro i hi
  have e : (9223372036854775808#64).getLsbD i = decide (i = 63) := by
    rw [show (9223372036854775808#64) = BitVec.ofNat 64 (2 ^ 63) from rfl, BitVec.getLsbD_ofNat, Nat.testBit_two_pow]
    simp [hi]
    omega
  simp only [BitVec.getLsbD_and, hi, decide_true, Bool.true_and, BitVec.getLsbD_ofNat, e]
  rw [show (9223372036854775808 : Nat) = 2 ^ 63 from rfl, Nat.testBit_mul_two_pow]
  by_cases h : i = 63
  · subst h
    simp [Nat.testBit, Nat.shiftRight_eq_div_pow]
  · have : ¬ 63 ≤ i := by omega
    simp [h, this]

theorem abs_eq (x : Nat) : abs x = x % 9223372036854775808 := by
  have e : abs x = (IntKind.u64.wrap ((BitVec.ofInt 64 (x : Int) &&& ~~~9223372036854775808#64).toNat : Int)).toNat := rfl
  rw [e, ofInt_nat, low63, BitVec.toNat_ofNat]
  show ((((x % 9223372036854775808) % 2 ^ 64 : Nat) : Int) % 18446744073709551616).toNat = _
  omega

theorem cs_eq (x y : Nat) : cs x y = x % 9223372036854775808 + y / 9223372036854775808 % 2 * 9223372036854775808 := by
  have h1 : bitsOf BinOp.andNot IntKind.u64 (↑x : Int) (9223372036854775808 : Int) = ((x % 9223372036854775808 : Nat) : Int) := by
    have e : bitsOf BinOp.andNot IntKind.u64 (↑x : Int) (9223372036854775808 : Int) = IntKind.u64.wrap ((BitVec.ofInt 64 (x : Int) &&& ~~~9223372036854775808#64).toNat : Int) := rfl
    rw [e, ofInt_nat, low63, BitVec.toNat_ofNat]
    show (((x % 9223372036854775808) % 2 ^ 64 : Nat) : Int) % 18446744073709551616 = _
    omega
  have h2 : bitsOf BinOp.and IntKind.u64 (↑y : Int) (9223372036854775808 : Int) = ((y / 9223372036854775808 % 2 * 9223372036854775808 : Nat) : Int) := by
    have e : bitsOf BinOp.and IntKind.u64 (↑y : Int) (9223372036854775808 : Int) = IntKind.u64.wrap ((BitVec.ofInt 64 (y : Int) &&& 9223372036854775808#64).toNat : Int) := rfl
    rw [e, ofInt_nat, top63, BitVec.toNat_ofNat]
    show (((y / 9223372036854775808 % 2 * 9223372036854775808) % 2 ^ 64 : Nat) : Int) % 18446744073709551616 = _
    omega
  unfold cs
  rw [h1, h2, (or_add (k := .u64) rfl (s := 63) (by omega) (by show _ < ((2 ^ 63 : Nat) : Int); omega) (by omega) (by show _ < (2 ^ 64 : Int); omega) (by omega) (by decide)).1]
  omega

theorem read_low {x y : Nat} (h : x % 9223372036854775808 = y % 9223372036854775808) : nanB .f64 x ↔ nanB .f64 y := by
  rw [nanB_iff, nanB_iff, Go.Fl.read64, Go.Fl.read64, h]
  split
  · exact ⟨fun h => (by cases h), fun h => (by cases h)⟩
  · split
    · exact ⟨fun h => (by cases h), fun h => (by cases h)⟩
    · split
      · exact ⟨fun h => (by cases h), fun h => (by cases h)⟩
      · exact ⟨fun _ => rfl, fun _ => rfl⟩

theorem abs_nan {x : Nat} : nanB .f64 (abs x) ↔ nanB .f64 x := read_low (by rw [abs_eq]; omega)

theorem cs_nan {x y : Nat} : nanB .f64 (cs x y) ↔ nanB .f64 x := read_low (by rw [cs_eq]; omega)

def sigAbs : List AV → Option (AV × List Prop)
  | [.v (.float .f64 a)] => some (.v (.float .f64 (abs a)), [])
  | [.fl .f64 a] => some (.fl .f64 (abs a), [])
  | _ => none

def sigSgn : List AV → Option (AV × List Prop)
  | [.v (.float .f64 a)] => some (.v (.bool (sgn a)), [])
  | [.fl .f64 a] => some (.v (.bool (sgn a)), [¬ nanB .f64 a])
  | _ => none

def sigCs : List AV → Option (AV × List Prop)
  | [.v (.float .f64 a), .v (.float .f64 b)] => some (.v (.float .f64 (cs a b)), [])
  | [.v (.float .f64 a), .fl .f64 b] => some (.v (.float .f64 (cs a b)), [¬ nanB .f64 b])
  | [.fl .f64 a, .v (.float .f64 b)] => some (.fl .f64 (cs a b), [])
  | [.fl .f64 a, .fl .f64 b] => some (.fl .f64 (cs a b), [¬ nanB .f64 b])
  | _ => none

theorem cs_fl (a b : Nat) : PureTo Try.prog 53 [.fl .f64 a, .v (.float .f64 b)] (.fl .f64 (cs a b)) := by
  intro S vals hwf hr
  obtain ⟨h1, h2⟩ := hr
  match vals, h1 with
  | [v, u], _ =>
    have hv := h2 0 (by simp) (by simp)
    have hu := h2 1 (by simp) (by simp)
    simp only [List.getElem_cons_zero, List.getElem_cons_succ] at hv hu
    obtain ⟨a', rfl, ha⟩ := repI_fl hv
    obtain ⟨rfl, _⟩ := repI_v hu
    refine (cs_pure a' b S [.float .f64 a', .float .f64 b] hwf ⟨rfl, fun i h1 h2 => ?_⟩).mono fun v w' ⟨k1, k2⟩ => ⟨k1, ?_⟩
    · have : i = 0 ∨ i = 1 := by simp at h1; omega
      rcases this with rfl | rfl <;> exact .v _ trivial
    · obtain ⟨rfl, _⟩ := repI_v k2
      refine FRep.repI ?_
      rcases ha with rfl | ⟨n1, n2⟩
      · exact .inl rfl
      · exact .inr ⟨cs_nan.2 n1, cs_nan.2 n2⟩

def SN1 : SGT := (27, .p (sigF fun x => (.v (.bool (isNaN x)), []))) :: (18, .p sigAbs) :: (47, .p sigSgn) :: (53, .p sigCs) ::
  (42, .p (fun | [.v (.int .i64 s)] => some (.v (.float .f64 (inf s)), []) | _ => none)) ::
  (103, .p (fun | [] => some (.v (.float .f64 9221120237041090560), []) | _ => none)) :: (85, .p (fun | [] => some (.v (.float .f64 9221120237041090561), []) | _ => none)) :: SN0

theorem soN1 : SigsOK Try.prog SN1 := by
  refine sigs_cons (sigs_cons (sigs_cons (sigs_cons (sigs_cons (sigs_cons (sigs_cons soN0 ?_) ?_) ?_) ?_) ?_) ?_) (sigF_ok fun x _ => isNaN_pure x)
  · intro ys r c h hc
    split at h
    · cases h; exact nanm1 trivial
    · cases h
  · intro ys r c h hc
    split at h
    · cases h; exact nan1 trivial
    · cases h
  · intro ys r c h hc
    split at h
    · cases h; exact inf_pure _
    · cases h
  · intro ys r c h hc
    unfold sigCs at h
    split at h
    · cases h; exact cs_pure _ _
    · cases h
      refine (cs_pure _ _).args rfl fun i h1 h2 => ?_
      have : i = 0 ∨ i = 1 := by simp at h1; omega
      rcases this with rfl | rfl
      · exact .same _
      · exact .num _ hc.1
    · cases h; exact cs_fl _ _
    · cases h
      refine (cs_fl _ _).args rfl fun i h1 h2 => ?_
      have : i = 0 ∨ i = 1 := by simp at h1; omega
      rcases this with rfl | rfl
      · exact .same _
      · exact .num _ hc.1
    · cases h
  · intro ys r c h hc
    unfold sigSgn at h
    split at h
    · cases h; exact sgn_pure _
    · cases h
      refine (sgn_pure _).args rfl fun i h1 h2 => ?_
      have : i = 0 := by simpa using h1
      subst this
      exact .num _ hc.1
    · cases h
  · intro ys r c h hc
    unfold sigAbs at h
    split at h
    · cases h; exact abs_pure _
    · cases h; exact PureTo.lift1 abs_pure (fun a h => abs_nan.2 h) _
    · cases h

theorem isInf_ev (x : Nat) (s : Int) (h : AllP []) : PureTo Try.prog 44 [.fl .f64 x, .v (.int .i64 s)] (AV.v (.bool (fgt FloatKind.f64 (bif s == (0 : Int) then abs x else bif decide (s < (0 : Int)) then fneg x else x) 9218868437227405311))) :=
  evFnM_pure hm soN1 (fn := Try.f44) rfl rfl (ti := false) (m := Mode.same) (hs := [MHint.br, MHint.br, MHint.join { slots := [(0, Mode.mix)], keys := [] }]) (c := _) (by kernel_rfl) (by kernel_rfl) h

def isInf (x : Nat) (s : Int) : Bool := fgt FloatKind.f64 (bif s == (0 : Int) then abs x else bif decide (s < (0 : Int)) then fneg x else x) 9218868437227405311

theorem isInf_pure (x : Nat) (s : Int) : PureTo Try.prog 44 [.fl .f64 x, .v (.int .i64 s)] (AV.v (.bool (isInf x s))) := isInf_ev x s trivial

theorem trunc_ev (x : Nat) (h : AllP [(!flt FloatKind.f64 (abs x) 4607182418800017408) = true → AllP [(0 : Int) ≤ (52 : Int), decide ((bitsOf BinOp.and IntKind.u64 ((↑x : Int) / (4503599627370496 : Int)) (2047 : Int) - (1023 : Int)) % (18446744073709551616 : Int) < (52 : Int)) = true → AllP [(0 : Int) ≤ ((52 : Int) - (bitsOf BinOp.and IntKind.u64 ((↑x : Int) / (4503599627370496 : Int)) (2047 : Int) - (1023 : Int)) % (18446744073709551616 : Int)) % (18446744073709551616 : Int), inR IntKind.u64 ((1 : Int) * (2 : Int) ^ min (((52 : Int) - (bitsOf BinOp.and IntKind.u64 ((↑x : Int) / (4503599627370496 : Int)) (2047 : Int) - (1023 : Int)) % (18446744073709551616 : Int)) % (18446744073709551616 : Int)).toNat 64)]]]) : PureTo Try.prog 72 [.v (.float .f64 x)] (AV.v (.float FloatKind.f64 (bif !flt FloatKind.f64 (abs x) 4607182418800017408 then (bif decide ((bitsOf BinOp.and IntKind.u64 ((↑x : Int) / (4503599627370496 : Int)) (2047 : Int) - (1023 : Int)) % (18446744073709551616 : Int) < (52 : Int)) then bitsOf BinOp.andNot IntKind.u64 (↑x : Int) (((1 : Int) * (2 : Int) ^ min (((52 : Int) - (bitsOf BinOp.and IntKind.u64 ((↑x : Int) / (4503599627370496 : Int)) (2047 : Int) - (1023 : Int)) % (18446744073709551616 : Int)) % (18446744073709551616 : Int)).toNat 64 - (1 : Int)) % (18446744073709551616 : Int)) else (↑x : Int)).toNat else cs 0 x))) :=
  evFnM_pure hm soN1 (fn := Try.f72) rfl rfl (ti := false) (m := Mode.mix) (hs := [MHint.br, MHint.ops 4 [(3, Hint.wrap)] [], MHint.br, MHint.ops 6 [(2, Hint.wrap), (4, Hint.wrap)] [], MHint.join { slots := [(3, Mode.mix)], keys := [] }]) (c := _) (by kernel_rfl) (by kernel_rfl) h

def trunc (x : Nat) : Nat := bif !flt FloatKind.f64 (abs x) 4607182418800017408 then (bif decide ((bitsOf BinOp.and IntKind.u64 ((↑x : Int) / (4503599627370496 : Int)) (2047 : Int) - (1023 : Int)) % (18446744073709551616 : Int) < (52 : Int)) then bitsOf BinOp.andNot IntKind.u64 (↑x : Int) (((1 : Int) * (2 : Int) ^ min (((52 : Int) - (bitsOf BinOp.and IntKind.u64 ((↑x : Int) / (4503599627370496 : Int)) (2047 : Int) - (1023 : Int)) % (18446744073709551616 : Int)) % (18446744073709551616 : Int)).toNat 64 - (1 : Int)) % (18446744073709551616 : Int)) else (↑x : Int)).toNat else cs 0 x

theorem trunc_pure (x : Nat) (h : AllP [(!flt FloatKind.f64 (abs x) 4607182418800017408) = true → AllP [(0 : Int) ≤ (52 : Int), decide ((bitsOf BinOp.and IntKind.u64 ((↑x : Int) / (4503599627370496 : Int)) (2047 : Int) - (1023 : Int)) % (18446744073709551616 : Int) < (52 : Int)) = true → AllP [(0 : Int) ≤ ((52 : Int) - (bitsOf BinOp.and IntKind.u64 ((↑x : Int) / (4503599627370496 : Int)) (2047 : Int) - (1023 : Int)) % (18446744073709551616 : Int)) % (18446744073709551616 : Int), inR IntKind.u64 ((1 : Int) * (2 : Int) ^ min (((52 : Int) - (bitsOf BinOp.and IntKind.u64 ((↑x : Int) / (4503599627370496 : Int)) (2047 : Int) - (1023 : Int)) % (18446744073709551616 : Int)) % (18446744073709551616 : Int)).toNat 64)]]]) : PureTo Try.prog 72 [.v (.float .f64 x)] (AV.v (.float FloatKind.f64 (trunc x))) := trunc_ev x h

theorem norm (x : Nat) (h : AllP []) : PureTo Try.prog 78 [.fl .f64 x] (AV.tup [AV.fl FloatKind.f64 (bif !flt FloatKind.f64 (abs x) 4503599627370496 then x else fmul x 4841369599423283200), AV.v (.int .i64 (bif !flt FloatKind.f64 (abs x) 4503599627370496 then (0 : Int) else (-52 : Int)))]) :=
  evFnM_pure hm soN1 (fn := Try.f78) rfl rfl (ti := false) (m := Mode.parts [Mode.mix, Mode.mix]) (hs := [MHint.br]) (c := _) (by kernel_rfl) (by kernel_rfl) h

def less (x y : Nat) : Int := bif (!bif isNaN x then true else isNaN y) && !flt FloatKind.f64 x y then (0 : Int) else bif bif isNaN x then true else isNaN y then (-1 : Int) else (1 : Int)

theorem told1 (x : Nat) (h : AllP [isNaN x = true]) : PureTo Try.prog 82 [.fl .f64 x] (AV.v (.float FloatKind.f64 9221120237041090560)) :=
  evFn_pure hm soN1 (fn := Try.f82) rfl rfl (ti := false) (hs := [CHint.ops 1 [(1, Hint.b true)]]) (c := _) (by kernel_rfl) h

theorem told2 (x : Nat) (h : AllP [isNaN x = false]) : PureTo Try.prog 82 [.fl .f64 x] (AV.fl FloatKind.f64 x) :=
  evFn_pure hm soN1 (fn := Try.f82) rfl rfl (ti := false) (hs := [CHint.ops 1 [(1, Hint.b false)]]) (c := _) (by kernel_rfl) h
-- 2 paths

theorem plain1 (x : Nat) (h : AllP [isNaN x = true]) : PureTo Try.prog 84 [.fl .f64 x] (AV.v (.float FloatKind.f64 9221120237041090560)) :=
  evFn_pure hm soN1 (fn := Try.f84) rfl rfl (ti := false) (hs := [CHint.ops 1 [(1, Hint.b true)]]) (c := _) (by kernel_rfl) h

theorem plain2 (x : Nat) (h : AllP [isNaN x = false]) : PureTo Try.prog 84 [.fl .f64 x] (AV.fl FloatKind.f64 x) :=
  evFn_pure hm soN1 (fn := Try.f84) rfl rfl (ti := false) (hs := [CHint.ops 1 [(1, Hint.b false)]]) (c := _) (by kernel_rfl) h

theorem isNaN_iff {x : Nat} : isNaN x = true ↔ nanB .f64 x := by
  rw [nanB_iff]
  unfold isNaN feq
  cases h : (FloatKind.f64.format.read x).isNaN with
  | true => rw [Go.Fl.nan_order (.inl h)]; simp
  | false => rw [Go.Fl.order_self h]; simp

theorem isNaN_false {x : Nat} : isNaN x = false ↔ ¬ nanB .f64 x := by
  rw [← isNaN_iff]
  simp

/-- a number as it is told -/
def toldW (x : Nat) : Nat := if isNaN x = true then qnan else x

theorem told_c (x : Nat) : PureTo Try.prog 82 [.fl .f64 x] (.v (.float .f64 (toldW x))) := by
  unfold toldW
  by_cases h : isNaN x = true
  · rw [if_pos h]
    exact told1 x ⟨h, trivial⟩
  · rw [if_neg h]
    have h' : isNaN x = false := by simpa using h
    exact (told2 x ⟨h', trivial⟩).ans (.num _ (isNaN_false.1 h'))

theorem plain_c (x : Nat) : PureTo Try.prog 84 [.fl .f64 x] (.v (.float .f64 (toldW x))) := by
  unfold toldW
  by_cases h : isNaN x = true
  · rw [if_pos h]
    exact plain1 x ⟨h, trivial⟩
  · rw [if_neg h]
    have h' : isNaN x = false := by simpa using h
    exact (plain2 x ⟨h', trivial⟩).ans (.num _ (isNaN_false.1 h'))

/-- a word -/
def W (x : Nat) : Prop := x < 18446744073709551616

/-- a float's exponent as it lies there -/
def expo (x : Nat) : Nat := x / 4503599627370496 % 2048

theorem expo_bits {x : Nat} (h : W x) : bitsOf BinOp.and IntKind.u64 ((↑x : Int) / (4503599627370496 : Int)) (2047 : Int) = (expo x : Int) := by
  unfold W at h
  have := and_low (k := .u64) rfl (x := (x : Int) / 4503599627370496) (s := 11) (by omega) (by show _ < (2 ^ 64 : Int); omega) (by decide)
  rw [show (((2 ^ 11 - 1 : Nat)) : Int) = 2047 from rfl] at this
  rw [this]
  unfold expo
  show (x : Int) / 4503599627370496 % 2048 = _
  omega

theorem trunc_c {x : Nat} (h : W x) : PureTo Try.prog 72 [.v (.float .f64 x)] (.v (.float .f64 (trunc x))) := by
  refine trunc_pure x ⟨fun _ => ⟨by decide, fun h1 => ?_, trivial⟩, trivial⟩
  rw [expo_bits h] at h1 ⊢
  have h1 := of_decide_eq_true h1
  have he : expo x < 2048 := Nat.mod_lt _ (by decide)
  generalize hE : ((expo x : Int) - 1023) % 18446744073709551616 = E at h1 ⊢
  have hE0 : 0 ≤ E := by omega
  have e2 : (52 - E) % 18446744073709551616 = 52 - E := by omega
  rw [e2]
  have hp : (2 : Int) ^ min (52 - E).toNat 64 ≤ 2 ^ 52 := by
    have : min (52 - E).toNat 64 ≤ 52 := by omega
    exact_mod_cast Nat.pow_le_pow_right (by decide : 0 < 2) this
  have hp0 : (0 : Int) < 2 ^ min (52 - E).toNat 64 := Int.pow_pos (by decide)
  simp only [AllP, inR]
  (repeat' apply And.intro) <;> first | omega | exact trivial

def normF (x : Nat) : Nat := bif !flt FloatKind.f64 (abs x) 4503599627370496 then x else fmul x 4841369599423283200

def normE (x : Nat) : Int := bif !flt FloatKind.f64 (abs x) 4503599627370496 then (0 : Int) else (-52 : Int)

def sigInf : List AV → Option (AV × List Prop)
  | [x, .v (.int .i64 s)] => match fbits x with
    | some a => some (.v (.bool (isInf a s)), [])
    | none => none
  | _ => none

def sigTrunc : List AV → Option (AV × List Prop)
  | [.v (.float .f64 a)] => some (.v (.float .f64 (trunc a)), [W a])
  | [.fl .f64 a] => some (.v (.float .f64 (trunc a)), [W a, ¬ nanB .f64 a])
  | _ => none

theorem sigTrunc_ok {i : FuncId} (h : ∀ a, W a → PureTo Try.prog i [.v (.float .f64 a)] (.v (.float .f64 (trunc a)))) : ∀ ys r c, sigTrunc ys = some (r, c) → AllP c → PureTo Try.prog i ys r := by
  intro ys r c hs hc
  unfold sigTrunc at hs
  split at hs
  · cases hs; exact h _ hc.1
  · cases hs
    exact (h _ hc.1).args rfl fun i h1 h2 => by
      have : i = 0 := by simpa using h1
      subst this
      exact .num _ hc.2.1
  · cases hs

theorem sigInf_ok : ∀ ys r c, sigInf ys = some (r, c) → AllP c → PureTo Try.prog 44 ys r := by
  intro ys r c hs hc
  unfold sigInf at hs
  split at hs
  · split at hs
    · next a ha =>
      cases hs
      exact (isInf_pure a _).args rfl fun i h1 h2 => by
        have : i = 0 ∨ i = 1 := by simp at h1; omega
        rcases this with rfl | rfl
        · exact fbits_closer ha
        · exact .same _
    · cases hs
  · cases hs

def SN2 : SGT := (44, .p sigInf) :: (82, .p (sigF fun x => (.v (.float .f64 (toldW x)), []))) :: (84, .p (sigF fun x => (.v (.float .f64 (toldW x)), []))) :: (72, .p sigTrunc) ::
  (78, .p (sigF fun x => (.tup [.fl .f64 (normF x), .v (.int .i64 (normE x))], []))) :: SN1

theorem soN2 : SigsOK Try.prog SN2 :=
  sigs_cons (sigs_cons (sigs_cons (sigs_cons (sigs_cons soN1 (sigF_ok fun x _ => norm x trivial)) (sigTrunc_ok fun a h => trunc_c h)) (sigF_ok fun x _ => plain_c x)) (sigF_ok fun x _ => told_c x)) sigInf_ok

theorem atrunc_c (x : Nat) : PureTo Try.prog 71 [.fl .f64 x] (.fl .f64 (intW .zero x)) := int_ext (fn := Try.f71) rfl (by kernel_rfl) (by kernel_rfl) (by kernel_rfl) (by kernel_rfl : Extern.find Try.f71 = some (Extern.MathFloor.toIntegral "math.archTrunc" .zero)) x

theorem afloor_c (x : Nat) : PureTo Try.prog 64 [.fl .f64 x] (.fl .f64 (intW .down x)) := int_ext (fn := Try.f64) rfl (by kernel_rfl) (by kernel_rfl) (by kernel_rfl) (by kernel_rfl : Extern.find Try.f64 = some (Extern.MathFloor.toIntegral "math.archFloor" .down)) x

theorem asqrt_c (x : Nat) : PureTo Try.prog 90 [.fl .f64 x] (.fl .f64 (fsqrt x)) := sqrt_ext (fn := Try.f90) rfl (by kernel_rfl) (by kernel_rfl) (by kernel_rfl) (by kernel_rfl) x

def sF (g : Nat → Nat) : List AV → Option (AV × List Prop) := sigF fun x => (.fl .f64 (g x), [])

theorem sF_ok {i : FuncId} {g : Nat → Nat} (h : ∀ x, PureTo Try.prog i [.fl .f64 x] (.fl .f64 (g x))) : ∀ ys r c, sF g ys = some (r, c) → AllP c → PureTo Try.prog i ys r := sigF_ok (f := fun x => (.fl .f64 (g x), [])) fun a _ => h a

def SN3 : SGT := (71, .p (sF (intW .zero))) :: (64, .p (sF (intW .down))) :: (90, .p (sF fsqrt)) :: SN2

theorem cons_F {SG : SGT} {f : FuncId} (g : Nat → Nat) (h : SigsOK Try.prog SG) (hf : ∀ x, PureTo Try.prog f [.fl .f64 x] (.fl .f64 (g x))) : SigsOK Try.prog ((f, .p (sF g)) :: SG) := sigs_cons h (sF_ok hf)

theorem soN3 : SigsOK Try.prog SN3 :=
  cons_F (intW .zero) (cons_F (intW .down) (cons_F fsqrt soN2 asqrt_c) afloor_c) atrunc_c

theorem mtrunc1 (x : Nat) (h : AllP []) : PureTo Try.prog 49 [.fl .f64 x] (AV.fl FloatKind.f64 (intW Ieee.Toward.zero x)) :=
  evFn_pure hm soN3 (fn := Try.f49) rfl rfl (ti := false) (hs := []) (c := _) (by kernel_rfl) h
-- 1 paths

theorem mfloor1 (x : Nat) (h : AllP []) : PureTo Try.prog 39 [.fl .f64 x] (AV.fl FloatKind.f64 (intW Ieee.Toward.down x)) :=
  evFn_pure hm soN3 (fn := Try.f39) rfl rfl (ti := false) (hs := []) (c := _) (by kernel_rfl) h
-- 1 paths

theorem msqrt1 (x : Nat) (h : AllP []) : PureTo Try.prog 76 [.fl .f64 x] (AV.fl FloatKind.f64 (fsqrt x)) :=
  evFn_pure hm soN3 (fn := Try.f76) rfl rfl (ti := false) (hs := []) (c := _) (by kernel_rfl) h
-- 1 paths

def SN4 : SGT := (49, .p (sF (intW .zero))) :: (39, .p (sF (intW .down))) :: (76, .p (sF fsqrt)) :: SN3

theorem soN4 : SigsOK Try.prog SN4 :=
  cons_F (intW .zero) (cons_F (intW .down) (cons_F fsqrt soN3 fun x => msqrt1 x trivial) fun x => mfloor1 x trivial) fun x => mtrunc1 x trivial

theorem nsqrt_ev (x : Nat) (h : AllP []) : PureTo Try.prog 75 [.fl .f64 x] (AV.v (.float FloatKind.f64 (toldW (fsqrt x)))) :=
  evFnM_pure hm soN4 (fn := Try.f75) rfl rfl (ti := false) (m := Mode.same) (hs := []) (c := _) (by kernel_rfl) (by kernel_rfl) h

def nsqrt (x : Nat) : Nat := toldW (fsqrt x)

theorem nsqrt_pure (x : Nat) : PureTo Try.prog 75 [.fl .f64 x] (AV.v (.float FloatKind.f64 (nsqrt x))) := nsqrt_ev x trivial

theorem fin_ev (x : Nat) (h : AllP []) : PureTo Try.prog 83 [.fl .f64 x] (AV.v (.bool (bif !isNaN x then !isInf x (0 : Int) else false))) :=
  evFnM_pure hm soN4 (fn := Try.f83) rfl rfl (ti := false) (m := Mode.same) (hs := [MHint.ops 1 [] [(3, 4)]]) (c := _) (by kernel_rfl) (by kernel_rfl) h

def fin (x : Nat) : Bool := bif !isNaN x then !isInf x (0 : Int) else false

theorem fin_pure (x : Nat) : PureTo Try.prog 83 [.fl .f64 x] (AV.v (.bool (fin x))) := fin_ev x trivial

/-- one float in, a known one out -/
def sK (g : Nat → Nat) : List AV → Option (AV × List Prop) := sigF fun x => (.v (.float .f64 (g x)), [])

theorem cons_K {SG : SGT} {f : FuncId} (g : Nat → Nat) (h : SigsOK Try.prog SG) (hf : ∀ x, PureTo Try.prog f [.fl .f64 x] (.v (.float .f64 (g x)))) : SigsOK Try.prog ((f, .p (sK g)) :: SG) :=
  sigs_cons h (sigF_ok (f := fun x => (.v (.float .f64 (g x)), [])) fun a _ => hf a)

/-- a known one in -/
def sX (g : Nat → AV) : List AV → Option (AV × List Prop)
  | [.v (.float .f64 x)] => some (g x, [])
  | _ => none

theorem cons_X {SG : SGT} {f : FuncId} (g : Nat → AV) (h : SigsOK Try.prog SG) (hf : ∀ x, PureTo Try.prog f [.v (.float .f64 x)] (g x)) : SigsOK Try.prog ((f, .p (sX g)) :: SG) := by
  refine sigs_cons h ?_
  intro ys r c hs hc
  unfold sX at hs
  split at hs
  · cases hs; exact hf _
  · cases hs

def SN5 : SGT := (75, .p (sK nsqrt)) :: (83, .p (sX fun x => .v (.bool (fin x)))) :: SN4

theorem one_fl {f : FuncId} {x : Nat} {r : AV} (h : PureTo Try.prog f [.fl .f64 x] r) : PureTo Try.prog f [.v (.float .f64 x)] r :=
  h.args rfl fun i h1 h2 => by
    have : i = 0 := by simpa using h1
    subst this
    exact .fl _

theorem soN5 : SigsOK Try.prog SN5 := by
  have b1 := cons_X (fun x => .v (.bool (fin x))) soN4 fun x => one_fl (fin_pure x)
  exact cons_K nsqrt b1 fun x => nsqrt_pure x

theorem frexp_ev (x : Nat) (h : AllP [(!feq FloatKind.f64 x 0 && !bif isInf x (0 : Int) then true else isNaN x) = true → AllP [¬nanB FloatKind.f64 (normF x), (0 : Int) ≤ (52 : Int), inR IntKind.i64 (IntKind.i64.wrap (bitsOf BinOp.and IntKind.u64 ((↑(normF x) : Int) / (4503599627370496 : Int)) (2047 : Int)) - (1023 : Int)), inR IntKind.i64 (IntKind.i64.wrap (bitsOf BinOp.and IntKind.u64 ((↑(normF x) : Int) / (4503599627370496 : Int)) (2047 : Int)) - (1023 : Int) + (1 : Int)), inR IntKind.i64 (normE x + (IntKind.i64.wrap (bitsOf BinOp.and IntKind.u64 ((↑(normF x) : Int) / (4503599627370496 : Int)) (2047 : Int)) - (1023 : Int) + (1 : Int)))]]) : PureTo Try.prog 69 [.v (.float .f64 x)] (AV.tup [AV.v (.float FloatKind.f64 (bif !feq FloatKind.f64 x 0 && !bif isInf x (0 : Int) then true else isNaN x then (bitsOf BinOp.or IntKind.u64 (bitsOf BinOp.andNot IntKind.u64 (↑(normF x) : Int) (9218868437227405312 : Int)) (4602678819172646912 : Int)).toNat else bif feq FloatKind.f64 x 0 then x else x)), AV.v (.int .i64 (bif !feq FloatKind.f64 x 0 && !bif isInf x (0 : Int) then true else isNaN x then normE x + (IntKind.i64.wrap (bitsOf BinOp.and IntKind.u64 ((↑(normF x) : Int) / (4503599627370496 : Int)) (2047 : Int)) - (1023 : Int) + (1 : Int)) else bif feq FloatKind.f64 x 0 then (0 : Int) else (0 : Int)))]) :=
  evFnM_pure hm soN2 (fn := Try.f69) rfl rfl (ti := false) (m := Mode.parts [Mode.mix, Mode.mix]) (hs := [MHint.br, MHint.ops 3 [] [(2, 3)], MHint.br]) (c := _) (by kernel_rfl) (by kernel_rfl) h

def frexp_1 (x : Nat) : Nat := bif !feq FloatKind.f64 x 0 && !bif isInf x (0 : Int) then true else isNaN x then (bitsOf BinOp.or IntKind.u64 (bitsOf BinOp.andNot IntKind.u64 (↑(normF x) : Int) (9218868437227405312 : Int)) (4602678819172646912 : Int)).toNat else bif feq FloatKind.f64 x 0 then x else x

def frexp_2 (x : Nat) : Int := bif !feq FloatKind.f64 x 0 && !bif isInf x (0 : Int) then true else isNaN x then normE x + (IntKind.i64.wrap (bitsOf BinOp.and IntKind.u64 ((↑(normF x) : Int) / (4503599627370496 : Int)) (2047 : Int)) - (1023 : Int) + (1 : Int)) else bif feq FloatKind.f64 x 0 then (0 : Int) else (0 : Int)

theorem frexp_pure (x : Nat) (h : AllP [(!feq FloatKind.f64 x 0 && !bif isInf x (0 : Int) then true else isNaN x) = true → AllP [¬nanB FloatKind.f64 (normF x), (0 : Int) ≤ (52 : Int), inR IntKind.i64 (IntKind.i64.wrap (bitsOf BinOp.and IntKind.u64 ((↑(normF x) : Int) / (4503599627370496 : Int)) (2047 : Int)) - (1023 : Int)), inR IntKind.i64 (IntKind.i64.wrap (bitsOf BinOp.and IntKind.u64 ((↑(normF x) : Int) / (4503599627370496 : Int)) (2047 : Int)) - (1023 : Int) + (1 : Int)), inR IntKind.i64 (normE x + (IntKind.i64.wrap (bitsOf BinOp.and IntKind.u64 ((↑(normF x) : Int) / (4503599627370496 : Int)) (2047 : Int)) - (1023 : Int) + (1 : Int)))]]) : PureTo Try.prog 69 [.v (.float .f64 x)] (AV.tup [AV.v (.float FloatKind.f64 (frexp_1 x)), AV.v (.int .i64 (frexp_2 x))]) := frexp_ev x h
-- 8 paths

theorem ldexp1 (x : Nat) (e : Int) (h : AllP [feq FloatKind.f64 x 0 = true]) : PureTo Try.prog 67 [.v (.float .f64 x), .v (.int .i64 e)] (AV.v (.float FloatKind.f64 x)) :=
  evFn_pure hm soN2 (fn := Try.f67) rfl rfl (ti := false) (hs := [CHint.ops 1 [(1, Hint.b true)]]) (c := _) (by kernel_rfl) h

theorem ldexp2 (x : Nat) (e : Int) (h : AllP [feq FloatKind.f64 x 0 = false, isInf x (0 : Int) = true]) : PureTo Try.prog 67 [.v (.float .f64 x), .v (.int .i64 e)] (AV.v (.float FloatKind.f64 x)) :=
  evFn_pure hm soN2 (fn := Try.f67) rfl rfl (ti := false) (hs := [CHint.ops 1 [(1, Hint.b false)], CHint.ops 3 [(1, Hint.b true)]]) (c := _) (by kernel_rfl) h

theorem ldexp3 (x : Nat) (e : Int) (h : AllP [feq FloatKind.f64 x 0 = false, isInf x (0 : Int) = false, isNaN x = true]) : PureTo Try.prog 67 [.v (.float .f64 x), .v (.int .i64 e)] (AV.v (.float FloatKind.f64 x)) :=
  evFn_pure hm soN2 (fn := Try.f67) rfl rfl (ti := false) (hs := [CHint.ops 1 [(1, Hint.b false)], CHint.ops 3 [(1, Hint.b false), (4, Hint.b true)]]) (c := _) (by kernel_rfl) h

theorem ldexp4 (x : Nat) (e : Int) (h : AllP [feq FloatKind.f64 x 0 = false, isInf x (0 : Int) = false, isNaN x = false, inR IntKind.i64 (e + normE x), ¬nanB FloatKind.f64 (normF x), (0 : Int) ≤ (52 : Int), inR IntKind.i64 (bitsOf BinOp.and IntKind.i64 (IntKind.i64.wrap ((↑(normF x) : Int) / (4503599627370496 : Int))) (2047 : Int) - (1023 : Int)), inR IntKind.i64 (e + normE x + (bitsOf BinOp.and IntKind.i64 (IntKind.i64.wrap ((↑(normF x) : Int) / (4503599627370496 : Int))) (2047 : Int) - (1023 : Int))), decide (e + normE x + (bitsOf BinOp.and IntKind.i64 (IntKind.i64.wrap ((↑(normF x) : Int) / (4503599627370496 : Int))) (2047 : Int) - (1023 : Int)) < (-1075 : Int)) = true, ¬nanB FloatKind.f64 (normF x)]) : PureTo Try.prog 67 [.v (.float .f64 x), .v (.int .i64 e)] (AV.v (.float FloatKind.f64 (cs 0 (normF x)))) :=
  evFn_pure hm soN2 (fn := Try.f67) rfl rfl (ti := false) (hs := [CHint.ops 1 [(1, Hint.b false)], CHint.ops 3 [(1, Hint.b false), (4, Hint.b false)], CHint.ops 9 [(1, Hint.b true)]]) (c := _) (by kernel_rfl) h

theorem ldexp5 (x : Nat) (e : Int) (h : AllP [feq FloatKind.f64 x 0 = false, isInf x (0 : Int) = false, isNaN x = false, inR IntKind.i64 (e + normE x), ¬nanB FloatKind.f64 (normF x), (0 : Int) ≤ (52 : Int), inR IntKind.i64 (bitsOf BinOp.and IntKind.i64 (IntKind.i64.wrap ((↑(normF x) : Int) / (4503599627370496 : Int))) (2047 : Int) - (1023 : Int)), inR IntKind.i64 (e + normE x + (bitsOf BinOp.and IntKind.i64 (IntKind.i64.wrap ((↑(normF x) : Int) / (4503599627370496 : Int))) (2047 : Int) - (1023 : Int))), decide (e + normE x + (bitsOf BinOp.and IntKind.i64 (IntKind.i64.wrap ((↑(normF x) : Int) / (4503599627370496 : Int))) (2047 : Int) - (1023 : Int)) < (-1075 : Int)) = false, decide (e + normE x + (bitsOf BinOp.and IntKind.i64 (IntKind.i64.wrap ((↑(normF x) : Int) / (4503599627370496 : Int))) (2047 : Int) - (1023 : Int)) > (1023 : Int)) = true, flt FloatKind.f64 (normF x) 0 = true]) : PureTo Try.prog 67 [.v (.float .f64 x), .v (.int .i64 e)] (AV.v (.float FloatKind.f64 18442240474082181120)) :=
  evFn_pure hm soN2 (fn := Try.f67) rfl rfl (ti := false) (hs := [CHint.ops 1 [(1, Hint.b false)], CHint.ops 3 [(1, Hint.b false), (4, Hint.b false)], CHint.ops 9 [(1, Hint.b false)], CHint.ops 11 [(1, Hint.b true)], CHint.ops 12 [(1, Hint.b true)]]) (c := _) (by kernel_rfl) h

theorem ldexp6 (x : Nat) (e : Int) (h : AllP [feq FloatKind.f64 x 0 = false, isInf x (0 : Int) = false, isNaN x = false, inR IntKind.i64 (e + normE x), ¬nanB FloatKind.f64 (normF x), (0 : Int) ≤ (52 : Int), inR IntKind.i64 (bitsOf BinOp.and IntKind.i64 (IntKind.i64.wrap ((↑(normF x) : Int) / (4503599627370496 : Int))) (2047 : Int) - (1023 : Int)), inR IntKind.i64 (e + normE x + (bitsOf BinOp.and IntKind.i64 (IntKind.i64.wrap ((↑(normF x) : Int) / (4503599627370496 : Int))) (2047 : Int) - (1023 : Int))), decide (e + normE x + (bitsOf BinOp.and IntKind.i64 (IntKind.i64.wrap ((↑(normF x) : Int) / (4503599627370496 : Int))) (2047 : Int) - (1023 : Int)) < (-1075 : Int)) = false, decide (e + normE x + (bitsOf BinOp.and IntKind.i64 (IntKind.i64.wrap ((↑(normF x) : Int) / (4503599627370496 : Int))) (2047 : Int) - (1023 : Int)) > (1023 : Int)) = true, flt FloatKind.f64 (normF x) 0 = false]) : PureTo Try.prog 67 [.v (.float .f64 x), .v (.int .i64 e)] (AV.v (.float FloatKind.f64 9218868437227405312)) :=
  evFn_pure hm soN2 (fn := Try.f67) rfl rfl (ti := false) (hs := [CHint.ops 1 [(1, Hint.b false)], CHint.ops 3 [(1, Hint.b false), (4, Hint.b false)], CHint.ops 9 [(1, Hint.b false)], CHint.ops 11 [(1, Hint.b true)], CHint.ops 12 [(1, Hint.b false)]]) (c := _) (by kernel_rfl) h

theorem ldexp7 (x : Nat) (e : Int) (h : AllP [feq FloatKind.f64 x 0 = false, isInf x (0 : Int) = false, isNaN x = false, inR IntKind.i64 (e + normE x), ¬nanB FloatKind.f64 (normF x), (0 : Int) ≤ (52 : Int), inR IntKind.i64 (bitsOf BinOp.and IntKind.i64 (IntKind.i64.wrap ((↑(normF x) : Int) / (4503599627370496 : Int))) (2047 : Int) - (1023 : Int)), inR IntKind.i64 (e + normE x + (bitsOf BinOp.and IntKind.i64 (IntKind.i64.wrap ((↑(normF x) : Int) / (4503599627370496 : Int))) (2047 : Int) - (1023 : Int))), decide (e + normE x + (bitsOf BinOp.and IntKind.i64 (IntKind.i64.wrap ((↑(normF x) : Int) / (4503599627370496 : Int))) (2047 : Int) - (1023 : Int)) < (-1075 : Int)) = false, decide (e + normE x + (bitsOf BinOp.and IntKind.i64 (IntKind.i64.wrap ((↑(normF x) : Int) / (4503599627370496 : Int))) (2047 : Int) - (1023 : Int)) > (1023 : Int)) = false, decide (e + normE x + (bitsOf BinOp.and IntKind.i64 (IntKind.i64.wrap ((↑(normF x) : Int) / (4503599627370496 : Int))) (2047 : Int) - (1023 : Int)) < (-1022 : Int)) = true, inR IntKind.i64 (e + normE x + (bitsOf BinOp.and IntKind.i64 (IntKind.i64.wrap ((↑(normF x) : Int) / (4503599627370496 : Int))) (2047 : Int) - (1023 : Int)) + (53 : Int)), inR IntKind.i64 (e + normE x + (bitsOf BinOp.and IntKind.i64 (IntKind.i64.wrap ((↑(normF x) : Int) / (4503599627370496 : Int))) (2047 : Int) - (1023 : Int)) + (53 : Int) + (1023 : Int)), (0 : Int) ≤ (52 : Int), inR IntKind.u64 ((e + normE x + (bitsOf BinOp.and IntKind.i64 (IntKind.i64.wrap ((↑(normF x) : Int) / (4503599627370496 : Int))) (2047 : Int) - (1023 : Int)) + (53 : Int) + (1023 : Int)) % (18446744073709551616 : Int) * (4503599627370496 : Int))]) : PureTo Try.prog 67 [.v (.float .f64 x), .v (.int .i64 e)] (AV.fl FloatKind.f64 (fmul 4368491638549381120 (bitsOf BinOp.or IntKind.u64 (bitsOf BinOp.andNot IntKind.u64 (↑(normF x) : Int) (9218868437227405312 : Int)) ((e + normE x + (bitsOf BinOp.and IntKind.i64 (IntKind.i64.wrap ((↑(normF x) : Int) / (4503599627370496 : Int))) (2047 : Int) - (1023 : Int)) + (53 : Int) + (1023 : Int)) % (18446744073709551616 : Int) * (4503599627370496 : Int))).toNat)) :=
  evFn_pure hm soN2 (fn := Try.f67) rfl rfl (ti := false) (hs := [CHint.ops 1 [(1, Hint.b false)], CHint.ops 3 [(1, Hint.b false), (4, Hint.b false)], CHint.ops 9 [(1, Hint.b false)], CHint.ops 11 [(1, Hint.b false)], CHint.ops 16 [(1, Hint.b true)]]) (c := _) (by kernel_rfl) h

theorem ldexp8 (x : Nat) (e : Int) (h : AllP [feq FloatKind.f64 x 0 = false, isInf x (0 : Int) = false, isNaN x = false, inR IntKind.i64 (e + normE x), ¬nanB FloatKind.f64 (normF x), (0 : Int) ≤ (52 : Int), inR IntKind.i64 (bitsOf BinOp.and IntKind.i64 (IntKind.i64.wrap ((↑(normF x) : Int) / (4503599627370496 : Int))) (2047 : Int) - (1023 : Int)), inR IntKind.i64 (e + normE x + (bitsOf BinOp.and IntKind.i64 (IntKind.i64.wrap ((↑(normF x) : Int) / (4503599627370496 : Int))) (2047 : Int) - (1023 : Int))), decide (e + normE x + (bitsOf BinOp.and IntKind.i64 (IntKind.i64.wrap ((↑(normF x) : Int) / (4503599627370496 : Int))) (2047 : Int) - (1023 : Int)) < (-1075 : Int)) = false, decide (e + normE x + (bitsOf BinOp.and IntKind.i64 (IntKind.i64.wrap ((↑(normF x) : Int) / (4503599627370496 : Int))) (2047 : Int) - (1023 : Int)) > (1023 : Int)) = false, decide (e + normE x + (bitsOf BinOp.and IntKind.i64 (IntKind.i64.wrap ((↑(normF x) : Int) / (4503599627370496 : Int))) (2047 : Int) - (1023 : Int)) < (-1022 : Int)) = false, inR IntKind.i64 (e + normE x + (bitsOf BinOp.and IntKind.i64 (IntKind.i64.wrap ((↑(normF x) : Int) / (4503599627370496 : Int))) (2047 : Int) - (1023 : Int)) + (1023 : Int)), (0 : Int) ≤ (52 : Int), inR IntKind.u64 ((e + normE x + (bitsOf BinOp.and IntKind.i64 (IntKind.i64.wrap ((↑(normF x) : Int) / (4503599627370496 : Int))) (2047 : Int) - (1023 : Int)) + (1023 : Int)) % (18446744073709551616 : Int) * (4503599627370496 : Int))]) : PureTo Try.prog 67 [.v (.float .f64 x), .v (.int .i64 e)] (AV.fl FloatKind.f64 (fmul 4607182418800017408 (bitsOf BinOp.or IntKind.u64 (bitsOf BinOp.andNot IntKind.u64 (↑(normF x) : Int) (9218868437227405312 : Int)) ((e + normE x + (bitsOf BinOp.and IntKind.i64 (IntKind.i64.wrap ((↑(normF x) : Int) / (4503599627370496 : Int))) (2047 : Int) - (1023 : Int)) + (1023 : Int)) % (18446744073709551616 : Int) * (4503599627370496 : Int))).toNat)) :=
  evFn_pure hm soN2 (fn := Try.f67) rfl rfl (ti := false) (hs := [CHint.ops 1 [(1, Hint.b false)], CHint.ops 3 [(1, Hint.b false), (4, Hint.b false)], CHint.ops 9 [(1, Hint.b false)], CHint.ops 11 [(1, Hint.b false)], CHint.ops 16 [(1, Hint.b false)]]) (c := _) (by kernel_rfl) h

theorem isNaN_num {x : Nat} : isNaN x = false ↔ Num x := by rw [isNaN_false, num_iff]

theorem rg_abs (x : Nat) : rg (abs x) = rg x := by unfold rg; rw [abs_eq]; omega

theorem skey_abs (x : Nat) : skey (abs x) = rg x := by
  unfold skey
  have h : (abs x / 9223372036854775808 % 2 == 1) = false := by rw [abs_eq, beq_eq_false_iff_ne]; omega
  rw [h, rg_abs]
  rfl

theorem num_abs {x : Nat} : Num (abs x) ↔ Num x := by unfold Num; rw [rg_abs]

theorem skey_small {c : Nat} (h : c < 9223372036854775808) : skey c = c ∧ rg c = c := by
  have h1 : rg c = c := by unfold rg; omega
  refine ⟨?_, h1⟩
  unfold skey
  have h2 : (c / 9223372036854775808 % 2 == 1) = false := by rw [beq_eq_false_iff_ne]; omega
  rw [h2, h1]
  rfl

theorem num_small {c : Nat} (h : c ≤ 9218868437227405312) : Num c := by unfold Num; rw [(skey_small (by omega)).2]; exact h

theorem isInf_eq (x : Nat) : isInf x 0 = decide (rg x = 9218868437227405312) := by
  have e : isInf x 0 = fgt .f64 (abs x) 9218868437227405311 := rfl
  rw [e]
  by_cases hx : Num x
  · rw [fgt_key (num_abs.2 hx) (num_small (by decide)), skey_abs, (skey_small (c := 9218868437227405311) (by decide)).1]
    unfold Num at hx
    by_cases h : rg x = 9218868437227405312
    · rw [decide_eq_true h, decide_eq_true (by omega)]
    · rw [decide_eq_false h, decide_eq_false (by omega)]
  · rw [(nan_cmp (.inl fun h => hx (num_abs.1 h))).2.2, decide_eq_false fun h => hx (by unfold Num; omega)]

theorem normF_eq {x : Nat} (h : Num x) : normF x = if rg x < 4503599627370496 then fmul x 4841369599423283200 else x := by
  unfold normF
  rw [flt_key (num_abs.2 h) (num_small (by decide)), skey_abs, (skey_small (c := 4503599627370496) (by decide)).1]
  by_cases h1 : rg x < 4503599627370496
  · rw [if_pos h1, decide_eq_true (by omega)]; rfl
  · rw [if_neg h1, decide_eq_false (by omega)]; rfl

theorem normE_eq {x : Nat} (h : Num x) : normE x = if rg x < 4503599627370496 then -52 else 0 := by
  unfold normE
  rw [flt_key (num_abs.2 h) (num_small (by decide)), skey_abs, (skey_small (c := 4503599627370496) (by decide)).1]
  by_cases h1 : rg x < 4503599627370496
  · rw [if_pos h1, decide_eq_true (by omega)]; rfl
  · rw [if_neg h1, decide_eq_false (by omega)]; rfl

theorem fin_read {x : Nat} (h : rg x < 9218868437227405312) : FFin x := ⟨_, _, _, read_num h⟩

theorem normF_clean {x : Nat} (hw : W x) (h : rg x < 9218868437227405312) : FClean (normF x) := by
  rw [normF_eq (by unfold Num; omega)]
  split
  · exact fmul_fin (fin_read h) (fin_read (by decide))
  · exact ⟨hw, by show rg x ≤ _; omega⟩

theorem and_i64 {n : Nat} (h : n < 9223372036854775808) : bitsOf .and .i64 (n : Int) 2047 = ((n % 2048 : Nat) : Int) := by
  have hu := and_low (k := .u64) rfl (x := (n : Int)) (s := 11) (by omega) (by show _ < (2 ^ 64 : Int); omega) (by decide)
  rw [show (((2 ^ 11 - 1 : Nat)) : Int) = 2047 from rfl] at hu
  have e1 : bitsOf .and .u64 (n : Int) 2047 = (((BitVec.ofInt 64 (n : Int) &&& BitVec.ofInt 64 2047).toNat : Nat) : Int) % 18446744073709551616 := rfl
  have e2 : bitsOf .and .i64 (n : Int) 2047 = IntKind.i64.wrap ((BitVec.ofInt 64 (n : Int) &&& BitVec.ofInt 64 2047).toNat : Int) := rfl
  rw [e1] at hu
  rw [e2, IntKind.wrap_i64]
  have hlt := (BitVec.ofInt 64 (n : Int) &&& BitVec.ofInt 64 2047).isLt
  have h3 : ((2 ^ 11 : Nat) : Int) = 2048 := rfl
  rw [h3] at hu
  omega

theorem expo_lt (x : Nat) : expo x < 2048 := Nat.mod_lt _ (by decide)

theorem expo_i64 {x : Nat} (h : W x) : bitsOf BinOp.and IntKind.i64 (IntKind.i64.wrap ((↑x : Int) / (4503599627370496 : Int))) (2047 : Int) = (expo x : Int) := by
  unfold W at h
  have e : IntKind.i64.wrap ((x : Int) / 4503599627370496) = ((x / 4503599627370496 : Nat) : Int) := by
    rw [IntKind.wrap_i64]; omega
  rw [e, and_i64 (by omega)]
  rfl

theorem frexp_c {x : Nat} (hw : W x) : PureTo Try.prog 69 [.v (.float .f64 x)] (.tup [.v (.float .f64 (frexp_1 x)), .v (.int .i64 (frexp_2 x))]) := by
  refine frexp_pure x ⟨fun h => ?_, trivial⟩
  rw [isInf_eq] at h
  have hfin : rg x < 9218868437227405312 := by
    cases hn : isNaN x with
    | true => rw [hn] at h; simp at h
    | false =>
      have h1 := isNaN_num.1 hn
      unfold Num at h1
      rw [hn] at h
      by_cases h2 : rg x = 9218868437227405312
      · rw [decide_eq_true h2] at h; simp at h
      · omega
  have hc := normF_clean hw hfin
  have hne := normE_eq (x := x) (by unfold Num; omega)
  rw [expo_bits hc.1, show IntKind.i64.wrap (expo (normF x) : Int) = expo (normF x) by rw [IntKind.wrap_i64]; have := expo_lt (normF x); omega]
  have he := expo_lt (normF x)
  have h3 : normE x = -52 ∨ normE x = 0 := by rw [hne]; split <;> simp
  simp only [AllP, inR]
  (repeat' apply And.intro) <;> first | exact hc.num | omega | exact trivial

/-- another exponent -/
def setE (y : Nat) (E : Int) : Nat := (bitsOf BinOp.or IntKind.u64 (bitsOf BinOp.andNot IntKind.u64 (↑y : Int) (9218868437227405312 : Int)) (E % (18446744073709551616 : Int) * (4503599627370496 : Int))).toNat

/-- a float times a power of 2 -/
def ldexpW (x : Nat) (e : Int) : Nat :=
  if feq .f64 x 0 = true then x else if isInf x 0 = true then x else if isNaN x = true then x else
  let E := e + normE x + ((expo (normF x) : Int) - 1023)
  if E < -1075 then cs 0 (normF x) else if E > 1023 then (if flt .f64 (normF x) 0 = true then 18442240474082181120 else 9218868437227405312)
  else if E < -1022 then fmul 4368491638549381120 (setE (normF x) (E + 53 + 1023)) else fmul 4607182418800017408 (setE (normF x) (E + 1023))

theorem ldexp_c {x : Nat} {e : Int} (hw : W x) (he1 : -4611686018427387904 ≤ e) (he2 : e ≤ 4611686018427387904) : PureTo Try.prog 67 [.v (.float .f64 x), .v (.int .i64 e)] (.fl .f64 (ldexpW x e)) := by
  have known : ∀ {a : Nat}, PureTo Try.prog 67 [.v (.float .f64 x), .v (.int .i64 e)] (.v (.float .f64 a)) → PureTo Try.prog 67 [.v (.float .f64 x), .v (.int .i64 e)] (.fl .f64 a) := fun h => h.ans (.fl _)
  unfold ldexpW
  by_cases h0 : feq .f64 x 0 = true
  · rw [if_pos h0]; exact known (ldexp1 x e ⟨h0, trivial⟩)
  rw [if_neg h0]
  have h0' : feq .f64 x 0 = false := by simpa using h0
  by_cases h1 : isInf x 0 = true
  · rw [if_pos h1]; exact known (ldexp2 x e ⟨h0', h1, trivial⟩)
  rw [if_neg h1]
  have h1' : isInf x 0 = false := by simpa using h1
  by_cases h2 : isNaN x = true
  · rw [if_pos h2]; exact known (ldexp3 x e ⟨h0', h1', h2, trivial⟩)
  rw [if_neg h2]
  have h2' : isNaN x = false := by simpa using h2
  have hfin : rg x < 9218868437227405312 := by
    have h3 := isNaN_num.1 h2'
    unfold Num at h3
    rw [isInf_eq] at h1'
    have := of_decide_eq_false h1'
    omega
  have hc := normF_clean hw hfin
  have hne := normE_eq (x := x) (by unfold Num; omega)
  have h3 : normE x = -52 ∨ normE x = 0 := by rw [hne]; split <;> simp
  have hx := expo_lt (normF x)
  have hcn := hc.num
  have l4 := ldexp4 x e
  have l5 := ldexp5 x e
  have l6 := ldexp6 x e
  have l7 := ldexp7 x e
  have l8 := ldexp8 x e
  rw [expo_i64 hc.1] at l4 l5 l6 l7 l8
  simp only
  generalize hE : e + normE x + ((expo (normF x) : Int) - 1023) = E at *
  have r1 : inR .i64 (e + normE x) := by simp only [inR]; omega
  have r2 : inR .i64 ((expo (normF x) : Int) - 1023) := by simp only [inR]; omega
  have r3 : inR .i64 E := by simp only [inR]; omega
  by_cases g1 : E < -1075
  · rw [if_pos g1]
    exact known (l4 ⟨h0', h1', h2', r1, hcn, by decide, r2, r3, decide_eq_true g1, hcn, trivial⟩)
  rw [if_neg g1]
  by_cases g2 : E > 1023
  · rw [if_pos g2]
    by_cases g3 : flt .f64 (normF x) 0 = true
    · rw [if_pos g3]
      exact known (l5 ⟨h0', h1', h2', r1, hcn, by decide, r2, r3, decide_eq_false g1, decide_eq_true g2, g3, trivial⟩)
    · rw [if_neg g3]
      exact known (l6 ⟨h0', h1', h2', r1, hcn, by decide, r2, r3, decide_eq_false g1, decide_eq_true g2, by simpa using g3, trivial⟩)
  rw [if_neg g2]
  by_cases g3 : E < -1022
  · rw [if_pos g3]
    refine l7 ⟨h0', h1', h2', r1, hcn, by decide, r2, r3, decide_eq_false g1, decide_eq_false g2, decide_eq_true g3, ?_, ?_, by decide, ?_, trivial⟩ <;> (simp only [inR]; omega)
  · rw [if_neg g3]
    refine l8 ⟨h0', h1', h2', r1, hcn, by decide, r2, r3, decide_eq_false g1, decide_eq_false g2, decide_eq_false g3, ?_, by decide, ?_, trivial⟩ <;> (simp only [inR]; omega)

def sigFrexp : List AV → Option (AV × List Prop)
  | [.v (.float .f64 x)] => some (.tup [.v (.float .f64 (frexp_1 x)), .v (.int .i64 (frexp_2 x))], [W x])
  | [.fl .f64 x] => some (.tup [.v (.float .f64 (frexp_1 x)), .v (.int .i64 (frexp_2 x))], [W x, ¬ nanB .f64 x])
  | _ => none

def sigLdexp : List AV → Option (AV × List Prop)
  | [.v (.float .f64 x), .v (.int .i64 e)] => some (.fl .f64 (ldexpW x e), [W x, -4611686018427387904 ≤ e, e ≤ 4611686018427387904])
  | [.fl .f64 x, .v (.int .i64 e)] => some (.fl .f64 (ldexpW x e), [W x, -4611686018427387904 ≤ e, e ≤ 4611686018427387904, ¬ nanB .f64 x])
  | _ => none

theorem sigFrexp_ok {i : FuncId} (h : ∀ x, W x → PureTo Try.prog i [.v (.float .f64 x)] (.tup [.v (.float .f64 (frexp_1 x)), .v (.int .i64 (frexp_2 x))])) : ∀ ys r c, sigFrexp ys = some (r, c) → AllP c → PureTo Try.prog i ys r := by
  intro ys r c hs hc
  unfold sigFrexp at hs
  split at hs
  · cases hs; exact h _ hc.1
  · cases hs
    exact (h _ hc.1).args rfl fun i h1 h2 => by
      have : i = 0 := by simpa using h1
      subst this
      exact .num _ hc.2.1
  · cases hs

theorem sigLdexp_ok {i : FuncId} (h : ∀ x e, W x → -4611686018427387904 ≤ e → e ≤ 4611686018427387904 → PureTo Try.prog i [.v (.float .f64 x), .v (.int .i64 e)] (.fl .f64 (ldexpW x e))) : ∀ ys r c, sigLdexp ys = some (r, c) → AllP c → PureTo Try.prog i ys r := by
  intro ys r c hs hc
  unfold sigLdexp at hs
  split at hs
  · cases hs; exact h _ _ hc.1 hc.2.1 hc.2.2.1
  · cases hs
    exact (h _ _ hc.1 hc.2.1 hc.2.2.1).args rfl fun i h1 h2 => by
      have : i = 0 ∨ i = 1 := by simp at h1; omega
      rcases this with rfl | rfl
      · exact .num _ hc.2.2.2.1
      · exact .same _
  · cases hs

def SN6 : SGT := (69, .p sigFrexp) :: (67, .p sigLdexp) :: SN5

theorem soN6 : SigsOK Try.prog SN6 := sigs_cons (sigs_cons soN5 (sigLdexp_ok fun _ _ a b c => ldexp_c a b c)) (sigFrexp_ok fun _ h => frexp_c h)

theorem mfrexp1 (x : Nat) (h : AllP [W x]) : PureTo Try.prog 45 [.v (.float .f64 x)] (AV.tup [AV.v (.float FloatKind.f64 (frexp_1 x)), AV.v (.int .i64 (frexp_2 x))]) :=
  evFn_pure hm soN6 (fn := Try.f45) rfl rfl (ti := false) (hs := []) (c := _) (by kernel_rfl) h
-- 1 paths

theorem mldexp1 (x : Nat) (e : Int) (h : AllP [W x, (-4611686018427387904 : Int) ≤ e, e ≤ (4611686018427387904 : Int)]) : PureTo Try.prog 40 [.v (.float .f64 x), .v (.int .i64 e)] (AV.fl FloatKind.f64 (ldexpW x e)) :=
  evFn_pure hm soN6 (fn := Try.f40) rfl rfl (ti := false) (hs := []) (c := _) (by kernel_rfl) h
-- 4 paths

def SN7 : SGT := (45, .p sigFrexp) :: (40, .p sigLdexp) :: SN6

theorem soN7 : SigsOK Try.prog SN7 := sigs_cons (sigs_cons soN6 (sigLdexp_ok fun x e a b c => mldexp1 x e ⟨a, b, c, trivial⟩)) (sigFrexp_ok fun x h => mfrexp1 x ⟨h, trivial⟩)

theorem modL0_1 (x y r : Nat) (h : AllP [(fgt FloatKind.f64 r (abs y) || feq FloatKind.f64 r (abs y)) = true, W r, ¬nanB FloatKind.f64 r, flt FloatKind.f64 (frexp_1 r) (frexp_1 (abs y)) = true, inR IntKind.i64 (frexp_2 r - (1 : Int)), inR IntKind.i64 (frexp_2 r - (1 : Int) - frexp_2 (abs y)), W (abs y), (-4611686018427387904 : Int) ≤ frexp_2 r - (1 : Int) - frexp_2 (abs y), frexp_2 r - (1 : Int) - frexp_2 (abs y) ≤ (4611686018427387904 : Int)]) : To Try.prog (loopAt Try.f80 0) ({ n := 62, fr := [(0, AV.v (.float FloatKind.f64 x)), (1, AV.v (.float FloatKind.f64 (abs y))), (5, AV.v (.float FloatKind.f64 (frexp_1 (abs y)))), (6, AV.v (.int .i64 (frexp_2 (abs y)))), (7, AV.fl FloatKind.f64 r)], hp := [], nx := 0 }) (.normal) { n := 62, fr := [(0, AV.v (.float FloatKind.f64 x)), (1, AV.v (.float FloatKind.f64 (abs y))), (5, AV.v (.float FloatKind.f64 (frexp_1 (abs y)))), (6, AV.v (.int .i64 (frexp_2 (abs y)))), (7, AV.fl FloatKind.f64 (fsub r (ldexpW (abs y) (frexp_2 r - (1 : Int) - frexp_2 (abs y)))))], hp := [], nx := 0 } :=
  evW_to hm soN7 (hs := [CHint.ops 8 [(2, Hint.b true)], CHint.ops 10 [(2, Hint.b true)]]) (slots := [0, 1, 5, 6, 7]) (keys := []) (nx := 0) (c := _) (by kernel_rfl) h

theorem modL0_2 (x y r : Nat) (h : AllP [(fgt FloatKind.f64 r (abs y) || feq FloatKind.f64 r (abs y)) = true, W r, ¬nanB FloatKind.f64 r, flt FloatKind.f64 (frexp_1 r) (frexp_1 (abs y)) = false, inR IntKind.i64 (frexp_2 r - frexp_2 (abs y)), W (abs y), (-4611686018427387904 : Int) ≤ frexp_2 r - frexp_2 (abs y), frexp_2 r - frexp_2 (abs y) ≤ (4611686018427387904 : Int)]) : To Try.prog (loopAt Try.f80 0) ({ n := 62, fr := [(0, AV.v (.float FloatKind.f64 x)), (1, AV.v (.float FloatKind.f64 (abs y))), (5, AV.v (.float FloatKind.f64 (frexp_1 (abs y)))), (6, AV.v (.int .i64 (frexp_2 (abs y)))), (7, AV.fl FloatKind.f64 r)], hp := [], nx := 0 }) (.normal) { n := 62, fr := [(0, AV.v (.float FloatKind.f64 x)), (1, AV.v (.float FloatKind.f64 (abs y))), (5, AV.v (.float FloatKind.f64 (frexp_1 (abs y)))), (6, AV.v (.int .i64 (frexp_2 (abs y)))), (7, AV.fl FloatKind.f64 (fsub r (ldexpW (abs y) (frexp_2 r - frexp_2 (abs y)))))], hp := [], nx := 0 } :=
  evW_to hm soN7 (hs := [CHint.ops 8 [(2, Hint.b true)], CHint.ops 10 [(2, Hint.b false)]]) (slots := [0, 1, 5, 6, 7]) (keys := []) (nx := 0) (c := _) (by kernel_rfl) h

theorem modL0_3 (x y r : Nat) (h : AllP [(fgt FloatKind.f64 r (abs y) || feq FloatKind.f64 r (abs y)) = false]) : To Try.prog (loopAt Try.f80 0) ({ n := 62, fr := [(0, AV.v (.float FloatKind.f64 x)), (1, AV.v (.float FloatKind.f64 (abs y))), (5, AV.v (.float FloatKind.f64 (frexp_1 (abs y)))), (6, AV.v (.int .i64 (frexp_2 (abs y)))), (7, AV.fl FloatKind.f64 r)], hp := [], nx := 0 }) (Exit.exit 0) { n := 62, fr := [(0, AV.v (.float FloatKind.f64 x)), (7, AV.fl FloatKind.f64 r)], hp := [], nx := 0 } :=
  evW_to hm soN7 (hs := [CHint.ops 8 [(2, Hint.b false)]]) (slots := [0, 7]) (keys := []) (nx := 0) (c := _) (by kernel_rfl) h
-- 8 paths

theorem modF1 (x y r : Nat) (h : AllP [feq FloatKind.f64 y 0 = true]) : PureTo Try.prog 80 [.v (.float .f64 x), .v (.float .f64 y)] (AV.v (.float FloatKind.f64 9221120237041090561)) :=
  evFn_pure hm soN7 (fn := Try.f80) rfl rfl (ti := false) (hs := [CHint.ops 1 [(1, Hint.b true)]]) (c := _) (by kernel_rfl) h

theorem modF2 (x y r : Nat) (h : AllP [feq FloatKind.f64 y 0 = false, isInf x (0 : Int) = true]) : PureTo Try.prog 80 [.v (.float .f64 x), .v (.float .f64 y)] (AV.v (.float FloatKind.f64 9221120237041090561)) :=
  evFn_pure hm soN7 (fn := Try.f80) rfl rfl (ti := false) (hs := [CHint.ops 1 [(1, Hint.b false), (4, Hint.b true)]]) (c := _) (by kernel_rfl) h

theorem modF3 (x y r : Nat) (h : AllP [feq FloatKind.f64 y 0 = false, isInf x (0 : Int) = false, isNaN x = true]) : PureTo Try.prog 80 [.v (.float .f64 x), .v (.float .f64 y)] (AV.v (.float FloatKind.f64 9221120237041090561)) :=
  evFn_pure hm soN7 (fn := Try.f80) rfl rfl (ti := false) (hs := [CHint.ops 1 [(1, Hint.b false), (4, Hint.b false), (8, Hint.b true)]]) (c := _) (by kernel_rfl) h

theorem modF4 (x y r : Nat) (h : AllP [feq FloatKind.f64 y 0 = false, isInf x (0 : Int) = false, isNaN x = false, isNaN y = true]) : PureTo Try.prog 80 [.v (.float .f64 x), .v (.float .f64 y)] (AV.v (.float FloatKind.f64 9221120237041090561)) :=
  evFn_pure hm soN7 (fn := Try.f80) rfl rfl (ti := false) (hs := [CHint.ops 1 [(1, Hint.b false), (4, Hint.b false), (8, Hint.b false), (12, Hint.b true)]]) (c := _) (by kernel_rfl) h

theorem modF5 (x y r : Nat) (h : AllP [feq FloatKind.f64 y 0 = false, isInf x (0 : Int) = false, isNaN x = false, isNaN y = false, W (abs y), flt FloatKind.f64 x 0 = true, LoopTo Try.prog (loopAt Try.f80 0) { n := 62, fr := [(0, AV.v (.float FloatKind.f64 x)), (1, AV.v (.float FloatKind.f64 (abs y))), (5, AV.v (.float FloatKind.f64 (frexp_1 (abs y)))), (6, AV.v (.int .i64 (frexp_2 (abs y)))), (7, AV.v (.float FloatKind.f64 (fneg x)))], hp := [], nx := 0 } (Exit.exit 0) { n := 62, fr := [(0, AV.v (.float FloatKind.f64 x)), (7, AV.fl FloatKind.f64 r)], hp := [], nx := 0 }, flt FloatKind.f64 x 0 = true]) : PureTo Try.prog 80 [.v (.float .f64 x), .v (.float .f64 y)] (AV.fl FloatKind.f64 (fneg r)) :=
  evFn_pure hm soN7 (fn := Try.f80) rfl rfl (ti := false) (hs := [CHint.ops 1 [(1, Hint.b false), (4, Hint.b false), (8, Hint.b false), (12, Hint.b false)], CHint.ops 6 [(1, Hint.b true)], CHint.loop [0, 1, 5, 6, 7] [] 0 (Exit.exit 0) { n := 62, fr := [(0, AV.v (.float FloatKind.f64 x)), (7, AV.fl FloatKind.f64 r)], hp := [], nx := 0 }, CHint.ops 13 [(1, Hint.b true)]]) (c := _) (by kernel_rfl) h

theorem modF8 (x y r : Nat) (h : AllP [feq FloatKind.f64 y 0 = false, isInf x (0 : Int) = false, isNaN x = false, isNaN y = false, W (abs y), flt FloatKind.f64 x 0 = false, LoopTo Try.prog (loopAt Try.f80 0) { n := 62, fr := [(0, AV.v (.float FloatKind.f64 x)), (1, AV.v (.float FloatKind.f64 (abs y))), (5, AV.v (.float FloatKind.f64 (frexp_1 (abs y)))), (6, AV.v (.int .i64 (frexp_2 (abs y)))), (7, AV.v (.float FloatKind.f64 x))], hp := [], nx := 0 } (Exit.exit 0) { n := 62, fr := [(0, AV.v (.float FloatKind.f64 x)), (7, AV.fl FloatKind.f64 r)], hp := [], nx := 0 }, flt FloatKind.f64 x 0 = false]) : PureTo Try.prog 80 [.v (.float .f64 x), .v (.float .f64 y)] (AV.fl FloatKind.f64 r) :=
  evFn_pure hm soN7 (fn := Try.f80) rfl rfl (ti := false) (hs := [CHint.ops 1 [(1, Hint.b false), (4, Hint.b false), (8, Hint.b false), (12, Hint.b false)], CHint.ops 6 [(1, Hint.b false)], CHint.loop [0, 1, 5, 6, 7] [] 0 (Exit.exit 0) { n := 62, fr := [(0, AV.v (.float FloatKind.f64 x)), (7, AV.fl FloatKind.f64 r)], hp := [], nx := 0 }, CHint.ops 13 [(1, Hint.b false)]]) (c := _) (by kernel_rfl) h

theorem closer_rep {x y : AV} (h : Closer x y) {S : St} {v : Value} (hx : Rep S v x) : Rep S v y := by
  cases h with
  | same => exact hx
  | fl a => cases hx with | i _ _ hx => exact .i _ _ ((Closer.fl a).rep hx)
  | num a hn => cases hx with | i _ _ hx => exact .i _ _ ((Closer.num a hn).rep hx)

theorem loop_closer {P : Program} {c : Code} {n nx : Nat} {fr fr' : List (Nat × AV)} {hp : List (Nat × AObj)} {e : Exit} {A' : AS}
    (hc : ∀ t x', Ev.look fr' t = some x' → ∃ x, Ev.look fr t = some x ∧ Closer x x') (h : LoopTo P c { n := n, fr := fr', hp := hp, nx := nx } e A') : LoopTo P c { n := n, fr := fr, hp := hp, nx := nx } e A' := by
  obtain ⟨k, h⟩ := h
  refine ⟨k, fun S a hR => h S a ⟨hR.wf, hR.size, hR.defers, fun t x' ht => ?_, hR.hp, hR.used⟩⟩
  obtain ⟨x, h1, h2⟩ := hc t x' ht
  have := hR.fr t x h1
  exact ⟨this.1, closer_rep h2 this.2⟩

theorem look_cons {α : Type} (k : Nat) (a : α) (r : List (Nat × α)) (t : Nat) : Ev.look ((k, a) :: r) t = if k = t then some a else Ev.look r t := by
  show (match Nat.beq k t with | true => some a | false => Ev.look r t) = _
  by_cases h : k = t
  · rw [if_pos h, Nat.beq_eq.mpr h]
  · rw [if_neg h, show Nat.beq k t = false from Bool.eq_false_iff.2 fun hh => h (Nat.eq_of_beq_eq_true hh)]

/-- the loop's state -/
def modA (x y : Nat) (r : AV) : AS := { n := 62, fr := [(0, AV.v (.float FloatKind.f64 x)), (1, AV.v (.float FloatKind.f64 (abs y))), (5, AV.v (.float FloatKind.f64 (frexp_1 (abs y)))), (6, AV.v (.int .i64 (frexp_2 (abs y)))), (7, r)], hp := [], nx := 0 }

theorem mod_begin {P : Program} {c : Code} {x y r : Nat} {e : Exit} {A' : AS} (h : LoopTo P c (modA x y (.fl .f64 r)) e A') : LoopTo P c (modA x y (.v (.float .f64 r))) e A' := by
  refine loop_closer (fun t x' ht => ?_) h
  rw [look_cons, look_cons, look_cons, look_cons, look_cons] at ht ⊢
  by_cases h0 : 0 = t
  · rw [if_pos h0] at ht ⊢; cases ht; exact ⟨_, rfl, .same _⟩
  rw [if_neg h0] at ht ⊢
  by_cases h1 : 1 = t
  · rw [if_pos h1] at ht ⊢; cases ht; exact ⟨_, rfl, .same _⟩
  rw [if_neg h1] at ht ⊢
  by_cases h5 : 5 = t
  · rw [if_pos h5] at ht ⊢; cases ht; exact ⟨_, rfl, .same _⟩
  rw [if_neg h5] at ht ⊢
  by_cases h6 : 6 = t
  · rw [if_pos h6] at ht ⊢; cases ht; exact ⟨_, rfl, .same _⟩
  rw [if_neg h6] at ht ⊢
  by_cases h7 : 7 = t
  · rw [if_pos h7] at ht ⊢; cases ht; exact ⟨_, rfl, .fl _⟩
  rw [if_neg h7] at ht
  cases ht

def sigOps : List AV → Option (AV × List Prop)
  | [] => some (opsAV, [])
  | _ => none

set_option exponentiation.threshold 2200

theorem toldW_num {x : Nat} (h : Num x) : toldW x = x := by unfold toldW; rw [if_neg]; rw [isNaN_num.2 h]; decide

theorem toldW_nan {x : Nat} (h : ¬ Num x) : toldW x = qnan := by
  unfold toldW
  rw [if_pos]
  exact isNaN_iff.2 (Classical.not_not.1 fun hn => h (num_iff.2 hn))

theorem cs_word (x y : Nat) : cs x y = wordOf (sg y) (rg x) := by
  rw [cs_eq]
  unfold wordOf rg sg
  rcases Nat.mod_two_eq_zero_or_one (y / 9223372036854775808) with h | h <;> rw [h] <;> simp <;> omega

theorem isNaN_of {x : Nat} (h : ¬ Num x) : isNaN x = true := by
  cases hn : isNaN x with
  | true => rfl
  | false => exact (h (isNaN_num.1 hn)).elim

theorem fin_iff {x : Nat} : fin x = true ↔ Fit x := by
  unfold fin Fit
  by_cases h : Num x
  · rw [isNaN_num.2 h, isInf_eq]
    unfold Num at h
    by_cases h2 : rg x = 9218868437227405312
    · rw [decide_eq_true h2]; simp; omega
    · rw [decide_eq_false h2]; simp; omega
  · rw [isNaN_of h]
    unfold Num at h
    simp; omega

theorem fin_zero : Fit 0 := by unfold Fit; decide

theorem V_null : V 0 = 0 := rfl

theorem sv_pos {n : Nat} : sv false n = n := rfl

theorem sv_neg {n : Nat} : sv true n = -(n : Int) := rfl

theorem V_pos {x : Nat} (h : sg x = false) : 0 ≤ V x := by unfold V; rw [h, sv_pos]; omega

theorem V_neg {x : Nat} (h : sg x = true) : V x ≤ 0 := by unfold V; rw [h, sv_neg]; omega

def SN9 : SGT := SN7

theorem soN9 : SigsOK Try.prog SN9 := soN7

set_option exponentiation.threshold 2200

set_option exponentiation.threshold 2200

theorem low52 (x : Nat) : (BitVec.ofNat 64 x &&& ~~~9218868437227405312#64) = BitVec.ofNat 64 (2 ^ 63 * (x / 2 ^ 63) + x % 2 ^ 52) := by
  apply BitVec.eq_of_getLsbD_eq
  intro i hi
  have e : (9218868437227405312#64).getLsbD i = decide (52 ≤ i ∧ i < 63) := by
    have e1 : (9218868437227405312#64) = BitVec.ofNat 64 ((2 ^ 11 - 1) * 2 ^ 52) := rfl
    rw [e1, BitVec.getLsbD_ofNat, Nat.testBit_mul_two_pow]
    by_cases h : 52 ≤ i
    · rw [Nat.testBit_two_pow_sub_one]
      simp only [hi, h, decide_true, Bool.true_and, true_and]
      by_cases h2 : i < 63
      · rw [decide_eq_true h2, decide_eq_true (by omega)]
      · rw [decide_eq_false h2, decide_eq_false (by omega)]
    · simp [h]
  simp only [BitVec.getLsbD_and, BitVec.getLsbD_not, hi, decide_true, Bool.true_and, BitVec.getLsbD_ofNat, e]
  have hm : x % 2 ^ 52 < 2 ^ 63 := Nat.lt_of_lt_of_le (Nat.mod_lt _ (by decide)) (by decide)
  rw [Nat.testBit_two_pow_mul_add _ hm, Nat.testBit_mod_two_pow, Nat.testBit_div_two_pow]
  by_cases h1 : i < 52
  · rw [if_pos (by omega), decide_eq_false (by omega), decide_eq_true h1]; simp
  · by_cases h2 : i < 63
    · rw [if_pos h2, decide_eq_true (by omega), decide_eq_false h1]; simp
    · rw [if_neg h2, decide_eq_false (by omega), show i - 63 + 63 = i by omega]; simp

/-- another exponent -/
theorem exp_word {y E : Nat} (hw : FWord y) (hE : E < 2048) : (bitsOf BinOp.or IntKind.u64 (bitsOf BinOp.andNot IntKind.u64 (↑y : Int) (9218868437227405312 : Int)) ((E * 4503599627370496 : Nat) : Int)).toNat = wordOf (sg y) (E * 4503599627370496 + y % 4503599627370496) := by
  unfold FWord at hw
  have h1 : bitsOf BinOp.andNot IntKind.u64 (↑y : Int) (9218868437227405312 : Int) = ((2 ^ 63 * (y / 2 ^ 63) + y % 2 ^ 52 : Nat) : Int) := by
    have e : bitsOf BinOp.andNot IntKind.u64 (↑y : Int) (9218868437227405312 : Int) = IntKind.u64.wrap ((BitVec.ofInt 64 (y : Int) &&& ~~~9218868437227405312#64).toNat : Int) := rfl
    rw [e, ofInt_nat, low52, BitVec.toNat_ofNat]
    show (((2 ^ 63 * (y / 2 ^ 63) + y % 2 ^ 52) % 2 ^ 64 : Nat) : Int) % 18446744073709551616 = _
    omega
  have hm : y % 2 ^ 52 < 2 ^ 52 := Nat.mod_lt _ (by decide)
  have hm63 : y % 2 ^ 52 < 2 ^ 63 := Nat.lt_of_lt_of_le hm (by decide)
  rw [h1, bits_or (k := .u64) rfl (by show _ < 2 ^ 64; omega) (by show _ < 2 ^ 64; omega), Int.toNat_natCast]
  have e1 : E * 4503599627370496 = 2 ^ 52 * E := by rw [Nat.mul_comm]
  have hlt : 2 ^ 52 * E + y % 2 ^ 52 < 2 ^ 63 := by
    have : 2 ^ 52 * E ≤ 2 ^ 52 * 2047 := Nat.mul_le_mul_left _ (by omega)
    have h63 : (2 : Nat) ^ 63 = 2 ^ 52 * 2048 := by decide
    rw [h63]
    omega
  rw [e1, Nat.two_pow_add_eq_or_of_lt hm63, Nat.or_assoc, Nat.or_comm (y % 2 ^ 52), ← Nat.two_pow_add_eq_or_of_lt hm, ← Nat.two_pow_add_eq_or_of_lt hlt]
  unfold wordOf sg
  rcases Nat.mod_two_eq_zero_or_one (y / 9223372036854775808) with h | h
  · rw [h]
    have : y / 9223372036854775808 = 0 := by omega
    rw [show y / 2 ^ 63 = 0 from this]
    rw [show ((0 : Nat) == 1) = false from rfl, if_neg (by decide)]
  · rw [h]
    have : y / 9223372036854775808 = 1 := by omega
    rw [show y / 2 ^ 63 = 1 from this]
    rw [show ((1 : Nat) == 1) = true from rfl, if_pos rfl]

/-- AN EXACT PRODUCT -/
theorem fmul_exact {x y r : Nat} (hx : Fit x) (hy : Fit y) (hr : r ≤ 9218868437227405312) (h : valN (rg x) * valN (rg y) = valN r * U) : fmul x y = wordOf (sg x ^^ sg y) r := by
  unfold fmul Format.mul
  rw [read_fin hx, read_fin hy]
  show FloatKind.f64.format.nearest _ _ _ = _
  rw [nearest_eq, rung_exact (a := sigK (rg x) + sigK (rg y)) (b := 1074) hr (by omega)]
  unfold valN at h
  rw [Nat.pow_add]
  rw [show sigM (rg x) * sigM (rg y) * (2 ^ sigK (rg x) * 2 ^ sigK (rg y)) = sigM (rg x) * 2 ^ sigK (rg x) * (sigM (rg y) * 2 ^ sigK (rg y)) by ac_rfl, h]
  rfl

/-- a normal float's number -/
theorem valN_normal {E m : Nat} (hE : 1 ≤ E) (hm : m < 4503599627370496) : valN (E * 4503599627370496 + m) = (4503599627370496 + m) * 2 ^ (E - 1) ∧ sigK (E * 4503599627370496 + m) = E - 1 ∧ sigM (E * 4503599627370496 + m) = 4503599627370496 + m := by
  have h1 : ¬ E * 4503599627370496 + m < 4503599627370496 := by omega
  have h2 : sigK (E * 4503599627370496 + m) = E - 1 := by unfold sigK; rw [if_neg h1]; omega
  have h3 : sigM (E * 4503599627370496 + m) = 4503599627370496 + m := by unfold sigM; rw [if_neg h1]; omega
  exact ⟨by unfold valN; rw [h2, h3], h2, h3⟩

/-- a normal float of the same digits: x = (mantissa) * 2 ^ (its place), in least units, times 2 ^ 52 -/
structure Norm (x : Nat) (E m : Nat) (c : Int) : Prop where
  lo : 1 ≤ E
  hi : E < 2047
  dig : m < 4503599627370496
  nw : normF x = wordOf (sg x) (E * 4503599627370496 + m)
  ne : normE x = c
  val : (valN (rg x) * 2 ^ 52 = (4503599627370496 + m) * 2 ^ (E - 1) ∧ c = -52) ∨ (valN (rg x) = (4503599627370496 + m) * 2 ^ (E - 1) ∧ c = 0)

theorem norm_of {x : Nat} (hw : FWord x) (hx : Fit x) (h0 : rg x ≠ 0) : ∃ E m c, Norm x E m c := by
  have hn := hx.num
  unfold Fit at hx
  by_cases h : rg x < 4503599627370496
  · -- below the least normal one
    obtain ⟨r, h1, h2⟩ := rep (rg x) 52 (by have : (2 : Nat) ^ 53 = 9007199254740992 := by decide
                                            omega) (by decide)
    have hv : valN (rg x) = rg x := by unfold valN sigM sigK; rw [if_pos h, if_pos h]; simp
    have hge : 4503599627370496 ≤ r := by
      rw [← valN_le_iff, h2]
      have : valN 4503599627370496 = 1 * 2 ^ 52 := by decide
      rw [this]
      exact Nat.mul_le_mul_right _ (by omega)
    have hf : normF x = wordOf (sg x) r := by
      rw [normF_eq hn, if_pos h]
      have hc : Fit 4841369599423283200 := by unfold Fit; decide
      have := fmul_exact (x := x) (y := 4841369599423283200) (r := r) hx hc (Nat.le_of_lt h1) (by
        rw [h2, hv]
        have e1 : sigM (rg 4841369599423283200) = 2 ^ 52 := by decide
        have e2 : sigK (rg 4841369599423283200) = 1074 := by decide
        have e : valN (rg 4841369599423283200) = 2 ^ 52 * U := by unfold valN U; rw [e1, e2]
        rw [e, Nat.mul_assoc])
      rw [this, show sg 4841369599423283200 = false by decide, Bool.xor_false]
    refine ⟨r / 4503599627370496, r % 4503599627370496, -52, by omega, by omega, by omega, ?_, by rw [normE_eq hn, if_pos h], .inl ⟨?_, rfl⟩⟩
    · rw [hf]; congr 1; omega
    · rw [hv, ← h2, ← (valN_normal (E := r / 4503599627370496) (m := r % 4503599627370496) (by omega) (by omega)).1]
      congr 1; omega
  · refine ⟨rg x / 4503599627370496, rg x % 4503599627370496, 0, by omega, by omega, by omega, ?_, by rw [normE_eq hn, if_neg h], .inr ⟨?_, rfl⟩⟩
    · rw [normF_eq hn, if_neg h]
      rw [show rg x / 4503599627370496 * 4503599627370496 + rg x % 4503599627370496 = rg x by omega]
      exact wordOf_of hw
    · rw [← (valN_normal (E := rg x / 4503599627370496) (m := rg x % 4503599627370496) (by omega) (by omega)).1]
      congr 1; omega

theorem Norm.rgN {x E m : Nat} {c : Int} (h : Norm x E m c) : E * 4503599627370496 + m < 9218868437227405312 := by
  have := h.hi
  have := h.dig
  omega

theorem wordOf_parts {s : Bool} {E m : Nat} (hE : E < 2047) (hm : m < 4503599627370496) : expo (wordOf s (E * 4503599627370496 + m)) = E ∧ wordOf s (E * 4503599627370496 + m) % 4503599627370496 = m := by
  unfold expo wordOf
  cases s
  · rw [if_neg (by decide)]; omega
  · rw [if_pos rfl]; omega

theorem notZero {x : Nat} (hx : Fit x) (h0 : rg x ≠ 0) : feq .f64 x 0 = false := by
  rw [feq_V hx.num fin_zero.num, V_null, decide_eq_false]
  rw [V_zero]; exact h0

theorem notInf {x : Nat} (hx : Fit x) : isInf x 0 = false := by
  rw [isInf_eq, decide_eq_false]
  unfold Fit at hx; omega

/-- FREXP -/
theorem frexp_V {x E m : Nat} {c : Int} (hx : Fit x) (h0 : rg x ≠ 0) (h : Norm x E m c) : frexp_1 x = wordOf (sg x) (1022 * 4503599627370496 + m) ∧ frexp_2 x = c + (E - 1022) := by
  have hr := h.rgN
  obtain ⟨e1, e2⟩ := wordOf_parts (s := sg x) h.hi h.dig
  have hword : FWord (wordOf (sg x) (E * 4503599627370496 + m)) := word_wordOf (Nat.le_of_lt hr)
  constructor
  · unfold frexp_1
    rw [notZero hx h0, notInf hx, isNaN_num.2 hx.num]
    show (bitsOf BinOp.or IntKind.u64 (bitsOf BinOp.andNot IntKind.u64 (↑(normF x) : Int) (9218868437227405312 : Int)) (4602678819172646912 : Int)).toNat = _
    rw [h.nw]
    have := exp_word (E := 1022) hword (by decide)
    rw [e2, sg_wordOf (Nat.le_of_lt hr)] at this
    exact this
  · unfold frexp_2
    rw [notZero hx h0, notInf hx, isNaN_num.2 hx.num]
    show normE x + (IntKind.i64.wrap (bitsOf BinOp.and IntKind.u64 ((↑(normF x) : Int) / (4503599627370496 : Int)) (2047 : Int)) - (1023 : Int) + (1 : Int)) = _
    rw [h.nw, h.ne, expo_bits hword, e1, IntKind.wrap_i64]
    have := h.hi
    omega

theorem lt_inf {F m : Nat} (hF : F ≤ 2046) (hm : m < 4503599627370496) : F * 4503599627370496 + m < 9218868437227405312 := by omega

/-- LDEXP upward, where it fits -/
theorem ldexp_V {x E m : Nat} {c : Int} (hx : Fit x) (h0 : rg x ≠ 0) (h : Norm x E m c) (k r : Nat) (hr : r < 9218868437227405312) (hv : valN (rg x) * 2 ^ k = valN r) : ldexpW x k = wordOf (sg x) r := by
  have hn := h.rgN
  obtain ⟨e1, e2⟩ := wordOf_parts (s := sg x) h.hi h.dig
  have hword : FWord (wordOf (sg x) (E * 4503599627370496 + m)) := word_wordOf (Nat.le_of_lt hn)
  have hlo := h.lo
  have hhi := h.hi
  have hdig := h.dig
  have e53 : (2 : Nat) ^ 53 = 9007199254740992 := by decide
  have e52 : (2 : Nat) ^ 52 = 4503599627370496 := by decide
  unfold ldexpW
  simp only [notZero hx h0, notInf hx, isNaN_num.2 hx.num, Bool.false_eq_true, if_false]
  rw [h.ne, h.nw, e1]
  -- the product's digits and place
  have hval : valN r * 2 ^ 52 = (4503599627370496 + m) * 2 ^ (E - 1 + k) ∧ c = -52 ∨ valN r = (4503599627370496 + m) * 2 ^ (E - 1 + k) ∧ c = 0 := by
    rcases h.val with ⟨h1, h2⟩ | ⟨h1, h2⟩
    · refine .inl ⟨?_, h2⟩
      rw [← hv, Nat.mul_right_comm, h1, Nat.mul_assoc, ← Nat.pow_add]
    · refine .inr ⟨?_, h2⟩
      rw [← hv, h1, Nat.mul_assoc, ← Nat.pow_add]
  have hc : c = -52 ∨ c = 0 := by rcases hval with h | h <;> omega
  obtain ⟨s1, s2, s3⟩ := sig_parts r
  have hK : sigK r ≤ 2045 := by omega
  have hvr : valN r < 2 ^ (53 + 2045) := by
    have a1 : valN r < 2 ^ 53 * 2 ^ sigK r := Nat.mul_lt_mul_of_pos_right s2 (Nat.two_pow_pos _)
    refine Nat.lt_of_lt_of_le a1 ?_
    rw [← Nat.pow_add]
    exact Nat.pow_le_pow_right (by decide) (by omega)
  -- no overflow
  have hE : (E : Int) - 1 + k + c ≤ 2045 := by
    rcases Int.lt_or_le 2045 ((E : Int) - 1 + k + c) with hh | hh
    · exfalso
      rcases hval with ⟨h1, h2⟩ | ⟨h1, h2⟩
      · have a1 : 2 ^ (52 + (E - 1 + k)) ≤ valN r * 2 ^ 52 := by
          rw [h1, Nat.pow_add, e52]; exact Nat.mul_le_mul_right _ (by omega)
        have a2 : valN r * 2 ^ 52 < 2 ^ (53 + 2045) * 2 ^ 52 := Nat.mul_lt_mul_of_pos_right hvr (Nat.two_pow_pos _)
        rw [← Nat.pow_add] at a2
        have a3 : 2 ^ (53 + 2045 + 52) ≤ 2 ^ (52 + (E - 1 + k)) := Nat.pow_le_pow_right (by decide) (by omega)
        omega
      · have a1 : 2 ^ (52 + (E - 1 + k)) ≤ valN r := by
          rw [h1, Nat.pow_add, e52]; exact Nat.mul_le_mul_right _ (by omega)
        have a3 : 2 ^ (53 + 2045) ≤ 2 ^ (52 + (E - 1 + k)) := Nat.pow_le_pow_right (by decide) (by omega)
        omega
    · exact hh
  rw [if_neg (by omega), if_neg (by omega)]
  have hset : ∀ F : Nat, F < 2048 → setE (wordOf (sg x) (E * 4503599627370496 + m)) (F : Int) = wordOf (sg x) (F * 4503599627370496 + m) := by
    intro F hF
    unfold setE
    have h9 : ((F : Int) % (18446744073709551616 : Int) * (4503599627370496 : Int)) = ((F * 4503599627370496 : Nat) : Int) := by omega
    rw [h9, exp_word hword hF, e2, sg_wordOf (Nat.le_of_lt hn)]
  by_cases hsmall : (k : Int) + c + ((E : Int) - 1023) < -1022
  · rw [if_pos hsmall]
    -- then c = -52 and the result is below the least normal one
    have hc52 : c = -52 := by omega
    have hval1 : valN r * 2 ^ 52 = (4503599627370496 + m) * 2 ^ (E - 1 + k) := by
      rcases hval with ⟨h1, h2⟩ | ⟨h1, h2⟩
      · exact h1
      · omega
    obtain ⟨F, hF⟩ : ∃ F : Nat, (k : Int) + c + ((E : Int) - 1023) + 53 + 1023 = F := ⟨((k : Int) + c + ((E : Int) - 1023) + 53 + 1023).toNat, by omega⟩
    rw [hF, hset F (by omega)]
    have hF1 : F = E + k + 1 := by omega
    have hrF : F * 4503599627370496 + m < 9218868437227405312 := lt_inf (by omega) hdig
    have hfit : Fit (wordOf (sg x) (F * 4503599627370496 + m)) := by unfold Fit; rw [rg_wordOf (Nat.le_of_lt hrF)]; exact hrF
    have hc : Fit 4368491638549381120 := by unfold Fit; decide
    rw [fmul_exact hc hfit (Nat.le_of_lt hr), show sg 4368491638549381120 = false by decide, sg_wordOf (Nat.le_of_lt hrF), Bool.false_xor]
    rw [rg_wordOf (Nat.le_of_lt hrF), (valN_normal (E := F) (m := m) (by omega) hdig).1]
    have f1 : sigM (rg 4368491638549381120) = 2 ^ 52 := by decide
    have f2 : sigK (rg 4368491638549381120) = 969 := by decide
    have f : valN (rg 4368491638549381120) = 2 ^ 1021 := by unfold valN; rw [f1, f2, ← Nat.pow_add]
    have hFs : F - 1 = (E - 1 + k) + 1 := by omega
    rw [f, hFs]
    unfold U
    rw [Nat.pow_add 2 (E - 1 + k) 1, ← Nat.mul_assoc (4503599627370496 + m), ← hval1]
    rw [show valN r * 2 ^ 52 * 2 ^ 1 = valN r * 2 ^ 53 by rw [Nat.mul_assoc, ← Nat.pow_add], Nat.mul_comm, Nat.mul_assoc, ← Nat.pow_add]
  · rw [if_neg hsmall]
    obtain ⟨F, hF⟩ : ∃ F : Nat, (k : Int) + c + ((E : Int) - 1023) + 1023 = F := ⟨((k : Int) + c + ((E : Int) - 1023) + 1023).toNat, by omega⟩
    rw [hF, hset F (by omega)]
    have hrF : F * 4503599627370496 + m < 9218868437227405312 := lt_inf (by omega) hdig
    have hfit : Fit (wordOf (sg x) (F * 4503599627370496 + m)) := by unfold Fit; rw [rg_wordOf (Nat.le_of_lt hrF)]; exact hrF
    have hone : Fit 4607182418800017408 := by unfold Fit; decide
    have hvF := (valN_normal (E := F) (m := m) (by omega) hdig).1
    have hreq : r = F * 4503599627370496 + m := by
      refine valN_inj.1 ?_
      rw [hvF]
      rcases hval with ⟨h1, h2⟩ | ⟨h1, h2⟩
      · have hFs : E - 1 + k = F - 1 + 52 := by omega
        rw [hFs, Nat.pow_add, ← Nat.mul_assoc] at h1
        exact Nat.eq_of_mul_eq_mul_right (Nat.two_pow_pos 52) h1
      · have hFs : E - 1 + k = F - 1 := by omega
        rw [hFs] at h1
        exact h1
    rw [fmul_exact hone hfit (Nat.le_of_lt hr), show sg 4607182418800017408 = false by decide, sg_wordOf (Nat.le_of_lt hrF), Bool.false_xor]
    rw [rg_wordOf (Nat.le_of_lt hrF), ← hreq, show rg 4607182418800017408 = oneR by decide, valN_one, Nat.mul_comm]

set_option exponentiation.threshold 2200

theorem valN_bound {r : Nat} (hr : r < 9218868437227405312) : valN r < 2 ^ 53 * 2 ^ 2045 := by
  obtain ⟨s1, s2, s3⟩ := sig_parts r
  have h1 : sigK r ≤ 2045 := by omega
  have a1 : valN r < 2 ^ 53 * 2 ^ sigK r := Nat.mul_lt_mul_of_pos_right s2 (Nat.two_pow_pos _)
  exact Nat.lt_of_lt_of_le a1 (Nat.mul_le_mul_left _ (Nat.pow_le_pow_right (by decide) h1))

theorem rep2 {m c r0 : Nat} (hm : m < 2 ^ 53) (hr : r0 < 9218868437227405312) (h : m * 2 ^ c ≤ valN r0) : ∃ r, r < 9218868437227405312 ∧ valN r = m * 2 ^ c := by
  rcases Nat.lt_or_ge 2045 c with hc | hc
  · obtain ⟨d, rfl⟩ : ∃ d, c = 2045 + d := ⟨c - 2045, by omega⟩
    rw [show m * 2 ^ (2045 + d) = m * 2 ^ d * 2 ^ 2045 by rw [Nat.mul_assoc, ← Nat.pow_add, Nat.add_comm]] at h ⊢
    have h1 := Nat.lt_of_le_of_lt h (valN_bound hr)
    exact rep (m * 2 ^ d) 2045 (Nat.lt_of_mul_lt_mul_right h1) (Nat.le_refl _)
  · exact rep m c hm hc

theorem quot_place {A B Mr My P Q d : Nat} (hA : A * 2 ^ d = Mr * 2 ^ P) (hB : B * 2 ^ d = My * 2 ^ Q) (r1 : 2 ^ 52 ≤ Mr) (r2 : Mr < 2 ^ 53) (y1 : 2 ^ 52 ≤ My) (y2 : My < 2 ^ 53) (hBA : B ≤ A) :
    ∃ k, P = Q + k + (if Mr < My then 1 else 0) ∧ B * 2 ^ k ≤ A ∧ A < B * 2 ^ k * 2 := by
  have hd : 0 < 2 ^ d := Nat.two_pow_pos _
  have e53 : (2 : Nat) ^ 53 = 2 ^ 52 * 2 := by decide
  have hQP : My * 2 ^ Q ≤ Mr * 2 ^ P := by rw [← hA, ← hB]; exact Nat.mul_le_mul_right _ hBA
  have hle : Q ≤ P := by
    rcases Nat.lt_or_ge P Q with h | h
    · exfalso
      have a1 : Mr * 2 ^ P < 2 ^ 53 * 2 ^ P := Nat.mul_lt_mul_of_pos_right r2 (Nat.two_pow_pos _)
      have a2 : 2 ^ 52 * 2 ^ Q ≤ My * 2 ^ Q := Nat.mul_le_mul_right _ y1
      have a3 : 2 ^ (53 + P) ≤ 2 ^ (52 + Q) := Nat.pow_le_pow_right (by decide) (by omega)
      rw [Nat.pow_add 2 53, Nat.pow_add 2 52] at a3
      omega
    · exact h
  obtain ⟨g, rfl⟩ : ∃ g, P = Q + g := ⟨P - Q, by omega⟩
  by_cases hδ : Mr < My
  · rw [if_pos hδ]
    rcases Nat.eq_zero_or_pos g with h0 | h0
    · subst h0
      have := Nat.le_of_mul_le_mul_right hQP (Nat.two_pow_pos _)
      omega
    · obtain ⟨k, rfl⟩ : ∃ k, g = k + 1 := ⟨g - 1, by omega⟩
      refine ⟨k, by omega, ?_, ?_⟩
      · refine Nat.le_of_mul_le_mul_right ?_ hd
        rw [hA, Nat.mul_right_comm, hB, Nat.mul_assoc, ← Nat.pow_add, show Q + (k + 1) = Q + k + 1 by omega, Nat.pow_succ 2 (Q + k), Nat.mul_comm (2 ^ (Q + k)) 2, ← Nat.mul_assoc]
        exact Nat.mul_le_mul_right _ (by omega)
      · refine Nat.lt_of_mul_lt_mul_right (a := 2 ^ d) ?_
        rw [hA, show B * 2 ^ k * 2 * 2 ^ d = B * 2 ^ d * 2 ^ k * 2 by ac_rfl, hB, show Q + (k + 1) = Q + k + 1 by omega, Nat.pow_succ 2 (Q + k), Nat.mul_assoc My, ← Nat.pow_add, ← Nat.mul_assoc]
        exact Nat.mul_lt_mul_of_pos_right (Nat.mul_lt_mul_of_pos_right hδ (Nat.two_pow_pos _)) (by decide)
  · rw [if_neg hδ]
    refine ⟨g, by omega, ?_, ?_⟩
    · refine Nat.le_of_mul_le_mul_right ?_ hd
      rw [hA, Nat.mul_right_comm, hB, Nat.mul_assoc, ← Nat.pow_add]
      exact Nat.mul_le_mul_right _ (by omega)
    · refine Nat.lt_of_mul_lt_mul_right (a := 2 ^ d) ?_
      rw [hA, show B * 2 ^ g * 2 * 2 ^ d = B * 2 ^ d * 2 ^ g * 2 by ac_rfl, hB, Nat.mul_assoc My, ← Nat.pow_add, Nat.mul_right_comm]
      exact Nat.mul_lt_mul_of_pos_right (by omega) (Nat.two_pow_pos _)

theorem sigK_mono {r s : Nat} (h : r ≤ s) : sigK r ≤ sigK s := by
  unfold sigK
  split <;> split <;> omega

/-- a difference of near ones is exact -/
theorem near_sub {r l : Nat} (hr : r < 9218868437227405312) (h1 : valN l ≤ valN r) (h2 : valN r < valN l * 2) : ∃ s, s < 9218868437227405312 ∧ valN s = valN r - valN l := by
  have hl : l ≤ r := valN_le_iff.1 h1
  have hk := sigK_mono hl
  obtain ⟨s1, s2, s3⟩ := sig_parts l
  obtain ⟨g, hg⟩ : ∃ g, sigK r = sigK l + g := ⟨sigK r - sigK l, by omega⟩
  have er : valN r = sigM r * 2 ^ g * 2 ^ sigK l := by unfold valN; rw [hg, Nat.pow_add, Nat.mul_comm (2 ^ sigK l), Nat.mul_assoc]
  have el : valN l = sigM l * 2 ^ sigK l := rfl
  have e : valN r - valN l = (sigM r * 2 ^ g - sigM l) * 2 ^ sigK l := by rw [er, el, Nat.sub_mul]
  have hlt : sigM r * 2 ^ g - sigM l < 2 ^ 53 := by
    have a1 : (sigM r * 2 ^ g - sigM l) * 2 ^ sigK l < 2 ^ 53 * 2 ^ sigK l := by
      rw [← e]
      have : valN l < 2 ^ 53 * 2 ^ sigK l := Nat.mul_lt_mul_of_pos_right s2 (Nat.two_pow_pos _)
      omega
    exact Nat.lt_of_mul_lt_mul_right a1
  obtain ⟨s, a1, a2⟩ := rep2 hlt hr (c := sigK l) (by rw [← e]; omega)
  exact ⟨s, a1, by rw [a2, e]⟩

theorem abs_word (x : Nat) : abs x = wordOf false (rg x) := by rw [abs_eq]; unfold wordOf rg; simp

def modX (x r : Nat) : AS := { n := 62, fr := [(0, AV.v (.float FloatKind.f64 x)), (7, AV.fl FloatKind.f64 r)], hp := [], nx := 0 }

theorem skey_word {r : Nat} (h : r ≤ 9218868437227405312) : skey (wordOf false r) = r := by
  have e : skey (wordOf false r) = sv (sg (wordOf false r)) (rg (wordOf false r)) := rfl
  rw [e, rg_wordOf h, sg_wordOf h]; rfl

theorem num_word {s : Bool} {r : Nat} (h : r ≤ 9218868437227405312) : Num (wordOf s r) := by unfold Num; rw [rg_wordOf h]; exact h

theorem fit_word {s : Bool} {r : Nat} (h : r < 9218868437227405312) : Fit (wordOf s r) := by unfold Fit; rw [rg_wordOf (Nat.le_of_lt h)]; exact h

theorem Norm.sum {x E m : Nat} {c : Int} (h : Norm x E m c) : ∃ a : Nat, c = -(a : Int) ∧ a ≤ 52 ∧ valN (rg x) * 2 ^ a = (4503599627370496 + m) * 2 ^ (E - 1) := by
  rcases h.val with ⟨h1, h2⟩ | ⟨h1, h2⟩
  · exact ⟨52, h2, Nat.le_refl _, h1⟩
  · exact ⟨0, h2, by decide, by simpa using h1⟩

theorem ge_V {r y : Nat} (hr : Num r) (hy : Num y) : (fgt FloatKind.f64 r y || feq FloatKind.f64 r y) = decide (V y ≤ V r) := by
  rw [fgt_V hr hy, feq_V hr hy]
  by_cases h : V r > V y
  · rw [decide_eq_true h, decide_eq_true (by omega : V y ≤ V r)]; rfl
  · rw [decide_eq_false h, Bool.false_or]
    by_cases h2 : V r = V y
    · rw [decide_eq_true h2, decide_eq_true (by omega)]
    · rw [decide_eq_false h2, decide_eq_false (by omega)]

/-- ONE TURN: r less y times the greatest power of 2 that fits -/
theorem mod_turn {x y r : Nat} (hy : Fit y) (hy0 : rg y ≠ 0) (hw : FWord r) (hr : Fit r) (hs : sg r = false) (hge : valN (rg y) ≤ valN (rg r)) :
    ∃ s k, s < 9218868437227405312 ∧ valN s + valN (rg y) * 2 ^ k = valN (rg r) ∧ To Try.prog (loopAt Try.f80 0) (modA x y (.fl .f64 r)) .normal (modA x y (.fl .f64 (wordOf false s))) := by
  have hay : abs y = wordOf false (rg y) := abs_word y
  have hya : Fit (abs y) := by rw [hay]; exact fit_word hy
  have hyw : FWord (abs y) := by rw [hay]; exact word_wordOf (Nat.le_of_lt hy)
  have hyr : rg (abs y) = rg y := rg_abs y
  have hys : sg (abs y) = false := by rw [hay]; exact sg_wordOf (Nat.le_of_lt hy)
  have hr0 : rg r ≠ 0 := by
    intro h
    rw [h, valN_zero] at hge
    have := valN_lt (show 0 < rg y by omega)
    rw [valN_zero] at this
    omega
  obtain ⟨E, m, c, hn⟩ := norm_of hw hr hr0
  obtain ⟨F, q, d, hny⟩ := norm_of hyw hya (by rw [hyr]; exact hy0)
  obtain ⟨a, ha1, ha2, ha3⟩ := hn.sum
  obtain ⟨b, hb1, hb2, hb3⟩ := hny.sum
  rw [hyr] at hb3
  have h1 := hn.lo
  have h2 := hn.hi
  have h3 := hn.dig
  have h4 := hny.lo
  have h5 := hny.hi
  have h6 := hny.dig
  have e53 : (2 : Nat) ^ 53 = 9007199254740992 := by decide
  have e52 : (2 : Nat) ^ 52 = 4503599627370496 := by decide
  obtain ⟨k, k1, k2, k3⟩ := quot_place (A := valN (rg r)) (B := valN (rg y)) (Mr := 4503599627370496 + m) (My := 4503599627370496 + q) (P := E - 1 + b) (Q := F - 1 + a) (d := a + b)
    (by rw [Nat.pow_add, ← Nat.mul_assoc, ha3, Nat.mul_assoc, ← Nat.pow_add]) (by rw [Nat.add_comm, Nat.pow_add, ← Nat.mul_assoc, hb3, Nat.mul_assoc, ← Nat.pow_add])
    (by omega) (by omega) (by omega) (by omega) hge
  clear e53 e52
  obtain ⟨f1, f2⟩ := frexp_V hr hr0 hn
  obtain ⟨g1, g2⟩ := frexp_V hya (by rw [hyr]; exact hy0) hny
  -- the part that is taken away
  obtain ⟨l, l1, l2⟩ : ∃ l, l < 9218868437227405312 ∧ valN l = valN (rg y) * 2 ^ k := by
    obtain ⟨s1, s2, s3⟩ := sig_parts (rg y)
    have e : valN (rg y) * 2 ^ k = sigM (rg y) * 2 ^ (sigK (rg y) + k) := by unfold valN; rw [Nat.mul_assoc, ← Nat.pow_add]
    obtain ⟨l, a1, a2⟩ := rep2 s2 hr (c := sigK (rg y) + k) (by rw [← e]; exact k2)
    exact ⟨l, a1, by rw [a2, e]⟩
  have hld : ldexpW (abs y) k = wordOf false l := by
    have := ldexp_V hya (by rw [hyr]; exact hy0) hny k l l1 (by rw [hyr]; exact l2.symm)
    rw [hys] at this
    exact this
  obtain ⟨s, s1, s2⟩ := near_sub hr (l := l) (by rw [l2]; exact k2) (by rw [l2]; exact k3)
  have hVr : V r = valN (rg r) := by unfold V; rw [hs]; rfl
  have hVl : V (wordOf false l) = valN l := V_wordOf (Nat.le_of_lt l1)
  have hle : valN l ≤ valN (rg r) := by rw [l2]; exact k2
  have hsub : fsub r (wordOf false l) = wordOf false s := by
    rw [fsub_V hr (fit_word l1), hVr, hVl, hs, Bool.false_and]
    have e1 : ((valN (rg r) : Int) - (valN l : Int)).natAbs = valN s := by omega
    rw [e1, rd_val (Nat.le_of_lt s1)]
    congr 1
    rw [decide_eq_false (by omega)]
    simp
  refine ⟨s, k, s1, by omega, ?_⟩
  have hcond : (fgt FloatKind.f64 r (abs y) || feq FloatKind.f64 r (abs y)) = true := by
    rw [ge_V hr.num hya.num, decide_eq_true]
    rw [hVr, hay, V_wordOf (Nat.le_of_lt hy)]
    show (valN (rg y) : Int) ≤ _
    omega
  have hnum := num_iff.1 hr.num
  have hlt : flt FloatKind.f64 (frexp_1 r) (frexp_1 (abs y)) = decide (m < q) := by
    rw [f1, g1, hs, hys]
    have b1 : 1022 * 4503599627370496 + m ≤ 9218868437227405312 := by omega
    have b2 : 1022 * 4503599627370496 + q ≤ 9218868437227405312 := by omega
    rw [flt_key (num_word b1) (num_word b2), skey_word b1, skey_word b2]
    by_cases h : m < q
    · rw [decide_eq_true h, decide_eq_true (by omega)]
    · rw [decide_eq_false h, decide_eq_false (by omega)]
  by_cases hm : m < q
  · rw [if_pos (by omega)] at k1
    have hk : frexp_2 r - (1 : Int) - frexp_2 (abs y) = k := by rw [f2, g2, ha1, hb1]; omega
    have hkb : (k : Int) ≤ 5000 := by omega
    have := modL0_1 x y r ⟨hcond, hw, hnum, by rw [hlt, decide_eq_true hm], by rw [f2]; simp only [inR]; omega, by rw [hk]; simp only [inR]; omega, hyw, by rw [hk]; omega, by rw [hk]; omega, trivial⟩
    rw [hk, hld, hsub] at this
    exact this
  · rw [if_neg (by omega)] at k1
    have hk : frexp_2 r - frexp_2 (abs y) = k := by rw [f2, g2, ha1, hb1]; omega
    have hkb : (k : Int) ≤ 5000 := by omega
    have := modL0_2 x y r ⟨hcond, hw, hnum, by rw [hlt, decide_eq_false hm], by rw [hk]; simp only [inR]; omega, hyw, by rw [hk]; omega, by rw [hk]; omega, trivial⟩
    rw [hk, hld, hsub] at this
    exact this

theorem mod_end {x y r : Nat} (hr : Num r) (hy : Num y) (h : V r < valN (rg y)) : LoopTo Try.prog (loopAt Try.f80 0) (modA x y (.fl .f64 r)) (.exit 0) (modX x r) := by
  have hay : abs y = wordOf false (rg y) := abs_word y
  refine LoopTo.done (by intro h; cases h) (modL0_3 x y r ⟨?_, trivial⟩)
  rw [ge_V hr (by rw [hay]; exact num_word hy), decide_eq_false]
  rw [hay, V_wordOf hy]
  show ¬ (valN (rg y) : Int) ≤ _
  omega

/-- ALL TURNS -/
theorem mod_loop {x y : Nat} (hy : Fit y) (hy0 : rg y ≠ 0) : ∀ n s, valN s = n → s < 9218868437227405312 → ∃ s', s' < 9218868437227405312 ∧ valN s' = n % valN (rg y) ∧ LoopTo Try.prog (loopAt Try.f80 0) (modA x y (.fl .f64 (wordOf false s))) (.exit 0) (modX x (wordOf false s')) := by
  intro n
  induction n using Nat.strongRecOn with
  | ind n ih =>
    intro s hs hlt
    have hyp : 0 < valN (rg y) := by
      have := valN_lt (show 0 < rg y by omega)
      rw [valN_zero] at this
      omega
    rcases Nat.lt_or_ge n (valN (rg y)) with h | h
    · refine ⟨s, hlt, by rw [hs, Nat.mod_eq_of_lt h], mod_end (num_word (Nat.le_of_lt hlt)) (Nat.le_of_lt hy) ?_⟩
      rw [V_wordOf (Nat.le_of_lt hlt), hs]
      show (n : Int) < _
      omega
    · obtain ⟨t, k, t1, t2, t3⟩ := mod_turn (x := x) hy hy0 (word_wordOf (s := false) (Nat.le_of_lt hlt)) (fit_word hlt) (sg_wordOf (Nat.le_of_lt hlt)) (by rw [rg_wordOf (Nat.le_of_lt hlt), hs]; exact h)
      rw [rg_wordOf (Nat.le_of_lt hlt), hs] at t2
      have hp : 0 < valN (rg y) * 2 ^ k := Nat.mul_pos hyp (Nat.two_pow_pos _)
      obtain ⟨s', a1, a2, a3⟩ := ih (valN t) (by omega) t rfl t1
      refine ⟨s', a1, ?_, LoopTo.step t3 a3⟩
      rw [a2, ← t2, Nat.add_mul_mod_self_left]

def modNaN : Nat := 9221120237041090561

/-- the rest of two numbers -/
def modR (x y : Nat) : Nat := if rg y = 9218868437227405312 then x else wordOf (sg x) (rd (valN (rg x) % valN (rg y)))

instance (x : Nat) : Decidable (Fit x) := inferInstanceAs (Decidable (rg x < 9218868437227405312))

instance (x : Nat) : Decidable (Num x) := inferInstanceAs (Decidable (rg x ≤ 9218868437227405312))

def modW (x y : Nat) : Nat := if ¬ Fit x ∨ ¬ Num y ∨ rg y = 0 then modNaN else modR x y

theorem mod_c {x y : Nat} (hx : FWord x) (hy : FWord y) : PureTo Try.prog 80 [.v (.float .f64 x), .v (.float .f64 y)] (.fl .f64 (modW x y)) := by
  have known : ∀ {a : Nat}, PureTo Try.prog 80 [.v (.float .f64 x), .v (.float .f64 y)] (.v (.float .f64 a)) → PureTo Try.prog 80 [.v (.float .f64 x), .v (.float .f64 y)] (.fl .f64 a) := fun h => h.ans (.fl _)
  by_cases hbad : ¬ Fit x ∨ ¬ Num y ∨ rg y = 0
  · have e : modW x y = modNaN := by unfold modW; rw [if_pos hbad]
    rw [e]
    cases h1 : feq FloatKind.f64 y 0 with
    | true => exact known (modF1 x y 0 ⟨h1, trivial⟩)
    | false =>
      cases h2 : isInf x 0 with
      | true => exact known (modF2 x y 0 ⟨h1, h2, trivial⟩)
      | false =>
        cases h3 : isNaN x with
        | true => exact known (modF3 x y 0 ⟨h1, h2, h3, trivial⟩)
        | false =>
          cases h4 : isNaN y with
          | true => exact known (modF4 x y 0 ⟨h1, h2, h3, h4, trivial⟩)
          | false =>
            exfalso
            have n1 := isNaN_num.1 h3
            have n2 := isNaN_num.1 h4
            rw [isInf_eq] at h2
            have h2' := of_decide_eq_false h2
            rw [feq_V n2 fin_zero.num, V_null] at h1
            have h1' := of_decide_eq_false h1
            rw [V_zero] at h1'
            unfold Num at n1
            unfold Fit at hbad
            rcases hbad with h | h | h
            · omega
            · exact h n2
            · exact h1' h
  · have e : modW x y = modR x y := by unfold modW; rw [if_neg hbad]
    rw [e]
    have hfx : Fit x := Classical.not_not.1 fun h => hbad (.inl h)
    have hny : Num y := Classical.not_not.1 fun h => hbad (.inr (.inl h))
    have hy0 : rg y ≠ 0 := fun h => hbad (.inr (.inr h))
    have h1 : feq FloatKind.f64 y 0 = false := by rw [feq_V hny fin_zero.num, V_null, decide_eq_false]; rw [V_zero]; exact hy0
    have h2 := notInf hfx
    have h3 := isNaN_num.2 hfx.num
    have h4 := isNaN_num.2 hny
    have hwy : W (abs y) := by rw [abs_word]; exact word_wordOf hny
    have hyp : 0 < valN (rg y) := by
      have := valN_lt (show 0 < rg y by omega)
      rw [valN_zero] at this
      omega
    -- the loop from s on
    have key : ∀ s, s < 9218868437227405312 → s = rg x → ∃ s', s' < 9218868437227405312 ∧ modR x y = wordOf (sg x) s' ∧ LoopTo Try.prog (loopAt Try.f80 0) (modA x y (.fl .f64 (wordOf false s))) (.exit 0) (modX x (wordOf false s')) := by
      intro s hs hsx
      by_cases hyi : rg y = 9218868437227405312
      · refine ⟨s, hs, ?_, mod_end (num_word (Nat.le_of_lt hs)) hny ?_⟩
        · unfold modR; rw [if_pos hyi, hsx]; exact wordOf_of hx
        · rw [V_wordOf (Nat.le_of_lt hs), hyi]
          have := valN_lt hs
          show (valN s : Int) < _
          omega
      · have hfy : Fit y := by unfold Fit; unfold Num at hny; omega
        obtain ⟨s', a1, a2, a3⟩ := mod_loop (x := x) hfy hy0 (valN s) s rfl hs
        refine ⟨s', a1, ?_, a3⟩
        unfold modR
        rw [if_neg hyi, ← hsx, ← a2, rd_val (Nat.le_of_lt a1)]
    by_cases hneg : V x < 0
    · have h5 : flt FloatKind.f64 x 0 = true := by rw [flt_V hfx.num fin_zero.num, V_null, decide_eq_true hneg]
      have hsx : sg x = true := by
        cases h : sg x with
        | true => rfl
        | false => have := V_pos h; omega
      obtain ⟨s', a1, a2, a3⟩ := key (rg x) hfx rfl
      have hfn : fneg x = wordOf false (rg x) := by rw [wordOf_of (word_fneg hx), sg_fneg, rg_fneg, hsx]; rfl
      have := modF5 x y (wordOf false s') ⟨h1, h2, h3, h4, hwy, h5, by rw [hfn]; exact mod_begin a3, h5, trivial⟩
      rw [fneg_wordOf (Nat.le_of_lt a1)] at this
      rw [a2, hsx]
      exact this
    · have h5 : flt FloatKind.f64 x 0 = false := by rw [flt_V hfx.num fin_zero.num, V_null, decide_eq_false hneg]
      cases hsx : sg x with
      | false =>
        obtain ⟨s', a1, a2, a3⟩ := key (rg x) hfx rfl
        have hfn : x = wordOf false (rg x) := by rw [← hsx]; exact wordOf_of hx
        have := modF8 x y (wordOf false s') ⟨h1, h2, h3, h4, hwy, h5, by rw [hfn] at a3 ⊢; rw [← hfn] at a3 ⊢; exact mod_begin (by rw [← hfn] at a3; exact a3), h5, trivial⟩
        rw [a2, hsx]
        exact this
      | true =>
        have hx0 : rg x = 0 := by
          have := V_neg hsx
          exact V_zero.1 (by omega)
        have hv0 : V x = 0 := V_zero.2 hx0
        have := modF8 x y x ⟨h1, h2, h3, h4, hwy, h5, mod_begin (mod_end hfx.num hny (by omega)), h5, trivial⟩
        have e2 : modR x y = x := by
          unfold modR
          split
          · rfl
          · rw [hx0, valN_zero, Nat.zero_mod, ← valN_zero, rd_val (by decide), ← hx0]
            exact (wordOf_of hx).symm
        rw [e2]
        exact this

def sigMod : List AV → Option (AV × List Prop)
  | [.v (.float .f64 x), .v (.float .f64 y)] => some (.fl .f64 (modW x y), [FWord x, FWord y])
  | [.fl .f64 x, .v (.float .f64 y)] => some (.fl .f64 (modW x y), [FWord x, FWord y, ¬ nanB .f64 x])
  | _ => none

theorem sigMod_ok {i : FuncId} (h : ∀ x y, FWord x → FWord y → PureTo Try.prog i [.v (.float .f64 x), .v (.float .f64 y)] (.fl .f64 (modW x y))) : ∀ ys r c, sigMod ys = some (r, c) → AllP c → PureTo Try.prog i ys r := by
  intro ys r c hs hc
  unfold sigMod at hs
  split at hs
  · cases hs; exact h _ _ hc.1 hc.2.1
  · cases hs
    exact (h _ _ hc.1 hc.2.1).args rfl fun i h1 h2 => by
      have : i = 0 ∨ i = 1 := by simp at h1; omega
      rcases this with rfl | rfl
      · exact .num _ hc.2.2.1
      · exact .same _
  · cases hs

def SM0 : SGT := (80, .p sigMod) :: SN9

theorem soM0 : SigsOK Try.prog SM0 := sigs_cons soN9 (sigMod_ok fun x y a b => mod_c a b)

theorem mMod1 (x y : Nat) (h : AllP [FWord x, FWord y]) : PureTo Try.prog 70 [.v (.float .f64 x), .v (.float .f64 y)] (AV.fl FloatKind.f64 (modW x y)) :=
  evFn_pure hm soM0 (fn := Try.f70) rfl rfl (ti := false) (hs := []) (c := _) (by kernel_rfl) h

def SM1 : SGT := (70, .p sigMod) :: SM0

theorem soM1 : SigsOK Try.prog SM1 := sigs_cons soM0 (sigMod_ok fun x y a b => mMod1 x y ⟨a, b, trivial⟩)

theorem u321 (x : Nat) (h : AllP [isNaN x = true]) : PureTo Try.prog 97 [.v (.float .f64 x)] (AV.v (.int .u32 (0 : Int))) :=
  evFn_pure hm soM1 (fn := Try.f97) rfl rfl (ti := false) (hs := [CHint.ops 1 [(1, Hint.b true)]]) (c := _) (by kernel_rfl) h

theorem u322 (x : Nat) (h : AllP [isNaN x = false, isInf x (0 : Int) = true]) : PureTo Try.prog 97 [.v (.float .f64 x)] (AV.v (.int .u32 (0 : Int))) :=
  evFn_pure hm soM1 (fn := Try.f97) rfl rfl (ti := false) (hs := [CHint.ops 1 [(1, Hint.b false), (4, Hint.b true)]]) (c := _) (by kernel_rfl) h

theorem u323 (x : Nat) (h : AllP [isNaN x = false, isInf x (0 : Int) = false, FWord (intW Ieee.Toward.zero x), FWord 4751297606875873280, ¬nanB FloatKind.f64 (intW Ieee.Toward.zero x), flt FloatKind.f64 (modW (intW Ieee.Toward.zero x) 4751297606875873280) 0 = true, fhasI (fadd (modW (intW Ieee.Toward.zero x) 4751297606875873280) 4751297606875873280), inR IntKind.u32 (ftoI (fadd (modW (intW Ieee.Toward.zero x) 4751297606875873280) 4751297606875873280))]) : PureTo Try.prog 97 [.v (.float .f64 x)] (AV.v (.int .u32 (ftoI (fadd (modW (intW Ieee.Toward.zero x) 4751297606875873280) 4751297606875873280)))) :=
  evFn_pure hm soM1 (fn := Try.f97) rfl rfl (ti := false) (hs := [CHint.ops 1 [(1, Hint.b false), (4, Hint.b false)], CHint.ops 4 [(1, Hint.b true)]]) (c := _) (by kernel_rfl) h

theorem u324 (x : Nat) (h : AllP [isNaN x = false, isInf x (0 : Int) = false, FWord (intW Ieee.Toward.zero x), FWord 4751297606875873280, ¬nanB FloatKind.f64 (intW Ieee.Toward.zero x), flt FloatKind.f64 (modW (intW Ieee.Toward.zero x) 4751297606875873280) 0 = false, fhasI (modW (intW Ieee.Toward.zero x) 4751297606875873280), inR IntKind.u32 (ftoI (modW (intW Ieee.Toward.zero x) 4751297606875873280))]) : PureTo Try.prog 97 [.v (.float .f64 x)] (AV.v (.int .u32 (ftoI (modW (intW Ieee.Toward.zero x) 4751297606875873280)))) :=
  evFn_pure hm soM1 (fn := Try.f97) rfl rfl (ti := false) (hs := [CHint.ops 1 [(1, Hint.b false), (4, Hint.b false)], CHint.ops 4 [(1, Hint.b false)]]) (c := _) (by kernel_rfl) h
-- 1 paths

theorem op0_1 (x y : Nat) (h : AllP []) : PureTo Try.prog 91 [.v (.float .f64 x), .v (.float .f64 y)] (AV.fl FloatKind.f64 (fadd x y)) :=
  evFn_pure hm soM1 (fn := Try.f91) rfl rfl (ti := false) (hs := []) (c := _) (by kernel_rfl) h
-- 1 paths

theorem op1_1 (x y : Nat) (h : AllP []) : PureTo Try.prog 92 [.v (.float .f64 x), .v (.float .f64 y)] (AV.fl FloatKind.f64 (fsub x y)) :=
  evFn_pure hm soM1 (fn := Try.f92) rfl rfl (ti := false) (hs := []) (c := _) (by kernel_rfl) h
-- 1 paths

theorem op2_1 (x y : Nat) (h : AllP []) : PureTo Try.prog 93 [.v (.float .f64 x), .v (.float .f64 y)] (AV.fl FloatKind.f64 (fmul x y)) :=
  evFn_pure hm soM1 (fn := Try.f93) rfl rfl (ti := false) (hs := []) (c := _) (by kernel_rfl) h
-- 1 paths

theorem op3_1 (x y : Nat) (h : AllP []) : PureTo Try.prog 94 [.v (.float .f64 x), .v (.float .f64 y)] (AV.fl FloatKind.f64 (fdiv x y)) :=
  evFn_pure hm soM1 (fn := Try.f94) rfl rfl (ti := false) (hs := []) (c := _) (by kernel_rfl) h

set_option exponentiation.threshold 2200

/-- a number's whole part, with its sign -/
def wholeI (x : Nat) : Int := sv (sg x) (valN (rg x) / U)

def u32N (x : Nat) : Int := if Fit x then wholeI x % 4294967296 else 0

def c32 : Nat := 4751297606875873280

theorem valN_c32 : valN (rg c32) = 4294967296 * U := by
  have e1 : sigM (rg c32) = 2 ^ 52 := by decide
  have e2 : sigK (rg c32) = 1054 := by decide
  have e3 : (4294967296 : Nat) = 2 ^ 32 := by decide
  unfold valN U
  rw [e1, e2, e3, ← Nat.pow_add]

theorem lt53 {n : Nat} (h : n < 9007199254740992) : n < 2 ^ 53 := h

/-- the rest by 2 ^ 32 -/
theorem mod32 {x : Nat} (hx : Fit x) : ∃ r, r < 9218868437227405312 ∧ valN r = valN (rg x) / U % 4294967296 * U ∧ modW (intW .zero x) c32 = wordOf (sg x) r := by
  obtain ⟨t, t1, t2, t3⟩ := trunc_V hx
  obtain ⟨r, r1, r2⟩ := whole_rep (n := valN (rg x) / U % 4294967296) (lt53 (by omega))
  refine ⟨r, r1, r2, ?_⟩
  have hc : Fit c32 := by decide
  have hb : ¬ (¬ Fit (intW .zero x) ∨ ¬ Num c32 ∨ rg c32 = 0) := by
    rw [t3]
    rintro (h | h | h)
    · exact h (fit_word t1)
    · exact h hc.num
    · exact absurd h (by decide)
  unfold modW
  rw [if_neg hb, t3]
  unfold modR
  rw [if_neg (by decide), sg_wordOf (Nat.le_of_lt t1), rg_wordOf (Nat.le_of_lt t1), t2, valN_c32, Nat.mul_mod_mul_right, ← r2, rd_val (Nat.le_of_lt r1)]

theorem V_c32 : V c32 = ((4294967296 * U : Nat) : Int) := by
  have h1 : V c32 = sv (sg c32) (valN (rg c32)) := rfl
  have h2 : sg c32 = false := by decide
  rw [h1, h2, valN_c32]; rfl

theorem fit_c32 : Fit c32 := by decide

theorem add_core {r z a b c : Nat} (hr : r < 9218868437227405312) (hz : z < 9218868437227405312) (hc : Fit c) (hv : valN r = a) (hb : V c = (b : Int)) (h : valN z = b - a) (hab : a < b) : fadd (wordOf true r) c = wordOf false z := by
  have hVr : V (wordOf true r) = -(a : Int) := by rw [V_wordOf (Nat.le_of_lt hr), hv]; rfl
  have hf : Fit (wordOf true r) := fit_word hr
  have e : (-(a : Int) + (b : Int)).natAbs = valN z := by rw [h]; omega
  have n1 : ¬ (-(a : Int) + (b : Int) = 0) := by omega
  have n2 : ¬ (-(a : Int) + (b : Int) < 0) := by omega
  rw [fadd_V hf hc, hVr, hb, e, rd_val (Nat.le_of_lt hz), if_neg n1, decide_eq_false n2]

theorem sub_scale (a b u : Nat) : (b - a) * u = b * u - a * u := Nat.sub_mul _ _ _

theorem lt_scale {a b u : Nat} (h : a < b) (hu : 0 < u) : a * u < b * u := Nat.mul_lt_mul_of_pos_right h hu

/-- 2 ^ 32 more -/
theorem add32 {r q : Nat} (hr : r < 9218868437227405312) (hq : q < 4294967296) (h0 : q ≠ 0) (hv : valN r = q * U) : ∃ z, z < 9218868437227405312 ∧ valN z = (4294967296 - q) * U ∧ fadd (wordOf true r) c32 = wordOf false z := by
  obtain ⟨z, z1, z2⟩ := whole_rep (n := 4294967296 - q) (lt53 (by omega))
  exact ⟨z, z1, z2, add_core hr z1 fit_c32 hv V_c32 (z2.trans (sub_scale q 4294967296 U)) (lt_scale hq U_pos)⟩

theorem ftoI_word {s : Bool} {r n : Nat} (hr : r < 9218868437227405312) (hv : valN r = n * U) : fhasI (wordOf s r) ∧ ftoI (wordOf s r) = sv s n := by
  obtain ⟨i1, i2⟩ := ftoI_V (x := wordOf s r) (fit_word hr)
  rw [sg_wordOf (Nat.le_of_lt hr), rg_wordOf (Nat.le_of_lt hr), hv, Nat.mul_div_cancel _ U_pos] at i2
  exact ⟨i1, i2⟩

theorem lt_zero_word {s : Bool} {r : Nat} (hr : r < 9218868437227405312) : flt .f64 (wordOf s r) 0 = (s && decide (r ≠ 0)) := by
  rw [flt_V (num_word (Nat.le_of_lt hr)) fin_zero.num, V_null, V_wordOf (Nat.le_of_lt hr)]
  cases s with
  | false => rw [sv_pos, Bool.false_and, decide_eq_false (by omega)]
  | true =>
    rw [sv_neg, Bool.true_and]
    have h := @valN_inj r 0
    rw [valN_zero] at h
    by_cases h0 : r = 0
    · rw [decide_eq_false (p := r ≠ 0) (fun h' => h' h0), decide_eq_false]
      have := h.2 h0
      omega
    · rw [decide_eq_true h0, decide_eq_true]
      have : valN r ≠ 0 := fun h' => h0 (h.1 h')
      omega

theorem u32_c {x : Nat} (hw : FWord x) : PureTo Try.prog 97 [.v (.float .f64 x)] (.v (.int .u32 (u32N x))) := by
  by_cases hx : Fit x
  · obtain ⟨t, t1, t2, t3⟩ := trunc_V hx
    obtain ⟨r, r1, r2, r3⟩ := mod32 hx
    have c1 := isNaN_num.2 hx.num
    have c2 := notInf hx
    have c3 : FWord (intW .zero x) := by rw [t3]; exact word_wordOf (Nat.le_of_lt t1)
    have c4 : ¬ nanB .f64 (intW .zero x) := num_iff.1 (by rw [t3]; exact num_word (Nat.le_of_lt t1))
    have hl := lt_zero_word (s := sg x) r1
    have hc : (4751297606875873280 : Nat) = c32 := rfl
    have hcw : FWord c32 := by unfold FWord; decide
    unfold u32N wholeI
    rw [if_pos hx]
    generalize valN (rg x) / U = q at *
    have hq : q % 4294967296 < 4294967296 := Nat.mod_lt _ (by decide)
    have hr0 : r = 0 ↔ q % 4294967296 = 0 := by
      have h := @valN_inj r 0
      rw [valN_zero, r2] at h
      rw [← h]
      exact ⟨fun h => by
        rcases Nat.mul_eq_zero.1 h with h | h
        · exact h
        · have := U_pos; omega, fun h => by rw [h, Nat.zero_mul]⟩
    by_cases hneg : sg x = true ∧ q % 4294967296 ≠ 0
    · obtain ⟨hs, h0⟩ := hneg
      have hr0' : r ≠ 0 := fun h => h0 (hr0.1 h)
      rw [hs] at r3 hl
      rw [decide_eq_true hr0'] at hl
      obtain ⟨z, z1, z2, z3⟩ := add32 r1 hq h0 r2
      obtain ⟨i1, i2⟩ := ftoI_word (s := false) z1 z2
      have hres : ftoI (wordOf false z) = sv (sg x) q % 4294967296 := by
        rw [i2, hs, sv_neg, sv_pos]
        omega
      have := u323 x
      rw [hc, r3, z3, hres] at this
      exact this ⟨c1, c2, c3, hcw, c4, hl, i1, by simp only [inR]; omega, trivial⟩
    · have hlt : flt FloatKind.f64 (wordOf (sg x) r) 0 = false := by
        rw [hl]
        cases hs : sg x with
        | false => rfl
        | true =>
          have h0 : q % 4294967296 = 0 := Classical.not_not.1 fun h => hneg ⟨hs, h⟩
          rw [decide_eq_false (fun h => h (hr0.2 h0))]; rfl
      obtain ⟨i1, i2⟩ := ftoI_word (s := sg x) r1 r2
      have hres : ftoI (wordOf (sg x) r) = sv (sg x) q % 4294967296 := by
        rw [i2]
        cases hs : sg x with
        | false => rw [sv_pos, sv_pos]; omega
        | true =>
          have h0 : q % 4294967296 = 0 := Classical.not_not.1 fun h => hneg ⟨hs, h⟩
          rw [h0, sv_neg, sv_neg]
          omega
      have := u324 x
      rw [hc, r3, hres] at this
      exact this ⟨c1, c2, c3, hcw, c4, hlt, i1, by simp only [inR]; omega, trivial⟩
  · unfold u32N
    rw [if_neg hx]
    by_cases hn : Num x
    · refine u322 x ⟨isNaN_num.2 hn, ?_, trivial⟩
      rw [isInf_eq, decide_eq_true]
      unfold Fit at hx
      unfold Num at hn
      omega
    · exact u321 x ⟨isNaN_of hn, trivial⟩

def sigU32 : List AV → Option (AV × List Prop)
  | [.v (.float .f64 x)] => some (.v (.int .u32 (u32N x)), [FWord x])
  | _ => none

def SM2 : SGT := (97, .p sigU32) :: (81, .p sigOps) :: SM1

theorem sigOps_ok : ∀ ys r c, sigOps ys = some (r, c) → AllP c → PureTo Try.prog 81 ys r := by
  intro ys r c hs hc
  unfold sigOps at hs
  split at hs
  · cases hs; exact operators_pure
  · cases hs

theorem sigU32_ok : ∀ ys r c, sigU32 ys = some (r, c) → AllP c → PureTo Try.prog 97 ys r := by
  intro ys r c hs hc
  unfold sigU32 at hs
  split at hs
  · cases hs; exact u32_c hc.1
  · cases hs

theorem soM2 : SigsOK Try.prog SM2 := sigs_cons (sigs_cons soM1 sigOps_ok) sigU32_ok

theorem i321 (x : Nat) (h : AllP [FWord x]) : PureTo Try.prog 96 [.v (.float .f64 x)] (AV.v (.int .i32 (IntKind.i32.wrap (u32N x)))) :=
  evFn_pure hm soM2 (fn := Try.f96) rfl rfl (ti := false) (hs := []) (c := _) (by kernel_rfl) h
-- 1 paths

def i32N (x : Nat) : Int := IntKind.i32.wrap (u32N x)

def sigI32 : List AV → Option (AV × List Prop)
  | [.v (.float .f64 x)] => some (.v (.int .i32 (i32N x)), [FWord x])
  | _ => none

theorem sigI32_ok : ∀ ys r c, sigI32 ys = some (r, c) → AllP c → PureTo Try.prog 96 ys r := by
  intro ys r c hs hc
  unfold sigI32 at hs
  split at hs
  · cases hs; exact i321 _ ⟨hc.1, trivial⟩
  · cases hs

def SM3 : SGT := (96, .p sigI32) :: SM2

theorem soM3 : SigsOK Try.prog SM3 := sigs_cons soM2 sigI32_ok

theorem op5_1 (x y : Nat) (h : AllP [FWord x, FWord y, (32 : Int) ≠ (0 : Int), (0 : Int) ≤ (u32N y).tmod (32 : Int)]) : PureTo Try.prog 95 [.v (.float .f64 x), .v (.float .f64 y)] (AV.v (.float FloatKind.f64 (fofI (IntKind.i32.wrap (i32N x * (2 : Int) ^ min ((u32N y).tmod (32 : Int)).toNat 32))))) :=
  evFn_pure hm soM3 (fn := Try.f95) rfl rfl (ti := false) (hs := [CHint.ops 1 [(5, Hint.wrap)]]) (c := _) (by kernel_rfl) h
-- 1 paths

theorem op6_1 (x y : Nat) (h : AllP [FWord x, FWord y, (32 : Int) ≠ (0 : Int), (0 : Int) ≤ (u32N y).tmod (32 : Int)]) : PureTo Try.prog 98 [.v (.float .f64 x), .v (.float .f64 y)] (AV.v (.float FloatKind.f64 (fofI (i32N x / (2 : Int) ^ min ((u32N y).tmod (32 : Int)).toNat 32)))) :=
  evFn_pure hm soM3 (fn := Try.f98) rfl rfl (ti := false) (hs := []) (c := _) (by kernel_rfl) h
-- 1 paths

theorem op7_1 (x y : Nat) (h : AllP [FWord x, FWord y, (32 : Int) ≠ (0 : Int), (0 : Int) ≤ (u32N y).tmod (32 : Int)]) : PureTo Try.prog 99 [.v (.float .f64 x), .v (.float .f64 y)] (AV.v (.float FloatKind.f64 (fofI (u32N x / (2 : Int) ^ min ((u32N y).tmod (32 : Int)).toNat 32)))) :=
  evFn_pure hm soM3 (fn := Try.f99) rfl rfl (ti := false) (hs := []) (c := _) (by kernel_rfl) h
-- 1 paths

theorem op8_1 (x y : Nat) (h : AllP [FWord x, FWord y]) : PureTo Try.prog 100 [.v (.float .f64 x), .v (.float .f64 y)] (AV.v (.float FloatKind.f64 (fofI (bitsOf BinOp.and IntKind.i32 (i32N x) (i32N y))))) :=
  evFn_pure hm soM3 (fn := Try.f100) rfl rfl (ti := false) (hs := []) (c := _) (by kernel_rfl) h
-- 1 paths

theorem op9_1 (x y : Nat) (h : AllP [FWord x, FWord y]) : PureTo Try.prog 101 [.v (.float .f64 x), .v (.float .f64 y)] (AV.v (.float FloatKind.f64 (fofI (bitsOf BinOp.or IntKind.i32 (i32N x) (i32N y))))) :=
  evFn_pure hm soM3 (fn := Try.f101) rfl rfl (ti := false) (hs := []) (c := _) (by kernel_rfl) h
-- 1 paths

theorem opA_1 (x y : Nat) (h : AllP [FWord x, FWord y]) : PureTo Try.prog 102 [.v (.float .f64 x), .v (.float .f64 y)] (AV.v (.float FloatKind.f64 (fofI (bitsOf BinOp.xor IntKind.i32 (i32N x) (i32N y))))) :=
  evFn_pure hm soM3 (fn := Try.f102) rfl rfl (ti := false) (hs := []) (c := _) (by kernel_rfl) h

def shiftN (y : Nat) : Nat := ((u32N y).tmod 32).toNat

def shlI (x y : Nat) : Int := IntKind.i32.wrap (i32N x * (2 : Int) ^ min (shiftN y) 32)

def shrI (x y : Nat) : Int := i32N x / (2 : Int) ^ min (shiftN y) 32

def shuI (x y : Nat) : Int := u32N x / (2 : Int) ^ min (shiftN y) 32

def andI (x y : Nat) : Int := bitsOf BinOp.and IntKind.i32 (i32N x) (i32N y)

def orI (x y : Nat) : Int := bitsOf BinOp.or IntKind.i32 (i32N x) (i32N y)

def xorI (x y : Nat) : Int := bitsOf BinOp.xor IntKind.i32 (i32N x) (i32N y)

theorem u32N_range (x : Nat) : 0 ≤ u32N x ∧ u32N x < 4294967296 := by
  unfold u32N
  split
  · omega
  · omega

theorem shift_nonneg (y : Nat) : (0 : Int) ≤ (u32N y).tmod 32 := by
  have := u32N_range y
  rw [Int.tmod_eq_emod_of_nonneg this.1]
  omega

def sigWW (g : Nat → Nat → AV) : List AV → Option (AV × List Prop)
  | [.v (.float .f64 x), .v (.float .f64 y)] => some (g x y, [FWord x, FWord y])
  | _ => none

theorem cons_WW {SG : SGT} {f : FuncId} (g : Nat → Nat → AV) (h : SigsOK Try.prog SG) (hf : ∀ x y, FWord x → FWord y → PureTo Try.prog f [.v (.float .f64 x), .v (.float .f64 y)] (g x y)) : SigsOK Try.prog ((f, .p (sigWW g)) :: SG) := by
  refine sigs_cons h ?_
  intro ys r c hs hc
  unfold sigWW at hs
  split at hs
  · cases hs; exact hf _ _ hc.1 hc.2.1
  · cases hs

def SM4 : SGT := (91, .p (sigWW fun x y => .fl .f64 (fadd x y))) :: (92, .p (sigWW fun x y => .fl .f64 (fsub x y))) :: (93, .p (sigWW fun x y => .fl .f64 (fmul x y))) :: (94, .p (sigWW fun x y => .fl .f64 (fdiv x y))) ::
  (95, .p (sigWW fun x y => .v (.float .f64 (fofI (shlI x y))))) :: (98, .p (sigWW fun x y => .v (.float .f64 (fofI (shrI x y))))) :: (99, .p (sigWW fun x y => .v (.float .f64 (fofI (shuI x y))))) ::
  (100, .p (sigWW fun x y => .v (.float .f64 (fofI (andI x y))))) :: (101, .p (sigWW fun x y => .v (.float .f64 (fofI (orI x y))))) :: (102, .p (sigWW fun x y => .v (.float .f64 (fofI (xorI x y))))) :: SM3

theorem soM4 : SigsOK Try.prog SM4 := by
  have a1 := cons_WW (fun x y => .v (.float .f64 (fofI (xorI x y)))) soM3 fun x y a b => opA_1 x y ⟨a, b, trivial⟩
  have a2 := cons_WW (fun x y => .v (.float .f64 (fofI (orI x y)))) a1 fun x y a b => op9_1 x y ⟨a, b, trivial⟩
  have a3 := cons_WW (fun x y => .v (.float .f64 (fofI (andI x y)))) a2 fun x y a b => op8_1 x y ⟨a, b, trivial⟩
  have a4 := cons_WW (fun x y => .v (.float .f64 (fofI (shuI x y)))) a3 fun x y a b => op7_1 x y ⟨a, b, by decide, shift_nonneg y, trivial⟩
  have a5 := cons_WW (fun x y => .v (.float .f64 (fofI (shrI x y)))) a4 fun x y a b => op6_1 x y ⟨a, b, by decide, shift_nonneg y, trivial⟩
  have a6 := cons_WW (fun x y => .v (.float .f64 (fofI (shlI x y)))) a5 fun x y a b => op5_1 x y ⟨a, b, by decide, shift_nonneg y, trivial⟩
  have a7 := cons_WW (fun x y => .fl .f64 (fdiv x y)) a6 fun x y _ _ => op3_1 x y trivial
  have a8 := cons_WW (fun x y => .fl .f64 (fmul x y)) a7 fun x y _ _ => op2_1 x y trivial
  have a9 := cons_WW (fun x y => .fl .f64 (fsub x y)) a8 fun x y _ _ => op1_1 x y trivial
  exact cons_WW (fun x y => .fl .f64 (fadd x y)) a9 fun x y _ _ => op0_1 x y trivial

theorem bin0_1 (s : ByteArray) (x y : Nat) (h : AllP [s = opNames.getD 0 ByteArray.empty ∧ ∀ (k : ByteArray), k ∈ List.take 0 opNames → k ≠ s, FWord x, FWord y]) : PureTo Try.prog 73 [.v (.string s), .v (.float .f64 x), .v (.float .f64 y)] (AV.tup [AV.v (.float FloatKind.f64 (toldW (fadd x y))), AV.v (.int .i64 (0 : Int))]) :=
  evFn_pure hm soM4 (fn := Try.f73) rfl rfl (ti := false) (hs := [CHint.ops 1 [(2, Hint.at 0)]]) (c := _) (by kernel_rfl) h
-- 1 paths

theorem bin1_1 (s : ByteArray) (x y : Nat) (h : AllP [s = opNames.getD 1 ByteArray.empty ∧ ∀ (k : ByteArray), k ∈ List.take 1 opNames → k ≠ s, FWord x, FWord y]) : PureTo Try.prog 73 [.v (.string s), .v (.float .f64 x), .v (.float .f64 y)] (AV.tup [AV.v (.float FloatKind.f64 (toldW (fsub x y))), AV.v (.int .i64 (0 : Int))]) :=
  evFn_pure hm soM4 (fn := Try.f73) rfl rfl (ti := false) (hs := [CHint.ops 1 [(2, Hint.at 1)]]) (c := _) (by kernel_rfl) h
-- 1 paths

theorem bin2_1 (s : ByteArray) (x y : Nat) (h : AllP [s = opNames.getD 2 ByteArray.empty ∧ ∀ (k : ByteArray), k ∈ List.take 2 opNames → k ≠ s, FWord x, FWord y]) : PureTo Try.prog 73 [.v (.string s), .v (.float .f64 x), .v (.float .f64 y)] (AV.tup [AV.v (.float FloatKind.f64 (toldW (fmul x y))), AV.v (.int .i64 (0 : Int))]) :=
  evFn_pure hm soM4 (fn := Try.f73) rfl rfl (ti := false) (hs := [CHint.ops 1 [(2, Hint.at 2)]]) (c := _) (by kernel_rfl) h
-- 1 paths

theorem bin3_1 (s : ByteArray) (x y : Nat) (h : AllP [s = opNames.getD 3 ByteArray.empty ∧ ∀ (k : ByteArray), k ∈ List.take 3 opNames → k ≠ s, FWord x, FWord y]) : PureTo Try.prog 73 [.v (.string s), .v (.float .f64 x), .v (.float .f64 y)] (AV.tup [AV.v (.float FloatKind.f64 (toldW (fdiv x y))), AV.v (.int .i64 (0 : Int))]) :=
  evFn_pure hm soM4 (fn := Try.f73) rfl rfl (ti := false) (hs := [CHint.ops 1 [(2, Hint.at 3)]]) (c := _) (by kernel_rfl) h
-- 1 paths

theorem bin4_1 (s : ByteArray) (x y : Nat) (h : AllP [s = opNames.getD 4 ByteArray.empty ∧ ∀ (k : ByteArray), k ∈ List.take 4 opNames → k ≠ s, FWord x, FWord y]) : PureTo Try.prog 73 [.v (.string s), .v (.float .f64 x), .v (.float .f64 y)] (AV.tup [AV.v (.float FloatKind.f64 (toldW (modW x y))), AV.v (.int .i64 (0 : Int))]) :=
  evFn_pure hm soM4 (fn := Try.f73) rfl rfl (ti := false) (hs := [CHint.ops 1 [(2, Hint.at 4)]]) (c := _) (by kernel_rfl) h
-- 1 paths

theorem bin5_1 (s : ByteArray) (x y : Nat) (h : AllP [s = opNames.getD 5 ByteArray.empty ∧ ∀ (k : ByteArray), k ∈ List.take 5 opNames → k ≠ s, FWord x, FWord y]) : PureTo Try.prog 73 [.v (.string s), .v (.float .f64 x), .v (.float .f64 y)] (AV.tup [AV.v (.float FloatKind.f64 (toldW (fofI (shlI x y)))), AV.v (.int .i64 (0 : Int))]) :=
  evFn_pure hm soM4 (fn := Try.f73) rfl rfl (ti := false) (hs := [CHint.ops 1 [(2, Hint.at 5)]]) (c := _) (by kernel_rfl) h
-- 1 paths

theorem bin6_1 (s : ByteArray) (x y : Nat) (h : AllP [s = opNames.getD 6 ByteArray.empty ∧ ∀ (k : ByteArray), k ∈ List.take 6 opNames → k ≠ s, FWord x, FWord y]) : PureTo Try.prog 73 [.v (.string s), .v (.float .f64 x), .v (.float .f64 y)] (AV.tup [AV.v (.float FloatKind.f64 (toldW (fofI (shrI x y)))), AV.v (.int .i64 (0 : Int))]) :=
  evFn_pure hm soM4 (fn := Try.f73) rfl rfl (ti := false) (hs := [CHint.ops 1 [(2, Hint.at 6)]]) (c := _) (by kernel_rfl) h
-- 1 paths

theorem bin7_1 (s : ByteArray) (x y : Nat) (h : AllP [s = opNames.getD 7 ByteArray.empty ∧ ∀ (k : ByteArray), k ∈ List.take 7 opNames → k ≠ s, FWord x, FWord y]) : PureTo Try.prog 73 [.v (.string s), .v (.float .f64 x), .v (.float .f64 y)] (AV.tup [AV.v (.float FloatKind.f64 (toldW (fofI (shuI x y)))), AV.v (.int .i64 (0 : Int))]) :=
  evFn_pure hm soM4 (fn := Try.f73) rfl rfl (ti := false) (hs := [CHint.ops 1 [(2, Hint.at 7)]]) (c := _) (by kernel_rfl) h
-- 1 paths

theorem bin8_1 (s : ByteArray) (x y : Nat) (h : AllP [s = opNames.getD 8 ByteArray.empty ∧ ∀ (k : ByteArray), k ∈ List.take 8 opNames → k ≠ s, FWord x, FWord y]) : PureTo Try.prog 73 [.v (.string s), .v (.float .f64 x), .v (.float .f64 y)] (AV.tup [AV.v (.float FloatKind.f64 (toldW (fofI (andI x y)))), AV.v (.int .i64 (0 : Int))]) :=
  evFn_pure hm soM4 (fn := Try.f73) rfl rfl (ti := false) (hs := [CHint.ops 1 [(2, Hint.at 8)]]) (c := _) (by kernel_rfl) h
-- 1 paths

theorem bin9_1 (s : ByteArray) (x y : Nat) (h : AllP [s = opNames.getD 9 ByteArray.empty ∧ ∀ (k : ByteArray), k ∈ List.take 9 opNames → k ≠ s, FWord x, FWord y]) : PureTo Try.prog 73 [.v (.string s), .v (.float .f64 x), .v (.float .f64 y)] (AV.tup [AV.v (.float FloatKind.f64 (toldW (fofI (orI x y)))), AV.v (.int .i64 (0 : Int))]) :=
  evFn_pure hm soM4 (fn := Try.f73) rfl rfl (ti := false) (hs := [CHint.ops 1 [(2, Hint.at 9)]]) (c := _) (by kernel_rfl) h
-- 1 paths

theorem bin10_1 (s : ByteArray) (x y : Nat) (h : AllP [s = opNames.getD 10 ByteArray.empty ∧ ∀ (k : ByteArray), k ∈ List.take 10 opNames → k ≠ s, FWord x, FWord y]) : PureTo Try.prog 73 [.v (.string s), .v (.float .f64 x), .v (.float .f64 y)] (AV.tup [AV.v (.float FloatKind.f64 (toldW (fofI (xorI x y)))), AV.v (.int .i64 (0 : Int))]) :=
  evFn_pure hm soM4 (fn := Try.f73) rfl rfl (ti := false) (hs := [CHint.ops 1 [(2, Hint.at 10)]]) (c := _) (by kernel_rfl) h
-- 1 paths

theorem binX_1 (s : ByteArray) (x y : Nat) (h : AllP [∀ (k : ByteArray), k ∈ opNames → k ≠ s]) : PureTo Try.prog 73 [.v (.string s), .v (.float .f64 x), .v (.float .f64 y)] (AV.tup [AV.v (.float FloatKind.f64 0), AV.v (.int .i64 (1 : Int))]) :=
  evFn_pure hm soM4 (fn := Try.f73) rfl rfl (ti := false) (hs := []) (c := _) (by kernel_rfl) h
-- 4 paths

/-- what an operator makes of two numbers -/
def opW (i : Option Nat) (x y : Nat) : Nat :=
  match i with
  | some 0 => toldW (fadd x y)
  | some 1 => toldW (fsub x y)
  | some 2 => toldW (fmul x y)
  | some 3 => toldW (fdiv x y)
  | some 4 => toldW (modW x y)
  | some 5 => toldW (fofI (shlI x y))
  | some 6 => toldW (fofI (shrI x y))
  | some 7 => toldW (fofI (shuI x y))
  | some 8 => toldW (fofI (andI x y))
  | some 9 => toldW (fofI (orI x y))
  | some 10 => toldW (fofI (xorI x y))
  | _ => 0

def opIx (s : ByteArray) : Option Nat := opNames.findIdx? (fun k => decide (k = s))

def binW (s : ByteArray) (x y : Nat) : Nat := opW (opIx s) x y

def binE (s : ByteArray) : Int := if (opIx s).isSome then 0 else 1

theorem opIx_none {s : ByteArray} (h : ∀ k, k ∈ opNames → k ≠ s) : opIx s = none := by
  unfold opIx
  rw [List.findIdx?_eq_none_iff]
  exact fun k hk => by simpa using h k hk

theorem bin_c {s : ByteArray} {x y : Nat} (hx : FWord x) (hy : FWord y) : PureTo Try.prog 73 [.v (.string s), .v (.float .f64 x), .v (.float .f64 y)] (.tup [.v (.float .f64 (binW s x y)), .v (.int .i64 (binE s))]) := by
  by_cases h : ∀ k, k ∈ opNames → k ≠ s
  · have e := opIx_none h
    unfold binW binE
    rw [e]
    exact binX_1 s x y ⟨h, trivial⟩
  · have hs : s ∈ opNames := Classical.not_not.1 fun hn => h fun k hk hks => hn (hks ▸ hk)
    clear h
    unfold opNames at hs
    simp only [List.mem_cons, List.not_mem_nil, or_false] at hs
    rcases hs with rfl | rfl | rfl | rfl | rfl | rfl | rfl | rfl | rfl | rfl | rfl
    · exact bin0_1 _ x y ⟨⟨rfl, by decide⟩, hx, hy, trivial⟩
    · exact bin1_1 _ x y ⟨⟨rfl, by decide⟩, hx, hy, trivial⟩
    · exact bin2_1 _ x y ⟨⟨rfl, by decide⟩, hx, hy, trivial⟩
    · exact bin3_1 _ x y ⟨⟨rfl, by decide⟩, hx, hy, trivial⟩
    · exact bin4_1 _ x y ⟨⟨rfl, by decide⟩, hx, hy, trivial⟩
    · exact bin5_1 _ x y ⟨⟨rfl, by decide⟩, hx, hy, trivial⟩
    · exact bin6_1 _ x y ⟨⟨rfl, by decide⟩, hx, hy, trivial⟩
    · exact bin7_1 _ x y ⟨⟨rfl, by decide⟩, hx, hy, trivial⟩
    · exact bin8_1 _ x y ⟨⟨rfl, by decide⟩, hx, hy, trivial⟩
    · exact bin9_1 _ x y ⟨⟨rfl, by decide⟩, hx, hy, trivial⟩
    · exact bin10_1 _ x y ⟨⟨rfl, by decide⟩, hx, hy, trivial⟩

def sigBin : List AV → Option (AV × List Prop)
  | [.v (.string s), .v (.float .f64 x), .v (.float .f64 y)] => some (.tup [.v (.float .f64 (binW s x y)), .v (.int .i64 (binE s))], [FWord x, FWord y])
  | [.v (.string s), .fl .f64 x, .v (.float .f64 y)] => some (.tup [.v (.float .f64 (binW s x y)), .v (.int .i64 (binE s))], [FWord x, FWord y, ¬ nanB .f64 x])
  | [.v (.string s), .fl .f64 x, .fl .f64 y] => some (.tup [.v (.float .f64 (binW s x y)), .v (.int .i64 (binE s))], [FWord x, FWord y, ¬ nanB .f64 x, ¬ nanB .f64 y])
  | _ => none

theorem sigBin_ok : ∀ ys r c, sigBin ys = some (r, c) → AllP c → PureTo Try.prog 73 ys r := by
  intro ys r c hs hc
  unfold sigBin at hs
  split at hs
  · cases hs; exact bin_c hc.1 hc.2.1
  · cases hs
    exact (bin_c hc.1 hc.2.1).args rfl fun i h1 h2 => by
      have : i = 0 ∨ i = 1 ∨ i = 2 := by simp at h1; omega
      rcases this with rfl | rfl | rfl
      · exact .same _
      · exact .num _ hc.2.2.1
      · exact .same _
  · cases hs
    exact (bin_c hc.1 hc.2.1).args rfl fun i h1 h2 => by
      have : i = 0 ∨ i = 1 ∨ i = 2 := by simp at h1; omega
      rcases this with rfl | rfl | rfl
      · exact .same _
      · exact .num _ hc.2.2.1
      · exact .num _ hc.2.2.2.1
  · cases hs

set_option exponentiation.threshold 2200

/-- a small whole number as a float -/
theorem fofI_word {n : Int} (h : n.natAbs < 9007199254740992) : ∃ r, r < 9218868437227405312 ∧ valN r = n.natAbs * U ∧ fofI n = wordOf (decide (n < 0)) r := by
  obtain ⟨r, r1, r2⟩ := whole_rep (n := n.natAbs) (lt53 h)
  exact ⟨r, r1, r2, by rw [fofI_V, ← r2, rd_val (Nat.le_of_lt r1)]⟩

theorem look_app {α : Type} (A B : List (Nat × α)) (g : Nat) : Ev.look (A ++ B) g = match Ev.look A g with | some x => some x | none => Ev.look B g := by
  induction A with
  | nil => rfl
  | cons x A ih =>
    obtain ⟨k, v⟩ := x
    rw [List.cons_append, look_cons, look_cons]
    by_cases h : k = g
    · rw [if_pos h, if_pos h]
    · rw [if_neg h, if_neg h]; exact ih

theorem sigs_app {P : Program} {A B : SGT} (ha : SigsOK P A) (hb : SigsOK P B) : SigsOK P (A ++ B) := by
  intro f sig h
  rw [look_app] at h
  cases hA : Ev.look A f with
  | some x => rw [hA] at h; exact ha f sig (by rw [hA]; exact h)
  | none => rw [hA] at h; exact hb f sig h

def SM6 : SGT := Bn.RS5 ++ SM3

theorem soM6 : SigsOK Try.prog SM6 := sigs_app Bn.rsok5 soM3

def partsS0 (x : Nat) (x0 : Int) (x1 : Int) : AS := { n := 43, fr := [(6, AV.v (.int .u64 x0)), (7, AV.v (.int .i64 x1))], hp := [], nx := 0 }

def partsX0 (x : Nat) (x2 : Int) (x3 : Int) : AS := { n := 43, fr := [(6, AV.v (.int .u64 x2)), (7, AV.v (.int .i64 x3))], hp := [], nx := 0 }
-- 2 paths

theorem partsL0_1 (x : Nat) (x0 : Int) (x1 : Int) (h : AllP [(bitsOf BinOp.and IntKind.u64 x0 (1 : Int) == (0 : Int)) = true, (0 : Int) ≤ (1 : Int), inR IntKind.i64 (x1 + (1 : Int))]) : To Try.prog (loopAt Try.f86 0) ({ n := 43, fr := [(6, AV.v (.int .u64 x0)), (7, AV.v (.int .i64 x1))], hp := [], nx := 0 }) (.normal) { n := 43, fr := [(6, AV.v (.int .u64 (x0 / (2 : Int)))), (7, AV.v (.int .i64 (x1 + (1 : Int))))], hp := [], nx := 0 } :=
  evW_to hm soM6 (hs := [CHint.ops 11 [(2, Hint.b true)]]) (slots := [6, 7]) (keys := []) (nx := 0) (c := _) (by kernel_rfl) h

theorem partsL0_2 (x : Nat) (x0 : Int) (x1 : Int) (h : AllP [(bitsOf BinOp.and IntKind.u64 x0 (1 : Int) == (0 : Int)) = false]) : To Try.prog (loopAt Try.f86 0) ({ n := 43, fr := [(6, AV.v (.int .u64 x0)), (7, AV.v (.int .i64 x1))], hp := [], nx := 0 }) (Exit.exit 0) { n := 43, fr := [(6, AV.v (.int .u64 x0)), (7, AV.v (.int .i64 x1))], hp := [], nx := 0 } :=
  evW_to hm soM6 (hs := [CHint.ops 11 [(2, Hint.b false)]]) (slots := [6, 7]) (keys := []) (nx := 0) (c := _) (by kernel_rfl) h
-- 6 paths

theorem partsF4 (x : Nat) (x2 : Int) (x3 : Int) (h : AllP [isNaN x = false, isInf x (0 : Int) = false, flt FloatKind.f64 x 0 = false, feq FloatKind.f64 x 0 = true]) : PureTo Try.prog 86 [.v (.float .f64 x)] (AV.tup [AV.sl 1 (.ints .u32 []) false, AV.v (.int .i64 (0 : Int)), AV.v (.int .i64 (0 : Int))]) :=
  evFn_pure hm soM6 (fn := Try.f86) rfl rfl (ti := false) (hs := [CHint.ops 1 [(1, Hint.b false), (4, Hint.b false), (8, Hint.b false)], CHint.ops 3 [(1, Hint.b true)]]) (c := _) (by kernel_rfl) h

theorem partsF5 (x : Nat) (x2 : Int) (x3 : Int) (h : AllP [isNaN x = false, isInf x (0 : Int) = false, flt FloatKind.f64 x 0 = false, feq FloatKind.f64 x 0 = false, (0 : Int) ≤ (52 : Int), inR IntKind.i64 (IntKind.i64.wrap ((↑x : Int) / (4503599627370496 : Int)) - (1075 : Int)), (0 : Int) ≤ (52 : Int), ((↑x : Int) / (4503599627370496 : Int) == (0 : Int)) = true, LoopTo Try.prog (loopAt Try.f86 0) { n := 43, fr := [(6, AV.v (.int .u64 (bitsOf BinOp.and IntKind.u64 (↑x : Int) (4503599627370495 : Int)))), (7, AV.v (.int .i64 (-1074 : Int)))], hp := [], nx := 0 } (Exit.exit 0) { n := 43, fr := [(6, AV.v (.int .u64 x2)), (7, AV.v (.int .i64 x3))], hp := [], nx := 0 }, (0 : Int) ≤ x2, x2 < (18446744073709551616 : Int)]) : PureTo Try.prog 86 [.v (.float .f64 x)] (AV.tup [AV.sl 1 (.ints .u32 (Bn.dig x2.toNat)) false, AV.v (.int .i64 x3), AV.v (.int .i64 (0 : Int))]) :=
  evFn_pure hm soM6 (fn := Try.f86) rfl rfl (ti := false) (hs := [CHint.ops 1 [(1, Hint.b false), (4, Hint.b false), (8, Hint.b false)], CHint.ops 3 [(1, Hint.b false)], CHint.ops 8 [(2, Hint.b true)], CHint.loop [6, 7] [] 0 (Exit.exit 0) { n := 43, fr := [(6, AV.v (.int .u64 x2)), (7, AV.v (.int .i64 x3))], hp := [], nx := 0 }]) (c := _) (by kernel_rfl) h

theorem partsF6 (x : Nat) (x2 : Int) (x3 : Int) (h : AllP [isNaN x = false, isInf x (0 : Int) = false, flt FloatKind.f64 x 0 = false, feq FloatKind.f64 x 0 = false, (0 : Int) ≤ (52 : Int), inR IntKind.i64 (IntKind.i64.wrap ((↑x : Int) / (4503599627370496 : Int)) - (1075 : Int)), (0 : Int) ≤ (52 : Int), ((↑x : Int) / (4503599627370496 : Int) == (0 : Int)) = false, LoopTo Try.prog (loopAt Try.f86 0) { n := 43, fr := [(6, AV.v (.int .u64 (bitsOf BinOp.or IntKind.u64 (bitsOf BinOp.and IntKind.u64 (↑x : Int) (4503599627370495 : Int)) (4503599627370496 : Int)))), (7, AV.v (.int .i64 (IntKind.i64.wrap ((↑x : Int) / (4503599627370496 : Int)) - (1075 : Int))))], hp := [], nx := 0 } (Exit.exit 0) { n := 43, fr := [(6, AV.v (.int .u64 x2)), (7, AV.v (.int .i64 x3))], hp := [], nx := 0 }, (0 : Int) ≤ x2, x2 < (18446744073709551616 : Int)]) : PureTo Try.prog 86 [.v (.float .f64 x)] (AV.tup [AV.sl 1 (.ints .u32 (Bn.dig x2.toNat)) false, AV.v (.int .i64 x3), AV.v (.int .i64 (0 : Int))]) :=
  evFn_pure hm soM6 (fn := Try.f86) rfl rfl (ti := false) (hs := [CHint.ops 1 [(1, Hint.b false), (4, Hint.b false), (8, Hint.b false)], CHint.ops 3 [(1, Hint.b false)], CHint.ops 8 [(2, Hint.b false)], CHint.loop [6, 7] [] 0 (Exit.exit 0) { n := 43, fr := [(6, AV.v (.int .u64 x2)), (7, AV.v (.int .i64 x3))], hp := [], nx := 0 }]) (c := _) (by kernel_rfl) h

set_option exponentiation.threshold 2200

open Bn

/-- an odd number and a power of 2 -/
def strip : Nat → Nat → Nat × Nat
  | 0, n => (n, 0)
  | f + 1, n => if n % 2 = 0 then ((strip f (n / 2)).1, (strip f (n / 2)).2 + 1) else (n, 0)

theorem strip_is : ∀ f n, (strip f n).1 * 2 ^ (strip f n).2 = n := by
  intro f
  induction f with
  | zero => intro n; simp [strip]
  | succ f ih =>
    intro n
    unfold strip
    split
    · next h =>
      show (strip f (n / 2)).1 * 2 ^ ((strip f (n / 2)).2 + 1) = n
      rw [Nat.pow_succ, ← Nat.mul_assoc, ih]; omega
    · simp

theorem strip_le : ∀ f n, (strip f n).2 ≤ f := by
  intro f
  induction f with
  | zero => intro n; exact Nat.le_refl _
  | succ f ih =>
    intro n
    unfold strip
    split
    · exact Nat.succ_le_succ (ih _)
    · exact Nat.zero_le _

theorem and_one {n : Nat} (h : n < 18446744073709551616) : bitsOf BinOp.and IntKind.u64 (n : Int) (1 : Int) = ((n % 2 : Nat) : Int) := by
  have := and_low (k := .u64) rfl (x := (n : Int)) (s := 1) (by omega) (by show _ < (2 ^ 64 : Int); omega) (by decide)
  rw [show (((2 ^ 1 - 1 : Nat)) : Int) = 1 from rfl, show ((2 ^ 1 : Nat) : Int) = 2 from rfl] at this
  rw [this]; omega

theorem parts_loop (x : Nat) : ∀ (f n : Nat) (e : Int), 0 < n → n < 2 ^ f → f ≤ 63 → -5000 ≤ e → e + (f : Int) ≤ 5000 →
    LoopTo Try.prog (loopAt Try.f86 0) (partsS0 x n e) (.exit 0) (partsX0 x ((strip f n).1 : Nat) (e + (strip f n).2)) := by
  intro f
  induction f with
  | zero => intro n e h0 h1; omega
  | succ f ih =>
    intro n e h0 h1 hf h2 h3
    have hn : n < 18446744073709551616 := by
      have : 2 ^ (f + 1) ≤ 2 ^ 63 := Nat.pow_le_pow_right (by decide) (by omega)
      have e63 : (2 : Nat) ^ 63 = 9223372036854775808 := by decide
      omega
    by_cases hz : n % 2 = 0
    · have hs : strip (f + 1) n = ((strip f (n / 2)).1, (strip f (n / 2)).2 + 1) := by
        rw [strip]; rw [if_pos hz]
      have s1 := partsL0_1 x n e ⟨by rw [and_one hn, hz]; rfl, by decide, by simp only [inR]; omega, trivial⟩
      have hc : ((n : Int) / 2) = ((n / 2 : Nat) : Int) := by omega
      rw [hc] at s1
      have hlt : n / 2 < 2 ^ f := by rw [Nat.pow_succ] at h1; omega
      have l := ih (n / 2) (e + 1) (by omega) hlt (by omega) (by omega) (by omega)
      rw [hs]
      have he : e + 1 + ((strip f (n / 2)).2 : Int) = e + (((strip f (n / 2)).2 + 1 : Nat) : Int) := by omega
      rw [he] at l
      exact LoopTo.step s1 l
    · have hs : strip (f + 1) n = (n, 0) := by
        rw [strip]; rw [if_neg hz]
      have s2 := partsL0_2 x n e ⟨by rw [and_one hn, beq_eq_false_iff_ne]; omega, trivial⟩
      rw [hs]
      have he : e + ((0 : Nat) : Int) = e := by omega
      show LoopTo _ _ _ _ (partsX0 x (n : Int) (e + ((0 : Nat) : Int)))
      rw [he]
      exact LoopTo.done (by intro h; cases h) s2

/-- the odd part and the place -/
def pm (x : Nat) : Nat := if rg x = 0 then 0 else (strip 53 (sigM (rg x))).1

def pe (x : Nat) : Int := if rg x = 0 then 0 else -1074 + (sigK (rg x) : Int) + (strip 53 (sigM (rg x))).2

theorem sigM_nil {r : Nat} : sigM r = 0 ↔ r = 0 := by
  unfold sigM
  split <;> omega

theorem abs_low {x : Nat} (hw : FWord x) (hs : sg x = false) : x = rg x := by
  unfold FWord at hw
  unfold sg at hs
  rw [beq_eq_false_iff_ne] at hs
  unfold rg
  omega

theorem parts_c {x : Nat} (hw : FWord x) (hx : Fit x) (hs : sg x = false) : PureTo Try.prog 86 [.v (.float .f64 x)] (.tup [.sl 1 (.ints .u32 (dig (pm x))) false, .v (.int .i64 (pe x)), .v (.int .i64 0)]) := by
  have n1 := isNaN_num.2 hx.num
  have n2 := notInf hx
  have n3 : flt .f64 x 0 = false := by
    rw [flt_V hx.num fin_zero.num, V_null, decide_eq_false]
    have := V_pos hs
    omega
  by_cases h0 : rg x = 0
  · have n4 : feq .f64 x 0 = true := by rw [feq_V hx.num fin_zero.num, V_null, decide_eq_true (V_zero.2 h0)]
    have e1 : pm x = 0 := by unfold pm; rw [if_pos h0]
    have e2 : pe x = 0 := by unfold pe; rw [if_pos h0]
    rw [e1, e2, dig_zero]
    exact partsF4 x 0 0 ⟨n1, n2, n3, n4, trivial⟩
  · have n4 := notZero hx h0
    obtain ⟨s1, s2, s3⟩ := sig_parts (rg x)
    have hx' := abs_low hw hs
    have hlt : x < 9218868437227405312 := by unfold Fit at hx; omega
    have hmpos : 0 < sigM (rg x) := by
      rcases Nat.eq_zero_or_pos (sigM (rg x)) with h | h
      · exact (h0 (sigM_nil.1 h)).elim
      · exact h
    have e1 : pm x = (strip 53 (sigM (rg x))).1 := by unfold pm; rw [if_neg h0]
    have e2 : pe x = -1074 + (sigK (rg x) : Int) + (strip 53 (sigM (rg x))).2 := by unfold pe; rw [if_neg h0]
    have l := parts_loop x 53 (sigM (rg x)) (-1074 + (sigK (rg x) : Int)) hmpos s2 (by decide) (by omega) (by omega)
    rw [← e1, ← e2] at l
    have hpm : pm x < 9007199254740992 := by
      have h3 := strip_is 53 (sigM (rg x))
      rw [← e1] at h3
      have : pm x ≤ sigM (rg x) := by
        have hp := Nat.two_pow_pos (strip 53 (sigM (rg x))).2
        have := Nat.le_mul_of_pos_right (pm x) hp
        rw [h3] at this
        exact this
      have e53 : (2 : Nat) ^ 53 = 9007199254740992 := by decide
      omega
    have hwrap : IntKind.i64.wrap ((x : Int) / 4503599627370496) = ((x / 4503599627370496 : Nat) : Int) := by rw [IntKind.wrap_i64]; omega
    have hand : bitsOf BinOp.and IntKind.u64 (x : Int) (4503599627370495 : Int) = ((x % 4503599627370496 : Nat) : Int) := by
      have := and_low (k := .u64) rfl (x := (x : Int)) (s := 52) (by omega) (by show _ < (2 ^ 64 : Int); omega) (by decide)
      rw [show (((2 ^ 52 - 1 : Nat)) : Int) = 4503599627370495 from rfl, show ((2 ^ 52 : Nat) : Int) = 4503599627370496 from rfl] at this
      rw [this]; omega
    have r1 : inR IntKind.i64 (IntKind.i64.wrap ((x : Int) / 4503599627370496) - 1075) := by rw [hwrap]; simp only [inR]; omega
    by_cases hsub : x < 4503599627370496
    · have hM : sigM (rg x) = x % 4503599627370496 := by unfold sigM; rw [if_pos (by omega)]; omega
      have hK : sigK (rg x) = 0 := by unfold sigK; rw [if_pos (by omega)]
      have := partsF5 x (pm x) (pe x) ⟨n1, n2, n3, n4, by decide, r1, by decide, by rw [beq_iff_eq]; omega, by
        rw [hand, ← hM]
        rw [hK] at l
        exact l, by omega, by omega, trivial⟩
      rw [Int.toNat_natCast] at this
      exact this
    · have hM : sigM (rg x) = 4503599627370496 + x % 4503599627370496 := by unfold sigM; rw [if_neg (by omega)]; omega
      have hK : (sigK (rg x) : Int) - 1074 = (x / 4503599627370496 : Nat) - 1075 := by unfold sigK; rw [if_neg (by omega)]; omega
      have hor : bitsOf BinOp.or IntKind.u64 ((x % 4503599627370496 : Nat) : Int) (4503599627370496 : Int) = ((sigM (rg x) : Nat) : Int) := by
        rw [(or_add (k := .u64) rfl (s := 52) (by omega) (by show _ < ((2 ^ 52 : Nat) : Int); omega) (by decide) (by decide) (by decide) (by decide)).1, hM]
        omega
      have := partsF6 x (pm x) (pe x) ⟨n1, n2, n3, n4, by decide, r1, by decide, by rw [beq_eq_false_iff_ne]; omega, by
        rw [hand, hor, hwrap]
        have e3 : ((x / 4503599627370496 : Nat) : Int) - 1075 = -1074 + (sigK (rg x) : Int) := by omega
        rw [e3]
        exact l, by omega, by omega, trivial⟩
      rw [Int.toNat_natCast] at this
      exact this

def sigParts : List AV → Option (AV × List Prop)
  | [.v (.float .f64 x)] => some (.tup [.sl 1 (.ints .u32 (dig (pm x))) false, .v (.int .i64 (pe x)), .v (.int .i64 0)], [FWord x, Fit x, sg x = false])
  | _ => none

def SM7 : SGT := (86, .p sigParts) :: SM6

theorem soM7 : SigsOK Try.prog SM7 := by
  refine sigs_cons soM6 ?_
  intro ys r c hs hc
  unfold sigParts at hs
  split at hs
  · cases hs; exact parts_c hc.1 hc.2.1 hc.2.2.1
  · cases hs

set_option exponentiation.threshold 2200

theorem pm_val (x : Nat) : 0 ≤ pe x + 1074 ∧ pm x * 2 ^ (pe x + 1074).toNat = valN (rg x) ∧ pm x < 9007199254740992 ∧ pe x + 1074 ≤ 5000 + (sigK (rg x) : Int) := by
  unfold pm pe
  by_cases h0 : rg x = 0
  · rw [if_pos h0, if_pos h0, h0, valN_zero]
    refine ⟨by decide, Nat.zero_mul _, by decide, by omega⟩
  · rw [if_neg h0, if_neg h0]
    have h1 := strip_is 53 (sigM (rg x))
    have h2 := strip_le 53 (sigM (rg x))
    obtain ⟨s1, s2, s3⟩ := sig_parts (rg x)
    have e53 : (2 : Nat) ^ 53 = 9007199254740992 := by decide
    refine ⟨by omega, ?_, ?_, by omega⟩
    · rw [show (-1074 + (sigK (rg x) : Int) + ((strip 53 (sigM (rg x))).2 : Int) + 1074).toNat = (strip 53 (sigM (rg x))).2 + sigK (rg x) by omega, Nat.pow_add, ← Nat.mul_assoc, h1]
      rfl
    · have hp := Nat.two_pow_pos (strip 53 (sigM (rg x))).2
      have := Nat.le_mul_of_pos_right (strip 53 (sigM (rg x))).1 hp
      rw [h1] at this
      omega

theorem dig_first (n : Nat) : (dig n).getD 0 0 = ((n % 4294967296 : Nat) : Int) := by
  by_cases h : n = 0
  · subst h; rw [dig_zero]; rfl
  · rw [dig_pos h]; rfl

theorem dig_small_len {n : Nat} (h : n < 9007199254740992) : (dig n).length ≤ 2 := by
  rcases Nat.lt_or_ge 2 (dig n).length with h1 | h1
  · rw [dig_len] at h1; omega
  · exact h1

def nearFS0 (a : List Int) (ta : Bool) (e : Int) (m : Nat) (x0 : Int) : AS := { n := 113, fr := [(1, AV.v (.int .i64 e)), (7, AV.fl FloatKind.f64 m), (8, AV.sl 1 (.ints .u32 (Bn.norm a)) false), (9, AV.v (.int .i64 x0))], hp := [], nx := 0 }

def nearFX0 (a : List Int) (ta : Bool) (e : Int) (m : Nat)  : AS := { n := 113, fr := [(1, AV.v (.int .i64 e)), (7, AV.fl FloatKind.f64 m)], hp := [], nx := 0 }
-- 2 paths

theorem nearFL0_1 (a : List Int) (ta : Bool) (e : Int) (m : Nat) (x0 : Int) (h : AllP [decide (x0 ≥ (0 : Int)) = true, (0 : Int) ≤ x0 ∧ x0 < (↑(Bn.norm a).length : Int), inR IntKind.i64 (x0 - (1 : Int))]) : To Try.prog (loopAt Try.f89 0) ({ n := 113, fr := [(1, AV.v (.int .i64 e)), (7, AV.fl FloatKind.f64 m), (8, AV.sl 1 (.ints .u32 (Bn.norm a)) false), (9, AV.v (.int .i64 x0))], hp := [], nx := 0 }) (.normal) { n := 113, fr := [(1, AV.v (.int .i64 e)), (7, AV.fl FloatKind.f64 (fadd (fmul m 4751297606875873280) (fofI ((Bn.norm a).getD x0.toNat (0 : Int))))), (8, AV.sl 1 (.ints .u32 (Bn.norm a)) false), (9, AV.v (.int .i64 (x0 - (1 : Int))))], hp := [], nx := 0 } :=
  evW_to hm soM7 (hs := [CHint.ops 13 [(1, Hint.b true)]]) (slots := [1, 7, 8, 9]) (keys := []) (nx := 0) (c := _) (by kernel_rfl) h

theorem nearFL0_2 (a : List Int) (ta : Bool) (e : Int) (m : Nat) (x0 : Int) (h : AllP [decide (x0 ≥ (0 : Int)) = false]) : To Try.prog (loopAt Try.f89 0) ({ n := 113, fr := [(1, AV.v (.int .i64 e)), (7, AV.fl FloatKind.f64 m), (8, AV.sl 1 (.ints .u32 (Bn.norm a)) false), (9, AV.v (.int .i64 x0))], hp := [], nx := 0 }) (Exit.exit 0) { n := 113, fr := [(1, AV.v (.int .i64 e)), (7, AV.fl FloatKind.f64 m)], hp := [], nx := 0 } :=
  evW_to hm soM7 (hs := [CHint.ops 13 [(1, Hint.b false)]]) (slots := [1, 7]) (keys := []) (nx := 0) (c := _) (by kernel_rfl) h
-- 38 paths

theorem nearFF1 (a : List Int) (ta : Bool) (e : Int) (m : Nat) (h : AllP [Bn.Words a, a.length ≤ Bn.lim4, ((↑(Bn.bl (Bn.nat a)) : Int) == (0 : Int)) = true]) : PureTo Try.prog 89 [.sl 1 (.ints .u32 a) ta, .v (.int .i64 e)] (AV.v (.float FloatKind.f64 0)) :=
  evFn_pure hm soM7 (fn := Try.f89) rfl rfl (ti := false) (hs := [CHint.ops 2 [(1, Hint.b true)]]) (c := _) (by kernel_rfl) h

theorem nearFF3 (a : List Int) (ta : Bool) (e : Int) (m : Nat) (h : AllP [Bn.Words a, a.length ≤ Bn.lim4, ((↑(Bn.bl (Bn.nat a)) : Int) == (0 : Int)) = false, inR IntKind.i64 ((↑(Bn.bl (Bn.nat a)) : Int) + e), decide ((↑(Bn.bl (Bn.nat a)) : Int) + e > (1024 : Int)) = false, inR IntKind.i64 ((↑(Bn.bl (Bn.nat a)) : Int) - (53 : Int)), inR IntKind.i64 ((↑(Bn.bl (Bn.nat a)) : Int) - (53 : Int) + e), decide ((↑(Bn.bl (Bn.nat a)) : Int) - (53 : Int) + e < (-1074 : Int)) = true, inR IntKind.i64 ((-1074 : Int) - e), decide ((-1074 : Int) - e ≤ (0 : Int)) = true, a.length ≤ Bn.lim4, inR IntKind.i64 ((↑(Bn.norm a).length : Int) - (1 : Int)), LoopTo Try.prog (loopAt Try.f89 0) { n := 113, fr := [(1, AV.v (.int .i64 e)), (7, AV.v (.float FloatKind.f64 0)), (8, AV.sl 1 (.ints .u32 (Bn.norm a)) false), (9, AV.v (.int .i64 ((↑(Bn.norm a).length : Int) - (1 : Int))))], hp := [], nx := 0 } (Exit.exit 0) { n := 113, fr := [(1, AV.v (.int .i64 e)), (7, AV.fl FloatKind.f64 m)], hp := [], nx := 0 }, W m, (-4611686018427387904 : Int) ≤ e, e ≤ (4611686018427387904 : Int), ¬nanB FloatKind.f64 m]) : PureTo Try.prog 89 [.sl 1 (.ints .u32 a) ta, .v (.int .i64 e)] (AV.fl FloatKind.f64 (ldexpW m e)) :=
  evFn_pure hm soM7 (fn := Try.f89) rfl rfl (ti := false) (hs := [CHint.ops 2 [(1, Hint.b false)], CHint.ops 4 [(3, Hint.b false)], CHint.ops 7 [(3, Hint.b true)], CHint.ops 9 [(1, Hint.b true)], CHint.loop [1, 7, 8, 9] [] 0 (Exit.exit 0) { n := 113, fr := [(1, AV.v (.int .i64 e)), (7, AV.fl FloatKind.f64 m)], hp := [], nx := 0 }]) (c := _) (by kernel_rfl) h

theorem nearFF21 (a : List Int) (ta : Bool) (e : Int) (m : Nat) (h : AllP [Bn.Words a, a.length ≤ Bn.lim4, ((↑(Bn.bl (Bn.nat a)) : Int) == (0 : Int)) = false, inR IntKind.i64 ((↑(Bn.bl (Bn.nat a)) : Int) + e), decide ((↑(Bn.bl (Bn.nat a)) : Int) + e > (1024 : Int)) = false, inR IntKind.i64 ((↑(Bn.bl (Bn.nat a)) : Int) - (53 : Int)), inR IntKind.i64 ((↑(Bn.bl (Bn.nat a)) : Int) - (53 : Int) + e), decide ((↑(Bn.bl (Bn.nat a)) : Int) - (53 : Int) + e < (-1074 : Int)) = false, decide ((↑(Bn.bl (Bn.nat a)) : Int) - (53 : Int) ≤ (0 : Int)) = true, a.length ≤ Bn.lim4, inR IntKind.i64 ((↑(Bn.norm a).length : Int) - (1 : Int)), LoopTo Try.prog (loopAt Try.f89 0) { n := 113, fr := [(1, AV.v (.int .i64 e)), (7, AV.v (.float FloatKind.f64 0)), (8, AV.sl 1 (.ints .u32 (Bn.norm a)) false), (9, AV.v (.int .i64 ((↑(Bn.norm a).length : Int) - (1 : Int))))], hp := [], nx := 0 } (Exit.exit 0) { n := 113, fr := [(1, AV.v (.int .i64 e)), (7, AV.fl FloatKind.f64 m)], hp := [], nx := 0 }, W m, (-4611686018427387904 : Int) ≤ e, e ≤ (4611686018427387904 : Int), ¬nanB FloatKind.f64 m]) : PureTo Try.prog 89 [.sl 1 (.ints .u32 a) ta, .v (.int .i64 e)] (AV.fl FloatKind.f64 (ldexpW m e)) :=
  evFn_pure hm soM7 (fn := Try.f89) rfl rfl (ti := false) (hs := [CHint.ops 2 [(1, Hint.b false)], CHint.ops 4 [(3, Hint.b false)], CHint.ops 7 [(3, Hint.b false)], CHint.ops 9 [(1, Hint.b true)], CHint.loop [1, 7, 8, 9] [] 0 (Exit.exit 0) { n := 113, fr := [(1, AV.v (.int .i64 e)), (7, AV.fl FloatKind.f64 m)], hp := [], nx := 0 }]) (c := _) (by kernel_rfl) h

set_option exponentiation.threshold 2200

theorem mul_pow_eq {x y a b a' b' : Nat} (h : x * 2 ^ a = y * 2 ^ b) (hab : (a : Int) - b = a' - b') : x * 2 ^ a' = y * 2 ^ b' := by
  have h1 := mul_pow_le (x := x) (y := y) (a := a) (b := b) (q := 0) (p := a') (d := b') (by rw [Nat.zero_add]; exact Nat.le_of_eq h) (by omega)
  have h2 := mul_pow_ge (x := x) (y := y) (a := a) (b := b) (q := 0) (p := a') (d := b') (by rw [Nat.zero_add]; exact Nat.le_of_eq h.symm) (by omega)
  omega

theorem pow_lt_of {x y a b : Nat} (hx : 2 ^ a ≤ x) (hy : x < 2 ^ b) : a < b := by
  rcases Nat.lt_or_ge a b with h | h
  · exact h
  · have := Nat.pow_le_pow_right (n := 2) (by decide) h; omega

/-- LDEXP of a normal number, where it is exact -/
theorem ldexp_I {x E m : Nat} (hx : Fit x) (h0 : rg x ≠ 0) (h : Norm x E m 0) (k : Int) (p q r : Nat) (hk : k = (p : Int) - q) (hr : r < 9218868437227405312) (hr0 : r ≠ 0) (hv : valN (rg x) * 2 ^ p = valN r * 2 ^ q) : ldexpW x k = wordOf (sg x) r := by
  have hn := h.rgN
  obtain ⟨e1, e2⟩ := wordOf_parts (s := sg x) h.hi h.dig
  have hword : FWord (wordOf (sg x) (E * 4503599627370496 + m)) := word_wordOf (Nat.le_of_lt hn)
  have hlo := h.lo
  have hhi := h.hi
  have hdig := h.dig
  have e52 : (2 : Nat) ^ 52 = 4503599627370496 := by decide
  have e53 : (2 : Nat) ^ 53 = 9007199254740992 := by decide
  have hval : valN (rg x) = (4503599627370496 + m) * 2 ^ (E - 1) := by
    rcases h.val with ⟨_, h2⟩ | ⟨h1, _⟩
    · exact absurd h2 (by decide)
    · exact h1
  rw [hval, Nat.mul_assoc, ← Nat.pow_add] at hv
  have hpos : 1 ≤ valN r := by
    have := valN_lt (show 0 < r by omega)
    rw [valN_zero] at this
    exact this
  have up : E - 1 + p < 2046 + q := by
    have a1 : 2 ^ (52 + (E - 1 + p)) ≤ (4503599627370496 + m) * 2 ^ (E - 1 + p) := by rw [Nat.pow_add, e52]; exact Nat.mul_le_mul_right _ (by omega)
    have a2 : valN r * 2 ^ q < 2 ^ (52 + (2046 + q)) := by
      have := Nat.mul_lt_mul_of_pos_right (valN_bound hr) (Nat.two_pow_pos q)
      rw [← Nat.pow_add, ← Nat.pow_add] at this
      rw [show 52 + (2046 + q) = 53 + 2045 + q by omega]
      exact this
    have := pow_lt_of (y := 0) a1 (by rw [hv]; exact a2)
    omega
  have low : q < 53 + (E - 1 + p) := by
    have a1 : 2 ^ q ≤ valN r * 2 ^ q := Nat.le_mul_of_pos_left _ hpos
    have a2 : (4503599627370496 + m) * 2 ^ (E - 1 + p) < 2 ^ (53 + (E - 1 + p)) := by rw [Nat.pow_add 2 53, e53]; exact Nat.mul_lt_mul_of_pos_right (by omega) (Nat.two_pow_pos _)
    exact pow_lt_of (y := 0) a1 (by rw [← hv]; exact a2)
  have hset : ∀ F : Nat, F < 2048 → setE (wordOf (sg x) (E * 4503599627370496 + m)) (F : Int) = wordOf (sg x) (F * 4503599627370496 + m) := by
    intro F hF
    unfold setE
    have h9 : ((F : Int) % (18446744073709551616 : Int) * (4503599627370496 : Int)) = ((F * 4503599627370496 : Nat) : Int) := by omega
    rw [h9, exp_word hword hF, e2, sg_wordOf (Nat.le_of_lt hn)]
  unfold ldexpW
  simp only [notZero hx h0, notInf hx, isNaN_num.2 hx.num, Bool.false_eq_true, if_false]
  rw [h.ne, h.nw, e1, if_neg (by omega), if_neg (by omega)]
  by_cases hsmall : k + 0 + ((E : Int) - 1023) < -1022
  · rw [if_pos hsmall]
    obtain ⟨F, hF⟩ : ∃ F : Nat, k + 0 + ((E : Int) - 1023) + 53 + 1023 = F := ⟨(k + 0 + ((E : Int) - 1023) + 53 + 1023).toNat, by omega⟩
    rw [hF, hset F (by omega)]
    have hrF : F * 4503599627370496 + m < 9218868437227405312 := lt_inf (by omega) hdig
    have hfit : Fit (wordOf (sg x) (F * 4503599627370496 + m)) := fit_word hrF
    have hc : Fit 4368491638549381120 := by decide
    have hvF := (valN_normal (E := F) (m := m) (by omega) hdig).1
    have f1 : sigM (rg 4368491638549381120) = 2 ^ 52 := by decide
    have f2 : sigK (rg 4368491638549381120) = 969 := by decide
    have f : valN (rg 4368491638549381120) = 2 ^ 1021 := by unfold valN; rw [f1, f2, ← Nat.pow_add]
    have hz := mul_pow_eq (a' := F - 1 + 1021) (b' := 1074) hv (by omega)
    rw [fmul_exact hc hfit (Nat.le_of_lt hr), show sg 4368491638549381120 = false by decide, sg_wordOf (Nat.le_of_lt hrF), Bool.false_xor]
    rw [rg_wordOf (Nat.le_of_lt hrF), hvF, f]
    unfold U
    rw [← hz, Nat.pow_add]
    ac_rfl
  · rw [if_neg hsmall]
    obtain ⟨F, hF⟩ : ∃ F : Nat, k + 0 + ((E : Int) - 1023) + 1023 = F := ⟨(k + 0 + ((E : Int) - 1023) + 1023).toNat, by omega⟩
    rw [hF, hset F (by omega)]
    have hrF : F * 4503599627370496 + m < 9218868437227405312 := lt_inf (by omega) hdig
    have hfit : Fit (wordOf (sg x) (F * 4503599627370496 + m)) := fit_word hrF
    have hone : Fit 4607182418800017408 := by decide
    have hvF := (valN_normal (E := F) (m := m) (by omega) hdig).1
    have hz := mul_pow_eq (a' := F - 1) (b' := 0) hv (by omega)
    rw [Nat.pow_zero, Nat.mul_one] at hz
    have hreq : F * 4503599627370496 + m = r := valN_inj.1 (by rw [hvF, hz])
    rw [fmul_exact hone hfit (Nat.le_of_lt hr), show sg 4607182418800017408 = false by decide, sg_wordOf (Nat.le_of_lt hrF), Bool.false_xor]
    rw [rg_wordOf (Nat.le_of_lt hrF), hreq, show rg 4607182418800017408 = oneR by decide, valN_one, Nat.mul_comm]

theorem dig_get (n : Nat) : ∀ j, (dig n).getD j 0 = ((n / 4294967296 ^ j % 4294967296 : Nat) : Int) := by
  intro j
  induction j generalizing n with
  | zero => rw [Nat.pow_zero, Nat.div_one]; exact dig_first n
  | succ j ih =>
    by_cases h : n = 0
    · subst h; rw [dig_zero, Nat.zero_div]; rfl
    · rw [dig_pos h, List.getD_cons_succ, ih, Nat.div_div_eq_div_mul, ← Nat.pow_succ']

/-- the float of a small natural, word by word -/
theorem near_loop (a : List Int) (ta : Bool) (e : Int) (n : Nat) (hn : n < 9007199254740992) (ha : Bn.norm a = dig n) : ∀ i s : Nat, i ≤ (dig n).length → s < 9218868437227405312 → valN s = n / 4294967296 ^ i * U →
    ∃ s', s' < 9218868437227405312 ∧ valN s' = n * U ∧ LoopTo Try.prog (loopAt Try.f89 0) (nearFS0 a ta e (wordOf false s) ((i : Int) - 1)) (.exit 0) (nearFX0 a ta e (wordOf false s')) := by
  intro i
  induction i with
  | zero =>
    intro s hi hs hv
    rw [Nat.pow_zero, Nat.div_one] at hv
    exact ⟨s, hs, hv, LoopTo.done (by intro h; cases h) (nearFL0_2 a ta e (wordOf false s) _ ⟨decide_eq_false (by omega), trivial⟩)⟩
  | succ i ih =>
    intro s hi hs hv
    have hl := dig_small_len hn
    have ei : ((i + 1 : Nat) : Int) - 1 = (i : Int) := by omega
    rw [ei]
    have hdv : n / 4294967296 ^ i = n / 4294967296 ^ (i + 1) * 4294967296 + n / 4294967296 ^ i % 4294967296 := by
      rw [Nat.pow_succ, ← Nat.div_div_eq_div_mul]; omega
    have hle : n / 4294967296 ^ i ≤ n := Nat.div_le_self _ _
    generalize hQ : n / 4294967296 ^ (i + 1) = Q at *
    generalize hD : n / 4294967296 ^ i % 4294967296 = D at *
    have hDlt : D < 4294967296 := by rw [← hD]; exact Nat.mod_lt _ (by decide)
    -- the product
    obtain ⟨t, t1, t2⟩ := whole_rep (n := Q * 4294967296) (lt53 (by omega))
    have hmul : fmul (wordOf false s) 4751297606875873280 = wordOf false t := by
      have hc : (4751297606875873280 : Nat) = c32 := rfl
      rw [hc, fmul_exact (fit_word hs) fit_c32 (Nat.le_of_lt t1), sg_wordOf (Nat.le_of_lt hs), show sg c32 = false by decide]
      · rfl
      · rw [rg_wordOf (Nat.le_of_lt hs), hv, valN_c32, t2]; ac_rfl
    obtain ⟨d, d1, d2, d3⟩ := fofI_word (n := (D : Int)) (by omega)
    rw [decide_eq_false (show ¬ (D : Int) < 0 by omega), Int.natAbs_natCast] at *
    obtain ⟨u, u1, u2⟩ := whole_rep (n := Q * 4294967296 + D) (lt53 (by omega))
    have hadd : fadd (wordOf false t) (wordOf false d) = wordOf false u := by
      rw [fadd_V (fit_word t1) (fit_word d1), V_wordOf (Nat.le_of_lt t1), V_wordOf (Nat.le_of_lt d1), sv_pos, sv_pos, sg_wordOf (Nat.le_of_lt t1), Bool.false_and]
      have hs' : valN t + valN d = valN u := by rw [t2, d2, u2, Nat.add_mul]
      have e1 : ((valN t : Int) + (valN d : Int)).natAbs = valN u := by omega
      have e2 : ¬ ((valN t : Int) + (valN d : Int) < 0) := by omega
      rw [e1, rd_val (Nat.le_of_lt u1), decide_eq_false e2]
      simp
    have hstep := nearFL0_1 a ta e (wordOf false s) i ⟨decide_eq_true (by omega), by rw [ha]; omega, by simp only [inR]; omega, trivial⟩
    rw [ha, Int.toNat_natCast, dig_get, hD, hmul, d3, hadd, ← ha] at hstep
    obtain ⟨s', a1, a2, a3⟩ := ih u (by omega) u1 (by rw [u2, ← hdv])
    exact ⟨s', a1, a2, LoopTo.step hstep a3⟩

theorem near_begin {P : Program} {c : Code} {a : List Int} {ta : Bool} {k : Int} {x0 : Int} {r : Nat} {e : Exit} {A' : AS} (h : LoopTo P c (nearFS0 a ta k r x0) e A') :
    LoopTo P c { n := 113, fr := [(1, AV.v (.int .i64 k)), (7, AV.v (.float FloatKind.f64 r)), (8, AV.sl 1 (.ints .u32 (Bn.norm a)) false), (9, AV.v (.int .i64 x0))], hp := [], nx := 0 } e A' := by
  refine loop_closer (fun t x' ht => ?_) h
  rw [look_cons, look_cons, look_cons, look_cons] at ht ⊢
  by_cases h0 : 1 = t
  · rw [if_pos h0] at ht ⊢; cases ht; exact ⟨_, rfl, .same _⟩
  rw [if_neg h0] at ht ⊢
  by_cases h1 : 7 = t
  · rw [if_pos h1] at ht ⊢; cases ht; exact ⟨_, rfl, .fl _⟩
  rw [if_neg h1] at ht ⊢
  by_cases h5 : 8 = t
  · rw [if_pos h5] at ht ⊢; cases ht; exact ⟨_, rfl, .same _⟩
  rw [if_neg h5] at ht ⊢
  by_cases h6 : 9 = t
  · rw [if_pos h6] at ht ⊢; cases ht; exact ⟨_, rfl, .same _⟩
  rw [if_neg h6] at ht
  cases ht

/-- NEAR, where it is exact -/
theorem near_exact {n : Nat} (hn : n < 9007199254740992) (ta : Bool) {e : Int} (he : -1074 ≤ e) (he2 : e ≤ 100000) {r : Nat} (hr : r < 9218868437227405312) (hv : valN r = n * 2 ^ (e + 1074).toNat) :
    PureTo Try.prog 89 [.sl 1 (.ints .u32 (dig n)) ta, .v (.int .i64 e)] (.v (.float .f64 (wordOf false r))) := by
  have hw := words_dig n
  have hnorm : Bn.norm (dig n) = dig n := by rw [norm_eq hw, nat_dig]
  have hl := dig_small_len hn
  have hlim : (dig n).length ≤ lim4 := by unfold lim4; omega
  have f1 := nearFF1 (dig n) ta e 0
  have f3 := nearFF3 (dig n) ta e
  have f21 := nearFF21 (dig n) ta e
  rw [nat_dig] at f1
  simp only [nat_dig] at f3 f21
  by_cases h0 : n = 0
  · have hr0 : r = 0 := by
      rw [h0, Nat.zero_mul, ← valN_zero] at hv
      exact valN_inj.1 hv
    rw [hr0]
    exact f1 ⟨hw, hlim, by rw [h0]; rfl, trivial⟩
  · have hbl0 : bl n ≠ 0 := fun h => h0 (bl_zero.1 h)
    have hblle : bl n ≤ 53 := (bl_le n 53).2 (lt53 hn)
    have hnlow : 2 ^ (bl n - 1) ≤ n := by
      rcases Nat.lt_or_ge n (2 ^ (bl n - 1)) with h | h
      · have := (bl_le n (bl n - 1)).2 h; omega
      · exact h
    have hsum : (bl n : Int) + e ≤ 1024 := by
      have a1 : 2 ^ (bl n - 1 + (e + 1074).toNat) ≤ valN r := by rw [hv, Nat.pow_add]; exact Nat.mul_le_mul_right _ hnlow
      have a2 := valN_bound hr
      rw [← Nat.pow_add] at a2
      have := pow_lt_of (y := 0) a1 a2
      omega
    -- the float of n
    obtain ⟨s', s1, s2, s3⟩ := near_loop (dig n) ta e n hn hnorm (dig n).length 0 (Nat.le_refl _) (by decide) (by
      have : n / 4294967296 ^ (dig n).length = 0 := by
        have h1 := nat_lt hw
        rw [nat_dig] at h1
        exact Nat.div_eq_of_lt h1
      rw [this, Nat.zero_mul]; rfl)
    have hloop := near_begin s3
    have hxw : FWord (wordOf false s') := word_wordOf (Nat.le_of_lt s1)
    have hxf : Fit (wordOf false s') := fit_word s1
    have hx0 : rg (wordOf false s') ≠ 0 := by
      rw [rg_wordOf (Nat.le_of_lt s1)]
      intro h
      rw [h, valN_zero] at s2
      have := Nat.mul_pos (show 0 < n by omega) U_pos
      omega
    have hxbig : ¬ rg (wordOf false s') < 4503599627370496 := by
      rw [rg_wordOf (Nat.le_of_lt s1)]
      have : valN oneR ≤ valN s' := by rw [valN_one, s2]; exact Nat.le_mul_of_pos_left _ (by omega)
      have := valN_le_iff.1 this
      unfold oneR at this
      omega
    obtain ⟨E, m, c, hN⟩ := norm_of hxw hxf hx0
    have hc0 : c = 0 := by rw [← hN.ne, normE_eq hxf.num, if_neg hxbig]
    subst hc0
    have hr0 : r ≠ 0 := by
      intro h
      rw [h, valN_zero] at hv
      have := Nat.mul_pos (show 0 < n by omega) (Nat.two_pow_pos (e + 1074).toNat)
      omega
    have hld : ldexpW (wordOf false s') e = wordOf false r := by
      have := ldexp_I hxf hx0 hN e (e + 1074).toNat 1074 r (by omega) hr hr0 (by
        rw [rg_wordOf (Nat.le_of_lt s1), s2, hv]
        unfold U
        ac_rfl)
      rw [sg_wordOf (Nat.le_of_lt s1)] at this
      exact this
    have hb1 : (((bl n : Nat) : Int) == 0) = false := by rw [beq_eq_false_iff_ne]; omega
    have i1 : inR IntKind.i64 ((bl n : Int) + e) := by simp only [inR]; omega
    have i2 : inR IntKind.i64 ((bl n : Int) - 53) := by simp only [inR]; omega
    have i3 : inR IntKind.i64 ((bl n : Int) - 53 + e) := by simp only [inR]; omega
    have i4 : inR IntKind.i64 (((Bn.norm (dig n)).length : Int) - 1) := by rw [hnorm]; simp only [inR]; omega
    have hlen : ((Bn.norm (dig n)).length : Int) - 1 = ((dig n).length : Int) - 1 := by rw [hnorm]
    have hz0 : wordOf false 0 = 0 := rfl
    rw [hz0] at hloop
    have hfin : ∀ {f : FuncId} {ys : List AV}, PureTo Try.prog f ys (.fl .f64 (wordOf false r)) → PureTo Try.prog f ys (.v (.float .f64 (wordOf false r))) := fun h => h.ans (.num _ (num_iff.1 (num_word (Nat.le_of_lt hr))))
    have hnn : ¬ nanB .f64 (wordOf false s') := num_iff.1 hxf.num
    by_cases hcut : (bl n : Int) - 53 + e < -1074
    · have := f3 (wordOf false s') ⟨hw, hlim, hb1, i1, decide_eq_false (by omega), i2, i3, decide_eq_true hcut, by simp only [inR]; omega, decide_eq_true (by omega), hlim, i4, by rw [hlen]; exact hloop, hxw, by omega, by omega, hnn, trivial⟩
      rw [hld] at this
      exact hfin this
    · have := f21 (wordOf false s') ⟨hw, hlim, hb1, i1, decide_eq_false (by omega), i2, i3, decide_eq_false hcut, decide_eq_true (by omega), hlim, i4, by rw [hlen]; exact hloop, hxw, by omega, by omega, hnn, trivial⟩
      rw [hld] at this
      exact hfin this

set_option exponentiation.threshold 2200

def nearW (n : Nat) (e : Int) : Nat := wordOf false (rungOf n e)

def NearOK (n : Nat) (e : Int) : Prop := n < 9007199254740992 ∧ -1074 ≤ e ∧ e ≤ 100000 ∧ ∃ r, r < 9218868437227405312 ∧ valN r = n * 2 ^ (e + 1074).toNat

def sigNear : List AV → Option (AV × List Prop)
  | [.sl 1 (.ints .u32 a) _, .v (.int .i64 e)] => some (.v (.float .f64 (nearW (Bn.nat a) e)), [a = Bn.dig (Bn.nat a), NearOK (Bn.nat a) e])
  | _ => none

theorem sigNear_ok : ∀ ys r c, sigNear ys = some (r, c) → AllP c → PureTo Try.prog 89 ys r := by
  intro ys r c hs hc
  unfold sigNear at hs
  split at hs
  · next a t e =>
    cases hs
    obtain ⟨h1, ⟨h2, h3, h4, r, h5, h6⟩, _⟩ := hc
    have := near_exact h2 t h3 h4 h5 h6
    rw [← h1] at this
    have hr : nearW (Bn.nat a) e = wordOf false r := by
      unfold nearW
      rw [rung_exact (a := (e + 1074).toNat) (b := 0) (Nat.le_of_lt h5) (by omega) (by rw [h6, Nat.pow_zero, Nat.mul_one])]
    rw [hr]
    exact this
  · cases hs

def SMB : SGT := (89, .p sigNear) :: SM7

theorem soMB : SigsOK Try.prog SMB := sigs_cons soM7 sigNear_ok

theorem rrest1 (x y : Nat) (h : AllP [fin x = true, isNaN y = true]) : PureTo Try.prog 74 [.v (.float .f64 x), .v (.float .f64 y)] (AV.v (.float FloatKind.f64 9221120237041090560)) :=
  evFn_pure hm soMB (fn := Try.f74) rfl rfl (ti := false) (hs := [CHint.ops 1 [(1, Hint.b true), (5, Hint.b true)]]) (c := _) (by kernel_rfl) h

theorem rrest2 (x y : Nat) (h : AllP [fin x = true, isNaN y = false, feq FloatKind.f64 y 0 = true]) : PureTo Try.prog 74 [.v (.float .f64 x), .v (.float .f64 y)] (AV.v (.float FloatKind.f64 9221120237041090560)) :=
  evFn_pure hm soMB (fn := Try.f74) rfl rfl (ti := false) (hs := [CHint.ops 1 [(1, Hint.b true), (5, Hint.b false), (9, Hint.b true)]]) (c := _) (by kernel_rfl) h

theorem rrest3 (x y : Nat) (h : AllP [fin x = true, isNaN y = false, feq FloatKind.f64 y 0 = false, isInf y (0 : Int) = true]) : PureTo Try.prog 74 [.v (.float .f64 x), .v (.float .f64 y)] (AV.v (.float FloatKind.f64 x)) :=
  evFn_pure hm soMB (fn := Try.f74) rfl rfl (ti := false) (hs := [CHint.ops 1 [(1, Hint.b true), (5, Hint.b false), (9, Hint.b false)], CHint.ops 3 [(1, Hint.b true)]]) (c := _) (by kernel_rfl) h

theorem rrest4 (x y : Nat) (h : AllP [fin x = true, isNaN y = false, feq FloatKind.f64 y 0 = false, isInf y (0 : Int) = false, feq FloatKind.f64 x 0 = true]) : PureTo Try.prog 74 [.v (.float .f64 x), .v (.float .f64 y)] (AV.v (.float FloatKind.f64 x)) :=
  evFn_pure hm soMB (fn := Try.f74) rfl rfl (ti := false) (hs := [CHint.ops 1 [(1, Hint.b true), (5, Hint.b false), (9, Hint.b false)], CHint.ops 3 [(1, Hint.b false), (4, Hint.b true)]]) (c := _) (by kernel_rfl) h

theorem rrest5 (x y : Nat) (h : AllP [fin x = true, isNaN y = false, feq FloatKind.f64 y 0 = false, isInf y (0 : Int) = false, feq FloatKind.f64 x 0 = false, FWord (abs x), Fit (abs x), sg (abs x) = false, FWord (abs y), Fit (abs y), sg (abs y) = false, decide (pe (abs y) < pe (abs x)) = true, inR IntKind.i64 (pe (abs x) - pe (abs y)), Bn.Words (Bn.dig (pm (abs x))), (0 : Int) ≤ pe (abs x) - pe (abs y), pe (abs x) - pe (abs y) + (↑(Bn.dig (pm (abs x))).length : Int) + (2 : Int) ≤ (1000000000000 : Int), inR IntKind.i64 (pe (abs y) - pe (abs y)), Bn.Words (Bn.dig (pm (abs y))), (0 : Int) ≤ pe (abs y) - pe (abs y), pe (abs y) - pe (abs y) + (↑(Bn.dig (pm (abs y))).length : Int) + (2 : Int) ≤ (1000000000000 : Int), Bn.Words (Bn.dig (Bn.nat (Bn.dig (pm (abs x))) * 2 ^ (pe (abs x) - pe (abs y)).toNat)), Bn.dig (Bn.nat (Bn.dig (pm (abs y))) * 2 ^ (pe (abs y) - pe (abs y)).toNat) = Bn.dig (Bn.nat (Bn.dig (Bn.nat (Bn.dig (pm (abs y))) * 2 ^ (pe (abs y) - pe (abs y)).toNat))), 0 < Bn.nat (Bn.dig (Bn.nat (Bn.dig (pm (abs y))) * 2 ^ (pe (abs y) - pe (abs y)).toNat)), (Bn.dig (Bn.nat (Bn.dig (pm (abs x))) * 2 ^ (pe (abs x) - pe (abs y)).toNat)).length ≤ 2000, (Bn.dig (Bn.nat (Bn.dig (pm (abs y))) * 2 ^ (pe (abs y) - pe (abs y)).toNat)).length ≤ 2000, Bn.dig (Bn.nat (Bn.dig (Bn.nat (Bn.dig (pm (abs x))) * 2 ^ (pe (abs x) - pe (abs y)).toNat)) % Bn.nat (Bn.dig (Bn.nat (Bn.dig (pm (abs y))) * 2 ^ (pe (abs y) - pe (abs y)).toNat))) = Bn.dig (Bn.nat (Bn.dig (Bn.nat (Bn.dig (Bn.nat (Bn.dig (pm (abs x))) * 2 ^ (pe (abs x) - pe (abs y)).toNat)) % Bn.nat (Bn.dig (Bn.nat (Bn.dig (pm (abs y))) * 2 ^ (pe (abs y) - pe (abs y)).toNat))))), NearOK (Bn.nat (Bn.dig (Bn.nat (Bn.dig (Bn.nat (Bn.dig (pm (abs x))) * 2 ^ (pe (abs x) - pe (abs y)).toNat)) % Bn.nat (Bn.dig (Bn.nat (Bn.dig (pm (abs y))) * 2 ^ (pe (abs y) - pe (abs y)).toNat))))) (pe (abs y))]) : PureTo Try.prog 74 [.v (.float .f64 x), .v (.float .f64 y)] (AV.v (.float FloatKind.f64 (cs (nearW (Bn.nat (Bn.dig (Bn.nat (Bn.dig (Bn.nat (Bn.dig (pm (abs x))) * 2 ^ (pe (abs x) - pe (abs y)).toNat)) % Bn.nat (Bn.dig (Bn.nat (Bn.dig (pm (abs y))) * 2 ^ (pe (abs y) - pe (abs y)).toNat))))) (pe (abs y))) x))) :=
  evFn_pure hm soMB (fn := Try.f74) rfl rfl (ti := false) (hs := [CHint.ops 1 [(1, Hint.b true), (5, Hint.b false), (9, Hint.b false)], CHint.ops 3 [(1, Hint.b false), (4, Hint.b false)], CHint.ops 8 [(2, Hint.b true)]]) (c := _) (by kernel_rfl) h

theorem rrest6 (x y : Nat) (h : AllP [fin x = true, isNaN y = false, feq FloatKind.f64 y 0 = false, isInf y (0 : Int) = false, feq FloatKind.f64 x 0 = false, FWord (abs x), Fit (abs x), sg (abs x) = false, FWord (abs y), Fit (abs y), sg (abs y) = false, decide (pe (abs y) < pe (abs x)) = false, inR IntKind.i64 (pe (abs x) - pe (abs x)), Bn.Words (Bn.dig (pm (abs x))), (0 : Int) ≤ pe (abs x) - pe (abs x), pe (abs x) - pe (abs x) + (↑(Bn.dig (pm (abs x))).length : Int) + (2 : Int) ≤ (1000000000000 : Int), inR IntKind.i64 (pe (abs y) - pe (abs x)), Bn.Words (Bn.dig (pm (abs y))), (0 : Int) ≤ pe (abs y) - pe (abs x), pe (abs y) - pe (abs x) + (↑(Bn.dig (pm (abs y))).length : Int) + (2 : Int) ≤ (1000000000000 : Int), Bn.Words (Bn.dig (Bn.nat (Bn.dig (pm (abs x))) * 2 ^ (pe (abs x) - pe (abs x)).toNat)), Bn.dig (Bn.nat (Bn.dig (pm (abs y))) * 2 ^ (pe (abs y) - pe (abs x)).toNat) = Bn.dig (Bn.nat (Bn.dig (Bn.nat (Bn.dig (pm (abs y))) * 2 ^ (pe (abs y) - pe (abs x)).toNat))), 0 < Bn.nat (Bn.dig (Bn.nat (Bn.dig (pm (abs y))) * 2 ^ (pe (abs y) - pe (abs x)).toNat)), (Bn.dig (Bn.nat (Bn.dig (pm (abs x))) * 2 ^ (pe (abs x) - pe (abs x)).toNat)).length ≤ 2000, (Bn.dig (Bn.nat (Bn.dig (pm (abs y))) * 2 ^ (pe (abs y) - pe (abs x)).toNat)).length ≤ 2000, Bn.dig (Bn.nat (Bn.dig (Bn.nat (Bn.dig (pm (abs x))) * 2 ^ (pe (abs x) - pe (abs x)).toNat)) % Bn.nat (Bn.dig (Bn.nat (Bn.dig (pm (abs y))) * 2 ^ (pe (abs y) - pe (abs x)).toNat))) = Bn.dig (Bn.nat (Bn.dig (Bn.nat (Bn.dig (Bn.nat (Bn.dig (pm (abs x))) * 2 ^ (pe (abs x) - pe (abs x)).toNat)) % Bn.nat (Bn.dig (Bn.nat (Bn.dig (pm (abs y))) * 2 ^ (pe (abs y) - pe (abs x)).toNat))))), NearOK (Bn.nat (Bn.dig (Bn.nat (Bn.dig (Bn.nat (Bn.dig (pm (abs x))) * 2 ^ (pe (abs x) - pe (abs x)).toNat)) % Bn.nat (Bn.dig (Bn.nat (Bn.dig (pm (abs y))) * 2 ^ (pe (abs y) - pe (abs x)).toNat))))) (pe (abs x))]) : PureTo Try.prog 74 [.v (.float .f64 x), .v (.float .f64 y)] (AV.v (.float FloatKind.f64 (cs (nearW (Bn.nat (Bn.dig (Bn.nat (Bn.dig (Bn.nat (Bn.dig (pm (abs x))) * 2 ^ (pe (abs x) - pe (abs x)).toNat)) % Bn.nat (Bn.dig (Bn.nat (Bn.dig (pm (abs y))) * 2 ^ (pe (abs y) - pe (abs x)).toNat))))) (pe (abs x))) x))) :=
  evFn_pure hm soMB (fn := Try.f74) rfl rfl (ti := false) (hs := [CHint.ops 1 [(1, Hint.b true), (5, Hint.b false), (9, Hint.b false)], CHint.ops 3 [(1, Hint.b false), (4, Hint.b false)], CHint.ops 8 [(2, Hint.b false)]]) (c := _) (by kernel_rfl) h

theorem rrest7 (x y : Nat) (h : AllP [fin x = false]) : PureTo Try.prog 74 [.v (.float .f64 x), .v (.float .f64 y)] (AV.v (.float FloatKind.f64 9221120237041090560)) :=
  evFn_pure hm soMB (fn := Try.f74) rfl rfl (ti := false) (hs := [CHint.ops 1 [(1, Hint.b false)]]) (c := _) (by kernel_rfl) h

set_option exponentiation.threshold 100000

theorem dig_pow_len {A k : Nat} (hA : A < 9007199254740992) (hk : k ≤ 10000) : (dig (A * 2 ^ k)).length ≤ 2000 := by
  rcases Nat.lt_or_ge 2000 (dig (A * 2 ^ k)).length with h | h
  · exfalso
    rw [dig_len] at h
    have a1 : 2 ^ 64000 ≤ A * 2 ^ k := by
      refine Nat.le_trans (Nat.le_of_eq ?_) h
      rw [show (4294967296 : Nat) = 2 ^ 32 from rfl, ← Nat.pow_mul]
    have a2 : A * 2 ^ k < 2 ^ (53 + k) := by rw [Nat.pow_add]; exact Nat.mul_lt_mul_of_pos_right (lt53 hA) (Nat.two_pow_pos _)
    have := pow_lt_of (y := 0) a1 a2
    omega
  · exact h

theorem mod_exact {x y : Nat} (hx : Fit x) (hy : Fit y) (hy0 : rg y ≠ 0) : ∃ s, s < 9218868437227405312 ∧ valN s = valN (rg x) % valN (rg y) := by
  obtain ⟨s', a1, a2, _⟩ := mod_loop (x := x) hy hy0 (valN (rg x)) (rg x) rfl hx
  exact ⟨s', a1, a2⟩

theorem mod_scale {A B n m p q k : Nat} (hx : A * 2 ^ p = n) (hy : B * 2 ^ q = m) (hpq : p = q + k) : n % m = A * 2 ^ k % B * 2 ^ q := by
  subst hpq
  rw [← hx, ← hy, Nat.add_comm, Nat.pow_add, ← Nat.mul_assoc, Nat.mul_mod_mul_right]

theorem mod_scale2 {A B n m p q k : Nat} (hx : A * 2 ^ p = n) (hy : B * 2 ^ q = m) (hpq : q = p + k) : n % m = A % (B * 2 ^ k) * 2 ^ p := by
  subst hpq
  rw [← hx, ← hy, Nat.add_comm, Nat.pow_add, ← Nat.mul_assoc, Nat.mul_mod_mul_right]

theorem cs_near {x s n : Nat} {e : Int} (hs : s < 9218868437227405312) (he : 0 ≤ e + 1074) (h : valN s = n * 2 ^ (e + 1074).toNat) : cs (nearW n e) x = wordOf (sg x) s := by
  have : nearW n e = wordOf false s := by
    unfold nearW
    rw [rung_exact (a := (e + 1074).toNat) (b := 0) (Nat.le_of_lt hs) (by omega) (by rw [h, Nat.pow_zero, Nat.mul_one])]
  rw [cs_word, this, rg_wordOf (Nat.le_of_lt hs)]

theorem rrest_c {x y : Nat} (hxw : FWord x) (hyw : FWord y) : PureTo Try.prog 74 [.v (.float .f64 x), .v (.float .f64 y)] (.v (.float .f64 (toldW (modW x y)))) := by
  have hnan : ¬ Num modNaN := by unfold Num; decide
  by_cases hbad : ¬ Fit x ∨ ¬ Num y ∨ rg y = 0
  · have e : toldW (modW x y) = 9221120237041090560 := by unfold modW; rw [if_pos hbad, toldW_nan hnan]; rfl
    rw [e]
    cases h1 : fin x with
    | false => exact rrest7 x y ⟨h1, trivial⟩
    | true =>
      cases h2 : isNaN y with
      | true => exact rrest1 x y ⟨h1, h2, trivial⟩
      | false =>
        have n2 := isNaN_num.1 h2
        rcases hbad with h | h | h
        · exact (h (fin_iff.1 h1)).elim
        · exact (h n2).elim
        · exact rrest2 x y ⟨h1, h2, by rw [feq_V n2 fin_zero.num, V_null, decide_eq_true (V_zero.2 h)], trivial⟩
  · have hx : Fit x := Classical.not_not.1 fun h => hbad (.inl h)
    have hny : Num y := Classical.not_not.1 fun h => hbad (.inr (.inl h))
    have hy0 : rg y ≠ 0 := fun h => hbad (.inr (.inr h))
    have hmod : modW x y = modR x y := by unfold modW; rw [if_neg hbad]
    rw [hmod]
    have h1 := fin_iff.2 hx
    have h2 := isNaN_num.2 hny
    have h3 : feq .f64 y 0 = false := by rw [feq_V hny fin_zero.num, V_null, decide_eq_false]; rw [V_zero]; exact hy0
    by_cases hyi : rg y = 9218868437227405312
    · have e : toldW (modR x y) = x := by unfold modR; rw [if_pos hyi, toldW_num hx.num]
      rw [e]
      exact rrest3 x y ⟨h1, h2, h3, by rw [isInf_eq, decide_eq_true hyi], trivial⟩
    · have hy : Fit y := by unfold Fit; unfold Num at hny; omega
      have h4 := notInf hy
      obtain ⟨s, s1, s2⟩ := mod_exact hx hy hy0
      have e : toldW (modR x y) = wordOf (sg x) s := by
        unfold modR
        rw [if_neg hyi, ← s2, rd_val (Nat.le_of_lt s1), toldW_num (num_word (Nat.le_of_lt s1))]
      rw [e]
      by_cases hx0 : rg x = 0
      · have hs0 : s = 0 := by
          rw [hx0, valN_zero, Nat.zero_mod, ← valN_zero] at s2
          exact valN_inj.1 s2
        have ex : wordOf (sg x) s = x := by rw [hs0, ← hx0]; exact (wordOf_of hxw).symm
        rw [ex]
        exact rrest4 x y ⟨h1, h2, h3, h4, by rw [feq_V hx.num fin_zero.num, V_null, decide_eq_true (V_zero.2 hx0)], trivial⟩
      · have h5 := notZero hx hx0
        have hax : abs x = wordOf false (rg x) := abs_word x
        have hay : abs y = wordOf false (rg y) := abs_word y
        have xa : Fit (abs x) := by rw [hax]; exact fit_word hx
        have ya : Fit (abs y) := by rw [hay]; exact fit_word hy
        have xw : FWord (abs x) := by rw [hax]; exact word_wordOf (Nat.le_of_lt hx)
        have yw : FWord (abs y) := by rw [hay]; exact word_wordOf (Nat.le_of_lt hy)
        have xs : sg (abs x) = false := by rw [hax]; exact sg_wordOf (Nat.le_of_lt hx)
        have ys : sg (abs y) = false := by rw [hay]; exact sg_wordOf (Nat.le_of_lt hy)
        obtain ⟨p1, p2, p3, _⟩ := pm_val (abs x)
        obtain ⟨q1, q2, q3, _⟩ := pm_val (abs y)
        rw [rg_abs] at p2 q2
        have pe_hi : ∀ z, Fit z → pe (abs z) ≤ 1100 := by
          intro z hz
          unfold pe
          split
          · decide
          · have a1 := strip_le 53 (sigM (rg (abs z)))
            have a2 := sig_parts (rg (abs z))
            rw [rg_abs] at a1 a2 ⊢
            unfold Fit at hz
            omega
        have xe := pe_hi x hx
        have ye := pe_hi y hy
        have hBpos : 0 < pm (abs y) := by
          rcases Nat.eq_zero_or_pos (pm (abs y)) with h | h
          · rw [h, Nat.zero_mul] at q2
            have := valN_lt (show 0 < rg y by omega)
            rw [valN_zero] at this
            omega
          · exact h
        have r5 := rrest5 x y
        have r6 := rrest6 x y
        simp only [nat_dig] at r5 r6
        generalize pm (abs x) = A at *
        generalize pm (abs y) = B at *
        generalize pe (abs x) = e at *
        generalize pe (abs y) = f at *
        have hlA := dig_small_len p3
        have hlB := dig_small_len q3
        by_cases hfe : f < e
        · obtain ⟨k, hk⟩ : ∃ k : Nat, (e - f) = k := ⟨(e - f).toNat, by omega⟩
          have hkn : (e - f).toNat = k := by omega
          have hff : f - f = 0 := by omega
          have hz : (0 : Int).toNat = 0 := rfl
          rw [hkn, hk, hff, hz, Nat.pow_zero, Nat.mul_one] at r5
          have hR := mod_scale (k := k) p2 q2 (by omega)
          have hs := s2.trans hR
          rw [cs_near s1 q1 hs] at r5
          have hRlt : A * 2 ^ k % B < 9007199254740992 := Nat.lt_trans (Nat.mod_lt _ hBpos) q3
          exact r5 ⟨h1, h2, h3, h4, h5, xw, xa, xs, yw, ya, ys, decide_eq_true hfe, by simp only [inR]; omega, words_dig _, by omega, by omega, by simp only [inR]; omega, words_dig _, by omega, by omega, words_dig _, trivial, hBpos, dig_pow_len p3 (by omega), by omega, trivial, ⟨hRlt, by omega, by omega, s, s1, hs⟩, trivial⟩
        · obtain ⟨k, hk⟩ : ∃ k : Nat, (f - e) = k := ⟨(f - e).toNat, by omega⟩
          have hkn : (f - e).toNat = k := by omega
          have hff : e - e = 0 := by omega
          have hz : (0 : Int).toNat = 0 := rfl
          rw [hkn, hk, hff, hz, Nat.pow_zero, Nat.mul_one] at r6
          have hR := mod_scale2 (k := k) p2 q2 (by omega)
          have hs := s2.trans hR
          rw [cs_near s1 p1 hs] at r6
          have hRlt : A % (B * 2 ^ k) < 9007199254740992 := Nat.lt_of_le_of_lt (Nat.mod_le _ _) p3
          exact r6 ⟨h1, h2, h3, h4, h5, xw, xa, xs, yw, ya, ys, decide_eq_false hfe, by simp only [inR]; omega, words_dig _, by omega, by omega, by simp only [inR]; omega, words_dig _, by omega, by omega, words_dig _, trivial, Nat.mul_pos hBpos (Nat.two_pow_pos _), by omega, dig_pow_len q3 (by omega), trivial, ⟨hRlt, by omega, by omega, s, s1, hs⟩, trivial⟩

def SMC : SGT := (74, .p (sigWW fun x y => .v (.float .f64 (toldW (modW x y))))) :: (73, .p sigBin) :: SMB

theorem soMC : SigsOK Try.prog SMC := cons_WW (fun x y => .v (.float .f64 (toldW (modW x y)))) (sigs_cons soMB sigBin_ok) fun x y a b => rrest_c a b

theorem bytes_loop (bs : ByteArray) : ∀ n i (r : List UInt8), bs.size - i = n → ByteArray.toList.loop bs i r = r.reverse ++ bs.data.toList.drop i := by
  intro n
  induction n with
  | zero =>
    intro i r h
    rw [ByteArray.toList.loop]
    have h1 : ¬ i < bs.size := by omega
    rw [if_neg h1]
    have h2 : bs.data.toList.length ≤ i := by
      show bs.data.toList.length ≤ i
      rw [Array.length_toList]
      have : bs.size = bs.data.size := rfl
      omega
    rw [List.drop_eq_nil_of_le h2, List.append_nil]
  | succ n ih =>
    intro i r h
    rw [ByteArray.toList.loop]
    have h1 : i < bs.size := by omega
    rw [if_pos h1, ih (i + 1) _ (by omega)]
    have h2 : i < bs.data.toList.length := by
      rw [Array.length_toList]
      exact h1
    rw [List.drop_eq_getElem_cons h2, List.reverse_cons, List.append_assoc]
    congr 1
    show [bs.get! i] ++ _ = _
    have h3 : i < bs.data.size := h1
    have : bs.get! i = bs.data.toList[i] := by
      show bs.data[i]! = _
      rw [getElem!_pos bs.data i h3, Array.getElem_toList]
    rw [this]
    rfl

theorem bytes_list (bs : ByteArray) : bs.toList = bs.data.toList := by
  show ByteArray.toList.loop bs 0 [] = _
  rw [bytes_loop bs _ 0 [] rfl]
  rfl

theorem bytes_ne {s t : ByteArray} (h : t ≠ s) : (s.toList == t.toList) = false := by
  rw [beq_eq_false_iff_ne]
  intro h2
  rw [bytes_list, bytes_list] at h2
  apply h
  cases s
  cases t
  simp only at h2
  congr 1
  exact (Array.toList_inj.1 h2).symm

end Go.Proofs.Mf

/- Functions of mathematics: walks, written by the tool. -/
set_option maxRecDepth 100000
namespace Go.Proofs.Mf
open Go Go.Ev

-- 1 paths
theorem of1 (n : Nat) (h : AllP []) : PureTo Try.prog 38 [.v (.int .u64 n)] (AV.v (.float FloatKind.f64 (↑n : Int).toNat)) :=
  evFn_pure hm soMC (fn := Try.f38) rfl rfl (ti := false) (hs := []) (c := _) (by kernel_rfl) h
-- 1 paths
theorem rof1 (n : Nat) (h : AllP []) : PureTo Try.prog 43 [.v (.int .u64 n)] (AV.v (.float FloatKind.f64 (↑n : Int).toNat)) :=
  evFn_pure hm soMC (fn := Try.f43) rfl rfl (ti := false) (hs := []) (c := _) (by kernel_rfl) h
-- 2 paths
theorem same1 (x y : Nat) (h : AllP [((↑x : Int) == (↑y : Int)) = true]) : PureTo Try.prog 10 [.v (.float .f64 x), .v (.float .f64 y)] (AV.v (.bool true)) :=
  evFn_pure hm soMC (fn := Try.f10) rfl rfl (ti := false) (hs := [CHint.ops 1 [(4, Hint.b true)]]) (c := _) (by kernel_rfl) h
theorem same2 (x y : Nat) (h : AllP [((↑x : Int) == (↑y : Int)) = false]) : PureTo Try.prog 10 [.v (.float .f64 x), .v (.float .f64 y)] (AV.v (.bool false)) :=
  evFn_pure hm soMC (fn := Try.f10) rfl rfl (ti := false) (hs := [CHint.ops 1 [(4, Hint.b false)]]) (c := _) (by kernel_rfl) h
theorem lost_ev (x : Nat) (h : AllP []) : PureTo Try.prog 58 [.fl .f64 x] (AV.v (.bool (bif isNaN x then true else isInf x (0 : Int)))) :=
  evFnM_pure hm soMC (fn := Try.f58) rfl rfl (ti := false) (m := Mode.same) (hs := [MHint.ops 1 [] [(2, 3)]]) (c := _) (by kernel_rfl) (by kernel_rfl) h
def lost (x : Nat) : Bool := bif isNaN x then true else isInf x (0 : Int)
theorem lost_pure (x : Nat) : PureTo Try.prog 58 [.fl .f64 x] (AV.v (.bool (lost x))) := lost_ev x trivial
theorem finite_ev (x : Nat) (h : AllP []) : PureTo Try.prog 60 [.fl .f64 x] (AV.v (.bool (bif !isNaN x then !isInf x (0 : Int) else false))) :=
  evFnM_pure hm soMC (fn := Try.f60) rfl rfl (ti := false) (m := Mode.same) (hs := [MHint.ops 1 [] [(3, 4)]]) (c := _) (by kernel_rfl) (by kernel_rfl) h
def finite (x : Nat) : Bool := bif !isNaN x then !isInf x (0 : Int) else false
theorem finite_pure (x : Nat) : PureTo Try.prog 60 [.fl .f64 x] (AV.v (.bool (finite x))) := finite_ev x trivial
end Go.Proofs.Mf

/- Functions of mathematics: the table of the small ones. -/
set_option maxRecDepth 100000
namespace Go.Proofs.Mf
open Go Go.Ev

def sigOfW : List AV → Option (AV × List Prop)
  | [.v (.int .u64 n)] => some (.v (.float .f64 n.toNat), [0 ≤ n])
  | _ => none
theorem sigOfW_ok {i : FuncId} (h : ∀ n : Nat, PureTo Try.prog i [.v (.int .u64 n)] (.v (.float .f64 n))) : ∀ ys r c, sigOfW ys = some (r, c) → AllP c → PureTo Try.prog i ys r := by
  intro ys r c hs hc
  unfold sigOfW at hs
  split at hs
  · next n =>
    cases hs
    have := h n.toNat
    rw [Int.toNat_of_nonneg hc.1] at this
    exact this
  · cases hs

/-- two floats held against each other bit by bit -/
def sigSame : List AV → Option (AV × List Prop)
  | [.v (.float .f64 x), .v (.float .f64 y)] => some (.v (.bool (x == y)), [])
  | [.fl .f64 x, .v (.float .f64 y)] => some (.v (.bool (x == y)), [¬ nanB .f64 x])
  | [.v (.float .f64 x), .fl .f64 y] => some (.v (.bool (x == y)), [¬ nanB .f64 y])
  | [.fl .f64 x, .fl .f64 y] => some (.v (.bool (x == y)), [¬ nanB .f64 x, ¬ nanB .f64 y])
  | _ => none
theorem same_c (x y : Nat) : PureTo Try.prog 10 [.v (.float .f64 x), .v (.float .f64 y)] (.v (.bool (x == y))) := by
  cases h : (x == y) with
  | true => exact same1 x y ⟨by have := eq_of_beq h; subst this; simp, trivial⟩
  | false => exact same2 x y ⟨by have := ne_of_beq_false h; rw [beq_eq_false_iff_ne]; omega, trivial⟩
theorem two_cl {f : FuncId} {a b c d r : AV} (h : PureTo Try.prog f [a, b] r) (h1 : Closer c a) (h2 : Closer d b) : PureTo Try.prog f [c, d] r :=
  h.args rfl fun i k1 k2 => by
    have : i = 0 ∨ i = 1 := by simp at k1; omega
    rcases this with rfl | rfl
    · exact h1
    · exact h2
theorem one_cl {f : FuncId} {a c r : AV} (h : PureTo Try.prog f [a] r) (h1 : Closer c a) : PureTo Try.prog f [c] r :=
  h.args rfl fun i k1 k2 => by
    have : i = 0 := by simpa using k1
    subst this
    exact h1
theorem sigSame_ok : ∀ ys r c, sigSame ys = some (r, c) → AllP c → PureTo Try.prog 10 ys r := by
  intro ys r c hs hc
  unfold sigSame at hs
  split at hs
  · cases hs; exact same_c _ _
  · cases hs; exact two_cl (same_c _ _) (.num _ hc.1) (.same _)
  · cases hs; exact two_cl (same_c _ _) (.same _) (.num _ hc.1)
  · cases hs; exact two_cl (same_c _ _) (.num _ hc.1) (.num _ hc.2.1)
  · cases hs

/-- any float in, something without a NaN's bits out -/
theorem cons_A {SG : SGT} {f : FuncId} (g : Nat → AV) (h : SigsOK Try.prog SG) (hf : ∀ x, PureTo Try.prog f [.fl .f64 x] (g x)) : SigsOK Try.prog ((f, .p (sigF fun x => (g x, []))) :: SG) :=
  sigs_cons h (sigF_ok (f := fun x => (g x, [])) fun a _ => hf a)

def MT0 : SGT := (38, .p sigOfW) :: (43, .p sigOfW) :: (10, .p sigSame) :: (58, .p (sigF fun x => (.v (.bool (lost x)), []))) :: (60, .p (sigF fun x => (.v (.bool (finite x)), []))) :: SMC
theorem moT0 : SigsOK Try.prog MT0 :=
  sigs_cons (sigs_cons (sigs_cons (cons_A _ (cons_A _ soMC finite_pure) lost_pure) sigSame_ok) (sigOfW_ok fun n => rof1 n trivial)) (sigOfW_ok fun n => of1 n trivial)
end Go.Proofs.Mf

/- Functions of mathematics: walks, written by the tool. -/
set_option maxRecDepth 100000
namespace Go.Proofs.Mf
open Go Go.Ev

-- 1 paths
theorem mnan1  (h : AllP [(0 : Int) ≤ (9221120237041090560 : Int)]) : PureTo Try.prog 36 [] (AV.v (.float FloatKind.f64 9221120237041090560)) :=
  evFn_pure hm moT0 (fn := Try.f36) rfl rfl (ti := false) (hs := []) (c := _) (by kernel_rfl) h
-- 1 paths
theorem mrnan1  (h : AllP [(0 : Int) ≤ (9221120237041090560 : Int)]) : PureTo Try.prog 41 [] (AV.v (.float FloatKind.f64 9221120237041090560)) :=
  evFn_pure hm moT0 (fn := Try.f41) rfl rfl (ti := false) (hs := []) (c := _) (by kernel_rfl) h
-- 1 paths
theorem minf1 (s : Int) (h : AllP []) : PureTo Try.prog 37 [.v (.int .i64 s)] (AV.v (.float FloatKind.f64 (inf s))) :=
  evFn_pure hm moT0 (fn := Try.f37) rfl rfl (ti := false) (hs := []) (c := _) (by kernel_rfl) h
-- 1 paths
theorem pi1  (h : AllP [(0 : Int) ≤ (4614256656552045848 : Int)]) : PureTo Try.prog 55 [] (AV.v (.float FloatKind.f64 4614256656552045848)) :=
  evFn_pure hm moT0 (fn := Try.f55) rfl rfl (ti := false) (hs := []) (c := _) (by kernel_rfl) h
-- 1 paths
theorem pi21  (h : AllP [(0 : Int) ≤ (4609753056924675352 : Int)]) : PureTo Try.prog 56 [] (AV.v (.float FloatKind.f64 4609753056924675352)) :=
  evFn_pure hm moT0 (fn := Try.f56) rfl rfl (ti := false) (hs := []) (c := _) (by kernel_rfl) h
-- 1 paths
theorem pi41  (h : AllP [(0 : Int) ≤ (4605249457297304856 : Int)]) : PureTo Try.prog 57 [] (AV.v (.float FloatKind.f64 4605249457297304856)) :=
  evFn_pure hm moT0 (fn := Try.f57) rfl rfl (ti := false) (hs := []) (c := _) (by kernel_rfl) h
-- 4 paths
theorem odd1 (y : Nat) (h : AllP [flt FloatKind.f64 (abs y) 4845873199050653696 = true, feq FloatKind.f64 y (intW Ieee.Toward.zero y) = true, FWord y, FWord 4611686018427387904, (!feq FloatKind.f64 (modW y 4611686018427387904) 0) = true]) : PureTo Try.prog 48 [.v (.float .f64 y)] (AV.v (.bool true)) :=
  evFn_pure hm moT0 (fn := Try.f48) rfl rfl (ti := false) (hs := [CHint.ops 1 [(2, Hint.b true), (7, Hint.b true), (12, Hint.b true)]]) (c := _) (by kernel_rfl) h
theorem odd2 (y : Nat) (h : AllP [flt FloatKind.f64 (abs y) 4845873199050653696 = true, feq FloatKind.f64 y (intW Ieee.Toward.zero y) = true, FWord y, FWord 4611686018427387904, (!feq FloatKind.f64 (modW y 4611686018427387904) 0) = false]) : PureTo Try.prog 48 [.v (.float .f64 y)] (AV.v (.bool false)) :=
  evFn_pure hm moT0 (fn := Try.f48) rfl rfl (ti := false) (hs := [CHint.ops 1 [(2, Hint.b true), (7, Hint.b true), (12, Hint.b false)]]) (c := _) (by kernel_rfl) h
theorem odd3 (y : Nat) (h : AllP [flt FloatKind.f64 (abs y) 4845873199050653696 = true, feq FloatKind.f64 y (intW Ieee.Toward.zero y) = false]) : PureTo Try.prog 48 [.v (.float .f64 y)] (AV.v (.bool false)) :=
  evFn_pure hm moT0 (fn := Try.f48) rfl rfl (ti := false) (hs := [CHint.ops 1 [(2, Hint.b true), (7, Hint.b false)]]) (c := _) (by kernel_rfl) h
theorem odd4 (y : Nat) (h : AllP [flt FloatKind.f64 (abs y) 4845873199050653696 = false]) : PureTo Try.prog 48 [.v (.float .f64 y)] (AV.v (.bool false)) :=
  evFn_pure hm moT0 (fn := Try.f48) rfl rfl (ti := false) (hs := [CHint.ops 1 [(2, Hint.b false)]]) (c := _) (by kernel_rfl) h
-- 4 paths
theorem rodd1 (y : Nat) (h : AllP [flt FloatKind.f64 (abs y) 4845873199050653696 = true, feq FloatKind.f64 (intW Ieee.Toward.zero y) y = true, (!feq FloatKind.f64 (intW Ieee.Toward.zero (fdiv y 4611686018427387904)) (fdiv y 4611686018427387904)) = true]) : PureTo Try.prog 51 [.v (.float .f64 y)] (AV.v (.bool true)) :=
  evFn_pure hm moT0 (fn := Try.f51) rfl rfl (ti := false) (hs := [CHint.ops 1 [(2, Hint.b true), (7, Hint.b true), (15, Hint.b true)]]) (c := _) (by kernel_rfl) h
theorem rodd2 (y : Nat) (h : AllP [flt FloatKind.f64 (abs y) 4845873199050653696 = true, feq FloatKind.f64 (intW Ieee.Toward.zero y) y = true, (!feq FloatKind.f64 (intW Ieee.Toward.zero (fdiv y 4611686018427387904)) (fdiv y 4611686018427387904)) = false]) : PureTo Try.prog 51 [.v (.float .f64 y)] (AV.v (.bool false)) :=
  evFn_pure hm moT0 (fn := Try.f51) rfl rfl (ti := false) (hs := [CHint.ops 1 [(2, Hint.b true), (7, Hint.b true), (15, Hint.b false)]]) (c := _) (by kernel_rfl) h
theorem rodd3 (y : Nat) (h : AllP [flt FloatKind.f64 (abs y) 4845873199050653696 = true, feq FloatKind.f64 (intW Ieee.Toward.zero y) y = false]) : PureTo Try.prog 51 [.v (.float .f64 y)] (AV.v (.bool false)) :=
  evFn_pure hm moT0 (fn := Try.f51) rfl rfl (ti := false) (hs := [CHint.ops 1 [(2, Hint.b true), (7, Hint.b false)]]) (c := _) (by kernel_rfl) h
theorem rodd4 (y : Nat) (h : AllP [flt FloatKind.f64 (abs y) 4845873199050653696 = false]) : PureTo Try.prog 51 [.v (.float .f64 y)] (AV.v (.bool false)) :=
  evFn_pure hm moT0 (fn := Try.f51) rfl rfl (ti := false) (hs := [CHint.ops 1 [(2, Hint.b false)]]) (c := _) (by kernel_rfl) h
theorem other_ev (x : Nat) (h : AllP []) : PureTo Try.prog 62 [.v (.float .f64 x)] (AV.v (.float FloatKind.f64 (nsqrt (fmul (fsub 4607182418800017408 x) (fadd 4607182418800017408 x))))) :=
  evFnM_pure hm moT0 (fn := Try.f62) rfl rfl (ti := false) (m := Mode.same) (hs := []) (c := _) (by kernel_rfl) (by kernel_rfl) h
def other (x : Nat) : Nat := nsqrt (fmul (fsub 4607182418800017408 x) (fadd 4607182418800017408 x))
theorem other_pure (x : Nat) : PureTo Try.prog 62 [.v (.float .f64 x)] (AV.v (.float FloatKind.f64 (other x))) := other_ev x trivial
-- 1 paths
theorem side1 (x : Nat) (h : AllP []) : PureTo Try.prog 63 [.v (.float .f64 x)] (AV.fl FloatKind.f64 (fsqrt (fmul (fsub 4607182418800017408 x) (fadd 4607182418800017408 x)))) :=
  evFn_pure hm moT0 (fn := Try.f63) rfl rfl (ti := false) (hs := []) (c := _) (by kernel_rfl) h
end Go.Proofs.Mf

/- Functions of mathematics: the table with constants and roots. -/
set_option maxRecDepth 100000
namespace Go.Proofs.Mf
open Go Go.Ev

/-- nothing in, a known float out -/
def sigZ (x : Nat) : List AV → Option (AV × List Prop)
  | [] => some (.v (.float .f64 x), [])
  | _ => none
theorem cons_Z {SG : SGT} {f : FuncId} (x : Nat) (h : SigsOK Try.prog SG) (hf : PureTo Try.prog f [] (.v (.float .f64 x))) : SigsOK Try.prog ((f, .p (sigZ x)) :: SG) := by
  refine sigs_cons h ?_
  intro ys r c hs hc
  unfold sigZ at hs
  split at hs
  · cases hs; exact hf
  · cases hs
def sigInfF : List AV → Option (AV × List Prop)
  | [.v (.int .i64 s)] => some (.v (.float .f64 (inf s)), [])
  | _ => none
theorem sigInfF_ok : ∀ ys r c, sigInfF ys = some (r, c) → AllP c → PureTo Try.prog 37 ys r := by
  intro ys r c hs hc
  unfold sigInfF at hs
  split at hs
  · cases hs; exact minf1 _ trivial
  · cases hs

def MT1 : SGT := (36, .p (sigZ qnan)) :: (41, .p (sigZ qnan)) :: (55, .p (sigZ 4614256656552045848)) :: (56, .p (sigZ 4609753056924675352)) :: (57, .p (sigZ 4605249457297304856)) :: (37, .p sigInfF) ::
  (62, .p (sX fun x => .v (.float .f64 (other x)))) :: (63, .p (sX fun x => .fl .f64 (fsqrt (fmul (fsub 4607182418800017408 x) (fadd 4607182418800017408 x))))) :: MT0
theorem moT1 : SigsOK Try.prog MT1 :=
  cons_Z _ (cons_Z _ (cons_Z _ (cons_Z _ (cons_Z _ (sigs_cons (cons_X _ (cons_X _ moT0 fun x => side1 x trivial) other_pure) sigInfF_ok) (pi41 ⟨by decide, trivial⟩)) (pi21 ⟨by decide, trivial⟩)) (pi1 ⟨by decide, trivial⟩)) (mrnan1 ⟨by decide, trivial⟩)) (mnan1 ⟨by decide, trivial⟩)
end Go.Proofs.Mf
