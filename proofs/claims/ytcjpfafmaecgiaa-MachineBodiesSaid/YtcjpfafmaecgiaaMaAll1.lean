/- Contracts of the program's functions, and the plain law behind them. No condition beyond those in each statement. -/
import Derived.Test.YtcjpfafmaecgiaaProg
import Derived.Test.YtcjpfafmaecgiaaEvAll4
set_option linter.unusedSimpArgs false
set_option linter.unusedVariables false
set_option linter.unusedSectionVars false
/- Machine: closed runs: the table of functions that are not run within. -/
set_option maxRecDepth 100000
namespace Go.Proofs.Ma
open Go Go.Ev

instance : Globs := ⟨[]⟩
theorem hm : Try.prog.follows .mixedOrders = true := by kernel_rfl
theorem ng : noGo Try.prog = true := by kernel_rfl
theorem sok0 : SigsOK Try.prog [] := fun f sig h => by cases h
theorem bits_c (x : Nat) : PureTo Try.prog 46 [.v (.float .f64 x)] (.v (.int .u64 x)) := bits_pure Try.func46 (by kernel_rfl) (by kernel_rfl) (by kernel_rfl) (by kernel_rfl) x
theorem frombits_c (x : Int) : PureTo Try.prog 72 [.v (.int .u64 x)] (.v (.float .f64 x.toNat)) := frombits_pure Try.func72 (by kernel_rfl) (by kernel_rfl) (by kernel_rfl) (by kernel_rfl) x
def sigBit : List AV → Option (AV × List Prop)
  | [.v (.float .f64 a)] => some (.v (.int .u64 a), [])
  | _ => none
def sigOf : List AV → Option (AV × List Prop)
  | [.v (.int .u64 n)] => some (.v (.float .f64 n.toNat), [])
  | _ => none
def SM0 : SGT := [(46, .p sigBit), (72, .p sigOf)]
theorem soM0 : SigsOK Try.prog SM0 := by
  refine sigs_cons (sigs_cons sok0 ?_) ?_
  · intro ys r c h hc
    unfold sigOf at h
    split at h
    · cases h; exact frombits_c _
    · cases h
  · intro ys r c h hc
    unfold sigBit at h
    split at h
    · cases h; exact bits_c _
    · cases h
theorem quM0 : Quiet SM0 := by
  refine quiet_cons (quiet_cons quiet_nil ?_) ?_
  · intro ys r c h
    unfold sigOf at h
    split at h
    · cases h; exact trivial
    · cases h
  · intro ys r c h
    unfold sigBit at h
    split at h
    · cases h; exact trivial
    · cases h
/-- slices.Clone of floats; heap.own -/
noncomputable def IN0 : Inl := inlA Try.prog SM0 100 [] 4
theorem in0 : InlOK Try.prog IN0 := inlA_ok hm ng soM0 quM0 4
def sigClone : List AV → Option (AV × List Prop)
  | [.sl 1 (.avs []) _] => some (.sl 1 (.avs []) false, [])
  | _ => none
noncomputable def SM1 : SGT := (31, .p sigClone) :: (53, .p (sigI Try.prog IN0 53 60)) :: SM0
theorem quM1 : Quiet SM1 := by
  refine quiet_cons (quiet_cons quM0 sigI_quiet) ?_
  intro ys r c h
  unfold sigClone at h
  split at h
  · cases h; exact trivial
  · cases h
end Go.Proofs.Ma

/- Machine: walks, written by the tool. -/
set_option maxRecDepth 100000
namespace Go.Proofs.Ma
open Go Go.Ev

-- 1 paths
theorem cloneN1  (h : AllP []) : PureTo Try.prog 31 [.v (.slice none 0 0)] (AV.sl 1 (Seq.avs []) false) :=
  evFn_pure hm soM0 (fn := Try.f31) rfl rfl (ti := false) (hs := []) (c := _) (by kernel_rfl) h
-- 1 paths
theorem cloneE1  (h : AllP []) : PureTo Try.prog 31 [.sle] (AV.sl 1 (Seq.avs []) false) :=
  evFn_pure hm soM0 (fn := Try.f31) rfl rfl (ti := false) (hs := []) (c := _) (by kernel_rfl) h
end Go.Proofs.Ma

/- Machine: its awake tells true. -/
set_option maxRecDepth 100000
namespace Go.Proofs.Ma
open Go Go.Ev

theorem clone_nil (t : Bool) : PureTo Try.prog 31 [.sl 1 (.avs []) t] (.sl 1 (.avs []) false) :=
  PureTo.nil_split (ys := []) (zs := []) (fun _ => cloneN1 trivial) (fun _ => cloneE1 trivial) (fun h => absurd h (by simp [Seq.len]))
theorem soM1 : SigsOK Try.prog SM1 := by
  refine sigs_cons (sigs_cons soM0 (sigI_ok in0)) ?_
  intro ys r c h hc
  unfold sigClone at h
  split at h
  · cases h; exact clone_nil _
  · cases h
def HM1 : List (Nat × List (Nat × List (Nat × Hint))) := [(41, [(8, [(10, .own)])])]
noncomputable def IN1 : Inl := inlA Try.prog SM1 100 HM1 10
theorem in1 : InlOK Try.prog IN1 := inlA_ok hm ng soM1 quM1 10
theorem awake_val : (IN1 8 [] 0 []).map (fun x => x.1) = some (.v (.bool true)) := by kernel_rfl
theorem awake_c : PureTo Try.prog 8 [] (.v (.bool true)) := by
  have h := awake_val
  cases h0 : IN1 8 [] 0 [] with
  | none => rw [h0] at h; cases h
  | some x =>
    rw [h0] at h
    obtain ⟨r, hp, nx⟩ := x
    have hr : r = .v (.bool true) := by simpa using h
    subst hr
    exact (in1 _ _ _ _ _ _ _ h0).pure rfl
end Go.Proofs.Ma
