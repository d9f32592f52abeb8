/- Bignum: contracts: ContainsFunc. -/
import Derived.Test.YtbmadhdeikoecaaBnW4
set_option maxRecDepth 100000
namespace Go.Proofs.Bn
open Go Go.Ev

theorem contains1_pure (a : List Int) (ta : Bool) (ha : a.length < lim) : PureTo Try.prog 64 [.sl 1 (.avs [.sl 1 (.ints .u32 a) ta]) true, .fnv (.func 65) [] []] (.v (.bool (over a))) := by
  have h := coF1 a ta ⟨ha, trivial⟩
  have e : decide (at1 a ≥ 0) = over a := by unfold at1; cases over a <;> simp
  rw [e] at h
  exact h

theorem contains2_pure (a b : List Int) (ta tb : Bool) (ha : a.length < lim) (hb : b.length < lim) : PureTo Try.prog 64 [.sl 1 (.avs [.sl 1 (.ints .u32 a) ta, .sl 1 (.ints .u32 b) tb]) true, .fnv (.func 65) [] []] (.v (.bool (over a || over b))) := by
  have h := coG1 a b ta tb ⟨ha, hb, trivial⟩
  have e : decide (at2 a b ≥ 0) = (over a || over b) := by unfold at2; cases over a <;> cases over b <;> simp
  rw [e] at h
  exact h

def sigContains : List AV → Option (AV × List Prop)
  | [.sl 1 (.avs [.sl 1 (.ints .u32 a) _]) true, .fnv (.func 65) [] []] => some (.v (.bool (over a)), [a.length < lim])
  | [.sl 1 (.avs [.sl 1 (.ints .u32 a) _, .sl 1 (.ints .u32 b) _]) true, .fnv (.func 65) [] []] => some (.v (.bool (over a || over b)), [a.length < lim, b.length < lim])
  | _ => none

def SG4 : List (FuncId × (List AV → Option (AV × List Prop))) := (64, sigContains) :: SG3

theorem sok4 : SigsOK Try.prog SG4 := by
  refine sigs_cons sok3 ?_
  intro ys r c h hc
  unfold sigContains at h
  split at h
  · cases h; exact contains1_pure _ _ hc.1
  · cases h; exact contains2_pure _ _ _ _ hc.1 hc.2.1
  · cases h

theorem loF1 (a : List Int) (ta : Bool) (h : AllP [a.length < lim]) : PureTo Try.prog 46 [.sl 1 (.avs [.sl 1 (.ints .u32 a) ta]) true] (AV.v (Value.bool (over a))) :=
  evFn_pure hm sok4 (fn := Try.f46) rfl rfl (ti := false) (hs := []) (c := _) (by kernel_rfl) h

theorem loG1 (a b : List Int) (ta tb : Bool) (h : AllP [a.length < lim, b.length < lim]) : PureTo Try.prog 46 [.sl 1 (.avs [.sl 1 (.ints .u32 a) ta, .sl 1 (.ints .u32 b) tb]) true] (AV.v (Value.bool (over a || over b))) :=
  evFn_pure hm sok4 (fn := Try.f46) rfl rfl (ti := false) (hs := []) (c := _) (by kernel_rfl) h

def sigLongs : List AV → Option (AV × List Prop)
  | [.sl 1 (.avs [.sl 1 (.ints .u32 a) _]) true] => some (.v (.bool (over a)), [a.length < lim])
  | [.sl 1 (.avs [.sl 1 (.ints .u32 a) _, .sl 1 (.ints .u32 b) _]) true] => some (.v (.bool (over a || over b)), [a.length < lim, b.length < lim])
  | _ => none

def SG5 : List (FuncId × (List AV → Option (AV × List Prop))) := (46, sigLongs) :: SG4

theorem sok5 : SigsOK Try.prog SG5 := by
  refine sigs_cons sok4 ?_
  intro ys r c h hc
  unfold sigLongs at h
  split at h
  · cases h; exact loF1 _ _ hc
  · cases h; exact loG1 _ _ _ _ hc
  · cases h

end Go.Proofs.Bn
