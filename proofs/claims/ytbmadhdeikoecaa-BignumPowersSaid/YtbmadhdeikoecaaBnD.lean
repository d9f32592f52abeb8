/- Bignum: contracts: IndexFunc, ContainsFunc, long. -/
import Derived.Test.YtbmadhdeikoecaaBnW3
set_option maxRecDepth 100000
namespace Go.Proofs.Bn
open Go Go.Ev

def at1 (a : List Int) : Int := if over a then 0 else -1
def at2 (a b : List Int) : Int := if over a then 0 else if over b then 1 else -1

theorem index1_pure (a : List Int) (ta : Bool) (ha : a.length < lim) : PureTo Try.prog 69 [.sl 1 (.avs [.sl 1 (.ints .u32 a) ta]) true, .fnv (.func 65) [] []] (.v (.int .i64 (at1 a))) := by
  unfold at1
  cases h : over a with
  | true => exact ixG11 a ta 0 ⟨.done (by simp) (ix1_0_1 a ta ⟨by simp, h, ha, trivial⟩), trivial⟩
  | false => exact ixF11 a ta ⟨.step (ix1_0_2 a ta ⟨by simp, h, ha, inR64 (by omega) (by omega), trivial⟩) (.done (by simp) (ix1_1_1 a ta trivial)), trivial⟩

theorem index2_pure (a b : List Int) (ta tb : Bool) (ha : a.length < lim) (hb : b.length < lim) : PureTo Try.prog 69 [.sl 1 (.avs [.sl 1 (.ints .u32 a) ta, .sl 1 (.ints .u32 b) tb]) true, .fnv (.func 65) [] []] (.v (.int .i64 (at2 a b))) := by
  unfold at2
  cases h : over a with
  | true => exact ixG21 a b ta tb 0 ⟨.done (by simp) (ix2_0_1 a b ta tb ⟨by simp, h, ha, trivial⟩), trivial⟩
  | false =>
    have s0 := ix2_0_2 a b ta tb ⟨by simp, h, ha, inR64 (by omega) (by omega), trivial⟩
    cases h2 : over b with
    | true => exact ixG21 a b ta tb 1 ⟨.step s0 (.done (by simp) (ix2_1_1 a b ta tb ⟨by simp, h2, hb, trivial⟩)), trivial⟩
    | false => exact ixF21 a b ta tb ⟨.step s0 (.step (ix2_1_2 a b ta tb ⟨by simp, h2, hb, inR64 (by omega) (by omega), trivial⟩) (.done (by simp) (ix2_2_1 a b ta tb trivial))), trivial⟩

def sigIndex : List AV → Option (AV × List Prop)
  | [.sl 1 (.avs [.sl 1 (.ints .u32 a) _]) true, .fnv (.func 65) [] []] => some (.v (.int .i64 (at1 a)), [a.length < lim])
  | [.sl 1 (.avs [.sl 1 (.ints .u32 a) _, .sl 1 (.ints .u32 b) _]) true, .fnv (.func 65) [] []] => some (.v (.int .i64 (at2 a b)), [a.length < lim, b.length < lim])
  | _ => none

def SG3 : List (FuncId × (List AV → Option (AV × List Prop))) := (69, sigIndex) :: SG2

theorem sok3 : SigsOK Try.prog SG3 := by
  refine sigs_cons sok2 ?_
  intro ys r c h hc
  unfold sigIndex at h
  split at h
  · cases h; exact index1_pure _ _ hc.1
  · cases h; exact index2_pure _ _ _ _ hc.1 hc.2.1
  · cases h

end Go.Proofs.Bn
