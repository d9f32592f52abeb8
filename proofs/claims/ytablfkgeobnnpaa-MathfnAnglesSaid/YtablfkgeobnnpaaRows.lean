/-
  No cell of these rows narrows 'for every input' (looked for: loops, veiled, ifaces, maps, wideKeys, modest, calm, conditions, laid).
  DERIVED. THE GIVEN ROWS OF THIS SEAT. 7 by the template 'for every input the law returns true; each argument reads behind the call as it read before'; 0 by the template 'total and deterministic' (their statements: YtablfkgeobnnpaaTotals.lean).
  GIVEN WITH THE SEED: the statements are not yours to turn. If you find one false, say at which input.
  Laid BY PROGRAM, IN A SANDBOX (cutbox-rows.mjs): the forced cells as the released guide's own fill.sh prints them over the translation eed685c50b053f49… (all of the seat's roots in one cut). By AI agents, Wed Nov 11 2026. No macro, syntax, notation, axiom, sorry.
-/
import Derived.Test.YtablfkgeobnnpaaChecked
import GoSem.Claim
import GoSem.ClaimJoined
import GoSem.ClaimMapViews
import Derived.JoinedTies
import Derived.KernelRfl
namespace Go.Proofs.Ytablfkgeobnnpaa
/- THE CELL 'sum', in the pinned program and in every row, IS THE sha256 OF THE DUMP (.gsa) THAT YtablfkgeobnnpaaProg.lean LOADS. Nothing in Lean hashes anything: it is a label: what it is worth is what the hold of that sum in a sandbox is worth. -/
noncomputable def Try.pinned : Pinned := { name := "ytablfkgeobnnpaa", sum := "eed685c50b053f49caa7cd211ea26a49788a603f0b9788876e06e481e85cedfe", checked := Try.checked }
namespace Rows
def none {H : Type} : Left H := { results := [], args := [] }

/-- 'quilllaw05.MathfnExps': WHATEVER THE INPUT: true; the input reads as it did. -/
def mathfnExpsSpec : ChangeSpec := { name := "mathfnExps", fn := fun _ => fun
  | [d] => { results := [.lit (.bool true)], args := [d] }
  | _ => none }
def mathfnExpsRow : OpenClaim := { program := "ytablfkgeobnnpaa", sum := "eed685c50b053f49caa7cd211ea26a49788a603f0b9788876e06e481e85cedfe", func := "quill/quilllaw05.MathfnExps", spec := "mathfnExps", inPlace := ["math.Float64frombits", "math.archFloor", "math.Float64bits", "math.archTrunc"], apart := false }
def MathfnExpsSaid : Prop := mathfnExpsRow.holds Try.pinned (OpenSpec.ofChange mathfnExpsSpec)

/-- ITS FALSE NEIGHBOUR: 'it returns false'. Refute it at one input. -/
def mathfnExpsWrong : ChangeSpec := { name := "mathfnExps", fn := fun _ => fun
  | [d] => { results := [.lit (.bool false)], args := [d] }
  | _ => none }
def MathfnExpsWrongFalsely : Prop := mathfnExpsRow.holds Try.pinned (OpenSpec.ofChange mathfnExpsWrong)

/-- 'quilllaw05.MathfnPowers': WHATEVER THE INPUT: true; the input reads as it did. -/
def mathfnPowersSpec : ChangeSpec := { name := "mathfnPowers", fn := fun _ => fun
  | [d1, d2] => { results := [.lit (.bool true)], args := [d1, d2] }
  | _ => none }
def mathfnPowersRow : OpenClaim := { program := "ytablfkgeobnnpaa", sum := "eed685c50b053f49caa7cd211ea26a49788a603f0b9788876e06e481e85cedfe", func := "quill/quilllaw05.MathfnPowers", spec := "mathfnPowers", inPlace := ["math.Float64frombits", "math.Float64bits", "math.archTrunc", "math.archFloor"], apart := false }
def MathfnPowersSaid : Prop := mathfnPowersRow.holds Try.pinned (OpenSpec.ofChange mathfnPowersSpec)

/-- ITS FALSE NEIGHBOUR: 'it returns false'. Refute it at one input. -/
def mathfnPowersWrong : ChangeSpec := { name := "mathfnPowers", fn := fun _ => fun
  | [d1, d2] => { results := [.lit (.bool false)], args := [d1, d2] }
  | _ => none }
def MathfnPowersWrongFalsely : Prop := mathfnPowersRow.holds Try.pinned (OpenSpec.ofChange mathfnPowersWrong)

/-- 'quilllaw05.MathfnWhole': WHATEVER THE INPUT: true; the input reads as it did. -/
def mathfnWholeSpec : ChangeSpec := { name := "mathfnWhole", fn := fun _ => fun
  | [d1, d2] => { results := [.lit (.bool true)], args := [d1, d2] }
  | _ => none }
def mathfnWholeRow : OpenClaim := { program := "ytablfkgeobnnpaa", sum := "eed685c50b053f49caa7cd211ea26a49788a603f0b9788876e06e481e85cedfe", func := "quill/quilllaw05.MathfnWhole", spec := "mathfnWhole", inPlace := ["math.Float64bits", "math.Float64frombits", "math.archTrunc", "math.archFloor"], apart := false }
def MathfnWholeSaid : Prop := mathfnWholeRow.holds Try.pinned (OpenSpec.ofChange mathfnWholeSpec)

/-- ITS FALSE NEIGHBOUR: 'it returns false'. Refute it at one input. -/
def mathfnWholeWrong : ChangeSpec := { name := "mathfnWhole", fn := fun _ => fun
  | [d1, d2] => { results := [.lit (.bool false)], args := [d1, d2] }
  | _ => none }
def MathfnWholeWrongFalsely : Prop := mathfnWholeRow.holds Try.pinned (OpenSpec.ofChange mathfnWholeWrong)

/-- 'quilllaw05.MathfnPoints': WHATEVER THE INPUT: true; the input reads as it did. -/
def mathfnPointsSpec : ChangeSpec := { name := "mathfnPoints", fn := fun _ => fun
  | [d1, d2] => { results := [.lit (.bool true)], args := [d1, d2] }
  | _ => none }
def mathfnPointsRow : OpenClaim := { program := "ytablfkgeobnnpaa", sum := "eed685c50b053f49caa7cd211ea26a49788a603f0b9788876e06e481e85cedfe", func := "quill/quilllaw05.MathfnPoints", spec := "mathfnPoints", inPlace := ["math.Float64frombits", "math.Float64bits", "math.archTrunc", "math.archFloor"], apart := false }
def MathfnPointsSaid : Prop := mathfnPointsRow.holds Try.pinned (OpenSpec.ofChange mathfnPointsSpec)

/-- ITS FALSE NEIGHBOUR: 'it returns false'. Refute it at one input. -/
def mathfnPointsWrong : ChangeSpec := { name := "mathfnPoints", fn := fun _ => fun
  | [d1, d2] => { results := [.lit (.bool false)], args := [d1, d2] }
  | _ => none }
def MathfnPointsWrongFalsely : Prop := mathfnPointsRow.holds Try.pinned (OpenSpec.ofChange mathfnPointsWrong)

/-- 'quilllaw05.MathfnAngles': WHATEVER THE INPUT: true; the input reads as it did. -/
def mathfnAnglesSpec : ChangeSpec := { name := "mathfnAngles", fn := fun _ => fun
  | [d] => { results := [.lit (.bool true)], args := [d] }
  | _ => none }
def mathfnAnglesRow : OpenClaim := { program := "ytablfkgeobnnpaa", sum := "eed685c50b053f49caa7cd211ea26a49788a603f0b9788876e06e481e85cedfe", func := "quill/quilllaw05.MathfnAngles", spec := "mathfnAngles", inPlace := ["math.Float64bits", "math.Float64frombits", "math.archTrunc", "math.archFloor"], unfollowed := true, recurses := true, apart := false }
def MathfnAnglesSaid : Prop := mathfnAnglesRow.holds Try.pinned (OpenSpec.ofChange mathfnAnglesSpec)

/-- ITS FALSE NEIGHBOUR: 'it returns false'. Refute it at one input. -/
def mathfnAnglesWrong : ChangeSpec := { name := "mathfnAngles", fn := fun _ => fun
  | [d] => { results := [.lit (.bool false)], args := [d] }
  | _ => none }
def MathfnAnglesWrongFalsely : Prop := mathfnAnglesRow.holds Try.pinned (OpenSpec.ofChange mathfnAnglesWrong)

/-- 'quilllaw05.MathfnSigns': WHATEVER THE INPUT: true; the input reads as it did. -/
def mathfnSignsSpec : ChangeSpec := { name := "mathfnSigns", fn := fun _ => fun
  | [d1, d2] => { results := [.lit (.bool true)], args := [d1, d2] }
  | _ => none }
def mathfnSignsRow : OpenClaim := { program := "ytablfkgeobnnpaa", sum := "eed685c50b053f49caa7cd211ea26a49788a603f0b9788876e06e481e85cedfe", func := "quill/quilllaw05.MathfnSigns", spec := "mathfnSigns", inPlace := ["math.Float64frombits", "math.Float64bits", "math.archTrunc", "math.archFloor", "math.sqrt"], apart := false }
def MathfnSignsSaid : Prop := mathfnSignsRow.holds Try.pinned (OpenSpec.ofChange mathfnSignsSpec)

/-- ITS FALSE NEIGHBOUR: 'it returns false'. Refute it at one input. -/
def mathfnSignsWrong : ChangeSpec := { name := "mathfnSigns", fn := fun _ => fun
  | [d1, d2] => { results := [.lit (.bool false)], args := [d1, d2] }
  | _ => none }
def MathfnSignsWrongFalsely : Prop := mathfnSignsRow.holds Try.pinned (OpenSpec.ofChange mathfnSignsWrong)

/-- 'quilllaw05.MathfnArcs': WHATEVER THE INPUT: true; the input reads as it did. -/
def mathfnArcsSpec : ChangeSpec := { name := "mathfnArcs", fn := fun _ => fun
  | [d] => { results := [.lit (.bool true)], args := [d] }
  | _ => none }
def mathfnArcsRow : OpenClaim := { program := "ytablfkgeobnnpaa", sum := "eed685c50b053f49caa7cd211ea26a49788a603f0b9788876e06e481e85cedfe", func := "quill/quilllaw05.MathfnArcs", spec := "mathfnArcs", inPlace := ["math.Float64frombits", "math.Float64bits", "math.sqrt", "math.archTrunc", "math.archFloor"], apart := false }
def MathfnArcsSaid : Prop := mathfnArcsRow.holds Try.pinned (OpenSpec.ofChange mathfnArcsSpec)

/-- ITS FALSE NEIGHBOUR: 'it returns false'. Refute it at one input. -/
def mathfnArcsWrong : ChangeSpec := { name := "mathfnArcs", fn := fun _ => fun
  | [d] => { results := [.lit (.bool false)], args := [d] }
  | _ => none }
def MathfnArcsWrongFalsely : Prop := mathfnArcsRow.holds Try.pinned (OpenSpec.ofChange mathfnArcsWrong)

/- THE SECOND FORM. 'bulk': how many values and letters a reading holds, each counted each time it is reached (what is shared counts as often as it is met; a slice's spare places count too). A statement '..UptoSaid' is the law's where the arguments, and the package variables that the reading takes, are together of bulk at most 1048576: NARROWER than '..Said'. Prove '..Said' where nothing that the law and all that it calls make is longer than what came in: it says more and counts as full. Else prove '..UptoSaid'. A law counts once. -/
mutual
def uptoBulk {H : Type} : DataW H → Nat
  | .lit (.string bytes) => bytes.length + 1
  | .lit _ => 1
  | .nil => 1
  | .ptr d => uptoBulk d + 1
  | .slice elems spare => uptoBulkAll elems + uptoBulkAll spare + 1
  | .agg parts => uptoBulkAll parts + 1
  | .iface _ d => uptoBulk d + 1
  | .map entries => uptoBulkEntries entries + 1
  | .held _ => 1
def uptoBulkAll {H : Type} : List (DataW H) → Nat
  | [] => 0
  | d :: r => uptoBulk d + uptoBulkAll r
def uptoBulkEntries {H : Type} : List (Lit × DataW H) → Nat
  | [] => 0
  | x :: r => uptoBulkEntry x + uptoBulkEntries r
def uptoBulkEntry {H : Type} : Lit × DataW H → Nat
  | (.string bytes, d) => bytes.length + uptoBulk d + 1
  | (_, d) => uptoBulk d + 1
 end
def uptoSmall : (H : Type) → List (DataW H) → Bool := fun _ ds => decide (uptoBulkAll ds ≤ 1048576)
def OpenSpec.upto (s : _root_.Go.ChangeSpec) : _root_.Go.OpenSpec := { _root_.Go.OpenSpec.ofChange s with cond := some uptoSmall }

/-- 'quilllaw05.MathfnExps', WHERE WHAT IT READS IS OF BULK AT MOST 1048576: true; the input reads as it did. -/
def mathfnExpsUptoRow : OpenClaim := { program := "ytablfkgeobnnpaa", sum := "eed685c50b053f49caa7cd211ea26a49788a603f0b9788876e06e481e85cedfe", func := "quill/quilllaw05.MathfnExps", spec := "mathfnExps", inPlace := ["math.Float64frombits", "math.archFloor", "math.Float64bits", "math.archTrunc"], apart := false, narrowed := true }
def MathfnExpsUptoSaid : Prop := mathfnExpsUptoRow.holds Try.pinned (OpenSpec.upto mathfnExpsSpec)

/-- 'quilllaw05.MathfnPowers', WHERE WHAT IT READS IS OF BULK AT MOST 1048576: true; the input reads as it did. -/
def mathfnPowersUptoRow : OpenClaim := { program := "ytablfkgeobnnpaa", sum := "eed685c50b053f49caa7cd211ea26a49788a603f0b9788876e06e481e85cedfe", func := "quill/quilllaw05.MathfnPowers", spec := "mathfnPowers", inPlace := ["math.Float64frombits", "math.Float64bits", "math.archTrunc", "math.archFloor"], apart := false, narrowed := true }
def MathfnPowersUptoSaid : Prop := mathfnPowersUptoRow.holds Try.pinned (OpenSpec.upto mathfnPowersSpec)

/-- 'quilllaw05.MathfnWhole', WHERE WHAT IT READS IS OF BULK AT MOST 1048576: true; the input reads as it did. -/
def mathfnWholeUptoRow : OpenClaim := { program := "ytablfkgeobnnpaa", sum := "eed685c50b053f49caa7cd211ea26a49788a603f0b9788876e06e481e85cedfe", func := "quill/quilllaw05.MathfnWhole", spec := "mathfnWhole", inPlace := ["math.Float64bits", "math.Float64frombits", "math.archTrunc", "math.archFloor"], apart := false, narrowed := true }
def MathfnWholeUptoSaid : Prop := mathfnWholeUptoRow.holds Try.pinned (OpenSpec.upto mathfnWholeSpec)

/-- 'quilllaw05.MathfnPoints', WHERE WHAT IT READS IS OF BULK AT MOST 1048576: true; the input reads as it did. -/
def mathfnPointsUptoRow : OpenClaim := { program := "ytablfkgeobnnpaa", sum := "eed685c50b053f49caa7cd211ea26a49788a603f0b9788876e06e481e85cedfe", func := "quill/quilllaw05.MathfnPoints", spec := "mathfnPoints", inPlace := ["math.Float64frombits", "math.Float64bits", "math.archTrunc", "math.archFloor"], apart := false, narrowed := true }
def MathfnPointsUptoSaid : Prop := mathfnPointsUptoRow.holds Try.pinned (OpenSpec.upto mathfnPointsSpec)

/-- 'quilllaw05.MathfnAngles', WHERE WHAT IT READS IS OF BULK AT MOST 1048576: true; the input reads as it did. -/
def mathfnAnglesUptoRow : OpenClaim := { program := "ytablfkgeobnnpaa", sum := "eed685c50b053f49caa7cd211ea26a49788a603f0b9788876e06e481e85cedfe", func := "quill/quilllaw05.MathfnAngles", spec := "mathfnAngles", inPlace := ["math.Float64bits", "math.Float64frombits", "math.archTrunc", "math.archFloor"], unfollowed := true, recurses := true, apart := false, narrowed := true }
def MathfnAnglesUptoSaid : Prop := mathfnAnglesUptoRow.holds Try.pinned (OpenSpec.upto mathfnAnglesSpec)

/-- 'quilllaw05.MathfnSigns', WHERE WHAT IT READS IS OF BULK AT MOST 1048576: true; the input reads as it did. -/
def mathfnSignsUptoRow : OpenClaim := { program := "ytablfkgeobnnpaa", sum := "eed685c50b053f49caa7cd211ea26a49788a603f0b9788876e06e481e85cedfe", func := "quill/quilllaw05.MathfnSigns", spec := "mathfnSigns", inPlace := ["math.Float64frombits", "math.Float64bits", "math.archTrunc", "math.archFloor", "math.sqrt"], apart := false, narrowed := true }
def MathfnSignsUptoSaid : Prop := mathfnSignsUptoRow.holds Try.pinned (OpenSpec.upto mathfnSignsSpec)

/-- 'quilllaw05.MathfnArcs', WHERE WHAT IT READS IS OF BULK AT MOST 1048576: true; the input reads as it did. -/
def mathfnArcsUptoRow : OpenClaim := { program := "ytablfkgeobnnpaa", sum := "eed685c50b053f49caa7cd211ea26a49788a603f0b9788876e06e481e85cedfe", func := "quill/quilllaw05.MathfnArcs", spec := "mathfnArcs", inPlace := ["math.Float64frombits", "math.Float64bits", "math.sqrt", "math.archTrunc", "math.archFloor"], apart := false, narrowed := true }
def MathfnArcsUptoSaid : Prop := mathfnArcsUptoRow.holds Try.pinned (OpenSpec.upto mathfnArcsSpec)

end Rows
end Go.Proofs.Ytablfkgeobnnpaa
