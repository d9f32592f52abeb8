/-
  No cell of these rows narrows 'for every input' (looked for: loops, veiled, ifaces, maps, wideKeys, modest, calm, conditions, laid).
  DERIVED. THE GIVEN ROWS OF THIS SEAT. 8 by the template 'for every input the law returns true; each argument reads behind the call as it read before'; 0 by the template 'total and deterministic' (their statements: YtbmadhdeikoecaaTotals.lean).
  GIVEN WITH THE SEED: the statements are not yours to turn. If you find one false, say at which input.
  Laid BY PROGRAM, IN A SANDBOX (cutbox-rows.mjs): the forced cells as the released guide's own fill.sh prints them over the translation 09f13327f497b042… (all of the seat's roots in one cut). By AI agents, Wed Nov 11 2026. No macro, syntax, notation, axiom, sorry.
-/
import Derived.Test.YtbmadhdeikoecaaChecked
import GoSem.Claim
import GoSem.ClaimJoined
import GoSem.ClaimMapViews
import Derived.JoinedTies
import Derived.KernelRfl
namespace Go.Proofs.Ytbmadhdeikoecaa
/- THE CELL 'sum', in the pinned program and in every row, IS THE sha256 OF THE DUMP (.gsa) THAT YtbmadhdeikoecaaProg.lean LOADS. Nothing in Lean hashes anything: it is a label: what it is worth is what the hold of that sum in a sandbox is worth. -/
noncomputable def Try.pinned : Pinned := { name := "ytbmadhdeikoecaa", sum := "09f13327f497b0425ce3c311eefcf6233d71ba7c5d308666d21910727df6c2b4", checked := Try.checked }
namespace Rows
def none {H : Type} : Left H := { results := [], args := [] }

/-- 'quilllaw02.BignumPowers': WHATEVER THE INPUT: true; the input reads as it did. -/
def bignumPowersSpec : ChangeSpec := { name := "bignumPowers", fn := fun _ => fun
  | [d1, d2] => { results := [.lit (.bool true)], args := [d1, d2] }
  | _ => none }
def bignumPowersRow : OpenClaim := { program := "ytbmadhdeikoecaa", sum := "09f13327f497b0425ce3c311eefcf6233d71ba7c5d308666d21910727df6c2b4", func := "quill/quilllaw02.BignumPowers", spec := "bignumPowers", unfollowed := true, recurses := true, apart := false }
def BignumPowersSaid : Prop := bignumPowersRow.holds Try.pinned (OpenSpec.ofChange bignumPowersSpec)

/-- ITS FALSE NEIGHBOUR: 'it returns false'. Refute it at one input. -/
def bignumPowersWrong : ChangeSpec := { name := "bignumPowers", fn := fun _ => fun
  | [d1, d2] => { results := [.lit (.bool false)], args := [d1, d2] }
  | _ => none }
def BignumPowersWrongFalsely : Prop := bignumPowersRow.holds Try.pinned (OpenSpec.ofChange bignumPowersWrong)

/-- 'quilllaw02.BignumNorms': WHATEVER THE INPUT: true; the input reads as it did. -/
def bignumNormsSpec : ChangeSpec := { name := "bignumNorms", fn := fun _ => fun
  | [d1, d2, d3] => { results := [.lit (.bool true)], args := [d1, d2, d3] }
  | _ => none }
def bignumNormsRow : OpenClaim := { program := "ytbmadhdeikoecaa", sum := "09f13327f497b0425ce3c311eefcf6233d71ba7c5d308666d21910727df6c2b4", func := "quill/quilllaw02.BignumNorms", spec := "bignumNorms", unfollowed := true, recurses := true, apart := false }
def BignumNormsSaid : Prop := bignumNormsRow.holds Try.pinned (OpenSpec.ofChange bignumNormsSpec)

/-- ITS FALSE NEIGHBOUR: 'it returns false'. Refute it at one input. -/
def bignumNormsWrong : ChangeSpec := { name := "bignumNorms", fn := fun _ => fun
  | [d1, d2, d3] => { results := [.lit (.bool false)], args := [d1, d2, d3] }
  | _ => none }
def BignumNormsWrongFalsely : Prop := bignumNormsRow.holds Try.pinned (OpenSpec.ofChange bignumNormsWrong)

/-- 'quilllaw02.BignumSums': WHATEVER THE INPUT: true; the input reads as it did. -/
def bignumSumsSpec : ChangeSpec := { name := "bignumSums", fn := fun _ => fun
  | [d1, d2] => { results := [.lit (.bool true)], args := [d1, d2] }
  | _ => none }
def bignumSumsRow : OpenClaim := { program := "ytbmadhdeikoecaa", sum := "09f13327f497b0425ce3c311eefcf6233d71ba7c5d308666d21910727df6c2b4", func := "quill/quilllaw02.BignumSums", spec := "bignumSums", unfollowed := true, recurses := true, apart := false }
def BignumSumsSaid : Prop := bignumSumsRow.holds Try.pinned (OpenSpec.ofChange bignumSumsSpec)

/-- ITS FALSE NEIGHBOUR: 'it returns false'. Refute it at one input. -/
def bignumSumsWrong : ChangeSpec := { name := "bignumSums", fn := fun _ => fun
  | [d1, d2] => { results := [.lit (.bool false)], args := [d1, d2] }
  | _ => none }
def BignumSumsWrongFalsely : Prop := bignumSumsRow.holds Try.pinned (OpenSpec.ofChange bignumSumsWrong)

/-- 'quilllaw02.BignumShifts': WHATEVER THE INPUT: true; the input reads as it did. -/
def bignumShiftsSpec : ChangeSpec := { name := "bignumShifts", fn := fun _ => fun
  | [d1, d2] => { results := [.lit (.bool true)], args := [d1, d2] }
  | _ => none }
def bignumShiftsRow : OpenClaim := { program := "ytbmadhdeikoecaa", sum := "09f13327f497b0425ce3c311eefcf6233d71ba7c5d308666d21910727df6c2b4", func := "quill/quilllaw02.BignumShifts", spec := "bignumShifts", unfollowed := true, recurses := true, apart := false }
def BignumShiftsSaid : Prop := bignumShiftsRow.holds Try.pinned (OpenSpec.ofChange bignumShiftsSpec)

/-- ITS FALSE NEIGHBOUR: 'it returns false'. Refute it at one input. -/
def bignumShiftsWrong : ChangeSpec := { name := "bignumShifts", fn := fun _ => fun
  | [d1, d2] => { results := [.lit (.bool false)], args := [d1, d2] }
  | _ => none }
def BignumShiftsWrongFalsely : Prop := bignumShiftsRow.holds Try.pinned (OpenSpec.ofChange bignumShiftsWrong)

/-- 'quilllaw02.BignumRing': WHATEVER THE INPUT: true; the input reads as it did. -/
def bignumRingSpec : ChangeSpec := { name := "bignumRing", fn := fun _ => fun
  | [d1, d2, d3] => { results := [.lit (.bool true)], args := [d1, d2, d3] }
  | _ => none }
def bignumRingRow : OpenClaim := { program := "ytbmadhdeikoecaa", sum := "09f13327f497b0425ce3c311eefcf6233d71ba7c5d308666d21910727df6c2b4", func := "quill/quilllaw02.BignumRing", spec := "bignumRing", unfollowed := true, recurses := true, apart := false }
def BignumRingSaid : Prop := bignumRingRow.holds Try.pinned (OpenSpec.ofChange bignumRingSpec)

/-- ITS FALSE NEIGHBOUR: 'it returns false'. Refute it at one input. -/
def bignumRingWrong : ChangeSpec := { name := "bignumRing", fn := fun _ => fun
  | [d1, d2, d3] => { results := [.lit (.bool false)], args := [d1, d2, d3] }
  | _ => none }
def BignumRingWrongFalsely : Prop := bignumRingRow.holds Try.pinned (OpenSpec.ofChange bignumRingWrong)

/-- 'quilllaw02.BignumTexts': WHATEVER THE INPUT: true; the input reads as it did. -/
def bignumTextsSpec : ChangeSpec := { name := "bignumTexts", fn := fun _ => fun
  | [d1, d2, d3] => { results := [.lit (.bool true)], args := [d1, d2, d3] }
  | _ => none }
def bignumTextsRow : OpenClaim := { program := "ytbmadhdeikoecaa", sum := "09f13327f497b0425ce3c311eefcf6233d71ba7c5d308666d21910727df6c2b4", func := "quill/quilllaw02.BignumTexts", spec := "bignumTexts", unfollowed := true, recurses := true, apart := false }
def BignumTextsSaid : Prop := bignumTextsRow.holds Try.pinned (OpenSpec.ofChange bignumTextsSpec)

/-- ITS FALSE NEIGHBOUR: 'it returns false'. Refute it at one input. -/
def bignumTextsWrong : ChangeSpec := { name := "bignumTexts", fn := fun _ => fun
  | [d1, d2, d3] => { results := [.lit (.bool false)], args := [d1, d2, d3] }
  | _ => none }
def BignumTextsWrongFalsely : Prop := bignumTextsRow.holds Try.pinned (OpenSpec.ofChange bignumTextsWrong)

/-- 'quilllaw02.BignumProducts': WHATEVER THE INPUT: true; the input reads as it did. -/
def bignumProductsSpec : ChangeSpec := { name := "bignumProducts", fn := fun _ => fun
  | [d1, d2] => { results := [.lit (.bool true)], args := [d1, d2] }
  | _ => none }
def bignumProductsRow : OpenClaim := { program := "ytbmadhdeikoecaa", sum := "09f13327f497b0425ce3c311eefcf6233d71ba7c5d308666d21910727df6c2b4", func := "quill/quilllaw02.BignumProducts", spec := "bignumProducts", unfollowed := true, recurses := true, apart := false }
def BignumProductsSaid : Prop := bignumProductsRow.holds Try.pinned (OpenSpec.ofChange bignumProductsSpec)

/-- ITS FALSE NEIGHBOUR: 'it returns false'. Refute it at one input. -/
def bignumProductsWrong : ChangeSpec := { name := "bignumProducts", fn := fun _ => fun
  | [d1, d2] => { results := [.lit (.bool false)], args := [d1, d2] }
  | _ => none }
def BignumProductsWrongFalsely : Prop := bignumProductsRow.holds Try.pinned (OpenSpec.ofChange bignumProductsWrong)

/-- 'quilllaw02.BignumRests': WHATEVER THE INPUT: true; the input reads as it did. -/
def bignumRestsSpec : ChangeSpec := { name := "bignumRests", fn := fun _ => fun
  | [d1, d2, d3] => { results := [.lit (.bool true)], args := [d1, d2, d3] }
  | _ => none }
def bignumRestsRow : OpenClaim := { program := "ytbmadhdeikoecaa", sum := "09f13327f497b0425ce3c311eefcf6233d71ba7c5d308666d21910727df6c2b4", func := "quill/quilllaw02.BignumRests", spec := "bignumRests", unfollowed := true, recurses := true, apart := false }
def BignumRestsSaid : Prop := bignumRestsRow.holds Try.pinned (OpenSpec.ofChange bignumRestsSpec)

/-- ITS FALSE NEIGHBOUR: 'it returns false'. Refute it at one input. -/
def bignumRestsWrong : ChangeSpec := { name := "bignumRests", fn := fun _ => fun
  | [d1, d2, d3] => { results := [.lit (.bool false)], args := [d1, d2, d3] }
  | _ => none }
def BignumRestsWrongFalsely : Prop := bignumRestsRow.holds Try.pinned (OpenSpec.ofChange bignumRestsWrong)

/- THE SECOND FORM. 'bulk': how many values and letters a reading holds, each counted each time it is reached (what is shared counts as often as it is met; a slice's spare places count too). A statement '..UptoSaid' is the law's where the arguments, and the package variables that the reading takes, are together of bulk at most 1048576: NARROWER than '..Said'. Prove '..Said' where nothing that the law and all that it calls make is longer than what came in: it says more and counts as full. Else prove '..UptoSaid'. A law counts once. -/
mutual
def uptoBulk {H : Type} : DataW H → Nat
  | .lit (.string bytes) => bytes.length + 1
  | .lit _ => 1
  | .nil => 1
  | .ptr d => uptoBulk d + 1
  | .slice elems spare => uptoBulkAll elems + uptoBulkAll spare + 1
  | .agg parts => uptoBulkAll parts + 1
  | .iface _ d => uptoBulk d + 1
  | .map entries => uptoBulkEntries entries + 1
  | .held _ => 1
def uptoBulkAll {H : Type} : List (DataW H) → Nat
  | [] => 0
  | d :: r => uptoBulk d + uptoBulkAll r
def uptoBulkEntries {H : Type} : List (Lit × DataW H) → Nat
  | [] => 0
  | x :: r => uptoBulkEntry x + uptoBulkEntries r
def uptoBulkEntry {H : Type} : Lit × DataW H → Nat
  | (.string bytes, d) => bytes.length + uptoBulk d + 1
  | (_, d) => uptoBulk d + 1
 end
def uptoSmall : (H : Type) → List (DataW H) → Bool := fun _ ds => decide (uptoBulkAll ds ≤ 1048576)
def OpenSpec.upto (s : _root_.Go.ChangeSpec) : _root_.Go.OpenSpec := { _root_.Go.OpenSpec.ofChange s with cond := some uptoSmall }

/-- 'quilllaw02.BignumPowers', WHERE WHAT IT READS IS OF BULK AT MOST 1048576: true; the input reads as it did. -/
def bignumPowersUptoRow : OpenClaim := { program := "ytbmadhdeikoecaa", sum := "09f13327f497b0425ce3c311eefcf6233d71ba7c5d308666d21910727df6c2b4", func := "quill/quilllaw02.BignumPowers", spec := "bignumPowers", unfollowed := true, recurses := true, apart := false, narrowed := true }
def BignumPowersUptoSaid : Prop := bignumPowersUptoRow.holds Try.pinned (OpenSpec.upto bignumPowersSpec)

/-- 'quilllaw02.BignumNorms', WHERE WHAT IT READS IS OF BULK AT MOST 1048576: true; the input reads as it did. -/
def bignumNormsUptoRow : OpenClaim := { program := "ytbmadhdeikoecaa", sum := "09f13327f497b0425ce3c311eefcf6233d71ba7c5d308666d21910727df6c2b4", func := "quill/quilllaw02.BignumNorms", spec := "bignumNorms", unfollowed := true, recurses := true, apart := false, narrowed := true }
def BignumNormsUptoSaid : Prop := bignumNormsUptoRow.holds Try.pinned (OpenSpec.upto bignumNormsSpec)

/-- 'quilllaw02.BignumSums', WHERE WHAT IT READS IS OF BULK AT MOST 1048576: true; the input reads as it did. -/
def bignumSumsUptoRow : OpenClaim := { program := "ytbmadhdeikoecaa", sum := "09f13327f497b0425ce3c311eefcf6233d71ba7c5d308666d21910727df6c2b4", func := "quill/quilllaw02.BignumSums", spec := "bignumSums", unfollowed := true, recurses := true, apart := false, narrowed := true }
def BignumSumsUptoSaid : Prop := bignumSumsUptoRow.holds Try.pinned (OpenSpec.upto bignumSumsSpec)

/-- 'quilllaw02.BignumShifts', WHERE WHAT IT READS IS OF BULK AT MOST 1048576: true; the input reads as it did. -/
def bignumShiftsUptoRow : OpenClaim := { program := "ytbmadhdeikoecaa", sum := "09f13327f497b0425ce3c311eefcf6233d71ba7c5d308666d21910727df6c2b4", func := "quill/quilllaw02.BignumShifts", spec := "bignumShifts", unfollowed := true, recurses := true, apart := false, narrowed := true }
def BignumShiftsUptoSaid : Prop := bignumShiftsUptoRow.holds Try.pinned (OpenSpec.upto bignumShiftsSpec)

/-- 'quilllaw02.BignumRing', WHERE WHAT IT READS IS OF BULK AT MOST 1048576: true; the input reads as it did. -/
def bignumRingUptoRow : OpenClaim := { program := "ytbmadhdeikoecaa", sum := "09f13327f497b0425ce3c311eefcf6233d71ba7c5d308666d21910727df6c2b4", func := "quill/quilllaw02.BignumRing", spec := "bignumRing", unfollowed := true, recurses := true, apart := false, narrowed := true }
def BignumRingUptoSaid : Prop := bignumRingUptoRow.holds Try.pinned (OpenSpec.upto bignumRingSpec)

/-- 'quilllaw02.BignumTexts', WHERE WHAT IT READS IS OF BULK AT MOST 1048576: true; the input reads as it did. -/
def bignumTextsUptoRow : OpenClaim := { program := "ytbmadhdeikoecaa", sum := "09f13327f497b0425ce3c311eefcf6233d71ba7c5d308666d21910727df6c2b4", func := "quill/quilllaw02.BignumTexts", spec := "bignumTexts", unfollowed := true, recurses := true, apart := false, narrowed := true }
def BignumTextsUptoSaid : Prop := bignumTextsUptoRow.holds Try.pinned (OpenSpec.upto bignumTextsSpec)

/-- 'quilllaw02.BignumProducts', WHERE WHAT IT READS IS OF BULK AT MOST 1048576: true; the input reads as it did. -/
def bignumProductsUptoRow : OpenClaim := { program := "ytbmadhdeikoecaa", sum := "09f13327f497b0425ce3c311eefcf6233d71ba7c5d308666d21910727df6c2b4", func := "quill/quilllaw02.BignumProducts", spec := "bignumProducts", unfollowed := true, recurses := true, apart := false, narrowed := true }
def BignumProductsUptoSaid : Prop := bignumProductsUptoRow.holds Try.pinned (OpenSpec.upto bignumProductsSpec)

/-- 'quilllaw02.BignumRests', WHERE WHAT IT READS IS OF BULK AT MOST 1048576: true; the input reads as it did. -/
def bignumRestsUptoRow : OpenClaim := { program := "ytbmadhdeikoecaa", sum := "09f13327f497b0425ce3c311eefcf6233d71ba7c5d308666d21910727df6c2b4", func := "quill/quilllaw02.BignumRests", spec := "bignumRests", unfollowed := true, recurses := true, apart := false, narrowed := true }
def BignumRestsUptoSaid : Prop := bignumRestsUptoRow.holds Try.pinned (OpenSpec.upto bignumRestsSpec)

end Rows
end Go.Proofs.Ytbmadhdeikoecaa
