/-
  NARROWER THAN 'FOR EVERY INPUT', by the rows' own cells (each row's printed sentence says how): UstrDecodes: laid · UstrEncodes: laid · UstrBack: laid · UstrParts: laid · UstrClasses: laid · UstrUnits: laid · UstrLetters: laid · UstrPlaces: laid · UstrRepeats: laid · UstrSplits: laid · UstrWhole: laid.
  DERIVED. THE GIVEN ROWS OF THIS SEAT. 11 by the template 'for every input the law returns true; each argument reads behind the call as it read before'; 0 by the template 'total and deterministic' (their statements: YtnmhaemjffcjaaaDoorTotals.lean).
  GIVEN WITH THE SEED: the statements are not yours to turn. If you find one false, say at which input.
  Laid BY PROGRAM, IN A SANDBOX (cutbox-rows.mjs): the forced cells as the released guide's own fill.sh prints them over the translation c64048bccbd6f049… (all of the seat's roots in one cut). By AI agents, Wed Nov 11 2026. No macro, syntax, notation, axiom, sorry.
-/
import Derived.Test.YtnmhaemjffcjaaaDoorChecked
import GoSem.PinnedTables
import GoSem.Claim
import GoSem.ClaimJoined
import GoSem.ClaimMapViews
import Derived.JoinedTies
import Derived.KernelRfl
namespace Go.Proofs.YtnmhaemjffcjaaaDoor
/- THE CELL 'sum', in the pinned program and in every row, IS THE sha256 OF THE DUMP (.gsa) THAT YtnmhaemjffcjaaaDoorProg.lean LOADS. Nothing in Lean hashes anything: it is a label: what it is worth is what the hold of that sum in a sandbox is worth. -/
noncomputable def Tryd.pinned : Pinned := { name := "ytnmhaemjffcjaaadoor", sum := "c64048bccbd6f049d35f89f8197e9223573e7093d7cce73cd6ec84225bb2c303", checked := Tryd.checked }
namespace Rows
def none {H : Type} : Left H := { results := [], args := [] }

/- WHAT THE LISTED PACKAGE-LEVEL VARIABLES READ AS WHEN THE CALL BEGINS. Each datum BY PROGRAM (the guide's laid-datum.mjs) off the statement by which the dump's own 'gosem.cut.vars' lays the variable. In a bare row this is a premise. The card (YtnmhaemjffcjaaaDoorCards.lean) ties it to the program's text. -/
def laid_unicode_utf8_acceptRanges {H : Type} : DataW H := .agg [.agg [.lit (.int .u8 128), .lit (.int .u8 191)], .agg [.lit (.int .u8 160), .lit (.int .u8 191)], .agg [.lit (.int .u8 128), .lit (.int .u8 159)], .agg [.lit (.int .u8 144), .lit (.int .u8 191)], .agg [.lit (.int .u8 128), .lit (.int .u8 143)], .agg [.lit (.int .u8 0), .lit (.int .u8 0)], .agg [.lit (.int .u8 0), .lit (.int .u8 0)], .agg [.lit (.int .u8 0), .lit (.int .u8 0)], .agg [.lit (.int .u8 0), .lit (.int .u8 0)], .agg [.lit (.int .u8 0), .lit (.int .u8 0)], .agg [.lit (.int .u8 0), .lit (.int .u8 0)], .agg [.lit (.int .u8 0), .lit (.int .u8 0)], .agg [.lit (.int .u8 0), .lit (.int .u8 0)], .agg [.lit (.int .u8 0), .lit (.int .u8 0)], .agg [.lit (.int .u8 0), .lit (.int .u8 0)], .agg [.lit (.int .u8 0), .lit (.int .u8 0)]]
/-- One of Go's own tables, pinned by name: the form's constant. -/
def laid_unicode_utf8_first : DataW Unit := Go.Pinned.utf8First

/-- 'quilllaw01.UstrDecodes': WHATEVER THE INPUT: true; the input reads as it did. -/
def ustrDecodesSpec : ChangeSpec := { name := "ustrDecodes", fn := fun _ => fun
  | [d] => { results := [.lit (.bool true)], args := [d] }
  | _ => none }
def ustrDecodesRow : OpenClaim := { program := "ytnmhaemjffcjaaadoor", sum := "c64048bccbd6f049d35f89f8197e9223573e7093d7cce73cd6ec84225bb2c303", func := "quill/quilllaw01.UstrDecodes", spec := "ustrDecodes", named := ["unicode/utf8.first", "unicode/utf8.acceptRanges"], apart := false, laid := [("unicode/utf8.acceptRanges", laid_unicode_utf8_acceptRanges), ("unicode/utf8.first", laid_unicode_utf8_first)] }
def UstrDecodesSaid : Prop := ustrDecodesRow.holds Tryd.pinned (OpenSpec.ofChange ustrDecodesSpec)

/-- ITS FALSE NEIGHBOUR: 'it returns false'. Refute it at one input. -/
def ustrDecodesWrong : ChangeSpec := { name := "ustrDecodes", fn := fun _ => fun
  | [d] => { results := [.lit (.bool false)], args := [d] }
  | _ => none }
def UstrDecodesWrongFalsely : Prop := ustrDecodesRow.holds Tryd.pinned (OpenSpec.ofChange ustrDecodesWrong)

/-- 'quilllaw01.UstrEncodes': WHATEVER THE INPUT: true; the input reads as it did. -/
def ustrEncodesSpec : ChangeSpec := { name := "ustrEncodes", fn := fun _ => fun
  | [d] => { results := [.lit (.bool true)], args := [d] }
  | _ => none }
def ustrEncodesRow : OpenClaim := { program := "ytnmhaemjffcjaaadoor", sum := "c64048bccbd6f049d35f89f8197e9223573e7093d7cce73cd6ec84225bb2c303", func := "quill/quilllaw01.UstrEncodes", spec := "ustrEncodes", named := ["unicode/utf8.first", "unicode/utf8.acceptRanges"], apart := false, laid := [("unicode/utf8.acceptRanges", laid_unicode_utf8_acceptRanges), ("unicode/utf8.first", laid_unicode_utf8_first)] }
def UstrEncodesSaid : Prop := ustrEncodesRow.holds Tryd.pinned (OpenSpec.ofChange ustrEncodesSpec)

/-- ITS FALSE NEIGHBOUR: 'it returns false'. Refute it at one input. -/
def ustrEncodesWrong : ChangeSpec := { name := "ustrEncodes", fn := fun _ => fun
  | [d] => { results := [.lit (.bool false)], args := [d] }
  | _ => none }
def UstrEncodesWrongFalsely : Prop := ustrEncodesRow.holds Tryd.pinned (OpenSpec.ofChange ustrEncodesWrong)

/-- 'quilllaw01.UstrBack': WHATEVER THE INPUT: true; the input reads as it did. -/
def ustrBackSpec : ChangeSpec := { name := "ustrBack", fn := fun _ => fun
  | [d1, d2] => { results := [.lit (.bool true)], args := [d1, d2] }
  | _ => none }
def ustrBackRow : OpenClaim := { program := "ytnmhaemjffcjaaadoor", sum := "c64048bccbd6f049d35f89f8197e9223573e7093d7cce73cd6ec84225bb2c303", func := "quill/quilllaw01.UstrBack", spec := "ustrBack", named := ["unicode/utf8.first", "unicode/utf8.acceptRanges"], apart := false, laid := [("unicode/utf8.acceptRanges", laid_unicode_utf8_acceptRanges), ("unicode/utf8.first", laid_unicode_utf8_first)] }
def UstrBackSaid : Prop := ustrBackRow.holds Tryd.pinned (OpenSpec.ofChange ustrBackSpec)

/-- ITS FALSE NEIGHBOUR: 'it returns false'. Refute it at one input. -/
def ustrBackWrong : ChangeSpec := { name := "ustrBack", fn := fun _ => fun
  | [d1, d2] => { results := [.lit (.bool false)], args := [d1, d2] }
  | _ => none }
def UstrBackWrongFalsely : Prop := ustrBackRow.holds Tryd.pinned (OpenSpec.ofChange ustrBackWrong)

/-- 'quilllaw01.UstrParts': WHATEVER THE INPUT: true; the input reads as it did. -/
def ustrPartsSpec : ChangeSpec := { name := "ustrParts", fn := fun _ => fun
  | [d1, d2, d3] => { results := [.lit (.bool true)], args := [d1, d2, d3] }
  | _ => none }
def ustrPartsRow : OpenClaim := { program := "ytnmhaemjffcjaaadoor", sum := "c64048bccbd6f049d35f89f8197e9223573e7093d7cce73cd6ec84225bb2c303", func := "quill/quilllaw01.UstrParts", spec := "ustrParts", named := ["unicode/utf8.first", "unicode/utf8.acceptRanges"], apart := false, laid := [("unicode/utf8.acceptRanges", laid_unicode_utf8_acceptRanges), ("unicode/utf8.first", laid_unicode_utf8_first)] }
def UstrPartsSaid : Prop := ustrPartsRow.holds Tryd.pinned (OpenSpec.ofChange ustrPartsSpec)

/-- ITS FALSE NEIGHBOUR: 'it returns false'. Refute it at one input. -/
def ustrPartsWrong : ChangeSpec := { name := "ustrParts", fn := fun _ => fun
  | [d1, d2, d3] => { results := [.lit (.bool false)], args := [d1, d2, d3] }
  | _ => none }
def UstrPartsWrongFalsely : Prop := ustrPartsRow.holds Tryd.pinned (OpenSpec.ofChange ustrPartsWrong)

/-- 'quilllaw01.UstrClasses': WHATEVER THE INPUT: true; the input reads as it did. -/
def ustrClassesSpec : ChangeSpec := { name := "ustrClasses", fn := fun _ => fun
  | [d] => { results := [.lit (.bool true)], args := [d] }
  | _ => none }
def ustrClassesRow : OpenClaim := { program := "ytnmhaemjffcjaaadoor", sum := "c64048bccbd6f049d35f89f8197e9223573e7093d7cce73cd6ec84225bb2c303", func := "quill/quilllaw01.UstrClasses", spec := "ustrClasses", named := ["unicode/utf8.first", "unicode/utf8.acceptRanges"], apart := false, laid := [("unicode/utf8.acceptRanges", laid_unicode_utf8_acceptRanges), ("unicode/utf8.first", laid_unicode_utf8_first)] }
def UstrClassesSaid : Prop := ustrClassesRow.holds Tryd.pinned (OpenSpec.ofChange ustrClassesSpec)

/-- ITS FALSE NEIGHBOUR: 'it returns false'. Refute it at one input. -/
def ustrClassesWrong : ChangeSpec := { name := "ustrClasses", fn := fun _ => fun
  | [d] => { results := [.lit (.bool false)], args := [d] }
  | _ => none }
def UstrClassesWrongFalsely : Prop := ustrClassesRow.holds Tryd.pinned (OpenSpec.ofChange ustrClassesWrong)

/-- 'quilllaw01.UstrUnits': WHATEVER THE INPUT: true; the input reads as it did. -/
def ustrUnitsSpec : ChangeSpec := { name := "ustrUnits", fn := fun _ => fun
  | [d1, d2, d3] => { results := [.lit (.bool true)], args := [d1, d2, d3] }
  | _ => none }
def ustrUnitsRow : OpenClaim := { program := "ytnmhaemjffcjaaadoor", sum := "c64048bccbd6f049d35f89f8197e9223573e7093d7cce73cd6ec84225bb2c303", func := "quill/quilllaw01.UstrUnits", spec := "ustrUnits", named := ["unicode/utf8.first", "unicode/utf8.acceptRanges"], apart := false, laid := [("unicode/utf8.acceptRanges", laid_unicode_utf8_acceptRanges), ("unicode/utf8.first", laid_unicode_utf8_first)] }
def UstrUnitsSaid : Prop := ustrUnitsRow.holds Tryd.pinned (OpenSpec.ofChange ustrUnitsSpec)

/-- ITS FALSE NEIGHBOUR: 'it returns false'. Refute it at one input. -/
def ustrUnitsWrong : ChangeSpec := { name := "ustrUnits", fn := fun _ => fun
  | [d1, d2, d3] => { results := [.lit (.bool false)], args := [d1, d2, d3] }
  | _ => none }
def UstrUnitsWrongFalsely : Prop := ustrUnitsRow.holds Tryd.pinned (OpenSpec.ofChange ustrUnitsWrong)

/-- 'quilllaw01.UstrLetters': WHATEVER THE INPUT: true; the input reads as it did. -/
def ustrLettersSpec : ChangeSpec := { name := "ustrLetters", fn := fun _ => fun
  | [d] => { results := [.lit (.bool true)], args := [d] }
  | _ => none }
def ustrLettersRow : OpenClaim := { program := "ytnmhaemjffcjaaadoor", sum := "c64048bccbd6f049d35f89f8197e9223573e7093d7cce73cd6ec84225bb2c303", func := "quill/quilllaw01.UstrLetters", spec := "ustrLetters", named := ["unicode/utf8.first", "unicode/utf8.acceptRanges"], apart := false, laid := [("unicode/utf8.acceptRanges", laid_unicode_utf8_acceptRanges), ("unicode/utf8.first", laid_unicode_utf8_first)] }
def UstrLettersSaid : Prop := ustrLettersRow.holds Tryd.pinned (OpenSpec.ofChange ustrLettersSpec)

/-- ITS FALSE NEIGHBOUR: 'it returns false'. Refute it at one input. -/
def ustrLettersWrong : ChangeSpec := { name := "ustrLetters", fn := fun _ => fun
  | [d] => { results := [.lit (.bool false)], args := [d] }
  | _ => none }
def UstrLettersWrongFalsely : Prop := ustrLettersRow.holds Tryd.pinned (OpenSpec.ofChange ustrLettersWrong)

/-- 'quilllaw01.UstrPlaces': WHATEVER THE INPUT: true; the input reads as it did. -/
def ustrPlacesSpec : ChangeSpec := { name := "ustrPlaces", fn := fun _ => fun
  | [d1, d2, d3] => { results := [.lit (.bool true)], args := [d1, d2, d3] }
  | _ => none }
def ustrPlacesRow : OpenClaim := { program := "ytnmhaemjffcjaaadoor", sum := "c64048bccbd6f049d35f89f8197e9223573e7093d7cce73cd6ec84225bb2c303", func := "quill/quilllaw01.UstrPlaces", spec := "ustrPlaces", inPlace := ["internal/bytealg.IndexByteString", "internal/bytealg.IndexString"], named := ["internal/bytealg.MaxLen", "unicode/utf8.first", "unicode/utf8.acceptRanges"], apart := false, laid := [("unicode/utf8.acceptRanges", laid_unicode_utf8_acceptRanges), ("unicode/utf8.first", laid_unicode_utf8_first)] }
def UstrPlacesSaid : Prop := ustrPlacesRow.holds Tryd.pinned (OpenSpec.ofChange ustrPlacesSpec)

/-- ITS FALSE NEIGHBOUR: 'it returns false'. Refute it at one input. -/
def ustrPlacesWrong : ChangeSpec := { name := "ustrPlaces", fn := fun _ => fun
  | [d1, d2, d3] => { results := [.lit (.bool false)], args := [d1, d2, d3] }
  | _ => none }
def UstrPlacesWrongFalsely : Prop := ustrPlacesRow.holds Tryd.pinned (OpenSpec.ofChange ustrPlacesWrong)

/-- 'quilllaw01.UstrRepeats': WHATEVER THE INPUT: true; the input reads as it did. -/
def ustrRepeatsSpec : ChangeSpec := { name := "ustrRepeats", fn := fun _ => fun
  | [d1, d2, d3] => { results := [.lit (.bool true)], args := [d1, d2, d3] }
  | _ => none }
def ustrRepeatsRow : OpenClaim := { program := "ytnmhaemjffcjaaadoor", sum := "c64048bccbd6f049d35f89f8197e9223573e7093d7cce73cd6ec84225bb2c303", func := "quill/quilllaw01.UstrRepeats", spec := "ustrRepeats", inPlace := ["internal/abi.NoEscape", "internal/bytealg.MakeNoZero"], named := ["unicode/utf8.first", "unicode/utf8.acceptRanges"], apart := false, laid := [("unicode/utf8.acceptRanges", laid_unicode_utf8_acceptRanges), ("unicode/utf8.first", laid_unicode_utf8_first)] }
def UstrRepeatsSaid : Prop := ustrRepeatsRow.holds Tryd.pinned (OpenSpec.ofChange ustrRepeatsSpec)

/-- ITS FALSE NEIGHBOUR: 'it returns false'. Refute it at one input. -/
def ustrRepeatsWrong : ChangeSpec := { name := "ustrRepeats", fn := fun _ => fun
  | [d1, d2, d3] => { results := [.lit (.bool false)], args := [d1, d2, d3] }
  | _ => none }
def UstrRepeatsWrongFalsely : Prop := ustrRepeatsRow.holds Tryd.pinned (OpenSpec.ofChange ustrRepeatsWrong)

/-- 'quilllaw01.UstrSplits': WHATEVER THE INPUT: true; the input reads as it did. -/
def ustrSplitsSpec : ChangeSpec := { name := "ustrSplits", fn := fun _ => fun
  | [d1, d2, d3] => { results := [.lit (.bool true)], args := [d1, d2, d3] }
  | _ => none }
def ustrSplitsRow : OpenClaim := { program := "ytnmhaemjffcjaaadoor", sum := "c64048bccbd6f049d35f89f8197e9223573e7093d7cce73cd6ec84225bb2c303", func := "quill/quilllaw01.UstrSplits", spec := "ustrSplits", inPlace := ["internal/bytealg.IndexByteString", "internal/bytealg.IndexString", "internal/abi.NoEscape"], named := ["internal/bytealg.MaxLen", "unicode/utf8.first", "unicode/utf8.acceptRanges"], apart := false, laid := [("unicode/utf8.acceptRanges", laid_unicode_utf8_acceptRanges), ("unicode/utf8.first", laid_unicode_utf8_first)] }
def UstrSplitsSaid : Prop := ustrSplitsRow.holds Tryd.pinned (OpenSpec.ofChange ustrSplitsSpec)

/-- ITS FALSE NEIGHBOUR: 'it returns false'. Refute it at one input. -/
def ustrSplitsWrong : ChangeSpec := { name := "ustrSplits", fn := fun _ => fun
  | [d1, d2, d3] => { results := [.lit (.bool false)], args := [d1, d2, d3] }
  | _ => none }
def UstrSplitsWrongFalsely : Prop := ustrSplitsRow.holds Tryd.pinned (OpenSpec.ofChange ustrSplitsWrong)

/-- 'quilllaw01.UstrWhole': WHATEVER THE INPUT: true; the input reads as it did. -/
def ustrWholeSpec : ChangeSpec := { name := "ustrWhole", fn := fun _ => fun
  | [d1, d2, d3] => { results := [.lit (.bool true)], args := [d1, d2, d3] }
  | _ => none }
def ustrWholeRow : OpenClaim := { program := "ytnmhaemjffcjaaadoor", sum := "c64048bccbd6f049d35f89f8197e9223573e7093d7cce73cd6ec84225bb2c303", func := "quill/quilllaw01.UstrWhole", spec := "ustrWhole", inPlace := ["internal/bytealg.IndexByteString", "internal/bytealg.IndexString", "internal/abi.NoEscape"], named := ["unicode/utf8.first", "unicode/utf8.acceptRanges", "internal/bytealg.MaxLen"], apart := false, laid := [("unicode/utf8.acceptRanges", laid_unicode_utf8_acceptRanges), ("unicode/utf8.first", laid_unicode_utf8_first)] }
def UstrWholeSaid : Prop := ustrWholeRow.holds Tryd.pinned (OpenSpec.ofChange ustrWholeSpec)

/-- ITS FALSE NEIGHBOUR: 'it returns false'. Refute it at one input. -/
def ustrWholeWrong : ChangeSpec := { name := "ustrWhole", fn := fun _ => fun
  | [d1, d2, d3] => { results := [.lit (.bool false)], args := [d1, d2, d3] }
  | _ => none }
def UstrWholeWrongFalsely : Prop := ustrWholeRow.holds Tryd.pinned (OpenSpec.ofChange ustrWholeWrong)

/- THE SECOND FORM. 'bulk': how many values and letters a reading holds, each counted each time it is reached (what is shared counts as often as it is met; a slice's spare places count too). A statement '..UptoSaid' is the law's where the arguments, and the package variables that the reading takes, are together of bulk at most 1048576: NARROWER than '..Said'. Prove '..Said' where nothing that the law and all that it calls make is longer than what came in: it says more and counts as full. Else prove '..UptoSaid'. A law counts once. -/
mutual
def uptoBulk {H : Type} : DataW H → Nat
  | .lit (.string bytes) => bytes.length + 1
  | .lit _ => 1
  | .nil => 1
  | .ptr d => uptoBulk d + 1
  | .slice elems spare => uptoBulkAll elems + uptoBulkAll spare + 1
  | .agg parts => uptoBulkAll parts + 1
  | .iface _ d => uptoBulk d + 1
  | .map entries => uptoBulkEntries entries + 1
  | .held _ => 1
def uptoBulkAll {H : Type} : List (DataW H) → Nat
  | [] => 0
  | d :: r => uptoBulk d + uptoBulkAll r
def uptoBulkEntries {H : Type} : List (Lit × DataW H) → Nat
  | [] => 0
  | x :: r => uptoBulkEntry x + uptoBulkEntries r
def uptoBulkEntry {H : Type} : Lit × DataW H → Nat
  | (.string bytes, d) => bytes.length + uptoBulk d + 1
  | (_, d) => uptoBulk d + 1
 end
def uptoSmall : (H : Type) → List (DataW H) → Bool := fun _ ds => decide (uptoBulkAll ds ≤ 1048576)
def OpenSpec.upto (s : _root_.Go.ChangeSpec) : _root_.Go.OpenSpec := { _root_.Go.OpenSpec.ofChange s with cond := some uptoSmall }

/-- 'quilllaw01.UstrDecodes', WHERE WHAT IT READS IS OF BULK AT MOST 1048576: true; the input reads as it did. -/
def ustrDecodesUptoRow : OpenClaim := { program := "ytnmhaemjffcjaaadoor", sum := "c64048bccbd6f049d35f89f8197e9223573e7093d7cce73cd6ec84225bb2c303", func := "quill/quilllaw01.UstrDecodes", spec := "ustrDecodes", named := ["unicode/utf8.first", "unicode/utf8.acceptRanges"], apart := false, laid := [("unicode/utf8.acceptRanges", laid_unicode_utf8_acceptRanges), ("unicode/utf8.first", laid_unicode_utf8_first)], narrowed := true }
def UstrDecodesUptoSaid : Prop := ustrDecodesUptoRow.holds Tryd.pinned (OpenSpec.upto ustrDecodesSpec)

/-- 'quilllaw01.UstrEncodes', WHERE WHAT IT READS IS OF BULK AT MOST 1048576: true; the input reads as it did. -/
def ustrEncodesUptoRow : OpenClaim := { program := "ytnmhaemjffcjaaadoor", sum := "c64048bccbd6f049d35f89f8197e9223573e7093d7cce73cd6ec84225bb2c303", func := "quill/quilllaw01.UstrEncodes", spec := "ustrEncodes", named := ["unicode/utf8.first", "unicode/utf8.acceptRanges"], apart := false, laid := [("unicode/utf8.acceptRanges", laid_unicode_utf8_acceptRanges), ("unicode/utf8.first", laid_unicode_utf8_first)], narrowed := true }
def UstrEncodesUptoSaid : Prop := ustrEncodesUptoRow.holds Tryd.pinned (OpenSpec.upto ustrEncodesSpec)

/-- 'quilllaw01.UstrBack', WHERE WHAT IT READS IS OF BULK AT MOST 1048576: true; the input reads as it did. -/
def ustrBackUptoRow : OpenClaim := { program := "ytnmhaemjffcjaaadoor", sum := "c64048bccbd6f049d35f89f8197e9223573e7093d7cce73cd6ec84225bb2c303", func := "quill/quilllaw01.UstrBack", spec := "ustrBack", named := ["unicode/utf8.first", "unicode/utf8.acceptRanges"], apart := false, laid := [("unicode/utf8.acceptRanges", laid_unicode_utf8_acceptRanges), ("unicode/utf8.first", laid_unicode_utf8_first)], narrowed := true }
def UstrBackUptoSaid : Prop := ustrBackUptoRow.holds Tryd.pinned (OpenSpec.upto ustrBackSpec)

/-- 'quilllaw01.UstrParts', WHERE WHAT IT READS IS OF BULK AT MOST 1048576: true; the input reads as it did. -/
def ustrPartsUptoRow : OpenClaim := { program := "ytnmhaemjffcjaaadoor", sum := "c64048bccbd6f049d35f89f8197e9223573e7093d7cce73cd6ec84225bb2c303", func := "quill/quilllaw01.UstrParts", spec := "ustrParts", named := ["unicode/utf8.first", "unicode/utf8.acceptRanges"], apart := false, laid := [("unicode/utf8.acceptRanges", laid_unicode_utf8_acceptRanges), ("unicode/utf8.first", laid_unicode_utf8_first)], narrowed := true }
def UstrPartsUptoSaid : Prop := ustrPartsUptoRow.holds Tryd.pinned (OpenSpec.upto ustrPartsSpec)

/-- 'quilllaw01.UstrClasses', WHERE WHAT IT READS IS OF BULK AT MOST 1048576: true; the input reads as it did. -/
def ustrClassesUptoRow : OpenClaim := { program := "ytnmhaemjffcjaaadoor", sum := "c64048bccbd6f049d35f89f8197e9223573e7093d7cce73cd6ec84225bb2c303", func := "quill/quilllaw01.UstrClasses", spec := "ustrClasses", named := ["unicode/utf8.first", "unicode/utf8.acceptRanges"], apart := false, laid := [("unicode/utf8.acceptRanges", laid_unicode_utf8_acceptRanges), ("unicode/utf8.first", laid_unicode_utf8_first)], narrowed := true }
def UstrClassesUptoSaid : Prop := ustrClassesUptoRow.holds Tryd.pinned (OpenSpec.upto ustrClassesSpec)

/-- 'quilllaw01.UstrUnits', WHERE WHAT IT READS IS OF BULK AT MOST 1048576: true; the input reads as it did. -/
def ustrUnitsUptoRow : OpenClaim := { program := "ytnmhaemjffcjaaadoor", sum := "c64048bccbd6f049d35f89f8197e9223573e7093d7cce73cd6ec84225bb2c303", func := "quill/quilllaw01.UstrUnits", spec := "ustrUnits", named := ["unicode/utf8.first", "unicode/utf8.acceptRanges"], apart := false, laid := [("unicode/utf8.acceptRanges", laid_unicode_utf8_acceptRanges), ("unicode/utf8.first", laid_unicode_utf8_first)], narrowed := true }
def UstrUnitsUptoSaid : Prop := ustrUnitsUptoRow.holds Tryd.pinned (OpenSpec.upto ustrUnitsSpec)

/-- 'quilllaw01.UstrLetters', WHERE WHAT IT READS IS OF BULK AT MOST 1048576: true; the input reads as it did. -/
def ustrLettersUptoRow : OpenClaim := { program := "ytnmhaemjffcjaaadoor", sum := "c64048bccbd6f049d35f89f8197e9223573e7093d7cce73cd6ec84225bb2c303", func := "quill/quilllaw01.UstrLetters", spec := "ustrLetters", named := ["unicode/utf8.first", "unicode/utf8.acceptRanges"], apart := false, laid := [("unicode/utf8.acceptRanges", laid_unicode_utf8_acceptRanges), ("unicode/utf8.first", laid_unicode_utf8_first)], narrowed := true }
def UstrLettersUptoSaid : Prop := ustrLettersUptoRow.holds Tryd.pinned (OpenSpec.upto ustrLettersSpec)

/-- 'quilllaw01.UstrPlaces', WHERE WHAT IT READS IS OF BULK AT MOST 1048576: true; the input reads as it did. -/
def ustrPlacesUptoRow : OpenClaim := { program := "ytnmhaemjffcjaaadoor", sum := "c64048bccbd6f049d35f89f8197e9223573e7093d7cce73cd6ec84225bb2c303", func := "quill/quilllaw01.UstrPlaces", spec := "ustrPlaces", inPlace := ["internal/bytealg.IndexByteString", "internal/bytealg.IndexString"], named := ["internal/bytealg.MaxLen", "unicode/utf8.first", "unicode/utf8.acceptRanges"], apart := false, laid := [("unicode/utf8.acceptRanges", laid_unicode_utf8_acceptRanges), ("unicode/utf8.first", laid_unicode_utf8_first)], narrowed := true }
def UstrPlacesUptoSaid : Prop := ustrPlacesUptoRow.holds Tryd.pinned (OpenSpec.upto ustrPlacesSpec)

/-- 'quilllaw01.UstrRepeats', WHERE WHAT IT READS IS OF BULK AT MOST 1048576: true; the input reads as it did. -/
def ustrRepeatsUptoRow : OpenClaim := { program := "ytnmhaemjffcjaaadoor", sum := "c64048bccbd6f049d35f89f8197e9223573e7093d7cce73cd6ec84225bb2c303", func := "quill/quilllaw01.UstrRepeats", spec := "ustrRepeats", inPlace := ["internal/abi.NoEscape", "internal/bytealg.MakeNoZero"], named := ["unicode/utf8.first", "unicode/utf8.acceptRanges"], apart := false, laid := [("unicode/utf8.acceptRanges", laid_unicode_utf8_acceptRanges), ("unicode/utf8.first", laid_unicode_utf8_first)], narrowed := true }
def UstrRepeatsUptoSaid : Prop := ustrRepeatsUptoRow.holds Tryd.pinned (OpenSpec.upto ustrRepeatsSpec)

/-- 'quilllaw01.UstrSplits', WHERE WHAT IT READS IS OF BULK AT MOST 1048576: true; the input reads as it did. -/
def ustrSplitsUptoRow : OpenClaim := { program := "ytnmhaemjffcjaaadoor", sum := "c64048bccbd6f049d35f89f8197e9223573e7093d7cce73cd6ec84225bb2c303", func := "quill/quilllaw01.UstrSplits", spec := "ustrSplits", inPlace := ["internal/bytealg.IndexByteString", "internal/bytealg.IndexString", "internal/abi.NoEscape"], named := ["internal/bytealg.MaxLen", "unicode/utf8.first", "unicode/utf8.acceptRanges"], apart := false, laid := [("unicode/utf8.acceptRanges", laid_unicode_utf8_acceptRanges), ("unicode/utf8.first", laid_unicode_utf8_first)], narrowed := true }
def UstrSplitsUptoSaid : Prop := ustrSplitsUptoRow.holds Tryd.pinned (OpenSpec.upto ustrSplitsSpec)

/-- 'quilllaw01.UstrWhole', WHERE WHAT IT READS IS OF BULK AT MOST 1048576: true; the input reads as it did. -/
def ustrWholeUptoRow : OpenClaim := { program := "ytnmhaemjffcjaaadoor", sum := "c64048bccbd6f049d35f89f8197e9223573e7093d7cce73cd6ec84225bb2c303", func := "quill/quilllaw01.UstrWhole", spec := "ustrWhole", inPlace := ["internal/bytealg.IndexByteString", "internal/bytealg.IndexString", "internal/abi.NoEscape"], named := ["unicode/utf8.first", "unicode/utf8.acceptRanges", "internal/bytealg.MaxLen"], apart := false, laid := [("unicode/utf8.acceptRanges", laid_unicode_utf8_acceptRanges), ("unicode/utf8.first", laid_unicode_utf8_first)], narrowed := true }
def UstrWholeUptoSaid : Prop := ustrWholeUptoRow.holds Tryd.pinned (OpenSpec.upto ustrWholeSpec)

end Rows
end Go.Proofs.YtnmhaemjffcjaaaDoor
