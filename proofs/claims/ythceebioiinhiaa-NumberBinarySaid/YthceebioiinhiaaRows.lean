/-
  No cell of these rows narrows 'for every input' (looked for: loops, veiled, ifaces, maps, wideKeys, modest, calm, conditions, laid).
  DERIVED. THE GIVEN ROWS OF THIS SEAT. 9 by the template 'for every input the law returns true; each argument reads behind the call as it read before'; 0 by the template 'total and deterministic' (their statements: YthceebioiinhiaaTotals.lean).
  GIVEN WITH THE SEED: the statements are not yours to turn. If you find one false, say at which input.
  Laid BY PROGRAM, IN A SANDBOX (cutbox-rows.mjs): the forced cells as the released guide's own fill.sh prints them over the translation 9b13bc99de25e424… (all of the seat's roots in one cut). By AI agents, Wed Nov 11 2026. No macro, syntax, notation, axiom, sorry.
-/
import Derived.Test.YthceebioiinhiaaChecked
import GoSem.Claim
import GoSem.ClaimJoined
import GoSem.ClaimMapViews
import Derived.JoinedTies
import Derived.KernelRfl
namespace Go.Proofs.Ythceebioiinhiaa
/- THE CELL 'sum', in the pinned program and in every row, IS THE sha256 OF THE DUMP (.gsa) THAT YthceebioiinhiaaProg.lean LOADS. Nothing in Lean hashes anything: it is a label: what it is worth is what the hold of that sum in a sandbox is worth. -/
noncomputable def Try.pinned : Pinned := { name := "ythceebioiinhiaa", sum := "9b13bc99de25e4245790762888e74e51574674704a56a8626e8e42d175d0ddf7", checked := Try.checked }
namespace Rows
def none {H : Type} : Left H := { results := [], args := [] }

/-- 'quilllaw04.NumberBinary': WHATEVER THE INPUT: true; the input reads as it did. -/
def numberBinarySpec : ChangeSpec := { name := "numberBinary", fn := fun _ => fun
  | [d1, d2, d3] => { results := [.lit (.bool true)], args := [d1, d2, d3] }
  | _ => none }
def numberBinaryRow : OpenClaim := { program := "ythceebioiinhiaa", sum := "9b13bc99de25e4245790762888e74e51574674704a56a8626e8e42d175d0ddf7", func := "quill/quilllaw04.NumberBinary", spec := "numberBinary", inPlace := ["math.Float64bits", "math.Float64frombits", "math.archTrunc", "math.archFloor"], unfollowed := true, recurses := true, apart := false }
def NumberBinarySaid : Prop := numberBinaryRow.holds Try.pinned (OpenSpec.ofChange numberBinarySpec)

/-- ITS FALSE NEIGHBOUR: 'it returns false'. Refute it at one input. -/
def numberBinaryWrong : ChangeSpec := { name := "numberBinary", fn := fun _ => fun
  | [d1, d2, d3] => { results := [.lit (.bool false)], args := [d1, d2, d3] }
  | _ => none }
def NumberBinaryWrongFalsely : Prop := numberBinaryRow.holds Try.pinned (OpenSpec.ofChange numberBinaryWrong)

/-- 'quilllaw04.NumberRests': WHATEVER THE INPUT: true; the input reads as it did. -/
def numberRestsSpec : ChangeSpec := { name := "numberRests", fn := fun _ => fun
  | [d1, d2, d3] => { results := [.lit (.bool true)], args := [d1, d2, d3] }
  | _ => none }
def numberRestsRow : OpenClaim := { program := "ythceebioiinhiaa", sum := "9b13bc99de25e4245790762888e74e51574674704a56a8626e8e42d175d0ddf7", func := "quill/quilllaw04.NumberRests", spec := "numberRests", inPlace := ["math.Float64bits", "math.Float64frombits", "math.archTrunc", "math.archFloor"], unfollowed := true, recurses := true, apart := false }
def NumberRestsSaid : Prop := numberRestsRow.holds Try.pinned (OpenSpec.ofChange numberRestsSpec)

/-- ITS FALSE NEIGHBOUR: 'it returns false'. Refute it at one input. -/
def numberRestsWrong : ChangeSpec := { name := "numberRests", fn := fun _ => fun
  | [d1, d2, d3] => { results := [.lit (.bool false)], args := [d1, d2, d3] }
  | _ => none }
def NumberRestsWrongFalsely : Prop := numberRestsRow.holds Try.pinned (OpenSpec.ofChange numberRestsWrong)

/-- 'quilllaw04.NumberUnary': WHATEVER THE INPUT: true; the input reads as it did. -/
def numberUnarySpec : ChangeSpec := { name := "numberUnary", fn := fun _ => fun
  | [d1, d2] => { results := [.lit (.bool true)], args := [d1, d2] }
  | _ => none }
def numberUnaryRow : OpenClaim := { program := "ythceebioiinhiaa", sum := "9b13bc99de25e4245790762888e74e51574674704a56a8626e8e42d175d0ddf7", func := "quill/quilllaw04.NumberUnary", spec := "numberUnary", inPlace := ["math.Float64frombits", "math.Float64bits", "math.archTrunc", "math.archFloor"], unfollowed := true, recurses := true, apart := false }
def NumberUnarySaid : Prop := numberUnaryRow.holds Try.pinned (OpenSpec.ofChange numberUnarySpec)

/-- ITS FALSE NEIGHBOUR: 'it returns false'. Refute it at one input. -/
def numberUnaryWrong : ChangeSpec := { name := "numberUnary", fn := fun _ => fun
  | [d1, d2] => { results := [.lit (.bool false)], args := [d1, d2] }
  | _ => none }
def NumberUnaryWrongFalsely : Prop := numberUnaryRow.holds Try.pinned (OpenSpec.ofChange numberUnaryWrong)

/-- 'quilllaw04.NumberBits': WHATEVER THE INPUT: true; the input reads as it did. -/
def numberBitsSpec : ChangeSpec := { name := "numberBits", fn := fun _ => fun
  | [d1, d2, d3] => { results := [.lit (.bool true)], args := [d1, d2, d3] }
  | _ => none }
def numberBitsRow : OpenClaim := { program := "ythceebioiinhiaa", sum := "9b13bc99de25e4245790762888e74e51574674704a56a8626e8e42d175d0ddf7", func := "quill/quilllaw04.NumberBits", spec := "numberBits", inPlace := ["math.Float64bits", "math.Float64frombits", "math.archTrunc", "math.archFloor"], unfollowed := true, recurses := true, apart := false }
def NumberBitsSaid : Prop := numberBitsRow.holds Try.pinned (OpenSpec.ofChange numberBitsSpec)

/-- ITS FALSE NEIGHBOUR: 'it returns false'. Refute it at one input. -/
def numberBitsWrong : ChangeSpec := { name := "numberBits", fn := fun _ => fun
  | [d1, d2, d3] => { results := [.lit (.bool false)], args := [d1, d2, d3] }
  | _ => none }
def NumberBitsWrongFalsely : Prop := numberBitsRow.holds Try.pinned (OpenSpec.ofChange numberBitsWrong)

/-- 'quilllaw04.NumberFloors': WHATEVER THE INPUT: true; the input reads as it did. -/
def numberFloorsSpec : ChangeSpec := { name := "numberFloors", fn := fun _ => fun
  | [d] => { results := [.lit (.bool true)], args := [d] }
  | _ => none }
def numberFloorsRow : OpenClaim := { program := "ythceebioiinhiaa", sum := "9b13bc99de25e4245790762888e74e51574674704a56a8626e8e42d175d0ddf7", func := "quill/quilllaw04.NumberFloors", spec := "numberFloors", inPlace := ["math.archFloor", "math.Float64bits", "math.Float64frombits", "math.archTrunc", "math.archCeil"], unfollowed := true, recurses := true, apart := false }
def NumberFloorsSaid : Prop := numberFloorsRow.holds Try.pinned (OpenSpec.ofChange numberFloorsSpec)

/-- ITS FALSE NEIGHBOUR: 'it returns false'. Refute it at one input. -/
def numberFloorsWrong : ChangeSpec := { name := "numberFloors", fn := fun _ => fun
  | [d] => { results := [.lit (.bool false)], args := [d] }
  | _ => none }
def NumberFloorsWrongFalsely : Prop := numberFloorsRow.holds Try.pinned (OpenSpec.ofChange numberFloorsWrong)

/-- 'quilllaw04.NumberCompares': WHATEVER THE INPUT: true; the input reads as it did. -/
def numberComparesSpec : ChangeSpec := { name := "numberCompares", fn := fun _ => fun
  | [d1, d2] => { results := [.lit (.bool true)], args := [d1, d2] }
  | _ => none }
def numberComparesRow : OpenClaim := { program := "ythceebioiinhiaa", sum := "9b13bc99de25e4245790762888e74e51574674704a56a8626e8e42d175d0ddf7", func := "quill/quilllaw04.NumberCompares", spec := "numberCompares", inPlace := ["math.Float64bits", "math.Float64frombits", "math.archTrunc", "math.archFloor"], unfollowed := true, recurses := true, apart := false }
def NumberComparesSaid : Prop := numberComparesRow.holds Try.pinned (OpenSpec.ofChange numberComparesSpec)

/-- ITS FALSE NEIGHBOUR: 'it returns false'. Refute it at one input. -/
def numberComparesWrong : ChangeSpec := { name := "numberCompares", fn := fun _ => fun
  | [d1, d2] => { results := [.lit (.bool false)], args := [d1, d2] }
  | _ => none }
def NumberComparesWrongFalsely : Prop := numberComparesRow.holds Try.pinned (OpenSpec.ofChange numberComparesWrong)

/-- 'quilllaw04.NumberWholes': WHATEVER THE INPUT: true; the input reads as it did. -/
def numberWholesSpec : ChangeSpec := { name := "numberWholes", fn := fun _ => fun
  | [d1, d2, d3] => { results := [.lit (.bool true)], args := [d1, d2, d3] }
  | _ => none }
def numberWholesRow : OpenClaim := { program := "ythceebioiinhiaa", sum := "9b13bc99de25e4245790762888e74e51574674704a56a8626e8e42d175d0ddf7", func := "quill/quilllaw04.NumberWholes", spec := "numberWholes", inPlace := ["math.archTrunc", "math.Float64bits", "math.Float64frombits", "math.archFloor"], unfollowed := true, recurses := true, apart := false }
def NumberWholesSaid : Prop := numberWholesRow.holds Try.pinned (OpenSpec.ofChange numberWholesSpec)

/-- ITS FALSE NEIGHBOUR: 'it returns false'. Refute it at one input. -/
def numberWholesWrong : ChangeSpec := { name := "numberWholes", fn := fun _ => fun
  | [d1, d2, d3] => { results := [.lit (.bool false)], args := [d1, d2, d3] }
  | _ => none }
def NumberWholesWrongFalsely : Prop := numberWholesRow.holds Try.pinned (OpenSpec.ofChange numberWholesWrong)

/-- 'quilllaw04.NumberRounds': WHATEVER THE INPUT: true; the input reads as it did. -/
def numberRoundsSpec : ChangeSpec := { name := "numberRounds", fn := fun _ => fun
  | [d] => { results := [.lit (.bool true)], args := [d] }
  | _ => none }
def numberRoundsRow : OpenClaim := { program := "ythceebioiinhiaa", sum := "9b13bc99de25e4245790762888e74e51574674704a56a8626e8e42d175d0ddf7", func := "quill/quilllaw04.NumberRounds", spec := "numberRounds", inPlace := ["math.archFloor", "math.Float64bits", "math.Float64frombits", "math.archTrunc", "math.archCeil", "math.sqrt"], unfollowed := true, recurses := true, apart := false }
def NumberRoundsSaid : Prop := numberRoundsRow.holds Try.pinned (OpenSpec.ofChange numberRoundsSpec)

/-- ITS FALSE NEIGHBOUR: 'it returns false'. Refute it at one input. -/
def numberRoundsWrong : ChangeSpec := { name := "numberRounds", fn := fun _ => fun
  | [d] => { results := [.lit (.bool false)], args := [d] }
  | _ => none }
def NumberRoundsWrongFalsely : Prop := numberRoundsRow.holds Try.pinned (OpenSpec.ofChange numberRoundsWrong)

/-- 'quilllaw04.NumberEnds': WHATEVER THE INPUT: true; the input reads as it did. -/
def numberEndsSpec : ChangeSpec := { name := "numberEnds", fn := fun _ => fun
  | [d] => { results := [.lit (.bool true)], args := [d] }
  | _ => none }
def numberEndsRow : OpenClaim := { program := "ythceebioiinhiaa", sum := "9b13bc99de25e4245790762888e74e51574674704a56a8626e8e42d175d0ddf7", func := "quill/quilllaw04.NumberEnds", spec := "numberEnds", inPlace := ["math.Float64frombits", "math.archMin", "math.Float64bits", "math.archMax", "math.archTrunc", "math.archFloor"], unfollowed := true, recurses := true, apart := false }
def NumberEndsSaid : Prop := numberEndsRow.holds Try.pinned (OpenSpec.ofChange numberEndsSpec)

/-- ITS FALSE NEIGHBOUR: 'it returns false'. Refute it at one input. -/
def numberEndsWrong : ChangeSpec := { name := "numberEnds", fn := fun _ => fun
  | [d] => { results := [.lit (.bool false)], args := [d] }
  | _ => none }
def NumberEndsWrongFalsely : Prop := numberEndsRow.holds Try.pinned (OpenSpec.ofChange numberEndsWrong)

/- THE SECOND FORM. 'bulk': how many values and letters a reading holds, each counted each time it is reached (what is shared counts as often as it is met; a slice's spare places count too). A statement '..UptoSaid' is the law's where the arguments, and the package variables that the reading takes, are together of bulk at most 1048576: NARROWER than '..Said'. Prove '..Said' where nothing that the law and all that it calls make is longer than what came in: it says more and counts as full. Else prove '..UptoSaid'. A law counts once. -/
mutual
def uptoBulk {H : Type} : DataW H → Nat
  | .lit (.string bytes) => bytes.length + 1
  | .lit _ => 1
  | .nil => 1
  | .ptr d => uptoBulk d + 1
  | .slice elems spare => uptoBulkAll elems + uptoBulkAll spare + 1
  | .agg parts => uptoBulkAll parts + 1
  | .iface _ d => uptoBulk d + 1
  | .map entries => uptoBulkEntries entries + 1
  | .held _ => 1
def uptoBulkAll {H : Type} : List (DataW H) → Nat
  | [] => 0
  | d :: r => uptoBulk d + uptoBulkAll r
def uptoBulkEntries {H : Type} : List (Lit × DataW H) → Nat
  | [] => 0
  | x :: r => uptoBulkEntry x + uptoBulkEntries r
def uptoBulkEntry {H : Type} : Lit × DataW H → Nat
  | (.string bytes, d) => bytes.length + uptoBulk d + 1
  | (_, d) => uptoBulk d + 1
 end
def uptoSmall : (H : Type) → List (DataW H) → Bool := fun _ ds => decide (uptoBulkAll ds ≤ 1048576)
def OpenSpec.upto (s : _root_.Go.ChangeSpec) : _root_.Go.OpenSpec := { _root_.Go.OpenSpec.ofChange s with cond := some uptoSmall }

/-- 'quilllaw04.NumberBinary', WHERE WHAT IT READS IS OF BULK AT MOST 1048576: true; the input reads as it did. -/
def numberBinaryUptoRow : OpenClaim := { program := "ythceebioiinhiaa", sum := "9b13bc99de25e4245790762888e74e51574674704a56a8626e8e42d175d0ddf7", func := "quill/quilllaw04.NumberBinary", spec := "numberBinary", inPlace := ["math.Float64bits", "math.Float64frombits", "math.archTrunc", "math.archFloor"], unfollowed := true, recurses := true, apart := false, narrowed := true }
def NumberBinaryUptoSaid : Prop := numberBinaryUptoRow.holds Try.pinned (OpenSpec.upto numberBinarySpec)

/-- 'quilllaw04.NumberRests', WHERE WHAT IT READS IS OF BULK AT MOST 1048576: true; the input reads as it did. -/
def numberRestsUptoRow : OpenClaim := { program := "ythceebioiinhiaa", sum := "9b13bc99de25e4245790762888e74e51574674704a56a8626e8e42d175d0ddf7", func := "quill/quilllaw04.NumberRests", spec := "numberRests", inPlace := ["math.Float64bits", "math.Float64frombits", "math.archTrunc", "math.archFloor"], unfollowed := true, recurses := true, apart := false, narrowed := true }
def NumberRestsUptoSaid : Prop := numberRestsUptoRow.holds Try.pinned (OpenSpec.upto numberRestsSpec)

/-- 'quilllaw04.NumberUnary', WHERE WHAT IT READS IS OF BULK AT MOST 1048576: true; the input reads as it did. -/
def numberUnaryUptoRow : OpenClaim := { program := "ythceebioiinhiaa", sum := "9b13bc99de25e4245790762888e74e51574674704a56a8626e8e42d175d0ddf7", func := "quill/quilllaw04.NumberUnary", spec := "numberUnary", inPlace := ["math.Float64frombits", "math.Float64bits", "math.archTrunc", "math.archFloor"], unfollowed := true, recurses := true, apart := false, narrowed := true }
def NumberUnaryUptoSaid : Prop := numberUnaryUptoRow.holds Try.pinned (OpenSpec.upto numberUnarySpec)

/-- 'quilllaw04.NumberBits', WHERE WHAT IT READS IS OF BULK AT MOST 1048576: true; the input reads as it did. -/
def numberBitsUptoRow : OpenClaim := { program := "ythceebioiinhiaa", sum := "9b13bc99de25e4245790762888e74e51574674704a56a8626e8e42d175d0ddf7", func := "quill/quilllaw04.NumberBits", spec := "numberBits", inPlace := ["math.Float64bits", "math.Float64frombits", "math.archTrunc", "math.archFloor"], unfollowed := true, recurses := true, apart := false, narrowed := true }
def NumberBitsUptoSaid : Prop := numberBitsUptoRow.holds Try.pinned (OpenSpec.upto numberBitsSpec)

/-- 'quilllaw04.NumberFloors', WHERE WHAT IT READS IS OF BULK AT MOST 1048576: true; the input reads as it did. -/
def numberFloorsUptoRow : OpenClaim := { program := "ythceebioiinhiaa", sum := "9b13bc99de25e4245790762888e74e51574674704a56a8626e8e42d175d0ddf7", func := "quill/quilllaw04.NumberFloors", spec := "numberFloors", inPlace := ["math.archFloor", "math.Float64bits", "math.Float64frombits", "math.archTrunc", "math.archCeil"], unfollowed := true, recurses := true, apart := false, narrowed := true }
def NumberFloorsUptoSaid : Prop := numberFloorsUptoRow.holds Try.pinned (OpenSpec.upto numberFloorsSpec)

/-- 'quilllaw04.NumberCompares', WHERE WHAT IT READS IS OF BULK AT MOST 1048576: true; the input reads as it did. -/
def numberComparesUptoRow : OpenClaim := { program := "ythceebioiinhiaa", sum := "9b13bc99de25e4245790762888e74e51574674704a56a8626e8e42d175d0ddf7", func := "quill/quilllaw04.NumberCompares", spec := "numberCompares", inPlace := ["math.Float64bits", "math.Float64frombits", "math.archTrunc", "math.archFloor"], unfollowed := true, recurses := true, apart := false, narrowed := true }
def NumberComparesUptoSaid : Prop := numberComparesUptoRow.holds Try.pinned (OpenSpec.upto numberComparesSpec)

/-- 'quilllaw04.NumberWholes', WHERE WHAT IT READS IS OF BULK AT MOST 1048576: true; the input reads as it did. -/
def numberWholesUptoRow : OpenClaim := { program := "ythceebioiinhiaa", sum := "9b13bc99de25e4245790762888e74e51574674704a56a8626e8e42d175d0ddf7", func := "quill/quilllaw04.NumberWholes", spec := "numberWholes", inPlace := ["math.archTrunc", "math.Float64bits", "math.Float64frombits", "math.archFloor"], unfollowed := true, recurses := true, apart := false, narrowed := true }
def NumberWholesUptoSaid : Prop := numberWholesUptoRow.holds Try.pinned (OpenSpec.upto numberWholesSpec)

/-- 'quilllaw04.NumberRounds', WHERE WHAT IT READS IS OF BULK AT MOST 1048576: true; the input reads as it did. -/
def numberRoundsUptoRow : OpenClaim := { program := "ythceebioiinhiaa", sum := "9b13bc99de25e4245790762888e74e51574674704a56a8626e8e42d175d0ddf7", func := "quill/quilllaw04.NumberRounds", spec := "numberRounds", inPlace := ["math.archFloor", "math.Float64bits", "math.Float64frombits", "math.archTrunc", "math.archCeil", "math.sqrt"], unfollowed := true, recurses := true, apart := false, narrowed := true }
def NumberRoundsUptoSaid : Prop := numberRoundsUptoRow.holds Try.pinned (OpenSpec.upto numberRoundsSpec)

/-- 'quilllaw04.NumberEnds', WHERE WHAT IT READS IS OF BULK AT MOST 1048576: true; the input reads as it did. -/
def numberEndsUptoRow : OpenClaim := { program := "ythceebioiinhiaa", sum := "9b13bc99de25e4245790762888e74e51574674704a56a8626e8e42d175d0ddf7", func := "quill/quilllaw04.NumberEnds", spec := "numberEnds", inPlace := ["math.Float64frombits", "math.archMin", "math.Float64bits", "math.archMax", "math.archTrunc", "math.archFloor"], unfollowed := true, recurses := true, apart := false, narrowed := true }
def NumberEndsUptoSaid : Prop := numberEndsUptoRow.holds Try.pinned (OpenSpec.upto numberEndsSpec)

end Rows
end Go.Proofs.Ythceebioiinhiaa
