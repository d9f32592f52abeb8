/-
  No cell of these rows narrows 'for every input' (looked for: loops, veiled, ifaces, maps, wideKeys, modest, calm, conditions, laid).
  DERIVED. THE GIVEN ROWS OF THIS SEAT. 3 by the template 'for every input the law returns true; each argument reads behind the call as it read before'; 0 by the template 'total and deterministic' (their statements: YtnmhaemjffcjaaaTotals.lean).
  GIVEN WITH THE SEED: the statements are not yours to turn. If you find one false, say at which input.
  Laid BY PROGRAM, IN A SANDBOX (cutbox-rows.mjs): the forced cells as the released guide's own fill.sh prints them over the translation d84465ca7bbe939b… (all of the seat's roots in one cut). By AI agents, Wed Nov 11 2026. No macro, syntax, notation, axiom, sorry.
-/
import Derived.Test.YtnmhaemjffcjaaaChecked
import GoSem.Claim
import GoSem.ClaimJoined
import GoSem.ClaimMapViews
import Derived.JoinedTies
import Derived.KernelRfl
namespace Go.Proofs.Ytnmhaemjffcjaaa
/- THE CELL 'sum', in the pinned program and in every row, IS THE sha256 OF THE DUMP (.gsa) THAT YtnmhaemjffcjaaaProg.lean LOADS. Nothing in Lean hashes anything: it is a label: what it is worth is what the hold of that sum in a sandbox is worth. -/
noncomputable def Try.pinned : Pinned := { name := "ytnmhaemjffcjaaa", sum := "d84465ca7bbe939bb71f4c62f23d6f08a3e3aca0910c6bc9b64985f1a15a0668", checked := Try.checked }
namespace Rows
def none {H : Type} : Left H := { results := [], args := [] }

/-- 'quilllaw12.PropertyKeeps': WHATEVER THE INPUT: true; the input reads as it did. -/
def propertyKeepsSpec : ChangeSpec := { name := "propertyKeeps", fn := fun _ => fun
  | [d1, d2] => { results := [.lit (.bool true)], args := [d1, d2] }
  | _ => none }
def propertyKeepsRow : OpenClaim := { program := "ytnmhaemjffcjaaa", sum := "d84465ca7bbe939bb71f4c62f23d6f08a3e3aca0910c6bc9b64985f1a15a0668", func := "quill/quilllaw12.PropertyKeeps", spec := "propertyKeeps", inPlace := ["math.Float64bits", "math.Float64frombits"], apart := false }
def PropertyKeepsSaid : Prop := propertyKeepsRow.holds Try.pinned (OpenSpec.ofChange propertyKeepsSpec)

/-- ITS FALSE NEIGHBOUR: 'it returns false'. Refute it at one input. -/
def propertyKeepsWrong : ChangeSpec := { name := "propertyKeeps", fn := fun _ => fun
  | [d1, d2] => { results := [.lit (.bool false)], args := [d1, d2] }
  | _ => none }
def PropertyKeepsWrongFalsely : Prop := propertyKeepsRow.holds Try.pinned (OpenSpec.ofChange propertyKeepsWrong)

/-- 'quilllaw12.PropertyChanges': WHATEVER THE INPUT: true; the input reads as it did. -/
def propertyChangesSpec : ChangeSpec := { name := "propertyChanges", fn := fun _ => fun
  | [d1, d2] => { results := [.lit (.bool true)], args := [d1, d2] }
  | _ => none }
def propertyChangesRow : OpenClaim := { program := "ytnmhaemjffcjaaa", sum := "d84465ca7bbe939bb71f4c62f23d6f08a3e3aca0910c6bc9b64985f1a15a0668", func := "quill/quilllaw12.PropertyChanges", spec := "propertyChanges", inPlace := ["math.Float64bits", "math.Float64frombits"], apart := false }
def PropertyChangesSaid : Prop := propertyChangesRow.holds Try.pinned (OpenSpec.ofChange propertyChangesSpec)

/-- ITS FALSE NEIGHBOUR: 'it returns false'. Refute it at one input. -/
def propertyChangesWrong : ChangeSpec := { name := "propertyChanges", fn := fun _ => fun
  | [d1, d2] => { results := [.lit (.bool false)], args := [d1, d2] }
  | _ => none }
def PropertyChangesWrongFalsely : Prop := propertyChangesRow.holds Try.pinned (OpenSpec.ofChange propertyChangesWrong)

/-- 'quilllaw12.PropertyChecks': WHATEVER THE INPUT: true; the input reads as it did. -/
def propertyChecksSpec : ChangeSpec := { name := "propertyChecks", fn := fun _ => fun
  | [d] => { results := [.lit (.bool true)], args := [d] }
  | _ => none }
def propertyChecksRow : OpenClaim := { program := "ytnmhaemjffcjaaa", sum := "d84465ca7bbe939bb71f4c62f23d6f08a3e3aca0910c6bc9b64985f1a15a0668", func := "quill/quilllaw12.PropertyChecks", spec := "propertyChecks", inPlace := ["math.Float64bits", "math.Float64frombits"], apart := false }
def PropertyChecksSaid : Prop := propertyChecksRow.holds Try.pinned (OpenSpec.ofChange propertyChecksSpec)

/-- ITS FALSE NEIGHBOUR: 'it returns false'. Refute it at one input. -/
def propertyChecksWrong : ChangeSpec := { name := "propertyChecks", fn := fun _ => fun
  | [d] => { results := [.lit (.bool false)], args := [d] }
  | _ => none }
def PropertyChecksWrongFalsely : Prop := propertyChecksRow.holds Try.pinned (OpenSpec.ofChange propertyChecksWrong)

/- THE SECOND FORM. 'bulk': how many values and letters a reading holds, each counted each time it is reached (what is shared counts as often as it is met; a slice's spare places count too). A statement '..UptoSaid' is the law's where the arguments, and the package variables that the reading takes, are together of bulk at most 1048576: NARROWER than '..Said'. Prove '..Said' where nothing that the law and all that it calls make is longer than what came in: it says more and counts as full. Else prove '..UptoSaid'. A law counts once. -/
mutual
def uptoBulk {H : Type} : DataW H → Nat
  | .lit (.string bytes) => bytes.length + 1
  | .lit _ => 1
  | .nil => 1
  | .ptr d => uptoBulk d + 1
  | .slice elems spare => uptoBulkAll elems + uptoBulkAll spare + 1
  | .agg parts => uptoBulkAll parts + 1
  | .iface _ d => uptoBulk d + 1
  | .map entries => uptoBulkEntries entries + 1
  | .held _ => 1
def uptoBulkAll {H : Type} : List (DataW H) → Nat
  | [] => 0
  | d :: r => uptoBulk d + uptoBulkAll r
def uptoBulkEntries {H : Type} : List (Lit × DataW H) → Nat
  | [] => 0
  | x :: r => uptoBulkEntry x + uptoBulkEntries r
def uptoBulkEntry {H : Type} : Lit × DataW H → Nat
  | (.string bytes, d) => bytes.length + uptoBulk d + 1
  | (_, d) => uptoBulk d + 1
 end
def uptoSmall : (H : Type) → List (DataW H) → Bool := fun _ ds => decide (uptoBulkAll ds ≤ 1048576)
def OpenSpec.upto (s : _root_.Go.ChangeSpec) : _root_.Go.OpenSpec := { _root_.Go.OpenSpec.ofChange s with cond := some uptoSmall }

/-- 'quilllaw12.PropertyKeeps', WHERE WHAT IT READS IS OF BULK AT MOST 1048576: true; the input reads as it did. -/
def propertyKeepsUptoRow : OpenClaim := { program := "ytnmhaemjffcjaaa", sum := "d84465ca7bbe939bb71f4c62f23d6f08a3e3aca0910c6bc9b64985f1a15a0668", func := "quill/quilllaw12.PropertyKeeps", spec := "propertyKeeps", inPlace := ["math.Float64bits", "math.Float64frombits"], apart := false, narrowed := true }
def PropertyKeepsUptoSaid : Prop := propertyKeepsUptoRow.holds Try.pinned (OpenSpec.upto propertyKeepsSpec)

/-- 'quilllaw12.PropertyChanges', WHERE WHAT IT READS IS OF BULK AT MOST 1048576: true; the input reads as it did. -/
def propertyChangesUptoRow : OpenClaim := { program := "ytnmhaemjffcjaaa", sum := "d84465ca7bbe939bb71f4c62f23d6f08a3e3aca0910c6bc9b64985f1a15a0668", func := "quill/quilllaw12.PropertyChanges", spec := "propertyChanges", inPlace := ["math.Float64bits", "math.Float64frombits"], apart := false, narrowed := true }
def PropertyChangesUptoSaid : Prop := propertyChangesUptoRow.holds Try.pinned (OpenSpec.upto propertyChangesSpec)

/-- 'quilllaw12.PropertyChecks', WHERE WHAT IT READS IS OF BULK AT MOST 1048576: true; the input reads as it did. -/
def propertyChecksUptoRow : OpenClaim := { program := "ytnmhaemjffcjaaa", sum := "d84465ca7bbe939bb71f4c62f23d6f08a3e3aca0910c6bc9b64985f1a15a0668", func := "quill/quilllaw12.PropertyChecks", spec := "propertyChecks", inPlace := ["math.Float64bits", "math.Float64frombits"], apart := false, narrowed := true }
def PropertyChecksUptoSaid : Prop := propertyChecksUptoRow.holds Try.pinned (OpenSpec.upto propertyChecksSpec)

end Rows
end Go.Proofs.Ytnmhaemjffcjaaa
