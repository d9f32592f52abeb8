/-
  No cell of these rows narrows 'for every input' (looked for: loops, veiled, ifaces, maps, wideKeys, modest, calm, conditions, laid).
  DERIVED. THE GIVEN ROWS OF THIS SEAT. 3 by the template 'for every input the law returns true; each argument reads behind the call as it read before'; 0 by the template 'total and deterministic' (their statements: YtcjpfafmaecgiaaTotals.lean).
  GIVEN WITH THE SEED: the statements are not yours to turn. If you find one false, say at which input.
  Laid BY PROGRAM, IN A SANDBOX (cutbox-rows.mjs): the forced cells as the released guide's own fill.sh prints them over the translation 7d77f705da051ccc… (all of the seat's roots in one cut). By AI agents, Wed Nov 11 2026. No macro, syntax, notation, axiom, sorry.
-/
import Derived.Test.YtcjpfafmaecgiaaChecked
import GoSem.Claim
import GoSem.ClaimJoined
import GoSem.ClaimMapViews
import Derived.JoinedTies
import Derived.KernelRfl
namespace Go.Proofs.Ytcjpfafmaecgiaa
/- THE CELL 'sum', in the pinned program and in every row, IS THE sha256 OF THE DUMP (.gsa) THAT YtcjpfafmaecgiaaProg.lean LOADS. Nothing in Lean hashes anything: it is a label: what it is worth is what the hold of that sum in a sandbox is worth. -/
noncomputable def Try.pinned : Pinned := { name := "ytcjpfafmaecgiaa", sum := "7d77f705da051ccc2ca912cc27bb8aa6aa524f457d019d50a4d4167ea42bb1a2", checked := Try.checked }
namespace Rows
def none {H : Type} : Left H := { results := [], args := [] }

/-- 'quilllaw14.MachineNews': WHATEVER THE INPUT: true; the input reads as it did. -/
def machineNewsSpec : ChangeSpec := { name := "machineNews", fn := fun _ => fun
  | [d1, d2] => { results := [.lit (.bool true)], args := [d1, d2] }
  | _ => none }
def machineNewsRow : OpenClaim := { program := "ytcjpfafmaecgiaa", sum := "7d77f705da051ccc2ca912cc27bb8aa6aa524f457d019d50a4d4167ea42bb1a2", func := "quill/quilllaw14.MachineNews", spec := "machineNews", inPlace := ["math.Float64bits", "math.Float64frombits", "math.archTrunc"], unfollowed := true, recurses := true, apart := false }
def MachineNewsSaid : Prop := machineNewsRow.holds Try.pinned (OpenSpec.ofChange machineNewsSpec)

/-- ITS FALSE NEIGHBOUR: 'it returns false'. Refute it at one input. -/
def machineNewsWrong : ChangeSpec := { name := "machineNews", fn := fun _ => fun
  | [d1, d2] => { results := [.lit (.bool false)], args := [d1, d2] }
  | _ => none }
def MachineNewsWrongFalsely : Prop := machineNewsRow.holds Try.pinned (OpenSpec.ofChange machineNewsWrong)

/-- 'quilllaw14.MachineBodies': WHATEVER THE INPUT: true; the input reads as it did. -/
def machineBodiesSpec : ChangeSpec := { name := "machineBodies", fn := fun _ => fun
  | [d1, d2, d3] => { results := [.lit (.bool true)], args := [d1, d2, d3] }
  | _ => none }
def machineBodiesRow : OpenClaim := { program := "ytcjpfafmaecgiaa", sum := "7d77f705da051ccc2ca912cc27bb8aa6aa524f457d019d50a4d4167ea42bb1a2", func := "quill/quilllaw14.MachineBodies", spec := "machineBodies", inPlace := ["math.Float64bits", "math.Float64frombits", "math.archTrunc"], unfollowed := true, recurses := true, apart := false }
def MachineBodiesSaid : Prop := machineBodiesRow.holds Try.pinned (OpenSpec.ofChange machineBodiesSpec)

/-- ITS FALSE NEIGHBOUR: 'it returns false'. Refute it at one input. -/
def machineBodiesWrong : ChangeSpec := { name := "machineBodies", fn := fun _ => fun
  | [d1, d2, d3] => { results := [.lit (.bool false)], args := [d1, d2, d3] }
  | _ => none }
def MachineBodiesWrongFalsely : Prop := machineBodiesRow.holds Try.pinned (OpenSpec.ofChange machineBodiesWrong)

/-- 'quilllaw14.MachineDeep': WHATEVER THE INPUT: true; the input reads as it did. -/
def machineDeepSpec : ChangeSpec := { name := "machineDeep", fn := fun _ => fun
  | [d1, d2] => { results := [.lit (.bool true)], args := [d1, d2] }
  | _ => none }
def machineDeepRow : OpenClaim := { program := "ytcjpfafmaecgiaa", sum := "7d77f705da051ccc2ca912cc27bb8aa6aa524f457d019d50a4d4167ea42bb1a2", func := "quill/quilllaw14.MachineDeep", spec := "machineDeep", inPlace := ["math.Float64bits", "math.Float64frombits", "math.archTrunc"], unfollowed := true, recurses := true, apart := false }
def MachineDeepSaid : Prop := machineDeepRow.holds Try.pinned (OpenSpec.ofChange machineDeepSpec)

/-- ITS FALSE NEIGHBOUR: 'it returns false'. Refute it at one input. -/
def machineDeepWrong : ChangeSpec := { name := "machineDeep", fn := fun _ => fun
  | [d1, d2] => { results := [.lit (.bool false)], args := [d1, d2] }
  | _ => none }
def MachineDeepWrongFalsely : Prop := machineDeepRow.holds Try.pinned (OpenSpec.ofChange machineDeepWrong)

/- THE SECOND FORM. 'bulk': how many values and letters a reading holds, each counted each time it is reached (what is shared counts as often as it is met; a slice's spare places count too). A statement '..UptoSaid' is the law's where the arguments, and the package variables that the reading takes, are together of bulk at most 1048576: NARROWER than '..Said'. Prove '..Said' where nothing that the law and all that it calls make is longer than what came in: it says more and counts as full. Else prove '..UptoSaid'. A law counts once. -/
mutual
def uptoBulk {H : Type} : DataW H → Nat
  | .lit (.string bytes) => bytes.length + 1
  | .lit _ => 1
  | .nil => 1
  | .ptr d => uptoBulk d + 1
  | .slice elems spare => uptoBulkAll elems + uptoBulkAll spare + 1
  | .agg parts => uptoBulkAll parts + 1
  | .iface _ d => uptoBulk d + 1
  | .map entries => uptoBulkEntries entries + 1
  | .held _ => 1
def uptoBulkAll {H : Type} : List (DataW H) → Nat
  | [] => 0
  | d :: r => uptoBulk d + uptoBulkAll r
def uptoBulkEntries {H : Type} : List (Lit × DataW H) → Nat
  | [] => 0
  | x :: r => uptoBulkEntry x + uptoBulkEntries r
def uptoBulkEntry {H : Type} : Lit × DataW H → Nat
  | (.string bytes, d) => bytes.length + uptoBulk d + 1
  | (_, d) => uptoBulk d + 1
 end
def uptoSmall : (H : Type) → List (DataW H) → Bool := fun _ ds => decide (uptoBulkAll ds ≤ 1048576)
def OpenSpec.upto (s : _root_.Go.ChangeSpec) : _root_.Go.OpenSpec := { _root_.Go.OpenSpec.ofChange s with cond := some uptoSmall }

/-- 'quilllaw14.MachineNews', WHERE WHAT IT READS IS OF BULK AT MOST 1048576: true; the input reads as it did. -/
def machineNewsUptoRow : OpenClaim := { program := "ytcjpfafmaecgiaa", sum := "7d77f705da051ccc2ca912cc27bb8aa6aa524f457d019d50a4d4167ea42bb1a2", func := "quill/quilllaw14.MachineNews", spec := "machineNews", inPlace := ["math.Float64bits", "math.Float64frombits", "math.archTrunc"], unfollowed := true, recurses := true, apart := false, narrowed := true }
def MachineNewsUptoSaid : Prop := machineNewsUptoRow.holds Try.pinned (OpenSpec.upto machineNewsSpec)

/-- 'quilllaw14.MachineBodies', WHERE WHAT IT READS IS OF BULK AT MOST 1048576: true; the input reads as it did. -/
def machineBodiesUptoRow : OpenClaim := { program := "ytcjpfafmaecgiaa", sum := "7d77f705da051ccc2ca912cc27bb8aa6aa524f457d019d50a4d4167ea42bb1a2", func := "quill/quilllaw14.MachineBodies", spec := "machineBodies", inPlace := ["math.Float64bits", "math.Float64frombits", "math.archTrunc"], unfollowed := true, recurses := true, apart := false, narrowed := true }
def MachineBodiesUptoSaid : Prop := machineBodiesUptoRow.holds Try.pinned (OpenSpec.upto machineBodiesSpec)

/-- 'quilllaw14.MachineDeep', WHERE WHAT IT READS IS OF BULK AT MOST 1048576: true; the input reads as it did. -/
def machineDeepUptoRow : OpenClaim := { program := "ytcjpfafmaecgiaa", sum := "7d77f705da051ccc2ca912cc27bb8aa6aa524f457d019d50a4d4167ea42bb1a2", func := "quill/quilllaw14.MachineDeep", spec := "machineDeep", inPlace := ["math.Float64bits", "math.Float64frombits", "math.archTrunc"], unfollowed := true, recurses := true, apart := false, narrowed := true }
def MachineDeepUptoSaid : Prop := machineDeepUptoRow.holds Try.pinned (OpenSpec.upto machineDeepSpec)

end Rows
end Go.Proofs.Ytcjpfafmaecgiaa
