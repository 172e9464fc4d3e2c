/-
  No cell of these rows narrows 'for every input' (looked for: loops, veiled, ifaces, maps, wideKeys, modest, calm, conditions, laid).
  DERIVED. THE GIVEN ROWS OF THIS SEAT. 12 by the template 'for every input the law returns true; each argument reads behind the call as it read before'; 0 by the template 'total and deterministic' (their statements: YtodjjabmaleggaaTotals.lean).
  GIVEN WITH THE SEED: the statements are not yours to turn. If you find one false, say at which input.
  Laid BY PROGRAM, IN A SANDBOX (cutbox-rows.mjs): the forced cells as the released guide's own fill.sh prints them over the translation a8469d264174ab92… (all of the seat's roots in one cut). By AI agents, Wed Nov 11 2026. No macro, syntax, notation, axiom, sorry.
-/
import Derived.Test.YtodjjabmaleggaaChecked
import GoSem.Claim
import GoSem.ClaimJoined
import GoSem.ClaimMapViews
import Derived.JoinedTies
import Derived.KernelRfl
namespace Go.Proofs.Ytodjjabmaleggaa
/- THE CELL 'sum', in the pinned program and in every row, IS THE sha256 OF THE DUMP (.gsa) THAT YtodjjabmaleggaaProg.lean LOADS. Nothing in Lean hashes anything: it is a label: what it is worth is what the hold of that sum in a sandbox is worth. -/
noncomputable def Try.pinned : Pinned := { name := "ytodjjabmaleggaa", sum := "a8469d264174ab924342646bf1550df3438b7915e48c712df438e0610f18b219", checked := Try.checked }
namespace Rows
def none {H : Type} : Left H := { results := [], args := [] }

/-- 'laws.FnExactUnionNets': WHATEVER THE INPUT: true; the input reads as it did. -/
def fnExactUnionNetsSpec : ChangeSpec := { name := "fnExactUnionNets", fn := fun _ => fun
  | [d1, d2] => { results := [.lit (.bool true)], args := [d1, d2] }
  | _ => none }
def fnExactUnionNetsRow : OpenClaim := { program := "ytodjjabmaleggaa", sum := "a8469d264174ab924342646bf1550df3438b7915e48c712df438e0610f18b219", func := "loop.example/g00862/laws.FnExactUnionNets", spec := "fnExactUnionNets", unfollowed := true, recurses := true, apart := false }
def FnExactUnionNetsSaid : Prop := fnExactUnionNetsRow.holds Try.pinned (OpenSpec.ofChange fnExactUnionNetsSpec)

/-- ITS FALSE NEIGHBOUR: 'it returns false'. Refute it at one input. -/
def fnExactUnionNetsWrong : ChangeSpec := { name := "fnExactUnionNets", fn := fun _ => fun
  | [d1, d2] => { results := [.lit (.bool false)], args := [d1, d2] }
  | _ => none }
def FnExactUnionNetsWrongFalsely : Prop := fnExactUnionNetsRow.holds Try.pinned (OpenSpec.ofChange fnExactUnionNetsWrong)

/-- 'laws.FnExactCountPaths': WHATEVER THE INPUT: true; the input reads as it did. -/
def fnExactCountPathsSpec : ChangeSpec := { name := "fnExactCountPaths", fn := fun _ => fun
  | [d1, d2] => { results := [.lit (.bool true)], args := [d1, d2] }
  | _ => none }
def fnExactCountPathsRow : OpenClaim := { program := "ytodjjabmaleggaa", sum := "a8469d264174ab924342646bf1550df3438b7915e48c712df438e0610f18b219", func := "loop.example/g00862/laws.FnExactCountPaths", spec := "fnExactCountPaths", apart := false }
def FnExactCountPathsSaid : Prop := fnExactCountPathsRow.holds Try.pinned (OpenSpec.ofChange fnExactCountPathsSpec)

/-- ITS FALSE NEIGHBOUR: 'it returns false'. Refute it at one input. -/
def fnExactCountPathsWrong : ChangeSpec := { name := "fnExactCountPaths", fn := fun _ => fun
  | [d1, d2] => { results := [.lit (.bool false)], args := [d1, d2] }
  | _ => none }
def FnExactCountPathsWrongFalsely : Prop := fnExactCountPathsRow.holds Try.pinned (OpenSpec.ofChange fnExactCountPathsWrong)

/-- 'laws.FnExactAreIndependent': WHATEVER THE INPUT: true; the input reads as it did. -/
def fnExactAreIndependentSpec : ChangeSpec := { name := "fnExactAreIndependent", fn := fun _ => fun
  | [d1, d2, d3] => { results := [.lit (.bool true)], args := [d1, d2, d3] }
  | _ => none }
def fnExactAreIndependentRow : OpenClaim := { program := "ytodjjabmaleggaa", sum := "a8469d264174ab924342646bf1550df3438b7915e48c712df438e0610f18b219", func := "loop.example/g00862/laws.FnExactAreIndependent", spec := "fnExactAreIndependent", unfollowed := true, recurses := true, apart := false }
def FnExactAreIndependentSaid : Prop := fnExactAreIndependentRow.holds Try.pinned (OpenSpec.ofChange fnExactAreIndependentSpec)

/-- ITS FALSE NEIGHBOUR: 'it returns false'. Refute it at one input. -/
def fnExactAreIndependentWrong : ChangeSpec := { name := "fnExactAreIndependent", fn := fun _ => fun
  | [d1, d2, d3] => { results := [.lit (.bool false)], args := [d1, d2, d3] }
  | _ => none }
def FnExactAreIndependentWrongFalsely : Prop := fnExactAreIndependentRow.holds Try.pinned (OpenSpec.ofChange fnExactAreIndependentWrong)

/-- 'laws.FnExactHomeStates': WHATEVER THE INPUT: true; the input reads as it did. -/
def fnExactHomeStatesSpec : ChangeSpec := { name := "fnExactHomeStates", fn := fun _ => fun
  | [d] => { results := [.lit (.bool true)], args := [d] }
  | _ => none }
def fnExactHomeStatesRow : OpenClaim := { program := "ytodjjabmaleggaa", sum := "a8469d264174ab924342646bf1550df3438b7915e48c712df438e0610f18b219", func := "loop.example/g00862/laws.FnExactHomeStates", spec := "fnExactHomeStates", apart := false }
def FnExactHomeStatesSaid : Prop := fnExactHomeStatesRow.holds Try.pinned (OpenSpec.ofChange fnExactHomeStatesSpec)

/-- ITS FALSE NEIGHBOUR: 'it returns false'. Refute it at one input. -/
def fnExactHomeStatesWrong : ChangeSpec := { name := "fnExactHomeStates", fn := fun _ => fun
  | [d] => { results := [.lit (.bool false)], args := [d] }
  | _ => none }
def FnExactHomeStatesWrongFalsely : Prop := fnExactHomeStatesRow.holds Try.pinned (OpenSpec.ofChange fnExactHomeStatesWrong)

/-- 'laws.FnExactPersistencyViolations': WHATEVER THE INPUT: true; the input reads as it did. -/
def fnExactPersistencyViolationsSpec : ChangeSpec := { name := "fnExactPersistencyViolations", fn := fun _ => fun
  | [d] => { results := [.lit (.bool true)], args := [d] }
  | _ => none }
def fnExactPersistencyViolationsRow : OpenClaim := { program := "ytodjjabmaleggaa", sum := "a8469d264174ab924342646bf1550df3438b7915e48c712df438e0610f18b219", func := "loop.example/g00862/laws.FnExactPersistencyViolations", spec := "fnExactPersistencyViolations", unfollowed := true, recurses := true, apart := false }
def FnExactPersistencyViolationsSaid : Prop := fnExactPersistencyViolationsRow.holds Try.pinned (OpenSpec.ofChange fnExactPersistencyViolationsSpec)

/-- ITS FALSE NEIGHBOUR: 'it returns false'. Refute it at one input. -/
def fnExactPersistencyViolationsWrong : ChangeSpec := { name := "fnExactPersistencyViolations", fn := fun _ => fun
  | [d] => { results := [.lit (.bool false)], args := [d] }
  | _ => none }
def FnExactPersistencyViolationsWrongFalsely : Prop := fnExactPersistencyViolationsRow.holds Try.pinned (OpenSpec.ofChange fnExactPersistencyViolationsWrong)

/-- 'laws.FnExactCSCConflicts': WHATEVER THE INPUT: true; the input reads as it did. -/
def fnExactCSCConflictsSpec : ChangeSpec := { name := "fnExactCSCConflicts", fn := fun _ => fun
  | [d] => { results := [.lit (.bool true)], args := [d] }
  | _ => none }
def fnExactCSCConflictsRow : OpenClaim := { program := "ytodjjabmaleggaa", sum := "a8469d264174ab924342646bf1550df3438b7915e48c712df438e0610f18b219", func := "loop.example/g00862/laws.FnExactCSCConflicts", spec := "fnExactCSCConflicts", unfollowed := true, recurses := true, apart := false }
def FnExactCSCConflictsSaid : Prop := fnExactCSCConflictsRow.holds Try.pinned (OpenSpec.ofChange fnExactCSCConflictsSpec)

/-- ITS FALSE NEIGHBOUR: 'it returns false'. Refute it at one input. -/
def fnExactCSCConflictsWrong : ChangeSpec := { name := "fnExactCSCConflicts", fn := fun _ => fun
  | [d] => { results := [.lit (.bool false)], args := [d] }
  | _ => none }
def FnExactCSCConflictsWrongFalsely : Prop := fnExactCSCConflictsRow.holds Try.pinned (OpenSpec.ofChange fnExactCSCConflictsWrong)

/-- 'laws.FnExactDiagnose': WHATEVER THE INPUT: true; the input reads as it did. -/
def fnExactDiagnoseSpec : ChangeSpec := { name := "fnExactDiagnose", fn := fun _ => fun
  | [d] => { results := [.lit (.bool true)], args := [d] }
  | _ => none }
def fnExactDiagnoseRow : OpenClaim := { program := "ytodjjabmaleggaa", sum := "a8469d264174ab924342646bf1550df3438b7915e48c712df438e0610f18b219", func := "loop.example/g00862/laws.FnExactDiagnose", spec := "fnExactDiagnose", unfollowed := true, recurses := true, apart := false }
def FnExactDiagnoseSaid : Prop := fnExactDiagnoseRow.holds Try.pinned (OpenSpec.ofChange fnExactDiagnoseSpec)

/-- ITS FALSE NEIGHBOUR: 'it returns false'. Refute it at one input. -/
def fnExactDiagnoseWrong : ChangeSpec := { name := "fnExactDiagnose", fn := fun _ => fun
  | [d] => { results := [.lit (.bool false)], args := [d] }
  | _ => none }
def FnExactDiagnoseWrongFalsely : Prop := fnExactDiagnoseRow.holds Try.pinned (OpenSpec.ofChange fnExactDiagnoseWrong)

/-- 'laws.FnExactIsImplementable': WHATEVER THE INPUT: true; the input reads as it did. -/
def fnExactIsImplementableSpec : ChangeSpec := { name := "fnExactIsImplementable", fn := fun _ => fun
  | [d] => { results := [.lit (.bool true)], args := [d] }
  | _ => none }
def fnExactIsImplementableRow : OpenClaim := { program := "ytodjjabmaleggaa", sum := "a8469d264174ab924342646bf1550df3438b7915e48c712df438e0610f18b219", func := "loop.example/g00862/laws.FnExactIsImplementable", spec := "fnExactIsImplementable", unfollowed := true, recurses := true, apart := false }
def FnExactIsImplementableSaid : Prop := fnExactIsImplementableRow.holds Try.pinned (OpenSpec.ofChange fnExactIsImplementableSpec)

/-- ITS FALSE NEIGHBOUR: 'it returns false'. Refute it at one input. -/
def fnExactIsImplementableWrong : ChangeSpec := { name := "fnExactIsImplementable", fn := fun _ => fun
  | [d] => { results := [.lit (.bool false)], args := [d] }
  | _ => none }
def FnExactIsImplementableWrongFalsely : Prop := fnExactIsImplementableRow.holds Try.pinned (OpenSpec.ofChange fnExactIsImplementableWrong)

/-- 'laws.FnExactMirrorSTG': WHATEVER THE INPUT: true; the input reads as it did. -/
def fnExactMirrorSTGSpec : ChangeSpec := { name := "fnExactMirrorSTG", fn := fun _ => fun
  | [d] => { results := [.lit (.bool true)], args := [d] }
  | _ => none }
def fnExactMirrorSTGRow : OpenClaim := { program := "ytodjjabmaleggaa", sum := "a8469d264174ab924342646bf1550df3438b7915e48c712df438e0610f18b219", func := "loop.example/g00862/laws.FnExactMirrorSTG", spec := "fnExactMirrorSTG", unfollowed := true, recurses := true, apart := false }
def FnExactMirrorSTGSaid : Prop := fnExactMirrorSTGRow.holds Try.pinned (OpenSpec.ofChange fnExactMirrorSTGSpec)

/-- ITS FALSE NEIGHBOUR: 'it returns false'. Refute it at one input. -/
def fnExactMirrorSTGWrong : ChangeSpec := { name := "fnExactMirrorSTG", fn := fun _ => fun
  | [d] => { results := [.lit (.bool false)], args := [d] }
  | _ => none }
def FnExactMirrorSTGWrongFalsely : Prop := fnExactMirrorSTGRow.holds Try.pinned (OpenSpec.ofChange fnExactMirrorSTGWrong)

/-- 'laws.FnExactUnionSTGs': WHATEVER THE INPUT: true; the input reads as it did. -/
def fnExactUnionSTGsSpec : ChangeSpec := { name := "fnExactUnionSTGs", fn := fun _ => fun
  | [d1, d2] => { results := [.lit (.bool true)], args := [d1, d2] }
  | _ => none }
def fnExactUnionSTGsRow : OpenClaim := { program := "ytodjjabmaleggaa", sum := "a8469d264174ab924342646bf1550df3438b7915e48c712df438e0610f18b219", func := "loop.example/g00862/laws.FnExactUnionSTGs", spec := "fnExactUnionSTGs", unfollowed := true, recurses := true, apart := false }
def FnExactUnionSTGsSaid : Prop := fnExactUnionSTGsRow.holds Try.pinned (OpenSpec.ofChange fnExactUnionSTGsSpec)

/-- ITS FALSE NEIGHBOUR: 'it returns false'. Refute it at one input. -/
def fnExactUnionSTGsWrong : ChangeSpec := { name := "fnExactUnionSTGs", fn := fun _ => fun
  | [d1, d2] => { results := [.lit (.bool false)], args := [d1, d2] }
  | _ => none }
def FnExactUnionSTGsWrongFalsely : Prop := fnExactUnionSTGsRow.holds Try.pinned (OpenSpec.ofChange fnExactUnionSTGsWrong)

/-- 'laws.FnExactHideSignal': WHATEVER THE INPUT: true; the input reads as it did. -/
def fnExactHideSignalSpec : ChangeSpec := { name := "fnExactHideSignal", fn := fun _ => fun
  | [d1, d2] => { results := [.lit (.bool true)], args := [d1, d2] }
  | _ => none }
def fnExactHideSignalRow : OpenClaim := { program := "ytodjjabmaleggaa", sum := "a8469d264174ab924342646bf1550df3438b7915e48c712df438e0610f18b219", func := "loop.example/g00862/laws.FnExactHideSignal", spec := "fnExactHideSignal", unfollowed := true, recurses := true, apart := false }
def FnExactHideSignalSaid : Prop := fnExactHideSignalRow.holds Try.pinned (OpenSpec.ofChange fnExactHideSignalSpec)

/-- ITS FALSE NEIGHBOUR: 'it returns false'. Refute it at one input. -/
def fnExactHideSignalWrong : ChangeSpec := { name := "fnExactHideSignal", fn := fun _ => fun
  | [d1, d2] => { results := [.lit (.bool false)], args := [d1, d2] }
  | _ => none }
def FnExactHideSignalWrongFalsely : Prop := fnExactHideSignalRow.holds Try.pinned (OpenSpec.ofChange fnExactHideSignalWrong)

/-- 'laws.FnExactFormatTrace': WHATEVER THE INPUT: true; the input reads as it did. -/
def fnExactFormatTraceSpec : ChangeSpec := { name := "fnExactFormatTrace", fn := fun _ => fun
  | [d1, d2] => { results := [.lit (.bool true)], args := [d1, d2] }
  | _ => none }
def fnExactFormatTraceRow : OpenClaim := { program := "ytodjjabmaleggaa", sum := "a8469d264174ab924342646bf1550df3438b7915e48c712df438e0610f18b219", func := "loop.example/g00862/laws.FnExactFormatTrace", spec := "fnExactFormatTrace", inPlace := ["internal/abi.NoEscape", "internal/bytealg.MakeNoZero"], unfollowed := true, recurses := true, apart := false }
def FnExactFormatTraceSaid : Prop := fnExactFormatTraceRow.holds Try.pinned (OpenSpec.ofChange fnExactFormatTraceSpec)

/-- ITS FALSE NEIGHBOUR: 'it returns false'. Refute it at one input. -/
def fnExactFormatTraceWrong : ChangeSpec := { name := "fnExactFormatTrace", fn := fun _ => fun
  | [d1, d2] => { results := [.lit (.bool false)], args := [d1, d2] }
  | _ => none }
def FnExactFormatTraceWrongFalsely : Prop := fnExactFormatTraceRow.holds Try.pinned (OpenSpec.ofChange fnExactFormatTraceWrong)

/- THE SECOND FORM. 'bulk': how many values and letters a reading holds, each counted each time it is reached (what is shared counts as often as it is met; a slice's spare places count too). A statement '..UptoSaid' is the law's where the arguments, and the package variables that the reading takes, are together of bulk at most 1048576: NARROWER than '..Said'. Prove '..Said' where nothing that the law and all that it calls make is longer than what came in: it says more and counts as full. Else prove '..UptoSaid'. A law counts once. -/
mutual
def uptoBulk {H : Type} : DataW H → Nat
  | .lit (.string bytes) => bytes.length + 1
  | .lit _ => 1
  | .nil => 1
  | .ptr d => uptoBulk d + 1
  | .slice elems spare => uptoBulkAll elems + uptoBulkAll spare + 1
  | .agg parts => uptoBulkAll parts + 1
  | .iface _ d => uptoBulk d + 1
  | .map entries => uptoBulkEntries entries + 1
  | .held _ => 1
def uptoBulkAll {H : Type} : List (DataW H) → Nat
  | [] => 0
  | d :: r => uptoBulk d + uptoBulkAll r
def uptoBulkEntries {H : Type} : List (Lit × DataW H) → Nat
  | [] => 0
  | x :: r => uptoBulkEntry x + uptoBulkEntries r
def uptoBulkEntry {H : Type} : Lit × DataW H → Nat
  | (.string bytes, d) => bytes.length + uptoBulk d + 1
  | (_, d) => uptoBulk d + 1
 end
def uptoSmall : (H : Type) → List (DataW H) → Bool := fun _ ds => decide (uptoBulkAll ds ≤ 1048576)
def OpenSpec.upto (s : _root_.Go.ChangeSpec) : _root_.Go.OpenSpec := { _root_.Go.OpenSpec.ofChange s with cond := some uptoSmall }

/-- 'laws.FnExactUnionNets', WHERE WHAT IT READS IS OF BULK AT MOST 1048576: true; the input reads as it did. -/
def fnExactUnionNetsUptoRow : OpenClaim := { program := "ytodjjabmaleggaa", sum := "a8469d264174ab924342646bf1550df3438b7915e48c712df438e0610f18b219", func := "loop.example/g00862/laws.FnExactUnionNets", spec := "fnExactUnionNets", unfollowed := true, recurses := true, apart := false, narrowed := true }
def FnExactUnionNetsUptoSaid : Prop := fnExactUnionNetsUptoRow.holds Try.pinned (OpenSpec.upto fnExactUnionNetsSpec)

/-- 'laws.FnExactCountPaths', WHERE WHAT IT READS IS OF BULK AT MOST 1048576: true; the input reads as it did. -/
def fnExactCountPathsUptoRow : OpenClaim := { program := "ytodjjabmaleggaa", sum := "a8469d264174ab924342646bf1550df3438b7915e48c712df438e0610f18b219", func := "loop.example/g00862/laws.FnExactCountPaths", spec := "fnExactCountPaths", apart := false, narrowed := true }
def FnExactCountPathsUptoSaid : Prop := fnExactCountPathsUptoRow.holds Try.pinned (OpenSpec.upto fnExactCountPathsSpec)

/-- 'laws.FnExactAreIndependent', WHERE WHAT IT READS IS OF BULK AT MOST 1048576: true; the input reads as it did. -/
def fnExactAreIndependentUptoRow : OpenClaim := { program := "ytodjjabmaleggaa", sum := "a8469d264174ab924342646bf1550df3438b7915e48c712df438e0610f18b219", func := "loop.example/g00862/laws.FnExactAreIndependent", spec := "fnExactAreIndependent", unfollowed := true, recurses := true, apart := false, narrowed := true }
def FnExactAreIndependentUptoSaid : Prop := fnExactAreIndependentUptoRow.holds Try.pinned (OpenSpec.upto fnExactAreIndependentSpec)

/-- 'laws.FnExactHomeStates', WHERE WHAT IT READS IS OF BULK AT MOST 1048576: true; the input reads as it did. -/
def fnExactHomeStatesUptoRow : OpenClaim := { program := "ytodjjabmaleggaa", sum := "a8469d264174ab924342646bf1550df3438b7915e48c712df438e0610f18b219", func := "loop.example/g00862/laws.FnExactHomeStates", spec := "fnExactHomeStates", apart := false, narrowed := true }
def FnExactHomeStatesUptoSaid : Prop := fnExactHomeStatesUptoRow.holds Try.pinned (OpenSpec.upto fnExactHomeStatesSpec)

/-- 'laws.FnExactPersistencyViolations', WHERE WHAT IT READS IS OF BULK AT MOST 1048576: true; the input reads as it did. -/
def fnExactPersistencyViolationsUptoRow : OpenClaim := { program := "ytodjjabmaleggaa", sum := "a8469d264174ab924342646bf1550df3438b7915e48c712df438e0610f18b219", func := "loop.example/g00862/laws.FnExactPersistencyViolations", spec := "fnExactPersistencyViolations", unfollowed := true, recurses := true, apart := false, narrowed := true }
def FnExactPersistencyViolationsUptoSaid : Prop := fnExactPersistencyViolationsUptoRow.holds Try.pinned (OpenSpec.upto fnExactPersistencyViolationsSpec)

/-- 'laws.FnExactCSCConflicts', WHERE WHAT IT READS IS OF BULK AT MOST 1048576: true; the input reads as it did. -/
def fnExactCSCConflictsUptoRow : OpenClaim := { program := "ytodjjabmaleggaa", sum := "a8469d264174ab924342646bf1550df3438b7915e48c712df438e0610f18b219", func := "loop.example/g00862/laws.FnExactCSCConflicts", spec := "fnExactCSCConflicts", unfollowed := true, recurses := true, apart := false, narrowed := true }
def FnExactCSCConflictsUptoSaid : Prop := fnExactCSCConflictsUptoRow.holds Try.pinned (OpenSpec.upto fnExactCSCConflictsSpec)

/-- 'laws.FnExactDiagnose', WHERE WHAT IT READS IS OF BULK AT MOST 1048576: true; the input reads as it did. -/
def fnExactDiagnoseUptoRow : OpenClaim := { program := "ytodjjabmaleggaa", sum := "a8469d264174ab924342646bf1550df3438b7915e48c712df438e0610f18b219", func := "loop.example/g00862/laws.FnExactDiagnose", spec := "fnExactDiagnose", unfollowed := true, recurses := true, apart := false, narrowed := true }
def FnExactDiagnoseUptoSaid : Prop := fnExactDiagnoseUptoRow.holds Try.pinned (OpenSpec.upto fnExactDiagnoseSpec)

/-- 'laws.FnExactIsImplementable', WHERE WHAT IT READS IS OF BULK AT MOST 1048576: true; the input reads as it did. -/
def fnExactIsImplementableUptoRow : OpenClaim := { program := "ytodjjabmaleggaa", sum := "a8469d264174ab924342646bf1550df3438b7915e48c712df438e0610f18b219", func := "loop.example/g00862/laws.FnExactIsImplementable", spec := "fnExactIsImplementable", unfollowed := true, recurses := true, apart := false, narrowed := true }
def FnExactIsImplementableUptoSaid : Prop := fnExactIsImplementableUptoRow.holds Try.pinned (OpenSpec.upto fnExactIsImplementableSpec)

/-- 'laws.FnExactMirrorSTG', WHERE WHAT IT READS IS OF BULK AT MOST 1048576: true; the input reads as it did. -/
def fnExactMirrorSTGUptoRow : OpenClaim := { program := "ytodjjabmaleggaa", sum := "a8469d264174ab924342646bf1550df3438b7915e48c712df438e0610f18b219", func := "loop.example/g00862/laws.FnExactMirrorSTG", spec := "fnExactMirrorSTG", unfollowed := true, recurses := true, apart := false, narrowed := true }
def FnExactMirrorSTGUptoSaid : Prop := fnExactMirrorSTGUptoRow.holds Try.pinned (OpenSpec.upto fnExactMirrorSTGSpec)

/-- 'laws.FnExactUnionSTGs', WHERE WHAT IT READS IS OF BULK AT MOST 1048576: true; the input reads as it did. -/
def fnExactUnionSTGsUptoRow : OpenClaim := { program := "ytodjjabmaleggaa", sum := "a8469d264174ab924342646bf1550df3438b7915e48c712df438e0610f18b219", func := "loop.example/g00862/laws.FnExactUnionSTGs", spec := "fnExactUnionSTGs", unfollowed := true, recurses := true, apart := false, narrowed := true }
def FnExactUnionSTGsUptoSaid : Prop := fnExactUnionSTGsUptoRow.holds Try.pinned (OpenSpec.upto fnExactUnionSTGsSpec)

/-- 'laws.FnExactHideSignal', WHERE WHAT IT READS IS OF BULK AT MOST 1048576: true; the input reads as it did. -/
def fnExactHideSignalUptoRow : OpenClaim := { program := "ytodjjabmaleggaa", sum := "a8469d264174ab924342646bf1550df3438b7915e48c712df438e0610f18b219", func := "loop.example/g00862/laws.FnExactHideSignal", spec := "fnExactHideSignal", unfollowed := true, recurses := true, apart := false, narrowed := true }
def FnExactHideSignalUptoSaid : Prop := fnExactHideSignalUptoRow.holds Try.pinned (OpenSpec.upto fnExactHideSignalSpec)

/-- 'laws.FnExactFormatTrace', WHERE WHAT IT READS IS OF BULK AT MOST 1048576: true; the input reads as it did. -/
def fnExactFormatTraceUptoRow : OpenClaim := { program := "ytodjjabmaleggaa", sum := "a8469d264174ab924342646bf1550df3438b7915e48c712df438e0610f18b219", func := "loop.example/g00862/laws.FnExactFormatTrace", spec := "fnExactFormatTrace", inPlace := ["internal/abi.NoEscape", "internal/bytealg.MakeNoZero"], unfollowed := true, recurses := true, apart := false, narrowed := true }
def FnExactFormatTraceUptoSaid : Prop := fnExactFormatTraceUptoRow.holds Try.pinned (OpenSpec.upto fnExactFormatTraceSpec)

end Rows
end Go.Proofs.Ytodjjabmaleggaa
