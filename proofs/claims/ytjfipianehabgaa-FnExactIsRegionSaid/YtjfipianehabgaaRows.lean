/-
  No cell of these rows narrows 'for every input' (looked for: loops, veiled, ifaces, maps, wideKeys, modest, calm, conditions, laid).
  DERIVED. THE GIVEN ROWS OF THIS SEAT. 12 by the template 'for every input the law returns true; each argument reads behind the call as it read before'; 0 by the template 'total and deterministic' (their statements: YtjfipianehabgaaTotals.lean).
  GIVEN WITH THE SEED: the statements are not yours to turn. If you find one false, say at which input.
  Laid BY PROGRAM, IN A SANDBOX (cutbox-rows.mjs): the forced cells as the released guide's own fill.sh prints them over the translation 6d273389667e1876… (all of the seat's roots in one cut). By AI agents, Wed Nov 11 2026. No macro, syntax, notation, axiom, sorry.
-/
import Derived.Test.YtjfipianehabgaaChecked
import GoSem.Claim
import GoSem.ClaimJoined
import GoSem.ClaimMapViews
import Derived.JoinedTies
import Derived.KernelRfl
namespace Go.Proofs.Ytjfipianehabgaa
/- THE CELL 'sum', in the pinned program and in every row, IS THE sha256 OF THE DUMP (.gsa) THAT YtjfipianehabgaaProg.lean LOADS. Nothing in Lean hashes anything: it is a label: what it is worth is what the hold of that sum in a sandbox is worth. -/
noncomputable def Try.pinned : Pinned := { name := "ytjfipianehabgaa", sum := "6d273389667e1876cbe39431ff5a2c79e96a0888a5b79f504ce5b0755df31ddd", checked := Try.checked }
namespace Rows
def none {H : Type} : Left H := { results := [], args := [] }

/-- 'laws.FnExactIsMarkedGraph': WHATEVER THE INPUT: true; the input reads as it did. -/
def fnExactIsMarkedGraphSpec : ChangeSpec := { name := "fnExactIsMarkedGraph", fn := fun _ => fun
  | [d] => { results := [.lit (.bool true)], args := [d] }
  | _ => none }
def fnExactIsMarkedGraphRow : OpenClaim := { program := "ytjfipianehabgaa", sum := "6d273389667e1876cbe39431ff5a2c79e96a0888a5b79f504ce5b0755df31ddd", func := "loop.example/g00862/laws.FnExactIsMarkedGraph", spec := "fnExactIsMarkedGraph", unfollowed := true, recurses := true, plainKeys := false, apart := false }
def FnExactIsMarkedGraphSaid : Prop := fnExactIsMarkedGraphRow.holds Try.pinned (OpenSpec.ofChange fnExactIsMarkedGraphSpec)

/-- ITS FALSE NEIGHBOUR: 'it returns false'. Refute it at one input. -/
def fnExactIsMarkedGraphWrong : ChangeSpec := { name := "fnExactIsMarkedGraph", fn := fun _ => fun
  | [d] => { results := [.lit (.bool false)], args := [d] }
  | _ => none }
def FnExactIsMarkedGraphWrongFalsely : Prop := fnExactIsMarkedGraphRow.holds Try.pinned (OpenSpec.ofChange fnExactIsMarkedGraphWrong)

/-- 'laws.FnExactShortestFiringSequence': WHATEVER THE INPUT: true; the input reads as it did. -/
def fnExactShortestFiringSequenceSpec : ChangeSpec := { name := "fnExactShortestFiringSequence", fn := fun _ => fun
  | [d1, d2] => { results := [.lit (.bool true)], args := [d1, d2] }
  | _ => none }
def fnExactShortestFiringSequenceRow : OpenClaim := { program := "ytjfipianehabgaa", sum := "6d273389667e1876cbe39431ff5a2c79e96a0888a5b79f504ce5b0755df31ddd", func := "loop.example/g00862/laws.FnExactShortestFiringSequence", spec := "fnExactShortestFiringSequence", unfollowed := true, recurses := true, plainKeys := false, apart := false }
def FnExactShortestFiringSequenceSaid : Prop := fnExactShortestFiringSequenceRow.holds Try.pinned (OpenSpec.ofChange fnExactShortestFiringSequenceSpec)

/-- ITS FALSE NEIGHBOUR: 'it returns false'. Refute it at one input. -/
def fnExactShortestFiringSequenceWrong : ChangeSpec := { name := "fnExactShortestFiringSequence", fn := fun _ => fun
  | [d1, d2] => { results := [.lit (.bool false)], args := [d1, d2] }
  | _ => none }
def FnExactShortestFiringSequenceWrongFalsely : Prop := fnExactShortestFiringSequenceRow.holds Try.pinned (OpenSpec.ofChange fnExactShortestFiringSequenceWrong)

/-- 'laws.FnExactShortestPath': WHATEVER THE INPUT: true; the input reads as it did. -/
def fnExactShortestPathSpec : ChangeSpec := { name := "fnExactShortestPath", fn := fun _ => fun
  | [d1, d2] => { results := [.lit (.bool true)], args := [d1, d2] }
  | _ => none }
def fnExactShortestPathRow : OpenClaim := { program := "ytjfipianehabgaa", sum := "6d273389667e1876cbe39431ff5a2c79e96a0888a5b79f504ce5b0755df31ddd", func := "loop.example/g00862/laws.FnExactShortestPath", spec := "fnExactShortestPath", unfollowed := true, recurses := true, plainKeys := false, apart := false }
def FnExactShortestPathSaid : Prop := fnExactShortestPathRow.holds Try.pinned (OpenSpec.ofChange fnExactShortestPathSpec)

/-- ITS FALSE NEIGHBOUR: 'it returns false'. Refute it at one input. -/
def fnExactShortestPathWrong : ChangeSpec := { name := "fnExactShortestPath", fn := fun _ => fun
  | [d1, d2] => { results := [.lit (.bool false)], args := [d1, d2] }
  | _ => none }
def FnExactShortestPathWrongFalsely : Prop := fnExactShortestPathRow.holds Try.pinned (OpenSpec.ofChange fnExactShortestPathWrong)

/-- 'laws.FnExactIsRegion': WHATEVER THE INPUT: true; the input reads as it did. -/
def fnExactIsRegionSpec : ChangeSpec := { name := "fnExactIsRegion", fn := fun _ => fun
  | [d1, d2] => { results := [.lit (.bool true)], args := [d1, d2] }
  | _ => none }
def fnExactIsRegionRow : OpenClaim := { program := "ytjfipianehabgaa", sum := "6d273389667e1876cbe39431ff5a2c79e96a0888a5b79f504ce5b0755df31ddd", func := "loop.example/g00862/laws.FnExactIsRegion", spec := "fnExactIsRegion", unfollowed := true, recurses := true, plainKeys := false, apart := false }
def FnExactIsRegionSaid : Prop := fnExactIsRegionRow.holds Try.pinned (OpenSpec.ofChange fnExactIsRegionSpec)

/-- ITS FALSE NEIGHBOUR: 'it returns false'. Refute it at one input. -/
def fnExactIsRegionWrong : ChangeSpec := { name := "fnExactIsRegion", fn := fun _ => fun
  | [d1, d2] => { results := [.lit (.bool false)], args := [d1, d2] }
  | _ => none }
def FnExactIsRegionWrongFalsely : Prop := fnExactIsRegionRow.holds Try.pinned (OpenSpec.ofChange fnExactIsRegionWrong)

/-- 'laws.FnExactAreIndependent': WHATEVER THE INPUT: true; the input reads as it did. -/
def fnExactAreIndependentSpec : ChangeSpec := { name := "fnExactAreIndependent", fn := fun _ => fun
  | [d1, d2, d3] => { results := [.lit (.bool true)], args := [d1, d2, d3] }
  | _ => none }
def fnExactAreIndependentRow : OpenClaim := { program := "ytjfipianehabgaa", sum := "6d273389667e1876cbe39431ff5a2c79e96a0888a5b79f504ce5b0755df31ddd", func := "loop.example/g00862/laws.FnExactAreIndependent", spec := "fnExactAreIndependent", unfollowed := true, recurses := true, plainKeys := false, apart := false }
def FnExactAreIndependentSaid : Prop := fnExactAreIndependentRow.holds Try.pinned (OpenSpec.ofChange fnExactAreIndependentSpec)

/-- ITS FALSE NEIGHBOUR: 'it returns false'. Refute it at one input. -/
def fnExactAreIndependentWrong : ChangeSpec := { name := "fnExactAreIndependent", fn := fun _ => fun
  | [d1, d2, d3] => { results := [.lit (.bool false)], args := [d1, d2, d3] }
  | _ => none }
def FnExactAreIndependentWrongFalsely : Prop := fnExactAreIndependentRow.holds Try.pinned (OpenSpec.ofChange fnExactAreIndependentWrong)

/-- 'laws.FnExactFormatTrace': WHATEVER THE INPUT: true; the input reads as it did. -/
def fnExactFormatTraceSpec : ChangeSpec := { name := "fnExactFormatTrace", fn := fun _ => fun
  | [d1, d2] => { results := [.lit (.bool true)], args := [d1, d2] }
  | _ => none }
def fnExactFormatTraceRow : OpenClaim := { program := "ytjfipianehabgaa", sum := "6d273389667e1876cbe39431ff5a2c79e96a0888a5b79f504ce5b0755df31ddd", func := "loop.example/g00862/laws.FnExactFormatTrace", spec := "fnExactFormatTrace", inPlace := ["internal/abi.NoEscape", "internal/bytealg.MakeNoZero"], unfollowed := true, recurses := true, plainKeys := false, apart := false }
def FnExactFormatTraceSaid : Prop := fnExactFormatTraceRow.holds Try.pinned (OpenSpec.ofChange fnExactFormatTraceSpec)

/-- ITS FALSE NEIGHBOUR: 'it returns false'. Refute it at one input. -/
def fnExactFormatTraceWrong : ChangeSpec := { name := "fnExactFormatTrace", fn := fun _ => fun
  | [d1, d2] => { results := [.lit (.bool false)], args := [d1, d2] }
  | _ => none }
def FnExactFormatTraceWrongFalsely : Prop := fnExactFormatTraceRow.holds Try.pinned (OpenSpec.ofChange fnExactFormatTraceWrong)

/-- 'laws.FnExactInitialUnfolding': WHATEVER THE INPUT: true; the input reads as it did. -/
def fnExactInitialUnfoldingSpec : ChangeSpec := { name := "fnExactInitialUnfolding", fn := fun _ => fun
  | [d1, d2] => { results := [.lit (.bool true)], args := [d1, d2] }
  | _ => none }
def fnExactInitialUnfoldingRow : OpenClaim := { program := "ytjfipianehabgaa", sum := "6d273389667e1876cbe39431ff5a2c79e96a0888a5b79f504ce5b0755df31ddd", func := "loop.example/g00862/laws.FnExactInitialUnfolding", spec := "fnExactInitialUnfolding", unfollowed := true, recurses := true, plainKeys := false, apart := false }
def FnExactInitialUnfoldingSaid : Prop := fnExactInitialUnfoldingRow.holds Try.pinned (OpenSpec.ofChange fnExactInitialUnfoldingSpec)

/-- ITS FALSE NEIGHBOUR: 'it returns false'. Refute it at one input. -/
def fnExactInitialUnfoldingWrong : ChangeSpec := { name := "fnExactInitialUnfolding", fn := fun _ => fun
  | [d1, d2] => { results := [.lit (.bool false)], args := [d1, d2] }
  | _ => none }
def FnExactInitialUnfoldingWrongFalsely : Prop := fnExactInitialUnfoldingRow.holds Try.pinned (OpenSpec.ofChange fnExactInitialUnfoldingWrong)

/-- 'laws.FnExactHideSignal': WHATEVER THE INPUT: true; the input reads as it did. -/
def fnExactHideSignalSpec : ChangeSpec := { name := "fnExactHideSignal", fn := fun _ => fun
  | [d1, d2] => { results := [.lit (.bool true)], args := [d1, d2] }
  | _ => none }
def fnExactHideSignalRow : OpenClaim := { program := "ytjfipianehabgaa", sum := "6d273389667e1876cbe39431ff5a2c79e96a0888a5b79f504ce5b0755df31ddd", func := "loop.example/g00862/laws.FnExactHideSignal", spec := "fnExactHideSignal", unfollowed := true, recurses := true, plainKeys := false, apart := false }
def FnExactHideSignalSaid : Prop := fnExactHideSignalRow.holds Try.pinned (OpenSpec.ofChange fnExactHideSignalSpec)

/-- ITS FALSE NEIGHBOUR: 'it returns false'. Refute it at one input. -/
def fnExactHideSignalWrong : ChangeSpec := { name := "fnExactHideSignal", fn := fun _ => fun
  | [d1, d2] => { results := [.lit (.bool false)], args := [d1, d2] }
  | _ => none }
def FnExactHideSignalWrongFalsely : Prop := fnExactHideSignalRow.holds Try.pinned (OpenSpec.ofChange fnExactHideSignalWrong)

/-- 'laws.FnExactUnionSTGs': WHATEVER THE INPUT: true; the input reads as it did. -/
def fnExactUnionSTGsSpec : ChangeSpec := { name := "fnExactUnionSTGs", fn := fun _ => fun
  | [d1, d2] => { results := [.lit (.bool true)], args := [d1, d2] }
  | _ => none }
def fnExactUnionSTGsRow : OpenClaim := { program := "ytjfipianehabgaa", sum := "6d273389667e1876cbe39431ff5a2c79e96a0888a5b79f504ce5b0755df31ddd", func := "loop.example/g00862/laws.FnExactUnionSTGs", spec := "fnExactUnionSTGs", unfollowed := true, recurses := true, plainKeys := false, apart := false }
def FnExactUnionSTGsSaid : Prop := fnExactUnionSTGsRow.holds Try.pinned (OpenSpec.ofChange fnExactUnionSTGsSpec)

/-- ITS FALSE NEIGHBOUR: 'it returns false'. Refute it at one input. -/
def fnExactUnionSTGsWrong : ChangeSpec := { name := "fnExactUnionSTGs", fn := fun _ => fun
  | [d1, d2] => { results := [.lit (.bool false)], args := [d1, d2] }
  | _ => none }
def FnExactUnionSTGsWrongFalsely : Prop := fnExactUnionSTGsRow.holds Try.pinned (OpenSpec.ofChange fnExactUnionSTGsWrong)

/-- 'laws.FnExactRemovePlace': WHATEVER THE INPUT: true; the input reads as it did. -/
def fnExactRemovePlaceSpec : ChangeSpec := { name := "fnExactRemovePlace", fn := fun _ => fun
  | [d1, d2] => { results := [.lit (.bool true)], args := [d1, d2] }
  | _ => none }
def fnExactRemovePlaceRow : OpenClaim := { program := "ytjfipianehabgaa", sum := "6d273389667e1876cbe39431ff5a2c79e96a0888a5b79f504ce5b0755df31ddd", func := "loop.example/g00862/laws.FnExactRemovePlace", spec := "fnExactRemovePlace", unfollowed := true, recurses := true, plainKeys := false, apart := false }
def FnExactRemovePlaceSaid : Prop := fnExactRemovePlaceRow.holds Try.pinned (OpenSpec.ofChange fnExactRemovePlaceSpec)

/-- ITS FALSE NEIGHBOUR: 'it returns false'. Refute it at one input. -/
def fnExactRemovePlaceWrong : ChangeSpec := { name := "fnExactRemovePlace", fn := fun _ => fun
  | [d1, d2] => { results := [.lit (.bool false)], args := [d1, d2] }
  | _ => none }
def FnExactRemovePlaceWrongFalsely : Prop := fnExactRemovePlaceRow.holds Try.pinned (OpenSpec.ofChange fnExactRemovePlaceWrong)

/-- 'laws.FnExactExcitedStates': WHATEVER THE INPUT: true; the input reads as it did. -/
def fnExactExcitedStatesSpec : ChangeSpec := { name := "fnExactExcitedStates", fn := fun _ => fun
  | [d1, d2, d3] => { results := [.lit (.bool true)], args := [d1, d2, d3] }
  | _ => none }
def fnExactExcitedStatesRow : OpenClaim := { program := "ytjfipianehabgaa", sum := "6d273389667e1876cbe39431ff5a2c79e96a0888a5b79f504ce5b0755df31ddd", func := "loop.example/g00862/laws.FnExactExcitedStates", spec := "fnExactExcitedStates", unfollowed := true, recurses := true, plainKeys := false, apart := false }
def FnExactExcitedStatesSaid : Prop := fnExactExcitedStatesRow.holds Try.pinned (OpenSpec.ofChange fnExactExcitedStatesSpec)

/-- ITS FALSE NEIGHBOUR: 'it returns false'. Refute it at one input. -/
def fnExactExcitedStatesWrong : ChangeSpec := { name := "fnExactExcitedStates", fn := fun _ => fun
  | [d1, d2, d3] => { results := [.lit (.bool false)], args := [d1, d2, d3] }
  | _ => none }
def FnExactExcitedStatesWrongFalsely : Prop := fnExactExcitedStatesRow.holds Try.pinned (OpenSpec.ofChange fnExactExcitedStatesWrong)

/-- 'laws.FnExactSwitchedStates': WHATEVER THE INPUT: true; the input reads as it did. -/
def fnExactSwitchedStatesSpec : ChangeSpec := { name := "fnExactSwitchedStates", fn := fun _ => fun
  | [d1, d2, d3] => { results := [.lit (.bool true)], args := [d1, d2, d3] }
  | _ => none }
def fnExactSwitchedStatesRow : OpenClaim := { program := "ytjfipianehabgaa", sum := "6d273389667e1876cbe39431ff5a2c79e96a0888a5b79f504ce5b0755df31ddd", func := "loop.example/g00862/laws.FnExactSwitchedStates", spec := "fnExactSwitchedStates", unfollowed := true, recurses := true, plainKeys := false, apart := false }
def FnExactSwitchedStatesSaid : Prop := fnExactSwitchedStatesRow.holds Try.pinned (OpenSpec.ofChange fnExactSwitchedStatesSpec)

/-- ITS FALSE NEIGHBOUR: 'it returns false'. Refute it at one input. -/
def fnExactSwitchedStatesWrong : ChangeSpec := { name := "fnExactSwitchedStates", fn := fun _ => fun
  | [d1, d2, d3] => { results := [.lit (.bool false)], args := [d1, d2, d3] }
  | _ => none }
def FnExactSwitchedStatesWrongFalsely : Prop := fnExactSwitchedStatesRow.holds Try.pinned (OpenSpec.ofChange fnExactSwitchedStatesWrong)

/- THE SECOND FORM. 'bulk': how many values and letters a reading holds, each counted each time it is reached (what is shared counts as often as it is met; a slice's spare places count too). A statement '..UptoSaid' is the law's where the arguments, and the package variables that the reading takes, are together of bulk at most 1048576: NARROWER than '..Said'. Prove '..Said' where nothing that the law and all that it calls make is longer than what came in: it says more and counts as full. Else prove '..UptoSaid'. A law counts once. -/
mutual
def uptoBulk {H : Type} : DataW H → Nat
  | .lit (.string bytes) => bytes.length + 1
  | .lit _ => 1
  | .nil => 1
  | .ptr d => uptoBulk d + 1
  | .slice elems spare => uptoBulkAll elems + uptoBulkAll spare + 1
  | .agg parts => uptoBulkAll parts + 1
  | .iface _ d => uptoBulk d + 1
  | .map entries => uptoBulkEntries entries + 1
  | .held _ => 1
def uptoBulkAll {H : Type} : List (DataW H) → Nat
  | [] => 0
  | d :: r => uptoBulk d + uptoBulkAll r
def uptoBulkEntries {H : Type} : List (Lit × DataW H) → Nat
  | [] => 0
  | x :: r => uptoBulkEntry x + uptoBulkEntries r
def uptoBulkEntry {H : Type} : Lit × DataW H → Nat
  | (.string bytes, d) => bytes.length + uptoBulk d + 1
  | (_, d) => uptoBulk d + 1
 end
def uptoSmall : (H : Type) → List (DataW H) → Bool := fun _ ds => decide (uptoBulkAll ds ≤ 1048576)
def OpenSpec.upto (s : _root_.Go.ChangeSpec) : _root_.Go.OpenSpec := { _root_.Go.OpenSpec.ofChange s with cond := some uptoSmall }

/-- 'laws.FnExactIsMarkedGraph', WHERE WHAT IT READS IS OF BULK AT MOST 1048576: true; the input reads as it did. -/
def fnExactIsMarkedGraphUptoRow : OpenClaim := { program := "ytjfipianehabgaa", sum := "6d273389667e1876cbe39431ff5a2c79e96a0888a5b79f504ce5b0755df31ddd", func := "loop.example/g00862/laws.FnExactIsMarkedGraph", spec := "fnExactIsMarkedGraph", unfollowed := true, recurses := true, plainKeys := false, apart := false, narrowed := true }
def FnExactIsMarkedGraphUptoSaid : Prop := fnExactIsMarkedGraphUptoRow.holds Try.pinned (OpenSpec.upto fnExactIsMarkedGraphSpec)

/-- 'laws.FnExactShortestFiringSequence', WHERE WHAT IT READS IS OF BULK AT MOST 1048576: true; the input reads as it did. -/
def fnExactShortestFiringSequenceUptoRow : OpenClaim := { program := "ytjfipianehabgaa", sum := "6d273389667e1876cbe39431ff5a2c79e96a0888a5b79f504ce5b0755df31ddd", func := "loop.example/g00862/laws.FnExactShortestFiringSequence", spec := "fnExactShortestFiringSequence", unfollowed := true, recurses := true, plainKeys := false, apart := false, narrowed := true }
def FnExactShortestFiringSequenceUptoSaid : Prop := fnExactShortestFiringSequenceUptoRow.holds Try.pinned (OpenSpec.upto fnExactShortestFiringSequenceSpec)

/-- 'laws.FnExactShortestPath', WHERE WHAT IT READS IS OF BULK AT MOST 1048576: true; the input reads as it did. -/
def fnExactShortestPathUptoRow : OpenClaim := { program := "ytjfipianehabgaa", sum := "6d273389667e1876cbe39431ff5a2c79e96a0888a5b79f504ce5b0755df31ddd", func := "loop.example/g00862/laws.FnExactShortestPath", spec := "fnExactShortestPath", unfollowed := true, recurses := true, plainKeys := false, apart := false, narrowed := true }
def FnExactShortestPathUptoSaid : Prop := fnExactShortestPathUptoRow.holds Try.pinned (OpenSpec.upto fnExactShortestPathSpec)

/-- 'laws.FnExactIsRegion', WHERE WHAT IT READS IS OF BULK AT MOST 1048576: true; the input reads as it did. -/
def fnExactIsRegionUptoRow : OpenClaim := { program := "ytjfipianehabgaa", sum := "6d273389667e1876cbe39431ff5a2c79e96a0888a5b79f504ce5b0755df31ddd", func := "loop.example/g00862/laws.FnExactIsRegion", spec := "fnExactIsRegion", unfollowed := true, recurses := true, plainKeys := false, apart := false, narrowed := true }
def FnExactIsRegionUptoSaid : Prop := fnExactIsRegionUptoRow.holds Try.pinned (OpenSpec.upto fnExactIsRegionSpec)

/-- 'laws.FnExactAreIndependent', WHERE WHAT IT READS IS OF BULK AT MOST 1048576: true; the input reads as it did. -/
def fnExactAreIndependentUptoRow : OpenClaim := { program := "ytjfipianehabgaa", sum := "6d273389667e1876cbe39431ff5a2c79e96a0888a5b79f504ce5b0755df31ddd", func := "loop.example/g00862/laws.FnExactAreIndependent", spec := "fnExactAreIndependent", unfollowed := true, recurses := true, plainKeys := false, apart := false, narrowed := true }
def FnExactAreIndependentUptoSaid : Prop := fnExactAreIndependentUptoRow.holds Try.pinned (OpenSpec.upto fnExactAreIndependentSpec)

/-- 'laws.FnExactFormatTrace', WHERE WHAT IT READS IS OF BULK AT MOST 1048576: true; the input reads as it did. -/
def fnExactFormatTraceUptoRow : OpenClaim := { program := "ytjfipianehabgaa", sum := "6d273389667e1876cbe39431ff5a2c79e96a0888a5b79f504ce5b0755df31ddd", func := "loop.example/g00862/laws.FnExactFormatTrace", spec := "fnExactFormatTrace", inPlace := ["internal/abi.NoEscape", "internal/bytealg.MakeNoZero"], unfollowed := true, recurses := true, plainKeys := false, apart := false, narrowed := true }
def FnExactFormatTraceUptoSaid : Prop := fnExactFormatTraceUptoRow.holds Try.pinned (OpenSpec.upto fnExactFormatTraceSpec)

/-- 'laws.FnExactInitialUnfolding', WHERE WHAT IT READS IS OF BULK AT MOST 1048576: true; the input reads as it did. -/
def fnExactInitialUnfoldingUptoRow : OpenClaim := { program := "ytjfipianehabgaa", sum := "6d273389667e1876cbe39431ff5a2c79e96a0888a5b79f504ce5b0755df31ddd", func := "loop.example/g00862/laws.FnExactInitialUnfolding", spec := "fnExactInitialUnfolding", unfollowed := true, recurses := true, plainKeys := false, apart := false, narrowed := true }
def FnExactInitialUnfoldingUptoSaid : Prop := fnExactInitialUnfoldingUptoRow.holds Try.pinned (OpenSpec.upto fnExactInitialUnfoldingSpec)

/-- 'laws.FnExactHideSignal', WHERE WHAT IT READS IS OF BULK AT MOST 1048576: true; the input reads as it did. -/
def fnExactHideSignalUptoRow : OpenClaim := { program := "ytjfipianehabgaa", sum := "6d273389667e1876cbe39431ff5a2c79e96a0888a5b79f504ce5b0755df31ddd", func := "loop.example/g00862/laws.FnExactHideSignal", spec := "fnExactHideSignal", unfollowed := true, recurses := true, plainKeys := false, apart := false, narrowed := true }
def FnExactHideSignalUptoSaid : Prop := fnExactHideSignalUptoRow.holds Try.pinned (OpenSpec.upto fnExactHideSignalSpec)

/-- 'laws.FnExactUnionSTGs', WHERE WHAT IT READS IS OF BULK AT MOST 1048576: true; the input reads as it did. -/
def fnExactUnionSTGsUptoRow : OpenClaim := { program := "ytjfipianehabgaa", sum := "6d273389667e1876cbe39431ff5a2c79e96a0888a5b79f504ce5b0755df31ddd", func := "loop.example/g00862/laws.FnExactUnionSTGs", spec := "fnExactUnionSTGs", unfollowed := true, recurses := true, plainKeys := false, apart := false, narrowed := true }
def FnExactUnionSTGsUptoSaid : Prop := fnExactUnionSTGsUptoRow.holds Try.pinned (OpenSpec.upto fnExactUnionSTGsSpec)

/-- 'laws.FnExactRemovePlace', WHERE WHAT IT READS IS OF BULK AT MOST 1048576: true; the input reads as it did. -/
def fnExactRemovePlaceUptoRow : OpenClaim := { program := "ytjfipianehabgaa", sum := "6d273389667e1876cbe39431ff5a2c79e96a0888a5b79f504ce5b0755df31ddd", func := "loop.example/g00862/laws.FnExactRemovePlace", spec := "fnExactRemovePlace", unfollowed := true, recurses := true, plainKeys := false, apart := false, narrowed := true }
def FnExactRemovePlaceUptoSaid : Prop := fnExactRemovePlaceUptoRow.holds Try.pinned (OpenSpec.upto fnExactRemovePlaceSpec)

/-- 'laws.FnExactExcitedStates', WHERE WHAT IT READS IS OF BULK AT MOST 1048576: true; the input reads as it did. -/
def fnExactExcitedStatesUptoRow : OpenClaim := { program := "ytjfipianehabgaa", sum := "6d273389667e1876cbe39431ff5a2c79e96a0888a5b79f504ce5b0755df31ddd", func := "loop.example/g00862/laws.FnExactExcitedStates", spec := "fnExactExcitedStates", unfollowed := true, recurses := true, plainKeys := false, apart := false, narrowed := true }
def FnExactExcitedStatesUptoSaid : Prop := fnExactExcitedStatesUptoRow.holds Try.pinned (OpenSpec.upto fnExactExcitedStatesSpec)

/-- 'laws.FnExactSwitchedStates', WHERE WHAT IT READS IS OF BULK AT MOST 1048576: true; the input reads as it did. -/
def fnExactSwitchedStatesUptoRow : OpenClaim := { program := "ytjfipianehabgaa", sum := "6d273389667e1876cbe39431ff5a2c79e96a0888a5b79f504ce5b0755df31ddd", func := "loop.example/g00862/laws.FnExactSwitchedStates", spec := "fnExactSwitchedStates", unfollowed := true, recurses := true, plainKeys := false, apart := false, narrowed := true }
def FnExactSwitchedStatesUptoSaid : Prop := fnExactSwitchedStatesUptoRow.holds Try.pinned (OpenSpec.upto fnExactSwitchedStatesSpec)

end Rows
end Go.Proofs.Ytjfipianehabgaa
