/-
  No cell of these rows narrows 'for every input' (looked for: loops, veiled, ifaces, maps, wideKeys, modest, calm, conditions, laid).
  DERIVED. THE GIVEN ROWS OF THIS SEAT. 12 by the template 'for every input the law returns true; each argument reads behind the call as it read before'; 0 by the template 'total and deterministic' (their statements: YtgccmlgbbjljjaaTotals.lean).
  GIVEN WITH THE SEED: the statements are not yours to turn. If you find one false, say at which input.
  Laid BY PROGRAM, IN A SANDBOX (cutbox-rows.mjs): the forced cells as the released guide's own fill.sh prints them over the translation 412a2b2133cb259d… (all of the seat's roots in one cut). By AI agents, Wed Nov 11 2026. No macro, syntax, notation, axiom, sorry.
-/
import Derived.Test.YtgccmlgbbjljjaaChecked
import GoSem.Claim
import GoSem.ClaimJoined
import GoSem.ClaimMapViews
import Derived.JoinedTies
import Derived.KernelRfl
namespace Go.Proofs.Ytgccmlgbbjljjaa
/- THE CELL 'sum', in the pinned program and in every row, IS THE sha256 OF THE DUMP (.gsa) THAT YtgccmlgbbjljjaaProg.lean LOADS. Nothing in Lean hashes anything: it is a label: what it is worth is what the hold of that sum in a sandbox is worth. -/
noncomputable def Try.pinned : Pinned := { name := "ytgccmlgbbjljjaa", sum := "412a2b2133cb259d663303332f01b86792d666859fe14b5bbdc1f6ee1b65b2dc", checked := Try.checked }
namespace Rows
def none {H : Type} : Left H := { results := [], args := [] }

/-- 'laws.FnExactCountPaths': WHATEVER THE INPUT: true; the input reads as it did. -/
def fnExactCountPathsSpec : ChangeSpec := { name := "fnExactCountPaths", fn := fun _ => fun
  | [d1, d2] => { results := [.lit (.bool true)], args := [d1, d2] }
  | _ => none }
def fnExactCountPathsRow : OpenClaim := { program := "ytgccmlgbbjljjaa", sum := "412a2b2133cb259d663303332f01b86792d666859fe14b5bbdc1f6ee1b65b2dc", func := "loop.example/g00862/laws.FnExactCountPaths", spec := "fnExactCountPaths", apart := false }
def FnExactCountPathsSaid : Prop := fnExactCountPathsRow.holds Try.pinned (OpenSpec.ofChange fnExactCountPathsSpec)

/-- ITS FALSE NEIGHBOUR: 'it returns false'. Refute it at one input. -/
def fnExactCountPathsWrong : ChangeSpec := { name := "fnExactCountPaths", fn := fun _ => fun
  | [d1, d2] => { results := [.lit (.bool false)], args := [d1, d2] }
  | _ => none }
def FnExactCountPathsWrongFalsely : Prop := fnExactCountPathsRow.holds Try.pinned (OpenSpec.ofChange fnExactCountPathsWrong)

/-- 'laws.FnExactAreIndependent': WHATEVER THE INPUT: true; the input reads as it did. -/
def fnExactAreIndependentSpec : ChangeSpec := { name := "fnExactAreIndependent", fn := fun _ => fun
  | [d1, d2, d3] => { results := [.lit (.bool true)], args := [d1, d2, d3] }
  | _ => none }
def fnExactAreIndependentRow : OpenClaim := { program := "ytgccmlgbbjljjaa", sum := "412a2b2133cb259d663303332f01b86792d666859fe14b5bbdc1f6ee1b65b2dc", func := "loop.example/g00862/laws.FnExactAreIndependent", spec := "fnExactAreIndependent", unfollowed := true, recurses := true, apart := false }
def FnExactAreIndependentSaid : Prop := fnExactAreIndependentRow.holds Try.pinned (OpenSpec.ofChange fnExactAreIndependentSpec)

/-- ITS FALSE NEIGHBOUR: 'it returns false'. Refute it at one input. -/
def fnExactAreIndependentWrong : ChangeSpec := { name := "fnExactAreIndependent", fn := fun _ => fun
  | [d1, d2, d3] => { results := [.lit (.bool false)], args := [d1, d2, d3] }
  | _ => none }
def FnExactAreIndependentWrongFalsely : Prop := fnExactAreIndependentRow.holds Try.pinned (OpenSpec.ofChange fnExactAreIndependentWrong)

/-- 'laws.FnExactEnabled': WHATEVER THE INPUT: true; the input reads as it did. -/
def fnExactEnabledSpec : ChangeSpec := { name := "fnExactEnabled", fn := fun _ => fun
  | [d1, d2] => { results := [.lit (.bool true)], args := [d1, d2] }
  | _ => none }
def fnExactEnabledRow : OpenClaim := { program := "ytgccmlgbbjljjaa", sum := "412a2b2133cb259d663303332f01b86792d666859fe14b5bbdc1f6ee1b65b2dc", func := "loop.example/g00862/laws.FnExactEnabled", spec := "fnExactEnabled", unfollowed := true, recurses := true, apart := false }
def FnExactEnabledSaid : Prop := fnExactEnabledRow.holds Try.pinned (OpenSpec.ofChange fnExactEnabledSpec)

/-- ITS FALSE NEIGHBOUR: 'it returns false'. Refute it at one input. -/
def fnExactEnabledWrong : ChangeSpec := { name := "fnExactEnabled", fn := fun _ => fun
  | [d1, d2] => { results := [.lit (.bool false)], args := [d1, d2] }
  | _ => none }
def FnExactEnabledWrongFalsely : Prop := fnExactEnabledRow.holds Try.pinned (OpenSpec.ofChange fnExactEnabledWrong)

/-- 'laws.FnExactReverseNet': WHATEVER THE INPUT: true; the input reads as it did. -/
def fnExactReverseNetSpec : ChangeSpec := { name := "fnExactReverseNet", fn := fun _ => fun
  | [d] => { results := [.lit (.bool true)], args := [d] }
  | _ => none }
def fnExactReverseNetRow : OpenClaim := { program := "ytgccmlgbbjljjaa", sum := "412a2b2133cb259d663303332f01b86792d666859fe14b5bbdc1f6ee1b65b2dc", func := "loop.example/g00862/laws.FnExactReverseNet", spec := "fnExactReverseNet", unfollowed := true, recurses := true, apart := false }
def FnExactReverseNetSaid : Prop := fnExactReverseNetRow.holds Try.pinned (OpenSpec.ofChange fnExactReverseNetSpec)

/-- ITS FALSE NEIGHBOUR: 'it returns false'. Refute it at one input. -/
def fnExactReverseNetWrong : ChangeSpec := { name := "fnExactReverseNet", fn := fun _ => fun
  | [d] => { results := [.lit (.bool false)], args := [d] }
  | _ => none }
def FnExactReverseNetWrongFalsely : Prop := fnExactReverseNetRow.holds Try.pinned (OpenSpec.ofChange fnExactReverseNetWrong)

/-- 'laws.FnExactMovesFrom': WHATEVER THE INPUT: true; the input reads as it did. -/
def fnExactMovesFromSpec : ChangeSpec := { name := "fnExactMovesFrom", fn := fun _ => fun
  | [d1, d2] => { results := [.lit (.bool true)], args := [d1, d2] }
  | _ => none }
def fnExactMovesFromRow : OpenClaim := { program := "ytgccmlgbbjljjaa", sum := "412a2b2133cb259d663303332f01b86792d666859fe14b5bbdc1f6ee1b65b2dc", func := "loop.example/g00862/laws.FnExactMovesFrom", spec := "fnExactMovesFrom", unfollowed := true, recurses := true, apart := false }
def FnExactMovesFromSaid : Prop := fnExactMovesFromRow.holds Try.pinned (OpenSpec.ofChange fnExactMovesFromSpec)

/-- ITS FALSE NEIGHBOUR: 'it returns false'. Refute it at one input. -/
def fnExactMovesFromWrong : ChangeSpec := { name := "fnExactMovesFrom", fn := fun _ => fun
  | [d1, d2] => { results := [.lit (.bool false)], args := [d1, d2] }
  | _ => none }
def FnExactMovesFromWrongFalsely : Prop := fnExactMovesFromRow.holds Try.pinned (OpenSpec.ofChange fnExactMovesFromWrong)

/-- 'laws.FnExactDeadlocks': WHATEVER THE INPUT: true; the input reads as it did. -/
def fnExactDeadlocksSpec : ChangeSpec := { name := "fnExactDeadlocks", fn := fun _ => fun
  | [d] => { results := [.lit (.bool true)], args := [d] }
  | _ => none }
def fnExactDeadlocksRow : OpenClaim := { program := "ytgccmlgbbjljjaa", sum := "412a2b2133cb259d663303332f01b86792d666859fe14b5bbdc1f6ee1b65b2dc", func := "loop.example/g00862/laws.FnExactDeadlocks", spec := "fnExactDeadlocks", unfollowed := true, recurses := true, apart := false }
def FnExactDeadlocksSaid : Prop := fnExactDeadlocksRow.holds Try.pinned (OpenSpec.ofChange fnExactDeadlocksSpec)

/-- ITS FALSE NEIGHBOUR: 'it returns false'. Refute it at one input. -/
def fnExactDeadlocksWrong : ChangeSpec := { name := "fnExactDeadlocks", fn := fun _ => fun
  | [d] => { results := [.lit (.bool false)], args := [d] }
  | _ => none }
def FnExactDeadlocksWrongFalsely : Prop := fnExactDeadlocksRow.holds Try.pinned (OpenSpec.ofChange fnExactDeadlocksWrong)

/-- 'laws.FnExactUnionNets': WHATEVER THE INPUT: true; the input reads as it did. -/
def fnExactUnionNetsSpec : ChangeSpec := { name := "fnExactUnionNets", fn := fun _ => fun
  | [d1, d2] => { results := [.lit (.bool true)], args := [d1, d2] }
  | _ => none }
def fnExactUnionNetsRow : OpenClaim := { program := "ytgccmlgbbjljjaa", sum := "412a2b2133cb259d663303332f01b86792d666859fe14b5bbdc1f6ee1b65b2dc", func := "loop.example/g00862/laws.FnExactUnionNets", spec := "fnExactUnionNets", unfollowed := true, recurses := true, apart := false }
def FnExactUnionNetsSaid : Prop := fnExactUnionNetsRow.holds Try.pinned (OpenSpec.ofChange fnExactUnionNetsSpec)

/-- ITS FALSE NEIGHBOUR: 'it returns false'. Refute it at one input. -/
def fnExactUnionNetsWrong : ChangeSpec := { name := "fnExactUnionNets", fn := fun _ => fun
  | [d1, d2] => { results := [.lit (.bool false)], args := [d1, d2] }
  | _ => none }
def FnExactUnionNetsWrongFalsely : Prop := fnExactUnionNetsRow.holds Try.pinned (OpenSpec.ofChange fnExactUnionNetsWrong)

/-- 'laws.FnExactHomeStates': WHATEVER THE INPUT: true; the input reads as it did. -/
def fnExactHomeStatesSpec : ChangeSpec := { name := "fnExactHomeStates", fn := fun _ => fun
  | [d] => { results := [.lit (.bool true)], args := [d] }
  | _ => none }
def fnExactHomeStatesRow : OpenClaim := { program := "ytgccmlgbbjljjaa", sum := "412a2b2133cb259d663303332f01b86792d666859fe14b5bbdc1f6ee1b65b2dc", func := "loop.example/g00862/laws.FnExactHomeStates", spec := "fnExactHomeStates", apart := false }
def FnExactHomeStatesSaid : Prop := fnExactHomeStatesRow.holds Try.pinned (OpenSpec.ofChange fnExactHomeStatesSpec)

/-- ITS FALSE NEIGHBOUR: 'it returns false'. Refute it at one input. -/
def fnExactHomeStatesWrong : ChangeSpec := { name := "fnExactHomeStates", fn := fun _ => fun
  | [d] => { results := [.lit (.bool false)], args := [d] }
  | _ => none }
def FnExactHomeStatesWrongFalsely : Prop := fnExactHomeStatesRow.holds Try.pinned (OpenSpec.ofChange fnExactHomeStatesWrong)

/-- 'laws.FnExactInitialUnfolding': WHATEVER THE INPUT: true; the input reads as it did. -/
def fnExactInitialUnfoldingSpec : ChangeSpec := { name := "fnExactInitialUnfolding", fn := fun _ => fun
  | [d1, d2] => { results := [.lit (.bool true)], args := [d1, d2] }
  | _ => none }
def fnExactInitialUnfoldingRow : OpenClaim := { program := "ytgccmlgbbjljjaa", sum := "412a2b2133cb259d663303332f01b86792d666859fe14b5bbdc1f6ee1b65b2dc", func := "loop.example/g00862/laws.FnExactInitialUnfolding", spec := "fnExactInitialUnfolding", unfollowed := true, recurses := true, apart := false }
def FnExactInitialUnfoldingSaid : Prop := fnExactInitialUnfoldingRow.holds Try.pinned (OpenSpec.ofChange fnExactInitialUnfoldingSpec)

/-- ITS FALSE NEIGHBOUR: 'it returns false'. Refute it at one input. -/
def fnExactInitialUnfoldingWrong : ChangeSpec := { name := "fnExactInitialUnfolding", fn := fun _ => fun
  | [d1, d2] => { results := [.lit (.bool false)], args := [d1, d2] }
  | _ => none }
def FnExactInitialUnfoldingWrongFalsely : Prop := fnExactInitialUnfoldingRow.holds Try.pinned (OpenSpec.ofChange fnExactInitialUnfoldingWrong)

/-- 'laws.FnExactShortestFiringSequence': WHATEVER THE INPUT: true; the input reads as it did. -/
def fnExactShortestFiringSequenceSpec : ChangeSpec := { name := "fnExactShortestFiringSequence", fn := fun _ => fun
  | [d1, d2] => { results := [.lit (.bool true)], args := [d1, d2] }
  | _ => none }
def fnExactShortestFiringSequenceRow : OpenClaim := { program := "ytgccmlgbbjljjaa", sum := "412a2b2133cb259d663303332f01b86792d666859fe14b5bbdc1f6ee1b65b2dc", func := "loop.example/g00862/laws.FnExactShortestFiringSequence", spec := "fnExactShortestFiringSequence", unfollowed := true, recurses := true, apart := false }
def FnExactShortestFiringSequenceSaid : Prop := fnExactShortestFiringSequenceRow.holds Try.pinned (OpenSpec.ofChange fnExactShortestFiringSequenceSpec)

/-- ITS FALSE NEIGHBOUR: 'it returns false'. Refute it at one input. -/
def fnExactShortestFiringSequenceWrong : ChangeSpec := { name := "fnExactShortestFiringSequence", fn := fun _ => fun
  | [d1, d2] => { results := [.lit (.bool false)], args := [d1, d2] }
  | _ => none }
def FnExactShortestFiringSequenceWrongFalsely : Prop := fnExactShortestFiringSequenceRow.holds Try.pinned (OpenSpec.ofChange fnExactShortestFiringSequenceWrong)

/-- 'laws.FnExactIsValidSTG': WHATEVER THE INPUT: true; the input reads as it did. -/
def fnExactIsValidSTGSpec : ChangeSpec := { name := "fnExactIsValidSTG", fn := fun _ => fun
  | [d] => { results := [.lit (.bool true)], args := [d] }
  | _ => none }
def fnExactIsValidSTGRow : OpenClaim := { program := "ytgccmlgbbjljjaa", sum := "412a2b2133cb259d663303332f01b86792d666859fe14b5bbdc1f6ee1b65b2dc", func := "loop.example/g00862/laws.FnExactIsValidSTG", spec := "fnExactIsValidSTG", unfollowed := true, recurses := true, apart := false }
def FnExactIsValidSTGSaid : Prop := fnExactIsValidSTGRow.holds Try.pinned (OpenSpec.ofChange fnExactIsValidSTGSpec)

/-- ITS FALSE NEIGHBOUR: 'it returns false'. Refute it at one input. -/
def fnExactIsValidSTGWrong : ChangeSpec := { name := "fnExactIsValidSTG", fn := fun _ => fun
  | [d] => { results := [.lit (.bool false)], args := [d] }
  | _ => none }
def FnExactIsValidSTGWrongFalsely : Prop := fnExactIsValidSTGRow.holds Try.pinned (OpenSpec.ofChange fnExactIsValidSTGWrong)

/-- 'laws.FnExactSignalIndex': WHATEVER THE INPUT: true; the input reads as it did. -/
def fnExactSignalIndexSpec : ChangeSpec := { name := "fnExactSignalIndex", fn := fun _ => fun
  | [d1, d2] => { results := [.lit (.bool true)], args := [d1, d2] }
  | _ => none }
def fnExactSignalIndexRow : OpenClaim := { program := "ytgccmlgbbjljjaa", sum := "412a2b2133cb259d663303332f01b86792d666859fe14b5bbdc1f6ee1b65b2dc", func := "loop.example/g00862/laws.FnExactSignalIndex", spec := "fnExactSignalIndex", unfollowed := true, recurses := true, apart := false }
def FnExactSignalIndexSaid : Prop := fnExactSignalIndexRow.holds Try.pinned (OpenSpec.ofChange fnExactSignalIndexSpec)

/-- ITS FALSE NEIGHBOUR: 'it returns false'. Refute it at one input. -/
def fnExactSignalIndexWrong : ChangeSpec := { name := "fnExactSignalIndex", fn := fun _ => fun
  | [d1, d2] => { results := [.lit (.bool false)], args := [d1, d2] }
  | _ => none }
def FnExactSignalIndexWrongFalsely : Prop := fnExactSignalIndexRow.holds Try.pinned (OpenSpec.ofChange fnExactSignalIndexWrong)

/- THE SECOND FORM. 'bulk': how many values and letters a reading holds, each counted each time it is reached (what is shared counts as often as it is met; a slice's spare places count too). A statement '..UptoSaid' is the law's where the arguments, and the package variables that the reading takes, are together of bulk at most 1048576: NARROWER than '..Said'. Prove '..Said' where nothing that the law and all that it calls make is longer than what came in: it says more and counts as full. Else prove '..UptoSaid'. A law counts once. -/
mutual
def uptoBulk {H : Type} : DataW H → Nat
  | .lit (.string bytes) => bytes.length + 1
  | .lit _ => 1
  | .nil => 1
  | .ptr d => uptoBulk d + 1
  | .slice elems spare => uptoBulkAll elems + uptoBulkAll spare + 1
  | .agg parts => uptoBulkAll parts + 1
  | .iface _ d => uptoBulk d + 1
  | .map entries => uptoBulkEntries entries + 1
  | .held _ => 1
def uptoBulkAll {H : Type} : List (DataW H) → Nat
  | [] => 0
  | d :: r => uptoBulk d + uptoBulkAll r
def uptoBulkEntries {H : Type} : List (Lit × DataW H) → Nat
  | [] => 0
  | x :: r => uptoBulkEntry x + uptoBulkEntries r
def uptoBulkEntry {H : Type} : Lit × DataW H → Nat
  | (.string bytes, d) => bytes.length + uptoBulk d + 1
  | (_, d) => uptoBulk d + 1
 end
def uptoSmall : (H : Type) → List (DataW H) → Bool := fun _ ds => decide (uptoBulkAll ds ≤ 1048576)
def OpenSpec.upto (s : _root_.Go.ChangeSpec) : _root_.Go.OpenSpec := { _root_.Go.OpenSpec.ofChange s with cond := some uptoSmall }

/-- 'laws.FnExactCountPaths', WHERE WHAT IT READS IS OF BULK AT MOST 1048576: true; the input reads as it did. -/
def fnExactCountPathsUptoRow : OpenClaim := { program := "ytgccmlgbbjljjaa", sum := "412a2b2133cb259d663303332f01b86792d666859fe14b5bbdc1f6ee1b65b2dc", func := "loop.example/g00862/laws.FnExactCountPaths", spec := "fnExactCountPaths", apart := false, narrowed := true }
def FnExactCountPathsUptoSaid : Prop := fnExactCountPathsUptoRow.holds Try.pinned (OpenSpec.upto fnExactCountPathsSpec)

/-- 'laws.FnExactAreIndependent', WHERE WHAT IT READS IS OF BULK AT MOST 1048576: true; the input reads as it did. -/
def fnExactAreIndependentUptoRow : OpenClaim := { program := "ytgccmlgbbjljjaa", sum := "412a2b2133cb259d663303332f01b86792d666859fe14b5bbdc1f6ee1b65b2dc", func := "loop.example/g00862/laws.FnExactAreIndependent", spec := "fnExactAreIndependent", unfollowed := true, recurses := true, apart := false, narrowed := true }
def FnExactAreIndependentUptoSaid : Prop := fnExactAreIndependentUptoRow.holds Try.pinned (OpenSpec.upto fnExactAreIndependentSpec)

/-- 'laws.FnExactEnabled', WHERE WHAT IT READS IS OF BULK AT MOST 1048576: true; the input reads as it did. -/
def fnExactEnabledUptoRow : OpenClaim := { program := "ytgccmlgbbjljjaa", sum := "412a2b2133cb259d663303332f01b86792d666859fe14b5bbdc1f6ee1b65b2dc", func := "loop.example/g00862/laws.FnExactEnabled", spec := "fnExactEnabled", unfollowed := true, recurses := true, apart := false, narrowed := true }
def FnExactEnabledUptoSaid : Prop := fnExactEnabledUptoRow.holds Try.pinned (OpenSpec.upto fnExactEnabledSpec)

/-- 'laws.FnExactReverseNet', WHERE WHAT IT READS IS OF BULK AT MOST 1048576: true; the input reads as it did. -/
def fnExactReverseNetUptoRow : OpenClaim := { program := "ytgccmlgbbjljjaa", sum := "412a2b2133cb259d663303332f01b86792d666859fe14b5bbdc1f6ee1b65b2dc", func := "loop.example/g00862/laws.FnExactReverseNet", spec := "fnExactReverseNet", unfollowed := true, recurses := true, apart := false, narrowed := true }
def FnExactReverseNetUptoSaid : Prop := fnExactReverseNetUptoRow.holds Try.pinned (OpenSpec.upto fnExactReverseNetSpec)

/-- 'laws.FnExactMovesFrom', WHERE WHAT IT READS IS OF BULK AT MOST 1048576: true; the input reads as it did. -/
def fnExactMovesFromUptoRow : OpenClaim := { program := "ytgccmlgbbjljjaa", sum := "412a2b2133cb259d663303332f01b86792d666859fe14b5bbdc1f6ee1b65b2dc", func := "loop.example/g00862/laws.FnExactMovesFrom", spec := "fnExactMovesFrom", unfollowed := true, recurses := true, apart := false, narrowed := true }
def FnExactMovesFromUptoSaid : Prop := fnExactMovesFromUptoRow.holds Try.pinned (OpenSpec.upto fnExactMovesFromSpec)

/-- 'laws.FnExactDeadlocks', WHERE WHAT IT READS IS OF BULK AT MOST 1048576: true; the input reads as it did. -/
def fnExactDeadlocksUptoRow : OpenClaim := { program := "ytgccmlgbbjljjaa", sum := "412a2b2133cb259d663303332f01b86792d666859fe14b5bbdc1f6ee1b65b2dc", func := "loop.example/g00862/laws.FnExactDeadlocks", spec := "fnExactDeadlocks", unfollowed := true, recurses := true, apart := false, narrowed := true }
def FnExactDeadlocksUptoSaid : Prop := fnExactDeadlocksUptoRow.holds Try.pinned (OpenSpec.upto fnExactDeadlocksSpec)

/-- 'laws.FnExactUnionNets', WHERE WHAT IT READS IS OF BULK AT MOST 1048576: true; the input reads as it did. -/
def fnExactUnionNetsUptoRow : OpenClaim := { program := "ytgccmlgbbjljjaa", sum := "412a2b2133cb259d663303332f01b86792d666859fe14b5bbdc1f6ee1b65b2dc", func := "loop.example/g00862/laws.FnExactUnionNets", spec := "fnExactUnionNets", unfollowed := true, recurses := true, apart := false, narrowed := true }
def FnExactUnionNetsUptoSaid : Prop := fnExactUnionNetsUptoRow.holds Try.pinned (OpenSpec.upto fnExactUnionNetsSpec)

/-- 'laws.FnExactHomeStates', WHERE WHAT IT READS IS OF BULK AT MOST 1048576: true; the input reads as it did. -/
def fnExactHomeStatesUptoRow : OpenClaim := { program := "ytgccmlgbbjljjaa", sum := "412a2b2133cb259d663303332f01b86792d666859fe14b5bbdc1f6ee1b65b2dc", func := "loop.example/g00862/laws.FnExactHomeStates", spec := "fnExactHomeStates", apart := false, narrowed := true }
def FnExactHomeStatesUptoSaid : Prop := fnExactHomeStatesUptoRow.holds Try.pinned (OpenSpec.upto fnExactHomeStatesSpec)

/-- 'laws.FnExactInitialUnfolding', WHERE WHAT IT READS IS OF BULK AT MOST 1048576: true; the input reads as it did. -/
def fnExactInitialUnfoldingUptoRow : OpenClaim := { program := "ytgccmlgbbjljjaa", sum := "412a2b2133cb259d663303332f01b86792d666859fe14b5bbdc1f6ee1b65b2dc", func := "loop.example/g00862/laws.FnExactInitialUnfolding", spec := "fnExactInitialUnfolding", unfollowed := true, recurses := true, apart := false, narrowed := true }
def FnExactInitialUnfoldingUptoSaid : Prop := fnExactInitialUnfoldingUptoRow.holds Try.pinned (OpenSpec.upto fnExactInitialUnfoldingSpec)

/-- 'laws.FnExactShortestFiringSequence', WHERE WHAT IT READS IS OF BULK AT MOST 1048576: true; the input reads as it did. -/
def fnExactShortestFiringSequenceUptoRow : OpenClaim := { program := "ytgccmlgbbjljjaa", sum := "412a2b2133cb259d663303332f01b86792d666859fe14b5bbdc1f6ee1b65b2dc", func := "loop.example/g00862/laws.FnExactShortestFiringSequence", spec := "fnExactShortestFiringSequence", unfollowed := true, recurses := true, apart := false, narrowed := true }
def FnExactShortestFiringSequenceUptoSaid : Prop := fnExactShortestFiringSequenceUptoRow.holds Try.pinned (OpenSpec.upto fnExactShortestFiringSequenceSpec)

/-- 'laws.FnExactIsValidSTG', WHERE WHAT IT READS IS OF BULK AT MOST 1048576: true; the input reads as it did. -/
def fnExactIsValidSTGUptoRow : OpenClaim := { program := "ytgccmlgbbjljjaa", sum := "412a2b2133cb259d663303332f01b86792d666859fe14b5bbdc1f6ee1b65b2dc", func := "loop.example/g00862/laws.FnExactIsValidSTG", spec := "fnExactIsValidSTG", unfollowed := true, recurses := true, apart := false, narrowed := true }
def FnExactIsValidSTGUptoSaid : Prop := fnExactIsValidSTGUptoRow.holds Try.pinned (OpenSpec.upto fnExactIsValidSTGSpec)

/-- 'laws.FnExactSignalIndex', WHERE WHAT IT READS IS OF BULK AT MOST 1048576: true; the input reads as it did. -/
def fnExactSignalIndexUptoRow : OpenClaim := { program := "ytgccmlgbbjljjaa", sum := "412a2b2133cb259d663303332f01b86792d666859fe14b5bbdc1f6ee1b65b2dc", func := "loop.example/g00862/laws.FnExactSignalIndex", spec := "fnExactSignalIndex", unfollowed := true, recurses := true, apart := false, narrowed := true }
def FnExactSignalIndexUptoSaid : Prop := fnExactSignalIndexUptoRow.holds Try.pinned (OpenSpec.upto fnExactSignalIndexSpec)

end Rows
end Go.Proofs.Ytgccmlgbbjljjaa
