/-
  No cell of these rows narrows 'for every input' (looked for: loops, veiled, ifaces, maps, wideKeys, modest, calm, conditions, laid).
  DERIVED. THE GIVEN ROWS OF THIS SEAT. 12 by the template 'for every input the law returns true; each argument reads behind the call as it read before'; 0 by the template 'total and deterministic' (their statements: YtpmiihejbmdkfaaTotals.lean).
  GIVEN WITH THE SEED: the statements are not yours to turn. If you find one false, say at which input.
  Laid BY PROGRAM, IN A SANDBOX (cutbox-rows.mjs): the forced cells as the released guide's own fill.sh prints them over the translation ad4e8755bcdb6feb… (all of the seat's roots in one cut). By AI agents, Wed Nov 11 2026. No macro, syntax, notation, axiom, sorry.
-/
import Derived.Test.YtpmiihejbmdkfaaChecked
import GoSem.Claim
import GoSem.ClaimJoined
import GoSem.ClaimMapViews
import Derived.JoinedTies
import Derived.KernelRfl
namespace Go.Proofs.Ytpmiihejbmdkfaa
/- THE CELL 'sum', in the pinned program and in every row, IS THE sha256 OF THE DUMP (.gsa) THAT YtpmiihejbmdkfaaProg.lean LOADS. Nothing in Lean hashes anything: it is a label: what it is worth is what the hold of that sum in a sandbox is worth. -/
noncomputable def Try.pinned : Pinned := { name := "ytpmiihejbmdkfaa", sum := "ad4e8755bcdb6febd44c087afd5ed4c9ab14e34db482df28be5bac7c871bec54", checked := Try.checked }
namespace Rows
def none {H : Type} : Left H := { results := [], args := [] }

/-- 'laws.FnExactTransitionsOf': WHATEVER THE INPUT: true; the input reads as it did. -/
def fnExactTransitionsOfSpec : ChangeSpec := { name := "fnExactTransitionsOf", fn := fun _ => fun
  | [d1, d2, d3] => { results := [.lit (.bool true)], args := [d1, d2, d3] }
  | _ => none }
def fnExactTransitionsOfRow : OpenClaim := { program := "ytpmiihejbmdkfaa", sum := "ad4e8755bcdb6febd44c087afd5ed4c9ab14e34db482df28be5bac7c871bec54", func := "loop.example/g00862/laws.FnExactTransitionsOf", spec := "fnExactTransitionsOf", unfollowed := true, recurses := true, apart := false }
def FnExactTransitionsOfSaid : Prop := fnExactTransitionsOfRow.holds Try.pinned (OpenSpec.ofChange fnExactTransitionsOfSpec)

/-- ITS FALSE NEIGHBOUR: 'it returns false'. Refute it at one input. -/
def fnExactTransitionsOfWrong : ChangeSpec := { name := "fnExactTransitionsOf", fn := fun _ => fun
  | [d1, d2, d3] => { results := [.lit (.bool false)], args := [d1, d2, d3] }
  | _ => none }
def FnExactTransitionsOfWrongFalsely : Prop := fnExactTransitionsOfRow.holds Try.pinned (OpenSpec.ofChange fnExactTransitionsOfWrong)

/-- 'laws.FnExactVisibleLabels': WHATEVER THE INPUT: true; the input reads as it did. -/
def fnExactVisibleLabelsSpec : ChangeSpec := { name := "fnExactVisibleLabels", fn := fun _ => fun
  | [d1, d2] => { results := [.lit (.bool true)], args := [d1, d2] }
  | _ => none }
def fnExactVisibleLabelsRow : OpenClaim := { program := "ytpmiihejbmdkfaa", sum := "ad4e8755bcdb6febd44c087afd5ed4c9ab14e34db482df28be5bac7c871bec54", func := "loop.example/g00862/laws.FnExactVisibleLabels", spec := "fnExactVisibleLabels", unfollowed := true, recurses := true, apart := false }
def FnExactVisibleLabelsSaid : Prop := fnExactVisibleLabelsRow.holds Try.pinned (OpenSpec.ofChange fnExactVisibleLabelsSpec)

/-- ITS FALSE NEIGHBOUR: 'it returns false'. Refute it at one input. -/
def fnExactVisibleLabelsWrong : ChangeSpec := { name := "fnExactVisibleLabels", fn := fun _ => fun
  | [d1, d2] => { results := [.lit (.bool false)], args := [d1, d2] }
  | _ => none }
def FnExactVisibleLabelsWrongFalsely : Prop := fnExactVisibleLabelsRow.holds Try.pinned (OpenSpec.ofChange fnExactVisibleLabelsWrong)

/-- 'laws.FnExactUnusedPlaces': WHATEVER THE INPUT: true; the input reads as it did. -/
def fnExactUnusedPlacesSpec : ChangeSpec := { name := "fnExactUnusedPlaces", fn := fun _ => fun
  | [d] => { results := [.lit (.bool true)], args := [d] }
  | _ => none }
def fnExactUnusedPlacesRow : OpenClaim := { program := "ytpmiihejbmdkfaa", sum := "ad4e8755bcdb6febd44c087afd5ed4c9ab14e34db482df28be5bac7c871bec54", func := "loop.example/g00862/laws.FnExactUnusedPlaces", spec := "fnExactUnusedPlaces", unfollowed := true, recurses := true, apart := false }
def FnExactUnusedPlacesSaid : Prop := fnExactUnusedPlacesRow.holds Try.pinned (OpenSpec.ofChange fnExactUnusedPlacesSpec)

/-- ITS FALSE NEIGHBOUR: 'it returns false'. Refute it at one input. -/
def fnExactUnusedPlacesWrong : ChangeSpec := { name := "fnExactUnusedPlaces", fn := fun _ => fun
  | [d] => { results := [.lit (.bool false)], args := [d] }
  | _ => none }
def FnExactUnusedPlacesWrongFalsely : Prop := fnExactUnusedPlacesRow.holds Try.pinned (OpenSpec.ofChange fnExactUnusedPlacesWrong)

/-- 'laws.FnExactDeadTransitions': WHATEVER THE INPUT: true; the input reads as it did. -/
def fnExactDeadTransitionsSpec : ChangeSpec := { name := "fnExactDeadTransitions", fn := fun _ => fun
  | [d1, d2] => { results := [.lit (.bool true)], args := [d1, d2] }
  | _ => none }
def fnExactDeadTransitionsRow : OpenClaim := { program := "ytpmiihejbmdkfaa", sum := "ad4e8755bcdb6febd44c087afd5ed4c9ab14e34db482df28be5bac7c871bec54", func := "loop.example/g00862/laws.FnExactDeadTransitions", spec := "fnExactDeadTransitions", unfollowed := true, recurses := true, apart := false }
def FnExactDeadTransitionsSaid : Prop := fnExactDeadTransitionsRow.holds Try.pinned (OpenSpec.ofChange fnExactDeadTransitionsSpec)

/-- ITS FALSE NEIGHBOUR: 'it returns false'. Refute it at one input. -/
def fnExactDeadTransitionsWrong : ChangeSpec := { name := "fnExactDeadTransitions", fn := fun _ => fun
  | [d1, d2] => { results := [.lit (.bool false)], args := [d1, d2] }
  | _ => none }
def FnExactDeadTransitionsWrongFalsely : Prop := fnExactDeadTransitionsRow.holds Try.pinned (OpenSpec.ofChange fnExactDeadTransitionsWrong)

/-- 'laws.FnExactMovesFrom': WHATEVER THE INPUT: true; the input reads as it did. -/
def fnExactMovesFromSpec : ChangeSpec := { name := "fnExactMovesFrom", fn := fun _ => fun
  | [d1, d2] => { results := [.lit (.bool true)], args := [d1, d2] }
  | _ => none }
def fnExactMovesFromRow : OpenClaim := { program := "ytpmiihejbmdkfaa", sum := "ad4e8755bcdb6febd44c087afd5ed4c9ab14e34db482df28be5bac7c871bec54", func := "loop.example/g00862/laws.FnExactMovesFrom", spec := "fnExactMovesFrom", unfollowed := true, recurses := true, apart := false }
def FnExactMovesFromSaid : Prop := fnExactMovesFromRow.holds Try.pinned (OpenSpec.ofChange fnExactMovesFromSpec)

/-- ITS FALSE NEIGHBOUR: 'it returns false'. Refute it at one input. -/
def fnExactMovesFromWrong : ChangeSpec := { name := "fnExactMovesFrom", fn := fun _ => fun
  | [d1, d2] => { results := [.lit (.bool false)], args := [d1, d2] }
  | _ => none }
def FnExactMovesFromWrongFalsely : Prop := fnExactMovesFromRow.holds Try.pinned (OpenSpec.ofChange fnExactMovesFromWrong)

/-- 'laws.FnExactShortestFiringSequence': WHATEVER THE INPUT: true; the input reads as it did. -/
def fnExactShortestFiringSequenceSpec : ChangeSpec := { name := "fnExactShortestFiringSequence", fn := fun _ => fun
  | [d1, d2] => { results := [.lit (.bool true)], args := [d1, d2] }
  | _ => none }
def fnExactShortestFiringSequenceRow : OpenClaim := { program := "ytpmiihejbmdkfaa", sum := "ad4e8755bcdb6febd44c087afd5ed4c9ab14e34db482df28be5bac7c871bec54", func := "loop.example/g00862/laws.FnExactShortestFiringSequence", spec := "fnExactShortestFiringSequence", unfollowed := true, recurses := true, apart := false }
def FnExactShortestFiringSequenceSaid : Prop := fnExactShortestFiringSequenceRow.holds Try.pinned (OpenSpec.ofChange fnExactShortestFiringSequenceSpec)

/-- ITS FALSE NEIGHBOUR: 'it returns false'. Refute it at one input. -/
def fnExactShortestFiringSequenceWrong : ChangeSpec := { name := "fnExactShortestFiringSequence", fn := fun _ => fun
  | [d1, d2] => { results := [.lit (.bool false)], args := [d1, d2] }
  | _ => none }
def FnExactShortestFiringSequenceWrongFalsely : Prop := fnExactShortestFiringSequenceRow.holds Try.pinned (OpenSpec.ofChange fnExactShortestFiringSequenceWrong)

/-- 'laws.FnExactStatesWithCode': WHATEVER THE INPUT: true; the input reads as it did. -/
def fnExactStatesWithCodeSpec : ChangeSpec := { name := "fnExactStatesWithCode", fn := fun _ => fun
  | [d1, d2] => { results := [.lit (.bool true)], args := [d1, d2] }
  | _ => none }
def fnExactStatesWithCodeRow : OpenClaim := { program := "ytpmiihejbmdkfaa", sum := "ad4e8755bcdb6febd44c087afd5ed4c9ab14e34db482df28be5bac7c871bec54", func := "loop.example/g00862/laws.FnExactStatesWithCode", spec := "fnExactStatesWithCode", unfollowed := true, recurses := true, apart := false }
def FnExactStatesWithCodeSaid : Prop := fnExactStatesWithCodeRow.holds Try.pinned (OpenSpec.ofChange fnExactStatesWithCodeSpec)

/-- ITS FALSE NEIGHBOUR: 'it returns false'. Refute it at one input. -/
def fnExactStatesWithCodeWrong : ChangeSpec := { name := "fnExactStatesWithCode", fn := fun _ => fun
  | [d1, d2] => { results := [.lit (.bool false)], args := [d1, d2] }
  | _ => none }
def FnExactStatesWithCodeWrongFalsely : Prop := fnExactStatesWithCodeRow.holds Try.pinned (OpenSpec.ofChange fnExactStatesWithCodeWrong)

/-- 'laws.FnExactNonInputSignals': WHATEVER THE INPUT: true; the input reads as it did. -/
def fnExactNonInputSignalsSpec : ChangeSpec := { name := "fnExactNonInputSignals", fn := fun _ => fun
  | [d] => { results := [.lit (.bool true)], args := [d] }
  | _ => none }
def fnExactNonInputSignalsRow : OpenClaim := { program := "ytpmiihejbmdkfaa", sum := "ad4e8755bcdb6febd44c087afd5ed4c9ab14e34db482df28be5bac7c871bec54", func := "loop.example/g00862/laws.FnExactNonInputSignals", spec := "fnExactNonInputSignals", unfollowed := true, recurses := true, apart := false }
def FnExactNonInputSignalsSaid : Prop := fnExactNonInputSignalsRow.holds Try.pinned (OpenSpec.ofChange fnExactNonInputSignalsSpec)

/-- ITS FALSE NEIGHBOUR: 'it returns false'. Refute it at one input. -/
def fnExactNonInputSignalsWrong : ChangeSpec := { name := "fnExactNonInputSignals", fn := fun _ => fun
  | [d] => { results := [.lit (.bool false)], args := [d] }
  | _ => none }
def FnExactNonInputSignalsWrongFalsely : Prop := fnExactNonInputSignalsRow.holds Try.pinned (OpenSpec.ofChange fnExactNonInputSignalsWrong)

/-- 'laws.FnExactArcsFrom': WHATEVER THE INPUT: true; the input reads as it did. -/
def fnExactArcsFromSpec : ChangeSpec := { name := "fnExactArcsFrom", fn := fun _ => fun
  | [d1, d2] => { results := [.lit (.bool true)], args := [d1, d2] }
  | _ => none }
def fnExactArcsFromRow : OpenClaim := { program := "ytpmiihejbmdkfaa", sum := "ad4e8755bcdb6febd44c087afd5ed4c9ab14e34db482df28be5bac7c871bec54", func := "loop.example/g00862/laws.FnExactArcsFrom", spec := "fnExactArcsFrom", unfollowed := true, recurses := true, apart := false }
def FnExactArcsFromSaid : Prop := fnExactArcsFromRow.holds Try.pinned (OpenSpec.ofChange fnExactArcsFromSpec)

/-- ITS FALSE NEIGHBOUR: 'it returns false'. Refute it at one input. -/
def fnExactArcsFromWrong : ChangeSpec := { name := "fnExactArcsFrom", fn := fun _ => fun
  | [d1, d2] => { results := [.lit (.bool false)], args := [d1, d2] }
  | _ => none }
def FnExactArcsFromWrongFalsely : Prop := fnExactArcsFromRow.holds Try.pinned (OpenSpec.ofChange fnExactArcsFromWrong)

/-- 'laws.FnExactStableStates': WHATEVER THE INPUT: true; the input reads as it did. -/
def fnExactStableStatesSpec : ChangeSpec := { name := "fnExactStableStates", fn := fun _ => fun
  | [d1, d2, d3] => { results := [.lit (.bool true)], args := [d1, d2, d3] }
  | _ => none }
def fnExactStableStatesRow : OpenClaim := { program := "ytpmiihejbmdkfaa", sum := "ad4e8755bcdb6febd44c087afd5ed4c9ab14e34db482df28be5bac7c871bec54", func := "loop.example/g00862/laws.FnExactStableStates", spec := "fnExactStableStates", unfollowed := true, recurses := true, apart := false }
def FnExactStableStatesSaid : Prop := fnExactStableStatesRow.holds Try.pinned (OpenSpec.ofChange fnExactStableStatesSpec)

/-- ITS FALSE NEIGHBOUR: 'it returns false'. Refute it at one input. -/
def fnExactStableStatesWrong : ChangeSpec := { name := "fnExactStableStates", fn := fun _ => fun
  | [d1, d2, d3] => { results := [.lit (.bool false)], args := [d1, d2, d3] }
  | _ => none }
def FnExactStableStatesWrongFalsely : Prop := fnExactStableStatesRow.holds Try.pinned (OpenSpec.ofChange fnExactStableStatesWrong)

/-- 'laws.FnExactShortestPath': WHATEVER THE INPUT: true; the input reads as it did. -/
def fnExactShortestPathSpec : ChangeSpec := { name := "fnExactShortestPath", fn := fun _ => fun
  | [d1, d2] => { results := [.lit (.bool true)], args := [d1, d2] }
  | _ => none }
def fnExactShortestPathRow : OpenClaim := { program := "ytpmiihejbmdkfaa", sum := "ad4e8755bcdb6febd44c087afd5ed4c9ab14e34db482df28be5bac7c871bec54", func := "loop.example/g00862/laws.FnExactShortestPath", spec := "fnExactShortestPath", unfollowed := true, recurses := true, apart := false }
def FnExactShortestPathSaid : Prop := fnExactShortestPathRow.holds Try.pinned (OpenSpec.ofChange fnExactShortestPathSpec)

/-- ITS FALSE NEIGHBOUR: 'it returns false'. Refute it at one input. -/
def fnExactShortestPathWrong : ChangeSpec := { name := "fnExactShortestPath", fn := fun _ => fun
  | [d1, d2] => { results := [.lit (.bool false)], args := [d1, d2] }
  | _ => none }
def FnExactShortestPathWrongFalsely : Prop := fnExactShortestPathRow.holds Try.pinned (OpenSpec.ofChange fnExactShortestPathWrong)

/-- 'laws.FnExactDisablingArcs': WHATEVER THE INPUT: true; the input reads as it did. -/
def fnExactDisablingArcsSpec : ChangeSpec := { name := "fnExactDisablingArcs", fn := fun _ => fun
  | [d1, d2] => { results := [.lit (.bool true)], args := [d1, d2] }
  | _ => none }
def fnExactDisablingArcsRow : OpenClaim := { program := "ytpmiihejbmdkfaa", sum := "ad4e8755bcdb6febd44c087afd5ed4c9ab14e34db482df28be5bac7c871bec54", func := "loop.example/g00862/laws.FnExactDisablingArcs", spec := "fnExactDisablingArcs", unfollowed := true, recurses := true, apart := false }
def FnExactDisablingArcsSaid : Prop := fnExactDisablingArcsRow.holds Try.pinned (OpenSpec.ofChange fnExactDisablingArcsSpec)

/-- ITS FALSE NEIGHBOUR: 'it returns false'. Refute it at one input. -/
def fnExactDisablingArcsWrong : ChangeSpec := { name := "fnExactDisablingArcs", fn := fun _ => fun
  | [d1, d2] => { results := [.lit (.bool false)], args := [d1, d2] }
  | _ => none }
def FnExactDisablingArcsWrongFalsely : Prop := fnExactDisablingArcsRow.holds Try.pinned (OpenSpec.ofChange fnExactDisablingArcsWrong)

/- THE SECOND FORM. 'bulk': how many values and letters a reading holds, each counted each time it is reached (what is shared counts as often as it is met; a slice's spare places count too). A statement '..UptoSaid' is the law's where the arguments, and the package variables that the reading takes, are together of bulk at most 1048576: NARROWER than '..Said'. Prove '..Said' where nothing that the law and all that it calls make is longer than what came in: it says more and counts as full. Else prove '..UptoSaid'. A law counts once. -/
mutual
def uptoBulk {H : Type} : DataW H → Nat
  | .lit (.string bytes) => bytes.length + 1
  | .lit _ => 1
  | .nil => 1
  | .ptr d => uptoBulk d + 1
  | .slice elems spare => uptoBulkAll elems + uptoBulkAll spare + 1
  | .agg parts => uptoBulkAll parts + 1
  | .iface _ d => uptoBulk d + 1
  | .map entries => uptoBulkEntries entries + 1
  | .held _ => 1
def uptoBulkAll {H : Type} : List (DataW H) → Nat
  | [] => 0
  | d :: r => uptoBulk d + uptoBulkAll r
def uptoBulkEntries {H : Type} : List (Lit × DataW H) → Nat
  | [] => 0
  | x :: r => uptoBulkEntry x + uptoBulkEntries r
def uptoBulkEntry {H : Type} : Lit × DataW H → Nat
  | (.string bytes, d) => bytes.length + uptoBulk d + 1
  | (_, d) => uptoBulk d + 1
 end
def uptoSmall : (H : Type) → List (DataW H) → Bool := fun _ ds => decide (uptoBulkAll ds ≤ 1048576)
def OpenSpec.upto (s : _root_.Go.ChangeSpec) : _root_.Go.OpenSpec := { _root_.Go.OpenSpec.ofChange s with cond := some uptoSmall }

/-- 'laws.FnExactTransitionsOf', WHERE WHAT IT READS IS OF BULK AT MOST 1048576: true; the input reads as it did. -/
def fnExactTransitionsOfUptoRow : OpenClaim := { program := "ytpmiihejbmdkfaa", sum := "ad4e8755bcdb6febd44c087afd5ed4c9ab14e34db482df28be5bac7c871bec54", func := "loop.example/g00862/laws.FnExactTransitionsOf", spec := "fnExactTransitionsOf", unfollowed := true, recurses := true, apart := false, narrowed := true }
def FnExactTransitionsOfUptoSaid : Prop := fnExactTransitionsOfUptoRow.holds Try.pinned (OpenSpec.upto fnExactTransitionsOfSpec)

/-- 'laws.FnExactVisibleLabels', WHERE WHAT IT READS IS OF BULK AT MOST 1048576: true; the input reads as it did. -/
def fnExactVisibleLabelsUptoRow : OpenClaim := { program := "ytpmiihejbmdkfaa", sum := "ad4e8755bcdb6febd44c087afd5ed4c9ab14e34db482df28be5bac7c871bec54", func := "loop.example/g00862/laws.FnExactVisibleLabels", spec := "fnExactVisibleLabels", unfollowed := true, recurses := true, apart := false, narrowed := true }
def FnExactVisibleLabelsUptoSaid : Prop := fnExactVisibleLabelsUptoRow.holds Try.pinned (OpenSpec.upto fnExactVisibleLabelsSpec)

/-- 'laws.FnExactUnusedPlaces', WHERE WHAT IT READS IS OF BULK AT MOST 1048576: true; the input reads as it did. -/
def fnExactUnusedPlacesUptoRow : OpenClaim := { program := "ytpmiihejbmdkfaa", sum := "ad4e8755bcdb6febd44c087afd5ed4c9ab14e34db482df28be5bac7c871bec54", func := "loop.example/g00862/laws.FnExactUnusedPlaces", spec := "fnExactUnusedPlaces", unfollowed := true, recurses := true, apart := false, narrowed := true }
def FnExactUnusedPlacesUptoSaid : Prop := fnExactUnusedPlacesUptoRow.holds Try.pinned (OpenSpec.upto fnExactUnusedPlacesSpec)

/-- 'laws.FnExactDeadTransitions', WHERE WHAT IT READS IS OF BULK AT MOST 1048576: true; the input reads as it did. -/
def fnExactDeadTransitionsUptoRow : OpenClaim := { program := "ytpmiihejbmdkfaa", sum := "ad4e8755bcdb6febd44c087afd5ed4c9ab14e34db482df28be5bac7c871bec54", func := "loop.example/g00862/laws.FnExactDeadTransitions", spec := "fnExactDeadTransitions", unfollowed := true, recurses := true, apart := false, narrowed := true }
def FnExactDeadTransitionsUptoSaid : Prop := fnExactDeadTransitionsUptoRow.holds Try.pinned (OpenSpec.upto fnExactDeadTransitionsSpec)

/-- 'laws.FnExactMovesFrom', WHERE WHAT IT READS IS OF BULK AT MOST 1048576: true; the input reads as it did. -/
def fnExactMovesFromUptoRow : OpenClaim := { program := "ytpmiihejbmdkfaa", sum := "ad4e8755bcdb6febd44c087afd5ed4c9ab14e34db482df28be5bac7c871bec54", func := "loop.example/g00862/laws.FnExactMovesFrom", spec := "fnExactMovesFrom", unfollowed := true, recurses := true, apart := false, narrowed := true }
def FnExactMovesFromUptoSaid : Prop := fnExactMovesFromUptoRow.holds Try.pinned (OpenSpec.upto fnExactMovesFromSpec)

/-- 'laws.FnExactShortestFiringSequence', WHERE WHAT IT READS IS OF BULK AT MOST 1048576: true; the input reads as it did. -/
def fnExactShortestFiringSequenceUptoRow : OpenClaim := { program := "ytpmiihejbmdkfaa", sum := "ad4e8755bcdb6febd44c087afd5ed4c9ab14e34db482df28be5bac7c871bec54", func := "loop.example/g00862/laws.FnExactShortestFiringSequence", spec := "fnExactShortestFiringSequence", unfollowed := true, recurses := true, apart := false, narrowed := true }
def FnExactShortestFiringSequenceUptoSaid : Prop := fnExactShortestFiringSequenceUptoRow.holds Try.pinned (OpenSpec.upto fnExactShortestFiringSequenceSpec)

/-- 'laws.FnExactStatesWithCode', WHERE WHAT IT READS IS OF BULK AT MOST 1048576: true; the input reads as it did. -/
def fnExactStatesWithCodeUptoRow : OpenClaim := { program := "ytpmiihejbmdkfaa", sum := "ad4e8755bcdb6febd44c087afd5ed4c9ab14e34db482df28be5bac7c871bec54", func := "loop.example/g00862/laws.FnExactStatesWithCode", spec := "fnExactStatesWithCode", unfollowed := true, recurses := true, apart := false, narrowed := true }
def FnExactStatesWithCodeUptoSaid : Prop := fnExactStatesWithCodeUptoRow.holds Try.pinned (OpenSpec.upto fnExactStatesWithCodeSpec)

/-- 'laws.FnExactNonInputSignals', WHERE WHAT IT READS IS OF BULK AT MOST 1048576: true; the input reads as it did. -/
def fnExactNonInputSignalsUptoRow : OpenClaim := { program := "ytpmiihejbmdkfaa", sum := "ad4e8755bcdb6febd44c087afd5ed4c9ab14e34db482df28be5bac7c871bec54", func := "loop.example/g00862/laws.FnExactNonInputSignals", spec := "fnExactNonInputSignals", unfollowed := true, recurses := true, apart := false, narrowed := true }
def FnExactNonInputSignalsUptoSaid : Prop := fnExactNonInputSignalsUptoRow.holds Try.pinned (OpenSpec.upto fnExactNonInputSignalsSpec)

/-- 'laws.FnExactArcsFrom', WHERE WHAT IT READS IS OF BULK AT MOST 1048576: true; the input reads as it did. -/
def fnExactArcsFromUptoRow : OpenClaim := { program := "ytpmiihejbmdkfaa", sum := "ad4e8755bcdb6febd44c087afd5ed4c9ab14e34db482df28be5bac7c871bec54", func := "loop.example/g00862/laws.FnExactArcsFrom", spec := "fnExactArcsFrom", unfollowed := true, recurses := true, apart := false, narrowed := true }
def FnExactArcsFromUptoSaid : Prop := fnExactArcsFromUptoRow.holds Try.pinned (OpenSpec.upto fnExactArcsFromSpec)

/-- 'laws.FnExactStableStates', WHERE WHAT IT READS IS OF BULK AT MOST 1048576: true; the input reads as it did. -/
def fnExactStableStatesUptoRow : OpenClaim := { program := "ytpmiihejbmdkfaa", sum := "ad4e8755bcdb6febd44c087afd5ed4c9ab14e34db482df28be5bac7c871bec54", func := "loop.example/g00862/laws.FnExactStableStates", spec := "fnExactStableStates", unfollowed := true, recurses := true, apart := false, narrowed := true }
def FnExactStableStatesUptoSaid : Prop := fnExactStableStatesUptoRow.holds Try.pinned (OpenSpec.upto fnExactStableStatesSpec)

/-- 'laws.FnExactShortestPath', WHERE WHAT IT READS IS OF BULK AT MOST 1048576: true; the input reads as it did. -/
def fnExactShortestPathUptoRow : OpenClaim := { program := "ytpmiihejbmdkfaa", sum := "ad4e8755bcdb6febd44c087afd5ed4c9ab14e34db482df28be5bac7c871bec54", func := "loop.example/g00862/laws.FnExactShortestPath", spec := "fnExactShortestPath", unfollowed := true, recurses := true, apart := false, narrowed := true }
def FnExactShortestPathUptoSaid : Prop := fnExactShortestPathUptoRow.holds Try.pinned (OpenSpec.upto fnExactShortestPathSpec)

/-- 'laws.FnExactDisablingArcs', WHERE WHAT IT READS IS OF BULK AT MOST 1048576: true; the input reads as it did. -/
def fnExactDisablingArcsUptoRow : OpenClaim := { program := "ytpmiihejbmdkfaa", sum := "ad4e8755bcdb6febd44c087afd5ed4c9ab14e34db482df28be5bac7c871bec54", func := "loop.example/g00862/laws.FnExactDisablingArcs", spec := "fnExactDisablingArcs", unfollowed := true, recurses := true, apart := false, narrowed := true }
def FnExactDisablingArcsUptoSaid : Prop := fnExactDisablingArcsUptoRow.holds Try.pinned (OpenSpec.upto fnExactDisablingArcsSpec)

end Rows
end Go.Proofs.Ytpmiihejbmdkfaa
