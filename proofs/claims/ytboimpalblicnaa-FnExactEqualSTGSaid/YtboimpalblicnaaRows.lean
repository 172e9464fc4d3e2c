/-
  No cell of these rows narrows 'for every input' (looked for: loops, veiled, ifaces, maps, wideKeys, modest, calm, conditions, laid).
  DERIVED. THE GIVEN ROWS OF THIS SEAT. 12 by the template 'for every input the law returns true; each argument reads behind the call as it read before'; 0 by the template 'total and deterministic' (their statements: YtboimpalblicnaaTotals.lean).
  GIVEN WITH THE SEED: the statements are not yours to turn. If you find one false, say at which input.
  Laid BY PROGRAM, IN A SANDBOX (cutbox-rows.mjs): the forced cells as the released guide's own fill.sh prints them over the translation ff93a2678f3f707a… (all of the seat's roots in one cut). By AI agents, Wed Nov 11 2026. No macro, syntax, notation, axiom, sorry.
-/
import Derived.Test.YtboimpalblicnaaChecked
import GoSem.Claim
import GoSem.ClaimJoined
import GoSem.ClaimMapViews
import Derived.JoinedTies
import Derived.KernelRfl
namespace Go.Proofs.Ytboimpalblicnaa
/- THE CELL 'sum', in the pinned program and in every row, IS THE sha256 OF THE DUMP (.gsa) THAT YtboimpalblicnaaProg.lean LOADS. Nothing in Lean hashes anything: it is a label: what it is worth is what the hold of that sum in a sandbox is worth. -/
noncomputable def Try.pinned : Pinned := { name := "ytboimpalblicnaa", sum := "ff93a2678f3f707aec7b429ade803bb583ba6442074517a2ab17a7c35848e330", checked := Try.checked }
namespace Rows
def none {H : Type} : Left H := { results := [], args := [] }

/-- 'laws.FnExactExitLabels': WHATEVER THE INPUT: true; the input reads as it did. -/
def fnExactExitLabelsSpec : ChangeSpec := { name := "fnExactExitLabels", fn := fun _ => fun
  | [d1, d2] => { results := [.lit (.bool true)], args := [d1, d2] }
  | _ => none }
def fnExactExitLabelsRow : OpenClaim := { program := "ytboimpalblicnaa", sum := "ff93a2678f3f707aec7b429ade803bb583ba6442074517a2ab17a7c35848e330", func := "loop.example/g00862/laws.FnExactExitLabels", spec := "fnExactExitLabels", unfollowed := true, recurses := true, apart := false }
def FnExactExitLabelsSaid : Prop := fnExactExitLabelsRow.holds Try.pinned (OpenSpec.ofChange fnExactExitLabelsSpec)

/-- ITS FALSE NEIGHBOUR: 'it returns false'. Refute it at one input. -/
def fnExactExitLabelsWrong : ChangeSpec := { name := "fnExactExitLabels", fn := fun _ => fun
  | [d1, d2] => { results := [.lit (.bool false)], args := [d1, d2] }
  | _ => none }
def FnExactExitLabelsWrongFalsely : Prop := fnExactExitLabelsRow.holds Try.pinned (OpenSpec.ofChange fnExactExitLabelsWrong)

/-- 'laws.FnExactAreIndependent': WHATEVER THE INPUT: true; the input reads as it did. -/
def fnExactAreIndependentSpec : ChangeSpec := { name := "fnExactAreIndependent", fn := fun _ => fun
  | [d1, d2, d3] => { results := [.lit (.bool true)], args := [d1, d2, d3] }
  | _ => none }
def fnExactAreIndependentRow : OpenClaim := { program := "ytboimpalblicnaa", sum := "ff93a2678f3f707aec7b429ade803bb583ba6442074517a2ab17a7c35848e330", func := "loop.example/g00862/laws.FnExactAreIndependent", spec := "fnExactAreIndependent", unfollowed := true, recurses := true, apart := false }
def FnExactAreIndependentSaid : Prop := fnExactAreIndependentRow.holds Try.pinned (OpenSpec.ofChange fnExactAreIndependentSpec)

/-- ITS FALSE NEIGHBOUR: 'it returns false'. Refute it at one input. -/
def fnExactAreIndependentWrong : ChangeSpec := { name := "fnExactAreIndependent", fn := fun _ => fun
  | [d1, d2, d3] => { results := [.lit (.bool false)], args := [d1, d2, d3] }
  | _ => none }
def FnExactAreIndependentWrongFalsely : Prop := fnExactAreIndependentRow.holds Try.pinned (OpenSpec.ofChange fnExactAreIndependentWrong)

/-- 'laws.FnExactIsFreeChoice': WHATEVER THE INPUT: true; the input reads as it did. -/
def fnExactIsFreeChoiceSpec : ChangeSpec := { name := "fnExactIsFreeChoice", fn := fun _ => fun
  | [d] => { results := [.lit (.bool true)], args := [d] }
  | _ => none }
def fnExactIsFreeChoiceRow : OpenClaim := { program := "ytboimpalblicnaa", sum := "ff93a2678f3f707aec7b429ade803bb583ba6442074517a2ab17a7c35848e330", func := "loop.example/g00862/laws.FnExactIsFreeChoice", spec := "fnExactIsFreeChoice", unfollowed := true, recurses := true, apart := false }
def FnExactIsFreeChoiceSaid : Prop := fnExactIsFreeChoiceRow.holds Try.pinned (OpenSpec.ofChange fnExactIsFreeChoiceSpec)

/-- ITS FALSE NEIGHBOUR: 'it returns false'. Refute it at one input. -/
def fnExactIsFreeChoiceWrong : ChangeSpec := { name := "fnExactIsFreeChoice", fn := fun _ => fun
  | [d] => { results := [.lit (.bool false)], args := [d] }
  | _ => none }
def FnExactIsFreeChoiceWrongFalsely : Prop := fnExactIsFreeChoiceRow.holds Try.pinned (OpenSpec.ofChange fnExactIsFreeChoiceWrong)

/-- 'laws.FnExactEnabled': WHATEVER THE INPUT: true; the input reads as it did. -/
def fnExactEnabledSpec : ChangeSpec := { name := "fnExactEnabled", fn := fun _ => fun
  | [d1, d2] => { results := [.lit (.bool true)], args := [d1, d2] }
  | _ => none }
def fnExactEnabledRow : OpenClaim := { program := "ytboimpalblicnaa", sum := "ff93a2678f3f707aec7b429ade803bb583ba6442074517a2ab17a7c35848e330", func := "loop.example/g00862/laws.FnExactEnabled", spec := "fnExactEnabled", unfollowed := true, recurses := true, apart := false }
def FnExactEnabledSaid : Prop := fnExactEnabledRow.holds Try.pinned (OpenSpec.ofChange fnExactEnabledSpec)

/-- ITS FALSE NEIGHBOUR: 'it returns false'. Refute it at one input. -/
def fnExactEnabledWrong : ChangeSpec := { name := "fnExactEnabled", fn := fun _ => fun
  | [d1, d2] => { results := [.lit (.bool false)], args := [d1, d2] }
  | _ => none }
def FnExactEnabledWrongFalsely : Prop := fnExactEnabledRow.holds Try.pinned (OpenSpec.ofChange fnExactEnabledWrong)

/-- 'laws.FnExactReverseNet': WHATEVER THE INPUT: true; the input reads as it did. -/
def fnExactReverseNetSpec : ChangeSpec := { name := "fnExactReverseNet", fn := fun _ => fun
  | [d] => { results := [.lit (.bool true)], args := [d] }
  | _ => none }
def fnExactReverseNetRow : OpenClaim := { program := "ytboimpalblicnaa", sum := "ff93a2678f3f707aec7b429ade803bb583ba6442074517a2ab17a7c35848e330", func := "loop.example/g00862/laws.FnExactReverseNet", spec := "fnExactReverseNet", unfollowed := true, recurses := true, apart := false }
def FnExactReverseNetSaid : Prop := fnExactReverseNetRow.holds Try.pinned (OpenSpec.ofChange fnExactReverseNetSpec)

/-- ITS FALSE NEIGHBOUR: 'it returns false'. Refute it at one input. -/
def fnExactReverseNetWrong : ChangeSpec := { name := "fnExactReverseNet", fn := fun _ => fun
  | [d] => { results := [.lit (.bool false)], args := [d] }
  | _ => none }
def FnExactReverseNetWrongFalsely : Prop := fnExactReverseNetRow.holds Try.pinned (OpenSpec.ofChange fnExactReverseNetWrong)

/-- 'laws.FnExactMovesFrom': WHATEVER THE INPUT: true; the input reads as it did. -/
def fnExactMovesFromSpec : ChangeSpec := { name := "fnExactMovesFrom", fn := fun _ => fun
  | [d1, d2] => { results := [.lit (.bool true)], args := [d1, d2] }
  | _ => none }
def fnExactMovesFromRow : OpenClaim := { program := "ytboimpalblicnaa", sum := "ff93a2678f3f707aec7b429ade803bb583ba6442074517a2ab17a7c35848e330", func := "loop.example/g00862/laws.FnExactMovesFrom", spec := "fnExactMovesFrom", unfollowed := true, recurses := true, apart := false }
def FnExactMovesFromSaid : Prop := fnExactMovesFromRow.holds Try.pinned (OpenSpec.ofChange fnExactMovesFromSpec)

/-- ITS FALSE NEIGHBOUR: 'it returns false'. Refute it at one input. -/
def fnExactMovesFromWrong : ChangeSpec := { name := "fnExactMovesFrom", fn := fun _ => fun
  | [d1, d2] => { results := [.lit (.bool false)], args := [d1, d2] }
  | _ => none }
def FnExactMovesFromWrongFalsely : Prop := fnExactMovesFromRow.holds Try.pinned (OpenSpec.ofChange fnExactMovesFromWrong)

/-- 'laws.FnExactDeadlocks': WHATEVER THE INPUT: true; the input reads as it did. -/
def fnExactDeadlocksSpec : ChangeSpec := { name := "fnExactDeadlocks", fn := fun _ => fun
  | [d] => { results := [.lit (.bool true)], args := [d] }
  | _ => none }
def fnExactDeadlocksRow : OpenClaim := { program := "ytboimpalblicnaa", sum := "ff93a2678f3f707aec7b429ade803bb583ba6442074517a2ab17a7c35848e330", func := "loop.example/g00862/laws.FnExactDeadlocks", spec := "fnExactDeadlocks", unfollowed := true, recurses := true, apart := false }
def FnExactDeadlocksSaid : Prop := fnExactDeadlocksRow.holds Try.pinned (OpenSpec.ofChange fnExactDeadlocksSpec)

/-- ITS FALSE NEIGHBOUR: 'it returns false'. Refute it at one input. -/
def fnExactDeadlocksWrong : ChangeSpec := { name := "fnExactDeadlocks", fn := fun _ => fun
  | [d] => { results := [.lit (.bool false)], args := [d] }
  | _ => none }
def FnExactDeadlocksWrongFalsely : Prop := fnExactDeadlocksRow.holds Try.pinned (OpenSpec.ofChange fnExactDeadlocksWrong)

/-- 'laws.FnExactExcitationComponents': WHATEVER THE INPUT: true; the input reads as it did. -/
def fnExactExcitationComponentsSpec : ChangeSpec := { name := "fnExactExcitationComponents", fn := fun _ => fun
  | [d1, d2, d3] => { results := [.lit (.bool true)], args := [d1, d2, d3] }
  | _ => none }
def fnExactExcitationComponentsRow : OpenClaim := { program := "ytboimpalblicnaa", sum := "ff93a2678f3f707aec7b429ade803bb583ba6442074517a2ab17a7c35848e330", func := "loop.example/g00862/laws.FnExactExcitationComponents", spec := "fnExactExcitationComponents", unfollowed := true, recurses := true, apart := false }
def FnExactExcitationComponentsSaid : Prop := fnExactExcitationComponentsRow.holds Try.pinned (OpenSpec.ofChange fnExactExcitationComponentsSpec)

/-- ITS FALSE NEIGHBOUR: 'it returns false'. Refute it at one input. -/
def fnExactExcitationComponentsWrong : ChangeSpec := { name := "fnExactExcitationComponents", fn := fun _ => fun
  | [d1, d2, d3] => { results := [.lit (.bool false)], args := [d1, d2, d3] }
  | _ => none }
def FnExactExcitationComponentsWrongFalsely : Prop := fnExactExcitationComponentsRow.holds Try.pinned (OpenSpec.ofChange fnExactExcitationComponentsWrong)

/-- 'laws.FnExactUnionNets': WHATEVER THE INPUT: true; the input reads as it did. -/
def fnExactUnionNetsSpec : ChangeSpec := { name := "fnExactUnionNets", fn := fun _ => fun
  | [d1, d2] => { results := [.lit (.bool true)], args := [d1, d2] }
  | _ => none }
def fnExactUnionNetsRow : OpenClaim := { program := "ytboimpalblicnaa", sum := "ff93a2678f3f707aec7b429ade803bb583ba6442074517a2ab17a7c35848e330", func := "loop.example/g00862/laws.FnExactUnionNets", spec := "fnExactUnionNets", unfollowed := true, recurses := true, apart := false }
def FnExactUnionNetsSaid : Prop := fnExactUnionNetsRow.holds Try.pinned (OpenSpec.ofChange fnExactUnionNetsSpec)

/-- ITS FALSE NEIGHBOUR: 'it returns false'. Refute it at one input. -/
def fnExactUnionNetsWrong : ChangeSpec := { name := "fnExactUnionNets", fn := fun _ => fun
  | [d1, d2] => { results := [.lit (.bool false)], args := [d1, d2] }
  | _ => none }
def FnExactUnionNetsWrongFalsely : Prop := fnExactUnionNetsRow.holds Try.pinned (OpenSpec.ofChange fnExactUnionNetsWrong)

/-- 'laws.FnExactEqualSTG': WHATEVER THE INPUT: true; the input reads as it did. -/
def fnExactEqualSTGSpec : ChangeSpec := { name := "fnExactEqualSTG", fn := fun _ => fun
  | [d1, d2] => { results := [.lit (.bool true)], args := [d1, d2] }
  | _ => none }
def fnExactEqualSTGRow : OpenClaim := { program := "ytboimpalblicnaa", sum := "ff93a2678f3f707aec7b429ade803bb583ba6442074517a2ab17a7c35848e330", func := "loop.example/g00862/laws.FnExactEqualSTG", spec := "fnExactEqualSTG", unfollowed := true, recurses := true, apart := false }
def FnExactEqualSTGSaid : Prop := fnExactEqualSTGRow.holds Try.pinned (OpenSpec.ofChange fnExactEqualSTGSpec)

/-- ITS FALSE NEIGHBOUR: 'it returns false'. Refute it at one input. -/
def fnExactEqualSTGWrong : ChangeSpec := { name := "fnExactEqualSTG", fn := fun _ => fun
  | [d1, d2] => { results := [.lit (.bool false)], args := [d1, d2] }
  | _ => none }
def FnExactEqualSTGWrongFalsely : Prop := fnExactEqualSTGRow.holds Try.pinned (OpenSpec.ofChange fnExactEqualSTGWrong)

/-- 'laws.FnExactHomeStates': WHATEVER THE INPUT: true; the input reads as it did. -/
def fnExactHomeStatesSpec : ChangeSpec := { name := "fnExactHomeStates", fn := fun _ => fun
  | [d] => { results := [.lit (.bool true)], args := [d] }
  | _ => none }
def fnExactHomeStatesRow : OpenClaim := { program := "ytboimpalblicnaa", sum := "ff93a2678f3f707aec7b429ade803bb583ba6442074517a2ab17a7c35848e330", func := "loop.example/g00862/laws.FnExactHomeStates", spec := "fnExactHomeStates", apart := false }
def FnExactHomeStatesSaid : Prop := fnExactHomeStatesRow.holds Try.pinned (OpenSpec.ofChange fnExactHomeStatesSpec)

/-- ITS FALSE NEIGHBOUR: 'it returns false'. Refute it at one input. -/
def fnExactHomeStatesWrong : ChangeSpec := { name := "fnExactHomeStates", fn := fun _ => fun
  | [d] => { results := [.lit (.bool false)], args := [d] }
  | _ => none }
def FnExactHomeStatesWrongFalsely : Prop := fnExactHomeStatesRow.holds Try.pinned (OpenSpec.ofChange fnExactHomeStatesWrong)

/-- 'laws.FnExactInitialUnfolding': WHATEVER THE INPUT: true; the input reads as it did. -/
def fnExactInitialUnfoldingSpec : ChangeSpec := { name := "fnExactInitialUnfolding", fn := fun _ => fun
  | [d1, d2] => { results := [.lit (.bool true)], args := [d1, d2] }
  | _ => none }
def fnExactInitialUnfoldingRow : OpenClaim := { program := "ytboimpalblicnaa", sum := "ff93a2678f3f707aec7b429ade803bb583ba6442074517a2ab17a7c35848e330", func := "loop.example/g00862/laws.FnExactInitialUnfolding", spec := "fnExactInitialUnfolding", unfollowed := true, recurses := true, apart := false }
def FnExactInitialUnfoldingSaid : Prop := fnExactInitialUnfoldingRow.holds Try.pinned (OpenSpec.ofChange fnExactInitialUnfoldingSpec)

/-- ITS FALSE NEIGHBOUR: 'it returns false'. Refute it at one input. -/
def fnExactInitialUnfoldingWrong : ChangeSpec := { name := "fnExactInitialUnfolding", fn := fun _ => fun
  | [d1, d2] => { results := [.lit (.bool false)], args := [d1, d2] }
  | _ => none }
def FnExactInitialUnfoldingWrongFalsely : Prop := fnExactInitialUnfoldingRow.holds Try.pinned (OpenSpec.ofChange fnExactInitialUnfoldingWrong)

/- THE SECOND FORM. 'bulk': how many values and letters a reading holds, each counted each time it is reached (what is shared counts as often as it is met; a slice's spare places count too). A statement '..UptoSaid' is the law's where the arguments, and the package variables that the reading takes, are together of bulk at most 1048576: NARROWER than '..Said'. Prove '..Said' where nothing that the law and all that it calls make is longer than what came in: it says more and counts as full. Else prove '..UptoSaid'. A law counts once. -/
mutual
def uptoBulk {H : Type} : DataW H → Nat
  | .lit (.string bytes) => bytes.length + 1
  | .lit _ => 1
  | .nil => 1
  | .ptr d => uptoBulk d + 1
  | .slice elems spare => uptoBulkAll elems + uptoBulkAll spare + 1
  | .agg parts => uptoBulkAll parts + 1
  | .iface _ d => uptoBulk d + 1
  | .map entries => uptoBulkEntries entries + 1
  | .held _ => 1
def uptoBulkAll {H : Type} : List (DataW H) → Nat
  | [] => 0
  | d :: r => uptoBulk d + uptoBulkAll r
def uptoBulkEntries {H : Type} : List (Lit × DataW H) → Nat
  | [] => 0
  | x :: r => uptoBulkEntry x + uptoBulkEntries r
def uptoBulkEntry {H : Type} : Lit × DataW H → Nat
  | (.string bytes, d) => bytes.length + uptoBulk d + 1
  | (_, d) => uptoBulk d + 1
 end
def uptoSmall : (H : Type) → List (DataW H) → Bool := fun _ ds => decide (uptoBulkAll ds ≤ 1048576)
def OpenSpec.upto (s : _root_.Go.ChangeSpec) : _root_.Go.OpenSpec := { _root_.Go.OpenSpec.ofChange s with cond := some uptoSmall }

/-- 'laws.FnExactExitLabels', WHERE WHAT IT READS IS OF BULK AT MOST 1048576: true; the input reads as it did. -/
def fnExactExitLabelsUptoRow : OpenClaim := { program := "ytboimpalblicnaa", sum := "ff93a2678f3f707aec7b429ade803bb583ba6442074517a2ab17a7c35848e330", func := "loop.example/g00862/laws.FnExactExitLabels", spec := "fnExactExitLabels", unfollowed := true, recurses := true, apart := false, narrowed := true }
def FnExactExitLabelsUptoSaid : Prop := fnExactExitLabelsUptoRow.holds Try.pinned (OpenSpec.upto fnExactExitLabelsSpec)

/-- 'laws.FnExactAreIndependent', WHERE WHAT IT READS IS OF BULK AT MOST 1048576: true; the input reads as it did. -/
def fnExactAreIndependentUptoRow : OpenClaim := { program := "ytboimpalblicnaa", sum := "ff93a2678f3f707aec7b429ade803bb583ba6442074517a2ab17a7c35848e330", func := "loop.example/g00862/laws.FnExactAreIndependent", spec := "fnExactAreIndependent", unfollowed := true, recurses := true, apart := false, narrowed := true }
def FnExactAreIndependentUptoSaid : Prop := fnExactAreIndependentUptoRow.holds Try.pinned (OpenSpec.upto fnExactAreIndependentSpec)

/-- 'laws.FnExactIsFreeChoice', WHERE WHAT IT READS IS OF BULK AT MOST 1048576: true; the input reads as it did. -/
def fnExactIsFreeChoiceUptoRow : OpenClaim := { program := "ytboimpalblicnaa", sum := "ff93a2678f3f707aec7b429ade803bb583ba6442074517a2ab17a7c35848e330", func := "loop.example/g00862/laws.FnExactIsFreeChoice", spec := "fnExactIsFreeChoice", unfollowed := true, recurses := true, apart := false, narrowed := true }
def FnExactIsFreeChoiceUptoSaid : Prop := fnExactIsFreeChoiceUptoRow.holds Try.pinned (OpenSpec.upto fnExactIsFreeChoiceSpec)

/-- 'laws.FnExactEnabled', WHERE WHAT IT READS IS OF BULK AT MOST 1048576: true; the input reads as it did. -/
def fnExactEnabledUptoRow : OpenClaim := { program := "ytboimpalblicnaa", sum := "ff93a2678f3f707aec7b429ade803bb583ba6442074517a2ab17a7c35848e330", func := "loop.example/g00862/laws.FnExactEnabled", spec := "fnExactEnabled", unfollowed := true, recurses := true, apart := false, narrowed := true }
def FnExactEnabledUptoSaid : Prop := fnExactEnabledUptoRow.holds Try.pinned (OpenSpec.upto fnExactEnabledSpec)

/-- 'laws.FnExactReverseNet', WHERE WHAT IT READS IS OF BULK AT MOST 1048576: true; the input reads as it did. -/
def fnExactReverseNetUptoRow : OpenClaim := { program := "ytboimpalblicnaa", sum := "ff93a2678f3f707aec7b429ade803bb583ba6442074517a2ab17a7c35848e330", func := "loop.example/g00862/laws.FnExactReverseNet", spec := "fnExactReverseNet", unfollowed := true, recurses := true, apart := false, narrowed := true }
def FnExactReverseNetUptoSaid : Prop := fnExactReverseNetUptoRow.holds Try.pinned (OpenSpec.upto fnExactReverseNetSpec)

/-- 'laws.FnExactMovesFrom', WHERE WHAT IT READS IS OF BULK AT MOST 1048576: true; the input reads as it did. -/
def fnExactMovesFromUptoRow : OpenClaim := { program := "ytboimpalblicnaa", sum := "ff93a2678f3f707aec7b429ade803bb583ba6442074517a2ab17a7c35848e330", func := "loop.example/g00862/laws.FnExactMovesFrom", spec := "fnExactMovesFrom", unfollowed := true, recurses := true, apart := false, narrowed := true }
def FnExactMovesFromUptoSaid : Prop := fnExactMovesFromUptoRow.holds Try.pinned (OpenSpec.upto fnExactMovesFromSpec)

/-- 'laws.FnExactDeadlocks', WHERE WHAT IT READS IS OF BULK AT MOST 1048576: true; the input reads as it did. -/
def fnExactDeadlocksUptoRow : OpenClaim := { program := "ytboimpalblicnaa", sum := "ff93a2678f3f707aec7b429ade803bb583ba6442074517a2ab17a7c35848e330", func := "loop.example/g00862/laws.FnExactDeadlocks", spec := "fnExactDeadlocks", unfollowed := true, recurses := true, apart := false, narrowed := true }
def FnExactDeadlocksUptoSaid : Prop := fnExactDeadlocksUptoRow.holds Try.pinned (OpenSpec.upto fnExactDeadlocksSpec)

/-- 'laws.FnExactExcitationComponents', WHERE WHAT IT READS IS OF BULK AT MOST 1048576: true; the input reads as it did. -/
def fnExactExcitationComponentsUptoRow : OpenClaim := { program := "ytboimpalblicnaa", sum := "ff93a2678f3f707aec7b429ade803bb583ba6442074517a2ab17a7c35848e330", func := "loop.example/g00862/laws.FnExactExcitationComponents", spec := "fnExactExcitationComponents", unfollowed := true, recurses := true, apart := false, narrowed := true }
def FnExactExcitationComponentsUptoSaid : Prop := fnExactExcitationComponentsUptoRow.holds Try.pinned (OpenSpec.upto fnExactExcitationComponentsSpec)

/-- 'laws.FnExactUnionNets', WHERE WHAT IT READS IS OF BULK AT MOST 1048576: true; the input reads as it did. -/
def fnExactUnionNetsUptoRow : OpenClaim := { program := "ytboimpalblicnaa", sum := "ff93a2678f3f707aec7b429ade803bb583ba6442074517a2ab17a7c35848e330", func := "loop.example/g00862/laws.FnExactUnionNets", spec := "fnExactUnionNets", unfollowed := true, recurses := true, apart := false, narrowed := true }
def FnExactUnionNetsUptoSaid : Prop := fnExactUnionNetsUptoRow.holds Try.pinned (OpenSpec.upto fnExactUnionNetsSpec)

/-- 'laws.FnExactEqualSTG', WHERE WHAT IT READS IS OF BULK AT MOST 1048576: true; the input reads as it did. -/
def fnExactEqualSTGUptoRow : OpenClaim := { program := "ytboimpalblicnaa", sum := "ff93a2678f3f707aec7b429ade803bb583ba6442074517a2ab17a7c35848e330", func := "loop.example/g00862/laws.FnExactEqualSTG", spec := "fnExactEqualSTG", unfollowed := true, recurses := true, apart := false, narrowed := true }
def FnExactEqualSTGUptoSaid : Prop := fnExactEqualSTGUptoRow.holds Try.pinned (OpenSpec.upto fnExactEqualSTGSpec)

/-- 'laws.FnExactHomeStates', WHERE WHAT IT READS IS OF BULK AT MOST 1048576: true; the input reads as it did. -/
def fnExactHomeStatesUptoRow : OpenClaim := { program := "ytboimpalblicnaa", sum := "ff93a2678f3f707aec7b429ade803bb583ba6442074517a2ab17a7c35848e330", func := "loop.example/g00862/laws.FnExactHomeStates", spec := "fnExactHomeStates", apart := false, narrowed := true }
def FnExactHomeStatesUptoSaid : Prop := fnExactHomeStatesUptoRow.holds Try.pinned (OpenSpec.upto fnExactHomeStatesSpec)

/-- 'laws.FnExactInitialUnfolding', WHERE WHAT IT READS IS OF BULK AT MOST 1048576: true; the input reads as it did. -/
def fnExactInitialUnfoldingUptoRow : OpenClaim := { program := "ytboimpalblicnaa", sum := "ff93a2678f3f707aec7b429ade803bb583ba6442074517a2ab17a7c35848e330", func := "loop.example/g00862/laws.FnExactInitialUnfolding", spec := "fnExactInitialUnfolding", unfollowed := true, recurses := true, apart := false, narrowed := true }
def FnExactInitialUnfoldingUptoSaid : Prop := fnExactInitialUnfoldingUptoRow.holds Try.pinned (OpenSpec.upto fnExactInitialUnfoldingSpec)

end Rows
end Go.Proofs.Ytboimpalblicnaa
