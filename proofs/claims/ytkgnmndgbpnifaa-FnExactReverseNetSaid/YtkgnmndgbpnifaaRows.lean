/-
  No cell of these rows narrows 'for every input' (looked for: loops, veiled, ifaces, maps, wideKeys, modest, calm, conditions, laid).
  DERIVED. THE GIVEN ROWS OF THIS SEAT. 12 by the template 'for every input the law returns true; each argument reads behind the call as it read before'; 0 by the template 'total and deterministic' (their statements: YtkgnmndgbpnifaaTotals.lean).
  GIVEN WITH THE SEED: the statements are not yours to turn. If you find one false, say at which input.
  Laid BY PROGRAM, IN A SANDBOX (cutbox-rows.mjs): the forced cells as the released guide's own fill.sh prints them over the translation ce037817fe919745… (all of the seat's roots in one cut). By AI agents, Wed Nov 11 2026. No macro, syntax, notation, axiom, sorry.
-/
import Derived.Test.YtkgnmndgbpnifaaChecked
import GoSem.Claim
import GoSem.ClaimJoined
import GoSem.ClaimMapViews
import Derived.JoinedTies
import Derived.KernelRfl
namespace Go.Proofs.Ytkgnmndgbpnifaa
/- THE CELL 'sum', in the pinned program and in every row, IS THE sha256 OF THE DUMP (.gsa) THAT YtkgnmndgbpnifaaProg.lean LOADS. Nothing in Lean hashes anything: it is a label: what it is worth is what the hold of that sum in a sandbox is worth. -/
noncomputable def Try.pinned : Pinned := { name := "ytkgnmndgbpnifaa", sum := "ce037817fe919745a60235b3695492446984a2feec42d0f5a9c1c57bdbe31341", checked := Try.checked }
namespace Rows
def none {H : Type} : Left H := { results := [], args := [] }

/-- 'laws.FnExactReverseNet': WHATEVER THE INPUT: true; the input reads as it did. -/
def fnExactReverseNetSpec : ChangeSpec := { name := "fnExactReverseNet", fn := fun _ => fun
  | [d] => { results := [.lit (.bool true)], args := [d] }
  | _ => none }
def fnExactReverseNetRow : OpenClaim := { program := "ytkgnmndgbpnifaa", sum := "ce037817fe919745a60235b3695492446984a2feec42d0f5a9c1c57bdbe31341", func := "loop.example/g00862/laws.FnExactReverseNet", spec := "fnExactReverseNet", unfollowed := true, recurses := true, apart := false }
def FnExactReverseNetSaid : Prop := fnExactReverseNetRow.holds Try.pinned (OpenSpec.ofChange fnExactReverseNetSpec)

/-- ITS FALSE NEIGHBOUR: 'it returns false'. Refute it at one input. -/
def fnExactReverseNetWrong : ChangeSpec := { name := "fnExactReverseNet", fn := fun _ => fun
  | [d] => { results := [.lit (.bool false)], args := [d] }
  | _ => none }
def FnExactReverseNetWrongFalsely : Prop := fnExactReverseNetRow.holds Try.pinned (OpenSpec.ofChange fnExactReverseNetWrong)

/-- 'laws.FnExactUnionNets': WHATEVER THE INPUT: true; the input reads as it did. -/
def fnExactUnionNetsSpec : ChangeSpec := { name := "fnExactUnionNets", fn := fun _ => fun
  | [d1, d2] => { results := [.lit (.bool true)], args := [d1, d2] }
  | _ => none }
def fnExactUnionNetsRow : OpenClaim := { program := "ytkgnmndgbpnifaa", sum := "ce037817fe919745a60235b3695492446984a2feec42d0f5a9c1c57bdbe31341", func := "loop.example/g00862/laws.FnExactUnionNets", spec := "fnExactUnionNets", unfollowed := true, recurses := true, apart := false }
def FnExactUnionNetsSaid : Prop := fnExactUnionNetsRow.holds Try.pinned (OpenSpec.ofChange fnExactUnionNetsSpec)

/-- ITS FALSE NEIGHBOUR: 'it returns false'. Refute it at one input. -/
def fnExactUnionNetsWrong : ChangeSpec := { name := "fnExactUnionNets", fn := fun _ => fun
  | [d1, d2] => { results := [.lit (.bool false)], args := [d1, d2] }
  | _ => none }
def FnExactUnionNetsWrongFalsely : Prop := fnExactUnionNetsRow.holds Try.pinned (OpenSpec.ofChange fnExactUnionNetsWrong)

/-- 'laws.FnExactEqualCodePairs': WHATEVER THE INPUT: true; the input reads as it did. -/
def fnExactEqualCodePairsSpec : ChangeSpec := { name := "fnExactEqualCodePairs", fn := fun _ => fun
  | [d] => { results := [.lit (.bool true)], args := [d] }
  | _ => none }
def fnExactEqualCodePairsRow : OpenClaim := { program := "ytkgnmndgbpnifaa", sum := "ce037817fe919745a60235b3695492446984a2feec42d0f5a9c1c57bdbe31341", func := "loop.example/g00862/laws.FnExactEqualCodePairs", spec := "fnExactEqualCodePairs", unfollowed := true, recurses := true, apart := false }
def FnExactEqualCodePairsSaid : Prop := fnExactEqualCodePairsRow.holds Try.pinned (OpenSpec.ofChange fnExactEqualCodePairsSpec)

/-- ITS FALSE NEIGHBOUR: 'it returns false'. Refute it at one input. -/
def fnExactEqualCodePairsWrong : ChangeSpec := { name := "fnExactEqualCodePairs", fn := fun _ => fun
  | [d] => { results := [.lit (.bool false)], args := [d] }
  | _ => none }
def FnExactEqualCodePairsWrongFalsely : Prop := fnExactEqualCodePairsRow.holds Try.pinned (OpenSpec.ofChange fnExactEqualCodePairsWrong)

/-- 'laws.FnExactNondeterministicArcs': WHATEVER THE INPUT: true; the input reads as it did. -/
def fnExactNondeterministicArcsSpec : ChangeSpec := { name := "fnExactNondeterministicArcs", fn := fun _ => fun
  | [d] => { results := [.lit (.bool true)], args := [d] }
  | _ => none }
def fnExactNondeterministicArcsRow : OpenClaim := { program := "ytkgnmndgbpnifaa", sum := "ce037817fe919745a60235b3695492446984a2feec42d0f5a9c1c57bdbe31341", func := "loop.example/g00862/laws.FnExactNondeterministicArcs", spec := "fnExactNondeterministicArcs", unfollowed := true, recurses := true, apart := false }
def FnExactNondeterministicArcsSaid : Prop := fnExactNondeterministicArcsRow.holds Try.pinned (OpenSpec.ofChange fnExactNondeterministicArcsSpec)

/-- ITS FALSE NEIGHBOUR: 'it returns false'. Refute it at one input. -/
def fnExactNondeterministicArcsWrong : ChangeSpec := { name := "fnExactNondeterministicArcs", fn := fun _ => fun
  | [d] => { results := [.lit (.bool false)], args := [d] }
  | _ => none }
def FnExactNondeterministicArcsWrongFalsely : Prop := fnExactNondeterministicArcsRow.holds Try.pinned (OpenSpec.ofChange fnExactNondeterministicArcsWrong)

/-- 'laws.FnExactCSCConflicts': WHATEVER THE INPUT: true; the input reads as it did. -/
def fnExactCSCConflictsSpec : ChangeSpec := { name := "fnExactCSCConflicts", fn := fun _ => fun
  | [d] => { results := [.lit (.bool true)], args := [d] }
  | _ => none }
def fnExactCSCConflictsRow : OpenClaim := { program := "ytkgnmndgbpnifaa", sum := "ce037817fe919745a60235b3695492446984a2feec42d0f5a9c1c57bdbe31341", func := "loop.example/g00862/laws.FnExactCSCConflicts", spec := "fnExactCSCConflicts", unfollowed := true, recurses := true, apart := false }
def FnExactCSCConflictsSaid : Prop := fnExactCSCConflictsRow.holds Try.pinned (OpenSpec.ofChange fnExactCSCConflictsSpec)

/-- ITS FALSE NEIGHBOUR: 'it returns false'. Refute it at one input. -/
def fnExactCSCConflictsWrong : ChangeSpec := { name := "fnExactCSCConflicts", fn := fun _ => fun
  | [d] => { results := [.lit (.bool false)], args := [d] }
  | _ => none }
def FnExactCSCConflictsWrongFalsely : Prop := fnExactCSCConflictsRow.holds Try.pinned (OpenSpec.ofChange fnExactCSCConflictsWrong)

/-- 'laws.FnExactMirrorSTG': WHATEVER THE INPUT: true; the input reads as it did. -/
def fnExactMirrorSTGSpec : ChangeSpec := { name := "fnExactMirrorSTG", fn := fun _ => fun
  | [d] => { results := [.lit (.bool true)], args := [d] }
  | _ => none }
def fnExactMirrorSTGRow : OpenClaim := { program := "ytkgnmndgbpnifaa", sum := "ce037817fe919745a60235b3695492446984a2feec42d0f5a9c1c57bdbe31341", func := "loop.example/g00862/laws.FnExactMirrorSTG", spec := "fnExactMirrorSTG", unfollowed := true, recurses := true, apart := false }
def FnExactMirrorSTGSaid : Prop := fnExactMirrorSTGRow.holds Try.pinned (OpenSpec.ofChange fnExactMirrorSTGSpec)

/-- ITS FALSE NEIGHBOUR: 'it returns false'. Refute it at one input. -/
def fnExactMirrorSTGWrong : ChangeSpec := { name := "fnExactMirrorSTG", fn := fun _ => fun
  | [d] => { results := [.lit (.bool false)], args := [d] }
  | _ => none }
def FnExactMirrorSTGWrongFalsely : Prop := fnExactMirrorSTGRow.holds Try.pinned (OpenSpec.ofChange fnExactMirrorSTGWrong)

/-- 'laws.FnExactUnionSTGs': WHATEVER THE INPUT: true; the input reads as it did. -/
def fnExactUnionSTGsSpec : ChangeSpec := { name := "fnExactUnionSTGs", fn := fun _ => fun
  | [d1, d2] => { results := [.lit (.bool true)], args := [d1, d2] }
  | _ => none }
def fnExactUnionSTGsRow : OpenClaim := { program := "ytkgnmndgbpnifaa", sum := "ce037817fe919745a60235b3695492446984a2feec42d0f5a9c1c57bdbe31341", func := "loop.example/g00862/laws.FnExactUnionSTGs", spec := "fnExactUnionSTGs", unfollowed := true, recurses := true, apart := false }
def FnExactUnionSTGsSaid : Prop := fnExactUnionSTGsRow.holds Try.pinned (OpenSpec.ofChange fnExactUnionSTGsSpec)

/-- ITS FALSE NEIGHBOUR: 'it returns false'. Refute it at one input. -/
def fnExactUnionSTGsWrong : ChangeSpec := { name := "fnExactUnionSTGs", fn := fun _ => fun
  | [d1, d2] => { results := [.lit (.bool false)], args := [d1, d2] }
  | _ => none }
def FnExactUnionSTGsWrongFalsely : Prop := fnExactUnionSTGsRow.holds Try.pinned (OpenSpec.ofChange fnExactUnionSTGsWrong)

/-- 'laws.FnExactHideSignal': WHATEVER THE INPUT: true; the input reads as it did. -/
def fnExactHideSignalSpec : ChangeSpec := { name := "fnExactHideSignal", fn := fun _ => fun
  | [d1, d2] => { results := [.lit (.bool true)], args := [d1, d2] }
  | _ => none }
def fnExactHideSignalRow : OpenClaim := { program := "ytkgnmndgbpnifaa", sum := "ce037817fe919745a60235b3695492446984a2feec42d0f5a9c1c57bdbe31341", func := "loop.example/g00862/laws.FnExactHideSignal", spec := "fnExactHideSignal", unfollowed := true, recurses := true, apart := false }
def FnExactHideSignalSaid : Prop := fnExactHideSignalRow.holds Try.pinned (OpenSpec.ofChange fnExactHideSignalSpec)

/-- ITS FALSE NEIGHBOUR: 'it returns false'. Refute it at one input. -/
def fnExactHideSignalWrong : ChangeSpec := { name := "fnExactHideSignal", fn := fun _ => fun
  | [d1, d2] => { results := [.lit (.bool false)], args := [d1, d2] }
  | _ => none }
def FnExactHideSignalWrongFalsely : Prop := fnExactHideSignalRow.holds Try.pinned (OpenSpec.ofChange fnExactHideSignalWrong)

/-- 'laws.FnExactPersistencyViolations': WHATEVER THE INPUT: true; the input reads as it did. -/
def fnExactPersistencyViolationsSpec : ChangeSpec := { name := "fnExactPersistencyViolations", fn := fun _ => fun
  | [d] => { results := [.lit (.bool true)], args := [d] }
  | _ => none }
def fnExactPersistencyViolationsRow : OpenClaim := { program := "ytkgnmndgbpnifaa", sum := "ce037817fe919745a60235b3695492446984a2feec42d0f5a9c1c57bdbe31341", func := "loop.example/g00862/laws.FnExactPersistencyViolations", spec := "fnExactPersistencyViolations", unfollowed := true, recurses := true, apart := false }
def FnExactPersistencyViolationsSaid : Prop := fnExactPersistencyViolationsRow.holds Try.pinned (OpenSpec.ofChange fnExactPersistencyViolationsSpec)

/-- ITS FALSE NEIGHBOUR: 'it returns false'. Refute it at one input. -/
def fnExactPersistencyViolationsWrong : ChangeSpec := { name := "fnExactPersistencyViolations", fn := fun _ => fun
  | [d] => { results := [.lit (.bool false)], args := [d] }
  | _ => none }
def FnExactPersistencyViolationsWrongFalsely : Prop := fnExactPersistencyViolationsRow.holds Try.pinned (OpenSpec.ofChange fnExactPersistencyViolationsWrong)

/-- 'laws.FnExactDisablingArcs': WHATEVER THE INPUT: true; the input reads as it did. -/
def fnExactDisablingArcsSpec : ChangeSpec := { name := "fnExactDisablingArcs", fn := fun _ => fun
  | [d1, d2] => { results := [.lit (.bool true)], args := [d1, d2] }
  | _ => none }
def fnExactDisablingArcsRow : OpenClaim := { program := "ytkgnmndgbpnifaa", sum := "ce037817fe919745a60235b3695492446984a2feec42d0f5a9c1c57bdbe31341", func := "loop.example/g00862/laws.FnExactDisablingArcs", spec := "fnExactDisablingArcs", unfollowed := true, recurses := true, apart := false }
def FnExactDisablingArcsSaid : Prop := fnExactDisablingArcsRow.holds Try.pinned (OpenSpec.ofChange fnExactDisablingArcsSpec)

/-- ITS FALSE NEIGHBOUR: 'it returns false'. Refute it at one input. -/
def fnExactDisablingArcsWrong : ChangeSpec := { name := "fnExactDisablingArcs", fn := fun _ => fun
  | [d1, d2] => { results := [.lit (.bool false)], args := [d1, d2] }
  | _ => none }
def FnExactDisablingArcsWrongFalsely : Prop := fnExactDisablingArcsRow.holds Try.pinned (OpenSpec.ofChange fnExactDisablingArcsWrong)

/-- 'laws.FnExactDiagnose': WHATEVER THE INPUT: true; the input reads as it did. -/
def fnExactDiagnoseSpec : ChangeSpec := { name := "fnExactDiagnose", fn := fun _ => fun
  | [d] => { results := [.lit (.bool true)], args := [d] }
  | _ => none }
def fnExactDiagnoseRow : OpenClaim := { program := "ytkgnmndgbpnifaa", sum := "ce037817fe919745a60235b3695492446984a2feec42d0f5a9c1c57bdbe31341", func := "loop.example/g00862/laws.FnExactDiagnose", spec := "fnExactDiagnose", unfollowed := true, recurses := true, apart := false }
def FnExactDiagnoseSaid : Prop := fnExactDiagnoseRow.holds Try.pinned (OpenSpec.ofChange fnExactDiagnoseSpec)

/-- ITS FALSE NEIGHBOUR: 'it returns false'. Refute it at one input. -/
def fnExactDiagnoseWrong : ChangeSpec := { name := "fnExactDiagnose", fn := fun _ => fun
  | [d] => { results := [.lit (.bool false)], args := [d] }
  | _ => none }
def FnExactDiagnoseWrongFalsely : Prop := fnExactDiagnoseRow.holds Try.pinned (OpenSpec.ofChange fnExactDiagnoseWrong)

/-- 'laws.FnExactIsImplementable': WHATEVER THE INPUT: true; the input reads as it did. -/
def fnExactIsImplementableSpec : ChangeSpec := { name := "fnExactIsImplementable", fn := fun _ => fun
  | [d] => { results := [.lit (.bool true)], args := [d] }
  | _ => none }
def fnExactIsImplementableRow : OpenClaim := { program := "ytkgnmndgbpnifaa", sum := "ce037817fe919745a60235b3695492446984a2feec42d0f5a9c1c57bdbe31341", func := "loop.example/g00862/laws.FnExactIsImplementable", spec := "fnExactIsImplementable", unfollowed := true, recurses := true, apart := false }
def FnExactIsImplementableSaid : Prop := fnExactIsImplementableRow.holds Try.pinned (OpenSpec.ofChange fnExactIsImplementableSpec)

/-- ITS FALSE NEIGHBOUR: 'it returns false'. Refute it at one input. -/
def fnExactIsImplementableWrong : ChangeSpec := { name := "fnExactIsImplementable", fn := fun _ => fun
  | [d] => { results := [.lit (.bool false)], args := [d] }
  | _ => none }
def FnExactIsImplementableWrongFalsely : Prop := fnExactIsImplementableRow.holds Try.pinned (OpenSpec.ofChange fnExactIsImplementableWrong)

/- THE SECOND FORM. 'bulk': how many values and letters a reading holds, each counted each time it is reached (what is shared counts as often as it is met; a slice's spare places count too). A statement '..UptoSaid' is the law's where the arguments, and the package variables that the reading takes, are together of bulk at most 1048576: NARROWER than '..Said'. Prove '..Said' where nothing that the law and all that it calls make is longer than what came in: it says more and counts as full. Else prove '..UptoSaid'. A law counts once. -/
mutual
def uptoBulk {H : Type} : DataW H → Nat
  | .lit (.string bytes) => bytes.length + 1
  | .lit _ => 1
  | .nil => 1
  | .ptr d => uptoBulk d + 1
  | .slice elems spare => uptoBulkAll elems + uptoBulkAll spare + 1
  | .agg parts => uptoBulkAll parts + 1
  | .iface _ d => uptoBulk d + 1
  | .map entries => uptoBulkEntries entries + 1
  | .held _ => 1
def uptoBulkAll {H : Type} : List (DataW H) → Nat
  | [] => 0
  | d :: r => uptoBulk d + uptoBulkAll r
def uptoBulkEntries {H : Type} : List (Lit × DataW H) → Nat
  | [] => 0
  | x :: r => uptoBulkEntry x + uptoBulkEntries r
def uptoBulkEntry {H : Type} : Lit × DataW H → Nat
  | (.string bytes, d) => bytes.length + uptoBulk d + 1
  | (_, d) => uptoBulk d + 1
 end
def uptoSmall : (H : Type) → List (DataW H) → Bool := fun _ ds => decide (uptoBulkAll ds ≤ 1048576)
def OpenSpec.upto (s : _root_.Go.ChangeSpec) : _root_.Go.OpenSpec := { _root_.Go.OpenSpec.ofChange s with cond := some uptoSmall }

/-- 'laws.FnExactReverseNet', WHERE WHAT IT READS IS OF BULK AT MOST 1048576: true; the input reads as it did. -/
def fnExactReverseNetUptoRow : OpenClaim := { program := "ytkgnmndgbpnifaa", sum := "ce037817fe919745a60235b3695492446984a2feec42d0f5a9c1c57bdbe31341", func := "loop.example/g00862/laws.FnExactReverseNet", spec := "fnExactReverseNet", unfollowed := true, recurses := true, apart := false, narrowed := true }
def FnExactReverseNetUptoSaid : Prop := fnExactReverseNetUptoRow.holds Try.pinned (OpenSpec.upto fnExactReverseNetSpec)

/-- 'laws.FnExactUnionNets', WHERE WHAT IT READS IS OF BULK AT MOST 1048576: true; the input reads as it did. -/
def fnExactUnionNetsUptoRow : OpenClaim := { program := "ytkgnmndgbpnifaa", sum := "ce037817fe919745a60235b3695492446984a2feec42d0f5a9c1c57bdbe31341", func := "loop.example/g00862/laws.FnExactUnionNets", spec := "fnExactUnionNets", unfollowed := true, recurses := true, apart := false, narrowed := true }
def FnExactUnionNetsUptoSaid : Prop := fnExactUnionNetsUptoRow.holds Try.pinned (OpenSpec.upto fnExactUnionNetsSpec)

/-- 'laws.FnExactEqualCodePairs', WHERE WHAT IT READS IS OF BULK AT MOST 1048576: true; the input reads as it did. -/
def fnExactEqualCodePairsUptoRow : OpenClaim := { program := "ytkgnmndgbpnifaa", sum := "ce037817fe919745a60235b3695492446984a2feec42d0f5a9c1c57bdbe31341", func := "loop.example/g00862/laws.FnExactEqualCodePairs", spec := "fnExactEqualCodePairs", unfollowed := true, recurses := true, apart := false, narrowed := true }
def FnExactEqualCodePairsUptoSaid : Prop := fnExactEqualCodePairsUptoRow.holds Try.pinned (OpenSpec.upto fnExactEqualCodePairsSpec)

/-- 'laws.FnExactNondeterministicArcs', WHERE WHAT IT READS IS OF BULK AT MOST 1048576: true; the input reads as it did. -/
def fnExactNondeterministicArcsUptoRow : OpenClaim := { program := "ytkgnmndgbpnifaa", sum := "ce037817fe919745a60235b3695492446984a2feec42d0f5a9c1c57bdbe31341", func := "loop.example/g00862/laws.FnExactNondeterministicArcs", spec := "fnExactNondeterministicArcs", unfollowed := true, recurses := true, apart := false, narrowed := true }
def FnExactNondeterministicArcsUptoSaid : Prop := fnExactNondeterministicArcsUptoRow.holds Try.pinned (OpenSpec.upto fnExactNondeterministicArcsSpec)

/-- 'laws.FnExactCSCConflicts', WHERE WHAT IT READS IS OF BULK AT MOST 1048576: true; the input reads as it did. -/
def fnExactCSCConflictsUptoRow : OpenClaim := { program := "ytkgnmndgbpnifaa", sum := "ce037817fe919745a60235b3695492446984a2feec42d0f5a9c1c57bdbe31341", func := "loop.example/g00862/laws.FnExactCSCConflicts", spec := "fnExactCSCConflicts", unfollowed := true, recurses := true, apart := false, narrowed := true }
def FnExactCSCConflictsUptoSaid : Prop := fnExactCSCConflictsUptoRow.holds Try.pinned (OpenSpec.upto fnExactCSCConflictsSpec)

/-- 'laws.FnExactMirrorSTG', WHERE WHAT IT READS IS OF BULK AT MOST 1048576: true; the input reads as it did. -/
def fnExactMirrorSTGUptoRow : OpenClaim := { program := "ytkgnmndgbpnifaa", sum := "ce037817fe919745a60235b3695492446984a2feec42d0f5a9c1c57bdbe31341", func := "loop.example/g00862/laws.FnExactMirrorSTG", spec := "fnExactMirrorSTG", unfollowed := true, recurses := true, apart := false, narrowed := true }
def FnExactMirrorSTGUptoSaid : Prop := fnExactMirrorSTGUptoRow.holds Try.pinned (OpenSpec.upto fnExactMirrorSTGSpec)

/-- 'laws.FnExactUnionSTGs', WHERE WHAT IT READS IS OF BULK AT MOST 1048576: true; the input reads as it did. -/
def fnExactUnionSTGsUptoRow : OpenClaim := { program := "ytkgnmndgbpnifaa", sum := "ce037817fe919745a60235b3695492446984a2feec42d0f5a9c1c57bdbe31341", func := "loop.example/g00862/laws.FnExactUnionSTGs", spec := "fnExactUnionSTGs", unfollowed := true, recurses := true, apart := false, narrowed := true }
def FnExactUnionSTGsUptoSaid : Prop := fnExactUnionSTGsUptoRow.holds Try.pinned (OpenSpec.upto fnExactUnionSTGsSpec)

/-- 'laws.FnExactHideSignal', WHERE WHAT IT READS IS OF BULK AT MOST 1048576: true; the input reads as it did. -/
def fnExactHideSignalUptoRow : OpenClaim := { program := "ytkgnmndgbpnifaa", sum := "ce037817fe919745a60235b3695492446984a2feec42d0f5a9c1c57bdbe31341", func := "loop.example/g00862/laws.FnExactHideSignal", spec := "fnExactHideSignal", unfollowed := true, recurses := true, apart := false, narrowed := true }
def FnExactHideSignalUptoSaid : Prop := fnExactHideSignalUptoRow.holds Try.pinned (OpenSpec.upto fnExactHideSignalSpec)

/-- 'laws.FnExactPersistencyViolations', WHERE WHAT IT READS IS OF BULK AT MOST 1048576: true; the input reads as it did. -/
def fnExactPersistencyViolationsUptoRow : OpenClaim := { program := "ytkgnmndgbpnifaa", sum := "ce037817fe919745a60235b3695492446984a2feec42d0f5a9c1c57bdbe31341", func := "loop.example/g00862/laws.FnExactPersistencyViolations", spec := "fnExactPersistencyViolations", unfollowed := true, recurses := true, apart := false, narrowed := true }
def FnExactPersistencyViolationsUptoSaid : Prop := fnExactPersistencyViolationsUptoRow.holds Try.pinned (OpenSpec.upto fnExactPersistencyViolationsSpec)

/-- 'laws.FnExactDisablingArcs', WHERE WHAT IT READS IS OF BULK AT MOST 1048576: true; the input reads as it did. -/
def fnExactDisablingArcsUptoRow : OpenClaim := { program := "ytkgnmndgbpnifaa", sum := "ce037817fe919745a60235b3695492446984a2feec42d0f5a9c1c57bdbe31341", func := "loop.example/g00862/laws.FnExactDisablingArcs", spec := "fnExactDisablingArcs", unfollowed := true, recurses := true, apart := false, narrowed := true }
def FnExactDisablingArcsUptoSaid : Prop := fnExactDisablingArcsUptoRow.holds Try.pinned (OpenSpec.upto fnExactDisablingArcsSpec)

/-- 'laws.FnExactDiagnose', WHERE WHAT IT READS IS OF BULK AT MOST 1048576: true; the input reads as it did. -/
def fnExactDiagnoseUptoRow : OpenClaim := { program := "ytkgnmndgbpnifaa", sum := "ce037817fe919745a60235b3695492446984a2feec42d0f5a9c1c57bdbe31341", func := "loop.example/g00862/laws.FnExactDiagnose", spec := "fnExactDiagnose", unfollowed := true, recurses := true, apart := false, narrowed := true }
def FnExactDiagnoseUptoSaid : Prop := fnExactDiagnoseUptoRow.holds Try.pinned (OpenSpec.upto fnExactDiagnoseSpec)

/-- 'laws.FnExactIsImplementable', WHERE WHAT IT READS IS OF BULK AT MOST 1048576: true; the input reads as it did. -/
def fnExactIsImplementableUptoRow : OpenClaim := { program := "ytkgnmndgbpnifaa", sum := "ce037817fe919745a60235b3695492446984a2feec42d0f5a9c1c57bdbe31341", func := "loop.example/g00862/laws.FnExactIsImplementable", spec := "fnExactIsImplementable", unfollowed := true, recurses := true, apart := false, narrowed := true }
def FnExactIsImplementableUptoSaid : Prop := fnExactIsImplementableUptoRow.holds Try.pinned (OpenSpec.upto fnExactIsImplementableSpec)

end Rows
end Go.Proofs.Ytkgnmndgbpnifaa
