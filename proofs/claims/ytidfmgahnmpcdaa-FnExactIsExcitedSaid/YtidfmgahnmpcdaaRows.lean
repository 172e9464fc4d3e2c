/-
  No cell of these rows narrows 'for every input' (looked for: loops, veiled, ifaces, maps, wideKeys, modest, calm, conditions, laid).
  DERIVED. THE GIVEN ROWS OF THIS SEAT. 10 by the template 'for every input the law returns true; each argument reads behind the call as it read before'; 0 by the template 'total and deterministic' (their statements: YtidfmgahnmpcdaaTotals.lean).
  GIVEN WITH THE SEED: the statements are not yours to turn. If you find one false, say at which input.
  Laid BY PROGRAM, IN A SANDBOX (cutbox-rows.mjs): the forced cells as the released guide's own fill.sh prints them over the translation 3a1153b495c7d0d7… (all of the seat's roots in one cut). By AI agents, Wed Nov 11 2026. No macro, syntax, notation, axiom, sorry.
-/
import Derived.Test.YtidfmgahnmpcdaaChecked
import GoSem.Claim
import GoSem.ClaimJoined
import GoSem.ClaimMapViews
import Derived.JoinedTies
import Derived.KernelRfl
namespace Go.Proofs.Ytidfmgahnmpcdaa
/- THE CELL 'sum', in the pinned program and in every row, IS THE sha256 OF THE DUMP (.gsa) THAT YtidfmgahnmpcdaaProg.lean LOADS. Nothing in Lean hashes anything: it is a label: what it is worth is what the hold of that sum in a sandbox is worth. -/
noncomputable def Try.pinned : Pinned := { name := "ytidfmgahnmpcdaa", sum := "3a1153b495c7d0d727a97a0461da0305f19e093e0cfb5dcd285fca3204578004", checked := Try.checked }
namespace Rows
def none {H : Type} : Left H := { results := [], args := [] }

/-- 'laws.FnExactCountPaths': WHATEVER THE INPUT: true; the input reads as it did. -/
def fnExactCountPathsSpec : ChangeSpec := { name := "fnExactCountPaths", fn := fun _ => fun
  | [d1, d2] => { results := [.lit (.bool true)], args := [d1, d2] }
  | _ => none }
def fnExactCountPathsRow : OpenClaim := { program := "ytidfmgahnmpcdaa", sum := "3a1153b495c7d0d727a97a0461da0305f19e093e0cfb5dcd285fca3204578004", func := "loop.example/g00862/laws.FnExactCountPaths", spec := "fnExactCountPaths", plainKeys := false, apart := false }
def FnExactCountPathsSaid : Prop := fnExactCountPathsRow.holds Try.pinned (OpenSpec.ofChange fnExactCountPathsSpec)

/-- ITS FALSE NEIGHBOUR: 'it returns false'. Refute it at one input. -/
def fnExactCountPathsWrong : ChangeSpec := { name := "fnExactCountPaths", fn := fun _ => fun
  | [d1, d2] => { results := [.lit (.bool false)], args := [d1, d2] }
  | _ => none }
def FnExactCountPathsWrongFalsely : Prop := fnExactCountPathsRow.holds Try.pinned (OpenSpec.ofChange fnExactCountPathsWrong)

/-- 'laws.FnExactAreIndependent': WHATEVER THE INPUT: true; the input reads as it did. -/
def fnExactAreIndependentSpec : ChangeSpec := { name := "fnExactAreIndependent", fn := fun _ => fun
  | [d1, d2, d3] => { results := [.lit (.bool true)], args := [d1, d2, d3] }
  | _ => none }
def fnExactAreIndependentRow : OpenClaim := { program := "ytidfmgahnmpcdaa", sum := "3a1153b495c7d0d727a97a0461da0305f19e093e0cfb5dcd285fca3204578004", func := "loop.example/g00862/laws.FnExactAreIndependent", spec := "fnExactAreIndependent", unfollowed := true, recurses := true, plainKeys := false, apart := false }
def FnExactAreIndependentSaid : Prop := fnExactAreIndependentRow.holds Try.pinned (OpenSpec.ofChange fnExactAreIndependentSpec)

/-- ITS FALSE NEIGHBOUR: 'it returns false'. Refute it at one input. -/
def fnExactAreIndependentWrong : ChangeSpec := { name := "fnExactAreIndependent", fn := fun _ => fun
  | [d1, d2, d3] => { results := [.lit (.bool false)], args := [d1, d2, d3] }
  | _ => none }
def FnExactAreIndependentWrongFalsely : Prop := fnExactAreIndependentRow.holds Try.pinned (OpenSpec.ofChange fnExactAreIndependentWrong)

/-- 'laws.FnExactSignalIndex': WHATEVER THE INPUT: true; the input reads as it did. -/
def fnExactSignalIndexSpec : ChangeSpec := { name := "fnExactSignalIndex", fn := fun _ => fun
  | [d1, d2] => { results := [.lit (.bool true)], args := [d1, d2] }
  | _ => none }
def fnExactSignalIndexRow : OpenClaim := { program := "ytidfmgahnmpcdaa", sum := "3a1153b495c7d0d727a97a0461da0305f19e093e0cfb5dcd285fca3204578004", func := "loop.example/g00862/laws.FnExactSignalIndex", spec := "fnExactSignalIndex", unfollowed := true, recurses := true, plainKeys := false, apart := false }
def FnExactSignalIndexSaid : Prop := fnExactSignalIndexRow.holds Try.pinned (OpenSpec.ofChange fnExactSignalIndexSpec)

/-- ITS FALSE NEIGHBOUR: 'it returns false'. Refute it at one input. -/
def fnExactSignalIndexWrong : ChangeSpec := { name := "fnExactSignalIndex", fn := fun _ => fun
  | [d1, d2] => { results := [.lit (.bool false)], args := [d1, d2] }
  | _ => none }
def FnExactSignalIndexWrongFalsely : Prop := fnExactSignalIndexRow.holds Try.pinned (OpenSpec.ofChange fnExactSignalIndexWrong)

/-- 'laws.FnExactIsValidStateGraph': WHATEVER THE INPUT: true; the input reads as it did. -/
def fnExactIsValidStateGraphSpec : ChangeSpec := { name := "fnExactIsValidStateGraph", fn := fun _ => fun
  | [d] => { results := [.lit (.bool true)], args := [d] }
  | _ => none }
def fnExactIsValidStateGraphRow : OpenClaim := { program := "ytidfmgahnmpcdaa", sum := "3a1153b495c7d0d727a97a0461da0305f19e093e0cfb5dcd285fca3204578004", func := "loop.example/g00862/laws.FnExactIsValidStateGraph", spec := "fnExactIsValidStateGraph", unfollowed := true, recurses := true, plainKeys := false, apart := false }
def FnExactIsValidStateGraphSaid : Prop := fnExactIsValidStateGraphRow.holds Try.pinned (OpenSpec.ofChange fnExactIsValidStateGraphSpec)

/-- ITS FALSE NEIGHBOUR: 'it returns false'. Refute it at one input. -/
def fnExactIsValidStateGraphWrong : ChangeSpec := { name := "fnExactIsValidStateGraph", fn := fun _ => fun
  | [d] => { results := [.lit (.bool false)], args := [d] }
  | _ => none }
def FnExactIsValidStateGraphWrongFalsely : Prop := fnExactIsValidStateGraphRow.holds Try.pinned (OpenSpec.ofChange fnExactIsValidStateGraphWrong)

/-- 'laws.FnExactIsMarkedGraph': WHATEVER THE INPUT: true; the input reads as it did. -/
def fnExactIsMarkedGraphSpec : ChangeSpec := { name := "fnExactIsMarkedGraph", fn := fun _ => fun
  | [d] => { results := [.lit (.bool true)], args := [d] }
  | _ => none }
def fnExactIsMarkedGraphRow : OpenClaim := { program := "ytidfmgahnmpcdaa", sum := "3a1153b495c7d0d727a97a0461da0305f19e093e0cfb5dcd285fca3204578004", func := "loop.example/g00862/laws.FnExactIsMarkedGraph", spec := "fnExactIsMarkedGraph", unfollowed := true, recurses := true, plainKeys := false, apart := false }
def FnExactIsMarkedGraphSaid : Prop := fnExactIsMarkedGraphRow.holds Try.pinned (OpenSpec.ofChange fnExactIsMarkedGraphSpec)

/-- ITS FALSE NEIGHBOUR: 'it returns false'. Refute it at one input. -/
def fnExactIsMarkedGraphWrong : ChangeSpec := { name := "fnExactIsMarkedGraph", fn := fun _ => fun
  | [d] => { results := [.lit (.bool false)], args := [d] }
  | _ => none }
def FnExactIsMarkedGraphWrongFalsely : Prop := fnExactIsMarkedGraphRow.holds Try.pinned (OpenSpec.ofChange fnExactIsMarkedGraphWrong)

/-- 'laws.FnExactIsExcited': WHATEVER THE INPUT: true; the input reads as it did. -/
def fnExactIsExcitedSpec : ChangeSpec := { name := "fnExactIsExcited", fn := fun _ => fun
  | [d1, d2, d3] => { results := [.lit (.bool true)], args := [d1, d2, d3] }
  | _ => none }
def fnExactIsExcitedRow : OpenClaim := { program := "ytidfmgahnmpcdaa", sum := "3a1153b495c7d0d727a97a0461da0305f19e093e0cfb5dcd285fca3204578004", func := "loop.example/g00862/laws.FnExactIsExcited", spec := "fnExactIsExcited", unfollowed := true, recurses := true, plainKeys := false, apart := false }
def FnExactIsExcitedSaid : Prop := fnExactIsExcitedRow.holds Try.pinned (OpenSpec.ofChange fnExactIsExcitedSpec)

/-- ITS FALSE NEIGHBOUR: 'it returns false'. Refute it at one input. -/
def fnExactIsExcitedWrong : ChangeSpec := { name := "fnExactIsExcited", fn := fun _ => fun
  | [d1, d2, d3] => { results := [.lit (.bool false)], args := [d1, d2, d3] }
  | _ => none }
def FnExactIsExcitedWrongFalsely : Prop := fnExactIsExcitedRow.holds Try.pinned (OpenSpec.ofChange fnExactIsExcitedWrong)

/-- 'laws.FnExactIsRegion': WHATEVER THE INPUT: true; the input reads as it did. -/
def fnExactIsRegionSpec : ChangeSpec := { name := "fnExactIsRegion", fn := fun _ => fun
  | [d1, d2] => { results := [.lit (.bool true)], args := [d1, d2] }
  | _ => none }
def fnExactIsRegionRow : OpenClaim := { program := "ytidfmgahnmpcdaa", sum := "3a1153b495c7d0d727a97a0461da0305f19e093e0cfb5dcd285fca3204578004", func := "loop.example/g00862/laws.FnExactIsRegion", spec := "fnExactIsRegion", unfollowed := true, recurses := true, plainKeys := false, apart := false }
def FnExactIsRegionSaid : Prop := fnExactIsRegionRow.holds Try.pinned (OpenSpec.ofChange fnExactIsRegionSpec)

/-- ITS FALSE NEIGHBOUR: 'it returns false'. Refute it at one input. -/
def fnExactIsRegionWrong : ChangeSpec := { name := "fnExactIsRegion", fn := fun _ => fun
  | [d1, d2] => { results := [.lit (.bool false)], args := [d1, d2] }
  | _ => none }
def FnExactIsRegionWrongFalsely : Prop := fnExactIsRegionRow.holds Try.pinned (OpenSpec.ofChange fnExactIsRegionWrong)

/-- 'laws.FnExactEnabled': WHATEVER THE INPUT: true; the input reads as it did. -/
def fnExactEnabledSpec : ChangeSpec := { name := "fnExactEnabled", fn := fun _ => fun
  | [d1, d2] => { results := [.lit (.bool true)], args := [d1, d2] }
  | _ => none }
def fnExactEnabledRow : OpenClaim := { program := "ytidfmgahnmpcdaa", sum := "3a1153b495c7d0d727a97a0461da0305f19e093e0cfb5dcd285fca3204578004", func := "loop.example/g00862/laws.FnExactEnabled", spec := "fnExactEnabled", unfollowed := true, recurses := true, plainKeys := false, apart := false }
def FnExactEnabledSaid : Prop := fnExactEnabledRow.holds Try.pinned (OpenSpec.ofChange fnExactEnabledSpec)

/-- ITS FALSE NEIGHBOUR: 'it returns false'. Refute it at one input. -/
def fnExactEnabledWrong : ChangeSpec := { name := "fnExactEnabled", fn := fun _ => fun
  | [d1, d2] => { results := [.lit (.bool false)], args := [d1, d2] }
  | _ => none }
def FnExactEnabledWrongFalsely : Prop := fnExactEnabledRow.holds Try.pinned (OpenSpec.ofChange fnExactEnabledWrong)

/-- 'laws.FnExactDeadlocks': WHATEVER THE INPUT: true; the input reads as it did. -/
def fnExactDeadlocksSpec : ChangeSpec := { name := "fnExactDeadlocks", fn := fun _ => fun
  | [d] => { results := [.lit (.bool true)], args := [d] }
  | _ => none }
def fnExactDeadlocksRow : OpenClaim := { program := "ytidfmgahnmpcdaa", sum := "3a1153b495c7d0d727a97a0461da0305f19e093e0cfb5dcd285fca3204578004", func := "loop.example/g00862/laws.FnExactDeadlocks", spec := "fnExactDeadlocks", unfollowed := true, recurses := true, plainKeys := false, apart := false }
def FnExactDeadlocksSaid : Prop := fnExactDeadlocksRow.holds Try.pinned (OpenSpec.ofChange fnExactDeadlocksSpec)

/-- ITS FALSE NEIGHBOUR: 'it returns false'. Refute it at one input. -/
def fnExactDeadlocksWrong : ChangeSpec := { name := "fnExactDeadlocks", fn := fun _ => fun
  | [d] => { results := [.lit (.bool false)], args := [d] }
  | _ => none }
def FnExactDeadlocksWrongFalsely : Prop := fnExactDeadlocksRow.holds Try.pinned (OpenSpec.ofChange fnExactDeadlocksWrong)

/-- 'laws.FnExactHomeStates': WHATEVER THE INPUT: true; the input reads as it did. -/
def fnExactHomeStatesSpec : ChangeSpec := { name := "fnExactHomeStates", fn := fun _ => fun
  | [d] => { results := [.lit (.bool true)], args := [d] }
  | _ => none }
def fnExactHomeStatesRow : OpenClaim := { program := "ytidfmgahnmpcdaa", sum := "3a1153b495c7d0d727a97a0461da0305f19e093e0cfb5dcd285fca3204578004", func := "loop.example/g00862/laws.FnExactHomeStates", spec := "fnExactHomeStates", plainKeys := false, apart := false }
def FnExactHomeStatesSaid : Prop := fnExactHomeStatesRow.holds Try.pinned (OpenSpec.ofChange fnExactHomeStatesSpec)

/-- ITS FALSE NEIGHBOUR: 'it returns false'. Refute it at one input. -/
def fnExactHomeStatesWrong : ChangeSpec := { name := "fnExactHomeStates", fn := fun _ => fun
  | [d] => { results := [.lit (.bool false)], args := [d] }
  | _ => none }
def FnExactHomeStatesWrongFalsely : Prop := fnExactHomeStatesRow.holds Try.pinned (OpenSpec.ofChange fnExactHomeStatesWrong)

/- THE SECOND FORM. 'bulk': how many values and letters a reading holds, each counted each time it is reached (what is shared counts as often as it is met; a slice's spare places count too). A statement '..UptoSaid' is the law's where the arguments, and the package variables that the reading takes, are together of bulk at most 1048576: NARROWER than '..Said'. Prove '..Said' where nothing that the law and all that it calls make is longer than what came in: it says more and counts as full. Else prove '..UptoSaid'. A law counts once. -/
mutual
def uptoBulk {H : Type} : DataW H → Nat
  | .lit (.string bytes) => bytes.length + 1
  | .lit _ => 1
  | .nil => 1
  | .ptr d => uptoBulk d + 1
  | .slice elems spare => uptoBulkAll elems + uptoBulkAll spare + 1
  | .agg parts => uptoBulkAll parts + 1
  | .iface _ d => uptoBulk d + 1
  | .map entries => uptoBulkEntries entries + 1
  | .held _ => 1
def uptoBulkAll {H : Type} : List (DataW H) → Nat
  | [] => 0
  | d :: r => uptoBulk d + uptoBulkAll r
def uptoBulkEntries {H : Type} : List (Lit × DataW H) → Nat
  | [] => 0
  | x :: r => uptoBulkEntry x + uptoBulkEntries r
def uptoBulkEntry {H : Type} : Lit × DataW H → Nat
  | (.string bytes, d) => bytes.length + uptoBulk d + 1
  | (_, d) => uptoBulk d + 1
 end
def uptoSmall : (H : Type) → List (DataW H) → Bool := fun _ ds => decide (uptoBulkAll ds ≤ 1048576)
def OpenSpec.upto (s : _root_.Go.ChangeSpec) : _root_.Go.OpenSpec := { _root_.Go.OpenSpec.ofChange s with cond := some uptoSmall }

/-- 'laws.FnExactCountPaths', WHERE WHAT IT READS IS OF BULK AT MOST 1048576: true; the input reads as it did. -/
def fnExactCountPathsUptoRow : OpenClaim := { program := "ytidfmgahnmpcdaa", sum := "3a1153b495c7d0d727a97a0461da0305f19e093e0cfb5dcd285fca3204578004", func := "loop.example/g00862/laws.FnExactCountPaths", spec := "fnExactCountPaths", plainKeys := false, apart := false, narrowed := true }
def FnExactCountPathsUptoSaid : Prop := fnExactCountPathsUptoRow.holds Try.pinned (OpenSpec.upto fnExactCountPathsSpec)

/-- 'laws.FnExactAreIndependent', WHERE WHAT IT READS IS OF BULK AT MOST 1048576: true; the input reads as it did. -/
def fnExactAreIndependentUptoRow : OpenClaim := { program := "ytidfmgahnmpcdaa", sum := "3a1153b495c7d0d727a97a0461da0305f19e093e0cfb5dcd285fca3204578004", func := "loop.example/g00862/laws.FnExactAreIndependent", spec := "fnExactAreIndependent", unfollowed := true, recurses := true, plainKeys := false, apart := false, narrowed := true }
def FnExactAreIndependentUptoSaid : Prop := fnExactAreIndependentUptoRow.holds Try.pinned (OpenSpec.upto fnExactAreIndependentSpec)

/-- 'laws.FnExactSignalIndex', WHERE WHAT IT READS IS OF BULK AT MOST 1048576: true; the input reads as it did. -/
def fnExactSignalIndexUptoRow : OpenClaim := { program := "ytidfmgahnmpcdaa", sum := "3a1153b495c7d0d727a97a0461da0305f19e093e0cfb5dcd285fca3204578004", func := "loop.example/g00862/laws.FnExactSignalIndex", spec := "fnExactSignalIndex", unfollowed := true, recurses := true, plainKeys := false, apart := false, narrowed := true }
def FnExactSignalIndexUptoSaid : Prop := fnExactSignalIndexUptoRow.holds Try.pinned (OpenSpec.upto fnExactSignalIndexSpec)

/-- 'laws.FnExactIsValidStateGraph', WHERE WHAT IT READS IS OF BULK AT MOST 1048576: true; the input reads as it did. -/
def fnExactIsValidStateGraphUptoRow : OpenClaim := { program := "ytidfmgahnmpcdaa", sum := "3a1153b495c7d0d727a97a0461da0305f19e093e0cfb5dcd285fca3204578004", func := "loop.example/g00862/laws.FnExactIsValidStateGraph", spec := "fnExactIsValidStateGraph", unfollowed := true, recurses := true, plainKeys := false, apart := false, narrowed := true }
def FnExactIsValidStateGraphUptoSaid : Prop := fnExactIsValidStateGraphUptoRow.holds Try.pinned (OpenSpec.upto fnExactIsValidStateGraphSpec)

/-- 'laws.FnExactIsMarkedGraph', WHERE WHAT IT READS IS OF BULK AT MOST 1048576: true; the input reads as it did. -/
def fnExactIsMarkedGraphUptoRow : OpenClaim := { program := "ytidfmgahnmpcdaa", sum := "3a1153b495c7d0d727a97a0461da0305f19e093e0cfb5dcd285fca3204578004", func := "loop.example/g00862/laws.FnExactIsMarkedGraph", spec := "fnExactIsMarkedGraph", unfollowed := true, recurses := true, plainKeys := false, apart := false, narrowed := true }
def FnExactIsMarkedGraphUptoSaid : Prop := fnExactIsMarkedGraphUptoRow.holds Try.pinned (OpenSpec.upto fnExactIsMarkedGraphSpec)

/-- 'laws.FnExactIsExcited', WHERE WHAT IT READS IS OF BULK AT MOST 1048576: true; the input reads as it did. -/
def fnExactIsExcitedUptoRow : OpenClaim := { program := "ytidfmgahnmpcdaa", sum := "3a1153b495c7d0d727a97a0461da0305f19e093e0cfb5dcd285fca3204578004", func := "loop.example/g00862/laws.FnExactIsExcited", spec := "fnExactIsExcited", unfollowed := true, recurses := true, plainKeys := false, apart := false, narrowed := true }
def FnExactIsExcitedUptoSaid : Prop := fnExactIsExcitedUptoRow.holds Try.pinned (OpenSpec.upto fnExactIsExcitedSpec)

/-- 'laws.FnExactIsRegion', WHERE WHAT IT READS IS OF BULK AT MOST 1048576: true; the input reads as it did. -/
def fnExactIsRegionUptoRow : OpenClaim := { program := "ytidfmgahnmpcdaa", sum := "3a1153b495c7d0d727a97a0461da0305f19e093e0cfb5dcd285fca3204578004", func := "loop.example/g00862/laws.FnExactIsRegion", spec := "fnExactIsRegion", unfollowed := true, recurses := true, plainKeys := false, apart := false, narrowed := true }
def FnExactIsRegionUptoSaid : Prop := fnExactIsRegionUptoRow.holds Try.pinned (OpenSpec.upto fnExactIsRegionSpec)

/-- 'laws.FnExactEnabled', WHERE WHAT IT READS IS OF BULK AT MOST 1048576: true; the input reads as it did. -/
def fnExactEnabledUptoRow : OpenClaim := { program := "ytidfmgahnmpcdaa", sum := "3a1153b495c7d0d727a97a0461da0305f19e093e0cfb5dcd285fca3204578004", func := "loop.example/g00862/laws.FnExactEnabled", spec := "fnExactEnabled", unfollowed := true, recurses := true, plainKeys := false, apart := false, narrowed := true }
def FnExactEnabledUptoSaid : Prop := fnExactEnabledUptoRow.holds Try.pinned (OpenSpec.upto fnExactEnabledSpec)

/-- 'laws.FnExactDeadlocks', WHERE WHAT IT READS IS OF BULK AT MOST 1048576: true; the input reads as it did. -/
def fnExactDeadlocksUptoRow : OpenClaim := { program := "ytidfmgahnmpcdaa", sum := "3a1153b495c7d0d727a97a0461da0305f19e093e0cfb5dcd285fca3204578004", func := "loop.example/g00862/laws.FnExactDeadlocks", spec := "fnExactDeadlocks", unfollowed := true, recurses := true, plainKeys := false, apart := false, narrowed := true }
def FnExactDeadlocksUptoSaid : Prop := fnExactDeadlocksUptoRow.holds Try.pinned (OpenSpec.upto fnExactDeadlocksSpec)

/-- 'laws.FnExactHomeStates', WHERE WHAT IT READS IS OF BULK AT MOST 1048576: true; the input reads as it did. -/
def fnExactHomeStatesUptoRow : OpenClaim := { program := "ytidfmgahnmpcdaa", sum := "3a1153b495c7d0d727a97a0461da0305f19e093e0cfb5dcd285fca3204578004", func := "loop.example/g00862/laws.FnExactHomeStates", spec := "fnExactHomeStates", plainKeys := false, apart := false, narrowed := true }
def FnExactHomeStatesUptoSaid : Prop := fnExactHomeStatesUptoRow.holds Try.pinned (OpenSpec.upto fnExactHomeStatesSpec)

end Rows
end Go.Proofs.Ytidfmgahnmpcdaa
