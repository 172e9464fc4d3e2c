/-
  No cell of these rows narrows 'for every input' (looked for: loops, veiled, ifaces, maps, wideKeys, modest, calm, conditions, laid).
  DERIVED. THE GIVEN ROWS OF THIS SEAT. 6 by the template 'for every input the law returns true; each argument reads behind the call as it read before'; 0 by the template 'total and deterministic' (their statements: YtcbfpeplcbgpjaaTotals.lean).
  GIVEN WITH THE SEED: the statements are not yours to turn. If you find one false, say at which input.
  Laid BY PROGRAM, IN A SANDBOX (cutbox-rows.mjs): the forced cells as the released guide's own fill.sh prints them over the translation 429a98d4a4c98f14… (all of the seat's roots in one cut). By AI agents, Wed Nov 11 2026. No macro, syntax, notation, axiom, sorry.
-/
import Derived.Test.YtcbfpeplcbgpjaaChecked
import GoSem.Claim
import GoSem.ClaimJoined
import GoSem.ClaimMapViews
import Derived.JoinedTies
import Derived.KernelRfl
namespace Go.Proofs.Ytcbfpeplcbgpjaa
/- THE CELL 'sum', in the pinned program and in every row, IS THE sha256 OF THE DUMP (.gsa) THAT YtcbfpeplcbgpjaaProg.lean LOADS. Nothing in Lean hashes anything: it is a label: what it is worth is what the hold of that sum in a sandbox is worth. -/
noncomputable def Try.pinned : Pinned := { name := "ytcbfpeplcbgpjaa", sum := "429a98d4a4c98f14de148ea49d6a321afb563e5dd1f554656a99c61704a0fa38", checked := Try.checked }
namespace Rows
def none {H : Type} : Left H := { results := [], args := [] }

/-- 'laws.FnExactAreIndependent': WHATEVER THE INPUT: true; the input reads as it did. -/
def fnExactAreIndependentSpec : ChangeSpec := { name := "fnExactAreIndependent", fn := fun _ => fun
  | [d1, d2, d3] => { results := [.lit (.bool true)], args := [d1, d2, d3] }
  | _ => none }
def fnExactAreIndependentRow : OpenClaim := { program := "ytcbfpeplcbgpjaa", sum := "429a98d4a4c98f14de148ea49d6a321afb563e5dd1f554656a99c61704a0fa38", func := "loop.example/g00862/laws.FnExactAreIndependent", spec := "fnExactAreIndependent", unfollowed := true, recurses := true, apart := false }
def FnExactAreIndependentSaid : Prop := fnExactAreIndependentRow.holds Try.pinned (OpenSpec.ofChange fnExactAreIndependentSpec)

/-- ITS FALSE NEIGHBOUR: 'it returns false'. Refute it at one input. -/
def fnExactAreIndependentWrong : ChangeSpec := { name := "fnExactAreIndependent", fn := fun _ => fun
  | [d1, d2, d3] => { results := [.lit (.bool false)], args := [d1, d2, d3] }
  | _ => none }
def FnExactAreIndependentWrongFalsely : Prop := fnExactAreIndependentRow.holds Try.pinned (OpenSpec.ofChange fnExactAreIndependentWrong)

/-- 'laws.FnExactExcitationComponents': WHATEVER THE INPUT: true; the input reads as it did. -/
def fnExactExcitationComponentsSpec : ChangeSpec := { name := "fnExactExcitationComponents", fn := fun _ => fun
  | [d1, d2, d3] => { results := [.lit (.bool true)], args := [d1, d2, d3] }
  | _ => none }
def fnExactExcitationComponentsRow : OpenClaim := { program := "ytcbfpeplcbgpjaa", sum := "429a98d4a4c98f14de148ea49d6a321afb563e5dd1f554656a99c61704a0fa38", func := "loop.example/g00862/laws.FnExactExcitationComponents", spec := "fnExactExcitationComponents", unfollowed := true, recurses := true, apart := false }
def FnExactExcitationComponentsSaid : Prop := fnExactExcitationComponentsRow.holds Try.pinned (OpenSpec.ofChange fnExactExcitationComponentsSpec)

/-- ITS FALSE NEIGHBOUR: 'it returns false'. Refute it at one input. -/
def fnExactExcitationComponentsWrong : ChangeSpec := { name := "fnExactExcitationComponents", fn := fun _ => fun
  | [d1, d2, d3] => { results := [.lit (.bool false)], args := [d1, d2, d3] }
  | _ => none }
def FnExactExcitationComponentsWrongFalsely : Prop := fnExactExcitationComponentsRow.holds Try.pinned (OpenSpec.ofChange fnExactExcitationComponentsWrong)

/-- 'laws.FnExactInitialUnfolding': WHATEVER THE INPUT: true; the input reads as it did. -/
def fnExactInitialUnfoldingSpec : ChangeSpec := { name := "fnExactInitialUnfolding", fn := fun _ => fun
  | [d1, d2] => { results := [.lit (.bool true)], args := [d1, d2] }
  | _ => none }
def fnExactInitialUnfoldingRow : OpenClaim := { program := "ytcbfpeplcbgpjaa", sum := "429a98d4a4c98f14de148ea49d6a321afb563e5dd1f554656a99c61704a0fa38", func := "loop.example/g00862/laws.FnExactInitialUnfolding", spec := "fnExactInitialUnfolding", unfollowed := true, recurses := true, apart := false }
def FnExactInitialUnfoldingSaid : Prop := fnExactInitialUnfoldingRow.holds Try.pinned (OpenSpec.ofChange fnExactInitialUnfoldingSpec)

/-- ITS FALSE NEIGHBOUR: 'it returns false'. Refute it at one input. -/
def fnExactInitialUnfoldingWrong : ChangeSpec := { name := "fnExactInitialUnfolding", fn := fun _ => fun
  | [d1, d2] => { results := [.lit (.bool false)], args := [d1, d2] }
  | _ => none }
def FnExactInitialUnfoldingWrongFalsely : Prop := fnExactInitialUnfoldingRow.holds Try.pinned (OpenSpec.ofChange fnExactInitialUnfoldingWrong)

/-- 'laws.FnExactUnionSTGs': WHATEVER THE INPUT: true; the input reads as it did. -/
def fnExactUnionSTGsSpec : ChangeSpec := { name := "fnExactUnionSTGs", fn := fun _ => fun
  | [d1, d2] => { results := [.lit (.bool true)], args := [d1, d2] }
  | _ => none }
def fnExactUnionSTGsRow : OpenClaim := { program := "ytcbfpeplcbgpjaa", sum := "429a98d4a4c98f14de148ea49d6a321afb563e5dd1f554656a99c61704a0fa38", func := "loop.example/g00862/laws.FnExactUnionSTGs", spec := "fnExactUnionSTGs", unfollowed := true, recurses := true, apart := false }
def FnExactUnionSTGsSaid : Prop := fnExactUnionSTGsRow.holds Try.pinned (OpenSpec.ofChange fnExactUnionSTGsSpec)

/-- ITS FALSE NEIGHBOUR: 'it returns false'. Refute it at one input. -/
def fnExactUnionSTGsWrong : ChangeSpec := { name := "fnExactUnionSTGs", fn := fun _ => fun
  | [d1, d2] => { results := [.lit (.bool false)], args := [d1, d2] }
  | _ => none }
def FnExactUnionSTGsWrongFalsely : Prop := fnExactUnionSTGsRow.holds Try.pinned (OpenSpec.ofChange fnExactUnionSTGsWrong)

/-- 'laws.FnExactRemovePlace': WHATEVER THE INPUT: true; the input reads as it did. -/
def fnExactRemovePlaceSpec : ChangeSpec := { name := "fnExactRemovePlace", fn := fun _ => fun
  | [d1, d2] => { results := [.lit (.bool true)], args := [d1, d2] }
  | _ => none }
def fnExactRemovePlaceRow : OpenClaim := { program := "ytcbfpeplcbgpjaa", sum := "429a98d4a4c98f14de148ea49d6a321afb563e5dd1f554656a99c61704a0fa38", func := "loop.example/g00862/laws.FnExactRemovePlace", spec := "fnExactRemovePlace", unfollowed := true, recurses := true, apart := false }
def FnExactRemovePlaceSaid : Prop := fnExactRemovePlaceRow.holds Try.pinned (OpenSpec.ofChange fnExactRemovePlaceSpec)

/-- ITS FALSE NEIGHBOUR: 'it returns false'. Refute it at one input. -/
def fnExactRemovePlaceWrong : ChangeSpec := { name := "fnExactRemovePlace", fn := fun _ => fun
  | [d1, d2] => { results := [.lit (.bool false)], args := [d1, d2] }
  | _ => none }
def FnExactRemovePlaceWrongFalsely : Prop := fnExactRemovePlaceRow.holds Try.pinned (OpenSpec.ofChange fnExactRemovePlaceWrong)

/-- 'laws.FnExactLongestPath': WHATEVER THE INPUT: true; the input reads as it did. -/
def fnExactLongestPathSpec : ChangeSpec := { name := "fnExactLongestPath", fn := fun _ => fun
  | [d1, d2] => { results := [.lit (.bool true)], args := [d1, d2] }
  | _ => none }
def fnExactLongestPathRow : OpenClaim := { program := "ytcbfpeplcbgpjaa", sum := "429a98d4a4c98f14de148ea49d6a321afb563e5dd1f554656a99c61704a0fa38", func := "loop.example/g00862/laws.FnExactLongestPath", spec := "fnExactLongestPath", unfollowed := true, recurses := true, apart := false }
def FnExactLongestPathSaid : Prop := fnExactLongestPathRow.holds Try.pinned (OpenSpec.ofChange fnExactLongestPathSpec)

/-- ITS FALSE NEIGHBOUR: 'it returns false'. Refute it at one input. -/
def fnExactLongestPathWrong : ChangeSpec := { name := "fnExactLongestPath", fn := fun _ => fun
  | [d1, d2] => { results := [.lit (.bool false)], args := [d1, d2] }
  | _ => none }
def FnExactLongestPathWrongFalsely : Prop := fnExactLongestPathRow.holds Try.pinned (OpenSpec.ofChange fnExactLongestPathWrong)

/- THE SECOND FORM. 'bulk': how many values and letters a reading holds, each counted each time it is reached (what is shared counts as often as it is met; a slice's spare places count too). A statement '..UptoSaid' is the law's where the arguments, and the package variables that the reading takes, are together of bulk at most 1048576: NARROWER than '..Said'. Prove '..Said' where nothing that the law and all that it calls make is longer than what came in: it says more and counts as full. Else prove '..UptoSaid'. A law counts once. -/
mutual
def uptoBulk {H : Type} : DataW H → Nat
  | .lit (.string bytes) => bytes.length + 1
  | .lit _ => 1
  | .nil => 1
  | .ptr d => uptoBulk d + 1
  | .slice elems spare => uptoBulkAll elems + uptoBulkAll spare + 1
  | .agg parts => uptoBulkAll parts + 1
  | .iface _ d => uptoBulk d + 1
  | .map entries => uptoBulkEntries entries + 1
  | .held _ => 1
def uptoBulkAll {H : Type} : List (DataW H) → Nat
  | [] => 0
  | d :: r => uptoBulk d + uptoBulkAll r
def uptoBulkEntries {H : Type} : List (Lit × DataW H) → Nat
  | [] => 0
  | x :: r => uptoBulkEntry x + uptoBulkEntries r
def uptoBulkEntry {H : Type} : Lit × DataW H → Nat
  | (.string bytes, d) => bytes.length + uptoBulk d + 1
  | (_, d) => uptoBulk d + 1
 end
def uptoSmall : (H : Type) → List (DataW H) → Bool := fun _ ds => decide (uptoBulkAll ds ≤ 1048576)
def OpenSpec.upto (s : _root_.Go.ChangeSpec) : _root_.Go.OpenSpec := { _root_.Go.OpenSpec.ofChange s with cond := some uptoSmall }

/-- 'laws.FnExactAreIndependent', WHERE WHAT IT READS IS OF BULK AT MOST 1048576: true; the input reads as it did. -/
def fnExactAreIndependentUptoRow : OpenClaim := { program := "ytcbfpeplcbgpjaa", sum := "429a98d4a4c98f14de148ea49d6a321afb563e5dd1f554656a99c61704a0fa38", func := "loop.example/g00862/laws.FnExactAreIndependent", spec := "fnExactAreIndependent", unfollowed := true, recurses := true, apart := false, narrowed := true }
def FnExactAreIndependentUptoSaid : Prop := fnExactAreIndependentUptoRow.holds Try.pinned (OpenSpec.upto fnExactAreIndependentSpec)

/-- 'laws.FnExactExcitationComponents', WHERE WHAT IT READS IS OF BULK AT MOST 1048576: true; the input reads as it did. -/
def fnExactExcitationComponentsUptoRow : OpenClaim := { program := "ytcbfpeplcbgpjaa", sum := "429a98d4a4c98f14de148ea49d6a321afb563e5dd1f554656a99c61704a0fa38", func := "loop.example/g00862/laws.FnExactExcitationComponents", spec := "fnExactExcitationComponents", unfollowed := true, recurses := true, apart := false, narrowed := true }
def FnExactExcitationComponentsUptoSaid : Prop := fnExactExcitationComponentsUptoRow.holds Try.pinned (OpenSpec.upto fnExactExcitationComponentsSpec)

/-- 'laws.FnExactInitialUnfolding', WHERE WHAT IT READS IS OF BULK AT MOST 1048576: true; the input reads as it did. -/
def fnExactInitialUnfoldingUptoRow : OpenClaim := { program := "ytcbfpeplcbgpjaa", sum := "429a98d4a4c98f14de148ea49d6a321afb563e5dd1f554656a99c61704a0fa38", func := "loop.example/g00862/laws.FnExactInitialUnfolding", spec := "fnExactInitialUnfolding", unfollowed := true, recurses := true, apart := false, narrowed := true }
def FnExactInitialUnfoldingUptoSaid : Prop := fnExactInitialUnfoldingUptoRow.holds Try.pinned (OpenSpec.upto fnExactInitialUnfoldingSpec)

/-- 'laws.FnExactUnionSTGs', WHERE WHAT IT READS IS OF BULK AT MOST 1048576: true; the input reads as it did. -/
def fnExactUnionSTGsUptoRow : OpenClaim := { program := "ytcbfpeplcbgpjaa", sum := "429a98d4a4c98f14de148ea49d6a321afb563e5dd1f554656a99c61704a0fa38", func := "loop.example/g00862/laws.FnExactUnionSTGs", spec := "fnExactUnionSTGs", unfollowed := true, recurses := true, apart := false, narrowed := true }
def FnExactUnionSTGsUptoSaid : Prop := fnExactUnionSTGsUptoRow.holds Try.pinned (OpenSpec.upto fnExactUnionSTGsSpec)

/-- 'laws.FnExactRemovePlace', WHERE WHAT IT READS IS OF BULK AT MOST 1048576: true; the input reads as it did. -/
def fnExactRemovePlaceUptoRow : OpenClaim := { program := "ytcbfpeplcbgpjaa", sum := "429a98d4a4c98f14de148ea49d6a321afb563e5dd1f554656a99c61704a0fa38", func := "loop.example/g00862/laws.FnExactRemovePlace", spec := "fnExactRemovePlace", unfollowed := true, recurses := true, apart := false, narrowed := true }
def FnExactRemovePlaceUptoSaid : Prop := fnExactRemovePlaceUptoRow.holds Try.pinned (OpenSpec.upto fnExactRemovePlaceSpec)

/-- 'laws.FnExactLongestPath', WHERE WHAT IT READS IS OF BULK AT MOST 1048576: true; the input reads as it did. -/
def fnExactLongestPathUptoRow : OpenClaim := { program := "ytcbfpeplcbgpjaa", sum := "429a98d4a4c98f14de148ea49d6a321afb563e5dd1f554656a99c61704a0fa38", func := "loop.example/g00862/laws.FnExactLongestPath", spec := "fnExactLongestPath", unfollowed := true, recurses := true, apart := false, narrowed := true }
def FnExactLongestPathUptoSaid : Prop := fnExactLongestPathUptoRow.holds Try.pinned (OpenSpec.upto fnExactLongestPathSpec)

end Rows
end Go.Proofs.Ytcbfpeplcbgpjaa
