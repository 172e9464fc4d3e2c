/-
  No cell of these rows narrows 'for every input' (looked for: loops, veiled, ifaces, maps, wideKeys, modest, calm, conditions, laid).
  DERIVED. THE GIVEN ROWS OF THIS SEAT. 5 by the template 'for every input the law returns true; each argument reads behind the call as it read before'; 0 by the template 'total and deterministic' (their statements: YtcmedjlpaondjaaTotals.lean).
  GIVEN WITH THE SEED: the statements are not yours to turn. If you find one false, say at which input.
  Laid BY PROGRAM, IN A SANDBOX (cutbox-rows.mjs): the forced cells as the released guide's own fill.sh prints them over the translation 93f0717f630b11bf… (all of the seat's roots in one cut). By AI agents, Wed Nov 11 2026. No macro, syntax, notation, axiom, sorry.
-/
import Derived.Test.YtcmedjlpaondjaaChecked
import GoSem.Claim
import GoSem.ClaimJoined
import GoSem.ClaimMapViews
import Derived.JoinedTies
import Derived.KernelRfl
namespace Go.Proofs.Ytcmedjlpaondjaa
/- THE CELL 'sum', in the pinned program and in every row, IS THE sha256 OF THE DUMP (.gsa) THAT YtcmedjlpaondjaaProg.lean LOADS. Nothing in Lean hashes anything: it is a label: what it is worth is what the hold of that sum in a sandbox is worth. -/
noncomputable def Try.pinned : Pinned := { name := "ytcmedjlpaondjaa", sum := "93f0717f630b11bfb25dcea2a47eb8457d63fb6ac6a36de88ea9560179bf4aad", checked := Try.checked }
namespace Rows
def none {H : Type} : Left H := { results := [], args := [] }

/-- 'laws.FnExactViolationTrace': WHATEVER THE INPUT: true; the input reads as it did. -/
def fnExactViolationTraceSpec : ChangeSpec := { name := "fnExactViolationTrace", fn := fun _ => fun
  | [d1, d2] => { results := [.lit (.bool true)], args := [d1, d2] }
  | _ => none }
def fnExactViolationTraceRow : OpenClaim := { program := "ytcmedjlpaondjaa", sum := "93f0717f630b11bfb25dcea2a47eb8457d63fb6ac6a36de88ea9560179bf4aad", func := "loop.example/g00862/laws.FnExactViolationTrace", spec := "fnExactViolationTrace", inPlace := ["internal/abi.NoEscape", "internal/bytealg.MakeNoZero"], unfollowed := true, recurses := true, apart := false }
def FnExactViolationTraceSaid : Prop := fnExactViolationTraceRow.holds Try.pinned (OpenSpec.ofChange fnExactViolationTraceSpec)

/-- ITS FALSE NEIGHBOUR: 'it returns false'. Refute it at one input. -/
def fnExactViolationTraceWrong : ChangeSpec := { name := "fnExactViolationTrace", fn := fun _ => fun
  | [d1, d2] => { results := [.lit (.bool false)], args := [d1, d2] }
  | _ => none }
def FnExactViolationTraceWrongFalsely : Prop := fnExactViolationTraceRow.holds Try.pinned (OpenSpec.ofChange fnExactViolationTraceWrong)

/-- 'laws.FnExactLongestPath': WHATEVER THE INPUT: true; the input reads as it did. -/
def fnExactLongestPathSpec : ChangeSpec := { name := "fnExactLongestPath", fn := fun _ => fun
  | [d1, d2] => { results := [.lit (.bool true)], args := [d1, d2] }
  | _ => none }
def fnExactLongestPathRow : OpenClaim := { program := "ytcmedjlpaondjaa", sum := "93f0717f630b11bfb25dcea2a47eb8457d63fb6ac6a36de88ea9560179bf4aad", func := "loop.example/g00862/laws.FnExactLongestPath", spec := "fnExactLongestPath", unfollowed := true, recurses := true, apart := false }
def FnExactLongestPathSaid : Prop := fnExactLongestPathRow.holds Try.pinned (OpenSpec.ofChange fnExactLongestPathSpec)

/-- ITS FALSE NEIGHBOUR: 'it returns false'. Refute it at one input. -/
def fnExactLongestPathWrong : ChangeSpec := { name := "fnExactLongestPath", fn := fun _ => fun
  | [d1, d2] => { results := [.lit (.bool false)], args := [d1, d2] }
  | _ => none }
def FnExactLongestPathWrongFalsely : Prop := fnExactLongestPathRow.holds Try.pinned (OpenSpec.ofChange fnExactLongestPathWrong)

/-- 'laws.FnExactEntryLabels': WHATEVER THE INPUT: true; the input reads as it did. -/
def fnExactEntryLabelsSpec : ChangeSpec := { name := "fnExactEntryLabels", fn := fun _ => fun
  | [d1, d2] => { results := [.lit (.bool true)], args := [d1, d2] }
  | _ => none }
def fnExactEntryLabelsRow : OpenClaim := { program := "ytcmedjlpaondjaa", sum := "93f0717f630b11bfb25dcea2a47eb8457d63fb6ac6a36de88ea9560179bf4aad", func := "loop.example/g00862/laws.FnExactEntryLabels", spec := "fnExactEntryLabels", unfollowed := true, recurses := true, apart := false }
def FnExactEntryLabelsSaid : Prop := fnExactEntryLabelsRow.holds Try.pinned (OpenSpec.ofChange fnExactEntryLabelsSpec)

/-- ITS FALSE NEIGHBOUR: 'it returns false'. Refute it at one input. -/
def fnExactEntryLabelsWrong : ChangeSpec := { name := "fnExactEntryLabels", fn := fun _ => fun
  | [d1, d2] => { results := [.lit (.bool false)], args := [d1, d2] }
  | _ => none }
def FnExactEntryLabelsWrongFalsely : Prop := fnExactEntryLabelsRow.holds Try.pinned (OpenSpec.ofChange fnExactEntryLabelsWrong)

/-- 'laws.FnExactExitLabels': WHATEVER THE INPUT: true; the input reads as it did. -/
def fnExactExitLabelsSpec : ChangeSpec := { name := "fnExactExitLabels", fn := fun _ => fun
  | [d1, d2] => { results := [.lit (.bool true)], args := [d1, d2] }
  | _ => none }
def fnExactExitLabelsRow : OpenClaim := { program := "ytcmedjlpaondjaa", sum := "93f0717f630b11bfb25dcea2a47eb8457d63fb6ac6a36de88ea9560179bf4aad", func := "loop.example/g00862/laws.FnExactExitLabels", spec := "fnExactExitLabels", unfollowed := true, recurses := true, apart := false }
def FnExactExitLabelsSaid : Prop := fnExactExitLabelsRow.holds Try.pinned (OpenSpec.ofChange fnExactExitLabelsSpec)

/-- ITS FALSE NEIGHBOUR: 'it returns false'. Refute it at one input. -/
def fnExactExitLabelsWrong : ChangeSpec := { name := "fnExactExitLabels", fn := fun _ => fun
  | [d1, d2] => { results := [.lit (.bool false)], args := [d1, d2] }
  | _ => none }
def FnExactExitLabelsWrongFalsely : Prop := fnExactExitLabelsRow.holds Try.pinned (OpenSpec.ofChange fnExactExitLabelsWrong)

/-- 'laws.FnExactExcitationComponents': WHATEVER THE INPUT: true; the input reads as it did. -/
def fnExactExcitationComponentsSpec : ChangeSpec := { name := "fnExactExcitationComponents", fn := fun _ => fun
  | [d1, d2, d3] => { results := [.lit (.bool true)], args := [d1, d2, d3] }
  | _ => none }
def fnExactExcitationComponentsRow : OpenClaim := { program := "ytcmedjlpaondjaa", sum := "93f0717f630b11bfb25dcea2a47eb8457d63fb6ac6a36de88ea9560179bf4aad", func := "loop.example/g00862/laws.FnExactExcitationComponents", spec := "fnExactExcitationComponents", unfollowed := true, recurses := true, apart := false }
def FnExactExcitationComponentsSaid : Prop := fnExactExcitationComponentsRow.holds Try.pinned (OpenSpec.ofChange fnExactExcitationComponentsSpec)

/-- ITS FALSE NEIGHBOUR: 'it returns false'. Refute it at one input. -/
def fnExactExcitationComponentsWrong : ChangeSpec := { name := "fnExactExcitationComponents", fn := fun _ => fun
  | [d1, d2, d3] => { results := [.lit (.bool false)], args := [d1, d2, d3] }
  | _ => none }
def FnExactExcitationComponentsWrongFalsely : Prop := fnExactExcitationComponentsRow.holds Try.pinned (OpenSpec.ofChange fnExactExcitationComponentsWrong)

/- THE SECOND FORM. 'bulk': how many values and letters a reading holds, each counted each time it is reached (what is shared counts as often as it is met; a slice's spare places count too). A statement '..UptoSaid' is the law's where the arguments, and the package variables that the reading takes, are together of bulk at most 1048576: NARROWER than '..Said'. Prove '..Said' where nothing that the law and all that it calls make is longer than what came in: it says more and counts as full. Else prove '..UptoSaid'. A law counts once. -/
mutual
def uptoBulk {H : Type} : DataW H → Nat
  | .lit (.string bytes) => bytes.length + 1
  | .lit _ => 1
  | .nil => 1
  | .ptr d => uptoBulk d + 1
  | .slice elems spare => uptoBulkAll elems + uptoBulkAll spare + 1
  | .agg parts => uptoBulkAll parts + 1
  | .iface _ d => uptoBulk d + 1
  | .map entries => uptoBulkEntries entries + 1
  | .held _ => 1
def uptoBulkAll {H : Type} : List (DataW H) → Nat
  | [] => 0
  | d :: r => uptoBulk d + uptoBulkAll r
def uptoBulkEntries {H : Type} : List (Lit × DataW H) → Nat
  | [] => 0
  | x :: r => uptoBulkEntry x + uptoBulkEntries r
def uptoBulkEntry {H : Type} : Lit × DataW H → Nat
  | (.string bytes, d) => bytes.length + uptoBulk d + 1
  | (_, d) => uptoBulk d + 1
 end
def uptoSmall : (H : Type) → List (DataW H) → Bool := fun _ ds => decide (uptoBulkAll ds ≤ 1048576)
def OpenSpec.upto (s : _root_.Go.ChangeSpec) : _root_.Go.OpenSpec := { _root_.Go.OpenSpec.ofChange s with cond := some uptoSmall }

/-- 'laws.FnExactViolationTrace', WHERE WHAT IT READS IS OF BULK AT MOST 1048576: true; the input reads as it did. -/
def fnExactViolationTraceUptoRow : OpenClaim := { program := "ytcmedjlpaondjaa", sum := "93f0717f630b11bfb25dcea2a47eb8457d63fb6ac6a36de88ea9560179bf4aad", func := "loop.example/g00862/laws.FnExactViolationTrace", spec := "fnExactViolationTrace", inPlace := ["internal/abi.NoEscape", "internal/bytealg.MakeNoZero"], unfollowed := true, recurses := true, apart := false, narrowed := true }
def FnExactViolationTraceUptoSaid : Prop := fnExactViolationTraceUptoRow.holds Try.pinned (OpenSpec.upto fnExactViolationTraceSpec)

/-- 'laws.FnExactLongestPath', WHERE WHAT IT READS IS OF BULK AT MOST 1048576: true; the input reads as it did. -/
def fnExactLongestPathUptoRow : OpenClaim := { program := "ytcmedjlpaondjaa", sum := "93f0717f630b11bfb25dcea2a47eb8457d63fb6ac6a36de88ea9560179bf4aad", func := "loop.example/g00862/laws.FnExactLongestPath", spec := "fnExactLongestPath", unfollowed := true, recurses := true, apart := false, narrowed := true }
def FnExactLongestPathUptoSaid : Prop := fnExactLongestPathUptoRow.holds Try.pinned (OpenSpec.upto fnExactLongestPathSpec)

/-- 'laws.FnExactEntryLabels', WHERE WHAT IT READS IS OF BULK AT MOST 1048576: true; the input reads as it did. -/
def fnExactEntryLabelsUptoRow : OpenClaim := { program := "ytcmedjlpaondjaa", sum := "93f0717f630b11bfb25dcea2a47eb8457d63fb6ac6a36de88ea9560179bf4aad", func := "loop.example/g00862/laws.FnExactEntryLabels", spec := "fnExactEntryLabels", unfollowed := true, recurses := true, apart := false, narrowed := true }
def FnExactEntryLabelsUptoSaid : Prop := fnExactEntryLabelsUptoRow.holds Try.pinned (OpenSpec.upto fnExactEntryLabelsSpec)

/-- 'laws.FnExactExitLabels', WHERE WHAT IT READS IS OF BULK AT MOST 1048576: true; the input reads as it did. -/
def fnExactExitLabelsUptoRow : OpenClaim := { program := "ytcmedjlpaondjaa", sum := "93f0717f630b11bfb25dcea2a47eb8457d63fb6ac6a36de88ea9560179bf4aad", func := "loop.example/g00862/laws.FnExactExitLabels", spec := "fnExactExitLabels", unfollowed := true, recurses := true, apart := false, narrowed := true }
def FnExactExitLabelsUptoSaid : Prop := fnExactExitLabelsUptoRow.holds Try.pinned (OpenSpec.upto fnExactExitLabelsSpec)

/-- 'laws.FnExactExcitationComponents', WHERE WHAT IT READS IS OF BULK AT MOST 1048576: true; the input reads as it did. -/
def fnExactExcitationComponentsUptoRow : OpenClaim := { program := "ytcmedjlpaondjaa", sum := "93f0717f630b11bfb25dcea2a47eb8457d63fb6ac6a36de88ea9560179bf4aad", func := "loop.example/g00862/laws.FnExactExcitationComponents", spec := "fnExactExcitationComponents", unfollowed := true, recurses := true, apart := false, narrowed := true }
def FnExactExcitationComponentsUptoSaid : Prop := fnExactExcitationComponentsUptoRow.holds Try.pinned (OpenSpec.upto fnExactExcitationComponentsSpec)

end Rows
end Go.Proofs.Ytcmedjlpaondjaa
