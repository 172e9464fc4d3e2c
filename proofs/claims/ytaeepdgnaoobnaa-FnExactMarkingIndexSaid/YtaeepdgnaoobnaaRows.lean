/-
  No cell of these rows narrows 'for every input' (looked for: loops, veiled, ifaces, maps, wideKeys, modest, calm, conditions, laid).
  DERIVED. THE GIVEN ROWS OF THIS SEAT. 6 by the template 'for every input the law returns true; each argument reads behind the call as it read before'; 0 by the template 'total and deterministic' (their statements: YtaeepdgnaoobnaaTotals.lean).
  GIVEN WITH THE SEED: the statements are not yours to turn. If you find one false, say at which input.
  Laid BY PROGRAM, IN A SANDBOX (cutbox-rows.mjs): the forced cells as the released guide's own fill.sh prints them over the translation b2a61fc937685c88… (all of the seat's roots in one cut). By AI agents, Wed Nov 11 2026. No macro, syntax, notation, axiom, sorry.
-/
import Derived.Test.YtaeepdgnaoobnaaChecked
import GoSem.Claim
import GoSem.ClaimJoined
import GoSem.ClaimMapViews
import Derived.JoinedTies
import Derived.KernelRfl
namespace Go.Proofs.Ytaeepdgnaoobnaa
/- THE CELL 'sum', in the pinned program and in every row, IS THE sha256 OF THE DUMP (.gsa) THAT YtaeepdgnaoobnaaProg.lean LOADS. Nothing in Lean hashes anything: it is a label: what it is worth is what the hold of that sum in a sandbox is worth. -/
noncomputable def Try.pinned : Pinned := { name := "ytaeepdgnaoobnaa", sum := "b2a61fc937685c88eaac3f7e8efc7722c00bbf29f10589608df3905243f68f71", checked := Try.checked }
namespace Rows
def none {H : Type} : Left H := { results := [], args := [] }

/-- 'laws.FnExactConstants': WHATEVER THE INPUT: true; the input reads as it did. -/
def fnExactConstantsSpec : ChangeSpec := { name := "fnExactConstants", fn := fun _ => fun
  | [] => { results := [.lit (.bool true)], args := [] }
  | _ => none }
def fnExactConstantsRow : OpenClaim := { program := "ytaeepdgnaoobnaa", sum := "b2a61fc937685c88eaac3f7e8efc7722c00bbf29f10589608df3905243f68f71", func := "loop.example/g00862/laws.FnExactConstants", spec := "fnExactConstants", apart := false }
def FnExactConstantsSaid : Prop := fnExactConstantsRow.holds Try.pinned (OpenSpec.ofChange fnExactConstantsSpec)

/-- ITS FALSE NEIGHBOUR: 'it returns false'. Refute it at one input. -/
def fnExactConstantsWrong : ChangeSpec := { name := "fnExactConstants", fn := fun _ => fun
  | [] => { results := [.lit (.bool false)], args := [] }
  | _ => none }
def FnExactConstantsWrongFalsely : Prop := fnExactConstantsRow.holds Try.pinned (OpenSpec.ofChange fnExactConstantsWrong)

/-- 'laws.FnExactIsValidNet': WHATEVER THE INPUT: true; the input reads as it did. -/
def fnExactIsValidNetSpec : ChangeSpec := { name := "fnExactIsValidNet", fn := fun _ => fun
  | [d] => { results := [.lit (.bool true)], args := [d] }
  | _ => none }
def fnExactIsValidNetRow : OpenClaim := { program := "ytaeepdgnaoobnaa", sum := "b2a61fc937685c88eaac3f7e8efc7722c00bbf29f10589608df3905243f68f71", func := "loop.example/g00862/laws.FnExactIsValidNet", spec := "fnExactIsValidNet", unfollowed := true, recurses := true, apart := false }
def FnExactIsValidNetSaid : Prop := fnExactIsValidNetRow.holds Try.pinned (OpenSpec.ofChange fnExactIsValidNetSpec)

/-- ITS FALSE NEIGHBOUR: 'it returns false'. Refute it at one input. -/
def fnExactIsValidNetWrong : ChangeSpec := { name := "fnExactIsValidNet", fn := fun _ => fun
  | [d] => { results := [.lit (.bool false)], args := [d] }
  | _ => none }
def FnExactIsValidNetWrongFalsely : Prop := fnExactIsValidNetRow.holds Try.pinned (OpenSpec.ofChange fnExactIsValidNetWrong)

/-- 'laws.FnExactMarkingIndex': WHATEVER THE INPUT: true; the input reads as it did. -/
def fnExactMarkingIndexSpec : ChangeSpec := { name := "fnExactMarkingIndex", fn := fun _ => fun
  | [d1, d2] => { results := [.lit (.bool true)], args := [d1, d2] }
  | _ => none }
def fnExactMarkingIndexRow : OpenClaim := { program := "ytaeepdgnaoobnaa", sum := "b2a61fc937685c88eaac3f7e8efc7722c00bbf29f10589608df3905243f68f71", func := "loop.example/g00862/laws.FnExactMarkingIndex", spec := "fnExactMarkingIndex", apart := false }
def FnExactMarkingIndexSaid : Prop := fnExactMarkingIndexRow.holds Try.pinned (OpenSpec.ofChange fnExactMarkingIndexSpec)

/-- ITS FALSE NEIGHBOUR: 'it returns false'. Refute it at one input. -/
def fnExactMarkingIndexWrong : ChangeSpec := { name := "fnExactMarkingIndex", fn := fun _ => fun
  | [d1, d2] => { results := [.lit (.bool false)], args := [d1, d2] }
  | _ => none }
def FnExactMarkingIndexWrongFalsely : Prop := fnExactMarkingIndexRow.holds Try.pinned (OpenSpec.ofChange fnExactMarkingIndexWrong)

/-- 'laws.FnExactIsValidMarking': WHATEVER THE INPUT: true; the input reads as it did. -/
def fnExactIsValidMarkingSpec : ChangeSpec := { name := "fnExactIsValidMarking", fn := fun _ => fun
  | [d1, d2] => { results := [.lit (.bool true)], args := [d1, d2] }
  | _ => none }
def fnExactIsValidMarkingRow : OpenClaim := { program := "ytaeepdgnaoobnaa", sum := "b2a61fc937685c88eaac3f7e8efc7722c00bbf29f10589608df3905243f68f71", func := "loop.example/g00862/laws.FnExactIsValidMarking", spec := "fnExactIsValidMarking", unfollowed := true, recurses := true, apart := false }
def FnExactIsValidMarkingSaid : Prop := fnExactIsValidMarkingRow.holds Try.pinned (OpenSpec.ofChange fnExactIsValidMarkingSpec)

/-- ITS FALSE NEIGHBOUR: 'it returns false'. Refute it at one input. -/
def fnExactIsValidMarkingWrong : ChangeSpec := { name := "fnExactIsValidMarking", fn := fun _ => fun
  | [d1, d2] => { results := [.lit (.bool false)], args := [d1, d2] }
  | _ => none }
def FnExactIsValidMarkingWrongFalsely : Prop := fnExactIsValidMarkingRow.holds Try.pinned (OpenSpec.ofChange fnExactIsValidMarkingWrong)

/-- 'laws.FnExactCountPaths': WHATEVER THE INPUT: true; the input reads as it did. -/
def fnExactCountPathsSpec : ChangeSpec := { name := "fnExactCountPaths", fn := fun _ => fun
  | [d1, d2] => { results := [.lit (.bool true)], args := [d1, d2] }
  | _ => none }
def fnExactCountPathsRow : OpenClaim := { program := "ytaeepdgnaoobnaa", sum := "b2a61fc937685c88eaac3f7e8efc7722c00bbf29f10589608df3905243f68f71", func := "loop.example/g00862/laws.FnExactCountPaths", spec := "fnExactCountPaths", apart := false }
def FnExactCountPathsSaid : Prop := fnExactCountPathsRow.holds Try.pinned (OpenSpec.ofChange fnExactCountPathsSpec)

/-- ITS FALSE NEIGHBOUR: 'it returns false'. Refute it at one input. -/
def fnExactCountPathsWrong : ChangeSpec := { name := "fnExactCountPaths", fn := fun _ => fun
  | [d1, d2] => { results := [.lit (.bool false)], args := [d1, d2] }
  | _ => none }
def FnExactCountPathsWrongFalsely : Prop := fnExactCountPathsRow.holds Try.pinned (OpenSpec.ofChange fnExactCountPathsWrong)

/-- 'laws.FnExactEqualStateGraph': WHATEVER THE INPUT: true; the input reads as it did. -/
def fnExactEqualStateGraphSpec : ChangeSpec := { name := "fnExactEqualStateGraph", fn := fun _ => fun
  | [d1, d2] => { results := [.lit (.bool true)], args := [d1, d2] }
  | _ => none }
def fnExactEqualStateGraphRow : OpenClaim := { program := "ytaeepdgnaoobnaa", sum := "b2a61fc937685c88eaac3f7e8efc7722c00bbf29f10589608df3905243f68f71", func := "loop.example/g00862/laws.FnExactEqualStateGraph", spec := "fnExactEqualStateGraph", apart := false }
def FnExactEqualStateGraphSaid : Prop := fnExactEqualStateGraphRow.holds Try.pinned (OpenSpec.ofChange fnExactEqualStateGraphSpec)

/-- ITS FALSE NEIGHBOUR: 'it returns false'. Refute it at one input. -/
def fnExactEqualStateGraphWrong : ChangeSpec := { name := "fnExactEqualStateGraph", fn := fun _ => fun
  | [d1, d2] => { results := [.lit (.bool false)], args := [d1, d2] }
  | _ => none }
def FnExactEqualStateGraphWrongFalsely : Prop := fnExactEqualStateGraphRow.holds Try.pinned (OpenSpec.ofChange fnExactEqualStateGraphWrong)

/- THE SECOND FORM. 'bulk': how many values and letters a reading holds, each counted each time it is reached (what is shared counts as often as it is met; a slice's spare places count too). A statement '..UptoSaid' is the law's where the arguments, and the package variables that the reading takes, are together of bulk at most 1048576: NARROWER than '..Said'. Prove '..Said' where nothing that the law and all that it calls make is longer than what came in: it says more and counts as full. Else prove '..UptoSaid'. A law counts once. -/
mutual
def uptoBulk {H : Type} : DataW H → Nat
  | .lit (.string bytes) => bytes.length + 1
  | .lit _ => 1
  | .nil => 1
  | .ptr d => uptoBulk d + 1
  | .slice elems spare => uptoBulkAll elems + uptoBulkAll spare + 1
  | .agg parts => uptoBulkAll parts + 1
  | .iface _ d => uptoBulk d + 1
  | .map entries => uptoBulkEntries entries + 1
  | .held _ => 1
def uptoBulkAll {H : Type} : List (DataW H) → Nat
  | [] => 0
  | d :: r => uptoBulk d + uptoBulkAll r
def uptoBulkEntries {H : Type} : List (Lit × DataW H) → Nat
  | [] => 0
  | x :: r => uptoBulkEntry x + uptoBulkEntries r
def uptoBulkEntry {H : Type} : Lit × DataW H → Nat
  | (.string bytes, d) => bytes.length + uptoBulk d + 1
  | (_, d) => uptoBulk d + 1
 end
def uptoSmall : (H : Type) → List (DataW H) → Bool := fun _ ds => decide (uptoBulkAll ds ≤ 1048576)
def OpenSpec.upto (s : _root_.Go.ChangeSpec) : _root_.Go.OpenSpec := { _root_.Go.OpenSpec.ofChange s with cond := some uptoSmall }

/-- 'laws.FnExactConstants', WHERE WHAT IT READS IS OF BULK AT MOST 1048576: true; the input reads as it did. -/
def fnExactConstantsUptoRow : OpenClaim := { program := "ytaeepdgnaoobnaa", sum := "b2a61fc937685c88eaac3f7e8efc7722c00bbf29f10589608df3905243f68f71", func := "loop.example/g00862/laws.FnExactConstants", spec := "fnExactConstants", apart := false, narrowed := true }
def FnExactConstantsUptoSaid : Prop := fnExactConstantsUptoRow.holds Try.pinned (OpenSpec.upto fnExactConstantsSpec)

/-- 'laws.FnExactIsValidNet', WHERE WHAT IT READS IS OF BULK AT MOST 1048576: true; the input reads as it did. -/
def fnExactIsValidNetUptoRow : OpenClaim := { program := "ytaeepdgnaoobnaa", sum := "b2a61fc937685c88eaac3f7e8efc7722c00bbf29f10589608df3905243f68f71", func := "loop.example/g00862/laws.FnExactIsValidNet", spec := "fnExactIsValidNet", unfollowed := true, recurses := true, apart := false, narrowed := true }
def FnExactIsValidNetUptoSaid : Prop := fnExactIsValidNetUptoRow.holds Try.pinned (OpenSpec.upto fnExactIsValidNetSpec)

/-- 'laws.FnExactMarkingIndex', WHERE WHAT IT READS IS OF BULK AT MOST 1048576: true; the input reads as it did. -/
def fnExactMarkingIndexUptoRow : OpenClaim := { program := "ytaeepdgnaoobnaa", sum := "b2a61fc937685c88eaac3f7e8efc7722c00bbf29f10589608df3905243f68f71", func := "loop.example/g00862/laws.FnExactMarkingIndex", spec := "fnExactMarkingIndex", apart := false, narrowed := true }
def FnExactMarkingIndexUptoSaid : Prop := fnExactMarkingIndexUptoRow.holds Try.pinned (OpenSpec.upto fnExactMarkingIndexSpec)

/-- 'laws.FnExactIsValidMarking', WHERE WHAT IT READS IS OF BULK AT MOST 1048576: true; the input reads as it did. -/
def fnExactIsValidMarkingUptoRow : OpenClaim := { program := "ytaeepdgnaoobnaa", sum := "b2a61fc937685c88eaac3f7e8efc7722c00bbf29f10589608df3905243f68f71", func := "loop.example/g00862/laws.FnExactIsValidMarking", spec := "fnExactIsValidMarking", unfollowed := true, recurses := true, apart := false, narrowed := true }
def FnExactIsValidMarkingUptoSaid : Prop := fnExactIsValidMarkingUptoRow.holds Try.pinned (OpenSpec.upto fnExactIsValidMarkingSpec)

/-- 'laws.FnExactCountPaths', WHERE WHAT IT READS IS OF BULK AT MOST 1048576: true; the input reads as it did. -/
def fnExactCountPathsUptoRow : OpenClaim := { program := "ytaeepdgnaoobnaa", sum := "b2a61fc937685c88eaac3f7e8efc7722c00bbf29f10589608df3905243f68f71", func := "loop.example/g00862/laws.FnExactCountPaths", spec := "fnExactCountPaths", apart := false, narrowed := true }
def FnExactCountPathsUptoSaid : Prop := fnExactCountPathsUptoRow.holds Try.pinned (OpenSpec.upto fnExactCountPathsSpec)

/-- 'laws.FnExactEqualStateGraph', WHERE WHAT IT READS IS OF BULK AT MOST 1048576: true; the input reads as it did. -/
def fnExactEqualStateGraphUptoRow : OpenClaim := { program := "ytaeepdgnaoobnaa", sum := "b2a61fc937685c88eaac3f7e8efc7722c00bbf29f10589608df3905243f68f71", func := "loop.example/g00862/laws.FnExactEqualStateGraph", spec := "fnExactEqualStateGraph", apart := false, narrowed := true }
def FnExactEqualStateGraphUptoSaid : Prop := fnExactEqualStateGraphUptoRow.holds Try.pinned (OpenSpec.upto fnExactEqualStateGraphSpec)

end Rows
end Go.Proofs.Ytaeepdgnaoobnaa
