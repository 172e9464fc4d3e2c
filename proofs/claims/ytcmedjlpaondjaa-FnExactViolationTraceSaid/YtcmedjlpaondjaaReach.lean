/- Reachability graphs: what the reference's and the program's functions hand back. No condition. -/
import Derived.Test.YtcmedjlpaondjaaReachC
import Derived.Test.YtcmedjlpaondjaaEna
set_option linter.unusedSimpArgs false
set_option linter.unusedVariables false
namespace Go.Proofs.Ytcmedjlpaondjaa
open Go.ChangeShapes Go.WideShapes Go.ChangeAt Go.RowKit

theorem goodReach_len {r : RGraph} (h : goodReach r = true) : 1 ≤ r.marks.length ∧ r.marks.length ≤ 300 ∧ r.moves.length ≤ 4000 := by
  simp only [goodReach, Bool.and_eq_true, decide_eq_true_eq] at h; omega
theorem goodReach_mv {r : RGraph} (h : goodReach r = true) : ∀ m ∈ r.moves, (0 ≤ m.src ∧ m.src < r.marks.length) ∧ (0 ≤ m.dst ∧ m.dst < r.marks.length) ∧ 0 ≤ m.by_ ∧ m.by_ ≤ 23 := by
  intro m hm
  simp only [goodReach, Bool.and_eq_true, List.all_eq_true] at h
  have := h.2 m hm
  simp only [goodMv, Bool.and_eq_true, decide_eq_true_eq] at this
  omega

def fromK (k : Int) (m : Mv) : Bool := decide (m.src = k)
def mvB (r : RGraph) (k : Int) : Bool := goodReach r && decide (0 ≤ k ∧ k ≤ (r.marks.length : Int) - 1)
def mvL (r : RGraph) (k : Int) : List Mv := if mvB r k then r.moves.filter (fromK k) else []

def stuck (r : RGraph) (k : Nat) : Bool := !r.moves.any (fromK k)
def deadL (r : RGraph) : List Int := if goodReach r then pickN (stuck r) r.marks.length else []
theorem deadL_len (r : RGraph) : (deadL r).length ≤ 1048576 := by
  unfold deadL
  split
  · rename_i h
    have := goodReach_len h
    have := pickN_len (stuck r) r.marks.length
    omega
  · simp

end Go.Proofs.Ytcmedjlpaondjaa
