/- The laws' own helpers: to, a value in memory of its own. -/
import Derived.Test.YtcpjhpjlcgcigaaGreatDoorSz
set_option linter.unusedSimpArgs false
set_option linter.unusedVariables false
namespace Go.Proofs.YtcpjhpjlcgcigaaGreatDoor
open Go.ChangeShapes Go.WideShapes Go.ChangeAt Go.RowKit
theorem sum_nth_le {α : Type} [Inhabited α] (l : List α) (f : α → Nat) {k : Nat} (h : k < l.length) : f (nth l k) ≤ (l.map f).sum := by
  have h1 := sum_take_succ l f h
  have h2 := sum_take_map_le l f (k + 1)
  omega
end Go.Proofs.YtcpjhpjlcgcigaaGreatDoor
