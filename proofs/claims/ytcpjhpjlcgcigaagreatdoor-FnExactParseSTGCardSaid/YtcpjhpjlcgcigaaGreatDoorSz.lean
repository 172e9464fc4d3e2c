/- The laws' own helpers: sz, the budget that a value takes. -/
import Derived.Test.YtcpjhpjlcgcigaaGreatDoorTypes
set_option linter.unusedSimpArgs false
set_option linter.unusedVariables false
namespace Go.Proofs.YtcpjhpjlcgcigaaGreatDoor
open Go.ChangeShapes Go.WideShapes Go.ChangeAt Go.RowKit
/-- What is left of a budget; -1 if it does not suffice. -/
def lessen (left : Int) (n : Nat) : Int := if left < n then -1 else left - n
theorem lessen_neg {left : Int} {n : Nat} (h : left < n) : lessen left n = -1 := by simp [lessen, h]
theorem lessen_pos {left : Int} {n : Nat} (h : (n : Int) ≤ left) : lessen left n = left - n := by unfold lessen; rw [if_neg (by omega)]
theorem R_len {α : Type} [Inhabited α] {T : Ty α} {w : World} {l : List α} {a : Option Addr} {n c : Nat} (h : (tSl T).R w l [.slice a n c]) : l.length ≤ 9223372036854775807 := by
  obtain ⟨h1, h2, h3, _⟩ := R_sl.1 h; omega
theorem sum_take_le (l : List Nat) (k : Nat) : (l.take k).sum ≤ l.sum := by
  have : l.sum = (l.take k).sum + (l.drop k).sum := by rw [← List.sum_append, List.take_append_drop]
  omega
theorem sum_take_succ {α : Type} [Inhabited α] (l : List α) (f : α → Nat) {k : Nat} (h : k < l.length) : ((l.take (k + 1)).map f).sum = ((l.take k).map f).sum + f (nth l k) := by
  rw [take_nth h, List.map_append, List.sum_append]; simp
theorem sum_take_map_le {α : Type} (l : List α) (f : α → Nat) (k : Nat) : ((l.take k).map f).sum ≤ (l.map f).sum := by rw [List.map_take]; exact sum_take_le _ _
end Go.Proofs.YtcpjhpjlcgcigaaGreatDoor
