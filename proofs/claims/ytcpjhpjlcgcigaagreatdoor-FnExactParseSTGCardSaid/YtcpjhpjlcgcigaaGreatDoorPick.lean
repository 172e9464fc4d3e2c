/- The numbers that a test takes, in order. No condition. -/
import Derived.Test.YtcpjhpjlcgcigaaGreatDoorAbsS
set_option linter.unusedSimpArgs false
set_option linter.unusedVariables false
namespace Go.Proofs.YtcpjhpjlcgcigaaGreatDoor
open Go.ChangeShapes Go.WideShapes Go.ChangeAt Go.RowKit

/-- The numbers below k that p takes, in order. -/
def pickN (p : Nat → Bool) (k : Nat) : List Int := ((List.range k).filter p).map fun i : Nat => (i : Int)
theorem pickN_zero (p : Nat → Bool) : pickN p 0 = [] := rfl
theorem pickN_yes {p : Nat → Bool} {k : Nat} (h : p k = true) : pickN p (k + 1) = pickN p k ++ [(k : Int)] := by
  simp [pickN, List.range_succ, List.filter_append, h]
theorem pickN_no {p : Nat → Bool} {k : Nat} (h : p k = false) : pickN p (k + 1) = pickN p k := by
  simp [pickN, List.range_succ, List.filter_append, h]
theorem pickN_len (p : Nat → Bool) (k : Nat) : (pickN p k).length ≤ k := by
  have := List.length_filter_le p (List.range k)
  simpa [pickN] using this

theorem ints_snoc (l : List Int) (x : Int) : ints (l ++ [x]) = ints l ++ [[.lit (.int .i64 x)]] := by simp [ints]
/-- What a list's part that a test takes gains by one element more. -/
theorem fil_yes {α : Type} [Inhabited α] {l : List α} {p : α → Bool} {k : Nat} (hk : k < l.length) (h : p (nth l k) = true) : (l.take (k + 1)).filter p = (l.take k).filter p ++ [nth l k] := by
  rw [take_nth hk, List.filter_append]; simp [h]
theorem fil_no {α : Type} [Inhabited α] {l : List α} {p : α → Bool} {k : Nat} (hk : k < l.length) (h : p (nth l k) = false) : (l.take (k + 1)).filter p = (l.take k).filter p := by
  rw [take_nth hk, List.filter_append]; simp [h]
theorem fil_all {α : Type} {l : List α} {p : α → Bool} {k : Nat} (hk : ¬ k < l.length) : (l.take k).filter p = l.filter p := by
  rw [List.take_of_length_le (by omega)]
theorem fil_len {α : Type} {l : List α} {p : α → Bool} {k : Nat} : ((l.take k).filter p).length ≤ l.length :=
  Nat.le_trans (List.length_filter_le _ _) (by simp; omega)
theorem map_snoc {α β : Type} (f : α → β) (l : List α) (x : α) : (l ++ [x]).map f = l.map f ++ [f x] := by simp

end Go.Proofs.YtcpjhpjlcgcigaaGreatDoor
