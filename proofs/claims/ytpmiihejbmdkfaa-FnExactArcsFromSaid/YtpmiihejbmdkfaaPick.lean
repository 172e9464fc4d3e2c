/- The numbers that a test takes, in order. No condition. -/
import Derived.Test.YtpmiihejbmdkfaaAbsS
set_option linter.unusedSimpArgs false
set_option linter.unusedVariables false
namespace Go.Proofs.Ytpmiihejbmdkfaa
open Go.ChangeShapes Go.WideShapes Go.ChangeAt Go.RowKit

/-- The numbers below k that p takes, in order. -/
def pickN (p : Nat → Bool) (k : Nat) : List Int := ((List.range k).filter p).map fun i : Nat => (i : Int)
theorem pickN_zero (p : Nat → Bool) : pickN p 0 = [] := rfl
theorem pickN_yes {p : Nat → Bool} {k : Nat} (h : p k = true) : pickN p (k + 1) = pickN p k ++ [(k : Int)] := by
  simp [pickN, List.range_succ, List.filter_append, h]
theorem pickN_no {p : Nat → Bool} {k : Nat} (h : p k = false) : pickN p (k + 1) = pickN p k := by
  simp [pickN, List.range_succ, List.filter_append, h]
theorem pickN_len (p : Nat → Bool) (k : Nat) : (pickN p k).length ≤ k := by
  have := List.length_filter_le p (List.range k)
  simpa [pickN] using this

theorem ints_snoc (l : List Int) (x : Int) : ints (l ++ [x]) = ints l ++ [[.lit (.int .i64 x)]] := by simp [ints]
end Go.Proofs.Ytpmiihejbmdkfaa
