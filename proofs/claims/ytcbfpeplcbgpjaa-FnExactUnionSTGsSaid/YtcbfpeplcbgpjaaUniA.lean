/- Numbers that are made greater by a number; nets in new memory. No condition. -/
import Derived.Test.YtcbfpeplcbgpjaaIf
import Derived.Test.YtcbfpeplcbgpjaaAbsY
import Derived.Test.YtcbfpeplcbgpjaaDel
import Derived.Test.YtcbfpeplcbgpjaaNum
set_option linter.unusedSimpArgs false
set_option linter.unusedVariables false
set_option maxHeartbeats 2000000
namespace Go.Proofs.Ytcbfpeplcbgpjaa
open Go.ChangeShapes Go.WideShapes Go.ChangeAt Go.RowKit

def shiftI (by_ : Int) (l : List Int) : List Int := l.map fun x => x + by_
theorem shiftI_next {by_ : Int} {l : List Int} {k : Nat} (h : k < l.length) : ints (shiftI by_ (l.take (k + 1))) = ints (shiftI by_ (l.take k)) ++ [[.lit (.int .i64 (nth l k + by_))]] := by
  rw [take_nth h]; simp [shiftI, ints]

theorem l1Shift_f (l : List Int) (by_ : Int) (hl : l.length ≤ 4000000) (h1 : ∀ x ∈ l, -1000000 ≤ x ∧ x ≤ 1000000) (h2 : -1000000 ≤ by_ ∧ by_ ≤ 1000000) : Fn Try.prog 149 [.sh 1 (ints l), .lit (.int .i64 by_)] (.own 0) [.arr 3 1 (ints (shiftI by_ l)) true] := by
  refine Fn_of Try.func149 rfl (by kernel_rfl) rfl rfl ?_
  intro w0 A hin
  have hz := len_ints l
  repeat' (first | refine goZ ?_ | ((first | refine R_cond rfl (fun hq => ?_) fun hq => ?_ | refine R_guardT rfl rfl rfl (fun hq => ?_) fun hq => ?_ | refine R_guardF rfl rfl rfl (fun hq => ?_) fun hq => ?_ | refine D_guardT rfl rfl rfl (fun hq => ?_) fun hq => ?_ | refine D_guardF rfl rfl rfl (fun hq => ?_) fun hq => ?_) <;> (try rw [hq]) <;> first | have hp := of_decide_eq_true hq | have hp := of_decide_eq_false hq | have hp := of_decide_eq_false (not_t hq) | have hp := of_decide_eq_true (not_f hq) | have hp := hq))
  refine W_open 5 3 1 rfl ?_
  refine W_loop (fun k : Nat => ⟨_, [(1, .lit (.int .i64 by_)), (5, .own 0), (8, .sh 1 (ints l)), (9, .lit (.int .i64 l.length)), (10, .lit (.int .i64 k))], [.arr 3 1 (ints (shiftI by_ (l.take k))) true]⟩) (fun k => k ≤ l.length) (fun k => l.length - k) 0 (Nat.zero_le _) (weakZ []) ?_
  intro k hk
  have hb : k < l.length → -1000000 ≤ nth l k ∧ nth l k ≤ 1000000 := fun h => h1 _ (nth_mem h)
  have hl2 : (shiftI by_ (l.take k)).length ≤ k := by simp [shiftI]; omega
  repeat' (first | refine goZ ?_ | ((first | refine R_cond rfl (fun hq => ?_) fun hq => ?_ | refine R_guardT rfl rfl rfl (fun hq => ?_) fun hq => ?_ | refine R_guardF rfl rfl rfl (fun hq => ?_) fun hq => ?_ | refine D_guardT rfl rfl rfl (fun hq => ?_) fun hq => ?_ | refine D_guardF rfl rfl rfl (fun hq => ?_) fun hq => ?_) <;> (try rw [hq]) <;> first | have hp := of_decide_eq_true hq | have hp := of_decide_eq_false hq | have hp := of_decide_eq_false (not_t hq) | have hp := of_decide_eq_true (not_f hq) | have hp := hq))
  · refine ⟨k + 1, by omega, by omega, ?_⟩
    rw [shiftI_next (by omega)]
    exact weakZ _
  · exact ret_own rfl rfl (by rw [List.take_of_length_le (by omega)])

theorem moved_f (l : List Int) (by_ : Int) (hl : l.length ≤ 4000000) (h1 : ∀ x ∈ l, -1000000 ≤ x ∧ x ≤ 1000000) (h2 : -1000000 ≤ by_ ∧ by_ ≤ 1000000) : Fn Try.prog 157 [.sh 1 (ints l), .lit (.int .i64 by_)] (.own 0) [.arr 3 1 (ints (shiftI by_ l)) true] := by
  refine Fn_of Try.func157 rfl (by kernel_rfl) rfl rfl ?_
  intro w0 A hin
  have hz := len_ints l
  repeat' (first | refine goZ ?_ | ((first | refine R_cond rfl (fun hq => ?_) fun hq => ?_ | refine R_guardT rfl rfl rfl (fun hq => ?_) fun hq => ?_ | refine R_guardF rfl rfl rfl (fun hq => ?_) fun hq => ?_ | refine D_guardT rfl rfl rfl (fun hq => ?_) fun hq => ?_ | refine D_guardF rfl rfl rfl (fun hq => ?_) fun hq => ?_) <;> (try rw [hq]) <;> first | have hp := of_decide_eq_true hq | have hp := of_decide_eq_false hq | have hp := of_decide_eq_false (not_t hq) | have hp := of_decide_eq_true (not_f hq) | have hp := hq))
  refine W_loop (fun k : Nat => ⟨_, [(1, .lit (.int .i64 by_)), (5, .own 0), (9, .sh 1 (ints l)), (10, .lit (.int .i64 l.length)), (11, .lit (.int .i64 k))], [.arr 3 1 (ints (shiftI by_ (l.take k))) true]⟩) (fun k => k ≤ l.length) (fun k => l.length - k) 0 (Nat.zero_le _) (weakZ []) ?_
  intro k hk
  have hb : k < l.length → -1000000 ≤ nth l k ∧ nth l k ≤ 1000000 := fun h => h1 _ (nth_mem h)
  have hl2 : (shiftI by_ (l.take k)).length ≤ k := by simp [shiftI]; omega
  repeat' (first | refine goZ ?_ | ((first | refine R_cond rfl (fun hq => ?_) fun hq => ?_ | refine R_guardT rfl rfl rfl (fun hq => ?_) fun hq => ?_ | refine R_guardF rfl rfl rfl (fun hq => ?_) fun hq => ?_ | refine D_guardT rfl rfl rfl (fun hq => ?_) fun hq => ?_ | refine D_guardF rfl rfl rfl (fun hq => ?_) fun hq => ?_) <;> (try rw [hq]) <;> first | have hp := of_decide_eq_true hq | have hp := of_decide_eq_false hq | have hp := of_decide_eq_false (not_t hq) | have hp := of_decide_eq_true (not_f hq) | have hp := hq))
  · refine ⟨k + 1, by omega, by omega, ?_⟩
    rw [shiftI_next (by omega)]
    exact weakZ _
  · exact ret_own rfl rfl (by rw [List.take_of_length_le (by omega)])
end Go.Proofs.Ytcbfpeplcbgpjaa
