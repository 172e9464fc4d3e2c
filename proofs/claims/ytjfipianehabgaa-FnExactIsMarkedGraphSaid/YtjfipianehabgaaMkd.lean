/- Marked graphs: what the reference's and the program's functions hand back. No condition. -/
import Derived.Test.YtjfipianehabgaaTop
set_option linter.unusedSimpArgs false
set_option linter.unusedVariables false
set_option maxHeartbeats 2000000
namespace Go.Proofs.Ytjfipianehabgaa
open Go.ChangeShapes Go.WideShapes Go.ChangeAt Go.RowKit

def mgP (s : Stg) (k : Nat) : Bool := decide ((useL s.net (k : Int) true).length = 1) && decide ((useL s.net (k : Int) false).length = 1)
def mgA (s : Stg) : Bool := (List.range s.net.places.toNat).all (mgP s)
def mgB (s : Stg) : Bool := goodStg s && mgA s
theorem mgA_no {s : Stg} {k : Nat} (hk : (k : Int) < s.net.places) (h : mgP s k = false) : mgA s = false :=
  List.all_eq_false.2 ⟨k, List.mem_range.2 (by omega), by rw [h]; simp⟩
theorem mgA_yes {s : Stg} {k : Nat} (hk : ¬ (k : Int) < s.net.places) (h : ∀ j, j < k → mgP s j = true) : mgA s = true :=
  List.all_eq_true.2 fun j hj => h j (by have := List.mem_range.1 hj; omega)

theorem IsMarkedGraph_f (s : Stg) (hs : s.start.size ≤ 1048576) : Fn Try.prog 18 [.agg (dStg s)] (.tup [.lit (.bool (mgB s)), .lit (.bool (goodStg s))]) [] := by
  refine Fn_of Try.func18 rfl (by kernel_rfl) rfl rfl ?_
  intro w0 A hin
  have hV := IsValidSTG_f s hs
  cases hg : goodStg s <;> rw [hg] at hV
  · repeat' (first | refine goZ ?_ | refine R_callZ rfl (hV) rfl rfl rfl ?_ | refine R_callvZ rfl (hV) rfl rfl rfl rfl ?_ | refine D_callZ rfl (hV) rfl rfl rfl ?_ | ((first | refine R_cond rfl (fun hq => ?_) fun hq => ?_ | refine R_guardT rfl rfl rfl (fun hq => ?_) fun hq => ?_ | refine R_guardF rfl rfl rfl (fun hq => ?_) fun hq => ?_ | refine D_guardT rfl rfl rfl (fun hq => ?_) fun hq => ?_ | refine D_guardF rfl rfl rfl (fun hq => ?_) fun hq => ?_) <;> (try rw [hq]) <;> first | have hp := of_decide_eq_true hq | have hp := of_decide_eq_false hq | have hp := of_decide_eq_false (not_t hq) | have hp := of_decide_eq_true (not_f hq) | have hp := hq))
    exact ret_lit2 rfl (by simp [mgB, hg]) rfl
  · have hb := goodStg_len hg
    repeat' (first | refine goZ ?_ | refine R_callZ rfl (hV) rfl rfl rfl ?_ | refine R_callvZ rfl (hV) rfl rfl rfl rfl ?_ | refine D_callZ rfl (hV) rfl rfl rfl ?_ | ((first | refine R_cond rfl (fun hq => ?_) fun hq => ?_ | refine R_guardT rfl rfl rfl (fun hq => ?_) fun hq => ?_ | refine R_guardF rfl rfl rfl (fun hq => ?_) fun hq => ?_ | refine D_guardT rfl rfl rfl (fun hq => ?_) fun hq => ?_ | refine D_guardF rfl rfl rfl (fun hq => ?_) fun hq => ?_) <;> (try rw [hq]) <;> first | have hp := of_decide_eq_true hq | have hp := of_decide_eq_false hq | have hp := of_decide_eq_false (not_t hq) | have hp := of_decide_eq_true (not_f hq) | have hp := hq))
    refine W_loop (fun k : Nat => ⟨_, [(1, .ptr 0 0), (12, .lit (.int .i64 s.net.places)), (13, .lit (.int .i64 k))], [.cells 38 (dStg s)]⟩) (fun k => (k : Int) ≤ s.net.places ∧ ∀ j, j < k → mgP s j = true) (fun k => s.net.places.toNat - k) 0 ⟨by omega, by omega⟩ (weakZ []) ?_
    rintro k ⟨hk, hj⟩
    have hz1 := len_ints (useL s.net (k : Int) false)
    have hz2 := len_ints (useL s.net (k : Int) true)
    repeat' (first | refine goZ ?_ | refine R_callZ rfl (users_f s.net k (by omega)) rfl rfl rfl ?_ | refine R_callvZ rfl (users_f s.net k (by omega)) rfl rfl rfl rfl ?_ | refine D_callZ rfl (users_f s.net k (by omega)) rfl rfl rfl ?_ | ((first | refine R_cond rfl (fun hq => ?_) fun hq => ?_ | refine R_guardT rfl rfl rfl (fun hq => ?_) fun hq => ?_ | refine R_guardF rfl rfl rfl (fun hq => ?_) fun hq => ?_ | refine D_guardT rfl rfl rfl (fun hq => ?_) fun hq => ?_ | refine D_guardF rfl rfl rfl (fun hq => ?_) fun hq => ?_) <;> (try rw [hq]) <;> first | have hp := of_decide_eq_true hq | have hp := of_decide_eq_false hq | have hp := of_decide_eq_false (not_t hq) | have hp := of_decide_eq_true (not_f hq) | have hp := hq))
    · exact ret_lit2 rfl (by rw [mgB, mgA_no (show (k : Int) < s.net.places by omega) (by rw [mgP, Bool.and_eq_false_iff, decide_eq_false_iff_not, decide_eq_false_iff_not]; omega), Bool.and_false]) rfl
    · exact ⟨k + 1, ⟨by omega, fun j hj' => by
      by_cases e : j = k
      · rw [e, mgP, Bool.and_eq_true, decide_eq_true_eq, decide_eq_true_eq]; omega
      · exact hj j (by omega)⟩, by omega, weakZ _⟩
    · exact ret_lit2 rfl (by rw [mgB, mgA_no (show (k : Int) < s.net.places by omega) (by rw [mgP, Bool.and_eq_false_iff, decide_eq_false_iff_not, decide_eq_false_iff_not]; omega), Bool.and_false]) rfl
    · exact ret_lit2 rfl (by rw [mgB, hg, mgA_yes (show ¬ (k : Int) < s.net.places by omega) hj]; rfl) rfl

theorem l3Marked_f (s : Stg) (hg : goodStg s = true) : Fn Try.prog 71 [.agg (dStg s)] (.lit (.bool (mgA s))) [] := by
  refine Fn_of Try.func71 rfl (by kernel_rfl) rfl rfl ?_
  intro w0 A hin
  have hb := goodStg_len hg
  repeat' (first | refine goZ ?_ | ((first | refine R_cond rfl (fun hq => ?_) fun hq => ?_ | refine R_guardT rfl rfl rfl (fun hq => ?_) fun hq => ?_ | refine R_guardF rfl rfl rfl (fun hq => ?_) fun hq => ?_ | refine D_guardT rfl rfl rfl (fun hq => ?_) fun hq => ?_ | refine D_guardF rfl rfl rfl (fun hq => ?_) fun hq => ?_) <;> (try rw [hq]) <;> first | have hp := of_decide_eq_true hq | have hp := of_decide_eq_false hq | have hp := of_decide_eq_false (not_t hq) | have hp := of_decide_eq_true (not_f hq) | have hp := hq))
  refine W_loop (fun k : Nat => ⟨_, [(1, .ptr 0 0), (3, .lit (.int .i64 k))], [.cells 38 (dStg s)]⟩) (fun k => (k : Int) ≤ s.net.places ∧ ∀ j, j < k → mgP s j = true) (fun k => s.net.places.toNat - k) 0 ⟨by omega, by omega⟩ (weakZ []) ?_
  rintro k ⟨hk, hj⟩
  have hz1 := len_ints (useL s.net (k : Int) false)
  have hz2 := len_ints (useL s.net (k : Int) true)
  repeat' (first | refine goZ ?_ | refine R_callZ rfl (l3Of_f s _ _ (by omega)) rfl rfl rfl ?_ | refine R_callvZ rfl (l3Of_f s _ _ (by omega)) rfl rfl rfl rfl ?_ | refine D_callZ rfl (l3Of_f s _ _ (by omega)) rfl rfl rfl ?_ | ((first | refine R_cond rfl (fun hq => ?_) fun hq => ?_ | refine R_guardT rfl rfl rfl (fun hq => ?_) fun hq => ?_ | refine R_guardF rfl rfl rfl (fun hq => ?_) fun hq => ?_ | refine D_guardT rfl rfl rfl (fun hq => ?_) fun hq => ?_ | refine D_guardF rfl rfl rfl (fun hq => ?_) fun hq => ?_) <;> (try rw [hq]) <;> first | have hp := of_decide_eq_true hq | have hp := of_decide_eq_false hq | have hp := of_decide_eq_false (not_t hq) | have hp := of_decide_eq_true (not_f hq) | have hp := hq))
  · exact ret_bool' rfl (by rw [mgA_no (show (k : Int) < s.net.places by omega) (by rw [mgP, Bool.and_eq_false_iff, decide_eq_false_iff_not, decide_eq_false_iff_not]; omega)])
  · exact ⟨k + 1, ⟨by omega, fun j hj' => by
      by_cases e : j = k
      · rw [e, mgP, Bool.and_eq_true, decide_eq_true_eq, decide_eq_true_eq]; omega
      · exact hj j (by omega)⟩, by omega, weakZ _⟩
  · exact ret_bool' rfl (by rw [mgA_no (show (k : Int) < s.net.places by omega) (by rw [mgP, Bool.and_eq_false_iff, decide_eq_false_iff_not, decide_eq_false_iff_not]; omega)])
  · exact ret_bool' rfl (by rw [mgA_yes (show ¬ (k : Int) < s.net.places by omega) hj])

theorem specIsMarkedGraph_f (s : Stg) (hs : s.start.size ≤ 1048576) : Fn Try.prog 16 [.agg (dStg s)] (.tup [.lit (.bool (mgB s)), .lit (.bool (goodStg s))]) [] := by
  refine Fn_of Try.func16 rfl (by kernel_rfl) rfl rfl ?_
  intro w0 A hin
  have hV := l2Good_f s hs
  cases hg : goodStg s <;> rw [hg] at hV
  · repeat' (first | refine goZ ?_ | refine R_callZ rfl (hV) rfl rfl rfl ?_ | refine R_callvZ rfl (hV) rfl rfl rfl rfl ?_ | refine D_callZ rfl (hV) rfl rfl rfl ?_ | ((first | refine R_cond rfl (fun hq => ?_) fun hq => ?_ | refine R_guardT rfl rfl rfl (fun hq => ?_) fun hq => ?_ | refine R_guardF rfl rfl rfl (fun hq => ?_) fun hq => ?_ | refine D_guardT rfl rfl rfl (fun hq => ?_) fun hq => ?_ | refine D_guardF rfl rfl rfl (fun hq => ?_) fun hq => ?_) <;> (try rw [hq]) <;> first | have hp := of_decide_eq_true hq | have hp := of_decide_eq_false hq | have hp := of_decide_eq_false (not_t hq) | have hp := of_decide_eq_true (not_f hq) | have hp := hq))
    exact ret_lit2 rfl (by simp [mgB, hg]) rfl
  · repeat' (first | refine goZ ?_ | refine R_callZ rfl (hV) rfl rfl rfl ?_ | refine R_callZ rfl (l3Marked_f s hg) rfl rfl rfl ?_ | refine R_callvZ rfl (hV) rfl rfl rfl rfl ?_ | refine R_callvZ rfl (l3Marked_f s hg) rfl rfl rfl rfl ?_ | refine D_callZ rfl (hV) rfl rfl rfl ?_ | refine D_callZ rfl (l3Marked_f s hg) rfl rfl rfl ?_ | ((first | refine R_cond rfl (fun hq => ?_) fun hq => ?_ | refine R_guardT rfl rfl rfl (fun hq => ?_) fun hq => ?_ | refine R_guardF rfl rfl rfl (fun hq => ?_) fun hq => ?_ | refine D_guardT rfl rfl rfl (fun hq => ?_) fun hq => ?_ | refine D_guardF rfl rfl rfl (fun hq => ?_) fun hq => ?_) <;> (try rw [hq]) <;> first | have hp := of_decide_eq_true hq | have hp := of_decide_eq_false hq | have hp := of_decide_eq_false (not_t hq) | have hp := of_decide_eq_true (not_f hq) | have hp := hq))
    exact ret_lit2 rfl (by rw [mgB, hg]; rfl) rfl
end Go.Proofs.Ytjfipianehabgaa
