/- Signals excited in a state: what the reference's and the program's functions hand back. No condition. -/
import Derived.Test.YtjfipianehabgaaSgb
set_option linter.unusedSimpArgs false
set_option linter.unusedVariables false
set_option maxHeartbeats 2000000
namespace Go.Proofs.Ytjfipianehabgaa
open Go.ChangeShapes Go.WideShapes Go.ChangeAt Go.RowKit

def excP (k sig : Int) (a : ArcD) : Bool := decide (a.src = k) && decide (a.sig = sig)
noncomputable def stateB (c : SGraph) (k : Int) : Bool := goodSG c && decide (0 ≤ k ∧ k ≤ (c.codes.length : Int) - 1)
noncomputable def excB (c : SGraph) (k sig : Int) : Bool := stateB c k && decide (0 ≤ sig ∧ sig ≤ (c.signals.length : Int) - 1)
noncomputable def excV (c : SGraph) (k sig : Int) : Bool := excB c k sig && c.arcs.any (excP k sig)
theorem goodSG_len {c : SGraph} (h : goodSG c = true) : 1 ≤ c.signals.length ∧ c.signals.length ≤ 8 ∧ 1 ≤ c.codes.length ∧ c.codes.length ≤ 300 ∧ c.arcs.length ≤ 4000 := by
  simp only [goodSG, sgB, Bool.and_eq_true] at h; exact sgA_len h.1.1

theorem l5State_f (c : SGraph) (k : Int) : Fn Try.prog 93 [.agg (dSGraph c), .lit (.int .i64 k)] (.lit (.bool (stateB c k))) [] := by
  refine Fn_of Try.func93 rfl (by kernel_rfl) rfl rfl ?_
  intro w0 A hin
  have hz := len_strs c.codes
  have hl := given_agg hin (i := 0) (j := 1) rfl rfl
  have hV := l5Good_f c
  cases hg : goodSG c <;> rw [hg] at hV
  · repeat' (first | refine goZ ?_ | refine R_callZ rfl (hV) rfl rfl rfl ?_ | refine R_callvZ rfl (hV) rfl rfl rfl rfl ?_ | refine D_callZ rfl (hV) rfl rfl rfl ?_ | ((first | refine R_cond rfl (fun hq => ?_) fun hq => ?_ | refine R_guardT rfl rfl rfl (fun hq => ?_) fun hq => ?_ | refine R_guardF rfl rfl rfl (fun hq => ?_) fun hq => ?_ | refine D_guardT rfl rfl rfl (fun hq => ?_) fun hq => ?_ | refine D_guardF rfl rfl rfl (fun hq => ?_) fun hq => ?_) <;> (try rw [hq]) <;> first | have hp := of_decide_eq_true hq | have hp := of_decide_eq_false hq | have hp := of_decide_eq_false (not_t hq) | have hp := of_decide_eq_true (not_f hq) | have hp := hq))
    exact ret_bool' rfl (by rw [stateB, hg, Bool.false_and])
  · repeat' (first | refine goZ ?_ | refine R_callZ rfl (hV) rfl rfl rfl ?_ | refine R_callZ rfl (l1In_f _ _ _) rfl rfl rfl ?_ | refine R_callvZ rfl (hV) rfl rfl rfl rfl ?_ | refine R_callvZ rfl (l1In_f _ _ _) rfl rfl rfl rfl ?_ | refine D_callZ rfl (hV) rfl rfl rfl ?_ | refine D_callZ rfl (l1In_f _ _ _) rfl rfl rfl ?_ | ((first | refine R_cond rfl (fun hq => ?_) fun hq => ?_ | refine R_guardT rfl rfl rfl (fun hq => ?_) fun hq => ?_ | refine R_guardF rfl rfl rfl (fun hq => ?_) fun hq => ?_ | refine D_guardT rfl rfl rfl (fun hq => ?_) fun hq => ?_ | refine D_guardF rfl rfl rfl (fun hq => ?_) fun hq => ?_) <;> (try rw [hq]) <;> first | have hp := of_decide_eq_true hq | have hp := of_decide_eq_false hq | have hp := of_decide_eq_false (not_t hq) | have hp := of_decide_eq_true (not_f hq) | have hp := hq))
    exact ret_bool' rfl (by rw [stateB, hg, Bool.true_and, hz])

end Go.Proofs.Ytjfipianehabgaa
