/- State graphs: states of a code, signals that are no inputs, stable states: what the reference's and the program's functions hand back. No condition. -/
import Derived.Test.YtcbfpeplcbgpjaaExc
import Derived.Test.YtcbfpeplcbgpjaaPick
set_option linter.unusedSimpArgs false
set_option linter.unusedVariables false
set_option maxHeartbeats 2000000
namespace Go.Proofs.Ytcbfpeplcbgpjaa
open Go.ChangeShapes Go.WideShapes Go.ChangeAt Go.RowKit

def swcP (c : SGraph) (code : ByteArray) (k : Nat) : Bool := decide (nth c.codes k = code)
noncomputable def swcL (c : SGraph) (code : ByteArray) : List Int := if goodSG c then pickN (swcP c code) c.codes.length else []
theorem swcL_len (c : SGraph) (code : ByteArray) : (swcL c code).length ≤ 300 := by
  unfold swcL
  split
  · rename_i h
    have := goodSG_len h; have := pickN_len (swcP c code) c.codes.length
    omega
  · simp
def outP (c : SGraph) (k : Nat) : Bool := !decide ((nth c.signals k).kind = 1)
def outL (c : SGraph) : List Int := pickN (outP c) c.signals.length
noncomputable def nisL (c : SGraph) : List Int := if goodSG c then outL c else []
theorem nisL_len (c : SGraph) : (nisL c).length ≤ 8 := by
  unfold nisL
  split
  · rename_i h
    have := goodSG_len h; have := pickN_len (outP c) c.signals.length
    unfold outL; omega
  · simp

noncomputable def askB (c : SGraph) (sig : Int) : Bool := goodSG c && decide (0 ≤ sig ∧ sig ≤ (c.signals.length : Int) - 1)
def staP (c : SGraph) (sig : Int) (v : Bool) (k : Nat) : Bool := decide (bAt (nth c.codes k) sig = bitI v) && !c.arcs.any (excP k sig)
def staL (c : SGraph) (sig : Int) (v : Bool) : List Int := pickN (staP c sig v) c.codes.length
noncomputable def stsL (c : SGraph) (sig : Int) (v : Bool) : List Int := if askB c sig then staL c sig v else []
theorem askB_good {c : SGraph} {sig : Int} (h : askB c sig = true) : goodSG c = true ∧ 0 ≤ sig ∧ sig ≤ (c.signals.length : Int) - 1 := by
  simp only [askB, Bool.and_eq_true, decide_eq_true_eq] at h; exact h
theorem goodSG_codes {c : SGraph} (h : goodSG c = true) : ∀ k : Nat, k < c.codes.length → bitsOk (nth c.codes k) ∧ ((nth c.codes k).size : Int) = c.signals.length := fun k hk => by
  simp only [goodSG, sgB, Bool.and_eq_true] at h
  exact codeB_ok (List.all_eq_true.1 h.1.2.1 _ (nth_mem hk))
theorem stsL_len (c : SGraph) (sig : Int) (v : Bool) : (stsL c sig v).length ≤ 300 := by
  unfold stsL
  split
  · rename_i h
    have := goodSG_len (askB_good h).1; have := pickN_len (staP c sig v) c.codes.length
    unfold staL; omega
  · simp

theorem l10Asked_f (c : SGraph) (sig : Int) : Fn Try.prog 55 [.agg (dSGraph c), .lit (.int .i64 sig)] (.lit (.bool (askB c sig))) [] := by
  refine Fn_of Try.func55 rfl (by kernel_rfl) rfl rfl ?_
  intro w0 A hin
  have hz := len_dSig c.signals
  have hl := given_agg hin (i := 0) (j := 0) rfl rfl
  have hV := l5Good_f c
  cases hg : goodSG c <;> rw [hg] at hV
  · repeat' (first | refine goZ ?_ | refine R_callZ rfl (hV) rfl rfl rfl ?_ | refine R_callvZ rfl (hV) rfl rfl rfl rfl ?_ | refine D_callZ rfl (hV) rfl rfl rfl ?_ | ((first | refine R_cond rfl (fun hq => ?_) fun hq => ?_ | refine R_guardT rfl rfl rfl (fun hq => ?_) fun hq => ?_ | refine R_guardF rfl rfl rfl (fun hq => ?_) fun hq => ?_ | refine D_guardT rfl rfl rfl (fun hq => ?_) fun hq => ?_ | refine D_guardF rfl rfl rfl (fun hq => ?_) fun hq => ?_) <;> (try rw [hq]) <;> first | have hp := of_decide_eq_true hq | have hp := of_decide_eq_false hq | have hp := of_decide_eq_false (not_t hq) | have hp := of_decide_eq_true (not_f hq) | have hp := hq))
    exact ret_bool' rfl (by rw [askB, hg, Bool.false_and])
  · repeat' (first | refine goZ ?_ | refine R_callZ rfl (hV) rfl rfl rfl ?_ | refine R_callZ rfl (l1In_f _ _ _) rfl rfl rfl ?_ | refine R_callvZ rfl (hV) rfl rfl rfl rfl ?_ | refine R_callvZ rfl (l1In_f _ _ _) rfl rfl rfl rfl ?_ | refine D_callZ rfl (hV) rfl rfl rfl ?_ | refine D_callZ rfl (l1In_f _ _ _) rfl rfl rfl ?_ | ((first | refine R_cond rfl (fun hq => ?_) fun hq => ?_ | refine R_guardT rfl rfl rfl (fun hq => ?_) fun hq => ?_ | refine R_guardF rfl rfl rfl (fun hq => ?_) fun hq => ?_ | refine D_guardT rfl rfl rfl (fun hq => ?_) fun hq => ?_ | refine D_guardF rfl rfl rfl (fun hq => ?_) fun hq => ?_) <;> (try rw [hq]) <;> first | have hp := of_decide_eq_true hq | have hp := of_decide_eq_false hq | have hp := of_decide_eq_false (not_t hq) | have hp := of_decide_eq_true (not_f hq) | have hp := hq))
    exact ret_bool' rfl (by rw [askB, hg, Bool.true_and, hz])

theorem hasSignal_f (c : SGraph) (sig : Int) : Fn Try.prog 61 [.agg (dSGraph c), .lit (.int .i64 sig)] (.lit (.bool (askB c sig))) [] := by
  refine Fn_of Try.func61 rfl (by kernel_rfl) rfl rfl ?_
  intro w0 A hin
  have hz := len_dSig c.signals
  have hl := given_agg hin (i := 0) (j := 0) rfl rfl
  have hV := IsValidStateGraph_f c
  cases hg : goodSG c <;> rw [hg] at hV
  · repeat' (first | refine goZ ?_ | refine R_callZ rfl (hV) rfl rfl rfl ?_ | refine R_callvZ rfl (hV) rfl rfl rfl rfl ?_ | refine D_callZ rfl (hV) rfl rfl rfl ?_ | ((first | refine R_cond rfl (fun hq => ?_) fun hq => ?_ | refine R_guardT rfl rfl rfl (fun hq => ?_) fun hq => ?_ | refine R_guardF rfl rfl rfl (fun hq => ?_) fun hq => ?_ | refine D_guardT rfl rfl rfl (fun hq => ?_) fun hq => ?_ | refine D_guardF rfl rfl rfl (fun hq => ?_) fun hq => ?_) <;> (try rw [hq]) <;> first | have hp := of_decide_eq_true hq | have hp := of_decide_eq_false hq | have hp := of_decide_eq_false (not_t hq) | have hp := of_decide_eq_true (not_f hq) | have hp := hq))
    exact ret_bool' rfl (by rw [askB, hg, Bool.false_and])
  · repeat' (first | refine goZ ?_ | refine R_callZ rfl (hV) rfl rfl rfl ?_ | refine R_callZ rfl (within_f _ _ _) rfl rfl rfl ?_ | refine R_callvZ rfl (hV) rfl rfl rfl rfl ?_ | refine R_callvZ rfl (within_f _ _ _) rfl rfl rfl rfl ?_ | refine D_callZ rfl (hV) rfl rfl rfl ?_ | refine D_callZ rfl (within_f _ _ _) rfl rfl rfl ?_ | ((first | refine R_cond rfl (fun hq => ?_) fun hq => ?_ | refine R_guardT rfl rfl rfl (fun hq => ?_) fun hq => ?_ | refine R_guardF rfl rfl rfl (fun hq => ?_) fun hq => ?_ | refine D_guardT rfl rfl rfl (fun hq => ?_) fun hq => ?_ | refine D_guardF rfl rfl rfl (fun hq => ?_) fun hq => ?_) <;> (try rw [hq]) <;> first | have hp := of_decide_eq_true hq | have hp := of_decide_eq_false hq | have hp := of_decide_eq_false (not_t hq) | have hp := of_decide_eq_true (not_f hq) | have hp := hq))
    exact ret_bool' rfl (by rw [askB, hg, Bool.true_and, hz])

end Go.Proofs.Ytcbfpeplcbgpjaa
