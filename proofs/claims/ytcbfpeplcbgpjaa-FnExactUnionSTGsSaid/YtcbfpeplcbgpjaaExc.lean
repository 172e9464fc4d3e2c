/- Signals excited in a state: what the reference's and the program's functions hand back. No condition. -/
import Derived.Test.YtcbfpeplcbgpjaaSgb
set_option linter.unusedSimpArgs false
set_option linter.unusedVariables false
set_option maxHeartbeats 2000000
namespace Go.Proofs.Ytcbfpeplcbgpjaa
open Go.ChangeShapes Go.WideShapes Go.ChangeAt Go.RowKit

theorem IndexFunc2_ArcD_f (l : List ArcD) (p : ArcD → Bool) (fid : FuncId) (cs cs' : List D) (hp : ∀ x ∈ l, Fn Try.prog fid [.agg (dArcD x), .sptr cs, .sptr cs'] (.lit (.bool (p x))) []) : Fn Try.prog 167 [.sh 4 (l.map dArcD), .fn fid [.sptr cs, .sptr cs']] (.lit (.int .i64 (findIx p l))) [] := by
  refine Fn_of Try.func167 rfl (by kernel_rfl) rfl rfl ?_
  intro w0 A hin
  have hl := given_len hin (i := 0) rfl
  rw [len_dArcD] at hl
  have hF := fun k (hk : k < l.length) => hp _ (nth_mem hk)
  clear hp
  repeat' (first | refine goZ ?_ | ((first | refine R_cond rfl (fun hq => ?_) fun hq => ?_ | refine R_guardT rfl rfl rfl (fun hq => ?_) fun hq => ?_ | refine R_guardF rfl rfl rfl (fun hq => ?_) fun hq => ?_ | refine D_guardT rfl rfl rfl (fun hq => ?_) fun hq => ?_ | refine D_guardF rfl rfl rfl (fun hq => ?_) fun hq => ?_) <;> (try rw [hq]) <;> first | have hp := of_decide_eq_true hq | have hp := of_decide_eq_false hq | have hp := of_decide_eq_false (not_t hq) | have hp := of_decide_eq_true (not_f hq) | have hp := hq))
  refine W_loop (fun k : Nat => ⟨_, [(0, .sh 4 (l.map dArcD)), (1, .fn fid [.sptr cs, .sptr cs']), (7, .lit (.int .i64 l.length)), (8, .lit (.int .i64 k))], []⟩) (fun k => k ≤ l.length ∧ ∀ j, j < k → p (nth l j) = false) (fun k => l.length - k) 0 ⟨Nat.zero_le _, by omega⟩ (weakZ []) ?_
  rintro k ⟨hk, hj⟩
  repeat' (first | refine goZ ?_ | refine R_callZ rfl (hF _ (by omega)) rfl rfl rfl ?_ | refine R_callvZ rfl (hF _ (by omega)) rfl rfl rfl rfl ?_ | refine D_callZ rfl (hF _ (by omega)) rfl rfl rfl ?_ | ((first | refine R_cond rfl (fun hq => ?_) fun hq => ?_ | refine R_guardT rfl rfl rfl (fun hq => ?_) fun hq => ?_ | refine R_guardF rfl rfl rfl (fun hq => ?_) fun hq => ?_ | refine D_guardT rfl rfl rfl (fun hq => ?_) fun hq => ?_ | refine D_guardF rfl rfl rfl (fun hq => ?_) fun hq => ?_) <;> (try rw [hq]) <;> first | have hp := of_decide_eq_true hq | have hp := of_decide_eq_false hq | have hp := of_decide_eq_false (not_t hq) | have hp := of_decide_eq_true (not_f hq) | have hp := hq))
  · exact ret_int' rfl (findIx_at p (by omega) hj hq).symm
  · exact ⟨k + 1, ⟨by omega, fun j hj' => by by_cases e : j = k; (rw [e]; exact hq); exact hj j (by omega)⟩, by omega, weakZ []⟩
  · exact ret_int' rfl (findIx_not p (allN fun j h => hj j (by omega))).symm

def excP (k sig : Int) (a : ArcD) : Bool := decide (a.src = k) && decide (a.sig = sig)
noncomputable def stateB (c : SGraph) (k : Int) : Bool := goodSG c && decide (0 ≤ k ∧ k ≤ (c.codes.length : Int) - 1)
noncomputable def excB (c : SGraph) (k sig : Int) : Bool := stateB c k && decide (0 ≤ sig ∧ sig ≤ (c.signals.length : Int) - 1)
noncomputable def excV (c : SGraph) (k sig : Int) : Bool := excB c k sig && c.arcs.any (excP k sig)
theorem goodSG_len {c : SGraph} (h : goodSG c = true) : 1 ≤ c.signals.length ∧ c.signals.length ≤ 8 ∧ 1 ≤ c.codes.length ∧ c.codes.length ≤ 300 ∧ c.arcs.length ≤ 4000 := by
  simp only [goodSG, sgB, Bool.and_eq_true] at h; exact sgA_len h.1.1

end Go.Proofs.Ytcbfpeplcbgpjaa
