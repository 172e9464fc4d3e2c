/- State graphs: states of a code, signals that are no inputs, stable states: what the reference's and the program's functions hand back. No condition. -/
import Derived.Test.YtodjjabmaleggaaExc
import Derived.Test.YtodjjabmaleggaaPick
set_option linter.unusedSimpArgs false
set_option linter.unusedVariables false
set_option maxHeartbeats 2000000
namespace Go.Proofs.Ytodjjabmaleggaa
open Go.ChangeShapes Go.WideShapes Go.ChangeAt Go.RowKit

def swcP (c : SGraph) (code : ByteArray) (k : Nat) : Bool := decide (nth c.codes k = code)
noncomputable def swcL (c : SGraph) (code : ByteArray) : List Int := if goodSG c then pickN (swcP c code) c.codes.length else []
theorem swcL_len (c : SGraph) (code : ByteArray) : (swcL c code).length ≤ 300 := by
  unfold swcL
  split
  · rename_i h
    have := goodSG_len h; have := pickN_len (swcP c code) c.codes.length
    omega
  · simp
def outP (c : SGraph) (k : Nat) : Bool := !decide ((nth c.signals k).kind = 1)
def outL (c : SGraph) : List Int := pickN (outP c) c.signals.length
noncomputable def nisL (c : SGraph) : List Int := if goodSG c then outL c else []
theorem nisL_len (c : SGraph) : (nisL c).length ≤ 8 := by
  unfold nisL
  split
  · rename_i h
    have := goodSG_len h; have := pickN_len (outP c) c.signals.length
    unfold outL; omega
  · simp

theorem outputs_f (c : SGraph) (hb : c.signals.length ≤ 8) : Fn Try.prog 174 [.agg (dSGraph c)] (.own 0) [.arr 3 1 (ints (outL c)) true] := by
  refine Fn_of Try.func174 rfl (by kernel_rfl) rfl rfl ?_
  intro w0 A hin
  have hz := len_dSig c.signals
  have hlen := pickN_len (outP c)
  repeat' (first | refine goZ ?_ | ((first | refine R_cond rfl (fun hq => ?_) fun hq => ?_ | refine R_guardT rfl rfl rfl (fun hq => ?_) fun hq => ?_ | refine R_guardF rfl rfl rfl (fun hq => ?_) fun hq => ?_ | refine D_guardT rfl rfl rfl (fun hq => ?_) fun hq => ?_ | refine D_guardF rfl rfl rfl (fun hq => ?_) fun hq => ?_) <;> (try rw [hq]) <;> first | have hp := of_decide_eq_true hq | have hp := of_decide_eq_false hq | have hp := of_decide_eq_false (not_t hq) | have hp := of_decide_eq_true (not_f hq) | have hp := hq))
  refine W_loop (fun k : Nat => ⟨_, [(3, .own 1), (8, .sh 2 (c.signals.map dSig)), (9, .lit (.int .i64 c.signals.length)), (10, .lit (.int .i64 k))], [.cells 69 (dSGraph c), .arr 3 1 (ints (pickN (outP c) k)) true]⟩) (fun k => k ≤ c.signals.length) (fun k => c.signals.length - k) 0 (Nat.zero_le _) (weakZ []) ?_
  intro k hk
  have hk2 := hlen k
  repeat' (first | refine goZ ?_ | ((first | refine R_cond rfl (fun hq => ?_) fun hq => ?_ | refine R_guardT rfl rfl rfl (fun hq => ?_) fun hq => ?_ | refine R_guardF rfl rfl rfl (fun hq => ?_) fun hq => ?_ | refine D_guardT rfl rfl rfl (fun hq => ?_) fun hq => ?_ | refine D_guardF rfl rfl rfl (fun hq => ?_) fun hq => ?_) <;> (try rw [hq]) <;> first | have hp := of_decide_eq_true hq | have hp := of_decide_eq_false hq | have hp := of_decide_eq_false (not_t hq) | have hp := of_decide_eq_true (not_f hq) | have hp := hq))
  · refine ⟨k + 1, by omega, by omega, ?_⟩
    simp only [pickN_yes (p := outP c) (k := k) (hq), ints_snoc]
    exact weakZ _
  · refine ⟨k + 1, by omega, by omega, ?_⟩
    simp only [pickN_no (p := outP c) (k := k) (hq)]
    exact weakZ _
  · exact ret_own rfl rfl (by rw [outL, show k = c.signals.length by omega])

theorem l6Own_f (c : SGraph) (k : Nat) (hk : k < c.signals.length) : Fn Try.prog 161 [.agg (dSGraph c), .lit (.int .i64 k)] (.lit (.bool (outP c k))) [] := by
  refine Fn_of Try.func161 rfl (by kernel_rfl) rfl rfl ?_
  intro w0 A hin
  have hz := len_dSig c.signals
  repeat' (first | refine goZ ?_ | ((first | refine R_cond rfl (fun hq => ?_) fun hq => ?_ | refine R_guardT rfl rfl rfl (fun hq => ?_) fun hq => ?_ | refine R_guardF rfl rfl rfl (fun hq => ?_) fun hq => ?_ | refine D_guardT rfl rfl rfl (fun hq => ?_) fun hq => ?_ | refine D_guardF rfl rfl rfl (fun hq => ?_) fun hq => ?_) <;> (try rw [hq]) <;> first | have hp := of_decide_eq_true hq | have hp := of_decide_eq_false hq | have hp := of_decide_eq_false (not_t hq) | have hp := of_decide_eq_true (not_f hq) | have hp := hq))
  all_goals first | exact ret_bool' rfl rfl | (exfalso; omega)

theorem l6Owned_f (c : SGraph) (hb : c.signals.length ≤ 8) : Fn Try.prog 173 [.agg (dSGraph c)] (.own 0) [.arr 3 1 (ints (outL c)) true] := by
  refine Fn_of Try.func173 rfl (by kernel_rfl) rfl rfl ?_
  intro w0 A hin
  have hz := len_dSig c.signals
  have hlen := pickN_len (outP c)
  repeat' (first | refine goZ ?_ | ((first | refine R_cond rfl (fun hq => ?_) fun hq => ?_ | refine R_guardT rfl rfl rfl (fun hq => ?_) fun hq => ?_ | refine R_guardF rfl rfl rfl (fun hq => ?_) fun hq => ?_ | refine D_guardT rfl rfl rfl (fun hq => ?_) fun hq => ?_ | refine D_guardF rfl rfl rfl (fun hq => ?_) fun hq => ?_) <;> (try rw [hq]) <;> first | have hp := of_decide_eq_true hq | have hp := of_decide_eq_false hq | have hp := of_decide_eq_false (not_t hq) | have hp := of_decide_eq_true (not_f hq) | have hp := hq))
  refine W_open 3 3 1 rfl ?_
  refine W_loop (fun k : Nat => ⟨_, [(1, .ptr 0 0), (3, .own 1), (7, .lit (.int .i64 c.signals.length)), (8, .lit (.int .i64 k))], [.cells 69 (dSGraph c), .arr 3 1 (ints (pickN (outP c) k)) true]⟩) (fun k => k ≤ c.signals.length) (fun k => c.signals.length - k) 0 (Nat.zero_le _) (weakZ []) ?_
  intro k hk
  have hk2 := hlen k
  repeat' (first | refine goZ ?_ | refine R_callZ rfl (l6Own_f c k (by omega)) rfl rfl rfl ?_ | refine R_callvZ rfl (l6Own_f c k (by omega)) rfl rfl rfl rfl ?_ | refine D_callZ rfl (l6Own_f c k (by omega)) rfl rfl rfl ?_ | ((first | refine R_cond rfl (fun hq => ?_) fun hq => ?_ | refine R_guardT rfl rfl rfl (fun hq => ?_) fun hq => ?_ | refine R_guardF rfl rfl rfl (fun hq => ?_) fun hq => ?_ | refine D_guardT rfl rfl rfl (fun hq => ?_) fun hq => ?_ | refine D_guardF rfl rfl rfl (fun hq => ?_) fun hq => ?_) <;> (try rw [hq]) <;> first | have hp := of_decide_eq_true hq | have hp := of_decide_eq_false hq | have hp := of_decide_eq_false (not_t hq) | have hp := of_decide_eq_true (not_f hq) | have hp := hq))
  · refine ⟨k + 1, by omega, by omega, ?_⟩
    simp only [pickN_yes (p := outP c) (k := k) (hq), ints_snoc]
    exact weakZ _
  · refine ⟨k + 1, by omega, by omega, ?_⟩
    simp only [pickN_no (p := outP c) (k := k) (hq)]
    exact weakZ _
  · exact ret_own rfl rfl (by rw [outL, show k = c.signals.length by omega])

noncomputable def askB (c : SGraph) (sig : Int) : Bool := goodSG c && decide (0 ≤ sig ∧ sig ≤ (c.signals.length : Int) - 1)
def staP (c : SGraph) (sig : Int) (v : Bool) (k : Nat) : Bool := decide (bAt (nth c.codes k) sig = bitI v) && !c.arcs.any (excP k sig)
def staL (c : SGraph) (sig : Int) (v : Bool) : List Int := pickN (staP c sig v) c.codes.length
noncomputable def stsL (c : SGraph) (sig : Int) (v : Bool) : List Int := if askB c sig then staL c sig v else []
theorem askB_good {c : SGraph} {sig : Int} (h : askB c sig = true) : goodSG c = true ∧ 0 ≤ sig ∧ sig ≤ (c.signals.length : Int) - 1 := by
  simp only [askB, Bool.and_eq_true, decide_eq_true_eq] at h; exact h
theorem goodSG_codes {c : SGraph} (h : goodSG c = true) : ∀ k : Nat, k < c.codes.length → bitsOk (nth c.codes k) ∧ ((nth c.codes k).size : Int) = c.signals.length := fun k hk => by
  simp only [goodSG, sgB, Bool.and_eq_true] at h
  exact codeB_ok (List.all_eq_true.1 h.1.2.1 _ (nth_mem hk))
theorem stsL_len (c : SGraph) (sig : Int) (v : Bool) : (stsL c sig v).length ≤ 300 := by
  unfold stsL
  split
  · rename_i h
    have := goodSG_len (askB_good h).1; have := pickN_len (staP c sig v) c.codes.length
    unfold staL; omega
  · simp

end Go.Proofs.Ytodjjabmaleggaa
