/- State graphs: states of a code, signals that are no inputs, stable states: what the reference's and the program's functions hand back. No condition. -/
import Derived.Test.YtpmiihejbmdkfaaExc
import Derived.Test.YtpmiihejbmdkfaaPick
set_option linter.unusedSimpArgs false
set_option linter.unusedVariables false
set_option maxHeartbeats 2000000
namespace Go.Proofs.Ytpmiihejbmdkfaa
open Go.ChangeShapes Go.WideShapes Go.ChangeAt Go.RowKit

def swcP (c : SGraph) (code : ByteArray) (k : Nat) : Bool := decide (nth c.codes k = code)
noncomputable def swcL (c : SGraph) (code : ByteArray) : List Int := if goodSG c then pickN (swcP c code) c.codes.length else []
theorem swcL_len (c : SGraph) (code : ByteArray) : (swcL c code).length ≤ 300 := by
  unfold swcL
  split
  · rename_i h
    have := goodSG_len h; have := pickN_len (swcP c code) c.codes.length
    omega
  · simp
def outP (c : SGraph) (k : Nat) : Bool := !decide ((nth c.signals k).kind = 1)
def outL (c : SGraph) : List Int := pickN (outP c) c.signals.length
noncomputable def nisL (c : SGraph) : List Int := if goodSG c then outL c else []
theorem nisL_len (c : SGraph) : (nisL c).length ≤ 8 := by
  unfold nisL
  split
  · rename_i h
    have := goodSG_len h; have := pickN_len (outP c) c.signals.length
    unfold outL; omega
  · simp

theorem StatesWithCode_f (c : SGraph) (code : ByteArray) : Fn Try.prog 48 [.agg (dSGraph c), .lit (.string code)] (.tup [.own 0, .lit (.bool (goodSG c))]) [.arr 3 1 (ints (swcL c code)) true] := by
  refine Fn_of Try.func48 rfl (by kernel_rfl) rfl rfl ?_
  intro w0 A hin
  have hz := len_strs c.codes
  have hV := IsValidStateGraph_f c
  cases hg : goodSG c <;> rw [hg] at hV
  · repeat' (first | refine goZ ?_ | refine R_call rfl rfl rfl rfl (hV) ?_ | refine R_callv rfl rfl rfl (hV) rfl rfl ?_ | refine D_call rfl rfl rfl rfl (hV) ?_ | ((first | refine R_cond rfl (fun hq => ?_) fun hq => ?_ | refine R_guardT rfl rfl rfl (fun hq => ?_) fun hq => ?_ | refine R_guardF rfl rfl rfl (fun hq => ?_) fun hq => ?_ | refine D_guardT rfl rfl rfl (fun hq => ?_) fun hq => ?_ | refine D_guardF rfl rfl rfl (fun hq => ?_) fun hq => ?_) <;> (try rw [hq]) <;> first | have hp := of_decide_eq_true hq | have hp := of_decide_eq_false hq | have hp := of_decide_eq_false (not_t hq) | have hp := of_decide_eq_true (not_f hq) | have hp := hq))
    exact ret_nil_lit rfl (by simp [swcL, hg, ints]) rfl
  · have hb := goodSG_len hg
    have hlen := pickN_len (swcP c code)
    repeat' (first | refine goZ ?_ | refine R_call rfl rfl rfl rfl (hV) ?_ | refine R_callv rfl rfl rfl (hV) rfl rfl ?_ | refine D_call rfl rfl rfl rfl (hV) ?_ | ((first | refine R_cond rfl (fun hq => ?_) fun hq => ?_ | refine R_guardT rfl rfl rfl (fun hq => ?_) fun hq => ?_ | refine R_guardF rfl rfl rfl (fun hq => ?_) fun hq => ?_ | refine D_guardT rfl rfl rfl (fun hq => ?_) fun hq => ?_ | refine D_guardF rfl rfl rfl (fun hq => ?_) fun hq => ?_) <;> (try rw [hq]) <;> first | have hp := of_decide_eq_true hq | have hp := of_decide_eq_false hq | have hp := of_decide_eq_false (not_t hq) | have hp := of_decide_eq_true (not_f hq) | have hp := hq))
    refine W_loop (fun k : Nat => ⟨_, [(1, .lit (.string code)), (6, .own 1), (14, .sh 1 (strs c.codes)), (15, .lit (.int .i64 c.codes.length)), (16, .lit (.int .i64 k))], [.cells 80 (dSGraph c), .arr 3 1 (ints (pickN (swcP c code) k)) true]⟩) (fun k => k ≤ c.codes.length) (fun k => c.codes.length - k) 0 (Nat.zero_le _) (weakZ []) ?_
    intro k hk
    have hk2 := hlen k
    repeat' (first | refine goZ ?_ | ((first | refine R_cond rfl (fun hq => ?_) fun hq => ?_ | refine R_guardT rfl rfl rfl (fun hq => ?_) fun hq => ?_ | refine R_guardF rfl rfl rfl (fun hq => ?_) fun hq => ?_ | refine D_guardT rfl rfl rfl (fun hq => ?_) fun hq => ?_ | refine D_guardF rfl rfl rfl (fun hq => ?_) fun hq => ?_) <;> (try rw [hq]) <;> first | have hp := of_decide_eq_true hq | have hp := of_decide_eq_false hq | have hp := of_decide_eq_false (not_t hq) | have hp := of_decide_eq_true (not_f hq) | have hp := hq))
    · refine ⟨k + 1, by omega, by omega, ?_⟩
      simp only [pickN_yes (p := swcP c code) (k := k) (hq), ints_snoc]
      exact weakZ _
    · refine ⟨k + 1, by omega, by omega, ?_⟩
      simp only [pickN_no (p := swcP c code) (k := k) (hq)]
      exact weakZ _
    · exact ret_own_lit rfl rfl (by rw [swcL, hg, if_pos rfl, show k = c.codes.length by omega]) rfl

theorem specStatesWithCode_f (c : SGraph) (code : ByteArray) : Fn Try.prog 46 [.agg (dSGraph c), .lit (.string code)] (.tup [.own 0, .lit (.bool (goodSG c))]) [.arr 3 1 (ints (swcL c code)) true] := by
  refine Fn_of Try.func46 rfl (by kernel_rfl) rfl rfl ?_
  intro w0 A hin
  have hz := len_strs c.codes
  have hV := l5Good_f c
  cases hg : goodSG c <;> rw [hg] at hV
  · repeat' (first | refine goZ ?_ | refine R_call rfl rfl rfl rfl (hV) ?_ | refine R_callv rfl rfl rfl (hV) rfl rfl ?_ | refine D_call rfl rfl rfl rfl (hV) ?_ | ((first | refine R_cond rfl (fun hq => ?_) fun hq => ?_ | refine R_guardT rfl rfl rfl (fun hq => ?_) fun hq => ?_ | refine R_guardF rfl rfl rfl (fun hq => ?_) fun hq => ?_ | refine D_guardT rfl rfl rfl (fun hq => ?_) fun hq => ?_ | refine D_guardF rfl rfl rfl (fun hq => ?_) fun hq => ?_) <;> (try rw [hq]) <;> first | have hp := of_decide_eq_true hq | have hp := of_decide_eq_false hq | have hp := of_decide_eq_false (not_t hq) | have hp := of_decide_eq_true (not_f hq) | have hp := hq))
    exact ret_nil_lit rfl (by simp [swcL, hg, ints]) rfl
  · have hb := goodSG_len hg
    have hlen := pickN_len (swcP c code)
    repeat' (first | refine goZ ?_ | refine R_call rfl rfl rfl rfl (hV) ?_ | refine R_callv rfl rfl rfl (hV) rfl rfl ?_ | refine D_call rfl rfl rfl rfl (hV) ?_ | ((first | refine R_cond rfl (fun hq => ?_) fun hq => ?_ | refine R_guardT rfl rfl rfl (fun hq => ?_) fun hq => ?_ | refine R_guardF rfl rfl rfl (fun hq => ?_) fun hq => ?_ | refine D_guardT rfl rfl rfl (fun hq => ?_) fun hq => ?_ | refine D_guardF rfl rfl rfl (fun hq => ?_) fun hq => ?_) <;> (try rw [hq]) <;> first | have hp := of_decide_eq_true hq | have hp := of_decide_eq_false hq | have hp := of_decide_eq_false (not_t hq) | have hp := of_decide_eq_true (not_f hq) | have hp := hq))
    refine W_open 6 3 1 rfl ?_
    refine W_loop (fun k : Nat => ⟨_, [(1, .lit (.string code)), (6, .own 1), (13, .sh 1 (strs c.codes)), (14, .lit (.int .i64 c.codes.length)), (15, .lit (.int .i64 k))], [.cells 80 (dSGraph c), .arr 3 1 (ints (pickN (swcP c code) k)) true]⟩) (fun k => k ≤ c.codes.length) (fun k => c.codes.length - k) 0 (Nat.zero_le _) (weakZ []) ?_
    intro k hk
    have hk2 := hlen k
    repeat' (first | refine goZ ?_ | ((first | refine R_cond rfl (fun hq => ?_) fun hq => ?_ | refine R_guardT rfl rfl rfl (fun hq => ?_) fun hq => ?_ | refine R_guardF rfl rfl rfl (fun hq => ?_) fun hq => ?_ | refine D_guardT rfl rfl rfl (fun hq => ?_) fun hq => ?_ | refine D_guardF rfl rfl rfl (fun hq => ?_) fun hq => ?_) <;> (try rw [hq]) <;> first | have hp := of_decide_eq_true hq | have hp := of_decide_eq_false hq | have hp := of_decide_eq_false (not_t hq) | have hp := of_decide_eq_true (not_f hq) | have hp := hq))
    · refine ⟨k + 1, by omega, by omega, ?_⟩
      simp only [pickN_yes (p := swcP c code) (k := k) (hq), ints_snoc]
      exact weakZ _
    · refine ⟨k + 1, by omega, by omega, ?_⟩
      simp only [pickN_no (p := swcP c code) (k := k) (hq)]
      exact weakZ _
    · exact ret_own_lit rfl rfl (by rw [swcL, hg, if_pos rfl, show k = c.codes.length by omega]) rfl

theorem outputs_f (c : SGraph) (hb : c.signals.length ≤ 8) : Fn Try.prog 105 [.agg (dSGraph c)] (.own 0) [.arr 3 1 (ints (outL c)) true] := by
  refine Fn_of Try.func105 rfl (by kernel_rfl) rfl rfl ?_
  intro w0 A hin
  have hz := len_dSig c.signals
  have hlen := pickN_len (outP c)
  repeat' (first | refine goZ ?_ | ((first | refine R_cond rfl (fun hq => ?_) fun hq => ?_ | refine R_guardT rfl rfl rfl (fun hq => ?_) fun hq => ?_ | refine R_guardF rfl rfl rfl (fun hq => ?_) fun hq => ?_ | refine D_guardT rfl rfl rfl (fun hq => ?_) fun hq => ?_ | refine D_guardF rfl rfl rfl (fun hq => ?_) fun hq => ?_) <;> (try rw [hq]) <;> first | have hp := of_decide_eq_true hq | have hp := of_decide_eq_false hq | have hp := of_decide_eq_false (not_t hq) | have hp := of_decide_eq_true (not_f hq) | have hp := hq))
  refine W_loop (fun k : Nat => ⟨_, [(3, .own 1), (8, .sh 2 (c.signals.map dSig)), (9, .lit (.int .i64 c.signals.length)), (10, .lit (.int .i64 k))], [.cells 80 (dSGraph c), .arr 3 1 (ints (pickN (outP c) k)) true]⟩) (fun k => k ≤ c.signals.length) (fun k => c.signals.length - k) 0 (Nat.zero_le _) (weakZ []) ?_
  intro k hk
  have hk2 := hlen k
  repeat' (first | refine goZ ?_ | ((first | refine R_cond rfl (fun hq => ?_) fun hq => ?_ | refine R_guardT rfl rfl rfl (fun hq => ?_) fun hq => ?_ | refine R_guardF rfl rfl rfl (fun hq => ?_) fun hq => ?_ | refine D_guardT rfl rfl rfl (fun hq => ?_) fun hq => ?_ | refine D_guardF rfl rfl rfl (fun hq => ?_) fun hq => ?_) <;> (try rw [hq]) <;> first | have hp := of_decide_eq_true hq | have hp := of_decide_eq_false hq | have hp := of_decide_eq_false (not_t hq) | have hp := of_decide_eq_true (not_f hq) | have hp := hq))
  · refine ⟨k + 1, by omega, by omega, ?_⟩
    simp only [pickN_yes (p := outP c) (k := k) (hq), ints_snoc]
    exact weakZ _
  · refine ⟨k + 1, by omega, by omega, ?_⟩
    simp only [pickN_no (p := outP c) (k := k) (hq)]
    exact weakZ _
  · exact ret_own rfl rfl (by rw [outL, show k = c.signals.length by omega])

theorem l6Own_f (c : SGraph) (k : Nat) (hk : k < c.signals.length) : Fn Try.prog 154 [.agg (dSGraph c), .lit (.int .i64 k)] (.lit (.bool (outP c k))) [] := by
  refine Fn_of Try.func154 rfl (by kernel_rfl) rfl rfl ?_
  intro w0 A hin
  have hz := len_dSig c.signals
  repeat' (first | refine goZ ?_ | ((first | refine R_cond rfl (fun hq => ?_) fun hq => ?_ | refine R_guardT rfl rfl rfl (fun hq => ?_) fun hq => ?_ | refine R_guardF rfl rfl rfl (fun hq => ?_) fun hq => ?_ | refine D_guardT rfl rfl rfl (fun hq => ?_) fun hq => ?_ | refine D_guardF rfl rfl rfl (fun hq => ?_) fun hq => ?_) <;> (try rw [hq]) <;> first | have hp := of_decide_eq_true hq | have hp := of_decide_eq_false hq | have hp := of_decide_eq_false (not_t hq) | have hp := of_decide_eq_true (not_f hq) | have hp := hq))
  all_goals first | exact ret_bool' rfl rfl | (exfalso; omega)

theorem l6Owned_f (c : SGraph) (hb : c.signals.length ≤ 8) : Fn Try.prog 104 [.agg (dSGraph c)] (.own 0) [.arr 3 1 (ints (outL c)) true] := by
  refine Fn_of Try.func104 rfl (by kernel_rfl) rfl rfl ?_
  intro w0 A hin
  have hz := len_dSig c.signals
  have hlen := pickN_len (outP c)
  repeat' (first | refine goZ ?_ | ((first | refine R_cond rfl (fun hq => ?_) fun hq => ?_ | refine R_guardT rfl rfl rfl (fun hq => ?_) fun hq => ?_ | refine R_guardF rfl rfl rfl (fun hq => ?_) fun hq => ?_ | refine D_guardT rfl rfl rfl (fun hq => ?_) fun hq => ?_ | refine D_guardF rfl rfl rfl (fun hq => ?_) fun hq => ?_) <;> (try rw [hq]) <;> first | have hp := of_decide_eq_true hq | have hp := of_decide_eq_false hq | have hp := of_decide_eq_false (not_t hq) | have hp := of_decide_eq_true (not_f hq) | have hp := hq))
  refine W_open 3 3 1 rfl ?_
  refine W_loop (fun k : Nat => ⟨_, [(1, .ptr 0 0), (3, .own 1), (7, .lit (.int .i64 c.signals.length)), (8, .lit (.int .i64 k))], [.cells 80 (dSGraph c), .arr 3 1 (ints (pickN (outP c) k)) true]⟩) (fun k => k ≤ c.signals.length) (fun k => c.signals.length - k) 0 (Nat.zero_le _) (weakZ []) ?_
  intro k hk
  have hk2 := hlen k
  repeat' (first | refine goZ ?_ | refine R_call rfl rfl rfl rfl (l6Own_f c k (by omega)) ?_ | refine R_callv rfl rfl rfl (l6Own_f c k (by omega)) rfl rfl ?_ | refine D_call rfl rfl rfl rfl (l6Own_f c k (by omega)) ?_ | ((first | refine R_cond rfl (fun hq => ?_) fun hq => ?_ | refine R_guardT rfl rfl rfl (fun hq => ?_) fun hq => ?_ | refine R_guardF rfl rfl rfl (fun hq => ?_) fun hq => ?_ | refine D_guardT rfl rfl rfl (fun hq => ?_) fun hq => ?_ | refine D_guardF rfl rfl rfl (fun hq => ?_) fun hq => ?_) <;> (try rw [hq]) <;> first | have hp := of_decide_eq_true hq | have hp := of_decide_eq_false hq | have hp := of_decide_eq_false (not_t hq) | have hp := of_decide_eq_true (not_f hq) | have hp := hq))
  · refine ⟨k + 1, by omega, by omega, ?_⟩
    simp only [pickN_yes (p := outP c) (k := k) (hq), ints_snoc]
    exact weakZ _
  · refine ⟨k + 1, by omega, by omega, ?_⟩
    simp only [pickN_no (p := outP c) (k := k) (hq)]
    exact weakZ _
  · exact ret_own rfl rfl (by rw [outL, show k = c.signals.length by omega])

theorem NonInputSignals_f (c : SGraph) : Fn Try.prog 52 [.agg (dSGraph c)] (.tup [.own 0, .lit (.bool (goodSG c))]) [.arr 3 1 (ints (nisL c)) true] := by
  refine Fn_of Try.func52 rfl (by kernel_rfl) rfl rfl ?_
  intro w0 A hin
  have hV := IsValidStateGraph_f c
  cases hg : goodSG c <;> rw [hg] at hV
  · repeat' (first | refine goZ ?_ | refine R_call rfl rfl rfl rfl (hV) ?_ | refine R_callv rfl rfl rfl (hV) rfl rfl ?_ | refine D_call rfl rfl rfl rfl (hV) ?_ | ((first | refine R_cond rfl (fun hq => ?_) fun hq => ?_ | refine R_guardT rfl rfl rfl (fun hq => ?_) fun hq => ?_ | refine R_guardF rfl rfl rfl (fun hq => ?_) fun hq => ?_ | refine D_guardT rfl rfl rfl (fun hq => ?_) fun hq => ?_ | refine D_guardF rfl rfl rfl (fun hq => ?_) fun hq => ?_) <;> (try rw [hq]) <;> first | have hp := of_decide_eq_true hq | have hp := of_decide_eq_false hq | have hp := of_decide_eq_false (not_t hq) | have hp := of_decide_eq_true (not_f hq) | have hp := hq))
    exact ret_nil_lit rfl (by simp [nisL, hg, ints]) rfl
  · have hb := goodSG_len hg
    repeat' (first | refine goZ ?_ | refine R_call rfl rfl rfl rfl (hV) ?_ | refine R_call rfl rfl rfl rfl (outputs_f c (by omega)) ?_ | refine R_callv rfl rfl rfl (hV) rfl rfl ?_ | refine R_callv rfl rfl rfl (outputs_f c (by omega)) rfl rfl ?_ | refine D_call rfl rfl rfl rfl (hV) ?_ | refine D_call rfl rfl rfl rfl (outputs_f c (by omega)) ?_ | ((first | refine R_cond rfl (fun hq => ?_) fun hq => ?_ | refine R_guardT rfl rfl rfl (fun hq => ?_) fun hq => ?_ | refine R_guardF rfl rfl rfl (fun hq => ?_) fun hq => ?_ | refine D_guardT rfl rfl rfl (fun hq => ?_) fun hq => ?_ | refine D_guardF rfl rfl rfl (fun hq => ?_) fun hq => ?_) <;> (try rw [hq]) <;> first | have hp := of_decide_eq_true hq | have hp := of_decide_eq_false hq | have hp := of_decide_eq_false (not_t hq) | have hp := of_decide_eq_true (not_f hq) | have hp := hq))
    exact ret_own_lit rfl rfl (by rw [nisL, hg, if_pos rfl]) rfl

theorem specNonInputSignals_f (c : SGraph) : Fn Try.prog 51 [.agg (dSGraph c)] (.tup [.own 0, .lit (.bool (goodSG c))]) [.arr 3 1 (ints (nisL c)) true] := by
  refine Fn_of Try.func51 rfl (by kernel_rfl) rfl rfl ?_
  intro w0 A hin
  have hV := l5Good_f c
  cases hg : goodSG c <;> rw [hg] at hV
  · repeat' (first | refine goZ ?_ | refine R_call rfl rfl rfl rfl (hV) ?_ | refine R_callv rfl rfl rfl (hV) rfl rfl ?_ | refine D_call rfl rfl rfl rfl (hV) ?_ | ((first | refine R_cond rfl (fun hq => ?_) fun hq => ?_ | refine R_guardT rfl rfl rfl (fun hq => ?_) fun hq => ?_ | refine R_guardF rfl rfl rfl (fun hq => ?_) fun hq => ?_ | refine D_guardT rfl rfl rfl (fun hq => ?_) fun hq => ?_ | refine D_guardF rfl rfl rfl (fun hq => ?_) fun hq => ?_) <;> (try rw [hq]) <;> first | have hp := of_decide_eq_true hq | have hp := of_decide_eq_false hq | have hp := of_decide_eq_false (not_t hq) | have hp := of_decide_eq_true (not_f hq) | have hp := hq))
    exact ret_nil_lit rfl (by simp [nisL, hg, ints]) rfl
  · have hb := goodSG_len hg
    repeat' (first | refine goZ ?_ | refine R_call rfl rfl rfl rfl (hV) ?_ | refine R_call rfl rfl rfl rfl (l6Owned_f c (by omega)) ?_ | refine R_callv rfl rfl rfl (hV) rfl rfl ?_ | refine R_callv rfl rfl rfl (l6Owned_f c (by omega)) rfl rfl ?_ | refine D_call rfl rfl rfl rfl (hV) ?_ | refine D_call rfl rfl rfl rfl (l6Owned_f c (by omega)) ?_ | ((first | refine R_cond rfl (fun hq => ?_) fun hq => ?_ | refine R_guardT rfl rfl rfl (fun hq => ?_) fun hq => ?_ | refine R_guardF rfl rfl rfl (fun hq => ?_) fun hq => ?_ | refine D_guardT rfl rfl rfl (fun hq => ?_) fun hq => ?_ | refine D_guardF rfl rfl rfl (fun hq => ?_) fun hq => ?_) <;> (try rw [hq]) <;> first | have hp := of_decide_eq_true hq | have hp := of_decide_eq_false hq | have hp := of_decide_eq_false (not_t hq) | have hp := of_decide_eq_true (not_f hq) | have hp := hq))
    exact ret_own_lit rfl rfl (by rw [nisL, hg, if_pos rfl]) rfl

noncomputable def askB (c : SGraph) (sig : Int) : Bool := goodSG c && decide (0 ≤ sig ∧ sig ≤ (c.signals.length : Int) - 1)
def staP (c : SGraph) (sig : Int) (v : Bool) (k : Nat) : Bool := decide (bAt (nth c.codes k) sig = bitI v) && !c.arcs.any (excP k sig)
def staL (c : SGraph) (sig : Int) (v : Bool) : List Int := pickN (staP c sig v) c.codes.length
noncomputable def stsL (c : SGraph) (sig : Int) (v : Bool) : List Int := if askB c sig then staL c sig v else []
theorem askB_good {c : SGraph} {sig : Int} (h : askB c sig = true) : goodSG c = true ∧ 0 ≤ sig ∧ sig ≤ (c.signals.length : Int) - 1 := by
  simp only [askB, Bool.and_eq_true, decide_eq_true_eq] at h; exact h
theorem goodSG_codes {c : SGraph} (h : goodSG c = true) : ∀ k : Nat, k < c.codes.length → bitsOk (nth c.codes k) ∧ ((nth c.codes k).size : Int) = c.signals.length := fun k hk => by
  simp only [goodSG, sgB, Bool.and_eq_true] at h
  exact codeB_ok (List.all_eq_true.1 h.1.2.1 _ (nth_mem hk))
theorem stsL_len (c : SGraph) (sig : Int) (v : Bool) : (stsL c sig v).length ≤ 300 := by
  unfold stsL
  split
  · rename_i h
    have := goodSG_len (askB_good h).1; have := pickN_len (staP c sig v) c.codes.length
    unfold staL; omega
  · simp

theorem bit_f (b : Bool) : Fn Try.prog 158 [.lit (.bool b)] (.lit (.int .u8 (bitI b))) [] := by
  refine Fn_of Try.func158 rfl (by kernel_rfl) rfl rfl ?_
  intro w0 A hin
  cases b
  · repeat' (first | refine goZ ?_ | ((first | refine R_cond rfl (fun hq => ?_) fun hq => ?_ | refine R_guardT rfl rfl rfl (fun hq => ?_) fun hq => ?_ | refine R_guardF rfl rfl rfl (fun hq => ?_) fun hq => ?_ | refine D_guardT rfl rfl rfl (fun hq => ?_) fun hq => ?_ | refine D_guardF rfl rfl rfl (fun hq => ?_) fun hq => ?_) <;> (try rw [hq]) <;> first | have hp := of_decide_eq_true hq | have hp := of_decide_eq_false hq | have hp := of_decide_eq_false (not_t hq) | have hp := of_decide_eq_true (not_f hq) | have hp := hq))
    exact ret_int' rfl rfl
  · repeat' (first | refine goZ ?_ | ((first | refine R_cond rfl (fun hq => ?_) fun hq => ?_ | refine R_guardT rfl rfl rfl (fun hq => ?_) fun hq => ?_ | refine R_guardF rfl rfl rfl (fun hq => ?_) fun hq => ?_ | refine D_guardT rfl rfl rfl (fun hq => ?_) fun hq => ?_ | refine D_guardF rfl rfl rfl (fun hq => ?_) fun hq => ?_) <;> (try rw [hq]) <;> first | have hp := of_decide_eq_true hq | have hp := of_decide_eq_false hq | have hp := of_decide_eq_false (not_t hq) | have hp := of_decide_eq_true (not_f hq) | have hp := hq))
    exact ret_int' rfl rfl

theorem l10Asked_f (c : SGraph) (sig : Int) : Fn Try.prog 110 [.agg (dSGraph c), .lit (.int .i64 sig)] (.lit (.bool (askB c sig))) [] := by
  refine Fn_of Try.func110 rfl (by kernel_rfl) rfl rfl ?_
  intro w0 A hin
  have hz := len_dSig c.signals
  have hl := given_agg hin (i := 0) (j := 0) rfl rfl
  have hV := l5Good_f c
  cases hg : goodSG c <;> rw [hg] at hV
  · repeat' (first | refine goZ ?_ | refine R_call rfl rfl rfl rfl (hV) ?_ | refine R_callv rfl rfl rfl (hV) rfl rfl ?_ | refine D_call rfl rfl rfl rfl (hV) ?_ | ((first | refine R_cond rfl (fun hq => ?_) fun hq => ?_ | refine R_guardT rfl rfl rfl (fun hq => ?_) fun hq => ?_ | refine R_guardF rfl rfl rfl (fun hq => ?_) fun hq => ?_ | refine D_guardT rfl rfl rfl (fun hq => ?_) fun hq => ?_ | refine D_guardF rfl rfl rfl (fun hq => ?_) fun hq => ?_) <;> (try rw [hq]) <;> first | have hp := of_decide_eq_true hq | have hp := of_decide_eq_false hq | have hp := of_decide_eq_false (not_t hq) | have hp := of_decide_eq_true (not_f hq) | have hp := hq))
    exact ret_bool' rfl (by rw [askB, hg, Bool.false_and])
  · repeat' (first | refine goZ ?_ | refine R_call rfl rfl rfl rfl (hV) ?_ | refine R_call rfl rfl rfl rfl (l1In_f _ _ _) ?_ | refine R_callv rfl rfl rfl (hV) rfl rfl ?_ | refine R_callv rfl rfl rfl (l1In_f _ _ _) rfl rfl ?_ | refine D_call rfl rfl rfl rfl (hV) ?_ | refine D_call rfl rfl rfl rfl (l1In_f _ _ _) ?_ | ((first | refine R_cond rfl (fun hq => ?_) fun hq => ?_ | refine R_guardT rfl rfl rfl (fun hq => ?_) fun hq => ?_ | refine R_guardF rfl rfl rfl (fun hq => ?_) fun hq => ?_ | refine D_guardT rfl rfl rfl (fun hq => ?_) fun hq => ?_ | refine D_guardF rfl rfl rfl (fun hq => ?_) fun hq => ?_) <;> (try rw [hq]) <;> first | have hp := of_decide_eq_true hq | have hp := of_decide_eq_false hq | have hp := of_decide_eq_false (not_t hq) | have hp := of_decide_eq_true (not_f hq) | have hp := hq))
    exact ret_bool' rfl (by rw [askB, hg, Bool.true_and, hz])

theorem hasSignal_f (c : SGraph) (sig : Int) : Fn Try.prog 112 [.agg (dSGraph c), .lit (.int .i64 sig)] (.lit (.bool (askB c sig))) [] := by
  refine Fn_of Try.func112 rfl (by kernel_rfl) rfl rfl ?_
  intro w0 A hin
  have hz := len_dSig c.signals
  have hl := given_agg hin (i := 0) (j := 0) rfl rfl
  have hV := IsValidStateGraph_f c
  cases hg : goodSG c <;> rw [hg] at hV
  · repeat' (first | refine goZ ?_ | refine R_call rfl rfl rfl rfl (hV) ?_ | refine R_callv rfl rfl rfl (hV) rfl rfl ?_ | refine D_call rfl rfl rfl rfl (hV) ?_ | ((first | refine R_cond rfl (fun hq => ?_) fun hq => ?_ | refine R_guardT rfl rfl rfl (fun hq => ?_) fun hq => ?_ | refine R_guardF rfl rfl rfl (fun hq => ?_) fun hq => ?_ | refine D_guardT rfl rfl rfl (fun hq => ?_) fun hq => ?_ | refine D_guardF rfl rfl rfl (fun hq => ?_) fun hq => ?_) <;> (try rw [hq]) <;> first | have hp := of_decide_eq_true hq | have hp := of_decide_eq_false hq | have hp := of_decide_eq_false (not_t hq) | have hp := of_decide_eq_true (not_f hq) | have hp := hq))
    exact ret_bool' rfl (by rw [askB, hg, Bool.false_and])
  · repeat' (first | refine goZ ?_ | refine R_call rfl rfl rfl rfl (hV) ?_ | refine R_call rfl rfl rfl rfl (within_f _ _ _) ?_ | refine R_callv rfl rfl rfl (hV) rfl rfl ?_ | refine R_callv rfl rfl rfl (within_f _ _ _) rfl rfl ?_ | refine D_call rfl rfl rfl rfl (hV) ?_ | refine D_call rfl rfl rfl rfl (within_f _ _ _) ?_ | ((first | refine R_cond rfl (fun hq => ?_) fun hq => ?_ | refine R_guardT rfl rfl rfl (fun hq => ?_) fun hq => ?_ | refine R_guardF rfl rfl rfl (fun hq => ?_) fun hq => ?_ | refine D_guardT rfl rfl rfl (fun hq => ?_) fun hq => ?_ | refine D_guardF rfl rfl rfl (fun hq => ?_) fun hq => ?_) <;> (try rw [hq]) <;> first | have hp := of_decide_eq_true hq | have hp := of_decide_eq_false hq | have hp := of_decide_eq_false (not_t hq) | have hp := of_decide_eq_true (not_f hq) | have hp := hq))
    exact ret_bool' rfl (by rw [askB, hg, Bool.true_and, hz])

theorem stable_f (c : SGraph) (sig : Int) (v : Bool) (h : askB c sig = true) : Fn Try.prog 113 [.agg (dSGraph c), .lit (.int .i64 sig), .lit (.bool v)] (.own 0) [.arr 3 1 (ints (staL c sig v)) true] := by
  refine Fn_of Try.func113 rfl (by kernel_rfl) rfl rfl ?_
  intro w0 A hin
  have hz := len_strs c.codes
  have hb := goodSG_len (askB_good h).1
  have hs := askB_good h
  have hlen := pickN_len (staP c sig v)
  repeat' (first | refine goZ ?_ | ((first | refine R_cond rfl (fun hq => ?_) fun hq => ?_ | refine R_guardT rfl rfl rfl (fun hq => ?_) fun hq => ?_ | refine R_guardF rfl rfl rfl (fun hq => ?_) fun hq => ?_ | refine D_guardT rfl rfl rfl (fun hq => ?_) fun hq => ?_ | refine D_guardF rfl rfl rfl (fun hq => ?_) fun hq => ?_) <;> (try rw [hq]) <;> first | have hp := of_decide_eq_true hq | have hp := of_decide_eq_false hq | have hp := of_decide_eq_false (not_t hq) | have hp := of_decide_eq_true (not_f hq) | have hp := hq))
  refine W_loop (fun k : Nat => ⟨_, [(1, .lit (.int .i64 sig)), (2, .lit (.bool v)), (3, .ptr 0 0), (7, .own 1), (12, .sh 1 (strs c.codes)), (13, .lit (.int .i64 c.codes.length)), (14, .lit (.int .i64 k))], [.cells 80 (dSGraph c), .arr 3 1 (ints (pickN (staP c sig v) k)) true]⟩) (fun k => k ≤ c.codes.length) (fun k => c.codes.length - k) 0 (Nat.zero_le _) (weakZ []) ?_
  intro k hk
  have hk2 := hlen k
  have hsz : (k : Int) < (c.codes.length : Int) → ((nth c.codes k).size : Int) = c.signals.length := fun h => (goodSG_codes hs.1 k (by omega)).2
  repeat' (first | refine goZ ?_ | refine R_call rfl rfl rfl rfl (bit_f _) ?_ | refine R_call rfl rfl rfl rfl (isExcited_f c k sig) ?_ | refine R_callv rfl rfl rfl (bit_f _) rfl rfl ?_ | refine R_callv rfl rfl rfl (isExcited_f c k sig) rfl rfl ?_ | refine D_call rfl rfl rfl rfl (bit_f _) ?_ | refine D_call rfl rfl rfl rfl (isExcited_f c k sig) ?_ | ((first | refine R_cond rfl (fun hq => ?_) fun hq => ?_ | refine R_guardT rfl rfl rfl (fun hq => ?_) fun hq => ?_ | refine R_guardF rfl rfl rfl (fun hq => ?_) fun hq => ?_ | refine D_guardT rfl rfl rfl (fun hq => ?_) fun hq => ?_ | refine D_guardF rfl rfl rfl (fun hq => ?_) fun hq => ?_) <;> (try rw [hq]) <;> first | have hp := of_decide_eq_true hq | have hp := of_decide_eq_false hq | have hp := of_decide_eq_false (not_t hq) | have hp := of_decide_eq_true (not_f hq) | have hp := hq))
  · refine ⟨k + 1, by omega, by omega, ?_⟩
    simp only [pickN_yes (p := staP c sig v) (k := k) (by rw [staP, Bool.and_eq_true, decide_eq_true_eq]; exact ⟨by assumption, hp⟩), ints_snoc]
    exact weakZ _
  · refine ⟨k + 1, by omega, by omega, ?_⟩
    simp only [pickN_no (p := staP c sig v) (k := k) (by rw [staP, hp, Bool.and_false])]
    exact weakZ _
  · refine ⟨k + 1, by omega, by omega, ?_⟩
    simp only [pickN_no (p := staP c sig v) (k := k) (by rw [staP, decide_eq_false hp, Bool.false_and])]
    exact weakZ _
  · exact ret_own rfl rfl (by rw [staL, show k = c.codes.length by omega])

theorem StableStates_f (c : SGraph) (sig : Int) (v : Bool) : Fn Try.prog 59 [.agg (dSGraph c), .lit (.int .i64 sig), .lit (.bool v)] (.tup [.own 0, .lit (.bool (askB c sig))]) [.arr 3 1 (ints (stsL c sig v)) true] := by
  refine Fn_of Try.func59 rfl (by kernel_rfl) rfl rfl ?_
  intro w0 A hin
  have hV := hasSignal_f c sig
  cases hg : askB c sig <;> rw [hg] at hV
  · repeat' (first | refine goZ ?_ | refine R_call rfl rfl rfl rfl (hV) ?_ | refine R_callv rfl rfl rfl (hV) rfl rfl ?_ | refine D_call rfl rfl rfl rfl (hV) ?_ | ((first | refine R_cond rfl (fun hq => ?_) fun hq => ?_ | refine R_guardT rfl rfl rfl (fun hq => ?_) fun hq => ?_ | refine R_guardF rfl rfl rfl (fun hq => ?_) fun hq => ?_ | refine D_guardT rfl rfl rfl (fun hq => ?_) fun hq => ?_ | refine D_guardF rfl rfl rfl (fun hq => ?_) fun hq => ?_) <;> (try rw [hq]) <;> first | have hp := of_decide_eq_true hq | have hp := of_decide_eq_false hq | have hp := of_decide_eq_false (not_t hq) | have hp := of_decide_eq_true (not_f hq) | have hp := hq))
    exact ret_nil_lit rfl (by simp [stsL, hg, ints]) rfl
  · repeat' (first | refine goZ ?_ | refine R_call rfl rfl rfl rfl (hV) ?_ | refine R_call rfl rfl rfl rfl (stable_f c sig v hg) ?_ | refine R_callv rfl rfl rfl (hV) rfl rfl ?_ | refine R_callv rfl rfl rfl (stable_f c sig v hg) rfl rfl ?_ | refine D_call rfl rfl rfl rfl (hV) ?_ | refine D_call rfl rfl rfl rfl (stable_f c sig v hg) ?_ | ((first | refine R_cond rfl (fun hq => ?_) fun hq => ?_ | refine R_guardT rfl rfl rfl (fun hq => ?_) fun hq => ?_ | refine R_guardF rfl rfl rfl (fun hq => ?_) fun hq => ?_ | refine D_guardT rfl rfl rfl (fun hq => ?_) fun hq => ?_ | refine D_guardF rfl rfl rfl (fun hq => ?_) fun hq => ?_) <;> (try rw [hq]) <;> first | have hp := of_decide_eq_true hq | have hp := of_decide_eq_false hq | have hp := of_decide_eq_false (not_t hq) | have hp := of_decide_eq_true (not_f hq) | have hp := hq))
    exact ret_own_lit rfl rfl (by rw [stsL, hg, if_pos rfl]) rfl

theorem specStableStates_f (c : SGraph) (sig : Int) (v : Bool) : Fn Try.prog 58 [.agg (dSGraph c), .lit (.int .i64 sig), .lit (.bool v)] (.tup [.own 0, .lit (.bool (askB c sig))]) [.arr 3 1 (ints (stsL c sig v)) true] := by
  refine Fn_of Try.func58 rfl (by kernel_rfl) rfl rfl ?_
  intro w0 A hin
  have hz := len_strs c.codes
  have hV := l10Asked_f c sig
  cases hg : askB c sig <;> rw [hg] at hV
  · repeat' (first | refine goZ ?_ | refine R_call rfl rfl rfl rfl (hV) ?_ | refine R_callv rfl rfl rfl (hV) rfl rfl ?_ | refine D_call rfl rfl rfl rfl (hV) ?_ | ((first | refine R_cond rfl (fun hq => ?_) fun hq => ?_ | refine R_guardT rfl rfl rfl (fun hq => ?_) fun hq => ?_ | refine R_guardF rfl rfl rfl (fun hq => ?_) fun hq => ?_ | refine D_guardT rfl rfl rfl (fun hq => ?_) fun hq => ?_ | refine D_guardF rfl rfl rfl (fun hq => ?_) fun hq => ?_) <;> (try rw [hq]) <;> first | have hp := of_decide_eq_true hq | have hp := of_decide_eq_false hq | have hp := of_decide_eq_false (not_t hq) | have hp := of_decide_eq_true (not_f hq) | have hp := hq))
    exact ret_nil_lit rfl (by simp [stsL, hg, ints]) rfl
  · have hb := goodSG_len (askB_good hg).1
    have hs := askB_good hg
    have hlen := pickN_len (staP c sig v)
    repeat' (first | refine goZ ?_ | refine R_call rfl rfl rfl rfl (hV) ?_ | refine R_callv rfl rfl rfl (hV) rfl rfl ?_ | refine D_call rfl rfl rfl rfl (hV) ?_ | ((first | refine R_cond rfl (fun hq => ?_) fun hq => ?_ | refine R_guardT rfl rfl rfl (fun hq => ?_) fun hq => ?_ | refine R_guardF rfl rfl rfl (fun hq => ?_) fun hq => ?_ | refine D_guardT rfl rfl rfl (fun hq => ?_) fun hq => ?_ | refine D_guardF rfl rfl rfl (fun hq => ?_) fun hq => ?_) <;> (try rw [hq]) <;> first | have hp := of_decide_eq_true hq | have hp := of_decide_eq_false hq | have hp := of_decide_eq_false (not_t hq) | have hp := of_decide_eq_true (not_f hq) | have hp := hq))
    refine W_open 8 3 1 rfl ?_
    refine W_loop (fun k : Nat => ⟨_, [(1, .lit (.int .i64 sig)), (2, .lit (.bool v)), (3, .ptr 0 0), (8, .own 1), (16, .sh 1 (strs c.codes)), (17, .lit (.int .i64 c.codes.length)), (18, .lit (.int .i64 k))], [.cells 80 (dSGraph c), .arr 3 1 (ints (pickN (staP c sig v) k)) true]⟩) (fun k => k ≤ c.codes.length) (fun k => c.codes.length - k) 0 (Nat.zero_le _) (weakZ []) ?_
    intro k hk
    have hk2 := hlen k
    have hsz : (k : Int) < (c.codes.length : Int) → ((nth c.codes k).size : Int) = c.signals.length := fun h => (goodSG_codes hs.1 k (by omega)).2
    have hbit : (k : Int) < (c.codes.length : Int) → decide (bAt (nth c.codes k) sig = bitI v) = (decide (bAt (nth c.codes k) sig = 49) == v) := fun h => by
      have h1 := hsz h
      have h2 := (goodSG_codes hs.1 k (by omega)).1 sig.toNat (by omega)
      rw [Int.toNat_of_nonneg hs.2.1] at h2
      rcases h2 with h2 | h2 <;> rw [h2] <;> cases v <;> rfl
    repeat' (first | refine goZ ?_ | refine R_call rfl rfl rfl rfl (l5Excited_f c k sig) ?_ | refine R_callv rfl rfl rfl (l5Excited_f c k sig) rfl rfl ?_ | refine D_call rfl rfl rfl rfl (l5Excited_f c k sig) ?_ | ((first | refine R_cond rfl (fun hq => ?_) fun hq => ?_ | refine R_guardT rfl rfl rfl (fun hq => ?_) fun hq => ?_ | refine R_guardF rfl rfl rfl (fun hq => ?_) fun hq => ?_ | refine D_guardT rfl rfl rfl (fun hq => ?_) fun hq => ?_ | refine D_guardF rfl rfl rfl (fun hq => ?_) fun hq => ?_) <;> (try rw [hq]) <;> first | have hp := of_decide_eq_true hq | have hp := of_decide_eq_false hq | have hp := of_decide_eq_false (not_t hq) | have hp := of_decide_eq_true (not_f hq) | have hp := hq))
    · refine ⟨k + 1, by omega, by omega, ?_⟩
      simp only [pickN_yes (p := staP c sig v) (k := k) (by rw [staP, hbit (by omega), beq_iff_eq.2 (by assumption), Bool.true_and]; exact hp), ints_snoc]
      exact weakZ _
    · refine ⟨k + 1, by omega, by omega, ?_⟩
      simp only [pickN_no (p := staP c sig v) (k := k) (by rw [staP, hp, Bool.and_false])]
      exact weakZ _
    · refine ⟨k + 1, by omega, by omega, ?_⟩
      simp only [pickN_no (p := staP c sig v) (k := k) (by rw [staP, hbit (by omega), hq, Bool.false_and])]
      exact weakZ _
    · exact ret_own_lit rfl rfl (by rw [stsL, hg, if_pos rfl, staL, show k = c.codes.length by omega]) rfl
end Go.Proofs.Ytpmiihejbmdkfaa
