/- Moves from a state, arcs from a state: what the reference's and the program's functions hand back. No condition. -/
import Derived.Test.YtpmiihejbmdkfaaDel
import Derived.Test.YtpmiihejbmdkfaaReach
import Derived.Test.YtpmiihejbmdkfaaExc
set_option linter.unusedSimpArgs false
set_option linter.unusedVariables false
set_option maxHeartbeats 2000000
namespace Go.Proofs.Ytpmiihejbmdkfaa
open Go.ChangeShapes Go.WideShapes Go.ChangeAt Go.RowKit

theorem mvL_len (r : RGraph) (k : Int) : (mvL r k).length ≤ 4000 := by
  unfold mvL mvB
  split
  · rename_i h
    simp only [Bool.and_eq_true] at h
    have := goodReach_len h.1; have := List.length_filter_le (fromK k) r.moves
    omega
  · simp

theorem MovesFrom1_f (m : Mv) (k : Int) : Fn Try.prog 95 [.agg (dMv m), .sptr [.lit (.int .i64 k)]] (.lit (.bool (!fromK k m))) [] := by
  refine Fn_of Try.func95 rfl (by kernel_rfl) rfl rfl ?_
  intro w0 A hin
  repeat' (first | refine goZ ?_ | ((first | refine R_cond rfl (fun hq => ?_) fun hq => ?_ | refine R_guardT rfl rfl rfl (fun hq => ?_) fun hq => ?_ | refine R_guardF rfl rfl rfl (fun hq => ?_) fun hq => ?_ | refine D_guardT rfl rfl rfl (fun hq => ?_) fun hq => ?_ | refine D_guardF rfl rfl rfl (fun hq => ?_) fun hq => ?_) <;> (try rw [hq]) <;> first | have hp := of_decide_eq_true hq | have hp := of_decide_eq_false hq | have hp := of_decide_eq_false (not_t hq) | have hp := of_decide_eq_true (not_f hq) | have hp := hq))
  exact ret_bool' rfl rfl

theorem MovesFrom_f (r : RGraph) (k : Int) : Fn Try.prog 39 [.agg (dRGraph r), .lit (.int .i64 k)] (.tup [.own 0, .lit (.bool (mvB r k))]) [.arr 119 3 ((mvL r k).map dMv) true] := by
  refine Fn_of Try.func39 rfl (by kernel_rfl) rfl rfl ?_
  intro w0 A hin
  have hV := isReach_f r
  have hI := within_f k 0 (((strs r.marks).length : Int) - 1)
  have hzs := len_strs r.marks
  have hzm := len_dMv r.moves
  have hm := given_agg hin (i := 0) (j := 0) rfl rfl
  rw [hzs] at hm
  have hfl : ∀ l : List Mv, Flat (l.map dMv) := fun l => flat_map (by simp [dMv, isLit])
  cases hg : goodReach r <;> rw [hg] at hV
  · repeat' (first | refine goZ ?_ | refine R_callZ rfl (hV) rfl rfl rfl ?_ | refine R_callvZ rfl (hV) rfl rfl rfl rfl ?_ | refine D_callZ rfl (hV) rfl rfl rfl ?_ | ((first | refine R_cond rfl (fun hq => ?_) fun hq => ?_ | refine R_guardT rfl rfl rfl (fun hq => ?_) fun hq => ?_ | refine R_guardF rfl rfl rfl (fun hq => ?_) fun hq => ?_ | refine D_guardT rfl rfl rfl (fun hq => ?_) fun hq => ?_ | refine D_guardF rfl rfl rfl (fun hq => ?_) fun hq => ?_) <;> (try rw [hq]) <;> first | have hp := of_decide_eq_true hq | have hp := of_decide_eq_false hq | have hp := of_decide_eq_false (not_t hq) | have hp := of_decide_eq_true (not_f hq) | have hp := hq))
    exact ret_nil_lit rfl (by simp [mvL, mvB, hg]) (by simp [mvB, hg])
  · obtain ⟨h1, h2, h3⟩ := goodReach_len hg
    cases hb : decide (0 ≤ k ∧ k ≤ ((strs r.marks).length : Int) - 1) <;> rw [hb] at hI <;> rw [hzs] at hb
    · repeat' (first | refine goZ ?_ | refine R_callZ rfl (hV) rfl rfl rfl ?_ | refine R_callZ rfl (hI) rfl rfl rfl ?_ | refine R_callvZ rfl (hV) rfl rfl rfl rfl ?_ | refine R_callvZ rfl (hI) rfl rfl rfl rfl ?_ | refine D_callZ rfl (hV) rfl rfl rfl ?_ | refine D_callZ rfl (hI) rfl rfl rfl ?_ | ((first | refine R_cond rfl (fun hq => ?_) fun hq => ?_ | refine R_guardT rfl rfl rfl (fun hq => ?_) fun hq => ?_ | refine R_guardF rfl rfl rfl (fun hq => ?_) fun hq => ?_ | refine D_guardT rfl rfl rfl (fun hq => ?_) fun hq => ?_ | refine D_guardF rfl rfl rfl (fun hq => ?_) fun hq => ?_) <;> (try rw [hq]) <;> first | have hp := of_decide_eq_true hq | have hp := of_decide_eq_false hq | have hp := of_decide_eq_false (not_t hq) | have hp := of_decide_eq_true (not_f hq) | have hp := hq))
      exact ret_nil_lit rfl (by simp only [mvL, mvB, hg, hb]; rfl) (by simp only [mvB, hg, hb]; rfl)
    · have hD := DeleteFunc_Mv_m r.moves (fun m => !fromK k m) 95 [.lit (.int .i64 k)] (by omega) fun m _ => MovesFrom1_f m k
      repeat' (first | refine goZ ?_ | refine R_callZ rfl (hV) rfl rfl rfl ?_ | refine R_callZ rfl (hI) rfl rfl rfl ?_ | refine R_callZ rfl (Clone_Mv_f r.moves (by omega)) rfl rfl rfl ?_ | refine R_callvZ rfl (hV) rfl rfl rfl rfl ?_ | refine R_callvZ rfl (hI) rfl rfl rfl rfl ?_ | refine R_callvZ rfl (Clone_Mv_f r.moves (by omega)) rfl rfl rfl rfl ?_ | refine R_callM rfl (hD) rfl rfl rfl rfl rfl rfl rfl rfl (by first | exact hfl _ | exact flat_ints _) ?_ | refine D_callZ rfl (hV) rfl rfl rfl ?_ | refine D_callZ rfl (hI) rfl rfl rfl ?_ | refine D_callZ rfl (Clone_Mv_f r.moves (by omega)) rfl rfl rfl ?_ | ((first | refine R_cond rfl (fun hq => ?_) fun hq => ?_ | refine R_guardT rfl rfl rfl (fun hq => ?_) fun hq => ?_ | refine R_guardF rfl rfl rfl (fun hq => ?_) fun hq => ?_ | refine D_guardT rfl rfl rfl (fun hq => ?_) fun hq => ?_ | refine D_guardF rfl rfl rfl (fun hq => ?_) fun hq => ?_) <;> (try rw [hq]) <;> first | have hp := of_decide_eq_true hq | have hp := of_decide_eq_false hq | have hp := of_decide_eq_false (not_t hq) | have hp := of_decide_eq_true (not_f hq) | have hp := hq))
      exact ret_own_lit rfl rfl (by simp only [mvL, mvB, hg, hb]; simp) (by simp only [mvB, hg, hb]; rfl)

def fromA (k : Int) (a : ArcD) : Bool := decide (a.src = k)
noncomputable def afL (c : SGraph) (k : Int) : List ArcD := if stateB c k then c.arcs.filter (fromA k) else []
theorem afL_len (c : SGraph) (k : Int) : (afL c k).length ≤ 4000 := by
  unfold afL stateB
  split
  · rename_i h
    simp only [Bool.and_eq_true] at h
    have := goodSG_len h.1; have := List.length_filter_le (fromA k) c.arcs
    omega
  · simp

theorem arcsFrom1_f (a : ArcD) (k : Int) : Fn Try.prog 157 [.agg (dArcD a), .sptr [.lit (.int .i64 k)]] (.lit (.bool (!fromA k a))) [] := by
  refine Fn_of Try.func157 rfl (by kernel_rfl) rfl rfl ?_
  intro w0 A hin
  repeat' (first | refine goZ ?_ | ((first | refine R_cond rfl (fun hq => ?_) fun hq => ?_ | refine R_guardT rfl rfl rfl (fun hq => ?_) fun hq => ?_ | refine R_guardF rfl rfl rfl (fun hq => ?_) fun hq => ?_ | refine D_guardT rfl rfl rfl (fun hq => ?_) fun hq => ?_ | refine D_guardF rfl rfl rfl (fun hq => ?_) fun hq => ?_) <;> (try rw [hq]) <;> first | have hp := of_decide_eq_true hq | have hp := of_decide_eq_false hq | have hp := of_decide_eq_false (not_t hq) | have hp := of_decide_eq_true (not_f hq) | have hp := hq))
  exact ret_bool' rfl rfl

theorem arcsFrom_f (c : SGraph) (k : Int) (hb : c.arcs.length ≤ 4000) : Fn Try.prog 108 [.agg (dSGraph c), .lit (.int .i64 k)] (.own 0) [.arr 140 4 ((c.arcs.filter (fromA k)).map dArcD) true] := by
  refine Fn_of Try.func108 rfl (by kernel_rfl) rfl rfl ?_
  intro w0 A hin
  have hfl : ∀ l : List ArcD, Flat (l.map dArcD) := fun l => flat_map (by simp [dArcD, isLit])
  have hD := DeleteFunc_ArcD_m c.arcs (fun m => !fromA k m) 157 [.lit (.int .i64 k)] (by omega) fun m _ => arcsFrom1_f m k
  repeat' (first | refine goZ ?_ | refine R_callZ rfl (Clone_ArcD_f c.arcs (by omega)) rfl rfl rfl ?_ | refine R_callvZ rfl (Clone_ArcD_f c.arcs (by omega)) rfl rfl rfl rfl ?_ | refine R_callM rfl (hD) rfl rfl rfl rfl rfl rfl rfl rfl (by first | exact hfl _ | exact flat_ints _) ?_ | refine D_callZ rfl (Clone_ArcD_f c.arcs (by omega)) rfl rfl rfl ?_ | ((first | refine R_cond rfl (fun hq => ?_) fun hq => ?_ | refine R_guardT rfl rfl rfl (fun hq => ?_) fun hq => ?_ | refine R_guardF rfl rfl rfl (fun hq => ?_) fun hq => ?_ | refine D_guardT rfl rfl rfl (fun hq => ?_) fun hq => ?_ | refine D_guardF rfl rfl rfl (fun hq => ?_) fun hq => ?_) <;> (try rw [hq]) <;> first | have hp := of_decide_eq_true hq | have hp := of_decide_eq_false hq | have hp := of_decide_eq_false (not_t hq) | have hp := of_decide_eq_true (not_f hq) | have hp := hq))
  exact ret_own rfl rfl (by simp)

theorem ArcsFrom_f (c : SGraph) (k : Int) : Fn Try.prog 54 [.agg (dSGraph c), .lit (.int .i64 k)] (.tup [.own 0, .lit (.bool (stateB c k))]) [.arr 140 4 ((afL c k).map dArcD) true] := by
  refine Fn_of Try.func54 rfl (by kernel_rfl) rfl rfl ?_
  intro w0 A hin
  have hV := IsValidStateGraph_f c
  have hI := within_f k 0 (((strs c.codes).length : Int) - 1)
  have hzs := len_strs c.codes
  have hm := given_agg hin (i := 0) (j := 1) rfl rfl
  rw [hzs] at hm
  cases hg : goodSG c <;> rw [hg] at hV
  · repeat' (first | refine goZ ?_ | refine R_callZ rfl (hV) rfl rfl rfl ?_ | refine R_callvZ rfl (hV) rfl rfl rfl rfl ?_ | refine D_callZ rfl (hV) rfl rfl rfl ?_ | ((first | refine R_cond rfl (fun hq => ?_) fun hq => ?_ | refine R_guardT rfl rfl rfl (fun hq => ?_) fun hq => ?_ | refine R_guardF rfl rfl rfl (fun hq => ?_) fun hq => ?_ | refine D_guardT rfl rfl rfl (fun hq => ?_) fun hq => ?_ | refine D_guardF rfl rfl rfl (fun hq => ?_) fun hq => ?_) <;> (try rw [hq]) <;> first | have hp := of_decide_eq_true hq | have hp := of_decide_eq_false hq | have hp := of_decide_eq_false (not_t hq) | have hp := of_decide_eq_true (not_f hq) | have hp := hq))
    exact ret_nil_lit rfl (by simp [afL, stateB, hg]) (by simp [stateB, hg])
  · have hb3 := goodSG_len hg
    cases hb : decide (0 ≤ k ∧ k ≤ ((strs c.codes).length : Int) - 1) <;> rw [hb] at hI <;> rw [hzs] at hb
    · repeat' (first | refine goZ ?_ | refine R_callZ rfl (hV) rfl rfl rfl ?_ | refine R_callZ rfl (hI) rfl rfl rfl ?_ | refine R_callvZ rfl (hV) rfl rfl rfl rfl ?_ | refine R_callvZ rfl (hI) rfl rfl rfl rfl ?_ | refine D_callZ rfl (hV) rfl rfl rfl ?_ | refine D_callZ rfl (hI) rfl rfl rfl ?_ | ((first | refine R_cond rfl (fun hq => ?_) fun hq => ?_ | refine R_guardT rfl rfl rfl (fun hq => ?_) fun hq => ?_ | refine R_guardF rfl rfl rfl (fun hq => ?_) fun hq => ?_ | refine D_guardT rfl rfl rfl (fun hq => ?_) fun hq => ?_ | refine D_guardF rfl rfl rfl (fun hq => ?_) fun hq => ?_) <;> (try rw [hq]) <;> first | have hp := of_decide_eq_true hq | have hp := of_decide_eq_false hq | have hp := of_decide_eq_false (not_t hq) | have hp := of_decide_eq_true (not_f hq) | have hp := hq))
      exact ret_nil_lit rfl (by simp only [afL, stateB, hg, hb]; rfl) (by simp only [stateB, hg, hb]; rfl)
    · repeat' (first | refine goZ ?_ | refine R_callZ rfl (hV) rfl rfl rfl ?_ | refine R_callZ rfl (hI) rfl rfl rfl ?_ | refine R_callZ rfl (arcsFrom_f c k (by omega)) rfl rfl rfl ?_ | refine R_callvZ rfl (hV) rfl rfl rfl rfl ?_ | refine R_callvZ rfl (hI) rfl rfl rfl rfl ?_ | refine R_callvZ rfl (arcsFrom_f c k (by omega)) rfl rfl rfl rfl ?_ | refine D_callZ rfl (hV) rfl rfl rfl ?_ | refine D_callZ rfl (hI) rfl rfl rfl ?_ | refine D_callZ rfl (arcsFrom_f c k (by omega)) rfl rfl rfl ?_ | ((first | refine R_cond rfl (fun hq => ?_) fun hq => ?_ | refine R_guardT rfl rfl rfl (fun hq => ?_) fun hq => ?_ | refine R_guardF rfl rfl rfl (fun hq => ?_) fun hq => ?_ | refine D_guardT rfl rfl rfl (fun hq => ?_) fun hq => ?_ | refine D_guardF rfl rfl rfl (fun hq => ?_) fun hq => ?_) <;> (try rw [hq]) <;> first | have hp := of_decide_eq_true hq | have hp := of_decide_eq_false hq | have hp := of_decide_eq_false (not_t hq) | have hp := of_decide_eq_true (not_f hq) | have hp := hq))
      exact ret_own_lit rfl rfl (by simp only [afL, stateB, hg, hb]; simp) (by simp only [stateB, hg, hb]; rfl)

theorem l5From_f (c : SGraph) (k : Int) (hb : c.arcs.length ≤ 4000) : Fn Try.prog 107 [.agg (dSGraph c), .lit (.int .i64 k)] (.own 0) [.arr 140 4 ((c.arcs.filter (fromA k)).map dArcD) true] := by
  refine Fn_of Try.func107 rfl (by kernel_rfl) rfl rfl ?_
  intro w0 A hin
  have hza := len_dArcD c.arcs
  repeat' (first | refine goZ ?_ | ((first | refine R_cond rfl (fun hq => ?_) fun hq => ?_ | refine R_guardT rfl rfl rfl (fun hq => ?_) fun hq => ?_ | refine R_guardF rfl rfl rfl (fun hq => ?_) fun hq => ?_ | refine D_guardT rfl rfl rfl (fun hq => ?_) fun hq => ?_ | refine D_guardF rfl rfl rfl (fun hq => ?_) fun hq => ?_) <;> (try rw [hq]) <;> first | have hp := of_decide_eq_true hq | have hp := of_decide_eq_false hq | have hp := of_decide_eq_false (not_t hq) | have hp := of_decide_eq_true (not_f hq) | have hp := hq))
  refine W_open 5 140 4 rfl ?_
  refine W_loop (fun j : Nat => ⟨_, [(1, .lit (.int .i64 k)), (5, .own 1), (9, .sh 4 (c.arcs.map dArcD)), (10, .lit (.int .i64 c.arcs.length)), (11, .lit (.int .i64 j))], [.cells 80 (dSGraph c), .arr 140 4 (((c.arcs.take j).filter (fromA k)).map dArcD) true]⟩) (fun j => j ≤ c.arcs.length) (fun j => c.arcs.length - j) 0 (Nat.zero_le _) (weakZ []) ?_
  intro j hj
  have hf := fil_len (l := c.arcs) (p := fromA k) (k := j)
  repeat' (first | refine goZ ?_ | ((first | refine R_cond rfl (fun hq => ?_) fun hq => ?_ | refine R_guardT rfl rfl rfl (fun hq => ?_) fun hq => ?_ | refine R_guardF rfl rfl rfl (fun hq => ?_) fun hq => ?_ | refine D_guardT rfl rfl rfl (fun hq => ?_) fun hq => ?_ | refine D_guardF rfl rfl rfl (fun hq => ?_) fun hq => ?_) <;> (try rw [hq]) <;> first | have hp := of_decide_eq_true hq | have hp := of_decide_eq_false hq | have hp := of_decide_eq_false (not_t hq) | have hp := of_decide_eq_true (not_f hq) | have hp := hq))
  · refine ⟨j + 1, by omega, by omega, ?_⟩
    simp only [fil_yes (p := fromA k) (show j < c.arcs.length by omega) (by simpa [fromA] using hq), map_snoc]
    exact weakZ _
  · refine ⟨j + 1, by omega, by omega, ?_⟩
    simp only [fil_no (p := fromA k) (show j < c.arcs.length by omega) (by simpa [fromA] using hq)]
    exact weakZ _
  · exact ret_own rfl rfl (by rw [fil_all (by omega)])

theorem specArcsFrom_f (c : SGraph) (k : Int) : Fn Try.prog 53 [.agg (dSGraph c), .lit (.int .i64 k)] (.tup [.own 0, .lit (.bool (stateB c k))]) [.arr 140 4 ((afL c k).map dArcD) true] := by
  refine Fn_of Try.func53 rfl (by kernel_rfl) rfl rfl ?_
  intro w0 A hin
  have hV := l5State_f c k
  cases hb : stateB c k <;> rw [hb] at hV
  · repeat' (first | refine goZ ?_ | refine R_callZ rfl (hV) rfl rfl rfl ?_ | refine R_callvZ rfl (hV) rfl rfl rfl rfl ?_ | refine D_callZ rfl (hV) rfl rfl rfl ?_ | ((first | refine R_cond rfl (fun hq => ?_) fun hq => ?_ | refine R_guardT rfl rfl rfl (fun hq => ?_) fun hq => ?_ | refine R_guardF rfl rfl rfl (fun hq => ?_) fun hq => ?_ | refine D_guardT rfl rfl rfl (fun hq => ?_) fun hq => ?_ | refine D_guardF rfl rfl rfl (fun hq => ?_) fun hq => ?_) <;> (try rw [hq]) <;> first | have hp := of_decide_eq_true hq | have hp := of_decide_eq_false hq | have hp := of_decide_eq_false (not_t hq) | have hp := of_decide_eq_true (not_f hq) | have hp := hq))
    exact ret_nil_lit rfl (by simp [afL, hb]) rfl
  · have hg : goodSG c = true := by simp only [stateB, Bool.and_eq_true] at hb; exact hb.1
    have hb3 := goodSG_len hg
    repeat' (first | refine goZ ?_ | refine R_callZ rfl (hV) rfl rfl rfl ?_ | refine R_callZ rfl (l5From_f c k (by omega)) rfl rfl rfl ?_ | refine R_callvZ rfl (hV) rfl rfl rfl rfl ?_ | refine R_callvZ rfl (l5From_f c k (by omega)) rfl rfl rfl rfl ?_ | refine D_callZ rfl (hV) rfl rfl rfl ?_ | refine D_callZ rfl (l5From_f c k (by omega)) rfl rfl rfl ?_ | ((first | refine R_cond rfl (fun hq => ?_) fun hq => ?_ | refine R_guardT rfl rfl rfl (fun hq => ?_) fun hq => ?_ | refine R_guardF rfl rfl rfl (fun hq => ?_) fun hq => ?_ | refine D_guardT rfl rfl rfl (fun hq => ?_) fun hq => ?_ | refine D_guardF rfl rfl rfl (fun hq => ?_) fun hq => ?_) <;> (try rw [hq]) <;> first | have hp := of_decide_eq_true hq | have hp := of_decide_eq_false hq | have hp := of_decide_eq_false (not_t hq) | have hp := of_decide_eq_true (not_f hq) | have hp := hq))
    exact ret_own_lit rfl rfl (by simp [afL, hb]) rfl
end Go.Proofs.Ytpmiihejbmdkfaa
