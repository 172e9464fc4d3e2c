/- Reachability graphs: what the reference's and the program's functions hand back. No condition. -/
import Derived.Test.YtpmiihejbmdkfaaReachC
import Derived.Test.YtpmiihejbmdkfaaEna
set_option linter.unusedSimpArgs false
set_option linter.unusedVariables false
set_option maxHeartbeats 2000000
namespace Go.Proofs.Ytpmiihejbmdkfaa
open Go.ChangeShapes Go.WideShapes Go.ChangeAt Go.RowKit

theorem l4Good_f (r : RGraph) : Fn Try.prog 85 [.agg (dRGraph r)] (.lit (.bool (goodReach r))) [] := by
  refine Fn.of_lit trivial (plain_of Try.func85 (by kernel_rfl) (by kernel_rfl)) fun w us h => ?_
  obtain ⟨u, rfl, h1⟩ := vxs_one h
  obtain ⟨us, rfl, h2⟩ := h1.agg_inv
  have hR := br_RGraph.of_vxs rfl h2
  obtain ⟨a, c, a', c', rfl⟩ := shape_RGraph hR
  exact l4Good_c w a c a' c' r hR
theorem isReach_f (r : RGraph) : Fn Try.prog 88 [.agg (dRGraph r)] (.lit (.bool (goodReach r))) [] := by
  refine Fn.of_lit trivial (plain_of Try.func88 (by kernel_rfl) (by kernel_rfl)) fun w us h => ?_
  obtain ⟨u, rfl, h1⟩ := vxs_one h
  obtain ⟨us, rfl, h2⟩ := h1.agg_inv
  have hR := br_RGraph.of_vxs rfl h2
  obtain ⟨a, c, a', c', rfl⟩ := shape_RGraph hR
  exact isReach_c w a c a' c' r hR

theorem goodReach_len {r : RGraph} (h : goodReach r = true) : 1 ≤ r.marks.length ∧ r.marks.length ≤ 300 ∧ r.moves.length ≤ 4000 := by
  simp only [goodReach, Bool.and_eq_true, decide_eq_true_eq] at h; omega
theorem goodReach_mv {r : RGraph} (h : goodReach r = true) : ∀ m ∈ r.moves, (0 ≤ m.src ∧ m.src < r.marks.length) ∧ (0 ≤ m.dst ∧ m.dst < r.marks.length) ∧ 0 ≤ m.by_ ∧ m.by_ ≤ 23 := by
  intro m hm
  simp only [goodReach, Bool.and_eq_true, List.all_eq_true] at h
  have := h.2 m hm
  simp only [goodMv, Bool.and_eq_true, decide_eq_true_eq] at this
  omega

/-- What a list's part that a test takes gains by one element more. -/
theorem fil_yes {α : Type} [Inhabited α] {l : List α} {p : α → Bool} {k : Nat} (hk : k < l.length) (h : p (nth l k) = true) : (l.take (k + 1)).filter p = (l.take k).filter p ++ [nth l k] := by
  rw [take_nth hk, List.filter_append]; simp [h]
theorem fil_no {α : Type} [Inhabited α] {l : List α} {p : α → Bool} {k : Nat} (hk : k < l.length) (h : p (nth l k) = false) : (l.take (k + 1)).filter p = (l.take k).filter p := by
  rw [take_nth hk, List.filter_append]; simp [h]
theorem fil_all {α : Type} {l : List α} {p : α → Bool} {k : Nat} (hk : ¬ k < l.length) : (l.take k).filter p = l.filter p := by
  rw [List.take_of_length_le (by omega)]
theorem fil_len {α : Type} {l : List α} {p : α → Bool} {k : Nat} : ((l.take k).filter p).length ≤ l.length :=
  Nat.le_trans (List.length_filter_le _ _) (by simp; omega)
theorem map_snoc {α β : Type} (f : α → β) (l : List α) (x : α) : (l ++ [x]).map f = l.map f ++ [f x] := by simp

def fromK (k : Int) (m : Mv) : Bool := decide (m.src = k)
def mvB (r : RGraph) (k : Int) : Bool := goodReach r && decide (0 ≤ k ∧ k ≤ (r.marks.length : Int) - 1)
def mvL (r : RGraph) (k : Int) : List Mv := if mvB r k then r.moves.filter (fromK k) else []

theorem specMovesFrom_f (r : RGraph) (k : Int) : Fn Try.prog 38 [.agg (dRGraph r), .lit (.int .i64 k)] (.tup [.own 0, .lit (.bool (mvB r k))]) [.arr 119 3 ((mvL r k).map dMv) true] := by
  refine Fn_of Try.func38 rfl (by kernel_rfl) rfl rfl ?_
  intro w0 A hin
  have hV := l4Good_f r
  have hI := l1In_f k 0 (((strs r.marks).length : Int) - 1)
  have hzs := len_strs r.marks
  have hzm := len_dMv r.moves
  have hm := given_agg hin (i := 0) (j := 0) rfl rfl
  rw [hzs] at hm
  cases hg : goodReach r <;> rw [hg] at hV
  · repeat' (first | refine goZ ?_ | refine R_callZ rfl (hV) rfl rfl rfl ?_ | refine R_callvZ rfl (hV) rfl rfl rfl rfl ?_ | refine D_callZ rfl (hV) rfl rfl rfl ?_ | ((first | refine R_cond rfl (fun hq => ?_) fun hq => ?_ | refine R_guardT rfl rfl rfl (fun hq => ?_) fun hq => ?_ | refine R_guardF rfl rfl rfl (fun hq => ?_) fun hq => ?_ | refine D_guardT rfl rfl rfl (fun hq => ?_) fun hq => ?_ | refine D_guardF rfl rfl rfl (fun hq => ?_) fun hq => ?_) <;> (try rw [hq]) <;> first | have hp := of_decide_eq_true hq | have hp := of_decide_eq_false hq | have hp := of_decide_eq_false (not_t hq) | have hp := of_decide_eq_true (not_f hq) | have hp := hq))
    exact ret_nil_lit rfl (by simp [mvL, mvB, hg]) (by simp [mvB, hg])
  · obtain ⟨h1, h2, h3⟩ := goodReach_len hg
    cases hb : decide (0 ≤ k ∧ k ≤ ((strs r.marks).length : Int) - 1) <;> rw [hb] at hI <;> rw [hzs] at hb
    · repeat' (first | refine goZ ?_ | refine R_callZ rfl (hV) rfl rfl rfl ?_ | refine R_callZ rfl (hI) rfl rfl rfl ?_ | refine R_callvZ rfl (hV) rfl rfl rfl rfl ?_ | refine R_callvZ rfl (hI) rfl rfl rfl rfl ?_ | refine D_callZ rfl (hV) rfl rfl rfl ?_ | refine D_callZ rfl (hI) rfl rfl rfl ?_ | ((first | refine R_cond rfl (fun hq => ?_) fun hq => ?_ | refine R_guardT rfl rfl rfl (fun hq => ?_) fun hq => ?_ | refine R_guardF rfl rfl rfl (fun hq => ?_) fun hq => ?_ | refine D_guardT rfl rfl rfl (fun hq => ?_) fun hq => ?_ | refine D_guardF rfl rfl rfl (fun hq => ?_) fun hq => ?_) <;> (try rw [hq]) <;> first | have hp := of_decide_eq_true hq | have hp := of_decide_eq_false hq | have hp := of_decide_eq_false (not_t hq) | have hp := of_decide_eq_true (not_f hq) | have hp := hq))
      exact ret_nil_lit rfl (by simp only [mvL, mvB, hg, hb]; rfl) (by simp only [mvB, hg, hb]; rfl)
    · repeat' (first | refine goZ ?_ | refine R_callZ rfl (hV) rfl rfl rfl ?_ | refine R_callZ rfl (hI) rfl rfl rfl ?_ | refine R_callvZ rfl (hV) rfl rfl rfl rfl ?_ | refine R_callvZ rfl (hI) rfl rfl rfl rfl ?_ | refine D_callZ rfl (hV) rfl rfl rfl ?_ | refine D_callZ rfl (hI) rfl rfl rfl ?_ | ((first | refine R_cond rfl (fun hq => ?_) fun hq => ?_ | refine R_guardT rfl rfl rfl (fun hq => ?_) fun hq => ?_ | refine R_guardF rfl rfl rfl (fun hq => ?_) fun hq => ?_ | refine D_guardT rfl rfl rfl (fun hq => ?_) fun hq => ?_ | refine D_guardF rfl rfl rfl (fun hq => ?_) fun hq => ?_) <;> (try rw [hq]) <;> first | have hp := of_decide_eq_true hq | have hp := of_decide_eq_false hq | have hp := of_decide_eq_false (not_t hq) | have hp := of_decide_eq_true (not_f hq) | have hp := hq))
      refine W_open 6 119 3 rfl ?_
      refine W_loop (fun j : Nat => ⟨_, [(1, .lit (.int .i64 k)), (6, .own 1), (22, .sh 3 (r.moves.map dMv)), (23, .lit (.int .i64 r.moves.length)), (24, .lit (.int .i64 j))], [.cells 62 (dRGraph r), .arr 119 3 (((r.moves.take j).filter (fromK k)).map dMv) true]⟩) (fun j => j ≤ r.moves.length) (fun j => r.moves.length - j) 0 (Nat.zero_le _) (weakZ []) ?_
      intro j hj
      have hf := fil_len (l := r.moves) (p := fromK k) (k := j)
      repeat' (first | refine goZ ?_ | ((first | refine R_cond rfl (fun hq => ?_) fun hq => ?_ | refine R_guardT rfl rfl rfl (fun hq => ?_) fun hq => ?_ | refine R_guardF rfl rfl rfl (fun hq => ?_) fun hq => ?_ | refine D_guardT rfl rfl rfl (fun hq => ?_) fun hq => ?_ | refine D_guardF rfl rfl rfl (fun hq => ?_) fun hq => ?_) <;> (try rw [hq]) <;> first | have hp := of_decide_eq_true hq | have hp := of_decide_eq_false hq | have hp := of_decide_eq_false (not_t hq) | have hp := of_decide_eq_true (not_f hq) | have hp := hq))
      · refine ⟨j + 1, by omega, by omega, ?_⟩
        simp only [fil_yes (p := fromK k) (show j < r.moves.length by omega) (by simpa [fromK] using hq), map_snoc]
        exact weakZ _
      · refine ⟨j + 1, by omega, by omega, ?_⟩
        simp only [fil_no (p := fromK k) (show j < r.moves.length by omega) (by simpa [fromK] using hq)]
        exact weakZ _
      · exact ret_own_lit rfl rfl (by simp only [mvL, mvB, hg, hb]; rw [fil_all (by omega)]; rfl) (by simp only [mvB, hg, hb]; rfl)

def stuck (r : RGraph) (k : Nat) : Bool := !r.moves.any (fromK k)
def deadL (r : RGraph) : List Int := if goodReach r then pickN (stuck r) r.marks.length else []
theorem deadL_len (r : RGraph) : (deadL r).length ≤ 1048576 := by
  unfold deadL
  split
  · rename_i h
    have := goodReach_len h
    have := pickN_len (stuck r) r.marks.length
    omega
  · simp

end Go.Proofs.Ytpmiihejbmdkfaa
