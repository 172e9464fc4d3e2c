/- Transitions of a signal, visible labels, unused places, dead transitions: what the reference's and the program's functions hand back. No condition. -/
import Derived.Test.YtpmiihejbmdkfaaReach
set_option linter.unusedSimpArgs false
set_option linter.unusedVariables false
set_option maxHeartbeats 2000000
namespace Go.Proofs.Ytpmiihejbmdkfaa
open Go.ChangeShapes Go.WideShapes Go.ChangeAt Go.RowKit

theorem goodStg_len {s : Stg} (h : goodStg s = true) : s.labels.length = s.net.trs.length ∧ s.net.trs.length ≤ 24 ∧ 1 ≤ s.signals.length ∧ s.signals.length ≤ 8 ∧ 1 ≤ s.net.places ∧ s.net.places ≤ 40 := by
  simp only [goodStg, goodMark, goodNet, sigsB, Bool.and_eq_true, decide_eq_true_eq] at h; omega

theorem start_le (s : Stg) : s.start.size ≤ szStg s := by unfold szStg; omega

/-- The transitions of a label, in order. -/
def labP (s : Stg) (l : Lab) (t : Nat) : Bool := decide (nth s.labels t = l)
def labL (s : Stg) (l : Lab) : List Int := pickN (labP s l) s.labels.length
def toB (s : Stg) (sig : Int) : Bool := goodStg s && decide (0 ≤ sig ∧ sig ≤ (s.signals.length : Int) - 1)
def toL (s : Stg) (sig : Int) (up : Bool) : List Int := if toB s sig then labL s ⟨sig, up⟩ else []
theorem toL_len (s : Stg) (sig : Int) (up : Bool) : (toL s sig up).length ≤ 24 := by
  unfold toL
  split
  · rename_i h
    have h1 : goodStg s = true := by simp only [toB, Bool.and_eq_true] at h; exact h.1
    have := goodStg_len h1; have := pickN_len (labP s ⟨sig, up⟩) s.labels.length
    unfold labL; omega
  · simp

theorem labelled_f (s : Stg) (l : Lab) (hl : s.labels.length ≤ 24) : Fn Try.prog 74 [.agg (dStg s), .agg (dLab l)] (.own 0) [.arr 3 1 (ints (labL s l)) true] := by
  refine Fn_of Try.func74 rfl (by kernel_rfl) rfl rfl ?_
  intro w0 A hin
  have hz := len_dLab s.labels
  have hlen := pickN_len (labP s l)
  repeat' (first | refine goZ ?_ | ((first | refine R_cond rfl (fun hq => ?_) fun hq => ?_ | refine R_guardT rfl rfl rfl (fun hq => ?_) fun hq => ?_ | refine R_guardF rfl rfl rfl (fun hq => ?_) fun hq => ?_ | refine D_guardT rfl rfl rfl (fun hq => ?_) fun hq => ?_ | refine D_guardF rfl rfl rfl (fun hq => ?_) fun hq => ?_) <;> (try rw [hq]) <;> first | have hp := of_decide_eq_true hq | have hp := of_decide_eq_false hq | have hp := of_decide_eq_false (not_t hq) | have hp := of_decide_eq_true (not_f hq) | have hp := hq))
  refine W_loop (fun k : Nat => ⟨_, [(3, .ptr 1 0), (5, .own 2), (10, .sh 2 (s.labels.map dLab)), (11, .lit (.int .i64 s.labels.length)), (12, .lit (.int .i64 k))], [.cells 39 (dStg s), .cells 101 (dLab l), .arr 3 1 (ints (pickN (labP s l) k)) true]⟩) (fun k => k ≤ s.labels.length) (fun k => s.labels.length - k) 0 (Nat.zero_le _) (weakZ []) ?_
  intro k hk
  have hk2 := hlen k
  repeat' (first | refine goZ ?_ | refine R_eqs (eq_Lab (nth s.labels k) l) rfl rfl rfl ?_ | ((first | refine R_cond rfl (fun hq => ?_) fun hq => ?_ | refine R_guardT rfl rfl rfl (fun hq => ?_) fun hq => ?_ | refine R_guardF rfl rfl rfl (fun hq => ?_) fun hq => ?_ | refine D_guardT rfl rfl rfl (fun hq => ?_) fun hq => ?_ | refine D_guardF rfl rfl rfl (fun hq => ?_) fun hq => ?_) <;> (try rw [hq]) <;> first | have hp := of_decide_eq_true hq | have hp := of_decide_eq_false hq | have hp := of_decide_eq_false (not_t hq) | have hp := of_decide_eq_true (not_f hq) | have hp := hq))
  · refine ⟨k + 1, by omega, by omega, ?_⟩
    simp only [pickN_yes (p := labP s l) (k := k) hq, ints_snoc]
    exact weakZ _
  · refine ⟨k + 1, by omega, by omega, ?_⟩
    simp only [pickN_no (p := labP s l) (k := k) hq]
    exact weakZ _
  · exact ret_own rfl rfl (by rw [labL, show k = s.labels.length by omega])

theorem TransitionsOf_f (s : Stg) (sig : Int) (up : Bool) (hs : s.start.size ≤ 1048576) : Fn Try.prog 18 [.agg (dStg s), .lit (.int .i64 sig), .lit (.bool up)] (.tup [.own 0, .lit (.bool (toB s sig))]) [.arr 3 1 (ints (toL s sig up)) true] := by
  refine Fn_of Try.func18 rfl (by kernel_rfl) rfl rfl ?_
  intro w0 A hin
  have hz := len_dSig s.signals
  have hV := IsValidSTG_f s hs
  cases hg : goodStg s <;> rw [hg] at hV
  · repeat' (first | refine goZ ?_ | refine R_callZ rfl (hV) rfl rfl rfl ?_ | refine R_callvZ rfl (hV) rfl rfl rfl rfl ?_ | refine D_callZ rfl (hV) rfl rfl rfl ?_ | ((first | refine R_cond rfl (fun hq => ?_) fun hq => ?_ | refine R_guardT rfl rfl rfl (fun hq => ?_) fun hq => ?_ | refine R_guardF rfl rfl rfl (fun hq => ?_) fun hq => ?_ | refine D_guardT rfl rfl rfl (fun hq => ?_) fun hq => ?_ | refine D_guardF rfl rfl rfl (fun hq => ?_) fun hq => ?_) <;> (try rw [hq]) <;> first | have hp := of_decide_eq_true hq | have hp := of_decide_eq_false hq | have hp := of_decide_eq_false (not_t hq) | have hp := of_decide_eq_true (not_f hq) | have hp := hq))
    exact ret_nil_lit rfl (by simp [toL, toB, hg, ints]) (by simp [toB, hg])
  · have hb := goodStg_len hg
    repeat' (first | refine goZ ?_ | refine R_callZ rfl (hV) rfl rfl rfl ?_ | refine R_callZ rfl (within_f _ _ _) rfl rfl rfl ?_ | refine R_callZ rfl (labelled_f s ⟨sig, up⟩ (by omega)) rfl rfl rfl ?_ | refine R_callvZ rfl (hV) rfl rfl rfl rfl ?_ | refine R_callvZ rfl (within_f _ _ _) rfl rfl rfl rfl ?_ | refine R_callvZ rfl (labelled_f s ⟨sig, up⟩ (by omega)) rfl rfl rfl rfl ?_ | refine D_callZ rfl (hV) rfl rfl rfl ?_ | refine D_callZ rfl (within_f _ _ _) rfl rfl rfl ?_ | refine D_callZ rfl (labelled_f s ⟨sig, up⟩ (by omega)) rfl rfl rfl ?_ | ((first | refine R_cond rfl (fun hq => ?_) fun hq => ?_ | refine R_guardT rfl rfl rfl (fun hq => ?_) fun hq => ?_ | refine R_guardF rfl rfl rfl (fun hq => ?_) fun hq => ?_ | refine D_guardT rfl rfl rfl (fun hq => ?_) fun hq => ?_ | refine D_guardF rfl rfl rfl (fun hq => ?_) fun hq => ?_) <;> (try rw [hq]) <;> first | have hp := of_decide_eq_true hq | have hp := of_decide_eq_false hq | have hp := of_decide_eq_false (not_t hq) | have hp := of_decide_eq_true (not_f hq) | have hp := hq))
    · have hn : toB s sig = false := by simp only [toB, hg, Bool.true_and, decide_eq_false_iff_not]; omega
      exact ret_nil_lit rfl (by simp [toL, hn, ints]) (by rw [hn])
    · have hy : toB s sig = true := by simp only [toB, hg, Bool.true_and, decide_eq_true_eq]; omega
      exact ret_own_lit rfl rfl (by simp [toL, hy]) (by rw [hy])

theorem specTransitionsOf_f (s : Stg) (sig : Int) (up : Bool) (hs : s.start.size ≤ 1048576) : Fn Try.prog 16 [.agg (dStg s), .lit (.int .i64 sig), .lit (.bool up)] (.tup [.own 0, .lit (.bool (toB s sig))]) [.arr 3 1 (ints (toL s sig up)) true] := by
  refine Fn_of Try.func16 rfl (by kernel_rfl) rfl rfl ?_
  intro w0 A hin
  have hz := len_dSig s.signals
  have hz2 := len_dLab s.labels
  have hV := l2Good_f s hs
  cases hg : goodStg s <;> rw [hg] at hV
  · repeat' (first | refine goZ ?_ | refine R_callZ rfl (hV) rfl rfl rfl ?_ | refine R_callvZ rfl (hV) rfl rfl rfl rfl ?_ | refine D_callZ rfl (hV) rfl rfl rfl ?_ | ((first | refine R_cond rfl (fun hq => ?_) fun hq => ?_ | refine R_guardT rfl rfl rfl (fun hq => ?_) fun hq => ?_ | refine R_guardF rfl rfl rfl (fun hq => ?_) fun hq => ?_ | refine D_guardT rfl rfl rfl (fun hq => ?_) fun hq => ?_ | refine D_guardF rfl rfl rfl (fun hq => ?_) fun hq => ?_) <;> (try rw [hq]) <;> first | have hp := of_decide_eq_true hq | have hp := of_decide_eq_false hq | have hp := of_decide_eq_false (not_t hq) | have hp := of_decide_eq_true (not_f hq) | have hp := hq))
    exact ret_nil_lit rfl (by simp [toL, toB, hg, ints]) (by simp [toB, hg])
  · have hb := goodStg_len hg
    have hlen := pickN_len (labP s ⟨sig, up⟩)
    repeat' (first | refine goZ ?_ | refine R_callZ rfl (hV) rfl rfl rfl ?_ | refine R_callZ rfl (l1In_f _ _ _) rfl rfl rfl ?_ | refine R_callvZ rfl (hV) rfl rfl rfl rfl ?_ | refine R_callvZ rfl (l1In_f _ _ _) rfl rfl rfl rfl ?_ | refine D_callZ rfl (hV) rfl rfl rfl ?_ | refine D_callZ rfl (l1In_f _ _ _) rfl rfl rfl ?_ | ((first | refine R_cond rfl (fun hq => ?_) fun hq => ?_ | refine R_guardT rfl rfl rfl (fun hq => ?_) fun hq => ?_ | refine R_guardF rfl rfl rfl (fun hq => ?_) fun hq => ?_ | refine D_guardT rfl rfl rfl (fun hq => ?_) fun hq => ?_ | refine D_guardF rfl rfl rfl (fun hq => ?_) fun hq => ?_) <;> (try rw [hq]) <;> first | have hp := of_decide_eq_true hq | have hp := of_decide_eq_false hq | have hp := of_decide_eq_false (not_t hq) | have hp := of_decide_eq_true (not_f hq) | have hp := hq))
    · have hn : toB s sig = false := by simp only [toB, hg, Bool.true_and, decide_eq_false_iff_not]; omega
      exact ret_nil_lit rfl (by simp [toL, hn, ints]) (by rw [hn])
    · have hy : toB s sig = true := by simp only [toB, hg, Bool.true_and, decide_eq_true_eq]; omega
      have hy2 : ∀ k : Nat, (nth s.labels k).sig = sig ∧ (nth s.labels k).up = up → labP s ⟨sig, up⟩ k = true := fun k h => by
        rw [labP, decide_eq_true_eq]; rw [← h.1, ← h.2]
      have hn2 : ∀ k : Nat, ¬ ((nth s.labels k).sig = sig ∧ (nth s.labels k).up = up) → labP s ⟨sig, up⟩ k = false := fun k h => by
        rw [labP, decide_eq_false_iff_not]; intro e; rw [e] at h; exact h ⟨rfl, rfl⟩
      refine W_open 8 3 1 rfl ?_
      refine W_loop (fun k : Nat => ⟨_, [(1, .lit (.int .i64 sig)), (2, .lit (.bool up)), (8, .own 1), (24, .sh 2 (s.labels.map dLab)), (25, .lit (.int .i64 s.labels.length)), (26, .lit (.int .i64 k))], [.cells 39 (dStg s), .arr 3 1 (ints (pickN (labP s ⟨sig, up⟩) k)) true]⟩) (fun k => k ≤ s.labels.length) (fun k => s.labels.length - k) 0 (Nat.zero_le _) (weakZ []) ?_
      intro k hk
      have hk2 := hlen k
      repeat' (first | refine goZ ?_ | ((first | refine R_cond rfl (fun hq => ?_) fun hq => ?_ | refine R_guardT rfl rfl rfl (fun hq => ?_) fun hq => ?_ | refine R_guardF rfl rfl rfl (fun hq => ?_) fun hq => ?_ | refine D_guardT rfl rfl rfl (fun hq => ?_) fun hq => ?_ | refine D_guardF rfl rfl rfl (fun hq => ?_) fun hq => ?_) <;> (try rw [hq]) <;> first | have hp := of_decide_eq_true hq | have hp := of_decide_eq_false hq | have hp := of_decide_eq_false (not_t hq) | have hp := of_decide_eq_true (not_f hq) | have hp := hq))
      · refine ⟨k + 1, by omega, by omega, ?_⟩
        simp only [pickN_yes (p := labP s ⟨sig, up⟩) (k := k) (hy2 k ⟨by assumption, by assumption⟩), ints_snoc]
        exact weakZ _
      · refine ⟨k + 1, by omega, by omega, ?_⟩
        simp only [pickN_no (p := labP s ⟨sig, up⟩) (k := k) (hn2 k fun h => hp h.2)]
        exact weakZ _
      · refine ⟨k + 1, by omega, by omega, ?_⟩
        simp only [pickN_no (p := labP s ⟨sig, up⟩) (k := k) (hn2 k fun h => hp h.1)]
        exact weakZ _
      · exact ret_own_lit rfl rfl (by rw [toL, hy, if_pos rfl, labL, show k = s.labels.length by omega]) (by rw [hy])

/-- The edges of some transitions that are no silent ones. -/
def visL (s : Stg) (l : List Int) : List Lab := (l.filter fun t => decide (0 ≤ (nth s.labels t.toNat).sig)).map fun t => nth s.labels t.toNat
theorem visL_yes {s : Stg} {l : List Int} {t : Int} (h : 0 ≤ (nth s.labels t.toNat).sig) : visL s (l ++ [t]) = visL s l ++ [nth s.labels t.toNat] := by
  simp [visL, List.filter_append, h]
theorem visL_no {s : Stg} {l : List Int} {t : Int} (h : ¬ 0 ≤ (nth s.labels t.toNat).sig) : visL s (l ++ [t]) = visL s l := by
  simp [visL, List.filter_append, h]
theorem visL_len (s : Stg) (l : List Int) : (visL s l).length ≤ l.length := by
  unfold visL; rw [List.length_map]; exact List.length_filter_le _ _
def allIn (l : List Int) (lo hi : Int) : Bool := l.all fun n => decide (lo ≤ n ∧ n ≤ hi)
def visB (s : Stg) (l : List Int) : Bool := goodStg s && (decide (l.length ≤ 200) && allIn l 0 ((s.labels.length : Int) - 1))
def visR (s : Stg) (l : List Int) : List Lab := if visB s l then visL s l else []
theorem visR_len (s : Stg) (l : List Int) : (visR s l).length ≤ 200 := by
  unfold visR
  split
  · rename_i h
    simp only [visB, Bool.and_eq_true, decide_eq_true_eq] at h
    have := visL_len s l; omega
  · simp

theorem l1All_f (l : List Int) (lo hi : Int) : Fn Try.prog 79 [.sh 1 (ints l), .lit (.int .i64 lo), .lit (.int .i64 hi)] (.lit (.bool (allIn l lo hi))) [] := by
  refine Fn_of Try.func79 rfl (by kernel_rfl) rfl rfl ?_
  intro w0 A hin
  have hl := given_len hin (i := 0) rfl
  rw [len_ints] at hl
  repeat' (first | refine goZ ?_ | refine R_callZ rfl (l1In_f _ _ _) rfl rfl rfl ?_ | refine R_callvZ rfl (l1In_f _ _ _) rfl rfl rfl rfl ?_ | refine D_callZ rfl (l1In_f _ _ _) rfl rfl rfl ?_ | ((first | refine R_cond rfl (fun hq => ?_) fun hq => ?_ | refine R_guardT rfl rfl rfl (fun hq => ?_) fun hq => ?_ | refine R_guardF rfl rfl rfl (fun hq => ?_) fun hq => ?_ | refine D_guardT rfl rfl rfl (fun hq => ?_) fun hq => ?_ | refine D_guardF rfl rfl rfl (fun hq => ?_) fun hq => ?_) <;> (try rw [hq]) <;> first | have hp := of_decide_eq_true hq | have hp := of_decide_eq_false hq | have hp := of_decide_eq_false (not_t hq) | have hp := of_decide_eq_true (not_f hq) | have hp := hq))
  refine W_loop (fun k : Nat => ⟨_, [(1, .lit (.int .i64 lo)), (2, .lit (.int .i64 hi)), (9, .sh 1 (ints l)), (10, .lit (.int .i64 l.length)), (11, .lit (.int .i64 k))], []⟩) (fun k => k ≤ l.length ∧ ∀ j, j < k → decide (lo ≤ nth l j ∧ nth l j ≤ hi) = true) (fun k => l.length - k) 0 ⟨Nat.zero_le _, fun j h => absurd h (Nat.not_lt_zero _)⟩ (weakZ []) ?_
  rintro k ⟨hk, hj⟩
  repeat' (first | refine goZ ?_ | refine R_callZ rfl (l1In_f _ _ _) rfl rfl rfl ?_ | refine R_callvZ rfl (l1In_f _ _ _) rfl rfl rfl rfl ?_ | refine D_callZ rfl (l1In_f _ _ _) rfl rfl rfl ?_ | ((first | refine R_cond rfl (fun hq => ?_) fun hq => ?_ | refine R_guardT rfl rfl rfl (fun hq => ?_) fun hq => ?_ | refine R_guardF rfl rfl rfl (fun hq => ?_) fun hq => ?_ | refine D_guardT rfl rfl rfl (fun hq => ?_) fun hq => ?_ | refine D_guardF rfl rfl rfl (fun hq => ?_) fun hq => ?_) <;> (try rw [hq]) <;> first | have hp := of_decide_eq_true hq | have hp := of_decide_eq_false hq | have hp := of_decide_eq_false (not_t hq) | have hp := of_decide_eq_true (not_f hq) | have hp := hq))
  · exact ret_bool' rfl (by rw [eq_comm]; exact all_no (show k < l.length by omega) (by rw [decide_eq_false_iff_not]; exact hp))
  · exact ⟨k + 1, ⟨by omega, fun j hj' => by by_cases e : j = k; (rw [e, decide_eq_true_eq]; exact hp); exact hj j (by omega)⟩, by omega, weakZ []⟩
  · exact ret_bool' rfl (by rw [eq_comm]; exact all_yes (k := k) (by omega) hj)

theorem VisibleLabels_f (s : Stg) (l : List Int) (hs : s.start.size ≤ 1048576) : Fn Try.prog 26 [.agg (dStg s), .sh 1 (ints l)] (.tup [.own 0, .lit (.bool (visB s l))]) [.arr 101 2 ((visR s l).map dLab) true] := by
  refine Fn_of Try.func26 rfl (by kernel_rfl) rfl rfl ?_
  intro w0 A hin
  have hz := len_dLab s.labels
  have hz2 := len_ints l
  have hV := IsValidSTG_f s hs
  cases hg : goodStg s <;> rw [hg] at hV
  · repeat' (first | refine goZ ?_ | refine R_callZ rfl (hV) rfl rfl rfl ?_ | refine R_callvZ rfl (hV) rfl rfl rfl rfl ?_ | refine D_callZ rfl (hV) rfl rfl rfl ?_ | ((first | refine R_cond rfl (fun hq => ?_) fun hq => ?_ | refine R_guardT rfl rfl rfl (fun hq => ?_) fun hq => ?_ | refine R_guardF rfl rfl rfl (fun hq => ?_) fun hq => ?_ | refine D_guardT rfl rfl rfl (fun hq => ?_) fun hq => ?_ | refine D_guardF rfl rfl rfl (fun hq => ?_) fun hq => ?_) <;> (try rw [hq]) <;> first | have hp := of_decide_eq_true hq | have hp := of_decide_eq_false hq | have hp := of_decide_eq_false (not_t hq) | have hp := of_decide_eq_true (not_f hq) | have hp := hq))
    exact ret_nil_lit rfl (by simp [visR, visB, hg]) (by simp [visB, hg])
  · have hb := goodStg_len hg
    have hvl := visL_len s
    repeat' (first | refine goZ ?_ | refine R_callZ rfl (hV) rfl rfl rfl ?_ | refine R_callvZ rfl (hV) rfl rfl rfl rfl ?_ | refine D_callZ rfl (hV) rfl rfl rfl ?_ | ((first | refine R_cond rfl (fun hq => ?_) fun hq => ?_ | refine R_guardT rfl rfl rfl (fun hq => ?_) fun hq => ?_ | refine R_guardF rfl rfl rfl (fun hq => ?_) fun hq => ?_ | refine D_guardT rfl rfl rfl (fun hq => ?_) fun hq => ?_ | refine D_guardF rfl rfl rfl (fun hq => ?_) fun hq => ?_) <;> (try rw [hq]) <;> first | have hp := of_decide_eq_true hq | have hp := of_decide_eq_false hq | have hp := of_decide_eq_false (not_t hq) | have hp := of_decide_eq_true (not_f hq) | have hp := hq))
    · have hn : visB s l = false := by simp only [visB, hg, Bool.true_and, Bool.and_eq_false_iff, decide_eq_false_iff_not]; left; omega
      exact ret_nil_lit rfl (by simp [visR, hn]) (by rw [hn])
    · refine W_loop (fun k : Nat => ⟨_, [(2, .ptr 0 0), (6, .own 1), (18, .sh 1 (ints l)), (19, .lit (.int .i64 l.length)), (20, .lit (.int .i64 k))], [.cells 39 (dStg s), .arr 101 2 ((visL s (l.take k)).map dLab) true]⟩) (fun k => k ≤ l.length ∧ ∀ j, j < k → decide (0 ≤ nth l j ∧ nth l j ≤ (s.labels.length : Int) - 1) = true) (fun k => l.length - k) 0 ⟨Nat.zero_le _, fun j h => absurd h (Nat.not_lt_zero _)⟩ (weakZ []) ?_
      rintro k ⟨hk, hj⟩
      have hk2 := hvl (l.take k)
      rw [List.length_take] at hk2
      have hz3 := len_dLab (visL s (l.take k))
      have hsn : ∀ h : k < l.length, l.take (k + 1) = l.take k ++ [nth l k] := fun h => take_nth h
      repeat' (first | refine goZ ?_ | refine R_callZ rfl (within_f _ _ _) rfl rfl rfl ?_ | refine R_callvZ rfl (within_f _ _ _) rfl rfl rfl rfl ?_ | refine D_callZ rfl (within_f _ _ _) rfl rfl rfl ?_ | ((first | refine R_cond rfl (fun hq => ?_) fun hq => ?_ | refine R_guardT rfl rfl rfl (fun hq => ?_) fun hq => ?_ | refine R_guardF rfl rfl rfl (fun hq => ?_) fun hq => ?_ | refine D_guardT rfl rfl rfl (fun hq => ?_) fun hq => ?_ | refine D_guardF rfl rfl rfl (fun hq => ?_) fun hq => ?_) <;> (try rw [hq]) <;> first | have hp := of_decide_eq_true hq | have hp := of_decide_eq_false hq | have hp := of_decide_eq_false (not_t hq) | have hp := of_decide_eq_true (not_f hq) | have hp := hq))
      · have hn : visB s l = false := by
          have := all_no (p := fun n => decide (0 ≤ n ∧ n ≤ (s.labels.length : Int) - 1)) (show k < l.length by omega) (by rw [decide_eq_false_iff_not]; omega)
          simp only [visB, hg, allIn, this, Bool.and_false]
        exact ret_nil_lit rfl (by simp [visR, hn]) (by rw [hn])
      · refine ⟨k + 1, ⟨by omega, fun j hj' => by by_cases e : j = k; (rw [e, decide_eq_true_eq]; omega); exact hj j (by omega)⟩, by omega, ?_⟩
        rw [hsn (by omega), visL_yes hp, List.map_append]
        exact weakZ _
      · refine ⟨k + 1, ⟨by omega, fun j hj' => by by_cases e : j = k; (rw [e, decide_eq_true_eq]; omega); exact hj j (by omega)⟩, by omega, ?_⟩
        rw [hsn (by omega), visL_no hp]
        exact weakZ _
      · have hy : visB s l = true := by
          have := all_yes (p := fun n => decide (0 ≤ n ∧ n ≤ (s.labels.length : Int) - 1)) (show ¬ k < l.length by omega) hj
          simp only [visB, hg, allIn, this, Bool.true_and, Bool.and_true, decide_eq_true_eq]; omega
        exact ret_own_lit rfl rfl (by rw [visR, hy, if_pos rfl, List.take_of_length_le (show l.length ≤ k by omega)]) (by rw [hy])

theorem specVisibleLabels_f (s : Stg) (l : List Int) (hs : s.start.size ≤ 1048576) : Fn Try.prog 24 [.agg (dStg s), .sh 1 (ints l)] (.tup [.own 0, .lit (.bool (visB s l))]) [.arr 101 2 ((visR s l).map dLab) true] := by
  refine Fn_of Try.func24 rfl (by kernel_rfl) rfl rfl ?_
  intro w0 A hin
  have hz := len_dLab s.labels
  have hz2 := len_ints l
  have hV := l2Good_f s hs
  cases hg : goodStg s <;> rw [hg] at hV
  · repeat' (first | refine goZ ?_ | refine R_callZ rfl (hV) rfl rfl rfl ?_ | refine R_callvZ rfl (hV) rfl rfl rfl rfl ?_ | refine D_callZ rfl (hV) rfl rfl rfl ?_ | ((first | refine R_cond rfl (fun hq => ?_) fun hq => ?_ | refine R_guardT rfl rfl rfl (fun hq => ?_) fun hq => ?_ | refine R_guardF rfl rfl rfl (fun hq => ?_) fun hq => ?_ | refine D_guardT rfl rfl rfl (fun hq => ?_) fun hq => ?_ | refine D_guardF rfl rfl rfl (fun hq => ?_) fun hq => ?_) <;> (try rw [hq]) <;> first | have hp := of_decide_eq_true hq | have hp := of_decide_eq_false hq | have hp := of_decide_eq_false (not_t hq) | have hp := of_decide_eq_true (not_f hq) | have hp := hq))
    exact ret_nil_lit rfl (by simp [visR, visB, hg]) (by simp [visB, hg])
  · have hb := goodStg_len hg
    have hvl := visL_len s
    have hA := l1All_f l 0 ((s.labels.map dLab).length - 1 : Int)
    cases ha : allIn l 0 ((s.labels.map dLab).length - 1 : Int) <;> rw [ha] at hA
    · have hn : visB s l = false := by rw [hz] at ha; simp only [visB, hg, ha, Bool.and_false]
      repeat' (first | refine goZ ?_ | refine R_callZ rfl (hV) rfl rfl rfl ?_ | refine R_callZ rfl (hA) rfl rfl rfl ?_ | refine R_callvZ rfl (hV) rfl rfl rfl rfl ?_ | refine R_callvZ rfl (hA) rfl rfl rfl rfl ?_ | refine D_callZ rfl (hV) rfl rfl rfl ?_ | refine D_callZ rfl (hA) rfl rfl rfl ?_ | ((first | refine R_cond rfl (fun hq => ?_) fun hq => ?_ | refine R_guardT rfl rfl rfl (fun hq => ?_) fun hq => ?_ | refine R_guardF rfl rfl rfl (fun hq => ?_) fun hq => ?_ | refine D_guardT rfl rfl rfl (fun hq => ?_) fun hq => ?_ | refine D_guardF rfl rfl rfl (fun hq => ?_) fun hq => ?_) <;> (try rw [hq]) <;> first | have hp := of_decide_eq_true hq | have hp := of_decide_eq_false hq | have hp := of_decide_eq_false (not_t hq) | have hp := of_decide_eq_true (not_f hq) | have hp := hq))
      all_goals exact ret_nil_lit rfl (by simp [visR, hn]) (by rw [hn])
    · repeat' (first | refine goZ ?_ | refine R_callZ rfl (hV) rfl rfl rfl ?_ | refine R_callZ rfl (hA) rfl rfl rfl ?_ | refine R_callvZ rfl (hV) rfl rfl rfl rfl ?_ | refine R_callvZ rfl (hA) rfl rfl rfl rfl ?_ | refine D_callZ rfl (hV) rfl rfl rfl ?_ | refine D_callZ rfl (hA) rfl rfl rfl ?_ | ((first | refine R_cond rfl (fun hq => ?_) fun hq => ?_ | refine R_guardT rfl rfl rfl (fun hq => ?_) fun hq => ?_ | refine R_guardF rfl rfl rfl (fun hq => ?_) fun hq => ?_ | refine D_guardT rfl rfl rfl (fun hq => ?_) fun hq => ?_ | refine D_guardF rfl rfl rfl (fun hq => ?_) fun hq => ?_) <;> (try rw [hq]) <;> first | have hp := of_decide_eq_true hq | have hp := of_decide_eq_false hq | have hp := of_decide_eq_false (not_t hq) | have hp := of_decide_eq_true (not_f hq) | have hp := hq))
      · have hall : ∀ j, j < l.length → 0 ≤ nth l j ∧ nth l j ≤ (s.labels.length : Int) - 1 := fun j hj => by
          have h1 := List.all_eq_true.1 ha _ (nth_mem hj)
          rw [decide_eq_true_eq] at h1; omega
        refine W_open 6 101 2 rfl ?_
        refine W_loop (fun k : Nat => ⟨_, [(2, .ptr 0 0), (6, .own 1), (26, .sh 1 (ints l)), (27, .lit (.int .i64 l.length)), (28, .lit (.int .i64 k))], [.cells 39 (dStg s), .arr 101 2 ((visL s (l.take k)).map dLab) true]⟩) (fun k => k ≤ l.length) (fun k => l.length - k) 0 (Nat.zero_le _) (weakZ []) ?_
        intro k hk
        have hk2 := hvl (l.take k)
        rw [List.length_take] at hk2
        have hz3 := len_dLab (visL s (l.take k))
        have hsn : ∀ h : k < l.length, l.take (k + 1) = l.take k ++ [nth l k] := fun h => take_nth h
        have hk3 : (k : Int) < (l.length : Int) → 0 ≤ nth l k ∧ nth l k ≤ (s.labels.length : Int) - 1 := fun h => hall k (by omega)
        repeat' (first | refine goZ ?_ | ((first | refine R_cond rfl (fun hq => ?_) fun hq => ?_ | refine R_guardT rfl rfl rfl (fun hq => ?_) fun hq => ?_ | refine R_guardF rfl rfl rfl (fun hq => ?_) fun hq => ?_ | refine D_guardT rfl rfl rfl (fun hq => ?_) fun hq => ?_ | refine D_guardF rfl rfl rfl (fun hq => ?_) fun hq => ?_) <;> (try rw [hq]) <;> first | have hp := of_decide_eq_true hq | have hp := of_decide_eq_false hq | have hp := of_decide_eq_false (not_t hq) | have hp := of_decide_eq_true (not_f hq) | have hp := hq))
        · refine ⟨k + 1, by omega, by omega, ?_⟩
          rw [hsn (by omega), visL_yes hp, List.map_append]
          exact weakZ _
        · refine ⟨k + 1, by omega, by omega, ?_⟩
          rw [hsn (by omega), visL_no hp]
          exact weakZ _
        · have hy : visB s l = true := by
            rw [hz] at ha
            simp only [visB, hg, ha, Bool.true_and, Bool.and_true, decide_eq_true_eq]; omega
          exact ret_own_lit rfl rfl (by rw [visR, hy, if_pos rfl, List.take_of_length_le (show l.length ≤ k by omega)]) (by rw [hy])
      · have hn : visB s l = false := by
          have : decide (l.length ≤ 200) = false := by rw [decide_eq_false_iff_not]; omega
          simp only [visB, this, Bool.false_and, Bool.and_false]
        exact ret_nil_lit rfl (by simp [visR, hn]) (by rw [hn])

/-- The transitions that use a place. -/
def useP (n : NetD) (p : Int) (post : Bool) (t : Nat) : Bool := decide (p ∈ if post then (nth n.trs t).post else (nth n.trs t).pre)
def useL (n : NetD) (p : Int) (post : Bool) : List Int := pickN (useP n p post) n.trs.length
theorem ret_own2 {rs : Array ResultVar} {i j : Nat} {s : St} {t t' : TypeId} {n n' : Nat} {xs xs' ys ys' : List (List D)} {dp dp' : Bool} (h : retD s rs.toList = some (.tup [.own i, .own j])) (hb : s.heap[i]? = some (.arr t n xs dp)) (hb' : s.heap[j]? = some (.arr t' n' ys dp')) (hne : i ≠ j) (e : xs = xs') (e' : ys = ys') : RetS rs (.tup [.own 0, .own 1]) [.arr t n xs' dp, .arr t' n' ys' dp'] s :=
  ⟨_, [some i, some j], h, ⟨rfl, rfl, trivial⟩, ⟨by rw [← e]; exact hb, rfl, by rw [← e']; exact hb', rfl, trivial⟩, by simp [hne]⟩

theorem users_f (n : NetD) (p : Int) (hn : n.trs.length ≤ 24) : Fn Try.prog 82 [.agg (dNetD n), .lit (.int .i64 p)] (.tup [.own 0, .own 1]) [.arr 3 1 (ints (useL n p false)) true, .arr 3 1 (ints (useL n p true)) true] := by
  refine Fn_of Try.func82 rfl (by kernel_rfl) rfl rfl ?_
  intro w0 A hin
  have hz := len_dTr n.trs
  have hlen := pickN_len (useP n p false)
  have hlen2 := pickN_len (useP n p true)
  repeat' (first | refine goZ ?_ | ((first | refine R_cond rfl (fun hq => ?_) fun hq => ?_ | refine R_guardT rfl rfl rfl (fun hq => ?_) fun hq => ?_ | refine R_guardF rfl rfl rfl (fun hq => ?_) fun hq => ?_ | refine D_guardT rfl rfl rfl (fun hq => ?_) fun hq => ?_ | refine D_guardF rfl rfl rfl (fun hq => ?_) fun hq => ?_) <;> (try rw [hq]) <;> first | have hp := of_decide_eq_true hq | have hp := of_decide_eq_false hq | have hp := of_decide_eq_false (not_t hq) | have hp := of_decide_eq_true (not_f hq) | have hp := hq))
  refine W_loop (fun k : Nat => ⟨_, [(1, .lit (.int .i64 p)), (6, .own 1), (7, .own 2), (13, .sh 2 (n.trs.map dTr)), (14, .lit (.int .i64 n.trs.length)), (15, .lit (.int .i64 k))], [.cells 35 (dNetD n), .arr 3 1 (ints (pickN (useP n p false) k)) true, .arr 3 1 (ints (pickN (useP n p true) k)) true]⟩) (fun k => k ≤ n.trs.length) (fun k => n.trs.length - k) 0 (Nat.zero_le _) (weakZ []) ?_
  intro k hk
  have hk2 := hlen k
  have hk3 := hlen2 k
  have hpy : (p ∈ (nth n.trs k).pre) → useP n p false k = true := fun h => by rw [useP, decide_eq_true_eq]; exact h
  have hpn : (¬ p ∈ (nth n.trs k).pre) → useP n p false k = false := fun h => by rw [useP, decide_eq_false_iff_not]; exact h
  have hqy : (p ∈ (nth n.trs k).post) → useP n p true k = true := fun h => by rw [useP, decide_eq_true_eq]; exact h
  have hqn : (¬ p ∈ (nth n.trs k).post) → useP n p true k = false := fun h => by rw [useP, decide_eq_false_iff_not]; exact h
  repeat' (first | refine goZ ?_ | refine R_callZ rfl (Contains_Int_f _ _) rfl rfl rfl ?_ | refine R_callvZ rfl (Contains_Int_f _ _) rfl rfl rfl rfl ?_ | refine D_callZ rfl (Contains_Int_f _ _) rfl rfl rfl ?_ | ((first | refine R_cond rfl (fun hq => ?_) fun hq => ?_ | refine R_guardT rfl rfl rfl (fun hq => ?_) fun hq => ?_ | refine R_guardF rfl rfl rfl (fun hq => ?_) fun hq => ?_ | refine D_guardT rfl rfl rfl (fun hq => ?_) fun hq => ?_ | refine D_guardF rfl rfl rfl (fun hq => ?_) fun hq => ?_) <;> (try rw [hq]) <;> first | have hp := of_decide_eq_true hq | have hp := of_decide_eq_false hq | have hp := of_decide_eq_false (not_t hq) | have hp := of_decide_eq_true (not_f hq) | have hp := hq))
  · refine ⟨k + 1, by omega, by omega, ?_⟩
    simp only [pickN_yes (hpy (by assumption)), pickN_yes (hqy hp), ints_snoc]
    exact weakZ _
  · refine ⟨k + 1, by omega, by omega, ?_⟩
    simp only [pickN_yes (hpy (by assumption)), pickN_no (hqn hp), ints_snoc]
    exact weakZ _
  · refine ⟨k + 1, by omega, by omega, ?_⟩
    simp only [pickN_no (hpn (by assumption)), pickN_yes (hqy hp), ints_snoc]
    exact weakZ _
  · refine ⟨k + 1, by omega, by omega, ?_⟩
    simp only [pickN_no (hpn (by assumption)), pickN_no (hqn hp)]
    exact weakZ _
  · have : k = n.trs.length := by omega
    exact ret_own2 rfl rfl rfl (by decide) (by rw [useL, this]) (by rw [useL, this])

theorem l3Of_f (s : Stg) (p : Int) (post : Bool) (hn : s.net.trs.length ≤ 24) : Fn Try.prog 138 [.agg (dStg s), .lit (.int .i64 p), .lit (.bool post)] (.own 0) [.arr 3 1 (ints (useL s.net p post)) true] := by
  refine Fn_of Try.func138 rfl (by kernel_rfl) rfl rfl ?_
  intro w0 A hin
  have hz := len_dTr s.net.trs
  have hlen := pickN_len (useP s.net p post)
  repeat' (first | refine goZ ?_ | ((first | refine R_cond rfl (fun hq => ?_) fun hq => ?_ | refine R_guardT rfl rfl rfl (fun hq => ?_) fun hq => ?_ | refine R_guardF rfl rfl rfl (fun hq => ?_) fun hq => ?_ | refine D_guardT rfl rfl rfl (fun hq => ?_) fun hq => ?_ | refine D_guardF rfl rfl rfl (fun hq => ?_) fun hq => ?_) <;> (try rw [hq]) <;> first | have hp := of_decide_eq_true hq | have hp := of_decide_eq_false hq | have hp := of_decide_eq_false (not_t hq) | have hp := of_decide_eq_true (not_f hq) | have hp := hq))
  refine W_open 7 3 1 rfl ?_
  refine W_loop (fun k : Nat => ⟨_, [(1, .lit (.int .i64 p)), (2, .lit (.bool post)), (7, .own 1), (12, .sh 2 (s.net.trs.map dTr)), (13, .lit (.int .i64 s.net.trs.length)), (14, .lit (.int .i64 k))], [.cells 39 (dStg s), .arr 3 1 (ints (pickN (useP s.net p post) k)) true]⟩) (fun k => k ≤ s.net.trs.length) (fun k => s.net.trs.length - k) 0 (Nat.zero_le _) (weakZ []) ?_
  intro k hk
  have hk2 := hlen k
  cases post
  · repeat' (first | refine goZ ?_ | refine R_callZ rfl (l1Has_f _ _) rfl rfl rfl ?_ | refine R_callvZ rfl (l1Has_f _ _) rfl rfl rfl rfl ?_ | refine D_callZ rfl (l1Has_f _ _) rfl rfl rfl ?_ | ((first | refine R_cond rfl (fun hq => ?_) fun hq => ?_ | refine R_guardT rfl rfl rfl (fun hq => ?_) fun hq => ?_ | refine R_guardF rfl rfl rfl (fun hq => ?_) fun hq => ?_ | refine D_guardT rfl rfl rfl (fun hq => ?_) fun hq => ?_ | refine D_guardF rfl rfl rfl (fun hq => ?_) fun hq => ?_) <;> (try rw [hq]) <;> first | have hp := of_decide_eq_true hq | have hp := of_decide_eq_false hq | have hp := of_decide_eq_false (not_t hq) | have hp := of_decide_eq_true (not_f hq) | have hp := hq))
    · refine ⟨k + 1, by omega, by omega, ?_⟩
      simp only [pickN_yes (p := useP s.net p false) (k := k) (by rw [useP, decide_eq_true_eq]; exact hp), ints_snoc]
      exact weakZ _
    · refine ⟨k + 1, by omega, by omega, ?_⟩
      simp only [pickN_no (p := useP s.net p false) (k := k) (by rw [useP, decide_eq_false_iff_not]; exact hp)]
      exact weakZ _
    · exact ret_own rfl rfl (by rw [useL, show k = s.net.trs.length by omega])
  · repeat' (first | refine goZ ?_ | refine R_callZ rfl (l1Has_f _ _) rfl rfl rfl ?_ | refine R_callvZ rfl (l1Has_f _ _) rfl rfl rfl rfl ?_ | refine D_callZ rfl (l1Has_f _ _) rfl rfl rfl ?_ | ((first | refine R_cond rfl (fun hq => ?_) fun hq => ?_ | refine R_guardT rfl rfl rfl (fun hq => ?_) fun hq => ?_ | refine R_guardF rfl rfl rfl (fun hq => ?_) fun hq => ?_ | refine D_guardT rfl rfl rfl (fun hq => ?_) fun hq => ?_ | refine D_guardF rfl rfl rfl (fun hq => ?_) fun hq => ?_) <;> (try rw [hq]) <;> first | have hp := of_decide_eq_true hq | have hp := of_decide_eq_false hq | have hp := of_decide_eq_false (not_t hq) | have hp := of_decide_eq_true (not_f hq) | have hp := hq))
    · refine ⟨k + 1, by omega, by omega, ?_⟩
      simp only [pickN_no (p := useP s.net p true) (k := k) (by rw [useP, decide_eq_false_iff_not]; exact hp)]
      exact weakZ _
    · refine ⟨k + 1, by omega, by omega, ?_⟩
      simp only [pickN_yes (p := useP s.net p true) (k := k) (by rw [useP, decide_eq_true_eq]; exact hp), ints_snoc]
      exact weakZ _
    · exact ret_own rfl rfl (by rw [useL, show k = s.net.trs.length by omega])

def unuP (s : Stg) (k : Nat) : Bool := decide ((useL s.net (k : Int) false).length = 0) && decide ((useL s.net (k : Int) true).length = 0)
def unuL (s : Stg) : List Int := if goodStg s then pickN (unuP s) s.net.places.toNat else []

theorem l3Unused_f (s : Stg) (k : Nat) (hn : s.net.trs.length ≤ 24) : Fn Try.prog 81 [.agg (dStg s), .lit (.int .i64 k)] (.lit (.bool (unuP s k))) [] := by
  refine Fn_of Try.func81 rfl (by kernel_rfl) rfl rfl ?_
  intro w0 A hin
  have hz1 := len_ints (useL s.net (k : Int) false)
  have hz2 := len_ints (useL s.net (k : Int) true)
  repeat' (first | refine goZ ?_ | refine R_callZ rfl (l3Of_f s _ _ hn) rfl rfl rfl ?_ | refine R_callvZ rfl (l3Of_f s _ _ hn) rfl rfl rfl rfl ?_ | refine D_callZ rfl (l3Of_f s _ _ hn) rfl rfl rfl ?_ | ((first | refine R_cond rfl (fun hq => ?_) fun hq => ?_ | refine R_guardT rfl rfl rfl (fun hq => ?_) fun hq => ?_ | refine R_guardF rfl rfl rfl (fun hq => ?_) fun hq => ?_ | refine D_guardT rfl rfl rfl (fun hq => ?_) fun hq => ?_ | refine D_guardF rfl rfl rfl (fun hq => ?_) fun hq => ?_) <;> (try rw [hq]) <;> first | have hp := of_decide_eq_true hq | have hp := of_decide_eq_false hq | have hp := of_decide_eq_false (not_t hq) | have hp := of_decide_eq_true (not_f hq) | have hp := hq))
  all_goals exact ret_bool' rfl (by rw [unuP, Bool.eq_iff_iff]; simp only [Bool.and_eq_true, decide_eq_true_eq, Bool.false_eq_true, false_iff]; omega)

theorem UnusedPlaces_f (s : Stg) (hs : s.start.size ≤ 1048576) : Fn Try.prog 31 [.agg (dStg s)] (.tup [.own 0, .lit (.bool (goodStg s))]) [.arr 3 1 (ints (unuL s)) true] := by
  refine Fn_of Try.func31 rfl (by kernel_rfl) rfl rfl ?_
  intro w0 A hin
  have hV := IsValidSTG_f s hs
  cases hg : goodStg s <;> rw [hg] at hV
  · repeat' (first | refine goZ ?_ | refine R_callZ rfl (hV) rfl rfl rfl ?_ | refine R_callvZ rfl (hV) rfl rfl rfl rfl ?_ | refine D_callZ rfl (hV) rfl rfl rfl ?_ | ((first | refine R_cond rfl (fun hq => ?_) fun hq => ?_ | refine R_guardT rfl rfl rfl (fun hq => ?_) fun hq => ?_ | refine R_guardF rfl rfl rfl (fun hq => ?_) fun hq => ?_ | refine D_guardT rfl rfl rfl (fun hq => ?_) fun hq => ?_ | refine D_guardF rfl rfl rfl (fun hq => ?_) fun hq => ?_) <;> (try rw [hq]) <;> first | have hp := of_decide_eq_true hq | have hp := of_decide_eq_false hq | have hp := of_decide_eq_false (not_t hq) | have hp := of_decide_eq_true (not_f hq) | have hp := hq))
    exact ret_nil_lit rfl (by simp [unuL, hg, ints]) rfl
  · have hb := goodStg_len hg
    have hlen := pickN_len (unuP s)
    repeat' (first | refine goZ ?_ | refine R_callZ rfl (hV) rfl rfl rfl ?_ | refine R_callvZ rfl (hV) rfl rfl rfl rfl ?_ | refine D_callZ rfl (hV) rfl rfl rfl ?_ | ((first | refine R_cond rfl (fun hq => ?_) fun hq => ?_ | refine R_guardT rfl rfl rfl (fun hq => ?_) fun hq => ?_ | refine R_guardF rfl rfl rfl (fun hq => ?_) fun hq => ?_ | refine D_guardT rfl rfl rfl (fun hq => ?_) fun hq => ?_ | refine D_guardF rfl rfl rfl (fun hq => ?_) fun hq => ?_) <;> (try rw [hq]) <;> first | have hp := of_decide_eq_true hq | have hp := of_decide_eq_false hq | have hp := of_decide_eq_false (not_t hq) | have hp := of_decide_eq_true (not_f hq) | have hp := hq))
    refine W_loop (fun k : Nat => ⟨_, [(1, .ptr 0 0), (4, .own 1), (14, .lit (.int .i64 s.net.places)), (15, .lit (.int .i64 k))], [.cells 39 (dStg s), .arr 3 1 (ints (pickN (unuP s) k)) true]⟩) (fun k => (k : Int) ≤ s.net.places) (fun k => s.net.places.toNat - k) 0 (by omega) (weakZ []) ?_
    intro k hk
    have hk2 := hlen k
    have hz1 := len_ints (useL s.net (k : Int) false)
    have hz2 := len_ints (useL s.net (k : Int) true)
    have hl1 := pickN_len (useP s.net k false) s.net.trs.length
    have hl2 := pickN_len (useP s.net k true) s.net.trs.length
    rw [← useL] at hl1 hl2
    repeat' (first | refine goZ ?_ | refine R_callZ rfl (users_f s.net k (by omega)) rfl rfl rfl ?_ | refine R_callvZ rfl (users_f s.net k (by omega)) rfl rfl rfl rfl ?_ | refine D_callZ rfl (users_f s.net k (by omega)) rfl rfl rfl ?_ | ((first | refine R_cond rfl (fun hq => ?_) fun hq => ?_ | refine R_guardT rfl rfl rfl (fun hq => ?_) fun hq => ?_ | refine R_guardF rfl rfl rfl (fun hq => ?_) fun hq => ?_ | refine D_guardT rfl rfl rfl (fun hq => ?_) fun hq => ?_ | refine D_guardF rfl rfl rfl (fun hq => ?_) fun hq => ?_) <;> (try rw [hq]) <;> first | have hp := of_decide_eq_true hq | have hp := of_decide_eq_false hq | have hp := of_decide_eq_false (not_t hq) | have hp := of_decide_eq_true (not_f hq) | have hp := hq))
    · refine ⟨k + 1, by omega, by omega, ?_⟩
      simp only [pickN_yes (p := unuP s) (k := k) (by rw [unuP, Bool.and_eq_true, decide_eq_true_eq, decide_eq_true_eq]; omega), ints_snoc]
      exact weakZ _
    · refine ⟨k + 1, by omega, by omega, ?_⟩
      simp only [pickN_no (p := unuP s) (k := k) (by rw [unuP, Bool.and_eq_false_iff, decide_eq_false_iff_not, decide_eq_false_iff_not]; omega)]
      exact weakZ _
    · exact ret_own_lit rfl rfl (by rw [unuL, hg, if_pos rfl, show k = s.net.places.toNat by omega]) rfl

theorem specUnusedPlaces_f (s : Stg) (hs : s.start.size ≤ 1048576) : Fn Try.prog 30 [.agg (dStg s)] (.tup [.own 0, .lit (.bool (goodStg s))]) [.arr 3 1 (ints (unuL s)) true] := by
  refine Fn_of Try.func30 rfl (by kernel_rfl) rfl rfl ?_
  intro w0 A hin
  have hV := l2Good_f s hs
  cases hg : goodStg s <;> rw [hg] at hV
  · repeat' (first | refine goZ ?_ | refine R_callZ rfl (hV) rfl rfl rfl ?_ | refine R_callvZ rfl (hV) rfl rfl rfl rfl ?_ | refine D_callZ rfl (hV) rfl rfl rfl ?_ | ((first | refine R_cond rfl (fun hq => ?_) fun hq => ?_ | refine R_guardT rfl rfl rfl (fun hq => ?_) fun hq => ?_ | refine R_guardF rfl rfl rfl (fun hq => ?_) fun hq => ?_ | refine D_guardT rfl rfl rfl (fun hq => ?_) fun hq => ?_ | refine D_guardF rfl rfl rfl (fun hq => ?_) fun hq => ?_) <;> (try rw [hq]) <;> first | have hp := of_decide_eq_true hq | have hp := of_decide_eq_false hq | have hp := of_decide_eq_false (not_t hq) | have hp := of_decide_eq_true (not_f hq) | have hp := hq))
    exact ret_nil_lit rfl (by simp [unuL, hg, ints]) rfl
  · have hb := goodStg_len hg
    have hlen := pickN_len (unuP s)
    repeat' (first | refine goZ ?_ | refine R_callZ rfl (hV) rfl rfl rfl ?_ | refine R_callvZ rfl (hV) rfl rfl rfl rfl ?_ | refine D_callZ rfl (hV) rfl rfl rfl ?_ | ((first | refine R_cond rfl (fun hq => ?_) fun hq => ?_ | refine R_guardT rfl rfl rfl (fun hq => ?_) fun hq => ?_ | refine R_guardF rfl rfl rfl (fun hq => ?_) fun hq => ?_ | refine D_guardT rfl rfl rfl (fun hq => ?_) fun hq => ?_ | refine D_guardF rfl rfl rfl (fun hq => ?_) fun hq => ?_) <;> (try rw [hq]) <;> first | have hp := of_decide_eq_true hq | have hp := of_decide_eq_false hq | have hp := of_decide_eq_false (not_t hq) | have hp := of_decide_eq_true (not_f hq) | have hp := hq))
    refine W_open 4 3 1 rfl ?_
    refine W_loop (fun k : Nat => ⟨_, [(1, .ptr 0 0), (4, .own 1), (5, .lit (.int .i64 k))], [.cells 39 (dStg s), .arr 3 1 (ints (pickN (unuP s) k)) true]⟩) (fun k => (k : Int) ≤ s.net.places) (fun k => s.net.places.toNat - k) 0 (by omega) (weakZ []) ?_
    intro k hk
    have hk2 := hlen k
    repeat' (first | refine goZ ?_ | refine R_callZ rfl (l3Unused_f s k (by omega)) rfl rfl rfl ?_ | refine R_callvZ rfl (l3Unused_f s k (by omega)) rfl rfl rfl rfl ?_ | refine D_callZ rfl (l3Unused_f s k (by omega)) rfl rfl rfl ?_ | ((first | refine R_cond rfl (fun hq => ?_) fun hq => ?_ | refine R_guardT rfl rfl rfl (fun hq => ?_) fun hq => ?_ | refine R_guardF rfl rfl rfl (fun hq => ?_) fun hq => ?_ | refine D_guardT rfl rfl rfl (fun hq => ?_) fun hq => ?_ | refine D_guardF rfl rfl rfl (fun hq => ?_) fun hq => ?_) <;> (try rw [hq]) <;> first | have hp := of_decide_eq_true hq | have hp := of_decide_eq_false hq | have hp := of_decide_eq_false (not_t hq) | have hp := of_decide_eq_true (not_f hq) | have hp := hq))
    · refine ⟨k + 1, by omega, by omega, ?_⟩
      simp only [pickN_yes (p := unuP s) (k := k) (hq), ints_snoc]
      exact weakZ _
    · refine ⟨k + 1, by omega, by omega, ?_⟩
      simp only [pickN_no (p := unuP s) (k := k) (hq)]
      exact weakZ _
    · exact ret_own_lit rfl rfl (by rw [unuL, hg, if_pos rfl, show k = s.net.places.toNat by omega]) rfl

/-! ### Dead transitions -/
def byT (t : Nat) (m : Mv) : Bool := decide (m.by_ = (t : Int))
def deaP (r : RGraph) (t : Nat) : Bool := !r.moves.any (byT t)
def deaB (s : Stg) (r : RGraph) : Bool := goodStg s && goodReach r
def deaL (s : Stg) (r : RGraph) : List Int := if deaB s r then pickN (deaP r) s.labels.length else []
theorem deaL_len (s : Stg) (r : RGraph) : (deaL s r).length ≤ 24 := by
  unfold deaL
  split
  · rename_i h
    have h1 : goodStg s = true := by simp only [deaB, Bool.and_eq_true] at h; exact h.1
    have := goodStg_len h1; have := pickN_len (deaP r) s.labels.length
    omega
  · simp
theorem unuL_len (s : Stg) : (unuL s).length ≤ 40 := by
  unfold unuL
  split
  · rename_i h
    have := goodStg_len h; have := pickN_len (unuP s) s.net.places.toNat
    omega
  · simp

theorem DeadTransitions1_f (m : Mv) (t : Nat) : Fn Try.prog 90 [.agg (dMv m), .sptr [.lit (.int .i64 t)]] (.lit (.bool (byT t m))) [] := by
  refine Fn_of Try.func90 rfl (by kernel_rfl) rfl rfl ?_
  intro w0 A hin
  repeat' (first | refine goZ ?_ | ((first | refine R_cond rfl (fun hq => ?_) fun hq => ?_ | refine R_guardT rfl rfl rfl (fun hq => ?_) fun hq => ?_ | refine R_guardF rfl rfl rfl (fun hq => ?_) fun hq => ?_ | refine D_guardT rfl rfl rfl (fun hq => ?_) fun hq => ?_ | refine D_guardF rfl rfl rfl (fun hq => ?_) fun hq => ?_) <;> (try rw [hq]) <;> first | have hp := of_decide_eq_true hq | have hp := of_decide_eq_false hq | have hp := of_decide_eq_false (not_t hq) | have hp := of_decide_eq_true (not_f hq) | have hp := hq))
  exact ret_bool' rfl rfl

theorem DeadTransitions_f (s : Stg) (r : RGraph) (hs : s.start.size ≤ 1048576) : Fn Try.prog 35 [.agg (dStg s), .agg (dRGraph r)] (.tup [.own 0, .lit (.bool (deaB s r))]) [.arr 3 1 (ints (deaL s r)) true] := by
  refine Fn_of Try.func35 rfl (by kernel_rfl) rfl rfl ?_
  intro w0 A hin
  have hz := len_dLab s.labels
  have hV := IsValidSTG_f s hs
  have hR := isReach_f r
  cases hg : goodStg s <;> rw [hg] at hV
  · repeat' (first | refine goZ ?_ | refine R_callZ rfl (hV) rfl rfl rfl ?_ | refine R_callZ rfl (hR) rfl rfl rfl ?_ | refine R_callvZ rfl (hV) rfl rfl rfl rfl ?_ | refine R_callvZ rfl (hR) rfl rfl rfl rfl ?_ | refine D_callZ rfl (hV) rfl rfl rfl ?_ | refine D_callZ rfl (hR) rfl rfl rfl ?_ | ((first | refine R_cond rfl (fun hq => ?_) fun hq => ?_ | refine R_guardT rfl rfl rfl (fun hq => ?_) fun hq => ?_ | refine R_guardF rfl rfl rfl (fun hq => ?_) fun hq => ?_ | refine D_guardT rfl rfl rfl (fun hq => ?_) fun hq => ?_ | refine D_guardF rfl rfl rfl (fun hq => ?_) fun hq => ?_) <;> (try rw [hq]) <;> first | have hp := of_decide_eq_true hq | have hp := of_decide_eq_false hq | have hp := of_decide_eq_false (not_t hq) | have hp := of_decide_eq_true (not_f hq) | have hp := hq))
    exact ret_nil_lit rfl (by simp [deaL, deaB, hg, ints]) (by simp [deaB, hg])
  · cases hr : goodReach r <;> rw [hr] at hR
    · repeat' (first | refine goZ ?_ | refine R_callZ rfl (hV) rfl rfl rfl ?_ | refine R_callZ rfl (hR) rfl rfl rfl ?_ | refine R_callvZ rfl (hV) rfl rfl rfl rfl ?_ | refine R_callvZ rfl (hR) rfl rfl rfl rfl ?_ | refine D_callZ rfl (hV) rfl rfl rfl ?_ | refine D_callZ rfl (hR) rfl rfl rfl ?_ | ((first | refine R_cond rfl (fun hq => ?_) fun hq => ?_ | refine R_guardT rfl rfl rfl (fun hq => ?_) fun hq => ?_ | refine R_guardF rfl rfl rfl (fun hq => ?_) fun hq => ?_ | refine D_guardT rfl rfl rfl (fun hq => ?_) fun hq => ?_ | refine D_guardF rfl rfl rfl (fun hq => ?_) fun hq => ?_) <;> (try rw [hq]) <;> first | have hp := of_decide_eq_true hq | have hp := of_decide_eq_false hq | have hp := of_decide_eq_false (not_t hq) | have hp := of_decide_eq_true (not_f hq) | have hp := hq))
      exact ret_nil_lit rfl (by simp [deaL, deaB, hr, ints]) (by simp [deaB, hr])
    · have hy : deaB s r = true := by simp [deaB, hg, hr]
      have hb := goodStg_len hg
      have hlen := pickN_len (deaP r)
      have hC : ∀ k : Nat, Fn Try.prog 89 [.sh 3 (r.moves.map dMv), .fn 90 [.sptr [.lit (.int .i64 k)]]] (.lit (.bool (r.moves.any (byT k)))) [] := fun k => ContainsFunc_Mv_f _ _ _ _ fun m _ => DeadTransitions1_f m k
      repeat' (first | refine goZ ?_ | refine R_callZ rfl (hV) rfl rfl rfl ?_ | refine R_callZ rfl (hR) rfl rfl rfl ?_ | refine R_callvZ rfl (hV) rfl rfl rfl rfl ?_ | refine R_callvZ rfl (hR) rfl rfl rfl rfl ?_ | refine D_callZ rfl (hV) rfl rfl rfl ?_ | refine D_callZ rfl (hR) rfl rfl rfl ?_ | ((first | refine R_cond rfl (fun hq => ?_) fun hq => ?_ | refine R_guardT rfl rfl rfl (fun hq => ?_) fun hq => ?_ | refine R_guardF rfl rfl rfl (fun hq => ?_) fun hq => ?_ | refine D_guardT rfl rfl rfl (fun hq => ?_) fun hq => ?_ | refine D_guardF rfl rfl rfl (fun hq => ?_) fun hq => ?_) <;> (try rw [hq]) <;> first | have hp := of_decide_eq_true hq | have hp := of_decide_eq_false hq | have hp := of_decide_eq_false (not_t hq) | have hp := of_decide_eq_true (not_f hq) | have hp := hq))
      refine W_loop (fun k : Nat => ⟨_, [(3, .ptr 1 0), (6, .own 2), (18, .sh 2 (s.labels.map dLab)), (19, .lit (.int .i64 s.labels.length)), (20, .lit (.int .i64 k))], [.cells 39 (dStg s), .cells 62 (dRGraph r), .arr 3 1 (ints (pickN (deaP r) k)) true]⟩) (fun k => k ≤ s.labels.length) (fun k => s.labels.length - k) 0 (Nat.zero_le _) (weakZ []) ?_
      intro k hk
      have hk2 := hlen k
      repeat' (first | refine goZ ?_ | refine R_callZ rfl (hC k) rfl rfl rfl ?_ | refine R_callvZ rfl (hC k) rfl rfl rfl rfl ?_ | refine D_callZ rfl (hC k) rfl rfl rfl ?_ | ((first | refine R_cond rfl (fun hq => ?_) fun hq => ?_ | refine R_guardT rfl rfl rfl (fun hq => ?_) fun hq => ?_ | refine R_guardF rfl rfl rfl (fun hq => ?_) fun hq => ?_ | refine D_guardT rfl rfl rfl (fun hq => ?_) fun hq => ?_ | refine D_guardF rfl rfl rfl (fun hq => ?_) fun hq => ?_) <;> (try rw [hq]) <;> first | have hp := of_decide_eq_true hq | have hp := of_decide_eq_false hq | have hp := of_decide_eq_false (not_t hq) | have hp := of_decide_eq_true (not_f hq) | have hp := hq))
      · refine ⟨k + 1, by omega, by omega, ?_⟩
        simp only [pickN_yes (p := deaP r) (k := k) (hq), ints_snoc]
        exact weakZ _
      · refine ⟨k + 1, by omega, by omega, ?_⟩
        simp only [pickN_no (p := deaP r) (k := k) (hq)]
        exact weakZ _
      · exact ret_own_lit rfl rfl (by rw [deaL, hy, if_pos rfl, show k = s.labels.length by omega]) (by rw [hy])

theorem specDeadTransitions_f (s : Stg) (r : RGraph) (hs : s.start.size ≤ 1048576) : Fn Try.prog 33 [.agg (dStg s), .agg (dRGraph r)] (.tup [.own 0, .lit (.bool (deaB s r))]) [.arr 3 1 (ints (deaL s r)) true] := by
  refine Fn_of Try.func33 rfl (by kernel_rfl) rfl rfl ?_
  intro w0 A hin
  have hz := len_dTr s.net.trs
  have hz2 := len_dMv r.moves
  have hV := l2Good_f s hs
  have hR := l4Good_f r
  cases hg : goodStg s <;> rw [hg] at hV
  · repeat' (first | refine goZ ?_ | refine R_callZ rfl (hV) rfl rfl rfl ?_ | refine R_callZ rfl (hR) rfl rfl rfl ?_ | refine R_callvZ rfl (hV) rfl rfl rfl rfl ?_ | refine R_callvZ rfl (hR) rfl rfl rfl rfl ?_ | refine D_callZ rfl (hV) rfl rfl rfl ?_ | refine D_callZ rfl (hR) rfl rfl rfl ?_ | ((first | refine R_cond rfl (fun hq => ?_) fun hq => ?_ | refine R_guardT rfl rfl rfl (fun hq => ?_) fun hq => ?_ | refine R_guardF rfl rfl rfl (fun hq => ?_) fun hq => ?_ | refine D_guardT rfl rfl rfl (fun hq => ?_) fun hq => ?_ | refine D_guardF rfl rfl rfl (fun hq => ?_) fun hq => ?_) <;> (try rw [hq]) <;> first | have hp := of_decide_eq_true hq | have hp := of_decide_eq_false hq | have hp := of_decide_eq_false (not_t hq) | have hp := of_decide_eq_true (not_f hq) | have hp := hq))
    exact ret_nil_lit rfl (by simp [deaL, deaB, hg, ints]) (by simp [deaB, hg])
  · cases hr : goodReach r <;> rw [hr] at hR
    · repeat' (first | refine goZ ?_ | refine R_callZ rfl (hV) rfl rfl rfl ?_ | refine R_callZ rfl (hR) rfl rfl rfl ?_ | refine R_callvZ rfl (hV) rfl rfl rfl rfl ?_ | refine R_callvZ rfl (hR) rfl rfl rfl rfl ?_ | refine D_callZ rfl (hV) rfl rfl rfl ?_ | refine D_callZ rfl (hR) rfl rfl rfl ?_ | ((first | refine R_cond rfl (fun hq => ?_) fun hq => ?_ | refine R_guardT rfl rfl rfl (fun hq => ?_) fun hq => ?_ | refine R_guardF rfl rfl rfl (fun hq => ?_) fun hq => ?_ | refine D_guardT rfl rfl rfl (fun hq => ?_) fun hq => ?_ | refine D_guardF rfl rfl rfl (fun hq => ?_) fun hq => ?_) <;> (try rw [hq]) <;> first | have hp := of_decide_eq_true hq | have hp := of_decide_eq_false hq | have hp := of_decide_eq_false (not_t hq) | have hp := of_decide_eq_true (not_f hq) | have hp := hq))
      exact ret_nil_lit rfl (by simp [deaL, deaB, hr, ints]) (by simp [deaB, hr])
    · have hy : deaB s r = true := by simp [deaB, hg, hr]
      have hb := goodStg_len hg
      have hb2 := goodReach_len hr
      have hlen := pickN_len (deaP r)
      repeat' (first | refine goZ ?_ | refine R_callZ rfl (hV) rfl rfl rfl ?_ | refine R_callZ rfl (hR) rfl rfl rfl ?_ | refine R_callvZ rfl (hV) rfl rfl rfl rfl ?_ | refine R_callvZ rfl (hR) rfl rfl rfl rfl ?_ | refine D_callZ rfl (hV) rfl rfl rfl ?_ | refine D_callZ rfl (hR) rfl rfl rfl ?_ | ((first | refine R_cond rfl (fun hq => ?_) fun hq => ?_ | refine R_guardT rfl rfl rfl (fun hq => ?_) fun hq => ?_ | refine R_guardF rfl rfl rfl (fun hq => ?_) fun hq => ?_ | refine D_guardT rfl rfl rfl (fun hq => ?_) fun hq => ?_ | refine D_guardF rfl rfl rfl (fun hq => ?_) fun hq => ?_) <;> (try rw [hq]) <;> first | have hp := of_decide_eq_true hq | have hp := of_decide_eq_false hq | have hp := of_decide_eq_false (not_t hq) | have hp := of_decide_eq_true (not_f hq) | have hp := hq))
      refine W_open 6 3 1 rfl ?_
      refine W_loop (fun k : Nat => ⟨_, [(3, .ptr 1 0), (6, .own 2), (22, .lit (.int .i64 s.net.trs.length)), (23, .lit (.int .i64 k))], [.cells 39 (dStg s), .cells 62 (dRGraph r), .arr 3 1 (ints (pickN (deaP r) k)) true]⟩) (fun k => k ≤ s.net.trs.length) (fun k => s.net.trs.length - k) 0 (Nat.zero_le _) (weakZ []) ?_
      intro k hk
      have hk2 := hlen k
      repeat' (first | refine goZ ?_ | ((first | refine R_cond rfl (fun hq => ?_) fun hq => ?_ | refine R_guardT rfl rfl rfl (fun hq => ?_) fun hq => ?_ | refine R_guardF rfl rfl rfl (fun hq => ?_) fun hq => ?_ | refine D_guardT rfl rfl rfl (fun hq => ?_) fun hq => ?_ | refine D_guardF rfl rfl rfl (fun hq => ?_) fun hq => ?_) <;> (try rw [hq]) <;> first | have hp := of_decide_eq_true hq | have hp := of_decide_eq_false hq | have hp := of_decide_eq_false (not_t hq) | have hp := of_decide_eq_true (not_f hq) | have hp := hq))
      · refine W_loop (fun j : Nat => ⟨_, [(3, .ptr 1 0), (6, .own 2), (22, .lit (.int .i64 s.net.trs.length)), (23, .lit (.int .i64 k)), (7, .lit (.int .i64 k)), (8, .lit (.bool ((r.moves.take j).any (byT k)))), (27, .sh 3 (r.moves.map dMv)), (28, .lit (.int .i64 r.moves.length)), (29, .lit (.int .i64 j))], [.cells 39 (dStg s), .cells 62 (dRGraph r), .arr 3 1 (ints (pickN (deaP r) k)) true]⟩) (fun j => j ≤ r.moves.length) (fun j => r.moves.length - j) 0 (Nat.zero_le _) (weakZ []) ?_
        intro j hj
        repeat' (first | refine goZ ?_ | ((first | refine R_cond rfl (fun hq => ?_) fun hq => ?_ | refine R_guardT rfl rfl rfl (fun hq => ?_) fun hq => ?_ | refine R_guardF rfl rfl rfl (fun hq => ?_) fun hq => ?_ | refine D_guardT rfl rfl rfl (fun hq => ?_) fun hq => ?_ | refine D_guardF rfl rfl rfl (fun hq => ?_) fun hq => ?_) <;> (try rw [hq]) <;> first | have hp := of_decide_eq_true hq | have hp := of_decide_eq_false hq | have hp := of_decide_eq_false (not_t hq) | have hp := of_decide_eq_true (not_f hq) | have hp := hq))
        · refine ⟨j + 1, by omega, by omega, ?_⟩
          have e : (r.moves.take (j + 1)).any (byT k) = decide ((nth r.moves j).by_ = (k : Int)) := by
            rw [take_nth (show j < r.moves.length by omega), List.any_append, hp]; simp [byT]
          rw [e]
          exact weakZ _
        · refine ⟨j + 1, by omega, by omega, ?_⟩
          have e : (r.moves.take (j + 1)).any (byT k) = true := by
            rw [take_nth (show j < r.moves.length by omega), List.any_append, hp, Bool.true_or]
          rw [e]
          exact weakZ _
        · have ej : r.moves.take j = r.moves := List.take_of_length_le (by omega)
          rw [ej] at hp
          refine ⟨k + 1, by omega, by omega, ?_⟩
          simp only [pickN_yes (p := deaP r) (k := k) hp, ints_snoc]
          exact weakZ _
        · have ej : r.moves.take j = r.moves := List.take_of_length_le (by omega)
          rw [ej] at hp
          refine ⟨k + 1, by omega, by omega, ?_⟩
          simp only [pickN_no (p := deaP r) (k := k) hp]
          exact weakZ _
      · exact ret_own_lit rfl rfl (by rw [deaL, hy, if_pos rfl, show k = s.labels.length by omega]) (by rw [hy])
end Go.Proofs.Ytpmiihejbmdkfaa
