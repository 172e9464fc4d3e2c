/- Persistency violations: what the reference's and the program's functions hand back. No condition. -/
import Derived.Test.YtodjjabmaleggaaVio
set_option linter.unusedSimpArgs false
set_option linter.unusedVariables false
set_option maxHeartbeats 2000000
namespace Go.Proofs.Ytodjjabmaleggaa
open Go.ChangeShapes Go.WideShapes Go.ChangeAt Go.RowKit

theorem pickN_mono {p q : Nat → Bool} (h : ∀ i, p i = true → q i = true) : ∀ n, (pickN p n).length ≤ (pickN q n).length
  | 0 => Nat.le_refl _
  | n + 1 => by
    have ih := pickN_mono h n
    cases hp : p n
    · rw [pickN_no hp]
      cases hq : q n
      · rw [pickN_no hq]; exact ih
      · rw [pickN_yes hq, List.length_append]; simp; omega
    · rw [pickN_yes hp, pickN_yes (h n hp), List.length_append, List.length_append]; simp; omega
def lvSum (c : SGraph) (m : Nat) : Nat → Nat
  | 0 => 0
  | k + 1 => lvSum c m k + (pickN (lvP c k) m).length
theorem lvSum_step (c : SGraph) (m : Nat) : ∀ K : Nat, lvSum c (m + 1) K = lvSum c m K + (if 0 ≤ (nth c.arcs m).src ∧ (nth c.arcs m).src < K then 1 else 0)
  | 0 => by
    rw [if_neg (by omega)]; rfl
  | K + 1 => by
    simp only [lvSum, lvSum_step c m K]
    by_cases h : (nth c.arcs m).src = (K : Int)
    · rw [pickN_yes (p := lvP c K) (by simpa [lvP] using h), List.length_append, if_neg (by omega), if_pos (by omega)]
      simp; omega
    · rw [pickN_no (p := lvP c K) (by simpa [lvP] using h)]
      by_cases h2 : 0 ≤ (nth c.arcs m).src ∧ (nth c.arcs m).src < (K : Int)
      · rw [if_pos h2, if_pos (by omega)]; omega
      · rw [if_neg h2, if_neg (by omega)]; omega
theorem lvSum_zero (c : SGraph) : ∀ K : Nat, lvSum c 0 K = 0
  | 0 => rfl
  | K + 1 => by simp only [lvSum, lvSum_zero c K]; rfl
theorem lvSum_le (c : SGraph) (K : Nat) : ∀ m, lvSum c m K ≤ m
  | 0 => by rw [lvSum_zero]; exact Nat.le_refl _
  | m + 1 => by
    have := lvSum_le c K m
    rw [lvSum_step]; split <;> omega
theorem vioE_le (c : SGraph) (k sig : Int) : (vioE c k sig).length ≤ (pickN (lvP c k) c.arcs.length).length := by
  unfold vioE; split
  · rw [vioR, List.length_map]
    exact pickN_mono (fun i h => by simp only [vioP, Bool.and_eq_true] at h; exact h.1) _
  · simp
theorem vioS_le (c : SGraph) (k : Int) : ∀ j, (vioS c k j).length ≤ j * (pickN (lvP c k) c.arcs.length).length
  | 0 => by simp [vioS]
  | j + 1 => by
    have := vioS_le c k j; have h2 := vioE_le c k j
    rw [vioS, List.length_append, Nat.add_mul]; omega
theorem vioA_le (c : SGraph) : ∀ k, (vioA c k).length ≤ c.signals.length * lvSum c c.arcs.length k
  | 0 => by simp [vioA]
  | k + 1 => by
    have := vioA_le c k; have h2 := vioS_le c k c.signals.length
    rw [vioA, List.length_append, lvSum, Nat.mul_add]; omega
theorem vioL_len {c : SGraph} (hg : goodSG c = true) : (vioL c).length ≤ 32000 := by
  have hb := goodSG_len hg
  exact Nat.le_trans (vioA_le c _) (Nat.le_trans (Nat.mul_le_mul (show c.signals.length ≤ 8 by omega) (Nat.le_trans (lvSum_le c _ _) (show c.arcs.length ≤ 4000 by omega))) (by decide))
theorem vioZ_len (c : SGraph) : (vioZ c).length ≤ 32000 := by
  unfold vioZ; split
  · rename_i h; exact vioL_len h
  · simp

theorem PersistencyViolations_f (c : SGraph) : Fn Try.prog 38 [.agg (dSGraph c)] (.tup [.own 0, .lit (.bool (goodSG c))]) [.arr 146 3 ((vioZ c).map dPViol) true] := by
  refine Fn_of Try.func38 rfl (by kernel_rfl) rfl rfl ?_
  intro w0 A hin
  have hV := IsValidStateGraph_f c
  cases hg : goodSG c <;> rw [hg] at hV
  · repeat' (first | refine goZ ?_ | refine R_callZ rfl (hV) rfl rfl rfl ?_ | refine R_callvZ rfl (hV) rfl rfl rfl rfl ?_ | refine D_callZ rfl (hV) rfl rfl rfl ?_ | ((first | refine R_cond rfl (fun hq => ?_) fun hq => ?_ | refine R_guardT rfl rfl rfl (fun hq => ?_) fun hq => ?_ | refine R_guardF rfl rfl rfl (fun hq => ?_) fun hq => ?_ | refine D_guardT rfl rfl rfl (fun hq => ?_) fun hq => ?_ | refine D_guardF rfl rfl rfl (fun hq => ?_) fun hq => ?_) <;> (try rw [hq]) <;> first | have hp := of_decide_eq_true hq | have hp := of_decide_eq_false hq | have hp := of_decide_eq_false (not_t hq) | have hp := of_decide_eq_true (not_f hq) | have hp := hq))
    exact ret_nil_lit rfl (by simp [vioZ, hg]) rfl
  · repeat' (first | refine goZ ?_ | refine R_callZ rfl (hV) rfl rfl rfl ?_ | refine R_callZ rfl (violations_f c hg) rfl rfl rfl ?_ | refine R_callvZ rfl (hV) rfl rfl rfl rfl ?_ | refine R_callvZ rfl (violations_f c hg) rfl rfl rfl rfl ?_ | refine D_callZ rfl (hV) rfl rfl rfl ?_ | refine D_callZ rfl (violations_f c hg) rfl rfl rfl ?_ | ((first | refine R_cond rfl (fun hq => ?_) fun hq => ?_ | refine R_guardT rfl rfl rfl (fun hq => ?_) fun hq => ?_ | refine R_guardF rfl rfl rfl (fun hq => ?_) fun hq => ?_ | refine D_guardT rfl rfl rfl (fun hq => ?_) fun hq => ?_ | refine D_guardF rfl rfl rfl (fun hq => ?_) fun hq => ?_) <;> (try rw [hq]) <;> first | have hp := of_decide_eq_true hq | have hp := of_decide_eq_false hq | have hp := of_decide_eq_false (not_t hq) | have hp := of_decide_eq_true (not_f hq) | have hp := hq))
    exact ret_own_lit rfl rfl (by simp [vioZ, hg]) rfl

theorem vioR_yes {c : SGraph} {k sig : Int} {m : Nat} (h : vioP c k sig m = true) : vioR c k sig (m + 1) = vioR c k sig m ++ [⟨k, sig, m⟩] := by
  simp only [vioR, pickN_yes h, List.map_append, List.map_cons, List.map_nil, mkV]
theorem vioR_no {c : SGraph} {k sig : Int} {m : Nat} (h : vioP c k sig m = false) : vioR c k sig (m + 1) = vioR c k sig m := by
  simp only [vioR, pickN_no h]

set_option maxHeartbeats 4000000 in
theorem l6Breaks_f (c : SGraph) (hg : goodSG c = true) : Fn Try.prog 104 [.agg (dSGraph c)] (.own 0) [.arr 146 3 ((vioL c).map dPViol) true] := by
  refine Fn_of Try.func104 rfl (by kernel_rfl) rfl rfl ?_
  intro w0 A hin
  have hza := len_dArcD c.arcs
  have hzs := len_dSig c.signals
  have hzc := len_strs c.codes
  have hb := goodSG_len hg
  repeat' (first | refine goZ ?_ | ((first | refine R_cond rfl (fun hq => ?_) fun hq => ?_ | refine R_guardT rfl rfl rfl (fun hq => ?_) fun hq => ?_ | refine R_guardF rfl rfl rfl (fun hq => ?_) fun hq => ?_ | refine D_guardT rfl rfl rfl (fun hq => ?_) fun hq => ?_ | refine D_guardF rfl rfl rfl (fun hq => ?_) fun hq => ?_) <;> (try rw [hq]) <;> first | have hp := of_decide_eq_true hq | have hp := of_decide_eq_false hq | have hp := of_decide_eq_false (not_t hq) | have hp := of_decide_eq_true (not_f hq) | have hp := hq))
  refine W_open 3 146 3 rfl ?_
  refine W_loop (fun k : Nat => ⟨_, [(1, .ptr 0 0), (3, .own 1), (10, .lit (.int .i64 c.codes.length)), (11, .lit (.int .i64 k))], [.cells 69 (dSGraph c), .arr 146 3 ((vioA c k).map dPViol) true]⟩) (fun k => k ≤ c.codes.length) (fun k => c.codes.length - k) 0 (Nat.zero_le _) (weakZ []) ?_
  intro k hk
  repeat' (first | refine goZ ?_ | ((first | refine R_cond rfl (fun hq => ?_) fun hq => ?_ | refine R_guardT rfl rfl rfl (fun hq => ?_) fun hq => ?_ | refine R_guardF rfl rfl rfl (fun hq => ?_) fun hq => ?_ | refine D_guardT rfl rfl rfl (fun hq => ?_) fun hq => ?_ | refine D_guardF rfl rfl rfl (fun hq => ?_) fun hq => ?_) <;> (try rw [hq]) <;> first | have hp := of_decide_eq_true hq | have hp := of_decide_eq_false hq | have hp := of_decide_eq_false (not_t hq) | have hp := of_decide_eq_true (not_f hq) | have hp := hq))
  rotate_left
  · exact ret_own rfl rfl (by rw [vioL, show k = c.codes.length by omega])
  have hkn : k < c.codes.length := by omega
  have hav := vioA_len c k
  have hA : (vioA c k).length ≤ 9600000 := Nat.le_trans hav (Nat.le_trans (Nat.mul_le_mul (show k ≤ 300 by omega) (Nat.mul_le_mul (show c.signals.length ≤ 8 by omega) (show c.arcs.length ≤ 4000 by omega))) (by decide))
  refine W_loop (fun j : Nat => ⟨_, [(1, .ptr 0 0), (3, .own 1), (4, .lit (.int .i64 k)), (10, .lit (.int .i64 c.codes.length)), (11, .lit (.int .i64 k)), (16, .lit (.int .i64 c.signals.length)), (17, .lit (.int .i64 j))], [.cells 69 (dSGraph c), .arr 146 3 ((vioA c k ++ vioS c k j).map dPViol) true]⟩) (fun j => j ≤ c.signals.length) (fun j => c.signals.length - j) 0 (Nat.zero_le _) (by rw [vioS, List.append_nil]; exact weakZ []) ?_
  intro j hj
  have hsv := vioS_len c k j
  have hB : (vioS c k j).length ≤ 32000 := Nat.le_trans hsv (Nat.le_trans (Nat.mul_le_mul (show j ≤ 8 by omega) (show c.arcs.length ≤ 4000 by omega)) (by decide))
  repeat' (first | refine goZ ?_ | refine R_callZ rfl (l5Excited_f c k j) rfl rfl rfl ?_ | refine R_callvZ rfl (l5Excited_f c k j) rfl rfl rfl rfl ?_ | refine D_callZ rfl (l5Excited_f c k j) rfl rfl rfl ?_ | ((first | refine R_cond rfl (fun hq => ?_) fun hq => ?_ | refine R_guardT rfl rfl rfl (fun hq => ?_) fun hq => ?_ | refine R_guardF rfl rfl rfl (fun hq => ?_) fun hq => ?_ | refine D_guardT rfl rfl rfl (fun hq => ?_) fun hq => ?_ | refine D_guardF rfl rfl rfl (fun hq => ?_) fun hq => ?_) <;> (try rw [hq]) <;> first | have hp := of_decide_eq_true hq | have hp := of_decide_eq_false hq | have hp := of_decide_eq_false (not_t hq) | have hp := of_decide_eq_true (not_f hq) | have hp := hq))
  · refine ⟨j + 1, by omega, by omega, ?_⟩
    have e : vioE c k j = [] := by rw [vioE, show c.arcs.any (excP k j) = false by simpa using hp]; rfl
    rw [vioS, e, List.append_nil]
    exact weakZ _
  · have hjs : j < c.signals.length := by omega
    have hex : vioE c k j = vioR c k j c.arcs.length := by rw [vioE, show c.arcs.any (excP k j) = true by simpa using hp]; rfl
    refine W_loop (fun i : Nat => ⟨_, [(1, .ptr 0 0), (3, .own 1), (4, .lit (.int .i64 k)), (5, .lit (.int .i64 j)), (10, .lit (.int .i64 c.codes.length)), (11, .lit (.int .i64 k)), (16, .lit (.int .i64 c.signals.length)), (17, .lit (.int .i64 j)), (26, .sh 4 (c.arcs.map dArcD)), (27, .lit (.int .i64 c.arcs.length)), (28, .lit (.int .i64 i))], [.cells 69 (dSGraph c), .arr 146 3 ((vioA c k ++ (vioS c k j ++ vioR c k j i)).map dPViol) true]⟩) (fun i => i ≤ c.arcs.length) (fun i => c.arcs.length - i) 0 (Nat.zero_le _) (by rw [show vioR c k j 0 = [] from rfl, List.append_nil]; exact weakZ []) ?_
    intro i hi
    have hsg : i < c.arcs.length → -1 ≤ (nth c.arcs i).sig ∧ (nth c.arcs i).sig < c.signals.length := fun h => sigs_in hg _ (nth_mem h)
    have hfl := vioR_len c k j i
    repeat' (first | refine goZ ?_ | refine R_callZ rfl (l5Excited_f c (nth c.arcs i).dst j) rfl rfl rfl ?_ | refine R_callZ rfl (l6OwnI_f c j (by omega)) rfl rfl rfl ?_ | refine R_callZ rfl (l6OwnI_f c (nth c.arcs i).sig (hsg (by omega))) rfl rfl rfl ?_ | refine R_callvZ rfl (l5Excited_f c (nth c.arcs i).dst j) rfl rfl rfl rfl ?_ | refine R_callvZ rfl (l6OwnI_f c j (by omega)) rfl rfl rfl rfl ?_ | refine R_callvZ rfl (l6OwnI_f c (nth c.arcs i).sig (hsg (by omega))) rfl rfl rfl rfl ?_ | refine D_callZ rfl (l5Excited_f c (nth c.arcs i).dst j) rfl rfl rfl ?_ | refine D_callZ rfl (l6OwnI_f c j (by omega)) rfl rfl rfl ?_ | refine D_callZ rfl (l6OwnI_f c (nth c.arcs i).sig (hsg (by omega))) rfl rfl rfl ?_ | ((first | refine R_cond rfl (fun hq => ?_) fun hq => ?_ | refine R_guardT rfl rfl rfl (fun hq => ?_) fun hq => ?_ | refine R_guardF rfl rfl rfl (fun hq => ?_) fun hq => ?_ | refine D_guardT rfl rfl rfl (fun hq => ?_) fun hq => ?_ | refine D_guardF rfl rfl rfl (fun hq => ?_) fun hq => ?_) <;> (try rw [hq]) <;> first | have hp := of_decide_eq_true hq | have hp := of_decide_eq_false hq | have hp := of_decide_eq_false (not_t hq) | have hp := of_decide_eq_true (not_f hq) | have hp := hq))
    · refine ⟨i + 1, by omega, by omega, ?_⟩
      have e : (vioA c k ++ (vioS c k j ++ vioR c k j (i + 1))).map dPViol = (vioA c k ++ (vioS c k j ++ vioR c k j i)).map dPViol ++ [[.lit (.int .i64 k), .lit (.int .i64 j), .lit (.int .i64 i)]] := by
        rw [vioR_yes (c := c) (k := k) (sig := j) (m := i) (by rw [vioP, lvP, vioQ]; rw [show decide ((nth c.arcs i).src = ↑k) = true by assumption, show (!decide ((nth c.arcs i).sig = ↑j)) = true by assumption, show (!c.arcs.any (excP (nth c.arcs i).dst ↑j)) = true by assumption, show outI c (nth c.arcs i).sig = true by assumption, Bool.or_true]; rfl)]; simp [dPViol]
      rw [e]
      exact weakZ _
    · refine ⟨i + 1, by omega, by omega, ?_⟩
      rw [vioR_no (c := c) (k := k) (sig := j) (m := i) (by rw [vioP, lvP, vioQ]; rw [show outI c (nth c.arcs i).sig = false by assumption, show outI c ↑j = false by assumption]; simp)]
      exact weakZ _
    · refine ⟨i + 1, by omega, by omega, ?_⟩
      have e : (vioA c k ++ (vioS c k j ++ vioR c k j (i + 1))).map dPViol = (vioA c k ++ (vioS c k j ++ vioR c k j i)).map dPViol ++ [[.lit (.int .i64 k), .lit (.int .i64 j), .lit (.int .i64 i)]] := by
        rw [vioR_yes (c := c) (k := k) (sig := j) (m := i) (by rw [vioP, lvP, vioQ]; rw [show decide ((nth c.arcs i).src = ↑k) = true by assumption, show (!decide ((nth c.arcs i).sig = ↑j)) = true by assumption, show (!c.arcs.any (excP (nth c.arcs i).dst ↑j)) = true by assumption, show outI c ↑j = true by assumption]; rfl)]; simp [dPViol]
      rw [e]
      exact weakZ _
    · refine ⟨i + 1, by omega, by omega, ?_⟩
      rw [vioR_no (c := c) (k := k) (sig := j) (m := i) (by rw [vioP, lvP, vioQ]; rw [show (!c.arcs.any (excP (nth c.arcs i).dst ↑j)) = false by assumption]; simp)]
      exact weakZ _
    · refine ⟨i + 1, by omega, by omega, ?_⟩
      rw [vioR_no (c := c) (k := k) (sig := j) (m := i) (by rw [vioP, lvP, vioQ]; rw [show (!decide ((nth c.arcs i).sig = ↑j)) = false by assumption]; simp)]
      exact weakZ _
    · refine ⟨i + 1, by omega, by omega, ?_⟩
      rw [vioR_no (c := c) (k := k) (sig := j) (m := i) (by rw [vioP, lvP, vioQ]; rw [show decide ((nth c.arcs i).src = ↑k) = false by assumption]; simp)]
      exact weakZ _
    · refine ⟨j + 1, by omega, by omega, ?_⟩
      rw [vioS, hex, show c.arcs.length = i by omega]
      exact weakZ _
  · refine ⟨k + 1, by omega, by omega, ?_⟩
    rw [vioA, show c.signals.length = j by omega]
    exact weakZ _

theorem specPersistencyViolations_f (c : SGraph) : Fn Try.prog 36 [.agg (dSGraph c)] (.tup [.own 0, .lit (.bool (goodSG c))]) [.arr 146 3 ((vioZ c).map dPViol) true] := by
  refine Fn_of Try.func36 rfl (by kernel_rfl) rfl rfl ?_
  intro w0 A hin
  have hV := l5Good_f c
  cases hg : goodSG c <;> rw [hg] at hV
  · repeat' (first | refine goZ ?_ | refine R_callZ rfl (hV) rfl rfl rfl ?_ | refine R_callvZ rfl (hV) rfl rfl rfl rfl ?_ | refine D_callZ rfl (hV) rfl rfl rfl ?_ | ((first | refine R_cond rfl (fun hq => ?_) fun hq => ?_ | refine R_guardT rfl rfl rfl (fun hq => ?_) fun hq => ?_ | refine R_guardF rfl rfl rfl (fun hq => ?_) fun hq => ?_ | refine D_guardT rfl rfl rfl (fun hq => ?_) fun hq => ?_ | refine D_guardF rfl rfl rfl (fun hq => ?_) fun hq => ?_) <;> (try rw [hq]) <;> first | have hp := of_decide_eq_true hq | have hp := of_decide_eq_false hq | have hp := of_decide_eq_false (not_t hq) | have hp := of_decide_eq_true (not_f hq) | have hp := hq))
    exact ret_nil_lit rfl (by simp [vioZ, hg]) rfl
  · repeat' (first | refine goZ ?_ | refine R_callZ rfl (hV) rfl rfl rfl ?_ | refine R_callZ rfl (l6Breaks_f c hg) rfl rfl rfl ?_ | refine R_callvZ rfl (hV) rfl rfl rfl rfl ?_ | refine R_callvZ rfl (l6Breaks_f c hg) rfl rfl rfl rfl ?_ | refine D_callZ rfl (hV) rfl rfl rfl ?_ | refine D_callZ rfl (l6Breaks_f c hg) rfl rfl rfl ?_ | ((first | refine R_cond rfl (fun hq => ?_) fun hq => ?_ | refine R_guardT rfl rfl rfl (fun hq => ?_) fun hq => ?_ | refine R_guardF rfl rfl rfl (fun hq => ?_) fun hq => ?_ | refine D_guardT rfl rfl rfl (fun hq => ?_) fun hq => ?_ | refine D_guardF rfl rfl rfl (fun hq => ?_) fun hq => ?_) <;> (try rw [hq]) <;> first | have hp := of_decide_eq_true hq | have hp := of_decide_eq_false hq | have hp := of_decide_eq_false (not_t hq) | have hp := of_decide_eq_true (not_f hq) | have hp := hq))
    exact ret_own_lit rfl rfl (by simp [vioZ, hg]) rfl
end Go.Proofs.Ytodjjabmaleggaa
