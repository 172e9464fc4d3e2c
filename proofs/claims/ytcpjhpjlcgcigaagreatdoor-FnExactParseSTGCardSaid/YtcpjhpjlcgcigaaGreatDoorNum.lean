/- Numbers, lists of numbers, nets: what the reference's and the program's functions hand back. -/
import Derived.Test.YtcpjhpjlcgcigaaGreatDoorTab
set_option linter.unusedSimpArgs false
set_option linter.unusedVariables false
set_option maxHeartbeats 2000000
namespace Go.Proofs.YtcpjhpjlcgcigaaGreatDoor
open Go.ChangeShapes Go.WideShapes Go.ChangeAt Go.RowKit

theorem len_ints (l : List Int) : (ints l).length = l.length := by simp [ints]
theorem has_not {l : List Int} {x : Int} (h : ∀ j, j < l.length → nth l j ≠ x) : x ∉ l := by
  intro hx
  obtain ⟨i, hi, e⟩ := List.getElem_of_mem hx
  exact h i hi (by rw [nth_get hi]; exact e)
theorem allN {α : Type} [Inhabited α] {p : α → Prop} {l : List α} (h : ∀ j, j < l.length → p (nth l j)) : ∀ x ∈ l, p x := by
  intro x hx
  obtain ⟨i, hi, rfl⟩ := List.getElem_of_mem hx
  have := h i hi; rwa [nth_get hi] at this

/-! ### numbers -/
theorem l1In_f (n lo hi : Int) : Fn Tryz.prog 56 [.lit (.int .i64 n), .lit (.int .i64 lo), .lit (.int .i64 hi)] (.lit (.bool (decide (lo ≤ n ∧ n ≤ hi)))) [] := by
  refine Fn_of Tryz.func56 rfl (by kernel_rfl) rfl rfl ?_
  intro w0 A hin
  repeat' (first | refine goZ ?_ | ((first | refine R_cond rfl (fun hq => ?_) fun hq => ?_ | refine R_guardT rfl rfl rfl (fun hq => ?_) fun hq => ?_ | refine R_guardF rfl rfl rfl (fun hq => ?_) fun hq => ?_ | refine D_guardT rfl rfl rfl (fun hq => ?_) fun hq => ?_ | refine D_guardF rfl rfl rfl (fun hq => ?_) fun hq => ?_) <;> (try rw [hq]) <;> first | have hp := of_decide_eq_true hq | have hp := of_decide_eq_false hq | have hp := of_decide_eq_false (not_t hq) | have hp := of_decide_eq_true (not_f hq) | have hp := hq))
  all_goals exact ret_bool' rfl (by simp_all <;> omega)

theorem within_f (n lo hi : Int) : Fn Tryz.prog 90 [.lit (.int .i64 n), .lit (.int .i64 lo), .lit (.int .i64 hi)] (.lit (.bool (decide (lo ≤ n ∧ n ≤ hi)))) [] := by
  refine Fn_of Tryz.func90 rfl (by kernel_rfl) rfl rfl ?_
  intro w0 A hin
  repeat' (first | refine goZ ?_ | ((first | refine R_cond rfl (fun hq => ?_) fun hq => ?_ | refine R_guardT rfl rfl rfl (fun hq => ?_) fun hq => ?_ | refine R_guardF rfl rfl rfl (fun hq => ?_) fun hq => ?_ | refine D_guardT rfl rfl rfl (fun hq => ?_) fun hq => ?_ | refine D_guardF rfl rfl rfl (fun hq => ?_) fun hq => ?_) <;> (try rw [hq]) <;> first | have hp := of_decide_eq_true hq | have hp := of_decide_eq_false hq | have hp := of_decide_eq_false (not_t hq) | have hp := of_decide_eq_true (not_f hq) | have hp := hq))
  all_goals exact ret_bool' rfl (by simp_all <;> omega)

/-! ### rising numbers -/
def rising (lo hi : Int) (l : List Int) : Prop := ∀ j, j < l.length → (lo ≤ nth l j ∧ nth l j ≤ hi) ∧ (0 < j → nth l (j - 1) < nth l j)
instance (lo hi : Int) (l : List Int) : Decidable (rising lo hi l) := inferInstanceAs (Decidable (∀ j, j < l.length → _))
theorem l1Rising_f (l : List Int) (lo hi : Int) : Fn Tryz.prog 76 [.sh 1 (ints l), .lit (.int .i64 lo), .lit (.int .i64 hi)] (.lit (.bool (decide (rising lo hi l)))) [] := by
  refine Fn_of Tryz.func76 rfl (by kernel_rfl) rfl rfl ?_
  intro w0 A hin
  have hl := given_len hin (i := 0) rfl
  rw [len_ints] at hl
  repeat' (first | refine goZ ?_ | ((first | refine R_cond rfl (fun hq => ?_) fun hq => ?_ | refine R_guardT rfl rfl rfl (fun hq => ?_) fun hq => ?_ | refine R_guardF rfl rfl rfl (fun hq => ?_) fun hq => ?_ | refine D_guardT rfl rfl rfl (fun hq => ?_) fun hq => ?_ | refine D_guardF rfl rfl rfl (fun hq => ?_) fun hq => ?_) <;> (try rw [hq]) <;> first | have hp := of_decide_eq_true hq | have hp := of_decide_eq_false hq | have hp := of_decide_eq_false (not_t hq) | have hp := of_decide_eq_true (not_f hq) | have hp := hq))
  refine W_loop (fun k : Nat => ⟨_, [(0, .sh 1 (ints l)), (1, .lit (.int .i64 lo)), (2, .lit (.int .i64 hi)), (9, .sh 1 (ints l)), (10, .lit (.int .i64 l.length)), (11, .lit (.int .i64 k))], []⟩) (fun k => k ≤ l.length ∧ ∀ j, j < k → (lo ≤ nth l j ∧ nth l j ≤ hi) ∧ (0 < j → nth l (j - 1) < nth l j)) (fun k => l.length - k) 0 ⟨Nat.zero_le _, by omega⟩ (weakZ []) ?_
  rintro k ⟨hk, hj⟩
  repeat' (first | refine goZ ?_ | refine R_callZ rfl (l1In_f _ _ _) rfl rfl rfl ?_ | refine R_callvZ rfl (l1In_f _ _ _) rfl rfl rfl rfl ?_ | refine D_callZ rfl (l1In_f _ _ _) rfl rfl rfl ?_ | ((first | refine R_cond rfl (fun hq => ?_) fun hq => ?_ | refine R_guardT rfl rfl rfl (fun hq => ?_) fun hq => ?_ | refine R_guardF rfl rfl rfl (fun hq => ?_) fun hq => ?_ | refine D_guardT rfl rfl rfl (fun hq => ?_) fun hq => ?_ | refine D_guardF rfl rfl rfl (fun hq => ?_) fun hq => ?_) <;> (try rw [hq]) <;> first | have hp := of_decide_eq_true hq | have hp := of_decide_eq_false hq | have hp := of_decide_eq_false (not_t hq) | have hp := of_decide_eq_true (not_f hq) | have hp := hq))
  · have e : ((k : Int) - 1).toNat = k - 1 := by omega
    rw [e] at hp
    refine ret_bool' rfl ?_
    rw [eq_comm, decide_eq_false_iff_not]; intro h
    have := (h k (by omega)).2 (by omega)
    omega
  · have e : ((k : Int) - 1).toNat = k - 1 := by omega
    rw [e] at hp
    refine ⟨k + 1, ⟨by omega, fun j hj' => ?_⟩, by omega, weakZ []⟩
    by_cases e : j = k
    · subst e; exact ⟨by assumption, fun _ => by omega⟩
    · exact hj j (by omega)
  · refine ⟨k + 1, ⟨by omega, fun j hj' => ?_⟩, by omega, weakZ []⟩
    by_cases e : j = k
    · subst e; exact ⟨by assumption, fun h => by omega⟩
    · exact hj j (by omega)
  · exact ret_bool' rfl (by rw [eq_comm, decide_eq_false_iff_not]; exact fun h => hp (h k (by omega)).1)
  · exact ret_bool' rfl (by rw [eq_comm, decide_eq_true_eq]; exact fun j h => hj j (by omega))

theorem l1Set2_f (l : List Int) (m : Int) : Fn Tryz.prog 57 [.sh 1 (ints l), .lit (.int .i64 m)] (.lit (.bool (decide (rising 0 m l)))) [] := by
  refine Fn_of Tryz.func57 rfl (by kernel_rfl) rfl rfl ?_
  intro w0 A hin
  repeat' (first | refine goZ ?_ | refine R_callZ rfl (l1Rising_f _ _ _) rfl rfl rfl ?_ | refine R_callvZ rfl (l1Rising_f _ _ _) rfl rfl rfl rfl ?_ | refine D_callZ rfl (l1Rising_f _ _ _) rfl rfl rfl ?_ | ((first | refine R_cond rfl (fun hq => ?_) fun hq => ?_ | refine R_guardT rfl rfl rfl (fun hq => ?_) fun hq => ?_ | refine R_guardF rfl rfl rfl (fun hq => ?_) fun hq => ?_ | refine D_guardT rfl rfl rfl (fun hq => ?_) fun hq => ?_ | refine D_guardF rfl rfl rfl (fun hq => ?_) fun hq => ?_) <;> (try rw [hq]) <;> first | have hp := of_decide_eq_true hq | have hp := of_decide_eq_false hq | have hp := of_decide_eq_false (not_t hq) | have hp := of_decide_eq_true (not_f hq) | have hp := hq))
  exact ret_bool' rfl rfl

theorem isIncreasing_f (l : List Int) (n : Int) (hn : -9223372036854775807 ≤ n) : Fn Tryz.prog 103 [.sh 1 (ints l), .lit (.int .i64 n)] (.lit (.bool (decide (rising 0 (n - 1) l)))) [] := by
  refine Fn_of Tryz.func103 rfl (by kernel_rfl) rfl rfl ?_
  intro w0 A hin
  have hl := given_len hin (i := 0) rfl
  have hn2 := given_int hin (i := 1) rfl
  rw [len_ints] at hl
  repeat' (first | refine goZ ?_ | ((first | refine R_cond rfl (fun hq => ?_) fun hq => ?_ | refine R_guardT rfl rfl rfl (fun hq => ?_) fun hq => ?_ | refine R_guardF rfl rfl rfl (fun hq => ?_) fun hq => ?_ | refine D_guardT rfl rfl rfl (fun hq => ?_) fun hq => ?_ | refine D_guardF rfl rfl rfl (fun hq => ?_) fun hq => ?_) <;> (try rw [hq]) <;> first | have hp := of_decide_eq_true hq | have hp := of_decide_eq_false hq | have hp := of_decide_eq_false (not_t hq) | have hp := of_decide_eq_true (not_f hq) | have hp := hq))
  refine W_loop (fun k : Nat => ⟨_, [(0, .sh 1 (ints l)), (1, .lit (.int .i64 n)), (7, .sh 1 (ints l)), (8, .lit (.int .i64 l.length)), (9, .lit (.int .i64 k))], []⟩) (fun k => k ≤ l.length ∧ ∀ j, j < k → (0 ≤ nth l j ∧ nth l j ≤ n - 1) ∧ (0 < j → nth l (j - 1) < nth l j)) (fun k => l.length - k) 0 ⟨Nat.zero_le _, by omega⟩ (weakZ []) ?_
  rintro k ⟨hk, hj⟩
  repeat' (first | refine goZ ?_ | refine R_callZ rfl (within_f _ _ _) rfl rfl rfl ?_ | refine R_callvZ rfl (within_f _ _ _) rfl rfl rfl rfl ?_ | refine D_callZ rfl (within_f _ _ _) rfl rfl rfl ?_ | ((first | refine R_cond rfl (fun hq => ?_) fun hq => ?_ | refine R_guardT rfl rfl rfl (fun hq => ?_) fun hq => ?_ | refine R_guardF rfl rfl rfl (fun hq => ?_) fun hq => ?_ | refine D_guardT rfl rfl rfl (fun hq => ?_) fun hq => ?_ | refine D_guardF rfl rfl rfl (fun hq => ?_) fun hq => ?_) <;> (try rw [hq]) <;> first | have hp := of_decide_eq_true hq | have hp := of_decide_eq_false hq | have hp := of_decide_eq_false (not_t hq) | have hp := of_decide_eq_true (not_f hq) | have hp := hq))
  · have e : ((k : Int) - 1).toNat = k - 1 := by omega
    rw [e] at hp
    refine ret_bool' rfl ?_
    rw [eq_comm, decide_eq_false_iff_not]; intro h
    have := (h k (by omega)).2 (by omega)
    omega
  · have e : ((k : Int) - 1).toNat = k - 1 := by omega
    rw [e] at hp
    refine ⟨k + 1, ⟨by omega, fun j hj' => ?_⟩, by omega, weakZ []⟩
    by_cases e : j = k
    · subst e; exact ⟨by assumption, fun _ => by omega⟩
    · exact hj j (by omega)
  · refine ⟨k + 1, ⟨by omega, fun j hj' => ?_⟩, by omega, weakZ []⟩
    by_cases e : j = k
    · subst e; exact ⟨by assumption, fun h => by omega⟩
    · exact hj j (by omega)
  · exact ret_bool' rfl (by rw [eq_comm, decide_eq_false_iff_not]; exact fun h => hp (h k (by omega)).1)
  · exact ret_bool' rfl (by rw [eq_comm, decide_eq_true_eq]; exact fun j h => hj j (by omega))
end Go.Proofs.YtcpjhpjlcgcigaaGreatDoor
