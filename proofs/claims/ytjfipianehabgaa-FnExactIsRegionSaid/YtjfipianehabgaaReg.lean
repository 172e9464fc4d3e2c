/- Regions: what the reference's function hands back. No condition. -/
import Derived.Test.YtjfipianehabgaaPut
import Derived.Test.YtjfipianehabgaaSgc
import Derived.Test.YtjfipianehabgaaRet
set_option linter.unusedSimpArgs false
set_option linter.unusedVariables false
set_option maxHeartbeats 2000000
namespace Go.Proofs.Ytjfipianehabgaa
open Go.ChangeShapes Go.WideShapes Go.ChangeAt Go.RowKit

/-! ### The plain part -/
noncomputable def setQ (c : SGraph) (set : List Int) : Bool := goodSG c && decide (rising 0 ((c.codes.length : Int) - 1) set)
def crI (set : List Int) (a : ArcD) : Int := if !decide (a.src ∈ set) && decide (a.dst ∈ set) then 1 else if decide (a.src ∈ set) && !decide (a.dst ∈ set) then 2 else 0
def crBad (l : List ArcD) (set : List Int) (i j : Nat) : Bool := decide (0 ≤ (nth l i).sig) && (isA (nth l i).sig (nth l i).up (nth l j) && !decide (crI set (nth l i) = crI set (nth l j)))
def regOk (l : List ArcD) (set : List Int) : Bool := decide (∀ i, i < l.length → ∀ j, j < i → crBad l set i j = false)
noncomputable def regV (c : SGraph) (set : List Int) : Bool := setQ c set && regOk c.arcs set
theorem regOk_no {l : List ArcD} {set : List Int} {i j : Nat} (hi : i < l.length) (hj : j < i) (h : crBad l set i j = true) : regOk l set = false := decide_eq_false fun h1 => by rw [h1 i hi j hj] at h; exact Bool.noConfusion h

/-! ### The reference -/
theorem l10Set_f (c : SGraph) (set : List Int) : Fn Try.prog 99 [.agg (dSGraph c), .sh 1 (ints set)] (.lit (.bool (setQ c set))) [] := by
  refine Fn_of Try.func99 rfl (by kernel_rfl) rfl rfl ?_
  intro w0 A hin
  have hzs := len_strs c.codes
  have hV := l5Good_f c
  cases hg : goodSG c <;> rw [hg] at hV
  · repeat' (first | refine goZ ?_ | refine R_callZ rfl (hV) rfl rfl rfl ?_ | refine R_callvZ rfl (hV) rfl rfl rfl rfl ?_ | refine D_callZ rfl (hV) rfl rfl rfl ?_ | ((first | refine R_cond rfl (fun hq => ?_) fun hq => ?_ | refine R_guardT rfl rfl rfl (fun hq => ?_) fun hq => ?_ | refine R_guardF rfl rfl rfl (fun hq => ?_) fun hq => ?_ | refine D_guardT rfl rfl rfl (fun hq => ?_) fun hq => ?_ | refine D_guardF rfl rfl rfl (fun hq => ?_) fun hq => ?_) <;> (try rw [hq]) <;> first | have hp := of_decide_eq_true hq | have hp := of_decide_eq_false hq | have hp := of_decide_eq_false (not_t hq) | have hp := of_decide_eq_true (not_f hq) | have hp := hq))
    all_goals exact ret_bool' rfl (by simp [setQ, hg])
  · have hlg := goodSG_len hg
    repeat' (first | refine goZ ?_ | refine R_callZ rfl (hV) rfl rfl rfl ?_ | refine R_callZ rfl (l1Rising_f _ _ _) rfl rfl rfl ?_ | refine R_callvZ rfl (hV) rfl rfl rfl rfl ?_ | refine R_callvZ rfl (l1Rising_f _ _ _) rfl rfl rfl rfl ?_ | refine D_callZ rfl (hV) rfl rfl rfl ?_ | refine D_callZ rfl (l1Rising_f _ _ _) rfl rfl rfl ?_ | ((first | refine R_cond rfl (fun hq => ?_) fun hq => ?_ | refine R_guardT rfl rfl rfl (fun hq => ?_) fun hq => ?_ | refine R_guardF rfl rfl rfl (fun hq => ?_) fun hq => ?_ | refine D_guardT rfl rfl rfl (fun hq => ?_) fun hq => ?_ | refine D_guardF rfl rfl rfl (fun hq => ?_) fun hq => ?_) <;> (try rw [hq]) <;> first | have hp := of_decide_eq_true hq | have hp := of_decide_eq_false hq | have hp := of_decide_eq_false (not_t hq) | have hp := of_decide_eq_true (not_f hq) | have hp := hq))
    all_goals exact ret_bool' rfl (by rw [setQ, hg, len_strs]; simp)
theorem isStateSet_f (c : SGraph) (set : List Int) : Fn Try.prog 102 [.agg (dSGraph c), .sh 1 (ints set)] (.lit (.bool (setQ c set))) [] := by
  refine Fn_of Try.func102 rfl (by kernel_rfl) rfl rfl ?_
  intro w0 A hin
  have hzs := len_strs c.codes
  have hV := IsValidStateGraph_f c
  have hI := isIncreasing_f set ((strs c.codes).length : Int) (by omega)
  generalize hr : decide (rising 0 (((strs c.codes).length : Int) - 1) set) = r at hI
  rw [hzs] at hr
  cases r
  · repeat' (first | refine goZ ?_ | refine R_callZ rfl (hI) rfl rfl rfl ?_ | refine R_callZ rfl (hV) rfl rfl rfl ?_ | refine R_callvZ rfl (hI) rfl rfl rfl rfl ?_ | refine R_callvZ rfl (hV) rfl rfl rfl rfl ?_ | refine D_callZ rfl (hI) rfl rfl rfl ?_ | refine D_callZ rfl (hV) rfl rfl rfl ?_ | ((first | refine R_cond rfl (fun hq => ?_) fun hq => ?_ | refine R_guardT rfl rfl rfl (fun hq => ?_) fun hq => ?_ | refine R_guardF rfl rfl rfl (fun hq => ?_) fun hq => ?_ | refine D_guardT rfl rfl rfl (fun hq => ?_) fun hq => ?_ | refine D_guardF rfl rfl rfl (fun hq => ?_) fun hq => ?_) <;> (try rw [hq]) <;> first | have hp := of_decide_eq_true hq | have hp := of_decide_eq_false hq | have hp := of_decide_eq_false (not_t hq) | have hp := of_decide_eq_true (not_f hq) | have hp := hq))
    all_goals exact ret_bool' rfl (by rw [setQ, hr]; simp)
  · repeat' (first | refine goZ ?_ | refine R_callZ rfl (hI) rfl rfl rfl ?_ | refine R_callZ rfl (hV) rfl rfl rfl ?_ | refine R_callvZ rfl (hI) rfl rfl rfl rfl ?_ | refine R_callvZ rfl (hV) rfl rfl rfl rfl ?_ | refine D_callZ rfl (hI) rfl rfl rfl ?_ | refine D_callZ rfl (hV) rfl rfl rfl ?_ | ((first | refine R_cond rfl (fun hq => ?_) fun hq => ?_ | refine R_guardT rfl rfl rfl (fun hq => ?_) fun hq => ?_ | refine R_guardF rfl rfl rfl (fun hq => ?_) fun hq => ?_ | refine D_guardT rfl rfl rfl (fun hq => ?_) fun hq => ?_ | refine D_guardF rfl rfl rfl (fun hq => ?_) fun hq => ?_) <;> (try rw [hq]) <;> first | have hp := of_decide_eq_true hq | have hp := of_decide_eq_false hq | have hp := of_decide_eq_false (not_t hq) | have hp := of_decide_eq_true (not_f hq) | have hp := hq))
    all_goals exact ret_bool' rfl (by rw [setQ, hr]; simp)
theorem l10Cross_f (a : ArcD) (set : List Int) : Fn Try.prog 101 [.agg (dArcD a), .sh 1 (ints set)] (.lit (.int .i64 (crI set a))) [] := by
  refine Fn_of Try.func101 rfl (by kernel_rfl) rfl rfl ?_
  intro w0 A hin
  repeat' (first | refine goZ ?_ | refine R_callZ rfl (l1Has_f _ _) rfl rfl rfl ?_ | refine R_callvZ rfl (l1Has_f _ _) rfl rfl rfl rfl ?_ | refine D_callZ rfl (l1Has_f _ _) rfl rfl rfl ?_ | ((first | refine R_cond rfl (fun hq => ?_) fun hq => ?_ | refine R_guardT rfl rfl rfl (fun hq => ?_) fun hq => ?_ | refine R_guardF rfl rfl rfl (fun hq => ?_) fun hq => ?_ | refine D_guardT rfl rfl rfl (fun hq => ?_) fun hq => ?_ | refine D_guardF rfl rfl rfl (fun hq => ?_) fun hq => ?_) <;> (try rw [hq]) <;> first | have hp := of_decide_eq_true hq | have hp := of_decide_eq_false hq | have hp := of_decide_eq_false (not_t hq) | have hp := of_decide_eq_true (not_f hq) | have hp := hq))
  all_goals exact ret_int' rfl (by simp_all [crI])

set_option maxHeartbeats 1600000 in
theorem specIsRegion_f (c : SGraph) (set : List Int) : Fn Try.prog 38 [.agg (dSGraph c), .sh 1 (ints set)] (.tup [.lit (.bool (regV c set)), .lit (.bool (setQ c set))]) [] := by
  refine Fn_of Try.func38 rfl (by kernel_rfl) rfl rfl ?_
  intro w0 A hin
  have hV := l10Set_f c set
  cases hs : setQ c set <;> rw [hs] at hV
  · repeat' (first | refine goZ ?_ | refine R_callZ rfl (hV) rfl rfl rfl ?_ | refine R_callvZ rfl (hV) rfl rfl rfl rfl ?_ | refine D_callZ rfl (hV) rfl rfl rfl ?_ | ((first | refine R_cond rfl (fun hq => ?_) fun hq => ?_ | refine R_guardT rfl rfl rfl (fun hq => ?_) fun hq => ?_ | refine R_guardF rfl rfl rfl (fun hq => ?_) fun hq => ?_ | refine D_guardT rfl rfl rfl (fun hq => ?_) fun hq => ?_ | refine D_guardF rfl rfl rfl (fun hq => ?_) fun hq => ?_) <;> (try rw [hq]) <;> first | have hp := of_decide_eq_true hq | have hp := of_decide_eq_false hq | have hp := of_decide_eq_false (not_t hq) | have hp := of_decide_eq_true (not_f hq) | have hp := hq))
    exact ret_lit2 rfl (by rw [regV, hs]; rfl) rfl
  have hg : goodSG c = true := by simp only [setQ, Bool.and_eq_true] at hs; exact hs.1
  have hlg := goodSG_len hg
  have hza := len_dArcD c.arcs
  repeat' (first | refine goZ ?_ | refine R_callZ rfl (hV) rfl rfl rfl ?_ | refine R_callvZ rfl (hV) rfl rfl rfl rfl ?_ | refine D_callZ rfl (hV) rfl rfl rfl ?_ | ((first | refine R_cond rfl (fun hq => ?_) fun hq => ?_ | refine R_guardT rfl rfl rfl (fun hq => ?_) fun hq => ?_ | refine R_guardF rfl rfl rfl (fun hq => ?_) fun hq => ?_ | refine D_guardT rfl rfl rfl (fun hq => ?_) fun hq => ?_ | refine D_guardF rfl rfl rfl (fun hq => ?_) fun hq => ?_) <;> (try rw [hq]) <;> first | have hp := of_decide_eq_true hq | have hp := of_decide_eq_false hq | have hp := of_decide_eq_false (not_t hq) | have hp := of_decide_eq_true (not_f hq) | have hp := hq))
  refine W_loop (fun i : Nat => ⟨_, [(1, .sh 1 (ints set)), (2, .ptr 0 0), (15, .sh 4 (c.arcs.map dArcD)), (16, .lit (.int .i64 c.arcs.length)), (17, .lit (.int .i64 i))], [.cells 67 (dSGraph c)]⟩) (fun i => i ≤ c.arcs.length ∧ ∀ i', i' < i → ∀ j, j < i' → crBad c.arcs set i' j = false) (fun i => c.arcs.length - i) 0 ⟨Nat.zero_le _, fun i' h => by omega⟩ (weakZ []) ?_
  rintro i ⟨hi, hI⟩
  repeat' (first | refine goZ ?_ | ((first | refine R_cond rfl (fun hq => ?_) fun hq => ?_ | refine R_guardT rfl rfl rfl (fun hq => ?_) fun hq => ?_ | refine R_guardF rfl rfl rfl (fun hq => ?_) fun hq => ?_ | refine D_guardT rfl rfl rfl (fun hq => ?_) fun hq => ?_ | refine D_guardF rfl rfl rfl (fun hq => ?_) fun hq => ?_) <;> (try rw [hq]) <;> first | have hp := of_decide_eq_true hq | have hp := of_decide_eq_false hq | have hp := of_decide_eq_false (not_t hq) | have hp := of_decide_eq_true (not_f hq) | have hp := hq))
  rotate_left
  · exact ret_lit2 rfl (by rw [regV, hs, Bool.true_and, regOk, decide_eq_true]; exact fun i' h => hI i' (by omega)) rfl
  have hil : i < c.arcs.length := by omega
  have e : (c.arcs.map dArcD).take i = (c.arcs.take i).map dArcD := by rw [List.map_take]
  have hzt := len_dArcD (c.arcs.take i)
  have hzl : (c.arcs.take i).length = i := by simp; omega
  have hnt : ∀ j, j < i → nth (c.arcs.take i) j = nth c.arcs j := fun j hj => by
    rw [nth_get (by omega), nth_get (by omega), List.getElem_take]
  refine W_loop (fun j : Nat => ⟨_, [(1, .sh 1 (ints set)), (2, .ptr 0 0), (7, .ptr 1 0), (15, .sh 4 (c.arcs.map dArcD)), (16, .lit (.int .i64 c.arcs.length)), (17, .lit (.int .i64 i)), (25, .sh 4 ((c.arcs.take i).map dArcD)), (26, .lit (.int .i64 ((c.arcs.take i).map dArcD).length)), (27, .lit (.int .i64 j))], [.cells 67 (dSGraph c), .cells 134 (dArcD (nth c.arcs i))]⟩) (fun j => j ≤ i ∧ ∀ j', j' < j → crBad c.arcs set i j' = false) (fun j => i - j) 0 ⟨Nat.zero_le _, fun j' h => by omega⟩ (by rw [← e]; exact weakZ []) ?_
  rintro j ⟨hj, hJ⟩
  repeat' (first | refine goZ ?_ | refine R_callZ rfl (l10Is_f _ _ _) rfl rfl rfl ?_ | refine R_callZ rfl (l10Cross_f _ _) rfl rfl rfl ?_ | refine R_callvZ rfl (l10Is_f _ _ _) rfl rfl rfl rfl ?_ | refine R_callvZ rfl (l10Cross_f _ _) rfl rfl rfl rfl ?_ | refine D_callZ rfl (l10Is_f _ _ _) rfl rfl rfl ?_ | refine D_callZ rfl (l10Cross_f _ _) rfl rfl rfl ?_ | ((first | refine R_cond rfl (fun hq => ?_) fun hq => ?_ | refine R_guardT rfl rfl rfl (fun hq => ?_) fun hq => ?_ | refine R_guardF rfl rfl rfl (fun hq => ?_) fun hq => ?_ | refine D_guardT rfl rfl rfl (fun hq => ?_) fun hq => ?_ | refine D_guardF rfl rfl rfl (fun hq => ?_) fun hq => ?_) <;> (try rw [hq]) <;> first | have hp := of_decide_eq_true hq | have hp := of_decide_eq_false hq | have hp := of_decide_eq_false (not_t hq) | have hp := of_decide_eq_true (not_f hq) | have hp := hq))
  · have hji : j < i := by omega
    have hn := hnt j hji
    have hb : crBad c.arcs set i j = true := by rw [hn] at *; simp_all [crBad, isA]
    exact ret_lit2 rfl (by rw [regV, hs, Bool.true_and, regOk_no hil hji hb]) rfl
  rotate_right
  · refine ⟨i + 1, ⟨by omega, fun i' h1 j' h2 => ?_⟩, by omega, weakZ _⟩
    by_cases e1 : i' = i
    · subst e1; exact hJ j' (by omega)
    · exact hI i' (by omega) j' h2
  all_goals
    have hji : j < i := by omega
    have hn := hnt j hji
    have hb : crBad c.arcs set i j = false := by rw [hn] at *; simp_all [crBad, isA] <;> (intro h; omega)
    exact ⟨j + 1, ⟨by omega, fun j' h1 => by by_cases e1 : j' = j; (rw [e1]; exact hb); exact hJ j' (by omega)⟩, by omega, weakZ _⟩
end Go.Proofs.Ytjfipianehabgaa
