/- State graphs: the functions that say whether one is well formed. No condition. -/
import Derived.Test.YtcbfpeplcbgpjaaSg
set_option linter.unusedSimpArgs false
set_option linter.unusedVariables false
set_option maxHeartbeats 2000000
namespace Go.Proofs.Ytcbfpeplcbgpjaa
open Go.ChangeShapes Go.WideShapes Go.ChangeAt Go.RowKit

theorem bools_rep (n : Nat) : List.replicate n [D.lit (.bool false)] = bools (List.replicate n false) := by simp [bools]
theorem len_bools (l : List Bool) : (bools l).length = l.length := by simp [bools]
/-- The arcs' ends are states. -/
def EndsOk (c : SGraph) : Prop := ∀ e ∈ arcE c.arcs, (0 ≤ e.1 ∧ e.1 < c.codes.length) ∧ 0 ≤ e.2 ∧ e.2 < c.codes.length
theorem ends_of {c : SGraph} (h : c.arcs.all (arcB c) = true) : EndsOk c := by
  intro e he
  obtain ⟨a, ha, rfl⟩ := List.mem_map.1 he
  have h1 := List.all_eq_true.1 h a ha
  simp only [arcB, Bool.and_eq_true, decide_eq_true_eq] at h1
  dsimp only; omega

theorem l5All_f (c : SGraph) (h1 : 1 ≤ c.codes.length) (h2 : c.codes.length ≤ 300) (h3 : c.arcs.length ≤ 4000) (hE : EndsOk c) : Fn Try.prog 176 [.agg (dSGraph c)] (.lit (.bool (decide (allReach c)))) [] := by
  refine Fn_of Try.func176 rfl (by kernel_rfl) rfl rfl ?_
  intro w0 A hin
  have hz := len_strs c.codes
  have hz2 := len_dArcD c.arcs
  have hz3 := arcE_len c.arcs
  have hlr : (List.replicate (strs c.codes).length false).length = (strs c.codes).length := List.length_replicate
  have hlb : (bools (List.replicate (strs c.codes).length false)).length = (strs c.codes).length := by rw [len_bools, List.length_replicate]
  have hE0 : ∀ e ∈ arcE c.arcs, 0 ≤ e.2 ∧ e.2 < c.codes.length := fun e he => (hE e he).2
  repeat' (first | (refine R_make tabOk rfl rfl rfl rfl rfl rfl rfl rfl rfl rfl rfl (by omega) ?_; rw [bools_rep]) | refine go1 ?_ | ((first | refine R_cond rfl (fun hq => ?_) fun hq => ?_ | refine R_guardT rfl rfl rfl (fun hq => ?_) fun hq => ?_ | refine R_guardF rfl rfl rfl (fun hq => ?_) fun hq => ?_ | refine D_guardT rfl rfl rfl (fun hq => ?_) fun hq => ?_ | refine D_guardF rfl rfl rfl (fun hq => ?_) fun hq => ?_) <;> (try rw [hq]) <;> first | have hp := of_decide_eq_true hq | have hp := of_decide_eq_false hq | have hp := of_decide_eq_false (not_t hq) | have hp := of_decide_eq_true (not_f hq) | have hp := hq))
  refine W_loop (fun x : Nat × List Bool => ⟨_, [(1, .ptr 0 0), (3, .own 1), (16, .lit (.int .i64 c.codes.length)), (17, .lit (.int .i64 x.1))], [.cells 46 (dSGraph c), .arr 4 1 (bools x.2) true]⟩) (fun x => x.1 ≤ c.codes.length ∧ Met (arcE c.arcs) c.codes.length x.1 x.2) (fun x => c.codes.length - x.1) (0, (List.replicate (strs c.codes).length false).set 0 true) ⟨Nat.zero_le _, by rw [hz]; exact met_init h1 hE0⟩ (weakZ []) ?_
  rintro ⟨r, l⟩ ⟨hr, hM⟩
  dsimp only at hr hM ⊢
  have hb := len_bools l
  have hml := hM.len
  repeat' (first | refine goZ ?_ | ((first | refine R_cond rfl (fun hq => ?_) fun hq => ?_ | refine R_guardT rfl rfl rfl (fun hq => ?_) fun hq => ?_ | refine R_guardF rfl rfl rfl (fun hq => ?_) fun hq => ?_ | refine D_guardT rfl rfl rfl (fun hq => ?_) fun hq => ?_ | refine D_guardF rfl rfl rfl (fun hq => ?_) fun hq => ?_) <;> (try rw [hq]) <;> first | have hp := of_decide_eq_true hq | have hp := of_decide_eq_false hq | have hp := of_decide_eq_false (not_t hq) | have hp := of_decide_eq_true (not_f hq) | have hp := hq))
  · refine W_loop (fun x : Nat × List Bool => ⟨_, [(1, .ptr 0 0), (3, .own 1), (16, .lit (.int .i64 c.codes.length)), (17, .lit (.int .i64 r)), (20, .sh 4 (c.arcs.map dArcD)), (21, .lit (.int .i64 c.arcs.length)), (22, .lit (.int .i64 x.1))], [.cells 46 (dSGraph c), .arr 4 1 (bools x.2) true]⟩) (fun x => x.1 ≤ c.arcs.length ∧ MetR (arcE c.arcs) c.codes.length r x.1 x.2) (fun x => c.arcs.length - x.1) (0, l) ⟨Nat.zero_le _, metR_init hM⟩ (weakZ []) ?_
    rintro ⟨k, l'⟩ ⟨hk, hR⟩
    dsimp only at hk hR ⊢
    have hb' := len_bools l'
    have hml' := hR.len
    have hEk : (k : Int) < (c.arcs.length : Int) → (0 ≤ (nth c.arcs k).src ∧ (nth c.arcs k).src < c.codes.length) ∧ 0 ≤ (nth c.arcs k).dst ∧ (nth c.arcs k).dst < c.codes.length := fun h => by
      have := hE _ (nth_mem (show k < (arcE c.arcs).length by omega))
      rw [arcE_nth (by omega)] at this; exact this
    have hnk : (k : Int) < (c.arcs.length : Int) → nth (arcE c.arcs) k = ((nth c.arcs k).src, (nth c.arcs k).dst) := fun h => arcE_nth (by omega)
    repeat' (first | refine goZ ?_ | ((first | refine R_cond rfl (fun hq => ?_) fun hq => ?_ | refine R_guardT rfl rfl rfl (fun hq => ?_) fun hq => ?_ | refine R_guardF rfl rfl rfl (fun hq => ?_) fun hq => ?_ | refine D_guardT rfl rfl rfl (fun hq => ?_) fun hq => ?_ | refine D_guardF rfl rfl rfl (fun hq => ?_) fun hq => ?_) <;> (try rw [hq]) <;> first | have hp := of_decide_eq_true hq | have hp := of_decide_eq_false hq | have hp := of_decide_eq_false (not_t hq) | have hp := of_decide_eq_true (not_f hq) | have hp := hq))
    · have hk2 : k < (arcE c.arcs).length := by omega
      have hm : metAt l' (nth (arcE c.arcs) k).1 = true := by rw [hnk (by omega)]; exact hp
      have h4 := metR_yes hR hk2 hE hm
      rw [hnk (by omega)] at h4
      exact ⟨(k + 1, _), ⟨by dsimp only; omega, h4⟩, by dsimp only; omega, weakZ _⟩
    · have hk2 : k < (arcE c.arcs).length := by omega
      have hm : ¬ metAt l' (nth (arcE c.arcs) k).1 = true := by rw [hnk (by omega)]; unfold metAt; rw [hp]; simp
      exact ⟨(k + 1, l'), ⟨by dsimp only; omega, metR_no hR hk2 hE hm⟩, by dsimp only; omega, weakZ _⟩
    · exact ⟨(r + 1, l'), ⟨by dsimp only; omega, metR_end hR (by omega) hE⟩, by dsimp only; omega, weakZ []⟩
  · have hA := met_all hM (by omega) h1 hE
    refine W_loop (fun j : Nat => ⟨_, [(37, .own 1), (38, .lit (.int .i64 l.length)), (39, .lit (.int .i64 j))], [.cells 46 (dSGraph c), .arr 4 1 (bools l) true]⟩) (fun j => j ≤ l.length ∧ ∀ i, i < j → nth l i = true) (fun j => l.length - j) 0 ⟨Nat.zero_le _, fun i h => absurd h (Nat.not_lt_zero _)⟩ (weakZ []) ?_
    rintro j ⟨hj, hjj⟩
    repeat' (first | refine goZ ?_ | ((first | refine R_cond rfl (fun hq => ?_) fun hq => ?_ | refine R_guardT rfl rfl rfl (fun hq => ?_) fun hq => ?_ | refine R_guardF rfl rfl rfl (fun hq => ?_) fun hq => ?_ | refine D_guardT rfl rfl rfl (fun hq => ?_) fun hq => ?_ | refine D_guardF rfl rfl rfl (fun hq => ?_) fun hq => ?_) <;> (try rw [hq]) <;> first | have hp := of_decide_eq_true hq | have hp := of_decide_eq_false hq | have hp := of_decide_eq_false (not_t hq) | have hp := of_decide_eq_true (not_f hq) | have hp := hq))
    · refine ret_bool' rfl ?_
      rw [eq_comm, decide_eq_false_iff_not]
      intro h
      have := hA.2 h j (by omega)
      rw [this] at hp; simp at hp
    · exact ⟨j + 1, ⟨by omega, fun i hi => by by_cases e : i = j; (rw [e]; simpa using hp); exact hjj i (by omega)⟩, by omega, weakZ []⟩
    · refine ret_bool' rfl ?_
      rw [eq_comm, decide_eq_true_eq]
      exact hA.1 fun v hv => hjj v (by omega)

theorem sgA_split (c : SGraph) : sgA c = (sigsB c.signals && (decide (1 ≤ (c.codes.length : Int) ∧ (c.codes.length : Int) ≤ 300) && !decide (4000 < (c.arcs.length : Int)))) := by
  unfold sgA
  congr 2
  rw [Bool.eq_iff_iff, decide_eq_true_eq, Bool.not_eq_true', decide_eq_false_iff_not]; omega

set_option maxHeartbeats 1000000 in
theorem l5Good_f (c : SGraph) : Fn Try.prog 129 [.agg (dSGraph c)] (.lit (.bool (goodSG c))) [] := by
  refine Fn_of Try.func129 rfl (by kernel_rfl) rfl rfl ?_
  intro w0 A hin
  have hz := len_strs c.codes
  have hz2 := len_dArcD c.arcs
  have hz3 := len_dSig c.signals
  have hS := l2Signals_f c.signals
  cases hA : sgA c
  · have hn : goodSG c = false := by simp only [goodSG, sgB, hA, Bool.false_and]
    rw [hn]
    rw [sgA_split] at hA
    cases hs : sigsB c.signals <;> rw [hs] at hS
    · repeat' (first | refine goZ ?_ | refine R_callZ rfl (hS) rfl rfl rfl ?_ | refine R_callZ rfl (l1In_f _ _ _) rfl rfl rfl ?_ | refine R_callvZ rfl (hS) rfl rfl rfl rfl ?_ | refine R_callvZ rfl (l1In_f _ _ _) rfl rfl rfl rfl ?_ | refine D_callZ rfl (hS) rfl rfl rfl ?_ | refine D_callZ rfl (l1In_f _ _ _) rfl rfl rfl ?_ | ((first | refine R_cond rfl (fun hq => ?_) fun hq => ?_ | refine R_guardT rfl rfl rfl (fun hq => ?_) fun hq => ?_ | refine R_guardF rfl rfl rfl (fun hq => ?_) fun hq => ?_ | refine D_guardT rfl rfl rfl (fun hq => ?_) fun hq => ?_ | refine D_guardF rfl rfl rfl (fun hq => ?_) fun hq => ?_) <;> (try rw [hq]) <;> first | have hp := of_decide_eq_true hq | have hp := of_decide_eq_false hq | have hp := of_decide_eq_false (not_t hq) | have hp := of_decide_eq_true (not_f hq) | have hp := hq))
      all_goals exact ret_bool' rfl rfl
    · rw [hs, Bool.true_and] at hA
      repeat' (first | refine goZ ?_ | refine R_callZ rfl (hS) rfl rfl rfl ?_ | refine R_callZ rfl (l1In_f _ _ _) rfl rfl rfl ?_ | refine R_callvZ rfl (hS) rfl rfl rfl rfl ?_ | refine R_callvZ rfl (l1In_f _ _ _) rfl rfl rfl rfl ?_ | refine D_callZ rfl (hS) rfl rfl rfl ?_ | refine D_callZ rfl (l1In_f _ _ _) rfl rfl rfl ?_ | ((first | refine R_cond rfl (fun hq => ?_) fun hq => ?_ | refine R_guardT rfl rfl rfl (fun hq => ?_) fun hq => ?_ | refine R_guardF rfl rfl rfl (fun hq => ?_) fun hq => ?_ | refine D_guardT rfl rfl rfl (fun hq => ?_) fun hq => ?_ | refine D_guardF rfl rfl rfl (fun hq => ?_) fun hq => ?_) <;> (try rw [hq]) <;> first | have hp := of_decide_eq_true hq | have hp := of_decide_eq_false hq | have hp := of_decide_eq_false (not_t hq) | have hp := of_decide_eq_true (not_f hq) | have hp := hq))
      · exact ret_bool' rfl rfl
      · exfalso
        rw [Bool.and_eq_false_iff, decide_eq_false_iff_not, Bool.not_eq_false', decide_eq_true_eq] at hA; omega
      · exact ret_bool' rfl rfl
  · have hb := sgA_len hA
    have hs : sigsB c.signals = true := by simp only [sgA, Bool.and_eq_true] at hA; exact hA.1
    rw [hs] at hS
    repeat' (first | refine goZ ?_ | refine R_callZ rfl (hS) rfl rfl rfl ?_ | refine R_callZ rfl (l1In_f _ _ _) rfl rfl rfl ?_ | refine R_callvZ rfl (hS) rfl rfl rfl rfl ?_ | refine R_callvZ rfl (l1In_f _ _ _) rfl rfl rfl rfl ?_ | refine D_callZ rfl (hS) rfl rfl rfl ?_ | refine D_callZ rfl (l1In_f _ _ _) rfl rfl rfl ?_ | ((first | refine R_cond rfl (fun hq => ?_) fun hq => ?_ | refine R_guardT rfl rfl rfl (fun hq => ?_) fun hq => ?_ | refine R_guardF rfl rfl rfl (fun hq => ?_) fun hq => ?_ | refine D_guardT rfl rfl rfl (fun hq => ?_) fun hq => ?_ | refine D_guardF rfl rfl rfl (fun hq => ?_) fun hq => ?_) <;> (try rw [hq]) <;> first | have hp := of_decide_eq_true hq | have hp := of_decide_eq_false hq | have hp := of_decide_eq_false (not_t hq) | have hp := of_decide_eq_true (not_f hq) | have hp := hq))
    · exfalso; omega
    · refine W_loop (fun k : Nat => ⟨_, [(1, .ptr 0 0), (25, .sh 1 (strs c.codes)), (26, .lit (.int .i64 c.codes.length)), (27, .lit (.int .i64 k))], [.cells 46 (dSGraph c)]⟩) (fun k => k ≤ c.codes.length ∧ ∀ j, j < k → codeB (nth c.codes j) c.signals.length = true) (fun k => c.codes.length - k) 0 ⟨Nat.zero_le _, fun j h => absurd h (Nat.not_lt_zero _)⟩ (weakZ []) ?_
      rintro k ⟨hk, hj⟩
      repeat' (first | refine goZ ?_ | refine R_callZ rfl (l5Code_f _ _) rfl rfl rfl ?_ | refine R_callvZ rfl (l5Code_f _ _) rfl rfl rfl rfl ?_ | refine D_callZ rfl (l5Code_f _ _) rfl rfl rfl ?_ | ((first | refine R_cond rfl (fun hq => ?_) fun hq => ?_ | refine R_guardT rfl rfl rfl (fun hq => ?_) fun hq => ?_ | refine R_guardF rfl rfl rfl (fun hq => ?_) fun hq => ?_ | refine D_guardT rfl rfl rfl (fun hq => ?_) fun hq => ?_ | refine D_guardF rfl rfl rfl (fun hq => ?_) fun hq => ?_) <;> (try rw [hq]) <;> first | have hp := of_decide_eq_true hq | have hp := of_decide_eq_false hq | have hp := of_decide_eq_false (not_t hq) | have hp := of_decide_eq_true (not_f hq) | have hp := hq))
      · have h := hp
        rw [Bool.not_eq_true', hz3] at h
        have h4 := all_no (p := fun x => codeB x c.signals.length) (show k < c.codes.length by omega) h
        exact ret_bool' rfl (by rw [goodSG, sgB, h4, Bool.false_and, Bool.and_false, Bool.false_and])
      · refine ⟨k + 1, ⟨by omega, fun j hj' => ?_⟩, by omega, weakZ []⟩
        by_cases e : j = k
        · rw [e]; have h := hp; rw [Bool.not_eq_false', hz3] at h; exact h
        · exact hj j (by omega)
      · have hC := all_yes (p := fun x => codeB x c.signals.length) (k := k) (l := c.codes) (by omega) hj
        refine W_loop (fun k : Nat => ⟨_, [(1, .ptr 0 0), (39, .sh 4 (c.arcs.map dArcD)), (40, .lit (.int .i64 c.arcs.length)), (41, .lit (.int .i64 k))], [.cells 46 (dSGraph c)]⟩) (fun k => k ≤ c.arcs.length ∧ ∀ j, j < k → arcB c (nth c.arcs j) = true) (fun k => c.arcs.length - k) 0 ⟨Nat.zero_le _, fun j h => absurd h (Nat.not_lt_zero _)⟩ (weakZ []) ?_
        rintro k' ⟨hk', hj'⟩
        cases hall : c.arcs.all (arcB c)
        · repeat' (first | refine goZ ?_ | refine R_callZ rfl (l5Arc_f c _ hA hC) rfl rfl rfl ?_ | refine R_callvZ rfl (l5Arc_f c _ hA hC) rfl rfl rfl rfl ?_ | refine D_callZ rfl (l5Arc_f c _ hA hC) rfl rfl rfl ?_ | ((first | refine R_cond rfl (fun hq => ?_) fun hq => ?_ | refine R_guardT rfl rfl rfl (fun hq => ?_) fun hq => ?_ | refine R_guardF rfl rfl rfl (fun hq => ?_) fun hq => ?_ | refine D_guardT rfl rfl rfl (fun hq => ?_) fun hq => ?_ | refine D_guardF rfl rfl rfl (fun hq => ?_) fun hq => ?_) <;> (try rw [hq]) <;> first | have hp := of_decide_eq_true hq | have hp := of_decide_eq_false hq | have hp := of_decide_eq_false (not_t hq) | have hp := of_decide_eq_true (not_f hq) | have hp := hq))
          · exact ret_bool' rfl (by rw [goodSG, sgB, hall, Bool.and_false, Bool.and_false, Bool.false_and])
          · refine ⟨k' + 1, ⟨by omega, fun j hj2 => ?_⟩, by omega, weakZ _⟩
            by_cases e : j = k'
            · rw [e]; simpa using hp
            · exact hj' j (by omega)
          · exfalso
            have := all_yes (p := arcB c) (k := k') (l := c.arcs) (by omega) hj'
            rw [hall] at this; simp at this
        · have hE := ends_of hall
          repeat' (first | refine goZ ?_ | refine R_callZ rfl (l5Arc_f c _ hA hC) rfl rfl rfl ?_ | refine R_callZ rfl (l5All_f c (by omega) (by omega) (by omega) hE) rfl rfl rfl ?_ | refine R_callvZ rfl (l5Arc_f c _ hA hC) rfl rfl rfl rfl ?_ | refine R_callvZ rfl (l5All_f c (by omega) (by omega) (by omega) hE) rfl rfl rfl rfl ?_ | refine D_callZ rfl (l5Arc_f c _ hA hC) rfl rfl rfl ?_ | refine D_callZ rfl (l5All_f c (by omega) (by omega) (by omega) hE) rfl rfl rfl ?_ | ((first | refine R_cond rfl (fun hq => ?_) fun hq => ?_ | refine R_guardT rfl rfl rfl (fun hq => ?_) fun hq => ?_ | refine R_guardF rfl rfl rfl (fun hq => ?_) fun hq => ?_ | refine D_guardT rfl rfl rfl (fun hq => ?_) fun hq => ?_ | refine D_guardF rfl rfl rfl (fun hq => ?_) fun hq => ?_) <;> (try rw [hq]) <;> first | have hp := of_decide_eq_true hq | have hp := of_decide_eq_false hq | have hp := of_decide_eq_false (not_t hq) | have hp := of_decide_eq_true (not_f hq) | have hp := hq))
          · exfalso
            have := all_no (p := arcB c) (show k' < c.arcs.length by omega) (by simpa using hp)
            rw [hall] at this; simp at this
          · refine ⟨k' + 1, ⟨by omega, fun j hj2 => ?_⟩, by omega, weakZ _⟩
            by_cases e : j = k'
            · rw [e]; simpa using hp
            · exact hj' j (by omega)
          · exact ret_bool' rfl (by rw [goodSG, sgB, hA, hC, hall, Bool.true_and, Bool.true_and, Bool.true_and])
    · exfalso; omega

theorem distL_neg {n : Nat} {E : List (Int × Int)} : (!decide ((-1 : Int) ∈ distL n E 0)) = decide (∀ v : Nat, v < n → 0 ≤ dist E 0 v) := by
  rw [Bool.eq_iff_iff, Bool.not_eq_true', decide_eq_false_iff_not, decide_eq_true_eq]
  constructor
  · intro h v hv
    have h1 := dist_ge (E := E) (s := 0) (v := (v : Int))
    rcases Int.lt_or_le (dist E 0 v) 0 with h2 | h2
    · exfalso
      apply h
      have := nth_mem (l := distL n E 0) (i := v) (by rw [distL_len]; exact hv)
      rw [distL_nth hv, show dist E 0 (v : Int) = -1 by omega] at this; exact this
    · exact h2
  · intro h hm
    obtain ⟨i, hi, e⟩ := List.getElem_of_mem hm
    rw [distL_len] at hi
    have := h i hi
    rw [← distL_nth hi, nth_get (by rw [distL_len]; exact hi), e] at this; omega

set_option maxHeartbeats 4000000 in
theorem IsValidStateGraph_f (c : SGraph) : Fn Try.prog 135 [.agg (dSGraph c)] (.lit (.bool (goodSG c))) [] := by
  refine Fn_of Try.func135 rfl (by kernel_rfl) rfl rfl ?_
  intro w0 A hin
  have hz := len_strs c.codes
  have hz2 := len_dArcD c.arcs
  have hz3 := len_dSig c.signals
  have hS := areSignals_f c.signals
  cases hA : sgA c
  · have hn : goodSG c = false := by simp only [goodSG, sgB, hA, Bool.false_and]
    rw [hn]
    rw [sgA_split] at hA
    cases hs : sigsB c.signals <;> rw [hs] at hS
    · repeat' (first | refine goZ ?_ | refine R_callZ rfl (hS) rfl rfl rfl ?_ | refine R_callZ rfl (within_f _ _ _) rfl rfl rfl ?_ | refine R_callvZ rfl (hS) rfl rfl rfl rfl ?_ | refine R_callvZ rfl (within_f _ _ _) rfl rfl rfl rfl ?_ | refine D_callZ rfl (hS) rfl rfl rfl ?_ | refine D_callZ rfl (within_f _ _ _) rfl rfl rfl ?_ | ((first | refine R_cond rfl (fun hq => ?_) fun hq => ?_ | refine R_guardT rfl rfl rfl (fun hq => ?_) fun hq => ?_ | refine R_guardF rfl rfl rfl (fun hq => ?_) fun hq => ?_ | refine D_guardT rfl rfl rfl (fun hq => ?_) fun hq => ?_ | refine D_guardF rfl rfl rfl (fun hq => ?_) fun hq => ?_) <;> (try rw [hq]) <;> first | have hp := of_decide_eq_true hq | have hp := of_decide_eq_false hq | have hp := of_decide_eq_false (not_t hq) | have hp := of_decide_eq_true (not_f hq) | have hp := hq))
      all_goals exact ret_bool' rfl rfl
    · rw [hs, Bool.true_and] at hA
      repeat' (first | refine goZ ?_ | refine R_callZ rfl (hS) rfl rfl rfl ?_ | refine R_callZ rfl (within_f _ _ _) rfl rfl rfl ?_ | refine R_callvZ rfl (hS) rfl rfl rfl rfl ?_ | refine R_callvZ rfl (within_f _ _ _) rfl rfl rfl rfl ?_ | refine D_callZ rfl (hS) rfl rfl rfl ?_ | refine D_callZ rfl (within_f _ _ _) rfl rfl rfl ?_ | ((first | refine R_cond rfl (fun hq => ?_) fun hq => ?_ | refine R_guardT rfl rfl rfl (fun hq => ?_) fun hq => ?_ | refine R_guardF rfl rfl rfl (fun hq => ?_) fun hq => ?_ | refine D_guardT rfl rfl rfl (fun hq => ?_) fun hq => ?_ | refine D_guardF rfl rfl rfl (fun hq => ?_) fun hq => ?_) <;> (try rw [hq]) <;> first | have hp := of_decide_eq_true hq | have hp := of_decide_eq_false hq | have hp := of_decide_eq_false (not_t hq) | have hp := of_decide_eq_true (not_f hq) | have hp := hq))
      · exact ret_bool' rfl rfl
      · exfalso
        rw [Bool.and_eq_false_iff, decide_eq_false_iff_not, Bool.not_eq_false', decide_eq_true_eq] at hA; omega
      · exact ret_bool' rfl rfl
  · have hb := sgA_len hA
    have hs : sigsB c.signals = true := by simp only [sgA, Bool.and_eq_true] at hA; exact hA.1
    rw [hs] at hS
    repeat' (first | refine goZ ?_ | refine R_callZ rfl (hS) rfl rfl rfl ?_ | refine R_callZ rfl (within_f _ _ _) rfl rfl rfl ?_ | refine R_callvZ rfl (hS) rfl rfl rfl rfl ?_ | refine R_callvZ rfl (within_f _ _ _) rfl rfl rfl rfl ?_ | refine D_callZ rfl (hS) rfl rfl rfl ?_ | refine D_callZ rfl (within_f _ _ _) rfl rfl rfl ?_ | ((first | refine R_cond rfl (fun hq => ?_) fun hq => ?_ | refine R_guardT rfl rfl rfl (fun hq => ?_) fun hq => ?_ | refine R_guardF rfl rfl rfl (fun hq => ?_) fun hq => ?_ | refine D_guardT rfl rfl rfl (fun hq => ?_) fun hq => ?_ | refine D_guardF rfl rfl rfl (fun hq => ?_) fun hq => ?_) <;> (try rw [hq]) <;> first | have hp := of_decide_eq_true hq | have hp := of_decide_eq_false hq | have hp := of_decide_eq_false (not_t hq) | have hp := of_decide_eq_true (not_f hq) | have hp := hq))
    · exfalso; omega
    · refine W_loop (fun k : Nat => ⟨_, [(1, .ptr 0 0), (3, .lit (.int .i64 ((c.codes.length : Int) - 1))), (30, .sh 1 (strs c.codes)), (31, .lit (.int .i64 c.codes.length)), (32, .lit (.int .i64 k))], [.cells 46 (dSGraph c)]⟩) (fun k => k ≤ c.codes.length ∧ ∀ j, j < k → codeB (nth c.codes j) c.signals.length = true) (fun k => c.codes.length - k) 0 ⟨Nat.zero_le _, fun j h => absurd h (Nat.not_lt_zero _)⟩ (weakZ []) ?_
      rintro k ⟨hk, hj⟩
      repeat' (first | refine goZ ?_ | refine R_callZ rfl (isBitsL_f _ _) rfl rfl rfl ?_ | refine R_callvZ rfl (isBitsL_f _ _) rfl rfl rfl rfl ?_ | refine D_callZ rfl (isBitsL_f _ _) rfl rfl rfl ?_ | ((first | refine R_cond rfl (fun hq => ?_) fun hq => ?_ | refine R_guardT rfl rfl rfl (fun hq => ?_) fun hq => ?_ | refine R_guardF rfl rfl rfl (fun hq => ?_) fun hq => ?_ | refine D_guardT rfl rfl rfl (fun hq => ?_) fun hq => ?_ | refine D_guardF rfl rfl rfl (fun hq => ?_) fun hq => ?_) <;> (try rw [hq]) <;> first | have hp := of_decide_eq_true hq | have hp := of_decide_eq_false hq | have hp := of_decide_eq_false (not_t hq) | have hp := of_decide_eq_true (not_f hq) | have hp := hq))
      · have h := hp
        rw [Bool.not_eq_true', hz3] at h
        have h4 := all_no (p := fun x => codeB x c.signals.length) (show k < c.codes.length by omega) h
        exact ret_bool' rfl (by rw [goodSG, sgB, h4, Bool.false_and, Bool.and_false, Bool.false_and])
      · refine ⟨k + 1, ⟨by omega, fun j hj' => ?_⟩, by omega, weakZ []⟩
        by_cases e : j = k
        · rw [e]; have h := hp; rw [Bool.not_eq_false', hz3] at h; exact h
        · exact hj j (by omega)
      · have hC := all_yes (p := fun x => codeB x c.signals.length) (k := k) (l := c.codes) (by omega) hj
        refine W_loop (fun k : Nat => ⟨_, [(1, .ptr 0 0), (3, .lit (.int .i64 ((c.codes.length : Int) - 1))), (44, .sh 4 (c.arcs.map dArcD)), (45, .lit (.int .i64 c.arcs.length)), (46, .lit (.int .i64 k))], [.cells 46 (dSGraph c)]⟩) (fun k => k ≤ c.arcs.length ∧ ∀ j, j < k → arcB c (nth c.arcs j) = true) (fun k => c.arcs.length - k) 0 ⟨Nat.zero_le _, fun j h => absurd h (Nat.not_lt_zero _)⟩ (weakZ []) ?_
        rintro k' ⟨hk', hj'⟩
        have hcd : ∀ i : Int, 0 ≤ i → i ≤ (c.codes.length : Int) - 1 → bitsOk (nth c.codes i.toNat) ∧ ((nth c.codes i.toNat).size : Int) = c.signals.length := fun i h1 h2 => codeB_ok (List.all_eq_true.1 hC _ (nth_mem (by omega)))
        have hF : (0 ≤ (nth c.arcs k').src ∧ (nth c.arcs k').src ≤ (c.codes.length : Int) - 1) → (0 ≤ (nth c.arcs k').dst ∧ (nth c.arcs k').dst ≤ (c.codes.length : Int) - 1) → _ := fun h1 h2 => fitsCodes_f (nth c.arcs k') (nth c.codes (nth c.arcs k').src.toNat) (nth c.codes (nth c.arcs k').dst.toNat) (hcd _ h1.1 h1.2).1 (hcd _ h2.1 h2.2).1 (by have := (hcd _ h1.1 h1.2).2; have := (hcd _ h2.1 h2.2).2; omega)
        have hZ := distL_len c.codes.length (arcE c.arcs) 0
        cases hall : c.arcs.all (arcB c)
        · repeat' (first | refine goZ ?_ | refine R_callZ rfl (within_f _ _ _) rfl rfl rfl ?_ | refine R_callZ rfl (isEdge_f ⟨_, _⟩ _ (by omega)) rfl rfl rfl ?_ | refine R_callZ rfl (hF (by omega) (by omega)) rfl rfl rfl ?_ | refine R_callvZ rfl (within_f _ _ _) rfl rfl rfl rfl ?_ | refine R_callvZ rfl (isEdge_f ⟨_, _⟩ _ (by omega)) rfl rfl rfl rfl ?_ | refine R_callvZ rfl (hF (by omega) (by omega)) rfl rfl rfl rfl ?_ | refine D_callZ rfl (within_f _ _ _) rfl rfl rfl ?_ | refine D_callZ rfl (isEdge_f ⟨_, _⟩ _ (by omega)) rfl rfl rfl ?_ | refine D_callZ rfl (hF (by omega) (by omega)) rfl rfl rfl ?_ | ((first | refine R_cond rfl (fun hq => ?_) fun hq => ?_ | refine R_guardT rfl rfl rfl (fun hq => ?_) fun hq => ?_ | refine R_guardF rfl rfl rfl (fun hq => ?_) fun hq => ?_ | refine D_guardT rfl rfl rfl (fun hq => ?_) fun hq => ?_ | refine D_guardF rfl rfl rfl (fun hq => ?_) fun hq => ?_) <;> (try rw [hq]) <;> first | have hp := of_decide_eq_true hq | have hp := of_decide_eq_false hq | have hp := of_decide_eq_false (not_t hq) | have hp := of_decide_eq_true (not_f hq) | have hp := hq))
          · exact ret_bool' rfl (by rw [goodSG, sgB, hall, Bool.and_false, Bool.and_false, Bool.false_and])
          · refine ⟨k' + 1, ⟨by omega, fun j hj2 => ?_⟩, by omega, weakZ _⟩
            by_cases e : j = k'
            · rw [e, arcB]
              have hl : labB ⟨(nth c.arcs k').sig, (nth c.arcs k').up⟩ (c.signals.length : Int) = true := by
                rw [← hz3]; rename_i h5 _; simpa using h5
              simp only [hl, decide_eq_true hp, Bool.and_true, Bool.true_and, Bool.and_eq_true, decide_eq_true_eq]
              omega
            · exact hj' j (by omega)
          · exact ret_bool' rfl (by rw [goodSG, sgB, hall, Bool.and_false, Bool.and_false, Bool.false_and])
          · exact ret_bool' rfl (by rw [goodSG, sgB, hall, Bool.and_false, Bool.and_false, Bool.false_and])
          · exact ret_bool' rfl (by rw [goodSG, sgB, hall, Bool.and_false, Bool.and_false, Bool.false_and])
          · exfalso
            have := all_yes (p := arcB c) (k := k') (l := c.arcs) (by omega) hj'
            rw [hall] at this; simp at this
        · have hE := ends_of hall
          by_cases hlt : k' < c.arcs.length
          · have hk := List.all_eq_true.1 hall _ (nth_mem hlt)
            simp only [arcB, Bool.and_eq_true, decide_eq_true_eq] at hk
            obtain ⟨g1, g2, g3, g4⟩ := hk
            have w1 := within_f (nth c.arcs k').src 0 ((c.codes.length : Int) - 1)
            have w2 := within_f (nth c.arcs k').dst 0 ((c.codes.length : Int) - 1)
            have w3 := isEdge_f ⟨(nth c.arcs k').sig, (nth c.arcs k').up⟩ (c.signals.length : Int) (by omega)
            have w4 := hF g1 g2
            rw [decide_eq_true g1] at w1; rw [decide_eq_true g2] at w2; rw [g3, ← hz3] at w3; rw [decide_eq_true g4] at w4
            repeat' (first | refine goZ ?_ | refine R_callZ rfl (w1) rfl rfl rfl ?_ | refine R_callZ rfl (w2) rfl rfl rfl ?_ | refine R_callZ rfl (w3) rfl rfl rfl ?_ | refine R_callZ rfl (w4) rfl rfl rfl ?_ | refine R_callvZ rfl (w1) rfl rfl rfl rfl ?_ | refine R_callvZ rfl (w2) rfl rfl rfl rfl ?_ | refine R_callvZ rfl (w3) rfl rfl rfl rfl ?_ | refine R_callvZ rfl (w4) rfl rfl rfl rfl ?_ | refine D_callZ rfl (w1) rfl rfl rfl ?_ | refine D_callZ rfl (w2) rfl rfl rfl ?_ | refine D_callZ rfl (w3) rfl rfl rfl ?_ | refine D_callZ rfl (w4) rfl rfl rfl ?_ | ((first | refine R_cond rfl (fun hq => ?_) fun hq => ?_ | refine R_guardT rfl rfl rfl (fun hq => ?_) fun hq => ?_ | refine R_guardF rfl rfl rfl (fun hq => ?_) fun hq => ?_ | refine D_guardT rfl rfl rfl (fun hq => ?_) fun hq => ?_ | refine D_guardF rfl rfl rfl (fun hq => ?_) fun hq => ?_) <;> (try rw [hq]) <;> first | have hp := of_decide_eq_true hq | have hp := of_decide_eq_false hq | have hp := of_decide_eq_false (not_t hq) | have hp := of_decide_eq_true (not_f hq) | have hp := hq))
            · refine ⟨k' + 1, ⟨by omega, fun j hj2 => ?_⟩, by omega, weakZ _⟩
              by_cases e : j = k'
              · rw [e]; exact List.all_eq_true.1 hall _ (nth_mem hlt)
              · exact hj' j (by omega)
            · exfalso; omega
          · have hE2 : ∀ e ∈ arcE c.arcs, (0 ≤ e.1 ∧ e.1 < (strs c.codes).length) ∧ 0 ≤ e.2 ∧ e.2 < (strs c.codes).length := by rw [hz]; exact hE
            have hZ2 := len_ints (distL (strs c.codes).length (arcE c.arcs) 0)
            have hZ3 := arcE_len c.arcs
            repeat' (first | refine goZ ?_ | refine R_callZ rfl (arcSteps_f _ (by omega)) rfl rfl rfl ?_ | refine R_callvZ rfl (arcSteps_f _ (by omega)) rfl rfl rfl rfl ?_ | refine D_callZ rfl (arcSteps_f _ (by omega)) rfl rfl rfl ?_ | refine D_callxZ rfl (distances_f _ _ _ (by omega) (by omega) (by omega) hE2 (by omega)) rfl rfl rfl rfl (by repeat' (first | exact trivial | rfl | refine And.intro ?_ ?_)) ?_ | refine D_callxZ rfl (Contains_Int_f _ _) rfl rfl rfl rfl (by repeat' (first | exact trivial | rfl | refine And.intro ?_ ?_)) ?_ | ((first | refine R_cond rfl (fun hq => ?_) fun hq => ?_ | refine R_guardT rfl rfl rfl (fun hq => ?_) fun hq => ?_ | refine R_guardF rfl rfl rfl (fun hq => ?_) fun hq => ?_ | refine D_guardT rfl rfl rfl (fun hq => ?_) fun hq => ?_ | refine D_guardF rfl rfl rfl (fun hq => ?_) fun hq => ?_) <;> (try rw [hq]) <;> first | have hp := of_decide_eq_true hq | have hp := of_decide_eq_false hq | have hp := of_decide_eq_false (not_t hq) | have hp := of_decide_eq_true (not_f hq) | have hp := hq))
            · exfalso; omega
            · exact ret_bool' rfl (by rw [hz, distL_neg, Bool.eq_iff_iff, decide_eq_true_eq, goodSG, sgB, hA, hC, hall]; simp only [Bool.true_and, decide_eq_true_eq]; exact Iff.rfl)
    · exfalso; omega
end Go.Proofs.Ytcbfpeplcbgpjaa
