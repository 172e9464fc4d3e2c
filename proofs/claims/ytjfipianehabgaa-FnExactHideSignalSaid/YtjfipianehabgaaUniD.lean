/- The union of two nets: the program's function. No condition. -/
import Derived.Test.YtjfipianehabgaaUniC
set_option linter.unusedSimpArgs false
set_option linter.unusedVariables false
set_option maxHeartbeats 2000000
namespace Go.Proofs.Ytjfipianehabgaa
open Go.ChangeShapes Go.WideShapes Go.ChangeAt Go.RowKit

set_option maxHeartbeats 4000000 in
theorem unionNets_f (a b : NetD) (ha : NetOk a) (hb : NetOk b) : Fn Try.prog 140 [.agg (dNetD a), .agg (dNetD b)] (.agg [.lit (.int .i64 (uniN a b).places), .own 0]) [.arr 149 2 ((uniN a b).trs.map dTr) true] := by
  refine Fn_ofC tabOk Try.func140 rfl (by kernel_rfl) rfl rfl ?_
  intro w0 A hin
  have hz1 := len_dTr a.trs; have hz2 := len_dTr b.trs
  have hpa := ha.places; have hpb := hb.places; have hla := ha.len; have hlb := hb.len
  repeat' (first | refine goZ ?_ | ((first | refine R_cond rfl (fun hq => ?_) fun hq => ?_ | refine R_guardT rfl rfl rfl (fun hq => ?_) fun hq => ?_ | refine R_guardF rfl rfl rfl (fun hq => ?_) fun hq => ?_ | refine D_guardT rfl rfl rfl (fun hq => ?_) fun hq => ?_ | refine D_guardF rfl rfl rfl (fun hq => ?_) fun hq => ?_) <;> (try rw [hq]) <;> first | have hp := of_decide_eq_true hq | have hp := of_decide_eq_false hq | have hp := of_decide_eq_false (not_t hq) | have hp := of_decide_eq_true (not_f hq) | have hp := hq))
  refine W_openC 3 1 149 2 rfl rfl (by exact rfl) ?_
  refine W_loop (fun k : Nat => ⟨_, [(2, .ptr 0 0), (3, .ptr 1 0), (4, .ptr 2 0), (5, .ptr 3 0), (17, .sh 2 (a.trs.map dTr)), (18, .lit (.int .i64 a.trs.length)), (19, .lit (.int .i64 k))], [.cells 34 (dNetD a), .cells 34 (dNetD b), .cells 34 [.lit (.int .i64 0), .nil], .cells 34 [.lit (.int .i64 (a.places + b.places)), .own 4], .arr 149 2 ((uniT a b k 0).map dTr) true]⟩) (fun k => k ≤ a.trs.length) (fun k => a.trs.length - k) 0 (Nat.zero_le _) (weakZ []) ?_
  intro k hk
  have hO : k < a.trs.length → _ := fun h => ha.row _ (nth_mem h)
  have hl2 : (uniT a b k 0).length ≤ k := by simp [uniT]; omega
  have h0 : (-1000000 : Int) ≤ 0 ∧ (0 : Int) ≤ 1000000 := by omega
  repeat' (first | refine goZ ?_ | refine goH ?_ | refine H_two (by exact rfl) (by exact rfl) (by exact rfl) (by exact rfl) (by exact rfl) ?_ ?_ | refine H_three (by exact rfl) (by exact rfl) (by exact rfl) (by exact rfl) (by exact rfl) (by exact rfl) (by exact rfl) ?_ ?_ ?_  | refine R_callZ rfl (moved_f (nth a.trs k).pre 0 (by have := (hO (by omega)).1; omega) (hO (by omega)).2.1 h0) rfl rfl rfl ?_ | refine R_callZ rfl (moved_f (nth a.trs k).post 0 (by have := (hO (by omega)).1; omega) (hO (by omega)).2.2 h0) rfl rfl rfl ?_ | refine R_callvZ rfl (moved_f (nth a.trs k).pre 0 (by have := (hO (by omega)).1; omega) (hO (by omega)).2.1 h0) rfl rfl rfl rfl ?_ | refine R_callvZ rfl (moved_f (nth a.trs k).post 0 (by have := (hO (by omega)).1; omega) (hO (by omega)).2.2 h0) rfl rfl rfl rfl ?_ | refine D_callZ rfl (moved_f (nth a.trs k).pre 0 (by have := (hO (by omega)).1; omega) (hO (by omega)).2.1 h0) rfl rfl rfl ?_ | refine D_callZ rfl (moved_f (nth a.trs k).post 0 (by have := (hO (by omega)).1; omega) (hO (by omega)).2.2 h0) rfl rfl rfl ?_ | ((first | refine R_cond rfl (fun hq => ?_) fun hq => ?_ | refine R_guardT rfl rfl rfl (fun hq => ?_) fun hq => ?_ | refine R_guardF rfl rfl rfl (fun hq => ?_) fun hq => ?_ | refine D_guardT rfl rfl rfl (fun hq => ?_) fun hq => ?_ | refine D_guardF rfl rfl rfl (fun hq => ?_) fun hq => ?_) <;> (try rw [hq]) <;> first | have hp := of_decide_eq_true hq | have hp := of_decide_eq_false hq | have hp := of_decide_eq_false (not_t hq) | have hp := of_decide_eq_true (not_f hq) | have hp := hq) | refine W_held mixed [] ?_)
  rotate_right
  · have ek : k = a.trs.length := by omega
    subst ek
    refine W_loop (fun j : Nat => ⟨_, [(2, .ptr 0 0), (3, .ptr 1 0), (4, .ptr 2 0), (5, .ptr 3 0), (37, .sh 2 (b.trs.map dTr)), (38, .lit (.int .i64 b.trs.length)), (39, .lit (.int .i64 j))], [.cells 34 (dNetD a), .cells 34 (dNetD b), .cells 34 [.lit (.int .i64 0), .nil], .cells 34 [.lit (.int .i64 (a.places + b.places)), .own 4], .arr 149 2 ((uniT a b a.trs.length j).map dTr) true]⟩) (fun j => j ≤ b.trs.length) (fun j => b.trs.length - j) 0 (Nat.zero_le _) (weakZ []) ?_
    intro j hj
    have hO2 : j < b.trs.length → _ := fun h => hb.row _ (nth_mem h)
    have hl3 : (uniT a b a.trs.length j).length ≤ 24 + j := by simp [uniT]; omega
    have h1 : (-1000000 : Int) ≤ a.places ∧ a.places ≤ 1000000 := by omega
    repeat' (first | refine goZ ?_ | refine goH ?_ | refine H_two (by exact rfl) (by exact rfl) (by exact rfl) (by exact rfl) (by exact rfl) ?_ ?_ | refine H_three (by exact rfl) (by exact rfl) (by exact rfl) (by exact rfl) (by exact rfl) (by exact rfl) (by exact rfl) ?_ ?_ ?_  | refine R_callZ rfl (moved_f (nth b.trs j).pre a.places (by have := (hO2 (by omega)).1; omega) (hO2 (by omega)).2.1 h1) rfl rfl rfl ?_ | refine R_callZ rfl (moved_f (nth b.trs j).post a.places (by have := (hO2 (by omega)).1; omega) (hO2 (by omega)).2.2 h1) rfl rfl rfl ?_ | refine R_callvZ rfl (moved_f (nth b.trs j).pre a.places (by have := (hO2 (by omega)).1; omega) (hO2 (by omega)).2.1 h1) rfl rfl rfl rfl ?_ | refine R_callvZ rfl (moved_f (nth b.trs j).post a.places (by have := (hO2 (by omega)).1; omega) (hO2 (by omega)).2.2 h1) rfl rfl rfl rfl ?_ | refine D_callZ rfl (moved_f (nth b.trs j).pre a.places (by have := (hO2 (by omega)).1; omega) (hO2 (by omega)).2.1 h1) rfl rfl rfl ?_ | refine D_callZ rfl (moved_f (nth b.trs j).post a.places (by have := (hO2 (by omega)).1; omega) (hO2 (by omega)).2.2 h1) rfl rfl rfl ?_ | ((first | refine R_cond rfl (fun hq => ?_) fun hq => ?_ | refine R_guardT rfl rfl rfl (fun hq => ?_) fun hq => ?_ | refine R_guardF rfl rfl rfl (fun hq => ?_) fun hq => ?_ | refine D_guardT rfl rfl rfl (fun hq => ?_) fun hq => ?_ | refine D_guardF rfl rfl rfl (fun hq => ?_) fun hq => ?_) <;> (try rw [hq]) <;> first | have hp := of_decide_eq_true hq | have hp := of_decide_eq_false hq | have hp := of_decide_eq_false (not_t hq) | have hp := of_decide_eq_true (not_f hq) | have hp := hq) | refine W_held mixed [(2, 0, .int .i64 a.places)] ?_ | refine H_pop tabOk 3 (by exact rfl) (by exact rfl) (by exact rfl) (by exact rfl) (by exact And.intro rfl trivial) (by exact rfl) (by exact rfl) (by exact rfl) (by exact rfl) (by exact trivial) ?_ | refine H_load tabOk 3 (by exact rfl) (by exact rfl) (by exact rfl) (by exact rfl) (by exact And.intro rfl trivial) (by exact rfl) (by exact rfl) (by exact rfl) (by exact rfl) ?_)
    rotate_right
    · have ej : j = b.trs.length := by omega
      subst ej
      first | exact .n (retC_ownA rfl rfl rfl rfl) | exact .r (retC_ownA rfl rfl rfl rfl) | exact retC_ownA rfl rfl rfl rfl
    all_goals
      refine ⟨j + 1, by omega, by omega, ?_⟩
      rw [uniT_right (by omega)]
      exact weakZ _
  all_goals
    refine ⟨k + 1, by omega, by omega, ?_⟩
    rw [uniT_left (by omega)]
    exact weakZ _
end Go.Proofs.Ytjfipianehabgaa
