/- Numbers that are made greater by a number; nets in new memory. No condition. Nets in new memory: what the reference's and the program's functions hand back. No condition. -/
import Derived.Test.YtcbfpeplcbgpjaaIf
import Derived.Test.YtcbfpeplcbgpjaaAbsY
import Derived.Test.YtcbfpeplcbgpjaaDel
import Derived.Test.YtcbfpeplcbgpjaaNum
import Derived.Test.YtcbfpeplcbgpjaaNet
set_option linter.unusedSimpArgs false
set_option linter.unusedVariables false
set_option maxHeartbeats 2000000
namespace Go.Proofs.Ytcbfpeplcbgpjaa
open Go.ChangeShapes Go.WideShapes Go.ChangeAt Go.RowKit

def shiftI (by_ : Int) (l : List Int) : List Int := l.map fun x => x + by_
theorem shiftI_next {by_ : Int} {l : List Int} {k : Nat} (h : k < l.length) : ints (shiftI by_ (l.take (k + 1))) = ints (shiftI by_ (l.take k)) ++ [[.lit (.int .i64 (nth l k + by_))]] := by
  rw [take_nth h]; simp [shiftI, ints]

theorem l1Shift_f (l : List Int) (by_ : Int) (hl : l.length ≤ 4000000) (h1 : ∀ x ∈ l, -1000000 ≤ x ∧ x ≤ 1000000) (h2 : -1000000 ≤ by_ ∧ by_ ≤ 1000000) : Fn Try.prog 149 [.sh 1 (ints l), .lit (.int .i64 by_)] (.own 0) [.arr 3 1 (ints (shiftI by_ l)) true] := by
  refine Fn_of Try.func149 rfl (by kernel_rfl) rfl rfl ?_
  intro w0 A hin
  have hz := len_ints l
  repeat' (first | refine goZ ?_ | ((first | refine R_cond rfl (fun hq => ?_) fun hq => ?_ | refine R_guardT rfl rfl rfl (fun hq => ?_) fun hq => ?_ | refine R_guardF rfl rfl rfl (fun hq => ?_) fun hq => ?_ | refine D_guardT rfl rfl rfl (fun hq => ?_) fun hq => ?_ | refine D_guardF rfl rfl rfl (fun hq => ?_) fun hq => ?_) <;> (try rw [hq]) <;> first | have hp := of_decide_eq_true hq | have hp := of_decide_eq_false hq | have hp := of_decide_eq_false (not_t hq) | have hp := of_decide_eq_true (not_f hq) | have hp := hq))
  refine W_open 5 3 1 rfl ?_
  refine W_loop (fun k : Nat => ⟨_, [(1, .lit (.int .i64 by_)), (5, .own 0), (8, .sh 1 (ints l)), (9, .lit (.int .i64 l.length)), (10, .lit (.int .i64 k))], [.arr 3 1 (ints (shiftI by_ (l.take k))) true]⟩) (fun k => k ≤ l.length) (fun k => l.length - k) 0 (Nat.zero_le _) (weakZ []) ?_
  intro k hk
  have hb : k < l.length → -1000000 ≤ nth l k ∧ nth l k ≤ 1000000 := fun h => h1 _ (nth_mem h)
  have hl2 : (shiftI by_ (l.take k)).length ≤ k := by simp [shiftI]; omega
  repeat' (first | refine goZ ?_ | ((first | refine R_cond rfl (fun hq => ?_) fun hq => ?_ | refine R_guardT rfl rfl rfl (fun hq => ?_) fun hq => ?_ | refine R_guardF rfl rfl rfl (fun hq => ?_) fun hq => ?_ | refine D_guardT rfl rfl rfl (fun hq => ?_) fun hq => ?_ | refine D_guardF rfl rfl rfl (fun hq => ?_) fun hq => ?_) <;> (try rw [hq]) <;> first | have hp := of_decide_eq_true hq | have hp := of_decide_eq_false hq | have hp := of_decide_eq_false (not_t hq) | have hp := of_decide_eq_true (not_f hq) | have hp := hq))
  · refine ⟨k + 1, by omega, by omega, ?_⟩
    rw [shiftI_next (by omega)]
    exact weakZ _
  · exact ret_own rfl rfl (by rw [List.take_of_length_le (by omega)])

theorem moved_f (l : List Int) (by_ : Int) (hl : l.length ≤ 4000000) (h1 : ∀ x ∈ l, -1000000 ≤ x ∧ x ≤ 1000000) (h2 : -1000000 ≤ by_ ∧ by_ ≤ 1000000) : Fn Try.prog 157 [.sh 1 (ints l), .lit (.int .i64 by_)] (.own 0) [.arr 3 1 (ints (shiftI by_ l)) true] := by
  refine Fn_of Try.func157 rfl (by kernel_rfl) rfl rfl ?_
  intro w0 A hin
  have hz := len_ints l
  repeat' (first | refine goZ ?_ | ((first | refine R_cond rfl (fun hq => ?_) fun hq => ?_ | refine R_guardT rfl rfl rfl (fun hq => ?_) fun hq => ?_ | refine R_guardF rfl rfl rfl (fun hq => ?_) fun hq => ?_ | refine D_guardT rfl rfl rfl (fun hq => ?_) fun hq => ?_ | refine D_guardF rfl rfl rfl (fun hq => ?_) fun hq => ?_) <;> (try rw [hq]) <;> first | have hp := of_decide_eq_true hq | have hp := of_decide_eq_false hq | have hp := of_decide_eq_false (not_t hq) | have hp := of_decide_eq_true (not_f hq) | have hp := hq))
  refine W_loop (fun k : Nat => ⟨_, [(1, .lit (.int .i64 by_)), (5, .own 0), (9, .sh 1 (ints l)), (10, .lit (.int .i64 l.length)), (11, .lit (.int .i64 k))], [.arr 3 1 (ints (shiftI by_ (l.take k))) true]⟩) (fun k => k ≤ l.length) (fun k => l.length - k) 0 (Nat.zero_le _) (weakZ []) ?_
  intro k hk
  have hb : k < l.length → -1000000 ≤ nth l k ∧ nth l k ≤ 1000000 := fun h => h1 _ (nth_mem h)
  have hl2 : (shiftI by_ (l.take k)).length ≤ k := by simp [shiftI]; omega
  repeat' (first | refine goZ ?_ | ((first | refine R_cond rfl (fun hq => ?_) fun hq => ?_ | refine R_guardT rfl rfl rfl (fun hq => ?_) fun hq => ?_ | refine R_guardF rfl rfl rfl (fun hq => ?_) fun hq => ?_ | refine D_guardT rfl rfl rfl (fun hq => ?_) fun hq => ?_ | refine D_guardF rfl rfl rfl (fun hq => ?_) fun hq => ?_) <;> (try rw [hq]) <;> first | have hp := of_decide_eq_true hq | have hp := of_decide_eq_false hq | have hp := of_decide_eq_false (not_t hq) | have hp := of_decide_eq_true (not_f hq) | have hp := hq))
  · refine ⟨k + 1, by omega, by omega, ?_⟩
    rw [shiftI_next (by omega)]
    exact weakZ _
  · exact ret_own rfl rfl (by rw [List.take_of_length_le (by omega)])
end Go.Proofs.Ytcbfpeplcbgpjaa
namespace Go.Proofs.Ytcbfpeplcbgpjaa
open Go.ChangeShapes Go.WideShapes Go.ChangeAt Go.RowKit

theorem retC_ownA {tab : Nat → Option TI} {s : St} {rs : Array ResultVar} {i : Nat} {t : TypeId} {m : Nat} {xs xs' : List (List D)} {dp : Bool} {u u' : Value} (h : retDC tab s rs.toList = some (.agg [.lit u, .own i])) (hb : s.heap[i]? = some (.arr t m xs dp)) (e : xs = xs') (e1 : u = u') : RetC tab rs (.agg [.lit u', .own 0]) [.arr t m xs' dp] s :=
  ⟨_, [some i], h, ⟨e1, rfl, trivial⟩, ⟨by rw [← e]; exact hb, rfl, trivial⟩, by simp⟩

set_option maxHeartbeats 4000000 in
theorem l1OwnN_f (c : NetD) (hl : c.trs.length ≤ 2000000) (hz : ∀ t ∈ c.trs, t.pre.length ≤ 1048576 ∧ t.post.length ≤ 1048576) : Fn Try.prog 148 [.agg (dNetD c)] (.agg [.lit (.int .i64 c.places), .own 0]) [.arr 88 2 (c.trs.map dTr) true] := by
  refine Fn_ofC tabOk Try.func148 rfl (by kernel_rfl) rfl rfl ?_
  intro w0 A hin
  have hz1 := len_dTr c.trs
  repeat' (first | refine goZ ?_ | ((first | refine R_cond rfl (fun hq => ?_) fun hq => ?_ | refine R_guardT rfl rfl rfl (fun hq => ?_) fun hq => ?_ | refine R_guardF rfl rfl rfl (fun hq => ?_) fun hq => ?_ | refine D_guardT rfl rfl rfl (fun hq => ?_) fun hq => ?_ | refine D_guardF rfl rfl rfl (fun hq => ?_) fun hq => ?_) <;> (try rw [hq]) <;> first | have hp := of_decide_eq_true hq | have hp := of_decide_eq_false hq | have hp := of_decide_eq_false (not_t hq) | have hp := of_decide_eq_true (not_f hq) | have hp := hq))
  refine W_openC 2 1 88 2 rfl rfl (by exact rfl) ?_
  refine W_loop (fun k : Nat => ⟨_, [(1, .ptr 0 0), (2, .ptr 1 0), (3, .ptr 2 0), (10, .sh 2 (c.trs.map dTr)), (11, .lit (.int .i64 c.trs.length)), (12, .lit (.int .i64 k))], [.cells 30 (dNetD c), .cells 30 [.lit (.int .i64 0), .nil], .cells 30 [.lit (.int .i64 c.places), .own 3], .arr 88 2 ((c.trs.take k).map dTr) true]⟩) (fun k => k ≤ c.trs.length) (fun k => c.trs.length - k) 0 (Nat.zero_le _) (weakZ []) ?_
  intro k hk
  have hO : k < c.trs.length → (nth c.trs k).pre.length ≤ 4294967296 ∧ (nth c.trs k).post.length ≤ 4294967296 := fun h => by have := hz _ (nth_mem h); omega
  have hl2 : ((c.trs.take k).map dTr).length ≤ k := by simp; omega
  repeat' (first | refine goZ ?_ | refine goH ?_ | refine H_two (by exact rfl) (by exact rfl) (by exact rfl) (by exact rfl) (by exact rfl) ?_ ?_ | refine H_three (by exact rfl) (by exact rfl) (by exact rfl) (by exact rfl) (by exact rfl) (by exact rfl) (by exact rfl) ?_ ?_ ?_  | refine R_callZ rfl (l1Own_f (nth c.trs k).pre (hO (by omega)).1) rfl rfl rfl ?_ | refine R_callZ rfl (l1Own_f (nth c.trs k).post (hO (by omega)).2) rfl rfl rfl ?_ | refine R_callvZ rfl (l1Own_f (nth c.trs k).pre (hO (by omega)).1) rfl rfl rfl rfl ?_ | refine R_callvZ rfl (l1Own_f (nth c.trs k).post (hO (by omega)).2) rfl rfl rfl rfl ?_ | refine D_callZ rfl (l1Own_f (nth c.trs k).pre (hO (by omega)).1) rfl rfl rfl ?_ | refine D_callZ rfl (l1Own_f (nth c.trs k).post (hO (by omega)).2) rfl rfl rfl ?_ | ((first | refine R_cond rfl (fun hq => ?_) fun hq => ?_ | refine R_guardT rfl rfl rfl (fun hq => ?_) fun hq => ?_ | refine R_guardF rfl rfl rfl (fun hq => ?_) fun hq => ?_ | refine D_guardT rfl rfl rfl (fun hq => ?_) fun hq => ?_ | refine D_guardF rfl rfl rfl (fun hq => ?_) fun hq => ?_) <;> (try rw [hq]) <;> first | have hp := of_decide_eq_true hq | have hp := of_decide_eq_false hq | have hp := of_decide_eq_false (not_t hq) | have hp := of_decide_eq_true (not_f hq) | have hp := hq) | refine W_held mixed [] ?_)
  rotate_right
  · have ek : c.trs.take k = c.trs := List.take_of_length_le (by omega)
    first | exact .n (retC_ownA rfl rfl (by rw [ek]) rfl) | exact .r (retC_ownA rfl rfl (by rw [ek]) rfl) | exact retC_ownA rfl rfl (by rw [ek]) rfl
  all_goals
    refine ⟨k + 1, by omega, by omega, ?_⟩
    have e : (c.trs.take (k + 1)).map dTr = (c.trs.take k).map dTr ++ [[.sh 1 (ints (nth c.trs k).pre), .sh 1 (ints (nth c.trs k).post)]] := by
      rw [take_nth (show k < c.trs.length by omega)]; simp [dTr]
    rw [e]
    exact weakZ _
end Go.Proofs.Ytcbfpeplcbgpjaa
