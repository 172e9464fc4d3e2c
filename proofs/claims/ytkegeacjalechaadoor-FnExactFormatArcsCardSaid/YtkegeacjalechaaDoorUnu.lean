/- Unused places: what the reference's and the program's functions hand back. No condition. -/
import Derived.Test.YtkegeacjalechaaDoorStg
import Derived.Test.YtkegeacjalechaaDoorIx
import Derived.Test.YtkegeacjalechaaDoorPick
set_option linter.unusedSimpArgs false
set_option linter.unusedVariables false
set_option maxHeartbeats 2000000
namespace Go.Proofs.YtkegeacjalechaaDoor
open Go.ChangeShapes Go.WideShapes Go.ChangeAt Go.RowKit

theorem goodStg_len {s : Stg} (h : goodStg s = true) : s.labels.length = s.net.trs.length ∧ s.net.trs.length ≤ 24 ∧ 1 ≤ s.signals.length ∧ s.signals.length ≤ 8 ∧ 1 ≤ s.net.places ∧ s.net.places ≤ 40 := by
  simp only [goodStg, goodMark, goodNet, sigsB, Bool.and_eq_true, decide_eq_true_eq] at h; omega

theorem start_le (s : Stg) : s.start.size ≤ szStg s := by unfold szStg; omega

/-- The transitions that use a place. -/
def useP (n : NetD) (p : Int) (post : Bool) (t : Nat) : Bool := decide (p ∈ if post then (nth n.trs t).post else (nth n.trs t).pre)
def useL (n : NetD) (p : Int) (post : Bool) : List Int := pickN (useP n p post) n.trs.length
theorem ret_own2 {rs : Array ResultVar} {i j : Nat} {s : St} {t t' : TypeId} {n n' : Nat} {xs xs' ys ys' : List (List D)} {dp dp' : Bool} (h : retD s rs.toList = some (.tup [.own i, .own j])) (hb : s.heap[i]? = some (.arr t n xs dp)) (hb' : s.heap[j]? = some (.arr t' n' ys dp')) (hne : i ≠ j) (e : xs = xs') (e' : ys = ys') : RetS rs (.tup [.own 0, .own 1]) [.arr t n xs' dp, .arr t' n' ys' dp'] s :=
  ⟨_, [some i, some j], h, ⟨rfl, rfl, trivial⟩, ⟨by rw [← e]; exact hb, rfl, by rw [← e']; exact hb', rfl, trivial⟩, by simp [hne]⟩

theorem users_f (n : NetD) (p : Int) (hn : n.trs.length ≤ 24) : Fn Tryd.prog 41 [.agg (dNetD n), .lit (.int .i64 p)] (.tup [.own 0, .own 1]) [.arr 3 1 (ints (useL n p false)) true, .arr 3 1 (ints (useL n p true)) true] := by
  refine Fn_of Tryd.func41 rfl (by kernel_rfl) rfl rfl ?_
  intro w0 A hin
  have hz := len_dTr n.trs
  have hlen := pickN_len (useP n p false)
  have hlen2 := pickN_len (useP n p true)
  repeat' (first | refine goZ ?_ | ((first | refine R_cond rfl (fun hq => ?_) fun hq => ?_ | refine R_guardT rfl rfl rfl (fun hq => ?_) fun hq => ?_ | refine R_guardF rfl rfl rfl (fun hq => ?_) fun hq => ?_ | refine D_guardT rfl rfl rfl (fun hq => ?_) fun hq => ?_ | refine D_guardF rfl rfl rfl (fun hq => ?_) fun hq => ?_) <;> (try rw [hq]) <;> first | have hp := of_decide_eq_true hq | have hp := of_decide_eq_false hq | have hp := of_decide_eq_false (not_t hq) | have hp := of_decide_eq_true (not_f hq) | have hp := hq))
  refine W_loop (fun k : Nat => ⟨_, [(1, .lit (.int .i64 p)), (6, .own 1), (7, .own 2), (13, .sh 2 (n.trs.map dTr)), (14, .lit (.int .i64 n.trs.length)), (15, .lit (.int .i64 k))], [.cells 34 (dNetD n), .arr 3 1 (ints (pickN (useP n p false) k)) true, .arr 3 1 (ints (pickN (useP n p true) k)) true]⟩) (fun k => k ≤ n.trs.length) (fun k => n.trs.length - k) 0 (Nat.zero_le _) (weakZ []) ?_
  intro k hk
  have hk2 := hlen k
  have hk3 := hlen2 k
  have hpy : (p ∈ (nth n.trs k).pre) → useP n p false k = true := fun h => by rw [useP, decide_eq_true_eq]; exact h
  have hpn : (¬ p ∈ (nth n.trs k).pre) → useP n p false k = false := fun h => by rw [useP, decide_eq_false_iff_not]; exact h
  have hqy : (p ∈ (nth n.trs k).post) → useP n p true k = true := fun h => by rw [useP, decide_eq_true_eq]; exact h
  have hqn : (¬ p ∈ (nth n.trs k).post) → useP n p true k = false := fun h => by rw [useP, decide_eq_false_iff_not]; exact h
  repeat' (first | refine goZ ?_ | refine R_callZ rfl (Contains_Int_f _ _) rfl rfl rfl ?_ | refine R_callvZ rfl (Contains_Int_f _ _) rfl rfl rfl rfl ?_ | refine D_callZ rfl (Contains_Int_f _ _) rfl rfl rfl ?_ | ((first | refine R_cond rfl (fun hq => ?_) fun hq => ?_ | refine R_guardT rfl rfl rfl (fun hq => ?_) fun hq => ?_ | refine R_guardF rfl rfl rfl (fun hq => ?_) fun hq => ?_ | refine D_guardT rfl rfl rfl (fun hq => ?_) fun hq => ?_ | refine D_guardF rfl rfl rfl (fun hq => ?_) fun hq => ?_) <;> (try rw [hq]) <;> first | have hp := of_decide_eq_true hq | have hp := of_decide_eq_false hq | have hp := of_decide_eq_false (not_t hq) | have hp := of_decide_eq_true (not_f hq) | have hp := hq))
  · refine ⟨k + 1, by omega, by omega, ?_⟩
    simp only [pickN_yes (hpy (by assumption)), pickN_yes (hqy hp), ints_snoc]
    exact weakZ _
  · refine ⟨k + 1, by omega, by omega, ?_⟩
    simp only [pickN_yes (hpy (by assumption)), pickN_no (hqn hp), ints_snoc]
    exact weakZ _
  · refine ⟨k + 1, by omega, by omega, ?_⟩
    simp only [pickN_no (hpn (by assumption)), pickN_yes (hqy hp), ints_snoc]
    exact weakZ _
  · refine ⟨k + 1, by omega, by omega, ?_⟩
    simp only [pickN_no (hpn (by assumption)), pickN_no (hqn hp)]
    exact weakZ _
  · have : k = n.trs.length := by omega
    exact ret_own2 rfl rfl rfl (by decide) (by rw [useL, this]) (by rw [useL, this])

theorem l3Of_f (s : Stg) (p : Int) (post : Bool) (hn : s.net.trs.length ≤ 24) : Fn Tryd.prog 66 [.agg (dStg s), .lit (.int .i64 p), .lit (.bool post)] (.own 0) [.arr 3 1 (ints (useL s.net p post)) true] := by
  refine Fn_of Tryd.func66 rfl (by kernel_rfl) rfl rfl ?_
  intro w0 A hin
  have hz := len_dTr s.net.trs
  have hlen := pickN_len (useP s.net p post)
  repeat' (first | refine goZ ?_ | ((first | refine R_cond rfl (fun hq => ?_) fun hq => ?_ | refine R_guardT rfl rfl rfl (fun hq => ?_) fun hq => ?_ | refine R_guardF rfl rfl rfl (fun hq => ?_) fun hq => ?_ | refine D_guardT rfl rfl rfl (fun hq => ?_) fun hq => ?_ | refine D_guardF rfl rfl rfl (fun hq => ?_) fun hq => ?_) <;> (try rw [hq]) <;> first | have hp := of_decide_eq_true hq | have hp := of_decide_eq_false hq | have hp := of_decide_eq_false (not_t hq) | have hp := of_decide_eq_true (not_f hq) | have hp := hq))
  refine W_open 7 3 1 rfl ?_
  refine W_loop (fun k : Nat => ⟨_, [(1, .lit (.int .i64 p)), (2, .lit (.bool post)), (7, .own 1), (12, .sh 2 (s.net.trs.map dTr)), (13, .lit (.int .i64 s.net.trs.length)), (14, .lit (.int .i64 k))], [.cells 38 (dStg s), .arr 3 1 (ints (pickN (useP s.net p post) k)) true]⟩) (fun k => k ≤ s.net.trs.length) (fun k => s.net.trs.length - k) 0 (Nat.zero_le _) (weakZ []) ?_
  intro k hk
  have hk2 := hlen k
  cases post
  · repeat' (first | refine goZ ?_ | refine R_callZ rfl (l1Has_f _ _) rfl rfl rfl ?_ | refine R_callvZ rfl (l1Has_f _ _) rfl rfl rfl rfl ?_ | refine D_callZ rfl (l1Has_f _ _) rfl rfl rfl ?_ | ((first | refine R_cond rfl (fun hq => ?_) fun hq => ?_ | refine R_guardT rfl rfl rfl (fun hq => ?_) fun hq => ?_ | refine R_guardF rfl rfl rfl (fun hq => ?_) fun hq => ?_ | refine D_guardT rfl rfl rfl (fun hq => ?_) fun hq => ?_ | refine D_guardF rfl rfl rfl (fun hq => ?_) fun hq => ?_) <;> (try rw [hq]) <;> first | have hp := of_decide_eq_true hq | have hp := of_decide_eq_false hq | have hp := of_decide_eq_false (not_t hq) | have hp := of_decide_eq_true (not_f hq) | have hp := hq))
    · refine ⟨k + 1, by omega, by omega, ?_⟩
      simp only [pickN_yes (p := useP s.net p false) (k := k) (by rw [useP, decide_eq_true_eq]; exact hp), ints_snoc]
      exact weakZ _
    · refine ⟨k + 1, by omega, by omega, ?_⟩
      simp only [pickN_no (p := useP s.net p false) (k := k) (by rw [useP, decide_eq_false_iff_not]; exact hp)]
      exact weakZ _
    · exact ret_own rfl rfl (by rw [useL, show k = s.net.trs.length by omega])
  · repeat' (first | refine goZ ?_ | refine R_callZ rfl (l1Has_f _ _) rfl rfl rfl ?_ | refine R_callvZ rfl (l1Has_f _ _) rfl rfl rfl rfl ?_ | refine D_callZ rfl (l1Has_f _ _) rfl rfl rfl ?_ | ((first | refine R_cond rfl (fun hq => ?_) fun hq => ?_ | refine R_guardT rfl rfl rfl (fun hq => ?_) fun hq => ?_ | refine R_guardF rfl rfl rfl (fun hq => ?_) fun hq => ?_ | refine D_guardT rfl rfl rfl (fun hq => ?_) fun hq => ?_ | refine D_guardF rfl rfl rfl (fun hq => ?_) fun hq => ?_) <;> (try rw [hq]) <;> first | have hp := of_decide_eq_true hq | have hp := of_decide_eq_false hq | have hp := of_decide_eq_false (not_t hq) | have hp := of_decide_eq_true (not_f hq) | have hp := hq))
    · refine ⟨k + 1, by omega, by omega, ?_⟩
      simp only [pickN_no (p := useP s.net p true) (k := k) (by rw [useP, decide_eq_false_iff_not]; exact hp)]
      exact weakZ _
    · refine ⟨k + 1, by omega, by omega, ?_⟩
      simp only [pickN_yes (p := useP s.net p true) (k := k) (by rw [useP, decide_eq_true_eq]; exact hp), ints_snoc]
      exact weakZ _
    · exact ret_own rfl rfl (by rw [useL, show k = s.net.trs.length by omega])

def unuP (s : Stg) (k : Nat) : Bool := decide ((useL s.net (k : Int) false).length = 0) && decide ((useL s.net (k : Int) true).length = 0)
def unuL (s : Stg) : List Int := if goodStg s then pickN (unuP s) s.net.places.toNat else []

theorem unuL_len (s : Stg) : (unuL s).length ≤ 40 := by
  unfold unuL
  split
  · rename_i h
    have := goodStg_len h; have := pickN_len (unuP s) s.net.places.toNat
    omega
  · simp

end Go.Proofs.YtkegeacjalechaaDoor
