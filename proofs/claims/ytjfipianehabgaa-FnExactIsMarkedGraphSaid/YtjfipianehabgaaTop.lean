/- Transitions of a signal, visible labels, unused places, dead transitions: what the reference's and the program's functions hand back. No condition. -/
import Derived.Test.YtjfipianehabgaaReach
set_option linter.unusedSimpArgs false
set_option linter.unusedVariables false
set_option maxHeartbeats 2000000
namespace Go.Proofs.Ytjfipianehabgaa
open Go.ChangeShapes Go.WideShapes Go.ChangeAt Go.RowKit

theorem goodStg_len {s : Stg} (h : goodStg s = true) : s.labels.length = s.net.trs.length ∧ s.net.trs.length ≤ 24 ∧ 1 ≤ s.signals.length ∧ s.signals.length ≤ 8 ∧ 1 ≤ s.net.places ∧ s.net.places ≤ 40 := by
  simp only [goodStg, goodMark, goodNet, sigsB, Bool.and_eq_true, decide_eq_true_eq] at h; omega

theorem start_le (s : Stg) : s.start.size ≤ szStg s := by unfold szStg; omega

/-- The transitions of a label, in order. -/
def labP (s : Stg) (l : Lab) (t : Nat) : Bool := decide (nth s.labels t = l)
def labL (s : Stg) (l : Lab) : List Int := pickN (labP s l) s.labels.length
def toB (s : Stg) (sig : Int) : Bool := goodStg s && decide (0 ≤ sig ∧ sig ≤ (s.signals.length : Int) - 1)
def toL (s : Stg) (sig : Int) (up : Bool) : List Int := if toB s sig then labL s ⟨sig, up⟩ else []
theorem toL_len (s : Stg) (sig : Int) (up : Bool) : (toL s sig up).length ≤ 24 := by
  unfold toL
  split
  · rename_i h
    have h1 : goodStg s = true := by simp only [toB, Bool.and_eq_true] at h; exact h.1
    have := goodStg_len h1; have := pickN_len (labP s ⟨sig, up⟩) s.labels.length
    unfold labL; omega
  · simp

/-- The edges of some transitions that are no silent ones. -/
def visL (s : Stg) (l : List Int) : List Lab := (l.filter fun t => decide (0 ≤ (nth s.labels t.toNat).sig)).map fun t => nth s.labels t.toNat
theorem visL_yes {s : Stg} {l : List Int} {t : Int} (h : 0 ≤ (nth s.labels t.toNat).sig) : visL s (l ++ [t]) = visL s l ++ [nth s.labels t.toNat] := by
  simp [visL, List.filter_append, h]
theorem visL_no {s : Stg} {l : List Int} {t : Int} (h : ¬ 0 ≤ (nth s.labels t.toNat).sig) : visL s (l ++ [t]) = visL s l := by
  simp [visL, List.filter_append, h]
theorem visL_len (s : Stg) (l : List Int) : (visL s l).length ≤ l.length := by
  unfold visL; rw [List.length_map]; exact List.length_filter_le _ _
def allIn (l : List Int) (lo hi : Int) : Bool := l.all fun n => decide (lo ≤ n ∧ n ≤ hi)
def visB (s : Stg) (l : List Int) : Bool := goodStg s && (decide (l.length ≤ 200) && allIn l 0 ((s.labels.length : Int) - 1))
def visR (s : Stg) (l : List Int) : List Lab := if visB s l then visL s l else []
theorem visR_len (s : Stg) (l : List Int) : (visR s l).length ≤ 200 := by
  unfold visR
  split
  · rename_i h
    simp only [visB, Bool.and_eq_true, decide_eq_true_eq] at h
    have := visL_len s l; omega
  · simp

/-- The transitions that use a place. -/
def useP (n : NetD) (p : Int) (post : Bool) (t : Nat) : Bool := decide (p ∈ if post then (nth n.trs t).post else (nth n.trs t).pre)
def useL (n : NetD) (p : Int) (post : Bool) : List Int := pickN (useP n p post) n.trs.length
theorem ret_own2 {rs : Array ResultVar} {i j : Nat} {s : St} {t t' : TypeId} {n n' : Nat} {xs xs' ys ys' : List (List D)} {dp dp' : Bool} (h : retD s rs.toList = some (.tup [.own i, .own j])) (hb : s.heap[i]? = some (.arr t n xs dp)) (hb' : s.heap[j]? = some (.arr t' n' ys dp')) (hne : i ≠ j) (e : xs = xs') (e' : ys = ys') : RetS rs (.tup [.own 0, .own 1]) [.arr t n xs' dp, .arr t' n' ys' dp'] s :=
  ⟨_, [some i, some j], h, ⟨rfl, rfl, trivial⟩, ⟨by rw [← e]; exact hb, rfl, by rw [← e']; exact hb', rfl, trivial⟩, by simp [hne]⟩

theorem users_f (n : NetD) (p : Int) (hn : n.trs.length ≤ 24) : Fn Try.prog 75 [.agg (dNetD n), .lit (.int .i64 p)] (.tup [.own 0, .own 1]) [.arr 3 1 (ints (useL n p false)) true, .arr 3 1 (ints (useL n p true)) true] := by
  refine Fn_of Try.func75 rfl (by kernel_rfl) rfl rfl ?_
  intro w0 A hin
  have hz := len_dTr n.trs
  have hlen := pickN_len (useP n p false)
  have hlen2 := pickN_len (useP n p true)
  repeat' (first | refine goZ ?_ | ((first | refine R_cond rfl (fun hq => ?_) fun hq => ?_ | refine R_guardT rfl rfl rfl (fun hq => ?_) fun hq => ?_ | refine R_guardF rfl rfl rfl (fun hq => ?_) fun hq => ?_ | refine D_guardT rfl rfl rfl (fun hq => ?_) fun hq => ?_ | refine D_guardF rfl rfl rfl (fun hq => ?_) fun hq => ?_) <;> (try rw [hq]) <;> first | have hp := of_decide_eq_true hq | have hp := of_decide_eq_false hq | have hp := of_decide_eq_false (not_t hq) | have hp := of_decide_eq_true (not_f hq) | have hp := hq))
  refine W_loop (fun k : Nat => ⟨_, [(1, .lit (.int .i64 p)), (6, .own 1), (7, .own 2), (13, .sh 2 (n.trs.map dTr)), (14, .lit (.int .i64 n.trs.length)), (15, .lit (.int .i64 k))], [.cells 34 (dNetD n), .arr 3 1 (ints (pickN (useP n p false) k)) true, .arr 3 1 (ints (pickN (useP n p true) k)) true]⟩) (fun k => k ≤ n.trs.length) (fun k => n.trs.length - k) 0 (Nat.zero_le _) (weakZ []) ?_
  intro k hk
  have hk2 := hlen k
  have hk3 := hlen2 k
  have hpy : (p ∈ (nth n.trs k).pre) → useP n p false k = true := fun h => by rw [useP, decide_eq_true_eq]; exact h
  have hpn : (¬ p ∈ (nth n.trs k).pre) → useP n p false k = false := fun h => by rw [useP, decide_eq_false_iff_not]; exact h
  have hqy : (p ∈ (nth n.trs k).post) → useP n p true k = true := fun h => by rw [useP, decide_eq_true_eq]; exact h
  have hqn : (¬ p ∈ (nth n.trs k).post) → useP n p true k = false := fun h => by rw [useP, decide_eq_false_iff_not]; exact h
  repeat' (first | refine goZ ?_ | refine R_callZ rfl (Contains_Int_f _ _) rfl rfl rfl ?_ | refine R_callvZ rfl (Contains_Int_f _ _) rfl rfl rfl rfl ?_ | refine D_callZ rfl (Contains_Int_f _ _) rfl rfl rfl ?_ | ((first | refine R_cond rfl (fun hq => ?_) fun hq => ?_ | refine R_guardT rfl rfl rfl (fun hq => ?_) fun hq => ?_ | refine R_guardF rfl rfl rfl (fun hq => ?_) fun hq => ?_ | refine D_guardT rfl rfl rfl (fun hq => ?_) fun hq => ?_ | refine D_guardF rfl rfl rfl (fun hq => ?_) fun hq => ?_) <;> (try rw [hq]) <;> first | have hp := of_decide_eq_true hq | have hp := of_decide_eq_false hq | have hp := of_decide_eq_false (not_t hq) | have hp := of_decide_eq_true (not_f hq) | have hp := hq))
  · refine ⟨k + 1, by omega, by omega, ?_⟩
    simp only [pickN_yes (hpy (by assumption)), pickN_yes (hqy hp), ints_snoc]
    exact weakZ _
  · refine ⟨k + 1, by omega, by omega, ?_⟩
    simp only [pickN_yes (hpy (by assumption)), pickN_no (hqn hp), ints_snoc]
    exact weakZ _
  · refine ⟨k + 1, by omega, by omega, ?_⟩
    simp only [pickN_no (hpn (by assumption)), pickN_yes (hqy hp), ints_snoc]
    exact weakZ _
  · refine ⟨k + 1, by omega, by omega, ?_⟩
    simp only [pickN_no (hpn (by assumption)), pickN_no (hqn hp)]
    exact weakZ _
  · have : k = n.trs.length := by omega
    exact ret_own2 rfl rfl rfl (by decide) (by rw [useL, this]) (by rw [useL, this])

theorem l3Of_f (s : Stg) (p : Int) (post : Bool) (hn : s.net.trs.length ≤ 24) : Fn Try.prog 159 [.agg (dStg s), .lit (.int .i64 p), .lit (.bool post)] (.own 0) [.arr 3 1 (ints (useL s.net p post)) true] := by
  refine Fn_of Try.func159 rfl (by kernel_rfl) rfl rfl ?_
  intro w0 A hin
  have hz := len_dTr s.net.trs
  have hlen := pickN_len (useP s.net p post)
  repeat' (first | refine goZ ?_ | ((first | refine R_cond rfl (fun hq => ?_) fun hq => ?_ | refine R_guardT rfl rfl rfl (fun hq => ?_) fun hq => ?_ | refine R_guardF rfl rfl rfl (fun hq => ?_) fun hq => ?_ | refine D_guardT rfl rfl rfl (fun hq => ?_) fun hq => ?_ | refine D_guardF rfl rfl rfl (fun hq => ?_) fun hq => ?_) <;> (try rw [hq]) <;> first | have hp := of_decide_eq_true hq | have hp := of_decide_eq_false hq | have hp := of_decide_eq_false (not_t hq) | have hp := of_decide_eq_true (not_f hq) | have hp := hq))
  refine W_open 7 3 1 rfl ?_
  refine W_loop (fun k : Nat => ⟨_, [(1, .lit (.int .i64 p)), (2, .lit (.bool post)), (7, .own 1), (12, .sh 2 (s.net.trs.map dTr)), (13, .lit (.int .i64 s.net.trs.length)), (14, .lit (.int .i64 k))], [.cells 38 (dStg s), .arr 3 1 (ints (pickN (useP s.net p post) k)) true]⟩) (fun k => k ≤ s.net.trs.length) (fun k => s.net.trs.length - k) 0 (Nat.zero_le _) (weakZ []) ?_
  intro k hk
  have hk2 := hlen k
  cases post
  · repeat' (first | refine goZ ?_ | refine R_callZ rfl (l1Has_f _ _) rfl rfl rfl ?_ | refine R_callvZ rfl (l1Has_f _ _) rfl rfl rfl rfl ?_ | refine D_callZ rfl (l1Has_f _ _) rfl rfl rfl ?_ | ((first | refine R_cond rfl (fun hq => ?_) fun hq => ?_ | refine R_guardT rfl rfl rfl (fun hq => ?_) fun hq => ?_ | refine R_guardF rfl rfl rfl (fun hq => ?_) fun hq => ?_ | refine D_guardT rfl rfl rfl (fun hq => ?_) fun hq => ?_ | refine D_guardF rfl rfl rfl (fun hq => ?_) fun hq => ?_) <;> (try rw [hq]) <;> first | have hp := of_decide_eq_true hq | have hp := of_decide_eq_false hq | have hp := of_decide_eq_false (not_t hq) | have hp := of_decide_eq_true (not_f hq) | have hp := hq))
    · refine ⟨k + 1, by omega, by omega, ?_⟩
      simp only [pickN_yes (p := useP s.net p false) (k := k) (by rw [useP, decide_eq_true_eq]; exact hp), ints_snoc]
      exact weakZ _
    · refine ⟨k + 1, by omega, by omega, ?_⟩
      simp only [pickN_no (p := useP s.net p false) (k := k) (by rw [useP, decide_eq_false_iff_not]; exact hp)]
      exact weakZ _
    · exact ret_own rfl rfl (by rw [useL, show k = s.net.trs.length by omega])
  · repeat' (first | refine goZ ?_ | refine R_callZ rfl (l1Has_f _ _) rfl rfl rfl ?_ | refine R_callvZ rfl (l1Has_f _ _) rfl rfl rfl rfl ?_ | refine D_callZ rfl (l1Has_f _ _) rfl rfl rfl ?_ | ((first | refine R_cond rfl (fun hq => ?_) fun hq => ?_ | refine R_guardT rfl rfl rfl (fun hq => ?_) fun hq => ?_ | refine R_guardF rfl rfl rfl (fun hq => ?_) fun hq => ?_ | refine D_guardT rfl rfl rfl (fun hq => ?_) fun hq => ?_ | refine D_guardF rfl rfl rfl (fun hq => ?_) fun hq => ?_) <;> (try rw [hq]) <;> first | have hp := of_decide_eq_true hq | have hp := of_decide_eq_false hq | have hp := of_decide_eq_false (not_t hq) | have hp := of_decide_eq_true (not_f hq) | have hp := hq))
    · refine ⟨k + 1, by omega, by omega, ?_⟩
      simp only [pickN_no (p := useP s.net p true) (k := k) (by rw [useP, decide_eq_false_iff_not]; exact hp)]
      exact weakZ _
    · refine ⟨k + 1, by omega, by omega, ?_⟩
      simp only [pickN_yes (p := useP s.net p true) (k := k) (by rw [useP, decide_eq_true_eq]; exact hp), ints_snoc]
      exact weakZ _
    · exact ret_own rfl rfl (by rw [useL, show k = s.net.trs.length by omega])

def unuP (s : Stg) (k : Nat) : Bool := decide ((useL s.net (k : Int) false).length = 0) && decide ((useL s.net (k : Int) true).length = 0)
def unuL (s : Stg) : List Int := if goodStg s then pickN (unuP s) s.net.places.toNat else []

theorem l3Unused_f (s : Stg) (k : Nat) (hn : s.net.trs.length ≤ 24) : Fn Try.prog 144 [.agg (dStg s), .lit (.int .i64 k)] (.lit (.bool (unuP s k))) [] := by
  refine Fn_of Try.func144 rfl (by kernel_rfl) rfl rfl ?_
  intro w0 A hin
  have hz1 := len_ints (useL s.net (k : Int) false)
  have hz2 := len_ints (useL s.net (k : Int) true)
  repeat' (first | refine goZ ?_ | refine R_callZ rfl (l3Of_f s _ _ hn) rfl rfl rfl ?_ | refine R_callvZ rfl (l3Of_f s _ _ hn) rfl rfl rfl rfl ?_ | refine D_callZ rfl (l3Of_f s _ _ hn) rfl rfl rfl ?_ | ((first | refine R_cond rfl (fun hq => ?_) fun hq => ?_ | refine R_guardT rfl rfl rfl (fun hq => ?_) fun hq => ?_ | refine R_guardF rfl rfl rfl (fun hq => ?_) fun hq => ?_ | refine D_guardT rfl rfl rfl (fun hq => ?_) fun hq => ?_ | refine D_guardF rfl rfl rfl (fun hq => ?_) fun hq => ?_) <;> (try rw [hq]) <;> first | have hp := of_decide_eq_true hq | have hp := of_decide_eq_false hq | have hp := of_decide_eq_false (not_t hq) | have hp := of_decide_eq_true (not_f hq) | have hp := hq))
  all_goals exact ret_bool' rfl (by rw [unuP, Bool.eq_iff_iff]; simp only [Bool.and_eq_true, decide_eq_true_eq, Bool.false_eq_true, false_iff]; omega)

theorem UnusedPlaces_f (s : Stg) (hs : s.start.size ≤ 1048576) : Fn Try.prog 146 [.agg (dStg s)] (.tup [.own 0, .lit (.bool (goodStg s))]) [.arr 3 1 (ints (unuL s)) true] := by
  refine Fn_of Try.func146 rfl (by kernel_rfl) rfl rfl ?_
  intro w0 A hin
  have hV := IsValidSTG_f s hs
  cases hg : goodStg s <;> rw [hg] at hV
  · repeat' (first | refine goZ ?_ | refine R_callZ rfl (hV) rfl rfl rfl ?_ | refine R_callvZ rfl (hV) rfl rfl rfl rfl ?_ | refine D_callZ rfl (hV) rfl rfl rfl ?_ | ((first | refine R_cond rfl (fun hq => ?_) fun hq => ?_ | refine R_guardT rfl rfl rfl (fun hq => ?_) fun hq => ?_ | refine R_guardF rfl rfl rfl (fun hq => ?_) fun hq => ?_ | refine D_guardT rfl rfl rfl (fun hq => ?_) fun hq => ?_ | refine D_guardF rfl rfl rfl (fun hq => ?_) fun hq => ?_) <;> (try rw [hq]) <;> first | have hp := of_decide_eq_true hq | have hp := of_decide_eq_false hq | have hp := of_decide_eq_false (not_t hq) | have hp := of_decide_eq_true (not_f hq) | have hp := hq))
    exact ret_nil_lit rfl (by simp [unuL, hg, ints]) rfl
  · have hb := goodStg_len hg
    have hlen := pickN_len (unuP s)
    repeat' (first | refine goZ ?_ | refine R_callZ rfl (hV) rfl rfl rfl ?_ | refine R_callvZ rfl (hV) rfl rfl rfl rfl ?_ | refine D_callZ rfl (hV) rfl rfl rfl ?_ | ((first | refine R_cond rfl (fun hq => ?_) fun hq => ?_ | refine R_guardT rfl rfl rfl (fun hq => ?_) fun hq => ?_ | refine R_guardF rfl rfl rfl (fun hq => ?_) fun hq => ?_ | refine D_guardT rfl rfl rfl (fun hq => ?_) fun hq => ?_ | refine D_guardF rfl rfl rfl (fun hq => ?_) fun hq => ?_) <;> (try rw [hq]) <;> first | have hp := of_decide_eq_true hq | have hp := of_decide_eq_false hq | have hp := of_decide_eq_false (not_t hq) | have hp := of_decide_eq_true (not_f hq) | have hp := hq))
    refine W_loop (fun k : Nat => ⟨_, [(1, .ptr 0 0), (4, .own 1), (14, .lit (.int .i64 s.net.places)), (15, .lit (.int .i64 k))], [.cells 38 (dStg s), .arr 3 1 (ints (pickN (unuP s) k)) true]⟩) (fun k => (k : Int) ≤ s.net.places) (fun k => s.net.places.toNat - k) 0 (by omega) (weakZ []) ?_
    intro k hk
    have hk2 := hlen k
    have hz1 := len_ints (useL s.net (k : Int) false)
    have hz2 := len_ints (useL s.net (k : Int) true)
    have hl1 := pickN_len (useP s.net k false) s.net.trs.length
    have hl2 := pickN_len (useP s.net k true) s.net.trs.length
    rw [← useL] at hl1 hl2
    repeat' (first | refine goZ ?_ | refine R_callZ rfl (users_f s.net k (by omega)) rfl rfl rfl ?_ | refine R_callvZ rfl (users_f s.net k (by omega)) rfl rfl rfl rfl ?_ | refine D_callZ rfl (users_f s.net k (by omega)) rfl rfl rfl ?_ | ((first | refine R_cond rfl (fun hq => ?_) fun hq => ?_ | refine R_guardT rfl rfl rfl (fun hq => ?_) fun hq => ?_ | refine R_guardF rfl rfl rfl (fun hq => ?_) fun hq => ?_ | refine D_guardT rfl rfl rfl (fun hq => ?_) fun hq => ?_ | refine D_guardF rfl rfl rfl (fun hq => ?_) fun hq => ?_) <;> (try rw [hq]) <;> first | have hp := of_decide_eq_true hq | have hp := of_decide_eq_false hq | have hp := of_decide_eq_false (not_t hq) | have hp := of_decide_eq_true (not_f hq) | have hp := hq))
    · refine ⟨k + 1, by omega, by omega, ?_⟩
      simp only [pickN_yes (p := unuP s) (k := k) (by rw [unuP, Bool.and_eq_true, decide_eq_true_eq, decide_eq_true_eq]; omega), ints_snoc]
      exact weakZ _
    · refine ⟨k + 1, by omega, by omega, ?_⟩
      simp only [pickN_no (p := unuP s) (k := k) (by rw [unuP, Bool.and_eq_false_iff, decide_eq_false_iff_not, decide_eq_false_iff_not]; omega)]
      exact weakZ _
    · exact ret_own_lit rfl rfl (by rw [unuL, hg, if_pos rfl, show k = s.net.places.toNat by omega]) rfl

/-! ### Dead transitions -/
def byT (t : Nat) (m : Mv) : Bool := decide (m.by_ = (t : Int))
def deaP (r : RGraph) (t : Nat) : Bool := !r.moves.any (byT t)
def deaB (s : Stg) (r : RGraph) : Bool := goodStg s && goodReach r
def deaL (s : Stg) (r : RGraph) : List Int := if deaB s r then pickN (deaP r) s.labels.length else []
theorem deaL_len (s : Stg) (r : RGraph) : (deaL s r).length ≤ 24 := by
  unfold deaL
  split
  · rename_i h
    have h1 : goodStg s = true := by simp only [deaB, Bool.and_eq_true] at h; exact h.1
    have := goodStg_len h1; have := pickN_len (deaP r) s.labels.length
    omega
  · simp
theorem unuL_len (s : Stg) : (unuL s).length ≤ 40 := by
  unfold unuL
  split
  · rename_i h
    have := goodStg_len h; have := pickN_len (unuP s) s.net.places.toNat
    omega
  · simp

end Go.Proofs.Ytjfipianehabgaa
