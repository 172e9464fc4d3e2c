/- Unfoldings without events: what the program's and the reference's functions hand back; the laws' helpers mark and held over them. No condition. -/
import Derived.Test.YtcbfpeplcbgpjaaBox
import Derived.Test.YtcbfpeplcbgpjaaMarkStg
import Derived.Test.YtcbfpeplcbgpjaaStg
set_option linter.unusedSimpArgs false
set_option linter.unusedVariables false
set_option maxHeartbeats 2000000
namespace Go.Proofs.Ytcbfpeplcbgpjaa
open Go.ChangeShapes Go.WideShapes Go.ChangeAt Go.RowKit

/-! ### The plain part -/
def mk0 (s : ByteArray) : Nat → List Cond
  | 0 => []
  | k + 1 => if bAt s k = 49 then mk0 s k ++ [⟨k, -1⟩] else mk0 s k
theorem mk0_len (s : ByteArray) : ∀ k, (mk0 s k).length ≤ k
  | 0 => by simp [mk0]
  | k + 1 => by
    have := mk0_len s k
    simp only [mk0]; split <;> simp <;> omega
noncomputable def unf0 (c : NetD) (s : ByteArray) : Unf := if goodMark c s then ⟨mk0 s c.places.toNat, []⟩ else ⟨[], []⟩
theorem unf0_yes {c : NetD} {s : ByteArray} (h : goodMark c s = true) : unf0 c s = ⟨mk0 s c.places.toNat, []⟩ := by simp [unf0, h]
theorem unf0_no {c : NetD} {s : ByteArray} (h : goodMark c s = false) : unf0 c s = ⟨[], []⟩ := by simp [unf0, h]
theorem unf0_ev (c : NetD) (s : ByteArray) : (unf0 c s).events = [] := by unfold unf0; split <;> rfl
theorem mark_len {c : NetD} {s : ByteArray} (h : goodMark c s = true) : 1 ≤ c.places ∧ c.places ≤ 40 ∧ s.size = c.places := by
  simp only [goodMark, goodNet, bitsB, Bool.and_eq_true, decide_eq_true_eq] at h
  omega
theorem unf0_len (c : NetD) (s : ByteArray) : (unf0 c s).conds.length ≤ 40 := by
  cases h : goodMark c s
  · rw [unf0_no h]; simp
  · rw [unf0_yes h]
    have := mk0_len s c.places.toNat
    have := mark_len h
    simp only; omega

section
variable {tab : Nat → Option TI} {s : St}
theorem retC_unf {rs : Array ResultVar} {i : Nat} {t t2 : TypeId} {m m2 : Nat} {xs xs' : List (List D)} {v v' : Value} (h : retDC tab s rs.toList = some (.tup [.agg [.own i, .nil], .lit v])) (hb : s.heap[i]? = some (.arr t m xs true)) (e : xs = xs') (e2 : v = v') : RetC tab rs (.tup [.agg [.own 0, .own 1], .lit v']) [.arr t m xs' true, .arr t2 m2 [] true] s :=
  ⟨_, [some i, none], h, ⟨⟨rfl, rfl, trivial⟩, e2, trivial⟩, ⟨by rw [← e]; exact hb, rfl, rfl, trivial⟩, by simp⟩
theorem retC_unf0 {rs : Array ResultVar} {t t2 : TypeId} {m m2 : Nat} {xs' : List (List D)} {v v' : Value} (h : retDC tab s rs.toList = some (.tup [.agg [.nil, .nil], .lit v])) (e : xs' = []) (e2 : v = v') : RetC tab rs (.tup [.agg [.own 0, .own 1], .lit v']) [.arr t m xs' true, .arr t2 m2 [] true] s :=
  ⟨_, [none, none], h, ⟨⟨rfl, rfl, trivial⟩, e2, trivial⟩, ⟨e, rfl, trivial⟩, by simp⟩
end

/-! ### The reference -/
theorem l7Asked_f (c : NetD) (s : ByteArray) (hs : s.size ≤ 1048576) : Fn Try.prog 72 [.agg (dNetD c), .lit (.string s)] (.lit (.bool (goodMark c s))) [] := by
  refine Fn_of Try.func72 rfl (by kernel_rfl) rfl rfl ?_
  intro w0 A hin
  have hV := l1Good_f c
  have hM := l1Mark_f c s hs
  cases hg : goodNet c <;> rw [hg] at hV
  all_goals repeat' (first | refine goZ ?_ | refine R_callZ rfl (hV) rfl rfl rfl ?_ | refine R_callZ rfl (hM) rfl rfl rfl ?_ | refine R_callvZ rfl (hV) rfl rfl rfl rfl ?_ | refine R_callvZ rfl (hM) rfl rfl rfl rfl ?_ | refine D_callZ rfl (hV) rfl rfl rfl ?_ | refine D_callZ rfl (hM) rfl rfl rfl ?_ | ((first | refine R_cond rfl (fun hq => ?_) fun hq => ?_ | refine R_guardT rfl rfl rfl (fun hq => ?_) fun hq => ?_ | refine R_guardF rfl rfl rfl (fun hq => ?_) fun hq => ?_ | refine D_guardT rfl rfl rfl (fun hq => ?_) fun hq => ?_ | refine D_guardF rfl rfl rfl (fun hq => ?_) fun hq => ?_) <;> (try rw [hq]) <;> first | have hp := of_decide_eq_true hq | have hp := of_decide_eq_false hq | have hp := of_decide_eq_false (not_t hq) | have hp := of_decide_eq_true (not_f hq) | have hp := hq))
  all_goals exact ret_bool' rfl (by simp [goodMark, hg])
theorem l7Made_f (c : NetD) (s : ByteArray) (hg : goodMark c s = true) : Fn Try.prog 73 [.agg (dNetD c), .lit (.string s), .nil] (.own 0) [.arr 178 2 ((mk0 s c.places.toNat).map dCond) true] := by
  refine Fn_of Try.func73 rfl (by kernel_rfl) rfl rfl ?_
  intro w0 A hin
  obtain ⟨hp1, hp2, hsz⟩ := mark_len hg
  have hlen := mk0_len s
  repeat' (first | refine goZ ?_ | ((first | refine R_cond rfl (fun hq => ?_) fun hq => ?_ | refine R_guardT rfl rfl rfl (fun hq => ?_) fun hq => ?_ | refine R_guardF rfl rfl rfl (fun hq => ?_) fun hq => ?_ | refine D_guardT rfl rfl rfl (fun hq => ?_) fun hq => ?_ | refine D_guardF rfl rfl rfl (fun hq => ?_) fun hq => ?_) <;> (try rw [hq]) <;> first | have hp := of_decide_eq_true hq | have hp := of_decide_eq_false hq | have hp := of_decide_eq_false (not_t hq) | have hp := of_decide_eq_true (not_f hq) | have hp := hq))
  refine W_open 7 178 2 rfl ?_
  refine W_loop (fun k : Nat => ⟨_, [(1, .lit (.string s)), (2, .nil), (3, .ptr 0 0), (7, .own 1), (8, .lit (.int .i64 k))], [.cells 30 (dNetD c), .arr 178 2 ((mk0 s k).map dCond) true]⟩) (fun k => (k : Int) ≤ c.places) (fun k => c.places.toNat - k) 0 (by omega) (weakZ []) ?_
  intro k hk
  have hk2 := hlen k
  repeat' (first | refine goZ ?_ | ((first | refine R_cond rfl (fun hq => ?_) fun hq => ?_ | refine R_guardT rfl rfl rfl (fun hq => ?_) fun hq => ?_ | refine R_guardF rfl rfl rfl (fun hq => ?_) fun hq => ?_ | refine D_guardT rfl rfl rfl (fun hq => ?_) fun hq => ?_ | refine D_guardF rfl rfl rfl (fun hq => ?_) fun hq => ?_) <;> (try rw [hq]) <;> first | have hp := of_decide_eq_true hq | have hp := of_decide_eq_false hq | have hp := of_decide_eq_false (not_t hq) | have hp := of_decide_eq_true (not_f hq) | have hp := hq))
  · refine ⟨k + 1, by omega, by omega, ?_⟩
    rw [show mk0 s (k + 1) = mk0 s k ++ [⟨k, -1⟩] by rw [mk0, if_pos (by assumption)], List.map_append]
    exact weakZ _
  · refine ⟨k + 1, by omega, by omega, ?_⟩
    rw [show mk0 s (k + 1) = mk0 s k by rw [mk0, if_neg (by assumption)]]
    exact weakZ _
  · have ek : k = c.places.toNat := by omega
    subst ek
    refine W_loop (fun j : Nat => ⟨_, [(7, .own 1), (29, .lit (.int .i64 0)), (30, .lit (.int .i64 j))], [.cells 30 (dNetD c), .arr 178 2 ((mk0 s c.places.toNat).map dCond) true]⟩) (fun j => j = 0) (fun j => 0) 0 rfl (weakZ []) ?_
    rintro j rfl
    repeat' (first | refine goZ ?_ | ((first | refine R_cond rfl (fun hq => ?_) fun hq => ?_ | refine R_guardT rfl rfl rfl (fun hq => ?_) fun hq => ?_ | refine R_guardF rfl rfl rfl (fun hq => ?_) fun hq => ?_ | refine D_guardT rfl rfl rfl (fun hq => ?_) fun hq => ?_ | refine D_guardF rfl rfl rfl (fun hq => ?_) fun hq => ?_) <;> (try rw [hq]) <;> first | have hp := of_decide_eq_true hq | have hp := of_decide_eq_false hq | have hp := of_decide_eq_false (not_t hq) | have hp := of_decide_eq_true (not_f hq) | have hp := hq))
    all_goals first | exact ret_own rfl rfl rfl | trace_state
set_option maxHeartbeats 1600000 in
theorem specInitialUnfolding_f (c : NetD) (s : ByteArray) (hs : s.size ≤ 1048576) : Fn Try.prog 23 [.agg (dNetD c), .lit (.string s)] (.tup [.agg [.own 0, .own 1], .lit (.bool (goodMark c s))]) [.arr 178 2 ((unf0 c s).conds.map dCond) true, .arr 180 2 [] true] := by
  refine Fn_ofC tabOk Try.func23 rfl (by kernel_rfl) rfl rfl ?_
  intro w0 A hin
  have hV := l7Asked_f c s hs
  cases hg : goodMark c s <;> rw [hg] at hV
  · repeat' (first | refine goZ ?_ | refine R_callZ rfl (hV) rfl rfl rfl ?_ | refine R_callvZ rfl (hV) rfl rfl rfl rfl ?_ | refine D_callZ rfl (hV) rfl rfl rfl ?_ | ((first | refine R_cond rfl (fun hq => ?_) fun hq => ?_ | refine R_guardT rfl rfl rfl (fun hq => ?_) fun hq => ?_ | refine R_guardF rfl rfl rfl (fun hq => ?_) fun hq => ?_ | refine D_guardT rfl rfl rfl (fun hq => ?_) fun hq => ?_ | refine D_guardF rfl rfl rfl (fun hq => ?_) fun hq => ?_) <;> (try rw [hq]) <;> first | have hp := of_decide_eq_true hq | have hp := of_decide_eq_false hq | have hp := of_decide_eq_false (not_t hq) | have hp := of_decide_eq_true (not_f hq) | have hp := hq))
    exact .r (retC_unf0 rfl (by rw [unf0_no hg]; rfl) rfl)
  · repeat' (first | refine goZ ?_ | refine R_callZ rfl (hV) rfl rfl rfl ?_ | refine R_callZ rfl (l7Made_f c s hg) rfl rfl rfl ?_ | refine R_callvZ rfl (hV) rfl rfl rfl rfl ?_ | refine R_callvZ rfl (l7Made_f c s hg) rfl rfl rfl rfl ?_ | refine D_callZ rfl (hV) rfl rfl rfl ?_ | refine D_callZ rfl (l7Made_f c s hg) rfl rfl rfl ?_ | ((first | refine R_cond rfl (fun hq => ?_) fun hq => ?_ | refine R_guardT rfl rfl rfl (fun hq => ?_) fun hq => ?_ | refine R_guardF rfl rfl rfl (fun hq => ?_) fun hq => ?_ | refine D_guardT rfl rfl rfl (fun hq => ?_) fun hq => ?_ | refine D_guardF rfl rfl rfl (fun hq => ?_) fun hq => ?_) <;> (try rw [hq]) <;> first | have hp := of_decide_eq_true hq | have hp := of_decide_eq_false hq | have hp := of_decide_eq_false (not_t hq) | have hp := of_decide_eq_true (not_f hq) | have hp := hq))
    first | exact .r (retC_unf rfl rfl (by rw [unf0_yes hg]) rfl) | exact .n (retC_unf rfl rfl (by rw [unf0_yes hg]) rfl)

/-! ### The program -/
theorem newBranching_b (c : NetD) (s : ByteArray) (hg : goodMark c s = true) : FnB Try.prog 75 [.agg (dNetD c), .lit (.string s)] 116 [.no, .no, .own 1, .nil, .no, .no] 178 2 ((mk0 s c.places.toNat).map dCond) := by
  refine FnB_of Try.func75 rfl (by kernel_rfl) rfl ?_
  intro w0 A hin
  obtain ⟨hp1, hp2, hsz⟩ := mark_len hg
  have hlen := mk0_len s
  repeat' (first | refine goZ ?_ | refine R_assignConst rfl ?_ | ((first | refine R_cond rfl (fun hq => ?_) fun hq => ?_ | refine R_guardT rfl rfl rfl (fun hq => ?_) fun hq => ?_ | refine R_guardF rfl rfl rfl (fun hq => ?_) fun hq => ?_ | refine D_guardT rfl rfl rfl (fun hq => ?_) fun hq => ?_ | refine D_guardF rfl rfl rfl (fun hq => ?_) fun hq => ?_) <;> (try rw [hq]) <;> first | have hp := of_decide_eq_true hq | have hp := of_decide_eq_false hq | have hp := of_decide_eq_false (not_t hq) | have hp := of_decide_eq_true (not_f hq) | have hp := hq))
  refine W_openC 1 2 178 2 rfl rfl (by exact rfl) ?_
  refine W_loop (fun k : Nat => ⟨_, [(1, .lit (.string s)), (2, .ptr 0 0), (5, .ptr 1 0), (11, .lit (.int .i64 c.places)), (12, .lit (.int .i64 k))], [.cells 30 (dNetD c), .cells 116 (dNetD c ++ [.own 2, .nil, .nil, .nil]), .arr 178 2 ((mk0 s k).map dCond) true]⟩) (fun k => (k : Int) ≤ c.places) (fun k => c.places.toNat - k) 0 (by omega) (weakZ []) ?_
  intro k hk
  have hk2 := hlen k
  repeat' (first | refine goZ ?_ | refine R_nilCheck rfl rfl ?_ | ((first | refine R_cond rfl (fun hq => ?_) fun hq => ?_ | refine R_guardT rfl rfl rfl (fun hq => ?_) fun hq => ?_ | refine R_guardF rfl rfl rfl (fun hq => ?_) fun hq => ?_ | refine D_guardT rfl rfl rfl (fun hq => ?_) fun hq => ?_ | refine D_guardF rfl rfl rfl (fun hq => ?_) fun hq => ?_) <;> (try rw [hq]) <;> first | have hp := of_decide_eq_true hq | have hp := of_decide_eq_false hq | have hp := of_decide_eq_false (not_t hq) | have hp := of_decide_eq_true (not_f hq) | have hp := hq))
  · refine ⟨k + 1, by omega, by omega, ?_⟩
    rw [show mk0 s (k + 1) = mk0 s k ++ [⟨k, -1⟩] by rw [mk0, if_pos (by assumption)], List.map_append]
    exact weakZ _
  · refine ⟨k + 1, by omega, by omega, ?_⟩
    rw [show mk0 s (k + 1) = mk0 s k by rw [mk0, if_neg (by assumption)]]
    exact weakZ _
  · have ek : k = c.places.toNat := by omega
    subst ek
    first | exact .n ⟨1, 2, _, rfl, rfl, rfl, by decide, by simp [boxL, dNetD]⟩ | exact .r ⟨1, 2, _, rfl, rfl, rfl, by decide, by simp [boxL, dNetD]⟩ | trace_state
set_option maxHeartbeats 1600000 in
theorem InitialUnfolding_f (c : NetD) (s : ByteArray) (hs : s.size ≤ 1048576) : Fn Try.prog 24 [.agg (dNetD c), .lit (.string s)] (.tup [.agg [.own 0, .own 1], .lit (.bool (goodMark c s))]) [.arr 178 2 ((unf0 c s).conds.map dCond) true, .arr 180 2 [] true] := by
  refine Fn_ofC tabOk Try.func24 rfl (by kernel_rfl) rfl rfl ?_
  intro w0 A hin
  have hV := IsValidMarking_f c s hs
  cases hg : goodMark c s <;> rw [hg] at hV
  · repeat' (first | refine goZ ?_ | refine R_callZ rfl (hV) rfl rfl rfl ?_ | refine R_callvZ rfl (hV) rfl rfl rfl rfl ?_ | refine D_callZ rfl (hV) rfl rfl rfl ?_ | ((first | refine R_cond rfl (fun hq => ?_) fun hq => ?_ | refine R_guardT rfl rfl rfl (fun hq => ?_) fun hq => ?_ | refine R_guardF rfl rfl rfl (fun hq => ?_) fun hq => ?_ | refine D_guardT rfl rfl rfl (fun hq => ?_) fun hq => ?_ | refine D_guardF rfl rfl rfl (fun hq => ?_) fun hq => ?_) <;> (try rw [hq]) <;> first | have hp := of_decide_eq_true hq | have hp := of_decide_eq_false hq | have hp := of_decide_eq_false (not_t hq) | have hp := of_decide_eq_true (not_f hq) | have hp := hq))
    exact .r (retC_unf0 rfl (by rw [unf0_no hg]; rfl) rfl)
  · repeat' (first | refine goZ ?_ | refine R_callZ rfl (hV) rfl rfl rfl ?_ | refine R_callvZ rfl (hV) rfl rfl rfl rfl ?_ | refine R_nilCheck rfl rfl ?_ | refine R_callBZ rfl (newBranching_b c s hg) rfl rfl rfl ?_ | refine D_callZ rfl (hV) rfl rfl rfl ?_ | ((first | refine R_cond rfl (fun hq => ?_) fun hq => ?_ | refine R_guardT rfl rfl rfl (fun hq => ?_) fun hq => ?_ | refine R_guardF rfl rfl rfl (fun hq => ?_) fun hq => ?_ | refine D_guardT rfl rfl rfl (fun hq => ?_) fun hq => ?_ | refine D_guardF rfl rfl rfl (fun hq => ?_) fun hq => ?_) <;> (try rw [hq]) <;> first | have hp := of_decide_eq_true hq | have hp := of_decide_eq_false hq | have hp := of_decide_eq_false (not_t hq) | have hp := of_decide_eq_true (not_f hq) | have hp := hq))
    first | exact .r (retC_unf rfl rfl (by rw [unf0_yes hg]) rfl) | exact .n (retC_unf rfl rfl (by rw [unf0_yes hg]) rfl) | trace_state

/-! ### The laws' helpers -/
set_option maxRecDepth 20000 in
theorem markEventS_0 (k0 : Int) (h0 : 0 ≤ k0) (h1 : k0 ≤ 100000000000) : MFn Try.prog 80 false [.sh 2 []] k0 k0 (some [.sh 2 []]) := by
  refine ⟨plain_of Try.func80 (by kernel_rfl) (by kernel_rfl), litOk_i64.2 (by omega), fun w us bs hv hnd hun => ?_⟩
  obtain ⟨u, rfl, hu⟩ := vrs_one hv
  obtain ⟨a, cap, rfl⟩ : ∃ a cap, u = .slice a 0 cap := by
    generalize hx : ([] : List (List D)) = xs at hu
    cases hu with
    | shnil q1 q2 => exact ⟨_, _, rfl⟩
    | sh q1 q2 q3 q4 q5 q6 => subst hx; exact ⟨_, _, rfl⟩
  have HV := Lib.hid hv
  clear hv hu hnd hun
  show Calls Try.prog 80 #[.slice a 0 cap, .int .i64 k0] w _
  have hn1 : ([] : List Ev).length < 1 := by decide
  go_enter Try.func80, Try.ntmps80
  go_wp2
  go_loopw [1, 5] (fun v i wr => v = .int .i64 k0 ∧ i = .int .i64 0 ∧ w = wr) (fun _ _ _ => 0)
  case atStart => exact ⟨rfl, rfl, rfl⟩
  case round =>
    obtain ⟨rfl, rfl, rfl⟩ := hrel
    go_wp2
    go_ret
    refine ⟨rfl, Turn.refl _ _, fun l hl => ?_⟩
    cases hl
    exact HV.out
theorem heldEventS_0 (k0 : Int) (h0 : 0 ≤ k0) (h1 : k0 ≤ 100000000000) : Fn Try.prog 82 [.sh 2 [], .lit (.int .i64 k0)] (.lit (.int .i64 k0)) [] := by
  refine Fn_of Try.func82 rfl (by kernel_rfl) rfl rfl ?_
  intro w0 A hin
  repeat' (first | refine goZ ?_ | ((first | refine R_cond rfl (fun hq => ?_) fun hq => ?_ | refine R_guardT rfl rfl rfl (fun hq => ?_) fun hq => ?_ | refine R_guardF rfl rfl rfl (fun hq => ?_) fun hq => ?_ | refine D_guardT rfl rfl rfl (fun hq => ?_) fun hq => ?_ | refine D_guardF rfl rfl rfl (fun hq => ?_) fun hq => ?_) <;> (try rw [hq]) <;> first | have hp := of_decide_eq_true hq | have hp := of_decide_eq_false hq | have hp := of_decide_eq_false (not_t hq) | have hp := of_decide_eq_true (not_f hq) | have hp := hq))
  refine W_loop (fun j : Nat => ⟨_, [(0, .sh 2 []), (1, .lit (.int .i64 k0)), (5, .lit (.int .i64 j))], []⟩) (fun j => j ≤ 0) (fun j => 0 - j) 0 (Nat.zero_le _) (weakZ []) ?_
  intro j hj
  repeat' (first | refine goZ ?_ | ((first | refine R_cond rfl (fun hq => ?_) fun hq => ?_ | refine R_guardT rfl rfl rfl (fun hq => ?_) fun hq => ?_ | refine R_guardF rfl rfl rfl (fun hq => ?_) fun hq => ?_ | refine D_guardT rfl rfl rfl (fun hq => ?_) fun hq => ?_ | refine D_guardF rfl rfl rfl (fun hq => ?_) fun hq => ?_) <;> (try rw [hq]) <;> first | have hp := of_decide_eq_true hq | have hp := of_decide_eq_false hq | have hp := of_decide_eq_false (not_t hq) | have hp := of_decide_eq_true (not_f hq) | have hp := hq))
  all_goals first | exact ret_int' rfl rfl | (exfalso; simp at *; omega) | trace_state
def unfX (x : Unf) (k : Int) : List D := [.sh 2 (mrows 2 fCond x.conds.length k), .sh 2 []]
theorem heldUnfolding_f (x : Unf) (hx : x.conds.length ≤ 40) (k0 : Int) (h0 : 0 ≤ k0) (h1 : k0 ≤ 1000000000) : Fn Try.prog 28 [.agg (unfX x k0), .lit (.int .i64 k0)] (.lit (.int .i64 (k0 + ((x.conds.length * 2 : Nat) : Int)))) [] := by
  refine Fn_of Try.func28 rfl (by kernel_rfl) rfl rfl ?_
  intro w0 A hin
  repeat' (first | refine goZ ?_ | refine R_callZ rfl (heldConditionS_f x.conds.length _ (by omega) (by omega) (by omega)) rfl rfl rfl ?_ | refine R_callZ rfl (heldEventS_0 _ (by omega) (by omega)) rfl rfl rfl ?_ | refine R_callvZ rfl (heldConditionS_f x.conds.length _ (by omega) (by omega) (by omega)) rfl rfl rfl rfl ?_ | refine R_callvZ rfl (heldEventS_0 _ (by omega) (by omega)) rfl rfl rfl rfl ?_ | refine D_callZ rfl (heldConditionS_f x.conds.length _ (by omega) (by omega) (by omega)) rfl rfl rfl ?_ | refine D_callZ rfl (heldEventS_0 _ (by omega) (by omega)) rfl rfl rfl ?_ | ((first | refine R_cond rfl (fun hq => ?_) fun hq => ?_ | refine R_guardT rfl rfl rfl (fun hq => ?_) fun hq => ?_ | refine R_guardF rfl rfl rfl (fun hq => ?_) fun hq => ?_ | refine D_guardT rfl rfl rfl (fun hq => ?_) fun hq => ?_ | refine D_guardF rfl rfl rfl (fun hq => ?_) fun hq => ?_) <;> (try rw [hq]) <;> first | have hp := of_decide_eq_true hq | have hp := of_decide_eq_false hq | have hp := of_decide_eq_false (not_t hq) | have hp := of_decide_eq_true (not_f hq) | have hp := hq))
  all_goals first | (exfalso; omega) | exact ret_int' rfl rfl
set_option maxHeartbeats 1600000 in
theorem markUnfolding_n (x : Unf) (hx : x.conds.length ≤ 40) (he : x.events = []) (k0 : Int) (h0 : 0 ≤ k0) (h1 : k0 ≤ 1000000000) : MFn Try.prog 27 true (dUnf x) k0 (k0 + ((x.conds.length * 2 : Nat) : Int)) (some (unfX x k0)) := by
  refine ⟨(plain_of Try.func27 (by kernel_rfl) (by kernel_rfl)), litOk_i64.2 (by omega), fun w us bs hv hnd hun => ?_⟩
  have hv : VRs w [.sh 2 (x.conds.map dCond), .sh 2 []] us bs := by
    have : dUnf x = [.sh 2 (x.conds.map dCond), .sh 2 []] := by simp [dUnf, he]
    rwa [this] at hv
  obtain ⟨u0, us0, b0, bs0, rfl, rfl, v0, t0⟩ := vrs_cons hv
  obtain ⟨u1, us1, b1, bs1, rfl, rfl, v1, t1⟩ := vrs_cons t0
  obtain ⟨rfl, rfl⟩ := vrs_nil t1
  have HV := Lib.hid hv
  have HND := Lib.hid hnd
  have HUN := Lib.hid hun
  clear hnd hun hv t0 t1
  have HIN : Hid (∀ k ∈ b0 ++ (b1 ++ []), k < w.heap.size) := Lib.hid HV.out.inb
  show Calls Try.prog 27 #[.agg #[u0, u1], .int .i64 k0] w _
  have hE0 : Ext w (w.alloc (.cells #[u0, u1] 56)) := (Ext.refl w).alloc _
  have HE0 := Lib.hid hE0
  have V0 := Lib.hid v0
  have V1 := Lib.hid v1
  clear v0 v1
  go_enter Try.func27, Try.ntmps27
  go_wp2_with fail
  have hsub0 : List.Sublist b0 (b0 ++ (b1 ++ [])) := List.sublist_append_left _ _
  refine (MFn.nextV (markConditionS_m x.conds _ (by omega) (by omega) (by omega)) (bs := b0) (us := [u0]) ((Turn.of_ext hE0 : Turn [] w _)) (by simpa using VRs.cons V0.out .nil) (HND.out.sublist hsub0) (fun k hk => HUN.out k (hsub0.subset hk)) (by intro k hk hk2; simp at hk2)).mono ?_
  rintro e w1 ⟨rfl, ht1, hT1, hW1⟩
  have HT1 := Lib.hid hT1
  have HW1 := Lib.hid hW1
  have hb1_1 : w1.cell? ⟨w.heap.size, 1, none⟩ = some u1 := by rw [cell_of_heap (ht1.block _ (by simp) (fun hm => absurd (HIN.out _ (hsub0.subset hm)) (Nat.lt_irrefl _)))]; exact World.cell?_alloc_new _ _ _ _
  clear ht1 hT1 hW1
  go_wp2_with fail
  have hsub1 : List.Sublist b1 (b0 ++ (b1 ++ [])) := (List.sublist_append_left _ _).trans (List.sublist_append_right _ _)
  refine (MFn.nextV (markEventS_0 _ (by omega) (by omega)) (bs := b1) (us := [u1]) HT1.out (by simpa using VRs.cons V1.out .nil) (HND.out.sublist hsub1) (fun k hk => HUN.out k (hsub1.subset hk)) (by have := HND.out; simp only [List.append_nil, List.nodup_append, List.mem_append, ne_eq] at this; intro k hk hk2; simp only [List.append_nil, List.nil_append, List.mem_append] at hk hk2; grind)).mono ?_
  rintro e w2 ⟨rfl, ht2, hT2, hW2⟩
  have HT2 := Lib.hid hT2
  have HW2 := Lib.hid hW2
  have HL2 := Lib.hid ht2
  clear ht2 hT2 hW2
  go_wp2
  go_ret
  refine ⟨ret_int (by omega), HT2.out.mono (fun k hk => by simp only [List.append_nil, List.nil_append, List.mem_append] at hk ⊢; grind), fun l hl => ?_⟩
  cases hl
  have hnd := HND.out
  simp only [List.append_nil, List.nodup_append, List.mem_append, ne_eq] at hnd
  have k2 : VRs w2 [.sh 2 (mrows 2 fCond x.conds.length k0)] [u0] b0 := by
    have i1 := HW1.out
    exact i1.keep fun k hk => HL2.out.block k (i1.inb k hk) (by intro hm; grind)
  have := k2.append HW2.out
  simpa [unfX] using this
end Go.Proofs.Ytcbfpeplcbgpjaa
