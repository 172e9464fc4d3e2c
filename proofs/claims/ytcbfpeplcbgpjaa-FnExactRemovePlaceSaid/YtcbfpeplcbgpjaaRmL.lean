/- Unused places: what the reference's and the program's functions hand back. No condition. A place struck out, plain. No condition. A row whose places behind p move up: what the reference's function hands back. No condition. -/
import Derived.Test.YtcbfpeplcbgpjaaStg
import Derived.Test.YtcbfpeplcbgpjaaIx
import Derived.Test.YtcbfpeplcbgpjaaPick
import Derived.Test.YtcbfpeplcbgpjaaMir
set_option linter.unusedSimpArgs false
set_option linter.unusedVariables false
set_option maxHeartbeats 2000000
namespace Go.Proofs.Ytcbfpeplcbgpjaa
open Go.ChangeShapes Go.WideShapes Go.ChangeAt Go.RowKit

theorem goodStg_len {s : Stg} (h : goodStg s = true) : s.labels.length = s.net.trs.length ∧ s.net.trs.length ≤ 24 ∧ 1 ≤ s.signals.length ∧ s.signals.length ≤ 8 ∧ 1 ≤ s.net.places ∧ s.net.places ≤ 40 := by
  simp only [goodStg, goodMark, goodNet, sigsB, Bool.and_eq_true, decide_eq_true_eq] at h; omega

theorem start_le (s : Stg) : s.start.size ≤ szStg s := by unfold szStg; omega

/-- The transitions that use a place. -/
def useP (n : NetD) (p : Int) (post : Bool) (t : Nat) : Bool := decide (p ∈ if post then (nth n.trs t).post else (nth n.trs t).pre)
def useL (n : NetD) (p : Int) (post : Bool) : List Int := pickN (useP n p post) n.trs.length
theorem ret_own2 {rs : Array ResultVar} {i j : Nat} {s : St} {t t' : TypeId} {n n' : Nat} {xs xs' ys ys' : List (List D)} {dp dp' : Bool} (h : retD s rs.toList = some (.tup [.own i, .own j])) (hb : s.heap[i]? = some (.arr t n xs dp)) (hb' : s.heap[j]? = some (.arr t' n' ys dp')) (hne : i ≠ j) (e : xs = xs') (e' : ys = ys') : RetS rs (.tup [.own 0, .own 1]) [.arr t n xs' dp, .arr t' n' ys' dp'] s :=
  ⟨_, [some i, some j], h, ⟨rfl, rfl, trivial⟩, ⟨by rw [← e]; exact hb, rfl, by rw [← e']; exact hb', rfl, trivial⟩, by simp [hne]⟩

theorem users_f (n : NetD) (p : Int) (hn : n.trs.length ≤ 24) : Fn Try.prog 162 [.agg (dNetD n), .lit (.int .i64 p)] (.tup [.own 0, .own 1]) [.arr 3 1 (ints (useL n p false)) true, .arr 3 1 (ints (useL n p true)) true] := by
  refine Fn_of Try.func162 rfl (by kernel_rfl) rfl rfl ?_
  intro w0 A hin
  have hz := len_dTr n.trs
  have hlen := pickN_len (useP n p false)
  have hlen2 := pickN_len (useP n p true)
  repeat' (first | refine goZ ?_ | ((first | refine R_cond rfl (fun hq => ?_) fun hq => ?_ | refine R_guardT rfl rfl rfl (fun hq => ?_) fun hq => ?_ | refine R_guardF rfl rfl rfl (fun hq => ?_) fun hq => ?_ | refine D_guardT rfl rfl rfl (fun hq => ?_) fun hq => ?_ | refine D_guardF rfl rfl rfl (fun hq => ?_) fun hq => ?_) <;> (try rw [hq]) <;> first | have hp := of_decide_eq_true hq | have hp := of_decide_eq_false hq | have hp := of_decide_eq_false (not_t hq) | have hp := of_decide_eq_true (not_f hq) | have hp := hq))
  refine W_loop (fun k : Nat => ⟨_, [(1, .lit (.int .i64 p)), (6, .own 1), (7, .own 2), (13, .sh 2 (n.trs.map dTr)), (14, .lit (.int .i64 n.trs.length)), (15, .lit (.int .i64 k))], [.cells 30 (dNetD n), .arr 3 1 (ints (pickN (useP n p false) k)) true, .arr 3 1 (ints (pickN (useP n p true) k)) true]⟩) (fun k => k ≤ n.trs.length) (fun k => n.trs.length - k) 0 (Nat.zero_le _) (weakZ []) ?_
  intro k hk
  have hk2 := hlen k
  have hk3 := hlen2 k
  have hpy : (p ∈ (nth n.trs k).pre) → useP n p false k = true := fun h => by rw [useP, decide_eq_true_eq]; exact h
  have hpn : (¬ p ∈ (nth n.trs k).pre) → useP n p false k = false := fun h => by rw [useP, decide_eq_false_iff_not]; exact h
  have hqy : (p ∈ (nth n.trs k).post) → useP n p true k = true := fun h => by rw [useP, decide_eq_true_eq]; exact h
  have hqn : (¬ p ∈ (nth n.trs k).post) → useP n p true k = false := fun h => by rw [useP, decide_eq_false_iff_not]; exact h
  repeat' (first | refine goZ ?_ | refine R_callZ rfl (Contains_Int_f _ _) rfl rfl rfl ?_ | refine R_callvZ rfl (Contains_Int_f _ _) rfl rfl rfl rfl ?_ | refine D_callZ rfl (Contains_Int_f _ _) rfl rfl rfl ?_ | ((first | refine R_cond rfl (fun hq => ?_) fun hq => ?_ | refine R_guardT rfl rfl rfl (fun hq => ?_) fun hq => ?_ | refine R_guardF rfl rfl rfl (fun hq => ?_) fun hq => ?_ | refine D_guardT rfl rfl rfl (fun hq => ?_) fun hq => ?_ | refine D_guardF rfl rfl rfl (fun hq => ?_) fun hq => ?_) <;> (try rw [hq]) <;> first | have hp := of_decide_eq_true hq | have hp := of_decide_eq_false hq | have hp := of_decide_eq_false (not_t hq) | have hp := of_decide_eq_true (not_f hq) | have hp := hq))
  · refine ⟨k + 1, by omega, by omega, ?_⟩
    simp only [pickN_yes (hpy (by assumption)), pickN_yes (hqy hp), ints_snoc]
    exact weakZ _
  · refine ⟨k + 1, by omega, by omega, ?_⟩
    simp only [pickN_yes (hpy (by assumption)), pickN_no (hqn hp), ints_snoc]
    exact weakZ _
  · refine ⟨k + 1, by omega, by omega, ?_⟩
    simp only [pickN_no (hpn (by assumption)), pickN_yes (hqy hp), ints_snoc]
    exact weakZ _
  · refine ⟨k + 1, by omega, by omega, ?_⟩
    simp only [pickN_no (hpn (by assumption)), pickN_no (hqn hp)]
    exact weakZ _
  · have : k = n.trs.length := by omega
    exact ret_own2 rfl rfl rfl (by decide) (by rw [useL, this]) (by rw [useL, this])

theorem l3Of_f (s : Stg) (p : Int) (post : Bool) (hn : s.net.trs.length ≤ 24) : Fn Try.prog 161 [.agg (dStg s), .lit (.int .i64 p), .lit (.bool post)] (.own 0) [.arr 3 1 (ints (useL s.net p post)) true] := by
  refine Fn_of Try.func161 rfl (by kernel_rfl) rfl rfl ?_
  intro w0 A hin
  have hz := len_dTr s.net.trs
  have hlen := pickN_len (useP s.net p post)
  repeat' (first | refine goZ ?_ | ((first | refine R_cond rfl (fun hq => ?_) fun hq => ?_ | refine R_guardT rfl rfl rfl (fun hq => ?_) fun hq => ?_ | refine R_guardF rfl rfl rfl (fun hq => ?_) fun hq => ?_ | refine D_guardT rfl rfl rfl (fun hq => ?_) fun hq => ?_ | refine D_guardF rfl rfl rfl (fun hq => ?_) fun hq => ?_) <;> (try rw [hq]) <;> first | have hp := of_decide_eq_true hq | have hp := of_decide_eq_false hq | have hp := of_decide_eq_false (not_t hq) | have hp := of_decide_eq_true (not_f hq) | have hp := hq))
  refine W_open 7 3 1 rfl ?_
  refine W_loop (fun k : Nat => ⟨_, [(1, .lit (.int .i64 p)), (2, .lit (.bool post)), (7, .own 1), (12, .sh 2 (s.net.trs.map dTr)), (13, .lit (.int .i64 s.net.trs.length)), (14, .lit (.int .i64 k))], [.cells 69 (dStg s), .arr 3 1 (ints (pickN (useP s.net p post) k)) true]⟩) (fun k => k ≤ s.net.trs.length) (fun k => s.net.trs.length - k) 0 (Nat.zero_le _) (weakZ []) ?_
  intro k hk
  have hk2 := hlen k
  cases post
  · repeat' (first | refine goZ ?_ | refine R_callZ rfl (l1Has_f _ _) rfl rfl rfl ?_ | refine R_callvZ rfl (l1Has_f _ _) rfl rfl rfl rfl ?_ | refine D_callZ rfl (l1Has_f _ _) rfl rfl rfl ?_ | ((first | refine R_cond rfl (fun hq => ?_) fun hq => ?_ | refine R_guardT rfl rfl rfl (fun hq => ?_) fun hq => ?_ | refine R_guardF rfl rfl rfl (fun hq => ?_) fun hq => ?_ | refine D_guardT rfl rfl rfl (fun hq => ?_) fun hq => ?_ | refine D_guardF rfl rfl rfl (fun hq => ?_) fun hq => ?_) <;> (try rw [hq]) <;> first | have hp := of_decide_eq_true hq | have hp := of_decide_eq_false hq | have hp := of_decide_eq_false (not_t hq) | have hp := of_decide_eq_true (not_f hq) | have hp := hq))
    · refine ⟨k + 1, by omega, by omega, ?_⟩
      simp only [pickN_yes (p := useP s.net p false) (k := k) (by rw [useP, decide_eq_true_eq]; exact hp), ints_snoc]
      exact weakZ _
    · refine ⟨k + 1, by omega, by omega, ?_⟩
      simp only [pickN_no (p := useP s.net p false) (k := k) (by rw [useP, decide_eq_false_iff_not]; exact hp)]
      exact weakZ _
    · exact ret_own rfl rfl (by rw [useL, show k = s.net.trs.length by omega])
  · repeat' (first | refine goZ ?_ | refine R_callZ rfl (l1Has_f _ _) rfl rfl rfl ?_ | refine R_callvZ rfl (l1Has_f _ _) rfl rfl rfl rfl ?_ | refine D_callZ rfl (l1Has_f _ _) rfl rfl rfl ?_ | ((first | refine R_cond rfl (fun hq => ?_) fun hq => ?_ | refine R_guardT rfl rfl rfl (fun hq => ?_) fun hq => ?_ | refine R_guardF rfl rfl rfl (fun hq => ?_) fun hq => ?_ | refine D_guardT rfl rfl rfl (fun hq => ?_) fun hq => ?_ | refine D_guardF rfl rfl rfl (fun hq => ?_) fun hq => ?_) <;> (try rw [hq]) <;> first | have hp := of_decide_eq_true hq | have hp := of_decide_eq_false hq | have hp := of_decide_eq_false (not_t hq) | have hp := of_decide_eq_true (not_f hq) | have hp := hq))
    · refine ⟨k + 1, by omega, by omega, ?_⟩
      simp only [pickN_no (p := useP s.net p true) (k := k) (by rw [useP, decide_eq_false_iff_not]; exact hp)]
      exact weakZ _
    · refine ⟨k + 1, by omega, by omega, ?_⟩
      simp only [pickN_yes (p := useP s.net p true) (k := k) (by rw [useP, decide_eq_true_eq]; exact hp), ints_snoc]
      exact weakZ _
    · exact ret_own rfl rfl (by rw [useL, show k = s.net.trs.length by omega])

def unuP (s : Stg) (k : Nat) : Bool := decide ((useL s.net (k : Int) false).length = 0) && decide ((useL s.net (k : Int) true).length = 0)
def unuL (s : Stg) : List Int := if goodStg s then pickN (unuP s) s.net.places.toNat else []

theorem l3Unused_f (s : Stg) (k : Nat) (hn : s.net.trs.length ≤ 24) : Fn Try.prog 98 [.agg (dStg s), .lit (.int .i64 k)] (.lit (.bool (unuP s k))) [] := by
  refine Fn_of Try.func98 rfl (by kernel_rfl) rfl rfl ?_
  intro w0 A hin
  have hz1 := len_ints (useL s.net (k : Int) false)
  have hz2 := len_ints (useL s.net (k : Int) true)
  repeat' (first | refine goZ ?_ | refine R_callZ rfl (l3Of_f s _ _ hn) rfl rfl rfl ?_ | refine R_callvZ rfl (l3Of_f s _ _ hn) rfl rfl rfl rfl ?_ | refine D_callZ rfl (l3Of_f s _ _ hn) rfl rfl rfl ?_ | ((first | refine R_cond rfl (fun hq => ?_) fun hq => ?_ | refine R_guardT rfl rfl rfl (fun hq => ?_) fun hq => ?_ | refine R_guardF rfl rfl rfl (fun hq => ?_) fun hq => ?_ | refine D_guardT rfl rfl rfl (fun hq => ?_) fun hq => ?_ | refine D_guardF rfl rfl rfl (fun hq => ?_) fun hq => ?_) <;> (try rw [hq]) <;> first | have hp := of_decide_eq_true hq | have hp := of_decide_eq_false hq | have hp := of_decide_eq_false (not_t hq) | have hp := of_decide_eq_true (not_f hq) | have hp := hq))
  all_goals exact ret_bool' rfl (by rw [unuP, Bool.eq_iff_iff]; simp only [Bool.and_eq_true, decide_eq_true_eq, Bool.false_eq_true, false_iff]; omega)

theorem UnusedPlaces_f (s : Stg) (hs : s.start.size ≤ 1048576) : Fn Try.prog 101 [.agg (dStg s)] (.tup [.own 0, .lit (.bool (goodStg s))]) [.arr 3 1 (ints (unuL s)) true] := by
  refine Fn_of Try.func101 rfl (by kernel_rfl) rfl rfl ?_
  intro w0 A hin
  have hV := IsValidSTG_f s hs
  cases hg : goodStg s <;> rw [hg] at hV
  · repeat' (first | refine goZ ?_ | refine R_callZ rfl (hV) rfl rfl rfl ?_ | refine R_callvZ rfl (hV) rfl rfl rfl rfl ?_ | refine D_callZ rfl (hV) rfl rfl rfl ?_ | ((first | refine R_cond rfl (fun hq => ?_) fun hq => ?_ | refine R_guardT rfl rfl rfl (fun hq => ?_) fun hq => ?_ | refine R_guardF rfl rfl rfl (fun hq => ?_) fun hq => ?_ | refine D_guardT rfl rfl rfl (fun hq => ?_) fun hq => ?_ | refine D_guardF rfl rfl rfl (fun hq => ?_) fun hq => ?_) <;> (try rw [hq]) <;> first | have hp := of_decide_eq_true hq | have hp := of_decide_eq_false hq | have hp := of_decide_eq_false (not_t hq) | have hp := of_decide_eq_true (not_f hq) | have hp := hq))
    exact ret_nil_lit rfl (by simp [unuL, hg, ints]) rfl
  · have hb := goodStg_len hg
    have hlen := pickN_len (unuP s)
    repeat' (first | refine goZ ?_ | refine R_callZ rfl (hV) rfl rfl rfl ?_ | refine R_callvZ rfl (hV) rfl rfl rfl rfl ?_ | refine D_callZ rfl (hV) rfl rfl rfl ?_ | ((first | refine R_cond rfl (fun hq => ?_) fun hq => ?_ | refine R_guardT rfl rfl rfl (fun hq => ?_) fun hq => ?_ | refine R_guardF rfl rfl rfl (fun hq => ?_) fun hq => ?_ | refine D_guardT rfl rfl rfl (fun hq => ?_) fun hq => ?_ | refine D_guardF rfl rfl rfl (fun hq => ?_) fun hq => ?_) <;> (try rw [hq]) <;> first | have hp := of_decide_eq_true hq | have hp := of_decide_eq_false hq | have hp := of_decide_eq_false (not_t hq) | have hp := of_decide_eq_true (not_f hq) | have hp := hq))
    refine W_loop (fun k : Nat => ⟨_, [(1, .ptr 0 0), (4, .own 1), (14, .lit (.int .i64 s.net.places)), (15, .lit (.int .i64 k))], [.cells 69 (dStg s), .arr 3 1 (ints (pickN (unuP s) k)) true]⟩) (fun k => (k : Int) ≤ s.net.places) (fun k => s.net.places.toNat - k) 0 (by omega) (weakZ []) ?_
    intro k hk
    have hk2 := hlen k
    have hz1 := len_ints (useL s.net (k : Int) false)
    have hz2 := len_ints (useL s.net (k : Int) true)
    have hl1 := pickN_len (useP s.net k false) s.net.trs.length
    have hl2 := pickN_len (useP s.net k true) s.net.trs.length
    rw [← useL] at hl1 hl2
    repeat' (first | refine goZ ?_ | refine R_callZ rfl (users_f s.net k (by omega)) rfl rfl rfl ?_ | refine R_callvZ rfl (users_f s.net k (by omega)) rfl rfl rfl rfl ?_ | refine D_callZ rfl (users_f s.net k (by omega)) rfl rfl rfl ?_ | ((first | refine R_cond rfl (fun hq => ?_) fun hq => ?_ | refine R_guardT rfl rfl rfl (fun hq => ?_) fun hq => ?_ | refine R_guardF rfl rfl rfl (fun hq => ?_) fun hq => ?_ | refine D_guardT rfl rfl rfl (fun hq => ?_) fun hq => ?_ | refine D_guardF rfl rfl rfl (fun hq => ?_) fun hq => ?_) <;> (try rw [hq]) <;> first | have hp := of_decide_eq_true hq | have hp := of_decide_eq_false hq | have hp := of_decide_eq_false (not_t hq) | have hp := of_decide_eq_true (not_f hq) | have hp := hq))
    · refine ⟨k + 1, by omega, by omega, ?_⟩
      simp only [pickN_yes (p := unuP s) (k := k) (by rw [unuP, Bool.and_eq_true, decide_eq_true_eq, decide_eq_true_eq]; omega), ints_snoc]
      exact weakZ _
    · refine ⟨k + 1, by omega, by omega, ?_⟩
      simp only [pickN_no (p := unuP s) (k := k) (by rw [unuP, Bool.and_eq_false_iff, decide_eq_false_iff_not, decide_eq_false_iff_not]; omega)]
      exact weakZ _
    · exact ret_own_lit rfl rfl (by rw [unuL, hg, if_pos rfl, show k = s.net.places.toNat by omega]) rfl

theorem unuL_len (s : Stg) : (unuL s).length ≤ 40 := by
  unfold unuL
  split
  · rename_i h
    have := goodStg_len h; have := pickN_len (unuP s) s.net.places.toNat
    omega
  · simp

end Go.Proofs.Ytcbfpeplcbgpjaa
namespace Go.Proofs.Ytcbfpeplcbgpjaa
open Go.ChangeShapes Go.WideShapes Go.ChangeAt Go.RowKit

/-- A list changed up to i. -/
def upR {α : Type} (f : α → α) (l : List α) (i : Nat) : List α := (l.take i).map f ++ l.drop i
theorem upR_len {α : Type} (f : α → α) (l : List α) (i : Nat) : (upR f l i).length = l.length := by simp [upR]; omega
theorem upR_nth {α : Type} [Inhabited α] {f : α → α} {l : List α} {i : Nat} (h : i < l.length) : nth (upR f l i) i = nth l i := by
  rw [nth_get (by rw [upR_len]; exact h), nth_get h]
  simp only [upR]
  rw [List.getElem_append_right (by simp; omega)]
  simp
  congr 1; omega
theorem upR_step {α : Type} [Inhabited α] {f : α → α} {l : List α} {i : Nat} (h : i < l.length) {y : α} (e : y = f (nth l i)) : (upR f l i).set i y = upR f l (i + 1) := by
  subst e
  simp only [upR]
  rw [take_nth h, drop_nth h, List.map_append, List.append_assoc, List.set_append_right _ _ (by simp; omega)]
  congr 1
  simp [show i - min i l.length = 0 by omega]
theorem upR_same {α : Type} [Inhabited α] {f : α → α} {l : List α} {i : Nat} (h : i < l.length) (e : f (nth l i) = nth l i) : upR f l (i + 1) = upR f l i := by
  simp only [upR]
  rw [take_nth h, drop_nth h, List.map_append, List.append_assoc]
  simp [e]
theorem upR_zero {α : Type} (f : α → α) (l : List α) : upR f l 0 = l := by simp [upR]
theorem upR_all {α : Type} (f : α → α) (l : List α) : upR f l l.length = l.map f := by simp [upR]
def lessI (p x : Int) : Int := if p < x then x - 1 else x
def lessT (p : Int) (t : Tr) : Tr := ⟨t.pre.map (lessI p), t.post.map (lessI p)⟩
noncomputable def rmB (s : Stg) (p : Int) : Bool := goodStg s && (decide (p ∈ unuL s) && decide (2 ≤ s.net.places))
def rmS (s : Stg) (p : Int) : Stg := ⟨⟨s.net.places - 1, s.net.trs.map (lessT p)⟩, s.signals, s.labels, s.start.extract 0 p.toNat ++ s.start.extract (p + 1).toNat s.start.size⟩
noncomputable def rmR (s : Stg) (p : Int) : Stg := if rmB s p then rmS s p else noStg
theorem rmR_no {s : Stg} {p : Int} (h : rmB s p = false) : rmR s p = noStg := by simp [rmR, h]
theorem rmR_yes {s : Stg} {p : Int} (h : rmB s p = true) : rmR s p = rmS s p := by simp [rmR, h]
theorem unu_mem {s : Stg} (hg : goodStg s = true) (p : Int) : p ∈ unuL s ↔ (0 ≤ p ∧ p < s.net.places) ∧ unuP s p.toNat = true := by
  have hl := goodStg_len hg
  have key : ∀ n : Nat, p ∈ pickN (unuP s) n ↔ (0 ≤ p ∧ p < n) ∧ unuP s p.toNat = true := by
    intro n
    simp only [pickN, List.mem_map, List.mem_filter, List.mem_range]
    constructor
    · rintro ⟨i, ⟨h1, h2⟩, rfl⟩
      exact ⟨⟨by omega, by omega⟩, by simpa using h2⟩
    · rintro ⟨⟨h1, h2⟩, h3⟩
      exact ⟨p.toNat, ⟨by omega, h3⟩, by omega⟩
  rw [unuL, if_pos hg, key]
  have : ((s.net.places.toNat : Nat) : Int) = s.net.places := by omega
  rw [this]
end Go.Proofs.Ytcbfpeplcbgpjaa
namespace Go.Proofs.Ytcbfpeplcbgpjaa
open Go.ChangeShapes Go.WideShapes Go.ChangeAt Go.RowKit

def lessL (p : Int) (l : List Int) : List Int := l.map (lessI p)
theorem lessL_up {p : Int} {l : List Int} {k : Nat} (h : k < l.length) (hp : p < nth l k) : ints (lessL p (l.take (k + 1))) = ints (lessL p (l.take k)) ++ [[.lit (.int .i64 (nth l k - 1))]] := by
  rw [take_nth h]; simp [lessL, ints, lessI, hp]
theorem lessL_no {p : Int} {l : List Int} {k : Nat} (h : k < l.length) (hp : ¬ p < nth l k) : ints (lessL p (l.take (k + 1))) = ints (lessL p (l.take k)) ++ [[.lit (.int .i64 (nth l k))]] := by
  rw [take_nth h]; simp [lessL, ints, lessI, hp]
theorem l3Less_f (l : List Int) (p : Int) (hl : l.length ≤ 4000000) (h1 : ∀ x ∈ l, -1000000 ≤ x ∧ x ≤ 1000000) : Fn Try.prog 100 [.sh 1 (ints l), .lit (.int .i64 p)] (.own 0) [.arr 3 1 (ints (l.map (lessI p))) true] := by
  refine Fn_of Try.func100 rfl (by kernel_rfl) rfl rfl ?_
  intro w0 A hin
  have hz := len_ints l
  repeat' (first | refine goZ ?_ | ((first | refine R_cond rfl (fun hq => ?_) fun hq => ?_ | refine R_guardT rfl rfl rfl (fun hq => ?_) fun hq => ?_ | refine R_guardF rfl rfl rfl (fun hq => ?_) fun hq => ?_ | refine D_guardT rfl rfl rfl (fun hq => ?_) fun hq => ?_ | refine D_guardF rfl rfl rfl (fun hq => ?_) fun hq => ?_) <;> (try rw [hq]) <;> first | have hp := of_decide_eq_true hq | have hp := of_decide_eq_false hq | have hp := of_decide_eq_false (not_t hq) | have hp := of_decide_eq_true (not_f hq) | have hp := hq))
  refine W_open 5 3 1 rfl ?_
  refine W_loop (fun k : Nat => ⟨_, [(1, .lit (.int .i64 p)), (5, .own 0), (8, .sh 1 (ints l)), (9, .lit (.int .i64 l.length)), (10, .lit (.int .i64 k))], [.arr 3 1 (ints (lessL p (l.take k))) true]⟩) (fun k => k ≤ l.length) (fun k => l.length - k) 0 (Nat.zero_le _) (weakZ []) ?_
  intro k hk
  have hb : k < l.length → -1000000 ≤ nth l k ∧ nth l k ≤ 1000000 := fun h => h1 _ (nth_mem h)
  have hl2 : (lessL p (l.take k)).length ≤ k := by simp [lessL]; omega
  repeat' (first | refine goZ ?_ | ((first | refine R_cond rfl (fun hq => ?_) fun hq => ?_ | refine R_guardT rfl rfl rfl (fun hq => ?_) fun hq => ?_ | refine R_guardF rfl rfl rfl (fun hq => ?_) fun hq => ?_ | refine D_guardT rfl rfl rfl (fun hq => ?_) fun hq => ?_ | refine D_guardF rfl rfl rfl (fun hq => ?_) fun hq => ?_) <;> (try rw [hq]) <;> first | have hp := of_decide_eq_true hq | have hp := of_decide_eq_false hq | have hp := of_decide_eq_false (not_t hq) | have hp := of_decide_eq_true (not_f hq) | have hp := hq))
  · refine ⟨k + 1, by omega, by omega, ?_⟩
    rw [lessL_up (by omega) (by omega)]
    exact weakZ _
  · refine ⟨k + 1, by omega, by omega, ?_⟩
    rw [lessL_no (by omega) (by omega)]
    exact weakZ _
  · exact ret_own rfl rfl (by rw [List.take_of_length_le (by omega)]; rfl)
end Go.Proofs.Ytcbfpeplcbgpjaa
