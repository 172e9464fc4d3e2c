/- The union of two nets: what the reference's and the program's functions hand back. No condition. The union of two nets: the program's function. No condition. The union of two nets: what the reference's and the program's functions hand back. No condition. -/
import Derived.Test.YtcbfpeplcbgpjaaUniB
import Derived.Test.YtcbfpeplcbgpjaaIf
import Derived.Test.YtcbfpeplcbgpjaaAbsY
import Derived.Test.YtcbfpeplcbgpjaaNum
import Derived.Test.YtcbfpeplcbgpjaaMarkStg
set_option linter.unusedSimpArgs false
set_option linter.unusedVariables false
set_option maxHeartbeats 2000000
namespace Go.Proofs.Ytcbfpeplcbgpjaa
open Go.ChangeShapes Go.WideShapes Go.ChangeAt Go.RowKit

theorem risingFrom_mem {lo hi : Int} : ∀ {l : List Int} {p : Option Int}, risingFrom lo hi p l = true → ∀ x ∈ l, lo ≤ x ∧ x ≤ hi
  | [], _, _, x, h => by cases h
  | a :: l, p, h, x, hx => by
    cases p <;> simp only [risingFrom, Bool.and_eq_true, decide_eq_true_eq] at h <;> rcases List.mem_cons.1 hx with rfl | hx
    all_goals first | omega | exact risingFrom_mem h.2 x hx
theorem good_mem {c : NetD} (h : goodNet c = true) {t : Tr} (ht : t ∈ c.trs) : (∀ x ∈ t.pre, 0 ≤ x ∧ x ≤ 30) ∧ ∀ x ∈ t.post, 0 ≤ x ∧ x ≤ 30 := by
  simp only [goodNet, Bool.and_eq_true, decide_eq_true_eq, Bool.not_eq_true', List.any_eq_false] at h
  have hb := h.2 t ht
  simp only [badTr, Bool.not_eq_true, Bool.or_eq_false_iff, Bool.not_eq_false'] at hb
  have h1 := risingFrom_mem hb.1.2; have h2 := risingFrom_mem hb.2
  exact ⟨fun x hx => by have := h1 x hx; omega, fun x hx => by have := h2 x hx; omega⟩

def shTr (by_ : Int) (t : Tr) : Tr := ⟨shiftI by_ t.pre, shiftI by_ t.post⟩
def uniT (a b : NetD) (i j : Nat) : List Tr := (a.trs.take i).map (shTr 0) ++ (b.trs.take j).map (shTr a.places)
def uniN (a b : NetD) : NetD := ⟨a.places + b.places, uniT a b a.trs.length b.trs.length⟩
noncomputable def uniR (a b : NetD) : NetD := if (goodNet a && goodNet b) && goodNet (uniN a b) then uniN a b else ⟨0, []⟩
theorem shTr_0 (t : Tr) : shTr 0 t = t := by simp [shTr, shiftI]
/-- What the contracts ask of a net. -/
structure NetOk (c : NetD) : Prop where
  places : 0 ≤ c.places ∧ c.places ≤ 100
  len : c.trs.length ≤ 24
  row : ∀ t ∈ c.trs, (t.pre.length ≤ 1048576 ∧ t.post.length ≤ 1048576) ∧ (∀ x ∈ t.pre, -1000000 ≤ x ∧ x ≤ 1000000) ∧ ∀ x ∈ t.post, -1000000 ≤ x ∧ x ≤ 1000000
theorem NetOk.of (c : NetD) (h : goodNet c = true) (hz : szNetD c ≤ 1048576) : NetOk c := by
  have h' := h
  simp only [goodNet, Bool.and_eq_true, decide_eq_true_eq] at h'
  refine ⟨by omega, h'.1.2, fun t ht => ?_⟩
  have h1 := good_mem h ht; have h2 := le_cnt ht
  rw [show szNetD c = c.trs.length + cntTrs c.trs from rfl] at hz
  exact ⟨by omega, fun x hx => by have := h1.1 x hx; omega, fun x hx => by have := h1.2 x hx; omega⟩
theorem uniT_left {a b : NetD} {i : Nat} (h : i < a.trs.length) : (uniT a b (i + 1) 0).map dTr = (uniT a b i 0).map dTr ++ [[.sh 1 (ints (shiftI 0 (nth a.trs i).pre)), .sh 1 (ints (shiftI 0 (nth a.trs i).post))]] := by
  simp only [uniT]; rw [take_nth h]; simp [shTr, dTr]
theorem uniT_right {a b : NetD} {i j : Nat} (h : j < b.trs.length) : (uniT a b i (j + 1)).map dTr = (uniT a b i j).map dTr ++ [[.sh 1 (ints (shiftI a.places (nth b.trs j).pre)), .sh 1 (ints (shiftI a.places (nth b.trs j).post))]] := by
  simp only [uniT]; rw [take_nth h]; simp [shTr, dTr]
end Go.Proofs.Ytcbfpeplcbgpjaa
namespace Go.Proofs.Ytcbfpeplcbgpjaa
open Go.ChangeShapes Go.WideShapes Go.ChangeAt Go.RowKit

set_option maxHeartbeats 4000000 in
theorem unionNets_f (a b : NetD) (ha : NetOk a) (hb : NetOk b) : Fn Try.prog 88 [.agg (dNetD a), .agg (dNetD b)] (.agg [.lit (.int .i64 (uniN a b).places), .own 0]) [.arr 88 2 ((uniN a b).trs.map dTr) true] := by
  refine Fn_ofC tabOk Try.func88 rfl (by kernel_rfl) rfl rfl ?_
  intro w0 A hin
  have hz1 := len_dTr a.trs; have hz2 := len_dTr b.trs
  have hpa := ha.places; have hpb := hb.places; have hla := ha.len; have hlb := hb.len
  repeat' (first | refine goZ ?_ | ((first | refine R_cond rfl (fun hq => ?_) fun hq => ?_ | refine R_guardT rfl rfl rfl (fun hq => ?_) fun hq => ?_ | refine R_guardF rfl rfl rfl (fun hq => ?_) fun hq => ?_ | refine D_guardT rfl rfl rfl (fun hq => ?_) fun hq => ?_ | refine D_guardF rfl rfl rfl (fun hq => ?_) fun hq => ?_) <;> (try rw [hq]) <;> first | have hp := of_decide_eq_true hq | have hp := of_decide_eq_false hq | have hp := of_decide_eq_false (not_t hq) | have hp := of_decide_eq_true (not_f hq) | have hp := hq))
  refine W_openC 3 1 88 2 rfl rfl (by exact rfl) ?_
  refine W_loop (fun k : Nat => ⟨_, [(2, .ptr 0 0), (3, .ptr 1 0), (4, .ptr 2 0), (5, .ptr 3 0), (17, .sh 2 (a.trs.map dTr)), (18, .lit (.int .i64 a.trs.length)), (19, .lit (.int .i64 k))], [.cells 30 (dNetD a), .cells 30 (dNetD b), .cells 30 [.lit (.int .i64 0), .nil], .cells 30 [.lit (.int .i64 (a.places + b.places)), .own 4], .arr 88 2 ((uniT a b k 0).map dTr) true]⟩) (fun k => k ≤ a.trs.length) (fun k => a.trs.length - k) 0 (Nat.zero_le _) (weakZ []) ?_
  intro k hk
  have hO : k < a.trs.length → _ := fun h => ha.row _ (nth_mem h)
  have hl2 : (uniT a b k 0).length ≤ k := by simp [uniT]; omega
  have h0 : (-1000000 : Int) ≤ 0 ∧ (0 : Int) ≤ 1000000 := by omega
  repeat' (first | refine goZ ?_ | refine goH ?_ | refine H_two (by exact rfl) (by exact rfl) (by exact rfl) (by exact rfl) (by exact rfl) ?_ ?_ | refine H_three (by exact rfl) (by exact rfl) (by exact rfl) (by exact rfl) (by exact rfl) (by exact rfl) (by exact rfl) ?_ ?_ ?_  | refine R_callZ rfl (moved_f (nth a.trs k).pre 0 (by have := (hO (by omega)).1; omega) (hO (by omega)).2.1 h0) rfl rfl rfl ?_ | refine R_callZ rfl (moved_f (nth a.trs k).post 0 (by have := (hO (by omega)).1; omega) (hO (by omega)).2.2 h0) rfl rfl rfl ?_ | refine R_callvZ rfl (moved_f (nth a.trs k).pre 0 (by have := (hO (by omega)).1; omega) (hO (by omega)).2.1 h0) rfl rfl rfl rfl ?_ | refine R_callvZ rfl (moved_f (nth a.trs k).post 0 (by have := (hO (by omega)).1; omega) (hO (by omega)).2.2 h0) rfl rfl rfl rfl ?_ | refine D_callZ rfl (moved_f (nth a.trs k).pre 0 (by have := (hO (by omega)).1; omega) (hO (by omega)).2.1 h0) rfl rfl rfl ?_ | refine D_callZ rfl (moved_f (nth a.trs k).post 0 (by have := (hO (by omega)).1; omega) (hO (by omega)).2.2 h0) rfl rfl rfl ?_ | ((first | refine R_cond rfl (fun hq => ?_) fun hq => ?_ | refine R_guardT rfl rfl rfl (fun hq => ?_) fun hq => ?_ | refine R_guardF rfl rfl rfl (fun hq => ?_) fun hq => ?_ | refine D_guardT rfl rfl rfl (fun hq => ?_) fun hq => ?_ | refine D_guardF rfl rfl rfl (fun hq => ?_) fun hq => ?_) <;> (try rw [hq]) <;> first | have hp := of_decide_eq_true hq | have hp := of_decide_eq_false hq | have hp := of_decide_eq_false (not_t hq) | have hp := of_decide_eq_true (not_f hq) | have hp := hq) | refine W_held mixed [] ?_)
  rotate_right
  · have ek : k = a.trs.length := by omega
    subst ek
    refine W_loop (fun j : Nat => ⟨_, [(2, .ptr 0 0), (3, .ptr 1 0), (4, .ptr 2 0), (5, .ptr 3 0), (37, .sh 2 (b.trs.map dTr)), (38, .lit (.int .i64 b.trs.length)), (39, .lit (.int .i64 j))], [.cells 30 (dNetD a), .cells 30 (dNetD b), .cells 30 [.lit (.int .i64 0), .nil], .cells 30 [.lit (.int .i64 (a.places + b.places)), .own 4], .arr 88 2 ((uniT a b a.trs.length j).map dTr) true]⟩) (fun j => j ≤ b.trs.length) (fun j => b.trs.length - j) 0 (Nat.zero_le _) (weakZ []) ?_
    intro j hj
    have hO2 : j < b.trs.length → _ := fun h => hb.row _ (nth_mem h)
    have hl3 : (uniT a b a.trs.length j).length ≤ 24 + j := by simp [uniT]; omega
    have h1 : (-1000000 : Int) ≤ a.places ∧ a.places ≤ 1000000 := by omega
    repeat' (first | refine goZ ?_ | refine goH ?_ | refine H_two (by exact rfl) (by exact rfl) (by exact rfl) (by exact rfl) (by exact rfl) ?_ ?_ | refine H_three (by exact rfl) (by exact rfl) (by exact rfl) (by exact rfl) (by exact rfl) (by exact rfl) (by exact rfl) ?_ ?_ ?_  | refine R_callZ rfl (moved_f (nth b.trs j).pre a.places (by have := (hO2 (by omega)).1; omega) (hO2 (by omega)).2.1 h1) rfl rfl rfl ?_ | refine R_callZ rfl (moved_f (nth b.trs j).post a.places (by have := (hO2 (by omega)).1; omega) (hO2 (by omega)).2.2 h1) rfl rfl rfl ?_ | refine R_callvZ rfl (moved_f (nth b.trs j).pre a.places (by have := (hO2 (by omega)).1; omega) (hO2 (by omega)).2.1 h1) rfl rfl rfl rfl ?_ | refine R_callvZ rfl (moved_f (nth b.trs j).post a.places (by have := (hO2 (by omega)).1; omega) (hO2 (by omega)).2.2 h1) rfl rfl rfl rfl ?_ | refine D_callZ rfl (moved_f (nth b.trs j).pre a.places (by have := (hO2 (by omega)).1; omega) (hO2 (by omega)).2.1 h1) rfl rfl rfl ?_ | refine D_callZ rfl (moved_f (nth b.trs j).post a.places (by have := (hO2 (by omega)).1; omega) (hO2 (by omega)).2.2 h1) rfl rfl rfl ?_ | ((first | refine R_cond rfl (fun hq => ?_) fun hq => ?_ | refine R_guardT rfl rfl rfl (fun hq => ?_) fun hq => ?_ | refine R_guardF rfl rfl rfl (fun hq => ?_) fun hq => ?_ | refine D_guardT rfl rfl rfl (fun hq => ?_) fun hq => ?_ | refine D_guardF rfl rfl rfl (fun hq => ?_) fun hq => ?_) <;> (try rw [hq]) <;> first | have hp := of_decide_eq_true hq | have hp := of_decide_eq_false hq | have hp := of_decide_eq_false (not_t hq) | have hp := of_decide_eq_true (not_f hq) | have hp := hq) | refine W_held mixed [(2, 0, .int .i64 a.places)] ?_ | refine H_pop tabOk 3 (by exact rfl) (by exact rfl) (by exact rfl) (by exact rfl) (by exact And.intro rfl trivial) (by exact rfl) (by exact rfl) (by exact rfl) (by exact rfl) (by exact trivial) ?_ | refine H_load tabOk 3 (by exact rfl) (by exact rfl) (by exact rfl) (by exact rfl) (by exact And.intro rfl trivial) (by exact rfl) (by exact rfl) (by exact rfl) (by exact rfl) ?_)
    rotate_right
    · have ej : j = b.trs.length := by omega
      subst ej
      first | exact .n (retC_ownA rfl rfl rfl rfl) | exact .r (retC_ownA rfl rfl rfl rfl) | exact retC_ownA rfl rfl rfl rfl
    all_goals
      refine ⟨j + 1, by omega, by omega, ?_⟩
      rw [uniT_right (by omega)]
      exact weakZ _
  all_goals
    refine ⟨k + 1, by omega, by omega, ?_⟩
    rw [uniT_left (by omega)]
    exact weakZ _
end Go.Proofs.Ytcbfpeplcbgpjaa
namespace Go.Proofs.Ytcbfpeplcbgpjaa
open Go.ChangeShapes Go.WideShapes Go.ChangeAt Go.RowKit

def uniB (a b : NetD) : Bool := (goodNet a && goodNet b) && goodNet (uniN a b)
theorem uniT_own (a b : NetD) : a.trs.map dTr = (uniT a b a.trs.length 0).map dTr := by
  simp only [uniT, List.take_length, List.take_zero, List.map_nil, List.append_nil]
  congr 1
  rw [show shTr 0 = id from funext shTr_0, List.map_id]

set_option maxHeartbeats 4000000 in
theorem specUnionNets_f (a b : NetD) (hsa : szNetD a ≤ 1048576) (hsb : szNetD b ≤ 1048576) : Fn Try.prog 84 [.agg (dNetD a), .agg (dNetD b)] (.tup [.agg [.lit (.int .i64 (uniR a b).places), .own 0], .lit (.bool (uniB a b))]) [.arr 88 2 ((uniR a b).trs.map dTr) true] := by
  refine Fn_ofC tabOk Try.func84 rfl (by kernel_rfl) rfl rfl ?_
  intro w0 A hin
  have hz1 := len_dTr a.trs; have hz2 := len_dTr b.trs
  have hgA := l1Good_f a; have hgB := l1Good_f b
  cases hga : goodNet a <;> rw [hga] at hgA
  · repeat' (first | refine goZ ?_ | refine R_callZ rfl (hgA) rfl rfl rfl ?_ | refine R_callvZ rfl (hgA) rfl rfl rfl rfl ?_ | refine D_callZ rfl (hgA) rfl rfl rfl ?_ | ((first | refine R_cond rfl (fun hq => ?_) fun hq => ?_ | refine R_guardT rfl rfl rfl (fun hq => ?_) fun hq => ?_ | refine R_guardF rfl rfl rfl (fun hq => ?_) fun hq => ?_ | refine D_guardT rfl rfl rfl (fun hq => ?_) fun hq => ?_ | refine D_guardF rfl rfl rfl (fun hq => ?_) fun hq => ?_) <;> (try rw [hq]) <;> first | have hp := of_decide_eq_true hq | have hp := of_decide_eq_false hq | have hp := of_decide_eq_false (not_t hq) | have hp := of_decide_eq_true (not_f hq) | have hp := hq))
    exact .r (retC_nil rfl (by simp [uniR, hga]) (by simp [uniR, hga]) (by simp [uniB, hga]))
  cases hgb : goodNet b <;> rw [hgb] at hgB
  · repeat' (first | refine goZ ?_ | refine R_callZ rfl (hgA) rfl rfl rfl ?_ | refine R_callZ rfl (hgB) rfl rfl rfl ?_ | refine R_callvZ rfl (hgA) rfl rfl rfl rfl ?_ | refine R_callvZ rfl (hgB) rfl rfl rfl rfl ?_ | refine D_callZ rfl (hgA) rfl rfl rfl ?_ | refine D_callZ rfl (hgB) rfl rfl rfl ?_ | ((first | refine R_cond rfl (fun hq => ?_) fun hq => ?_ | refine R_guardT rfl rfl rfl (fun hq => ?_) fun hq => ?_ | refine R_guardF rfl rfl rfl (fun hq => ?_) fun hq => ?_ | refine D_guardT rfl rfl rfl (fun hq => ?_) fun hq => ?_ | refine D_guardF rfl rfl rfl (fun hq => ?_) fun hq => ?_) <;> (try rw [hq]) <;> first | have hp := of_decide_eq_true hq | have hp := of_decide_eq_false hq | have hp := of_decide_eq_false (not_t hq) | have hp := of_decide_eq_true (not_f hq) | have hp := hq))
    exact .r (retC_nil rfl (by simp [uniR, hgb]) (by simp [uniR, hgb]) (by simp [uniB, hgb]))
  have ha := NetOk.of a hga hsa; have hb := NetOk.of b hgb hsb
  have hpa := ha.places; have hpb := hb.places; have hla := ha.len; have hlb := hb.len
  repeat' (first | refine goZ ?_ | refine R_callZ rfl (hgA) rfl rfl rfl ?_ | refine R_callZ rfl (hgB) rfl rfl rfl ?_ | refine R_callZ rfl (l1OwnN_f a (by omega) (fun t ht => (ha.row t ht).1)) rfl rfl rfl ?_ | refine R_callvZ rfl (hgA) rfl rfl rfl rfl ?_ | refine R_callvZ rfl (hgB) rfl rfl rfl rfl ?_ | refine R_callvZ rfl (l1OwnN_f a (by omega) (fun t ht => (ha.row t ht).1)) rfl rfl rfl rfl ?_ | refine D_callZ rfl (hgA) rfl rfl rfl ?_ | refine D_callZ rfl (hgB) rfl rfl rfl ?_ | refine D_callZ rfl (l1OwnN_f a (by omega) (fun t ht => (ha.row t ht).1)) rfl rfl rfl ?_ | ((first | refine R_cond rfl (fun hq => ?_) fun hq => ?_ | refine R_guardT rfl rfl rfl (fun hq => ?_) fun hq => ?_ | refine R_guardF rfl rfl rfl (fun hq => ?_) fun hq => ?_ | refine D_guardT rfl rfl rfl (fun hq => ?_) fun hq => ?_ | refine D_guardF rfl rfl rfl (fun hq => ?_) fun hq => ?_) <;> (try rw [hq]) <;> first | have hp := of_decide_eq_true hq | have hp := of_decide_eq_false hq | have hp := of_decide_eq_false (not_t hq) | have hp := of_decide_eq_true (not_f hq) | have hp := hq))
  refine W_loop (fun j : Nat => ⟨_, [(2, .ptr 0 0), (3, .ptr 1 0), (4, .ptr 2 0), (6, .ptr 4 0), (27, .sh 2 (b.trs.map dTr)), (28, .lit (.int .i64 b.trs.length)), (29, .lit (.int .i64 j))], [.cells 30 (dNetD a), .cells 30 (dNetD b), .cells 30 [.lit (.int .i64 0), .nil], .arr 88 2 ((uniT a b a.trs.length j).map dTr) true, .cells 30 [.lit (.int .i64 (a.places + b.places)), .own 3]]⟩) (fun j => j ≤ b.trs.length) (fun j => b.trs.length - j) 0 (Nat.zero_le _) (by rw [uniT_own a b]; exact weakZ []) ?_
  intro j hj
  have hO2 : j < b.trs.length → _ := fun h => hb.row _ (nth_mem h)
  have hl3 : (uniT a b a.trs.length j).length ≤ 24 + j := by simp [uniT]; omega
  have h1 : (-1000000 : Int) ≤ a.places ∧ a.places ≤ 1000000 := by omega
  repeat' (first | refine goZ ?_ | refine goH ?_ | refine H_two (by exact rfl) (by exact rfl) (by exact rfl) (by exact rfl) (by exact rfl) ?_ ?_ | refine H_three (by exact rfl) (by exact rfl) (by exact rfl) (by exact rfl) (by exact rfl) (by exact rfl) (by exact rfl) ?_ ?_ ?_  | refine R_callZ rfl (l1Shift_f (nth b.trs j).pre a.places (by have := (hO2 (by omega)).1; omega) (hO2 (by omega)).2.1 h1) rfl rfl rfl ?_ | refine R_callZ rfl (l1Shift_f (nth b.trs j).post a.places (by have := (hO2 (by omega)).1; omega) (hO2 (by omega)).2.2 h1) rfl rfl rfl ?_ | refine R_callvZ rfl (l1Shift_f (nth b.trs j).pre a.places (by have := (hO2 (by omega)).1; omega) (hO2 (by omega)).2.1 h1) rfl rfl rfl rfl ?_ | refine R_callvZ rfl (l1Shift_f (nth b.trs j).post a.places (by have := (hO2 (by omega)).1; omega) (hO2 (by omega)).2.2 h1) rfl rfl rfl rfl ?_ | refine D_callZ rfl (l1Shift_f (nth b.trs j).pre a.places (by have := (hO2 (by omega)).1; omega) (hO2 (by omega)).2.1 h1) rfl rfl rfl ?_ | refine D_callZ rfl (l1Shift_f (nth b.trs j).post a.places (by have := (hO2 (by omega)).1; omega) (hO2 (by omega)).2.2 h1) rfl rfl rfl ?_ | ((first | refine R_cond rfl (fun hq => ?_) fun hq => ?_ | refine R_guardT rfl rfl rfl (fun hq => ?_) fun hq => ?_ | refine R_guardF rfl rfl rfl (fun hq => ?_) fun hq => ?_ | refine D_guardT rfl rfl rfl (fun hq => ?_) fun hq => ?_ | refine D_guardF rfl rfl rfl (fun hq => ?_) fun hq => ?_) <;> (try rw [hq]) <;> first | have hp := of_decide_eq_true hq | have hp := of_decide_eq_false hq | have hp := of_decide_eq_false (not_t hq) | have hp := of_decide_eq_true (not_f hq) | have hp := hq) | refine W_held mixed [(2, 0, .int .i64 a.places)] ?_ | refine H_pop tabOk 3 (by exact rfl) (by exact rfl) (by exact rfl) (by exact rfl) (by exact And.intro rfl trivial) (by exact rfl) (by exact rfl) (by exact rfl) (by exact rfl) (by exact trivial) ?_ | refine H_load tabOk 3 (by exact rfl) (by exact rfl) (by exact rfl) (by exact rfl) (by exact And.intro rfl trivial) (by exact rfl) (by exact rfl) (by exact rfl) (by exact rfl) ?_)
  rotate_right
  · have ej : j = b.trs.length := by omega
    subst ej
    have hgood2 := l1Good_f (uniN a b)
    generalize hg2 : goodNet (uniN a b) = g2 at hgood2 ⊢
    repeat' (first | refine goZ ?_ | refine R_callZ rfl (hgood2) rfl rfl rfl ?_ | refine R_callvZ rfl (hgood2) rfl rfl rfl rfl ?_ | refine D_callZ rfl (hgood2) rfl rfl rfl ?_ | ((first | refine R_cond rfl (fun hq => ?_) fun hq => ?_ | refine R_guardT rfl rfl rfl (fun hq => ?_) fun hq => ?_ | refine R_guardF rfl rfl rfl (fun hq => ?_) fun hq => ?_ | refine D_guardT rfl rfl rfl (fun hq => ?_) fun hq => ?_ | refine D_guardF rfl rfl rfl (fun hq => ?_) fun hq => ?_) <;> (try rw [hq]) <;> first | have hp := of_decide_eq_true hq | have hp := of_decide_eq_false hq | have hp := of_decide_eq_false (not_t hq) | have hp := of_decide_eq_true (not_f hq) | have hp := hq))
    · have hg0 := not_t hp
      subst hg0
      exact .r (retC_nil rfl (by simp [uniR, hg2]) (by simp [uniR, hg2]) (by simp [uniB, hg2]))
    · have hg0 := not_f hp
      subst hg0
      have hr : uniR a b = uniN a b := by simp [uniR, hga, hgb, hg2]
      exact .r (retC_own rfl rfl (by rw [hr]; rfl) (by rw [hr]; rfl) (by simp [uniB, hga, hgb, hg2]))
  all_goals
    refine ⟨j + 1, by omega, by omega, ?_⟩
    rw [uniT_right (by omega)]
    exact weakZ _

theorem cnt_append (l l' : List Tr) : cntTrs (l ++ l') = cntTrs l + cntTrs l' := by simp [cntTrs]
theorem cnt_shift (y : Int) (l : List Tr) : cntTrs (l.map (shTr y)) = cntTrs l := by
  induction l with
  | nil => rfl
  | cons t l ih =>
    simp only [cntTrs, List.map_cons, List.sum_cons, shTr, shiftI, List.length_map] at ih ⊢
    omega
theorem uniR_le (a b : NetD) : ((uniR a b).trs.length + cntTrs (uniR a b).trs ≤ szNetD a + szNetD b ∧ (uniR a b).trs.length ≤ 24) ∧ -9223372036854775808 ≤ (uniR a b).places ∧ (uniR a b).places ≤ 9223372036854775807 := by
  have h0 : (uniN a b).trs.length + cntTrs (uniN a b).trs = szNetD a + szNetD b := by
    have ea : szNetD a = a.trs.length + cntTrs a.trs := rfl
    have eb : szNetD b = b.trs.length + cntTrs b.trs := rfl
    simp only [uniN, uniT, List.take_length, cnt_append, cnt_shift, List.length_append, List.length_map]
    omega
  have h1 : goodNet (uniN a b) = true → (1 ≤ (uniN a b).places ∧ (uniN a b).places ≤ 30) ∧ (uniN a b).trs.length ≤ 24 := fun h => by
    simp only [goodNet, Bool.and_eq_true, decide_eq_true_eq] at h
    exact ⟨h.1.1, h.1.2⟩
  unfold uniR
  split
  · rename_i h
    simp only [Bool.and_eq_true] at h
    have := h1 h.2
    omega
  · simp [cntTrs]
end Go.Proofs.Ytcbfpeplcbgpjaa
