/- The labels of the arcs that cross a set's border: what the program's and the reference's functions hand back. No condition. -/
import Derived.Test.YtcmedjlpaondjaaSrt
import Derived.Test.YtcmedjlpaondjaaCpt
import Derived.Test.YtcmedjlpaondjaaPutL
import Derived.Test.YtcmedjlpaondjaaRet
set_option linter.unusedSimpArgs false
set_option linter.unusedVariables false
set_option maxHeartbeats 2000000
namespace Go.Proofs.Ytcmedjlpaondjaa
open Go.ChangeShapes Go.WideShapes Go.ChangeAt Go.RowKit

/-! ### The plain part -/
def brP (set : List Int) (out : Bool) (a : ArcD) : Bool := if out then decide (a.src ∈ set) && !decide (a.dst ∈ set) else !decide (a.src ∈ set) && decide (a.dst ∈ set)
def labA (a : ArcD) : Lab := ⟨a.sig, a.up⟩
def brF (l : List ArcD) (p : ArcD → Bool) : List Lab := (l.filter p).map labA
def brL (l : List ArcD) (p : ArcD → Bool) : List Lab := (l.filter p).foldl (fun r a => putLb r (labA a)) []
theorem brF_len (l : List ArcD) (p : ArcD → Bool) : (brF l p).length ≤ l.length := by
  unfold brF; rw [List.length_map]; exact List.length_filter_le _ _
theorem brF_yes {l : List ArcD} {p : ArcD → Bool} {k : Nat} (hk : k < l.length) (h : p (nth l k) = true) : brF (l.take (k + 1)) p = brF (l.take k) p ++ [labA (nth l k)] := by
  unfold brF; rw [fil_yes hk h, List.map_append]; rfl
theorem brF_no {l : List ArcD} {p : ArcD → Bool} {k : Nat} (hk : k < l.length) (h : p (nth l k) = false) : brF (l.take (k + 1)) p = brF (l.take k) p := by
  unfold brF; rw [fil_no hk h]
theorem brL_yes {l : List ArcD} {p : ArcD → Bool} {k : Nat} (hk : k < l.length) (h : p (nth l k) = true) : brL (l.take (k + 1)) p = putLb (brL (l.take k) p) (labA (nth l k)) := by
  unfold brL; rw [fil_yes hk h, List.foldl_append]; rfl
theorem brL_no {l : List ArcD} {p : ArcD → Bool} {k : Nat} (hk : k < l.length) (h : p (nth l k) = false) : brL (l.take (k + 1)) p = brL (l.take k) p := by
  unfold brL; rw [fil_no hk h]
theorem putL_fold : ∀ (l : List ArcD) (r : List Lab), IncL r → IncL (l.foldl (fun r a => putLb r (labA a)) r) ∧ (∀ x, x ∈ l.foldl (fun r a => putLb r (labA a)) r ↔ x ∈ r ∨ ∃ a ∈ l, labA a = x) ∧ (l.foldl (fun r a => putLb r (labA a)) r).length ≤ r.length + l.length
  | [], r, h => ⟨h, fun x => by simp, by simp⟩
  | a :: l, r, h => by
    obtain ⟨h1, h2, h3⟩ := putL_fold l (putLb r (labA a)) (putLb_inc h)
    have := putLb_len r (labA a)
    refine ⟨h1, fun x => ?_, by simp only [List.foldl_cons, List.length_cons]; omega⟩
    rw [List.foldl_cons, h2, putLb_mem]
    constructor
    · rintro ((rfl | h) | ⟨b, hb, rfl⟩)
      · exact Or.inr ⟨a, by simp, rfl⟩
      · exact Or.inl h
      · exact Or.inr ⟨b, by simp [hb], rfl⟩
    · rintro (h | ⟨b, hb, rfl⟩)
      · exact Or.inl (Or.inr h)
      · rcases List.mem_cons.1 hb with rfl | hb
        · exact Or.inl (Or.inl rfl)
        · exact Or.inr ⟨b, hb, rfl⟩
theorem incL_nil : IncL [] := by simp [IncL, Inc]
theorem brL_inc (l : List ArcD) (p : ArcD → Bool) : IncL (brL l p) := (putL_fold (l.filter p) [] incL_nil).1
theorem brL_len (l : List ArcD) (p : ArcD → Bool) : (brL l p).length ≤ l.length := by
  have := (putL_fold (l.filter p) [] incL_nil).2.2
  have := List.length_filter_le p l
  unfold brL; simp at *; omega
theorem brL_mem {l : List ArcD} {p : ArcD → Bool} {x : Lab} : x ∈ brL l p ↔ x ∈ brF l p := by
  unfold brL brF
  rw [(putL_fold (l.filter p) [] incL_nil).2.1]
  simp
theorem dd_sorted {l : List Lab} (h : ∀ i j : Nat, i ≤ j → j < l.length → keyL (nth l i) ≤ keyL (nth l j)) : ∀ k, k ≤ l.length → IncL (ddN l k) ∧ ∀ x, x ∈ ddN l k ↔ ∃ j, j < k ∧ nth l j = x
  | 0, _ => ⟨incL_nil, fun x => by simp [ddN]⟩
  | k + 1, hk => by
    obtain ⟨h1, h2⟩ := dd_sorted h k (by omega)
    simp only [ddN]
    split
    · rename_i hne
      refine ⟨?_, fun x => ?_⟩
      · unfold IncL Inc
        rw [List.map_append, List.pairwise_append]
        refine ⟨h1, by simp, fun y hy z hz => ?_⟩
        obtain ⟨u, hu, rfl⟩ := List.mem_map.1 hy
        obtain ⟨j, hj, rfl⟩ := (h2 u).1 hu
        simp only [List.map_cons, List.map_nil, List.mem_singleton] at hz
        subst hz
        have h3 := h j (k - 1) (by omega) (by omega)
        have h4 := h (k - 1) k (by omega) (by omega)
        have h5 : keyL (nth l k) ≠ keyL (nth l (k - 1)) := fun e => by
          rcases hne with h0 | h0
          · omega
          · exact h0 (keyL_inj e)
        omega
      · rw [List.mem_append, h2, List.mem_singleton]
        constructor
        · rintro (⟨j, hj, rfl⟩ | rfl)
          · exact ⟨j, by omega, rfl⟩
          · exact ⟨k, by omega, rfl⟩
        · rintro ⟨j, hj, rfl⟩
          by_cases e : j = k
          · subst e; exact Or.inr rfl
          · exact Or.inl ⟨j, by omega, rfl⟩
    · rename_i hne
      have hk0 : k ≠ 0 := fun e => hne (Or.inl e)
      have he : nth l k = nth l (k - 1) := Classical.not_not.1 fun e => hne (Or.inr e)
      refine ⟨h1, fun x => ?_⟩
      rw [h2]
      constructor
      · rintro ⟨j, hj, rfl⟩; exact ⟨j, by omega, rfl⟩
      · rintro ⟨j, hj, rfl⟩
        by_cases e : j = k
        · subst e; exact ⟨j - 1, by omega, he.symm⟩
        · exact ⟨j, by omega, rfl⟩
theorem ddL_srt (l : List Lab) : IncL (ddL (srtL l)) ∧ ∀ x, x ∈ ddL (srtL l) ↔ x ∈ l := by
  have hs : ∀ i j : Nat, i ≤ j → j < (srtL l).length → keyL (nth (srtL l) i) ≤ keyL (nth (srtL l) j) := by
    intro i j hij hj
    rw [nth_get (by omega), nth_get hj]
    by_cases e : i = j
    · subst e; exact Int.le_refl _
    · exact List.pairwise_iff_getElem.1 (srtL_sorted l) i j (by omega) hj (by omega)
  obtain ⟨h1, h2⟩ := dd_sorted hs (srtL l).length (Nat.le_refl _)
  refine ⟨h1, fun x => ?_⟩
  unfold ddL
  rw [h2, ← (srtL_perm l).mem_iff]
  constructor
  · rintro ⟨j, hj, rfl⟩; exact nth_mem hj
  · intro hx
    obtain ⟨j, hj, rfl⟩ := List.getElem_of_mem hx
    exact ⟨j, hj, nth_get hj⟩
theorem brd_eq (l : List ArcD) (p : ArcD → Bool) : ddL (srtL (brF l p)) = brL l p := by
  obtain ⟨h1, h2⟩ := ddL_srt (brF l p)
  exact incL_ext h1 (brL_inc l p) fun x => by rw [h2, brL_mem]
noncomputable def setQ (c : SGraph) (set : List Int) : Bool := goodSG c && decide (rising 0 ((c.codes.length : Int) - 1) set)
noncomputable def brdR (c : SGraph) (set : List Int) (out : Bool) : List Lab := if setQ c set then brL c.arcs (brP set out) else []
theorem brdR_len (c : SGraph) (set : List Int) (out : Bool) : (brdR c set out).length ≤ 4000 := by
  unfold brdR
  split
  · rename_i h
    simp only [setQ, Bool.and_eq_true] at h
    have := brL_len c.arcs (brP set out)
    have := goodSG_len h.1
    omega
  · simp

/-! ### The walks -/
theorem l10Set_f (c : SGraph) (set : List Int) : Fn Try.prog 49 [.agg (dSGraph c), .sh 1 (ints set)] (.lit (.bool (setQ c set))) [] := by
  refine Fn_of Try.func49 rfl (by kernel_rfl) rfl rfl ?_
  intro w0 A hin
  have hzs := len_strs c.codes
  have hV := l5Good_f c
  cases hg : goodSG c <;> rw [hg] at hV
  · repeat' (first | refine goZ ?_ | refine R_callZ rfl (hV) rfl rfl rfl ?_ | refine R_callvZ rfl (hV) rfl rfl rfl rfl ?_ | refine D_callZ rfl (hV) rfl rfl rfl ?_ | ((first | refine R_cond rfl (fun hq => ?_) fun hq => ?_ | refine R_guardT rfl rfl rfl (fun hq => ?_) fun hq => ?_ | refine R_guardF rfl rfl rfl (fun hq => ?_) fun hq => ?_ | refine D_guardT rfl rfl rfl (fun hq => ?_) fun hq => ?_ | refine D_guardF rfl rfl rfl (fun hq => ?_) fun hq => ?_) <;> (try rw [hq]) <;> first | have hp := of_decide_eq_true hq | have hp := of_decide_eq_false hq | have hp := of_decide_eq_false (not_t hq) | have hp := of_decide_eq_true (not_f hq) | have hp := hq))
    all_goals exact ret_bool' rfl (by simp [setQ, hg])
  · have hlg := goodSG_len hg
    repeat' (first | refine goZ ?_ | refine R_callZ rfl (hV) rfl rfl rfl ?_ | refine R_callZ rfl (l1Rising_f _ _ _) rfl rfl rfl ?_ | refine R_callvZ rfl (hV) rfl rfl rfl rfl ?_ | refine R_callvZ rfl (l1Rising_f _ _ _) rfl rfl rfl rfl ?_ | refine D_callZ rfl (hV) rfl rfl rfl ?_ | refine D_callZ rfl (l1Rising_f _ _ _) rfl rfl rfl ?_ | ((first | refine R_cond rfl (fun hq => ?_) fun hq => ?_ | refine R_guardT rfl rfl rfl (fun hq => ?_) fun hq => ?_ | refine R_guardF rfl rfl rfl (fun hq => ?_) fun hq => ?_ | refine D_guardT rfl rfl rfl (fun hq => ?_) fun hq => ?_ | refine D_guardF rfl rfl rfl (fun hq => ?_) fun hq => ?_) <;> (try rw [hq]) <;> first | have hp := of_decide_eq_true hq | have hp := of_decide_eq_false hq | have hp := of_decide_eq_false (not_t hq) | have hp := of_decide_eq_true (not_f hq) | have hp := hq))
    all_goals exact ret_bool' rfl (by rw [setQ, hg, len_strs]; simp)
theorem isStateSet_f (c : SGraph) (set : List Int) : Fn Try.prog 52 [.agg (dSGraph c), .sh 1 (ints set)] (.lit (.bool (setQ c set))) [] := by
  refine Fn_of Try.func52 rfl (by kernel_rfl) rfl rfl ?_
  intro w0 A hin
  have hzs := len_strs c.codes
  have hV := IsValidStateGraph_f c
  have hI := isIncreasing_f set ((strs c.codes).length : Int) (by omega)
  generalize hr : decide (rising 0 (((strs c.codes).length : Int) - 1) set) = r at hI
  rw [hzs] at hr
  cases r
  · repeat' (first | refine goZ ?_ | refine R_callZ rfl (hI) rfl rfl rfl ?_ | refine R_callZ rfl (hV) rfl rfl rfl ?_ | refine R_callvZ rfl (hI) rfl rfl rfl rfl ?_ | refine R_callvZ rfl (hV) rfl rfl rfl rfl ?_ | refine D_callZ rfl (hI) rfl rfl rfl ?_ | refine D_callZ rfl (hV) rfl rfl rfl ?_ | ((first | refine R_cond rfl (fun hq => ?_) fun hq => ?_ | refine R_guardT rfl rfl rfl (fun hq => ?_) fun hq => ?_ | refine R_guardF rfl rfl rfl (fun hq => ?_) fun hq => ?_ | refine D_guardT rfl rfl rfl (fun hq => ?_) fun hq => ?_ | refine D_guardF rfl rfl rfl (fun hq => ?_) fun hq => ?_) <;> (try rw [hq]) <;> first | have hp := of_decide_eq_true hq | have hp := of_decide_eq_false hq | have hp := of_decide_eq_false (not_t hq) | have hp := of_decide_eq_true (not_f hq) | have hp := hq))
    all_goals exact ret_bool' rfl (by rw [setQ, hr]; simp)
  · repeat' (first | refine goZ ?_ | refine R_callZ rfl (hI) rfl rfl rfl ?_ | refine R_callZ rfl (hV) rfl rfl rfl ?_ | refine R_callvZ rfl (hI) rfl rfl rfl rfl ?_ | refine R_callvZ rfl (hV) rfl rfl rfl rfl ?_ | refine D_callZ rfl (hI) rfl rfl rfl ?_ | refine D_callZ rfl (hV) rfl rfl rfl ?_ | ((first | refine R_cond rfl (fun hq => ?_) fun hq => ?_ | refine R_guardT rfl rfl rfl (fun hq => ?_) fun hq => ?_ | refine R_guardF rfl rfl rfl (fun hq => ?_) fun hq => ?_ | refine D_guardT rfl rfl rfl (fun hq => ?_) fun hq => ?_ | refine D_guardF rfl rfl rfl (fun hq => ?_) fun hq => ?_) <;> (try rw [hq]) <;> first | have hp := of_decide_eq_true hq | have hp := of_decide_eq_false hq | have hp := of_decide_eq_false (not_t hq) | have hp := of_decide_eq_true (not_f hq) | have hp := hq))
    all_goals exact ret_bool' rfl (by rw [setQ, hr]; simp)
theorem labelOfArcB_f (a : ArcD) : Fn Try.prog 112 [.agg (dArcD a)] (.agg (dLab (labA a))) [] := by
  refine Fn_ofC tabOk Try.func112 rfl (by kernel_rfl) rfl rfl ?_
  intro w0 A hin
  repeat' (first | refine goZ ?_ | ((first | refine R_cond rfl (fun hq => ?_) fun hq => ?_ | refine R_guardT rfl rfl rfl (fun hq => ?_) fun hq => ?_ | refine R_guardF rfl rfl rfl (fun hq => ?_) fun hq => ?_ | refine D_guardT rfl rfl rfl (fun hq => ?_) fun hq => ?_ | refine D_guardF rfl rfl rfl (fun hq => ?_) fun hq => ?_) <;> (try rw [hq]) <;> first | have hp := of_decide_eq_true hq | have hp := of_decide_eq_false hq | have hp := of_decide_eq_false (not_t hq) | have hp := of_decide_eq_true (not_f hq) | have hp := hq))
  first | exact .n ⟨_, [], rfl, ⟨rfl, rfl, trivial⟩, trivial, List.nodup_nil⟩ | exact .r ⟨_, [], rfl, ⟨rfl, rfl, trivial⟩, trivial, List.nodup_nil⟩
theorem enters_f (set : List Int) (a : ArcD) : Fn Try.prog 65 [.agg (dArcD a), .sh 1 (ints set)] (.lit (.bool (brP set false a))) [] := by
  refine Fn_of Try.func65 rfl (by kernel_rfl) rfl rfl ?_
  intro w0 A hin
  repeat' (first | refine goZ ?_ | refine R_callZ rfl (Contains_Int_f _ _) rfl rfl rfl ?_ | refine R_callvZ rfl (Contains_Int_f _ _) rfl rfl rfl rfl ?_ | refine D_callZ rfl (Contains_Int_f _ _) rfl rfl rfl ?_ | ((first | refine R_cond rfl (fun hq => ?_) fun hq => ?_ | refine R_guardT rfl rfl rfl (fun hq => ?_) fun hq => ?_ | refine R_guardF rfl rfl rfl (fun hq => ?_) fun hq => ?_ | refine D_guardT rfl rfl rfl (fun hq => ?_) fun hq => ?_ | refine D_guardF rfl rfl rfl (fun hq => ?_) fun hq => ?_) <;> (try rw [hq]) <;> first | have hp := of_decide_eq_true hq | have hp := of_decide_eq_false hq | have hp := of_decide_eq_false (not_t hq) | have hp := of_decide_eq_true (not_f hq) | have hp := hq))
  all_goals exact ret_bool' rfl (by simp_all [brP])
theorem leaves_f (set : List Int) (a : ArcD) : Fn Try.prog 71 [.agg (dArcD a), .sh 1 (ints set)] (.lit (.bool (brP set true a))) [] := by
  refine Fn_of Try.func71 rfl (by kernel_rfl) rfl rfl ?_
  intro w0 A hin
  repeat' (first | refine goZ ?_ | refine R_callZ rfl (Contains_Int_f _ _) rfl rfl rfl ?_ | refine R_callvZ rfl (Contains_Int_f _ _) rfl rfl rfl rfl ?_ | refine D_callZ rfl (Contains_Int_f _ _) rfl rfl rfl ?_ | ((first | refine R_cond rfl (fun hq => ?_) fun hq => ?_ | refine R_guardT rfl rfl rfl (fun hq => ?_) fun hq => ?_ | refine R_guardF rfl rfl rfl (fun hq => ?_) fun hq => ?_ | refine D_guardT rfl rfl rfl (fun hq => ?_) fun hq => ?_ | refine D_guardF rfl rfl rfl (fun hq => ?_) fun hq => ?_) <;> (try rw [hq]) <;> first | have hp := of_decide_eq_true hq | have hp := of_decide_eq_false hq | have hp := of_decide_eq_false (not_t hq) | have hp := of_decide_eq_true (not_f hq) | have hp := hq))
  all_goals exact ret_bool' rfl (by simp_all [brP])
theorem Entry1_f (set : List Int) (a : ArcD) : Fn Try.prog 64 [.agg (dArcD a), .sptr [.sh 1 (ints set)]] (.lit (.bool (brP set false a))) [] := by
  refine Fn_of Try.func64 rfl (by kernel_rfl) rfl rfl ?_
  intro w0 A hin
  repeat' (first | refine goZ ?_ | refine R_callZ rfl (enters_f set a) rfl rfl rfl ?_ | refine R_callvZ rfl (enters_f set a) rfl rfl rfl rfl ?_ | refine D_callZ rfl (enters_f set a) rfl rfl rfl ?_ | ((first | refine R_cond rfl (fun hq => ?_) fun hq => ?_ | refine R_guardT rfl rfl rfl (fun hq => ?_) fun hq => ?_ | refine R_guardF rfl rfl rfl (fun hq => ?_) fun hq => ?_ | refine D_guardT rfl rfl rfl (fun hq => ?_) fun hq => ?_ | refine D_guardF rfl rfl rfl (fun hq => ?_) fun hq => ?_) <;> (try rw [hq]) <;> first | have hp := of_decide_eq_true hq | have hp := of_decide_eq_false hq | have hp := of_decide_eq_false (not_t hq) | have hp := of_decide_eq_true (not_f hq) | have hp := hq))
  all_goals exact ret_bool' rfl rfl
theorem Exit1_f (set : List Int) (a : ArcD) : Fn Try.prog 70 [.agg (dArcD a), .sptr [.sh 1 (ints set)]] (.lit (.bool (brP set true a))) [] := by
  refine Fn_of Try.func70 rfl (by kernel_rfl) rfl rfl ?_
  intro w0 A hin
  repeat' (first | refine goZ ?_ | refine R_callZ rfl (leaves_f set a) rfl rfl rfl ?_ | refine R_callvZ rfl (leaves_f set a) rfl rfl rfl rfl ?_ | refine D_callZ rfl (leaves_f set a) rfl rfl rfl ?_ | ((first | refine R_cond rfl (fun hq => ?_) fun hq => ?_ | refine R_guardT rfl rfl rfl (fun hq => ?_) fun hq => ?_ | refine R_guardF rfl rfl rfl (fun hq => ?_) fun hq => ?_ | refine D_guardT rfl rfl rfl (fun hq => ?_) fun hq => ?_ | refine D_guardF rfl rfl rfl (fun hq => ?_) fun hq => ?_) <;> (try rw [hq]) <;> first | have hp := of_decide_eq_true hq | have hp := of_decide_eq_false hq | have hp := of_decide_eq_false (not_t hq) | have hp := of_decide_eq_true (not_f hq) | have hp := hq))
  all_goals exact ret_bool' rfl rfl

set_option maxHeartbeats 1600000 in
theorem borderLabels_f (c : SGraph) (p : ArcD → Bool) (fid : FuncId) (cs : List D) (hC : ∀ a : ArcD, Fn Try.prog fid [.agg (dArcD a), .sptr cs] (.lit (.bool (p a))) []) (hS : ∀ a ∈ c.arcs, -1 ≤ a.sig ∧ a.sig ≤ 1000) (hb : c.arcs.length ≤ 4000) : Fn Try.prog 63 [.agg (dSGraph c), .fn fid [.sptr cs]] (.own 0) [.arr 96 2 ((brL c.arcs p).map dLab) true] := by
  refine Fn_of Try.func63 rfl (by kernel_rfl) rfl rfl ?_
  intro w0 A hin
  have hza := len_dArcD c.arcs
  have hfl := flat_labs
  have hlen := brF_len c.arcs p
  have hR : ∀ x ∈ brF c.arcs p, -1 ≤ x.sig ∧ x.sig ≤ 1000 := by
    intro x hx
    obtain ⟨a, ha, rfl⟩ := List.mem_map.1 hx
    exact hS a (List.mem_filter.1 ha).1
  repeat' (first | refine goZ ?_ | ((first | refine R_cond rfl (fun hq => ?_) fun hq => ?_ | refine R_guardT rfl rfl rfl (fun hq => ?_) fun hq => ?_ | refine R_guardF rfl rfl rfl (fun hq => ?_) fun hq => ?_ | refine D_guardT rfl rfl rfl (fun hq => ?_) fun hq => ?_ | refine D_guardF rfl rfl rfl (fun hq => ?_) fun hq => ?_) <;> (try rw [hq]) <;> first | have hp := of_decide_eq_true hq | have hp := of_decide_eq_false hq | have hp := of_decide_eq_false (not_t hq) | have hp := of_decide_eq_true (not_f hq) | have hp := hq))
  refine W_loop (fun k : Nat => ⟨_, [(1, .fn fid [.sptr cs]), (2, .ptr 0 0), (5, .own 1), (10, .sh 4 (c.arcs.map dArcD)), (11, .lit (.int .i64 c.arcs.length)), (12, .lit (.int .i64 k))], [.cells 35 (dSGraph c), .arr 96 2 ((brF (c.arcs.take k) p).map dLab) true]⟩) (fun k => k ≤ c.arcs.length) (fun k => c.arcs.length - k) 0 (Nat.zero_le _) (weakZ []) ?_
  intro k hk
  have hk2 := brF_len (c.arcs.take k) p
  have hk3 : (c.arcs.take k).length ≤ k := by simp; omega
  have hRk : ∀ x ∈ brF (c.arcs.take k) p, -1 ≤ x.sig ∧ x.sig ≤ 1000 := by
    intro x hx
    obtain ⟨a, ha, rfl⟩ := List.mem_map.1 hx
    exact hS a (List.mem_of_mem_take (List.mem_filter.1 ha).1)
  have hsl := srtL_len (brF (c.arcs.take k) p)
  repeat' (first | refine goZ ?_ | refine R_callZ rfl (hC _) rfl rfl rfl ?_ | refine R_callZ rfl (labelOfArcB_f _) rfl rfl rfl ?_ | refine R_callvZ rfl (hC _) rfl rfl rfl rfl ?_ | refine R_callvZ rfl (labelOfArcB_f _) rfl rfl rfl rfl ?_ | refine R_sortL rfl rfl rfl rfl (by omega) hRk rfl rfl ?_ | refine R_callM rfl (CompactL_m (srtL (brF (c.arcs.take k) p)) (by omega)) rfl rfl rfl rfl rfl rfl rfl rfl (by first | exact hfl _ | exact flat_ints _) ?_ | refine D_callZ rfl (hC _) rfl rfl rfl ?_ | refine D_callZ rfl (labelOfArcB_f _) rfl rfl rfl ?_ | ((first | refine R_cond rfl (fun hq => ?_) fun hq => ?_ | refine R_guardT rfl rfl rfl (fun hq => ?_) fun hq => ?_ | refine R_guardF rfl rfl rfl (fun hq => ?_) fun hq => ?_ | refine D_guardT rfl rfl rfl (fun hq => ?_) fun hq => ?_ | refine D_guardF rfl rfl rfl (fun hq => ?_) fun hq => ?_) <;> (try rw [hq]) <;> first | have hp := of_decide_eq_true hq | have hp := of_decide_eq_false hq | have hp := of_decide_eq_false (not_t hq) | have hp := of_decide_eq_true (not_f hq) | have hp := hq))
  · refine ⟨k + 1, by omega, by omega, ?_⟩
    rw [brF_yes (show k < c.arcs.length by omega) hq, List.map_append]
    exact weakZ _
  · refine ⟨k + 1, by omega, by omega, ?_⟩
    rw [brF_no (show k < c.arcs.length by omega) hq]
    exact weakZ _
  · exact ret_own rfl rfl (by rw [brd_eq, List.take_of_length_le (by omega)])

set_option maxHeartbeats 1600000 in
theorem l10Into_f (c : SGraph) (set : List Int) (out : Bool) (hb : c.arcs.length ≤ 4000) : Fn Try.prog 62 [.agg (dSGraph c), .sh 1 (ints set), .lit (.bool out)] (.own 0) [.arr 96 2 ((brL c.arcs (brP set out)).map dLab) true] := by
  refine Fn_of Try.func62 rfl (by kernel_rfl) rfl rfl ?_
  intro w0 A hin
  have hza := len_dArcD c.arcs
  have hfl := flat_labs
  repeat' (first | refine goZ ?_ | ((first | refine R_cond rfl (fun hq => ?_) fun hq => ?_ | refine R_guardT rfl rfl rfl (fun hq => ?_) fun hq => ?_ | refine R_guardF rfl rfl rfl (fun hq => ?_) fun hq => ?_ | refine D_guardT rfl rfl rfl (fun hq => ?_) fun hq => ?_ | refine D_guardF rfl rfl rfl (fun hq => ?_) fun hq => ?_) <;> (try rw [hq]) <;> first | have hp := of_decide_eq_true hq | have hp := of_decide_eq_false hq | have hp := of_decide_eq_false (not_t hq) | have hp := of_decide_eq_true (not_f hq) | have hp := hq))
  refine W_open 7 96 2 rfl ?_
  refine W_loop (fun k : Nat => ⟨_, [(1, .sh 1 (ints set)), (2, .lit (.bool out)), (3, .ptr 0 0), (7, .own 1), (13, .sh 4 (c.arcs.map dArcD)), (14, .lit (.int .i64 c.arcs.length)), (15, .lit (.int .i64 k))], [.cells 35 (dSGraph c), .arr 96 2 ((brL (c.arcs.take k) (brP set out)).map dLab) true]⟩) (fun k => k ≤ c.arcs.length) (fun k => c.arcs.length - k) 0 (Nat.zero_le _) (weakZ []) ?_
  intro k hk
  have hlen : (brL (c.arcs.take k) (brP set out)).length ≤ 4000 := Nat.le_trans (brL_len _ _) (by simp; omega)
  cases out
  all_goals repeat' (first | refine goZ ?_ | refine R_callZ rfl (l1Has_f _ _) rfl rfl rfl ?_ | refine R_callvZ rfl (l1Has_f _ _) rfl rfl rfl rfl ?_ | refine R_callM rfl (l10Put_m (brL (c.arcs.take k) _) (labA (nth c.arcs k)) (by omega)) rfl rfl rfl rfl rfl rfl rfl rfl (by first | exact hfl _ | exact flat_ints _) ?_ | refine D_callZ rfl (l1Has_f _ _) rfl rfl rfl ?_ | ((first | refine R_cond rfl (fun hq => ?_) fun hq => ?_ | refine R_guardT rfl rfl rfl (fun hq => ?_) fun hq => ?_ | refine R_guardF rfl rfl rfl (fun hq => ?_) fun hq => ?_ | refine D_guardT rfl rfl rfl (fun hq => ?_) fun hq => ?_ | refine D_guardF rfl rfl rfl (fun hq => ?_) fun hq => ?_) <;> (try rw [hq]) <;> first | have hp := of_decide_eq_true hq | have hp := of_decide_eq_false hq | have hp := of_decide_eq_false (not_t hq) | have hp := of_decide_eq_true (not_f hq) | have hp := hq))
  all_goals first
    | exact ret_own rfl rfl (by rw [List.take_of_length_le (by omega)])
    | (refine ⟨k + 1, by omega, by omega, ?_⟩
       have hb : brP set false (nth c.arcs k) = true := by simp_all [brP]
       simp only [brL_yes (show k < c.arcs.length by omega) hb]
       refine Weak_ren [some 0, some 3] rfl rfl ?_ ?_ <;> (repeat' (first | exact trivial | rfl | refine And.intro ?_ ?_ | (simp [St.get, look, ints, strs, bools]; done))) <;> done)
    | (refine ⟨k + 1, by omega, by omega, ?_⟩
       have hb : brP set true (nth c.arcs k) = true := by simp_all [brP]
       simp only [brL_yes (show k < c.arcs.length by omega) hb]
       refine Weak_ren [some 0, some 3] rfl rfl ?_ ?_ <;> (repeat' (first | exact trivial | rfl | refine And.intro ?_ ?_ | (simp [St.get, look, ints, strs, bools]; done))) <;> done)
    | (refine ⟨k + 1, by omega, by omega, ?_⟩
       rw [brL_no (show k < c.arcs.length by omega) (by simp_all [brP])]
       exact weakZ _)
    | trace_state

theorem sig_ok {c : SGraph} (h : goodSG c = true) : ∀ a ∈ c.arcs, -1 ≤ a.sig ∧ a.sig ≤ 1000 := by
  intro a ha
  have hl := goodSG_len h
  simp only [goodSG, sgB, sgA, sigsB, Bool.and_eq_true, decide_eq_true_eq] at h
  have h1 := List.all_eq_true.1 h.1.2.2 a ha
  simp only [arcB, labB, Bool.and_eq_true, Bool.or_eq_true, decide_eq_true_eq] at h1
  omega
theorem EntryLabels_f (c : SGraph) (set : List Int) : Fn Try.prog 19 [.agg (dSGraph c), .sh 1 (ints set)] (.tup [.own 0, .lit (.bool (setQ c set))]) [.arr 96 2 ((brdR c set false).map dLab) true] := by
  refine Fn_of Try.func19 rfl (by kernel_rfl) rfl rfl ?_
  intro w0 A hin
  have hV := isStateSet_f c set
  cases hs : setQ c set <;> rw [hs] at hV
  · have hr : brdR c set false = [] := by simp [brdR, hs]
    repeat' (first | refine goZ ?_ | refine R_callZ rfl (hV) rfl rfl rfl ?_ | refine R_callvZ rfl (hV) rfl rfl rfl rfl ?_ | refine D_callZ rfl (hV) rfl rfl rfl ?_ | ((first | refine R_cond rfl (fun hq => ?_) fun hq => ?_ | refine R_guardT rfl rfl rfl (fun hq => ?_) fun hq => ?_ | refine R_guardF rfl rfl rfl (fun hq => ?_) fun hq => ?_ | refine D_guardT rfl rfl rfl (fun hq => ?_) fun hq => ?_ | refine D_guardF rfl rfl rfl (fun hq => ?_) fun hq => ?_) <;> (try rw [hq]) <;> first | have hp := of_decide_eq_true hq | have hp := of_decide_eq_false hq | have hp := of_decide_eq_false (not_t hq) | have hp := of_decide_eq_true (not_f hq) | have hp := hq))
    exact ret_nil_lit rfl (by simp [hr]) rfl
  · have hg : goodSG c = true := by simp only [setQ, Bool.and_eq_true] at hs; exact hs.1
    have hr : brdR c set false = brL c.arcs (brP set false) := by simp [brdR, hs]
    have hlg := goodSG_len hg
    have hB := borderLabels_f c (brP set false) 64 [.sh 1 (ints set)] (Entry1_f set) (sig_ok hg) (by omega)
    repeat' (first | refine goZ ?_ | refine R_callZ rfl (hV) rfl rfl rfl ?_ | refine R_callZ rfl (hB) rfl rfl rfl ?_ | refine R_callvZ rfl (hV) rfl rfl rfl rfl ?_ | refine R_callvZ rfl (hB) rfl rfl rfl rfl ?_ | refine D_callZ rfl (hV) rfl rfl rfl ?_ | refine D_callZ rfl (hB) rfl rfl rfl ?_ | ((first | refine R_cond rfl (fun hq => ?_) fun hq => ?_ | refine R_guardT rfl rfl rfl (fun hq => ?_) fun hq => ?_ | refine R_guardF rfl rfl rfl (fun hq => ?_) fun hq => ?_ | refine D_guardT rfl rfl rfl (fun hq => ?_) fun hq => ?_ | refine D_guardF rfl rfl rfl (fun hq => ?_) fun hq => ?_) <;> (try rw [hq]) <;> first | have hp := of_decide_eq_true hq | have hp := of_decide_eq_false hq | have hp := of_decide_eq_false (not_t hq) | have hp := of_decide_eq_true (not_f hq) | have hp := hq))
    exact ret_own_lit rfl rfl (by rw [hr]) rfl

theorem ExitLabels_f (c : SGraph) (set : List Int) : Fn Try.prog 26 [.agg (dSGraph c), .sh 1 (ints set)] (.tup [.own 0, .lit (.bool (setQ c set))]) [.arr 96 2 ((brdR c set true).map dLab) true] := by
  refine Fn_of Try.func26 rfl (by kernel_rfl) rfl rfl ?_
  intro w0 A hin
  have hV := isStateSet_f c set
  cases hs : setQ c set <;> rw [hs] at hV
  · have hr : brdR c set true = [] := by simp [brdR, hs]
    repeat' (first | refine goZ ?_ | refine R_callZ rfl (hV) rfl rfl rfl ?_ | refine R_callvZ rfl (hV) rfl rfl rfl rfl ?_ | refine D_callZ rfl (hV) rfl rfl rfl ?_ | ((first | refine R_cond rfl (fun hq => ?_) fun hq => ?_ | refine R_guardT rfl rfl rfl (fun hq => ?_) fun hq => ?_ | refine R_guardF rfl rfl rfl (fun hq => ?_) fun hq => ?_ | refine D_guardT rfl rfl rfl (fun hq => ?_) fun hq => ?_ | refine D_guardF rfl rfl rfl (fun hq => ?_) fun hq => ?_) <;> (try rw [hq]) <;> first | have hp := of_decide_eq_true hq | have hp := of_decide_eq_false hq | have hp := of_decide_eq_false (not_t hq) | have hp := of_decide_eq_true (not_f hq) | have hp := hq))
    exact ret_nil_lit rfl (by simp [hr]) rfl
  · have hg : goodSG c = true := by simp only [setQ, Bool.and_eq_true] at hs; exact hs.1
    have hr : brdR c set true = brL c.arcs (brP set true) := by simp [brdR, hs]
    have hlg := goodSG_len hg
    have hB := borderLabels_f c (brP set true) 70 [.sh 1 (ints set)] (Exit1_f set) (sig_ok hg) (by omega)
    repeat' (first | refine goZ ?_ | refine R_callZ rfl (hV) rfl rfl rfl ?_ | refine R_callZ rfl (hB) rfl rfl rfl ?_ | refine R_callvZ rfl (hV) rfl rfl rfl rfl ?_ | refine R_callvZ rfl (hB) rfl rfl rfl rfl ?_ | refine D_callZ rfl (hV) rfl rfl rfl ?_ | refine D_callZ rfl (hB) rfl rfl rfl ?_ | ((first | refine R_cond rfl (fun hq => ?_) fun hq => ?_ | refine R_guardT rfl rfl rfl (fun hq => ?_) fun hq => ?_ | refine R_guardF rfl rfl rfl (fun hq => ?_) fun hq => ?_ | refine D_guardT rfl rfl rfl (fun hq => ?_) fun hq => ?_ | refine D_guardF rfl rfl rfl (fun hq => ?_) fun hq => ?_) <;> (try rw [hq]) <;> first | have hp := of_decide_eq_true hq | have hp := of_decide_eq_false hq | have hp := of_decide_eq_false (not_t hq) | have hp := of_decide_eq_true (not_f hq) | have hp := hq))
    exact ret_own_lit rfl rfl (by rw [hr]) rfl

theorem specEntryLabels_f (c : SGraph) (set : List Int) : Fn Try.prog 18 [.agg (dSGraph c), .sh 1 (ints set)] (.tup [.own 0, .lit (.bool (setQ c set))]) [.arr 96 2 ((brdR c set false).map dLab) true] := by
  refine Fn_of Try.func18 rfl (by kernel_rfl) rfl rfl ?_
  intro w0 A hin
  have hV := l10Set_f c set
  cases hs : setQ c set <;> rw [hs] at hV
  · have hr : brdR c set false = [] := by simp [brdR, hs]
    repeat' (first | refine goZ ?_ | refine R_callZ rfl (hV) rfl rfl rfl ?_ | refine R_callvZ rfl (hV) rfl rfl rfl rfl ?_ | refine D_callZ rfl (hV) rfl rfl rfl ?_ | ((first | refine R_cond rfl (fun hq => ?_) fun hq => ?_ | refine R_guardT rfl rfl rfl (fun hq => ?_) fun hq => ?_ | refine R_guardF rfl rfl rfl (fun hq => ?_) fun hq => ?_ | refine D_guardT rfl rfl rfl (fun hq => ?_) fun hq => ?_ | refine D_guardF rfl rfl rfl (fun hq => ?_) fun hq => ?_) <;> (try rw [hq]) <;> first | have hp := of_decide_eq_true hq | have hp := of_decide_eq_false hq | have hp := of_decide_eq_false (not_t hq) | have hp := of_decide_eq_true (not_f hq) | have hp := hq))
    exact ret_nil_lit rfl (by simp [hr]) rfl
  · have hg : goodSG c = true := by simp only [setQ, Bool.and_eq_true] at hs; exact hs.1
    have hr : brdR c set false = brL c.arcs (brP set false) := by simp [brdR, hs]
    have hlg := goodSG_len hg
    have hB := l10Into_f c set false (by omega)
    repeat' (first | refine goZ ?_ | refine R_callZ rfl (hV) rfl rfl rfl ?_ | refine R_callZ rfl (hB) rfl rfl rfl ?_ | refine R_callvZ rfl (hV) rfl rfl rfl rfl ?_ | refine R_callvZ rfl (hB) rfl rfl rfl rfl ?_ | refine D_callZ rfl (hV) rfl rfl rfl ?_ | refine D_callZ rfl (hB) rfl rfl rfl ?_ | ((first | refine R_cond rfl (fun hq => ?_) fun hq => ?_ | refine R_guardT rfl rfl rfl (fun hq => ?_) fun hq => ?_ | refine R_guardF rfl rfl rfl (fun hq => ?_) fun hq => ?_ | refine D_guardT rfl rfl rfl (fun hq => ?_) fun hq => ?_ | refine D_guardF rfl rfl rfl (fun hq => ?_) fun hq => ?_) <;> (try rw [hq]) <;> first | have hp := of_decide_eq_true hq | have hp := of_decide_eq_false hq | have hp := of_decide_eq_false (not_t hq) | have hp := of_decide_eq_true (not_f hq) | have hp := hq))
    exact ret_own_lit rfl rfl (by rw [hr]) rfl

theorem specExitLabels_f (c : SGraph) (set : List Int) : Fn Try.prog 25 [.agg (dSGraph c), .sh 1 (ints set)] (.tup [.own 0, .lit (.bool (setQ c set))]) [.arr 96 2 ((brdR c set true).map dLab) true] := by
  refine Fn_of Try.func25 rfl (by kernel_rfl) rfl rfl ?_
  intro w0 A hin
  have hV := l10Set_f c set
  cases hs : setQ c set <;> rw [hs] at hV
  · have hr : brdR c set true = [] := by simp [brdR, hs]
    repeat' (first | refine goZ ?_ | refine R_callZ rfl (hV) rfl rfl rfl ?_ | refine R_callvZ rfl (hV) rfl rfl rfl rfl ?_ | refine D_callZ rfl (hV) rfl rfl rfl ?_ | ((first | refine R_cond rfl (fun hq => ?_) fun hq => ?_ | refine R_guardT rfl rfl rfl (fun hq => ?_) fun hq => ?_ | refine R_guardF rfl rfl rfl (fun hq => ?_) fun hq => ?_ | refine D_guardT rfl rfl rfl (fun hq => ?_) fun hq => ?_ | refine D_guardF rfl rfl rfl (fun hq => ?_) fun hq => ?_) <;> (try rw [hq]) <;> first | have hp := of_decide_eq_true hq | have hp := of_decide_eq_false hq | have hp := of_decide_eq_false (not_t hq) | have hp := of_decide_eq_true (not_f hq) | have hp := hq))
    exact ret_nil_lit rfl (by simp [hr]) rfl
  · have hg : goodSG c = true := by simp only [setQ, Bool.and_eq_true] at hs; exact hs.1
    have hr : brdR c set true = brL c.arcs (brP set true) := by simp [brdR, hs]
    have hlg := goodSG_len hg
    have hB := l10Into_f c set true (by omega)
    repeat' (first | refine goZ ?_ | refine R_callZ rfl (hV) rfl rfl rfl ?_ | refine R_callZ rfl (hB) rfl rfl rfl ?_ | refine R_callvZ rfl (hV) rfl rfl rfl rfl ?_ | refine R_callvZ rfl (hB) rfl rfl rfl rfl ?_ | refine D_callZ rfl (hV) rfl rfl rfl ?_ | refine D_callZ rfl (hB) rfl rfl rfl ?_ | ((first | refine R_cond rfl (fun hq => ?_) fun hq => ?_ | refine R_guardT rfl rfl rfl (fun hq => ?_) fun hq => ?_ | refine R_guardF rfl rfl rfl (fun hq => ?_) fun hq => ?_ | refine D_guardT rfl rfl rfl (fun hq => ?_) fun hq => ?_ | refine D_guardF rfl rfl rfl (fun hq => ?_) fun hq => ?_) <;> (try rw [hq]) <;> first | have hp := of_decide_eq_true hq | have hp := of_decide_eq_false hq | have hp := of_decide_eq_false (not_t hq) | have hp := of_decide_eq_true (not_f hq) | have hp := hq))
    exact ret_own_lit rfl rfl (by rw [hr]) rfl
end Go.Proofs.Ytcmedjlpaondjaa
