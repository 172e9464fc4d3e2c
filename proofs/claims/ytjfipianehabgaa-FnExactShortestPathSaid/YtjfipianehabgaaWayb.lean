/- Shortest ways in state graphs: what the reference's and the program's functions hand back. No condition. -/
import Derived.Test.YtjfipianehabgaaWay
import Derived.Test.YtjfipianehabgaaExc
import Derived.Test.YtjfipianehabgaaRet
import Derived.Test.YtjfipianehabgaaRen
set_option linter.unusedSimpArgs false
set_option linter.unusedVariables false
set_option maxHeartbeats 2000000
namespace Go.Proofs.Ytjfipianehabgaa
open Go.ChangeShapes Go.WideShapes Go.ChangeAt Go.RowKit

theorem arcE_ok {c : SGraph} (h : goodSG c = true) : ∀ e ∈ arcE c.arcs, (0 ≤ e.1 ∧ e.1 < c.codes.length) ∧ 0 ≤ e.2 ∧ e.2 < c.codes.length := by
  simp only [goodSG, sgB, Bool.and_eq_true] at h
  exact ends_of h.1.2.2
theorem stateB_good {c : SGraph} {k : Int} (h : stateB c k = true) : goodSG c = true ∧ (0 ≤ k ∧ k < c.codes.length) ∧ 0 ≤ dist (arcE c.arcs) 0 k := by
  simp only [stateB, Bool.and_eq_true, decide_eq_true_eq] at h
  have h2 := h.1
  simp only [goodSG, sgB, Bool.and_eq_true, decide_eq_true_eq] at h2
  have := h2.2 k.toNat (by omega)
  rw [Int.toNat_of_nonneg h.2.1] at this
  exact ⟨h.1, by omega, this⟩
def spL (l : List ArcD) (p : List Int) : List ArcD := p.map fun i => nth l i.toNat
noncomputable def wyL (c : SGraph) (k : Int) : List ArcD := spL c.arcs (pthL (arcE c.arcs) k)
noncomputable def spR (c : SGraph) (k : Int) : List ArcD := if stateB c k then wyL c k else []
theorem wyL_len {c : SGraph} (h : goodSG c = true) (k : Int) : (wyL c k).length ≤ 300 := by
  have hl := goodSG_len h
  have := pthL_len (k := k) (arcE_ok h) hl.2.2.1
  simp only [wyL, spL, List.length_map]; omega
theorem spR_len (c : SGraph) (k : Int) : (spR c k).length ≤ 300 := by
  unfold spR
  split
  · rename_i h; exact wyL_len (stateB_good h).1 k
  · simp

set_option maxHeartbeats 1600000 in
theorem pathTo_f (c : SGraph) (k : Int) (h : stateB c k = true) : Fn Try.prog 96 [.agg (dSGraph c), .lit (.int .i64 k)] (.own 0) [.arr 134 4 ((wyL c k).map dArcD) true] := by
  refine Fn_of Try.func96 rfl (by kernel_rfl) rfl rfl ?_
  intro w0 A hin
  obtain ⟨hg, hk, hd⟩ := stateB_good h
  have hl := goodSG_len hg
  have hE := arcE_ok hg
  have hzs := len_strs c.codes
  have hza := len_dArcD c.arcs
  have hEl := arcE_len c.arcs
  have hz2 := len_dSt (arcE c.arcs)
  have hP := shortest_f (strs c.codes).length (arcE c.arcs) k (by omega) (by omega) (by omega) (by rw [hzs]; exact hE) (by omega)
  have hpl := pthL_len (k := k) hE hl.2.2.1
  have hpz := len_ints (pthL (arcE c.arcs) k)
  have hpi := pthL_in hE hd
  have hfl : ∀ l : List ArcD, Flat (l.map dArcD) := fun l => flat_map (by simp [dArcD, isLit])
  repeat' (first | refine goZ ?_ | refine R_callZ rfl (arcSteps_f c.arcs (by omega)) rfl rfl rfl ?_ | refine R_callvZ rfl (arcSteps_f c.arcs (by omega)) rfl rfl rfl rfl ?_ | refine D_callZ rfl (arcSteps_f c.arcs (by omega)) rfl rfl rfl ?_ | refine D_callxZ rfl (hP) rfl rfl rfl rfl (by repeat' (first | exact trivial | rfl | refine And.intro ?_ ?_)) ?_ | ((first | refine R_cond rfl (fun hq => ?_) fun hq => ?_ | refine R_guardT rfl rfl rfl (fun hq => ?_) fun hq => ?_ | refine R_guardF rfl rfl rfl (fun hq => ?_) fun hq => ?_ | refine D_guardT rfl rfl rfl (fun hq => ?_) fun hq => ?_ | refine D_guardF rfl rfl rfl (fun hq => ?_) fun hq => ?_) <;> (try rw [hq]) <;> first | have hp := of_decide_eq_true hq | have hp := of_decide_eq_false hq | have hp := of_decide_eq_false (not_t hq) | have hp := of_decide_eq_true (not_f hq) | have hp := hq))
  refine W_loop (fun j : Nat => ⟨_, [(2, .ptr 0 0), (5, .own 1), (22, .own 3), (23, .lit (.int .i64 (pthL (arcE c.arcs) k).length)), (24, .lit (.int .i64 j))], [.cells 67 (dSGraph c), .arr 134 4 ((spL c.arcs ((pthL (arcE c.arcs) k).take j)).map dArcD) true, .arr 209 2 ((arcE c.arcs).map dSt) true, .arr 3 1 (ints (pthL (arcE c.arcs) k)) true]⟩) (fun j => j ≤ (pthL (arcE c.arcs) k).length) (fun j => (pthL (arcE c.arcs) k).length - j) 0 (Nat.zero_le _) (by rw [← hpz]; exact weakZ []) ?_
  intro j hj
  have hb1 : (spL c.arcs ((pthL (arcE c.arcs) k).take j)).length ≤ j := by simp [spL]; omega
  have hx2 : j < (pthL (arcE c.arcs) k).length → 0 ≤ nth (pthL (arcE c.arcs) k) j ∧ nth (pthL (arcE c.arcs) k) j < c.arcs.length := fun h => by have := hpi _ (nth_mem h); omega
  repeat' (first | refine goZ ?_ | refine R_index tabOk rfl rfl rfl rfl rfl (rowAt_int (hx2 (by omega)).1 (hx2 (by omega)).2) ?_ | ((first | refine R_cond rfl (fun hq => ?_) fun hq => ?_ | refine R_guardT rfl rfl rfl (fun hq => ?_) fun hq => ?_ | refine R_guardF rfl rfl rfl (fun hq => ?_) fun hq => ?_ | refine D_guardT rfl rfl rfl (fun hq => ?_) fun hq => ?_ | refine D_guardF rfl rfl rfl (fun hq => ?_) fun hq => ?_) <;> (try rw [hq]) <;> first | have hp := of_decide_eq_true hq | have hp := of_decide_eq_false hq | have hp := of_decide_eq_false (not_t hq) | have hp := of_decide_eq_true (not_f hq) | have hp := hq))
  · refine ⟨j + 1, by omega, by omega, ?_⟩
    have e : (spL c.arcs ((pthL (arcE c.arcs) k).take (j + 1))).map dArcD = (spL c.arcs ((pthL (arcE c.arcs) k).take j)).map dArcD ++ [dArcD (nth c.arcs (nth (pthL (arcE c.arcs) k) j).toNat)] := by
      rw [take_nth (show j < (pthL (arcE c.arcs) k).length by omega)]; simp [spL]
    simp only [e]
    exact weakZ _
  · exact ret_own rfl rfl (by rw [wyL, List.take_of_length_le (by omega)])

theorem ShortestPath_f (c : SGraph) (k : Int) : Fn Try.prog 32 [.agg (dSGraph c), .lit (.int .i64 k)] (.tup [.own 0, .lit (.bool (stateB c k))]) [.arr 134 4 ((spR c k).map dArcD) true] := by
  refine Fn_of Try.func32 rfl (by kernel_rfl) rfl rfl ?_
  intro w0 A hin
  have hV := IsValidStateGraph_f c
  have hzs := len_strs c.codes
  cases hg : goodSG c <;> rw [hg] at hV
  · have hn : stateB c k = false := by rw [stateB, hg, Bool.false_and]
    repeat' (first | refine goZ ?_ | refine R_callZ rfl (hV) rfl rfl rfl ?_ | refine R_callvZ rfl (hV) rfl rfl rfl rfl ?_ | refine D_callZ rfl (hV) rfl rfl rfl ?_ | ((first | refine R_cond rfl (fun hq => ?_) fun hq => ?_ | refine R_guardT rfl rfl rfl (fun hq => ?_) fun hq => ?_ | refine R_guardF rfl rfl rfl (fun hq => ?_) fun hq => ?_ | refine D_guardT rfl rfl rfl (fun hq => ?_) fun hq => ?_ | refine D_guardF rfl rfl rfl (fun hq => ?_) fun hq => ?_) <;> (try rw [hq]) <;> first | have hp := of_decide_eq_true hq | have hp := of_decide_eq_false hq | have hp := of_decide_eq_false (not_t hq) | have hp := of_decide_eq_true (not_f hq) | have hp := hq))
    exact ret_nil_lit rfl (by simp [spR, hn]) (by rw [hn])
  · have hl := goodSG_len hg
    have hP : 0 ≤ k ∧ k ≤ (c.codes.length : Int) - 1 → _ := fun h => pathTo_f c k (by rw [stateB, hg, Bool.true_and, decide_eq_true_eq]; exact h)
    repeat' (first | refine goZ ?_ | refine R_callZ rfl (hV) rfl rfl rfl ?_ | refine R_callZ rfl (within_f _ _ _) rfl rfl rfl ?_ | refine R_callZ rfl (hP (by omega)) rfl rfl rfl ?_ | refine R_callvZ rfl (hV) rfl rfl rfl rfl ?_ | refine R_callvZ rfl (within_f _ _ _) rfl rfl rfl rfl ?_ | refine R_callvZ rfl (hP (by omega)) rfl rfl rfl rfl ?_ | refine D_callZ rfl (hV) rfl rfl rfl ?_ | refine D_callZ rfl (within_f _ _ _) rfl rfl rfl ?_ | refine D_callZ rfl (hP (by omega)) rfl rfl rfl ?_ | ((first | refine R_cond rfl (fun hq => ?_) fun hq => ?_ | refine R_guardT rfl rfl rfl (fun hq => ?_) fun hq => ?_ | refine R_guardF rfl rfl rfl (fun hq => ?_) fun hq => ?_ | refine D_guardT rfl rfl rfl (fun hq => ?_) fun hq => ?_ | refine D_guardF rfl rfl rfl (fun hq => ?_) fun hq => ?_) <;> (try rw [hq]) <;> first | have hp := of_decide_eq_true hq | have hp := of_decide_eq_false hq | have hp := of_decide_eq_false (not_t hq) | have hp := of_decide_eq_true (not_f hq) | have hp := hq))
    · have hn : stateB c k = false := by rw [stateB, hg, Bool.true_and, decide_eq_false_iff_not]; omega
      exact ret_nil_lit rfl (by simp [spR, hn]) (by rw [hn])
    · have hy : stateB c k = true := by rw [stateB, hg, Bool.true_and, decide_eq_true_eq]; omega
      exact ret_own_lit rfl rfl (by rw [spR, hy, if_pos rfl]) (by rw [hy])

/-! ### The reference -/
def mvX (l : List ArcD) (j : Nat) : List Mv := (List.range j).map fun i : Nat => ⟨(nth l i).src, (i : Int), (nth l i).dst⟩
theorem mvX_len (l : List ArcD) (j : Nat) : (mvX l j).length = j := by simp [mvX]
theorem mvX_snoc (l : List ArcD) (j : Nat) : mvX l (j + 1) = mvX l j ++ [⟨(nth l j).src, (j : Int), (nth l j).dst⟩] := by simp [mvX, List.range_succ]
theorem mvX_nth {l : List ArcD} {n j : Nat} (h : j < n) : nth (mvX l n) j = ⟨(nth l j).src, (j : Int), (nth l j).dst⟩ := by
  rw [nth_get (by rw [mvX_len]; exact h)]; simp [mvX]
theorem mvX_E (l : List ArcD) : mvE (mvX l l.length) = arcE l := by
  apply List.ext_getElem
  · simp [mvE, mvX, arcE]
  · intro i h1 h2
    have h3 : i < l.length := by rw [arcE_len] at h2; exact h2
    rw [← nth_get h1, ← nth_get h2, mvE_nth (by rw [mvX_len]; exact h3), arcE_nth h3, mvX_nth h3]
def rgX (c : SGraph) : RGraph := ⟨List.replicate c.codes.length ByteArray.empty, mvX c.arcs c.arcs.length⟩

set_option maxHeartbeats 1600000 in
theorem l5Moves_f (c : SGraph) (hg : goodSG c = true) : Fn Try.prog 176 [.agg (dSGraph c)] (.agg [.own 0, .own 1]) [.arr 9 1 (strs (rgX c).marks) true, .arr 120 3 ((rgX c).moves.map dMv) true] := by
  refine Fn_ofC tabOk Try.func176 rfl (by kernel_rfl) rfl rfl ?_
  intro w0 A hin
  have hl := goodSG_len hg
  have hzs := len_strs c.codes
  have hza := len_dArcD c.arcs
  repeat' (first | refine goZ ?_ | ((first | refine R_cond rfl (fun hq => ?_) fun hq => ?_ | refine R_guardT rfl rfl rfl (fun hq => ?_) fun hq => ?_ | refine R_guardF rfl rfl rfl (fun hq => ?_) fun hq => ?_ | refine D_guardT rfl rfl rfl (fun hq => ?_) fun hq => ?_ | refine D_guardF rfl rfl rfl (fun hq => ?_) fun hq => ?_) <;> (try rw [hq]) <;> first | have hp := of_decide_eq_true hq | have hp := of_decide_eq_false hq | have hp := of_decide_eq_false (not_t hq) | have hp := of_decide_eq_true (not_f hq) | have hp := hq))
  refine W_openC 3 1 120 3 rfl rfl (by exact rfl) ?_
  refine W_loop (fun j : Nat => ⟨_, [(1, .ptr 0 0), (2, .ptr 1 0), (3, .ptr 3 0), (12, .sh 4 (c.arcs.map dArcD)), (13, .lit (.int .i64 c.arcs.length)), (14, .lit (.int .i64 j))], [.cells 67 (dSGraph c), .cells 52 [.nil, .nil], .arr 9 1 (strs (rgX c).marks) true, .cells 52 [.own 2, .own 4], .arr 120 3 ((mvX c.arcs j).map dMv) true]⟩) (fun j => j ≤ c.arcs.length) (fun j => c.arcs.length - j) 0 (Nat.zero_le _) (by
    have e : strs (rgX c).marks = List.replicate (strs c.codes).length [D.lit (.string ByteArray.empty)] := by rw [hzs]; simp [strs, rgX]
    rw [e, show (c.arcs.length : Int) = ((c.arcs.map dArcD).length : Int) by omega]
    exact weakZ []) ?_
  intro j hj
  have hb1 := mvX_len c.arcs j
  repeat' (first | refine goZ ?_ | ((first | refine R_cond rfl (fun hq => ?_) fun hq => ?_ | refine R_guardT rfl rfl rfl (fun hq => ?_) fun hq => ?_ | refine R_guardF rfl rfl rfl (fun hq => ?_) fun hq => ?_ | refine D_guardT rfl rfl rfl (fun hq => ?_) fun hq => ?_ | refine D_guardF rfl rfl rfl (fun hq => ?_) fun hq => ?_) <;> (try rw [hq]) <;> first | have hp := of_decide_eq_true hq | have hp := of_decide_eq_false hq | have hp := of_decide_eq_false (not_t hq) | have hp := of_decide_eq_true (not_f hq) | have hp := hq))
  · refine ⟨j + 1, by omega, by omega, ?_⟩
    have e : (mvX c.arcs (j + 1)).map dMv = (mvX c.arcs j).map dMv ++ [dMv ⟨(nth c.arcs j).src, (j : Int), (nth c.arcs j).dst⟩] := by rw [mvX_snoc]; simp
    simp only [e]
    exact weakZ _
  · have ej : j = c.arcs.length := by omega
    subst ej
    first | exact .r ⟨_, [some 2, some 4], rfl, ⟨rfl, rfl, trivial⟩, ⟨rfl, rfl, rfl, rfl, trivial⟩, by simp⟩ | exact .n ⟨_, [some 2, some 4], rfl, ⟨rfl, rfl, trivial⟩, ⟨rfl, rfl, rfl, rfl, trivial⟩, by simp⟩

set_option maxHeartbeats 4000000 in
theorem l5Way_f (c : SGraph) (k : Int) (h : stateB c k = true) : Fn Try.prog 94 [.agg (dSGraph c), .lit (.int .i64 k)] (.own 0) [.arr 134 4 ((wyL c k).map dArcD) true] := by
  refine Fn_of Try.func94 rfl (by kernel_rfl) rfl rfl ?_
  intro w0 A hin
  obtain ⟨hg, hkr, hdk⟩ := stateB_good h
  have hl := goodSG_len hg
  have hE := arcE_ok hg
  have hza := len_dArcD c.arcs
  have hEl := arcE_len c.arcs
  have hX := mvX_E c.arcs
  have hXl := mvX_len c.arcs c.arcs.length
  have hzm := len_dMv (rgX c).moves
  have hm1 : (rgX c).marks.length = c.codes.length := by simp [rgX]
  have hm2 : (rgX c).moves.length = c.arcs.length := hXl
  have hF := l4Far_f (rgX c) (by omega) (by omega) (by omega) (by rw [hm1]; show ∀ e ∈ mvE (mvX c.arcs c.arcs.length), _; rw [hX]; exact hE)
  rw [hm1, show mvE (rgX c).moves = arcE c.arcs from hX] at hF
  have hl1 := len_ints (distL c.codes.length (arcE c.arcs) 0)
  have hl2 := distL_len c.codes.length (arcE c.arcs) 0
  have hdd : ∀ k : Int, 0 ≤ k → k < c.codes.length → nth (distL c.codes.length (arcE c.arcs) 0) k.toNat = dist (arcE c.arcs) 0 k := fun k h0 h1 => by rw [distL_nth (by omega), Int.toNat_of_nonneg h0]
  have hdn := dist_lt (E := arcE c.arcs) (s := 0) (v := k) (n := c.codes.length) (fun e he => (hE e he).2) (by omega)
  obtain ⟨d0, hd0⟩ : ∃ d0 : Nat, dist (arcE c.arcs) 0 k = d0 := ⟨(dist (arcE c.arcs) 0 k).toNat, by omega⟩
  have hfl : ∀ l : List ArcD, Flat (l.map dArcD) := fun l => flat_map (by simp [dArcD, isLit])
  repeat' (first | refine goZ ?_ | refine R_callZ rfl (l5Moves_f c hg) rfl rfl rfl ?_ | refine R_callvZ rfl (l5Moves_f c hg) rfl rfl rfl rfl ?_ | refine R_callxZ rfl (hF) rfl rfl rfl rfl (by repeat' (first | exact trivial | rfl | refine And.intro ?_ ?_)) ?_ | refine D_callZ rfl (l5Moves_f c hg) rfl rfl rfl ?_ | refine D_callxZ rfl (hF) rfl rfl rfl rfl (by repeat' (first | exact trivial | rfl | refine And.intro ?_ ?_)) ?_ | ((first | refine R_cond rfl (fun hq => ?_) fun hq => ?_ | refine R_guardT rfl rfl rfl (fun hq => ?_) fun hq => ?_ | refine R_guardF rfl rfl rfl (fun hq => ?_) fun hq => ?_ | refine D_guardT rfl rfl rfl (fun hq => ?_) fun hq => ?_ | refine D_guardF rfl rfl rfl (fun hq => ?_) fun hq => ?_) <;> (try rw [hq]) <;> first | have hp := of_decide_eq_true hq | have hp := of_decide_eq_false hq | have hp := of_decide_eq_false (not_t hq) | have hp := of_decide_eq_true (not_f hq) | have hp := hq))
  refine W_open 7 134 4 rfl ?_
  refine W_loop (fun x : Nat × Int × List ArcD => ⟨_, [(1, .lit (.int .i64 x.2.1)), (2, .ptr 0 0), (5, .ptr 3 0), (6, .own 4), (7, .own 5)], [.cells 67 (dSGraph c), .arr 9 1 (strs (rgX c).marks) true, .arr 120 3 ((rgX c).moves.map dMv) true, .cells 52 [.own 1, .own 2], .arr 3 1 (ints (distL c.codes.length (arcE c.arcs) 0)) true, .arr 134 4 (x.2.2.map dArcD) true]⟩) (fun x => (0 ≤ x.2.1 ∧ x.2.1 < c.codes.length) ∧ dist (arcE c.arcs) 0 x.2.1 = (x.1 : Int) ∧ spL c.arcs (wayL (arcE c.arcs) x.1 x.2.1).reverse ++ x.2.2 = spL c.arcs (wayL (arcE c.arcs) d0 k).reverse) (fun x => x.1) (d0, k, []) ⟨hkr, hd0, by simp⟩ (weakZ []) ?_
  rintro ⟨d, k', o⟩ ⟨hk', hd, ho⟩
  dsimp only at hk' hd ho ⊢
  have hol : d + o.length = d0 := by have := congrArg List.length ho; simpa [spL, wayL_len] using this
  have hlo := len_dArcD o
  have hkd := hdd k' hk'.1 hk'.2
  have h0d : d = 0 → k' = 0 := fun h => by
    have hw := dist_walk (E := arcE c.arcs) (s := 0) (v := k') (by omega)
    rw [hd, h] at hw
    cases hw; rfl
  have hd0' : k' = 0 → d = 0 := fun h => by
    have := dist_start (E := arcE c.arcs) (s := 0)
    rw [h] at hd; omega
  repeat' (first | refine goZ ?_ | ((first | refine R_cond rfl (fun hq => ?_) fun hq => ?_ | refine R_guardT rfl rfl rfl (fun hq => ?_) fun hq => ?_ | refine R_guardF rfl rfl rfl (fun hq => ?_) fun hq => ?_ | refine D_guardT rfl rfl rfl (fun hq => ?_) fun hq => ?_ | refine D_guardF rfl rfl rfl (fun hq => ?_) fun hq => ?_) <;> (try rw [hq]) <;> first | have hp := of_decide_eq_true hq | have hp := of_decide_eq_false hq | have hp := of_decide_eq_false (not_t hq) | have hp := of_decide_eq_true (not_f hq) | have hp := hq))
  rotate_right
  · have e1 := hd0' (by omega)
    subst e1
    exact ret_own rfl rfl (by rw [wyL, pthL, hd0, Int.toNat_natCast, ← ho]; simp [wayL, spL])
  have hd1 : 1 ≤ d := by
    rcases Nat.eq_zero_or_pos d with h | h
    · exact absurd (h0d h) (by assumption)
    · exact h
  refine W_loop (fun j : Nat => ⟨_, [(1, .lit (.int .i64 k')), (2, .ptr 0 0), (5, .ptr 3 0), (6, .own 4), (7, .own 5), (17, .own 2), (18, .lit (.int .i64 c.arcs.length)), (19, .lit (.int .i64 j))], [.cells 67 (dSGraph c), .arr 9 1 (strs (rgX c).marks) true, .arr 120 3 ((rgX c).moves.map dMv) true, .cells 52 [.own 1, .own 2], .arr 3 1 (ints (distL c.codes.length (arcE c.arcs) 0)) true, .arr 134 4 (o.map dArcD) true]⟩) (fun j => j ≤ c.arcs.length ∧ ∀ i, i < j → comeP (arcE c.arcs) ((d - 1 : Nat) : Int) k' (nth (arcE c.arcs) i) = false) (fun j => c.arcs.length - j) 0 ⟨Nat.zero_le _, by omega⟩ (by rw [show (c.arcs.length : Int) = (((rgX c).moves.map dMv).length : Int) by omega]; exact weakZ []) ?_
  rintro j ⟨hj, hJ⟩
  have hnE : j < c.arcs.length → nth (arcE c.arcs) j = ((nth c.arcs j).src, (nth c.arcs j).dst) := fun h => arcE_nth h
  have hnX : j < c.arcs.length → nth (rgX c).moves j = ⟨(nth c.arcs j).src, (j : Int), (nth c.arcs j).dst⟩ := fun h => mvX_nth h
  have hb : j < c.arcs.length → (0 ≤ (nth c.arcs j).src ∧ (nth c.arcs j).src < c.codes.length) ∧ 0 ≤ (nth c.arcs j).dst ∧ (nth c.arcs j).dst < c.codes.length := fun h => by have := hE (nth (arcE c.arcs) j) (nth_mem (by rw [arcE_len]; exact h)); rw [hnE h] at this; exact this
  have hdv : j < c.arcs.length → nth (distL c.codes.length (arcE c.arcs) 0) (nth c.arcs j).src.toNat = dist (arcE c.arcs) 0 (nth c.arcs j).src := fun h => hdd _ (hb h).1.1 (hb h).1.2
  have hrw : j < c.arcs.length → RowAt ((rgX c).moves.map dMv) (j : Int) [.lit (.int .i64 (nth c.arcs j).src), .lit (.int .i64 (j : Int)), .lit (.int .i64 (nth c.arcs j).dst)] := fun h => by
    have := rowAt_nat (l := (rgX c).moves) (f := dMv) (k := j) (by omega)
    rw [hnX h] at this; exact this
  repeat' (first | refine R_eload tabOk rfl rfl rfl (hrw (by omega)) rfl rfl ?_ | refine go1 ?_ | ((first | refine R_cond rfl (fun hq => ?_) fun hq => ?_ | refine R_guardT rfl rfl rfl (fun hq => ?_) fun hq => ?_ | refine R_guardF rfl rfl rfl (fun hq => ?_) fun hq => ?_ | refine D_guardT rfl rfl rfl (fun hq => ?_) fun hq => ?_ | refine D_guardF rfl rfl rfl (fun hq => ?_) fun hq => ?_) <;> (try rw [hq]) <;> first | have hp := of_decide_eq_true hq | have hp := of_decide_eq_false hq | have hp := of_decide_eq_false (not_t hq) | have hp := of_decide_eq_true (not_f hq) | have hp := hq))
  · have hjl : j < c.arcs.length := by omega
    have e1 := hdv hjl
    have hcm : comeP (arcE c.arcs) ((d - 1 : Nat) : Int) k' (nth (arcE c.arcs) j) = true := by
      rw [hnE hjl, comeP, Bool.and_eq_true, decide_eq_true_eq, decide_eq_true_eq]; dsimp only; omega
    have e2 : findIx (comeP (arcE c.arcs) ((d - 1 : Nat) : Int) k') (arcE c.arcs) = (j : Int) := findIx_at _ (by omega) hJ hcm
    have e3 : wayL (arcE c.arcs) d k' = (j : Int) :: wayL (arcE c.arcs) (d - 1) (nth c.arcs j).src := by
      have e4 : wayL (arcE c.arcs) d k' = wayL (arcE c.arcs) (d - 1 + 1) k' := by rw [show d - 1 + 1 = d by omega]
      rw [e4, wayL, e2, Int.toNat_natCast, hnE hjl]
    refine ⟨(d - 1, (nth c.arcs j).src, nth c.arcs j :: o), ⟨(hb hjl).1, ?_, ?_⟩, by dsimp only; omega, ?_⟩
    · dsimp only; omega
    · dsimp only; rw [← ho, e3]; simp [spL]
    · refine Weak_ren2 [some 0, some 1, some 2, some 3, some 4, some 7] rfl rfl ?_ ?_ <;> (repeat' (first | exact trivial | rfl | refine And.intro ?_ ?_ | (simp [St.get, look, ints, strs, bools]; done))) <;> done
  · have hjl : j < c.arcs.length := by omega
    refine ⟨j + 1, ⟨by omega, fun i hi => ?_⟩, by omega, weakZ _⟩
    by_cases e : i = j
    · subst e
      have := hdv hjl
      rw [hnE hjl, comeP, Bool.and_eq_false_iff, decide_eq_false_iff_not, decide_eq_false_iff_not]; dsimp only; omega
    · exact hJ i (by omega)
  · have hjl : j < c.arcs.length := by omega
    refine ⟨j + 1, ⟨by omega, fun i hi => ?_⟩, by omega, weakZ _⟩
    by_cases e : i = j
    · subst e
      have := hdv hjl
      rw [hnE hjl, comeP, Bool.and_eq_false_iff, decide_eq_false_iff_not, decide_eq_false_iff_not]; dsimp only; omega
    · exact hJ i (by omega)
  · have hjl : j < c.arcs.length := by omega
    refine ⟨j + 1, ⟨by omega, fun i hi => ?_⟩, by omega, weakZ _⟩
    by_cases e : i = j
    · subst e
      have := hdv hjl
      rw [hnE hjl, comeP, Bool.and_eq_false_iff, decide_eq_false_iff_not, decide_eq_false_iff_not]; dsimp only; omega
    · exact hJ i (by omega)
  · exfalso
    obtain ⟨i, a1, a2, a3, a4, _⟩ := come_ex (E := arcE c.arcs) (d := d - 1) (k := k') (by omega)
    have := hJ i (by omega)
    rw [comeP, a3, a4] at this
    simp at this

theorem specShortestPath_f (c : SGraph) (k : Int) : Fn Try.prog 30 [.agg (dSGraph c), .lit (.int .i64 k)] (.tup [.own 0, .lit (.bool (stateB c k))]) [.arr 134 4 ((spR c k).map dArcD) true] := by
  refine Fn_of Try.func30 rfl (by kernel_rfl) rfl rfl ?_
  intro w0 A hin
  have hV := l5State_f c k
  cases hg : stateB c k <;> rw [hg] at hV
  · repeat' (first | refine goZ ?_ | refine R_callZ rfl (hV) rfl rfl rfl ?_ | refine R_callvZ rfl (hV) rfl rfl rfl rfl ?_ | refine D_callZ rfl (hV) rfl rfl rfl ?_ | ((first | refine R_cond rfl (fun hq => ?_) fun hq => ?_ | refine R_guardT rfl rfl rfl (fun hq => ?_) fun hq => ?_ | refine R_guardF rfl rfl rfl (fun hq => ?_) fun hq => ?_ | refine D_guardT rfl rfl rfl (fun hq => ?_) fun hq => ?_ | refine D_guardF rfl rfl rfl (fun hq => ?_) fun hq => ?_) <;> (try rw [hq]) <;> first | have hp := of_decide_eq_true hq | have hp := of_decide_eq_false hq | have hp := of_decide_eq_false (not_t hq) | have hp := of_decide_eq_true (not_f hq) | have hp := hq))
    exact ret_nil_lit rfl (by simp [spR, hg]) rfl
  · repeat' (first | refine goZ ?_ | refine R_callZ rfl (hV) rfl rfl rfl ?_ | refine R_callZ rfl (l5Way_f c k hg) rfl rfl rfl ?_ | refine R_callvZ rfl (hV) rfl rfl rfl rfl ?_ | refine R_callvZ rfl (l5Way_f c k hg) rfl rfl rfl rfl ?_ | refine D_callZ rfl (hV) rfl rfl rfl ?_ | refine D_callZ rfl (l5Way_f c k hg) rfl rfl rfl ?_ | ((first | refine R_cond rfl (fun hq => ?_) fun hq => ?_ | refine R_guardT rfl rfl rfl (fun hq => ?_) fun hq => ?_ | refine R_guardF rfl rfl rfl (fun hq => ?_) fun hq => ?_ | refine D_guardT rfl rfl rfl (fun hq => ?_) fun hq => ?_ | refine D_guardF rfl rfl rfl (fun hq => ?_) fun hq => ?_) <;> (try rw [hq]) <;> first | have hp := of_decide_eq_true hq | have hp := of_decide_eq_false hq | have hp := of_decide_eq_false (not_t hq) | have hp := of_decide_eq_true (not_f hq) | have hp := hq))
    exact ret_own_lit rfl rfl (by rw [spR, hg, if_pos rfl]) rfl
end Go.Proofs.Ytjfipianehabgaa
