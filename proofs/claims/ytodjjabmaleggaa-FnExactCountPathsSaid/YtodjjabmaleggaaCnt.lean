/- Paths counted: what the reference's and the program's functions hand back. No condition. -/
import Derived.Test.YtodjjabmaleggaaReach
import Derived.Test.YtodjjabmaleggaaAbsY
set_option linter.unusedSimpArgs false
set_option linter.unusedVariables false
set_option maxHeartbeats 2000000
namespace Go.Proofs.Ytodjjabmaleggaa
open Go.ChangeShapes Go.WideShapes Go.ChangeAt Go.RowKit

/-! ### The plain law -/
section
variable {K K2 : Int} {v u : List Int}
def addM (K : Int) (v u : List Int) (m : Mv) : List Int := u.set m.dst.toNat (min (nth u m.dst.toNat + nth v m.src.toNat) K)
def stepV (K : Int) (l : List Mv) (v : List Int) : List Int := l.foldl (addM K v) (List.replicate v.length 0)
def cntV (K : Int) (l : List Mv) (n : Nat) : Nat → List Int
  | 0 => (List.replicate n 0).set 0 1
  | s + 1 => stepV K l (cntV K l n s)
/-- All numbers lie between 0 and K. -/
def InK (K : Int) (v : List Int) : Prop := ∀ x ∈ v, 0 ≤ x ∧ x ≤ K
theorem InK.at (h : InK K v) (hK : 0 ≤ K) (i : Nat) : 0 ≤ nth v i ∧ nth v i ≤ K := by
  by_cases hi : i < v.length
  · exact h _ (nth_mem hi)
  · have : nth v i = 0 := by simp [nth, hi]
    omega
theorem InK.set (h : InK K v) {i : Nat} {x : Int} (hx : 0 ≤ x ∧ x ≤ K) : InK K (v.set i x) := by
  intro y hy
  rcases List.mem_or_eq_of_mem_set hy with h1 | rfl
  · exact h _ h1
  · exact hx
theorem InK.zero (hK : 0 ≤ K) (n : Nat) : InK K (List.replicate n 0) := fun x hx => by rw [List.eq_of_mem_replicate hx]; omega
theorem addM_len (K : Int) (v u : List Int) (m : Mv) : (addM K v u m).length = u.length := by simp [addM]
theorem InK.add (hu : InK K u) (hv : InK K v) (hK : 0 ≤ K) (m : Mv) : InK K (addM K v u m) := by
  have h1 := hu.at hK m.dst.toNat; have h2 := hv.at hK m.src.toNat
  exact hu.set ⟨by omega, by omega⟩
theorem fold_len (K : Int) (v : List Int) : ∀ (l : List Mv) (u : List Int), (l.foldl (addM K v) u).length = u.length
  | [], _ => rfl
  | m :: l, u => by rw [List.foldl_cons, fold_len K v l, addM_len]
theorem InK.fold (hv : InK K v) (hK : 0 ≤ K) : ∀ (l : List Mv) {u : List Int}, InK K u → InK K (l.foldl (addM K v) u)
  | [], _, hu => hu
  | m :: l, _, hu => InK.fold hv hK l (hu.add hv hK m)
theorem stepV_len (K : Int) (l : List Mv) (v : List Int) : (stepV K l v).length = v.length := by rw [stepV, fold_len, List.length_replicate]
theorem cntV_len (K : Int) (l : List Mv) (n : Nat) : ∀ s, (cntV K l n s).length = n
  | 0 => by simp [cntV]
  | s + 1 => by rw [cntV, stepV_len, cntV_len K l n s]
theorem cntV_in (hK : 1 ≤ K) (l : List Mv) (n : Nat) : ∀ s, InK K (cntV K l n s)
  | 0 => (InK.zero (by omega) n).set ⟨by omega, hK⟩
  | s + 1 => (cntV_in hK l n s).fold (by omega) l (InK.zero (by omega) _)
theorem nth_map0 (f : Int → Int) (h0 : f 0 = 0) (v : List Int) (i : Nat) : nth (v.map f) i = f (nth v i) := by
  by_cases hi : i < v.length
  · rw [nth_get (by simpa using hi), nth_get hi]; simp
  · have h1 : nth v i = 0 := by simp [nth, hi]
    have h2 : nth (v.map f) i = 0 := by simp [nth, hi]
    rw [h1, h2, h0]
def cap (K : Int) (v : List Int) : List Int := v.map fun x => min x K
theorem cap_nth (hK : 0 ≤ K) (v : List Int) (i : Nat) : nth (cap K v) i = min (nth v i) K := nth_map0 (fun x => min x K) (by omega) v i
theorem add_cap {K K' : Int} (hK : 0 ≤ K) (h : K ≤ K') (hv : InK K' v) (hu : InK K' u) (m : Mv) : cap K (addM K' v u m) = addM K (cap K v) (cap K u) m := by
  have h1 := hu.at (by omega) m.dst.toNat; have h2 := hv.at (by omega) m.src.toNat
  simp only [addM, cap_nth hK]
  simp only [cap, List.map_set]
  congr 1
  omega
theorem fold_cap {K K' : Int} (hK : 0 ≤ K) (h : K ≤ K') (hv : InK K' v) : ∀ (l : List Mv) {u : List Int}, InK K' u → cap K (l.foldl (addM K' v) u) = l.foldl (addM K (cap K v)) (cap K u)
  | [], _, _ => rfl
  | m :: l, u, hu => by rw [List.foldl_cons, List.foldl_cons, fold_cap hK h hv l (hu.add hv (by omega) m), add_cap hK h hv hu]
theorem cntV_cap {K K' : Int} (hK : 1 ≤ K) (h : K ≤ K') (l : List Mv) (n : Nat) : ∀ s, cap K (cntV K' l n s) = cntV K l n s
  | 0 => by
    have h1 : min (0 : Int) K = 0 := by omega
    have h2 : min (1 : Int) K = 1 := by omega
    simp [cntV, cap, List.map_set, h1, h2]
  | s + 1 => by
    have e := cntV_cap hK h l n s
    have h1 : min (0 : Int) K = 0 := by omega
    rw [cntV, cntV, ← e, stepV, stepV, fold_cap (by omega) h (cntV_in (by omega) l n s) l (InK.zero (by omega) _)]
    simp [cap, h1]
/-- The sum, capped. -/
def sumK (K : Int) (v : List Int) : Int := v.foldl (fun s x => min K (s + x)) 0
theorem sumK_snoc (K : Int) (v : List Int) (x : Int) : sumK K (v ++ [x]) = min K (sumK K v + x) := by simp [sumK, List.foldl_append]
theorem sum_snoc (v : List Int) (x : Int) : (v ++ [x]).sum = v.sum + x := by simp
theorem sum_pos : ∀ {v : List Int}, InK K v → 0 ≤ v.sum ∧ v.sum ≤ v.length * K
  | [], _ => by simp
  | x :: v, h => by
    have h1 := h x (by simp)
    have h2 := sum_pos (v := v) fun y hy => h y (List.mem_cons_of_mem _ hy)
    have e : ((x :: v).length : Int) * K = (v.length : Int) * K + K := by simp [Int.add_mul]
    rw [e, List.sum_cons]; omega
theorem sumK_rev {K K' : Int} (hK : 0 ≤ K) : ∀ {v : List Int}, InK K' v.reverse → sumK K (cap K v.reverse) = min K v.reverse.sum
  | [], _ => by simp [sumK, cap]; omega
  | x :: v, h => by
    have h1 := h x (by rw [List.reverse_cons]; exact List.mem_append_right _ (by simp))
    have h3 : InK K' v.reverse := fun y hy => h y (by rw [List.reverse_cons]; exact List.mem_append_left _ hy)
    have h2 := sumK_rev hK h3
    have h4 := (sum_pos h3).1
    simp only [List.reverse_cons, sum_snoc]
    simp only [cap, List.map_append, List.map_cons, List.map_nil, sumK_snoc] at h2 ⊢
    rw [h2]; omega
theorem sumK_cap {K K' : Int} (hK : 0 ≤ K) {v : List Int} (h : InK K' v) : sumK K (cap K v) = min K v.sum := by
  have := sumK_rev (K' := K') hK (v := v.reverse) (by simpa using h)
  simpa using this
theorem sumK_in {K' : Int} (hK : 0 ≤ K) : ∀ {v : List Int}, InK K' v.reverse → 0 ≤ sumK K v.reverse ∧ sumK K v.reverse ≤ K
  | [], _ => by simp [sumK]; exact hK
  | x :: v, h => by
    have h1 := h x (by rw [List.reverse_cons]; exact List.mem_append_right _ (by simp))
    have h3 : InK K' v.reverse := fun y hy => h y (by rw [List.reverse_cons]; exact List.mem_append_left _ hy)
    have h2 := sumK_in hK h3
    simp only [List.reverse_cons, sumK_snoc]
    omega
theorem sumK_le {K' : Int} (hK : 0 ≤ K) {v : List Int} (h : InK K' v) : 0 ≤ sumK K v ∧ sumK K v ≤ K := by
  have := sumK_in (K' := K') hK (v := v.reverse) (by simpa using h)
  simpa using this

def cpB (r : RGraph) (s : Int) : Bool := goodReach r && decide (0 ≤ s ∧ s ≤ 12)
def cpS (r : RGraph) (s : Int) : Int := (cntV 2000000 r.moves r.marks.length s.toNat).sum
def cpO (r : RGraph) (s : Int) : Bool := cpB r s && decide (cpS r s ≤ 1000000)
def cpN (r : RGraph) (s : Int) : Int := if cpO r s then cpS r s else 0
theorem cp_spec (r : RGraph) (s : Int) : sumK 1000001 (cntV 1000001 r.moves r.marks.length s.toNat) = min 1000001 (cpS r s) := by
  rw [← cntV_cap (K := 1000001) (K' := 2000000) (by omega) (by omega), sumK_cap (K' := 2000000) (by omega) (cntV_in (by omega) _ _ _), cpS]

end
/-! ### The walks -/

theorem l1Least_f (a b : Int) : Fn Try.prog 84 [.lit (.int .i64 a), .lit (.int .i64 b)] (.lit (.int .i64 (min a b))) [] := by
  refine Fn_of Try.func84 rfl (by kernel_rfl) rfl rfl ?_
  intro w0 A hin
  repeat' (first | refine goZ ?_ | ((first | refine R_cond rfl (fun hq => ?_) fun hq => ?_ | refine R_guardT rfl rfl rfl (fun hq => ?_) fun hq => ?_ | refine R_guardF rfl rfl rfl (fun hq => ?_) fun hq => ?_ | refine D_guardT rfl rfl rfl (fun hq => ?_) fun hq => ?_ | refine D_guardF rfl rfl rfl (fun hq => ?_) fun hq => ?_) <;> (try rw [hq]) <;> first | have hp := of_decide_eq_true hq | have hp := of_decide_eq_false hq | have hp := of_decide_eq_false (not_t hq) | have hp := of_decide_eq_true (not_f hq) | have hp := hq))
  · exact ret_int' rfl (by omega)
  · exact ret_int' rfl (by omega)
theorem addM_at {K : Int} {v u : List Int} {l : List Mv} {j : Nat} (h : j < l.length) : (l.take (j + 1)).foldl (addM K v) u = addM K v ((l.take j).foldl (addM K v) u) (nth l j) := by
  rw [take_nth h, List.foldl_append]; rfl

set_option maxHeartbeats 4000000 in
theorem CountPaths_f (r : RGraph) (s : Int) : Fn Try.prog 25 [.agg (dRGraph r), .lit (.int .i64 s)] (.tup [.lit (.int .i64 (cpN r s)), .lit (.bool (cpO r s))]) [] := by
  refine Fn_of Try.func25 rfl (by kernel_rfl) rfl rfl ?_
  intro w0 A hin
  have hV := isReach_f r
  have hzs := len_strs r.marks
  have hzm := len_dMv r.moves
  cases hg : goodReach r <;> rw [hg] at hV
  · repeat' (first | refine goZ ?_ | refine R_callZ rfl (hV) rfl rfl rfl ?_ | refine R_callvZ rfl (hV) rfl rfl rfl rfl ?_ | refine D_callZ rfl (hV) rfl rfl rfl ?_ | ((first | refine R_cond rfl (fun hq => ?_) fun hq => ?_ | refine R_guardT rfl rfl rfl (fun hq => ?_) fun hq => ?_ | refine R_guardF rfl rfl rfl (fun hq => ?_) fun hq => ?_ | refine D_guardT rfl rfl rfl (fun hq => ?_) fun hq => ?_ | refine D_guardF rfl rfl rfl (fun hq => ?_) fun hq => ?_) <;> (try rw [hq]) <;> first | have hp := of_decide_eq_true hq | have hp := of_decide_eq_false hq | have hp := of_decide_eq_false (not_t hq) | have hp := of_decide_eq_true (not_f hq) | have hp := hq))
    exact ret_lit2 rfl (by simp [cpN, cpO, cpB, hg]) (by simp [cpO, cpB, hg])
  obtain ⟨h1, h2, h3⟩ := goodReach_len hg
  have hmv := goodReach_mv hg
  have e0 : List.replicate (strs r.marks).length [D.lit (.int .i64 0)] = ints (List.replicate r.marks.length 0) := by rw [hzs]; simp [ints]
  have hz0 := len_ints (List.replicate r.marks.length 0)
  have hz1 : (List.replicate r.marks.length (0 : Int)).length = r.marks.length := List.length_replicate
  have hI := within_f s 0 12
  cases hb : decide (0 ≤ s ∧ s ≤ 12) <;> rw [hb] at hI
  · repeat' (first | refine goZ ?_ | refine R_callZ rfl (hV) rfl rfl rfl ?_ | refine R_callZ rfl (hI) rfl rfl rfl ?_ | refine R_callvZ rfl (hV) rfl rfl rfl rfl ?_ | refine R_callvZ rfl (hI) rfl rfl rfl rfl ?_ | refine D_callZ rfl (hV) rfl rfl rfl ?_ | refine D_callZ rfl (hI) rfl rfl rfl ?_ | ((first | refine R_cond rfl (fun hq => ?_) fun hq => ?_ | refine R_guardT rfl rfl rfl (fun hq => ?_) fun hq => ?_ | refine R_guardF rfl rfl rfl (fun hq => ?_) fun hq => ?_ | refine D_guardT rfl rfl rfl (fun hq => ?_) fun hq => ?_ | refine D_guardF rfl rfl rfl (fun hq => ?_) fun hq => ?_) <;> (try rw [hq]) <;> first | have hp := of_decide_eq_true hq | have hp := of_decide_eq_false hq | have hp := of_decide_eq_false (not_t hq) | have hp := of_decide_eq_true (not_f hq) | have hp := hq))
    exact ret_lit2 rfl (by simp only [cpN, cpO, cpB, hg, hb]; rfl) (by simp only [cpO, cpB, hg, hb]; rfl)
  have hb' := of_decide_eq_true hb
  repeat' (first | (refine R_makeZ tabOk rfl rfl rfl rfl rfl rfl rfl rfl rfl rfl rfl (by omega) ?_; rw [e0]) | refine go1 ?_ | refine R_callZ rfl (hV) rfl rfl rfl ?_ | refine R_callZ rfl (hI) rfl rfl rfl ?_ | refine R_callvZ rfl (hV) rfl rfl rfl rfl ?_ | refine R_callvZ rfl (hI) rfl rfl rfl rfl ?_ | refine D_callZ rfl (hV) rfl rfl rfl ?_ | refine D_callZ rfl (hI) rfl rfl rfl ?_ | ((first | refine R_cond rfl (fun hq => ?_) fun hq => ?_ | refine R_guardT rfl rfl rfl (fun hq => ?_) fun hq => ?_ | refine R_guardF rfl rfl rfl (fun hq => ?_) fun hq => ?_ | refine D_guardT rfl rfl rfl (fun hq => ?_) fun hq => ?_ | refine D_guardF rfl rfl rfl (fun hq => ?_) fun hq => ?_) <;> (try rw [hq]) <;> first | have hp := of_decide_eq_true hq | have hp := of_decide_eq_false hq | have hp := of_decide_eq_false (not_t hq) | have hp := of_decide_eq_true (not_f hq) | have hp := hq))
  refine W_loop (fun k : Nat => ⟨_, [(2, .ptr 0 0), (6, .own 1), (27, .lit (.int .i64 s)), (28, .lit (.int .i64 k))], [.cells 44 (dRGraph r), .arr 3 1 (ints (cntV 2000000 r.moves r.marks.length k)) true]⟩) (fun k => (k : Int) ≤ s) (fun k => s.toNat - k) 0 (by omega) (weakZ []) ?_
  intro k hk
  have hv1 := cntV_len 2000000 r.moves r.marks.length k
  have hv2 : InK 2000000 (cntV 2000000 r.moves r.marks.length k) := cntV_in (by omega) _ _ _
  have hv3 : cntV 2000000 r.moves r.marks.length (k + 1) = stepV 2000000 r.moves (cntV 2000000 r.moves r.marks.length k) := rfl
  have hcp : (k : Int) = s → cpS r s = (cntV 2000000 r.moves r.marks.length k).sum := fun h => by rw [cpS, show s.toNat = k by omega]
  generalize cntV 2000000 r.moves r.marks.length k = v at hv1 hv2 hv3 hcp ⊢
  have hv4 := len_ints v
  repeat' (first | (refine R_makeZ tabOk rfl rfl rfl rfl rfl rfl rfl rfl rfl rfl rfl (by omega) ?_; rw [e0]) | refine go1 ?_ | ((first | refine R_cond rfl (fun hq => ?_) fun hq => ?_ | refine R_guardT rfl rfl rfl (fun hq => ?_) fun hq => ?_ | refine R_guardF rfl rfl rfl (fun hq => ?_) fun hq => ?_ | refine D_guardT rfl rfl rfl (fun hq => ?_) fun hq => ?_ | refine D_guardF rfl rfl rfl (fun hq => ?_) fun hq => ?_) <;> (try rw [hq]) <;> first | have hp := of_decide_eq_true hq | have hp := of_decide_eq_false hq | have hp := of_decide_eq_false (not_t hq) | have hp := of_decide_eq_true (not_f hq) | have hp := hq))
  · refine W_loop (fun j : Nat => ⟨_, [(2, .ptr 0 0), (6, .own 1), (7, .own 2), (27, .lit (.int .i64 s)), (28, .lit (.int .i64 k)), (35, .sh 3 (r.moves.map dMv)), (36, .lit (.int .i64 r.moves.length)), (37, .lit (.int .i64 j))], [.cells 44 (dRGraph r), .arr 3 1 (ints v) true, .arr 3 1 (ints ((r.moves.take j).foldl (addM 2000000 v) (List.replicate r.marks.length 0))) true]⟩) (fun j => j ≤ r.moves.length) (fun j => r.moves.length - j) 0 (Nat.zero_le _) (weakZ []) ?_
    intro j hj
    have hu1 := fold_len 2000000 v (r.moves.take j) (List.replicate r.marks.length 0)
    have hu2 := hv2.fold (by omega) (r.moves.take j) (InK.zero (K := 2000000) (by omega) r.marks.length)
    have hu3 : j < r.moves.length → (r.moves.take (j + 1)).foldl (addM 2000000 v) (List.replicate r.marks.length 0) = addM 2000000 v ((r.moves.take j).foldl (addM 2000000 v) (List.replicate r.marks.length 0)) (nth r.moves j) := fun h => addM_at h
    have hu5 : j = r.moves.length → (r.moves.take j).foldl (addM 2000000 v) (List.replicate r.marks.length 0) = stepV 2000000 r.moves v := fun h => by rw [h, List.take_length, stepV, hv1]
    generalize (r.moves.take j).foldl (addM 2000000 v) (List.replicate r.marks.length 0) = u at hu1 hu2 hu3 hu5 ⊢
    have hu4 := len_ints u
    have hm : j < r.moves.length → _ := fun h => hmv _ (nth_mem h)
    have hb1 := hu2.at (by omega) (nth r.moves j).dst.toNat
    have hb2 := hv2.at (by omega) (nth r.moves j).src.toNat
    repeat' (first | refine goZ ?_ | ((first | refine R_cond rfl (fun hq => ?_) fun hq => ?_ | refine R_guardT rfl rfl rfl (fun hq => ?_) fun hq => ?_ | refine R_guardF rfl rfl rfl (fun hq => ?_) fun hq => ?_ | refine D_guardT rfl rfl rfl (fun hq => ?_) fun hq => ?_ | refine D_guardF rfl rfl rfl (fun hq => ?_) fun hq => ?_) <;> (try rw [hq]) <;> first | have hp := of_decide_eq_true hq | have hp := of_decide_eq_false hq | have hp := of_decide_eq_false (not_t hq) | have hp := of_decide_eq_true (not_f hq) | have hp := hq))
    · refine ⟨j + 1, by omega, by omega, ?_⟩
      rw [hu3 (by omega)]
      exact weakZ _
    · refine ⟨k + 1, by omega, by omega, ?_⟩
      rw [hv3, ← hu5 (by omega)]
      refine Weak_ren [some 0, some 2] rfl rfl ?_ ?_ <;> (repeat' (first | exact trivial | rfl | refine And.intro ?_ ?_ | (simp [St.get, look, ints, strs, bools]; done))) <;> done
  · have hks : (k : Int) = s := by omega
    have hs5 := sum_pos hv2
    refine W_loop (fun j : Nat => ⟨_, [(10, .lit (.int .i64 ((v.take j).sum))), (60, .own 1), (61, .lit (.int .i64 v.length)), (62, .lit (.int .i64 j))], [.cells 44 (dRGraph r), .arr 3 1 (ints v) true]⟩) (fun j => j ≤ v.length) (fun j => v.length - j) 0 (Nat.zero_le _) (weakZ []) ?_
    intro j hj
    have ht1 : InK 2000000 (v.take j) := fun x hx => hv2 x (List.mem_of_mem_take hx)
    have ht2 := sum_pos ht1
    have ht3 := hv2.at (by omega) j
    have ht4 : (v.take j).length ≤ 300 := by simp; omega
    have ht5 : j < v.length → (v.take (j + 1)).sum = (v.take j).sum + nth v j := fun h => by rw [take_nth h, sum_snoc]
    have ht6 : j = v.length → (v.take j).sum = cpS r s := fun h => by rw [h, List.take_length, hcp hks]
    repeat' (first | refine goZ ?_ | ((first | refine R_cond rfl (fun hq => ?_) fun hq => ?_ | refine R_guardT rfl rfl rfl (fun hq => ?_) fun hq => ?_ | refine R_guardF rfl rfl rfl (fun hq => ?_) fun hq => ?_ | refine D_guardT rfl rfl rfl (fun hq => ?_) fun hq => ?_ | refine D_guardF rfl rfl rfl (fun hq => ?_) fun hq => ?_) <;> (try rw [hq]) <;> first | have hp := of_decide_eq_true hq | have hp := of_decide_eq_false hq | have hp := of_decide_eq_false (not_t hq) | have hp := of_decide_eq_true (not_f hq) | have hp := hq))
    · refine ⟨j + 1, by omega, by omega, ?_⟩
      rw [ht5 (by omega)]
      exact weakZ _
    · have e := ht6 (by omega)
      rw [e] at hp
      exact ret_lit2 rfl (by simp only [cpN, cpO, cpB, hg, hb]; simp [show ¬ cpS r s ≤ 1000000 by omega]) (by simp only [cpO, cpB, hg, hb]; simp; omega)
    · have e := ht6 (by omega)
      rw [e] at hp
      exact ret_lit2 rfl (by rw [e]; simp only [cpN, cpO, cpB, hg, hb]; simp; omega) (by simp only [cpO, cpB, hg, hb]; simp; omega)
set_option maxHeartbeats 4000000 in
theorem specCountPaths_f (r : RGraph) (s : Int) : Fn Try.prog 23 [.agg (dRGraph r), .lit (.int .i64 s)] (.tup [.lit (.int .i64 (cpN r s)), .lit (.bool (cpO r s))]) [] := by
  refine Fn_of Try.func23 rfl (by kernel_rfl) rfl rfl ?_
  intro w0 A hin
  have hV := l4Good_f r
  have hzs := len_strs r.marks
  have hzm := len_dMv r.moves
  cases hg : goodReach r <;> rw [hg] at hV
  · repeat' (first | refine goZ ?_ | refine R_callZ rfl (hV) rfl rfl rfl ?_ | refine R_callvZ rfl (hV) rfl rfl rfl rfl ?_ | refine D_callZ rfl (hV) rfl rfl rfl ?_ | ((first | refine R_cond rfl (fun hq => ?_) fun hq => ?_ | refine R_guardT rfl rfl rfl (fun hq => ?_) fun hq => ?_ | refine R_guardF rfl rfl rfl (fun hq => ?_) fun hq => ?_ | refine D_guardT rfl rfl rfl (fun hq => ?_) fun hq => ?_ | refine D_guardF rfl rfl rfl (fun hq => ?_) fun hq => ?_) <;> (try rw [hq]) <;> first | have hp := of_decide_eq_true hq | have hp := of_decide_eq_false hq | have hp := of_decide_eq_false (not_t hq) | have hp := of_decide_eq_true (not_f hq) | have hp := hq))
    exact ret_lit2 rfl (by simp [cpN, cpO, cpB, hg]) (by simp [cpO, cpB, hg])
  obtain ⟨h1, h2, h3⟩ := goodReach_len hg
  have hmv := goodReach_mv hg
  have e0 : List.replicate (strs r.marks).length [D.lit (.int .i64 0)] = ints (List.replicate r.marks.length 0) := by rw [hzs]; simp [ints]
  have hz0 := len_ints (List.replicate r.marks.length 0)
  have hz1 : (List.replicate r.marks.length (0 : Int)).length = r.marks.length := List.length_replicate
  have hI := l1In_f s 0 12
  cases hb : decide (0 ≤ s ∧ s ≤ 12) <;> rw [hb] at hI
  · repeat' (first | refine goZ ?_ | refine R_callZ rfl (hV) rfl rfl rfl ?_ | refine R_callZ rfl (hI) rfl rfl rfl ?_ | refine R_callvZ rfl (hV) rfl rfl rfl rfl ?_ | refine R_callvZ rfl (hI) rfl rfl rfl rfl ?_ | refine D_callZ rfl (hV) rfl rfl rfl ?_ | refine D_callZ rfl (hI) rfl rfl rfl ?_ | ((first | refine R_cond rfl (fun hq => ?_) fun hq => ?_ | refine R_guardT rfl rfl rfl (fun hq => ?_) fun hq => ?_ | refine R_guardF rfl rfl rfl (fun hq => ?_) fun hq => ?_ | refine D_guardT rfl rfl rfl (fun hq => ?_) fun hq => ?_ | refine D_guardF rfl rfl rfl (fun hq => ?_) fun hq => ?_) <;> (try rw [hq]) <;> first | have hp := of_decide_eq_true hq | have hp := of_decide_eq_false hq | have hp := of_decide_eq_false (not_t hq) | have hp := of_decide_eq_true (not_f hq) | have hp := hq))
    exact ret_lit2 rfl (by simp only [cpN, cpO, cpB, hg, hb]; rfl) (by simp only [cpO, cpB, hg, hb]; rfl)
  have hb' := of_decide_eq_true hb
  repeat' (first | (refine R_makeZ tabOk rfl rfl rfl rfl rfl rfl rfl rfl rfl rfl rfl (by omega) ?_; rw [e0]) | refine go1 ?_ | refine R_callZ rfl (hV) rfl rfl rfl ?_ | refine R_callZ rfl (hI) rfl rfl rfl ?_ | refine R_callvZ rfl (hV) rfl rfl rfl rfl ?_ | refine R_callvZ rfl (hI) rfl rfl rfl rfl ?_ | refine D_callZ rfl (hV) rfl rfl rfl ?_ | refine D_callZ rfl (hI) rfl rfl rfl ?_ | ((first | refine R_cond rfl (fun hq => ?_) fun hq => ?_ | refine R_guardT rfl rfl rfl (fun hq => ?_) fun hq => ?_ | refine R_guardF rfl rfl rfl (fun hq => ?_) fun hq => ?_ | refine D_guardT rfl rfl rfl (fun hq => ?_) fun hq => ?_ | refine D_guardF rfl rfl rfl (fun hq => ?_) fun hq => ?_) <;> (try rw [hq]) <;> first | have hp := of_decide_eq_true hq | have hp := of_decide_eq_false hq | have hp := of_decide_eq_false (not_t hq) | have hp := of_decide_eq_true (not_f hq) | have hp := hq))
  refine W_loop (fun k : Nat => ⟨_, [(1, .lit (.int .i64 (s - k))), (2, .ptr 0 0), (6, .own 1)], [.cells 44 (dRGraph r), .arr 3 1 (ints (cntV 1000001 r.moves r.marks.length k)) true]⟩) (fun k => (k : Int) ≤ s) (fun k => s.toNat - k) 0 (by omega) (by rw [show s - ((0 : Nat) : Int) = s by omega]; exact weakZ []) ?_
  intro k hk
  have hv1 := cntV_len 1000001 r.moves r.marks.length k
  have hv2 : InK 1000001 (cntV 1000001 r.moves r.marks.length k) := cntV_in (by omega) _ _ _
  have hv3 : cntV 1000001 r.moves r.marks.length (k + 1) = stepV 1000001 r.moves (cntV 1000001 r.moves r.marks.length k) := rfl
  have hcp : (k : Int) = s → sumK 1000001 (cntV 1000001 r.moves r.marks.length k) = min 1000001 (cpS r s) := fun h => by rw [← cp_spec, show s.toNat = k by omega]
  generalize cntV 1000001 r.moves r.marks.length k = v at hv1 hv2 hv3 hcp ⊢
  have hv4 := len_ints v
  have e1 : List.replicate (ints v).length [D.lit (.int .i64 0)] = ints (List.replicate r.marks.length 0) := by rw [hv4, hv1]; simp [ints]
  repeat' (first | (refine R_makeZ tabOk rfl rfl rfl rfl rfl rfl rfl rfl rfl rfl rfl (by omega) ?_; rw [e1]) | refine go1 ?_ | ((first | refine R_cond rfl (fun hq => ?_) fun hq => ?_ | refine R_guardT rfl rfl rfl (fun hq => ?_) fun hq => ?_ | refine R_guardF rfl rfl rfl (fun hq => ?_) fun hq => ?_ | refine D_guardT rfl rfl rfl (fun hq => ?_) fun hq => ?_ | refine D_guardF rfl rfl rfl (fun hq => ?_) fun hq => ?_) <;> (try rw [hq]) <;> first | have hp := of_decide_eq_true hq | have hp := of_decide_eq_false hq | have hp := of_decide_eq_false (not_t hq) | have hp := of_decide_eq_true (not_f hq) | have hp := hq))
  · refine W_loop (fun j : Nat => ⟨_, [(1, .lit (.int .i64 (s - k))), (2, .ptr 0 0), (6, .own 1), (7, .own 2), (35, .sh 3 (r.moves.map dMv)), (36, .lit (.int .i64 r.moves.length)), (37, .lit (.int .i64 j))], [.cells 44 (dRGraph r), .arr 3 1 (ints v) true, .arr 3 1 (ints ((r.moves.take j).foldl (addM 1000001 v) (List.replicate r.marks.length 0))) true]⟩) (fun j => j ≤ r.moves.length) (fun j => r.moves.length - j) 0 (Nat.zero_le _) (weakZ []) ?_
    intro j hj
    have hu1 := fold_len 1000001 v (r.moves.take j) (List.replicate r.marks.length 0)
    have hu2 := hv2.fold (by omega) (r.moves.take j) (InK.zero (K := 1000001) (by omega) r.marks.length)
    have hu3 : j < r.moves.length → (r.moves.take (j + 1)).foldl (addM 1000001 v) (List.replicate r.marks.length 0) = addM 1000001 v ((r.moves.take j).foldl (addM 1000001 v) (List.replicate r.marks.length 0)) (nth r.moves j) := fun h => addM_at h
    have hu5 : j = r.moves.length → (r.moves.take j).foldl (addM 1000001 v) (List.replicate r.marks.length 0) = stepV 1000001 r.moves v := fun h => by rw [h, List.take_length, stepV, hv1]
    generalize (r.moves.take j).foldl (addM 1000001 v) (List.replicate r.marks.length 0) = u at hu1 hu2 hu3 hu5 ⊢
    have hu4 := len_ints u
    have hm : j < r.moves.length → _ := fun h => hmv _ (nth_mem h)
    have hb1 := hu2.at (by omega) (nth r.moves j).dst.toNat
    have hb2 := hv2.at (by omega) (nth r.moves j).src.toNat
    repeat' (first | refine goZ ?_ | refine R_callZ rfl (l1Least_f _ _) rfl rfl rfl ?_ | refine R_callvZ rfl (l1Least_f _ _) rfl rfl rfl rfl ?_ | refine D_callZ rfl (l1Least_f _ _) rfl rfl rfl ?_ | ((first | refine R_cond rfl (fun hq => ?_) fun hq => ?_ | refine R_guardT rfl rfl rfl (fun hq => ?_) fun hq => ?_ | refine R_guardF rfl rfl rfl (fun hq => ?_) fun hq => ?_ | refine D_guardT rfl rfl rfl (fun hq => ?_) fun hq => ?_ | refine D_guardF rfl rfl rfl (fun hq => ?_) fun hq => ?_) <;> (try rw [hq]) <;> first | have hp := of_decide_eq_true hq | have hp := of_decide_eq_false hq | have hp := of_decide_eq_false (not_t hq) | have hp := of_decide_eq_true (not_f hq) | have hp := hq))
    · refine ⟨j + 1, by omega, by omega, ?_⟩
      rw [hu3 (by omega), addM, Int.min_comm]
      exact weakZ _
    · refine ⟨k + 1, by omega, by omega, ?_⟩
      rw [hv3, ← hu5 (by omega), show s - ((k + 1 : Nat) : Int) = s - k - 1 by omega]
      refine Weak_ren [some 0, some 2] rfl rfl ?_ ?_ <;> (repeat' (first | exact trivial | rfl | refine And.intro ?_ ?_ | (simp [St.get, look, ints, strs, bools]; done))) <;> done
  · have hks : (k : Int) = s := by omega
    refine W_loop (fun j : Nat => ⟨_, [(10, .lit (.int .i64 (sumK 1000001 (v.take j)))), (59, .own 1), (60, .lit (.int .i64 v.length)), (61, .lit (.int .i64 j))], [.cells 44 (dRGraph r), .arr 3 1 (ints v) true]⟩) (fun j => j ≤ v.length) (fun j => v.length - j) 0 (Nat.zero_le _) (weakZ []) ?_
    intro j hj
    have ht1 : InK 1000001 (v.take j) := fun x hx => hv2 x (List.mem_of_mem_take hx)
    have ht2 := sumK_le (K := 1000001) (by omega) ht1
    have ht3 := hv2.at (by omega) j
    have ht5 : j < v.length → sumK 1000001 (v.take (j + 1)) = min 1000001 (sumK 1000001 (v.take j) + nth v j) := fun h => by rw [take_nth h, sumK_snoc]
    have ht6 : j = v.length → sumK 1000001 (v.take j) = min 1000001 (cpS r s) := fun h => by rw [h, List.take_length, hcp hks]
    repeat' (first | refine goZ ?_ | refine R_callZ rfl (l1Least_f _ _) rfl rfl rfl ?_ | refine R_callvZ rfl (l1Least_f _ _) rfl rfl rfl rfl ?_ | refine D_callZ rfl (l1Least_f _ _) rfl rfl rfl ?_ | ((first | refine R_cond rfl (fun hq => ?_) fun hq => ?_ | refine R_guardT rfl rfl rfl (fun hq => ?_) fun hq => ?_ | refine R_guardF rfl rfl rfl (fun hq => ?_) fun hq => ?_ | refine D_guardT rfl rfl rfl (fun hq => ?_) fun hq => ?_ | refine D_guardF rfl rfl rfl (fun hq => ?_) fun hq => ?_) <;> (try rw [hq]) <;> first | have hp := of_decide_eq_true hq | have hp := of_decide_eq_false hq | have hp := of_decide_eq_false (not_t hq) | have hp := of_decide_eq_true (not_f hq) | have hp := hq))
    · refine ⟨j + 1, by omega, by omega, ?_⟩
      rw [ht5 (by omega)]
      exact weakZ _
    · have e := ht6 (by omega)
      rw [e] at hp
      exact ret_lit2 rfl (by simp only [cpN, cpO, cpB, hg, hb]; simp [show ¬ cpS r s ≤ 1000000 by omega]) (by simp only [cpO, cpB, hg, hb]; simp; omega)
    · have e := ht6 (by omega)
      rw [e] at hp
      exact ret_lit2 rfl (by rw [e]; simp only [cpN, cpO, cpB, hg, hb]; simp [show cpS r s ≤ 1000000 by omega]; omega) (by simp only [cpO, cpB, hg, hb]; simp; omega)
end Go.Proofs.Ytodjjabmaleggaa
