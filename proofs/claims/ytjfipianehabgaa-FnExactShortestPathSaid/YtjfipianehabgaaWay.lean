/- Shortest ways: what the program's functions hand back. No condition. -/
import Derived.Test.YtjfipianehabgaaPath
import Derived.Test.YtjfipianehabgaaDist
import Derived.Test.YtjfipianehabgaaInp
import Derived.Test.YtjfipianehabgaaHome
import Derived.Shelf.Slices.Reverse
import Derived.Test.YtjfipianehabgaaLayRev
set_option linter.unusedSimpArgs false
set_option linter.unusedVariables false
set_option maxHeartbeats 2000000
namespace Go.Proofs.Ytjfipianehabgaa
open Go.ChangeShapes Go.WideShapes Go.ChangeAt Go.RowKit

theorem Reverse_I (l : List Int) (hl : l.length ≤ 1000000) : InpI Try.prog 173 l l.reverse none := by
  refine ⟨plain_of Try.func173 (by kernel_rfl) (by kernel_rfl), by simp, by simp, fun x hx => Or.inr (by simpa using hx), fun w g cap hg hH hc hm => ?_, fun _ w => ?_⟩
  · refine (Any.slices_Reverse_int layRev g 0 cap l w hH (by omega)).mono ?_
    rintro e w' ⟨h1, q, h2⟩
    exact ⟨h1, q, #[], by rw [Go.Sort.grow_empty]; exact h2⟩
  · refine (Any.slices_Reverse_int_empty layRev none 0 w).mono ?_
    rintro e w' ⟨h1, h2⟩
    exact ⟨h1, h2⟩

theorem IndexFunc2_St_f (l : List (Int × Int)) (p : Int × Int → Bool) (fid : FuncId) (cs cs' : List D) (hp : ∀ x ∈ l, Fn Try.prog fid [.agg (dSt x), .sptr cs, .sptr cs'] (.lit (.bool (p x))) []) : Fn Try.prog 171 [.sh 2 (l.map dSt), .fn fid [.sptr cs, .sptr cs']] (.lit (.int .i64 (findIx p l))) [] := by
  refine Fn_of Try.func171 rfl (by kernel_rfl) rfl rfl ?_
  intro w0 A hin
  have hl := given_len hin (i := 0) rfl
  rw [len_dSt] at hl
  have hF := fun k (hk : k < l.length) => hp _ (nth_mem hk)
  clear hp
  repeat' (first | refine goZ ?_ | ((first | refine R_cond rfl (fun hq => ?_) fun hq => ?_ | refine R_guardT rfl rfl rfl (fun hq => ?_) fun hq => ?_ | refine R_guardF rfl rfl rfl (fun hq => ?_) fun hq => ?_ | refine D_guardT rfl rfl rfl (fun hq => ?_) fun hq => ?_ | refine D_guardF rfl rfl rfl (fun hq => ?_) fun hq => ?_) <;> (try rw [hq]) <;> first | have hp := of_decide_eq_true hq | have hp := of_decide_eq_false hq | have hp := of_decide_eq_false (not_t hq) | have hp := of_decide_eq_true (not_f hq) | have hp := hq))
  refine W_loop (fun k : Nat => ⟨_, [(0, .sh 2 (l.map dSt)), (1, .fn fid [.sptr cs, .sptr cs']), (7, .lit (.int .i64 l.length)), (8, .lit (.int .i64 k))], []⟩) (fun k => k ≤ l.length ∧ ∀ j, j < k → p (nth l j) = false) (fun k => l.length - k) 0 ⟨Nat.zero_le _, by omega⟩ (weakZ []) ?_
  rintro k ⟨hk, hj⟩
  repeat' (first | refine goZ ?_ | refine R_callZ rfl (hF _ (by omega)) rfl rfl rfl ?_ | refine R_callvZ rfl (hF _ (by omega)) rfl rfl rfl rfl ?_ | refine D_callZ rfl (hF _ (by omega)) rfl rfl rfl ?_ | ((first | refine R_cond rfl (fun hq => ?_) fun hq => ?_ | refine R_guardT rfl rfl rfl (fun hq => ?_) fun hq => ?_ | refine R_guardF rfl rfl rfl (fun hq => ?_) fun hq => ?_ | refine D_guardT rfl rfl rfl (fun hq => ?_) fun hq => ?_ | refine D_guardF rfl rfl rfl (fun hq => ?_) fun hq => ?_) <;> (try rw [hq]) <;> first | have hp := of_decide_eq_true hq | have hp := of_decide_eq_false hq | have hp := of_decide_eq_false (not_t hq) | have hp := of_decide_eq_true (not_f hq) | have hp := hq))
  · exact ret_int' rfl (findIx_at p (by omega) hj hq).symm
  · exact ⟨k + 1, ⟨by omega, fun j hj' => by by_cases e : j = k; (rw [e]; exact hq); exact hj j (by omega)⟩, by omega, weakZ _⟩
  · exact ret_int' rfl (findIx_not p (allN fun j h => hj j (by omega))).symm

theorem shortest1_f (n : Nat) (E : List (Int × Int)) (k : Int) (d : Nat) (e : Int × Int) (he : 0 ≤ e.1 ∧ e.1 < n) (hk : 0 ≤ k ∧ k < n) (hd : dist E 0 k = (d : Int) + 1) (hn : n ≤ 300) (hdn : d ≤ 300) : Fn Try.prog 172 [.agg (dSt e), .sptr [.lit (.int .i64 k)], .sptr [.sh 1 (ints (distL n E 0))]] (.lit (.bool (comeP E d k e))) [] := by
  refine Fn_of Try.func172 rfl (by kernel_rfl) rfl rfl ?_
  intro w0 A hin
  have hl := len_ints (distL n E 0)
  have hl2 := distL_len n E 0
  have h1 : nth (distL n E 0) e.1.toNat = dist E 0 e.1 := by rw [distL_nth (by omega), Int.toNat_of_nonneg he.1]
  have h2 : nth (distL n E 0) k.toNat = (d : Int) + 1 := by rw [distL_nth (by omega), Int.toNat_of_nonneg hk.1, hd]
  repeat' (first | refine goZ ?_ | ((first | refine R_cond rfl (fun hq => ?_) fun hq => ?_ | refine R_guardT rfl rfl rfl (fun hq => ?_) fun hq => ?_ | refine R_guardF rfl rfl rfl (fun hq => ?_) fun hq => ?_ | refine D_guardT rfl rfl rfl (fun hq => ?_) fun hq => ?_ | refine D_guardF rfl rfl rfl (fun hq => ?_) fun hq => ?_) <;> (try rw [hq]) <;> first | have hp := of_decide_eq_true hq | have hp := of_decide_eq_false hq | have hp := of_decide_eq_false (not_t hq) | have hp := of_decide_eq_true (not_f hq) | have hp := hq))
  · exact ret_bool' rfl (by rw [comeP, h1, h2, show ((d : Int) + 1 - 1) = d by omega, decide_eq_true hp, Bool.true_and])
  · exact ret_bool' rfl (by rw [comeP, decide_eq_false hp, Bool.false_and])

/-- The edges of a shortest way, the first one first. -/
noncomputable def pthL (E : List (Int × Int)) (k : Int) : List Int := (wayL E (dist E 0 k).toNat k).reverse

set_option maxHeartbeats 1600000 in
theorem shortest_f (n : Nat) (E : List (Int × Int)) (k : Int) (h1 : 1 ≤ n) (hn : n ≤ 300) (hl : E.length ≤ 4000) (hE : ∀ e ∈ E, (0 ≤ e.1 ∧ e.1 < n) ∧ 0 ≤ e.2 ∧ e.2 < n) (hk : 0 ≤ k ∧ k < n) : Fn Try.prog 87 [.lit (.int .i64 n), .sh 2 (E.map dSt), .lit (.int .i64 k)] (.tup [.own 0, .lit (.bool (decide (0 ≤ dist E 0 k)))]) [.arr 3 1 (ints (pthL E k)) true] := by
  refine Fn_of Try.func87 rfl (by kernel_rfl) rfl rfl ?_
  intro w0 A hin
  have hz := len_dSt E
  have hl1 := len_ints (distL n E 0)
  have hl2 := distL_len n E 0
  have h2 : ∀ k : Int, 0 ≤ k → k < n → nth (distL n E 0) k.toNat = dist E 0 k := fun k h0 h1 => by rw [distL_nth (by omega), Int.toNat_of_nonneg h0]
  have hk0 := h2 k hk.1 hk.2
  have hD := distances_f n E 0 h1 hn hl hE (by omega)
  repeat' (first | refine goZ ?_ | refine R_callZ rfl (hD) rfl rfl rfl ?_ | refine R_callvZ rfl (hD) rfl rfl rfl rfl ?_ | refine D_callZ rfl (hD) rfl rfl rfl ?_ | ((first | refine R_cond rfl (fun hq => ?_) fun hq => ?_ | refine R_guardT rfl rfl rfl (fun hq => ?_) fun hq => ?_ | refine R_guardF rfl rfl rfl (fun hq => ?_) fun hq => ?_ | refine D_guardT rfl rfl rfl (fun hq => ?_) fun hq => ?_ | refine D_guardF rfl rfl rfl (fun hq => ?_) fun hq => ?_) <;> (try rw [hq]) <;> first | have hp := of_decide_eq_true hq | have hp := of_decide_eq_false hq | have hp := of_decide_eq_false (not_t hq) | have hp := of_decide_eq_true (not_f hq) | have hp := hq))
  · exact ret_nil_lit rfl (by rw [pthL, show (dist E 0 k).toNat = 0 by omega]; rfl) (by rw [decide_eq_false (show ¬ 0 ≤ dist E 0 k by omega)])
  have hd0 : 0 ≤ dist E 0 k := by omega
  have hdn : dist E 0 k < n := dist_lt (fun e he => (hE e he).2) (by omega)
  obtain ⟨d0, hd0⟩ : ∃ d0 : Nat, dist E 0 k = d0 := ⟨(dist E 0 k).toNat, by omega⟩
  refine W_loop (fun x : Nat × Int × List Int => ⟨_, [(1, .sh 2 (E.map dSt)), (5, .ptr 0 0), (8, .ptr 3 0), (9, .own 2)], [.cells 3 [.lit (.int .i64 x.2.1)], .arr 3 1 (ints (distL n E 0)) true, .arr 3 1 (ints x.2.2) true, .cells 47 [.own 1]]⟩) (fun x => (0 ≤ x.2.1 ∧ x.2.1 < n) ∧ dist E 0 x.2.1 = (x.1 : Int) ∧ x.2.2 ++ wayL E x.1 x.2.1 = wayL E d0 k) (fun x => x.1) (d0, k, []) ⟨hk, hd0, rfl⟩ (weakZ []) ?_
  rintro ⟨d, k', o⟩ ⟨hk', hd, ho⟩
  dsimp only at hk' hd ho ⊢
  have hkd := h2 k' hk'.1 hk'.2
  have hol : o.length + d = d0 := by have := congrArg List.length ho; simpa [wayL_len] using this
  have hlo := len_ints o
  obtain ⟨ix, hix⟩ : ∃ ix : Nat, ix = (findIx (comeP E ((d - 1 : Nat) : Int) k') E).toNat := ⟨_, rfl⟩
  have hI : 1 ≤ d → ix < E.length ∧ findIx (comeP E ((d - 1 : Nat) : Int) k') E = ix ∧ dist E 0 (nth E ix).1 = ((d - 1 : Nat) : Int) ∧ wayL E d k' = (ix : Int) :: wayL E (d - 1) (nth E ix).1 := fun h => by
    obtain ⟨i, a1, a2, a3, a4, _⟩ := come_ex (E := E) (d := d - 1) (k := k') (by omega)
    have e : ix = i := by rw [hix, a2, Int.toNat_natCast]
    subst e
    refine ⟨a1, a2, a4, ?_⟩
    have e2 : wayL E d k' = wayL E (d - 1 + 1) k' := by rw [show d - 1 + 1 = d by omega]
    rw [e2, wayL, a2, Int.toNat_natCast]
  have hC : 1 ≤ d → Fn Try.prog 171 [.sh 2 (E.map dSt), .fn 172 [.sptr [.lit (.int .i64 k')], .sptr [.sh 1 (ints (distL n E 0))]]] (.lit (.int .i64 ix)) [] := fun h => by
    rw [← (hI h).2.1]
    exact IndexFunc2_St_f E _ _ _ _ fun e he => shortest1_f n E k' (d - 1) e (hE e he).1 hk' (by omega) hn (by omega)
  have hIl : 1 ≤ d → ix < E.length := fun h => (hI h).1
  have hR := Reverse_I o (by omega)
  repeat' (first | refine goZ ?_ | refine R_callZ rfl (hC (by omega)) rfl rfl rfl ?_ | refine R_callvZ rfl (hC (by omega)) rfl rfl rfl rfl ?_ | refine R_inpS rfl hR rfl rfl rfl rfl ?_ | refine R_inpN rfl hR rfl rfl rfl ?_ | refine R_index tabOk rfl rfl rfl rfl rfl (rowAt_nat (hIl (by omega))) ?_ | refine D_callZ rfl (hC (by omega)) rfl rfl rfl ?_ | ((first | refine R_cond rfl (fun hq => ?_) fun hq => ?_ | refine R_guardT rfl rfl rfl (fun hq => ?_) fun hq => ?_ | refine R_guardF rfl rfl rfl (fun hq => ?_) fun hq => ?_ | refine D_guardT rfl rfl rfl (fun hq => ?_) fun hq => ?_ | refine D_guardF rfl rfl rfl (fun hq => ?_) fun hq => ?_) <;> (try rw [hq]) <;> first | have hp := of_decide_eq_true hq | have hp := of_decide_eq_false hq | have hp := of_decide_eq_false (not_t hq) | have hp := of_decide_eq_true (not_f hq) | have hp := hq))
  · have h1d : 1 ≤ d := by omega
    obtain ⟨a1, a2, a3, a4⟩ := hI h1d
    refine ⟨(d - 1, (nth E ix).1, o ++ [(ix : Int)]), ⟨(hE _ (nth_mem a1)).1, a3, by dsimp only; rw [← ho, a4, List.append_assoc]; rfl⟩, by dsimp only; omega, ?_⟩
    simp only [ints_snoc]
    exact weakZ _
  · have hd1 : d = 0 := by omega
    subst hd1
    exact ret_own_lit rfl rfl (by rw [pthL, hd0, Int.toNat_natCast, ← ho, wayL, List.append_nil]) (by rw [decide_eq_true (by omega)])

/-! ### Firing sequences -/
def byL (l : List Mv) (p : List Int) : List Int := p.map fun i => (nth l i.toNat).by_
def kB (r : RGraph) (k : Int) : Bool := goodReach r && decide (0 ≤ k ∧ k ≤ (r.marks.length : Int) - 1)
noncomputable def seqB (r : RGraph) (k : Int) : Bool := kB r k && decide (0 ≤ dist (mvE r.moves) 0 k)
noncomputable def seqL (r : RGraph) (k : Int) : List Int := if seqB r k then byL r.moves (pthL (mvE r.moves) k) else []
theorem pthL_len {E : List (Int × Int)} {k : Int} {n : Nat} (hE : ∀ e ∈ E, (0 ≤ e.1 ∧ e.1 < n) ∧ 0 ≤ e.2 ∧ e.2 < n) (hn : 1 ≤ n) : (pthL E k).length ≤ n := by
  have := dist_lt (E := E) (s := 0) (v := k) (fun e he => (hE e he).2) (show (0 : Int) ≤ 0 ∧ (0 : Int) < n by omega)
  rw [pthL, List.length_reverse, wayL_len]; omega
theorem mvE_ok {r : RGraph} (h : goodReach r = true) : ∀ e ∈ mvE r.moves, (0 ≤ e.1 ∧ e.1 < r.marks.length) ∧ 0 ≤ e.2 ∧ e.2 < r.marks.length := by
  intro e he
  obtain ⟨m, hm, rfl⟩ := List.mem_map.1 he
  have := goodReach_mv h m hm
  exact ⟨this.1, this.2.1⟩
theorem kB_good {r : RGraph} {k : Int} (h : kB r k = true) : goodReach r = true ∧ 0 ≤ k ∧ k < r.marks.length := by
  simp only [kB, Bool.and_eq_true, decide_eq_true_eq] at h
  exact ⟨h.1, by omega, by omega⟩
theorem seqL_len (r : RGraph) (k : Int) : (seqL r k).length ≤ 300 := by
  unfold seqL
  split
  · rename_i h
    simp only [seqB, Bool.and_eq_true] at h
    have hg := kB_good h.1
    have hl := goodReach_len hg.1
    have := pthL_len (k := k) (mvE_ok hg.1) hl.1
    simp only [byL, List.length_map]; omega
  · simp
theorem pthL_in {E : List (Int × Int)} {k : Int} {n : Nat} (hE : ∀ e ∈ E, (0 ≤ e.1 ∧ e.1 < n) ∧ 0 ≤ e.2 ∧ e.2 < n) (h : 0 ≤ dist E 0 k) : ∀ x ∈ pthL E k, 0 ≤ x ∧ x < E.length := by
  intro x hx
  exact wayL_in hE (dist E 0 k).toNat k (by rw [Int.toNat_of_nonneg h]) x (by simpa [pthL] using hx)

set_option maxHeartbeats 1600000 in
theorem ShortestFiringSequence_f (r : RGraph) (k : Int) : Fn Try.prog 23 [.agg (dRGraph r), .lit (.int .i64 k)] (.tup [.own 0, .lit (.bool (seqB r k))]) [.arr 3 1 (ints (seqL r k)) true] := by
  refine Fn_of Try.func23 rfl (by kernel_rfl) rfl rfl ?_
  intro w0 A hin
  have hV := isReach_f r
  have hzs := len_strs r.marks
  have hzm := len_dMv r.moves
  cases hg : goodReach r <;> rw [hg] at hV
  · repeat' (first | refine goZ ?_ | refine R_callZ rfl (hV) rfl rfl rfl ?_ | refine R_callvZ rfl (hV) rfl rfl rfl rfl ?_ | refine D_callZ rfl (hV) rfl rfl rfl ?_ | ((first | refine R_cond rfl (fun hq => ?_) fun hq => ?_ | refine R_guardT rfl rfl rfl (fun hq => ?_) fun hq => ?_ | refine R_guardF rfl rfl rfl (fun hq => ?_) fun hq => ?_ | refine D_guardT rfl rfl rfl (fun hq => ?_) fun hq => ?_ | refine D_guardF rfl rfl rfl (fun hq => ?_) fun hq => ?_) <;> (try rw [hq]) <;> first | have hp := of_decide_eq_true hq | have hp := of_decide_eq_false hq | have hp := of_decide_eq_false (not_t hq) | have hp := of_decide_eq_true (not_f hq) | have hp := hq))
    exact ret_nil_lit rfl (by simp [seqL, seqB, kB, hg, ints]) (by simp [seqB, kB, hg])
  obtain ⟨h1, h2, h3⟩ := goodReach_len hg
  have hE := mvE_ok hg
  have hEl := mvE_len r.moves
  have hz2 := len_dSt (mvE r.moves)
  have hP : 0 ≤ k ∧ k < r.marks.length → _ := fun h => shortest_f (strs r.marks).length (mvE r.moves) k (by omega) (by omega) (by omega) (by rw [hzs]; exact hE) (by omega)
  have hpl := pthL_len (k := k) hE h1
  have hpz := len_ints (pthL (mvE r.moves) k)
  repeat' (first | refine goZ ?_ | refine R_callZ rfl (hV) rfl rfl rfl ?_ | refine R_callZ rfl (within_f _ _ _) rfl rfl rfl ?_ | refine R_callZ rfl (stepsOf_f r (by omega)) rfl rfl rfl ?_ | refine R_callvZ rfl (hV) rfl rfl rfl rfl ?_ | refine R_callvZ rfl (within_f _ _ _) rfl rfl rfl rfl ?_ | refine R_callvZ rfl (stepsOf_f r (by omega)) rfl rfl rfl rfl ?_ | refine D_callZ rfl (hV) rfl rfl rfl ?_ | refine D_callZ rfl (within_f _ _ _) rfl rfl rfl ?_ | refine D_callZ rfl (stepsOf_f r (by omega)) rfl rfl rfl ?_ | refine D_callxZ rfl (hP (by omega)) rfl rfl rfl rfl (by repeat' (first | exact trivial | rfl | refine And.intro ?_ ?_)) ?_ | ((first | refine R_cond rfl (fun hq => ?_) fun hq => ?_ | refine R_guardT rfl rfl rfl (fun hq => ?_) fun hq => ?_ | refine R_guardF rfl rfl rfl (fun hq => ?_) fun hq => ?_ | refine D_guardT rfl rfl rfl (fun hq => ?_) fun hq => ?_ | refine D_guardF rfl rfl rfl (fun hq => ?_) fun hq => ?_) <;> (try rw [hq]) <;> first | have hp := of_decide_eq_true hq | have hp := of_decide_eq_false hq | have hp := of_decide_eq_false (not_t hq) | have hp := of_decide_eq_true (not_f hq) | have hp := hq))
  · have hn : kB r k = false := by rw [kB, hg, Bool.true_and, decide_eq_false_iff_not]; omega
    exact ret_nil_lit rfl (by simp [seqL, seqB, hn, ints]) (by simp [seqB, hn])
  · have hn : seqB r k = false := by rw [seqB, decide_eq_false hp, Bool.and_false]
    exact ret_nil_lit rfl (by simp [seqL, hn, ints]) (by rw [hn])
  have hy : seqB r k = true := by rw [seqB, kB, hg, Bool.true_and, Bool.and_eq_true, decide_eq_true_eq, decide_eq_true_eq]; omega
  have hpi := pthL_in hE hp
  refine W_loop (fun j : Nat => ⟨_, [(2, .ptr 0 0), (8, .own 3), (36, .own 2), (37, .lit (.int .i64 (pthL (mvE r.moves) k).length)), (38, .lit (.int .i64 j))], [.cells 52 (dRGraph r), .arr 209 2 ((mvE r.moves).map dSt) true, .arr 3 1 (ints (pthL (mvE r.moves) k)) true, .arr 3 1 (ints (byL r.moves ((pthL (mvE r.moves) k).take j))) true]⟩) (fun j => j ≤ (pthL (mvE r.moves) k).length) (fun j => (pthL (mvE r.moves) k).length - j) 0 (Nat.zero_le _) (by rw [← hpz]; exact weakZ []) ?_
  intro j hj
  have hb1 : (byL r.moves ((pthL (mvE r.moves) k).take j)).length ≤ j := by simp [byL]; omega
  have hx : j < (pthL (mvE r.moves) k).length → _ := fun h => hpi _ (nth_mem h)
  have hx2 : j < (pthL (mvE r.moves) k).length → 0 ≤ nth (pthL (mvE r.moves) k) j ∧ nth (pthL (mvE r.moves) k) j < r.moves.length := fun h => by have := hx h; omega
  repeat' (first | refine goZ ?_ | refine R_index tabOk rfl rfl rfl rfl rfl (rowAt_int (hx2 (by omega)).1 (hx2 (by omega)).2) ?_ | ((first | refine R_cond rfl (fun hq => ?_) fun hq => ?_ | refine R_guardT rfl rfl rfl (fun hq => ?_) fun hq => ?_ | refine R_guardF rfl rfl rfl (fun hq => ?_) fun hq => ?_ | refine D_guardT rfl rfl rfl (fun hq => ?_) fun hq => ?_ | refine D_guardF rfl rfl rfl (fun hq => ?_) fun hq => ?_) <;> (try rw [hq]) <;> first | have hp := of_decide_eq_true hq | have hp := of_decide_eq_false hq | have hp := of_decide_eq_false (not_t hq) | have hp := of_decide_eq_true (not_f hq) | have hp := hq))
  · refine ⟨j + 1, by omega, by omega, ?_⟩
    have e : byL r.moves ((pthL (mvE r.moves) k).take (j + 1)) = byL r.moves ((pthL (mvE r.moves) k).take j) ++ [(nth r.moves (nth (pthL (mvE r.moves) k) j).toNat).by_] := by
      rw [take_nth (show j < (pthL (mvE r.moves) k).length by omega)]; simp [byL]
    simp only [e, ints_snoc]
    exact weakZ _
  · exact ret_own_lit rfl rfl (by rw [seqL, hy, if_pos rfl, List.take_of_length_le (by omega)]) (by rw [hy])

/-! ### The reference's distances -/
def minL (n k : Nat) : List Int := List.replicate k (-1) ++ List.replicate (n - k) 0
theorem minL_len {n k : Nat} (h : k ≤ n) : (minL n k).length = n := by simp [minL]; omega
theorem minL_set {n k : Nat} (h : k < n) : (minL n k).set k (-1) = minL n (k + 1) := by
  unfold minL
  rw [List.set_append_right _ _ (by simp), List.length_replicate, Nat.sub_self, show n - k = n - (k + 1) + 1 by omega, List.replicate_succ, List.set_cons_zero, List.replicate_succ']
  simp

set_option maxHeartbeats 4000000 in
theorem l4Far_f (r : RGraph) (h1 : 1 ≤ r.marks.length) (h2 : r.marks.length ≤ 300) (h3 : r.moves.length ≤ 4000) (hE : ∀ e ∈ mvE r.moves, (0 ≤ e.1 ∧ e.1 < r.marks.length) ∧ 0 ≤ e.2 ∧ e.2 < r.marks.length) : Fn Try.prog 82 [.agg (dRGraph r), .lit (.int .i64 0)] (.own 0) [.arr 3 1 (ints (distL r.marks.length (mvE r.moves) 0)) true] := by
  refine Fn_of Try.func82 rfl (by kernel_rfl) rfl rfl ?_
  intro w0 A hin
  have hzs := len_strs r.marks
  have hzm := len_dMv r.moves
  have hEl := mvE_len r.moves
  have e0 : List.replicate (strs r.marks).length [D.lit (.int .i64 0)] = ints (minL r.marks.length 0) := by rw [hzs]; simp [ints, minL]
  have hz0 := len_ints (minL r.marks.length 0)
  have hz1 := minL_len (n := r.marks.length) (k := 0) (by omega)
  repeat' (first | (refine R_makeZ tabOk rfl rfl rfl rfl rfl rfl rfl rfl rfl rfl rfl (by omega) ?_; rw [e0]) | refine go1 ?_ | ((first | refine R_cond rfl (fun hq => ?_) fun hq => ?_ | refine R_guardT rfl rfl rfl (fun hq => ?_) fun hq => ?_ | refine R_guardF rfl rfl rfl (fun hq => ?_) fun hq => ?_ | refine D_guardT rfl rfl rfl (fun hq => ?_) fun hq => ?_ | refine D_guardF rfl rfl rfl (fun hq => ?_) fun hq => ?_) <;> (try rw [hq]) <;> first | have hp := of_decide_eq_true hq | have hp := of_decide_eq_false hq | have hp := of_decide_eq_false (not_t hq) | have hp := of_decide_eq_true (not_f hq) | have hp := hq))
  refine W_loop (fun k : Nat => ⟨_, [(1, .lit (.int .i64 0)), (2, .ptr 0 0), (5, .own 1), (15, .lit (.int .i64 r.marks.length)), (16, .lit (.int .i64 k))], [.cells 52 (dRGraph r), .arr 3 1 (ints (minL r.marks.length k)) true]⟩) (fun k => k ≤ r.marks.length) (fun k => r.marks.length - k) 0 (Nat.zero_le _) (by rw [show (r.marks.length : Int) = ((minL r.marks.length 0).length : Int) by omega]; exact weakZ []) ?_
  intro k hk
  have hz3 := len_ints (minL r.marks.length k)
  have hz4 := minL_len hk
  repeat' (first | refine goZ ?_ | ((first | refine R_cond rfl (fun hq => ?_) fun hq => ?_ | refine R_guardT rfl rfl rfl (fun hq => ?_) fun hq => ?_ | refine R_guardF rfl rfl rfl (fun hq => ?_) fun hq => ?_ | refine D_guardT rfl rfl rfl (fun hq => ?_) fun hq => ?_ | refine D_guardF rfl rfl rfl (fun hq => ?_) fun hq => ?_) <;> (try rw [hq]) <;> first | have hp := of_decide_eq_true hq | have hp := of_decide_eq_false hq | have hp := of_decide_eq_false (not_t hq) | have hp := of_decide_eq_true (not_f hq) | have hp := hq))
  · refine ⟨k + 1, by omega, by omega, ?_⟩
    rw [← minL_set (show k < r.marks.length by omega)]
    exact weakZ _
  have ek : k = r.marks.length := by omega
  subst ek
  have e1 : minL r.marks.length r.marks.length = List.replicate r.marks.length (-1) := by simp [minL]
  rw [e1]
  refine W_loop (fun x : Nat × List Int => ⟨_, [(2, .ptr 0 0), (5, .own 1), (7, .lit (.int .i64 x.1))], [.cells 52 (dRGraph r), .arr 3 1 (ints x.2) true]⟩) (fun x => x.1 ≤ r.marks.length ∧ FarR (mvE r.moves) r.marks.length x.1 0 x.2) (fun x => r.marks.length - x.1) (0, (List.replicate r.marks.length (-1)).set (0 : Int).toNat 0) ⟨Nat.zero_le _, far_init (by omega)⟩ (weakZ _) ?_
  rintro ⟨d, l⟩ ⟨hd, hF⟩
  dsimp only at hd hF ⊢
  have hl1 := hF.len
  have hl2 := len_ints l
  repeat' (first | refine goZ ?_ | ((first | refine R_cond rfl (fun hq => ?_) fun hq => ?_ | refine R_guardT rfl rfl rfl (fun hq => ?_) fun hq => ?_ | refine R_guardF rfl rfl rfl (fun hq => ?_) fun hq => ?_ | refine D_guardT rfl rfl rfl (fun hq => ?_) fun hq => ?_ | refine D_guardF rfl rfl rfl (fun hq => ?_) fun hq => ?_) <;> (try rw [hq]) <;> first | have hp := of_decide_eq_true hq | have hp := of_decide_eq_false hq | have hp := of_decide_eq_false (not_t hq) | have hp := of_decide_eq_true (not_f hq) | have hp := hq))
  rotate_right
  · have ed : d = r.marks.length := by omega
    subst ed
    exact ret_own rfl rfl (by rw [far_fin hF (by omega) hE])
  refine W_loop (fun x : Nat × List Int => ⟨_, [(2, .ptr 0 0), (5, .own 1), (7, .lit (.int .i64 d)), (33, .sh 3 (r.moves.map dMv)), (34, .lit (.int .i64 r.moves.length)), (35, .lit (.int .i64 x.1))], [.cells 52 (dRGraph r), .arr 3 1 (ints x.2) true]⟩) (fun x => x.1 ≤ r.moves.length ∧ FarR (mvE r.moves) r.marks.length d x.1 x.2) (fun x => r.moves.length - x.1) (0, l) ⟨Nat.zero_le _, hF⟩ (weakZ []) ?_
  rintro ⟨j, l2⟩ ⟨hj, hF2⟩
  dsimp only at hj hF2 ⊢
  have hl3 := hF2.len
  have hl4 := len_ints l2
  have hmv : j < r.moves.length → _ := fun h => hE (nth (mvE r.moves) j) (nth_mem (by rw [mvE_len]; exact h))
  have hnE : j < r.moves.length → nth (mvE r.moves) j = ((nth r.moves j).src, (nth r.moves j).dst) := fun h => mvE_nth h
  have hb : j < r.moves.length → (0 ≤ (nth r.moves j).src ∧ (nth r.moves j).src < r.marks.length) ∧ 0 ≤ (nth r.moves j).dst ∧ (nth r.moves j).dst < r.marks.length := fun h => by have := hmv h; rw [hnE h] at this; exact this
  repeat' (first | refine goZ ?_ | ((first | refine R_cond rfl (fun hq => ?_) fun hq => ?_ | refine R_guardT rfl rfl rfl (fun hq => ?_) fun hq => ?_ | refine R_guardF rfl rfl rfl (fun hq => ?_) fun hq => ?_ | refine D_guardT rfl rfl rfl (fun hq => ?_) fun hq => ?_ | refine D_guardF rfl rfl rfl (fun hq => ?_) fun hq => ?_) <;> (try rw [hq]) <;> first | have hp := of_decide_eq_true hq | have hp := of_decide_eq_false hq | have hp := of_decide_eq_false (not_t hq) | have hp := of_decide_eq_true (not_f hq) | have hp := hq))
  · have hjl : j < r.moves.length := by omega
    have e := hnE hjl
    have := far_yes hF2 (by omega) hE (by rw [e]; show nth l2 (nth r.moves j).src.toNat = d; assumption) (by rw [e]; exact hp)
    rw [e] at this
    exact ⟨(j + 1, _), ⟨by dsimp only; omega, this⟩, by dsimp only; omega, weakZ _⟩
  · have hjl : j < r.moves.length := by omega
    have e := hnE hjl
    exact ⟨(j + 1, l2), ⟨by dsimp only; omega, far_no hF2 (by omega) hE (by rw [e]; exact fun h => hp h.2)⟩, by dsimp only; omega, weakZ _⟩
  · have hjl : j < r.moves.length := by omega
    have e := hnE hjl
    exact ⟨(j + 1, l2), ⟨by dsimp only; omega, far_no hF2 (by omega) hE (by rw [e]; exact fun h => hp h.1)⟩, by dsimp only; omega, weakZ _⟩
  · exact ⟨(d + 1, l2), ⟨by dsimp only; omega, far_end hF2 (by omega)⟩, by dsimp only; omega, weakZ _⟩

def seqO (l : List Mv) (p : List Int) : List Int := byL l p.reverse
set_option maxHeartbeats 4000000 in
theorem specShortestFiringSequence_f (r : RGraph) (k : Int) : Fn Try.prog 21 [.agg (dRGraph r), .lit (.int .i64 k)] (.tup [.own 0, .lit (.bool (seqB r k))]) [.arr 3 1 (ints (seqL r k)) true] := by
  refine Fn_of Try.func21 rfl (by kernel_rfl) rfl rfl ?_
  intro w0 A hin
  have hV := l4Good_f r
  have hzs := len_strs r.marks
  have hzm := len_dMv r.moves
  cases hg : goodReach r <;> rw [hg] at hV
  · repeat' (first | refine goZ ?_ | refine R_callZ rfl (hV) rfl rfl rfl ?_ | refine R_callvZ rfl (hV) rfl rfl rfl rfl ?_ | refine D_callZ rfl (hV) rfl rfl rfl ?_ | ((first | refine R_cond rfl (fun hq => ?_) fun hq => ?_ | refine R_guardT rfl rfl rfl (fun hq => ?_) fun hq => ?_ | refine R_guardF rfl rfl rfl (fun hq => ?_) fun hq => ?_ | refine D_guardT rfl rfl rfl (fun hq => ?_) fun hq => ?_ | refine D_guardF rfl rfl rfl (fun hq => ?_) fun hq => ?_) <;> (try rw [hq]) <;> first | have hp := of_decide_eq_true hq | have hp := of_decide_eq_false hq | have hp := of_decide_eq_false (not_t hq) | have hp := of_decide_eq_true (not_f hq) | have hp := hq))
    exact ret_nil_lit rfl (by simp [seqL, seqB, kB, hg, ints]) (by simp [seqB, kB, hg])
  obtain ⟨h1, h2, h3⟩ := goodReach_len hg
  have hE := mvE_ok hg
  have hEl := mvE_len r.moves
  have hl1 := len_ints (distL r.marks.length (mvE r.moves) 0)
  have hl2 := distL_len r.marks.length (mvE r.moves) 0
  have hdd : ∀ k : Int, 0 ≤ k → k < r.marks.length → nth (distL r.marks.length (mvE r.moves) 0) k.toNat = dist (mvE r.moves) 0 k := fun k h0 h1 => by rw [distL_nth (by omega), Int.toNat_of_nonneg h0]
  have hkk : 0 ≤ k ∧ k < r.marks.length → nth (distL r.marks.length (mvE r.moves) 0) k.toNat = dist (mvE r.moves) 0 k := fun h => hdd k h.1 h.2
  repeat' (first | refine goZ ?_ | refine R_callZ rfl (hV) rfl rfl rfl ?_ | refine R_callZ rfl (l1In_f _ _ _) rfl rfl rfl ?_ | refine R_callZ rfl (l4Far_f r h1 h2 h3 hE) rfl rfl rfl ?_ | refine R_callvZ rfl (hV) rfl rfl rfl rfl ?_ | refine R_callvZ rfl (l1In_f _ _ _) rfl rfl rfl rfl ?_ | refine R_callvZ rfl (l4Far_f r h1 h2 h3 hE) rfl rfl rfl rfl ?_ | refine D_callZ rfl (hV) rfl rfl rfl ?_ | refine D_callZ rfl (l1In_f _ _ _) rfl rfl rfl ?_ | refine D_callZ rfl (l4Far_f r h1 h2 h3 hE) rfl rfl rfl ?_ | ((first | refine R_cond rfl (fun hq => ?_) fun hq => ?_ | refine R_guardT rfl rfl rfl (fun hq => ?_) fun hq => ?_ | refine R_guardF rfl rfl rfl (fun hq => ?_) fun hq => ?_ | refine D_guardT rfl rfl rfl (fun hq => ?_) fun hq => ?_ | refine D_guardF rfl rfl rfl (fun hq => ?_) fun hq => ?_) <;> (try rw [hq]) <;> first | have hp := of_decide_eq_true hq | have hp := of_decide_eq_false hq | have hp := of_decide_eq_false (not_t hq) | have hp := of_decide_eq_true (not_f hq) | have hp := hq))
  · have hn : kB r k = false := by rw [kB, hg, Bool.true_and, decide_eq_false_iff_not]; omega
    exact ret_nil_lit rfl (by simp [seqL, seqB, hn, ints]) (by simp [seqB, hn])
  · have hn : seqB r k = false := by rw [seqB, decide_eq_false (show ¬ 0 ≤ dist (mvE r.moves) 0 k by have := hkk (by omega); omega), Bool.and_false]
    exact ret_nil_lit rfl (by simp [seqL, hn, ints]) (by rw [hn])
  have hkr : 0 ≤ k ∧ k < r.marks.length := by omega
  have hd0 : 0 ≤ dist (mvE r.moves) 0 k := by have := hkk hkr; omega
  have hy : seqB r k = true := by rw [seqB, kB, hg, Bool.true_and, Bool.and_eq_true, decide_eq_true_eq, decide_eq_true_eq]; omega
  have hdn := dist_lt (E := mvE r.moves) (s := 0) (v := k) (n := r.marks.length) (fun e he => (hE e he).2) (by omega)
  obtain ⟨d0, hd0⟩ : ∃ d0 : Nat, dist (mvE r.moves) 0 k = d0 := ⟨(dist (mvE r.moves) 0 k).toNat, by omega⟩
  clear hV hkk
  refine W_open 7 3 1 rfl ?_
  refine W_loop (fun x : Nat × Int × List Int => ⟨_, [(1, .lit (.int .i64 x.2.1)), (2, .ptr 0 0), (6, .own 1), (7, .own 2)], [.cells 52 (dRGraph r), .arr 3 1 (ints (distL r.marks.length (mvE r.moves) 0)) true, .arr 3 1 (ints x.2.2) true]⟩) (fun x => (0 ≤ x.2.1 ∧ x.2.1 < r.marks.length) ∧ dist (mvE r.moves) 0 x.2.1 = (x.1 : Int) ∧ byL r.moves (wayL (mvE r.moves) x.1 x.2.1).reverse ++ x.2.2 = byL r.moves (wayL (mvE r.moves) d0 k).reverse) (fun x => x.1) (d0, k, []) ⟨hkr, hd0, by simp⟩ (weakZ []) ?_
  rintro ⟨d, k', o⟩ ⟨hk', hd, ho⟩
  dsimp only at hk' hd ho ⊢
  have hol : d + o.length = d0 := by have := congrArg List.length ho; simpa [byL, wayL_len] using this
  have hlo := len_ints o
  have hkd := hdd k' hk'.1 hk'.2
  have h0d : d = 0 → k' = 0 := fun h => by
    have hw := dist_walk (E := mvE r.moves) (s := 0) (v := k') (by omega)
    rw [hd, h] at hw
    cases hw; rfl
  have hd0' : k' = 0 → d = 0 := fun h => by
    have := dist_start (E := mvE r.moves) (s := 0)
    rw [h] at hd; omega
  repeat' (first | refine goZ ?_ | ((first | refine R_cond rfl (fun hq => ?_) fun hq => ?_ | refine R_guardT rfl rfl rfl (fun hq => ?_) fun hq => ?_ | refine R_guardF rfl rfl rfl (fun hq => ?_) fun hq => ?_ | refine D_guardT rfl rfl rfl (fun hq => ?_) fun hq => ?_ | refine D_guardF rfl rfl rfl (fun hq => ?_) fun hq => ?_) <;> (try rw [hq]) <;> first | have hp := of_decide_eq_true hq | have hp := of_decide_eq_false hq | have hp := of_decide_eq_false (not_t hq) | have hp := of_decide_eq_true (not_f hq) | have hp := hq))
  rotate_right
  · have e1 := hd0' (by omega)
    subst e1
    exact ret_own_lit rfl rfl (by rw [seqL, hy, if_pos rfl, pthL, hd0, Int.toNat_natCast, ← ho]; simp [wayL, byL]) (by rw [hy])
  have hd1 : 1 ≤ d := by
    rcases Nat.eq_zero_or_pos d with h | h
    · exact absurd (h0d h) (by assumption)
    · exact h
  refine W_loop (fun j : Nat => ⟨_, [(1, .lit (.int .i64 k')), (2, .ptr 0 0), (6, .own 1), (7, .own 2), (32, .sh 3 (r.moves.map dMv)), (33, .lit (.int .i64 r.moves.length)), (34, .lit (.int .i64 j))], [.cells 52 (dRGraph r), .arr 3 1 (ints (distL r.marks.length (mvE r.moves) 0)) true, .arr 3 1 (ints o) true]⟩) (fun j => j ≤ r.moves.length ∧ ∀ i, i < j → comeP (mvE r.moves) ((d - 1 : Nat) : Int) k' (nth (mvE r.moves) i) = false) (fun j => r.moves.length - j) 0 ⟨Nat.zero_le _, by omega⟩ (weakZ []) ?_
  rintro j ⟨hj, hJ⟩
  have hnE : j < r.moves.length → nth (mvE r.moves) j = ((nth r.moves j).src, (nth r.moves j).dst) := fun h => mvE_nth h
  have hb : j < r.moves.length → (0 ≤ (nth r.moves j).src ∧ (nth r.moves j).src < r.marks.length) ∧ 0 ≤ (nth r.moves j).dst ∧ (nth r.moves j).dst < r.marks.length := fun h => by have := hE (nth (mvE r.moves) j) (nth_mem (by rw [mvE_len]; exact h)); rw [hnE h] at this; exact this
  have hdv : j < r.moves.length → nth (distL r.marks.length (mvE r.moves) 0) (nth r.moves j).src.toNat = dist (mvE r.moves) 0 (nth r.moves j).src := fun h => hdd _ (hb h).1.1 (hb h).1.2
  repeat' (first | refine goZ ?_ | ((first | refine R_cond rfl (fun hq => ?_) fun hq => ?_ | refine R_guardT rfl rfl rfl (fun hq => ?_) fun hq => ?_ | refine R_guardF rfl rfl rfl (fun hq => ?_) fun hq => ?_ | refine D_guardT rfl rfl rfl (fun hq => ?_) fun hq => ?_ | refine D_guardF rfl rfl rfl (fun hq => ?_) fun hq => ?_) <;> (try rw [hq]) <;> first | have hp := of_decide_eq_true hq | have hp := of_decide_eq_false hq | have hp := of_decide_eq_false (not_t hq) | have hp := of_decide_eq_true (not_f hq) | have hp := hq))
  · have hjl : j < r.moves.length := by omega
    have e1 := hdv hjl
    have hcm : comeP (mvE r.moves) ((d - 1 : Nat) : Int) k' (nth (mvE r.moves) j) = true := by
      rw [hnE hjl, comeP, Bool.and_eq_true, decide_eq_true_eq, decide_eq_true_eq]; dsimp only; omega
    have e2 : findIx (comeP (mvE r.moves) ((d - 1 : Nat) : Int) k') (mvE r.moves) = (j : Int) := findIx_at _ (by omega) hJ hcm
    have e3 : wayL (mvE r.moves) d k' = (j : Int) :: wayL (mvE r.moves) (d - 1) (nth r.moves j).src := by
      have e4 : wayL (mvE r.moves) d k' = wayL (mvE r.moves) (d - 1 + 1) k' := by rw [show d - 1 + 1 = d by omega]
      rw [e4, wayL, e2, Int.toNat_natCast, hnE hjl]
    refine ⟨(d - 1, (nth r.moves j).src, (nth r.moves j).by_ :: o), ⟨(hb hjl).1, ?_, ?_⟩, by dsimp only; omega, ?_⟩
    · dsimp only; omega
    · dsimp only; rw [← ho, e3]; simp [byL]
    · refine Weak_ren [some 0, some 1, some 4] rfl rfl ?_ ?_ <;> (repeat' (first | exact trivial | rfl | refine And.intro ?_ ?_ | (simp [St.get, look, ints, strs, bools]; done))) <;> done
  · have hjl : j < r.moves.length := by omega
    refine ⟨j + 1, ⟨by omega, fun i hi => ?_⟩, by omega, weakZ _⟩
    by_cases e : i = j
    · subst e
      have := hdv hjl
      rw [hnE hjl, comeP, Bool.and_eq_false_iff, decide_eq_false_iff_not, decide_eq_false_iff_not]; dsimp only; omega
    · exact hJ i (by omega)
  · have hjl : j < r.moves.length := by omega
    refine ⟨j + 1, ⟨by omega, fun i hi => ?_⟩, by omega, weakZ _⟩
    by_cases e : i = j
    · subst e
      have := hdv hjl
      rw [hnE hjl, comeP, Bool.and_eq_false_iff, decide_eq_false_iff_not, decide_eq_false_iff_not]; dsimp only; omega
    · exact hJ i (by omega)
  · have hjl : j < r.moves.length := by omega
    refine ⟨j + 1, ⟨by omega, fun i hi => ?_⟩, by omega, weakZ _⟩
    by_cases e : i = j
    · subst e
      have := hdv hjl
      rw [hnE hjl, comeP, Bool.and_eq_false_iff, decide_eq_false_iff_not, decide_eq_false_iff_not]; dsimp only; omega
    · exact hJ i (by omega)
  · exfalso
    obtain ⟨i, a1, a2, a3, a4, _⟩ := come_ex (E := mvE r.moves) (d := d - 1) (k := k') (by omega)
    have := hJ i (by omega)
    rw [comeP, a3, a4] at this
    simp at this
end Go.Proofs.Ytjfipianehabgaa
