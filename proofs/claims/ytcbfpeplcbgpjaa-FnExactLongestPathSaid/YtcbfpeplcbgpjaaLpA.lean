/- The longest way through a set of states: what the reference's function hands back. No condition. -/
import Derived.Test.YtcbfpeplcbgpjaaLpP
import Derived.Test.YtcbfpeplcbgpjaaSgc
set_option linter.unusedSimpArgs false
set_option linter.unusedVariables false
set_option maxHeartbeats 2000000
namespace Go.Proofs.Ytcbfpeplcbgpjaa
open Go.ChangeShapes Go.WideShapes Go.ChangeAt Go.RowKit

noncomputable def setQ (c : SGraph) (set : List Int) : Bool := goodSG c && decide (rising 0 ((c.codes.length : Int) - 1) set)
theorem l10Set_f (c : SGraph) (set : List Int) : Fn Try.prog 104 [.agg (dSGraph c), .sh 1 (ints set)] (.lit (.bool (setQ c set))) [] := by
  refine Fn_of Try.func104 rfl (by kernel_rfl) rfl rfl ?_
  intro w0 A hin
  have hzs := len_strs c.codes
  have hV := l5Good_f c
  cases hg : goodSG c <;> rw [hg] at hV
  · repeat' (first | refine goZ ?_ | refine R_callZ rfl (hV) rfl rfl rfl ?_ | refine R_callvZ rfl (hV) rfl rfl rfl rfl ?_ | refine D_callZ rfl (hV) rfl rfl rfl ?_ | ((first | refine R_cond rfl (fun hq => ?_) fun hq => ?_ | refine R_guardT rfl rfl rfl (fun hq => ?_) fun hq => ?_ | refine R_guardF rfl rfl rfl (fun hq => ?_) fun hq => ?_ | refine D_guardT rfl rfl rfl (fun hq => ?_) fun hq => ?_ | refine D_guardF rfl rfl rfl (fun hq => ?_) fun hq => ?_) <;> (try rw [hq]) <;> first | have hp := of_decide_eq_true hq | have hp := of_decide_eq_false hq | have hp := of_decide_eq_false (not_t hq) | have hp := of_decide_eq_true (not_f hq) | have hp := hq))
    all_goals exact ret_bool' rfl (by simp [setQ, hg])
  · have hlg := goodSG_len hg
    repeat' (first | refine goZ ?_ | refine R_callZ rfl (hV) rfl rfl rfl ?_ | refine R_callZ rfl (l1Rising_f _ _ _) rfl rfl rfl ?_ | refine R_callvZ rfl (hV) rfl rfl rfl rfl ?_ | refine R_callvZ rfl (l1Rising_f _ _ _) rfl rfl rfl rfl ?_ | refine D_callZ rfl (hV) rfl rfl rfl ?_ | refine D_callZ rfl (l1Rising_f _ _ _) rfl rfl rfl ?_ | ((first | refine R_cond rfl (fun hq => ?_) fun hq => ?_ | refine R_guardT rfl rfl rfl (fun hq => ?_) fun hq => ?_ | refine R_guardF rfl rfl rfl (fun hq => ?_) fun hq => ?_ | refine D_guardT rfl rfl rfl (fun hq => ?_) fun hq => ?_ | refine D_guardF rfl rfl rfl (fun hq => ?_) fun hq => ?_) <;> (try rw [hq]) <;> first | have hp := of_decide_eq_true hq | have hp := of_decide_eq_false hq | have hp := of_decide_eq_false (not_t hq) | have hp := of_decide_eq_true (not_f hq) | have hp := hq))
    all_goals exact ret_bool' rfl (by rw [setQ, hg, len_strs]; simp)
theorem isStateSet_f (c : SGraph) (set : List Int) : Fn Try.prog 107 [.agg (dSGraph c), .sh 1 (ints set)] (.lit (.bool (setQ c set))) [] := by
  refine Fn_of Try.func107 rfl (by kernel_rfl) rfl rfl ?_
  intro w0 A hin
  have hzs := len_strs c.codes
  have hV := IsValidStateGraph_f c
  have hI := isIncreasing_f set ((strs c.codes).length : Int) (by omega)
  generalize hr : decide (rising 0 (((strs c.codes).length : Int) - 1) set) = r at hI
  rw [hzs] at hr
  cases r
  · repeat' (first | refine goZ ?_ | refine R_callZ rfl (hI) rfl rfl rfl ?_ | refine R_callZ rfl (hV) rfl rfl rfl ?_ | refine R_callvZ rfl (hI) rfl rfl rfl rfl ?_ | refine R_callvZ rfl (hV) rfl rfl rfl rfl ?_ | refine D_callZ rfl (hI) rfl rfl rfl ?_ | refine D_callZ rfl (hV) rfl rfl rfl ?_ | ((first | refine R_cond rfl (fun hq => ?_) fun hq => ?_ | refine R_guardT rfl rfl rfl (fun hq => ?_) fun hq => ?_ | refine R_guardF rfl rfl rfl (fun hq => ?_) fun hq => ?_ | refine D_guardT rfl rfl rfl (fun hq => ?_) fun hq => ?_ | refine D_guardF rfl rfl rfl (fun hq => ?_) fun hq => ?_) <;> (try rw [hq]) <;> first | have hp := of_decide_eq_true hq | have hp := of_decide_eq_false hq | have hp := of_decide_eq_false (not_t hq) | have hp := of_decide_eq_true (not_f hq) | have hp := hq))
    all_goals exact ret_bool' rfl (by rw [setQ, hr]; simp)
  · repeat' (first | refine goZ ?_ | refine R_callZ rfl (hI) rfl rfl rfl ?_ | refine R_callZ rfl (hV) rfl rfl rfl ?_ | refine R_callvZ rfl (hI) rfl rfl rfl rfl ?_ | refine R_callvZ rfl (hV) rfl rfl rfl rfl ?_ | refine D_callZ rfl (hI) rfl rfl rfl ?_ | refine D_callZ rfl (hV) rfl rfl rfl ?_ | ((first | refine R_cond rfl (fun hq => ?_) fun hq => ?_ | refine R_guardT rfl rfl rfl (fun hq => ?_) fun hq => ?_ | refine R_guardF rfl rfl rfl (fun hq => ?_) fun hq => ?_ | refine D_guardT rfl rfl rfl (fun hq => ?_) fun hq => ?_ | refine D_guardF rfl rfl rfl (fun hq => ?_) fun hq => ?_) <;> (try rw [hq]) <;> first | have hp := of_decide_eq_true hq | have hp := of_decide_eq_false hq | have hp := of_decide_eq_false (not_t hq) | have hp := of_decide_eq_true (not_f hq) | have hp := hq))
    all_goals exact ret_bool' rfl (by rw [setQ, hr]; simp)
def srcA (k : Int) (a : ArcD) : Bool := decide (a.src = k)
theorem l5From_g (c : SGraph) (k : Int) (hb : c.arcs.length ≤ 4000) : Fn Try.prog 166 [.agg (dSGraph c), .lit (.int .i64 k)] (.own 0) [.arr 148 4 ((c.arcs.filter (srcA k)).map dArcD) true] := by
  refine Fn_of Try.func166 rfl (by kernel_rfl) rfl rfl ?_
  intro w0 A hin
  have hza := len_dArcD c.arcs
  repeat' (first | refine goZ ?_ | ((first | refine R_cond rfl (fun hq => ?_) fun hq => ?_ | refine R_guardT rfl rfl rfl (fun hq => ?_) fun hq => ?_ | refine R_guardF rfl rfl rfl (fun hq => ?_) fun hq => ?_ | refine D_guardT rfl rfl rfl (fun hq => ?_) fun hq => ?_ | refine D_guardF rfl rfl rfl (fun hq => ?_) fun hq => ?_) <;> (try rw [hq]) <;> first | have hp := of_decide_eq_true hq | have hp := of_decide_eq_false hq | have hp := of_decide_eq_false (not_t hq) | have hp := of_decide_eq_true (not_f hq) | have hp := hq))
  refine W_open 5 148 4 rfl ?_
  refine W_loop (fun j : Nat => ⟨_, [(1, .lit (.int .i64 k)), (5, .own 1), (9, .sh 4 (c.arcs.map dArcD)), (10, .lit (.int .i64 c.arcs.length)), (11, .lit (.int .i64 j))], [.cells 46 (dSGraph c), .arr 148 4 (((c.arcs.take j).filter (srcA k)).map dArcD) true]⟩) (fun j => j ≤ c.arcs.length) (fun j => c.arcs.length - j) 0 (Nat.zero_le _) (weakZ []) ?_
  intro j hj
  have hf := fil_len (l := c.arcs) (p := srcA k) (k := j)
  repeat' (first | refine goZ ?_ | ((first | refine R_cond rfl (fun hq => ?_) fun hq => ?_ | refine R_guardT rfl rfl rfl (fun hq => ?_) fun hq => ?_ | refine R_guardF rfl rfl rfl (fun hq => ?_) fun hq => ?_ | refine D_guardT rfl rfl rfl (fun hq => ?_) fun hq => ?_ | refine D_guardF rfl rfl rfl (fun hq => ?_) fun hq => ?_) <;> (try rw [hq]) <;> first | have hp := of_decide_eq_true hq | have hp := of_decide_eq_false hq | have hp := of_decide_eq_false (not_t hq) | have hp := of_decide_eq_true (not_f hq) | have hp := hq))
  · refine ⟨j + 1, by omega, by omega, ?_⟩
    simp only [fil_yes (p := srcA k) (show j < c.arcs.length by omega) (by simpa [srcA] using hq), map_snoc]
    exact weakZ _
  · refine ⟨j + 1, by omega, by omega, ?_⟩
    simp only [fil_no (p := srcA k) (show j < c.arcs.length by omega) (by simpa [srcA] using hq)]
    exact weakZ _
  · exact ret_own rfl rfl (by rw [fil_all (by omega)])
theorem l1Put_g (l : List Int) (n : Int) (hz : l.length ≤ 4000000) (hn : n ∉ l) : Fn Try.prog 132 [.sh 1 (ints l), .lit (.int .i64 n)] (.own 0) [.arr 3 1 (ints (putI l n)) true] := by
  refine Fn_of Try.func132 rfl (by kernel_rfl) rfl rfl ?_
  intro w0 A hin
  have hl := len_ints l
  repeat' (first | refine goZ ?_ | ((first | refine R_cond rfl (fun hq => ?_) fun hq => ?_ | refine R_guardT rfl rfl rfl (fun hq => ?_) fun hq => ?_ | refine R_guardF rfl rfl rfl (fun hq => ?_) fun hq => ?_ | refine D_guardT rfl rfl rfl (fun hq => ?_) fun hq => ?_ | refine D_guardF rfl rfl rfl (fun hq => ?_) fun hq => ?_) <;> (try rw [hq]) <;> first | have hp := of_decide_eq_true hq | have hp := of_decide_eq_false hq | have hp := of_decide_eq_false (not_t hq) | have hp := of_decide_eq_true (not_f hq) | have hp := hq))
  refine W_loop (fun k : Nat => ⟨_, [(0, .sh 1 (ints l)), (1, .lit (.int .i64 n)), (5, .lit (.int .i64 k))], []⟩) (fun k => k ≤ l.length ∧ ∀ j, j < k → nth l j < n) (fun k => l.length - k) 0 ⟨Nat.zero_le _, fun j hj => by omega⟩ (weakZ []) ?_
  rintro k ⟨hk, hj⟩
  repeat' (first | refine goZ ?_ | refine R_append tabOk rfl rfl rfl rfl rfl rfl rfl rfl rfl rfl rfl (fun r hr => flat_ints l r (List.mem_of_mem_take hr)) (by simp; omega) ?_ | refine R_append tabOk rfl rfl rfl rfl rfl rfl rfl rfl rfl rfl rfl (fun r hr => flat_ints l r (List.mem_of_mem_drop hr)) (by simp; omega) ?_ | ((first | refine R_cond rfl (fun hq => ?_) fun hq => ?_ | refine R_guardT rfl rfl rfl (fun hq => ?_) fun hq => ?_ | refine R_guardF rfl rfl rfl (fun hq => ?_) fun hq => ?_ | refine D_guardT rfl rfl rfl (fun hq => ?_) fun hq => ?_ | refine D_guardF rfl rfl rfl (fun hq => ?_) fun hq => ?_) <;> (try rw [hq]) <;> first | have hp := of_decide_eq_true hq | have hp := of_decide_eq_false hq | have hp := of_decide_eq_false (not_t hq) | have hp := of_decide_eq_true (not_f hq) | have hp := hq))
  · exact ⟨k + 1, ⟨by omega, fun j hj' => by by_cases e : j = k; (rw [e]; exact hp); exact hj j (by omega)⟩, by omega, weakZ _⟩
  · have h1 : k < l.length := by simpa [hl] using (show (k : Int) < ((ints l).length : Int) by first | assumption | (simp at hq; omega))
    have h2 : nth l k = n := by simpa [h1, hl] using hp
    exact absurd (h2 ▸ nth_mem h1) hn
  · have h1 : k < l.length := by omega
    have h2 : ¬ nth l k = n := by simpa [h1, hl] using hp
    exact ret_own rfl rfl (by rw [putI_new hk hj fun _ => by omega]; simp [ints, List.map_take, List.map_drop])
  · exact ret_own rfl rfl (by rw [putI_new hk hj fun _ => by omega]; simp [ints, List.map_take, List.map_drop])
theorem l1Most_f (a b : Int) : Fn Try.prog 105 [.lit (.int .i64 a), .lit (.int .i64 b)] (.lit (.int .i64 (mxI a b))) [] := by
  refine Fn_of Try.func105 rfl (by kernel_rfl) rfl rfl ?_
  intro w0 A hin
  repeat' (first | refine goZ ?_ | ((first | refine R_cond rfl (fun hq => ?_) fun hq => ?_ | refine R_guardT rfl rfl rfl (fun hq => ?_) fun hq => ?_ | refine R_guardF rfl rfl rfl (fun hq => ?_) fun hq => ?_ | refine D_guardT rfl rfl rfl (fun hq => ?_) fun hq => ?_ | refine D_guardF rfl rfl rfl (fun hq => ?_) fun hq => ?_) <;> (try rw [hq]) <;> first | have hp := of_decide_eq_true hq | have hp := of_decide_eq_false hq | have hp := of_decide_eq_false (not_t hq) | have hp := of_decide_eq_true (not_f hq) | have hp := hq))
  · exact ret_int' rfl (by rw [mxI, if_neg (by omega)])
  · refine ret_int' rfl ?_
    unfold mxI; split <;> omega

set_option maxHeartbeats 1600000 in
theorem l10Long_one (c : SGraph) (set : List Int) (k : Int) (met : List Int) (n : Nat) (hm : c.arcs.length ≤ 4000) (hz : met.length ≤ 1000) (hn : n ≤ 1000) (hRec : ∀ x ∈ set, x ∉ met → Fn Try.prog 106 [.agg (dSGraph c), .sh 1 (ints set), .lit (.int .i64 x), .sh 1 (ints (putI met x))] (.lit (.int .i64 (lp c.arcs set n x (x :: met)))) []) :
    Fn Try.prog 106 [.agg (dSGraph c), .sh 1 (ints set), .lit (.int .i64 k), .sh 1 (ints met)] (.lit (.int .i64 (lp c.arcs set (n + 1) k met))) [] := by
  refine Fn_of Try.func106 rfl (by kernel_rfl) rfl rfl ?_
  intro w0 A hin
  have hza := len_dArcD (c.arcs.filter (srcA k))
  have hzl : (c.arcs.filter (srcA k)).length ≤ c.arcs.length := List.length_filter_le _ _
  repeat' (first | refine goZ ?_ | refine R_callZ rfl (l5From_g c k hm) rfl rfl rfl ?_ | refine R_callvZ rfl (l5From_g c k hm) rfl rfl rfl rfl ?_ | refine D_callZ rfl (l5From_g c k hm) rfl rfl rfl ?_ | ((first | refine R_cond rfl (fun hq => ?_) fun hq => ?_ | refine R_guardT rfl rfl rfl (fun hq => ?_) fun hq => ?_ | refine R_guardF rfl rfl rfl (fun hq => ?_) fun hq => ?_ | refine D_guardT rfl rfl rfl (fun hq => ?_) fun hq => ?_ | refine D_guardF rfl rfl rfl (fun hq => ?_) fun hq => ?_) <;> (try rw [hq]) <;> first | have hp := of_decide_eq_true hq | have hp := of_decide_eq_false hq | have hp := of_decide_eq_false (not_t hq) | have hp := of_decide_eq_true (not_f hq) | have hp := hq))
  refine W_open 10 3 1 rfl ?_
  refine W_loop (fun x : List Int × Nat => ⟨_, [(1, .sh 1 (ints set)), (2, .lit (.int .i64 k)), (3, .sh 1 (ints met)), (4, .ptr 0 0), (9, .lit (.int .i64 (bigL (lpF c.arcs ((c.arcs.filter (srcA k)).take x.2) set met n k)))), (10, .own 2), (15, .own 1), (16, .lit (.int .i64 (c.arcs.filter (srcA k)).length)), (17, .lit (.int .i64 x.2))], [.cells 46 (dSGraph c), .arr 148 4 ((c.arcs.filter (srcA k)).map dArcD) true, .arr 3 1 (ints x.1) true]⟩) (fun x => (x.2 ≤ (c.arcs.filter (srcA k)).length ∧ x.1.length ≤ x.2) ∧ ∀ y, y ∈ x.1 ↔ y ∈ tryL ((c.arcs.filter (srcA k)).take x.2) set met k) (fun x => (c.arcs.filter (srcA k)).length - x.2) ([], 0) ⟨⟨Nat.zero_le _, Nat.zero_le _⟩, fun y => by simp [tryL]⟩ (weakZ []) ?_
  rintro ⟨tr, i⟩ ⟨⟨hi, htl⟩, htr⟩
  dsimp only at hi htl htr ⊢
  have hzt := len_ints tr
  have hlp := fun x => lp_range c.arcs set n x (x :: met)
  have hbl : bigL (lpF c.arcs ((c.arcs.filter (srcA k)).take i) set met n k) ≤ n + 1 := bigL_le (by omega) fun x hx => by
    obtain ⟨a, _, rfl⟩ := List.mem_map.1 hx
    have := hlp a.dst; omega
  have hbg := bigL_ge (lpF c.arcs ((c.arcs.filter (srcA k)).take i) set met n k)
  have hlpi := hlp (nth (c.arcs.filter (srcA k)) i).dst
  have hsrc : i < (c.arcs.filter (srcA k)).length → (nth (c.arcs.filter (srcA k)) i).src = k := fun h => by
    have := (List.mem_filter.1 (nth_mem h)).2
    simpa [srcA] using this
  repeat' (first | refine goZ ?_ | refine R_callZ rfl (l1Has_f _ _) rfl rfl rfl ?_ | refine R_callZ rfl (l1Put_g met (nth (c.arcs.filter (srcA k)) i).dst (by omega) (by assumption)) rfl rfl rfl ?_ | refine R_callZ rfl (l1Most_f _ _) rfl rfl rfl ?_ | refine R_callvZ rfl (l1Has_f _ _) rfl rfl rfl rfl ?_ | refine R_callvZ rfl (l1Put_g met (nth (c.arcs.filter (srcA k)) i).dst (by omega) (by assumption)) rfl rfl rfl rfl ?_ | refine R_callvZ rfl (l1Most_f _ _) rfl rfl rfl rfl ?_ | refine D_callZ rfl (l1Has_f _ _) rfl rfl rfl ?_ | refine D_callZ rfl (l1Put_g met (nth (c.arcs.filter (srcA k)) i).dst (by omega) (by assumption)) rfl rfl rfl ?_ | refine D_callZ rfl (l1Most_f _ _) rfl rfl rfl ?_ | refine D_callxZ rfl (l1Has_f tr _) rfl rfl rfl rfl (by repeat' (first | exact trivial | rfl | refine And.intro ?_ ?_)) ?_ | refine D_callxZ rfl (hRec (nth (c.arcs.filter (srcA k)) i).dst (by assumption) (by assumption)) rfl rfl rfl rfl (by repeat' (first | exact trivial | rfl | refine And.intro ?_ ?_)) ?_ | ((first | refine R_cond rfl (fun hq => ?_) fun hq => ?_ | refine R_guardT rfl rfl rfl (fun hq => ?_) fun hq => ?_ | refine R_guardF rfl rfl rfl (fun hq => ?_) fun hq => ?_ | refine D_guardT rfl rfl rfl (fun hq => ?_) fun hq => ?_ | refine D_guardF rfl rfl rfl (fun hq => ?_) fun hq => ?_) <;> (try rw [hq]) <;> first | have hp := of_decide_eq_true hq | have hp := of_decide_eq_false hq | have hp := of_decide_eq_false (not_t hq) | have hp := of_decide_eq_true (not_f hq) | have hp := hq))
  · have hin : (nth (c.arcs.filter (srcA k)) i).dst ∈ set := by assumption
    have hnm : (nth (c.arcs.filter (srcA k)) i).dst ∉ met := by assumption
    have hP : lpP set met k (nth (c.arcs.filter (srcA k)) i) = true := by simp [lpP, hsrc (by omega), hin, hnm]
    refine ⟨(tr ++ [(nth (c.arcs.filter (srcA k)) i).dst], i + 1), ⟨⟨by simp only; omega, by simp; omega⟩, fun y => ?_⟩, by simp only; omega, ?_⟩
    · simp only
      rw [tryL_yes (by omega) hP, List.mem_append, List.mem_append, htr]
    · simp only [ints_snoc]
      rw [lpF_yes (by omega) hP, bigL_snoc]
      exact weakZ _
  · have hin : (nth (c.arcs.filter (srcA k)) i).dst ∈ set := by assumption
    have hnm : (nth (c.arcs.filter (srcA k)) i).dst ∉ met := by assumption
    have hP : lpP set met k (nth (c.arcs.filter (srcA k)) i) = true := by simp [lpP, hsrc (by omega), hin, hnm]
    have htd : (nth (c.arcs.filter (srcA k)) i).dst ∈ tr := by first | assumption | simpa using hq
    refine ⟨(tr, i + 1), ⟨⟨by simp only; omega, by simp only; omega⟩, fun y => ?_⟩, by simp only; omega, ?_⟩
    · simp only
      rw [tryL_yes (by omega) hP, List.mem_append, htr]
      exact ⟨Or.inl, fun h => h.elim id fun h => by simp at h; subst h; exact (htr _).1 htd⟩
    · rw [lpF_yes (by omega) hP, bigL_had (try_had ((htr _).1 htd))]
      exact weakZ _
  · have hm' : (nth (c.arcs.filter (srcA k)) i).dst ∈ met := by first | assumption | simpa using hq
    have hP : lpP set met k (nth (c.arcs.filter (srcA k)) i) = false := by simp [lpP, hm']
    refine ⟨(tr, i + 1), ⟨⟨by simp only; omega, by simp only; omega⟩, fun y => ?_⟩, by simp only; omega, ?_⟩
    · simp only; rw [tryL_no (by omega) hP, htr]
    · rw [lpF_no (by omega) hP]; exact weakZ _
  · have hP : lpP set met k (nth (c.arcs.filter (srcA k)) i) = false := by simp [lpP, hp]
    refine ⟨(tr, i + 1), ⟨⟨by simp only; omega, by simp only; omega⟩, fun y => ?_⟩, by simp only; omega, ?_⟩
    · simp only; rw [tryL_no (by omega) hP, htr]
    · rw [lpF_no (by omega) hP]; exact weakZ _
  · refine ret_int' rfl ?_
    rw [List.take_of_length_le (by omega)]
    exact lpF_all
theorem l10Long_f (c : SGraph) (set : List Int) (hm : c.arcs.length ≤ 4000) : ∀ (n : Nat) (k : Int) (met : List Int), n ≤ 100 → met.length + n ≤ 200 → restL set met ≤ n → Fn Try.prog 106 [.agg (dSGraph c), .sh 1 (ints set), .lit (.int .i64 k), .sh 1 (ints met)] (.lit (.int .i64 (lp c.arcs set n k met))) []
  | 0, k, met, _, hz, hr => by
    have h1 : lp c.arcs set 0 k met = lp c.arcs set (0 + 1) k met := by
      simp only [lp]; rw [lp_none (by omega)]; rfl
    rw [h1]
    exact l10Long_one c set k met 0 hm (by omega) (by omega) fun x hx hn => absurd (rest_zero (by omega) hx) hn
  | n + 1, k, met, hn, hz, hr => l10Long_one c set k met n hm (by omega) (by omega) fun x hx hnm => by
    have h1 := putI_len met x
    have h2 := rest_lt hx hnm
    have h3 : ∀ y, y ∈ putI met x ↔ y ∈ x :: met := fun y => by rw [putI_mem, List.mem_cons]
    rw [lp_same n x fun y => (h3 y).symm]
    exact l10Long_f c set hm n x (putI met x) (by omega) (by omega) (by rw [rest_ext set h3]; omega)

noncomputable def lpB (c : SGraph) (set : List Int) : Bool := setQ c set && decide (set.length ≤ 8)
noncomputable def lpR (c : SGraph) (set : List Int) : Int := if lpB c set then lpV c.arcs set else 0
theorem rest_one (set : List Int) (k : Int) (hk : k ∈ set) : restL set [k] + 1 ≤ set.length := by
  have h1 := rest_lt (met := []) hk (by simp)
  have h2 := rest_le set []
  omega
set_option maxHeartbeats 1600000 in
theorem specLongestPath_f (c : SGraph) (set : List Int) : Fn Try.prog 38 [.agg (dSGraph c), .sh 1 (ints set)] (.tup [.lit (.int .i64 (lpR c set)), .lit (.bool (lpB c set))]) [] := by
  refine Fn_of Try.func38 rfl (by kernel_rfl) rfl rfl ?_
  intro w0 A hin
  have hz := len_ints set
  have hV := l10Set_f c set
  cases hg : setQ c set <;> rw [hg] at hV
  · repeat' (first | refine goZ ?_ | refine R_callZ rfl (hV) rfl rfl rfl ?_ | refine R_callvZ rfl (hV) rfl rfl rfl rfl ?_ | refine D_callZ rfl (hV) rfl rfl rfl ?_ | ((first | refine R_cond rfl (fun hq => ?_) fun hq => ?_ | refine R_guardT rfl rfl rfl (fun hq => ?_) fun hq => ?_ | refine R_guardF rfl rfl rfl (fun hq => ?_) fun hq => ?_ | refine D_guardT rfl rfl rfl (fun hq => ?_) fun hq => ?_ | refine D_guardF rfl rfl rfl (fun hq => ?_) fun hq => ?_) <;> (try rw [hq]) <;> first | have hp := of_decide_eq_true hq | have hp := of_decide_eq_false hq | have hp := of_decide_eq_false (not_t hq) | have hp := of_decide_eq_true (not_f hq) | have hp := hq))
    all_goals exact ret_lit2 rfl (by simp [lpR, lpB, hg]) (by simp [lpB, hg])
  · have hsg : goodSG c = true := by simp only [setQ, Bool.and_eq_true] at hg; exact hg.1
    have hb := goodSG_len hsg
    repeat' (first | refine goZ ?_ | refine R_callZ rfl (hV) rfl rfl rfl ?_ | refine R_callvZ rfl (hV) rfl rfl rfl rfl ?_ | refine D_callZ rfl (hV) rfl rfl rfl ?_ | ((first | refine R_cond rfl (fun hq => ?_) fun hq => ?_ | refine R_guardT rfl rfl rfl (fun hq => ?_) fun hq => ?_ | refine R_guardF rfl rfl rfl (fun hq => ?_) fun hq => ?_ | refine D_guardT rfl rfl rfl (fun hq => ?_) fun hq => ?_ | refine D_guardF rfl rfl rfl (fun hq => ?_) fun hq => ?_) <;> (try rw [hq]) <;> first | have hp := of_decide_eq_true hq | have hp := of_decide_eq_false hq | have hp := of_decide_eq_false (not_t hq) | have hp := of_decide_eq_true (not_f hq) | have hp := hq))
    · have h8 : lpB c set = false := by simp only [lpB, hg, Bool.true_and, decide_eq_false_iff_not]; omega
      exact ret_lit2 rfl (by rw [lpR, h8]; rfl) (by rw [h8])
    have h8 : set.length ≤ 8 := by omega
    have hB : lpB c set = true := by simp [lpB, hg, h8]
    refine W_loop (fun i : Nat => ⟨_, [(1, .sh 1 (ints set)), (2, .ptr 0 0), (6, .lit (.int .i64 (bigL ((set.take i).map fun k => lp c.arcs set set.length k [k])))), (18, .sh 1 (ints set)), (19, .lit (.int .i64 set.length)), (20, .lit (.int .i64 i))], [.cells 46 (dSGraph c)]⟩) (fun i => i ≤ set.length) (fun i => set.length - i) 0 (Nat.zero_le _) (weakZ []) ?_
    intro i hi
    have hrec := fun h => l10Long_f c set (by omega) set.length (nth set i) [nth set i] (by omega) (by simp; omega) h
    have hrs : i < set.length → restL set [nth set i] ≤ set.length := fun h => by have := rest_one set (nth set i) (nth_mem h); omega
    repeat' (first | refine goZ ?_ | refine R_callZ rfl (hV) rfl rfl rfl ?_ | refine R_callZ rfl (hrec (hrs (by omega))) rfl rfl rfl ?_ | refine R_callZ rfl (l1Most_f _ _) rfl rfl rfl ?_ | refine R_callvZ rfl (hV) rfl rfl rfl rfl ?_ | refine R_callvZ rfl (hrec (hrs (by omega))) rfl rfl rfl rfl ?_ | refine R_callvZ rfl (l1Most_f _ _) rfl rfl rfl rfl ?_ | refine D_callZ rfl (hV) rfl rfl rfl ?_ | refine D_callZ rfl (hrec (hrs (by omega))) rfl rfl rfl ?_ | refine D_callZ rfl (l1Most_f _ _) rfl rfl rfl ?_ | ((first | refine R_cond rfl (fun hq => ?_) fun hq => ?_ | refine R_guardT rfl rfl rfl (fun hq => ?_) fun hq => ?_ | refine R_guardF rfl rfl rfl (fun hq => ?_) fun hq => ?_ | refine D_guardT rfl rfl rfl (fun hq => ?_) fun hq => ?_ | refine D_guardF rfl rfl rfl (fun hq => ?_) fun hq => ?_) <;> (try rw [hq]) <;> first | have hp := of_decide_eq_true hq | have hp := of_decide_eq_false hq | have hp := of_decide_eq_false (not_t hq) | have hp := of_decide_eq_true (not_f hq) | have hp := hq))
    · refine ⟨i + 1, by omega, by omega, ?_⟩
      rw [take_nth (by omega), List.map_append, List.map_cons, List.map_nil, bigL_snoc]
      exact weakZ _
    · exact ret_lit2 rfl (by rw [lpR, hB, if_pos rfl, lpV, List.take_of_length_le (by omega)]) (by rw [hB])
end Go.Proofs.Ytcbfpeplcbgpjaa
