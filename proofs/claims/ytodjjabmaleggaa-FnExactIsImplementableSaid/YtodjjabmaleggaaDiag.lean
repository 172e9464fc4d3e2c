/- What is wrong with a graph, in a word: what the reference's and the program's functions hand back. No condition. -/
import Derived.Test.YtodjjabmaleggaaCscb
import Derived.Test.YtodjjabmaleggaaViob
set_option linter.unusedSimpArgs false
set_option linter.unusedVariables false
set_option maxHeartbeats 2000000
namespace Go.Proofs.Ytodjjabmaleggaa
open Go.ChangeShapes Go.WideShapes Go.ChangeAt Go.RowKit

theorem IndexFunc0_ArcD_f (l : List ArcD) (p : ArcD → Bool) (fid : FuncId) (hp : ∀ x ∈ l, Fn Try.prog fid [.agg (dArcD x)] (.lit (.bool (p x))) []) : Fn Try.prog 212 [.sh 4 (l.map dArcD), .fn fid []] (.lit (.int .i64 (findIx p l))) [] := by
  refine Fn_of Try.func212 rfl (by kernel_rfl) rfl rfl ?_
  intro w0 A hin
  have hl := given_len hin (i := 0) rfl
  rw [len_dArcD] at hl
  have hF := fun k (hk : k < l.length) => hp _ (nth_mem hk)
  clear hp
  repeat' (first | refine goZ ?_ | ((first | refine R_cond rfl (fun hq => ?_) fun hq => ?_ | refine R_guardT rfl rfl rfl (fun hq => ?_) fun hq => ?_ | refine R_guardF rfl rfl rfl (fun hq => ?_) fun hq => ?_ | refine D_guardT rfl rfl rfl (fun hq => ?_) fun hq => ?_ | refine D_guardF rfl rfl rfl (fun hq => ?_) fun hq => ?_) <;> (try rw [hq]) <;> first | have hp := of_decide_eq_true hq | have hp := of_decide_eq_false hq | have hp := of_decide_eq_false (not_t hq) | have hp := of_decide_eq_true (not_f hq) | have hp := hq))
  refine W_loop (fun k : Nat => ⟨_, [(0, .sh 4 (l.map dArcD)), (1, .fn fid []), (7, .lit (.int .i64 l.length)), (8, .lit (.int .i64 k))], []⟩) (fun k => k ≤ l.length ∧ ∀ j, j < k → p (nth l j) = false) (fun k => l.length - k) 0 ⟨Nat.zero_le _, by omega⟩ (weakZ []) ?_
  rintro k ⟨hk, hj⟩
  repeat' (first | refine goZ ?_ | refine R_callZ rfl (hF _ (by omega)) rfl rfl rfl ?_ | refine R_callvZ rfl (hF _ (by omega)) rfl rfl rfl rfl ?_ | refine D_callZ rfl (hF _ (by omega)) rfl rfl rfl ?_ | ((first | refine R_cond rfl (fun hq => ?_) fun hq => ?_ | refine R_guardT rfl rfl rfl (fun hq => ?_) fun hq => ?_ | refine R_guardF rfl rfl rfl (fun hq => ?_) fun hq => ?_ | refine D_guardT rfl rfl rfl (fun hq => ?_) fun hq => ?_ | refine D_guardF rfl rfl rfl (fun hq => ?_) fun hq => ?_) <;> (try rw [hq]) <;> first | have hp := of_decide_eq_true hq | have hp := of_decide_eq_false hq | have hp := of_decide_eq_false (not_t hq) | have hp := of_decide_eq_true (not_f hq) | have hp := hq))
  · exact ret_int' rfl (findIx_at p (by omega) hj hq).symm
  · exact ⟨k + 1, ⟨by omega, fun j hj' => by by_cases e : j = k; (rw [e]; exact hq); exact hj j (by omega)⟩, by omega, weakZ []⟩
  · exact ret_int' rfl (findIx_not p (allN fun j h => hj j (by omega))).symm

theorem ContainsFunc0_ArcD_f (l : List ArcD) (p : ArcD → Bool) (fid : FuncId) (hp : ∀ x ∈ l, Fn Try.prog fid [.agg (dArcD x)] (.lit (.bool (p x))) []) : Fn Try.prog 181 [.sh 4 (l.map dArcD), .fn fid []] (.lit (.bool (l.any p))) [] := by
  refine Fn_of Try.func181 rfl (by kernel_rfl) rfl rfl ?_
  intro w0 A hin
  repeat' (first | refine goZ ?_ | refine R_callZ rfl (IndexFunc0_ArcD_f _ _ _ hp) rfl rfl rfl ?_ | refine R_callvZ rfl (IndexFunc0_ArcD_f _ _ _ hp) rfl rfl rfl rfl ?_ | refine D_callZ rfl (IndexFunc0_ArcD_f _ _ _ hp) rfl rfl rfl ?_ | ((first | refine R_cond rfl (fun hq => ?_) fun hq => ?_ | refine R_guardT rfl rfl rfl (fun hq => ?_) fun hq => ?_ | refine R_guardF rfl rfl rfl (fun hq => ?_) fun hq => ?_ | refine D_guardT rfl rfl rfl (fun hq => ?_) fun hq => ?_ | refine D_guardF rfl rfl rfl (fun hq => ?_) fun hq => ?_) <;> (try rw [hq]) <;> first | have hp := of_decide_eq_true hq | have hp := of_decide_eq_false hq | have hp := of_decide_eq_false (not_t hq) | have hp := of_decide_eq_true (not_f hq) | have hp := hq))
  exact ret_bool' rfl (findIx_any p l)

def hidP (a : ArcD) : Bool := decide (a.sig = -1)
noncomputable def whyS (c : SGraph) : ByteArray :=
  if c.arcs.any hidP then ⟨#[104, 105, 100, 100, 101, 110]⟩ else if 0 < (waL c).length then ⟨#[116, 119, 111, 32, 119, 97, 121, 115]⟩ else if 0 < (vioL c).length then ⟨#[98, 114, 101, 97, 107]⟩ else if 0 < (cfL c).length then ⟨#[99, 111, 110, 102, 108, 105, 99, 116]⟩ else ⟨#[109, 97, 100, 101]⟩
theorem diagnosis1_f (a : ArcD) : Fn Try.prog 182 [.agg (dArcD a)] (.lit (.bool (hidP a))) [] := by
  refine Fn_of Try.func182 rfl (by kernel_rfl) rfl rfl ?_
  intro w0 A hin
  repeat' (first | refine goZ ?_ | ((first | refine R_cond rfl (fun hq => ?_) fun hq => ?_ | refine R_guardT rfl rfl rfl (fun hq => ?_) fun hq => ?_ | refine R_guardF rfl rfl rfl (fun hq => ?_) fun hq => ?_ | refine D_guardT rfl rfl rfl (fun hq => ?_) fun hq => ?_ | refine D_guardF rfl rfl rfl (fun hq => ?_) fun hq => ?_) <;> (try rw [hq]) <;> first | have hp := of_decide_eq_true hq | have hp := of_decide_eq_false hq | have hp := of_decide_eq_false (not_t hq) | have hp := of_decide_eq_true (not_f hq) | have hp := hq))
  exact ret_bool' rfl rfl

theorem diagnosis_f (c : SGraph) (hg : goodSG c = true) : Fn Try.prog 115 [.agg (dSGraph c)] (.lit (.string (whyS c))) [] := by
  refine Fn_of Try.func115 rfl (by kernel_rfl) rfl rfl ?_
  intro w0 A hin
  have hb := goodSG_len hg
  have hC := ContainsFunc0_ArcD_f c.arcs hidP 182 fun x _ => diagnosis1_f x
  have h1 : ((waL c).map dII).length = (waL c).length := by simp
  have h2 : ((vioL c).map dPViol).length = (vioL c).length := by simp
  have h3 : ((cfL c).map dII).length = (cfL c).length := by simp
  repeat' (first | refine goZ ?_ | refine R_callZ rfl (hC) rfl rfl rfl ?_ | refine R_callZ rfl (twoWays_f c (by omega) (sig_ge hg)) rfl rfl rfl ?_ | refine R_callZ rfl (violations_f c hg) rfl rfl rfl ?_ | refine R_callZ rfl (conflicts_f c hg) rfl rfl rfl ?_ | refine R_callvZ rfl (hC) rfl rfl rfl rfl ?_ | refine R_callvZ rfl (twoWays_f c (by omega) (sig_ge hg)) rfl rfl rfl rfl ?_ | refine R_callvZ rfl (violations_f c hg) rfl rfl rfl rfl ?_ | refine R_callvZ rfl (conflicts_f c hg) rfl rfl rfl rfl ?_ | refine D_callZ rfl (hC) rfl rfl rfl ?_ | refine D_callZ rfl (twoWays_f c (by omega) (sig_ge hg)) rfl rfl rfl ?_ | refine D_callZ rfl (violations_f c hg) rfl rfl rfl ?_ | refine D_callZ rfl (conflicts_f c hg) rfl rfl rfl ?_ | ((first | refine R_cond rfl (fun hq => ?_) fun hq => ?_ | refine R_guardT rfl rfl rfl (fun hq => ?_) fun hq => ?_ | refine R_guardF rfl rfl rfl (fun hq => ?_) fun hq => ?_ | refine D_guardT rfl rfl rfl (fun hq => ?_) fun hq => ?_ | refine D_guardF rfl rfl rfl (fun hq => ?_) fun hq => ?_) <;> (try rw [hq]) <;> first | have hp := of_decide_eq_true hq | have hp := of_decide_eq_false hq | have hp := of_decide_eq_false (not_t hq) | have hp := of_decide_eq_true (not_f hq) | have hp := hq))
  · exact ret_lit rfl (by rw [whyS, if_pos hp])
  · exact ret_lit rfl (by rw [whyS, if_neg (by rw [show c.arcs.any hidP = false by assumption]; simp), if_pos (by omega)])
  · exact ret_lit rfl (by rw [whyS, if_neg (by rw [show c.arcs.any hidP = false by assumption]; simp), if_neg (by omega), if_pos (by omega)])
  · exact ret_lit rfl (by rw [whyS, if_neg (by rw [show c.arcs.any hidP = false by assumption]; simp), if_neg (by omega), if_neg (by omega), if_pos (by omega)])
  · exact ret_lit rfl (by rw [whyS, if_neg (by rw [show c.arcs.any hidP = false by assumption]; simp), if_neg (by omega), if_neg (by omega), if_neg (by omega)])

theorem l6Hidden_f (c : SGraph) (hg : goodSG c = true) : Fn Try.prog 179 [.agg (dSGraph c)] (.lit (.bool (c.arcs.any hidP))) [] := by
  refine Fn_of Try.func179 rfl (by kernel_rfl) rfl rfl ?_
  intro w0 A hin
  have hza := len_dArcD c.arcs
  have hb := goodSG_len hg
  repeat' (first | refine goZ ?_ | ((first | refine R_cond rfl (fun hq => ?_) fun hq => ?_ | refine R_guardT rfl rfl rfl (fun hq => ?_) fun hq => ?_ | refine R_guardF rfl rfl rfl (fun hq => ?_) fun hq => ?_ | refine D_guardT rfl rfl rfl (fun hq => ?_) fun hq => ?_ | refine D_guardF rfl rfl rfl (fun hq => ?_) fun hq => ?_) <;> (try rw [hq]) <;> first | have hp := of_decide_eq_true hq | have hp := of_decide_eq_false hq | have hp := of_decide_eq_false (not_t hq) | have hp := of_decide_eq_true (not_f hq) | have hp := hq))
  refine W_loop (fun k : Nat => ⟨_, [(1, .ptr 0 0), (6, .sh 4 (c.arcs.map dArcD)), (7, .lit (.int .i64 c.arcs.length)), (8, .lit (.int .i64 k))], [.cells 69 (dSGraph c)]⟩) (fun k => k ≤ c.arcs.length ∧ ∀ j, j < k → hidP (nth c.arcs j) = false) (fun k => c.arcs.length - k) 0 ⟨Nat.zero_le _, by omega⟩ (weakZ []) ?_
  rintro k ⟨hk, hj⟩
  have hsg : k < c.arcs.length → -1 ≤ (nth c.arcs k).sig := fun h => sig_ge hg _ (nth_mem h)
  repeat' (first | refine goZ ?_ | ((first | refine R_cond rfl (fun hq => ?_) fun hq => ?_ | refine R_guardT rfl rfl rfl (fun hq => ?_) fun hq => ?_ | refine R_guardF rfl rfl rfl (fun hq => ?_) fun hq => ?_ | refine D_guardT rfl rfl rfl (fun hq => ?_) fun hq => ?_ | refine D_guardF rfl rfl rfl (fun hq => ?_) fun hq => ?_) <;> (try rw [hq]) <;> first | have hp := of_decide_eq_true hq | have hp := of_decide_eq_false hq | have hp := of_decide_eq_false (not_t hq) | have hp := of_decide_eq_true (not_f hq) | have hp := hq))
  · have h1 := hsg (by omega)
    exact ret_bool' rfl (List.any_eq_true.2 ⟨nth c.arcs k, nth_mem (by omega), by simp only [hidP, decide_eq_true_eq]; omega⟩).symm
  · refine ⟨k + 1, ⟨by omega, fun j hj' => ?_⟩, by omega, weakZ _⟩
    by_cases e : j = k
    · subst e; simp only [hidP, decide_eq_false_iff_not]; omega
    · exact hj j (by omega)
  · exact ret_bool' rfl (List.any_eq_false.2 (allN fun j h => by rw [hj j (by omega)]; simp)).symm

theorem l6Why_f (c : SGraph) (hg : goodSG c = true) : Fn Try.prog 114 [.agg (dSGraph c)] (.lit (.string (whyS c))) [] := by
  refine Fn_of Try.func114 rfl (by kernel_rfl) rfl rfl ?_
  intro w0 A hin
  have hb := goodSG_len hg
  have h1 : ((waL c).map dII).length = (waL c).length := by simp
  have h2 : ((vioL c).map dPViol).length = (vioL c).length := by simp
  have h3 : ((cfL c).map dII).length = (cfL c).length := by simp
  repeat' (first | refine goZ ?_ | refine R_callZ rfl (l6Hidden_f c hg) rfl rfl rfl ?_ | refine R_callZ rfl (l6Ways_f c (by omega)) rfl rfl rfl ?_ | refine R_callZ rfl (l6Breaks_f c hg) rfl rfl rfl ?_ | refine R_callZ rfl (l6Conflicts_f c hg) rfl rfl rfl ?_ | refine R_callvZ rfl (l6Hidden_f c hg) rfl rfl rfl rfl ?_ | refine R_callvZ rfl (l6Ways_f c (by omega)) rfl rfl rfl rfl ?_ | refine R_callvZ rfl (l6Breaks_f c hg) rfl rfl rfl rfl ?_ | refine R_callvZ rfl (l6Conflicts_f c hg) rfl rfl rfl rfl ?_ | refine D_callZ rfl (l6Hidden_f c hg) rfl rfl rfl ?_ | refine D_callZ rfl (l6Ways_f c (by omega)) rfl rfl rfl ?_ | refine D_callZ rfl (l6Breaks_f c hg) rfl rfl rfl ?_ | refine D_callZ rfl (l6Conflicts_f c hg) rfl rfl rfl ?_ | ((first | refine R_cond rfl (fun hq => ?_) fun hq => ?_ | refine R_guardT rfl rfl rfl (fun hq => ?_) fun hq => ?_ | refine R_guardF rfl rfl rfl (fun hq => ?_) fun hq => ?_ | refine D_guardT rfl rfl rfl (fun hq => ?_) fun hq => ?_ | refine D_guardF rfl rfl rfl (fun hq => ?_) fun hq => ?_) <;> (try rw [hq]) <;> first | have hp := of_decide_eq_true hq | have hp := of_decide_eq_false hq | have hp := of_decide_eq_false (not_t hq) | have hp := of_decide_eq_true (not_f hq) | have hp := hq))
  · exact ret_lit rfl (by rw [whyS, if_pos hp])
  · exact ret_lit rfl (by rw [whyS, if_neg (by rw [show c.arcs.any hidP = false by assumption]; simp), if_pos (by omega)])
  · exact ret_lit rfl (by rw [whyS, if_neg (by rw [show c.arcs.any hidP = false by assumption]; simp), if_neg (by omega), if_pos (by omega)])
  · exact ret_lit rfl (by rw [whyS, if_neg (by rw [show c.arcs.any hidP = false by assumption]; simp), if_neg (by omega), if_neg (by omega), if_pos (by omega)])
  · exact ret_lit rfl (by rw [whyS, if_neg (by rw [show c.arcs.any hidP = false by assumption]; simp), if_neg (by omega), if_neg (by omega), if_neg (by omega)])

noncomputable def diaS (c : SGraph) : ByteArray := if goodSG c then whyS c else ⟨#[]⟩
noncomputable def impB (c : SGraph) : Bool := decide (diaS c = ⟨#[109, 97, 100, 101]⟩)

theorem Diagnose_f (c : SGraph) : Fn Try.prog 50 [.agg (dSGraph c)] (.tup [.lit (.string (diaS c)), .lit (.bool (goodSG c))]) [] := by
  refine Fn_of Try.func50 rfl (by kernel_rfl) rfl rfl ?_
  intro w0 A hin
  have hV := IsValidStateGraph_f c
  cases hg : goodSG c <;> rw [hg] at hV
  · repeat' (first | refine goZ ?_ | refine R_callZ rfl (hV) rfl rfl rfl ?_ | refine R_callvZ rfl (hV) rfl rfl rfl rfl ?_ | refine D_callZ rfl (hV) rfl rfl rfl ?_ | ((first | refine R_cond rfl (fun hq => ?_) fun hq => ?_ | refine R_guardT rfl rfl rfl (fun hq => ?_) fun hq => ?_ | refine R_guardF rfl rfl rfl (fun hq => ?_) fun hq => ?_ | refine D_guardT rfl rfl rfl (fun hq => ?_) fun hq => ?_ | refine D_guardF rfl rfl rfl (fun hq => ?_) fun hq => ?_) <;> (try rw [hq]) <;> first | have hp := of_decide_eq_true hq | have hp := of_decide_eq_false hq | have hp := of_decide_eq_false (not_t hq) | have hp := of_decide_eq_true (not_f hq) | have hp := hq))
    exact ret_lit2 rfl (by simp [diaS, hg]) rfl
  · repeat' (first | refine goZ ?_ | refine R_callZ rfl (hV) rfl rfl rfl ?_ | refine R_callZ rfl (diagnosis_f c hg) rfl rfl rfl ?_ | refine R_callvZ rfl (hV) rfl rfl rfl rfl ?_ | refine R_callvZ rfl (diagnosis_f c hg) rfl rfl rfl rfl ?_ | refine D_callZ rfl (hV) rfl rfl rfl ?_ | refine D_callZ rfl (diagnosis_f c hg) rfl rfl rfl ?_ | ((first | refine R_cond rfl (fun hq => ?_) fun hq => ?_ | refine R_guardT rfl rfl rfl (fun hq => ?_) fun hq => ?_ | refine R_guardF rfl rfl rfl (fun hq => ?_) fun hq => ?_ | refine D_guardT rfl rfl rfl (fun hq => ?_) fun hq => ?_ | refine D_guardF rfl rfl rfl (fun hq => ?_) fun hq => ?_) <;> (try rw [hq]) <;> first | have hp := of_decide_eq_true hq | have hp := of_decide_eq_false hq | have hp := of_decide_eq_false (not_t hq) | have hp := of_decide_eq_true (not_f hq) | have hp := hq))
    exact ret_lit2 rfl (by simp [diaS, hg]) rfl

theorem specDiagnose_f (c : SGraph) : Fn Try.prog 49 [.agg (dSGraph c)] (.tup [.lit (.string (diaS c)), .lit (.bool (goodSG c))]) [] := by
  refine Fn_of Try.func49 rfl (by kernel_rfl) rfl rfl ?_
  intro w0 A hin
  have hV := l5Good_f c
  cases hg : goodSG c <;> rw [hg] at hV
  · repeat' (first | refine goZ ?_ | refine R_callZ rfl (hV) rfl rfl rfl ?_ | refine R_callvZ rfl (hV) rfl rfl rfl rfl ?_ | refine D_callZ rfl (hV) rfl rfl rfl ?_ | ((first | refine R_cond rfl (fun hq => ?_) fun hq => ?_ | refine R_guardT rfl rfl rfl (fun hq => ?_) fun hq => ?_ | refine R_guardF rfl rfl rfl (fun hq => ?_) fun hq => ?_ | refine D_guardT rfl rfl rfl (fun hq => ?_) fun hq => ?_ | refine D_guardF rfl rfl rfl (fun hq => ?_) fun hq => ?_) <;> (try rw [hq]) <;> first | have hp := of_decide_eq_true hq | have hp := of_decide_eq_false hq | have hp := of_decide_eq_false (not_t hq) | have hp := of_decide_eq_true (not_f hq) | have hp := hq))
    exact ret_lit2 rfl (by simp [diaS, hg]) rfl
  · repeat' (first | refine goZ ?_ | refine R_callZ rfl (hV) rfl rfl rfl ?_ | refine R_callZ rfl (l6Why_f c hg) rfl rfl rfl ?_ | refine R_callvZ rfl (hV) rfl rfl rfl rfl ?_ | refine R_callvZ rfl (l6Why_f c hg) rfl rfl rfl rfl ?_ | refine D_callZ rfl (hV) rfl rfl rfl ?_ | refine D_callZ rfl (l6Why_f c hg) rfl rfl rfl ?_ | ((first | refine R_cond rfl (fun hq => ?_) fun hq => ?_ | refine R_guardT rfl rfl rfl (fun hq => ?_) fun hq => ?_ | refine R_guardF rfl rfl rfl (fun hq => ?_) fun hq => ?_ | refine D_guardT rfl rfl rfl (fun hq => ?_) fun hq => ?_ | refine D_guardF rfl rfl rfl (fun hq => ?_) fun hq => ?_) <;> (try rw [hq]) <;> first | have hp := of_decide_eq_true hq | have hp := of_decide_eq_false hq | have hp := of_decide_eq_false (not_t hq) | have hp := of_decide_eq_true (not_f hq) | have hp := hq))
    exact ret_lit2 rfl (by simp [diaS, hg]) rfl

theorem IsImplementable_f (c : SGraph) : Fn Try.prog 52 [.agg (dSGraph c)] (.tup [.lit (.bool (impB c)), .lit (.bool (goodSG c))]) [] := by
  refine Fn_of Try.func52 rfl (by kernel_rfl) rfl rfl ?_
  intro w0 A hin
  repeat' (first | refine goZ ?_ | refine R_callZ rfl (Diagnose_f c) rfl rfl rfl ?_ | refine R_callvZ rfl (Diagnose_f c) rfl rfl rfl rfl ?_ | refine D_callZ rfl (Diagnose_f c) rfl rfl rfl ?_ | ((first | refine R_cond rfl (fun hq => ?_) fun hq => ?_ | refine R_guardT rfl rfl rfl (fun hq => ?_) fun hq => ?_ | refine R_guardF rfl rfl rfl (fun hq => ?_) fun hq => ?_ | refine D_guardT rfl rfl rfl (fun hq => ?_) fun hq => ?_ | refine D_guardF rfl rfl rfl (fun hq => ?_) fun hq => ?_) <;> (try rw [hq]) <;> first | have hp := of_decide_eq_true hq | have hp := of_decide_eq_false hq | have hp := of_decide_eq_false (not_t hq) | have hp := of_decide_eq_true (not_f hq) | have hp := hq))
  exact ret_lit2 rfl rfl rfl

theorem specIsImplementable_f (c : SGraph) : Fn Try.prog 51 [.agg (dSGraph c)] (.tup [.lit (.bool (impB c)), .lit (.bool (goodSG c))]) [] := by
  refine Fn_of Try.func51 rfl (by kernel_rfl) rfl rfl ?_
  intro w0 A hin
  have hV := l5Good_f c
  cases hg : goodSG c <;> rw [hg] at hV
  · repeat' (first | refine goZ ?_ | refine R_callZ rfl (hV) rfl rfl rfl ?_ | refine R_callvZ rfl (hV) rfl rfl rfl rfl ?_ | refine D_callZ rfl (hV) rfl rfl rfl ?_ | ((first | refine R_cond rfl (fun hq => ?_) fun hq => ?_ | refine R_guardT rfl rfl rfl (fun hq => ?_) fun hq => ?_ | refine R_guardF rfl rfl rfl (fun hq => ?_) fun hq => ?_ | refine D_guardT rfl rfl rfl (fun hq => ?_) fun hq => ?_ | refine D_guardF rfl rfl rfl (fun hq => ?_) fun hq => ?_) <;> (try rw [hq]) <;> first | have hp := of_decide_eq_true hq | have hp := of_decide_eq_false hq | have hp := of_decide_eq_false (not_t hq) | have hp := of_decide_eq_true (not_f hq) | have hp := hq))
    exact ret_lit2 rfl (by simp [impB, diaS, hg]) rfl
  · repeat' (first | refine goZ ?_ | refine R_callZ rfl (hV) rfl rfl rfl ?_ | refine R_callZ rfl (l6Why_f c hg) rfl rfl rfl ?_ | refine R_callvZ rfl (hV) rfl rfl rfl rfl ?_ | refine R_callvZ rfl (l6Why_f c hg) rfl rfl rfl rfl ?_ | refine D_callZ rfl (hV) rfl rfl rfl ?_ | refine D_callZ rfl (l6Why_f c hg) rfl rfl rfl ?_ | ((first | refine R_cond rfl (fun hq => ?_) fun hq => ?_ | refine R_guardT rfl rfl rfl (fun hq => ?_) fun hq => ?_ | refine R_guardF rfl rfl rfl (fun hq => ?_) fun hq => ?_ | refine D_guardT rfl rfl rfl (fun hq => ?_) fun hq => ?_ | refine D_guardF rfl rfl rfl (fun hq => ?_) fun hq => ?_) <;> (try rw [hq]) <;> first | have hp := of_decide_eq_true hq | have hp := of_decide_eq_false hq | have hp := of_decide_eq_false (not_t hq) | have hp := of_decide_eq_true (not_f hq) | have hp := hq))
    exact ret_lit2 rfl (by simp [impB, diaS, hg]) rfl
theorem whyS_len (c : SGraph) : (whyS c).size ≤ 8 := by
  unfold whyS; repeat' split
  all_goals decide
end Go.Proofs.Ytodjjabmaleggaa
