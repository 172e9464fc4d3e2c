/- The groups of the states in which an edge may happen: what the program's and the reference's functions hand back. No condition. -/
import Derived.Test.YtcbfpeplcbgpjaaComB
import Derived.Test.YtcbfpeplcbgpjaaMarkN
set_option linter.unusedSimpArgs false
set_option linter.unusedVariables false
set_option maxHeartbeats 2000000
namespace Go.Proofs.Ytcbfpeplcbgpjaa
open Go.ChangeShapes Go.WideShapes Go.ChangeAt Go.RowKit

noncomputable def ecmR (c : SGraph) (sig : Int) (up : Bool) : List (List Int) := if askB c sig then grpsL c.arcs (exL c.arcs sig up) (exL c.arcs sig up) else []
theorem ecmR_fact (c : SGraph) (sig : Int) (up : Bool) : (∀ r ∈ ecmR c sig up, r.length ≤ 4000) ∧ (ecmR c sig up).length ≤ 4000 := by
  unfold ecmR
  split
  · rename_i h
    have h1 := goodSG_len (askB_good h).1
    have h2 := exL_len c.arcs sig up
    refine ⟨fun r hr => ?_, by have := grps_len c.arcs (exL c.arcs sig up) (exL c.arcs sig up); omega⟩
    obtain ⟨k, _, rfl⟩ := List.mem_map.1 hr
    have := grp_len c.arcs (exL c.arcs sig up) k
    omega
  · simp
/-- What a law asks of a list of lists of numbers. -/
theorem many_facts {l : List (List Int)} (h : (∀ r ∈ l, r.length ≤ 4000) ∧ l.length ≤ 4000) : (∀ r ∈ l, r.length ≤ 1048576) ∧ (∀ n ∈ lensII l, n ≤ 1048576) ∧ (lensII l).length = l.length ∧ (lensII l).sum = cntII l ∧ cntII l ≤ 4000 * l.length ∧ l.length ≤ 4000 := by
  refine ⟨fun r hr => by have := h.1 r hr; omega, fun n hn => ?_, by simp [lensII], rfl, ?_, h.2⟩
  · simp only [lensII, List.mem_map] at hn
    obtain ⟨r, hr, rfl⟩ := hn
    have := h.1 r hr; omega
  · have h1 := h.1
    clear h
    induction l with
    | nil => simp [cntII]
    | cons a l ih =>
      have := ih fun r hr => h1 r (by simp [hr])
      have ha := h1 a (by simp)
      simp only [cntII, List.map_cons, List.sum_cons, List.length_cons] at this ⊢
      omega
theorem exL_ends {c : SGraph} (hE : EndsOk c) (sig : Int) (up : Bool) : ∀ x ∈ exL c.arcs sig up, 0 ≤ x ∧ x < (c.codes.length : Int) := fun x hx => by
  obtain ⟨a, ha, _, rfl⟩ := exL_mem.1 hx
  exact (arc_ends hE ha).1
theorem sg_ends {c : SGraph} (h : goodSG c = true) : EndsOk c := by
  simp only [goodSG, sgB, Bool.and_eq_true] at h
  exact ends_of h.1.2.2

theorem ExcitationComponents_f (c : SGraph) (sig : Int) (up : Bool) : Fn Try.prog 17 [.agg (dSGraph c), .lit (.int .i64 sig), .lit (.bool up)] (.tup [.own 0, .lit (.bool (askB c sig))]) [.arr 78 1 ((ecmR c sig up).map dII) true] := by
  refine Fn_of Try.func17 rfl (by kernel_rfl) rfl rfl ?_
  intro w0 A hin
  have hV := hasSignal_f c sig
  cases hg : askB c sig <;> rw [hg] at hV
  · repeat' (first | refine goZ ?_ | refine R_callZ rfl (hV) rfl rfl rfl ?_ | refine R_callvZ rfl (hV) rfl rfl rfl rfl ?_ | refine D_callZ rfl (hV) rfl rfl rfl ?_ | ((first | refine R_cond rfl (fun hq => ?_) fun hq => ?_ | refine R_guardT rfl rfl rfl (fun hq => ?_) fun hq => ?_ | refine R_guardF rfl rfl rfl (fun hq => ?_) fun hq => ?_ | refine D_guardT rfl rfl rfl (fun hq => ?_) fun hq => ?_ | refine D_guardF rfl rfl rfl (fun hq => ?_) fun hq => ?_) <;> (try rw [hq]) <;> first | have hp := of_decide_eq_true hq | have hp := of_decide_eq_false hq | have hp := of_decide_eq_false (not_t hq) | have hp := of_decide_eq_true (not_f hq) | have hp := hq))
    exact ret_nil_lit rfl (by simp [ecmR, hg]) rfl
  · have hb := goodSG_len (askB_good hg).1
    have hl := exL_len c.arcs sig up
    repeat' (first | refine goZ ?_ | refine R_callZ rfl (hV) rfl rfl rfl ?_ | refine R_callZ rfl (excited_f c sig up (by omega)) rfl rfl rfl ?_ | refine R_callvZ rfl (hV) rfl rfl rfl rfl ?_ | refine R_callvZ rfl (excited_f c sig up (by omega)) rfl rfl rfl rfl ?_ | refine D_callZ rfl (hV) rfl rfl rfl ?_ | refine D_callZ rfl (excited_f c sig up (by omega)) rfl rfl rfl ?_ | refine D_callxZ rfl (components_f c (exL c.arcs sig up) (by omega) (by omega) (exL_inc _ _ _)) rfl rfl rfl rfl (by repeat' (first | exact trivial | rfl | refine And.intro ?_ ?_)) ?_ | ((first | refine R_cond rfl (fun hq => ?_) fun hq => ?_ | refine R_guardT rfl rfl rfl (fun hq => ?_) fun hq => ?_ | refine R_guardF rfl rfl rfl (fun hq => ?_) fun hq => ?_ | refine D_guardT rfl rfl rfl (fun hq => ?_) fun hq => ?_ | refine D_guardF rfl rfl rfl (fun hq => ?_) fun hq => ?_) <;> (try rw [hq]) <;> first | have hp := of_decide_eq_true hq | have hp := of_decide_eq_false hq | have hp := of_decide_eq_false (not_t hq) | have hp := of_decide_eq_true (not_f hq) | have hp := hq))
    exact ret_own_lit rfl rfl (by rw [ecmR, hg, if_pos rfl]) rfl

theorem specExcitationComponents_f (c : SGraph) (sig : Int) (up : Bool) : Fn Try.prog 15 [.agg (dSGraph c), .lit (.int .i64 sig), .lit (.bool up)] (.tup [.own 0, .lit (.bool (askB c sig))]) [.arr 78 1 ((ecmR c sig up).map dII) true] := by
  refine Fn_of Try.func15 rfl (by kernel_rfl) rfl rfl ?_
  intro w0 A hin
  have hV := l10Asked_f c sig
  cases hg : askB c sig <;> rw [hg] at hV
  · repeat' (first | refine goZ ?_ | refine R_callZ rfl (hV) rfl rfl rfl ?_ | refine R_callvZ rfl (hV) rfl rfl rfl rfl ?_ | refine D_callZ rfl (hV) rfl rfl rfl ?_ | ((first | refine R_cond rfl (fun hq => ?_) fun hq => ?_ | refine R_guardT rfl rfl rfl (fun hq => ?_) fun hq => ?_ | refine R_guardF rfl rfl rfl (fun hq => ?_) fun hq => ?_ | refine D_guardT rfl rfl rfl (fun hq => ?_) fun hq => ?_ | refine D_guardF rfl rfl rfl (fun hq => ?_) fun hq => ?_) <;> (try rw [hq]) <;> first | have hp := of_decide_eq_true hq | have hp := of_decide_eq_false hq | have hp := of_decide_eq_false (not_t hq) | have hp := of_decide_eq_true (not_f hq) | have hp := hq))
    exact ret_nil_lit rfl (by simp [ecmR, hg]) rfl
  · have hb := goodSG_len (askB_good hg).1
    have hl := exL_len c.arcs sig up
    have hE := sg_ends (askB_good hg).1
    repeat' (first | refine goZ ?_ | refine R_callZ rfl (hV) rfl rfl rfl ?_ | refine R_callZ rfl (l10Excited_f c sig up (by omega)) rfl rfl rfl ?_ | refine R_callvZ rfl (hV) rfl rfl rfl rfl ?_ | refine R_callvZ rfl (l10Excited_f c sig up (by omega)) rfl rfl rfl rfl ?_ | refine D_callZ rfl (hV) rfl rfl rfl ?_ | refine D_callZ rfl (l10Excited_f c sig up (by omega)) rfl rfl rfl ?_ | refine D_callxZ rfl (l10Groups_f c (exL c.arcs sig up) (by omega) (by omega) hE (by omega) (exL_ends hE sig up)) rfl rfl rfl rfl (by repeat' (first | exact trivial | rfl | refine And.intro ?_ ?_)) ?_ | ((first | refine R_cond rfl (fun hq => ?_) fun hq => ?_ | refine R_guardT rfl rfl rfl (fun hq => ?_) fun hq => ?_ | refine R_guardF rfl rfl rfl (fun hq => ?_) fun hq => ?_ | refine D_guardT rfl rfl rfl (fun hq => ?_) fun hq => ?_ | refine D_guardF rfl rfl rfl (fun hq => ?_) fun hq => ?_) <;> (try rw [hq]) <;> first | have hp := of_decide_eq_true hq | have hp := of_decide_eq_false hq | have hp := of_decide_eq_false (not_t hq) | have hp := of_decide_eq_true (not_f hq) | have hp := hq))
    exact ret_own_lit rfl rfl (by rw [ecmR, hg, if_pos rfl]) rfl
end Go.Proofs.Ytcbfpeplcbgpjaa
