/- Numbers sorted, each once: what the program's functions hand back. No condition. -/
import Derived.Test.YtcbfpeplcbgpjaaTidyP
import Derived.Test.YtcbfpeplcbgpjaaInp
import Derived.Test.YtcbfpeplcbgpjaaSgc
import Derived.Test.YtcbfpeplcbgpjaaRet
import Derived.Test.YtcbfpeplcbgpjaaLayCmp
import Derived.Test.YtcbfpeplcbgpjaaLaySort
import Derived.Test.YtcbfpeplcbgpjaaDrw
import Derived.Shelf.Slices.In.SortNone
set_option linter.unusedSimpArgs false
set_option linter.unusedVariables false
set_option maxHeartbeats 2000000
namespace Go.Proofs.Ytcbfpeplcbgpjaa
open Go.ChangeShapes Go.WideShapes Go.ChangeAt Go.RowKit

theorem Sort_I (l : List Int) (hl : l.length ≤ 1000000) : InpI Try.prog 180 l (sortL l) none := by
  refine ⟨plain_of Try.func180 (by kernel_rfl) (by kernel_rfl), sortL_len l, by simp, fun x hx => Or.inr ((sortL_mem l x).1 hx), fun w g cap hg hH hc hm => ?_, fun h0 w => ?_⟩
  · refine (Any.slices_Sort_int laySort g 0 cap l w hH hg (by omega)).mono ?_
    rintro e w' ⟨h1, q, os, h2⟩
    exact ⟨h1, q, os, h2⟩
  · subst h0
    refine (Any.slices_Sort_int_none laySort none 0 w).mono ?_
    rintro e w' ⟨h1, h2⟩
    exact ⟨h1, h2⟩
theorem Compact_I (l : List Int) (hl : l.length ≤ 1000000) : InpI Try.prog 181 l (Go.Lib.compact l ++ List.replicate (l.length - (Go.Lib.compact l).length) 0) (some (Go.Lib.compact l).length) := by
  have hle : (Go.Lib.compact l).length ≤ l.length := by
    unfold Go.Lib.compact Go.Lib.compactUpTo
    rw [List.length_map]
    exact Nat.le_trans (List.length_filter_le _ _) (by simp)
  refine ⟨plain_of Try.func181 (by kernel_rfl) (by kernel_rfl), by simp; omega, fun c hc => by cases hc; exact hle, fun x hx => ?_, fun w g cap hg hH hc hm => ?_, fun h0 w => ?_⟩
  · rcases List.mem_append.1 hx with hx | hx
    · exact Or.inr ((compact_mem l x).1 hx)
    · exact Or.inl (List.eq_of_mem_replicate hx)
  · refine (Any.slices_Compact_int layCmp g 0 cap l w hH (by omega) hc).mono ?_
    rintro e w' ⟨h1, q, h2⟩
    exact ⟨h1, q, #[], by rw [Go.Sort.grow_empty]; exact h2⟩
  · subst h0
    refine (Any.slices_Compact_int_empty layCmp none 0 w).mono ?_
    rintro e w' ⟨h1, h2⟩
    exact ⟨h1, h2⟩

theorem tidy_m (l : List Int) (hl : l.length ≤ 1000000) : FnM Try.prog 137 (.arr 3 1 (ints l) true) [.own 0] (.own 0) [.arr 3 1 (ints (tidyL l)) true] := by
  refine FnM_of Try.func137 rfl (by kernel_rfl) rfl rfl rfl rfl rfl ?_
  intro w0 A R
  have h1 := sortL_len l
  repeat' (first | refine goZ ?_ | refine R_inpS rfl (Sort_I l hl) rfl rfl rfl rfl ?_ | refine R_inpN rfl (Sort_I l hl) rfl rfl rfl ?_ | refine R_inpCut rfl (Compact_I (sortL l) (by omega)) rfl rfl rfl rfl rfl ?_ | ((first | refine R_cond rfl (fun hq => ?_) fun hq => ?_ | refine R_guardT rfl rfl rfl (fun hq => ?_) fun hq => ?_ | refine R_guardF rfl rfl rfl (fun hq => ?_) fun hq => ?_ | refine D_guardT rfl rfl rfl (fun hq => ?_) fun hq => ?_ | refine D_guardF rfl rfl rfl (fun hq => ?_) fun hq => ?_) <;> (try rw [hq]) <;> first | have hp := of_decide_eq_true hq | have hp := of_decide_eq_false hq | have hp := of_decide_eq_false (not_t hq) | have hp := of_decide_eq_true (not_f hq) | have hp := hq))
  exact .r (ret_own rfl rfl (by rw [List.take_left' rfl]; rfl)) rfl

theorem labelOfArc_f (a : ArcD) : Fn Try.prog 140 [.agg (dArcD a)] (.agg (dLab ⟨a.sig, a.up⟩)) [] := by
  refine Fn_ofC tabOk Try.func140 rfl (by kernel_rfl) rfl rfl ?_
  intro w0 A hin
  repeat' (first | refine goZ ?_ | ((first | refine R_cond rfl (fun hq => ?_) fun hq => ?_ | refine R_guardT rfl rfl rfl (fun hq => ?_) fun hq => ?_ | refine R_guardF rfl rfl rfl (fun hq => ?_) fun hq => ?_ | refine D_guardT rfl rfl rfl (fun hq => ?_) fun hq => ?_ | refine D_guardF rfl rfl rfl (fun hq => ?_) fun hq => ?_) <;> (try rw [hq]) <;> first | have hp := of_decide_eq_true hq | have hp := of_decide_eq_false hq | have hp := of_decide_eq_false (not_t hq) | have hp := of_decide_eq_true (not_f hq) | have hp := hq))
  first | exact .n ⟨_, [], rfl, ⟨rfl, rfl, trivial⟩, trivial, List.nodup_nil⟩ | exact .r ⟨_, [], rfl, ⟨rfl, rfl, trivial⟩, trivial, List.nodup_nil⟩

def exF (l : List ArcD) (sig : Int) (up : Bool) : List Int := (l.filter (isA sig up)).map fun a => a.src
theorem exF_len (l : List ArcD) (sig : Int) (up : Bool) : (exF l sig up).length ≤ l.length := by
  unfold exF; rw [List.length_map]; exact List.length_filter_le _ _
theorem exF_yes {l : List ArcD} {sig : Int} {up : Bool} {k : Nat} (hk : k < l.length) (h : isA sig up (nth l k) = true) : exF (l.take (k + 1)) sig up = exF (l.take k) sig up ++ [(nth l k).src] := by
  unfold exF; rw [fil_yes hk h, List.map_append]; rfl
theorem exF_no {l : List ArcD} {sig : Int} {up : Bool} {k : Nat} (hk : k < l.length) (h : isA sig up (nth l k) = false) : exF (l.take (k + 1)) sig up = exF (l.take k) sig up := by
  unfold exF; rw [fil_no hk h]
theorem exF_tidy (l : List ArcD) (sig : Int) (up : Bool) : tidyL (exF l sig up) = exL l sig up := by
  refine inc_ext (tidyL_inc _) (exL_inc l sig up) fun x => ?_
  rw [tidyL_mem, exL_mem]
  simp [exF, and_assoc]

theorem excited_f (c : SGraph) (sig : Int) (up : Bool) (hb : c.arcs.length ≤ 4000) : Fn Try.prog 63 [.agg (dSGraph c), .agg (dLab ⟨sig, up⟩)] (.own 0) [.arr 3 1 (ints (exL c.arcs sig up)) true] := by
  refine Fn_of Try.func63 rfl (by kernel_rfl) rfl rfl ?_
  intro w0 A hin
  have hza := len_dArcD c.arcs
  have hlen := exF_len c.arcs sig up
  repeat' (first | refine goZ ?_ | refine R_callM rfl (tidy_m (exF c.arcs sig up) (by omega)) rfl rfl rfl rfl rfl rfl rfl rfl (by first | exact hfl _ | exact flat_ints _) ?_ | ((first | refine R_cond rfl (fun hq => ?_) fun hq => ?_ | refine R_guardT rfl rfl rfl (fun hq => ?_) fun hq => ?_ | refine R_guardF rfl rfl rfl (fun hq => ?_) fun hq => ?_ | refine D_guardT rfl rfl rfl (fun hq => ?_) fun hq => ?_ | refine D_guardF rfl rfl rfl (fun hq => ?_) fun hq => ?_) <;> (try rw [hq]) <;> first | have hp := of_decide_eq_true hq | have hp := of_decide_eq_false hq | have hp := of_decide_eq_false (not_t hq) | have hp := of_decide_eq_true (not_f hq) | have hp := hq))
  refine W_loop (fun k : Nat => ⟨_, [(2, .ptr 0 0), (3, .ptr 1 0), (5, .own 2), (10, .sh 4 (c.arcs.map dArcD)), (11, .lit (.int .i64 c.arcs.length)), (12, .lit (.int .i64 k))], [.cells 46 (dSGraph c), .cells 105 (dLab ⟨sig, up⟩), .arr 3 1 (ints (exF (c.arcs.take k) sig up)) true]⟩) (fun k => k ≤ c.arcs.length) (fun k => c.arcs.length - k) 0 (Nat.zero_le _) (weakZ []) ?_
  intro k hk
  have hk2 := exF_len (c.arcs.take k) sig up
  have hk3 : (c.arcs.take k).length ≤ k := by simp; omega
  have hE := eq_Lab ⟨(nth c.arcs k).sig, (nth c.arcs k).up⟩ ⟨sig, up⟩
  have hA : isA sig up (nth c.arcs k) = decide ((⟨(nth c.arcs k).sig, (nth c.arcs k).up⟩ : Lab) = ⟨sig, up⟩) := by
    rw [isA, Bool.eq_iff_iff]; simp
  have ek : ¬ k < c.arcs.length → c.arcs.take k = c.arcs := fun h => List.take_of_length_le (by omega)
  repeat' (first | refine W_drawAt 3 mixed tabOk rfl rfl rfl ?_ | refine go1 ?_ | refine R_callZ rfl (labelOfArc_f (nth c.arcs k)) rfl rfl rfl ?_ | refine R_callvZ rfl (labelOfArc_f (nth c.arcs k)) rfl rfl rfl rfl ?_ | refine R_eqs hE rfl rfl rfl ?_ | refine R_callM rfl (tidy_m (exF (c.arcs.take k) sig up) (by omega)) rfl rfl rfl rfl rfl rfl rfl rfl (by first | exact hfl _ | exact flat_ints _) ?_ | refine D_callZ rfl (labelOfArc_f (nth c.arcs k)) rfl rfl rfl ?_ | ((first | refine R_cond rfl (fun hq => ?_) fun hq => ?_ | refine R_guardT rfl rfl rfl (fun hq => ?_) fun hq => ?_ | refine R_guardF rfl rfl rfl (fun hq => ?_) fun hq => ?_ | refine D_guardT rfl rfl rfl (fun hq => ?_) fun hq => ?_ | refine D_guardF rfl rfl rfl (fun hq => ?_) fun hq => ?_) <;> (try rw [hq]) <;> first | have hp := of_decide_eq_true hq | have hp := of_decide_eq_false hq | have hp := of_decide_eq_false (not_t hq) | have hp := of_decide_eq_true (not_f hq) | have hp := hq))
  · refine ⟨k + 1, by omega, by omega, ?_⟩
    simp only [exF_yes (show k < c.arcs.length by omega) (by rw [hA]; exact hq), ints_snoc]
    exact weakZ _
  · refine ⟨k + 1, by omega, by omega, ?_⟩
    simp only [exF_no (show k < c.arcs.length by omega) (by rw [hA]; exact hq)]
    exact weakZ _
  · exact ret_own rfl rfl (by rw [exF_tidy, ek (by omega)])

def swL (l : List ArcD) (sig : Int) (up : Bool) : List Int := (l.filter (isA sig up)).foldl (fun r a => putI r a.dst) []
theorem swL_yes {l : List ArcD} {sig : Int} {up : Bool} {k : Nat} (hk : k < l.length) (h : isA sig up (nth l k) = true) : swL (l.take (k + 1)) sig up = putI (swL (l.take k) sig up) (nth l k).dst := by
  unfold swL; rw [fil_yes hk h, List.foldl_append]; rfl
theorem swL_no {l : List ArcD} {sig : Int} {up : Bool} {k : Nat} (hk : k < l.length) (h : isA sig up (nth l k) = false) : swL (l.take (k + 1)) sig up = swL (l.take k) sig up := by
  unfold swL; rw [fil_no hk h]
theorem swL_len (l : List ArcD) (sig : Int) (up : Bool) : (swL l sig up).length ≤ l.length := by
  have := (put_fold (fun a : ArcD => a.dst) (l.filter (isA sig up)) [] (by simp [Inc])).2.2
  have := List.length_filter_le (isA sig up) l
  unfold swL; simp at *; omega
theorem swL_mem {l : List ArcD} {sig : Int} {up : Bool} {x : Int} : x ∈ swL l sig up ↔ ∃ a ∈ l, isA sig up a = true ∧ a.dst = x := by
  unfold swL
  rw [(put_fold (fun a : ArcD => a.dst) (l.filter (isA sig up)) [] (by simp [Inc])).2.1]
  simp [and_assoc]
theorem swL_inc (l : List ArcD) (sig : Int) (up : Bool) : Inc (swL l sig up) := (put_fold (fun a : ArcD => a.dst) (l.filter (isA sig up)) [] (by simp [Inc])).1

def swF (l : List ArcD) (sig : Int) (up : Bool) : List Int := (l.filter (isA sig up)).map fun a => a.dst
theorem swF_len (l : List ArcD) (sig : Int) (up : Bool) : (swF l sig up).length ≤ l.length := by
  unfold swF; rw [List.length_map]; exact List.length_filter_le _ _
theorem swF_yes {l : List ArcD} {sig : Int} {up : Bool} {k : Nat} (hk : k < l.length) (h : isA sig up (nth l k) = true) : swF (l.take (k + 1)) sig up = swF (l.take k) sig up ++ [(nth l k).dst] := by
  unfold swF; rw [fil_yes hk h, List.map_append]; rfl
theorem swF_no {l : List ArcD} {sig : Int} {up : Bool} {k : Nat} (hk : k < l.length) (h : isA sig up (nth l k) = false) : swF (l.take (k + 1)) sig up = swF (l.take k) sig up := by
  unfold swF; rw [fil_no hk h]
theorem swF_tidy (l : List ArcD) (sig : Int) (up : Bool) : tidyL (swF l sig up) = swL l sig up := by
  refine inc_ext (tidyL_inc _) (swL_inc l sig up) fun x => ?_
  rw [tidyL_mem, swL_mem]
  simp [swF, and_assoc]

end Go.Proofs.Ytcbfpeplcbgpjaa
