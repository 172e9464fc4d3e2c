/- slices.Clone, slices.DeleteFunc. No condition. -/
import Derived.Test.YtcbfpeplcbgpjaaIx
import Derived.Test.YtcbfpeplcbgpjaaMv
set_option linter.unusedSimpArgs false
set_option linter.unusedVariables false
set_option maxHeartbeats 2000000
namespace Go.Proofs.Ytcbfpeplcbgpjaa
open Go.ChangeShapes Go.WideShapes Go.ChangeAt Go.RowKit

theorem Clone_Int_f (l : List Int) (hz : l.length ≤ 4294967296) : Fn Try.prog 136 [.sh 1 (ints l)] (.own 0) [.arr 3 1 (ints l) true] := by
  refine Fn_of Try.func136 rfl (by kernel_rfl) rfl rfl ?_
  intro w0 A hin
  have hfl : ∀ l : List Int, Flat (ints l) := flat_ints
  have hl := len_ints l
  repeat' (first | (refine R_eqNil tabOk rfl rfl rfl rfl fun b hb => ?_) | refine go1 ?_ | refine R_append tabOk rfl rfl rfl rfl rfl rfl rfl rfl rfl rfl rfl (hfl _) (by simp only [List.length_nil]; omega) ?_ | ((first | refine R_cond rfl (fun hq => ?_) fun hq => ?_ | refine R_guardT rfl rfl rfl (fun hq => ?_) fun hq => ?_ | refine R_guardF rfl rfl rfl (fun hq => ?_) fun hq => ?_ | refine D_guardT rfl rfl rfl (fun hq => ?_) fun hq => ?_ | refine D_guardF rfl rfl rfl (fun hq => ?_) fun hq => ?_) <;> (try rw [hq]) <;> first | have hp := of_decide_eq_true hq | have hp := of_decide_eq_false hq | have hp := of_decide_eq_false (not_t hq) | have hp := of_decide_eq_true (not_f hq) | have hp := hq))
  · exact ret_nil rfl (hb (by assumption))
  · exact ret_own rfl rfl rfl

theorem DeleteFunc_Int_m (l : List Int) (p : Int → Bool) (fid : FuncId) (cs : List D) (hz : l.length ≤ 4294967296) (hC : ∀ x ∈ l, Fn Try.prog fid [.lit (.int .i64 x), .sptr cs] (.lit (.bool (p x))) []) : FnM Try.prog 138 (.arr 3 1 (ints l) true) [.own 0, .fn fid [.sptr cs]] (.own 0) [.arr 3 1 (ints (l.filter fun x => !p x)) true] := by
  refine FnM_of Try.func138 rfl (by kernel_rfl) rfl rfl rfl rfl rfl ?_
  intro w0 A R
  have hfl : ∀ l : List Int, Flat (ints l) := flat_ints
  have hl := fun l => len_ints l
  have hl0 := hl l
  have hlo := findIx_ge p l
  have hhi := findIx_lt p l
  repeat' (first | refine goZ ?_ | refine R_callZ rfl (IndexFunc_Int_f _ _ _ _ hC) rfl rfl rfl ?_ | refine R_callvZ rfl (IndexFunc_Int_f _ _ _ _ hC) rfl rfl rfl rfl ?_ | refine D_callZ rfl (IndexFunc_Int_f _ _ _ _ hC) rfl rfl rfl ?_ | ((first | refine R_cond rfl (fun hq => ?_) fun hq => ?_ | refine R_guardT rfl rfl rfl (fun hq => ?_) fun hq => ?_ | refine R_guardF rfl rfl rfl (fun hq => ?_) fun hq => ?_ | refine D_guardT rfl rfl rfl (fun hq => ?_) fun hq => ?_ | refine D_guardF rfl rfl rfl (fun hq => ?_) fun hq => ?_) <;> (try rw [hq]) <;> first | have hp := of_decide_eq_true hq | have hp := of_decide_eq_false hq | have hp := of_decide_eq_false (not_t hq) | have hp := of_decide_eq_true (not_f hq) | have hp := hq))
  · exact .r (ret_own rfl rfl (by rw [filter_none hp])) rfl
  · obtain ⟨k, hk1, hk2, hk3, hk4⟩ := findIx_spec hp
    rw [hk2]
    refine W_loop (fun x : List Int × Nat × Nat => ⟨_, [(0, .own 0), (1, .fn fid [.sptr cs]), (5, .lit (.int .i64 x.2.1)), (6, .lit (.int .i64 x.2.2))], [.arr 3 1 (ints x.1) true, .cust R]⟩) (fun x => DelInv p l x.1 x.2.1 x.2.2) (fun x => l.length - x.2.2) (l, k, k + 1) (DelInv.start hk1 hk3 hk4) (weakZ []) ?_
    rintro ⟨cur, i, r⟩ hI
    dsimp only at hI ⊢
    have hi1 := hI.lt
    have hi2 := hI.le
    have hi3 := hI.len
    have hi4 := hl cur
    have hmem := fun h => hI.mem (r := r) h
    repeat' (first | refine R_clearTail tabOk rfl rfl rfl rfl rfl rfl rfl rfl rfl rfl rfl (hfl _) (by omega) ?_ | refine R_cutOwn tabOk rfl rfl rfl rfl rfl rfl rfl rfl (flat_tail (hfl _) rfl) (by simp; omega) ?_ | refine go1 ?_ | refine R_callZ rfl (hC _ (hmem (by omega))) rfl rfl rfl ?_ | refine R_callvZ rfl (hC _ (hmem (by omega))) rfl rfl rfl rfl ?_ | refine D_callZ rfl (hC _ (hmem (by omega))) rfl rfl rfl ?_ | ((first | refine R_cond rfl (fun hq => ?_) fun hq => ?_ | refine R_guardT rfl rfl rfl (fun hq => ?_) fun hq => ?_ | refine R_guardF rfl rfl rfl (fun hq => ?_) fun hq => ?_ | refine D_guardT rfl rfl rfl (fun hq => ?_) fun hq => ?_ | refine D_guardF rfl rfl rfl (fun hq => ?_) fun hq => ?_) <;> (try rw [hq]) <;> first | have hp := of_decide_eq_true hq | have hp := of_decide_eq_false hq | have hp := of_decide_eq_false (not_t hq) | have hp := of_decide_eq_true (not_f hq) | have hp := hq))
    · exact ⟨(cur.set i (nth cur r), i + 1, r + 1), hI.yes (by omega) (not_t hp), by simp only; omega, weakZ _⟩
    · exact ⟨(cur, i, r + 1), hI.no (by omega) (not_f hp), by simp only; omega, weakZ _⟩
    · exact .r (ret_own rfl rfl ((cut_tail (f := (fun x : Int => ([.lit (.int .i64 x)] : List D))) (by omega)).trans (by rw [hI.fin (by omega)]; rfl))) rfl

theorem Clone_Lab_f (l : List Lab) (hz : l.length ≤ 4294967296) : Fn Try.prog 90 [.sh 2 (l.map dLab)] (.own 0) [.arr 105 2 (l.map dLab) true] := by
  refine Fn_of Try.func90 rfl (by kernel_rfl) rfl rfl ?_
  intro w0 A hin
  have hfl : ∀ l : List Lab, Flat (l.map dLab) := fun l => flat_map (by simp [dLab, isLit])
  have hl := len_dLab l
  repeat' (first | (refine R_eqNil tabOk rfl rfl rfl rfl fun b hb => ?_) | refine go1 ?_ | refine R_append tabOk rfl rfl rfl rfl rfl rfl rfl rfl rfl rfl rfl (hfl _) (by simp only [List.length_nil]; omega) ?_ | ((first | refine R_cond rfl (fun hq => ?_) fun hq => ?_ | refine R_guardT rfl rfl rfl (fun hq => ?_) fun hq => ?_ | refine R_guardF rfl rfl rfl (fun hq => ?_) fun hq => ?_ | refine D_guardT rfl rfl rfl (fun hq => ?_) fun hq => ?_ | refine D_guardF rfl rfl rfl (fun hq => ?_) fun hq => ?_) <;> (try rw [hq]) <;> first | have hp := of_decide_eq_true hq | have hp := of_decide_eq_false hq | have hp := of_decide_eq_false (not_t hq) | have hp := of_decide_eq_true (not_f hq) | have hp := hq))
  · exact ret_nil rfl (hb (by assumption))
  · exact ret_own rfl rfl rfl

theorem Clone_ArcD_f (l : List ArcD) (hz : l.length ≤ 4294967296) : Fn Try.prog 109 [.sh 4 (l.map dArcD)] (.own 0) [.arr 148 4 (l.map dArcD) true] := by
  refine Fn_of Try.func109 rfl (by kernel_rfl) rfl rfl ?_
  intro w0 A hin
  have hfl : ∀ l : List ArcD, Flat (l.map dArcD) := fun l => flat_map (by simp [dArcD, isLit])
  have hl := len_dArcD l
  repeat' (first | (refine R_eqNil tabOk rfl rfl rfl rfl fun b hb => ?_) | refine go1 ?_ | refine R_append tabOk rfl rfl rfl rfl rfl rfl rfl rfl rfl rfl rfl (hfl _) (by simp only [List.length_nil]; omega) ?_ | ((first | refine R_cond rfl (fun hq => ?_) fun hq => ?_ | refine R_guardT rfl rfl rfl (fun hq => ?_) fun hq => ?_ | refine R_guardF rfl rfl rfl (fun hq => ?_) fun hq => ?_ | refine D_guardT rfl rfl rfl (fun hq => ?_) fun hq => ?_ | refine D_guardF rfl rfl rfl (fun hq => ?_) fun hq => ?_) <;> (try rw [hq]) <;> first | have hp := of_decide_eq_true hq | have hp := of_decide_eq_false hq | have hp := of_decide_eq_false (not_t hq) | have hp := of_decide_eq_true (not_f hq) | have hp := hq))
  · exact ret_nil rfl (hb (by assumption))
  · exact ret_own rfl rfl rfl

theorem DeleteFunc_ArcD_m (l : List ArcD) (p : ArcD → Bool) (fid : FuncId) (cs : List D) (hz : l.length ≤ 4294967296) (hC : ∀ x ∈ l, Fn Try.prog fid [.agg (dArcD x), .sptr cs] (.lit (.bool (p x))) []) : FnM Try.prog 108 (.arr 148 4 (l.map dArcD) true) [.own 0, .fn fid [.sptr cs]] (.own 0) [.arr 148 4 ((l.filter fun x => !p x).map dArcD) true] := by
  refine FnM_of Try.func108 rfl (by kernel_rfl) rfl rfl rfl rfl rfl ?_
  intro w0 A R
  have hfl : ∀ l : List ArcD, Flat (l.map dArcD) := fun l => flat_map (by simp [dArcD, isLit])
  have hl := fun l => len_dArcD l
  have hl0 := hl l
  have hlo := findIx_ge p l
  have hhi := findIx_lt p l
  repeat' (first | refine goZ ?_ | refine R_callZ rfl (IndexFunc_ArcD_f _ _ _ _ hC) rfl rfl rfl ?_ | refine R_callvZ rfl (IndexFunc_ArcD_f _ _ _ _ hC) rfl rfl rfl rfl ?_ | refine D_callZ rfl (IndexFunc_ArcD_f _ _ _ _ hC) rfl rfl rfl ?_ | ((first | refine R_cond rfl (fun hq => ?_) fun hq => ?_ | refine R_guardT rfl rfl rfl (fun hq => ?_) fun hq => ?_ | refine R_guardF rfl rfl rfl (fun hq => ?_) fun hq => ?_ | refine D_guardT rfl rfl rfl (fun hq => ?_) fun hq => ?_ | refine D_guardF rfl rfl rfl (fun hq => ?_) fun hq => ?_) <;> (try rw [hq]) <;> first | have hp := of_decide_eq_true hq | have hp := of_decide_eq_false hq | have hp := of_decide_eq_false (not_t hq) | have hp := of_decide_eq_true (not_f hq) | have hp := hq))
  · exact .r (ret_own rfl rfl (by rw [filter_none hp])) rfl
  · obtain ⟨k, hk1, hk2, hk3, hk4⟩ := findIx_spec hp
    rw [hk2]
    refine W_loop (fun x : List ArcD × Nat × Nat => ⟨_, [(0, .own 0), (1, .fn fid [.sptr cs]), (5, .lit (.int .i64 x.2.1)), (6, .lit (.int .i64 x.2.2))], [.arr 148 4 (x.1.map dArcD) true, .cust R]⟩) (fun x => DelInv p l x.1 x.2.1 x.2.2) (fun x => l.length - x.2.2) (l, k, k + 1) (DelInv.start hk1 hk3 hk4) (weakZ []) ?_
    rintro ⟨cur, i, r⟩ hI
    dsimp only at hI ⊢
    have hi1 := hI.lt
    have hi2 := hI.le
    have hi3 := hI.len
    have hi4 := hl cur
    have hmem := fun h => hI.mem (r := r) h
    repeat' (first | refine R_clearTail tabOk rfl rfl rfl rfl rfl rfl rfl rfl rfl rfl rfl (hfl _) (by omega) ?_ | refine R_cutOwn tabOk rfl rfl rfl rfl rfl rfl rfl rfl (flat_tail (hfl _) rfl) (by simp; omega) ?_ | refine go1 ?_ | refine R_callZ rfl (hC _ (hmem (by omega))) rfl rfl rfl ?_ | refine R_callvZ rfl (hC _ (hmem (by omega))) rfl rfl rfl rfl ?_ | refine D_callZ rfl (hC _ (hmem (by omega))) rfl rfl rfl ?_ | ((first | refine R_cond rfl (fun hq => ?_) fun hq => ?_ | refine R_guardT rfl rfl rfl (fun hq => ?_) fun hq => ?_ | refine R_guardF rfl rfl rfl (fun hq => ?_) fun hq => ?_ | refine D_guardT rfl rfl rfl (fun hq => ?_) fun hq => ?_ | refine D_guardF rfl rfl rfl (fun hq => ?_) fun hq => ?_) <;> (try rw [hq]) <;> first | have hp := of_decide_eq_true hq | have hp := of_decide_eq_false hq | have hp := of_decide_eq_false (not_t hq) | have hp := of_decide_eq_true (not_f hq) | have hp := hq))
    · exact ⟨(cur.set i (nth cur r), i + 1, r + 1), hI.yes (by omega) (not_t hp), by simp only; omega, weakZ _⟩
    · exact ⟨(cur, i, r + 1), hI.no (by omega) (not_f hp), by simp only; omega, weakZ _⟩
    · exact .r (ret_own rfl rfl ((cut_tail (f := dArcD) (by omega)).trans (by rw [hI.fin (by omega)]))) rfl
end Go.Proofs.Ytcbfpeplcbgpjaa
