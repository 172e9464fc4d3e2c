/- slices.Clone, slices.DeleteFunc. No condition. -/
import Derived.Test.YtpmiihejbmdkfaaIx
import Derived.Test.YtpmiihejbmdkfaaMv
set_option linter.unusedSimpArgs false
set_option linter.unusedVariables false
set_option maxHeartbeats 2000000
namespace Go.Proofs.Ytpmiihejbmdkfaa
open Go.ChangeShapes Go.WideShapes Go.ChangeAt Go.RowKit

theorem Clone_Mv_f (l : List Mv) (hz : l.length ≤ 4294967296) : Fn Try.prog 94 [.sh 3 (l.map dMv)] (.own 0) [.arr 119 3 (l.map dMv) true] := by
  refine Fn_of Try.func94 rfl (by kernel_rfl) rfl rfl ?_
  intro w0 A hin
  have hfl : ∀ l : List Mv, Flat (l.map dMv) := fun l => flat_map (by simp [dMv, isLit])
  have hl := len_dMv l
  repeat' (first | (refine R_eqNil tabOk rfl rfl rfl rfl fun b hb => ?_) | refine go1 ?_ | refine R_append tabOk rfl rfl rfl rfl rfl rfl rfl rfl rfl rfl rfl (hfl _) (by simp only [List.length_nil]; omega) ?_ | ((first | refine R_cond rfl (fun hq => ?_) fun hq => ?_ | refine R_guardT rfl rfl rfl (fun hq => ?_) fun hq => ?_ | refine R_guardF rfl rfl rfl (fun hq => ?_) fun hq => ?_ | refine D_guardT rfl rfl rfl (fun hq => ?_) fun hq => ?_ | refine D_guardF rfl rfl rfl (fun hq => ?_) fun hq => ?_) <;> (try rw [hq]) <;> first | have hp := of_decide_eq_true hq | have hp := of_decide_eq_false hq | have hp := of_decide_eq_false (not_t hq) | have hp := of_decide_eq_true (not_f hq) | have hp := hq))
  · exact ret_nil rfl (hb (by assumption))
  · exact ret_own rfl rfl rfl

theorem DeleteFunc_Mv_m (l : List Mv) (p : Mv → Bool) (fid : FuncId) (cs : List D) (hz : l.length ≤ 4294967296) (hC : ∀ x ∈ l, Fn Try.prog fid [.agg (dMv x), .sptr cs] (.lit (.bool (p x))) []) : FnM Try.prog 93 (.arr 119 3 (l.map dMv) true) [.own 0, .fn fid [.sptr cs]] (.own 0) [.arr 119 3 ((l.filter fun x => !p x).map dMv) true] := by
  refine FnM_of Try.func93 rfl (by kernel_rfl) rfl rfl rfl rfl rfl ?_
  intro w0 A R
  have hfl : ∀ l : List Mv, Flat (l.map dMv) := fun l => flat_map (by simp [dMv, isLit])
  have hl := fun l => len_dMv l
  have hl0 := hl l
  have hlo := findIx_ge p l
  have hhi := findIx_lt p l
  repeat' (first | refine goZ ?_ | refine R_callZ rfl (IndexFunc_Mv_f _ _ _ _ hC) rfl rfl rfl ?_ | refine R_callvZ rfl (IndexFunc_Mv_f _ _ _ _ hC) rfl rfl rfl rfl ?_ | refine D_callZ rfl (IndexFunc_Mv_f _ _ _ _ hC) rfl rfl rfl ?_ | ((first | refine R_cond rfl (fun hq => ?_) fun hq => ?_ | refine R_guardT rfl rfl rfl (fun hq => ?_) fun hq => ?_ | refine R_guardF rfl rfl rfl (fun hq => ?_) fun hq => ?_ | refine D_guardT rfl rfl rfl (fun hq => ?_) fun hq => ?_ | refine D_guardF rfl rfl rfl (fun hq => ?_) fun hq => ?_) <;> (try rw [hq]) <;> first | have hp := of_decide_eq_true hq | have hp := of_decide_eq_false hq | have hp := of_decide_eq_false (not_t hq) | have hp := of_decide_eq_true (not_f hq) | have hp := hq))
  · exact .r (ret_own rfl rfl (by rw [filter_none hp])) rfl
  · obtain ⟨k, hk1, hk2, hk3, hk4⟩ := findIx_spec hp
    rw [hk2]
    refine W_loop (fun x : List Mv × Nat × Nat => ⟨_, [(0, .own 0), (1, .fn fid [.sptr cs]), (5, .lit (.int .i64 x.2.1)), (6, .lit (.int .i64 x.2.2))], [.arr 119 3 (x.1.map dMv) true, .cust R]⟩) (fun x => DelInv p l x.1 x.2.1 x.2.2) (fun x => l.length - x.2.2) (l, k, k + 1) (DelInv.start hk1 hk3 hk4) (weakZ []) ?_
    rintro ⟨cur, i, r⟩ hI
    dsimp only at hI ⊢
    have hi1 := hI.lt
    have hi2 := hI.le
    have hi3 := hI.len
    have hi4 := hl cur
    have hmem := fun h => hI.mem (r := r) h
    repeat' (first | refine goZ ?_ | refine R_callZ rfl (hC _ (hmem (by omega))) rfl rfl rfl ?_ | refine R_callvZ rfl (hC _ (hmem (by omega))) rfl rfl rfl rfl ?_ | refine R_clearTail tabOk rfl rfl rfl rfl rfl rfl rfl rfl rfl rfl rfl (hfl _) (by omega) ?_ | refine R_cutOwn tabOk rfl rfl rfl rfl rfl rfl rfl rfl (flat_tail (hfl _) rfl) (by simp; omega) ?_ | refine D_callZ rfl (hC _ (hmem (by omega))) rfl rfl rfl ?_ | ((first | refine R_cond rfl (fun hq => ?_) fun hq => ?_ | refine R_guardT rfl rfl rfl (fun hq => ?_) fun hq => ?_ | refine R_guardF rfl rfl rfl (fun hq => ?_) fun hq => ?_ | refine D_guardT rfl rfl rfl (fun hq => ?_) fun hq => ?_ | refine D_guardF rfl rfl rfl (fun hq => ?_) fun hq => ?_) <;> (try rw [hq]) <;> first | have hp := of_decide_eq_true hq | have hp := of_decide_eq_false hq | have hp := of_decide_eq_false (not_t hq) | have hp := of_decide_eq_true (not_f hq) | have hp := hq))
    · exact ⟨(cur.set i (nth cur r), i + 1, r + 1), hI.yes (by omega) (not_t hp), by simp only; omega, weakZ _⟩
    · exact ⟨(cur, i, r + 1), hI.no (by omega) (not_f hp), by simp only; omega, weakZ _⟩
    · exact .r (ret_own rfl rfl ((cut_tail (f := dMv) (by omega)).trans (by rw [hI.fin (by omega)]))) rfl

theorem Clone_ArcD_f (l : List ArcD) (hz : l.length ≤ 4294967296) : Fn Try.prog 156 [.sh 4 (l.map dArcD)] (.own 0) [.arr 140 4 (l.map dArcD) true] := by
  refine Fn_of Try.func156 rfl (by kernel_rfl) rfl rfl ?_
  intro w0 A hin
  have hfl : ∀ l : List ArcD, Flat (l.map dArcD) := fun l => flat_map (by simp [dArcD, isLit])
  have hl := len_dArcD l
  repeat' (first | (refine R_eqNil tabOk rfl rfl rfl rfl fun b hb => ?_) | refine go1 ?_ | refine R_append tabOk rfl rfl rfl rfl rfl rfl rfl rfl rfl rfl rfl (hfl _) (by simp only [List.length_nil]; omega) ?_ | ((first | refine R_cond rfl (fun hq => ?_) fun hq => ?_ | refine R_guardT rfl rfl rfl (fun hq => ?_) fun hq => ?_ | refine R_guardF rfl rfl rfl (fun hq => ?_) fun hq => ?_ | refine D_guardT rfl rfl rfl (fun hq => ?_) fun hq => ?_ | refine D_guardF rfl rfl rfl (fun hq => ?_) fun hq => ?_) <;> (try rw [hq]) <;> first | have hp := of_decide_eq_true hq | have hp := of_decide_eq_false hq | have hp := of_decide_eq_false (not_t hq) | have hp := of_decide_eq_true (not_f hq) | have hp := hq))
  · exact ret_nil rfl (hb (by assumption))
  · exact ret_own rfl rfl rfl

theorem DeleteFunc_ArcD_m (l : List ArcD) (p : ArcD → Bool) (fid : FuncId) (cs : List D) (hz : l.length ≤ 4294967296) (hC : ∀ x ∈ l, Fn Try.prog fid [.agg (dArcD x), .sptr cs] (.lit (.bool (p x))) []) : FnM Try.prog 155 (.arr 140 4 (l.map dArcD) true) [.own 0, .fn fid [.sptr cs]] (.own 0) [.arr 140 4 ((l.filter fun x => !p x).map dArcD) true] := by
  refine FnM_of Try.func155 rfl (by kernel_rfl) rfl rfl rfl rfl rfl ?_
  intro w0 A R
  have hfl : ∀ l : List ArcD, Flat (l.map dArcD) := fun l => flat_map (by simp [dArcD, isLit])
  have hl := fun l => len_dArcD l
  have hl0 := hl l
  have hlo := findIx_ge p l
  have hhi := findIx_lt p l
  repeat' (first | refine goZ ?_ | refine R_callZ rfl (IndexFunc_ArcD_f _ _ _ _ hC) rfl rfl rfl ?_ | refine R_callvZ rfl (IndexFunc_ArcD_f _ _ _ _ hC) rfl rfl rfl rfl ?_ | refine D_callZ rfl (IndexFunc_ArcD_f _ _ _ _ hC) rfl rfl rfl ?_ | ((first | refine R_cond rfl (fun hq => ?_) fun hq => ?_ | refine R_guardT rfl rfl rfl (fun hq => ?_) fun hq => ?_ | refine R_guardF rfl rfl rfl (fun hq => ?_) fun hq => ?_ | refine D_guardT rfl rfl rfl (fun hq => ?_) fun hq => ?_ | refine D_guardF rfl rfl rfl (fun hq => ?_) fun hq => ?_) <;> (try rw [hq]) <;> first | have hp := of_decide_eq_true hq | have hp := of_decide_eq_false hq | have hp := of_decide_eq_false (not_t hq) | have hp := of_decide_eq_true (not_f hq) | have hp := hq))
  · exact .r (ret_own rfl rfl (by rw [filter_none hp])) rfl
  · obtain ⟨k, hk1, hk2, hk3, hk4⟩ := findIx_spec hp
    rw [hk2]
    refine W_loop (fun x : List ArcD × Nat × Nat => ⟨_, [(0, .own 0), (1, .fn fid [.sptr cs]), (5, .lit (.int .i64 x.2.1)), (6, .lit (.int .i64 x.2.2))], [.arr 140 4 (x.1.map dArcD) true, .cust R]⟩) (fun x => DelInv p l x.1 x.2.1 x.2.2) (fun x => l.length - x.2.2) (l, k, k + 1) (DelInv.start hk1 hk3 hk4) (weakZ []) ?_
    rintro ⟨cur, i, r⟩ hI
    dsimp only at hI ⊢
    have hi1 := hI.lt
    have hi2 := hI.le
    have hi3 := hI.len
    have hi4 := hl cur
    have hmem := fun h => hI.mem (r := r) h
    repeat' (first | refine goZ ?_ | refine R_callZ rfl (hC _ (hmem (by omega))) rfl rfl rfl ?_ | refine R_callvZ rfl (hC _ (hmem (by omega))) rfl rfl rfl rfl ?_ | refine R_clearTail tabOk rfl rfl rfl rfl rfl rfl rfl rfl rfl rfl rfl (hfl _) (by omega) ?_ | refine R_cutOwn tabOk rfl rfl rfl rfl rfl rfl rfl rfl (flat_tail (hfl _) rfl) (by simp; omega) ?_ | refine D_callZ rfl (hC _ (hmem (by omega))) rfl rfl rfl ?_ | ((first | refine R_cond rfl (fun hq => ?_) fun hq => ?_ | refine R_guardT rfl rfl rfl (fun hq => ?_) fun hq => ?_ | refine R_guardF rfl rfl rfl (fun hq => ?_) fun hq => ?_ | refine D_guardT rfl rfl rfl (fun hq => ?_) fun hq => ?_ | refine D_guardF rfl rfl rfl (fun hq => ?_) fun hq => ?_) <;> (try rw [hq]) <;> first | have hp := of_decide_eq_true hq | have hp := of_decide_eq_false hq | have hp := of_decide_eq_false (not_t hq) | have hp := of_decide_eq_true (not_f hq) | have hp := hq))
    · exact ⟨(cur.set i (nth cur r), i + 1, r + 1), hI.yes (by omega) (not_t hp), by simp only; omega, weakZ _⟩
    · exact ⟨(cur, i, r + 1), hI.no (by omega) (not_f hp), by simp only; omega, weakZ _⟩
    · exact .r (ret_own rfl rfl ((cut_tail (f := dArcD) (by omega)).trans (by rw [hI.fin (by omega)]))) rfl
end Go.Proofs.Ytpmiihejbmdkfaa
