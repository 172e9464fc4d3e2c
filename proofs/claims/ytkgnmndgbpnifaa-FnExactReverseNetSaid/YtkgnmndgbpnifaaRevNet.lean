/- Nets turned round, nets laid beside each other: what the reference's and the program's functions hand back. No condition. -/
import Derived.Test.YtkgnmndgbpnifaaIf
import Derived.Test.YtkgnmndgbpnifaaAbsY
import Derived.Test.YtkgnmndgbpnifaaDel
import Derived.Test.YtkgnmndgbpnifaaNetX
import Derived.Test.YtkgnmndgbpnifaaNet
import Derived.Test.YtkgnmndgbpnifaaNum
import Derived.Test.YtkgnmndgbpnifaaMarkNet
set_option linter.unusedSimpArgs false
set_option linter.unusedVariables false
set_option maxHeartbeats 2000000
namespace Go.Proofs.Ytkgnmndgbpnifaa
open Go.ChangeShapes Go.WideShapes Go.ChangeAt Go.RowKit

def revTr (t : Tr) : Tr := ⟨t.post, t.pre⟩
def revN (c : NetD) : NetD := ⟨c.places, c.trs.map revTr⟩
/-- A net that is handed back: the empty one if it is none. -/
noncomputable def revR (c : NetD) : NetD := if goodNet c && goodNet (revN c) then revN c else ⟨0, []⟩

set_option maxHeartbeats 4000000 in
theorem ReverseNet_f (c : NetD) (hl : c.trs.length ≤ 2000000) (hz : ∀ t ∈ c.trs, t.pre.length ≤ 1048576 ∧ t.post.length ≤ 1048576) : Fn Try.prog 18 [.agg (dNetD c)] (.tup [.agg [.lit (.int .i64 (revR c).places), .own 0], .lit (.bool (goodNet c && goodNet (revN c)))]) [.arr 91 2 ((revR c).trs.map dTr) true] := by
  refine Fn_ofC tabOk Try.func18 rfl (by kernel_rfl) rfl rfl ?_
  intro w0 A hin
  have hz1 := len_dTr c.trs
  have hgood := IsValidNet_f c
  generalize hg : goodNet c = g at hgood ⊢
  repeat' (first | refine goZ ?_ | refine R_callZ rfl (hgood) rfl rfl rfl ?_ | refine R_callvZ rfl (hgood) rfl rfl rfl rfl ?_ | refine D_callZ rfl (hgood) rfl rfl rfl ?_ | ((first | refine R_cond rfl (fun hq => ?_) fun hq => ?_ | refine R_guardT rfl rfl rfl (fun hq => ?_) fun hq => ?_ | refine R_guardF rfl rfl rfl (fun hq => ?_) fun hq => ?_ | refine D_guardT rfl rfl rfl (fun hq => ?_) fun hq => ?_ | refine D_guardF rfl rfl rfl (fun hq => ?_) fun hq => ?_) <;> (try rw [hq]) <;> first | have hp := of_decide_eq_true hq | have hp := of_decide_eq_false hq | have hp := of_decide_eq_false (not_t hq) | have hp := of_decide_eq_true (not_f hq) | have hp := hq))
  · have hg0 := not_t hp
    subst hg0
    exact .r (retC_nil rfl (by simp [revR, hg]) (by simp [revR, hg]) rfl)
  have hg0 := not_f hp
  subst hg0
  refine W_openC 2 1 91 2 rfl rfl (by exact rfl) ?_
  refine W_loop (fun k : Nat => ⟨_, [(1, .ptr 0 0), (2, .ptr 1 0), (4, .ptr 2 0), (15, .sh 2 (c.trs.map dTr)), (16, .lit (.int .i64 c.trs.length)), (17, .lit (.int .i64 k))], [.cells 28 (dNetD c), .cells 28 [.lit (.int .i64 0), .nil], .cells 28 [.lit (.int .i64 c.places), .own 3], .arr 91 2 (((c.trs.take k).map revTr).map dTr) true]⟩) (fun k => k ≤ c.trs.length) (fun k => c.trs.length - k) 0 (Nat.zero_le _) (weakZ []) ?_
  intro k hk
  have hO : k < c.trs.length → (nth c.trs k).pre.length ≤ 4294967296 ∧ (nth c.trs k).post.length ≤ 4294967296 := fun h => by have := hz _ (nth_mem h); omega
  have hl2 : (((c.trs.take k).map revTr).map dTr).length ≤ k := by simp; omega
  repeat' (first | refine goZ ?_ | refine goH ?_ | refine H_two (by exact rfl) (by exact rfl) (by exact rfl) (by exact rfl) (by exact rfl) ?_ ?_ | refine H_three (by exact rfl) (by exact rfl) (by exact rfl) (by exact rfl) (by exact rfl) (by exact rfl) (by exact rfl) ?_ ?_ ?_  | refine R_callZ rfl (Clone_Int_f (nth c.trs k).pre (hO (by omega)).1) rfl rfl rfl ?_ | refine R_callZ rfl (Clone_Int_f (nth c.trs k).post (hO (by omega)).2) rfl rfl rfl ?_ | refine R_callvZ rfl (Clone_Int_f (nth c.trs k).pre (hO (by omega)).1) rfl rfl rfl rfl ?_ | refine R_callvZ rfl (Clone_Int_f (nth c.trs k).post (hO (by omega)).2) rfl rfl rfl rfl ?_ | refine D_callZ rfl (Clone_Int_f (nth c.trs k).pre (hO (by omega)).1) rfl rfl rfl ?_ | refine D_callZ rfl (Clone_Int_f (nth c.trs k).post (hO (by omega)).2) rfl rfl rfl ?_ | ((first | refine R_cond rfl (fun hq => ?_) fun hq => ?_ | refine R_guardT rfl rfl rfl (fun hq => ?_) fun hq => ?_ | refine R_guardF rfl rfl rfl (fun hq => ?_) fun hq => ?_ | refine D_guardT rfl rfl rfl (fun hq => ?_) fun hq => ?_ | refine D_guardF rfl rfl rfl (fun hq => ?_) fun hq => ?_) <;> (try rw [hq]) <;> first | have hp := of_decide_eq_true hq | have hp := of_decide_eq_false hq | have hp := of_decide_eq_false (not_t hq) | have hp := of_decide_eq_true (not_f hq) | have hp := hq) | refine W_held mixed [] ?_)
  rotate_right
  · have ek : c.trs.take k = c.trs := List.take_of_length_le (by omega)
    rw [ek]
    cases hg2 : goodNet (revN c)
    · have hbad := netIf_bad (revN c) hg2
      repeat' (first | refine goZ ?_ | refine R_callZ rfl (hbad) rfl rfl rfl ?_ | refine R_callvZ rfl (hbad) rfl rfl rfl rfl ?_ | refine D_callZ rfl (hbad) rfl rfl rfl ?_ | ((first | refine R_cond rfl (fun hq => ?_) fun hq => ?_ | refine R_guardT rfl rfl rfl (fun hq => ?_) fun hq => ?_ | refine R_guardF rfl rfl rfl (fun hq => ?_) fun hq => ?_ | refine D_guardT rfl rfl rfl (fun hq => ?_) fun hq => ?_ | refine D_guardF rfl rfl rfl (fun hq => ?_) fun hq => ?_) <;> (try rw [hq]) <;> first | have hp := of_decide_eq_true hq | have hp := of_decide_eq_false hq | have hp := of_decide_eq_false (not_t hq) | have hp := of_decide_eq_true (not_f hq) | have hp := hq))
      first | exact .n (retC_nil rfl (by simp [revR, hg2]) (by simp [revR, hg2]) rfl) | exact .r (retC_nil rfl (by simp [revR, hg2]) (by simp [revR, hg2]) rfl)
    · have hid := netIf_id (revN c) hg2
      repeat' (first | refine goZ ?_ | refine R_callId rfl hid rfl rfl rfl ?_ | ((first | refine R_cond rfl (fun hq => ?_) fun hq => ?_ | refine R_guardT rfl rfl rfl (fun hq => ?_) fun hq => ?_ | refine R_guardF rfl rfl rfl (fun hq => ?_) fun hq => ?_ | refine D_guardT rfl rfl rfl (fun hq => ?_) fun hq => ?_ | refine D_guardF rfl rfl rfl (fun hq => ?_) fun hq => ?_) <;> (try rw [hq]) <;> first | have hp := of_decide_eq_true hq | have hp := of_decide_eq_false hq | have hp := of_decide_eq_false (not_t hq) | have hp := of_decide_eq_true (not_f hq) | have hp := hq))
      have hr : revR c = revN c := by simp [revR, hg, hg2]
      first | exact .n (retC_own rfl rfl (by rw [hr]; rfl) (by rw [hr]; rfl) rfl) | exact .r (retC_own rfl rfl (by rw [hr]; rfl) (by rw [hr]; rfl) rfl)
  all_goals
    refine ⟨k + 1, by omega, by omega, ?_⟩
    have e : ((c.trs.take (k + 1)).map revTr).map dTr = ((c.trs.take k).map revTr).map dTr ++ [[.sh 1 (ints (nth c.trs k).post), .sh 1 (ints (nth c.trs k).pre)]] := by
      rw [take_nth (show k < c.trs.length by omega)]; simp [revTr, dTr]
    rw [e]
    exact weakZ _

set_option maxHeartbeats 4000000 in
theorem specReverseNet_f (c : NetD) (hl : c.trs.length ≤ 2000000) (hz : ∀ t ∈ c.trs, t.pre.length ≤ 1048576 ∧ t.post.length ≤ 1048576) : Fn Try.prog 16 [.agg (dNetD c)] (.tup [.agg [.lit (.int .i64 (revR c).places), .own 0], .lit (.bool (goodNet c && goodNet (revN c)))]) [.arr 91 2 ((revR c).trs.map dTr) true] := by
  refine Fn_ofC tabOk Try.func16 rfl (by kernel_rfl) rfl rfl ?_
  intro w0 A hin
  have hz1 := len_dTr c.trs
  have hgood := l1Good_f c
  generalize hg : goodNet c = g at hgood ⊢
  repeat' (first | refine goZ ?_ | refine R_callZ rfl (hgood) rfl rfl rfl ?_ | refine R_callvZ rfl (hgood) rfl rfl rfl rfl ?_ | refine D_callZ rfl (hgood) rfl rfl rfl ?_ | ((first | refine R_cond rfl (fun hq => ?_) fun hq => ?_ | refine R_guardT rfl rfl rfl (fun hq => ?_) fun hq => ?_ | refine R_guardF rfl rfl rfl (fun hq => ?_) fun hq => ?_ | refine D_guardT rfl rfl rfl (fun hq => ?_) fun hq => ?_ | refine D_guardF rfl rfl rfl (fun hq => ?_) fun hq => ?_) <;> (try rw [hq]) <;> first | have hp := of_decide_eq_true hq | have hp := of_decide_eq_false hq | have hp := of_decide_eq_false (not_t hq) | have hp := of_decide_eq_true (not_f hq) | have hp := hq))
  · have hg0 := not_t hp
    subst hg0
    exact .r (retC_nil rfl (by simp [revR, hg]) (by simp [revR, hg]) rfl)
  have hg0 := not_f hp
  subst hg0
  refine W_openC 2 1 91 2 rfl rfl (by exact rfl) ?_
  refine W_loop (fun k : Nat => ⟨_, [(1, .ptr 0 0), (2, .ptr 1 0), (4, .ptr 2 0), (15, .sh 2 (c.trs.map dTr)), (16, .lit (.int .i64 c.trs.length)), (17, .lit (.int .i64 k))], [.cells 28 (dNetD c), .cells 28 [.lit (.int .i64 0), .nil], .cells 28 [.lit (.int .i64 c.places), .own 3], .arr 91 2 (((c.trs.take k).map revTr).map dTr) true]⟩) (fun k => k ≤ c.trs.length) (fun k => c.trs.length - k) 0 (Nat.zero_le _) (weakZ []) ?_
  intro k hk
  have hO : k < c.trs.length → (nth c.trs k).pre.length ≤ 4294967296 ∧ (nth c.trs k).post.length ≤ 4294967296 := fun h => by have := hz _ (nth_mem h); omega
  have hl2 : (((c.trs.take k).map revTr).map dTr).length ≤ k := by simp; omega
  repeat' (first | refine goZ ?_ | refine goH ?_ | refine H_two (by exact rfl) (by exact rfl) (by exact rfl) (by exact rfl) (by exact rfl) ?_ ?_ | refine H_three (by exact rfl) (by exact rfl) (by exact rfl) (by exact rfl) (by exact rfl) (by exact rfl) (by exact rfl) ?_ ?_ ?_  | refine R_callZ rfl (l1Own_f (nth c.trs k).pre (hO (by omega)).1) rfl rfl rfl ?_ | refine R_callZ rfl (l1Own_f (nth c.trs k).post (hO (by omega)).2) rfl rfl rfl ?_ | refine R_callvZ rfl (l1Own_f (nth c.trs k).pre (hO (by omega)).1) rfl rfl rfl rfl ?_ | refine R_callvZ rfl (l1Own_f (nth c.trs k).post (hO (by omega)).2) rfl rfl rfl rfl ?_ | refine D_callZ rfl (l1Own_f (nth c.trs k).pre (hO (by omega)).1) rfl rfl rfl ?_ | refine D_callZ rfl (l1Own_f (nth c.trs k).post (hO (by omega)).2) rfl rfl rfl ?_ | ((first | refine R_cond rfl (fun hq => ?_) fun hq => ?_ | refine R_guardT rfl rfl rfl (fun hq => ?_) fun hq => ?_ | refine R_guardF rfl rfl rfl (fun hq => ?_) fun hq => ?_ | refine D_guardT rfl rfl rfl (fun hq => ?_) fun hq => ?_ | refine D_guardF rfl rfl rfl (fun hq => ?_) fun hq => ?_) <;> (try rw [hq]) <;> first | have hp := of_decide_eq_true hq | have hp := of_decide_eq_false hq | have hp := of_decide_eq_false (not_t hq) | have hp := of_decide_eq_true (not_f hq) | have hp := hq) | refine W_held mixed [] ?_)
  rotate_right
  · have ek : c.trs.take k = c.trs := List.take_of_length_le (by omega)
    rw [ek]
    have hgood2 := l1Good_f (revN c)
    generalize hg2 : goodNet (revN c) = g2 at hgood2 ⊢
    repeat' (first | refine goZ ?_ | refine R_callZ rfl (hgood2) rfl rfl rfl ?_ | refine R_callvZ rfl (hgood2) rfl rfl rfl rfl ?_ | refine D_callZ rfl (hgood2) rfl rfl rfl ?_ | ((first | refine R_cond rfl (fun hq => ?_) fun hq => ?_ | refine R_guardT rfl rfl rfl (fun hq => ?_) fun hq => ?_ | refine R_guardF rfl rfl rfl (fun hq => ?_) fun hq => ?_ | refine D_guardT rfl rfl rfl (fun hq => ?_) fun hq => ?_ | refine D_guardF rfl rfl rfl (fun hq => ?_) fun hq => ?_) <;> (try rw [hq]) <;> first | have hp := of_decide_eq_true hq | have hp := of_decide_eq_false hq | have hp := of_decide_eq_false (not_t hq) | have hp := of_decide_eq_true (not_f hq) | have hp := hq))
    · have hg0 := not_t hp
      subst hg0
      exact .r (retC_nil rfl (by simp [revR, hg2]) (by simp [revR, hg2]) rfl)
    · have hg0 := not_f hp
      subst hg0
      have hr : revR c = revN c := by simp [revR, hg, hg2]
      first | exact .n (retC_own rfl rfl (by rw [hr]; rfl) (by rw [hr]; rfl) rfl) | exact .r (retC_own rfl rfl (by rw [hr]; rfl) (by rw [hr]; rfl) rfl)
  all_goals
    refine ⟨k + 1, by omega, by omega, ?_⟩
    have e : ((c.trs.take (k + 1)).map revTr).map dTr = ((c.trs.take k).map revTr).map dTr ++ [[.sh 1 (ints (nth c.trs k).post), .sh 1 (ints (nth c.trs k).pre)]] := by
      rw [take_nth (show k < c.trs.length by omega)]; simp [revTr, dTr]
    rw [e]
    exact weakZ _
theorem sz_trs (c : NetD) : szNetD c = c.trs.length + cntTrs c.trs := rfl
theorem cnt_rev (l : List Tr) : cntTrs (l.map revTr) = cntTrs l := by
  induction l with
  | nil => rfl
  | cons t l ih =>
    simp only [cntTrs, List.map_cons, List.sum_cons, revTr] at ih ⊢
    omega
theorem revR_le (c : NetD) : ((revR c).trs.length + cntTrs (revR c).trs ≤ szNetD c ∧ (revR c).trs.length ≤ 24) ∧ -9223372036854775808 ≤ (revR c).places ∧ (revR c).places ≤ 9223372036854775807 := by
  have h0 : (revN c).trs.length + cntTrs (revN c).trs = szNetD c := by rw [sz_trs, revN, cnt_rev]; simp
  have h1 : goodNet c = true → (1 ≤ (revN c).places ∧ (revN c).places ≤ 30) ∧ (revN c).trs.length ≤ 24 := fun h => by
    simp only [goodNet, Bool.and_eq_true, decide_eq_true_eq] at h
    exact ⟨h.1.1, by simpa [revN] using h.1.2⟩
  unfold revR
  split
  · rename_i h
    simp only [Bool.and_eq_true] at h
    have := h1 h.1
    omega
  · simp [cntTrs]
theorem specReverseNet_s (c : NetD) (h : szNetD c ≤ 1048576) : Fn Try.prog 16 [.agg (dNetD c)] (.tup [.agg [.lit (.int .i64 (revR c).places), .own 0], .lit (.bool (goodNet c && goodNet (revN c)))]) [.arr 91 2 ((revR c).trs.map dTr) true] :=
  specReverseNet_f c (by rw [sz_trs] at h; omega) fun t ht => by have := le_cnt ht; rw [sz_trs] at h; omega
theorem ReverseNet_s (c : NetD) (h : szNetD c ≤ 1048576) : Fn Try.prog 18 [.agg (dNetD c)] (.tup [.agg [.lit (.int .i64 (revR c).places), .own 0], .lit (.bool (goodNet c && goodNet (revN c)))]) [.arr 91 2 ((revR c).trs.map dTr) true] :=
  ReverseNet_f c (by rw [sz_trs] at h; omega) fun t ht => by have := le_cnt ht; rw [sz_trs] at h; omega
end Go.Proofs.Ytkgnmndgbpnifaa
