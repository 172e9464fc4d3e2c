/- Independent transitions: what the reference's and the program's functions hand back. No condition. -/
import Derived.Test.YtcbfpeplcbgpjaaCat
import Derived.Test.YtcbfpeplcbgpjaaIx
import Derived.Test.YtcbfpeplcbgpjaaUniC
import Derived.Test.YtcbfpeplcbgpjaaNum
import Derived.Test.YtcbfpeplcbgpjaaPinA
import Derived.Test.YtcbfpeplcbgpjaaRen
set_option linter.unusedSimpArgs false
set_option linter.unusedVariables false
set_option maxHeartbeats 2000000
namespace Go.Proofs.Ytcbfpeplcbgpjaa
open Go.ChangeShapes Go.WideShapes Go.ChangeAt Go.RowKit

def bothL (t : Tr) : List Int := t.pre ++ t.post
noncomputable def indB (c : NetD) (t u : Int) : Bool := goodNet c && (decide (0 ≤ t ∧ t ≤ (c.trs.length : Int) - 1) && decide (0 ≤ u ∧ u ≤ (c.trs.length : Int) - 1))
noncomputable def indV (c : NetD) (t u : Int) : Bool := indB c t u && !meet (bothL (nth c.trs t.toNat)) (bothL (nth c.trs u.toNat))

theorem share1_f (b : List Int) (k : Int) : Fn Try.prog 125 [.lit (.int .i64 k), .sptr [.sh 1 (ints b)]] (.lit (.bool (decide (k ∈ b)))) [] := by
  refine Fn_of Try.func125 rfl (by kernel_rfl) rfl rfl ?_
  intro w0 A hin
  repeat' (first | refine goZ ?_ | refine R_callZ rfl (Contains_Int_f _ _) rfl rfl rfl ?_ | refine R_callvZ rfl (Contains_Int_f _ _) rfl rfl rfl rfl ?_ | refine D_callZ rfl (Contains_Int_f _ _) rfl rfl rfl ?_ | ((first | refine R_cond rfl (fun hq => ?_) fun hq => ?_ | refine R_guardT rfl rfl rfl (fun hq => ?_) fun hq => ?_ | refine R_guardF rfl rfl rfl (fun hq => ?_) fun hq => ?_ | refine D_guardT rfl rfl rfl (fun hq => ?_) fun hq => ?_ | refine D_guardF rfl rfl rfl (fun hq => ?_) fun hq => ?_) <;> (try rw [hq]) <;> first | have hp := of_decide_eq_true hq | have hp := of_decide_eq_false hq | have hp := of_decide_eq_false (not_t hq) | have hp := of_decide_eq_true (not_f hq) | have hp := hq))
  exact ret_bool' rfl rfl
theorem share_f (a b : List Int) : Fn Try.prog 49 [.sh 1 (ints a), .sh 1 (ints b)] (.lit (.bool (meet a b))) [] := by
  refine Fn_of Try.func49 rfl (by kernel_rfl) rfl rfl ?_
  intro w0 A hin
  repeat' (first | refine goZ ?_ | refine R_callZ rfl (ContainsFunc_Int_f a (fun k => decide (k ∈ b)) 125 [.sh 1 (ints b)] fun k _ => share1_f b k) rfl rfl rfl ?_ | refine R_callvZ rfl (ContainsFunc_Int_f a (fun k => decide (k ∈ b)) 125 [.sh 1 (ints b)] fun k _ => share1_f b k) rfl rfl rfl rfl ?_ | refine D_callZ rfl (ContainsFunc_Int_f a (fun k => decide (k ∈ b)) 125 [.sh 1 (ints b)] fun k _ => share1_f b k) rfl rfl rfl ?_ | ((first | refine R_cond rfl (fun hq => ?_) fun hq => ?_ | refine R_guardT rfl rfl rfl (fun hq => ?_) fun hq => ?_ | refine R_guardF rfl rfl rfl (fun hq => ?_) fun hq => ?_ | refine D_guardT rfl rfl rfl (fun hq => ?_) fun hq => ?_ | refine D_guardF rfl rfl rfl (fun hq => ?_) fun hq => ?_) <;> (try rw [hq]) <;> first | have hp := of_decide_eq_true hq | have hp := of_decide_eq_false hq | have hp := of_decide_eq_false (not_t hq) | have hp := of_decide_eq_true (not_f hq) | have hp := hq))
  exact ret_bool' rfl rfl

theorem l1Pair_f (c : NetD) (t u : Int) : Fn Try.prog 43 [.agg (dNetD c), .lit (.int .i64 t), .lit (.int .i64 u)] (.lit (.bool (indB c t u))) [] := by
  refine Fn_of Try.func43 rfl (by kernel_rfl) rfl rfl ?_
  intro w0 A hin
  have hz := len_dTr c.trs
  have hV := l1Good_f c
  cases hg : goodNet c <;> rw [hg] at hV
  · repeat' (first | refine goZ ?_ | refine R_callZ rfl (hV) rfl rfl rfl ?_ | refine R_callZ rfl (l1In_f _ _ _) rfl rfl rfl ?_ | refine R_callvZ rfl (hV) rfl rfl rfl rfl ?_ | refine R_callvZ rfl (l1In_f _ _ _) rfl rfl rfl rfl ?_ | refine D_callZ rfl (hV) rfl rfl rfl ?_ | refine D_callZ rfl (l1In_f _ _ _) rfl rfl rfl ?_ | ((first | refine R_cond rfl (fun hq => ?_) fun hq => ?_ | refine R_guardT rfl rfl rfl (fun hq => ?_) fun hq => ?_ | refine R_guardF rfl rfl rfl (fun hq => ?_) fun hq => ?_ | refine D_guardT rfl rfl rfl (fun hq => ?_) fun hq => ?_ | refine D_guardF rfl rfl rfl (fun hq => ?_) fun hq => ?_) <;> (try rw [hq]) <;> first | have hp := of_decide_eq_true hq | have hp := of_decide_eq_false hq | have hp := of_decide_eq_false (not_t hq) | have hp := of_decide_eq_true (not_f hq) | have hp := hq))
    all_goals exact ret_bool' rfl (by simp [indB, hg])
  · have hl : c.trs.length ≤ 24 := by simp only [goodNet, Bool.and_eq_true, decide_eq_true_eq] at hg; omega
    repeat' (first | refine goZ ?_ | refine R_callZ rfl (hV) rfl rfl rfl ?_ | refine R_callZ rfl (l1In_f _ _ _) rfl rfl rfl ?_ | refine R_callvZ rfl (hV) rfl rfl rfl rfl ?_ | refine R_callvZ rfl (l1In_f _ _ _) rfl rfl rfl rfl ?_ | refine D_callZ rfl (hV) rfl rfl rfl ?_ | refine D_callZ rfl (l1In_f _ _ _) rfl rfl rfl ?_ | ((first | refine R_cond rfl (fun hq => ?_) fun hq => ?_ | refine R_guardT rfl rfl rfl (fun hq => ?_) fun hq => ?_ | refine R_guardF rfl rfl rfl (fun hq => ?_) fun hq => ?_ | refine D_guardT rfl rfl rfl (fun hq => ?_) fun hq => ?_ | refine D_guardF rfl rfl rfl (fun hq => ?_) fun hq => ?_) <;> (try rw [hq]) <;> first | have hp := of_decide_eq_true hq | have hp := of_decide_eq_false hq | have hp := of_decide_eq_false (not_t hq) | have hp := of_decide_eq_true (not_f hq) | have hp := hq))
    all_goals (refine ret_bool' rfl ?_; rw [hz] at *; rw [indB, hg, Bool.true_and, Bool.eq_iff_iff]; simp only [Bool.and_eq_true, decide_eq_true_eq, Bool.false_eq_true]; first | omega | (simp at hq; omega) | (simp_all; done) | (simp_all; omega))
set_option maxHeartbeats 1600000 in
theorem specAreIndependent_f (c : NetD) (t u : Int) (hsz : szNetD c ≤ 1048576) : Fn Try.prog 10 [.agg (dNetD c), .lit (.int .i64 t), .lit (.int .i64 u)] (.tup [.lit (.bool (indV c t u)), .lit (.bool (indB c t u))]) [] := by
  refine Fn_of Try.func10 rfl (by kernel_rfl) rfl rfl ?_
  intro w0 A hin
  have hz := len_dTr c.trs
  have hV := l1Pair_f c t u
  cases hg : indB c t u <;> rw [hg] at hV
  · repeat' (first | refine goZ ?_ | refine R_callZ rfl (hV) rfl rfl rfl ?_ | refine R_callvZ rfl (hV) rfl rfl rfl rfl ?_ | refine D_callZ rfl (hV) rfl rfl rfl ?_ | ((first | refine R_cond rfl (fun hq => ?_) fun hq => ?_ | refine R_guardT rfl rfl rfl (fun hq => ?_) fun hq => ?_ | refine R_guardF rfl rfl rfl (fun hq => ?_) fun hq => ?_ | refine D_guardT rfl rfl rfl (fun hq => ?_) fun hq => ?_ | refine D_guardF rfl rfl rfl (fun hq => ?_) fun hq => ?_) <;> (try rw [hq]) <;> first | have hp := of_decide_eq_true hq | have hp := of_decide_eq_false hq | have hp := of_decide_eq_false (not_t hq) | have hp := of_decide_eq_true (not_f hq) | have hp := hq))
    exact ret_lit2 rfl (by simp [indV, hg]) rfl
  · have hg' := hg
    simp only [indB, Bool.and_eq_true, decide_eq_true_eq] at hg'
    obtain ⟨hg1, hg2, hg3⟩ := hg'
    have hN := NetOk.of c hg1 hsz
    have ht := hN.row _ (nth_mem (show t.toNat < c.trs.length by omega))
    have hu := hN.row _ (nth_mem (show u.toNat < c.trs.length by omega))
    repeat' (first | refine goZ ?_ | refine R_callZ rfl (hV) rfl rfl rfl ?_ | refine R_callZ rfl (l1Both_f (nth c.trs t.toNat).pre (nth c.trs t.toNat).post (by omega)) rfl rfl rfl ?_ | refine R_callZ rfl (l1Both_f (nth c.trs u.toNat).pre (nth c.trs u.toNat).post (by omega)) rfl rfl rfl ?_ | refine R_callvZ rfl (hV) rfl rfl rfl rfl ?_ | refine R_callvZ rfl (l1Both_f (nth c.trs t.toNat).pre (nth c.trs t.toNat).post (by omega)) rfl rfl rfl rfl ?_ | refine R_callvZ rfl (l1Both_f (nth c.trs u.toNat).pre (nth c.trs u.toNat).post (by omega)) rfl rfl rfl rfl ?_ | refine D_callZ rfl (hV) rfl rfl rfl ?_ | refine D_callZ rfl (l1Both_f (nth c.trs t.toNat).pre (nth c.trs t.toNat).post (by omega)) rfl rfl rfl ?_ | refine D_callZ rfl (l1Both_f (nth c.trs u.toNat).pre (nth c.trs u.toNat).post (by omega)) rfl rfl rfl ?_ | refine D_callxZ rfl (l1Meet_f ((nth c.trs t.toNat).pre ++ (nth c.trs t.toNat).post) ((nth c.trs u.toNat).pre ++ (nth c.trs u.toNat).post)) rfl rfl rfl rfl (by repeat' (first | exact trivial | rfl | refine And.intro ?_ ?_)) ?_ | ((first | refine R_cond rfl (fun hq => ?_) fun hq => ?_ | refine R_guardT rfl rfl rfl (fun hq => ?_) fun hq => ?_ | refine R_guardF rfl rfl rfl (fun hq => ?_) fun hq => ?_ | refine D_guardT rfl rfl rfl (fun hq => ?_) fun hq => ?_ | refine D_guardF rfl rfl rfl (fun hq => ?_) fun hq => ?_) <;> (try rw [hq]) <;> first | have hp := of_decide_eq_true hq | have hp := of_decide_eq_false hq | have hp := of_decide_eq_false (not_t hq) | have hp := of_decide_eq_true (not_f hq) | have hp := hq))
    exact ret_lit2 rfl (by simp [indV, bothL, hg]) rfl
theorem net_two {w0 : World} {A : Nat → Prop} {l : List Tr} {u : Value} {b : List Nat} (hv : VR w0 (.sh 2 (l.map dTr)) u b) (hb : ∀ k ∈ b, A k) {i j : Nat} (hi : i < l.length) (hj : j < l.length) : ∃ g o cap v1 v2 v3 v4, (∃ b1, VR w0 (.sh 1 (ints (nth l i).pre)) v1 b1 ∧ ∀ k ∈ b1, A k) ∧ (∃ b2, VR w0 (.sh 1 (ints (nth l i).post)) v2 b2 ∧ ∀ k ∈ b2, A k) ∧ (∃ b3, VR w0 (.sh 1 (ints (nth l j).pre)) v3 b3 ∧ ∀ k ∈ b3, A k) ∧ (∃ b4, VR w0 (.sh 1 (ints (nth l j).post)) v4 b4 ∧ ∀ k ∈ b4, A k) ∧ u = .slice (some ⟨g, o, none⟩) l.length cap ∧ (∀ w', Ext w0 w' → w'.cell? ⟨g, o + i * 2, none⟩ = some v1 ∧ w'.cell? ⟨g, o + i * 2 + 1, none⟩ = some v2) ∧ (∀ w', Ext w0 w' → w'.cell? ⟨g, o + j * 2, none⟩ = some v3 ∧ w'.cell? ⟨g, o + j * 2 + 1, none⟩ = some v4) := by
  have hz := len_dTr l
  obtain ⟨g, o, cap, vs, bs, e, hg, hgl, hr, hbs, hc⟩ := row_at hv (j := i) (by omega)
  obtain ⟨g', o', cap', vs', bs', e', _, _, hr', hbs', hc'⟩ := row_at hv (j := j) (by omega)
  rw [e] at e'
  cases e'
  have en : ∀ {k : Nat}, k < l.length → nth (l.map dTr) k = dTr (nth l k) := fun {k} hk => by rw [nth_get (by simpa using hk), List.getElem_map, ← nth_get hk]
  rw [en hi] at hr
  rw [en hj] at hr'
  have one : ∀ {t : Tr} {vs : List Value} {bs : List Nat}, VRs w0 (dTr t) vs bs → (∀ k ∈ bs, A k) → ∃ v1 v2, vs = [v1, v2] ∧ (∃ b1, VR w0 (.sh 1 (ints t.pre)) v1 b1 ∧ ∀ k ∈ b1, A k) ∧ ∃ b2, VR w0 (.sh 1 (ints t.post)) v2 b2 ∧ ∀ k ∈ b2, A k := by
    intro t vs bs h ha
    have h' : VRs w0 [.sh 1 (ints t.pre), .sh 1 (ints t.post)] vs bs := h
    obtain ⟨v1, r1, b1, b2, rfl, rfl, q1, t1⟩ := vrs_cons h'
    obtain ⟨v2, rfl, q2⟩ := vrs_one t1
    exact ⟨v1, v2, rfl, ⟨b1, q1, fun k hk => ha k (List.mem_append_left _ hk)⟩, ⟨b2, q2, fun k hk => ha k (List.mem_append_right _ hk)⟩⟩
  obtain ⟨v1, v2, rfl, p1, p2⟩ := one hr fun k hk => hb k (hbs k hk)
  obtain ⟨v3, v4, rfl, p3, p4⟩ := one hr' fun k hk => hb k (hbs' k hk)
  have keep : ∀ {w' : World} {q : Nat}, Ext w0 w' → w'.cell? ⟨g, q, none⟩ = w0.cell? ⟨g, q, none⟩ := fun h => cell_of_heap (h.block g hgl)
  refine ⟨g, o, cap, v1, v2, v3, v4, p1, p2, p3, p4, by rw [e, hz], fun w' h => ⟨?_, ?_⟩, fun w' h => ⟨?_, ?_⟩⟩
  · rw [keep h]; simpa using hc 0 (by omega)
  · rw [keep h]; simpa using hc 1 (by omega)
  · rw [keep h]; simpa using hc' 0 (by omega)
  · rw [keep h]; simpa using hc' 1 (by omega)
set_option maxHeartbeats 1600000 in
theorem AreIndependent_f (c : NetD) (t u : Int) (hsz : szNetD c ≤ 1048576) : Fn Try.prog 12 [.agg (dNetD c), .lit (.int .i64 t), .lit (.int .i64 u)] (.tup [.lit (.bool (indV c t u)), .lit (.bool (indB c t u))]) [] := by
  refine Fn_netV c Try.func12 rfl (by kernel_rfl) rfl rfl ?_
  intro w0 A v bv hv hbv hA
  have hz := len_dTr c.trs
  have hV := IsValidNet_f c
  have hlz : c.trs.length ≤ 1048576 := by have : szNetD c = c.trs.length + cntTrs c.trs := rfl; omega
  cases hg : goodNet c <;> rw [hg] at hV
  · repeat' (first | refine WO_unpin 12 rfl hv hbv ?_ | refine WO_unpinN 15 rfl hv hbv ?_ | refine go1 ?_ | refine R_callZ rfl (hV) rfl rfl rfl ?_ | refine R_callZ rfl (within_f _ _ _) rfl rfl rfl ?_ | refine R_callvZ rfl (hV) rfl rfl rfl rfl ?_ | refine R_callvZ rfl (within_f _ _ _) rfl rfl rfl rfl ?_ | refine D_callZ rfl (hV) rfl rfl rfl ?_ | refine D_callZ rfl (within_f _ _ _) rfl rfl rfl ?_ | ((first | refine R_cond rfl (fun hq => ?_) fun hq => ?_ | refine R_guardT rfl rfl rfl (fun hq => ?_) fun hq => ?_ | refine R_guardF rfl rfl rfl (fun hq => ?_) fun hq => ?_ | refine D_guardT rfl rfl rfl (fun hq => ?_) fun hq => ?_ | refine D_guardF rfl rfl rfl (fun hq => ?_) fun hq => ?_) <;> (try rw [hq]) <;> first | have hp := of_decide_eq_true hq | have hp := of_decide_eq_false hq | have hp := of_decide_eq_false (not_t hq) | have hp := of_decide_eq_true (not_f hq) | have hp := hq))
    all_goals exact ret_lit2 rfl (by simp [indV, indB, hg]) (by simp [indB, hg])
  · have hN := NetOk.of c hg hsz
    have hlc := hN.len
    have hw1 := within_f t 0 (((c.trs.map dTr).length : Int) - 1)
    have hw2 := within_f u 0 (((c.trs.map dTr).length : Int) - 1)
    cases hb1 : decide (0 ≤ t ∧ t ≤ ((c.trs.map dTr).length : Int) - 1) <;> rw [hb1] at hw1
    · repeat' (first | refine WO_unpin 12 rfl hv hbv ?_ | refine WO_unpinN 15 rfl hv hbv ?_ | refine go1 ?_ | refine R_callZ rfl (hV) rfl rfl rfl ?_ | refine R_callZ rfl (hw1) rfl rfl rfl ?_ | refine R_callZ rfl (hw2) rfl rfl rfl ?_ | refine R_callvZ rfl (hV) rfl rfl rfl rfl ?_ | refine R_callvZ rfl (hw1) rfl rfl rfl rfl ?_ | refine R_callvZ rfl (hw2) rfl rfl rfl rfl ?_ | refine D_callZ rfl (hV) rfl rfl rfl ?_ | refine D_callZ rfl (hw1) rfl rfl rfl ?_ | refine D_callZ rfl (hw2) rfl rfl rfl ?_ | ((first | refine R_cond rfl (fun hq => ?_) fun hq => ?_ | refine R_guardT rfl rfl rfl (fun hq => ?_) fun hq => ?_ | refine R_guardF rfl rfl rfl (fun hq => ?_) fun hq => ?_ | refine D_guardT rfl rfl rfl (fun hq => ?_) fun hq => ?_ | refine D_guardF rfl rfl rfl (fun hq => ?_) fun hq => ?_) <;> (try rw [hq]) <;> first | have hp := of_decide_eq_true hq | have hp := of_decide_eq_false hq | have hp := of_decide_eq_false (not_t hq) | have hp := of_decide_eq_true (not_f hq) | have hp := hq))
      have hn : indB c t u = false := by rw [hz] at hb1; simp only [indB, hg, hb1, Bool.false_and, Bool.and_false]
      all_goals exact ret_lit2 rfl (by simp [indV, hn]) (by rw [hn])
    cases hb2 : decide (0 ≤ u ∧ u ≤ ((c.trs.map dTr).length : Int) - 1) <;> rw [hb2] at hw2
    · repeat' (first | refine WO_unpin 12 rfl hv hbv ?_ | refine WO_unpinN 15 rfl hv hbv ?_ | refine go1 ?_ | refine R_callZ rfl (hV) rfl rfl rfl ?_ | refine R_callZ rfl (hw1) rfl rfl rfl ?_ | refine R_callZ rfl (hw2) rfl rfl rfl ?_ | refine R_callvZ rfl (hV) rfl rfl rfl rfl ?_ | refine R_callvZ rfl (hw1) rfl rfl rfl rfl ?_ | refine R_callvZ rfl (hw2) rfl rfl rfl rfl ?_ | refine D_callZ rfl (hV) rfl rfl rfl ?_ | refine D_callZ rfl (hw1) rfl rfl rfl ?_ | refine D_callZ rfl (hw2) rfl rfl rfl ?_ | ((first | refine R_cond rfl (fun hq => ?_) fun hq => ?_ | refine R_guardT rfl rfl rfl (fun hq => ?_) fun hq => ?_ | refine R_guardF rfl rfl rfl (fun hq => ?_) fun hq => ?_ | refine D_guardT rfl rfl rfl (fun hq => ?_) fun hq => ?_ | refine D_guardF rfl rfl rfl (fun hq => ?_) fun hq => ?_) <;> (try rw [hq]) <;> first | have hp := of_decide_eq_true hq | have hp := of_decide_eq_false hq | have hp := of_decide_eq_false (not_t hq) | have hp := of_decide_eq_true (not_f hq) | have hp := hq))
      have hn : indB c t u = false := by rw [hz] at hb2; simp only [indB, hg, hb2, Bool.and_false]
      all_goals exact ret_lit2 rfl (by simp [indV, hn]) (by rw [hn])
    have ht := of_decide_eq_true hb1
    have hu := of_decide_eq_true hb2
    have hr1 := hN.row _ (nth_mem (show t.toNat < c.trs.length by omega))
    have hr2 := hN.row _ (nth_mem (show u.toNat < c.trs.length by omega))
    have hct := ConcatI_f (nth c.trs t.toNat).pre (nth c.trs t.toNat).post (by have := hr1.1; omega) (by have := hr1.1; omega)
    have hcu := ConcatI_f (nth c.trs u.toNat).pre (nth c.trs u.toNat).post (by have := hr2.1; omega) (by have := hr2.1; omega)
    obtain ⟨g, o, cap, v1, v2, v3, v4, p1, p2, p3, p4, e, hc1, hc2⟩ := net_two hv hbv (show t.toNat < c.trs.length by omega) (show u.toNat < c.trs.length by omega)
    subst e
    repeat' (first | refine WO_unpin 12 rfl hv hbv ?_ | refine WO_unpinN 15 rfl hv hbv ?_ | refine go1 ?_ | refine R_callZ rfl (hV) rfl rfl rfl ?_ | refine R_callZ rfl (hw1) rfl rfl rfl ?_ | refine R_callZ rfl (hw2) rfl rfl rfl ?_ | refine R_callvZ rfl (hV) rfl rfl rfl rfl ?_ | refine R_callvZ rfl (hw1) rfl rfl rfl rfl ?_ | refine R_callvZ rfl (hw2) rfl rfl rfl rfl ?_ | refine D_callZ rfl (hV) rfl rfl rfl ?_ | refine D_callZ rfl (hw1) rfl rfl rfl ?_ | refine D_callZ rfl (hw2) rfl rfl rfl ?_ | ((first | refine R_cond rfl (fun hq => ?_) fun hq => ?_ | refine R_guardT rfl rfl rfl (fun hq => ?_) fun hq => ?_ | refine R_guardF rfl rfl rfl (fun hq => ?_) fun hq => ?_ | refine D_guardT rfl rfl rfl (fun hq => ?_) fun hq => ?_ | refine D_guardF rfl rfl rfl (fun hq => ?_) fun hq => ?_) <;> (try rw [hq]) <;> first | have hp := of_decide_eq_true hq | have hp := of_decide_eq_false hq | have hp := of_decide_eq_false (not_t hq) | have hp := of_decide_eq_true (not_f hq) | have hp := hq))
    refine W_midS ⟨Try.f12.ntmps, [(9, .ptr 1 0), (10, .ptr 2 0)], [.cells 30 [.lit (.int .i64 c.places), .lit (.slice (some ⟨g, o, none⟩) c.trs.length cap)], .cells 88 [.lit v1, .lit v2], .cells 88 [.lit v3, .lit v4]]⟩ ?_ ?_
    · repeat' (first | refine H_idxLit tabOk 0 (by exact rfl) (by exact rfl) (by exact rfl) (by exact rfl) (by exact And.intro rfl trivial) (by exact rfl) (by exact rfl) (by exact rfl) (by exact rfl) (by exact rfl) (by omega) ?_ | refine H_idxLit tabOk 1 (by exact rfl) (by exact rfl) (by exact rfl) (by exact rfl) (by exact And.intro rfl trivial) (by exact rfl) (by exact rfl) (by exact rfl) (by exact rfl) (by exact rfl) (by omega) ?_ | refine H_idxLit tabOk 2 (by exact rfl) (by exact rfl) (by exact rfl) (by exact rfl) (by exact And.intro rfl trivial) (by exact rfl) (by exact rfl) (by exact rfl) (by exact rfl) (by exact rfl) (by omega) ?_ | refine H_loadOld2 tabOk 0 (by exact rfl) (by exact rfl) (by exact rfl) (by exact rfl) (by exact And.intro rfl trivial) (by exact rfl) (by exact rfl) (by exact rfl) hc1 (vr_lit p1.choose_spec.1) (vr_lit p2.choose_spec.1) ?_ | refine H_loadOld2 tabOk 0 (by exact rfl) (by exact rfl) (by exact rfl) (by exact rfl) (by exact And.intro rfl trivial) (by exact rfl) (by exact rfl) (by exact rfl) hc2 (vr_lit p3.choose_spec.1) (vr_lit p4.choose_spec.1) ?_ | refine H_loadOld2 tabOk 1 (by exact rfl) (by exact rfl) (by exact rfl) (by exact rfl) (by exact And.intro rfl trivial) (by exact rfl) (by exact rfl) (by exact rfl) hc1 (vr_lit p1.choose_spec.1) (vr_lit p2.choose_spec.1) ?_ | refine H_loadOld2 tabOk 1 (by exact rfl) (by exact rfl) (by exact rfl) (by exact rfl) (by exact And.intro rfl trivial) (by exact rfl) (by exact rfl) (by exact rfl) hc2 (vr_lit p3.choose_spec.1) (vr_lit p4.choose_spec.1) ?_ | refine H_loadOld2 tabOk 2 (by exact rfl) (by exact rfl) (by exact rfl) (by exact rfl) (by exact And.intro rfl trivial) (by exact rfl) (by exact rfl) (by exact rfl) hc1 (vr_lit p1.choose_spec.1) (vr_lit p2.choose_spec.1) ?_ | refine H_loadOld2 tabOk 2 (by exact rfl) (by exact rfl) (by exact rfl) (by exact rfl) (by exact And.intro rfl trivial) (by exact rfl) (by exact rfl) (by exact rfl) hc2 (vr_lit p3.choose_spec.1) (vr_lit p4.choose_spec.1) ?_ | refine go1 ?_ | refine goH ?_ | refine H_two (by exact rfl) (by exact rfl) (by exact rfl) (by exact rfl) (by exact rfl) ?_ ?_ | refine H_three (by exact rfl) (by exact rfl) (by exact rfl) (by exact rfl) (by exact rfl) (by exact rfl) (by exact rfl) ?_ ?_ ?_  | ((first | refine R_cond rfl (fun hq => ?_) fun hq => ?_ | refine R_guardT rfl rfl rfl (fun hq => ?_) fun hq => ?_ | refine R_guardF rfl rfl rfl (fun hq => ?_) fun hq => ?_ | refine D_guardT rfl rfl rfl (fun hq => ?_) fun hq => ?_ | refine D_guardF rfl rfl rfl (fun hq => ?_) fun hq => ?_) <;> (try rw [hq]) <;> first | have hp := of_decide_eq_true hq | have hp := of_decide_eq_false hq | have hp := of_decide_eq_false (not_t hq) | have hp := of_decide_eq_true (not_f hq) | have hp := hq) | refine W_held mixed [(3, 1, .slice (some ⟨g, o, none⟩) c.trs.length cap)] ?_)
      all_goals first
        | (refine midQ.n (Weak_ren2 [some 0, some 1, some 2] rfl rfl ?_ ?_) <;> ((repeat' (first | exact trivial | rfl | refine And.intro ?_ ?_)) <;> done))
        | (refine midQ.n (Weak_ren2 [some 0, some 2, some 1] rfl rfl ?_ ?_) <;> ((repeat' (first | exact trivial | rfl | refine And.intro ?_ ?_)) <;> done))
    refine W_recell2 1 rfl p1 p2 rfl ?_
    refine W_recell2 2 rfl p3 p4 rfl ?_
    repeat' (first | refine W_drawTS mixed tabOk rfl rfl rfl ?_ | refine go1 ?_ | refine D_callxZ rfl (hct) rfl rfl rfl rfl (by repeat' (first | exact trivial | rfl | refine And.intro ?_ ?_)) ?_ | refine D_callxZ rfl (hcu) rfl rfl rfl rfl (by repeat' (first | exact trivial | rfl | refine And.intro ?_ ?_)) ?_ | refine D_callxZ rfl (share_f _ _) rfl rfl rfl rfl (by repeat' (first | exact trivial | rfl | refine And.intro ?_ ?_)) ?_ | ((first | refine R_cond rfl (fun hq => ?_) fun hq => ?_ | refine R_guardT rfl rfl rfl (fun hq => ?_) fun hq => ?_ | refine R_guardF rfl rfl rfl (fun hq => ?_) fun hq => ?_ | refine D_guardT rfl rfl rfl (fun hq => ?_) fun hq => ?_ | refine D_guardF rfl rfl rfl (fun hq => ?_) fun hq => ?_) <;> (try rw [hq]) <;> first | have hp := of_decide_eq_true hq | have hp := of_decide_eq_false hq | have hp := of_decide_eq_false (not_t hq) | have hp := of_decide_eq_true (not_f hq) | have hp := hq))
    have hy : indB c t u = true := by rw [hz] at hb1 hb2; simp only [indB, hg, hb1, hb2, Bool.and_self]
    exact ret_lit2 rfl (by simp [indV, hy, bothL]) (by rw [hy])
end Go.Proofs.Ytcbfpeplcbgpjaa
