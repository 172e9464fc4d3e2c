/- slices.Grow of nothing, slices.Concat: what they hand back. No condition. -/
import Derived.Test.YtcbfpeplcbgpjaaDist
import Derived.Test.YtcbfpeplcbgpjaaLayGrow
set_option linter.unusedSimpArgs false
set_option linter.unusedVariables false
set_option maxHeartbeats 2000000
namespace Go.Proofs.Ytcbfpeplcbgpjaa
open Go.ChangeShapes Go.WideShapes Go.ChangeAt Go.RowKit

theorem grown_size (z : Array Value) (G n : Nat) (h : n ≤ G) : (([] : List Value).toArray ++ Builtin.zeroCells z (0 + n - 0) ++ Builtin.zeroCells z (G - (0 + n))).size = G * z.size := by
  simp only [Array.size_append, size_zeroCells, List.size_toArray, List.length_nil, Nat.zero_add, Nat.sub_zero]
  rw [← Nat.add_mul]; congr 1; omega

theorem growI_info : (Try.prog.info? 3).map (fun i => (i.zero, i.size, i.bytes)) = some (some (.int .i64 0), 1, 8) := by kernel_rfl
theorem GrowI_c (w : World) (n : Nat) (hn : n ≤ 2097152) : Calls Try.prog 126 #[.slice none 0 0, .int .i64 n] w fun e w' => ∃ v, e = .returned v ∧ w'.ownsRow w.heap.size 3 1 v 0 [] ∧ Ext w w' := by
  obtain ⟨i0, hi, hz0, hz1, hz2⟩ := info_parts growI_info
  rcases Nat.eq_zero_or_pos n with h0 | h0
  · subst h0
    refine (Any8.slices_Grow_room layGrowI none 0 0 0 w (by omega) (by omega) (by omega) (by omega)).mono ?_
    rintro e w' ⟨rfl, rfl⟩
    exact ⟨_, rfl, ⟨by simp, Or.inl ⟨rfl, rfl⟩⟩, Ext.refl _⟩
  · have hG := grownCap_ge w (0 + n) 0 3
    have hG2 := grownCap_le_maxLen w (0 + n) 0 3 (by unfold maxLen; omega)
    refine (Any8.slices_Grow_grow layGrowI i0 _ hi hz0 (by omega) none 0 0 n [] w (by omega) (by omega) (by rw [hz2]; omega) (by omega) (by simp) (fun _ => rfl) (fun a h => by cases h)).mono ?_
    rintro e w' ⟨rfl, rfl⟩
    refine ⟨_, rfl, ⟨by simp, Or.inr ⟨w.heap.size, _, _, rfl, Nat.le_refl _, heap_alloc_new w.drew _, Nat.zero_le _, hG2, ?_, by simp⟩⟩, (Ext.refl w).drew.alloc _⟩
    exact grown_size (.int .i64 0 : Value).cells _ n (Nat.le_trans (Nat.le_of_eq (Nat.zero_add n).symm) hG)
theorem GrowI_f (n : Nat) (hn : n ≤ 2097152) : Fn Try.prog 126 [.nil, .lit (.int .i64 n)] (.own 0) [.arr 3 1 [] true] := by
  refine Fn.of_own (us := []) (plain_of Try.func126 (by kernel_rfl) (by kernel_rfl)) (by simp) (fun w => .nil) fun w vs h => ?_
  obtain ⟨u, us', rfl, h1, h2⟩ := vxs_cons h
  obtain ⟨u2, rfl, h3⟩ := vxs_one h2
  obtain ⟨rfl, _⟩ := h3.lit_inv
  have := h1.nil_inv
  subst this
  exact GrowI_c w n hn

/-- The elements of slices, one behind the other. -/
def catI (l : List (List Int)) : List Int := l.flatten
def dCatI (l : List Int) : List D := [.sh 1 (ints l)]
set_option maxHeartbeats 1600000 in
theorem ConcatI_f (a b : List Int) (ha : a.length ≤ 1048576) (hb : b.length ≤ 1048576) : Fn Try.prog 50 [.sh 1 [[.sh 1 (ints a)], [.sh 1 (ints b)]]] (.own 0) [.arr 3 1 (ints (a ++ b)) true] := by
  refine Fn_of Try.func50 rfl (by kernel_rfl) rfl rfl ?_
  intro w0 A hin
  have e0 : ([[.sh 1 (ints a)], [.sh 1 (ints b)]] : List (List D)) = ([a, b] : List (List Int)).map dCatI := rfl
  have hza := len_ints a; have hzb := len_ints b
  have hl2 : (([a, b] : List (List Int)).map dCatI).length = 2 := rfl
  have hln : ∀ k : Nat, k < 2 → (nth [a, b] k).length ≤ 1048576 := fun k hk => by
    match k, hk with
    | 0, _ => exact ha
    | 1, _ => exact hb
  have hsum : ∀ k : Nat, k ≤ 2 → (([a, b] : List (List Int)).take k).flatten.length ≤ 2097152 := fun k hk => by
    match k, hk with
    | 0, _ => simp
    | 1, _ => simp; omega
    | 2, _ => simp; omega
  have hnx : ∀ k : Nat, k < 2 → (([a, b] : List (List Int)).take (k + 1)).flatten = (([a, b] : List (List Int)).take k).flatten ++ nth [a, b] k := fun k hk => by
    match k, hk with
    | 0, _ => simp [nth]
    | 1, _ => simp [nth]
  rw [e0] at hin ⊢
  generalize hL : ([a, b] : List (List Int)) = L at *
  have hLl : L.length = 2 := by rw [← hL]; rfl
  have hfin : (L.take 2).flatten = a ++ b := by rw [← hL]; simp
  have hfl : ∀ l : List Int, Flat (ints l) := fun l => flat_ints l
  have hzz : ∀ l : List Int, (ints l).length = l.length := fun l => len_ints l
  repeat' (first | refine goZ ?_ | ((first | refine R_cond rfl (fun hq => ?_) fun hq => ?_ | refine R_guardT rfl rfl rfl (fun hq => ?_) fun hq => ?_ | refine R_guardF rfl rfl rfl (fun hq => ?_) fun hq => ?_ | refine D_guardT rfl rfl rfl (fun hq => ?_) fun hq => ?_ | refine D_guardF rfl rfl rfl (fun hq => ?_) fun hq => ?_) <;> (try rw [hq]) <;> first | have hp := of_decide_eq_true hq | have hp := of_decide_eq_false hq | have hp := of_decide_eq_false (not_t hq) | have hp := of_decide_eq_true (not_f hq) | have hp := hq))
  refine W_loop (fun k : Nat => ⟨_, [(0, .sh 1 (L.map dCatI)), (3, .lit (.int .i64 ((L.take k).flatten.length : Nat))), (9, .sh 1 (L.map dCatI)), (10, .lit (.int .i64 ((L.map dCatI).length : Nat))), (11, .lit (.int .i64 k))], []⟩) (fun k => k ≤ 2) (fun k => 2 - k) 0 (Nat.zero_le _) (weakZ []) ?_
  intro k hk
  have hk1 := hln k
  have hk2 := hsum k hk
  have hk3 := hzz (nth L k)
  have hk4 : k < 2 → ((L.take (k + 1)).flatten.length : Int) = (L.take k).flatten.length + (nth L k).length := fun h => by rw [hnx k h]; simp
  repeat' (first | refine goZ ?_ | refine R_callZ rfl (GrowI_f _ (by omega)) rfl rfl rfl ?_ | refine R_callvZ rfl (GrowI_f _ (by omega)) rfl rfl rfl rfl ?_ | refine D_callZ rfl (GrowI_f _ (by omega)) rfl rfl rfl ?_ | ((first | refine R_cond rfl (fun hq => ?_) fun hq => ?_ | refine R_guardT rfl rfl rfl (fun hq => ?_) fun hq => ?_ | refine R_guardF rfl rfl rfl (fun hq => ?_) fun hq => ?_ | refine D_guardT rfl rfl rfl (fun hq => ?_) fun hq => ?_ | refine D_guardF rfl rfl rfl (fun hq => ?_) fun hq => ?_) <;> (try rw [hq]) <;> first | have hp := of_decide_eq_true hq | have hp := of_decide_eq_false hq | have hp := of_decide_eq_false (not_t hq) | have hp := of_decide_eq_true (not_f hq) | have hp := hq))
  · refine ⟨k + 1, by omega, by omega, ?_⟩
    rw [hk4 (by omega), ← hk3]
    exact weakZ _
  have ek : k = 2 := by omega
  subst ek
  refine W_loop (fun k : Nat => ⟨_, [(6, .own 0), (25, .sh 1 (L.map dCatI)), (26, .lit (.int .i64 ((L.map dCatI).length : Nat))), (27, .lit (.int .i64 k))], [.arr 3 1 (ints (L.take k).flatten) true]⟩) (fun k => k ≤ 2) (fun k => 2 - k) 0 (Nat.zero_le _) (weakZ []) ?_
  intro k hk
  have hk1 := hln k
  have hk2 := hsum k hk
  have hk3 := hzz (nth L k)
  have hk5 := hzz (L.take k).flatten
  repeat' (first | refine goZ ?_ | refine R_append tabOk rfl rfl rfl rfl rfl rfl rfl rfl rfl rfl rfl (hfl _) (by have := hk1 (by omega); omega) ?_ | ((first | refine R_cond rfl (fun hq => ?_) fun hq => ?_ | refine R_guardT rfl rfl rfl (fun hq => ?_) fun hq => ?_ | refine R_guardF rfl rfl rfl (fun hq => ?_) fun hq => ?_ | refine D_guardT rfl rfl rfl (fun hq => ?_) fun hq => ?_ | refine D_guardF rfl rfl rfl (fun hq => ?_) fun hq => ?_) <;> (try rw [hq]) <;> first | have hp := of_decide_eq_true hq | have hp := of_decide_eq_false hq | have hp := of_decide_eq_false (not_t hq) | have hp := of_decide_eq_true (not_f hq) | have hp := hq))
  · refine ⟨k + 1, by omega, by omega, ?_⟩
    have e : (ints (L.take (k + 1)).flatten) = (ints (L.take k).flatten) ++ (ints (nth L k)) := by rw [hnx k (by omega)]; simp [ints]
    rw [e]
    exact weakZ _
  · exact ret_own rfl rfl (by rw [show k = 2 by omega, hfin])

theorem growS_info : (Try.prog.info? 132).map (fun i => (i.zero, i.size, i.bytes)) = some (some (.agg #[.string ByteArray.empty, .int .i64 0]), 2, 24) := by kernel_rfl
theorem GrowS_c (w : World) (n : Nat) (hn : n ≤ 2097152) : Calls Try.prog 158 #[.slice none 0 0, .int .i64 n] w fun e w' => ∃ v, e = .returned v ∧ w'.ownsRow w.heap.size 132 2 v 0 [] ∧ Ext w w' := by
  obtain ⟨i0, hi, hz0, hz1, hz2⟩ := info_parts growS_info
  rcases Nat.eq_zero_or_pos n with h0 | h0
  · subst h0
    refine (Any8.slices_Grow_room layGrowS none 0 0 0 w (by omega) (by omega) (by omega) (by omega)).mono ?_
    rintro e w' ⟨rfl, rfl⟩
    exact ⟨_, rfl, ⟨by simp, Or.inl ⟨rfl, rfl⟩⟩, Ext.refl _⟩
  · have hG := grownCap_ge w (0 + n) 0 132
    have hG2 := grownCap_le_maxLen w (0 + n) 0 132 (by unfold maxLen; omega)
    refine (Any8.slices_Grow_grow layGrowS i0 _ hi hz0 (by omega) none 0 0 n [] w (by omega) (by omega) (by rw [hz2]; omega) (by omega) (by simp) (fun _ => rfl) (fun a h => by cases h)).mono ?_
    rintro e w' ⟨rfl, rfl⟩
    refine ⟨_, rfl, ⟨by simp, Or.inr ⟨w.heap.size, _, _, rfl, Nat.le_refl _, heap_alloc_new w.drew _, Nat.zero_le _, hG2, ?_, by simp⟩⟩, (Ext.refl w).drew.alloc _⟩
    exact grown_size (.agg #[.string ByteArray.empty, .int .i64 0] : Value).cells _ n (Nat.le_trans (Nat.le_of_eq (Nat.zero_add n).symm) hG)
theorem GrowS_f (n : Nat) (hn : n ≤ 2097152) : Fn Try.prog 158 [.nil, .lit (.int .i64 n)] (.own 0) [.arr 132 2 [] true] := by
  refine Fn.of_own (us := []) (plain_of Try.func158 (by kernel_rfl) (by kernel_rfl)) (by simp) (fun w => .nil) fun w vs h => ?_
  obtain ⟨u, us', rfl, h1, h2⟩ := vxs_cons h
  obtain ⟨u2, rfl, h3⟩ := vxs_one h2
  obtain ⟨rfl, _⟩ := h3.lit_inv
  have := h1.nil_inv
  subst this
  exact GrowS_c w n hn

/-- The elements of slices, one behind the other. -/
def catS (l : List (List Sig)) : List Sig := l.flatten
def dCatS (l : List Sig) : List D := [.sh 2 (l.map dSig)]
set_option maxHeartbeats 1600000 in
theorem ConcatS_f (a b : List Sig) (ha : a.length ≤ 1048576) (hb : b.length ≤ 1048576) : Fn Try.prog 89 [.sh 1 [[.sh 2 (a.map dSig)], [.sh 2 (b.map dSig)]]] (.own 0) [.arr 132 2 ((a ++ b).map dSig) true] := by
  refine Fn_of Try.func89 rfl (by kernel_rfl) rfl rfl ?_
  intro w0 A hin
  have e0 : ([[.sh 2 (a.map dSig)], [.sh 2 (b.map dSig)]] : List (List D)) = ([a, b] : List (List Sig)).map dCatS := rfl
  have hza := len_dSig a; have hzb := len_dSig b
  have hl2 : (([a, b] : List (List Sig)).map dCatS).length = 2 := rfl
  have hln : ∀ k : Nat, k < 2 → (nth [a, b] k).length ≤ 1048576 := fun k hk => by
    match k, hk with
    | 0, _ => exact ha
    | 1, _ => exact hb
  have hsum : ∀ k : Nat, k ≤ 2 → (([a, b] : List (List Sig)).take k).flatten.length ≤ 2097152 := fun k hk => by
    match k, hk with
    | 0, _ => simp
    | 1, _ => simp; omega
    | 2, _ => simp; omega
  have hnx : ∀ k : Nat, k < 2 → (([a, b] : List (List Sig)).take (k + 1)).flatten = (([a, b] : List (List Sig)).take k).flatten ++ nth [a, b] k := fun k hk => by
    match k, hk with
    | 0, _ => simp [nth]
    | 1, _ => simp [nth]
  rw [e0] at hin ⊢
  generalize hL : ([a, b] : List (List Sig)) = L at *
  have hLl : L.length = 2 := by rw [← hL]; rfl
  have hfin : (L.take 2).flatten = a ++ b := by rw [← hL]; simp
  have hfl : ∀ l : List Sig, Flat (l.map dSig) := fun l => flat_map (by simp [dSig, isLit])
  have hzz : ∀ l : List Sig, (l.map dSig).length = l.length := fun l => len_dSig l
  repeat' (first | refine goZ ?_ | ((first | refine R_cond rfl (fun hq => ?_) fun hq => ?_ | refine R_guardT rfl rfl rfl (fun hq => ?_) fun hq => ?_ | refine R_guardF rfl rfl rfl (fun hq => ?_) fun hq => ?_ | refine D_guardT rfl rfl rfl (fun hq => ?_) fun hq => ?_ | refine D_guardF rfl rfl rfl (fun hq => ?_) fun hq => ?_) <;> (try rw [hq]) <;> first | have hp := of_decide_eq_true hq | have hp := of_decide_eq_false hq | have hp := of_decide_eq_false (not_t hq) | have hp := of_decide_eq_true (not_f hq) | have hp := hq))
  refine W_loop (fun k : Nat => ⟨_, [(0, .sh 1 (L.map dCatS)), (3, .lit (.int .i64 ((L.take k).flatten.length : Nat))), (9, .sh 1 (L.map dCatS)), (10, .lit (.int .i64 ((L.map dCatS).length : Nat))), (11, .lit (.int .i64 k))], []⟩) (fun k => k ≤ 2) (fun k => 2 - k) 0 (Nat.zero_le _) (weakZ []) ?_
  intro k hk
  have hk1 := hln k
  have hk2 := hsum k hk
  have hk3 := hzz (nth L k)
  have hk4 : k < 2 → ((L.take (k + 1)).flatten.length : Int) = (L.take k).flatten.length + (nth L k).length := fun h => by rw [hnx k h]; simp
  repeat' (first | refine goZ ?_ | refine R_callZ rfl (GrowS_f _ (by omega)) rfl rfl rfl ?_ | refine R_callvZ rfl (GrowS_f _ (by omega)) rfl rfl rfl rfl ?_ | refine D_callZ rfl (GrowS_f _ (by omega)) rfl rfl rfl ?_ | ((first | refine R_cond rfl (fun hq => ?_) fun hq => ?_ | refine R_guardT rfl rfl rfl (fun hq => ?_) fun hq => ?_ | refine R_guardF rfl rfl rfl (fun hq => ?_) fun hq => ?_ | refine D_guardT rfl rfl rfl (fun hq => ?_) fun hq => ?_ | refine D_guardF rfl rfl rfl (fun hq => ?_) fun hq => ?_) <;> (try rw [hq]) <;> first | have hp := of_decide_eq_true hq | have hp := of_decide_eq_false hq | have hp := of_decide_eq_false (not_t hq) | have hp := of_decide_eq_true (not_f hq) | have hp := hq))
  · refine ⟨k + 1, by omega, by omega, ?_⟩
    rw [hk4 (by omega), ← hk3]
    exact weakZ _
  have ek : k = 2 := by omega
  subst ek
  refine W_loop (fun k : Nat => ⟨_, [(6, .own 0), (25, .sh 1 (L.map dCatS)), (26, .lit (.int .i64 ((L.map dCatS).length : Nat))), (27, .lit (.int .i64 k))], [.arr 132 2 ((L.take k).flatten.map dSig) true]⟩) (fun k => k ≤ 2) (fun k => 2 - k) 0 (Nat.zero_le _) (weakZ []) ?_
  intro k hk
  have hk1 := hln k
  have hk2 := hsum k hk
  have hk3 := hzz (nth L k)
  have hk5 := hzz (L.take k).flatten
  repeat' (first | refine goZ ?_ | refine R_append tabOk rfl rfl rfl rfl rfl rfl rfl rfl rfl rfl rfl (hfl _) (by have := hk1 (by omega); omega) ?_ | ((first | refine R_cond rfl (fun hq => ?_) fun hq => ?_ | refine R_guardT rfl rfl rfl (fun hq => ?_) fun hq => ?_ | refine R_guardF rfl rfl rfl (fun hq => ?_) fun hq => ?_ | refine D_guardT rfl rfl rfl (fun hq => ?_) fun hq => ?_ | refine D_guardF rfl rfl rfl (fun hq => ?_) fun hq => ?_) <;> (try rw [hq]) <;> first | have hp := of_decide_eq_true hq | have hp := of_decide_eq_false hq | have hp := of_decide_eq_false (not_t hq) | have hp := of_decide_eq_true (not_f hq) | have hp := hq))
  · refine ⟨k + 1, by omega, by omega, ?_⟩
    have e : ((L.take (k + 1)).flatten.map dSig) = ((L.take k).flatten.map dSig) ++ ((nth L k).map dSig) := by rw [hnx k (by omega)]; simp [ints]
    rw [e]
    exact weakZ _
  · exact ret_own rfl rfl (by rw [show k = 2 by omega, hfin])
end Go.Proofs.Ytcbfpeplcbgpjaa
