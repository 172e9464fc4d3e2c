/- Disabling arcs: what the reference's and the program's functions hand back. No condition. -/
import Derived.Test.YtkgnmndgbpnifaaMask
import Derived.Test.YtkgnmndgbpnifaaSgc
set_option linter.unusedSimpArgs false
set_option linter.unusedVariables false
set_option maxHeartbeats 2000000
namespace Go.Proofs.Ytkgnmndgbpnifaa
open Go.ChangeShapes Go.WideShapes Go.ChangeAt Go.RowKit

theorem sigs_of {c : SGraph} (h : goodSG c = true) : sigsLe c.arcs := by
  intro a ha
  have hl := goodSG_len h
  simp only [goodSG, sgB, Bool.and_eq_true] at h
  have h1 := List.all_eq_true.1 h.1.2.2 a ha
  simp only [arcB, labB, Bool.and_eq_true, Bool.or_eq_true, decide_eq_true_eq] at h1
  omega
theorem ends_ok {c : SGraph} (h : goodSG c = true) : EndsOk c := by
  simp only [goodSG, sgB, Bool.and_eq_true] at h
  exact ends_of h.1.2.2

/-- The arc i disables an edge of the signal. -/
def disU (c : SGraph) (sig : Int) (up : Bool) (i : Nat) : Bool := !decide ((nth c.arcs i).sig = sig) && (hasA c.arcs (nth c.arcs i).src sig up && !hasA c.arcs (nth c.arcs i).dst sig up)
def disP (c : SGraph) (sig : Int) (i : Nat) : Bool := disU c sig false i || disU c sig true i
theorem disP_eq (c : SGraph) (sig : Int) (i : Nat) : disP c sig i = (!decide ((nth c.arcs i).sig = sig) && ((hasA c.arcs (nth c.arcs i).src sig false && !hasA c.arcs (nth c.arcs i).dst sig false) || (hasA c.arcs (nth c.arcs i).src sig true && !hasA c.arcs (nth c.arcs i).dst sig true))) := by
  rw [disP, disU, disU, Bool.and_or_distrib_left]
def disL (c : SGraph) (sig : Int) : List Int := pickN (disP c sig) c.arcs.length
noncomputable def disR (c : SGraph) (sig : Int) : List Int := if askB c sig then disL c sig else []
theorem disR_len (c : SGraph) (sig : Int) : (disR c sig).length ≤ 4000 := by
  unfold disR
  split
  · rename_i h
    have := goodSG_len (askB_good h).1; have := pickN_len (disP c sig) c.arcs.length
    unfold disL; omega
  · simp

theorem mask_test {l : List ArcD} {n : Nat} {s t sig : Int} (hl : sigsLe l) (hs : 0 ≤ s ∧ s < n) (ht : 0 ≤ t ∧ t < n) (hg : 0 ≤ sig ∧ sig ≤ 7) :
    decide (andI (andNotI (nth (mskL l n) s.toNat) (nth (mskL l n) t.toNat) / 2 ^ (2 * sig).toNat) 3 = 0) = !((hasA l s sig false && !hasA l t sig false) || (hasA l s sig true && !hasA l t sig true)) := by
  obtain ⟨g, rfl⟩ := Int.eq_ofNat_of_zero_le hg.1
  have h1 := mskN_lt s hl
  have h2 := lessBits_le (mskN l s) (mskN l t) h1
  rw [mskL_nth (k := s.toNat) (by omega), mskL_nth (k := t.toNat) (by omega), Int.toNat_of_nonneg hs.1, Int.toNat_of_nonneg ht.1, andNotI_nat h1, show (2 * (g : Int)).toNat = 2 * g by omega]
  have e : ((lessBits (mskN l s) (mskN l t) : Nat) : Int) / 2 ^ (2 * g) = ((lessBits (mskN l s) (mskN l t) / 2 ^ (2 * g) : Nat) : Int) := by simp
  have h3 : lessBits (mskN l s) (mskN l t) / 2 ^ (2 * g) < 65536 := Nat.lt_of_le_of_lt (Nat.div_le_self _ _) h2
  rw [e, andI_three _ h3]
  have hb : ∀ up, (lessBits (mskN l s) (mskN l t)).testBit (lbit g up) = (hasA l s g up && !hasA l t g up) := fun up => by
    rw [lessBits_bit h1 (by unfold lbit; split <;> omega), mskN_bit, mskN_bit]
  have key := bits_of (x := lessBits (mskN l s) (mskN l t)) (sig := g)
  rw [hb, hb] at key
  rw [Bool.eq_iff_iff, decide_eq_true_eq, Bool.not_eq_true', Bool.or_eq_false_iff, ← key]
  omega

theorem disabling_f (c : SGraph) (sig : Int) (h : askB c sig = true) : Fn Try.prog 119 [.agg (dSGraph c), .lit (.int .i64 sig)] (.own 0) [.arr 3 1 (ints (disL c sig)) true] := by
  refine Fn_of Try.func119 rfl (by kernel_rfl) rfl rfl ?_
  intro w0 A hin
  have hza := len_dArcD c.arcs
  have hg := (askB_good h).1
  have hs := (askB_good h).2
  have hb := goodSG_len hg
  have hlen := pickN_len (disP c sig)
  have hml := mskL_len c.arcs c.codes.length
  have hml2 := len_ints (mskL c.arcs c.codes.length)
  have hE := ends_ok hg
  have hS := sigs_of hg
  repeat' (first | refine goZ ?_ | refine R_callZ rfl (labelMasks_f c (by omega) (by omega) hS hE) rfl rfl rfl ?_ | refine R_callvZ rfl (labelMasks_f c (by omega) (by omega) hS hE) rfl rfl rfl rfl ?_ | refine D_callZ rfl (labelMasks_f c (by omega) (by omega) hS hE) rfl rfl rfl ?_ | ((first | refine R_cond rfl (fun hq => ?_) fun hq => ?_ | refine R_guardT rfl rfl rfl (fun hq => ?_) fun hq => ?_ | refine R_guardF rfl rfl rfl (fun hq => ?_) fun hq => ?_ | refine D_guardT rfl rfl rfl (fun hq => ?_) fun hq => ?_ | refine D_guardF rfl rfl rfl (fun hq => ?_) fun hq => ?_) <;> (try rw [hq]) <;> first | have hp := of_decide_eq_true hq | have hp := of_decide_eq_false hq | have hp := of_decide_eq_false (not_t hq) | have hp := of_decide_eq_true (not_f hq) | have hp := hq))
  refine W_loop (fun k : Nat => ⟨_, [(1, .lit (.int .i64 sig)), (2, .ptr 0 0), (5, .own 1), (6, .own 2), (13, .sh 4 (c.arcs.map dArcD)), (14, .lit (.int .i64 c.arcs.length)), (15, .lit (.int .i64 k))], [.cells 49 (dSGraph c), .arr 3 1 (ints (pickN (disP c sig) k)) true, .arr 3 1 (ints (mskL c.arcs c.codes.length)) true]⟩) (fun k => k ≤ c.arcs.length) (fun k => c.arcs.length - k) 0 (Nat.zero_le _) (weakZ []) ?_
  intro k hk
  have hk2 := hlen k
  have hnth : ∀ h : k < c.arcs.length, (0 ≤ (nth c.arcs k).src ∧ (nth c.arcs k).src < c.codes.length) ∧ 0 ≤ (nth c.arcs k).dst ∧ (nth c.arcs k).dst < c.codes.length := fun h => hE _ (List.mem_map.2 ⟨nth c.arcs k, nth_mem h, rfl⟩)
  have hmt : ∀ h : k < c.arcs.length, _ := fun h => mask_test (n := c.codes.length) hS (hnth h).1 (hnth h).2 (sig := sig) (by omega)
  repeat' (first | refine goZ ?_ | ((first | refine R_cond rfl (fun hq => ?_) fun hq => ?_ | refine R_guardT rfl rfl rfl (fun hq => ?_) fun hq => ?_ | refine R_guardF rfl rfl rfl (fun hq => ?_) fun hq => ?_ | refine D_guardT rfl rfl rfl (fun hq => ?_) fun hq => ?_ | refine D_guardF rfl rfl rfl (fun hq => ?_) fun hq => ?_) <;> (try rw [hq]) <;> first | have hp := of_decide_eq_true hq | have hp := of_decide_eq_false hq | have hp := of_decide_eq_false (not_t hq) | have hp := of_decide_eq_true (not_f hq) | have hp := hq))
  · have hkl : k < c.arcs.length := by omega
    rw [hmt hkl, Bool.not_not] at hq
    refine ⟨k + 1, by omega, by omega, ?_⟩
    simp only [pickN_yes (p := disP c sig) (k := k) (by rw [disP_eq, show (!decide ((nth c.arcs k).sig = sig)) = true by assumption, Bool.true_and]; exact hq), ints_snoc]
    exact weakZ _
  · have hkl : k < c.arcs.length := by omega
    rw [hmt hkl, Bool.not_not] at hq
    refine ⟨k + 1, by omega, by omega, ?_⟩
    simp only [pickN_no (p := disP c sig) (k := k) (by rw [disP_eq, hq, Bool.and_false])]
    exact weakZ _
  · refine ⟨k + 1, by omega, by omega, ?_⟩
    simp only [pickN_no (p := disP c sig) (k := k) (by rw [disP_eq, hq, Bool.false_and])]
    exact weakZ _
  · exact ret_own rfl rfl (by rw [disL, show k = c.arcs.length by omega])

theorem DisablingArcs_f (c : SGraph) (sig : Int) : Fn Try.prog 54 [.agg (dSGraph c), .lit (.int .i64 sig)] (.tup [.own 0, .lit (.bool (askB c sig))]) [.arr 3 1 (ints (disR c sig)) true] := by
  refine Fn_of Try.func54 rfl (by kernel_rfl) rfl rfl ?_
  intro w0 A hin
  have hV := hasSignal_f c sig
  cases hg : askB c sig <;> rw [hg] at hV
  · repeat' (first | refine goZ ?_ | refine R_callZ rfl (hV) rfl rfl rfl ?_ | refine R_callvZ rfl (hV) rfl rfl rfl rfl ?_ | refine D_callZ rfl (hV) rfl rfl rfl ?_ | ((first | refine R_cond rfl (fun hq => ?_) fun hq => ?_ | refine R_guardT rfl rfl rfl (fun hq => ?_) fun hq => ?_ | refine R_guardF rfl rfl rfl (fun hq => ?_) fun hq => ?_ | refine D_guardT rfl rfl rfl (fun hq => ?_) fun hq => ?_ | refine D_guardF rfl rfl rfl (fun hq => ?_) fun hq => ?_) <;> (try rw [hq]) <;> first | have hp := of_decide_eq_true hq | have hp := of_decide_eq_false hq | have hp := of_decide_eq_false (not_t hq) | have hp := of_decide_eq_true (not_f hq) | have hp := hq))
    exact ret_nil_lit rfl (by simp [disR, hg, ints]) rfl
  · repeat' (first | refine goZ ?_ | refine R_callZ rfl (hV) rfl rfl rfl ?_ | refine R_callZ rfl (disabling_f c sig hg) rfl rfl rfl ?_ | refine R_callvZ rfl (hV) rfl rfl rfl rfl ?_ | refine R_callvZ rfl (disabling_f c sig hg) rfl rfl rfl rfl ?_ | refine D_callZ rfl (hV) rfl rfl rfl ?_ | refine D_callZ rfl (disabling_f c sig hg) rfl rfl rfl ?_ | ((first | refine R_cond rfl (fun hq => ?_) fun hq => ?_ | refine R_guardT rfl rfl rfl (fun hq => ?_) fun hq => ?_ | refine R_guardF rfl rfl rfl (fun hq => ?_) fun hq => ?_ | refine D_guardT rfl rfl rfl (fun hq => ?_) fun hq => ?_ | refine D_guardF rfl rfl rfl (fun hq => ?_) fun hq => ?_) <;> (try rw [hq]) <;> first | have hp := of_decide_eq_true hq | have hp := of_decide_eq_false hq | have hp := of_decide_eq_false (not_t hq) | have hp := of_decide_eq_true (not_f hq) | have hp := hq))
    exact ret_own_lit rfl rfl (by rw [disR, hg, if_pos rfl]) rfl

/-! ### The reference -/
theorem exL_has (c : SGraph) (x sig : Int) (up : Bool) : decide (x ∈ exL c.arcs sig up) = hasA c.arcs x sig up := by
  rw [Bool.eq_iff_iff, decide_eq_true_eq, exL_mem, hasA, List.any_eq_true]
  constructor
  · rintro ⟨a, h1, h2, h3⟩; exact ⟨a, h1, by rw [h2, h3]; simp⟩
  · rintro ⟨a, h1, h2⟩
    simp only [Bool.and_eq_true, decide_eq_true_eq] at h2
    exact ⟨a, h1, h2.2, h2.1⟩
def putAll (r l : List Int) : List Int := l.foldl putI r
theorem putAll_snoc (r l : List Int) (x : Int) : putAll r (l ++ [x]) = putI (putAll r l) x := by simp [putAll, List.foldl_append]
/-- What the reference's list is behind so many kinds of labels. -/
def disO (c : SGraph) (sig : Int) : Nat → List Int
  | 0 => []
  | u + 1 => putAll (disO c sig u) (pickN (disU c sig (nth [false, true] u)) c.arcs.length)
theorem putAll_spec (l r : List Int) (h : Inc r) : Inc (putAll r l) ∧ (∀ x, x ∈ putAll r l ↔ x ∈ r ∨ x ∈ l) ∧ (putAll r l).length ≤ r.length + l.length := by
  have := put_fold (fun x : Int => x) l r h
  exact ⟨this.1, fun x => by have h := this.2.1 x; simp only [exists_eq_right] at h; exact h, this.2.2⟩
theorem disO_inc (c : SGraph) (sig : Int) : ∀ u, Inc (disO c sig u)
  | 0 => by simp [disO, Inc]
  | u + 1 => (putAll_spec _ _ (disO_inc c sig u)).1
theorem disO_len (c : SGraph) (sig : Int) : ∀ u, (disO c sig u).length ≤ u * c.arcs.length
  | 0 => by simp [disO]
  | u + 1 => by
    have h1 := disO_len c sig u
    have h2 := (putAll_spec (pickN (disU c sig (nth [false, true] u)) c.arcs.length) _ (disO_inc c sig u)).2.2
    have h3 := pickN_len (disU c sig (nth [false, true] u)) c.arcs.length
    rw [Nat.add_mul]; simp only [disO]; omega
theorem pickN_mem {p : Nat → Bool} {n : Nat} {x : Int} : x ∈ pickN p n ↔ ∃ i : Nat, i < n ∧ p i = true ∧ (i : Int) = x := by
  simp [pickN, and_assoc]
theorem pickN_inc (p : Nat → Bool) (n : Nat) : Inc (pickN p n) := by
  unfold pickN Inc
  rw [List.pairwise_map]
  refine List.Pairwise.imp (fun h => by omega) ((List.pairwise_lt_range).filter _)
theorem disO_two (c : SGraph) (sig : Int) : disO c sig 2 = disL c sig := by
  refine inc_ext (disO_inc c sig 2) (pickN_inc _ _) fun x => ?_
  have h1 := (putAll_spec (pickN (disU c sig true) c.arcs.length) _ (disO_inc c sig 1)).2.1 x
  have h0 := (putAll_spec (pickN (disU c sig false) c.arcs.length) _ (disO_inc c sig 0)).2.1 x
  show x ∈ putAll (disO c sig 1) (pickN (disU c sig true) c.arcs.length) ↔ x ∈ disL c sig
  rw [h1, show disO c sig 1 = putAll (disO c sig 0) (pickN (disU c sig false) c.arcs.length) from rfl, h0, disL, pickN_mem, pickN_mem, pickN_mem]
  simp only [disO, List.not_mem_nil, false_or, disP, Bool.or_eq_true]
  constructor
  · rintro (⟨i, a, b, e⟩ | ⟨i, a, b, e⟩)
    · exact ⟨i, a, Or.inl b, e⟩
    · exact ⟨i, a, Or.inr b, e⟩
  · rintro ⟨i, a, b | b, e⟩
    · exact Or.inl ⟨i, a, b, e⟩
    · exact Or.inr ⟨i, a, b, e⟩

theorem specDisablingArcs_f (c : SGraph) (sig : Int) : Fn Try.prog 53 [.agg (dSGraph c), .lit (.int .i64 sig)] (.tup [.own 0, .lit (.bool (askB c sig))]) [.arr 3 1 (ints (disR c sig)) true] := by
  refine Fn_of Try.func53 rfl (by kernel_rfl) rfl rfl ?_
  intro w0 A hin
  have hza := len_dArcD c.arcs
  have hV := l10Asked_f c sig
  cases hg : askB c sig <;> rw [hg] at hV
  · repeat' (first | refine goZ ?_ | refine R_callZ rfl (hV) rfl rfl rfl ?_ | refine R_callvZ rfl (hV) rfl rfl rfl rfl ?_ | refine D_callZ rfl (hV) rfl rfl rfl ?_ | ((first | refine R_cond rfl (fun hq => ?_) fun hq => ?_ | refine R_guardT rfl rfl rfl (fun hq => ?_) fun hq => ?_ | refine R_guardF rfl rfl rfl (fun hq => ?_) fun hq => ?_ | refine D_guardT rfl rfl rfl (fun hq => ?_) fun hq => ?_ | refine D_guardF rfl rfl rfl (fun hq => ?_) fun hq => ?_) <;> (try rw [hq]) <;> first | have hp := of_decide_eq_true hq | have hp := of_decide_eq_false hq | have hp := of_decide_eq_false (not_t hq) | have hp := of_decide_eq_true (not_f hq) | have hp := hq))
    exact ret_nil_lit rfl (by simp [disR, hg, ints]) rfl
  · have hb := goodSG_len (askB_good hg).1
    repeat' (first | refine goZ ?_ | refine R_callZ rfl (hV) rfl rfl rfl ?_ | refine R_callvZ rfl (hV) rfl rfl rfl rfl ?_ | refine D_callZ rfl (hV) rfl rfl rfl ?_ | ((first | refine R_cond rfl (fun hq => ?_) fun hq => ?_ | refine R_guardT rfl rfl rfl (fun hq => ?_) fun hq => ?_ | refine R_guardF rfl rfl rfl (fun hq => ?_) fun hq => ?_ | refine D_guardT rfl rfl rfl (fun hq => ?_) fun hq => ?_ | refine D_guardF rfl rfl rfl (fun hq => ?_) fun hq => ?_) <;> (try rw [hq]) <;> first | have hp := of_decide_eq_true hq | have hp := of_decide_eq_false hq | have hp := of_decide_eq_false (not_t hq) | have hp := of_decide_eq_true (not_f hq) | have hp := hq))
    refine W_open 6 3 1 rfl ?_
    refine W_loop (fun u : Nat => ⟨_, [(1, .lit (.int .i64 sig)), (2, .ptr 0 0), (6, .own 2), (16, .own 1), (17, .lit (.int .i64 2)), (18, .lit (.int .i64 u))], [.cells 49 (dSGraph c), .arr 4 1 (bools [false, true]) true, .arr 3 1 (ints (disO c sig u)) true]⟩) (fun u => u ≤ 2) (fun u => 2 - u) 0 (by omega) (weakZ []) ?_
    intro u hu
    have hul := disO_len c sig u
    have hu2 : u * c.arcs.length ≤ 2 * c.arcs.length := Nat.mul_le_mul_right _ hu
    have hbl : (bools [false, true]).length = 2 := rfl
    repeat' (first | refine goZ ?_ | refine R_callZ rfl (l10Excited_f c sig (nth [false, true] u) (by omega)) rfl rfl rfl ?_ | refine R_callvZ rfl (l10Excited_f c sig (nth [false, true] u) (by omega)) rfl rfl rfl rfl ?_ | refine D_callZ rfl (l10Excited_f c sig (nth [false, true] u) (by omega)) rfl rfl rfl ?_ | ((first | refine R_cond rfl (fun hq => ?_) fun hq => ?_ | refine R_guardT rfl rfl rfl (fun hq => ?_) fun hq => ?_ | refine R_guardF rfl rfl rfl (fun hq => ?_) fun hq => ?_ | refine D_guardT rfl rfl rfl (fun hq => ?_) fun hq => ?_ | refine D_guardF rfl rfl rfl (fun hq => ?_) fun hq => ?_) <;> (try rw [hq]) <;> first | have hp := of_decide_eq_true hq | have hp := of_decide_eq_false hq | have hp := of_decide_eq_false (not_t hq) | have hp := of_decide_eq_true (not_f hq) | have hp := hq))
    · refine W_loop (fun k : Nat => ⟨_, [(1, .lit (.int .i64 sig)), (2, .ptr 0 0), (6, .own 2), (16, .own 1), (17, .lit (.int .i64 2)), (18, .lit (.int .i64 u)), (9, .own 3), (27, .sh 4 (c.arcs.map dArcD)), (28, .lit (.int .i64 c.arcs.length)), (29, .lit (.int .i64 k))], [.cells 49 (dSGraph c), .arr 4 1 (bools [false, true]) true, .arr 3 1 (ints (putAll (disO c sig u) (pickN (disU c sig (nth [false, true] u)) k))) true, .arr 3 1 (ints (exL c.arcs sig (nth [false, true] u))) true]⟩) (fun k => k ≤ c.arcs.length) (fun k => c.arcs.length - k) 0 (Nat.zero_le _) (weakZ []) ?_
      intro k hk
      have hk2 := pickN_len (disU c sig (nth [false, true] u)) k
      have hk3 := (putAll_spec (pickN (disU c sig (nth [false, true] u)) k) _ (disO_inc c sig u)).2.2
      have hH := fun x => exL_has c x sig (nth [false, true] u)
      repeat' (first | refine goZ ?_ | refine R_callZ rfl (l1Has_f _ _) rfl rfl rfl ?_ | refine R_callvZ rfl (l1Has_f _ _) rfl rfl rfl rfl ?_ | refine R_callM rfl (l1Put_m (putAll (disO c sig u) (pickN (disU c sig (nth [false, true] u)) k)) (k : Int) (by omega)) rfl rfl rfl rfl rfl rfl rfl rfl (by first | exact hfl _ | exact flat_ints _) ?_ | refine D_callZ rfl (l1Has_f _ _) rfl rfl rfl ?_ | ((first | refine R_cond rfl (fun hq => ?_) fun hq => ?_ | refine R_guardT rfl rfl rfl (fun hq => ?_) fun hq => ?_ | refine R_guardF rfl rfl rfl (fun hq => ?_) fun hq => ?_ | refine D_guardT rfl rfl rfl (fun hq => ?_) fun hq => ?_ | refine D_guardF rfl rfl rfl (fun hq => ?_) fun hq => ?_) <;> (try rw [hq]) <;> first | have hp := of_decide_eq_true hq | have hp := of_decide_eq_false hq | have hp := of_decide_eq_false (not_t hq) | have hp := of_decide_eq_true (not_f hq) | have hp := hq))
      · refine ⟨k + 1, by omega, by omega, ?_⟩
        simp only [pickN_yes (p := disU c sig (nth [false, true] u)) (k := k) (by rw [disU, ← hH, ← hH, show (!decide ((nth c.arcs k).sig = sig)) = true by assumption, show decide ((nth c.arcs k).src ∈ exL c.arcs sig (nth [false, true] u)) = true by assumption, hq]; rfl), putAll_snoc]
        refine Weak_ren [some 0, some 1, some 5, some 3] rfl rfl ?_ ?_ <;> (repeat' (first | exact trivial | rfl | refine And.intro ?_ ?_ | (simp [St.get, look, ints, strs, bools]; done))) <;> done
      · refine ⟨k + 1, by omega, by omega, ?_⟩
        simp only [pickN_no (p := disU c sig (nth [false, true] u)) (k := k) (by rw [disU, ← hH, ← hH, hq, Bool.and_false, Bool.and_false])]
        exact weakZ _
      · refine ⟨k + 1, by omega, by omega, ?_⟩
        simp only [pickN_no (p := disU c sig (nth [false, true] u)) (k := k) (by rw [disU, ← hH, ← hH, hq, Bool.false_and, Bool.and_false])]
        exact weakZ _
      · refine ⟨k + 1, by omega, by omega, ?_⟩
        simp only [pickN_no (p := disU c sig (nth [false, true] u)) (k := k) (by rw [disU, hq, Bool.false_and])]
        exact weakZ _
      · obtain rfl : k = c.arcs.length := by omega
        exact ⟨u + 1, by omega, by omega, weakZ _⟩
    · exact ret_own_lit rfl rfl (by rw [disR, hg, if_pos rfl, ← disO_two, show u = 2 by omega]) rfl
end Go.Proofs.Ytkgnmndgbpnifaa
