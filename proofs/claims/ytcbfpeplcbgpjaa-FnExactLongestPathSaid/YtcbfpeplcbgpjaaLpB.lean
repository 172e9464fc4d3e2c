/- The longest way through a set of states: what the program's function hands back. No condition. -/
import Derived.Test.YtcbfpeplcbgpjaaLpA
import Derived.Test.YtcbfpeplcbgpjaaSrA
import Derived.Test.YtcbfpeplcbgpjaaCpF
import Derived.Test.YtcbfpeplcbgpjaaFull
import Derived.Test.YtcbfpeplcbgpjaaDel
import Derived.Test.YtcbfpeplcbgpjaaRet
set_option linter.unusedSimpArgs false
set_option linter.unusedVariables false
set_option maxHeartbeats 2000000
namespace Go.Proofs.Ytcbfpeplcbgpjaa
open Go.ChangeShapes Go.WideShapes Go.ChangeAt Go.RowKit

theorem mxI_max (a b : Int) : max a b = mxI a b := by unfold mxI; split <;> omega
/-- What is known of the list of the states that were met. -/
def UsedD (used : List Int) (d : D) : Prop := (d = .nil ∧ used = []) ∨ (d = .sh 1 (ints used) ∧ 0 < used.length)
def lfD (E : List ArcD) : D := .agg [.nil, .nil, .sh 4 (E.map dArcD)]
set_option maxHeartbeats 1600000 in
theorem longestFrom_one (E : List ArcD) (set : List Int) (k : Int) (used : List Int) (dU : D) (n : Nat) (hU : UsedD used dU) (hm : E.length ≤ 4000) (hz : used.length ≤ 1000) (hn : n ≤ 1000) (hRec : ∀ x ∈ set, x ∉ used ++ [k] → Fn Try.prog 115 [lfD E, .sh 1 (ints set), .lit (.int .i64 x), .sh 1 (ints (used ++ [k]))] (.lit (.int .i64 (lp E set n x (x :: (used ++ [k]))))) []) :
    Fn Try.prog 115 [lfD E, .sh 1 (ints set), .lit (.int .i64 k), dU] (.lit (.int .i64 (lp E set (n + 1) k (used ++ [k])))) [] := by
  refine Fn_of Try.func115 rfl (by kernel_rfl) rfl rfl ?_
  intro w0 A hin
  have hza := len_dArcD E
  have hzu := len_ints used
  have hlp := fun x => lp_range E set n x (x :: (used ++ [k]))
  have hblA : ∀ i, bigL (lpF E (E.take i) set (used ++ [k]) n k) ≤ n + 1 := fun i => bigL_le (by omega) fun x hx => by
    obtain ⟨a, _, rfl⟩ := List.mem_map.1 hx
    have := hlp a.dst; omega
  rcases hU with ⟨rfl, rfl⟩ | ⟨rfl, hpos⟩
  · simp only [List.nil_append] at hRec hlp hblA
    repeat' (first | refine goZ ?_ | refine R_slice3N tabOk rfl rfl rfl rfl rfl rfl ?_ | refine R_appendOwn tabOk rfl rfl rfl rfl rfl rfl rfl rfl rfl rfl rfl rfl (flat_ints [k]) (by simp) ?_ | ((first | refine R_cond rfl (fun hq => ?_) fun hq => ?_ | refine R_guardT rfl rfl rfl (fun hq => ?_) fun hq => ?_ | refine R_guardF rfl rfl rfl (fun hq => ?_) fun hq => ?_ | refine D_guardT rfl rfl rfl (fun hq => ?_) fun hq => ?_ | refine D_guardF rfl rfl rfl (fun hq => ?_) fun hq => ?_) <;> (try rw [hq]) <;> first | have hp := of_decide_eq_true hq | have hp := of_decide_eq_false hq | have hp := of_decide_eq_false (not_t hq) | have hp := of_decide_eq_true (not_f hq) | have hp := hq))
    refine W_loop (fun i : Nat => ⟨_, [(1, .sh 1 (ints set)), (2, .lit (.int .i64 k)), (3, .own 1), (4, .ptr 0 0), (9, .lit (.int .i64 (bigL (lpF E (E.take i) set [k] n k)))), (22, .sh 4 (E.map dArcD)), (23, .lit (.int .i64 E.length)), (24, .lit (.int .i64 i))], [.cells 46 [.nil, .nil, .sh 4 (E.map dArcD)], .arr 3 1 (ints [k]) true]⟩) (fun i => i ≤ E.length) (fun i => E.length - i) 0 (Nat.zero_le _) (weakZ _) ?_
    intro i hi
    have hbl := hblA i
    have hbg := bigL_ge (lpF E (E.take i) set [k] n k)
    have hlpi := hlp (nth E i).dst
    repeat' (first | refine goZ ?_ | refine R_callZ rfl (Contains_Int_f set _) rfl rfl rfl ?_ | refine R_callZ rfl (Contains_Int_f [k] _) rfl rfl rfl ?_ | refine R_callZ rfl (hRec (nth E i).dst (by assumption) (by assumption)) rfl rfl rfl ?_ | refine R_callvZ rfl (Contains_Int_f set _) rfl rfl rfl rfl ?_ | refine R_callvZ rfl (Contains_Int_f [k] _) rfl rfl rfl rfl ?_ | refine R_callvZ rfl (hRec (nth E i).dst (by assumption) (by assumption)) rfl rfl rfl rfl ?_ | refine D_callZ rfl (Contains_Int_f set _) rfl rfl rfl ?_ | refine D_callZ rfl (Contains_Int_f [k] _) rfl rfl rfl ?_ | refine D_callZ rfl (hRec (nth E i).dst (by assumption) (by assumption)) rfl rfl rfl ?_ | refine D_callxZ rfl (Contains_Int_f [k] _) rfl rfl rfl rfl (by repeat' (first | exact trivial | rfl | refine And.intro ?_ ?_)) ?_ | refine D_callxZ rfl (hRec (nth E i).dst (by assumption) (by assumption)) rfl rfl rfl rfl (by repeat' (first | exact trivial | rfl | refine And.intro ?_ ?_)) ?_ | ((first | refine R_cond rfl (fun hq => ?_) fun hq => ?_ | refine R_guardT rfl rfl rfl (fun hq => ?_) fun hq => ?_ | refine R_guardF rfl rfl rfl (fun hq => ?_) fun hq => ?_ | refine D_guardT rfl rfl rfl (fun hq => ?_) fun hq => ?_ | refine D_guardF rfl rfl rfl (fun hq => ?_) fun hq => ?_) <;> (try rw [hq]) <;> first | have hp := of_decide_eq_true hq | have hp := of_decide_eq_false hq | have hp := of_decide_eq_false (not_t hq) | have hp := of_decide_eq_true (not_f hq) | have hp := hq))
    · have hin : (nth E i).dst ∈ set := by assumption
      have hnm : (nth E i).dst ∉ [k] := by first | assumption | simpa using hq
      have hP : lpP set [k] k (nth E i) = true := by
        have h1 : (nth E i).src = k := by assumption
        simp only [lpP, h1, hin, decide_true, Bool.true_and, Bool.not_eq_true', decide_eq_false_iff_not]; exact hnm
      refine ⟨i + 1, by omega, by omega, ?_⟩
      rw [lpF_yes (by omega) hP, bigL_snoc, ← mxI_max]
      exact weakZ _
    · have hm' : (nth E i).dst ∈ [k] := by first | assumption | simpa using hq
      have hP : lpP set [k] k (nth E i) = false := by simp only [lpP, hm', decide_true, Bool.not_true, Bool.and_false]
      refine ⟨i + 1, by omega, by omega, ?_⟩
      rw [lpF_no (by omega) hP]; exact weakZ _
    · have hP : lpP set [k] k (nth E i) = false := by simp only [lpP, hp, decide_false, Bool.false_and, Bool.and_false]
      refine ⟨i + 1, by omega, by omega, ?_⟩
      rw [lpF_no (by omega) hP]; exact weakZ _
    · have hP : lpP set [k] k (nth E i) = false := by simp only [lpP, hp, decide_false, Bool.false_and]
      refine ⟨i + 1, by omega, by omega, ?_⟩
      rw [lpF_no (by omega) hP]; exact weakZ _
    · refine ret_int' rfl ?_
      rw [List.take_of_length_le (by omega)]; rfl
  · repeat' (first | refine goZ ?_ | refine R_slice3 tabOk rfl rfl rfl rfl rfl rfl rfl (by omega) ?_ | intro b o | refine R_appFull tabOk rfl rfl rfl rfl rfl rfl rfl rfl rfl (flat_ints _) (flat_ints [k]) (by simp) (by simp; omega) ?_ | ((first | refine R_cond rfl (fun hq => ?_) fun hq => ?_ | refine R_guardT rfl rfl rfl (fun hq => ?_) fun hq => ?_ | refine R_guardF rfl rfl rfl (fun hq => ?_) fun hq => ?_ | refine D_guardT rfl rfl rfl (fun hq => ?_) fun hq => ?_ | refine D_guardF rfl rfl rfl (fun hq => ?_) fun hq => ?_) <;> (try rw [hq]) <;> first | have hp := of_decide_eq_true hq | have hp := of_decide_eq_false hq | have hp := of_decide_eq_false (not_t hq) | have hp := of_decide_eq_true (not_f hq) | have hp := hq))
    refine W_loop (fun i : Nat => ⟨_, [(1, .sh 1 (ints set)), (2, .lit (.int .i64 k)), (3, .own 2), (4, .ptr 0 0), (9, .lit (.int .i64 (bigL (lpF E (E.take i) set (used ++ [k]) n k)))), (22, .sh 4 (E.map dArcD)), (23, .lit (.int .i64 E.length)), (24, .lit (.int .i64 i))], [.cells 46 [.nil, .nil, .sh 4 (E.map dArcD)], .arr 3 1 (ints [k]) true, .arr 3 1 (ints (used ++ [k])) true]⟩) (fun i => i ≤ E.length) (fun i => E.length - i) 0 (Nat.zero_le _) (by rw [ints_snoc]; exact weakZ []) ?_
    intro i hi
    have hbl := hblA i
    have hbg := bigL_ge (lpF E (E.take i) set (used ++ [k]) n k)
    have hlpi := hlp (nth E i).dst
    repeat' (first | refine goZ ?_ | refine R_callZ rfl (Contains_Int_f set _) rfl rfl rfl ?_ | refine R_callZ rfl (Contains_Int_f (used ++ [k]) _) rfl rfl rfl ?_ | refine R_callZ rfl (hRec (nth E i).dst (by assumption) (by assumption)) rfl rfl rfl ?_ | refine R_callvZ rfl (Contains_Int_f set _) rfl rfl rfl rfl ?_ | refine R_callvZ rfl (Contains_Int_f (used ++ [k]) _) rfl rfl rfl rfl ?_ | refine R_callvZ rfl (hRec (nth E i).dst (by assumption) (by assumption)) rfl rfl rfl rfl ?_ | refine D_callZ rfl (Contains_Int_f set _) rfl rfl rfl ?_ | refine D_callZ rfl (Contains_Int_f (used ++ [k]) _) rfl rfl rfl ?_ | refine D_callZ rfl (hRec (nth E i).dst (by assumption) (by assumption)) rfl rfl rfl ?_ | refine D_callxZ rfl (Contains_Int_f (used ++ [k]) _) rfl rfl rfl rfl (by repeat' (first | exact trivial | rfl | refine And.intro ?_ ?_)) ?_ | refine D_callxZ rfl (hRec (nth E i).dst (by assumption) (by assumption)) rfl rfl rfl rfl (by repeat' (first | exact trivial | rfl | refine And.intro ?_ ?_)) ?_ | ((first | refine R_cond rfl (fun hq => ?_) fun hq => ?_ | refine R_guardT rfl rfl rfl (fun hq => ?_) fun hq => ?_ | refine R_guardF rfl rfl rfl (fun hq => ?_) fun hq => ?_ | refine D_guardT rfl rfl rfl (fun hq => ?_) fun hq => ?_ | refine D_guardF rfl rfl rfl (fun hq => ?_) fun hq => ?_) <;> (try rw [hq]) <;> first | have hp := of_decide_eq_true hq | have hp := of_decide_eq_false hq | have hp := of_decide_eq_false (not_t hq) | have hp := of_decide_eq_true (not_f hq) | have hp := hq))
    · have hin : (nth E i).dst ∈ set := by assumption
      have hnm : (nth E i).dst ∉ used ++ [k] := by first | assumption | simpa using hq
      have hP : lpP set (used ++ [k]) k (nth E i) = true := by
        have h1 : (nth E i).src = k := by assumption
        simp only [lpP, h1, hin, decide_true, Bool.true_and, Bool.not_eq_true', decide_eq_false_iff_not]; exact hnm
      refine ⟨i + 1, by omega, by omega, ?_⟩
      rw [lpF_yes (by omega) hP, bigL_snoc, ← mxI_max]
      exact weakZ _
    · have hm' : (nth E i).dst ∈ used ++ [k] := by first | assumption | simpa using hq
      have hP : lpP set (used ++ [k]) k (nth E i) = false := by simp only [lpP, hm', decide_true, Bool.not_true, Bool.and_false]
      refine ⟨i + 1, by omega, by omega, ?_⟩
      rw [lpF_no (by omega) hP]; exact weakZ _
    · have hP : lpP set (used ++ [k]) k (nth E i) = false := by simp only [lpP, hp, decide_false, Bool.false_and, Bool.and_false]
      refine ⟨i + 1, by omega, by omega, ?_⟩
      rw [lpF_no (by omega) hP]; exact weakZ _
    · have hP : lpP set (used ++ [k]) k (nth E i) = false := by simp only [lpP, hp, decide_false, Bool.false_and]
      refine ⟨i + 1, by omega, by omega, ?_⟩
      rw [lpF_no (by omega) hP]; exact weakZ _
    · refine ret_int' rfl ?_
      rw [List.take_of_length_le (by omega)]; rfl
theorem longestFrom_f (E : List ArcD) (set : List Int) (hm : E.length ≤ 4000) : ∀ (n : Nat) (k : Int) (used : List Int) (dU : D), UsedD used dU → n ≤ 100 → used.length + n ≤ 200 → restL set (used ++ [k]) ≤ n → Fn Try.prog 115 [lfD E, .sh 1 (ints set), .lit (.int .i64 k), dU] (.lit (.int .i64 (lp E set n k (used ++ [k])))) []
  | 0, k, used, dU, hU, _, hz, hr => by
    have h1 : lp E set 0 k (used ++ [k]) = lp E set (0 + 1) k (used ++ [k]) := by
      simp only [lp]; rw [lp_none (by omega)]; rfl
    rw [h1]
    exact longestFrom_one E set k used dU 0 hU hm (by omega) (by omega) fun x hx hn => absurd (rest_zero (by omega) hx) hn
  | n + 1, k, used, dU, hU, hn, hz, hr => longestFrom_one E set k used dU n hU hm (by omega) (by omega) fun x hx hnm => by
    have h2 := rest_lt hx hnm
    have h3 : ∀ y, y ∈ (used ++ [k]) ++ [x] ↔ y ∈ x :: (used ++ [k]) := fun y => by simp only [List.mem_append, List.mem_cons, List.not_mem_nil, or_false]; exact Or.comm
    rw [lp_same n x fun y => (h3 y).symm]
    exact longestFrom_f E set hm n x (used ++ [k]) _ (Or.inr ⟨rfl, by simp⟩) (by omega) (by simp; omega) (by rw [rest_ext set h3]; omega)

def inS (set : List Int) (a : ArcD) : Bool := decide (a.src ∈ set) && decide (a.dst ∈ set)
theorem lp_in {E : List ArcD} {set : List Int} : ∀ (n : Nat) (k : Int) (met : List Int), k ∈ set → lp (E.filter (inS set)) set n k met = lp E set n k met
  | 0, _, _, _ => rfl
  | n + 1, k, met, hk => by
    simp only [lp]
    rw [List.filter_filter]
    have e : (E.filter fun a => lpP set met k a && inS set a) = E.filter (lpP set met k) := List.filter_congr fun a _ => by
      cases h : lpP set met k a
      · rfl
      · simp only [lpP, Bool.and_eq_true, decide_eq_true_eq] at h
        simp [inS, h.1, hk, h.2.1]
    rw [e]
    congr 1
    refine List.map_congr_left fun a ha => ?_
    have h := (List.mem_filter.1 ha).2
    simp only [lpP, Bool.and_eq_true, decide_eq_true_eq] at h
    rw [lp_in n a.dst (a.dst :: met) h.2.1]
theorem lpV_in (E : List ArcD) (set : List Int) : lpV (E.filter (inS set)) set = lpV E set := by
  unfold lpV
  congr 1
  exact List.map_congr_left fun k hk => lp_in _ _ _ hk
theorem lpV_da {l l' : List ArcD} {set : List Int} (h : l'.Perm l) : lpV (daL l') set = lpV l set := by
  obtain ⟨h1, h2⟩ := da_mem l' l'.length (Nat.le_refl _)
  refine lpV_ext fun s d => ⟨?_, ?_⟩
  · rintro ⟨a, ha, e1, e2⟩; exact ⟨a, h.mem_iff.1 (h1 a ha), e1, e2⟩
  · rintro ⟨a, ha, e1, e2⟩
    obtain ⟨j, hj, rfl⟩ := List.getElem_of_mem (h.mem_iff.2 ha)
    obtain ⟨x, hx, he⟩ := h2 j hj
    rw [eqA_iff, nth_get hj] at he
    exact ⟨x, hx, he.1.symm.trans e1, he.2.symm.trans e2⟩
theorem outside_f (set : List Int) (a : ArcD) : Fn Try.prog 110 [.agg (dArcD a), .sptr [.sh 1 (ints set)]] (.lit (.bool (!inS set a))) [] := by
  refine Fn_of Try.func110 rfl (by kernel_rfl) rfl rfl ?_
  intro w0 A hin
  repeat' (first | refine goZ ?_ | refine R_callZ rfl (Contains_Int_f set _) rfl rfl rfl ?_ | refine R_callvZ rfl (Contains_Int_f set _) rfl rfl rfl rfl ?_ | refine D_callZ rfl (Contains_Int_f set _) rfl rfl rfl ?_ | ((first | refine R_cond rfl (fun hq => ?_) fun hq => ?_ | refine R_guardT rfl rfl rfl (fun hq => ?_) fun hq => ?_ | refine R_guardF rfl rfl rfl (fun hq => ?_) fun hq => ?_ | refine D_guardT rfl rfl rfl (fun hq => ?_) fun hq => ?_ | refine D_guardF rfl rfl rfl (fun hq => ?_) fun hq => ?_) <;> (try rw [hq]) <;> first | have hp := of_decide_eq_true hq | have hp := of_decide_eq_false hq | have hp := of_decide_eq_false (not_t hq) | have hp := of_decide_eq_true (not_f hq) | have hp := hq))
  all_goals exact ret_bool' rfl (by simp_all [inS])
theorem arc_okA {c : SGraph} (h : goodSG c = true) : ∀ a ∈ c.arcs, ArcOk a := fun a ha => by
  have hb := goodSG_len h
  have h1 : EndsOk c := by
    have h' := h
    simp only [goodSG, sgB, Bool.and_eq_true] at h'
    exact ends_of h'.1.2.2
  have h2 := h1 (a.src, a.dst) (by unfold arcE; exact List.mem_map.2 ⟨a, ha, rfl⟩)
  have h3 : -1 ≤ a.sig ∧ a.sig ≤ 1000 := by
    have h' := h
    simp only [goodSG, sgB, sgA, sigsB, Bool.and_eq_true, decide_eq_true_eq] at h'
    have h4 := List.all_eq_true.1 h'.1.2.2 a ha
    simp only [arcB, labB, Bool.and_eq_true, Bool.or_eq_true, decide_eq_true_eq] at h4
    omega
  simp only at h2
  exact ⟨by omega, by omega, h3⟩

set_option maxHeartbeats 4000000 in
theorem LongestPath_f (c : SGraph) (set : List Int) : Fn Try.prog 40 [.agg (dSGraph c), .sh 1 (ints set)] (.tup [.lit (.int .i64 (lpR c set)), .lit (.bool (lpB c set))]) [] := by
  refine Fn_of Try.func40 rfl (by kernel_rfl) rfl rfl ?_
  intro w0 A hin
  have hz := len_ints set
  have hfl : ∀ l : List ArcD, Flat (l.map dArcD) := fun l => flat_map (by simp [dArcD, isLit])
  have hV := isStateSet_f c set
  cases hg : setQ c set <;> rw [hg] at hV
  · repeat' (first | refine goZ ?_ | refine R_callZ rfl (hV) rfl rfl rfl ?_ | refine R_callvZ rfl (hV) rfl rfl rfl rfl ?_ | refine D_callZ rfl (hV) rfl rfl rfl ?_ | ((first | refine R_cond rfl (fun hq => ?_) fun hq => ?_ | refine R_guardT rfl rfl rfl (fun hq => ?_) fun hq => ?_ | refine R_guardF rfl rfl rfl (fun hq => ?_) fun hq => ?_ | refine D_guardT rfl rfl rfl (fun hq => ?_) fun hq => ?_ | refine D_guardF rfl rfl rfl (fun hq => ?_) fun hq => ?_) <;> (try rw [hq]) <;> first | have hp := of_decide_eq_true hq | have hp := of_decide_eq_false hq | have hp := of_decide_eq_false (not_t hq) | have hp := of_decide_eq_true (not_f hq) | have hp := hq))
    all_goals exact ret_lit2 rfl (by simp [lpR, lpB, hg]) (by simp [lpB, hg])
  · have hsg : goodSG c = true := by simp only [setQ, Bool.and_eq_true] at hg; exact hg.1
    have hb := goodSG_len hsg
    have hfil : (c.arcs.filter fun x => !!inS set x) = c.arcs.filter (inS set) := by simp
    have hfi : (c.arcs.filter (inS set)).length ≤ c.arcs.length := List.length_filter_le _ _
    have hD := DeleteFunc_ArcD_m c.arcs (fun a => !inS set a) 110 [.sh 1 (ints set)] (by omega) fun a _ => outside_f set a
    rw [hfil] at hD
    have hcl := Clone_ArcD_f c.arcs (by omega)
    repeat' (first | refine goZ ?_ | refine R_callZ rfl (hV) rfl rfl rfl ?_ | refine R_callZ rfl (hcl) rfl rfl rfl ?_ | refine R_callvZ rfl (hV) rfl rfl rfl rfl ?_ | refine R_callvZ rfl (hcl) rfl rfl rfl rfl ?_ | refine R_sortL rfl rfl rfl rfl (by omega) (fun x hx => arc_okA hsg x (List.mem_filter.1 hx).1) rfl ?_ | refine R_callM rfl (hD) rfl rfl rfl rfl rfl rfl rfl rfl (by first | exact hfl _ | exact flat_ints _) ?_ | refine D_callZ rfl (hV) rfl rfl rfl ?_ | refine D_callZ rfl (hcl) rfl rfl rfl ?_ | ((first | refine R_cond rfl (fun hq => ?_) fun hq => ?_ | refine R_guardT rfl rfl rfl (fun hq => ?_) fun hq => ?_ | refine R_guardF rfl rfl rfl (fun hq => ?_) fun hq => ?_ | refine D_guardT rfl rfl rfl (fun hq => ?_) fun hq => ?_ | refine D_guardF rfl rfl rfl (fun hq => ?_) fun hq => ?_) <;> (try rw [hq]) <;> first | have hp := of_decide_eq_true hq | have hp := of_decide_eq_false hq | have hp := of_decide_eq_false (not_t hq) | have hp := of_decide_eq_true (not_f hq) | have hp := hq))
    · have h8 : lpB c set = false := by simp only [lpB, hg, Bool.true_and, decide_eq_false_iff_not]; omega
      exact ret_lit2 rfl (by rw [lpR, h8]; rfl) (by rw [h8])
    intro l' hp'
    simp only [List.set_cons_succ, List.set_cons_zero]
    have hl' := hp'.length_eq
    have hC := CompactFunc_m l' (by omega)
    have hdl : (daL l').length ≤ l'.length := daN_len l' l'.length
    have hval : lpV (daL l') set = lpV c.arcs set := (lpV_da hp').trans (lpV_in c.arcs set)
    repeat' (first | refine goZ ?_ | refine R_callZ rfl (hV) rfl rfl rfl ?_ | refine R_callvZ rfl (hV) rfl rfl rfl rfl ?_ | refine R_callM rfl (hC) rfl rfl rfl rfl rfl rfl rfl rfl (by first | exact hfl _ | exact flat_ints _) ?_ | refine D_callZ rfl (hV) rfl rfl rfl ?_ | ((first | refine R_cond rfl (fun hq => ?_) fun hq => ?_ | refine R_guardT rfl rfl rfl (fun hq => ?_) fun hq => ?_ | refine R_guardF rfl rfl rfl (fun hq => ?_) fun hq => ?_ | refine D_guardT rfl rfl rfl (fun hq => ?_) fun hq => ?_ | refine D_guardF rfl rfl rfl (fun hq => ?_) fun hq => ?_) <;> (try rw [hq]) <;> first | have hp := of_decide_eq_true hq | have hp := of_decide_eq_false hq | have hp := of_decide_eq_false (not_t hq) | have hp := of_decide_eq_true (not_f hq) | have hp := hq))
    have h8 : set.length ≤ 8 := by omega
    have hB : lpB c set = true := by simp [lpB, hg, h8]
    refine W_loop (fun i : Nat => ⟨_, [(3, .ptr 1 0), (6, .ptr 4 0), (7, .lit (.int .i64 (bigL ((set.take i).map fun k => lp (daL l') set set.length k [k])))), (32, .sh 1 (ints set)), (33, .lit (.int .i64 set.length)), (34, .lit (.int .i64 i))], [.cells 46 (dSGraph c), .cells 78 [.sh 1 (ints set)], .gone, .gone, .cells 46 [.nil, .nil, .own 5], .arr 148 4 ((daL l').map dArcD) true]⟩) (fun i => i ≤ set.length) (fun i => set.length - i) 0 (Nat.zero_le _) (weakZ []) ?_
    intro i hi
    have hrec := fun h => longestFrom_f (daL l') set (by omega) set.length (nth set i) [] .nil (Or.inl ⟨rfl, rfl⟩) (by omega) (by simp; omega) h
    simp only [List.nil_append] at hrec
    have hrs : i < set.length → restL set [nth set i] ≤ set.length := fun h => by have := rest_one set (nth set i) (nth_mem h); omega
    repeat' (first | refine goZ ?_ | refine R_callZ rfl (hV) rfl rfl rfl ?_ | refine R_callZ rfl (hrec (hrs (by omega))) rfl rfl rfl ?_ | refine R_callvZ rfl (hV) rfl rfl rfl rfl ?_ | refine R_callvZ rfl (hrec (hrs (by omega))) rfl rfl rfl rfl ?_ | refine D_callZ rfl (hV) rfl rfl rfl ?_ | refine D_callZ rfl (hrec (hrs (by omega))) rfl rfl rfl ?_ | ((first | refine R_cond rfl (fun hq => ?_) fun hq => ?_ | refine R_guardT rfl rfl rfl (fun hq => ?_) fun hq => ?_ | refine R_guardF rfl rfl rfl (fun hq => ?_) fun hq => ?_ | refine D_guardT rfl rfl rfl (fun hq => ?_) fun hq => ?_ | refine D_guardF rfl rfl rfl (fun hq => ?_) fun hq => ?_) <;> (try rw [hq]) <;> first | have hp := of_decide_eq_true hq | have hp := of_decide_eq_false hq | have hp := of_decide_eq_false (not_t hq) | have hp := of_decide_eq_true (not_f hq) | have hp := hq))
    · refine ⟨i + 1, by omega, by omega, ?_⟩
      rw [take_nth (by omega), List.map_append, List.map_cons, List.map_nil, bigL_snoc, ← mxI_max]
      exact weakZ _
    · exact ret_lit2 rfl (by rw [lpR, hB, if_pos rfl, ← hval, lpV, List.take_of_length_le (by omega)]) (by rw [hB])
end Go.Proofs.Ytcbfpeplcbgpjaa
