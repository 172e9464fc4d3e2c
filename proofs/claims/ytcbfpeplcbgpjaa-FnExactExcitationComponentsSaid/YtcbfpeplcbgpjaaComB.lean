/- Sets of states in groups that hang together: what the program's function hands back. No condition. -/
import Derived.Test.YtcbfpeplcbgpjaaComA
import Derived.Test.YtcbfpeplcbgpjaaAli
import Derived.Test.YtcbfpeplcbgpjaaDel
set_option linter.unusedSimpArgs false
set_option linter.unusedVariables false
set_option maxHeartbeats 2000000
namespace Go.Proofs.Ytcbfpeplcbgpjaa
open Go.ChangeShapes Go.WideShapes Go.ChangeAt Go.RowKit

theorem compIn_f (part : List Int) (k : Int) : Fn Try.prog 139 [.lit (.int .i64 k), .sptr [.sh 1 (ints part)]] (.lit (.bool (decide (k ∈ part)))) [] := by
  refine Fn_of Try.func139 rfl (by kernel_rfl) rfl rfl ?_
  intro w0 A hin
  repeat' (first | refine goZ ?_ | refine R_callZ rfl (Contains_Int_f _ _) rfl rfl rfl ?_ | refine R_callvZ rfl (Contains_Int_f _ _) rfl rfl rfl rfl ?_ | refine D_callZ rfl (Contains_Int_f _ _) rfl rfl rfl ?_ | ((first | refine R_cond rfl (fun hq => ?_) fun hq => ?_ | refine R_guardT rfl rfl rfl (fun hq => ?_) fun hq => ?_ | refine R_guardF rfl rfl rfl (fun hq => ?_) fun hq => ?_ | refine D_guardT rfl rfl rfl (fun hq => ?_) fun hq => ?_ | refine D_guardF rfl rfl rfl (fun hq => ?_) fun hq => ?_) <;> (try rw [hq]) <;> first | have hp := of_decide_eq_true hq | have hp := of_decide_eq_false hq | have hp := of_decide_eq_false (not_t hq) | have hp := of_decide_eq_true (not_f hq) | have hp := hq))
  exact ret_bool' rfl rfl
/-- The two ways along an arc. -/
def waysL (a : ArcD) : List (Int × Int) := [(a.src, a.dst), (a.dst, a.src)]
def dW (p : Int × Int) : List D := [.lit (.int .i64 p.1), .lit (.int .i64 p.2)]
abbrev wayA (a : ArcD) (j : Nat) : Int × Int := nth (waysL a) j
theorem way_0 (a : ArcD) : nth (waysL a) 0 = (a.src, a.dst) := rfl
theorem way_1 (a : ArcD) : nth (waysL a) 1 = (a.dst, a.src) := rfl
/-- What is done of the state x: the arcs l, and of one arc more the first j ways. -/
def Part (set part : List Int) (x : Int) (a : ArcD) (j : Nat) : Prop := ∀ q, q < j → (wayA a q).1 = x → (wayA a q).2 ∈ set → (wayA a q).2 ∈ part
theorem part_done {set part : List Int} {x : Int} {l : List ArcD} {a : ArcD} (h : Done set part x l) (h2 : Part set part x a 2) : Done set part x (l ++ [a]) := by
  intro b hb
  rcases List.mem_append.1 hb with hb | hb
  · exact h b hb
  · simp at hb; subst hb
    have h3 := h2 0 (by omega); have h4 := h2 1 (by omega)
    simp only [wayA, way_0, way_1] at h3 h4
    exact ⟨h3, h4⟩
theorem part_no {set part : List Int} {x : Int} {a : ArcD} {j : Nat} (h : Part set part x a j) (hn : (wayA a j).1 = x → (wayA a j).2 ∈ set → (wayA a j).2 ∈ part) : Part set part x a (j + 1) := by
  intro q hq e1 e2
  by_cases e : q = j
  · subst e; exact hn e1 e2
  · exact h q (by omega) e1 e2
theorem part_more {set part part' : List Int} {x : Int} {a : ArcD} {j : Nat} (h : Part set part x a j) (hp : ∀ y ∈ part, y ∈ part') : Part set part' x a j := fun q hq e1 e2 => hp _ (h q hq e1 e2)
theorem way_ed {E : List ArcD} {set : List Int} {a : ArcD} {j : Nat} (hj : j < 2) (ha : a ∈ E) (h1 : (wayA a j).1 ∈ set) (h2 : (wayA a j).2 ∈ set) : ((wayA a j).1, (wayA a j).2) ∈ edC E set := by
  match j, hj with
  | 0, _ => exact edC_mem.2 ⟨⟨h1, h2⟩, a, ha, Or.inl ⟨rfl, rfl⟩⟩
  | 1, _ => exact edC_mem.2 ⟨⟨h1, h2⟩, a, ha, Or.inr ⟨rfl, rfl⟩⟩
theorem srch_tidy {E : List ArcD} {set : List Int} {k : Int} {part : List Int} {t : Nat} (h : Srch E set k part t) (ht : ¬ t < part.length) (hs : Inc set) : tidyL part = grpL E set k := by
  refine inc_ext (tidyL_inc _) (List.Pairwise.sublist List.filter_sublist hs) fun x => ?_
  rw [tidyL_mem, srch_end h ht, grpL, List.mem_filter, conB_iff]
theorem srch_tlen {E : List ArcD} {set : List Int} {k : Int} {part : List Int} {t : Nat} (h : Srch E set k part t) : (tidyL part).length = part.length := by
  have h1 := tidyL_len part
  have h2 := sub_len h.nodup (s := tidyL part) fun x hx => (tidyL_mem part x).2 hx
  omega

set_option maxHeartbeats 1600000 in
theorem components_f (c : SGraph) (set : List Int) (hm : c.arcs.length ≤ 4000) (hs : set.length ≤ 4000) (hi : Inc set) : Fn Try.prog 62 [.agg (dSGraph c), .sh 1 (ints set)] (.own 0) [.arr 78 1 ((grpsL c.arcs set set).map dII) true] := by
  refine Fn_of Try.func62 rfl (by kernel_rfl) rfl rfl ?_
  intro w0 A hin
  have hz2 := len_dArcD c.arcs
  have hz3 := len_ints set
  repeat' (first | refine goZ ?_ | refine R_callZ rfl (Clone_Int_f set (by omega)) rfl rfl rfl ?_ | refine R_callvZ rfl (Clone_Int_f set (by omega)) rfl rfl rfl rfl ?_ | refine D_callZ rfl (Clone_Int_f set (by omega)) rfl rfl rfl ?_ | ((first | refine R_cond rfl (fun hq => ?_) fun hq => ?_ | refine R_guardT rfl rfl rfl (fun hq => ?_) fun hq => ?_ | refine R_guardF rfl rfl rfl (fun hq => ?_) fun hq => ?_ | refine D_guardT rfl rfl rfl (fun hq => ?_) fun hq => ?_ | refine D_guardF rfl rfl rfl (fun hq => ?_) fun hq => ?_) <;> (try rw [hq]) <;> first | have hp := of_decide_eq_true hq | have hp := of_decide_eq_false hq | have hp := of_decide_eq_false (not_t hq) | have hp := of_decide_eq_true (not_f hq) | have hp := hq))
  refine W_loop (fun x : List (List Int) × List Int => ⟨_, [(1, .sh 1 (ints set)), (2, .ptr 0 0), (5, .own 1), (6, .own 2)], [.cells 46 (dSGraph c), .arr 78 1 (x.1.map dII) true, .arr 3 1 (ints x.2) true]⟩) (fun x => (Closed c.arcs set x.2 ∧ Inc x.2) ∧ x.1 ++ grpsL c.arcs set x.2 = grpsL c.arcs set set) (fun x => x.2.length) ([], set) ⟨⟨closed_all _ _, hi⟩, rfl⟩ (weakZ []) ?_
  rintro ⟨D0, l⟩ ⟨⟨hcl, hil⟩, hD⟩
  dsimp only at hcl hil hD ⊢
  have hz4 := len_ints l
  have hll : l.length ≤ set.length := sub_len (List.Pairwise.imp (fun {a b} h => Int.ne_of_lt h) hil) hcl.1
  have hzD : (D0.map dII).length = D0.length := List.length_map _
  have hlD : D0.length ≤ set.length := by
    have h1 := congrArg List.length hD
    rw [List.length_append] at h1
    have := grps_len c.arcs set set
    omega
  repeat' (first | refine goZ ?_ | ((first | refine R_cond rfl (fun hq => ?_) fun hq => ?_ | refine R_guardT rfl rfl rfl (fun hq => ?_) fun hq => ?_ | refine R_guardF rfl rfl rfl (fun hq => ?_) fun hq => ?_ | refine D_guardT rfl rfl rfl (fun hq => ?_) fun hq => ?_ | refine D_guardF rfl rfl rfl (fun hq => ?_) fun hq => ?_) <;> (try rw [hq]) <;> first | have hp := of_decide_eq_true hq | have hp := of_decide_eq_false hq | have hp := of_decide_eq_false (not_t hq) | have hp := of_decide_eq_true (not_f hq) | have hp := hq))
  · have hl0 : 0 < l.length := by omega
    have hk : nth l 0 ∈ set := hcl.1 _ (nth_mem hl0)
    refine W_loop (fun x : List Int × Nat => ⟨_, [(1, .sh 1 (ints set)), (2, .ptr 0 0), (5, .own 1), (6, .own 2), (7, .ptr 4 0), (8, .lit (.int .i64 x.2))], [.cells 46 (dSGraph c), .arr 78 1 (D0.map dII) true, .arr 3 1 (ints l) true, .arr 3 1 (ints x.1) true, .cells 78 [.own 3]]⟩) (fun x => Srch c.arcs set (nth l 0) x.1 x.2) (fun x => set.length - x.2) ([nth l 0], 0) (srch_start hk) (weakZ []) ?_
    rintro ⟨part, t⟩ hS
    dsimp only at hS ⊢
    have hz5 := len_ints part
    have hpl := srch_len hS
    have hle := hS.le
    repeat' (first | refine goZ ?_ | ((first | refine R_cond rfl (fun hq => ?_) fun hq => ?_ | refine R_guardT rfl rfl rfl (fun hq => ?_) fun hq => ?_ | refine R_guardF rfl rfl rfl (fun hq => ?_) fun hq => ?_ | refine D_guardT rfl rfl rfl (fun hq => ?_) fun hq => ?_ | refine D_guardF rfl rfl rfl (fun hq => ?_) fun hq => ?_) <;> (try rw [hq]) <;> first | have hp := of_decide_eq_true hq | have hp := of_decide_eq_false hq | have hp := of_decide_eq_false (not_t hq) | have hp := of_decide_eq_true (not_f hq) | have hp := hq))
    · -- the arcs
      refine W_loop (fun x : List Int × Nat => ⟨_, [(1, .sh 1 (ints set)), (2, .ptr 0 0), (5, .own 1), (6, .own 2), (7, .ptr 4 0), (8, .lit (.int .i64 t)), (30, .sh 4 (c.arcs.map dArcD)), (31, .lit (.int .i64 c.arcs.length)), (32, .lit (.int .i64 x.2))], [.cells 46 (dSGraph c), .arr 78 1 (D0.map dII) true, .arr 3 1 (ints l) true, .arr 3 1 (ints x.1) true, .cells 78 [.own 3]]⟩) (fun x => ((Srch c.arcs set (nth l 0) x.1 t ∧ t < x.1.length) ∧ x.2 ≤ c.arcs.length) ∧ Done set x.1 (nth x.1 t) (c.arcs.take x.2)) (fun x => c.arcs.length - x.2) (part, 0) ⟨⟨⟨hS, by simp only; omega⟩, Nat.zero_le _⟩, fun a ha => by simp at ha⟩ (weakZ []) ?_
      clear hz5 hpl hle
      rintro ⟨part, i⟩ ⟨⟨⟨hS, ht⟩, hi2⟩, hDn⟩
      dsimp only at hS ht hi2 hDn ⊢
      have hz5 := len_ints part
      have hpl := srch_len hS
      repeat' (first | refine goZ ?_ | ((first | refine R_cond rfl (fun hq => ?_) fun hq => ?_ | refine R_guardT rfl rfl rfl (fun hq => ?_) fun hq => ?_ | refine R_guardF rfl rfl rfl (fun hq => ?_) fun hq => ?_ | refine D_guardT rfl rfl rfl (fun hq => ?_) fun hq => ?_ | refine D_guardF rfl rfl rfl (fun hq => ?_) fun hq => ?_) <;> (try rw [hq]) <;> first | have hp := of_decide_eq_true hq | have hp := of_decide_eq_false hq | have hp := of_decide_eq_false (not_t hq) | have hp := of_decide_eq_true (not_f hq) | have hp := hq))
      · refine W_loop (fun x : List Int × Nat => ⟨_, [(1, .sh 1 (ints set)), (2, .ptr 0 0), (5, .own 1), (6, .own 2), (7, .ptr 4 0), (8, .lit (.int .i64 t)), (30, .sh 4 (c.arcs.map dArcD)), (31, .lit (.int .i64 c.arcs.length)), (32, .lit (.int .i64 i)), (46, .own 6), (47, .lit (.int .i64 2)), (48, .lit (.int .i64 x.2))], [.cells 46 (dSGraph c), .arr 78 1 (D0.map dII) true, .arr 3 1 (ints l) true, .arr 3 1 (ints x.1) true, .cells 78 [.own 3]] ++ [.cells 148 (dArcD (nth c.arcs i)), .arr 171 2 ((waysL (nth c.arcs i)).map dW) true]⟩) (fun x => ((Srch c.arcs set (nth l 0) x.1 t ∧ t < x.1.length) ∧ x.2 ≤ 2) ∧ Done set x.1 (nth x.1 t) (c.arcs.take i) ∧ Part set x.1 (nth x.1 t) (nth c.arcs i) x.2) (fun x => 2 - x.2) (part, 0) ⟨⟨⟨hS, ht⟩, by simp only; omega⟩, hDn, fun q hq => by omega⟩ (weakZ []) ?_
        rintro ⟨part, j⟩ ⟨⟨⟨hS, ht⟩, hj⟩, hDn, hP⟩
        dsimp only at hS ht hj hDn hP ⊢
        have hz5 := len_ints part
        have hpl := srch_len hS
        have hzw : ((waysL (nth c.arcs i)).map dW).length = 2 := rfl
        have hzw2 : (waysL (nth c.arcs i)).length = 2 := rfl
        repeat' (first | refine goZ ?_ | refine R_callZ rfl (Contains_Int_f _ _) rfl rfl rfl ?_ | refine R_callvZ rfl (Contains_Int_f _ _) rfl rfl rfl rfl ?_ | refine D_callZ rfl (Contains_Int_f _ _) rfl rfl rfl ?_ | refine D_callxZ rfl (Contains_Int_f part _) rfl rfl rfl rfl (by repeat' (first | exact trivial | rfl | refine And.intro ?_ ?_)) ?_ | ((first | refine R_cond rfl (fun hq => ?_) fun hq => ?_ | refine R_guardT rfl rfl rfl (fun hq => ?_) fun hq => ?_ | refine R_guardF rfl rfl rfl (fun hq => ?_) fun hq => ?_ | refine D_guardT rfl rfl rfl (fun hq => ?_) fun hq => ?_ | refine D_guardF rfl rfl rfl (fun hq => ?_) fun hq => ?_) <;> (try rw [hq]) <;> first | have hp := of_decide_eq_true hq | have hp := of_decide_eq_false hq | have hp := of_decide_eq_false (not_t hq) | have hp := of_decide_eq_true (not_f hq) | have hp := hq))
        · have h1 : (wayA (nth c.arcs i) j).1 = nth part t := by assumption
          have h2 : (wayA (nth c.arcs i) j).2 ∈ set := by assumption
          have h3 : (wayA (nth c.arcs i) j).2 ∉ part := by first | assumption | simpa using hq
          have hed := way_ed (set := set) (show j < 2 by omega) (nth_mem (show i < c.arcs.length by omega)) (by rw [h1]; exact (hS.ok _ (nth_mem ht)).1) h2
          rw [h1] at hed
          have hsub : ∀ z ∈ part, z ∈ part ++ [(wayA (nth c.arcs i) j).2] := fun z hz => List.mem_append_left _ hz
          refine ⟨(part ++ [(wayA (nth c.arcs i) j).2], j + 1), ⟨⟨⟨srch_push hS ht hed h3, by simp only [List.length_append]; omega⟩, by simp only; omega⟩, ?_, ?_⟩, by simp only; omega, ?_⟩
          · simp only; rw [nth_app_left ht]; exact hDn.more hsub
          · simp only; rw [nth_app_left ht]; exact part_no (part_more hP hsub) fun _ _ => by simp
          · simp only [ints_snoc]; exact weakZ _
        · exact ⟨(part, j + 1), ⟨⟨⟨hS, ht⟩, by simp only; omega⟩, hDn, part_no hP fun _ _ => by first | assumption | (simpa using hq)⟩, by simp only; omega, weakZ _⟩
        · exact ⟨(part, j + 1), ⟨⟨⟨hS, ht⟩, by simp only; omega⟩, hDn, part_no hP fun _ h => absurd h hp⟩, by simp only; omega, weakZ _⟩
        · exact ⟨(part, j + 1), ⟨⟨⟨hS, ht⟩, by simp only; omega⟩, hDn, part_no hP fun h _ => absurd h hp⟩, by simp only; omega, weakZ _⟩
        · refine ⟨(part, i + 1), ⟨⟨⟨hS, ht⟩, by simp only; omega⟩, ?_⟩, by simp only; omega, weakZ _⟩
          simp only
          rw [take_nth (by omega)]
          have ej : j = 2 := by omega
          subst ej
          exact part_done hDn hP
      · refine ⟨(part, t + 1), srch_next hS ht ?_, ?_, weakZ _⟩
        · rwa [List.take_of_length_le (by omega)] at hDn
        · simp only; omega
    · have ht : ¬ t < part.length := by omega
      have htl := srch_tlen hS
      have htd := srch_tidy hS ht hi
      have hI := tidy_I part (by omega) htl
      have hcut : ∀ x ∈ l, decide (x ∈ tidyL part) = conB c.arcs set (nth l 0) x := fun x hx => by
        rw [Bool.eq_iff_iff, decide_eq_true_eq, tidyL_mem, srch_end hS ht, conB_iff]
        exact ⟨fun h => h.2, fun h => ⟨hcl.1 x hx, h⟩⟩
      have hDl := DeleteFunc_Int_m l (fun x => decide (x ∈ tidyL part)) 139 [.sh 1 (ints (tidyL part))] (by omega) fun x _ => compIn_f (tidyL part) x
      repeat' (first | refine WO_freeze 3 4 81 rfl rfl rfl rfl rfl rfl rfl ?_ | refine go1 ?_ | refine R_inpSame rfl hI rfl rfl rfl rfl ?_ | refine R_appendRowF tabOk rfl rfl rfl rfl rfl rfl rfl rfl rfl rfl rfl rfl rfl rfl rfl (by omega) ?_ | refine R_callM rfl (hDl) rfl rfl rfl rfl rfl rfl rfl rfl (by first | exact hfl _ | exact flat_ints _) ?_ | ((first | refine R_cond rfl (fun hq => ?_) fun hq => ?_ | refine R_guardT rfl rfl rfl (fun hq => ?_) fun hq => ?_ | refine R_guardF rfl rfl rfl (fun hq => ?_) fun hq => ?_ | refine D_guardT rfl rfl rfl (fun hq => ?_) fun hq => ?_ | refine D_guardF rfl rfl rfl (fun hq => ?_) fun hq => ?_) <;> (try rw [hq]) <;> first | have hp := of_decide_eq_true hq | have hp := of_decide_eq_false hq | have hp := of_decide_eq_false (not_t hq) | have hp := of_decide_eq_true (not_f hq) | have hp := hq))
      have ef : (l.filter fun x => !decide (x ∈ tidyL part)) = l.filter fun x => !conB c.arcs set (nth l 0) x := List.filter_congr fun x hx => by rw [hcut x hx]
      obtain ⟨k0, r0, el⟩ : ∃ k0 r0, l = k0 :: r0 := by
        cases l with
        | nil => simp at hl0
        | cons k0 r0 => exact ⟨k0, r0, rfl⟩
      have ek : nth l 0 = k0 := by rw [el]; rfl
      refine ⟨(D0 ++ [tidyL part], l.filter fun x => !decide (x ∈ tidyL part)), ⟨⟨?_, ?_⟩, ?_⟩, ?_, ?_⟩
      · simp only; rw [ef]; exact closed_less hcl
      · exact List.Pairwise.sublist List.filter_sublist hil
      · simp only
        rw [ef, htd, ek, List.append_assoc, ← hD, el, grps_next (by rw [← el]; exact hil) (by rw [← el]; exact hcl)]
        rfl
      · simp only
        rw [ef, List.length_filter_lt_length_iff_exists]
        exact ⟨nth l 0, nth_mem hl0, by rw [conB_iff.2 Con.refl]; simp⟩
      · simp only [List.map_append, List.map_cons, List.map_nil]
        refine Weak_ren [some 0, some 1, some 6] rfl rfl ?_ ?_ <;> (repeat' (first | exact trivial | rfl | refine And.intro ?_ ?_ | (simp [St.get, look, ints, strs, bools]; done))) <;> done
  · refine ret_own rfl rfl ?_
    have : l = [] := List.length_eq_zero_iff.1 (by omega)
    rw [← hD, this]; simp [grpsL]
end Go.Proofs.Ytcbfpeplcbgpjaa
