/- Sets of states in groups that hang together: what the reference's function hands back. No condition. -/
import Derived.Test.YtcbfpeplcbgpjaaCmP
import Derived.Test.YtcbfpeplcbgpjaaPairs
import Derived.Test.YtcbfpeplcbgpjaaSgc
set_option linter.unusedSimpArgs false
set_option linter.unusedVariables false
set_option maxHeartbeats 2000000
namespace Go.Proofs.Ytcbfpeplcbgpjaa
open Go.ChangeShapes Go.WideShapes Go.ChangeAt Go.RowKit

theorem l1Min_f (a b : Int) : Fn Try.prog 130 [.lit (.int .i64 a), .lit (.int .i64 b)] (.lit (.int .i64 (min a b))) [] := by
  refine Fn_of Try.func130 rfl (by kernel_rfl) rfl rfl ?_
  intro w0 A hin
  repeat' (first | refine goZ ?_ | ((first | refine R_cond rfl (fun hq => ?_) fun hq => ?_ | refine R_guardT rfl rfl rfl (fun hq => ?_) fun hq => ?_ | refine R_guardF rfl rfl rfl (fun hq => ?_) fun hq => ?_ | refine D_guardT rfl rfl rfl (fun hq => ?_) fun hq => ?_ | refine D_guardF rfl rfl rfl (fun hq => ?_) fun hq => ?_) <;> (try rw [hq]) <;> first | have hp := of_decide_eq_true hq | have hp := of_decide_eq_false hq | have hp := of_decide_eq_false (not_t hq) | have hp := of_decide_eq_true (not_f hq) | have hp := hq))
  · exact ret_int' rfl (by omega)
  · exact ret_int' rfl (by omega)
theorem arc_ends {c : SGraph} (hE : EndsOk c) {a : ArcD} (ha : a ∈ c.arcs) : (0 ≤ a.src ∧ a.src < c.codes.length) ∧ 0 ≤ a.dst ∧ a.dst < c.codes.length :=
  hE (a.src, a.dst) (by unfold arcE; exact List.mem_map.2 ⟨a, ha, rfl⟩)
theorem ints_repl (n : Nat) : List.replicate n ([.lit (.int .i64 0)] : List D) = ints (List.replicate n 0) := by simp [ints]
/-- What a round of the reference does to the numbers. -/
theorem sweep_set {c : SGraph} {set : List Int} {f0 : Int → Int} {o : List Int} {i : Nat} (hn : ∀ x ∈ set, 0 ≤ x ∧ x < (c.codes.length : Int)) (ho : o.length = c.codes.length) (h : Sweep c.arcs set f0 (atI o) (c.arcs.take i)) (hi : i < c.arcs.length) (h1 : (nth c.arcs i).src ∈ set) (h2 : (nth c.arcs i).dst ∈ set) :
    Sweep c.arcs set f0 (atI ((o.set (nth c.arcs i).src.toNat (min (nth o (nth c.arcs i).src.toNat) (nth o (nth c.arcs i).dst.toNat))).set (nth c.arcs i).dst.toNat (min (nth o (nth c.arcs i).src.toNat) (nth o (nth c.arcs i).dst.toNat)))) (c.arcs.take (i + 1)) := by
  rw [take_nth hi]
  have b1 := hn _ h1; have b2 := hn _ h2
  refine sweep_yes h (nth_mem hi) h1 h2 (v := min (nth o (nth c.arcs i).src.toNat) (nth o (nth c.arcs i).dst.toNat)) ?_ fun x hx => ?_
  · simp only [atI]; omega
  · have bx := hn x hx
    rw [atI_set (by simp; omega) bx.1, atI_set (by omega) bx.1]
theorem gat_yes {f : Int → Int} {l : List Int} {j : Nat} {k : Int} (hj : j < l.length) (h1 : f k = k) (h2 : f (nth l j) = k) : gatL f (l.take (j + 1)) k = gatL f (l.take j) k ++ [nth l j] := by
  unfold gatL; exact fil_yes hj (by simp [h1, h2])
theorem gat_no {f : Int → Int} {l : List Int} {j : Nat} {k : Int} (hj : j < l.length) (h : ¬ (f k = k ∧ f (nth l j) = k)) : gatL f (l.take (j + 1)) k = gatL f (l.take j) k := by
  unfold gatL; exact fil_no hj (by simpa using h)
theorem gat_len (f : Int → Int) (l : List Int) (k : Int) : (gatL f l k).length ≤ l.length := List.length_filter_le _ _

set_option maxHeartbeats 1600000 in
theorem l10Groups_f (c : SGraph) (set : List Int) (hn1 : c.codes.length ≤ 300) (hm : c.arcs.length ≤ 4000) (hE : EndsOk c) (hs : set.length ≤ 4000) (hn : ∀ x ∈ set, 0 ≤ x ∧ x < (c.codes.length : Int)) : Fn Try.prog 56 [.agg (dSGraph c), .sh 1 (ints set)] (.own 0) [.arr 78 1 ((grpsL c.arcs set set).map dII) true] := by
  refine Fn_of Try.func56 rfl (by kernel_rfl) rfl rfl ?_
  intro w0 A hin
  have hz1 := len_strs c.codes
  have hz2 := len_dArcD c.arcs
  have hz3 := len_ints set
  repeat' (first | refine goZ ?_ | ((first | refine R_cond rfl (fun hq => ?_) fun hq => ?_ | refine R_guardT rfl rfl rfl (fun hq => ?_) fun hq => ?_ | refine R_guardF rfl rfl rfl (fun hq => ?_) fun hq => ?_ | refine D_guardT rfl rfl rfl (fun hq => ?_) fun hq => ?_ | refine D_guardF rfl rfl rfl (fun hq => ?_) fun hq => ?_) <;> (try rw [hq]) <;> first | have hp := of_decide_eq_true hq | have hp := of_decide_eq_false hq | have hp := of_decide_eq_false (not_t hq) | have hp := of_decide_eq_true (not_f hq) | have hp := hq))
  rw [hz1, ints_repl]
  refine W_loop (fun x : List Int × Nat => ⟨_, [(1, .sh 1 (ints set)), (2, .ptr 0 0), (5, .own 1), (21, .lit (.int .i64 c.codes.length)), (22, .lit (.int .i64 x.2))], [.cells 46 (dSGraph c), .arr 3 1 (ints x.1) true]⟩) (fun x => (x.1.length = c.codes.length ∧ x.2 ≤ c.codes.length) ∧ ∀ i : Nat, i < x.2 → nth x.1 i = i) (fun x => c.codes.length - x.2) (List.replicate c.codes.length 0, 0) ⟨⟨by simp, Nat.zero_le _⟩, fun i h => by simp at h⟩ (weakZ []) ?_
  rintro ⟨o, k⟩ ⟨⟨ho, hk⟩, hi⟩
  dsimp only at ho hk hi ⊢
  have hz4 := len_ints o
  repeat' (first | refine goZ ?_ | ((first | refine R_cond rfl (fun hq => ?_) fun hq => ?_ | refine R_guardT rfl rfl rfl (fun hq => ?_) fun hq => ?_ | refine R_guardF rfl rfl rfl (fun hq => ?_) fun hq => ?_ | refine D_guardT rfl rfl rfl (fun hq => ?_) fun hq => ?_ | refine D_guardF rfl rfl rfl (fun hq => ?_) fun hq => ?_) <;> (try rw [hq]) <;> first | have hp := of_decide_eq_true hq | have hp := of_decide_eq_false hq | have hp := of_decide_eq_false (not_t hq) | have hp := of_decide_eq_true (not_f hq) | have hp := hq))
  · refine ⟨(o.set k k, k + 1), ⟨⟨by simp [ho], by simp only; omega⟩, fun i h => ?_⟩, by simp only; omega, weakZ _⟩
    simp only at h ⊢
    by_cases e : i = k
    · subst e; rw [nth_get (by simp; omega)]; simp
    · rw [nth_get (by simp; omega), List.getElem_set_ne (by omega), ← nth_get (by omega)]; exact hi i (by omega)
  have ek : k = c.codes.length := by omega
  have hR0 : Rnd c.arcs set (atI o) 0 := rnd_start _ _ fun x hx => by
    have := hn x hx
    unfold atI; rw [hi _ (by omega)]; omega
  -- the rounds
  refine W_loop (fun x : List Int × Nat => ⟨_, [(1, .sh 1 (ints set)), (2, .ptr 0 0), (5, .own 1), (31, .lit (.int .i64 set.length)), (32, .lit (.int .i64 x.2))], [.cells 46 (dSGraph c), .arr 3 1 (ints x.1) true]⟩) (fun x => (x.1.length = c.codes.length ∧ x.2 ≤ set.length) ∧ Rnd c.arcs set (atI x.1) x.2) (fun x => set.length - x.2) (o, 0) ⟨⟨ho, Nat.zero_le _⟩, hR0⟩ (weakZ []) ?_
  clear hR0 hi ek hp hq hk hz4 ho o k
  rintro ⟨o, r⟩ ⟨⟨ho, hr⟩, hR⟩
  dsimp only at ho hr hR ⊢
  have hz4 := len_ints o
  repeat' (first | refine goZ ?_ | ((first | refine R_cond rfl (fun hq => ?_) fun hq => ?_ | refine R_guardT rfl rfl rfl (fun hq => ?_) fun hq => ?_ | refine R_guardF rfl rfl rfl (fun hq => ?_) fun hq => ?_ | refine D_guardT rfl rfl rfl (fun hq => ?_) fun hq => ?_ | refine D_guardF rfl rfl rfl (fun hq => ?_) fun hq => ?_) <;> (try rw [hq]) <;> first | have hp := of_decide_eq_true hq | have hp := of_decide_eq_false hq | have hp := of_decide_eq_false (not_t hq) | have hp := of_decide_eq_true (not_f hq) | have hp := hq))
  · -- a round
    refine W_loop (fun x : List Int × Nat => ⟨_, [(1, .sh 1 (ints set)), (2, .ptr 0 0), (5, .own 1), (31, .lit (.int .i64 set.length)), (32, .lit (.int .i64 r)), (35, .sh 4 (c.arcs.map dArcD)), (36, .lit (.int .i64 c.arcs.length)), (37, .lit (.int .i64 x.2))], [.cells 46 (dSGraph c), .arr 3 1 (ints x.1) true]⟩) (fun x => (x.1.length = c.codes.length ∧ x.2 ≤ c.arcs.length) ∧ Sweep c.arcs set (atI o) (atI x.1) (c.arcs.take x.2)) (fun x => c.arcs.length - x.2) (o, 0) ⟨⟨ho, Nat.zero_le _⟩, sweep_start hR⟩ (weakZ []) ?_
    rintro ⟨o2, i⟩ ⟨⟨ho2, hi⟩, hS⟩
    dsimp only at ho2 hi hS ⊢
    have hz5 := len_ints o2
    have ha : i < c.arcs.length → _ := fun h => arc_ends hE (nth_mem h)
    repeat' (first | refine goZ ?_ | refine R_callZ rfl (l1Has_f _ _) rfl rfl rfl ?_ | refine R_callZ rfl (l1Min_f _ _) rfl rfl rfl ?_ | refine R_callvZ rfl (l1Has_f _ _) rfl rfl rfl rfl ?_ | refine R_callvZ rfl (l1Min_f _ _) rfl rfl rfl rfl ?_ | refine R_pop tabOk rfl rfl (by simp only [List.length_map, List.length_set]; omega) ?_ | refine R_estoreZ tabOk rfl rfl rfl rfl rfl rfl rfl (rowAt_int (by omega) (by simp only [List.length_set]; omega)) rfl rfl (setAt_int (v := min (nth o2 (nth c.arcs i).src.toNat) (nth o2 (nth c.arcs i).dst.toNat)) rfl) rfl ?_ | refine D_callZ rfl (l1Has_f _ _) rfl rfl rfl ?_ | refine D_callZ rfl (l1Min_f _ _) rfl rfl rfl ?_ | ((first | refine R_cond rfl (fun hq => ?_) fun hq => ?_ | refine R_guardT rfl rfl rfl (fun hq => ?_) fun hq => ?_ | refine R_guardF rfl rfl rfl (fun hq => ?_) fun hq => ?_ | refine D_guardT rfl rfl rfl (fun hq => ?_) fun hq => ?_ | refine D_guardF rfl rfl rfl (fun hq => ?_) fun hq => ?_) <;> (try rw [hq]) <;> first | have hp := of_decide_eq_true hq | have hp := of_decide_eq_false hq | have hp := of_decide_eq_false (not_t hq) | have hp := of_decide_eq_true (not_f hq) | have hp := hq))
    · refine ⟨(_, i + 1), ⟨⟨?_, by simp only; omega⟩, sweep_set hn ho2 hS (by omega) (by assumption) (by assumption)⟩, by simp only; omega, weakZ _⟩
      simp [ho2]
    · refine ⟨(o2, i + 1), ⟨⟨ho2, by simp only; omega⟩, ?_⟩, by simp only; omega, weakZ _⟩
      simp only
      rw [take_nth (by omega)]
      exact sweep_no hS fun h => hp h.2
    · refine ⟨(o2, i + 1), ⟨⟨ho2, by simp only; omega⟩, ?_⟩, by simp only; omega, weakZ _⟩
      simp only
      rw [take_nth (by omega)]
      exact sweep_no hS fun h => hp h.1
    · refine ⟨(o2, r + 1), ⟨⟨ho2, by simp only; omega⟩, sweep_end hR ?_⟩, by simp only; omega, weakZ _⟩
      rwa [List.take_of_length_le (by omega)] at hS
  -- the groups
  have er : r = set.length := by omega
  subst er
  refine W_open 10 78 1 rfl ?_
  refine W_loop (fun i : Nat => ⟨_, [(1, .sh 1 (ints set)), (5, .own 1), (10, .own 2), (74, .sh 1 (ints set)), (75, .lit (.int .i64 set.length)), (76, .lit (.int .i64 i))], [.cells 46 (dSGraph c), .arr 3 1 (ints o) true, .arr 78 1 ((grpsL c.arcs set (set.take i)).map dII) true]⟩) (fun i => i ≤ set.length) (fun i => set.length - i) 0 (Nat.zero_le _) (weakZ []) ?_
  intro i hi
  have hgl := grps_len c.arcs set (set.take i)
  rw [List.length_take] at hgl
  have hgz : ((grpsL c.arcs set (set.take i)).map dII).length = (grpsL c.arcs set (set.take i)).length := List.length_map _
  have hni : i < set.length → _ := fun h => hn _ (nth_mem h)
  repeat' (first | refine goZ ?_ | ((first | refine R_cond rfl (fun hq => ?_) fun hq => ?_ | refine R_guardT rfl rfl rfl (fun hq => ?_) fun hq => ?_ | refine R_guardF rfl rfl rfl (fun hq => ?_) fun hq => ?_ | refine D_guardT rfl rfl rfl (fun hq => ?_) fun hq => ?_ | refine D_guardF rfl rfl rfl (fun hq => ?_) fun hq => ?_) <;> (try rw [hq]) <;> first | have hp := of_decide_eq_true hq | have hp := of_decide_eq_false hq | have hp := of_decide_eq_false (not_t hq) | have hp := of_decide_eq_true (not_f hq) | have hp := hq))
  · refine W_open 13 3 1 rfl ?_
    refine W_loop (fun j : Nat => ⟨_, [(1, .sh 1 (ints set)), (5, .own 1), (10, .own 2), (74, .sh 1 (ints set)), (75, .lit (.int .i64 set.length)), (76, .lit (.int .i64 i)), (12, .lit (.int .i64 (nth set i))), (13, .own 3), (80, .sh 1 (ints set)), (81, .lit (.int .i64 set.length)), (82, .lit (.int .i64 j))], [.cells 46 (dSGraph c), .arr 3 1 (ints o) true, .arr 78 1 ((grpsL c.arcs set (set.take i)).map dII) true, .arr 3 1 (ints (gatL (atI o) (set.take j) (nth set i))) true]⟩) (fun j => j ≤ set.length) (fun j => set.length - j) 0 (Nat.zero_le _) (weakZ []) ?_
    intro j hj
    have hnj : j < set.length → _ := fun h => hn _ (nth_mem h)
    have hzg := len_ints (gatL (atI o) (set.take j) (nth set i))
    have hzl := gat_len (atI o) (set.take j) (nth set i)
    rw [List.length_take] at hzl
    repeat' (first | refine goZ ?_ | ((first | refine R_cond rfl (fun hq => ?_) fun hq => ?_ | refine R_guardT rfl rfl rfl (fun hq => ?_) fun hq => ?_ | refine R_guardF rfl rfl rfl (fun hq => ?_) fun hq => ?_ | refine D_guardT rfl rfl rfl (fun hq => ?_) fun hq => ?_ | refine D_guardF rfl rfl rfl (fun hq => ?_) fun hq => ?_) <;> (try rw [hq]) <;> first | have hp := of_decide_eq_true hq | have hp := of_decide_eq_false hq | have hp := of_decide_eq_false (not_t hq) | have hp := of_decide_eq_true (not_f hq) | have hp := hq))
    · refine ⟨j + 1, by omega, by omega, ?_⟩
      rw [gat_yes (f := atI o) (by omega) (by assumption) hp, ints_snoc]
      exact weakZ _
    · refine ⟨j + 1, by omega, by omega, ?_⟩
      rw [gat_no (f := atI o) (by omega) (fun h => hp h.2)]
      exact weakZ _
    · refine ⟨j + 1, by omega, by omega, ?_⟩
      rw [gat_no (f := atI o) (by omega) (fun h => hp h.1)]
      exact weakZ _
    · refine ⟨i + 1, by omega, by omega, ?_⟩
      have ej : j = set.length := by omega
      subst ej
      rw [List.take_length] at *
      have hg := gat_eq hR (nth_mem (show i < set.length by omega))
      cases hmn : minB c.arcs set (nth set i)
      · rw [hmn, if_neg (by simp)] at hg
        rw [hg] at hp; simp [ints] at hp
      · rw [hmn, if_pos rfl] at hg
        rw [take_nth (show i < set.length by omega), grps_snoc, hmn, if_pos rfl, List.map_append, hg]
        exact weakZ _
    · refine ⟨i + 1, by omega, by omega, ?_⟩
      have ej : j = set.length := by omega
      subst ej
      rw [List.take_length] at *
      have hg := gat_eq hR (nth_mem (show i < set.length by omega))
      cases hmn : minB c.arcs set (nth set i)
      · rw [take_nth (show i < set.length by omega), grps_snoc, hmn, if_neg (by simp), List.append_nil]
        exact weakZ _
      · rw [hmn, if_pos rfl] at hg
        have := grp_pos (E := c.arcs) (nth_mem (show i < set.length by omega))
        rw [hg] at hp; simp [ints] at hp
        rw [hp] at this; simp at this
  · refine ret_own rfl rfl ?_
    rw [List.take_of_length_le (by omega)]
end Go.Proofs.Ytcbfpeplcbgpjaa
