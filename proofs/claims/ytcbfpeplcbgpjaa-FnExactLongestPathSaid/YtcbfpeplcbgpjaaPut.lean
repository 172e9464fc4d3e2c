/- Numbers put in their places: spec.l1Put and what is built with it. No condition. -/
import Derived.Test.YtcbfpeplcbgpjaaMv
import Derived.Test.YtcbfpeplcbgpjaaAbsY
import Derived.Test.YtcbfpeplcbgpjaaExc
import Derived.Test.YtcbfpeplcbgpjaaPick
set_option linter.unusedSimpArgs false
set_option linter.unusedVariables false
set_option maxHeartbeats 2000000
namespace Go.Proofs.Ytcbfpeplcbgpjaa
open Go.ChangeShapes Go.WideShapes Go.ChangeAt Go.RowKit

/-- A number put to its place in an increasing list, once. -/
def putI : List Int → Int → List Int
  | [], n => [n]
  | x :: l, n => if x < n then x :: putI l n else if x = n then x :: l else n :: x :: l
theorem putI_len : ∀ (l : List Int) (n : Int), (putI l n).length ≤ l.length + 1
  | [], _ => by simp [putI]
  | x :: l, n => by
    have := putI_len l n
    simp only [putI]; split
    · simp; omega
    · split <;> simp
theorem putI_same : ∀ {l : List Int} {n : Int} {k : Nat}, k < l.length → (∀ j, j < k → nth l j < n) → nth l k = n → putI l n = l
  | [], _, _, h, _, _ => by simp at h
  | x :: l, n, 0, _, _, h => by rw [nth_cons_zero] at h; simp [putI, h]
  | x :: l, n, k + 1, hk, h1, h => by
    have h0 := h1 0 (by omega)
    rw [nth_cons_zero] at h0
    rw [nth_cons_succ] at h
    simp only [putI, if_pos h0]
    rw [putI_same (by simpa using hk) (fun j hj => by have := h1 (j + 1) (by omega); rwa [nth_cons_succ] at this) h]
theorem putI_new : ∀ {l : List Int} {n : Int} {k : Nat}, k ≤ l.length → (∀ j, j < k → nth l j < n) → (k < l.length → n < nth l k) → putI l n = l.take k ++ ([n] ++ l.drop k)
  | [], n, k, hk, _, _ => by simp at hk; subst hk; rfl
  | x :: l, n, 0, _, _, h => by
    have := h (by simp)
    rw [nth_cons_zero] at this
    simp only [putI]; rw [if_neg (by omega), if_neg (by omega)]; rfl
  | x :: l, n, k + 1, hk, h1, h => by
    have h0 := h1 0 (by omega)
    rw [nth_cons_zero] at h0
    simp only [putI, if_pos h0]
    rw [putI_new (k := k) (by simpa using hk) (fun j hj => by have := h1 (j + 1) (by omega); rwa [nth_cons_succ] at this) (fun hk2 => by have := h (by simpa using hk2); rwa [nth_cons_succ] at this)]
    rfl
/-- Increasing lists. -/
def Inc (l : List Int) : Prop := l.Pairwise (· < ·)
theorem putI_mem : ∀ {l : List Int} {n x : Int}, x ∈ putI l n ↔ x = n ∨ x ∈ l
  | [], n, x => by simp [putI]
  | y :: l, n, x => by
    simp only [putI]; split
    · rw [List.mem_cons, putI_mem, List.mem_cons]; constructor
      · rintro (h | h | h) <;> simp [h]
      · rintro (h | h | h) <;> simp [h]
    · split
      · rename_i h; subst h; simp
      · simp
theorem putI_inc : ∀ {l : List Int} {n : Int}, Inc l → Inc (putI l n)
  | [], n, _ => by simp [putI, Inc]
  | y :: l, n, h => by
    simp only [Inc, List.pairwise_cons] at h
    simp only [putI]; split
    · rename_i hy
      simp only [Inc, List.pairwise_cons]
      refine ⟨fun x hx => ?_, putI_inc h.2⟩
      rcases putI_mem.1 hx with rfl | hx
      · exact hy
      · exact h.1 x hx
    · split
      · simp only [Inc, List.pairwise_cons]; exact h
      · simp only [Inc, List.pairwise_cons]
        refine ⟨fun x hx => ?_, h⟩
        rcases List.mem_cons.1 hx with rfl | hx
        · omega
        · have := h.1 x hx; omega
/-- Increasing lists with the same elements are the same. -/
theorem inc_ext : ∀ {l l' : List Int}, Inc l → Inc l' → (∀ x, x ∈ l ↔ x ∈ l') → l = l'
  | [], [], _, _, _ => rfl
  | [], y :: l', _, _, h => by have := (h y).2 (by simp); simp at this
  | x :: l, [], _, _, h => by have := (h x).1 (by simp); simp at this
  | x :: l, y :: l', h1, h2, h => by
    simp only [Inc, List.pairwise_cons] at h1 h2
    have hxy : x = y := by
      rcases List.mem_cons.1 ((h x).1 (by simp)) with e | hx
      · exact e
      · rcases List.mem_cons.1 ((h y).2 (by simp)) with e | hy
        · exact e.symm
        · have := h1.1 y hy; have := h2.1 x hx; omega
    subst hxy
    rw [inc_ext h1.2 h2.2 fun z => ?_]
    have hz := h z
    simp only [List.mem_cons] at hz
    constructor
    · intro hm
      rcases hz.1 (Or.inr hm) with rfl | hm'
      · have := h1.1 _ hm; omega
      · exact hm'
    · intro hm
      rcases hz.2 (Or.inr hm) with rfl | hm'
      · have := h2.1 _ hm; omega
      · exact hm'

theorem putI_rows (l : List Int) (n : Int) (k : Nat) : List.drop 0 (List.take (k : Int).toNat (ints l)) ++ [[D.lit (Value.int IntKind.i64 n)]] ++ List.drop (k : Int).toNat (List.take (ints l).length (ints l)) = ints (l.take k ++ ([n] ++ l.drop k)) := by
  rw [List.take_length]
  simp [ints, List.map_take, List.map_drop]

theorem l1Put_m (l : List Int) (n : Int) (hz : l.length ≤ 4000000) : FnM Try.prog 132 (.arr 3 1 (ints l) true) [.own 0, .lit (.int .i64 n)] (.own 0) [.arr 3 1 (ints (putI l n)) true] := by
  refine FnM_of Try.func132 rfl (by kernel_rfl) rfl rfl rfl rfl rfl ?_
  intro w0 A R
  have hl := len_ints l
  repeat' (first | refine goZ ?_ | ((first | refine R_cond rfl (fun hq => ?_) fun hq => ?_ | refine R_guardT rfl rfl rfl (fun hq => ?_) fun hq => ?_ | refine R_guardF rfl rfl rfl (fun hq => ?_) fun hq => ?_ | refine D_guardT rfl rfl rfl (fun hq => ?_) fun hq => ?_ | refine D_guardF rfl rfl rfl (fun hq => ?_) fun hq => ?_) <;> (try rw [hq]) <;> first | have hp := of_decide_eq_true hq | have hp := of_decide_eq_false hq | have hp := of_decide_eq_false (not_t hq) | have hp := of_decide_eq_true (not_f hq) | have hp := hq))
  refine W_loop (fun k : Nat => ⟨_, [(0, .own 0), (1, .lit (.int .i64 n)), (5, .lit (.int .i64 k))], [.arr 3 1 (ints l) true, .cust R]⟩) (fun k => k ≤ l.length ∧ ∀ j, j < k → nth l j < n) (fun k => l.length - k) 0 ⟨Nat.zero_le _, fun j hj => by omega⟩ (weakZ []) ?_
  rintro k ⟨hk, hj⟩
  repeat' (first | refine goZ ?_ | ((first | refine R_cond rfl (fun hq => ?_) fun hq => ?_ | refine R_guardT rfl rfl rfl (fun hq => ?_) fun hq => ?_ | refine R_guardF rfl rfl rfl (fun hq => ?_) fun hq => ?_ | refine D_guardT rfl rfl rfl (fun hq => ?_) fun hq => ?_ | refine D_guardF rfl rfl rfl (fun hq => ?_) fun hq => ?_) <;> (try rw [hq]) <;> first | have hp := of_decide_eq_true hq | have hp := of_decide_eq_false hq | have hp := of_decide_eq_false (not_t hq) | have hp := of_decide_eq_true (not_f hq) | have hp := hq))
  · exact ⟨k + 1, ⟨by omega, fun j hj' => by by_cases e : j = k; (rw [e]; exact hp); exact hj j (by omega)⟩, by omega, weakZ _⟩
  · have h1 : k < l.length := by omega
    have h2 : nth l k = n := by simpa [h1, hl] using hp
    exact .r (ret_own rfl rfl (by rw [putI_same h1 hj h2])) rfl
  · have h1 : k < l.length := by omega
    have h2 : ¬ nth l k = n := by simpa [h1, hl] using hp
    exact .r (ret_own rfl rfl ((putI_rows l n k).trans (by rw [putI_new hk hj fun _ => by omega]))) rfl
  · exact .r (ret_own rfl rfl ((putI_rows l n k).trans (by rw [putI_new hk hj fun h => by omega]))) rfl
theorem l10Is_f (a : ArcD) (sig : Int) (up : Bool) : Fn Try.prog 131 [.agg (dArcD a), .lit (.int .i64 sig), .lit (.bool up)] (.lit (.bool (decide (a.sig = sig) && (a.up == up)))) [] := by
  refine Fn_of Try.func131 rfl (by kernel_rfl) rfl rfl ?_
  intro w0 A hin
  repeat' (first | refine goZ ?_ | ((first | refine R_cond rfl (fun hq => ?_) fun hq => ?_ | refine R_guardT rfl rfl rfl (fun hq => ?_) fun hq => ?_ | refine R_guardF rfl rfl rfl (fun hq => ?_) fun hq => ?_ | refine D_guardT rfl rfl rfl (fun hq => ?_) fun hq => ?_ | refine D_guardF rfl rfl rfl (fun hq => ?_) fun hq => ?_) <;> (try rw [hq]) <;> first | have hp := of_decide_eq_true hq | have hp := of_decide_eq_false hq | have hp := of_decide_eq_false (not_t hq) | have hp := of_decide_eq_true (not_f hq) | have hp := hq))
  all_goals exact ret_bool' rfl rfl

/-- The states that arcs with a label leave, in order, each once. -/
def isA (sig : Int) (up : Bool) (a : ArcD) : Bool := decide (a.sig = sig) && (a.up == up)
def exL (l : List ArcD) (sig : Int) (up : Bool) : List Int := (l.filter (isA sig up)).foldl (fun r a => putI r a.src) []
theorem exL_yes {l : List ArcD} {sig : Int} {up : Bool} {k : Nat} (hk : k < l.length) (h : isA sig up (nth l k) = true) : exL (l.take (k + 1)) sig up = putI (exL (l.take k) sig up) (nth l k).src := by
  unfold exL; rw [fil_yes hk h, List.foldl_append]; rfl
theorem exL_no {l : List ArcD} {sig : Int} {up : Bool} {k : Nat} (hk : k < l.length) (h : isA sig up (nth l k) = false) : exL (l.take (k + 1)) sig up = exL (l.take k) sig up := by
  unfold exL; rw [fil_no hk h]
theorem put_fold {α : Type} (f : α → Int) : ∀ (l : List α) (r : List Int), Inc r → Inc (l.foldl (fun r a => putI r (f a)) r) ∧ (∀ x, x ∈ l.foldl (fun r a => putI r (f a)) r ↔ x ∈ r ∨ ∃ a ∈ l, f a = x) ∧ (l.foldl (fun r a => putI r (f a)) r).length ≤ r.length + l.length
  | [], r, h => ⟨h, fun x => by simp, by simp⟩
  | a :: l, r, h => by
    obtain ⟨h1, h2, h3⟩ := put_fold f l (putI r (f a)) (putI_inc h)
    have := putI_len r (f a)
    refine ⟨h1, fun x => ?_, by simp only [List.foldl_cons, List.length_cons]; omega⟩
    rw [List.foldl_cons, h2, putI_mem]
    constructor
    · rintro ((rfl | h) | ⟨b, hb, rfl⟩)
      · exact Or.inr ⟨a, by simp, rfl⟩
      · exact Or.inl h
      · exact Or.inr ⟨b, by simp [hb], rfl⟩
    · rintro (h | ⟨b, hb, rfl⟩)
      · exact Or.inl (Or.inr h)
      · rcases List.mem_cons.1 hb with rfl | hb
        · exact Or.inl (Or.inl rfl)
        · exact Or.inr ⟨b, hb, rfl⟩
theorem exL_len (l : List ArcD) (sig : Int) (up : Bool) : (exL l sig up).length ≤ l.length := by
  have := (put_fold (fun a : ArcD => a.src) (l.filter (isA sig up)) [] (by simp [Inc])).2.2
  have := List.length_filter_le (isA sig up) l
  unfold exL; simp at *; omega
theorem exL_mem {l : List ArcD} {sig : Int} {up : Bool} {x : Int} : x ∈ exL l sig up ↔ ∃ a ∈ l, isA sig up a = true ∧ a.src = x := by
  unfold exL
  rw [(put_fold (fun a : ArcD => a.src) (l.filter (isA sig up)) [] (by simp [Inc])).2.1]
  simp [and_assoc]
theorem exL_inc (l : List ArcD) (sig : Int) (up : Bool) : Inc (exL l sig up) := (put_fold (fun a : ArcD => a.src) (l.filter (isA sig up)) [] (by simp [Inc])).1

theorem l10Excited_f (c : SGraph) (sig : Int) (up : Bool) (hb : c.arcs.length ≤ 4000) : Fn Try.prog 57 [.agg (dSGraph c), .lit (.int .i64 sig), .lit (.bool up)] (.own 0) [.arr 3 1 (ints (exL c.arcs sig up)) true] := by
  refine Fn_of Try.func57 rfl (by kernel_rfl) rfl rfl ?_
  intro w0 A hin
  have hza := len_dArcD c.arcs
  repeat' (first | refine goZ ?_ | ((first | refine R_cond rfl (fun hq => ?_) fun hq => ?_ | refine R_guardT rfl rfl rfl (fun hq => ?_) fun hq => ?_ | refine R_guardF rfl rfl rfl (fun hq => ?_) fun hq => ?_ | refine D_guardT rfl rfl rfl (fun hq => ?_) fun hq => ?_ | refine D_guardF rfl rfl rfl (fun hq => ?_) fun hq => ?_) <;> (try rw [hq]) <;> first | have hp := of_decide_eq_true hq | have hp := of_decide_eq_false hq | have hp := of_decide_eq_false (not_t hq) | have hp := of_decide_eq_true (not_f hq) | have hp := hq))
  refine W_open 7 3 1 rfl ?_
  refine W_loop (fun k : Nat => ⟨_, [(1, .lit (.int .i64 sig)), (2, .lit (.bool up)), (3, .ptr 0 0), (7, .own 1), (11, .sh 4 (c.arcs.map dArcD)), (12, .lit (.int .i64 c.arcs.length)), (13, .lit (.int .i64 k))], [.cells 46 (dSGraph c), .arr 3 1 (ints (exL (c.arcs.take k) sig up)) true]⟩) (fun k => k ≤ c.arcs.length) (fun k => c.arcs.length - k) 0 (Nat.zero_le _) (weakZ []) ?_
  intro k hk
  have hlen : (exL (c.arcs.take k) sig up).length ≤ 4000 := Nat.le_trans (exL_len _ _ _) (by simp; omega)
  repeat' (first | refine goZ ?_ | refine R_callZ rfl (l10Is_f _ _ _) rfl rfl rfl ?_ | refine R_callvZ rfl (l10Is_f _ _ _) rfl rfl rfl rfl ?_ | refine R_callM rfl (l1Put_m (exL (c.arcs.take k) sig up) (nth c.arcs k).src (by omega)) rfl rfl rfl rfl rfl rfl rfl rfl (by first | exact hfl _ | exact flat_ints _) ?_ | refine D_callZ rfl (l10Is_f _ _ _) rfl rfl rfl ?_ | ((first | refine R_cond rfl (fun hq => ?_) fun hq => ?_ | refine R_guardT rfl rfl rfl (fun hq => ?_) fun hq => ?_ | refine R_guardF rfl rfl rfl (fun hq => ?_) fun hq => ?_ | refine D_guardT rfl rfl rfl (fun hq => ?_) fun hq => ?_ | refine D_guardF rfl rfl rfl (fun hq => ?_) fun hq => ?_) <;> (try rw [hq]) <;> first | have hp := of_decide_eq_true hq | have hp := of_decide_eq_false hq | have hp := of_decide_eq_false (not_t hq) | have hp := of_decide_eq_true (not_f hq) | have hp := hq))
  · refine ⟨k + 1, by omega, by omega, ?_⟩
    simp only [exL_yes (show k < c.arcs.length by omega) hq]
    refine Weak_ren [some 0, some 3] rfl rfl ?_ ?_ <;> (repeat' (first | exact trivial | rfl | refine And.intro ?_ ?_ | (simp [St.get, look, ints, strs, bools]; done))) <;> done
  · refine ⟨k + 1, by omega, by omega, ?_⟩
    simp only [exL_no (show k < c.arcs.length by omega) hq]
    exact weakZ _
  · exact ret_own rfl rfl (by rw [List.take_of_length_le (by omega)])

end Go.Proofs.Ytcbfpeplcbgpjaa
