/- Shortest ways: the plain law; no program in sight. No condition. Shortest ways: what the program's functions hand back. No condition. Shortest ways in state graphs: what the reference's and the program's functions hand back. No condition. -/
import Derived.Test.YtcmedjlpaondjaaDist
import Derived.Test.YtcmedjlpaondjaaIx
import Derived.Test.YtcmedjlpaondjaaMv
import Derived.Test.YtcmedjlpaondjaaInp
import Derived.Test.YtcmedjlpaondjaaHome
import Derived.Shelf.Slices.Reverse
import Derived.Test.YtcmedjlpaondjaaLayRev
import Derived.Test.YtcmedjlpaondjaaSgc
import Derived.Test.YtcmedjlpaondjaaRet
set_option linter.unusedSimpArgs false
set_option linter.unusedVariables false
set_option maxHeartbeats 2000000
namespace Go.Proofs.Ytcmedjlpaondjaa

/-- The edge by which a shortest way comes to k at distance d + 1. -/
noncomputable def comeP (E : List (Int × Int)) (d : Int) (k : Int) (e : Int × Int) : Bool := decide (e.2 = k) && decide (dist E 0 e.1 = d)
/-- The edges of a shortest way to k, the last one first. -/
noncomputable def wayL (E : List (Int × Int)) : Nat → Int → List Int
  | 0, _ => []
  | d + 1, k => findIx (comeP E d k) E :: wayL E d (nth E (findIx (comeP E d k) E).toNat).1
theorem wayL_len (E : List (Int × Int)) : ∀ (d : Nat) (k : Int), (wayL E d k).length = d
  | 0, _ => rfl
  | d + 1, k => by simp [wayL, wayL_len E d]
section
variable {E : List (Int × Int)} {d : Nat} {k : Int}
theorem come_ex (h : dist E 0 k = (d : Int) + 1) : ∃ i : Nat, i < E.length ∧ findIx (comeP E d k) E = i ∧ (nth E i).2 = k ∧ dist E 0 (nth E i).1 = d ∧ ∀ j, j < i → comeP E d k (nth E j) = false := by
  have h1 : ¬ findIx (comeP E d k) E = -1 := by
    intro hf
    obtain ⟨u, h2, h3⟩ := dist_pred (E := E) (s := 0) (v := k) (by omega)
    have h4 := filter_none hf
    have h5 : (u, k) ∈ E.filter fun x => !comeP E d k x := by rw [h4]; exact h2
    have h6 := (List.mem_filter.1 h5).2
    simp [comeP] at h6
    omega
  obtain ⟨i, h2, h3, h4, h5⟩ := findIx_spec h1
  simp only [comeP, Bool.and_eq_true, decide_eq_true_eq] at h4
  exact ⟨i, h2, h3, h4.1, h4.2, h5⟩
theorem wayL_in {n : Nat} (hE : ∀ e ∈ E, (0 ≤ e.1 ∧ e.1 < n) ∧ 0 ≤ e.2 ∧ e.2 < n) : ∀ (d : Nat) (k : Int), dist E 0 k = (d : Int) → ∀ x ∈ wayL E d k, 0 ≤ x ∧ x < E.length
  | 0, _, _, x, hx => by simp [wayL] at hx
  | d + 1, k, h, x, hx => by
    obtain ⟨i, h1, h2, h3, h4, _⟩ := come_ex (E := E) (d := d) (k := k) (by omega)
    simp only [wayL, List.mem_cons] at hx
    rcases hx with rfl | hx
    · omega
    · rw [h2] at hx
      exact wayL_in hE d _ (by rw [Int.toNat_natCast]; exact h4) x hx
end

/-! ### Distances by rounds -/
/-- Behind d rounds, and the first j edges of the next one: what is known of the distances. -/
structure FarR (E : List (Int × Int)) (n : Nat) (d j : Nat) (l : List Int) : Prop where
  len : l.length = n
  near : ∀ v : Int, 0 ≤ v → v < n → 0 ≤ dist E 0 v → dist E 0 v ≤ d → atI l v = dist E 0 v
  next : ∀ v : Int, 0 ≤ v → v < n → dist E 0 v = d + 1 → (∃ i : Nat, i < j ∧ i < E.length ∧ (nth E i).2 = v ∧ dist E 0 (nth E i).1 = d) → atI l v = d + 1
  none : ∀ v : Int, 0 ≤ v → v < n → ¬ (0 ≤ dist E 0 v ∧ dist E 0 v ≤ d) → ¬ (dist E 0 v = d + 1 ∧ ∃ i : Nat, i < j ∧ i < E.length ∧ (nth E i).2 = v ∧ dist E 0 (nth E i).1 = d) → atI l v = -1
section
variable {E : List (Int × Int)} {n d j : Nat} {l : List Int}
theorem far_init (hn : 0 < n) : FarR E n 0 0 ((List.replicate n (-1)).set (0 : Int).toNat 0) := by
  have hat : ∀ v : Int, 0 ≤ v → v < n → atI ((List.replicate n (-1)).set (0 : Int).toNat 0) v = if v = 0 then 0 else -1 := by
    intro v h0 h1
    rw [atI_set (by simpa using hn) h0]
    split
    · rfl
    · unfold atI; rw [nth_get (by simp; omega)]; simp
  have hz : ∀ v : Int, dist E 0 v = 0 → v = 0 := fun v h => by
    have hw := dist_walk (E := E) (s := 0) (v := v) (by omega)
    rw [h] at hw
    cases hw; rfl
  refine ⟨by simp, fun v h0 h1 h2 h3 => ?_, fun v h0 h1 h2 ⟨i, hi, _⟩ => by omega, fun v h0 h1 h2 h3 => ?_⟩
  · have := hz v (by omega)
    rw [hat v h0 h1, if_pos this]; omega
  · rw [hat v h0 h1, if_neg]
    rintro rfl
    exact h2 (by rw [dist_start]; omega)
theorem far_at (h : FarR E n d j l) {v : Int} (h0 : 0 ≤ v) (h1 : v < n) : (atI l v = d ↔ dist E 0 v = d) ∧ (atI l v < 0 ↔ (¬ (0 ≤ dist E 0 v ∧ dist E 0 v ≤ d) ∧ ¬ (dist E 0 v = d + 1 ∧ ∃ i : Nat, i < j ∧ i < E.length ∧ (nth E i).2 = v ∧ dist E 0 (nth E i).1 = d))) := by
  by_cases hc : 0 ≤ dist E 0 v ∧ dist E 0 v ≤ d
  · have := h.near v h0 h1 hc.1 hc.2
    exact ⟨by rw [this], ⟨fun h => by omega, fun h => absurd hc h.1⟩⟩
  · by_cases hc2 : dist E 0 v = d + 1 ∧ ∃ i : Nat, i < j ∧ i < E.length ∧ (nth E i).2 = v ∧ dist E 0 (nth E i).1 = d
    · have := h.next v h0 h1 hc2.1 hc2.2
      exact ⟨by omega, ⟨fun h => by omega, fun h => absurd hc2 h.2⟩⟩
    · have := h.none v h0 h1 hc hc2
      exact ⟨by constructor <;> intro _ <;> omega, ⟨fun _ => ⟨hc, hc2⟩, fun _ => by omega⟩⟩
/-- An edge that tells something. -/
theorem far_yes (h : FarR E n d j l) (hj : j < E.length) (hE : ∀ e ∈ E, (0 ≤ e.1 ∧ e.1 < n) ∧ 0 ≤ e.2 ∧ e.2 < n) (h1 : atI l (nth E j).1 = d) (h2 : atI l (nth E j).2 < 0) : FarR E n d (j + 1) (l.set (nth E j).2.toNat ((d : Int) + 1)) := by
  have he := hE _ (nth_mem hj)
  have hd := (far_at h he.1.1 he.1.2).1.1 h1
  have hs := dist_step (E := E) (s := 0) (u := (nth E j).1) (v := (nth E j).2) (nth_mem hj) (by omega)
  have hn := (far_at h he.2.1 he.2.2).2.1 h2
  have hv : dist E 0 (nth E j).2 = d + 1 := by
    have h3 := hn.1; omega
  have hat : ∀ x : Int, 0 ≤ x → atI (l.set (nth E j).2.toNat ((d : Int) + 1)) x = if x = (nth E j).2 then (d : Int) + 1 else atI l x := fun x hx => atI_set (by rw [h.len]; exact he.2) hx
  refine ⟨by simp [h.len], fun v h0 hv1 h3 h4 => ?_, fun v h0 hv1 h3 ⟨i, hi, hi2, hi3, hi4⟩ => ?_, fun v h0 hv1 h3 h4 => ?_⟩
  · rw [hat v h0, if_neg (by rintro rfl; omega)]; exact h.near v h0 hv1 h3 h4
  · rw [hat v h0]
    split
    · rfl
    · rename_i hne
      exact h.next v h0 hv1 h3 ⟨i, by
        by_cases e : i = j
        · subst e; exact absurd hi3.symm hne
        · omega, hi2, hi3, hi4⟩
  · rw [hat v h0, if_neg]
    · exact h.none v h0 hv1 h3 fun ⟨q1, i, q2, q3⟩ => h4 ⟨q1, i, by omega, q3⟩
    · rintro rfl
      exact h4 ⟨hv, j, by omega, hj, rfl, hd⟩
theorem far_no (h : FarR E n d j l) (hj : j < E.length) (hE : ∀ e ∈ E, (0 ≤ e.1 ∧ e.1 < n) ∧ 0 ≤ e.2 ∧ e.2 < n) (h1 : ¬ (atI l (nth E j).1 = d ∧ atI l (nth E j).2 < 0)) : FarR E n d (j + 1) l := by
  have he := hE _ (nth_mem hj)
  have hf := far_at h he.1.1 he.1.2
  have hg := far_at h he.2.1 he.2.2
  refine ⟨h.len, h.near, fun v h0 hv1 h3 ⟨i, hi, hi2, hi3, hi4⟩ => ?_, fun v h0 hv1 h3 h4 => h.none v h0 hv1 h3 fun ⟨q1, i, q2, q3⟩ => h4 ⟨q1, i, by omega, q3⟩⟩
  by_cases e : i = j
  · subst e
    subst hi3
    have hp : ¬ atI l (nth E i).2 < 0 := fun hl => h1 ⟨hf.1.2 hi4, hl⟩
    rw [hg.2] at hp
    have hq : dist E 0 (nth E i).2 = d + 1 ∧ ∃ i' : Nat, i' < i ∧ i' < E.length ∧ (nth E i').2 = (nth E i).2 ∧ dist E 0 (nth E i').1 = d := by
      by_cases hh : dist E 0 (nth E i).2 = d + 1 ∧ ∃ i' : Nat, i' < i ∧ i' < E.length ∧ (nth E i').2 = (nth E i).2 ∧ dist E 0 (nth E i').1 = d
      · exact hh
      · exact absurd ⟨by omega, hh⟩ hp
    exact h.next _ h0 hv1 h3 hq.2
  · exact h.next v h0 hv1 h3 ⟨i, by omega, hi2, hi3, hi4⟩
theorem far_end (h : FarR E n d j l) (hj : ¬ j < E.length) : FarR E n (d + 1) 0 l := by
  have hex : ∀ v : Int, dist E 0 v = d + 1 → ∃ i : Nat, i < j ∧ i < E.length ∧ (nth E i).2 = v ∧ dist E 0 (nth E i).1 = d := fun v hv => by
    obtain ⟨i, h1, _, h3, h4, _⟩ := come_ex (E := E) (d := d) (k := v) hv
    exact ⟨i, by omega, h1, h3, h4⟩
  refine ⟨h.len, fun v h0 h1 h2 h3 => ?_, fun v h0 h1 h2 ⟨i, hi, _⟩ => by omega, fun v h0 h1 h2 h3 => ?_⟩
  · by_cases e : dist E 0 v = d + 1
    · rw [h.next v h0 h1 e (hex v e)]; omega
    · exact h.near v h0 h1 h2 (by omega)
  · exact h.none v h0 h1 (by omega) fun ⟨q1, _⟩ => h2 (by omega)
theorem far_fin (h : FarR E n n 0 l) (hn : 0 < n) (hE : ∀ e ∈ E, (0 ≤ e.1 ∧ e.1 < n) ∧ 0 ≤ e.2 ∧ e.2 < n) : l = distL n E 0 := by
  refine distL_of h.len fun v h0 h1 => ?_
  have hlt := dist_lt (E := E) (s := 0) (n := n) (v := v) (fun e he => (hE e he).2) (by omega)
  by_cases hc : 0 ≤ dist E 0 v
  · exact h.near v h0 h1 hc (by omega)
  · rw [h.none v h0 h1 (by omega) fun ⟨q, _⟩ => by omega]
    have := dist_ge (E := E) (s := 0) (v := v); omega
end
end Go.Proofs.Ytcmedjlpaondjaa
namespace Go.Proofs.Ytcmedjlpaondjaa
open Go.ChangeShapes Go.WideShapes Go.ChangeAt Go.RowKit

theorem Reverse_I (l : List Int) (hl : l.length ≤ 1000000) : InpI Try.prog 142 l l.reverse none := by
  refine ⟨plain_of Try.func142 (by kernel_rfl) (by kernel_rfl), by simp, by simp, fun x hx => Or.inr (by simpa using hx), fun w g cap hg hH hc hm => ?_, fun _ w => ?_⟩
  · refine (Any.slices_Reverse_int layRev g 0 cap l w hH (by omega)).mono ?_
    rintro e w' ⟨h1, q, h2⟩
    exact ⟨h1, q, #[], by rw [Go.Sort.grow_empty]; exact h2⟩
  · refine (Any.slices_Reverse_int_empty layRev none 0 w).mono ?_
    rintro e w' ⟨h1, h2⟩
    exact ⟨h1, h2⟩

theorem IndexFunc2_St_f (l : List (Int × Int)) (p : Int × Int → Bool) (fid : FuncId) (cs cs' : List D) (hp : ∀ x ∈ l, Fn Try.prog fid [.agg (dSt x), .sptr cs, .sptr cs'] (.lit (.bool (p x))) []) : Fn Try.prog 140 [.sh 2 (l.map dSt), .fn fid [.sptr cs, .sptr cs']] (.lit (.int .i64 (findIx p l))) [] := by
  refine Fn_of Try.func140 rfl (by kernel_rfl) rfl rfl ?_
  intro w0 A hin
  have hl := given_len hin (i := 0) rfl
  rw [len_dSt] at hl
  have hF := fun k (hk : k < l.length) => hp _ (nth_mem hk)
  clear hp
  repeat' (first | refine goZ ?_ | ((first | refine R_cond rfl (fun hq => ?_) fun hq => ?_ | refine R_guardT rfl rfl rfl (fun hq => ?_) fun hq => ?_ | refine R_guardF rfl rfl rfl (fun hq => ?_) fun hq => ?_ | refine D_guardT rfl rfl rfl (fun hq => ?_) fun hq => ?_ | refine D_guardF rfl rfl rfl (fun hq => ?_) fun hq => ?_) <;> (try rw [hq]) <;> first | have hp := of_decide_eq_true hq | have hp := of_decide_eq_false hq | have hp := of_decide_eq_false (not_t hq) | have hp := of_decide_eq_true (not_f hq) | have hp := hq))
  refine W_loop (fun k : Nat => ⟨_, [(0, .sh 2 (l.map dSt)), (1, .fn fid [.sptr cs, .sptr cs']), (7, .lit (.int .i64 l.length)), (8, .lit (.int .i64 k))], []⟩) (fun k => k ≤ l.length ∧ ∀ j, j < k → p (nth l j) = false) (fun k => l.length - k) 0 ⟨Nat.zero_le _, by omega⟩ (weakZ []) ?_
  rintro k ⟨hk, hj⟩
  repeat' (first | refine goZ ?_ | refine R_callZ rfl (hF _ (by omega)) rfl rfl rfl ?_ | refine R_callvZ rfl (hF _ (by omega)) rfl rfl rfl rfl ?_ | refine D_callZ rfl (hF _ (by omega)) rfl rfl rfl ?_ | ((first | refine R_cond rfl (fun hq => ?_) fun hq => ?_ | refine R_guardT rfl rfl rfl (fun hq => ?_) fun hq => ?_ | refine R_guardF rfl rfl rfl (fun hq => ?_) fun hq => ?_ | refine D_guardT rfl rfl rfl (fun hq => ?_) fun hq => ?_ | refine D_guardF rfl rfl rfl (fun hq => ?_) fun hq => ?_) <;> (try rw [hq]) <;> first | have hp := of_decide_eq_true hq | have hp := of_decide_eq_false hq | have hp := of_decide_eq_false (not_t hq) | have hp := of_decide_eq_true (not_f hq) | have hp := hq))
  · exact ret_int' rfl (findIx_at p (by omega) hj hq).symm
  · exact ⟨k + 1, ⟨by omega, fun j hj' => by by_cases e : j = k; (rw [e]; exact hq); exact hj j (by omega)⟩, by omega, weakZ _⟩
  · exact ret_int' rfl (findIx_not p (allN fun j h => hj j (by omega))).symm

theorem shortest1_f (n : Nat) (E : List (Int × Int)) (k : Int) (d : Nat) (e : Int × Int) (he : 0 ≤ e.1 ∧ e.1 < n) (hk : 0 ≤ k ∧ k < n) (hd : dist E 0 k = (d : Int) + 1) (hn : n ≤ 300) (hdn : d ≤ 300) : Fn Try.prog 141 [.agg (dSt e), .sptr [.lit (.int .i64 k)], .sptr [.sh 1 (ints (distL n E 0))]] (.lit (.bool (comeP E d k e))) [] := by
  refine Fn_of Try.func141 rfl (by kernel_rfl) rfl rfl ?_
  intro w0 A hin
  have hl := len_ints (distL n E 0)
  have hl2 := distL_len n E 0
  have h1 : nth (distL n E 0) e.1.toNat = dist E 0 e.1 := by rw [distL_nth (by omega), Int.toNat_of_nonneg he.1]
  have h2 : nth (distL n E 0) k.toNat = (d : Int) + 1 := by rw [distL_nth (by omega), Int.toNat_of_nonneg hk.1, hd]
  repeat' (first | refine goZ ?_ | ((first | refine R_cond rfl (fun hq => ?_) fun hq => ?_ | refine R_guardT rfl rfl rfl (fun hq => ?_) fun hq => ?_ | refine R_guardF rfl rfl rfl (fun hq => ?_) fun hq => ?_ | refine D_guardT rfl rfl rfl (fun hq => ?_) fun hq => ?_ | refine D_guardF rfl rfl rfl (fun hq => ?_) fun hq => ?_) <;> (try rw [hq]) <;> first | have hp := of_decide_eq_true hq | have hp := of_decide_eq_false hq | have hp := of_decide_eq_false (not_t hq) | have hp := of_decide_eq_true (not_f hq) | have hp := hq))
  · exact ret_bool' rfl (by rw [comeP, h1, h2, show ((d : Int) + 1 - 1) = d by omega, decide_eq_true hp, Bool.true_and])
  · exact ret_bool' rfl (by rw [comeP, decide_eq_false hp, Bool.false_and])

/-- The edges of a shortest way, the first one first. -/
noncomputable def pthL (E : List (Int × Int)) (k : Int) : List Int := (wayL E (dist E 0 k).toNat k).reverse

set_option maxHeartbeats 1600000 in
theorem shortest_f (n : Nat) (E : List (Int × Int)) (k : Int) (h1 : 1 ≤ n) (hn : n ≤ 300) (hl : E.length ≤ 4000) (hE : ∀ e ∈ E, (0 ≤ e.1 ∧ e.1 < n) ∧ 0 ≤ e.2 ∧ e.2 < n) (hk : 0 ≤ k ∧ k < n) : Fn Try.prog 98 [.lit (.int .i64 n), .sh 2 (E.map dSt), .lit (.int .i64 k)] (.tup [.own 0, .lit (.bool (decide (0 ≤ dist E 0 k)))]) [.arr 3 1 (ints (pthL E k)) true] := by
  refine Fn_of Try.func98 rfl (by kernel_rfl) rfl rfl ?_
  intro w0 A hin
  have hz := len_dSt E
  have hl1 := len_ints (distL n E 0)
  have hl2 := distL_len n E 0
  have h2 : ∀ k : Int, 0 ≤ k → k < n → nth (distL n E 0) k.toNat = dist E 0 k := fun k h0 h1 => by rw [distL_nth (by omega), Int.toNat_of_nonneg h0]
  have hk0 := h2 k hk.1 hk.2
  have hD := distances_f n E 0 h1 hn hl hE (by omega)
  repeat' (first | refine goZ ?_ | refine R_callZ rfl (hD) rfl rfl rfl ?_ | refine R_callvZ rfl (hD) rfl rfl rfl rfl ?_ | refine D_callZ rfl (hD) rfl rfl rfl ?_ | ((first | refine R_cond rfl (fun hq => ?_) fun hq => ?_ | refine R_guardT rfl rfl rfl (fun hq => ?_) fun hq => ?_ | refine R_guardF rfl rfl rfl (fun hq => ?_) fun hq => ?_ | refine D_guardT rfl rfl rfl (fun hq => ?_) fun hq => ?_ | refine D_guardF rfl rfl rfl (fun hq => ?_) fun hq => ?_) <;> (try rw [hq]) <;> first | have hp := of_decide_eq_true hq | have hp := of_decide_eq_false hq | have hp := of_decide_eq_false (not_t hq) | have hp := of_decide_eq_true (not_f hq) | have hp := hq))
  · exact ret_nil_lit rfl (by rw [pthL, show (dist E 0 k).toNat = 0 by omega]; rfl) (by rw [decide_eq_false (show ¬ 0 ≤ dist E 0 k by omega)])
  have hd0 : 0 ≤ dist E 0 k := by omega
  have hdn : dist E 0 k < n := dist_lt (fun e he => (hE e he).2) (by omega)
  obtain ⟨d0, hd0⟩ : ∃ d0 : Nat, dist E 0 k = d0 := ⟨(dist E 0 k).toNat, by omega⟩
  refine W_loop (fun x : Nat × Int × List Int => ⟨_, [(1, .sh 2 (E.map dSt)), (5, .ptr 0 0), (8, .ptr 3 0), (9, .own 2)], [.cells 3 [.lit (.int .i64 x.2.1)], .arr 3 1 (ints (distL n E 0)) true, .arr 3 1 (ints x.2.2) true, .cells 41 [.own 1]]⟩) (fun x => (0 ≤ x.2.1 ∧ x.2.1 < n) ∧ dist E 0 x.2.1 = (x.1 : Int) ∧ x.2.2 ++ wayL E x.1 x.2.1 = wayL E d0 k) (fun x => x.1) (d0, k, []) ⟨hk, hd0, rfl⟩ (weakZ []) ?_
  rintro ⟨d, k', o⟩ ⟨hk', hd, ho⟩
  dsimp only at hk' hd ho ⊢
  have hkd := h2 k' hk'.1 hk'.2
  have hol : o.length + d = d0 := by have := congrArg List.length ho; simpa [wayL_len] using this
  have hlo := len_ints o
  obtain ⟨ix, hix⟩ : ∃ ix : Nat, ix = (findIx (comeP E ((d - 1 : Nat) : Int) k') E).toNat := ⟨_, rfl⟩
  have hI : 1 ≤ d → ix < E.length ∧ findIx (comeP E ((d - 1 : Nat) : Int) k') E = ix ∧ dist E 0 (nth E ix).1 = ((d - 1 : Nat) : Int) ∧ wayL E d k' = (ix : Int) :: wayL E (d - 1) (nth E ix).1 := fun h => by
    obtain ⟨i, a1, a2, a3, a4, _⟩ := come_ex (E := E) (d := d - 1) (k := k') (by omega)
    have e : ix = i := by rw [hix, a2, Int.toNat_natCast]
    subst e
    refine ⟨a1, a2, a4, ?_⟩
    have e2 : wayL E d k' = wayL E (d - 1 + 1) k' := by rw [show d - 1 + 1 = d by omega]
    rw [e2, wayL, a2, Int.toNat_natCast]
  have hC : 1 ≤ d → Fn Try.prog 140 [.sh 2 (E.map dSt), .fn 141 [.sptr [.lit (.int .i64 k')], .sptr [.sh 1 (ints (distL n E 0))]]] (.lit (.int .i64 ix)) [] := fun h => by
    rw [← (hI h).2.1]
    exact IndexFunc2_St_f E _ _ _ _ fun e he => shortest1_f n E k' (d - 1) e (hE e he).1 hk' (by omega) hn (by omega)
  have hIl : 1 ≤ d → ix < E.length := fun h => (hI h).1
  have hR := Reverse_I o (by omega)
  repeat' (first | refine goZ ?_ | refine R_callZ rfl (hC (by omega)) rfl rfl rfl ?_ | refine R_callvZ rfl (hC (by omega)) rfl rfl rfl rfl ?_ | refine R_inpS rfl hR rfl rfl rfl rfl ?_ | refine R_inpN rfl hR rfl rfl rfl ?_ | refine R_index tabOk rfl rfl rfl rfl rfl (rowAt_nat (hIl (by omega))) ?_ | refine D_callZ rfl (hC (by omega)) rfl rfl rfl ?_ | ((first | refine R_cond rfl (fun hq => ?_) fun hq => ?_ | refine R_guardT rfl rfl rfl (fun hq => ?_) fun hq => ?_ | refine R_guardF rfl rfl rfl (fun hq => ?_) fun hq => ?_ | refine D_guardT rfl rfl rfl (fun hq => ?_) fun hq => ?_ | refine D_guardF rfl rfl rfl (fun hq => ?_) fun hq => ?_) <;> (try rw [hq]) <;> first | have hp := of_decide_eq_true hq | have hp := of_decide_eq_false hq | have hp := of_decide_eq_false (not_t hq) | have hp := of_decide_eq_true (not_f hq) | have hp := hq))
  · have h1d : 1 ≤ d := by omega
    obtain ⟨a1, a2, a3, a4⟩ := hI h1d
    refine ⟨(d - 1, (nth E ix).1, o ++ [(ix : Int)]), ⟨(hE _ (nth_mem a1)).1, a3, by dsimp only; rw [← ho, a4, List.append_assoc]; rfl⟩, by dsimp only; omega, ?_⟩
    simp only [ints_snoc]
    exact weakZ _
  · have hd1 : d = 0 := by omega
    subst hd1
    exact ret_own_lit rfl rfl (by rw [pthL, hd0, Int.toNat_natCast, ← ho, wayL, List.append_nil]) (by rw [decide_eq_true (by omega)])

/-! ### Firing sequences -/
def byL (l : List Mv) (p : List Int) : List Int := p.map fun i => (nth l i.toNat).by_
def kB (r : RGraph) (k : Int) : Bool := goodReach r && decide (0 ≤ k ∧ k ≤ (r.marks.length : Int) - 1)
noncomputable def seqB (r : RGraph) (k : Int) : Bool := kB r k && decide (0 ≤ dist (mvE r.moves) 0 k)
noncomputable def seqL (r : RGraph) (k : Int) : List Int := if seqB r k then byL r.moves (pthL (mvE r.moves) k) else []
theorem pthL_len {E : List (Int × Int)} {k : Int} {n : Nat} (hE : ∀ e ∈ E, (0 ≤ e.1 ∧ e.1 < n) ∧ 0 ≤ e.2 ∧ e.2 < n) (hn : 1 ≤ n) : (pthL E k).length ≤ n := by
  have := dist_lt (E := E) (s := 0) (v := k) (fun e he => (hE e he).2) (show (0 : Int) ≤ 0 ∧ (0 : Int) < n by omega)
  rw [pthL, List.length_reverse, wayL_len]; omega
theorem mvE_ok {r : RGraph} (h : goodReach r = true) : ∀ e ∈ mvE r.moves, (0 ≤ e.1 ∧ e.1 < r.marks.length) ∧ 0 ≤ e.2 ∧ e.2 < r.marks.length := by
  intro e he
  obtain ⟨m, hm, rfl⟩ := List.mem_map.1 he
  have := goodReach_mv h m hm
  exact ⟨this.1, this.2.1⟩
theorem kB_good {r : RGraph} {k : Int} (h : kB r k = true) : goodReach r = true ∧ 0 ≤ k ∧ k < r.marks.length := by
  simp only [kB, Bool.and_eq_true, decide_eq_true_eq] at h
  exact ⟨h.1, by omega, by omega⟩
theorem seqL_len (r : RGraph) (k : Int) : (seqL r k).length ≤ 300 := by
  unfold seqL
  split
  · rename_i h
    simp only [seqB, Bool.and_eq_true] at h
    have hg := kB_good h.1
    have hl := goodReach_len hg.1
    have := pthL_len (k := k) (mvE_ok hg.1) hl.1
    simp only [byL, List.length_map]; omega
  · simp
theorem pthL_in {E : List (Int × Int)} {k : Int} {n : Nat} (hE : ∀ e ∈ E, (0 ≤ e.1 ∧ e.1 < n) ∧ 0 ≤ e.2 ∧ e.2 < n) (h : 0 ≤ dist E 0 k) : ∀ x ∈ pthL E k, 0 ≤ x ∧ x < E.length := by
  intro x hx
  exact wayL_in hE (dist E 0 k).toNat k (by rw [Int.toNat_of_nonneg h]) x (by simpa [pthL] using hx)

/-! ### The reference's distances -/
def minL (n k : Nat) : List Int := List.replicate k (-1) ++ List.replicate (n - k) 0
theorem minL_len {n k : Nat} (h : k ≤ n) : (minL n k).length = n := by simp [minL]; omega
theorem minL_set {n k : Nat} (h : k < n) : (minL n k).set k (-1) = minL n (k + 1) := by
  unfold minL
  rw [List.set_append_right _ _ (by simp), List.length_replicate, Nat.sub_self, show n - k = n - (k + 1) + 1 by omega, List.replicate_succ, List.set_cons_zero, List.replicate_succ']
  simp

set_option maxHeartbeats 4000000 in
theorem l4Far_f (r : RGraph) (h1 : 1 ≤ r.marks.length) (h2 : r.marks.length ≤ 300) (h3 : r.moves.length ≤ 4000) (hE : ∀ e ∈ mvE r.moves, (0 ≤ e.1 ∧ e.1 < r.marks.length) ∧ 0 ≤ e.2 ∧ e.2 < r.marks.length) : Fn Try.prog 89 [.agg (dRGraph r), .lit (.int .i64 0)] (.own 0) [.arr 3 1 (ints (distL r.marks.length (mvE r.moves) 0)) true] := by
  refine Fn_of Try.func89 rfl (by kernel_rfl) rfl rfl ?_
  intro w0 A hin
  have hzs := len_strs r.marks
  have hzm := len_dMv r.moves
  have hEl := mvE_len r.moves
  have e0 : List.replicate (strs r.marks).length [D.lit (.int .i64 0)] = ints (minL r.marks.length 0) := by rw [hzs]; simp [ints, minL]
  have hz0 := len_ints (minL r.marks.length 0)
  have hz1 := minL_len (n := r.marks.length) (k := 0) (by omega)
  repeat' (first | (refine R_makeZ tabOk rfl rfl rfl rfl rfl rfl rfl rfl rfl rfl rfl (by omega) ?_; rw [e0]) | refine go1 ?_ | ((first | refine R_cond rfl (fun hq => ?_) fun hq => ?_ | refine R_guardT rfl rfl rfl (fun hq => ?_) fun hq => ?_ | refine R_guardF rfl rfl rfl (fun hq => ?_) fun hq => ?_ | refine D_guardT rfl rfl rfl (fun hq => ?_) fun hq => ?_ | refine D_guardF rfl rfl rfl (fun hq => ?_) fun hq => ?_) <;> (try rw [hq]) <;> first | have hp := of_decide_eq_true hq | have hp := of_decide_eq_false hq | have hp := of_decide_eq_false (not_t hq) | have hp := of_decide_eq_true (not_f hq) | have hp := hq))
  refine W_loop (fun k : Nat => ⟨_, [(1, .lit (.int .i64 0)), (2, .ptr 0 0), (5, .own 1), (15, .lit (.int .i64 r.marks.length)), (16, .lit (.int .i64 k))], [.cells 114 (dRGraph r), .arr 3 1 (ints (minL r.marks.length k)) true]⟩) (fun k => k ≤ r.marks.length) (fun k => r.marks.length - k) 0 (Nat.zero_le _) (by rw [show (r.marks.length : Int) = ((minL r.marks.length 0).length : Int) by omega]; exact weakZ []) ?_
  intro k hk
  have hz3 := len_ints (minL r.marks.length k)
  have hz4 := minL_len hk
  repeat' (first | refine goZ ?_ | ((first | refine R_cond rfl (fun hq => ?_) fun hq => ?_ | refine R_guardT rfl rfl rfl (fun hq => ?_) fun hq => ?_ | refine R_guardF rfl rfl rfl (fun hq => ?_) fun hq => ?_ | refine D_guardT rfl rfl rfl (fun hq => ?_) fun hq => ?_ | refine D_guardF rfl rfl rfl (fun hq => ?_) fun hq => ?_) <;> (try rw [hq]) <;> first | have hp := of_decide_eq_true hq | have hp := of_decide_eq_false hq | have hp := of_decide_eq_false (not_t hq) | have hp := of_decide_eq_true (not_f hq) | have hp := hq))
  · refine ⟨k + 1, by omega, by omega, ?_⟩
    rw [← minL_set (show k < r.marks.length by omega)]
    exact weakZ _
  have ek : k = r.marks.length := by omega
  subst ek
  have e1 : minL r.marks.length r.marks.length = List.replicate r.marks.length (-1) := by simp [minL]
  rw [e1]
  refine W_loop (fun x : Nat × List Int => ⟨_, [(2, .ptr 0 0), (5, .own 1), (7, .lit (.int .i64 x.1))], [.cells 114 (dRGraph r), .arr 3 1 (ints x.2) true]⟩) (fun x => x.1 ≤ r.marks.length ∧ FarR (mvE r.moves) r.marks.length x.1 0 x.2) (fun x => r.marks.length - x.1) (0, (List.replicate r.marks.length (-1)).set (0 : Int).toNat 0) ⟨Nat.zero_le _, far_init (by omega)⟩ (weakZ _) ?_
  rintro ⟨d, l⟩ ⟨hd, hF⟩
  dsimp only at hd hF ⊢
  have hl1 := hF.len
  have hl2 := len_ints l
  repeat' (first | refine goZ ?_ | ((first | refine R_cond rfl (fun hq => ?_) fun hq => ?_ | refine R_guardT rfl rfl rfl (fun hq => ?_) fun hq => ?_ | refine R_guardF rfl rfl rfl (fun hq => ?_) fun hq => ?_ | refine D_guardT rfl rfl rfl (fun hq => ?_) fun hq => ?_ | refine D_guardF rfl rfl rfl (fun hq => ?_) fun hq => ?_) <;> (try rw [hq]) <;> first | have hp := of_decide_eq_true hq | have hp := of_decide_eq_false hq | have hp := of_decide_eq_false (not_t hq) | have hp := of_decide_eq_true (not_f hq) | have hp := hq))
  rotate_right
  · have ed : d = r.marks.length := by omega
    subst ed
    exact ret_own rfl rfl (by rw [far_fin hF (by omega) hE])
  refine W_loop (fun x : Nat × List Int => ⟨_, [(2, .ptr 0 0), (5, .own 1), (7, .lit (.int .i64 d)), (33, .sh 3 (r.moves.map dMv)), (34, .lit (.int .i64 r.moves.length)), (35, .lit (.int .i64 x.1))], [.cells 114 (dRGraph r), .arr 3 1 (ints x.2) true]⟩) (fun x => x.1 ≤ r.moves.length ∧ FarR (mvE r.moves) r.marks.length d x.1 x.2) (fun x => r.moves.length - x.1) (0, l) ⟨Nat.zero_le _, hF⟩ (weakZ []) ?_
  rintro ⟨j, l2⟩ ⟨hj, hF2⟩
  dsimp only at hj hF2 ⊢
  have hl3 := hF2.len
  have hl4 := len_ints l2
  have hmv : j < r.moves.length → _ := fun h => hE (nth (mvE r.moves) j) (nth_mem (by rw [mvE_len]; exact h))
  have hnE : j < r.moves.length → nth (mvE r.moves) j = ((nth r.moves j).src, (nth r.moves j).dst) := fun h => mvE_nth h
  have hb : j < r.moves.length → (0 ≤ (nth r.moves j).src ∧ (nth r.moves j).src < r.marks.length) ∧ 0 ≤ (nth r.moves j).dst ∧ (nth r.moves j).dst < r.marks.length := fun h => by have := hmv h; rw [hnE h] at this; exact this
  repeat' (first | refine goZ ?_ | ((first | refine R_cond rfl (fun hq => ?_) fun hq => ?_ | refine R_guardT rfl rfl rfl (fun hq => ?_) fun hq => ?_ | refine R_guardF rfl rfl rfl (fun hq => ?_) fun hq => ?_ | refine D_guardT rfl rfl rfl (fun hq => ?_) fun hq => ?_ | refine D_guardF rfl rfl rfl (fun hq => ?_) fun hq => ?_) <;> (try rw [hq]) <;> first | have hp := of_decide_eq_true hq | have hp := of_decide_eq_false hq | have hp := of_decide_eq_false (not_t hq) | have hp := of_decide_eq_true (not_f hq) | have hp := hq))
  · have hjl : j < r.moves.length := by omega
    have e := hnE hjl
    have := far_yes hF2 (by omega) hE (by rw [e]; show nth l2 (nth r.moves j).src.toNat = d; assumption) (by rw [e]; exact hp)
    rw [e] at this
    exact ⟨(j + 1, _), ⟨by dsimp only; omega, this⟩, by dsimp only; omega, weakZ _⟩
  · have hjl : j < r.moves.length := by omega
    have e := hnE hjl
    exact ⟨(j + 1, l2), ⟨by dsimp only; omega, far_no hF2 (by omega) hE (by rw [e]; exact fun h => hp h.2)⟩, by dsimp only; omega, weakZ _⟩
  · have hjl : j < r.moves.length := by omega
    have e := hnE hjl
    exact ⟨(j + 1, l2), ⟨by dsimp only; omega, far_no hF2 (by omega) hE (by rw [e]; exact fun h => hp h.1)⟩, by dsimp only; omega, weakZ _⟩
  · exact ⟨(d + 1, l2), ⟨by dsimp only; omega, far_end hF2 (by omega)⟩, by dsimp only; omega, weakZ _⟩

end Go.Proofs.Ytcmedjlpaondjaa
namespace Go.Proofs.Ytcmedjlpaondjaa
open Go.ChangeShapes Go.WideShapes Go.ChangeAt Go.RowKit

theorem arcE_ok {c : SGraph} (h : goodSG c = true) : ∀ e ∈ arcE c.arcs, (0 ≤ e.1 ∧ e.1 < c.codes.length) ∧ 0 ≤ e.2 ∧ e.2 < c.codes.length := by
  simp only [goodSG, sgB, Bool.and_eq_true] at h
  exact ends_of h.1.2.2
theorem stateB_good {c : SGraph} {k : Int} (h : stateB c k = true) : goodSG c = true ∧ (0 ≤ k ∧ k < c.codes.length) ∧ 0 ≤ dist (arcE c.arcs) 0 k := by
  simp only [stateB, Bool.and_eq_true, decide_eq_true_eq] at h
  have h2 := h.1
  simp only [goodSG, sgB, Bool.and_eq_true, decide_eq_true_eq] at h2
  have := h2.2 k.toNat (by omega)
  rw [Int.toNat_of_nonneg h.2.1] at this
  exact ⟨h.1, by omega, this⟩
def spL (l : List ArcD) (p : List Int) : List ArcD := p.map fun i => nth l i.toNat
noncomputable def wyL (c : SGraph) (k : Int) : List ArcD := spL c.arcs (pthL (arcE c.arcs) k)
noncomputable def spR (c : SGraph) (k : Int) : List ArcD := if stateB c k then wyL c k else []
theorem wyL_len {c : SGraph} (h : goodSG c = true) (k : Int) : (wyL c k).length ≤ 300 := by
  have hl := goodSG_len h
  have := pthL_len (k := k) (arcE_ok h) hl.2.2.1
  simp only [wyL, spL, List.length_map]; omega
theorem spR_len (c : SGraph) (k : Int) : (spR c k).length ≤ 300 := by
  unfold spR
  split
  · rename_i h; exact wyL_len (stateB_good h).1 k
  · simp

set_option maxHeartbeats 1600000 in
theorem pathTo_f (c : SGraph) (k : Int) (h : stateB c k = true) : Fn Try.prog 45 [.agg (dSGraph c), .lit (.int .i64 k)] (.own 0) [.arr 69 4 ((wyL c k).map dArcD) true] := by
  refine Fn_of Try.func45 rfl (by kernel_rfl) rfl rfl ?_
  intro w0 A hin
  obtain ⟨hg, hk, hd⟩ := stateB_good h
  have hl := goodSG_len hg
  have hE := arcE_ok hg
  have hzs := len_strs c.codes
  have hza := len_dArcD c.arcs
  have hEl := arcE_len c.arcs
  have hz2 := len_dSt (arcE c.arcs)
  have hP := shortest_f (strs c.codes).length (arcE c.arcs) k (by omega) (by omega) (by omega) (by rw [hzs]; exact hE) (by omega)
  have hpl := pthL_len (k := k) hE hl.2.2.1
  have hpz := len_ints (pthL (arcE c.arcs) k)
  have hpi := pthL_in hE hd
  have hfl : ∀ l : List ArcD, Flat (l.map dArcD) := fun l => flat_map (by simp [dArcD, isLit])
  repeat' (first | refine goZ ?_ | refine R_callZ rfl (arcSteps_f c.arcs (by omega)) rfl rfl rfl ?_ | refine R_callvZ rfl (arcSteps_f c.arcs (by omega)) rfl rfl rfl rfl ?_ | refine D_callZ rfl (arcSteps_f c.arcs (by omega)) rfl rfl rfl ?_ | refine D_callxZ rfl (hP) rfl rfl rfl rfl (by repeat' (first | exact trivial | rfl | refine And.intro ?_ ?_)) ?_ | ((first | refine R_cond rfl (fun hq => ?_) fun hq => ?_ | refine R_guardT rfl rfl rfl (fun hq => ?_) fun hq => ?_ | refine R_guardF rfl rfl rfl (fun hq => ?_) fun hq => ?_ | refine D_guardT rfl rfl rfl (fun hq => ?_) fun hq => ?_ | refine D_guardF rfl rfl rfl (fun hq => ?_) fun hq => ?_) <;> (try rw [hq]) <;> first | have hp := of_decide_eq_true hq | have hp := of_decide_eq_false hq | have hp := of_decide_eq_false (not_t hq) | have hp := of_decide_eq_true (not_f hq) | have hp := hq))
  refine W_loop (fun j : Nat => ⟨_, [(2, .ptr 0 0), (5, .own 1), (22, .own 3), (23, .lit (.int .i64 (pthL (arcE c.arcs) k).length)), (24, .lit (.int .i64 j))], [.cells 35 (dSGraph c), .arr 69 4 ((spL c.arcs ((pthL (arcE c.arcs) k).take j)).map dArcD) true, .arr 146 2 ((arcE c.arcs).map dSt) true, .arr 3 1 (ints (pthL (arcE c.arcs) k)) true]⟩) (fun j => j ≤ (pthL (arcE c.arcs) k).length) (fun j => (pthL (arcE c.arcs) k).length - j) 0 (Nat.zero_le _) (by rw [← hpz]; exact weakZ []) ?_
  intro j hj
  have hb1 : (spL c.arcs ((pthL (arcE c.arcs) k).take j)).length ≤ j := by simp [spL]; omega
  have hx2 : j < (pthL (arcE c.arcs) k).length → 0 ≤ nth (pthL (arcE c.arcs) k) j ∧ nth (pthL (arcE c.arcs) k) j < c.arcs.length := fun h => by have := hpi _ (nth_mem h); omega
  repeat' (first | refine goZ ?_ | refine R_index tabOk rfl rfl rfl rfl rfl (rowAt_int (hx2 (by omega)).1 (hx2 (by omega)).2) ?_ | ((first | refine R_cond rfl (fun hq => ?_) fun hq => ?_ | refine R_guardT rfl rfl rfl (fun hq => ?_) fun hq => ?_ | refine R_guardF rfl rfl rfl (fun hq => ?_) fun hq => ?_ | refine D_guardT rfl rfl rfl (fun hq => ?_) fun hq => ?_ | refine D_guardF rfl rfl rfl (fun hq => ?_) fun hq => ?_) <;> (try rw [hq]) <;> first | have hp := of_decide_eq_true hq | have hp := of_decide_eq_false hq | have hp := of_decide_eq_false (not_t hq) | have hp := of_decide_eq_true (not_f hq) | have hp := hq))
  · refine ⟨j + 1, by omega, by omega, ?_⟩
    have e : (spL c.arcs ((pthL (arcE c.arcs) k).take (j + 1))).map dArcD = (spL c.arcs ((pthL (arcE c.arcs) k).take j)).map dArcD ++ [dArcD (nth c.arcs (nth (pthL (arcE c.arcs) k) j).toNat)] := by
      rw [take_nth (show j < (pthL (arcE c.arcs) k).length by omega)]; simp [spL]
    simp only [e]
    exact weakZ _
  · exact ret_own rfl rfl (by rw [wyL, List.take_of_length_le (by omega)])

/-! ### The reference -/
def mvX (l : List ArcD) (j : Nat) : List Mv := (List.range j).map fun i : Nat => ⟨(nth l i).src, (i : Int), (nth l i).dst⟩
theorem mvX_len (l : List ArcD) (j : Nat) : (mvX l j).length = j := by simp [mvX]
theorem mvX_snoc (l : List ArcD) (j : Nat) : mvX l (j + 1) = mvX l j ++ [⟨(nth l j).src, (j : Int), (nth l j).dst⟩] := by simp [mvX, List.range_succ]
theorem mvX_nth {l : List ArcD} {n j : Nat} (h : j < n) : nth (mvX l n) j = ⟨(nth l j).src, (j : Int), (nth l j).dst⟩ := by
  rw [nth_get (by rw [mvX_len]; exact h)]; simp [mvX]
theorem mvX_E (l : List ArcD) : mvE (mvX l l.length) = arcE l := by
  apply List.ext_getElem
  · simp [mvE, mvX, arcE]
  · intro i h1 h2
    have h3 : i < l.length := by rw [arcE_len] at h2; exact h2
    rw [← nth_get h1, ← nth_get h2, mvE_nth (by rw [mvX_len]; exact h3), arcE_nth h3, mvX_nth h3]
def rgX (c : SGraph) : RGraph := ⟨List.replicate c.codes.length ByteArray.empty, mvX c.arcs c.arcs.length⟩

set_option maxHeartbeats 1600000 in
theorem l5Moves_f (c : SGraph) (hg : goodSG c = true) : Fn Try.prog 88 [.agg (dSGraph c)] (.agg [.own 0, .own 1]) [.arr 9 1 (strs (rgX c).marks) true, .arr 118 3 ((rgX c).moves.map dMv) true] := by
  refine Fn_ofC tabOk Try.func88 rfl (by kernel_rfl) rfl rfl ?_
  intro w0 A hin
  have hl := goodSG_len hg
  have hzs := len_strs c.codes
  have hza := len_dArcD c.arcs
  repeat' (first | refine goZ ?_ | ((first | refine R_cond rfl (fun hq => ?_) fun hq => ?_ | refine R_guardT rfl rfl rfl (fun hq => ?_) fun hq => ?_ | refine R_guardF rfl rfl rfl (fun hq => ?_) fun hq => ?_ | refine D_guardT rfl rfl rfl (fun hq => ?_) fun hq => ?_ | refine D_guardF rfl rfl rfl (fun hq => ?_) fun hq => ?_) <;> (try rw [hq]) <;> first | have hp := of_decide_eq_true hq | have hp := of_decide_eq_false hq | have hp := of_decide_eq_false (not_t hq) | have hp := of_decide_eq_true (not_f hq) | have hp := hq))
  refine W_openC 3 1 118 3 rfl rfl (by exact rfl) ?_
  refine W_loop (fun j : Nat => ⟨_, [(1, .ptr 0 0), (2, .ptr 1 0), (3, .ptr 3 0), (12, .sh 4 (c.arcs.map dArcD)), (13, .lit (.int .i64 c.arcs.length)), (14, .lit (.int .i64 j))], [.cells 35 (dSGraph c), .cells 114 [.nil, .nil], .arr 9 1 (strs (rgX c).marks) true, .cells 114 [.own 2, .own 4], .arr 118 3 ((mvX c.arcs j).map dMv) true]⟩) (fun j => j ≤ c.arcs.length) (fun j => c.arcs.length - j) 0 (Nat.zero_le _) (by
    have e : strs (rgX c).marks = List.replicate (strs c.codes).length [D.lit (.string ByteArray.empty)] := by rw [hzs]; simp [strs, rgX]
    rw [e, show (c.arcs.length : Int) = ((c.arcs.map dArcD).length : Int) by omega]
    exact weakZ []) ?_
  intro j hj
  have hb1 := mvX_len c.arcs j
  repeat' (first | refine goZ ?_ | ((first | refine R_cond rfl (fun hq => ?_) fun hq => ?_ | refine R_guardT rfl rfl rfl (fun hq => ?_) fun hq => ?_ | refine R_guardF rfl rfl rfl (fun hq => ?_) fun hq => ?_ | refine D_guardT rfl rfl rfl (fun hq => ?_) fun hq => ?_ | refine D_guardF rfl rfl rfl (fun hq => ?_) fun hq => ?_) <;> (try rw [hq]) <;> first | have hp := of_decide_eq_true hq | have hp := of_decide_eq_false hq | have hp := of_decide_eq_false (not_t hq) | have hp := of_decide_eq_true (not_f hq) | have hp := hq))
  · refine ⟨j + 1, by omega, by omega, ?_⟩
    have e : (mvX c.arcs (j + 1)).map dMv = (mvX c.arcs j).map dMv ++ [dMv ⟨(nth c.arcs j).src, (j : Int), (nth c.arcs j).dst⟩] := by rw [mvX_snoc]; simp
    simp only [e]
    exact weakZ _
  · have ej : j = c.arcs.length := by omega
    subst ej
    first | exact .r ⟨_, [some 2, some 4], rfl, ⟨rfl, rfl, trivial⟩, ⟨rfl, rfl, rfl, rfl, trivial⟩, by simp⟩ | exact .n ⟨_, [some 2, some 4], rfl, ⟨rfl, rfl, trivial⟩, ⟨rfl, rfl, rfl, rfl, trivial⟩, by simp⟩

set_option maxHeartbeats 4000000 in
theorem l5Way_f (c : SGraph) (k : Int) (h : stateB c k = true) : Fn Try.prog 38 [.agg (dSGraph c), .lit (.int .i64 k)] (.own 0) [.arr 69 4 ((wyL c k).map dArcD) true] := by
  refine Fn_of Try.func38 rfl (by kernel_rfl) rfl rfl ?_
  intro w0 A hin
  obtain ⟨hg, hkr, hdk⟩ := stateB_good h
  have hl := goodSG_len hg
  have hE := arcE_ok hg
  have hza := len_dArcD c.arcs
  have hEl := arcE_len c.arcs
  have hX := mvX_E c.arcs
  have hXl := mvX_len c.arcs c.arcs.length
  have hzm := len_dMv (rgX c).moves
  have hm1 : (rgX c).marks.length = c.codes.length := by simp [rgX]
  have hm2 : (rgX c).moves.length = c.arcs.length := hXl
  have hF := l4Far_f (rgX c) (by omega) (by omega) (by omega) (by rw [hm1]; show ∀ e ∈ mvE (mvX c.arcs c.arcs.length), _; rw [hX]; exact hE)
  rw [hm1, show mvE (rgX c).moves = arcE c.arcs from hX] at hF
  have hl1 := len_ints (distL c.codes.length (arcE c.arcs) 0)
  have hl2 := distL_len c.codes.length (arcE c.arcs) 0
  have hdd : ∀ k : Int, 0 ≤ k → k < c.codes.length → nth (distL c.codes.length (arcE c.arcs) 0) k.toNat = dist (arcE c.arcs) 0 k := fun k h0 h1 => by rw [distL_nth (by omega), Int.toNat_of_nonneg h0]
  have hdn := dist_lt (E := arcE c.arcs) (s := 0) (v := k) (n := c.codes.length) (fun e he => (hE e he).2) (by omega)
  obtain ⟨d0, hd0⟩ : ∃ d0 : Nat, dist (arcE c.arcs) 0 k = d0 := ⟨(dist (arcE c.arcs) 0 k).toNat, by omega⟩
  have hfl : ∀ l : List ArcD, Flat (l.map dArcD) := fun l => flat_map (by simp [dArcD, isLit])
  repeat' (first | refine goZ ?_ | refine R_callZ rfl (l5Moves_f c hg) rfl rfl rfl ?_ | refine R_callvZ rfl (l5Moves_f c hg) rfl rfl rfl rfl ?_ | refine R_callxZ rfl (hF) rfl rfl rfl rfl (by repeat' (first | exact trivial | rfl | refine And.intro ?_ ?_)) ?_ | refine D_callZ rfl (l5Moves_f c hg) rfl rfl rfl ?_ | refine D_callxZ rfl (hF) rfl rfl rfl rfl (by repeat' (first | exact trivial | rfl | refine And.intro ?_ ?_)) ?_ | ((first | refine R_cond rfl (fun hq => ?_) fun hq => ?_ | refine R_guardT rfl rfl rfl (fun hq => ?_) fun hq => ?_ | refine R_guardF rfl rfl rfl (fun hq => ?_) fun hq => ?_ | refine D_guardT rfl rfl rfl (fun hq => ?_) fun hq => ?_ | refine D_guardF rfl rfl rfl (fun hq => ?_) fun hq => ?_) <;> (try rw [hq]) <;> first | have hp := of_decide_eq_true hq | have hp := of_decide_eq_false hq | have hp := of_decide_eq_false (not_t hq) | have hp := of_decide_eq_true (not_f hq) | have hp := hq))
  refine W_open 7 69 4 rfl ?_
  refine W_loop (fun x : Nat × Int × List ArcD => ⟨_, [(1, .lit (.int .i64 x.2.1)), (2, .ptr 0 0), (5, .ptr 3 0), (6, .own 4), (7, .own 5)], [.cells 35 (dSGraph c), .arr 9 1 (strs (rgX c).marks) true, .arr 118 3 ((rgX c).moves.map dMv) true, .cells 114 [.own 1, .own 2], .arr 3 1 (ints (distL c.codes.length (arcE c.arcs) 0)) true, .arr 69 4 (x.2.2.map dArcD) true]⟩) (fun x => (0 ≤ x.2.1 ∧ x.2.1 < c.codes.length) ∧ dist (arcE c.arcs) 0 x.2.1 = (x.1 : Int) ∧ spL c.arcs (wayL (arcE c.arcs) x.1 x.2.1).reverse ++ x.2.2 = spL c.arcs (wayL (arcE c.arcs) d0 k).reverse) (fun x => x.1) (d0, k, []) ⟨hkr, hd0, by simp⟩ (weakZ []) ?_
  rintro ⟨d, k', o⟩ ⟨hk', hd, ho⟩
  dsimp only at hk' hd ho ⊢
  have hol : d + o.length = d0 := by have := congrArg List.length ho; simpa [spL, wayL_len] using this
  have hlo := len_dArcD o
  have hkd := hdd k' hk'.1 hk'.2
  have h0d : d = 0 → k' = 0 := fun h => by
    have hw := dist_walk (E := arcE c.arcs) (s := 0) (v := k') (by omega)
    rw [hd, h] at hw
    cases hw; rfl
  have hd0' : k' = 0 → d = 0 := fun h => by
    have := dist_start (E := arcE c.arcs) (s := 0)
    rw [h] at hd; omega
  repeat' (first | refine goZ ?_ | ((first | refine R_cond rfl (fun hq => ?_) fun hq => ?_ | refine R_guardT rfl rfl rfl (fun hq => ?_) fun hq => ?_ | refine R_guardF rfl rfl rfl (fun hq => ?_) fun hq => ?_ | refine D_guardT rfl rfl rfl (fun hq => ?_) fun hq => ?_ | refine D_guardF rfl rfl rfl (fun hq => ?_) fun hq => ?_) <;> (try rw [hq]) <;> first | have hp := of_decide_eq_true hq | have hp := of_decide_eq_false hq | have hp := of_decide_eq_false (not_t hq) | have hp := of_decide_eq_true (not_f hq) | have hp := hq))
  rotate_right
  · have e1 := hd0' (by omega)
    subst e1
    exact ret_own rfl rfl (by rw [wyL, pthL, hd0, Int.toNat_natCast, ← ho]; simp [wayL, spL])
  have hd1 : 1 ≤ d := by
    rcases Nat.eq_zero_or_pos d with h | h
    · exact absurd (h0d h) (by assumption)
    · exact h
  refine W_loop (fun j : Nat => ⟨_, [(1, .lit (.int .i64 k')), (2, .ptr 0 0), (5, .ptr 3 0), (6, .own 4), (7, .own 5), (17, .own 2), (18, .lit (.int .i64 c.arcs.length)), (19, .lit (.int .i64 j))], [.cells 35 (dSGraph c), .arr 9 1 (strs (rgX c).marks) true, .arr 118 3 ((rgX c).moves.map dMv) true, .cells 114 [.own 1, .own 2], .arr 3 1 (ints (distL c.codes.length (arcE c.arcs) 0)) true, .arr 69 4 (o.map dArcD) true]⟩) (fun j => j ≤ c.arcs.length ∧ ∀ i, i < j → comeP (arcE c.arcs) ((d - 1 : Nat) : Int) k' (nth (arcE c.arcs) i) = false) (fun j => c.arcs.length - j) 0 ⟨Nat.zero_le _, by omega⟩ (by rw [show (c.arcs.length : Int) = (((rgX c).moves.map dMv).length : Int) by omega]; exact weakZ []) ?_
  rintro j ⟨hj, hJ⟩
  have hnE : j < c.arcs.length → nth (arcE c.arcs) j = ((nth c.arcs j).src, (nth c.arcs j).dst) := fun h => arcE_nth h
  have hnX : j < c.arcs.length → nth (rgX c).moves j = ⟨(nth c.arcs j).src, (j : Int), (nth c.arcs j).dst⟩ := fun h => mvX_nth h
  have hb : j < c.arcs.length → (0 ≤ (nth c.arcs j).src ∧ (nth c.arcs j).src < c.codes.length) ∧ 0 ≤ (nth c.arcs j).dst ∧ (nth c.arcs j).dst < c.codes.length := fun h => by have := hE (nth (arcE c.arcs) j) (nth_mem (by rw [arcE_len]; exact h)); rw [hnE h] at this; exact this
  have hdv : j < c.arcs.length → nth (distL c.codes.length (arcE c.arcs) 0) (nth c.arcs j).src.toNat = dist (arcE c.arcs) 0 (nth c.arcs j).src := fun h => hdd _ (hb h).1.1 (hb h).1.2
  have hrw : j < c.arcs.length → RowAt ((rgX c).moves.map dMv) (j : Int) [.lit (.int .i64 (nth c.arcs j).src), .lit (.int .i64 (j : Int)), .lit (.int .i64 (nth c.arcs j).dst)] := fun h => by
    have := rowAt_nat (l := (rgX c).moves) (f := dMv) (k := j) (by omega)
    rw [hnX h] at this; exact this
  repeat' (first | refine R_eload tabOk rfl rfl rfl (hrw (by omega)) rfl rfl ?_ | refine go1 ?_ | ((first | refine R_cond rfl (fun hq => ?_) fun hq => ?_ | refine R_guardT rfl rfl rfl (fun hq => ?_) fun hq => ?_ | refine R_guardF rfl rfl rfl (fun hq => ?_) fun hq => ?_ | refine D_guardT rfl rfl rfl (fun hq => ?_) fun hq => ?_ | refine D_guardF rfl rfl rfl (fun hq => ?_) fun hq => ?_) <;> (try rw [hq]) <;> first | have hp := of_decide_eq_true hq | have hp := of_decide_eq_false hq | have hp := of_decide_eq_false (not_t hq) | have hp := of_decide_eq_true (not_f hq) | have hp := hq))
  · have hjl : j < c.arcs.length := by omega
    have e1 := hdv hjl
    have hcm : comeP (arcE c.arcs) ((d - 1 : Nat) : Int) k' (nth (arcE c.arcs) j) = true := by
      rw [hnE hjl, comeP, Bool.and_eq_true, decide_eq_true_eq, decide_eq_true_eq]; dsimp only; omega
    have e2 : findIx (comeP (arcE c.arcs) ((d - 1 : Nat) : Int) k') (arcE c.arcs) = (j : Int) := findIx_at _ (by omega) hJ hcm
    have e3 : wayL (arcE c.arcs) d k' = (j : Int) :: wayL (arcE c.arcs) (d - 1) (nth c.arcs j).src := by
      have e4 : wayL (arcE c.arcs) d k' = wayL (arcE c.arcs) (d - 1 + 1) k' := by rw [show d - 1 + 1 = d by omega]
      rw [e4, wayL, e2, Int.toNat_natCast, hnE hjl]
    refine ⟨(d - 1, (nth c.arcs j).src, nth c.arcs j :: o), ⟨(hb hjl).1, ?_, ?_⟩, by dsimp only; omega, ?_⟩
    · dsimp only; omega
    · dsimp only; rw [← ho, e3]; simp [spL]
    · refine Weak_ren2 [some 0, some 1, some 2, some 3, some 4, some 7] rfl rfl ?_ ?_ <;> (repeat' (first | exact trivial | rfl | refine And.intro ?_ ?_ | (simp [St.get, look, ints, strs, bools]; done))) <;> done
  · have hjl : j < c.arcs.length := by omega
    refine ⟨j + 1, ⟨by omega, fun i hi => ?_⟩, by omega, weakZ _⟩
    by_cases e : i = j
    · subst e
      have := hdv hjl
      rw [hnE hjl, comeP, Bool.and_eq_false_iff, decide_eq_false_iff_not, decide_eq_false_iff_not]; dsimp only; omega
    · exact hJ i (by omega)
  · have hjl : j < c.arcs.length := by omega
    refine ⟨j + 1, ⟨by omega, fun i hi => ?_⟩, by omega, weakZ _⟩
    by_cases e : i = j
    · subst e
      have := hdv hjl
      rw [hnE hjl, comeP, Bool.and_eq_false_iff, decide_eq_false_iff_not, decide_eq_false_iff_not]; dsimp only; omega
    · exact hJ i (by omega)
  · have hjl : j < c.arcs.length := by omega
    refine ⟨j + 1, ⟨by omega, fun i hi => ?_⟩, by omega, weakZ _⟩
    by_cases e : i = j
    · subst e
      have := hdv hjl
      rw [hnE hjl, comeP, Bool.and_eq_false_iff, decide_eq_false_iff_not, decide_eq_false_iff_not]; dsimp only; omega
    · exact hJ i (by omega)
  · exfalso
    obtain ⟨i, a1, a2, a3, a4, _⟩ := come_ex (E := arcE c.arcs) (d := d - 1) (k := k') (by omega)
    have := hJ i (by omega)
    rw [comeP, a3, a4] at this
    simp at this

end Go.Proofs.Ytcmedjlpaondjaa
