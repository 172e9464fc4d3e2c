/- Shortest ways: the plain law; no program in sight. No condition. -/
import Derived.Test.YtjfipianehabgaaDist
import Derived.Test.YtjfipianehabgaaIx
import Derived.Test.YtjfipianehabgaaMv
set_option linter.unusedSimpArgs false
set_option linter.unusedVariables false
namespace Go.Proofs.Ytjfipianehabgaa

/-- The edge by which a shortest way comes to k at distance d + 1. -/
noncomputable def comeP (E : List (Int × Int)) (d : Int) (k : Int) (e : Int × Int) : Bool := decide (e.2 = k) && decide (dist E 0 e.1 = d)
/-- The edges of a shortest way to k, the last one first. -/
noncomputable def wayL (E : List (Int × Int)) : Nat → Int → List Int
  | 0, _ => []
  | d + 1, k => findIx (comeP E d k) E :: wayL E d (nth E (findIx (comeP E d k) E).toNat).1
theorem wayL_len (E : List (Int × Int)) : ∀ (d : Nat) (k : Int), (wayL E d k).length = d
  | 0, _ => rfl
  | d + 1, k => by simp [wayL, wayL_len E d]
section
variable {E : List (Int × Int)} {d : Nat} {k : Int}
theorem come_ex (h : dist E 0 k = (d : Int) + 1) : ∃ i : Nat, i < E.length ∧ findIx (comeP E d k) E = i ∧ (nth E i).2 = k ∧ dist E 0 (nth E i).1 = d ∧ ∀ j, j < i → comeP E d k (nth E j) = false := by
  have h1 : ¬ findIx (comeP E d k) E = -1 := by
    intro hf
    obtain ⟨u, h2, h3⟩ := dist_pred (E := E) (s := 0) (v := k) (by omega)
    have h4 := filter_none hf
    have h5 : (u, k) ∈ E.filter fun x => !comeP E d k x := by rw [h4]; exact h2
    have h6 := (List.mem_filter.1 h5).2
    simp [comeP] at h6
    omega
  obtain ⟨i, h2, h3, h4, h5⟩ := findIx_spec h1
  simp only [comeP, Bool.and_eq_true, decide_eq_true_eq] at h4
  exact ⟨i, h2, h3, h4.1, h4.2, h5⟩
theorem wayL_in {n : Nat} (hE : ∀ e ∈ E, (0 ≤ e.1 ∧ e.1 < n) ∧ 0 ≤ e.2 ∧ e.2 < n) : ∀ (d : Nat) (k : Int), dist E 0 k = (d : Int) → ∀ x ∈ wayL E d k, 0 ≤ x ∧ x < E.length
  | 0, _, _, x, hx => by simp [wayL] at hx
  | d + 1, k, h, x, hx => by
    obtain ⟨i, h1, h2, h3, h4, _⟩ := come_ex (E := E) (d := d) (k := k) (by omega)
    simp only [wayL, List.mem_cons] at hx
    rcases hx with rfl | hx
    · omega
    · rw [h2] at hx
      exact wayL_in hE d _ (by rw [Int.toNat_natCast]; exact h4) x hx
end

/-! ### Distances by rounds -/
/-- Behind d rounds, and the first j edges of the next one: what is known of the distances. -/
structure FarR (E : List (Int × Int)) (n : Nat) (d j : Nat) (l : List Int) : Prop where
  len : l.length = n
  near : ∀ v : Int, 0 ≤ v → v < n → 0 ≤ dist E 0 v → dist E 0 v ≤ d → atI l v = dist E 0 v
  next : ∀ v : Int, 0 ≤ v → v < n → dist E 0 v = d + 1 → (∃ i : Nat, i < j ∧ i < E.length ∧ (nth E i).2 = v ∧ dist E 0 (nth E i).1 = d) → atI l v = d + 1
  none : ∀ v : Int, 0 ≤ v → v < n → ¬ (0 ≤ dist E 0 v ∧ dist E 0 v ≤ d) → ¬ (dist E 0 v = d + 1 ∧ ∃ i : Nat, i < j ∧ i < E.length ∧ (nth E i).2 = v ∧ dist E 0 (nth E i).1 = d) → atI l v = -1
section
variable {E : List (Int × Int)} {n d j : Nat} {l : List Int}
theorem far_init (hn : 0 < n) : FarR E n 0 0 ((List.replicate n (-1)).set (0 : Int).toNat 0) := by
  have hat : ∀ v : Int, 0 ≤ v → v < n → atI ((List.replicate n (-1)).set (0 : Int).toNat 0) v = if v = 0 then 0 else -1 := by
    intro v h0 h1
    rw [atI_set (by simpa using hn) h0]
    split
    · rfl
    · unfold atI; rw [nth_get (by simp; omega)]; simp
  have hz : ∀ v : Int, dist E 0 v = 0 → v = 0 := fun v h => by
    have hw := dist_walk (E := E) (s := 0) (v := v) (by omega)
    rw [h] at hw
    cases hw; rfl
  refine ⟨by simp, fun v h0 h1 h2 h3 => ?_, fun v h0 h1 h2 ⟨i, hi, _⟩ => by omega, fun v h0 h1 h2 h3 => ?_⟩
  · have := hz v (by omega)
    rw [hat v h0 h1, if_pos this]; omega
  · rw [hat v h0 h1, if_neg]
    rintro rfl
    exact h2 (by rw [dist_start]; omega)
theorem far_at (h : FarR E n d j l) {v : Int} (h0 : 0 ≤ v) (h1 : v < n) : (atI l v = d ↔ dist E 0 v = d) ∧ (atI l v < 0 ↔ (¬ (0 ≤ dist E 0 v ∧ dist E 0 v ≤ d) ∧ ¬ (dist E 0 v = d + 1 ∧ ∃ i : Nat, i < j ∧ i < E.length ∧ (nth E i).2 = v ∧ dist E 0 (nth E i).1 = d))) := by
  by_cases hc : 0 ≤ dist E 0 v ∧ dist E 0 v ≤ d
  · have := h.near v h0 h1 hc.1 hc.2
    exact ⟨by rw [this], ⟨fun h => by omega, fun h => absurd hc h.1⟩⟩
  · by_cases hc2 : dist E 0 v = d + 1 ∧ ∃ i : Nat, i < j ∧ i < E.length ∧ (nth E i).2 = v ∧ dist E 0 (nth E i).1 = d
    · have := h.next v h0 h1 hc2.1 hc2.2
      exact ⟨by omega, ⟨fun h => by omega, fun h => absurd hc2 h.2⟩⟩
    · have := h.none v h0 h1 hc hc2
      exact ⟨by constructor <;> intro _ <;> omega, ⟨fun _ => ⟨hc, hc2⟩, fun _ => by omega⟩⟩
/-- An edge that tells something. -/
theorem far_yes (h : FarR E n d j l) (hj : j < E.length) (hE : ∀ e ∈ E, (0 ≤ e.1 ∧ e.1 < n) ∧ 0 ≤ e.2 ∧ e.2 < n) (h1 : atI l (nth E j).1 = d) (h2 : atI l (nth E j).2 < 0) : FarR E n d (j + 1) (l.set (nth E j).2.toNat ((d : Int) + 1)) := by
  have he := hE _ (nth_mem hj)
  have hd := (far_at h he.1.1 he.1.2).1.1 h1
  have hs := dist_step (E := E) (s := 0) (u := (nth E j).1) (v := (nth E j).2) (nth_mem hj) (by omega)
  have hn := (far_at h he.2.1 he.2.2).2.1 h2
  have hv : dist E 0 (nth E j).2 = d + 1 := by
    have h3 := hn.1; omega
  have hat : ∀ x : Int, 0 ≤ x → atI (l.set (nth E j).2.toNat ((d : Int) + 1)) x = if x = (nth E j).2 then (d : Int) + 1 else atI l x := fun x hx => atI_set (by rw [h.len]; exact he.2) hx
  refine ⟨by simp [h.len], fun v h0 hv1 h3 h4 => ?_, fun v h0 hv1 h3 ⟨i, hi, hi2, hi3, hi4⟩ => ?_, fun v h0 hv1 h3 h4 => ?_⟩
  · rw [hat v h0, if_neg (by rintro rfl; omega)]; exact h.near v h0 hv1 h3 h4
  · rw [hat v h0]
    split
    · rfl
    · rename_i hne
      exact h.next v h0 hv1 h3 ⟨i, by
        by_cases e : i = j
        · subst e; exact absurd hi3.symm hne
        · omega, hi2, hi3, hi4⟩
  · rw [hat v h0, if_neg]
    · exact h.none v h0 hv1 h3 fun ⟨q1, i, q2, q3⟩ => h4 ⟨q1, i, by omega, q3⟩
    · rintro rfl
      exact h4 ⟨hv, j, by omega, hj, rfl, hd⟩
theorem far_no (h : FarR E n d j l) (hj : j < E.length) (hE : ∀ e ∈ E, (0 ≤ e.1 ∧ e.1 < n) ∧ 0 ≤ e.2 ∧ e.2 < n) (h1 : ¬ (atI l (nth E j).1 = d ∧ atI l (nth E j).2 < 0)) : FarR E n d (j + 1) l := by
  have he := hE _ (nth_mem hj)
  have hf := far_at h he.1.1 he.1.2
  have hg := far_at h he.2.1 he.2.2
  refine ⟨h.len, h.near, fun v h0 hv1 h3 ⟨i, hi, hi2, hi3, hi4⟩ => ?_, fun v h0 hv1 h3 h4 => h.none v h0 hv1 h3 fun ⟨q1, i, q2, q3⟩ => h4 ⟨q1, i, by omega, q3⟩⟩
  by_cases e : i = j
  · subst e
    subst hi3
    have hp : ¬ atI l (nth E i).2 < 0 := fun hl => h1 ⟨hf.1.2 hi4, hl⟩
    rw [hg.2] at hp
    have hq : dist E 0 (nth E i).2 = d + 1 ∧ ∃ i' : Nat, i' < i ∧ i' < E.length ∧ (nth E i').2 = (nth E i).2 ∧ dist E 0 (nth E i').1 = d := by
      by_cases hh : dist E 0 (nth E i).2 = d + 1 ∧ ∃ i' : Nat, i' < i ∧ i' < E.length ∧ (nth E i').2 = (nth E i).2 ∧ dist E 0 (nth E i').1 = d
      · exact hh
      · exact absurd ⟨by omega, hh⟩ hp
    exact h.next _ h0 hv1 h3 hq.2
  · exact h.next v h0 hv1 h3 ⟨i, by omega, hi2, hi3, hi4⟩
theorem far_end (h : FarR E n d j l) (hj : ¬ j < E.length) : FarR E n (d + 1) 0 l := by
  have hex : ∀ v : Int, dist E 0 v = d + 1 → ∃ i : Nat, i < j ∧ i < E.length ∧ (nth E i).2 = v ∧ dist E 0 (nth E i).1 = d := fun v hv => by
    obtain ⟨i, h1, _, h3, h4, _⟩ := come_ex (E := E) (d := d) (k := v) hv
    exact ⟨i, by omega, h1, h3, h4⟩
  refine ⟨h.len, fun v h0 h1 h2 h3 => ?_, fun v h0 h1 h2 ⟨i, hi, _⟩ => by omega, fun v h0 h1 h2 h3 => ?_⟩
  · by_cases e : dist E 0 v = d + 1
    · rw [h.next v h0 h1 e (hex v e)]; omega
    · exact h.near v h0 h1 h2 (by omega)
  · exact h.none v h0 h1 (by omega) fun ⟨q1, _⟩ => h2 (by omega)
theorem far_fin (h : FarR E n n 0 l) (hn : 0 < n) (hE : ∀ e ∈ E, (0 ≤ e.1 ∧ e.1 < n) ∧ 0 ≤ e.2 ∧ e.2 < n) : l = distL n E 0 := by
  refine distL_of h.len fun v h0 h1 => ?_
  have hlt := dist_lt (E := E) (s := 0) (n := n) (v := v) (fun e he => (hE e he).2) (by omega)
  by_cases hc : 0 ≤ dist E 0 v
  · exact h.near v h0 h1 hc (by omega)
  · rw [h.none v h0 h1 (by omega) fun ⟨q, _⟩ => by omega]
    have := dist_ge (E := E) (s := 0) (v := v); omega
end
end Go.Proofs.Ytjfipianehabgaa
