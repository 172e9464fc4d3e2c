/- Sets of states in groups that hang together: the plain law. No condition. -/
import Derived.Test.YtcbfpeplcbgpjaaPut
import Derived.Test.YtcbfpeplcbgpjaaDist
set_option linter.unusedSimpArgs false
set_option linter.unusedVariables false
namespace Go.Proofs.Ytcbfpeplcbgpjaa
open Go.ChangeShapes Go.WideShapes Go.ChangeAt Go.RowKit

/-- The arcs within a set, both ways. -/
def edC (E : List ArcD) (set : List Int) : List (Int × Int) := (E.filter fun a => decide (a.src ∈ set) && decide (a.dst ∈ set)).flatMap fun a => [(a.src, a.dst), (a.dst, a.src)]
theorem edC_mem {E : List ArcD} {set : List Int} {x y : Int} : (x, y) ∈ edC E set ↔ (x ∈ set ∧ y ∈ set) ∧ ∃ a ∈ E, (a.src = x ∧ a.dst = y) ∨ (a.dst = x ∧ a.src = y) := by
  unfold edC
  rw [List.mem_flatMap]
  constructor
  · rintro ⟨a, ha, h⟩
    obtain ⟨h1, h2⟩ := List.mem_filter.1 ha
    simp only [Bool.and_eq_true, decide_eq_true_eq] at h2
    simp only [List.mem_cons, Prod.mk.injEq, List.not_mem_nil, or_false] at h
    rcases h with ⟨rfl, rfl⟩ | ⟨rfl, rfl⟩
    · exact ⟨h2, a, h1, Or.inl ⟨rfl, rfl⟩⟩
    · exact ⟨h2.symm, a, h1, Or.inr ⟨rfl, rfl⟩⟩
  · rintro ⟨⟨h1, h2⟩, a, ha, ⟨rfl, rfl⟩ | ⟨rfl, rfl⟩⟩
    · exact ⟨a, List.mem_filter.2 ⟨ha, by simp [h1, h2]⟩, by simp⟩
    · exact ⟨a, List.mem_filter.2 ⟨ha, by simp [h1, h2]⟩, by simp⟩
theorem edC_symm {E : List ArcD} {set : List Int} {x y : Int} (h : (x, y) ∈ edC E set) : (y, x) ∈ edC E set := by
  obtain ⟨⟨h1, h2⟩, a, ha, h3⟩ := edC_mem.1 h
  exact edC_mem.2 ⟨⟨h2, h1⟩, a, ha, h3.elim (fun h => Or.inr ⟨h.2, h.1⟩) fun h => Or.inl ⟨h.2, h.1⟩⟩
def Con (E : List ArcD) (set : List Int) (x y : Int) : Prop := ∃ m, Walk (edC E set) x m y
section
variable {E : List ArcD} {set : List Int} {x y z : Int}
theorem Con.refl : Con E set x x := ⟨0, .zero⟩
theorem Con.step (h : Con E set x y) (he : (y, z) ∈ edC E set) : Con E set x z := by
  obtain ⟨m, h⟩ := h; exact ⟨m + 1, .step h he⟩
theorem Con.trans (h : Con E set x y) (h' : Con E set y z) : Con E set x z := by
  obtain ⟨m, h'⟩ := h'
  induction h' with
  | zero => exact h
  | step _ he ih => exact ih.step he
theorem Con.symm (h : Con E set x y) : Con E set y x := by
  obtain ⟨m, h⟩ := h
  induction h with
  | zero => exact Con.refl
  | step _ he ih => exact Con.trans (Con.step Con.refl (edC_symm he)) ih
theorem Con.mem (h : Con E set x y) (hx : x ∈ set) : y ∈ set := by
  obtain ⟨m, h⟩ := h
  cases h with
  | zero => exact hx
  | step _ he => exact (edC_mem.1 he).1.2
end
open Classical in
noncomputable def conB (E : List ArcD) (set : List Int) (x y : Int) : Bool := decide (Con E set x y)
theorem conB_iff {E : List ArcD} {set : List Int} {x y : Int} : conB E set x y = true ↔ Con E set x y := by simp [conB]
noncomputable def minB (E : List ArcD) (set : List Int) (k : Int) : Bool := set.all fun y => !conB E set k y || decide (k ≤ y)
theorem minB_iff {E : List ArcD} {set : List Int} {k : Int} : minB E set k = true ↔ ∀ y ∈ set, Con E set k y → k ≤ y := by
  simp only [minB, List.all_eq_true, Bool.or_eq_true, Bool.not_eq_true', decide_eq_true_eq]
  constructor
  · intro h y hy hc
    rcases h y hy with h | h
    · rw [conB_iff.2 hc] at h; simp at h
    · exact h
  · intro h y hy
    by_cases hc : Con E set k y
    · exact Or.inr (h y hy hc)
    · left; rw [← Bool.not_eq_true, conB_iff]; exact hc
noncomputable def grpL (E : List ArcD) (set : List Int) (k : Int) : List Int := set.filter (conB E set k)
noncomputable def grpsL (E : List ArcD) (set l : List Int) : List (List Int) := (l.filter (minB E set)).map (grpL E set)

/-! ### What is left, group by group -/
def Closed (E : List ArcD) (set l : List Int) : Prop := (∀ x ∈ l, x ∈ set) ∧ ∀ x ∈ l, ∀ y ∈ set, Con E set x y → y ∈ l
theorem closed_all (E : List ArcD) (set : List Int) : Closed E set set := ⟨fun _ h => h, fun _ _ _ h _ => h⟩
theorem closed_less {E : List ArcD} {set l : List Int} {k : Int} (h : Closed E set l) : Closed E set (l.filter fun x => !conB E set k x) := by
  refine ⟨fun x hx => h.1 x (List.mem_filter.1 hx).1, fun x hx y hy hc => ?_⟩
  obtain ⟨h1, h2⟩ := List.mem_filter.1 hx
  refine List.mem_filter.2 ⟨h.2 x h1 y hy hc, ?_⟩
  simp only [Bool.not_eq_true', ← Bool.not_eq_true, conB_iff] at h2 ⊢
  exact fun h3 => h2 (h3.trans hc.symm)
theorem grps_next {E : List ArcD} {set : List Int} {k : Int} {r : List Int} (hi : Inc (k :: r)) (h : Closed E set (k :: r)) : grpsL E set (k :: r) = grpL E set k :: grpsL E set ((k :: r).filter fun x => !conB E set k x) := by
  obtain ⟨hi1, hi2⟩ := List.pairwise_cons.1 hi
  have hk : minB E set k = true := minB_iff.2 fun y hy hc => by
    rcases List.mem_cons.1 (h.2 k (by simp) y hy hc) with rfl | h'
    · exact Int.le_refl _
    · have := hi1 y h'; omega
  unfold grpsL
  rw [List.filter_cons, if_pos hk, List.map_cons]
  congr 2
  have hkk : conB E set k k = true := conB_iff.2 Con.refl
  rw [List.filter_cons (p := fun x => !conB E set k x), if_neg (by simp [hkk]), List.filter_filter]
  refine List.filter_congr fun x hx => ?_
  cases hc : conB E set k x
  · simp
  · simp only [Bool.not_true, Bool.and_false]
    rw [← Bool.not_eq_true, minB_iff]
    intro h'
    have h1 := h' k (h.1 k (by simp)) (conB_iff.1 hc).symm
    have h2 := hi1 x hx
    omega

/-! ### The program's search -/
def Done (set part : List Int) (x : Int) (l : List ArcD) : Prop := ∀ a ∈ l, (a.src = x → a.dst ∈ set → a.dst ∈ part) ∧ (a.dst = x → a.src ∈ set → a.src ∈ part)
structure Srch (E : List ArcD) (set : List Int) (k : Int) (part : List Int) (at_ : Nat) : Prop where
  nodup : part.Nodup
  start : k ∈ part
  ok : ∀ x ∈ part, x ∈ set ∧ Con E set k x
  le : at_ ≤ part.length
  done : ∀ j, j < at_ → Done set part (nth part j) E
theorem Done.more {set part part' : List Int} {x : Int} {l : List ArcD} (h : Done set part x l) (hp : ∀ y ∈ part, y ∈ part') : Done set part' x l :=
  fun a ha => ⟨fun e1 e2 => hp _ ((h a ha).1 e1 e2), fun e1 e2 => hp _ ((h a ha).2 e1 e2)⟩
theorem srch_start {E : List ArcD} {set : List Int} {k : Int} (hk : k ∈ set) : Srch E set k [k] 0 :=
  ⟨by simp, by simp, fun x hx => by simp at hx; subst hx; exact ⟨hk, Con.refl⟩, by simp, fun j hj => by omega⟩
theorem srch_push {E : List ArcD} {set : List Int} {k : Int} {part : List Int} {t : Nat} (h : Srch E set k part t) (ht : t < part.length) {y : Int} (he : (nth part t, y) ∈ edC E set) (hn : y ∉ part) : Srch E set k (part ++ [y]) t := by
  have hsub : ∀ z ∈ part, z ∈ part ++ [y] := fun z hz => List.mem_append_left _ hz
  refine ⟨?_, hsub _ h.start, fun x hx => ?_, by simp; omega, fun j hj => ?_⟩
  · rw [List.nodup_append]
    refine ⟨h.nodup, by simp, fun a ha b hb e => ?_⟩
    simp at hb; subst hb; subst e; exact hn ha
  · rcases List.mem_append.1 hx with hx | hx
    · exact h.ok x hx
    · simp at hx; subst hx
      exact ⟨(edC_mem.1 he).1.2, (h.ok _ (nth_mem ht)).2.step he⟩
  · rw [nth_app_left (by omega)]; exact (h.done j hj).more hsub
theorem srch_next {E : List ArcD} {set : List Int} {k : Int} {part : List Int} {t : Nat} (h : Srch E set k part t) (ht : t < part.length) (hd : Done set part (nth part t) E) : Srch E set k part (t + 1) := by
  refine ⟨h.nodup, h.start, h.ok, by omega, fun j hj => ?_⟩
  by_cases e : j = t
  · subst e; exact hd
  · exact h.done j (by omega)
theorem srch_end {E : List ArcD} {set : List Int} {k : Int} {part : List Int} {t : Nat} (h : Srch E set k part t) (ht : ¬ t < part.length) {x : Int} : x ∈ part ↔ x ∈ set ∧ Con E set k x := by
  refine ⟨h.ok x, fun hx => ?_⟩
  obtain ⟨m, hw⟩ := hx.2
  clear hx
  induction hw with
  | zero => exact h.start
  | step _ he ih =>
    obtain ⟨j, hj, rfl⟩ := List.getElem_of_mem ih
    obtain ⟨⟨h1, h2⟩, a, ha, h3⟩ := edC_mem.1 he
    have hd := h.done j (by omega) a ha
    rw [nth_get hj] at hd
    rcases h3 with ⟨e1, e2⟩ | ⟨e1, e2⟩
    · rw [← e2]; exact hd.1 e1 (by rw [e2]; exact h2)
    · rw [← e2]; exact hd.2 e1 (by rw [e2]; exact h2)
theorem sub_len : ∀ {l s : List Int}, l.Nodup → (∀ x ∈ l, x ∈ s) → l.length ≤ s.length
  | [], _, _, _ => by simp
  | x :: l, s, hn, h => by
    obtain ⟨h1, h2⟩ := List.nodup_cons.1 hn
    have hx := h x (by simp)
    have h3 : l.length ≤ (s.erase x).length := sub_len h2 fun y hy => by
      have hy' := h y (List.mem_cons_of_mem _ hy)
      exact (List.mem_erase_of_ne (fun e => by subst e; exact h1 hy)).2 hy'
    rw [List.length_erase_of_mem hx] at h3
    have := List.length_pos_of_mem hx
    simp; omega
theorem srch_len {E : List ArcD} {set : List Int} {k : Int} {part : List Int} {t : Nat} (h : Srch E set k part t) : part.length ≤ set.length := sub_len h.nodup fun x hx => (h.ok x hx).1

/-! ### The reference's rounds -/
/-- What stands for a state after r rounds. -/
structure Rnd (E : List ArcD) (set : List Int) (f : Int → Int) (r : Nat) : Prop where
  ok : ∀ x ∈ set, f x ∈ set ∧ Con E set x (f x)
  low : ∀ {m : Nat} {x y : Int}, y ∈ set → Walk (edC E set) y m x → m ≤ r → f x ≤ y
theorem rnd_start (E : List ArcD) (set : List Int) {f : Int → Int} (h : ∀ x ∈ set, f x = x) : Rnd E set f 0 := by
  refine ⟨fun x hx => by rw [h x hx]; exact ⟨hx, Con.refl⟩, fun {m x y} hy hw hm => ?_⟩
  obtain rfl : m = 0 := by omega
  cases hw
  rw [h _ hy]; exact Int.le_refl _
/-- Within a round: some arcs are done. -/
structure Sweep (E : List ArcD) (set : List Int) (f0 f : Int → Int) (l : List ArcD) : Prop where
  ok : ∀ x ∈ set, f x ∈ set ∧ Con E set x (f x)
  le : ∀ x ∈ set, f x ≤ f0 x
  arc : ∀ a ∈ l, a.src ∈ set → a.dst ∈ set → f a.src ≤ f0 a.dst ∧ f a.dst ≤ f0 a.src
theorem sweep_start {E : List ArcD} {set : List Int} {f : Int → Int} {r : Nat} (h : Rnd E set f r) : Sweep E set f f [] := ⟨h.ok, fun _ _ => Int.le_refl _, fun a ha => by simp at ha⟩
theorem sweep_no {E : List ArcD} {set : List Int} {f0 f : Int → Int} {l : List ArcD} {a : ArcD} (h : Sweep E set f0 f l) (hn : ¬ (a.src ∈ set ∧ a.dst ∈ set)) : Sweep E set f0 f (l ++ [a]) :=
  ⟨h.ok, h.le, fun b hb h1 h2 => by
    rcases List.mem_append.1 hb with hb | hb
    · exact h.arc b hb h1 h2
    · simp at hb; subst hb; exact absurd ⟨h1, h2⟩ hn⟩
theorem sweep_yes {E : List ArcD} {set : List Int} {f0 f f' : Int → Int} {l : List ArcD} {a : ArcD} (h : Sweep E set f0 f l) (ha : a ∈ E) (h1 : a.src ∈ set) (h2 : a.dst ∈ set) {v : Int} (hv : (v = f a.src ∨ v = f a.dst) ∧ v ≤ f a.src ∧ v ≤ f a.dst)
    (hf : ∀ x ∈ set, f' x = if x = a.dst then v else if x = a.src then v else f x) : Sweep E set f0 f' (l ++ [a]) := by
  have hle : ∀ x ∈ set, f' x ≤ f x := fun x hx => by
    rw [hf x hx]
    by_cases e1 : x = a.dst
    · subst e1; rw [if_pos rfl]; exact hv.2.2
    · rw [if_neg e1]
      by_cases e2 : x = a.src
      · subst e2; rw [if_pos rfl]; exact hv.2.1
      · rw [if_neg e2]; exact Int.le_refl _
  have he : (a.src, a.dst) ∈ edC E set := edC_mem.2 ⟨⟨h1, h2⟩, a, ha, Or.inl ⟨rfl, rfl⟩⟩
  have hvs : v ∈ set ∧ Con E set a.src v := by
    rcases hv.1 with rfl | rfl
    · exact h.ok _ h1
    · exact ⟨(h.ok _ h2).1, (Con.step Con.refl he).trans (h.ok _ h2).2⟩
  refine ⟨fun x hx => ?_, fun x hx => Int.le_trans (hle x hx) (h.le x hx), fun b hb hb1 hb2 => ?_⟩
  · rw [hf x hx]
    by_cases e1 : x = a.dst
    · subst e1; rw [if_pos rfl]; exact ⟨hvs.1, (Con.step Con.refl (edC_symm he)).trans hvs.2⟩
    · rw [if_neg e1]
      by_cases e2 : x = a.src
      · subst e2; rw [if_pos rfl]; exact hvs
      · rw [if_neg e2]; exact h.ok x hx
  · rcases List.mem_append.1 hb with hb | hb
    · have := h.arc b hb hb1 hb2
      have h3 := hle _ hb1; have h4 := hle _ hb2
      omega
    · simp at hb; subst hb
      have h3 := h.le _ h1; have h4 := h.le _ h2
      have e1 : f' b.dst = v := by rw [hf _ h2, if_pos rfl]
      have e2 : f' b.src = v := by rw [hf _ h1]; split <;> simp
      omega
theorem sweep_end {E : List ArcD} {set : List Int} {f0 f : Int → Int} {r : Nat} (h0 : Rnd E set f0 r) (h : Sweep E set f0 f E) : Rnd E set f (r + 1) := by
  refine ⟨h.ok, fun {m x y} hy hw hm => ?_⟩
  have hx : x ∈ set := Con.mem ⟨m, hw⟩ hy
  by_cases e : m ≤ r
  · have := h0.low hy hw e
    have := h.le x hx
    omega
  · cases hw with
    | zero => omega
    | step hw he =>
      rename_i m u
      obtain ⟨⟨h1, h2⟩, a, ha, h3⟩ := edC_mem.1 he
      have h4 := h0.low hy hw (by omega)
      rcases h3 with ⟨e1, e2⟩ | ⟨e1, e2⟩
      · have := h.arc a ha (by rw [e1]; exact h1) (by rw [e2]; exact h2)
        rw [e1, e2] at this; omega
      · have := h.arc a ha (by rw [e2]; exact h2) (by rw [e1]; exact h1)
        rw [e1, e2] at this; omega
/-- A walk need not be longer than the set. -/
theorem con_short {E : List ArcD} {set : List Int} {x y : Int} (hx : x ∈ set) (h : Con E set x y) : ∃ m, Walk (edC E set) x m y ∧ m ≤ set.length := by
  obtain ⟨m0, hw0⟩ := h
  have hd := dist_le hw0
  refine ⟨(dist (edC E set) x y).toNat, dist_walk hd.1, ?_⟩
  have key : ∀ (k : Nat) {v : Int}, dist (edC E set) x v = k → ∃ l : List Int, l.length = k + 1 ∧ (∀ z ∈ l, z ∈ set) ∧ l.Nodup ∧ ∀ z ∈ l, dist (edC E set) x z ≤ k := by
    intro k
    induction k with
    | zero =>
      intro v h
      have hw := dist_walk (E := edC E set) (s := x) (v := v) (by omega)
      rw [h] at hw
      cases hw
      exact ⟨[x], rfl, by simpa using hx, by simp, by simp [h]⟩
    | succ k ih =>
      intro v h
      obtain ⟨u, he, hu⟩ := dist_pred (E := edC E set) (s := x) (v := v) (by omega)
      obtain ⟨l, h1, h2, h3, h4⟩ := ih (v := u) (by omega)
      refine ⟨v :: l, by simp [h1], fun z hz => ?_, ?_, fun z hz => ?_⟩
      · rcases List.mem_cons.1 hz with rfl | hz
        · exact (edC_mem.1 he).1.2
        · exact h2 z hz
      · refine List.nodup_cons.2 ⟨fun hv => ?_, h3⟩
        have := h4 v hv; omega
      · rcases List.mem_cons.1 hz with rfl | hz
        · omega
        · have := h4 z hz; omega
  obtain ⟨l, h1, h2, h3, _⟩ := key (dist (edC E set) x y).toNat (v := y) (by omega)
  have := sub_len h3 h2
  omega
theorem rnd_all {E : List ArcD} {set : List Int} {f : Int → Int} (h : Rnd E set f set.length) {x : Int} (hx : x ∈ set) : f x ∈ set ∧ Con E set x (f x) ∧ ∀ y ∈ set, Con E set x y → f x ≤ y := by
  refine ⟨(h.ok x hx).1, (h.ok x hx).2, fun y hy hc => ?_⟩
  obtain ⟨m, hw, hm⟩ := con_short hy hc.symm
  exact h.low hy hw hm
theorem rnd_min {E : List ArcD} {set : List Int} {f : Int → Int} (h : Rnd E set f set.length) {k : Int} (hk : k ∈ set) : f k = k ↔ minB E set k = true := by
  obtain ⟨h1, h2, h3⟩ := rnd_all h hk
  rw [minB_iff]
  refine ⟨fun e y hy hc => by rw [← e]; exact h3 y hy hc, fun h' => ?_⟩
  have := h' _ h1 h2
  have := h3 k hk Con.refl
  omega
theorem rnd_grp {E : List ArcD} {set : List Int} {f : Int → Int} (h : Rnd E set f set.length) {k x : Int} (hk : k ∈ set) (hx : x ∈ set) (hm : f k = k) : f x = k ↔ conB E set k x = true := by
  rw [conB_iff]
  obtain ⟨h1, h2, h3⟩ := rnd_all h hx
  refine ⟨fun e => by rw [← e]; rw [e] at h2 ⊢; exact h2.symm, fun hc => ?_⟩
  have h4 := h3 k hk hc.symm
  have h5 := (rnd_min h hk).1 hm
  have h6 := minB_iff.1 h5 _ h1 (hc.trans h2)
  omega
/-- A group as the reference gathers it. -/
def gatL (f : Int → Int) (set : List Int) (k : Int) : List Int := set.filter fun x => decide (f k = k) && decide (f x = k)
theorem gat_eq {E : List ArcD} {set : List Int} {f : Int → Int} (h : Rnd E set f set.length) {k : Int} (hk : k ∈ set) : gatL f set k = if minB E set k then grpL E set k else [] := by
  by_cases hm : f k = k
  · rw [if_pos ((rnd_min h hk).1 hm)]
    unfold gatL grpL
    refine List.filter_congr fun x hx => ?_
    rw [Bool.eq_iff_iff, Bool.and_eq_true, decide_eq_true_eq, decide_eq_true_eq, ← rnd_grp h hk hx hm]
    exact ⟨fun h => h.2, fun h => ⟨hm, h⟩⟩
  · rw [if_neg (fun h' => hm ((rnd_min h hk).2 h'))]
    unfold gatL
    exact List.filter_eq_nil_iff.2 fun x _ => by simp [hm]
theorem grp_pos {E : List ArcD} {set : List Int} {k : Int} (hk : k ∈ set) : 0 < (grpL E set k).length := List.length_pos_of_mem (List.mem_filter.2 ⟨hk, conB_iff.2 Con.refl⟩)
theorem grps_snoc {E : List ArcD} {set l : List Int} {k : Int} : grpsL E set (l ++ [k]) = grpsL E set l ++ (if minB E set k then [grpL E set k] else []) := by
  unfold grpsL
  rw [List.filter_append, List.map_append]
  congr 1
  cases h : minB E set k <;> simp [h]
theorem grp_len (E : List ArcD) (set : List Int) (k : Int) : (grpL E set k).length ≤ set.length := List.length_filter_le _ _
theorem grps_len (E : List ArcD) (set l : List Int) : (grpsL E set l).length ≤ l.length := by
  unfold grpsL; rw [List.length_map]; exact List.length_filter_le _ _
end Go.Proofs.Ytcbfpeplcbgpjaa
