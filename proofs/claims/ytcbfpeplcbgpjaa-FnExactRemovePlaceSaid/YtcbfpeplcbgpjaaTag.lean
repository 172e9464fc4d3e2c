/- Arrays of arrays, read as arrays of slices. No condition. Pairs of numbers that a test takes. No condition. Arrays of slices that keep their elements apart: opened, and shut again. No condition. -/
import Derived.Test.YtcbfpeplcbgpjaaAbsY
import Derived.Test.YtcbfpeplcbgpjaaPick
import Derived.Test.YtcbfpeplcbgpjaaMv
set_option linter.unusedSimpArgs false
set_option linter.unusedVariables false
namespace Go.Proofs.Ytcbfpeplcbgpjaa
open Go.ChangeShapes Go.WideShapes Go.ChangeAt Go.RowKit

theorem Inner.vr {w : World} {t : TypeId} {m : Nat} {u : Value} {xs : List (List D)} (h : Inner w t m u xs) : VR w (.sh m xs) u u.ownBlock.toList ∧ ∀ k ∈ u.ownBlock.toList, Un w k := by
  obtain ⟨us, h0, h3, h4⟩ := h
  have h0' := h0
  obtain ⟨h1, h2⟩ := h0
  rcases h2 with ⟨rfl, h5⟩ | ⟨g, cap, cur, rfl, _, h6, h7, h8, h9, h10⟩
  · have hx : xs = [] := List.length_eq_zero_iff.1 h5
    subst hx
    exact ⟨.shnil (by omega) (fun _ => rfl), by simp [Value.ownBlock]⟩
  · have hlt : g < w.heap.size := (Array.getElem?_eq_some_iff.1 h6).1
    refine ⟨?_, fun k hk => ?_⟩
    · have := VR.sh (w := w) (n := m) (xs := xs) (b := g) (o := 0) (cap := cap) (us := us) (bs := []) (fun r hr => (h3 r hr).1) h7 (by unfold maxLen at h8; omega) hlt h4 (fun j hj => by
        rw [Nat.zero_add]; exact h0'.cellAt j (by omega))
      simpa [Value.ownBlock] using this
    · simp [Value.ownBlock] at hk; subst hk; exact ⟨cur, t, h6⟩
theorem rows_vrs {w : World} {t : TypeId} {m : Nat} : ∀ {vs : List Value} {rows : List (List (List D))}, rows.length = vs.length → (∀ j, j < vs.length → Inner w t m (nth vs j) (nth rows j)) → VRs w (rows.map fun r => [D.sh m r]).flatten vs (vs.flatMap fun u => u.ownBlock.toList)
  | [], [], _, _ => .nil
  | [], _ :: _, h, _ => by simp at h
  | _ :: _, [], h, _ => by simp at h
  | v :: vs, r :: rows, h, hi => by
    have h0 := (hi 0 (by simp)).vr.1
    rw [nth_cons_zero, nth_cons_zero] at h0
    have := rows_vrs (w := w) (t := t) (m := m) (vs := vs) (rows := rows) (by simpa using h) fun j hj => by
      have := hi (j + 1) (by simpa using hj)
      rwa [nth_cons_succ, nth_cons_succ] at this
    simpa using VRs.cons h0 this
theorem Weak_mat {w0 : World} {A : Nat → Prop} {s : St} (i : Nat) (T t : TypeId) (m : Nat) (vs : List Value) (rows : List (List (List D))) (h : s.heap[i]? = some (.cust (MatR T t m vs vs rows))) {hp' : List Blk} (e : hp' = s.heap.set i (.arr T 1 (rows.map fun r => [D.sh m r]) true)) : Weak w0 A s ⟨s.n, s.slots, hp'⟩ := by
  subst e
  intro ms a w hr
  have hil : i < s.heap.length := (List.getElem?_eq_some_iff.1 h).1
  refine ⟨ms, hr.ext, hr.old, hr.size, hr.defers, by simpa using hr.len, hr.nodup, hr.range, ?_, hr.slots⟩
  intro j b en hj hm
  by_cases hji : j = i
  · subst hji
    simp only at hj
    rw [List.getElem?_set_self hil] at hj
    cases hj
    obtain ⟨⟨h1, h2, h3, h4, h5, h6⟩, _⟩ := hr.ents j _ en h hm
    refine ⟨vs, vs.flatMap fun u => u.ownBlock.toList, ?_, ?_, rows_vrs h4 h6, h2, ?_⟩
    · obtain ⟨g1, g2⟩ := h1
      refine ⟨by rw [g1, List.length_map, h4], ?_⟩
      rcases g2 with ⟨g3, g4⟩ | ⟨g, cap, cur, g3, _, g5⟩
      · exact .inl ⟨g3, by simpa [h4] using g4⟩
      · refine .inr ⟨g, cap, cur, by simpa [h4] using g3, ?_, by simpa [h4] using g5⟩
        have : en.top = some g := by rw [h2, g3]; rfl
        exact (hr.range g (ent_owned hm (by rw [this]; simp))).1
    · intro r hr'
      obtain ⟨x, _, rfl⟩ := List.mem_map.1 hr'; rfl
    · rw [if_pos rfl]
      refine ⟨h5, fun k hk => ?_⟩
      obtain ⟨u, hu, hk'⟩ := List.mem_flatMap.1 hk
      obtain ⟨j', hj', rfl⟩ := List.getElem_of_mem hu
      have := (h6 j' hj').vr.2
      rw [nth_get hj'] at this
      exact this k hk'
  · simp only at hj
    rw [List.getElem?_set_ne (Ne.symm hji)] at hj
    exact hr.ents j b en hj hm
/-- A last step on what is known, at the end of a walk. -/
theorem W_weakR {P : Program} {w0 : World} {A : Nat → Prop} {c : Code} {s : St} {Q : Exit → St → Prop} (h : W P w0 A c s fun e s' => ∃ s'', Weak w0 A s' s'' ∧ Q e s'') : W P w0 A c s Q := by
  refine ⟨fun ms a w hr => Code.wp_mono ?_ (h.run ms a w hr)⟩
  rintro e a' w' ⟨ms', s', hr', s'', hw, hq⟩
  obtain ⟨ms'', hr''⟩ := hw ms' a' w' hr'
  exact ⟨ms'', s'', hr'', hq⟩
end Go.Proofs.Ytcbfpeplcbgpjaa
namespace Go.Proofs.Ytcbfpeplcbgpjaa
open Go.ChangeShapes Go.WideShapes Go.ChangeAt Go.RowKit

def dII (l : List Int) : List D := [.sh 1 (ints l)]
/-- The pairs of i with what is behind it and below m, as far as p takes them. -/
def rowP (p : Nat → Bool) (i m : Nat) : List (List Int) := ((List.range m).filter fun k => decide (i < k) && p k).map fun k : Nat => [(i : Int), (k : Int)]
theorem rowP_yes {p : Nat → Bool} {i m : Nat} (h : i < m) (hp : p m = true) : rowP p i (m + 1) = rowP p i m ++ [[(i : Int), (m : Int)]] := by
  simp [rowP, List.range_succ, List.filter_append, h, hp]
theorem rowP_no {p : Nat → Bool} {i m : Nat} (hp : p m = false) : rowP p i (m + 1) = rowP p i m := by
  simp [rowP, List.range_succ, List.filter_append, hp]
theorem rowP_start (p : Nat → Bool) (i : Nat) : rowP p i (i + 1) = [] := by
  simp only [rowP, List.map_eq_nil_iff, List.filter_eq_nil_iff, List.mem_range, Bool.and_eq_true, decide_eq_true_eq]
  intro k hk; omega
theorem rowP_len (p : Nat → Bool) (i m : Nat) : (rowP p i m).length ≤ m := by
  have := List.length_filter_le (fun k => decide (i < k) && p k) (List.range m)
  simpa [rowP] using this
def pairsP (p : Nat → Nat → Bool) (n : Nat) : Nat → List (List Int)
  | 0 => []
  | i + 1 => pairsP p n i ++ rowP (p i) i n
theorem pairsP_len (p : Nat → Nat → Bool) (n : Nat) : ∀ i, (pairsP p n i).length ≤ i * n
  | 0 => by simp [pairsP]
  | i + 1 => by
    have h1 := pairsP_len p n i; have h2 := rowP_len (p i) i n
    simp only [pairsP, List.length_append, Nat.add_mul]; omega
theorem row2 {l : List (List Int)} {p : Nat → Bool} {i k : Nat} (h : i < k) (hp : p k = true) : ((l ++ rowP p i (k + 1)).map dII) = (l ++ rowP p i k).map dII ++ [[.sh 1 [[.lit (.int .i64 i)], [.lit (.int .i64 k)]]]] := by
  rw [rowP_yes h hp, ← List.append_assoc, List.map_append]; rfl

end Go.Proofs.Ytcbfpeplcbgpjaa
namespace Go.Proofs.Ytcbfpeplcbgpjaa
open Go.ChangeShapes Go.WideShapes Go.ChangeAt Go.RowKit

/-- A slice's value. -/
def isSl : Value → Bool
  | .slice _ _ _ => true
  | _ => false
theorem isSl_lit {u : Value} (h : isSl u = true) : litOk u := by cases u <;> simp [isSl] at h; exact trivial
/-- An element, as it is, alone. -/
def dVal (u : Value) : List D := [.lit u]
theorem len_vals (us : List Value) : (us.map dVal).length = us.length := by simp
theorem flat_vals (us : List Value) : Flat (us.map dVal) := flat_map (by simp [dVal, isLit])
/-- The slices us read as the rows l, over blocks of their own. -/
def RowsR (us : List Value) (l : List (List Int)) (w : World) (_ : Value) (top : Option Nat) (nest : List Nat) : Prop :=
  top = none ∧ VRs w (l.map fun p => D.sh 1 (ints p)) us nest ∧ ∀ k ∈ nest, Un w k
theorem RowsR.keep {w w' : World} {us : List Value} {l : List (List Int)} {v : Value} {top : Option Nat} {nest : List Nat} (h : RowsR us l w v top nest) (hk : ∀ k ∈ top.toList ++ nest, w'.heap[k]? = w.heap[k]?) : RowsR us l w' v top nest :=
  ⟨h.1, h.2.1.keep fun k m => hk k (List.mem_append_right _ m), fun k m => (h.2.2 k m).keep (hk k (List.mem_append_right _ m))⟩
theorem dII_flat (l : List (List Int)) : (l.map dII).flatten = l.map fun p => D.sh 1 (ints p) := by
  induction l with
  | nil => rfl
  | cons p l ih => simp only [List.map_cons, List.flatten_cons, ih]; rfl
theorem vals_flat (us : List Value) : (us.map dVal).flatten = us.map D.lit := by
  induction us with
  | nil => rfl
  | cons u us ih => simp only [List.map_cons, List.flatten_cons] at ih ⊢; rw [ih]; rfl
theorem VR.isSlice {w : World} {m : Nat} {xs : List (List D)} {u : Value} {bs : List Nat} (h : VR w (.sh m xs) u bs) : isSl u = true := by
  cases h <;> rfl
theorem rows_slice {w : World} : ∀ {l : List (List Int)} {us : List Value} {bs : List Nat}, VRs w (l.map fun p => D.sh 1 (ints p)) us bs → us.length = l.length ∧ ∀ u ∈ us, isSl u = true
  | [], _, _, .nil => ⟨rfl, by simp⟩
  | p :: l, _, _, .cons h h' => by
    obtain ⟨h1, h2⟩ := rows_slice h'
    refine ⟨by simp [h1], fun u hu => ?_⟩
    rcases List.mem_cons.1 hu with rfl | hu
    · exact h.isSlice
    · exact h2 u hu
theorem vals_vrs {w : World} : ∀ {us : List Value}, (∀ u ∈ us, isSl u = true) → VRs w (us.map D.lit) us []
  | [], _ => .nil
  | u :: us, h => VRs.cons (bs := []) (.lit (isSl_lit (h u (by simp)))) (vals_vrs fun x hx => h x (List.mem_cons_of_mem _ hx))

section
variable {ms ms' : List Ent} {w : World} {Ok Ok' : Nat → Prop}
mutual
theorem VX.alike (hk : ∀ k, Ok k → Ok' k) (hm : ∀ (i : Nat) (e : Ent), ms[i]? = some e → ∃ e', ms'[i]? = some e' ∧ e'.v = e.v ∧ e'.top = e.top) : ∀ {d : D} {u : Value}, VX ms w Ok d u → VX ms' w Ok' d u
  | _, _, .no => .no
  | _, _, .rd h h' => .rd h fun k m => hk k (h' k m)
  | _, _, .own h h' => by obtain ⟨e', h1, h2, _⟩ := hm _ _ h; rw [← h2]; exact .own h1 (by rw [h2]; exact h')
  | _, _, .vec h h' => by obtain ⟨e', h1, _, h3⟩ := hm _ _ h; exact .vec h1 (by rw [h3]; exact h')
  | _, _, .ptr h h' => by obtain ⟨e', h1, _, h3⟩ := hm _ _ h; exact .ptr h1 (by rw [h3]; exact h')
  | _, _, .eptr h h' => by obtain ⟨e', h1, _, h3⟩ := hm _ _ h; exact .eptr h1 (by rw [h3]; exact h')
  | _, _, .part h h' h2 => by obtain ⟨e', h1, h3, _⟩ := hm _ _ h; exact .part h1 (by rw [h3]; exact h') h2
  | _, _, .sptr h h1 h2 h3 => .sptr h (hk _ h1) (fun k m => hk k (h2 k m)) h3
  | _, _, .agg h => .agg (VXs.alike hk hm h)
  | _, _, .tup h => .tup (VXs.alike hk hm h)
  | _, _, .fn h => .fn (VXs.alike hk hm h)
  | _, _, .old h h' => .old h h'
  | _, _, .val => .val
theorem VXs.alike (hk : ∀ k, Ok k → Ok' k) (hm : ∀ (i : Nat) (e : Ent), ms[i]? = some e → ∃ e', ms'[i]? = some e' ∧ e'.v = e.v ∧ e'.top = e.top) : ∀ {ds : List D} {us : List Value}, VXs ms w Ok ds us → VXs ms' w Ok' ds us
  | _, _, .nil => .nil
  | _, _, .cons h h' => .cons (VX.alike hk hm h) (VXs.alike hk hm h')
end
theorem EntR.alike {base : Nat} (hk : ∀ k, Ok k → Ok' k) (hm : ∀ (i : Nat) (e : Ent), ms[i]? = some e → ∃ e', ms'[i]? = some e' ∧ e'.v = e.v ∧ e'.top = e.top) {b : Blk} {e : Ent} (h : EntR base ms w Ok b e) : EntR base ms' w Ok' b e := by
  cases b with
  | gone => exact h
  | cells t ds =>
    obtain ⟨g, us, h1, h2, h3⟩ := h
    exact ⟨g, us, h1, h2, h3.alike hk hm⟩
  | fr n xs => exact h
  | cust R => exact h
  | arr t n xs dp =>
    obtain ⟨us, bs, h1, h2, h3, h4, h5⟩ := h
    refine ⟨us, bs, h1, h2, h3, h4, ?_⟩
    cases dp with
    | true => exact h5
    | false => exact ⟨h5.1, fun k m => hk k (h5.2 k m)⟩
end
theorem vals_inv {w : World} : ∀ {us vs : List Value} {bs : List Nat}, VRs w (us.map D.lit) vs bs → vs = us
  | [], _, _, .nil => rfl
  | u :: us, _, _, .cons h h' => by
    cases h with
    | lit _ => rw [vals_inv h']
/-- One of the rows. -/
theorem rows_nth {w : World} : ∀ {l : List (List Int)} {us : List Value} {nest : List Nat}, VRs w (l.map fun p => D.sh 1 (ints p)) us nest → ∀ {j : Nat}, j < us.length → ∃ bs, VR w (.sh 1 (ints (nth l j))) (nth us j) bs ∧ ∀ k ∈ bs, k ∈ nest
  | [], _, _, .nil, j, h => by simp at h
  | p :: l, _, _, .cons (bs := b0) h h', 0, _ => ⟨b0, by rw [nth_cons_zero, nth_cons_zero]; exact h, fun k hk => List.mem_append_left _ hk⟩
  | p :: l, _, _, .cons h h', j + 1, hj => by
    obtain ⟨bs, h1, h2⟩ := rows_nth h' (j := j) (by simpa using hj)
    exact ⟨bs, by rw [nth_cons_succ, nth_cons_succ]; exact h1, fun k hk => List.mem_append_right _ (h2 k hk)⟩
/-- A part of the rows, with its blocks. -/
theorem rows_sub {w : World} : ∀ {l : List (List Int)} {us : List Value} {nest : List Nat} {z : List (Value × List Int)}, VRs w (l.map fun p => D.sh 1 (ints p)) us nest → z.Sublist (us.zip l) → ∃ bs, VRs w ((z.map Prod.snd).map fun p => D.sh 1 (ints p)) (z.map Prod.fst) bs ∧ bs.Sublist nest
  | [], _, _, z, .nil, hz => by
    have : z = [] := by simpa using hz
    subst this
    exact ⟨[], .nil, List.Sublist.refl _⟩
  | p :: l, _, _, z, .cons (u := u) (us := us) (bs := b0) (bs' := bs1) h h', hz => by
    rw [List.zip_cons_cons] at hz
    cases hz with
    | cons _ hz =>
      obtain ⟨bs, h1, h2⟩ := rows_sub h' hz
      exact ⟨bs, h1, h2.trans (List.sublist_append_right _ _)⟩
    | cons_cons _ hz =>
      obtain ⟨bs, h1, h2⟩ := rows_sub h' hz
      exact ⟨b0 ++ bs, .cons h h1, (List.Sublist.refl _).append h2⟩
section
variable {P : Program} {w0 w : World} {A : Nat → Prop} {c : Code} {s : St} {Q : Exit → St → Prop} {ms ms' : List Ent} {a : Act}
theorem Rel.renest {n : Nat} {sl : List (Nat × D)} {hp hp' : List Blk} (hr : Rel w0 A ms ⟨n, sl, hp⟩ a w) (hlen : ms'.length = hp'.length) (al : ∀ (i : Nat) (e : Ent), ms[i]? = some e → ∃ e', ms'[i]? = some e' ∧ e'.v = e.v ∧ e'.top = e.top) (hown : ∀ k ∈ owned ms', k ∈ owned ms) (htop : ∀ k ∈ tops ms', k ∈ tops ms) (hnd : (owned ms').Nodup)
    (hents : ∀ (i : Nat) (b : Blk) (e : Ent), hp'[i]? = some b → ms'[i]? = some e → EntR w0.heap.size ms' w (OkB w0.heap.size A ms' w) b e) : Rel w0 A ms' ⟨n, sl, hp'⟩ a w :=
  ⟨hr.ext, hr.old, hr.size, hr.defers, hlen, hnd, fun k hk => hr.range k (hown k hk), hents, fun t => (hr.slots t).alike (fun k hk => ⟨hk.1, hk.2.1, fun h => hk.2.2 (htop k h)⟩) al⟩
/-- An array of slices is opened: its cells hold values, of which a statement tells. -/
theorem W_shallow (i : Nat) (T : TypeId) (l : List (List Int)) (h : s.heap[i]? = some (.arr T 1 (l.map dII) true))
    (hw : ∀ us : List Value, us.length = l.length → (∀ u ∈ us, isSl u = true) → W P w0 A c ⟨s.n, s.slots, s.heap.set i (.arr T 1 (us.map dVal) true) ++ [.cust (RowsR us l)]⟩ Q) : W P w0 A c s Q := by
  refine ⟨fun ms a w hr => ?_⟩
  have hil : i < s.heap.length := (List.getElem?_eq_some_iff.1 h).1
  have him : i < ms.length := by rw [hr.len]; exact hil
  have hmi : ms[i]? = some ms[i] := List.getElem?_eq_getElem him
  obtain ⟨us, bs, o1, o2, o3, o4, o5⟩ := hr.ents i _ _ h hmi
  rw [if_pos rfl] at o5
  rw [dII_flat] at o3
  obtain ⟨q1, q2⟩ := rows_slice o3
  have hnb : bs.Nodup := by
    have := owned_self hr.nodup hmi
    rw [o5.1] at this
    exact (List.nodup_append.1 this).2.1
  let ms' := ms.set i ⟨ms[i].v, ms[i].top, []⟩ ++ [⟨undef, none, bs⟩]
  have hget : ∀ (j : Nat) (x : Ent), ms'[j]? = some x → (j = i ∧ x = ⟨ms[i].v, ms[i].top, []⟩) ∨ (j ≠ i ∧ j < ms.length ∧ ms[j]? = some x) ∨ (j = ms.length ∧ x = ⟨undef, none, bs⟩) := by
    intro j x hj
    simp only [ms'] at hj
    rcases Nat.lt_or_ge j ms.length with hlt | hge
    · rw [List.getElem?_append_left (by simpa using hlt)] at hj
      by_cases hji : j = i
      · subst hji
        rw [List.getElem?_set_self hlt] at hj
        exact Or.inl ⟨rfl, (Option.some.inj hj).symm⟩
      · rw [List.getElem?_set_ne (Ne.symm hji)] at hj
        exact Or.inr (Or.inl ⟨hji, hlt, hj⟩)
    · rw [List.getElem?_append_right (by simpa using hge)] at hj
      simp only [List.length_set] at hj
      have hj0 : j - ms.length = 0 := by
        cases hh : j - ms.length with
        | zero => rfl
        | succ q => rw [hh] at hj; simp at hj
      rw [hj0] at hj
      exact Or.inr (Or.inr ⟨by omega, by simpa using hj.symm⟩)
  have hmem : ∀ (j : Nat) (x : Ent) (k : Nat), ms'[j]? = some x → k ∈ x.top.toList ++ x.nest → k ∈ owned ms ∧ ((j = ms.length ∧ k ∈ bs) ∨ (j < ms.length ∧ ∃ y, ms[j]? = some y ∧ k ∈ y.top.toList ++ y.nest ∧ (j = i → k ∈ y.top.toList))) := by
    intro j x k hj hk
    rcases hget j x hj with ⟨rfl, rfl⟩ | ⟨h1, h2, h3⟩ | ⟨rfl, rfl⟩
    · have hk' : k ∈ ms[j].top.toList := by simpa using hk
      exact ⟨ent_owned hmi (List.mem_append_left _ hk'), Or.inr ⟨him, _, hmi, List.mem_append_left _ hk', fun _ => hk'⟩⟩
    · exact ⟨ent_owned h3 hk, Or.inr ⟨h2, _, h3, hk, fun e => absurd e h1⟩⟩
    · have hk' : k ∈ bs := by simpa using hk
      exact ⟨ent_owned hmi (List.mem_append_right _ (by rw [o5.1]; exact hk')), Or.inl ⟨rfl, hk'⟩⟩
  refine (hw us q1 q2).run ms' a w (hr.renest (by simp [ms', hr.len]) ?_ ?_ ?_ ?_ ?_)
  · intro j e hj
    have hlt : j < ms.length := (List.getElem?_eq_some_iff.1 hj).1
    by_cases hji : j = i
    · subst hji
      rw [hmi] at hj; cases hj
      exact ⟨⟨ms[j].v, ms[j].top, []⟩, by simp only [ms']; rw [List.getElem?_append_left (by simpa using hlt), List.getElem?_set_self hlt], rfl, rfl⟩
    · exact ⟨e, by simp only [ms']; rw [List.getElem?_append_left (by simpa using hlt), List.getElem?_set_ne (Ne.symm hji)]; exact hj, rfl, rfl⟩
  · intro k hk
    obtain ⟨j, x, hj, hx⟩ := mem_owned hk
    exact (hmem j x k hj hx).1
  · intro k hk
    simp only [tops, List.mem_filterMap] at hk
    obtain ⟨x, hx, ht⟩ := hk
    obtain ⟨j, hj⟩ := List.getElem?_of_mem hx
    rcases hget j x hj with ⟨rfl, rfl⟩ | ⟨_, _, h3⟩ | ⟨_, rfl⟩
    · exact tops_mem hmi ht
    · exact tops_mem h3 ht
    · simp at ht
  · refine owned_nodup_of ?_ ?_
    · intro j x hj
      rcases hget j x hj with ⟨rfl, rfl⟩ | ⟨_, _, h3⟩ | ⟨_, rfl⟩
      · cases ms[j].top <;> simp
      · exact owned_self hr.nodup h3
      · simpa using hnb
    · intro j j' x x' k hne hj hj' hk hk'
      have h1 := (hmem j x k hj hk).2
      have h2 := (hmem j' x' k hj' hk').2
      have key : ∀ (p : Nat) (y : Ent), p < ms.length → ms[p]? = some y → k ∈ y.top.toList ++ y.nest → (p = i → k ∈ y.top.toList) → k ∈ bs → False := by
        intro p y _ hp hky htp hkb
        have hki : k ∈ ms[i].nest := by rw [o5.1]; exact hkb
        by_cases e : p = i
        · subst e
          rw [hmi] at hp; cases hp
          exact (List.nodup_append.1 (owned_self hr.nodup hmi)).2.2 k (htp rfl) k hki rfl
        · exact owned_disjoint hr.nodup e hp hmi hky (List.mem_append_right _ hki)
      rcases h1 with ⟨e1, hb1⟩ | ⟨l1, y1, m1, k1, t1⟩ <;> rcases h2 with ⟨e2, hb2⟩ | ⟨l2, y2, m2, k2, t2⟩
      · exact hne (by omega)
      · exact key j' y2 l2 m2 k2 t2 hb1
      · exact key j y1 l1 m1 k1 t1 hb2
      · exact owned_disjoint hr.nodup hne m1 m2 k1 k2
  · intro j b e hb hj
    have hal : ∀ (i' : Nat) (e : Ent), ms[i']? = some e → ∃ e', ms'[i']? = some e' ∧ e'.v = e.v ∧ e'.top = e.top := by
      intro p x hp
      have hlt : p < ms.length := (List.getElem?_eq_some_iff.1 hp).1
      by_cases hji : p = i
      · subst hji
        rw [hmi] at hp; cases hp
        exact ⟨⟨ms[p].v, ms[p].top, []⟩, by simp only [ms']; rw [List.getElem?_append_left (by simpa using hlt), List.getElem?_set_self hlt], rfl, rfl⟩
      · exact ⟨x, by simp only [ms']; rw [List.getElem?_append_left (by simpa using hlt), List.getElem?_set_ne (Ne.symm hji)]; exact hp, rfl, rfl⟩
    have htop : ∀ k, OkB w0.heap.size A ms w k → OkB w0.heap.size A ms' w k := by
      refine fun k hk => ⟨hk.1, hk.2.1, fun h => hk.2.2 ?_⟩
      simp only [tops, List.mem_filterMap] at h
      obtain ⟨x, hx, ht⟩ := h
      obtain ⟨j, hj⟩ := List.getElem?_of_mem hx
      rcases hget j x hj with ⟨rfl, rfl⟩ | ⟨_, _, h3⟩ | ⟨_, rfl⟩
      · exact tops_mem hmi ht
      · exact tops_mem h3 ht
      · simp at ht
    rcases hget j e hj with ⟨rfl, rfl⟩ | ⟨h1, h2, h3⟩ | ⟨rfl, rfl⟩
    · rw [List.getElem?_append_left (by simpa using hil), List.getElem?_set_self hil] at hb
      cases hb
      refine ⟨us, [], ?_, ?_, ?_, o4, ?_⟩
      · rw [len_vals, q1]; rwa [List.length_map] at o1
      · intro r hr'
        obtain ⟨x, _, rfl⟩ := List.mem_map.1 hr'; rfl
      · rw [vals_flat]; exact vals_vrs q2
      · rw [if_pos rfl]; exact ⟨rfl, by simp⟩
    · rw [List.getElem?_append_left (by simp only [List.length_set]; rw [← hr.len]; exact h2), List.getElem?_set_ne (Ne.symm h1)] at hb
      exact (hr.ents j b e hb h3).alike htop hal
    · rw [List.getElem?_append_right (by simp [hr.len])] at hb
      simp only [List.length_set, hr.len, Nat.sub_self, List.getElem?_cons_zero, Option.some.injEq] at hb
      subst hb
      have : RowsR us l w undef none bs := ⟨rfl, o3, o5.2⟩
      exact ⟨this, fun w' hk => this.keep hk⟩
/-- And shut again: a part of the slices. -/
theorem Weak_deep (i c : Nat) (T : TypeId) (us : List Value) (l : List (List Int)) (z : List (Value × List Int)) (hic : i ≠ c) (hi : s.heap[i]? = some (.arr T 1 ((z.map Prod.fst).map dVal) true)) (hc : s.heap[c]? = some (.cust (RowsR us l))) (hz : z.Sublist (us.zip l))
    {hp' : List Blk} (e : hp' = (s.heap.set i (.arr T 1 ((z.map Prod.snd).map dII) true)).set c .gone) : Weak w0 A s ⟨s.n, s.slots, hp'⟩ := by
  subst e
  intro ms a w hr
  have hil : i < s.heap.length := (List.getElem?_eq_some_iff.1 hi).1
  have hcl : c < s.heap.length := (List.getElem?_eq_some_iff.1 hc).1
  have him : i < ms.length := by rw [hr.len]; exact hil
  have hcm : c < ms.length := by rw [hr.len]; exact hcl
  have hmi : ms[i]? = some ms[i] := List.getElem?_eq_getElem him
  have hmc : ms[c]? = some ms[c] := List.getElem?_eq_getElem hcm
  obtain ⟨us', bs', o1, o2, o3, o4, o5⟩ := hr.ents i _ _ hi hmi
  rw [vals_flat] at o3
  have hus := vals_inv o3
  subst hus
  obtain ⟨⟨t1, t2, t3⟩, _⟩ := hr.ents c _ _ hc hmc
  obtain ⟨bs, r1, r2⟩ := rows_sub t2 hz
  let ms' := (ms.set i ⟨ms[i].v, ms[i].top, bs⟩).set c ⟨ms[c].v, none, []⟩
  have hget : ∀ (j : Nat) (x : Ent), ms'[j]? = some x → (j = i ∧ x = ⟨ms[i].v, ms[i].top, bs⟩) ∨ (j = c ∧ x = ⟨ms[c].v, none, []⟩) ∨ (j ≠ i ∧ j ≠ c ∧ ms[j]? = some x) := by
    intro j x hj
    simp only [ms'] at hj
    by_cases hjc : j = c
    · subst hjc
      rw [List.getElem?_set_self (by simpa using hcm)] at hj
      exact Or.inr (Or.inl ⟨rfl, (Option.some.inj hj).symm⟩)
    · rw [List.getElem?_set_ne (Ne.symm hjc)] at hj
      by_cases hji : j = i
      · subst hji
        rw [List.getElem?_set_self him] at hj
        exact Or.inl ⟨rfl, (Option.some.inj hj).symm⟩
      · rw [List.getElem?_set_ne (Ne.symm hji)] at hj
        exact Or.inr (Or.inr ⟨hji, hjc, hj⟩)
  have hal : ∀ (p : Nat) (x : Ent), ms[p]? = some x → ∃ e', ms'[p]? = some e' ∧ e'.v = x.v ∧ e'.top = x.top := by
    intro p x hp
    by_cases hpc : p = c
    · subst hpc
      rw [hmc] at hp; cases hp
      exact ⟨⟨ms[p].v, none, []⟩, by simp only [ms']; rw [List.getElem?_set_self (by simpa using hcm)], rfl, t1.symm⟩
    · by_cases hpi : p = i
      · subst hpi
        rw [hmi] at hp; cases hp
        exact ⟨⟨ms[p].v, ms[p].top, bs⟩, by simp only [ms']; rw [List.getElem?_set_ne (Ne.symm hpc), List.getElem?_set_self him], rfl, rfl⟩
      · exact ⟨x, by simp only [ms']; rw [List.getElem?_set_ne (Ne.symm hpc), List.getElem?_set_ne (Ne.symm hpi)]; exact hp, rfl, rfl⟩
  have hsrc : ∀ (j : Nat) (x : Ent) (k : Nat), ms'[j]? = some x → k ∈ x.top.toList ++ x.nest → (j = i ∧ ((k ∈ ms[i].top.toList) ∨ k ∈ ms[c].nest)) ∨ (j ≠ i ∧ j ≠ c ∧ ∃ y, ms[j]? = some y ∧ k ∈ y.top.toList ++ y.nest) := by
    intro j x k hj hk
    rcases hget j x hj with ⟨rfl, rfl⟩ | ⟨rfl, rfl⟩ | ⟨h1, h2, h3⟩
    · rcases List.mem_append.1 hk with h | h
      · exact Or.inl ⟨rfl, Or.inl h⟩
      · exact Or.inl ⟨rfl, Or.inr (r2.mem h)⟩
    · simp at hk
    · exact Or.inr ⟨h1, h2, x, h3, hk⟩
  have htops : ∀ k ∈ tops ms', k ∈ tops ms := by
    intro k hk
    simp only [tops, List.mem_filterMap] at hk
    obtain ⟨x, hx, ht⟩ := hk
    obtain ⟨j, hj⟩ := List.getElem?_of_mem hx
    rcases hget j x hj with ⟨rfl, rfl⟩ | ⟨_, rfl⟩ | ⟨_, _, h3⟩
    · exact tops_mem hmi ht
    · simp at ht
    · exact tops_mem h3 ht
  have hsp := owned_self hr.nodup hmc
  refine ⟨ms', hr.renest (by simp [ms', hr.len]) hal ?_ htops ?_ ?_⟩
  · intro k hk
    obtain ⟨j, x, hj, hx⟩ := mem_owned hk
    rcases hsrc j x k hj hx with ⟨_, h | h⟩ | ⟨_, _, y, h1, h2⟩
    · exact ent_owned hmi (List.mem_append_left _ h)
    · exact ent_owned hmc (List.mem_append_right _ h)
    · exact ent_owned h1 h2
  · refine owned_nodup_of ?_ ?_
    · intro j x hj
      rcases hget j x hj with ⟨rfl, rfl⟩ | ⟨_, rfl⟩ | ⟨_, _, h3⟩
      · refine List.nodup_append.2 ⟨by cases ms[j].top <;> simp, r2.nodup (List.nodup_append.1 hsp).2.1, fun p hp q hq epq => ?_⟩
        subst epq
        exact owned_disjoint hr.nodup hic hmi hmc (List.mem_append_left _ hp) (List.mem_append_right _ (r2.mem hq))
      · simp
      · exact owned_self hr.nodup h3
    · intro j j' x x' k hne hj hj' hk hk'
      rcases hsrc j x k hj hk with ⟨e1, h1⟩ | ⟨e1, e1', y1, m1, k1⟩ <;> rcases hsrc j' x' k hj' hk' with ⟨e2, h2⟩ | ⟨e2, e2', y2, m2, k2⟩
      · exact hne (by omega)
      · rcases h1 with h | h
        · exact owned_disjoint hr.nodup e2 m2 hmi k2 (List.mem_append_left _ h)
        · exact owned_disjoint hr.nodup e2' m2 hmc k2 (List.mem_append_right _ h)
      · rcases h2 with h | h
        · exact owned_disjoint hr.nodup e1 m1 hmi k1 (List.mem_append_left _ h)
        · exact owned_disjoint hr.nodup e1' m1 hmc k1 (List.mem_append_right _ h)
      · exact owned_disjoint hr.nodup hne m1 m2 k1 k2
  · intro j b en hb hj
    rcases hget j en hj with ⟨rfl, rfl⟩ | ⟨rfl, rfl⟩ | ⟨h1, h2, h3⟩
    · rw [List.getElem?_set_ne (Ne.symm hic), List.getElem?_set_self hil] at hb
      cases hb
      refine ⟨z.map Prod.fst, bs, by simpa using o1, ?_, ?_, o4, ?_⟩
      · intro r hr'
        obtain ⟨x, _, rfl⟩ := List.mem_map.1 hr'; rfl
      · rw [dII_flat]; exact r1
      · rw [if_pos rfl]; exact ⟨rfl, fun k hk => t3 k (r2.mem hk)⟩
    · rw [List.getElem?_set_self (by simpa using hcl)] at hb
      cases hb
      exact ⟨rfl, rfl⟩
    · rw [List.getElem?_set_ne (Ne.symm h2), List.getElem?_set_ne (Ne.symm h1)] at hb
      exact (hr.ents j b en hb h3).alike (fun k hk => ⟨hk.1, hk.2.1, fun h => hk.2.2 (htops k h)⟩) hal
/-- A slot that holds one of the slices reads as its row, too. -/
theorem Weak_tag (t c j : Nat) (us : List Value) (l : List (List Int)) (hc : s.heap[c]? = some (.cust (RowsR us l))) (ht : s.get t = .lit (nth us j)) (hj : j < us.length) : Weak w0 A s ⟨s.n, (t, .tag (nth us j) (.sh 1 (ints (nth l j)))) :: s.slots, s.heap⟩ := by
  intro ms a w hr
  refine ⟨ms, hr.ext, hr.old, hr.size, hr.defers, hr.len, hr.nodup, hr.range, hr.ents, fun t' => ?_⟩
  simp only [St.get, look]
  split
  · rename_i e
    subst e
    have hcm : c < ms.length := by rw [hr.len]; exact (List.getElem?_eq_some_iff.1 hc).1
    have hmc : ms[c]? = some ms[c] := List.getElem?_eq_getElem hcm
    obtain ⟨⟨t1, t2, t3⟩, _⟩ := hr.ents c _ _ hc hmc
    have hv := hr.slots t'
    rw [ht] at hv
    obtain ⟨hu, _⟩ := hv.lit_inv
    have hlen := (rows_slice t2).1
    obtain ⟨bs, h1, h2⟩ := rows_nth t2 hj
    rw [hu]
    refine .rd (.tag h1) fun k hk => ?_
    have hk' := h2 k hk
    have hko := ent_owned hmc (List.mem_append_right _ hk')
    refine ⟨(hr.range k hko).2, Or.inl (hr.range k hko).1, fun h => ?_⟩
    simp only [tops, List.mem_filterMap] at h
    obtain ⟨x, hx, hxt⟩ := h
    obtain ⟨p, hp⟩ := List.getElem?_of_mem hx
    by_cases hpc : p = c
    · subst hpc
      rw [hmc] at hp; cases hp
      rw [t1] at hxt; cases hxt
    · exact owned_disjoint hr.nodup hpc hp hmc (by simp [hxt]) (List.mem_append_right _ hk')
  · exact hr.slots t'
variable {n : Nat} {sl : List (Nat × D)} {hp : List Blk} {ops : Array Oper} {rest : List Oper} {K : St → Prop} {ty : TypeId} {pos : String} {after : Array Edge}
/-- A slice that is known twice, moved as the value that it is. -/
theorem R_moveLit (dst : Nat) {x : Operand} {u : Value} {d : D} (hx : evD (look sl) x = .tag u d) (hu : isSl u = true) (hd : Nat.blt dst n = true) (hk : WO P w0 A ops rest ⟨n, (dst, .lit u) :: sl, hp⟩ K) : WO P w0 A ops (⟨some dst, .move x, ty, pos, after, none⟩ :: rest) ⟨n, sl, hp⟩ K := by
  refine ⟨fun ms a w hr R hq => ?_⟩
  refine wpList_plain rfl fun Kn hKn => ?_
  have hv := hr.ev_at hx
  have e1 : a.eval x = u := by
    cases hv with
    | rd h1 _ => cases h1; rfl
  have hrun : (execOp a.eval ⟨some dst, .move x, ty, pos, after, none⟩).run P w = .ok (.value u) w := by
    simp only [execOp, Sem.run, pure, e1]
  exact upon_value hrun (hKn _ _ (hk.run ms _ w (Rel.put (t := some dst) hr (VX.of_lit (isSl_lit hu)) (dstOk_all (s := ⟨n, _, _⟩) (t := some dst) hd)) R hq))
/-- One of the slices, assigned: known as the value that it is, and by its row. -/
theorem R_assignTag (dst c j : Nat) {x : Operand} (us : List Value) (l : List (List Int)) (hc : hp[c]? = some (.cust (RowsR us l))) (hx : evD (look sl) x = .lit (nth us j)) (hj : j < us.length) (hd : Nat.blt dst n = true) (hk : WO P w0 A ops rest ⟨n, (dst, .tag (nth us j) (.sh 1 (ints (nth l j)))) :: sl, hp⟩ K) : WO P w0 A ops (⟨some dst, .assign x, ty, pos, after, none⟩ :: rest) ⟨n, sl, hp⟩ K := by
  refine ⟨fun ms a w hr R hq => ?_⟩
  refine wpList_plain rfl fun Kn hKn => ?_
  have hu := (hr.ev_at hx).lit_inv.1
  have hrun : (execOp a.eval ⟨some dst, .assign x, ty, pos, after, none⟩).run P w = .ok (.value (nth us j)) w := by
    simp only [execOp, Sem.run, pure, hu]
  have hsl : VX ms w (OkB w0.heap.size A ms w) (.lit (nth us j)) (nth us j) := by
    have := hr.ev_at hx; rwa [hu] at this
  have hr2 := Rel.put (t := some dst) hr hsl (dstOk_all (s := ⟨n, _, _⟩) (t := some dst) hd)
  obtain ⟨ms2, hr3⟩ := Weak_tag (s := ⟨n, (dst, .lit (nth us j)) :: sl, hp⟩) dst c j us l hc (by simp [St.get, look]) hj ms _ w hr2
  have hr4 : Rel w0 A ms2 ⟨n, (dst, .tag (nth us j) (.sh 1 (ints (nth l j)))) :: sl, hp⟩ (a.put (some dst) (nth us j)) w := by
    refine ⟨hr3.ext, hr3.old, hr3.size, hr3.defers, hr3.len, hr3.nodup, hr3.range, hr3.ents, fun t => ?_⟩
    have := hr3.slots t
    simp only [St.get, look] at this ⊢
    split
    · rename_i e; rw [if_pos e] at this; exact this
    · rename_i e; rw [if_neg e, if_neg e] at this; exact this
  exact upon_value hrun (hKn _ _ (hk.run ms2 _ w hr4 R hq))
end
end Go.Proofs.Ytcbfpeplcbgpjaa
