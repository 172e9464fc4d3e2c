/- Symbolic states: entering a function, what it hands back; states that tell less. No condition. Symbolic states: states that tell less; rows of data; the table of the types. No condition. Symbolic states: append. No condition. Symbolic states: arrays that a call makes, stores, loads of its own elements. No condition. Symbolic states: stores to elements; slices that are written out; append of one element that may hold arrays of the call's own. No condition. Symbolic states: calls that are handed memory of the call's own, to be read alone; append of scalars of another array of the call's own. No condition. -/
import Derived.Test.YtcpjhpjlcgcigaaGreatDoorAbsH
import Derived.KernelRfl
import Derived.Maps.AppendAt
import Derived.Laws.OwnMore
set_option linter.unusedSimpArgs false
set_option linter.unusedVariables false
namespace Go.Proofs.YtcpjhpjlcgcigaaGreatDoor
open Go.ChangeShapes Go.WideShapes Go.ChangeAt Go.RowKit

/-! ### What is handed back, against what is there at the end -/
mutual
def cv (heap : List Blk) (js : List (Option Nat)) : D → D → Prop
  | .lit v, d => match d with | .lit v' => v = v' | _ => False
  | .nil, d => match d with | .nil => True | .sh _ xs => xs = [] | .own k => js[k]? = some none | _ => False
  | .sh n xs, d => match d with | .sh n' xs' => n = n' ∧ xs = xs' | _ => False
  | .own i, d => match d with | .sh n xs => (∃ t dp, heap[i]? = some (.arr t n xs dp)) ∧ js.contains (some i) = false | .own k => js[k]? = some (some i) | _ => False
  | .agg ds, d => match d with | .agg ds' => cvL heap js ds ds' | _ => False
  | .tup ds, d => match d with | .tup ds' => cvL heap js ds ds' | _ => False
  | _, _ => False
def cvL (heap : List Blk) (js : List (Option Nat)) : List D → List D → Prop
  | [], l => match l with | [] => True | _ :: _ => False
  | d :: ds, l => match l with | d' :: ds' => cv heap js d d' ∧ cvL heap js ds ds' | [] => False
end
def rhOk (heap : List Blk) : List (Option Nat) → List Blk → Prop
  | [], [] => True
  | some i :: js, b :: rh => heap[i]? = some b ∧ b.isArr = true ∧ rhOk heap js rh
  | none :: js, .arr _ _ xs _ :: rh => xs = [] ∧ rhOk heap js rh
  | _, _ => False

def nilEnt : Ent := ⟨.slice none 0 0, none, []⟩
def pickE (ms : List Ent) : Option Nat → Ent
  | some i => (ms[i]?).getD nilEnt
  | none => nilEnt

section
variable {P : Program} {w0 w : World} {A : Nat → Prop} {s : St} {ms : List Ent} {a : Act}

theorem owned_disjoint (h : (owned ms).Nodup) {i j : Nat} {e e' : Ent} (hij : i ≠ j) (hi : ms[i]? = some e) (hj : ms[j]? = some e') {k : Nat} (hk : k ∈ e.top.toList ++ e.nest) (hk' : k ∈ e'.top.toList ++ e'.nest) : False := by
  unfold owned at h
  rw [List.nodup_iff_pairwise_ne, List.pairwise_flatMap] at h
  obtain ⟨_, hp⟩ := h
  have hi' := List.getElem?_eq_some_iff.1 hi; have hj' := List.getElem?_eq_some_iff.1 hj
  rw [List.pairwise_iff_getElem] at hp
  rcases Nat.lt_or_gt_of_ne hij with hl | hl
  · exact hp i j hi'.1 hj'.1 hl k (by rw [hi'.2]; exact hk) k (by rw [hj'.2]; exact hk') rfl
  · exact hp j i hj'.1 hi'.1 hl k (by rw [hj'.2]; exact hk') k (by rw [hi'.2]; exact hk) rfl
theorem owned_self (h : (owned ms).Nodup) {i : Nat} {e : Ent} (hi : ms[i]? = some e) : (e.top.toList ++ e.nest).Nodup := by
  unfold owned at h
  rw [List.nodup_iff_pairwise_ne, List.pairwise_flatMap] at h
  exact List.nodup_iff_pairwise_ne.2 (h.1 e (List.mem_of_getElem? hi))

theorem mem_pick {js : List (Option Nat)} {k : Nat} (h : k ∈ owned (js.map (pickE ms))) : ∃ i e, some i ∈ js ∧ ms[i]? = some e ∧ k ∈ e.top.toList ++ e.nest := by
  simp only [owned, List.mem_flatMap, List.mem_map] at h
  obtain ⟨e, ⟨j, hj, rfl⟩, hk⟩ := h
  cases j with
  | none => simp [pickE, nilEnt] at hk
  | some i =>
    cases hi : ms[i]? with
    | none => simp [pickE, hi, nilEnt] at hk
    | some e => simp only [pickE, hi, Option.getD_some] at hk; exact ⟨i, e, hj, hi, hk⟩

theorem pick_nodup (h : (owned ms).Nodup) : ∀ {js : List (Option Nat)}, (js.filterMap id).Nodup → (owned (js.map (pickE ms))).Nodup
  | [], _ => by simp [owned]
  | none :: js, hj => by
    have := pick_nodup h (js := js) (by simpa using hj)
    simpa [owned, pickE, nilEnt] using this
  | some i :: js, hj => by
    simp only [List.filterMap_cons, id, List.nodup_cons] at hj
    have ih := pick_nodup h hj.2
    cases hi : ms[i]? with
    | none => simpa [owned, pickE, nilEnt, hi] using ih
    | some e =>
      have e1 : owned ((some i :: js).map (pickE ms)) = (e.top.toList ++ e.nest) ++ owned (js.map (pickE ms)) := by simp [owned, pickE, hi]
      rw [e1]
      refine List.nodup_append.2 ⟨owned_self h hi, ih, fun p hp q hq e2 => ?_⟩
      subst e2
      obtain ⟨i', e', h1, h2, h3⟩ := mem_pick hq
      refine owned_disjoint h (fun e3 => ?_) hi h2 hp h3
      subst e3
      exact hj.1 (List.mem_filterMap.2 ⟨some i, h1, rfl⟩)

theorem pick_ok {js : List (Option Nat)} {k : Nat} (h : OkB w0.heap.size A ms w k) : OkB w0.heap.size A (js.map (pickE ms)) w k := by
  obtain ⟨h1, h2, h3⟩ := h
  refine ⟨h1, h2, fun h4 => h3 ?_⟩
  simp only [tops, List.mem_filterMap, List.mem_map] at h4 ⊢
  obtain ⟨e, ⟨j, _, rfl⟩, hk⟩ := h4
  cases j with
  | none => simp [pickE, nilEnt] at hk
  | some i =>
    cases hi : ms[i]? with
    | none => simp [pickE, hi, nilEnt] at hk
    | some e => simp only [pickE, hi, Option.getD_some] at hk; exact ⟨e, List.mem_of_getElem? hi, hk⟩

theorem rhOk_len : ∀ {heap : List Blk} {js : List (Option Nat)} {rh : List Blk}, rhOk heap js rh → js.length = rh.length
  | _, [], [], _ => rfl
  | _, [], _ :: _, h => by simp [rhOk] at h
  | _, some i :: js, [], h => by simp [rhOk] at h
  | _, none :: js, [], h => by simp [rhOk] at h
  | _, some i :: js, b :: rh, h => by simp only [rhOk] at h; simp [rhOk_len h.2.2]
  | _, none :: js, .arr _ _ _ _ :: rh, h => by simp only [rhOk] at h; simp [rhOk_len h.2]
  | _, none :: js, .gone :: rh, h => by simp [rhOk] at h
  | _, none :: js, .cust _ :: rh, h => by simp [rhOk] at h
  | _, none :: js, .cells _ _ :: rh, h => by simp [rhOk] at h
theorem rhOk_get : ∀ {heap : List Blk} {js : List (Option Nat)} {rh : List Blk}, rhOk heap js rh → ∀ {k : Nat} {b : Blk}, rh[k]? = some b → (∃ i, js[k]? = some (some i) ∧ heap[i]? = some b ∧ b.isArr = true) ∨ (js[k]? = some none ∧ ∃ t n dp, b = .arr t n [] dp)
  | _, [], [], _, k, b, hk => by simp at hk
  | _, [], _ :: _, h, _, _, _ => by simp [rhOk] at h
  | _, some i :: js, [], h, _, _, _ => by simp [rhOk] at h
  | _, none :: js, [], h, _, _, _ => by simp [rhOk] at h
  | _, none :: js, .gone :: rh, h, _, _, _ => by simp [rhOk] at h
  | _, none :: js, .cust _ :: rh, h, _, _, _ => by simp [rhOk] at h
  | _, none :: js, .cells _ _ :: rh, h, _, _, _ => by simp [rhOk] at h
  | _, some i :: js, b :: rh, h, 0, b', hk => by
    simp only [rhOk] at h; simp at hk; subst hk
    exact Or.inl ⟨i, by simp, h.1, h.2.1⟩
  | _, some i :: js, b :: rh, h, k + 1, b', hk => by
    simp only [rhOk] at h; simp at hk
    simpa using rhOk_get h.2.2 hk
  | _, none :: js, .arr t n xs dp :: rh, h, 0, b', hk => by
    simp only [rhOk] at h; simp at hk; subst hk
    exact Or.inr ⟨by simp, t, n, dp, by rw [h.1]⟩
  | _, none :: js, .arr t n xs dp :: rh, h, k + 1, b', hk => by
    simp only [rhOk] at h; simp at hk
    simpa using rhOk_get h.2 hk

/-- The slice of an entry, as one that is read alone. -/
theorem Rel.view (hr : Rel w0 A ms s a w) {i : Nat} {e : Ent} {t : TypeId} {n : Nat} {xs : List (List D)} {dp : Bool} (hi : ms[i]? = some e) (hb : s.heap[i]? = some (.arr t n xs dp)) : ∃ bs, VR w (.sh n xs) e.v bs ∧ ∀ k ∈ bs, k < w.heap.size ∧ (w0.heap.size ≤ k ∨ A k) ∧ (k ∈ tops ms → e.top = some k) := by
  obtain ⟨us, bs, h1, h2, h3, h4, h5⟩ := hr.ents i _ e hb hi
  have hnest : ∀ k ∈ bs, k < w.heap.size ∧ (w0.heap.size ≤ k ∨ A k) ∧ k ∉ tops ms := by
    intro k hk
    cases dp with
    | false => exact h5.2 k hk
    | true =>
      have hk' : k ∈ e.nest := by rw [h5.1]; exact hk
      have ho := hr.range k (ent_owned hi (List.mem_append_right _ hk'))
      refine ⟨ho.2, Or.inl ho.1, fun ht => ?_⟩
      simp only [tops, List.mem_filterMap] at ht
      obtain ⟨e', he', ht⟩ := ht
      obtain ⟨j, hj, he'⟩ := List.getElem_of_mem he'
      have hj' : ms[j]? = some e' := by rw [List.getElem?_eq_getElem hj, he']
      by_cases hij : j = i
      · subst hij
        rw [hi] at hj'; cases hj'
        have := owned_self hr.nodup hi
        rw [ht] at this
        simp at this
        exact this.1 hk'
      · exact owned_disjoint hr.nodup hij hj' hi (by simp [ht]) (List.mem_append_right _ hk')
  obtain ⟨hlen, ⟨hv, h0⟩ | ⟨g, cap, cur, hv, hg, hh, c1, c2, c3, c4⟩⟩ := h1
  · have : xs = [] := List.length_eq_zero_iff.1 h0
    subst this
    exact ⟨[], by rw [hv]; exact .shnil (by omega) (fun _ => rfl), by simp⟩
  · refine ⟨g :: bs, ?_, ?_⟩
    · rw [hv]
      unfold maxLen at c2
      refine .sh h2 c1 (by omega) (Array.getElem?_eq_some_iff.1 hh).1 h3 ?_
      intro j hj
      have : us[j]? = cur[j]? := by
        rw [← c4, List.getElem?_take, if_pos (by omega), Array.getElem?_toList]
      rw [this, Nat.zero_add]
      simp [World.cell?, hh]
    · intro k hk
      rcases List.mem_cons.1 hk with rfl | hk
      · have ht : e.top = some k := by rw [h4, hv]; rfl
        exact ⟨(hr.range k (ent_owned hi (by simp [ht]))).2, Or.inl hg, fun _ => ht⟩
      · exact ⟨(hnest k hk).1, (hnest k hk).2.1, fun h => ((hnest k hk).2.2 h).elim⟩

mutual
theorem cv_ok (hr : Rel w0 A ms s a w) {js : List (Option Nat)} : ∀ {d d' : D} {v : Value}, VX ms w (OkB w0.heap.size A ms w) d v → cv s.heap js d d' → VX (js.map (pickE ms)) w (OkB w0.heap.size A (js.map (pickE ms)) w) d' v
  | .no, _, _, _, h => by simp [cv] at h
  | .vec _ _, _, _, _, h => by simp [cv] at h
  | .ptr _ _, _, _, _, h => by simp [cv] at h
  | .pin _ _ _, _, _, _, h => by simp [cv] at h
  | .eptr _ _ _ _, _, _, _, h => by simp [cv] at h
  | .part _ _ _ _, _, _, _, h => by simp [cv] at h
  | .sptr _, _, _, _, h => by simp [cv] at h
  | .fn _ _, _, _, _, h => by simp [cv] at h
  | .old _ _ _, _, _, _, h => by simp [cv] at h
  | .val _, _, _, _, h => by simp [cv] at h
  | .tag _ _, _, _, _, h => by simp [cv] at h
  | .lit v0, d', v, hv, h => by
    cases d' <;> simp only [cv] at h
    subst h
    exact VX.mono (fun k hk => ⟨rfl, pick_ok hk⟩) hv fun i e hu _ => by simp [D.uses] at hu
  | .sh n xs, d', v, hv, h => by
    cases d' <;> simp only [cv] at h
    obtain ⟨rfl, rfl⟩ := h
    exact VX.mono (fun k hk => ⟨rfl, pick_ok hk⟩) hv fun i e hu _ => by simp [D.uses] at hu
  | .nil, d', v, hv, h => by
    have e := hv.nil_inv
    subst e
    cases d' <;> simp only [cv] at h
    · exact .rd .nil (by simp)
    · subst h; exact .rd (.shnil (by omega) fun _ => rfl) (by simp)
    · rename_i k
      have : (js.map (pickE ms))[k]? = some nilEnt := by rw [List.getElem?_map, h]; rfl
      exact VX.own this ⟨none, 0, 0, rfl⟩
  | .own i, d', v, hv, h => by
    obtain ⟨e, hi, rfl, hsl⟩ := hv.own_inv
    cases d' <;> simp only [cv] at h
    · obtain ⟨⟨t, dp, hb⟩, hc⟩ := h
      obtain ⟨bs, h1, h2⟩ := hr.view hi hb
      refine .rd h1 fun k hk => ⟨(h2 k hk).1, (h2 k hk).2.1, fun ht => ?_⟩
      simp only [tops, List.mem_filterMap, List.mem_map] at ht
      obtain ⟨e', ⟨j, hj, rfl⟩, ht⟩ := ht
      cases j with
      | none => simp [pickE, nilEnt] at ht
      | some i' =>
        cases hi' : ms[i']? with
        | none => simp [pickE, hi', nilEnt] at ht
        | some e' =>
          simp only [pickE, hi', Option.getD_some] at ht
          have hne : i ≠ i' := by
            rintro rfl
            have := List.contains_iff_mem.2 hj
            rw [hc] at this; exact Bool.noConfusion this
          have htop := (h2 k hk).2.2 (by simp only [tops, List.mem_filterMap]; exact ⟨e', List.mem_of_getElem? hi', ht⟩)
          exact owned_disjoint hr.nodup hne hi hi' (k := k) (by simp [htop]) (by simp [ht])
    · rename_i k
      have : (js.map (pickE ms))[k]? = some e := by rw [List.getElem?_map, h]; simp [pickE, hi]
      exact VX.own this hsl
  | .agg ds, d', v, hv, h => by
    obtain ⟨us, rfl, h2⟩ := hv.agg_inv
    cases d' <;> simp only [cv] at h
    exact .agg (cvL_ok hr h2 h)
  | .tup ds, d', v, hv, h => by
    obtain ⟨us, rfl, h2⟩ := hv.tup_inv
    cases d' <;> simp only [cv] at h
    exact .tup (cvL_ok hr h2 h)
theorem cvL_ok (hr : Rel w0 A ms s a w) {js : List (Option Nat)} : ∀ {ds ds' : List D} {us : List Value}, VXs ms w (OkB w0.heap.size A ms w) ds us → cvL s.heap js ds ds' → VXs (js.map (pickE ms)) w (OkB w0.heap.size A (js.map (pickE ms)) w) ds' us
  | [], l, us, hv, h => by
    cases l <;> simp only [cvL] at h
    cases hv; exact .nil
  | d :: ds, l, us, hv, h => by
    cases l with
    | nil => simp only [cvL] at h
    | cons d' ds' =>
      simp only [cvL] at h
      cases hv with
      | cons hv hvs => exact .cons (cv_ok hr hv h.1) (cvL_ok hr hvs h.2)
end

theorem Rel.post (hr : Rel w0 A ms s a w) {js : List (Option Nat)} {rh : List Blk} {d d' : D} {v : Value} (hrh : rhOk s.heap js rh) (hjs : (js.filterMap id).Nodup) (hv : VX ms w (OkB w0.heap.size A ms w) d v) (hc : cv s.heap js d d') : Post w0 A d' rh (js.map (pickE ms)) v w := by
  refine ⟨hr.ext, by simp [rhOk_len hrh], pick_nodup hr.nodup hjs, ?_, ?_, cv_ok hr hv hc⟩
  · intro k hk
    obtain ⟨i, e, _, h2, h3⟩ := mem_pick hk
    exact hr.range k (ent_owned h2 h3)
  · intro k b e hb he
    rcases rhOk_get hrh hb with ⟨i, h1, h2, h3⟩ | ⟨h1, t, n, dp, rfl⟩
    · rw [List.getElem?_map, h1] at he
      have hlt : i < ms.length := by rw [hr.len]; exact (List.getElem?_eq_some_iff.1 h2).1
      have hi : ms[i]? = some ms[i] := List.getElem?_eq_getElem hlt
      simp only [Option.map_some, pickE, hi, Option.getD_some, Option.some.injEq] at he
      subst he
      have hE := hr.ents i b _ h2 hi
      refine hE.mono (fun k hk => ⟨rfl, pick_ok hk⟩) (fun _ _ => rfl) (fun _ _ => rfl) fun j e hu _ => ?_
      cases b <;> simp [Blk.isArr] at h3 <;> simp [Blk.uses] at hu
    · rw [List.getElem?_map, h1] at he
      simp only [Option.map_some, pickE, Option.some.injEq] at he
      subst he
      refine ⟨[], [], World.ownsRow_nil _ _ _ _, by simp, .nil, rfl, ?_⟩
      cases dp <;> simp [nilEnt]

/-! ### A function -/
def argSlots : Nat → List D → List (Nat × D)
  | _, [] => []
  | i, d :: ds => (i, d) :: argSlots (i + 1) ds
def retD (s : St) : List ResultVar → Option D
  | [] => some (.tup [])
  | [.tmp t] => forceK (s.get t) some
  | [.tmp t, .tmp u] => forceK (s.get t) fun d => forceK (s.get u) fun d' => some (.tup [d, d'])
  | [.tmp t, .tmp u, .tmp x] => forceK (s.get t) fun d => forceK (s.get u) fun d' => forceK (s.get x) fun d'' => some (.tup [d, d', d''])
  | _ => none
def RetS (rs : Array ResultVar) (d : D) (rh : List Blk) (s : St) : Prop := ∃ dd js, retD s rs.toList = some dd ∧ cv s.heap js dd d ∧ rhOk s.heap js rh ∧ (js.filterMap id).Nodup
inductive retQ (rs : Array ResultVar) (d : D) (rh : List Blk) : Exit → St → Prop
  | r {s : St} : RetS rs d rh s → retQ rs d rh .ret s
  | n {s : St} : RetS rs d rh s → retQ rs d rh .normal s

theorem results_ok {fn : Func} {dd : D} (h : retD s fn.results.toList = some dd) (hr : Rel w0 A ms s a w) : ∃ v, (results fn a.tmps).run P w = .ok v w ∧ VX ms w (OkB w0.heap.size A ms w) dd v := by
  have e : ∀ l, fn.results.toList = l → fn.results = l.toArray := fun l h => by rw [← h]
  unfold retD at h
  split at h
  · rename_i hl
    simp only [Option.some.injEq] at h; subst h
    exact ⟨.tuple #[], by simp [results, e _ hl], .tup (us := []) .nil⟩
  · rename_i t hl
    have h := forceK_eq h
    simp only [Option.some.injEq] at h; subst h
    exact ⟨_, by simp [results, e _ hl], hr.slots t⟩
  · rename_i t u hl
    have h := forceK_eq (forceK_eq h)
    simp only [Option.some.injEq] at h; subst h
    exact ⟨.tuple [a.tmps.getD t undef, a.tmps.getD u undef].toArray, by simp [results, e _ hl], .tup (.cons (hr.slots t) (.cons (hr.slots u) .nil))⟩
  · rename_i t u x hl
    have h := forceK_eq (forceK_eq (forceK_eq h))
    simp only [Option.some.injEq] at h; subst h
    exact ⟨.tuple [a.tmps.getD t undef, a.tmps.getD u undef, a.tmps.getD x undef].toArray, by simp [results, e _ hl], .tup (.cons (hr.slots t) (.cons (hr.slots u) (.cons (hr.slots x) .nil)))⟩
  · simp at h

theorem look_arg {Ok : Nat → Prop} (r : List Value) : ∀ {ds : List D} {us : List Value}, VXs [] w Ok ds us → ∀ (i t : Nat) (u : Value), (i ≤ t → u = (us ++ r).getD (t - i) undef) → VX [] w Ok (look (argSlots i ds) t) u
  | _, _, .nil, _, _, _, _ => .no
  | _, _, .cons hd hs, i, t, u, hu => by
    simp only [argSlots, look]
    split
    · rename_i e
      subst e
      rw [hu (Nat.le_refl _), Nat.sub_self]; exact hd
    · rename_i e
      refine look_arg r hs (i + 1) t u fun h => ?_
      rw [hu (by omega), show t - i = (t - (i + 1)) + 1 by omega]; rfl

/-- The values that a function is called with. -/
def Given (w : World) (A : Nat → Prop) (ds : List D) : Prop := ∃ us, VXs [] w A ds us

theorem Fn_of {f : FuncId} {fn : Func} {c : Code} {ds : List D} {d : D} {rh : List Blk} (hf : P.funcs[f]? = some fn) (hb : fn.body = some c) (hname : (fn.name == "runtime.NumGoroutine") = false) (hn : Nat.ble ds.length fn.ntmps = true) (hrh : rh.all Blk.isArr = true)
    (h : ∀ w0 A, Given w0 A ds → W P w0 A c ⟨fn.ntmps, argSlots 0 ds, []⟩ (retQ fn.results d rh)) : Fn P f ds d rh := by
  refine ⟨?_, hrh, ?_⟩
  · intro args w
    have h1 : ¬ fn.name = "runtime.NumGoroutine" := by simpa using hname
    have h2 : ¬ fn.body = none := by rw [hb]; simp
    simp [callFunc, program, Sem.run, go_sem, hf, h1, h2]
  · intro A w us hA hus
    have hl := hus.len
    have hn' : ds.length ≤ fn.ntmps := Nat.le_of_ble_eq_true hn
    refine calls_of_wp hf hb (Code.wp_mono ?_ ((h w A ⟨us, hus⟩).run [] { tmps := us.toArray ++ Array.replicate (fn.ntmps - us.toArray.size) undef, defers := [] } w ?_))
    · rintro e a' w' ⟨ms, s, hr, hq⟩
      have key : RetS fn.results d rh s → a'.defers = [] ∧ ∃ v, (results fn a'.tmps).run P w' = .ok v w' ∧ ∃ v' ms, Ending.returned v = .returned v' ∧ Post w A d rh ms v' w' := by
        rintro ⟨dd, js, h1, h2, h3, h4⟩
        obtain ⟨v, h5, h6⟩ := results_ok (P := P) h1 hr
        exact ⟨hr.defers, v, h5, v, _, rfl, hr.post h3 h4 h6 h2⟩
      cases hq with
      | r h => exact key h
      | n h => exact key h
    · refine ⟨Ext.refl _, hA, by simp; omega, rfl, rfl, by simp [owned], by simp [owned], by simp, fun t => ?_⟩
      refine look_arg (List.replicate (fn.ntmps - us.length) undef) (VXs.mono (ms' := []) (w' := w) (Ok' := OkB w.heap.size A [] w) (fun k hk => ⟨rfl, hA k hk, Or.inr hk, by simp [tops]⟩) hus fun _ _ _ h => h) 0 t _ fun _ => ?_
      have e : (us.toArray ++ Array.replicate (fn.ntmps - us.toArray.size) undef) = (us ++ List.replicate (fn.ntmps - us.length) undef).toArray := by
        rw [← List.append_toArray, List.size_toArray, List.toArray_replicate]
      rw [e]; simp [Array.getD_eq_getD_getElem?, List.getD_eq_getElem?_getD]
end
end Go.Proofs.YtcpjhpjlcgcigaaGreatDoor
namespace Go.Proofs.YtcpjhpjlcgcigaaGreatDoor
open Go.ChangeShapes Go.WideShapes Go.ChangeAt Go.RowKit

mutual
def D.lt (m : Nat) : D → Bool
  | .own i => Nat.blt i m
  | .vec i _ => Nat.blt i m
  | .ptr i _ => Nat.blt i m
  | .pin _ i _ => Nat.blt i m
  | .eptr i _ _ _ => Nat.blt i m
  | .part i _ _ _ => Nat.blt i m
  | .agg ds => D.ltL m ds
  | .tup ds => D.ltL m ds
  | .fn _ ds => D.ltL m ds
  | _ => true
def D.ltL (m : Nat) : List D → Bool
  | [] => true
  | d :: ds => match d.lt m with | true => D.ltL m ds | false => false
end
mutual
theorem D.lt_uses : ∀ {d : D} {m i : Nat}, d.lt m = true → d.uses i = true → i < m
  | .no, _, _, _, h => by simp [D.uses] at h
  | .lit _, _, _, _, h => by simp [D.uses] at h
  | .nil, _, _, _, h => by simp [D.uses] at h
  | .sh _ _, _, _, _, h => by simp [D.uses] at h
  | .sptr _, _, _, _, h => by simp [D.uses] at h
  | .old _ _ _, _, _, _, h => by simp [D.uses] at h
  | .val _, _, _, _, h => by simp [D.uses] at h
  | .tag _ _, _, _, _, h => by simp [D.uses] at h
  | .own j, m, i, h, h' => by simp [D.uses] at h'; subst h'; simpa [D.lt, Nat.blt_eq] using h
  | .vec j _, m, i, h, h' => by simp [D.uses] at h'; subst h'; simpa [D.lt, Nat.blt_eq] using h
  | .ptr j _, m, i, h, h' => by simp [D.uses] at h'; subst h'; simpa [D.lt, Nat.blt_eq] using h
  | .pin _ j _, m, i, h, h' => by simp [D.uses] at h'; subst h'; simpa [D.lt, Nat.blt_eq] using h
  | .eptr j _ _ _, m, i, h, h' => by simp [D.uses] at h'; subst h'; simpa [D.lt, Nat.blt_eq] using h
  | .part j _ _ _, m, i, h, h' => by simp [D.uses] at h'; subst h'; simpa [D.lt, Nat.blt_eq] using h
  | .agg ds, m, i, h, h' => by rw [D.lt] at h; rw [D.uses] at h'; exact D.ltL_uses h h'
  | .tup ds, m, i, h, h' => by rw [D.lt] at h; rw [D.uses] at h'; exact D.ltL_uses h h'
  | .fn _ ds, m, i, h, h' => by rw [D.lt] at h; rw [D.uses] at h'; exact D.ltL_uses h h'
theorem D.ltL_uses : ∀ {ds : List D} {m i : Nat}, D.ltL m ds = true → D.usesL i ds = true → i < m
  | [], _, _, _, h => by simp [D.usesL] at h
  | d :: ds, m, i, h, h' => by
    rw [D.ltL] at h
    cases hd : d.lt m
    · rw [hd] at h; exact Bool.noConfusion h
    · rw [hd] at h
      rw [D.usesL, Bool.or_eq_true] at h'
      rcases h' with h' | h'
      · exact D.lt_uses hd h'
      · exact D.ltL_uses h h'
end
def SlotsIn (s : St) : List (Nat × D) → Prop
  | [] => True
  | (t, d) :: l => s.get t = d ∧ SlotsIn s l
def slotsLt (m : Nat) : List (Nat × D) → Bool
  | [] => true
  | (_, d) :: l => match d.lt m with | true => slotsLt m l | false => false
def heapLt (m : Nat) : List Blk → Bool
  | [] => true
  | .cells _ ds :: l => match D.ltL m ds with | true => heapLt m l | false => false
  | _ :: l => heapLt m l

section
variable {P : Program} {w0 w : World} {A : Nat → Prop} {s s' : St} {ms : List Ent} {a : Act} {Q : Exit → St → Prop}

theorem slotsIn_look {t : Nat} : ∀ {l : List (Nat × D)} {m : Nat}, SlotsIn s l → slotsLt m l = true → look l t = .no ∨ (look l t = s.get t ∧ (s.get t).lt m = true)
  | [], _, _, _ => Or.inl rfl
  | (t', d) :: l, m, h, hl => by
    obtain ⟨h1, h2⟩ := h
    rw [slotsLt] at hl
    cases hd : d.lt m
    · rw [hd] at hl; exact Bool.noConfusion hl
    · rw [hd] at hl
      simp only [look]
      split
      · rename_i e; subst e; exact Or.inr ⟨h1.symm, by rw [h1]; exact hd⟩
      · exact slotsIn_look h2 hl
theorem heapLt_get {t : TypeId} {ds : List D} : ∀ {l : List Blk} {m i : Nat}, heapLt m l = true → l[i]? = some (.cells t ds) → D.ltL m ds = true
  | [], _, _, _, h => by simp at h
  | b :: l, m, 0, h, hi => by
    simp at hi; subst hi
    rw [heapLt] at h
    cases hd : D.ltL m ds
    · rw [hd] at h; exact Bool.noConfusion h
    · rfl
  | b :: l, m, i + 1, h, hi => by
    simp at hi
    refine heapLt_get (m := m) ?_ hi
    cases b with
    | cells t' ds' =>
      rw [heapLt] at h
      cases hd : D.ltL m ds'
      · rw [hd] at h; exact Bool.noConfusion h
      · rw [hd] at h; exact h
    | gone => rw [heapLt] at h; exact h; intro _ _ h; cases h
    | arr _ _ _ _ => rw [heapLt] at h; exact h; intro _ _ h; cases h
    | fr _ _ => rw [heapLt] at h; exact h; intro _ _ h; cases h
    | cust _ => rw [heapLt] at h; exact h; intro _ _ h; cases h

theorem weak_of (ex : List Blk) (hn : s'.n = s.n) (hh : s.heap = s'.heap ++ ex) (hs : SlotsIn s s'.slots) (hl : slotsLt s'.heap.length s'.slots = true) (hc : heapLt s'.heap.length s'.heap = true) : Weak w0 A s s' := by
  intro ms a w hr
  have e : ms = ms.take s'.heap.length ++ ms.drop s'.heap.length := (List.take_append_drop _ _).symm
  have hlen : (ms.take s'.heap.length).length = s'.heap.length := by rw [List.length_take, hr.len, hh]; simp
  have ho : owned ms = owned (ms.take s'.heap.length) ++ owned (ms.drop s'.heap.length) := by rw [← owned_append, ← e]
  have ht : tops ms = tops (ms.take s'.heap.length) ++ tops (ms.drop s'.heap.length) := by rw [← tops_append, ← e]
  have hk : ∀ k, OkB w0.heap.size A ms w k → w.heap[k]? = w.heap[k]? ∧ OkB w0.heap.size A (ms.take s'.heap.length) w k := fun k ⟨k1, k2, k3⟩ => ⟨rfl, k1, k2, fun h => k3 (by rw [ht]; exact List.mem_append_left _ h)⟩
  have hm : ∀ (i : Nat) (e : Ent), i < s'.heap.length → ms[i]? = some e → (ms.take s'.heap.length)[i]? = some e := fun i e hi h => by rw [List.getElem?_take, if_pos hi]; exact h
  refine ⟨ms.take s'.heap.length, hr.ext, hr.old, by rw [hn]; exact hr.size, hr.defers, hlen, ?_, ?_, ?_, ?_⟩
  · have := hr.nodup; rw [ho] at this; exact (List.nodup_append.1 this).1
  · intro k hk'; exact hr.range k (by rw [ho]; exact List.mem_append_left _ hk')
  · intro i b e hi he
    have hi' : i < s'.heap.length := (List.getElem?_eq_some_iff.1 hi).1
    have hb : s.heap[i]? = some b := by rw [hh, List.getElem?_append_left hi']; exact hi
    have he' : ms[i]? = some e := by rw [List.getElem?_take, if_pos hi'] at he; exact he
    refine (hr.ents i b e hb he').mono hk (fun _ _ => rfl) (fun _ _ => rfl) fun j e2 hu h2 => hm j e2 ?_ h2
    cases b with
    | cells t ds => exact D.ltL_uses (heapLt_get hc hi) hu
    | gone => simp [Blk.uses] at hu
    | arr _ _ _ _ => simp [Blk.uses] at hu
    | fr _ _ => simp [Blk.uses] at hu
    | cust _ => simp [Blk.uses] at hu
  · intro t
    rcases slotsIn_look (t := t) hs hl with h | ⟨h, h2⟩
    · rw [St.get, h]; exact .no
    · rw [St.get, h]
      exact VX.mono hk (hr.slots t) fun i e hu h3 => hm i e (D.lt_uses h2 hu) h3

/-- The same, where it follows by reckoning. -/
theorem weakZ (ex : List Blk) (hn : s'.n = s.n := by exact rfl) (hh : s.heap = s'.heap ++ ex := by exact rfl) (hs : SlotsIn s s'.slots := by repeat' (first | exact trivial | rfl | refine And.intro ?_ ?_ | (simp [St.get, look, ints, strs, bools]; done))) (hl : slotsLt s'.heap.length s'.slots = true := by exact rfl) (hc : heapLt s'.heap.length s'.heap = true := by exact rfl) : Weak w0 A s s' := weak_of ex hn hh hs hl hc

/-- A nil slice becomes an array of the call's own, without elements. -/
theorem W_open {c : Code} (t : Nat) (T : TypeId) (n : Nat) (h : s.get t = .nil) (hw : W P w0 A c ⟨s.n, (t, .own s.heap.length) :: s.slots, s.heap ++ [.arr T n [] true]⟩ Q) : W P w0 A c s Q := by
  refine W_weak (s' := ⟨s.n, (t, .own s.heap.length) :: s.slots, s.heap ++ [.arr T n [] true]⟩) ?_ hw
  intro ms a w hr
  have := hr.grow (Ext.refl w) [nilEnt] [.arr T n [] true] rfl (by simp [owned, nilEnt]) (by simp [owned, nilEnt]) (by
    intro i b e hb he
    cases i with
    | succ i => simp at hb
    | zero =>
      simp at hb he
      subst hb; subst he
      exact ⟨[], [], World.ownsRow_nil _ _ _ _, by simp, .nil, rfl, rfl, by simp⟩)
  refine ⟨_, this.ext, this.old, this.size, this.defers, this.len, this.nodup, this.range, this.ents, fun x => ?_⟩
  simp only [St.get, look]
  split
  · rename_i e
    subst e
    have hv := hr.slots x
    rw [h] at hv
    rw [hv.nil_inv]
    exact VX.own (e := nilEnt) (by rw [List.getElem?_append_right (by rw [hr.len]; exact Nat.le_refl _), hr.len]; simp) ⟨none, 0, 0, rfl⟩
  · exact this.slots x
end

/-! ### Rows of data -/
theorem rowAt_nat {α : Type} [Inhabited α] {l : List α} {f : α → List D} {k : Nat} (h : k < l.length) : RowAt (l.map f) (k : Int) (f (nth l k)) := by
  refine ⟨by omega, ?_⟩
  rw [List.getElem?_map, Int.toNat_natCast, List.getElem?_eq_getElem h, nth_get h]; rfl
theorem rowAt_int {α : Type} [Inhabited α] {l : List α} {f : α → List D} {j : Int} (h0 : 0 ≤ j) (h : j < l.length) : RowAt (l.map f) j (f (nth l j.toNat)) := by
  have hk : j.toNat < l.length := by omega
  refine ⟨h0, ?_⟩
  rw [List.getElem?_map, List.getElem?_eq_getElem hk, nth_get hk]; rfl
def ints (l : List Int) : List (List D) := l.map fun x => [.lit (.int .i64 x)]
def strs (l : List ByteArray) : List (List D) := l.map fun x => [.lit (.string x)]
def bools (l : List Bool) : List (List D) := l.map fun x => [.lit (.bool x)]
end Go.Proofs.YtcpjhpjlcgcigaaGreatDoor
namespace Go.Proofs.YtcpjhpjlcgcigaaGreatDoor
open Go.ChangeShapes Go.WideShapes Go.ChangeAt Go.RowKit

/-! ### Values that name an entry are struck -/
mutual
def D.hits (p : Nat → Bool) : D → Bool
  | .own i => p i
  | .vec i _ => p i
  | .ptr i _ => p i
  | .pin _ i _ => p i
  | .eptr i _ _ _ => p i
  | .part i _ _ _ => p i
  | .agg ds => D.hitsL p ds
  | .tup ds => D.hitsL p ds
  | .fn _ ds => D.hitsL p ds
  | _ => false
def D.hitsL (p : Nat → Bool) : List D → Bool
  | [] => false
  | d :: ds => match d.hits p with | true => true | false => D.hitsL p ds
end
mutual
theorem D.hits_uses {p : Nat → Bool} : ∀ {d : D} {i : Nat}, d.hits p = false → p i = true → d.uses i = false
  | .no, _, _, _ => rfl
  | .lit _, _, _, _ => rfl
  | .nil, _, _, _ => rfl
  | .sh _ _, _, _, _ => rfl
  | .sptr _, _, _, _ => rfl
  | .old _ _ _, _, _, _ => rfl
  | .val _, _, _, _ => rfl
  | .tag _ _, _, _, _ => rfl
  | .own j, i, h, hp => by simp only [D.hits] at h; simp only [D.uses, beq_eq_false_iff_ne]; rintro rfl; rw [hp] at h; exact Bool.noConfusion h
  | .vec j _, i, h, hp => by simp only [D.hits] at h; simp only [D.uses, beq_eq_false_iff_ne]; rintro rfl; rw [hp] at h; exact Bool.noConfusion h
  | .ptr j _, i, h, hp => by simp only [D.hits] at h; simp only [D.uses, beq_eq_false_iff_ne]; rintro rfl; rw [hp] at h; exact Bool.noConfusion h
  | .pin _ j _, i, h, hp => by simp only [D.hits] at h; simp only [D.uses, beq_eq_false_iff_ne]; rintro rfl; rw [hp] at h; exact Bool.noConfusion h
  | .eptr j _ _ _, i, h, hp => by simp only [D.hits] at h; simp only [D.uses, beq_eq_false_iff_ne]; rintro rfl; rw [hp] at h; exact Bool.noConfusion h
  | .part j _ _ _, i, h, hp => by simp only [D.hits] at h; simp only [D.uses, beq_eq_false_iff_ne]; rintro rfl; rw [hp] at h; exact Bool.noConfusion h
  | .agg ds, i, h, hp => by rw [D.hits] at h; rw [D.uses]; exact D.hitsL_uses h hp
  | .tup ds, i, h, hp => by rw [D.hits] at h; rw [D.uses]; exact D.hitsL_uses h hp
  | .fn _ ds, i, h, hp => by rw [D.hits] at h; rw [D.uses]; exact D.hitsL_uses h hp
theorem D.hitsL_uses {p : Nat → Bool} : ∀ {ds : List D} {i : Nat}, D.hitsL p ds = false → p i = true → D.usesL i ds = false
  | [], _, _, _ => rfl
  | d :: ds, i, h, hp => by
    rw [D.hitsL] at h
    cases hd : d.hits p
    · rw [hd] at h
      rw [D.usesL, D.hits_uses hd hp, D.hitsL_uses h hp]; rfl
    · rw [hd] at h; exact Bool.noConfusion h
end
def D.kill (p : Nat → Bool) (d : D) : D := match d.hits p with | true => .no | false => d
def forceN {α : Type} : D → (D → Option α) → Option α
  | .no, k => k .no
  | d, k => forceK d k
theorem forceN_eq {α : Type} {d : D} {k : D → Option α} {r : α} (h : forceN d k = some r) : k d = some r := by cases d <;> first | exact h | exact forceK_eq h
def killK {α : Type} (p : Nat → Bool) : List (Nat × D) → (List (Nat × D) → Option α) → Option α
  | [], k => k []
  | (t, d) :: l, k => forceN (d.kill p) fun d' => killK p l fun l' => k ((t, d') :: l')
def killS (p : Nat → Bool) : List (Nat × D) → List (Nat × D)
  | [] => []
  | (t, d) :: l => (t, d.kill p) :: killS p l
theorem killK_eq {α : Type} {p : Nat → Bool} : ∀ {l : List (Nat × D)} {k : List (Nat × D) → Option α} {r : α}, killK p l k = some r → k (killS p l) = some r
  | [], _, _, h => h
  | (_, _) :: _, _, _, h => by
    have := killK_eq (forceN_eq h)
    exact this
def killD (p : Nat → Bool) : List D → List D
  | [] => []
  | d :: l => d.kill p :: killD p l
def killDK {α : Type} (p : Nat → Bool) : List D → (List D → Option α) → Option α
  | [], k => k []
  | d :: l, k => forceN (d.kill p) fun d' => killDK p l fun l' => k (d' :: l')
theorem killDK_eq {α : Type} {p : Nat → Bool} : ∀ {l : List D} {k : List D → Option α} {r : α}, killDK p l k = some r → k (killD p l) = some r
  | [], _, _, h => h
  | d :: _, k, _, h => killDK_eq (k := fun l' => k (d.kill p :: l')) (forceN_eq h)
def Blk.kill (p : Nat → Bool) : Blk → Blk
  | .cells t ds => .cells t (killD p ds)
  | b => b
/-- The memory, entry i anew, the entries that c names given away, what names either struck. -/
def newH (p c : Nat → Bool) (i : Nat) (b' : Blk) : Nat → List Blk → List Blk
  | _, [] => []
  | j, b :: l => (match Nat.beq j i with | true => b' | false => match c j with | true => .gone | false => b.kill p) :: newH p c i b' (j + 1) l
def newK {α : Type} (p c : Nat → Bool) (i : Nat) (b' : Blk) : Nat → List Blk → (List Blk → Option α) → Option α
  | _, [], k => k []
  | j, b :: l, k => match Nat.beq j i with
    | true => newK p c i b' (j + 1) l fun l' => k (b' :: l')
    | false => match c j with
      | true => newK p c i b' (j + 1) l fun l' => k (.gone :: l')
      | false => match b with
        | .cells t ds => killDK p ds fun ds' => newK p c i b' (j + 1) l fun l' => k (.cells t ds' :: l')
        | .gone => newK p c i b' (j + 1) l fun l' => k (.gone :: l')
        | .arr t n xs dp => newK p c i b' (j + 1) l fun l' => k (.arr t n xs dp :: l')
        | .fr n xs => newK p c i b' (j + 1) l fun l' => k (.fr n xs :: l')
        | .cust R => newK p c i b' (j + 1) l fun l' => k (.cust R :: l')
theorem newK_eq {α : Type} {p c : Nat → Bool} {i : Nat} {b' : Blk} : ∀ {l : List Blk} {j : Nat} {k : List Blk → Option α} {r : α}, newK p c i b' j l k = some r → k (newH p c i b' j l) = some r
  | [], _, _, _, h => h
  | b :: l, j, k, r, h => by
    unfold newK at h
    rw [newH]
    cases hb : Nat.beq j i <;> simp only [hb] at h
    · cases hc : c j <;> simp only [hc] at h
      · cases b with
        | cells t ds => exact newK_eq (killDK_eq (k := fun ds' => newK p c i b' (j + 1) l fun l' => k (.cells t ds' :: l')) h)
        | gone => exact newK_eq h
        | arr t n xs dp => exact newK_eq h
        | fr n xs => exact newK_eq h
        | cust R => exact newK_eq h
      · exact newK_eq h
    · exact newK_eq h
theorem newH_get {p c : Nat → Bool} {i : Nat} {b' : Blk} : ∀ {l : List Blk} {j m : Nat}, (newH p c i b' j l)[m]? = (l[m]?).map fun b => if j + m = i then b' else if c (j + m) then .gone else b.kill p
  | [], _, _ => by simp [newH]
  | b :: l, j, 0 => by
    simp only [newH, List.getElem?_cons_zero, Option.map_some, Nat.add_zero, Option.some.injEq]
    cases hb : Nat.beq j i
    · rw [if_neg (Nat.ne_of_beq_eq_false hb)]; cases c j <;> rfl
    · rw [if_pos (Nat.eq_of_beq_eq_true hb)]
  | b :: l, j, m + 1 => by
    simp only [newH, List.getElem?_cons_succ]
    rw [newH_get, show j + 1 + m = j + (m + 1) by omega]
theorem newH_len {p c : Nat → Bool} {i : Nat} {b' : Blk} : ∀ {l : List Blk} {j : Nat}, (newH p c i b' j l).length = l.length
  | [], _ => rfl
  | _ :: l, j => by simp [newH, newH_len]

section
variable {P : Program} {w0 w w' : World} {A : Nat → Prop} {n : Nat} {sl : List (Nat × D)} {hp : List Blk} {ms ms' : List Ent} {a : Act}

theorem owned_nodup_of (h1 : ∀ (i : Nat) (e : Ent), ms[i]? = some e → (e.top.toList ++ e.nest).Nodup) (h2 : ∀ (i j : Nat) (e e' : Ent) (k : Nat), i ≠ j → ms[i]? = some e → ms[j]? = some e' → k ∈ e.top.toList ++ e.nest → k ∈ e'.top.toList ++ e'.nest → False) : (owned ms).Nodup := by
  unfold owned
  rw [List.nodup_iff_pairwise_ne, List.pairwise_flatMap]
  refine ⟨fun e he => ?_, ?_⟩
  · obtain ⟨i, hi, rfl⟩ := List.getElem_of_mem he
    exact List.nodup_iff_pairwise_ne.1 (h1 i _ (List.getElem?_eq_getElem hi))
  · rw [List.pairwise_iff_getElem]
    intro i j hi hj hij k hk k' hk' e
    subst e
    exact h2 i j _ _ k (by omega) (List.getElem?_eq_getElem hi) (List.getElem?_eq_getElem hj) hk hk'

theorem mem_owned {k : Nat} (h : k ∈ owned ms) : ∃ (i : Nat) (e : Ent), ms[i]? = some e ∧ k ∈ e.top.toList ++ e.nest := by
  simp only [owned, List.mem_flatMap] at h
  obtain ⟨e, he, hk⟩ := h
  obtain ⟨i, hi, rfl⟩ := List.getElem_of_mem he
  exact ⟨i, _, List.getElem?_eq_getElem hi, hk⟩
theorem mem_tops {k : Nat} (h : k ∈ tops ms) : ∃ (i : Nat) (e : Ent), ms[i]? = some e ∧ e.top = some k := by
  simp only [tops, List.mem_filterMap] at h
  obtain ⟨e, he, hk⟩ := h
  obtain ⟨i, hi, rfl⟩ := List.getElem_of_mem he
  exact ⟨i, _, List.getElem?_eq_getElem hi, hk⟩
theorem tops_mem {i : Nat} {e : Ent} {k : Nat} (h : ms[i]? = some e) (hk : e.top = some k) : k ∈ tops ms := by
  simp only [tops, List.mem_filterMap]; exact ⟨e, List.mem_of_getElem? h, hk⟩

theorem kill_mono {p : Nat → Bool} {Ok Ok' : Nat → Prop} (hk : ∀ k, Ok k → w'.heap[k]? = w.heap[k]? ∧ Ok' k) (hm : ∀ (i : Nat) (e : Ent), p i = false → ms[i]? = some e → ms'[i]? = some e) {d : D} {u : Value} (h : VX ms w Ok d u) : VX ms' w' Ok' (d.kill p) u := by
  unfold D.kill
  cases hd : d.hits p
  · refine VX.mono hk h fun i e hu hi => hm i e ?_ hi
    cases hpi : p i
    · rfl
    · rw [D.hits_uses hd hpi] at hu; exact Bool.noConfusion hu
  · exact .no
theorem killD_mono {p : Nat → Bool} {Ok Ok' : Nat → Prop} (hk : ∀ k, Ok k → w'.heap[k]? = w.heap[k]? ∧ Ok' k) (hm : ∀ (i : Nat) (e : Ent), p i = false → ms[i]? = some e → ms'[i]? = some e) : ∀ {ds : List D} {us : List Value}, VXs ms w Ok ds us → VXs ms' w' Ok' (killD p ds) us
  | _, _, .nil => .nil
  | _, _, .cons h h' => .cons (kill_mono hk hm h) (killD_mono hk hm h')
theorem look_kill {p : Nat → Bool} {t : Nat} : ∀ {l : List (Nat × D)}, look (killS p l) t = (look l t).kill p ∨ look (killS p l) t = .no
  | [] => Or.inr rfl
  | (t', d) :: l => by
    simp only [killS, look]
    split
    · exact Or.inl rfl
    · exact look_kill

/-- The arrays i grown by the elements ys that lie at u; c names the entries whose elements were handed over; 'nk': the blocks behind those. -/
theorem Rel.regrown (hr : Rel w0 A ms ⟨n, sl, hp⟩ a w) {p c : Nat → Bool} {i : Nat} {e : Ent} {T : TypeId} {m : Nat} {xs ys : List (List D)} {di : Bool} {v' : Value} {us : List Value} {bs nk : List Nat}
    (hi : ms[i]? = some e) (hb : hp[i]? = some (.arr T m xs di)) (hci : c i = false) (hp_i : p i = true) (hpc : ∀ j, c j = true → p j = true)
    (hg : w.grownBy w' e.v.ownBlock) (hown : w'.ownsRow w0.heap.size T m v' (xs ++ ys).length us) (hrow : ∀ r ∈ xs ++ ys, r.length = m) (hv : VRs w (xs ++ ys).flatten us bs)
    (hat : v'.ownBlock = e.v.ownBlock ∨ v'.ownBlock = some w.heap.size) (hlt : ∀ k, v'.ownBlock = some k → k < w'.heap.size)
    (hnk : ∀ k ∈ nk, ∃ (j : Nat) (e' : Ent), c j = true ∧ ms[j]? = some e' ∧ k ∈ e'.top.toList ++ e'.nest) (hnn : nk.Nodup) {d' : Bool} (hd : (d' = true ∧ di = true ∧ bs = e.nest ++ nk ∧ ∀ k ∈ nk, Un w k) ∨ (d' = false ∧ ∀ k ∈ bs, OkB w0.heap.size A ms w k ∧ some k ≠ e.v.ownBlock)) :
    ∃ ms', Rel w0 A ms' ⟨n, killS p sl, newH p c i (.arr T m (xs ++ ys) d') 0 hp⟩ a w' ∧ ∃ e', ms'[i]? = some e' ∧ e'.v = v' := by
  obtain ⟨us0, bs0, o1, o2, o3, htop, o5⟩ := hr.ents i _ e hb hi
  have hbase := hr.ext.size
  let e' : Ent := ⟨v', v'.ownBlock, if d' then e.nest ++ nk else []⟩
  let F : Nat → Ent → Ent := fun j x => if j = i then e' else if c j then ⟨x.v, none, []⟩ else x
  have hget : ∀ j, (ms.mapIdx F)[j]? = (ms[j]?).map (F j) := fun j => by rw [List.getElem?_mapIdx]
  have hFi : ∀ x, F i x = e' := fun x => if_pos rfl
  have hFc : ∀ j x, j ≠ i → c j = true → F j x = ⟨x.v, none, []⟩ := fun j x h1 h2 => by simp only [F, if_neg h1, h2, if_true]
  have hFo : ∀ j x, j ≠ i → c j = false → F j x = x := fun j x h1 h2 => by simp only [F, if_neg h1, h2]; rfl
  have hin : ∀ k ∈ owned ms, w0.heap.size ≤ k ∧ k < w.heap.size := hr.range
  have htopi : ∀ j x k, ms[j]? = some x → j ≠ i → k ∈ x.top.toList ++ x.nest → some k ≠ e.v.ownBlock := by
    intro j x k hj hji hk h
    exact owned_disjoint hr.nodup hji hj hi hk (by rw [htop, ← h]; simp)
  have hnesti : ∀ k ∈ e.nest, some k ≠ e.v.ownBlock := by
    intro k hk h
    have := owned_self hr.nodup hi
    rw [htop, ← h] at this
    simp at this
    exact this.1 hk
  -- what the new places own
  have hcl : ∀ j x k, (ms.mapIdx F)[j]? = some x → k ∈ x.top.toList ++ x.nest → (j = i ∧ k = w.heap.size ∧ v'.ownBlock = some k) ∨ ∃ j' x', ms[j']? = some x' ∧ k ∈ x'.top.toList ++ x'.nest ∧ ((j' = j ∧ (j = i ∨ c j = false)) ∨ (j = i ∧ c j' = true)) := by
    intro j x k hj hk
    rw [hget] at hj
    obtain ⟨x0, h1, rfl⟩ := Option.map_eq_some_iff.1 hj
    by_cases hji : j = i
    · subst hji
      rw [hi] at h1; cases h1
      rw [hFi] at hk
      simp only [e', List.mem_append] at hk
      rcases hk with hk | hk
      · have hk : v'.ownBlock = some k := by simpa using hk
        rcases hat with h | h
        · exact Or.inr ⟨j, e, hi, by rw [htop, ← h, hk]; simp, Or.inl ⟨rfl, Or.inl rfl⟩⟩
        · rw [h] at hk; cases hk; exact Or.inl ⟨rfl, rfl, h⟩
      · cases d' with
        | false => simp at hk
        | true =>
          simp only [if_true, List.mem_append] at hk
          rcases hk with hk | hk
          · exact Or.inr ⟨j, e, hi, List.mem_append_right _ hk, Or.inl ⟨rfl, Or.inl rfl⟩⟩
          · obtain ⟨j', x', h2, h3, h4⟩ := hnk k hk
            exact Or.inr ⟨j', x', h3, h4, Or.inr ⟨rfl, h2⟩⟩
    · cases hc : c j
      · rw [hFo j _ hji hc] at hk
        exact Or.inr ⟨j, x0, h1, hk, Or.inl ⟨rfl, Or.inr rfl⟩⟩
      · rw [hFc j _ hji hc] at hk
        simp at hk
  have hnd : (owned (ms.mapIdx F)).Nodup := by
    refine owned_nodup_of ?_ ?_
    · intro j x hj
      rw [hget] at hj
      obtain ⟨x0, h1, rfl⟩ := Option.map_eq_some_iff.1 hj
      by_cases hji : j = i
      · subst hji
        rw [hi] at h1; cases h1
        rw [hFi]
        have hs := owned_self hr.nodup hi
        rw [List.nodup_append] at hs
        have hnn' : (if d' then e.nest ++ nk else []).Nodup := by
          cases d' with
          | false => simp
          | true =>
            simp only [if_true]
            refine List.nodup_append.2 ⟨hs.2.1, hnn, fun p hp q hq e2 => ?_⟩
            subst e2
            obtain ⟨j', x', h2, h3, h4⟩ := hnk p hq
            have hne : j ≠ j' := by rintro rfl; rw [h2] at hci; exact Bool.noConfusion hci
            exact owned_disjoint hr.nodup hne hi h3 (List.mem_append_right _ hp) h4
        refine List.nodup_append.2 ⟨by show v'.ownBlock.toList.Nodup; cases v'.ownBlock <;> simp, hnn', fun p hp q hq e2 => ?_⟩
        subst e2
        have hp : v'.ownBlock = some p := by have h : p ∈ v'.ownBlock.toList := hp; simpa using h
        have hq : p ∈ (if d' then e.nest ++ nk else []) := hq
        have hq' : p < w.heap.size ∧ some p ≠ e.v.ownBlock := by
          cases d' with
          | false => simp at hq
          | true =>
            simp only [if_true, List.mem_append] at hq
            rcases hq with hq | hq
            · exact ⟨(hin p (ent_owned hi (List.mem_append_right _ hq))).2, hnesti p hq⟩
            · obtain ⟨j', x', h2, h3, h4⟩ := hnk p hq
              have hne : j' ≠ j := by rintro rfl; rw [h2] at hci; exact Bool.noConfusion hci
              exact ⟨(hin p (ent_owned h3 h4)).2, htopi j' x' p h3 hne h4⟩
        rcases hat with h | h
        · exact hq'.2 (by rw [← h, hp])
        · rw [h] at hp; cases hp; omega
      · cases hc : c j
        · rw [hFo j _ hji hc]; exact owned_self hr.nodup h1
        · rw [hFc j _ hji hc]; simp
    · intro j1 j2 x1 x2 k hne h1 h2 hk1 hk2
      rcases hcl j1 x1 k h1 hk1 with ⟨a1, a2, a3⟩ | ⟨i1, y1, a1, a2, a3⟩ <;> rcases hcl j2 x2 k h2 hk2 with ⟨b1, b2, b3⟩ | ⟨i2, y2, b1, b2, b3⟩
      · exact hne (a1.trans b1.symm)
      · have := (hin k (ent_owned b1 b2)).2; omega
      · have := (hin k (ent_owned a1 a2)).2; omega
      · have hii : i1 = i2 := by
          apply Classical.byContradiction; intro h
          exact owned_disjoint hr.nodup h a1 b1 a2 b2
        subst hii
        rcases a3 with ⟨rfl, a3⟩ | ⟨rfl, a3⟩ <;> rcases b3 with ⟨rfl, b3⟩ | ⟨rfl, b3⟩
        · exact hne rfl
        · rcases a3 with rfl | a3
          · exact hne rfl
          · rw [b3] at a3; exact Bool.noConfusion a3
        · rcases b3 with rfl | b3
          · exact hne rfl
          · rw [a3] at b3; exact Bool.noConfusion b3
        · exact hne rfl
  have hrange : ∀ k ∈ owned (ms.mapIdx F), w0.heap.size ≤ k ∧ k < w'.heap.size := by
    intro k hk
    obtain ⟨j, x, hj, hk⟩ := mem_owned hk
    rcases hcl j x k hj hk with ⟨_, rfl, h⟩ | ⟨j', x', h1, h2, _⟩
    · exact ⟨hbase, hlt _ h⟩
    · have := hin k (ent_owned h1 h2); exact ⟨this.1, Nat.lt_of_lt_of_le this.2 hg.size⟩
  have hk : ∀ k, OkB w0.heap.size A ms w k → w'.heap[k]? = w.heap[k]? ∧ OkB w0.heap.size A (ms.mapIdx F) w' k := by
    intro k ⟨k1, k2, k3⟩
    refine ⟨hg.block k k1 fun h => k3 (tops_mem hi (by rw [htop]; exact h.symm)), Nat.lt_of_lt_of_le k1 hg.size, k2, fun h => ?_⟩
    obtain ⟨j, x, hj, ht⟩ := mem_tops h
    rcases hcl j x k hj (by simp [ht]) with ⟨_, rfl, _⟩ | ⟨j', x', h1, h2, h3⟩
    · omega
    · rw [hget] at hj
      obtain ⟨x0, h4, rfl⟩ := Option.map_eq_some_iff.1 hj
      by_cases hji : j = i
      · subst hji
        rw [hFi] at ht
        simp only [e'] at ht
        rcases hat with h | h
        · exact k3 (tops_mem hi (by rw [htop, ← h]; exact ht))
        · rw [h] at ht; cases ht; omega
      · cases hc : c j
        · rw [hFo j _ hji hc] at ht; exact k3 (tops_mem h4 ht)
        · rw [hFc j _ hji hc] at ht; simp at ht
  have hm : ∀ (j : Nat) (x : Ent), p j = false → ms[j]? = some x → (ms.mapIdx F)[j]? = some x := by
    intro j x hpj hj
    have hji : j ≠ i := by rintro rfl; rw [hp_i] at hpj; exact Bool.noConfusion hpj
    have hcj : c j = false := by
      cases h : c j
      · rfl
      · rw [hpc j h] at hpj; exact Bool.noConfusion hpj
    rw [hget, hj, Option.map_some, hFo j x hji hcj]
  refine ⟨ms.mapIdx F, ⟨?_, hr.old, hr.size, hr.defers, by simp [newH_len, hr.len], hnd, hrange, ?_, ?_⟩, e', by rw [hget, hi, Option.map_some, hFi], rfl⟩
  · exact Below.grown hr.ext hg hr.ext.size fun k h => by
      have : e.top = some k := by rw [htop, h]
      exact (hin k (ent_owned hi (by simp [this]))).1
  · intro j b x hj hx
    simp only [newH_get, Nat.zero_add] at hj
    obtain ⟨b0, hb0, rfl⟩ := Option.map_eq_some_iff.1 hj
    rw [hget] at hx
    obtain ⟨x0, h1, rfl⟩ := Option.map_eq_some_iff.1 hx
    by_cases hji : j = i
    · subst hji
      rw [hi] at h1; cases h1
      rw [if_pos rfl, hFi]
      refine ⟨us, bs, hown, hrow, hv.keep ?_, rfl, ?_⟩
      · intro k hk'
        rcases hd with ⟨_, hdi, rfl, _⟩ | ⟨_, h2⟩
        · rcases List.mem_append.1 hk' with hk' | hk'
          · exact hg.block k (hin k (ent_owned hi (List.mem_append_right _ hk'))).2 (hnesti k hk')
          · obtain ⟨j', x', h2, h3, h4⟩ := hnk k hk'
            have hne : j' ≠ j := by rintro rfl; rw [h2] at hci; exact Bool.noConfusion hci
            exact hg.block k (hin k (ent_owned h3 h4)).2 (htopi j' x' k h3 hne h4)
        · exact hg.block k (h2 k hk').1.1 (h2 k hk').2
      · rcases hd with ⟨rfl, hdi, rfl, hun⟩ | ⟨rfl, h2⟩
        · refine ⟨rfl, fun k hk' => ?_⟩
          rcases List.mem_append.1 hk' with hk' | hk'
          · subst hdi
            have hU := o5.2 k (by rw [← o5.1]; exact hk')
            exact hU.keep (hg.block k (hin k (ent_owned hi (List.mem_append_right _ hk'))).2 (hnesti k hk'))
          · obtain ⟨j', x', h2, h3, h4⟩ := hnk k hk'
            have hne : j' ≠ j := by rintro rfl; rw [h2] at hci; exact Bool.noConfusion hci
            exact (hun k hk').keep (hg.block k (hin k (ent_owned h3 h4)).2 (htopi j' x' k h3 hne h4))
        · exact ⟨rfl, fun k hk' => (hk k (h2 k hk').1).2⟩
    · rw [if_neg hji]
      cases hc : c j
      · rw [hFo j _ hji hc]
        simp only [Bool.false_eq_true, if_false]
        have hE := hr.ents j b0 x0 hb0 h1
        have ht : ∀ k, x0.top = some k → w'.heap[k]? = w.heap[k]? := fun k h => hg.block k (hin k (ent_owned h1 (by simp [h]))).2 (htopi j x0 k h1 hji (by simp [h]))
        have hn : ∀ k ∈ x0.nest, w'.heap[k]? = w.heap[k]? := fun k h => hg.block k (hin k (ent_owned h1 (List.mem_append_right _ h))).2 (htopi j x0 k h1 hji (List.mem_append_right _ h))
        cases b0 with
        | gone => exact hE
        | arr _ _ _ _ => exact hE.mono hk ht hn fun _ _ hu _ => by simp [Blk.uses] at hu
        | fr _ _ => exact hE.mono hk ht hn fun _ _ hu _ => by simp [Blk.uses] at hu
        | cust _ => exact hE.mono hk ht hn fun _ _ hu _ => by simp [Blk.uses] at hu
        | cells t ds =>
          obtain ⟨g, us', rfl, h3, h4⟩ := hE
          exact ⟨g, us', rfl, by rw [ht g rfl]; exact h3, killD_mono hk hm h4⟩
      · rw [hFc j _ hji hc]
        simp only [if_true]
        exact ⟨rfl, rfl⟩
  · intro t
    rcases look_kill (p := p) (t := t) (l := sl) with h | h
    · simp only [St.get, h]; exact kill_mono hk hm (hr.slots t)
    · simp only [St.get, h]; exact .no

/-- Elements that are scalars alone. -/
def isLit : D → Bool
  | .lit _ => true
  | _ => false
def Flat (ys : List (List D)) : Prop := ∀ r ∈ ys, ∀ d ∈ r, isLit d = true
theorem VRs.flat : ∀ {ds : List D} {us : List Value} {bs : List Nat}, (∀ d ∈ ds, isLit d = true) → VRs w ds us bs → bs = []
  | _, _, _, _, .nil => rfl
  | _, _, _, h, .cons h1 h2 => by
    have e := VRs.flat (fun d hd => h d (List.mem_cons_of_mem _ hd)) h2
    subst e
    have := h _ (List.mem_cons_self ..)
    cases h1 <;> simp [isLit] at this
    rfl
theorem flat_map {α : Type} {l : List α} {f : α → List D} (h : ∀ x ∈ l, ∀ d ∈ f x, isLit d = true) : Flat (l.map f) := by
  intro r hr; obtain ⟨x, hx, rfl⟩ := List.mem_map.1 hr; exact h x hx
theorem flat_ints (l : List Int) : Flat (ints l) := flat_map (by simp [isLit])
theorem flat_strs (l : List ByteArray) : Flat (strs l) := flat_map (by simp [isLit])
theorem flat_bools (l : List Bool) : Flat (bools l) := flat_map (by simp [isLit])

theorem VRs.one : ∀ {ds : List D} {us : List Value} {bs : List Nat}, VRs w ds us bs → ∀ u ∈ us, u.oneCell' = true
  | _, _, _, .nil => by simp
  | _, _, _, .cons h h' => by
    intro u hu
    rcases List.mem_cons.1 hu with rfl | hu
    · exact h.one
    · exact VRs.one h' u hu

theorem Rel.nest_ok {s : St} (hr : Rel w0 A ms s a w) {i : Nat} {di : Bool} {e : Ent} {bs : List Nat} (hi : ms[i]? = some e) (h5 : if di then e.nest = bs ∧ ∀ k ∈ bs, Un w k else e.nest = [] ∧ ∀ k ∈ bs, OkB w0.heap.size A ms w k) : ∀ k ∈ bs, OkB w0.heap.size A ms w k := by
  intro k hk
  cases di with
  | false => exact h5.2 k hk
  | true =>
    have hk' : k ∈ e.nest := by rw [h5.1]; exact hk
    have ho := hr.range k (ent_owned hi (List.mem_append_right _ hk'))
    refine ⟨ho.2, Or.inl ho.1, fun ht => ?_⟩
    obtain ⟨j, e', hj, ht⟩ := mem_tops ht
    by_cases hij : j = i
    · subst hij
      rw [hi] at hj; cases hj
      have := owned_self hr.nodup hi
      rw [ht] at this
      simp at this
      exact this.1 hk'
    · exact owned_disjoint hr.nodup hij hj hi (by simp [ht]) (List.mem_append_right _ hk')

/-- Elements that lie at u; the blocks behind them. -/
def Src (w : World) (u : Value) (m : Nat) (ys : List (List D)) (bn : List Nat) : Prop :=
  (∀ r ∈ ys, r.length = m) ∧ ((u = .slice none 0 0 ∧ ys = [] ∧ bn = []) ∨ ∃ ad cap news, u = .slice (some ad) ys.length cap ∧ VRs w ys.flatten news bn ∧ ∀ j x, news[j]? = some x → w.cell? (ad.add j) = some x)
theorem src_of_vr {m : Nat} {ys : List (List D)} {u : Value} {bs : List Nat} (h : VR w (.sh m ys) u bs) : ∃ bn, Src w u m ys bn ∧ ∀ k ∈ bn, k ∈ bs := by
  cases h with
  | shnil h1 h2 =>
    rename_i a0 cap
    cases a0 with
    | none => exact ⟨[], ⟨by simp, Or.inl ⟨by rw [h2 rfl], rfl, rfl⟩⟩, by simp⟩
    | some ad => exact ⟨[], ⟨by simp, Or.inr ⟨ad, cap, [], rfl, .nil, by simp⟩⟩, by simp⟩
  | sh h1 h2 h3 h4 h5 h6 =>
    rename_i b o cap us bn
    refine ⟨bn, ⟨h1, Or.inr ⟨⟨b, o, none⟩, cap, us, rfl, h5, fun j x hj => ?_⟩⟩, fun k hk => List.mem_cons_of_mem _ hk⟩
    have hlt := (List.getElem?_eq_some_iff.1 hj).1
    have e : (⟨b, o, none⟩ : Addr).add j = ⟨b, o + j, none⟩ := by unfold Addr.add; split <;> simp_all
    rw [e, h6 j hlt]; exact hj

/-- What append makes of an array i and of elements ys. -/
theorem Rel.append {tab : Nat → Option TI} (hT : TabOk P tab) (hr : Rel w0 A ms ⟨n, sl, hp⟩ a w) {p c : Nat → Bool} {i m : Nat} {T t : TypeId} {xs ys : List (List D)} {di : Bool} {u : Value} {bn : List Nat} {e : Ent} {agg : Bool} {size bytes : Nat} {zero : List Value}
    {k' : TK} {agg' : Bool} {bytes' : Nat} {zero' : List Value} {ty : TypeId} (ht : tab t = some ⟨.sl T, agg, size, bytes, zero⟩) (hT' : tab T = some ⟨k', agg', m, bytes', zero'⟩) (hz : zero'.length = m) (hm : 0 < m) (hby : bytes' ≤ 1024)
    (hi : ms[i]? = some e) (hb : hp[i]? = some (.arr T m xs di)) (hci : c i = false) (hp_i : p i = true) (hpc : ∀ j, c j = true → p j = true) (hlen : xs.length + ys.length ≤ 4294967296) (hu : Src w u m ys bn) {nk : List Nat}
    (hnk : ∀ k ∈ nk, ∃ (j : Nat) (e' : Ent), c j = true ∧ ms[j]? = some e' ∧ k ∈ e'.top.toList ++ e'.nest) (hnn : nk.Nodup) {d' : Bool}
    (hd : (d' = true ∧ di = true ∧ bn = nk ∧ ∀ k ∈ nk, Un w k) ∨ (d' = false ∧ ∀ k ∈ bn, OkB w0.heap.size A ms w k)) :
    ∃ v' w', (Builtin.append_ #[t, t] ty #[e.v, u]).run P w = .ok v' w' ∧ ∃ ms', Rel w0 A ms' ⟨n, killS p sl, newH p c i (.arr T m (xs ++ ys) d') 0 hp⟩ a w' ∧ ∃ e', ms'[i]? = some e' ∧ e'.v = v' ∧ ∃ a n c, v' = .slice a n c := by
  obtain ⟨inf, td, z, h1, h2, h3, h4, _⟩ := hT.get ht
  obtain ⟨inf', td', z', g1, g2, g3, g4, g5, g6, g7, g8⟩ := hT.get hT'
  have htd := TK.sl_inv h4
  rw [htd] at h2
  have hzs : z'.cells.size = m := by rw [← hz, ← g8]; simp
  obtain ⟨us0, bs0, o1, o2, o3, htop, o5⟩ := hr.ents i _ e hb hi
  have hno := hr.nest_ok hi o5
  have hd' : (d' = true ∧ di = true ∧ bs0 ++ bn = e.nest ++ nk ∧ ∀ k ∈ nk, Un w k) ∨ (d' = false ∧ ∀ k ∈ bs0 ++ bn, OkB w0.heap.size A ms w k ∧ some k ≠ e.v.ownBlock) := by
    rcases hd with ⟨h1, h2, h3, h4⟩ | ⟨h1, h2⟩
    · subst h2; exact Or.inl ⟨h1, rfl, by rw [o5.1, h3], h4⟩
    · refine Or.inr ⟨h1, fun k hk => ?_⟩
      have : OkB w0.heap.size A ms w k := by
        rcases List.mem_append.1 hk with hk | hk
        · exact hno k hk
        · exact h2 k hk
      exact ⟨this, fun h => this.2.2 (tops_mem hi (by rw [htop, ← h]))⟩
  obtain ⟨hrows, ⟨rfl, rfl, rfl⟩ | ⟨ad, cap, news, rfl, hv, hcell⟩⟩ := hu
  · have hrun := run_append_owned_none (P := P) (w := w) w0.heap.size t ty T inf' m h2 g1 e.v xs.length us0 o1
    have hg : w.grownBy w e.v.ownBlock := ⟨rfl, rfl, rfl, Nat.le_refl _, fun _ _ _ => rfl⟩
    obtain ⟨ms', r1, e', r2, r3⟩ := hr.regrown (ys := []) (v' := e.v) (us := us0) (bs := bs0 ++ []) hi hb hci hp_i hpc hg (by simpa using o1) (by simpa using o2) (by simpa using o3) (Or.inl rfl) (fun k h => (hr.range k (ent_owned hi (by rw [htop, h]; simp))).2) hnk hnn hd'
    refine ⟨e.v, w, hrun, ms', r1, e', r2, r3, ?_⟩
    obtain ⟨_, ⟨h, _⟩ | ⟨g, cap, cur, h, _⟩⟩ := o1
    · exact ⟨_, _, _, h⟩
    · exact ⟨_, _, _, h⟩
  · have hl : news.length = ys.length * m := by rw [hv.len, flatten_len hrows]
    have hsz : xs.length + ys.length ≤ maxLen := by unfold maxLen; omega
    have hbb : (xs.length + ys.length) * bytes' ≤ 140737488355328 := Nat.le_trans (Nat.mul_le_mul hlen hby) (by decide)
    obtain ⟨v', w', hrun, q1, q2, q3, q4⟩ := run_append_own_at (P := P) w w0.heap.size t ty T inf' z' m bytes' h2 g1 g3 g6 g7 hzs hm e.v xs.length us0 o1 ad ys.length cap news hl hcell hv.one hsz hbb hr.ext.size
    obtain ⟨ms', r1, e', r2, r3⟩ := hr.regrown (ys := ys) (v' := v') (us := us0 ++ news) (bs := bs0 ++ bn) hi hb hci hp_i hpc q2 (by simpa using q1) (fun r h => by
        rcases List.mem_append.1 h with h | h
        · exact o2 r h
        · exact hrows r h) (by rw [List.flatten_append]; exact o3.append hv) q4 (fun k h => (q1.lt k h).2) hnk hnn hd'
    refine ⟨v', w', hrun, ms', r1, e', r2, r3, ?_⟩
    obtain ⟨_, ⟨h, _⟩ | ⟨g, cap, cur, h, _⟩⟩ := q1
    · exact ⟨_, _, _, h⟩
    · exact ⟨_, _, _, h⟩

variable {A' : Nat → Prop} {ops : Array Oper} {rest : List Oper} {K : St → Prop} {x y : Operand} {dst : Tmp} {ty : TypeId} {pos : String} {after : Array Edge}

def isI (i j : Nat) : Bool := Nat.beq i j
def isII (i k j : Nat) : Bool := match Nat.beq i j with | true => true | false => Nat.beq k j
def noneI (_ : Nat) : Bool := false

theorem run_append_op {o : Oper} {v' : Value} {t : TypeId} {ρ' : Operand → Value} (ho : o.op = .call ⟨.builtin .append, #[x, y], #[t, t]⟩) (h : (Builtin.append_ #[t, t] o.type #[ρ' x, ρ' y]).run P w = .ok v' w') : (execOp ρ' o).run P w = .ok (.value v') w' := by
  simp only [execOp, ho, resolve, invoke, builtin, Sem.run_bind, Sem.run_pure, Result.andThen_ok, List.map_toArray, List.map_cons, List.map_nil, h]

/-- append of scalars that lie in a slice that is read alone. -/
theorem R_append {tab : Nat → Option TI} (hT : TabOk P tab) {i m : Nat} {T t : TypeId} {xs ys : List (List D)} {di : Bool} {agg : Bool} {size bytes : Nat} {zero : List Value}
    {k' : TK} {agg' : Bool} {bytes' : Nat} {zero' : List Value} {sl' : List (Nat × D)} {hp' : List Blk} (hx : evD (look sl) x = .own i) (hy : evD (look sl) y = .sh m ys) (hb : hp[i]? = some (.arr T m xs di)) (ht : tab t = some ⟨.sl T, agg, size, bytes, zero⟩) (hT' : tab T = some ⟨k', agg', m, bytes', zero'⟩)
    (hz : Nat.beq zero'.length m = true) (hm : Nat.blt 0 m = true) (hby : Nat.ble bytes' 1024 = true) (hd : Nat.blt dst n = true) (hs : killK (isI i) sl (fun l => some l) = some sl') (hh : newK (isI i) noneI i (.arr T m (xs ++ ys) di) 0 hp (fun l => some l) = some hp')
    (hf : Flat ys) (hlen : xs.length + ys.length ≤ 4294967296) (hk : WO P w0 A ops rest ⟨n, (dst, .own i) :: sl', hp'⟩ K) :
    WO P w0 A ops (⟨some dst, .call ⟨.builtin .append, #[x, y], #[t, t]⟩, ty, pos, after, none⟩ :: rest) ⟨n, sl, hp⟩ K := by
  refine ⟨fun ms a w hr Q hq => ?_⟩
  refine wpList_plain rfl fun Kn hKn => ?_
  obtain ⟨e, hi, e1, hsl⟩ := (hr.ev_at hx).own_inv
  obtain ⟨bs, hv, hok⟩ := (hr.ev_at hy).sh_inv
  obtain ⟨bn, hsrc, hsub⟩ := src_of_vr hv
  have hbn : bn = [] := by
    obtain ⟨_, ⟨_, _, h⟩ | ⟨_, _, news, _, h, _⟩⟩ := hsrc
    · exact h
    · exact VRs.flat (fun d hd => by obtain ⟨r, hr, hd⟩ := List.mem_flatten.1 hd; exact hf r hr d hd) h
  subst hbn
  obtain ⟨v', w', hrun, ms', r1, e', r2, r3, r4⟩ := hr.append hT (p := isI i) (c := noneI) (ty := ty) ht hT' (Nat.eq_of_beq_eq_true hz) (by simpa [Nat.blt_eq] using hm) (Nat.le_of_ble_eq_true hby) hi hb rfl (by simp [isI]) (fun j h => by simp [noneI] at h) hlen hsrc (nk := []) (by simp) (by simp) (d' := di)
    (by cases di with
      | true => exact Or.inl ⟨rfl, rfl, rfl, by simp⟩
      | false => exact Or.inr ⟨rfl, by simp⟩)
  have hs' := killK_eq hs; have hh' := newK_eq hh
  simp only [Option.some.injEq] at hs' hh'
  subst hs'; subst hh'
  refine upon_value (run_append_op (ρ' := a.eval) rfl (by rw [e1]; exact hrun)) (hKn _ _ (hk.run ms' _ w' (Rel.put (t := some dst) r1 (by rw [← r3]; exact VX.own r2 (by rw [r3]; exact r4)) (dstOk_all (s := ⟨n, _, _⟩) (t := some dst) hd)) Q hq))
end
end Go.Proofs.YtcpjhpjlcgcigaaGreatDoor
namespace Go.Proofs.YtcpjhpjlcgcigaaGreatDoor
open Go.ChangeShapes Go.WideShapes Go.ChangeAt Go.RowKit

section
variable {P : Program} {w0 w w' : World} {A : Nat → Prop} {n : Nat} {sl : List (Nat × D)} {hp : List Blk} {ms ms' : List Ent} {a : Act}
variable {ops : Array Oper} {rest : List Oper} {K : St → Prop} {x y : Operand} {dst : Tmp} {ty : TypeId} {pos : String} {after : Array Edge}

/-- A new array. -/
theorem Rel.newArr (hr : Rel w0 A ms ⟨n, sl, hp⟩ a w) {T : TypeId} {m g : Nat} {xs : List (List D)} {us : List Value} {v : Value} (hx : Ext w w') (hg : v.ownBlock = some g) (hge : w.heap.size ≤ g ∧ g < w'.heap.size) (ho : w'.ownsRow w0.heap.size T m v xs.length us) (hrow : ∀ r ∈ xs, r.length = m) (hv : VRs w' xs.flatten us []) :
    Rel w0 A (ms ++ [⟨v, some g, []⟩]) ⟨n, sl, hp ++ [.arr T m xs true]⟩ a w' ∧ (ms ++ [⟨v, some g, []⟩])[hp.length]? = some ⟨v, some g, []⟩ := by
  refine ⟨hr.grow hx _ _ rfl (by simp [owned]) (by simp [owned]; exact hge) ?_, ?_⟩
  · intro i b e hb he
    cases i with
    | succ i => simp at hb
    | zero =>
      simp at hb he
      subst hb; subst he
      exact ⟨us, [], ho, hrow, hv, hg.symm, rfl, by simp⟩
  · have := hr.len
    simp only at this
    rw [List.getElem?_append_right (by omega), this]; simp

def zeroRow (zero : List Value) : Option (List D) := constK zero fun l => some l
theorem VRs.of_lits {Ok : Nat → Prop} : ∀ {ds : List D} {us : List Value}, (∀ d ∈ ds, isLit d = true) → VXs ms w Ok ds us → VRs w' ds us []
  | _, _, _, .nil => .nil
  | d :: ds, _, h, .cons h1 h2 => by
    have := h d (by simp)
    cases d <;> simp [isLit] at this
    obtain ⟨rfl, h3⟩ := h1.lit_inv
    exact VRs.cons (bs := []) (bs' := []) (.lit h3) (VRs.of_lits (fun d hd => h d (List.mem_cons_of_mem _ hd)) h2)

theorem zeros_ok {row : List D} {zs : List Value} (hl : ∀ d ∈ row, isLit d = true) (hv : VXs [] w (fun _ => True) row zs) : ∀ k, VRs w' (List.replicate k row).flatten (List.replicate k zs).flatten []
  | 0 => by simp; exact .nil
  | k + 1 => by
    rw [List.replicate_succ, List.replicate_succ, List.flatten_cons, List.flatten_cons]
    exact VRs.append (VRs.of_lits hl hv) (zeros_ok hl hv k)

theorem madeCells_eq (zs : Array Value) (hz : 0 < zs.size) : ∀ k, (madeCells zs (k * zs.size)).toList = (List.replicate k zs.toList).flatten := by
  intro k
  have hfl : ∀ k i, i < k * zs.size → (List.replicate k zs.toList).flatten[i]? = zs[i % zs.size]? := by
    intro k
    induction k with
    | zero => intro i h; simp at h
    | succ k ih =>
      intro i h
      rw [List.replicate_succ, List.flatten_cons]
      by_cases hi : i < zs.size
      · rw [List.getElem?_append_left (by simpa using hi), Nat.mod_eq_of_lt hi, Array.getElem?_toList]
      · rw [List.getElem?_append_right (by simpa using hi), Array.length_toList, ih _ (by rw [Nat.add_mul] at h; omega), ← Nat.mod_eq_sub_mod (by omega)]
  apply List.ext_getElem?
  intro i
  by_cases h : i < k * zs.size
  · rw [hfl k i h]
    have hm : i % zs.size < zs.size := Nat.mod_lt _ hz
    simp [madeCells, h, hm]
  · rw [List.getElem?_eq_none (by simp [madeCells]; omega), List.getElem?_eq_none (by simp [List.length_flatten]; omega)]

theorem R_make {tab : Nat → Option TI} (hT : TabOk P tab) {k m : Nat} {T t : TypeId} {row : List D} {j : Int} {agg : Bool} {size bytes : Nat} {zero : List Value}
    {k' : TK} {agg' : Bool} {bytes' : Nat} {zero' : List Value} (hx : evD (look sl) x = .lit (.int .i64 j)) (hy : evD (look sl) y = .lit (.int .i64 j)) (hj : j = (k : Int)) (ht : tab t = some ⟨.sl T, agg, size, bytes, zero⟩) (hT' : tab T = some ⟨k', agg', m, bytes', zero'⟩)
    (hz : Nat.beq zero'.length m = true) (hm : Nat.blt 0 m = true) (hby : Nat.ble bytes' 1024 = true) (hrow : zeroRow zero' = some row) (hl : row.all isLit = true) (hd : Nat.blt dst n = true) (hk : k ≤ 4294967296)
    (hK : WO P w0 A ops rest ⟨n, (dst, .own hp.length) :: sl, hp ++ [.arr T m (List.replicate k row) true]⟩ K) : WO P w0 A ops (⟨some dst, .makeSlice t x y, ty, pos, after, none⟩ :: rest) ⟨n, sl, hp⟩ K := by
  refine ⟨fun ms a w hr Q hq => ?_⟩
  refine wpList_plain rfl fun Kn hKn => ?_
  obtain ⟨inf, td, z, h1, h2, h3, h4, _⟩ := hT.get ht
  obtain ⟨inf', td', z', g1, g2, g3, g4, g5, g6, g7, g8⟩ := hT.get hT'
  have htd := TK.sl_inv h4
  rw [htd] at h2
  have hz := Nat.eq_of_beq_eq_true hz
  have hm : 0 < m := by simpa [Nat.blt_eq] using hm
  have hby := Nat.le_of_ble_eq_true hby
  have hzs : z'.cells.size = m := by rw [← hz, ← g8]; simp
  obtain ⟨e1, _⟩ := (hr.ev_at hx).lit_inv
  obtain ⟨e2, _⟩ := (hr.ev_at hy).lit_inv
  subst hj
  have hb2 : inf'.bytes * k ≤ 281474976710656 := by rw [g7]; exact Nat.le_trans (Nat.mul_le_mul hby hk) (by decide)
  obtain ⟨w', hrun, q1, q2⟩ := run_make_full (P := P) (w := w) w0.heap.size t T inf' z' m h2 g1 g3 g6 .i64 .i64 k hb2 (by unfold maxLen; omega) hr.ext.size
  have hx' : Ext w w' := ⟨q2.os, q2.tape, q2.output, q2.size, fun i hi => q2.block i hi (by simp)⟩
  have hzr : VXs [] w (fun _ => True) row zero' := constK_list hrow
  have hlit : ∀ d ∈ row, isLit d = true := List.all_eq_true.1 hl
  have hus : (madeCells z'.cells (k * m)).toList = (List.replicate k zero').flatten := by rw [← hzs, madeCells_eq _ (by omega), g8]
  have hlen : row.length = m := by rw [← hzr.len, hz]
  rw [hus] at q1
  have hlt := (q1.lt w.heap.size rfl).2
  obtain ⟨r1, r2⟩ := hr.newArr (T := T) (m := m) (g := w.heap.size) (xs := List.replicate k row) hx' rfl ⟨Nat.le_refl _, hlt⟩ (by simpa using q1) (fun r h => by rw [(List.mem_replicate.1 h).2]; exact hlen) (zeros_ok hlit hzr k)
  have hrun' : (execOp a.eval ⟨some dst, .makeSlice t x y, ty, pos, after, none⟩).run P w = .ok (.value (.slice (some ⟨w.heap.size, 0, none⟩) k k)) w' := by
    simp only [execOp, e1, e2, Sem.run_bind, hrun, Result.andThen]; rfl
  exact upon_value hrun' (hKn _ _ (hK.run _ _ w' (Rel.put (t := some dst) r1 (VX.own r2 ⟨_, _, _, rfl⟩) (dstOk_all (s := ⟨n, _, _⟩) (t := some dst) hd)) Q hq))

/-! ### A load of an element of an array of the call's own -/
/-- An element of an array of the call's own, read. -/
theorem eload_ok {tab : Nat → Option TI} (hT : TabOk P tab) (hr : Rel w0 A ms ⟨n, sl, hp⟩ a w) {t T : TypeId} {i m o : Nat} {j : Int} {xs : List (List D)} {r : List D} {dp : Bool} {k : TK} {agg : Bool} {size bytes : Nat} {zero : List Value} {c : Prop} {d : D} {u : Value}
    (hx : VX ms w (OkB w0.heap.size A ms w) (.eptr i m j o) u) (hb : hp[i]? = some (.arr T m xs dp)) (ht : tab t = some ⟨k, agg, size, bytes, zero⟩) (hrow : RowAt xs j r) (hp' : dropK o r (fun ds => partD agg size ds) = some (c, d)) :
    ∃ v, (Instr.loadAt t u).run P w = .ok v w ∧ VX ms w (OkB w0.heap.size A ms w) d v := by
  obtain ⟨inf, td, z, h1, h2, h3, h4, h5, h6, _⟩ := hT.get ht
  obtain ⟨e, b, hi, htop, rfl⟩ := hx.eptr_inv
  obtain ⟨us, bs, o1, o2, o3, o4, o5⟩ := hr.ents i _ e hb hi
  have hno := hr.nest_ok hi o5
  obtain ⟨h7, h8⟩ := dropK_eq _ _ _ hp'
  have hlt := (List.getElem?_eq_some_iff.1 hrow.2).1
  have hlr : r.length = m := o2 r (List.mem_of_getElem? hrow.2)
  obtain ⟨hl, ⟨hv, h0⟩ | ⟨g, cap, cur, hv, hg, hh, c1, c2, c3, c4⟩⟩ := o1
  · omega
  · have hbg : b = g := by rw [o4, hv] at htop; simpa [Value.ownBlock] using htop.symm
    subst hbg
    obtain ⟨bs', p1, p2⟩ := o3.part (j.toNat * m) m
    rw [flatten_part o2 hrow.2] at p1
    have hml := mul_lt_of (m := m) hlt
    have hvx : VXs ms w (OkB w0.heap.size A ms w) (r.drop o) (((us.drop (j.toNat * m)).take m).drop o) := (VXs.of_rd p1 fun k hk => hno k (p2 k hk)).drop o
    have hcell : ∀ q, q < (((us.drop (j.toNat * m)).take m).drop o).length → w.cell? ⟨b, j.toNat * m + o + q, none⟩ = (((us.drop (j.toNat * m)).take m).drop o)[q]? := by
      intro q hq
      simp only [List.length_drop, List.length_take] at hq
      rw [List.getElem?_drop, List.getElem?_take, if_pos (by omega), List.getElem?_drop, ← c4, List.getElem?_take, if_pos (by rw [hl] at hq; omega), Array.getElem?_toList]
      simp [World.cell?, hh, Nat.add_assoc]
    obtain ⟨v, hrun, hvv⟩ := load_part (P := P) h1 h2 h5 h6 hvx hcell h7
    exact ⟨v, by simp only [Instr.loadAt, Instr.sureAddr, Sem.run_bind, Sem.run, Result.andThen, pure, hrun], hvv⟩
theorem R_eload {tab : Nat → Option TI} (hT : TabOk P tab) {t T : TypeId} {i m o : Nat} {j : Int} {xs : List (List D)} {r : List D} {dp : Bool} {k : TK} {agg : Bool} {size bytes : Nat} {zero : List Value} {c : Prop} {d : D}
    (hx : evD (look sl) x = .eptr i m j o) (hb : hp[i]? = some (.arr T m xs dp)) (ht : tab t = some ⟨k, agg, size, bytes, zero⟩) (hrow : RowAt xs j r) (hp' : dropK o r (fun ds => partD agg size ds) = some (c, d)) (hd : Nat.blt dst n = true) (hK : WO P w0 A ops rest ⟨n, (dst, d) :: sl, hp⟩ K) :
    WO P w0 A ops (⟨some dst, .load t x, ty, pos, after, none⟩ :: rest) ⟨n, sl, hp⟩ K := by
  refine ⟨fun ms a w hr Q hq => ?_⟩
  refine wpList_plain rfl fun Kn hKn => ?_
  obtain ⟨v, hrun, hvv⟩ := eload_ok hT hr (hr.ev_at hx) hb ht hrow hp'
  have hrun' : (execOp a.eval ⟨some dst, .load t x, ty, pos, after, none⟩).run P w = .ok (.value v) w := by
    simp only [execOp, Sem.run_bind, hrun, Result.andThen, Sem.run, pure]
  exact upon_value hrun' (hKn _ _ (hK.run _ _ w (Rel.put (t := some dst) hr hvv (dstOk_all (s := ⟨n, _, _⟩) (t := some dst) hd)) Q hq))

/-! ### Stores -/
def oneD : D → Bool
  | .lit _ => true
  | .nil => true
  | .sh _ _ => true
  | .own _ => true
  | _ => false
theorem oneD_ok {Ok : Nat → Prop} {d : D} {u : Value} (h : VX ms w Ok d u) (hd : oneD d = true) : u.oneCell' = true := by
  cases d <;> simp [oneD] at hd
  · obtain ⟨rfl, h1⟩ := h.lit_inv; exact (VR.lit (w := w) h1).one
  · rw [h.nil_inv]; rfl
  · obtain ⟨_, h1, _⟩ := h.sh_inv; exact h1.one
  · obtain ⟨e, _, rfl, _, _, _, h3⟩ := h.own_inv; rw [h3]; rfl
theorem oneDs_ok {Ok : Nat → Prop} : ∀ {ds : List D} {us : List Value}, VXs ms w Ok ds us → ds.all oneD = true → ∀ u ∈ us, u.oneCell' = true
  | _, _, .nil, _ => by simp
  | _, _, .cons h h', hd => by
    simp only [List.all_cons, Bool.and_eq_true] at hd
    intro u hu
    rcases List.mem_cons.1 hu with rfl | hu
    · exact oneD_ok h hd.1
    · exact oneDs_ok h' hd.2 u hu

theorem putL_splice {β : Type} : ∀ (o : Nat) (us cur : List β), o + us.length ≤ cur.length → putL o us cur = cur.take o ++ us ++ cur.drop (o + us.length)
  | 0, [], cur, _ => by rw [putL_nil]; simp
  | 0, u :: us, [], h => by simp at h
  | 0, u :: us, c :: cur, h => by
    have := putL_splice 0 us cur (by simpa using h)
    simp only [Nat.zero_add, List.take_zero, List.nil_append] at this
    simp [putL, this]
  | o + 1, us, [], h => by simp at h
  | o + 1, [], c :: cur, h => by rw [putL_nil]; simp
  | o + 1, u :: us, c :: cur, h => by
    have := putL_splice o (u :: us) cur (by simp at h ⊢; omega)
    show c :: putL o (u :: us) cur = _
    rw [this, show o + 1 + (u :: us).length = (o + (u :: us).length) + 1 by omega]
    rfl

theorem Ext_setRow {g : Nat} {cs : Array Value} (B : Nat) (hg : B ≤ g) : Below B w (w.setRow g cs) :=
  ⟨rfl, rfl, rfl, by simp [World.setRow], fun k hk => setRow_other w g k cs (by omega)⟩

/-- A store to a variable of the call's own. -/
theorem R_store {tab : Nat → Option TI} (hT : TabOk P tab) {t T : TypeId} {i o : Nat} {ds cs cs' : List D} {hp' : List Blk} {k : TK} {agg : Bool} {size bytes : Nat} {zero : List Value} {dst : Option Tmp}
    (hx : evD (look sl) x = .ptr i o) (hb : hp[i]? = some (.cells T cs)) (ht : tab t = some ⟨k, agg, size, bytes, zero⟩) (hy : cellsD (evD (look sl) y) = some ds) (hz : Nat.beq ds.length size = true) (h1 : ds.all oneD = true) (hle : Nat.ble (o + ds.length) cs.length = true)
    (hcs : putK o ds cs (fun l => some l) = some cs') (hd : dstOk ⟨n, sl, hp⟩ dst = true) (hh : hp.set i (.cells T cs') = hp') (hK : WO P w0 A ops rest (St.put ⟨n, sl, hp'⟩ dst (.tup [])) K) :
    WO P w0 A ops (⟨dst, .store t x y, ty, pos, after, none⟩ :: rest) ⟨n, sl, hp⟩ K := by
  refine ⟨fun ms a w hr Q hq => ?_⟩
  refine wpList_plain rfl fun Kn hKn => ?_
  obtain ⟨inf, td, z, q1, q2, q3, q4, q5, q6, _⟩ := hT.get ht
  have hz := Nat.eq_of_beq_eq_true hz
  have hle := Nat.le_of_ble_eq_true hle
  obtain ⟨e, b, hi, htop, e1⟩ := (hr.ev_at hx).ptr_inv
  obtain ⟨b', us, rfl, hh1, hv⟩ := hr.ents i _ e hb hi
  simp only [Option.some.injEq] at htop
  subst htop
  obtain ⟨vs, e2, hvs⟩ := cellsD_ok (hr.ev y) hy
  have hcs' := (putK_eq _ _ _ hcs).1
  simp only [Option.some.injEq] at hcs'
  subst hcs'
  have hl := hv.len
  have hlv := hvs.len
  have hone := oneDs_ok hvs h1
  have hst := run_storeCells_at P b' o T vs 0 us.toArray w hh1 (by simp; omega) hone
  simp only [Nat.add_zero] at hst
  have hput : (us.take o ++ vs ++ us.drop (o + vs.length)) = putL o vs us := (putL_splice o vs us (by omega)).symm
  simp only [hput] at hst
  have hrun : (execOp a.eval ⟨dst, .store t x y, ty, pos, after, none⟩).run P w = .ok .skip (w.setRow b' (putL o vs us).toArray) := by
    simp only [execOp, e1, Instr.storeAt, Instr.sureAddr, storeVar, Sem.run_bind, Sem.run, Result.andThen, pure, run_sizeOf q1, e2, q6, List.size_toArray, hlv, hz, ne_eq, not_true_eq_false, if_false]
    simp only [hst]
  subst hh
  have hrel := hr.change (i := i) (g := b') (b' := .cells T (putL o ds cs)) (w' := w.setRow b' (putL o vs us).toArray) hi rfl (fun k hk => setRow_other w b' k _ hk) (by simp [World.setRow]) (Ext_setRow _ ((hr.range b' (ent_owned hi (by simp))).1))
    (fun hk _ => ⟨b', putL o vs us, rfl, setRow_heap w b' _ _ T _ hh1, putL_vxs o (VXs.mono hk hvs fun _ _ _ h => h) (VXs.mono hk hv fun _ _ _ h => h)⟩)
  exact upon_skip hrun (hKn _ _ (hK.run _ _ _ (Rel.put hrel (.tup (us := []) .nil) (dstOk_all hd)) Q hq))

/-- A store to an element of an array of the call's own; scalars over scalars. -/
theorem VRs.setLits : ∀ {ds : List D} {us : List Value} {bs : List Nat}, VRs w ds us bs → ∀ (i : Nat) {cs : List D} {vs : List Value} {bc : List Nat}, VRs w' cs vs bc → (∀ d ∈ cs, isLit d = true) → (∀ d ∈ (ds.drop i).take cs.length, isLit d = true) → (∀ k ∈ bs, w'.heap[k]? = w.heap[k]?) → VRs w' (putL i cs ds) (putL i vs us) bs
  | _, _, _, h, i, _, _, _, .nil, _, _, hk => by rw [putL_nil, putL_nil]; exact h.keep hk
  | _, _, _, .nil, i, _, _, _, .cons _ _, _, _, _ => by cases i <;> exact .nil
  | _, _, _, .cons h h', 0, _, _, _, .cons hc hc', hl, ho, hk => by
    have hd := ho _ (by simp; exact Or.inl rfl)
    have hb1 := VRs.flat (ds := [_]) (by simpa using hd) (.cons h .nil)
    simp only [List.append_nil] at hb1
    subst hb1
    have hcl := hl _ (List.mem_cons_self ..)
    have hb2 := VRs.flat (ds := [_]) (by simpa using hcl) (.cons hc .nil)
    simp only [List.append_nil] at hb2
    subst hb2
    exact VRs.cons (bs := []) hc (VRs.setLits h' 0 hc' (fun d hd => hl d (List.mem_cons_of_mem _ hd)) (fun d hd => ho d (by simp at hd ⊢; exact Or.inr hd)) (fun k hk' => hk k (by simpa using hk')))
  | _, _, _, .cons h h', i + 1, _, _, _, .cons hc hc', hl, ho, hk => VRs.cons (h.keep fun k hk' => hk k (List.mem_append_left _ hk')) (VRs.setLits h' i (.cons hc hc') hl (fun d hd => ho d (by simpa using hd)) (fun k hk' => hk k (List.mem_append_right _ hk')))
end
end Go.Proofs.YtcpjhpjlcgcigaaGreatDoor
namespace Go.Proofs.YtcpjhpjlcgcigaaGreatDoor
open Go.ChangeShapes Go.WideShapes Go.ChangeAt Go.RowKit

section
variable {P : Program} {w0 w w' : World} {A : Nat → Prop} {n : Nat} {sl : List (Nat × D)} {hp : List Blk} {ms ms' : List Ent} {a : Act}
variable {ops : Array Oper} {rest : List Oper} {K : St → Prop} {x y : Operand} {dst : Tmp} {ty : TypeId} {pos : String} {after : Array Edge}

def SetAt (xs : List (List D)) (j : Int) (r : List D) (xs' : List (List D)) : Prop := xs' = xs.set j.toNat r
theorem setAt_nat {α : Type} {l : List α} {f : α → List D} {k : Nat} {v : α} {r : List D} (h : f v = r) : SetAt (l.map f) (k : Int) r ((l.set k v).map f) := by
  unfold SetAt; rw [Int.toNat_natCast, List.map_set, h]
theorem setAt_int {α : Type} {l : List α} {f : α → List D} {j : Int} {v : α} {r : List D} (h : f v = r) : SetAt (l.map f) j r ((l.set j.toNat v).map f) := by
  unfold SetAt; rw [List.map_set, h]

theorem putL_append_left {β : Type} : ∀ (o : Nat) (ds l l' : List β), o + ds.length ≤ l.length → putL o ds (l ++ l') = putL o ds l ++ l'
  | o, [], l, l', _ => by rw [putL_nil, putL_nil]
  | o, d :: ds, [], l', h => by simp at h
  | 0, d :: ds, c :: l, l', h => by show d :: putL 0 ds (l ++ l') = d :: putL 0 ds l ++ l'; rw [putL_append_left 0 ds l l' (by simpa using h)]; rfl
  | o + 1, d :: ds, c :: l, l', h => by show c :: putL o (d :: ds) (l ++ l') = c :: putL o (d :: ds) l ++ l'; rw [putL_append_left o (d :: ds) l l' (by simp at h ⊢; omega)]; rfl
theorem putL_append_right {β : Type} : ∀ (o : Nat) (ds l l' : List β), putL (l.length + o) ds (l ++ l') = l ++ putL o ds l'
  | o, [], l, l' => by rw [putL_nil, putL_nil]
  | o, d :: ds, [], l' => by simp
  | o, d :: ds, c :: l, l' => by
    rw [List.length_cons, show l.length + 1 + o = (l.length + o) + 1 by omega]
    show c :: putL (l.length + o) (d :: ds) (l ++ l') = c :: (l ++ putL o (d :: ds) l')
    rw [putL_append_right]
theorem flatten_set {m o : Nat} {ds : List D} (ho : o + ds.length ≤ m) : ∀ {xs : List (List D)} {k : Nat} {r : List D}, (∀ r ∈ xs, r.length = m) → xs[k]? = some r → (xs.set k (putL o ds r)).flatten = putL (k * m + o) ds xs.flatten
  | [], k, r, _, h => by simp at h
  | y :: xs, 0, r, hy, h => by
    simp at h; subst h
    simp only [List.set_cons_zero, List.flatten_cons, Nat.zero_mul, Nat.zero_add]
    rw [putL_append_left _ _ _ _ (by rw [hy y (by simp)]; exact ho)]
  | y :: xs, k + 1, r, hy, h => by
    simp at h
    simp only [List.set_cons_succ, List.flatten_cons]
    rw [flatten_set ho (fun z hz => hy z (List.mem_cons_of_mem _ hz)) h, show (k + 1) * m + o = y.length + (k * m + o) by rw [hy y (by simp), Nat.add_mul]; omega, putL_append_right]
theorem length_putL {β : Type} : ∀ (o : Nat) (ds l : List β), o + ds.length ≤ l.length → (putL o ds l).length = l.length := by
  intro o ds l h; rw [putL_splice o ds l h]; simp; omega

theorem R_estore {tab : Nat → Option TI} (hT : TabOk P tab) {t T : TypeId} {i m o : Nat} {j : Int} {ds r r' : List D} {xs xs' : List (List D)} {hp' : List Blk} {dp : Bool} {k : TK} {agg : Bool} {size bytes : Nat} {zero : List Value} {dst : Option Tmp}
    (hx : evD (look sl) x = .eptr i m j o) (hb : hp[i]? = some (.arr T m xs dp)) (ht : tab t = some ⟨k, agg, size, bytes, zero⟩) (hy : cellsD (evD (look sl) y) = some ds) (hz : Nat.beq ds.length size = true) (h1 : ds.all isLit = true) (hle : Nat.ble (o + ds.length) m = true)
    (hrow : RowAt xs j r) (hol : ((r.drop o).take ds.length).all isLit = true) (hr' : putK o ds r (fun l => some l) = some r') (hset : SetAt xs j r' xs') (hd : dstOk ⟨n, sl, hp⟩ dst = true) (hh : hp.set i (.arr T m xs' dp) = hp') (hK : WO P w0 A ops rest (St.put ⟨n, sl, hp'⟩ dst (.tup [])) K) :
    WO P w0 A ops (⟨dst, .store t x y, ty, pos, after, none⟩ :: rest) ⟨n, sl, hp⟩ K := by
  refine ⟨fun ms a w hr Q hq => ?_⟩
  refine wpList_plain rfl fun Kn hKn => ?_
  obtain ⟨inf, td, z, q1, q2, q3, q4, q5, q6, _⟩ := hT.get ht
  have hz := Nat.eq_of_beq_eq_true hz
  have hle := Nat.le_of_ble_eq_true hle
  have hlit : ∀ d ∈ ds, isLit d = true := List.all_eq_true.1 h1
  have hr'' := (putK_eq _ _ _ hr').1
  simp only [Option.some.injEq] at hr''
  subst hr''
  have hset : xs' = xs.set j.toNat (putL o ds r) := hset
  subst hset
  obtain ⟨e, b, hi, htop, e1⟩ := (hr.ev_at hx).eptr_inv
  obtain ⟨us, bs, o1, o2, o3, o4, o5⟩ := hr.ents i _ e hb hi
  have hno := hr.nest_ok hi o5
  obtain ⟨vs, e2, hvs⟩ := cellsD_ok (hr.ev y) hy
  have hlv := hvs.len
  have hvr : VRs w ds vs [] := VRs.of_lits hlit hvs
  have hlt := (List.getElem?_eq_some_iff.1 hrow.2).1
  have hml := mul_lt_of (m := m) hlt
  obtain ⟨hl, ⟨hv, h0⟩ | ⟨g, cap, cur, hv, hg, hh1, c1, c2, c3, c4⟩⟩ := o1
  · omega
  have hbg : b = g := by rw [o4, hv] at htop; simpa [Value.ownBlock] using htop.symm
  subst hbg
  have hcap : xs.length * m ≤ cap * m := Nat.mul_le_mul_right m c1
  have hst := run_storeCells_at P b (j.toNat * m + o) T vs 0 cur w hh1 (by omega) hvr.one
  simp only [Nat.add_zero] at hst
  have hput : (cur.toList.take (j.toNat * m + o) ++ vs ++ cur.toList.drop (j.toNat * m + o + vs.length)) = putL (j.toNat * m + o) vs cur.toList := (putL_splice _ vs cur.toList (by simp; omega)).symm
  simp only [hput] at hst
  have hrun : (execOp a.eval ⟨dst, .store t x y, ty, pos, after, none⟩).run P w = .ok .skip (w.setRow b (putL (j.toNat * m + o) vs cur.toList).toArray) := by
    simp only [execOp, e1, Instr.storeAt, Instr.sureAddr, storeVar, Sem.run_bind, Sem.run, Result.andThen, pure, run_sizeOf q1, e2, q6, List.size_toArray, hlv, hz, ne_eq, not_true_eq_false, if_false]
    simp only [hst]
  subst hh
  have htake : (putL (j.toNat * m + o) vs cur.toList).take (xs.length * m) = putL (j.toNat * m + o) vs us := by
    conv => lhs; rw [← List.take_append_drop (xs.length * m) cur.toList]
    rw [putL_append_left _ _ _ _ (by simp; omega), List.take_left' (by rw [length_putL _ _ _ (by simp; omega)]; simp; omega), c4]
  have hrel := hr.change (i := i) (g := b) (b' := .arr T m (xs.set j.toNat (putL o ds r)) dp) (w' := w.setRow b (putL (j.toNat * m + o) vs cur.toList).toArray) hi htop (fun k hk => setRow_other w b k _ hk) (by simp [World.setRow]) (Ext_setRow _ hg)
    (fun hk hn => by
      have hbs : ∀ k ∈ bs, (w.setRow b (putL (j.toNat * m + o) vs cur.toList).toArray).heap[k]? = w.heap[k]? := fun k hk' => (hk k (hno k hk')).1
      refine ⟨putL (j.toNat * m + o) vs us, bs, ?_, ?_, ?_, o4, ?_⟩
      · rw [List.length_set]
        refine ⟨by rw [length_putL _ _ _ (by omega)]; exact hl, Or.inr ⟨b, cap, (putL (j.toNat * m + o) vs cur.toList).toArray, hv, hg, setRow_heap w b cur _ T _ hh1, c1, c2, ?_, by simpa using htake⟩⟩
        simp [length_putL _ _ _ (show j.toNat * m + o + vs.length ≤ cur.toList.length by simp; omega), c3]
      · intro r2 hr2
        rcases List.mem_or_eq_of_mem_set hr2 with h | h
        · exact o2 r2 h
        · have hrm := o2 r (List.mem_of_getElem? hrow.2)
          rw [h, length_putL _ _ _ (by rw [hrm]; exact hle), hrm]
      · rw [flatten_set hle o2 hrow.2]
        have hpart : ((xs.flatten.drop (j.toNat * m + o)).take ds.length) = (r.drop o).take ds.length := by
          have := flatten_part o2 hrow.2
          rw [← this, ← List.drop_drop, List.drop_take, List.take_take, Nat.min_eq_left (by omega)]
        exact VRs.setLits o3 _ (VRs.of_lits (w' := w.setRow b _) hlit hvs) hlit (by rw [hpart]; exact List.all_eq_true.1 hol) hbs
      · cases dp with
        | true => exact ⟨o5.1, fun k hk' => (o5.2 k hk').keep (hbs k hk')⟩
        | false => exact ⟨o5.1, fun k hk' => (hk k (o5.2 k hk')).2⟩)
  exact upon_skip hrun (hKn _ _ (hK.run _ _ _ (Rel.put hrel (.tup (us := []) .nil) (dstOk_all hd)) Q hq))

/-! ### Slices that are written out -/
theorem fill_congr {p q : Nat → Option (Nat × Nat)} (h : ∀ i x, p i = some x → q i = some x) : ∀ {parts : List (Nat × Value)} {cs vs : Array Value}, Instr.fill p cs parts = some vs → Instr.fill q cs parts = some vs
  | [], _, _, hf => hf
  | (i, v) :: r, cs, vs, hf => by
    simp only [Instr.fill] at hf ⊢
    cases hp : p i with
    | none => rw [hp] at hf; simp at hf
    | some x =>
      rw [hp] at hf
      rw [h i x hp]
      simp only at hf ⊢
      split at hf
      · simp at hf
      · rename_i hc; rw [if_neg hc]; exact fill_congr h hf

def placesOf (size : Nat) : Nat → List (Nat × Nat)
  | 0 => []
  | k + 1 => placesOf size k ++ [(k * size, size)]
theorem placesOf_get {size : Nat} : ∀ {k i : Nat} {x : Nat × Nat}, (placesOf size k)[i]? = some x → x = (i * size, size)
  | 0, i, x, h => by simp [placesOf] at h
  | k + 1, i, x, h => by
    have hl : ∀ k, (placesOf size k).length = k := by intro k; induction k with | zero => rfl | succ k ih => simp [placesOf, ih]
    rw [placesOf] at h
    by_cases hi : i < k
    · rw [List.getElem?_append_left (by rw [hl]; exact hi)] at h; exact placesOf_get h
    · rw [List.getElem?_append_right (by rw [hl]; omega), hl] at h
      have : i = k := by
        have := (List.getElem?_eq_some_iff.1 h).1; simp at this; omega
      subst this
      simpa using h.symm
/-- The cells of a slice that is written out. -/
def litCells (ρ : Operand → D) (size len : Nat) (zero : List Value) (parts : List (Nat × Operand)) : Option (List D) :=
  constK zero fun z => buildK ρ (placesOf size len) parts (List.replicate len z).flatten fun l => some l
def rowsK (m : Nat) : Nat → List D → Option (List (List D))
  | 0, [] => some []
  | 0, _ :: _ => none
  | k + 1, l => takeK m l fun r => dropK m l fun l' => match rowsK m k l' with | some rs => some (r :: rs) | none => none

theorem buildK_gen {α : Type} {Ok : Nat → Prop} {ρ : Operand → D} {ρ' : Operand → Value} {fs : List (Nat × Nat)} {k : List D → Option α} {r : α} : ∀ {parts : List (Nat × Operand)} {l : List D} {us : List Value},
    (∀ x ∈ parts, VX ms w Ok (ρ x.2) (ρ' x.2)) → VXs ms w Ok l us → buildK ρ fs parts l k = some r →
      ∃ l' vs, Instr.fill (fun i => fs[i]?) us.toArray (parts.map fun x => (x.1, ρ' x.2)) = some vs.toArray ∧ VXs ms w Ok l' vs ∧ k l' = some r
  | [], l, us, _, hv, h => ⟨l, us, rfl, hv, h⟩
  | (i, x) :: parts, l, us, hp, hv, h => by
    simp only [buildK] at h
    split at h
    · rename_i o z hi
      split at h
      · rename_i ds hds
        split at h
        · rename_i hz
          have hz := Nat.eq_of_beq_eq_true hz
          obtain ⟨h1, h2⟩ := putK_eq _ _ _ h
          obtain ⟨cs, h3, h4⟩ := cellsD_ok (hp (i, x) (by simp)) hds
          obtain ⟨l', vs, h5, h6⟩ := buildK_gen (fun y hy => hp y (List.mem_cons_of_mem _ hy)) (putL_vxs o h4 hv) h1
          refine ⟨l', vs, ?_, h6⟩
          simp only [List.map_cons, Instr.fill, hi, h3, List.size_toArray]
          have hl := h4.len
          have hl2 := hv.len
          have hm : o + ds.length ≤ us.length := by
            rw [hl2]; rcases Nat.le_total l.length o with hh | hh
            · rw [Nat.max_eq_right hh] at h2; omega
            · rw [Nat.max_eq_left hh] at h2; exact h2
          rw [if_neg (by simp; omega)]
          have := foldl_put o cs 0 us (by omega)
          simp only [Nat.add_zero] at this
          rw [← Array.foldl_toList, Array.toList_zipIdx, this]
          exact h5
        · simp at h
      · simp at h
    · simp at h

theorem constK_gen {α : Type} {Ok : Nat → Prop} : ∀ {vs : List Value} {k : List D → Option α} {r : α}, constK vs k = some r → ∃ ds, VXs ms w Ok ds vs ∧ k ds = some r
  | [], _, _, h => ⟨[], .nil, h⟩
  | v :: vs, _, _, h => by
    obtain ⟨ds, h1, h2⟩ := constK_gen (forceK_eq h)
    exact ⟨_, .cons (constD_ok v) h1, h2⟩
theorem VXs.repl {Ok : Nat → Prop} {ds : List D} {us : List Value} (h : VXs ms w Ok ds us) : ∀ k, VXs ms w Ok (List.replicate k ds).flatten (List.replicate k us).flatten
  | 0 => .nil
  | k + 1 => by rw [List.replicate_succ, List.replicate_succ, List.flatten_cons, List.flatten_cons]; exact h.append (VXs.repl h k)

theorem litCells_ok {Ok : Nat → Prop} {ρ : Operand → D} {ρ' : Operand → Value} {size len : Nat} {zero : List Value} {parts : List (Nat × Operand)} {l : List D} (hp : ∀ x ∈ parts, VX ms w Ok (ρ x.2) (ρ' x.2)) (h : litCells ρ size len zero parts = some l) :
    ∃ vs, Instr.fill (fun i => some (i * size, size)) (List.replicate len zero).flatten.toArray (parts.map fun x => (x.1, ρ' x.2)) = some vs.toArray ∧ VXs ms w Ok l vs := by
  obtain ⟨z, h1, h2⟩ := constK_gen (ms := ms) (w := w) (Ok := Ok) h
  obtain ⟨l', vs, h3, h4, h5⟩ := buildK_gen hp (h1.repl len) h2
  simp only [Option.some.injEq] at h5
  subst h5
  exact ⟨vs, fill_congr (fun i x hx => by rw [placesOf_get hx]) h3, h4⟩

theorem run_buildSlice {tab : Nat → Option TI} (hT : TabOk P tab) {t T : TypeId} {len m : Nat} {parts : Array (Nat × Operand)} {ρ' : Operand → Value} {agg : Bool} {size bytes : Nat} {zero : List Value}
    {k' : TK} {agg' : Bool} {bytes' : Nat} {zero' : List Value} {vs : List Value} {o : Oper} (ho : o.op = .buildSlice t len parts) (ht : tab t = some ⟨.sl T, agg, size, bytes, zero⟩) (hT' : tab T = some ⟨k', agg', m, bytes', zero'⟩) (hz : zero'.length = m) (hm : 0 < m) (hlm : len * m ≤ 16777216)
    (hf : Instr.fill (fun i => some (i * m, m)) (List.replicate len zero').flatten.toArray (parts.toList.map fun x => (x.1, ρ' x.2)) = some vs.toArray) :
    (execOp ρ' o).run P w = .ok (.value (.slice (some ⟨w.heap.size, 0, none⟩) len len)) (w.alloc (.cells vs.toArray T (0, 0))) := by
  obtain ⟨inf, td, z, h1, h2, h3, h4, _⟩ := hT.get ht
  obtain ⟨inf', td', z', g1, g2, g3, g4, g5, g6, g7, g8⟩ := hT.get hT'
  have htd := TK.sl_inv h4
  rw [htd] at h2
  have hzs : z'.cells.size = m := by rw [← hz, ← g8]; simp
  have hzero : (madeCells z'.cells (len * m)) = (List.replicate len zero').flatten.toArray := by
    rw [← Array.toArray_toList (xs := madeCells _ _), ← hzs, madeCells_eq _ (by omega), g8]
  have hmap : (Array.map (fun x => (x.1, ρ' x.2)) parts).toList = parts.toList.map fun x => (x.1, ρ' x.2) := by simp
  have hno : ¬ len * m > 2 ^ 24 := by omega
  by_cases h0 : len * m = 0
  · have hl0 : len = 0 := by rcases Nat.mul_eq_zero.1 h0 with h | h <;> omega
    subst hl0
    simp only [List.replicate_zero, List.flatten_nil] at hf
    have e0 : ∀ f : Nat → Value, Array.map f (Array.range 0) = #[] := fun f => by simp
    have hno0 : ¬ (0 > 2 ^ 24) := by omega
    simp only [execOp, ho, Instr.buildSlice, Sem.run_bind, run_underlying h2, Result.andThen, run_sizeOf g1, g6, Nat.zero_mul, hno0, if_false, if_true, hmap, newRow, newObj]
    simp only [pure, Sem.run, e0, hf]
    rfl
  · simp only [execOp, ho, Instr.buildSlice, Sem.run_bind, run_underlying h2, Result.andThen, run_sizeOf g1, g6, hno, if_false, h0, run_zero g1 g3, hmap, newRow, newObj]
    unfold madeCells at hzero
    simp [Sem.run, hzero, hf]

theorem rowsK_ok {m : Nat} : ∀ {k : Nat} {l : List D} {rs : List (List D)}, rowsK m k l = some rs → rs.flatten = l ∧ rs.length = k ∧ ∀ r ∈ rs, r.length = m
  | 0, [], rs, h => by simp only [rowsK, Option.some.injEq] at h; subst h; simp
  | 0, _ :: _, rs, h => by simp [rowsK] at h
  | k + 1, l, rs, h => by
    simp only [rowsK] at h
    obtain ⟨h1, h2⟩ := takeK_eq _ _ _ h
    obtain ⟨h3, _⟩ := dropK_eq _ _ _ h1
    cases hr : rowsK m k (l.drop m) with
    | none => rw [hr] at h3; simp at h3
    | some rs' =>
      rw [hr] at h3
      simp only [Option.some.injEq] at h3
      subst h3
      obtain ⟨q1, q2, q3⟩ := rowsK_ok hr
      refine ⟨by rw [List.flatten_cons, q1, List.take_append_drop], by simp [q2], fun r hr => ?_⟩
      rcases List.mem_cons.1 hr with rfl | hr
      · simp; omega
      · exact q3 r hr

/-- A slice of scalars that is written out. -/
theorem R_build {tab : Nat → Option TI} (hT : TabOk P tab) {t T : TypeId} {len m : Nat} {parts : Array (Nat × Operand)} {agg : Bool} {size bytes : Nat} {zero : List Value}
    {k' : TK} {agg' : Bool} {bytes' : Nat} {zero' : List Value} {l : List D} {rs : List (List D)} (ht : tab t = some ⟨.sl T, agg, size, bytes, zero⟩) (hT' : tab T = some ⟨k', agg', m, bytes', zero'⟩) (hz : Nat.beq zero'.length m = true) (hm : Nat.blt 0 m = true) (hlm : Nat.ble (len * m) 16777216 = true)
    (hl : litCells (evD (look sl)) m len zero' parts.toList = some l) (hlit : l.all isLit = true) (hrs : rowsK m len l = some rs) (hd : Nat.blt dst n = true) (hK : WO P w0 A ops rest ⟨n, (dst, .own hp.length) :: sl, hp ++ [.arr T m rs true]⟩ K) :
    WO P w0 A ops (⟨some dst, .buildSlice t len parts, ty, pos, after, none⟩ :: rest) ⟨n, sl, hp⟩ K := by
  refine ⟨fun ms a w hr Q hq => ?_⟩
  refine wpList_plain rfl fun Kn hKn => ?_
  have hz := Nat.eq_of_beq_eq_true hz
  have hm : 0 < m := by simpa [Nat.blt_eq] using hm
  have hlm := Nat.le_of_ble_eq_true hlm
  obtain ⟨vs, hf, hv⟩ := litCells_ok (fun x _ => hr.ev x.2) hl
  have hrun := run_buildSlice (w := w) (o := ⟨some dst, .buildSlice t len parts, ty, pos, after, none⟩) hT rfl ht hT' hz hm hlm hf
  obtain ⟨q1, q2, q3⟩ := rowsK_ok hrs
  have hl' := hv.len
  have hlen : vs.length = len * m := by rw [hl', ← q1, flatten_len q3, q2]
  have hx : Ext w (w.alloc (.cells vs.toArray T (0, 0))) := (Ext.refl w).alloc _
  have hvr : VRs (w.alloc (.cells vs.toArray T (0, 0))) rs.flatten vs [] := by rw [q1]; exact VRs.of_lits (List.all_eq_true.1 hlit) hv
  have hown : (w.alloc (.cells vs.toArray T (0, 0))).ownsRow w0.heap.size T m (.slice (some ⟨w.heap.size, 0, none⟩) len len) rs.length vs := by
    rw [q2]
    refine ⟨hlen, Or.inr ⟨w.heap.size, len, vs.toArray, rfl, hr.ext.size, heap_alloc_new w _, Nat.le_refl _, ?_, by simp [hlen], by simp [← hlen]⟩⟩
    have : len ≤ len * m := Nat.le_mul_of_pos_right len hm
    unfold maxLen; omega
  obtain ⟨r1, r2⟩ := hr.newArr (T := T) (m := m) (g := w.heap.size) (xs := rs) hx rfl ⟨Nat.le_refl _, by simp⟩ hown q3 hvr
  exact upon_value hrun (hKn _ _ (hK.run _ _ _ (Rel.put (t := some dst) r1 (VX.own r2 ⟨_, _, _, rfl⟩) (dstOk_all (s := ⟨n, _, _⟩) (t := some dst) hd)) Q hq))

/-- A slice that is written out, of whatever: a variable's cells. -/
theorem R_vec {tab : Nat → Option TI} (hT : TabOk P tab) {t T : TypeId} {len m : Nat} {parts : Array (Nat × Operand)} {agg : Bool} {size bytes : Nat} {zero : List Value}
    {k' : TK} {agg' : Bool} {bytes' : Nat} {zero' : List Value} {l : List D} (ht : tab t = some ⟨.sl T, agg, size, bytes, zero⟩) (hT' : tab T = some ⟨k', agg', m, bytes', zero'⟩) (hz : Nat.beq zero'.length m = true) (hm : Nat.blt 0 m = true) (hlm : Nat.ble (len * m) 16777216 = true)
    (hl : litCells (evD (look sl)) m len zero' parts.toList = some l) (hd : Nat.blt dst n = true) (hK : WO P w0 A ops rest ⟨n, (dst, .vec hp.length len) :: sl, hp ++ [.cells T l]⟩ K) :
    WO P w0 A ops (⟨some dst, .buildSlice t len parts, ty, pos, after, none⟩ :: rest) ⟨n, sl, hp⟩ K := by
  refine ⟨fun ms a w hr Q hq => ?_⟩
  refine wpList_plain rfl fun Kn hKn => ?_
  obtain ⟨vs, hf, hv⟩ := litCells_ok (fun x _ => hr.ev x.2) hl
  have hrun := run_buildSlice (w := w) (o := ⟨some dst, .buildSlice t len parts, ty, pos, after, none⟩) hT rfl ht hT' (Nat.eq_of_beq_eq_true hz) (by simpa [Nat.blt_eq] using hm) (Nat.le_of_ble_eq_true hlm) hf
  have hb := hr.box (t := T) hv
  have hlen := hr.len
  simp only at hlen
  refine upon_value hrun (hKn _ _ (hK.run _ _ _ (Rel.put (t := some dst) hb (VX.vec (e := ⟨.pointer (some ⟨w.heap.size, 0, none⟩), some w.heap.size, []⟩) ?_ rfl) (dstOk_all (s := ⟨n, _, _⟩) (t := some dst) hd)) Q hq))
  rw [List.getElem?_append_right (by omega), hlen]; simp

/-! ### append of elements that may hold arrays of the call's own -/
def absK {α : Type} (hp : List Blk) : List D → (List D → List Nat → Option α) → Option α
  | [], k => k [] []
  | d :: ds, k => match d with
    | .lit v => absK hp ds fun l js => k (.lit v :: l) js
    | .nil => absK hp ds fun l js => k (.nil :: l) js
    | .own j => match hp[j]? with
      | some (.arr _ m xs true) => absK hp ds fun l js => k (.sh m xs :: l) (j :: js)
      | _ => none
    | _ => none
def memN (j : Nat) : List Nat → Bool
  | [] => false
  | i :: l => match Nat.beq i j with | true => true | false => memN j l
def nodupN : List Nat → Bool
  | [] => true
  | i :: l => match memN i l with | true => false | false => nodupN l
theorem memN_iff {j : Nat} : ∀ {l : List Nat}, memN j l = true ↔ j ∈ l
  | [] => by simp [memN]
  | i :: l => by
    simp only [memN]
    cases h : Nat.beq i j
    · have := Nat.ne_of_beq_eq_false h
      simp only [List.mem_cons, memN_iff]
      exact ⟨Or.inr, fun h => h.resolve_left (Ne.symm this)⟩
    · simp [Nat.eq_of_beq_eq_true h]
theorem nodupN_iff : ∀ {l : List Nat}, nodupN l = true → l.Nodup
  | [], _ => by simp
  | i :: l, h => by
    simp only [nodupN] at h
    cases hm : memN i l
    · rw [hm] at h
      exact List.nodup_cons.2 ⟨fun hi => by rw [memN_iff.2 hi] at hm; exact Bool.noConfusion hm, nodupN_iff h⟩
    · rw [hm] at h; exact Bool.noConfusion h

theorem absK_ok {α : Type} (hr : Rel w0 A ms ⟨n, sl, hp⟩ a w) : ∀ {ds : List D} {us : List Value} {k : List D → List Nat → Option α} {r : α}, VXs ms w (OkB w0.heap.size A ms w) ds us → absK hp ds k = some r →
    ∃ l js, k l js = some r ∧ VRs w l us (js.flatMap fun j => match ms[j]? with | some e => e.top.toList ++ e.nest | none => []) ∧ ∀ j ∈ js, ∃ e, ms[j]? = some e ∧ (∀ k ∈ e.top.toList ++ e.nest, Un w k)
  | [], _, _, _, .nil, h => ⟨[], [], h, .nil, by simp⟩
  | d :: ds, _, k, r, .cons hd hds, h => by
    cases d <;> simp only [absK, reduceCtorEq] at h
    · obtain ⟨l, js, h1, h2, h3⟩ := absK_ok hr hds h
      obtain ⟨rfl, h4⟩ := hd.lit_inv
      exact ⟨_, js, h1, VRs.cons (bs := []) (.lit h4) h2, h3⟩
    · obtain ⟨l, js, h1, h2, h3⟩ := absK_ok hr hds h
      have e := hd.nil_inv
      subst e
      exact ⟨_, js, h1, VRs.cons (bs := []) .nil h2, h3⟩
    · rename_i j
      split at h
      · rename_i T m xs hb
        obtain ⟨l, js, h1, h2, h3⟩ := absK_ok hr hds h
        obtain ⟨e, hi, rfl, _⟩ := hd.own_inv
        obtain ⟨us, bs, o1, o2, o3, o4, o5⟩ := hr.ents j _ e hb hi
        refine ⟨_, j :: js, h1, ?_, ?_⟩
        · rw [List.flatMap_cons, hi]
          refine VRs.cons ?_ h2
          simp only [o5.1]
          obtain ⟨hl, ⟨hv, h0⟩ | ⟨g, cap, cur, hv, hg, hh, c1, c2, c3, c4⟩⟩ := o1
          · have hx : xs = [] := List.length_eq_zero_iff.1 h0
            subst hx
            have ht : e.top = none := by rw [o4, hv]; rfl
            have hbs : bs = [] := by
              simp only [List.flatten_nil] at o3; cases o3; rfl
            rw [hv, ht, hbs]
            exact .shnil (by omega) fun _ => rfl
          · have ht : e.top = some g := by rw [o4, hv]; rfl
            rw [hv, ht]
            unfold maxLen at c2
            refine .sh o2 c1 (by omega) (Array.getElem?_eq_some_iff.1 hh).1 o3 ?_
            intro q hq
            have : us[q]? = cur[q]? := by rw [← c4, List.getElem?_take, if_pos (by omega), Array.getElem?_toList]
            rw [this, Nat.zero_add]
            simp [World.cell?, hh]
        · intro q hq
          rcases List.mem_cons.1 hq with rfl | hq
          · refine ⟨e, hi, fun k hk => ?_⟩
            rcases List.mem_append.1 hk with hk | hk
            · obtain ⟨hl, ⟨hv, h0⟩ | ⟨g, cap, cur, hv, hg, hh, c1, c2, c3, c4⟩⟩ := o1
              · rw [o4, hv] at hk; simp [Value.ownBlock] at hk
              · rw [o4, hv] at hk; simp [Value.ownBlock] at hk; subst hk
                exact ⟨cur, T, hh⟩
            · exact o5.2 k (by rw [← o5.1]; exact hk)
          · exact h3 q hq
      · simp at h

theorem R_appendVec {tab : Nat → Option TI} (hT : TabOk P tab) {i k len m : Nat} {T T2 t : TypeId} {xs ys : List (List D)} {ds l : List D} {js : List Nat} {agg : Bool} {size bytes : Nat} {zero : List Value}
    {k' : TK} {agg' : Bool} {bytes' : Nat} {zero' : List Value} {sl' : List (Nat × D)} {hp' : List Blk} (hx : evD (look sl) x = .own i) (hy : evD (look sl) y = .vec k len) (hb : hp[i]? = some (.arr T m xs true)) (hc : hp[k]? = some (.cells T2 ds)) (hab : absK hp ds (fun l js => some (l, js)) = some (l, js)) (hrs : rowsK m len l = some ys)
    (ht : tab t = some ⟨.sl T, agg, size, bytes, zero⟩) (hT' : tab T = some ⟨k', agg', m, bytes', zero'⟩)
    (hz : Nat.beq zero'.length m = true) (hm : Nat.blt 0 m = true) (hby : Nat.ble bytes' 1024 = true) (hd : Nat.blt dst n = true) (hnd : nodupN (i :: k :: js) = true) (hs : killK (fun j => memN j (i :: k :: js)) sl (fun l => some l) = some sl')
    (hh : newK (fun j => memN j (i :: k :: js)) (fun j => memN j (k :: js)) i (.arr T m (xs ++ ys) true) 0 hp (fun l => some l) = some hp') (hlen : xs.length + len ≤ 4294967296) (hk : WO P w0 A ops rest ⟨n, (dst, .own i) :: sl', hp'⟩ K) :
    WO P w0 A ops (⟨some dst, .call ⟨.builtin .append, #[x, y], #[t, t]⟩, ty, pos, after, none⟩ :: rest) ⟨n, sl, hp⟩ K := by
  refine ⟨fun ms a w hr Q hq => ?_⟩
  refine wpList_plain rfl fun Kn hKn => ?_
  obtain ⟨e, hi, e1, hsl⟩ := (hr.ev_at hx).own_inv
  obtain ⟨ek, b, hik, htk, e2⟩ := (hr.ev_at hy).vec_inv
  obtain ⟨b', us, rfl, hh1, hv⟩ := hr.ents k _ ek hc hik
  simp only [Option.some.injEq] at htk
  subst htk
  obtain ⟨l', js', h1, h2, h3⟩ := absK_ok hr hv hab
  simp only [Option.some.injEq, Prod.mk.injEq] at h1
  obtain ⟨rfl, rfl⟩ := h1
  obtain ⟨q1, q2, q3⟩ := rowsK_ok hrs
  have hnd' := nodupN_iff hnd
  rw [List.nodup_cons] at hnd'
  have hci : memN i (k :: js') = false := by
    cases h : memN i (k :: js')
    · rfl
    · exact (hnd'.1 (memN_iff.1 h)).elim
  have hsrc : Src w (.slice (some ⟨b', 0, none⟩) len len) m ys (js'.flatMap fun j => match ms[j]? with | some e => e.top.toList ++ e.nest | none => []) := by
    refine ⟨q3, Or.inr ⟨⟨b', 0, none⟩, len, us, by rw [q2], by rw [q1]; exact h2, fun j x hj => ?_⟩⟩
    have ea : (⟨b', 0, none⟩ : Addr).add j = ⟨b', j, none⟩ := by unfold Addr.add; split <;> simp_all
    rw [ea]; simp [World.cell?, hh1, hj]
  have hmem : ∀ q ∈ (js'.flatMap fun j => match ms[j]? with | some e => e.top.toList ++ e.nest | none => []), ∃ (j : Nat) (e' : Ent), j ∈ js' ∧ ms[j]? = some e' ∧ q ∈ e'.top.toList ++ e'.nest := by
    intro q hq
    obtain ⟨j, hj, hq⟩ := List.mem_flatMap.1 hq
    obtain ⟨e', he', _⟩ := h3 j hj
    rw [he'] at hq
    exact ⟨j, e', hj, he', hq⟩
  have hnn : (js'.flatMap fun j => match ms[j]? with | some e => e.top.toList ++ e.nest | none => []).Nodup := by
    rw [List.nodup_iff_pairwise_ne, List.pairwise_flatMap]
    refine ⟨fun j hj => ?_, ?_⟩
    · obtain ⟨e', he', _⟩ := h3 j hj
      rw [he']
      exact List.nodup_iff_pairwise_ne.1 (owned_self hr.nodup he')
    · have hn2 : js'.Nodup := (List.nodup_cons.1 hnd'.2).2
      rw [List.nodup_iff_pairwise_ne] at hn2
      refine List.Pairwise.imp_of_mem ?_ hn2
      intro j1 j2 hj1 hj2 hne q1 hq1 q2 hq2 e
      subst e
      obtain ⟨e1', he1, _⟩ := h3 j1 hj1
      obtain ⟨e2', he2, _⟩ := h3 j2 hj2
      rw [he1] at hq1; rw [he2] at hq2
      exact owned_disjoint hr.nodup hne he1 he2 hq1 hq2
  obtain ⟨v', w', hrun, ms', r1, e', r2, r3, r4⟩ := hr.append hT (p := fun j => memN j (i :: k :: js')) (c := fun j => memN j (k :: js')) (ty := ty) ht hT' (Nat.eq_of_beq_eq_true hz) (by simpa [Nat.blt_eq] using hm) (Nat.le_of_ble_eq_true hby) hi hb hci (memN_iff.2 (by simp)) (fun j h => memN_iff.2 (List.mem_cons_of_mem _ (memN_iff.1 h))) (by rw [q2]; exact hlen) hsrc
    (fun q hq => by obtain ⟨j, e', hj, h4, h5⟩ := hmem q hq; exact ⟨j, e', memN_iff.2 (List.mem_cons_of_mem _ hj), h4, h5⟩) hnn (d' := true) (Or.inl ⟨rfl, rfl, rfl, fun q hq => by obtain ⟨j, e', hj, h4, h5⟩ := hmem q hq; obtain ⟨e'', h6, h7⟩ := h3 j hj; rw [h4] at h6; cases h6; exact h7 q h5⟩)
  have hs' := killK_eq hs; have hh' := newK_eq hh
  simp only [Option.some.injEq] at hs' hh'
  subst hs'; subst hh'
  refine upon_value (run_append_op (ρ' := a.eval) rfl (by rw [e1, e2]; exact hrun)) (hKn _ _ (hk.run ms' _ w' (Rel.put (t := some dst) r1 (by rw [← r3]; exact VX.own r2 (by rw [r3]; exact r4)) (dstOk_all (s := ⟨n, _, _⟩) (t := some dst) hd)) Q hq))
end
end Go.Proofs.YtcpjhpjlcgcigaaGreatDoor
namespace Go.Proofs.YtcpjhpjlcgcigaaGreatDoor
open Go.ChangeShapes Go.WideShapes Go.ChangeAt Go.RowKit

/-- A cell as one that is read alone. -/
def cellV (hp : List Blk) : D → Option D
  | .lit v => some (.lit v)
  | .nil => some .nil
  | .sh n xs => some (.sh n xs)
  | .own i => match hp[i]? with
    | some (.arr _ n xs _) => some (.sh n xs)
    | some (.fr n xs) => some (.sh n xs)
    | _ => none
  | _ => none
def cellsVK {α : Type} (hp : List Blk) : List D → (List D → Option α) → Option α
  | [], k => k []
  | d :: ds, k => match cellV hp d with
    | some d' => cellsVK hp ds fun l => k (d' :: l)
    | none => none
/-- An argument as one that is read alone. -/
def argV {α : Type} (hp : List Blk) : D → (D → Option α) → Option α
  | .sptr ds, k => k (.sptr ds)
  | .ptr i o, k => match hp[i]? with
    | some (.cells _ ds) => dropK o ds fun ds' => cellsVK hp ds' fun l => k (.sptr l)
    | _ => none
  | .agg ds, k => cellsVK hp ds fun l => k (.agg l)
  | d, k => match cellV hp d with
    | some d' => k d'
    | none => none
def argsVK {α : Type} (hp : List Blk) : List D → (List D → Option α) → Option α
  | [], k => k []
  | d :: ds, k => argV hp d fun d' => argsVK hp ds fun l => k (d' :: l)
/-- Functions with what they captured, too. -/
def argF {α : Type} (hp : List Blk) : D → (D → Option α) → Option α
  | .fn f caps, k => argsVK hp caps fun l => k (.fn f l)
  | d, k => argV hp d k
def argsFK {α : Type} (hp : List Blk) : List D → (List D → Option α) → Option α
  | [], k => k []
  | d :: ds, k => argF hp d fun d' => argsFK hp ds fun l => k (d' :: l)
def rdFree : D → Bool
  | .lit _ => true
  | .nil => true
  | .own _ => true
  | _ => false
def rdFree2 : D → Bool
  | .agg ds => ds.all rdFree
  | d => rdFree d
/-- Nothing in it is read in memory that it does not bring along. -/
def noRd : D → Bool
  | .lit _ => true
  | .nil => true
  | .own _ => true
  | .agg ds => ds.all rdFree
  | .tup ds => ds.all rdFree2
  | _ => false

section
variable {P : Program} {w0 w w' : World} {A A' : Nat → Prop} {n : Nat} {sl : List (Nat × D)} {hp : List Blk} {ms mr : List Ent} {a : Act}
variable {ops : Array Oper} {rest : List Oper} {K : St → Prop} {x y : Operand} {dst : Tmp} {ty : TypeId} {pos : String} {after : Array Edge}

abbrev Lt (w : World) : Nat → Prop := fun k => k < w.heap.size

theorem cellV_ok (hr : Rel w0 A ms ⟨n, sl, hp⟩ a w) {d d' : D} {u : Value} (h : VX ms w (OkB w0.heap.size A ms w) d u) (hd : cellV hp d = some d') : ∃ bs, VR w d' u bs ∧ ∀ k ∈ bs, k < w.heap.size := by
  unfold cellV at hd
  split at hd
  · simp only [Option.some.injEq] at hd; subst hd
    obtain ⟨rfl, h1⟩ := h.lit_inv; exact ⟨[], .lit h1, by simp⟩
  · simp only [Option.some.injEq] at hd; subst hd
    rw [h.nil_inv]; exact ⟨[], .nil, by simp⟩
  · simp only [Option.some.injEq] at hd; subst hd
    obtain ⟨bs, h1, h2⟩ := h.sh_inv; exact ⟨bs, h1, fun k hk => (h2 k hk).1⟩
  · split at hd
    · rename_i hb
      simp only [Option.some.injEq] at hd; subst hd
      obtain ⟨e, hi, rfl, _⟩ := h.own_inv
      obtain ⟨bs, h1, h2⟩ := hr.view hi hb
      exact ⟨bs, h1, fun k hk => (h2 k hk).1⟩
    · rename_i hb
      simp only [Option.some.injEq] at hd; subst hd
      obtain ⟨e, hi, rfl, _⟩ := h.own_inv
      obtain ⟨_, h1, h2⟩ := hr.ents _ _ e hb hi
      exact ⟨e.nest, h1, fun k hk => (h2 k hk).lt⟩
    · simp at hd
  · simp at hd
theorem cellsVK_ok {α : Type} (hr : Rel w0 A ms ⟨n, sl, hp⟩ a w) : ∀ {ds : List D} {us : List Value} {k : List D → Option α} {r : α}, VXs ms w (OkB w0.heap.size A ms w) ds us → cellsVK hp ds k = some r → ∃ l bs, VRs w l us bs ∧ (∀ k ∈ bs, k < w.heap.size) ∧ k l = some r
  | [], _, _, _, .nil, h => ⟨[], [], .nil, by simp, h⟩
  | d :: ds, _, k, r, .cons h h', hk => by
    simp only [cellsVK] at hk
    split at hk
    · rename_i d' hd
      obtain ⟨bs, h1, h2⟩ := cellV_ok hr h hd
      obtain ⟨l, bs', h3, h4, h5⟩ := cellsVK_ok hr h' hk
      exact ⟨_, _, .cons h1 h3, fun k hk => (List.mem_append.1 hk).elim (h2 k) (h4 k), h5⟩
    · simp at hk
theorem argV_ok {α : Type} (hr : Rel w0 A ms ⟨n, sl, hp⟩ a w) {d : D} {u : Value} {k : D → Option α} {r : α} (h : VX ms w (OkB w0.heap.size A ms w) d u) (hk : argV hp d k = some r) : ∃ d', VX [] w (Lt w) d' u ∧ k d' = some r := by
  unfold argV at hk
  split at hk
  · obtain ⟨us, b, o, bs, rfl, h1, h2, h3, h4⟩ := h.sptr_inv
    exact ⟨_, .sptr h1 h2.1 (fun k hk => (h3 k hk).1) h4, hk⟩
  · rename_i i o
    obtain ⟨e, b, hi, ht, rfl⟩ := h.ptr_inv
    split at hk
    · rename_i T ds hb
      obtain ⟨b', us, rfl, h3, h4⟩ := hr.ents i _ e hb hi
      simp only [Option.some.injEq] at ht
      subst ht
      obtain ⟨h5, h6⟩ := dropK_eq _ _ _ hk
      obtain ⟨l, bs, h7, h8, h9⟩ := cellsVK_ok hr (h4.drop o) h5
      refine ⟨_, .sptr h7 ?_ h8 ?_, h9⟩
      · exact (Array.getElem?_eq_some_iff.1 h3).1
      · intro j hj
        simp only [List.length_drop] at hj
        simp [World.cell?, h3]
    · simp at hk
  · obtain ⟨us, rfl, h1⟩ := h.agg_inv
    obtain ⟨l, bs, h7, h8, h9⟩ := cellsVK_ok hr h1 hk
    exact ⟨_, .agg (VXs.of_rd h7 h8), h9⟩
  · split at hk
    · rename_i d' hd
      obtain ⟨bs, h1, h2⟩ := cellV_ok hr h hd
      exact ⟨d', .rd h1 h2, hk⟩
    · simp at hk
theorem argsVK_ok {α : Type} (hr : Rel w0 A ms ⟨n, sl, hp⟩ a w) : ∀ {ds : List D} {us : List Value} {k : List D → Option α} {r : α}, VXs ms w (OkB w0.heap.size A ms w) ds us → argsVK hp ds k = some r → ∃ l, VXs [] w (Lt w) l us ∧ k l = some r
  | [], _, _, _, .nil, h => ⟨[], .nil, h⟩
  | d :: ds, _, k, r, .cons h h', hk => by
    obtain ⟨d', h1, h2⟩ := argV_ok hr h hk
    obtain ⟨l, h3, h4⟩ := argsVK_ok hr h' h2
    exact ⟨_, .cons h1 h3, h4⟩
theorem argF_ok {α : Type} (hr : Rel w0 A ms ⟨n, sl, hp⟩ a w) {d : D} {u : Value} {k : D → Option α} {r : α} (h : VX ms w (OkB w0.heap.size A ms w) d u) (hk : argF hp d k = some r) : ∃ d', VX [] w (Lt w) d' u ∧ k d' = some r := by
  unfold argF at hk
  split at hk
  · obtain ⟨us, rfl, h1⟩ := h.fn_inv
    obtain ⟨l, h2, h3⟩ := argsVK_ok hr h1 hk
    exact ⟨_, .fn h2, h3⟩
  · exact argV_ok hr h hk
theorem argsFK_ok {α : Type} (hr : Rel w0 A ms ⟨n, sl, hp⟩ a w) : ∀ {ds : List D} {us : List Value} {k : List D → Option α} {r : α}, VXs ms w (OkB w0.heap.size A ms w) ds us → argsFK hp ds k = some r → ∃ l, VXs [] w (Lt w) l us ∧ k l = some r
  | [], _, _, _, .nil, h => ⟨[], .nil, h⟩
  | d :: ds, _, k, r, .cons h h', hk => by
    obtain ⟨d', h1, h2⟩ := argF_ok hr h hk
    obtain ⟨l, h3, h4⟩ := argsFK_ok hr h' h2
    exact ⟨_, .cons h1 h3, h4⟩

theorem noRd_cell {d : D} {v : Value} {Ok Ok' : Nat → Prop} {k : Nat} {ms' : List Ent} (hm : ∀ (i : Nat) (e : Ent), mr[i]? = some e → ms'[k + i]? = some e) (h : VX mr w' Ok d v) (hd : rdFree d = true) : VX ms' w' Ok' (d.shift k) v := by
  cases d <;> simp [rdFree] at hd
  · obtain ⟨rfl, h1⟩ := h.lit_inv; exact VX.of_lit h1
  · rw [h.nil_inv]; exact .rd .nil (by simp)
  · obtain ⟨e, h1, rfl, h2⟩ := h.own_inv; exact .own (hm _ _ h1) h2
theorem noRd_cells {Ok Ok' : Nat → Prop} {k : Nat} {ms' : List Ent} (hm : ∀ (i : Nat) (e : Ent), mr[i]? = some e → ms'[k + i]? = some e) : ∀ {ds : List D} {us : List Value}, VXs mr w' Ok ds us → ds.all rdFree = true → VXs ms' w' Ok' (D.shiftL k ds) us
  | [], _, .nil, _ => .nil
  | d :: ds, _, .cons h h', hd => by
    simp only [List.all_cons, Bool.and_eq_true] at hd
    exact .cons (noRd_cell hm h hd.1) (noRd_cells hm h' hd.2)
theorem noRd_ok {d : D} {v : Value} {Ok Ok' : Nat → Prop} {k : Nat} {ms' : List Ent} (hm : ∀ (i : Nat) (e : Ent), mr[i]? = some e → ms'[k + i]? = some e) (h : VX mr w' Ok d v) (hd : noRd d = true) : VX ms' w' Ok' (d.shift k) v := by
  have key : ∀ {ds : List D} {us : List Value}, VXs mr w' Ok ds us → (ds.all rdFree2) = true → VXs ms' w' Ok' (D.shiftL k ds) us := by
    intro ds
    induction ds with
    | nil => intro us h _; cases h; exact .nil
    | cons d ds ih =>
      intro us h hd
      cases h with
      | cons h h' =>
        simp only [List.all_cons, Bool.and_eq_true] at hd
        refine .cons ?_ (ih h' hd.2)
        cases d with
        | agg l =>
          obtain ⟨us, rfl, h1⟩ := h.agg_inv
          rw [D.shift]; exact .agg (noRd_cells hm h1 hd.1)
        | lit _ => exact noRd_cell hm h rfl
        | nil => exact noRd_cell hm h rfl
        | own _ => exact noRd_cell hm h rfl
        | _ => simp [rdFree2, rdFree] at hd
  cases d with
  | agg l =>
    obtain ⟨us, rfl, h1⟩ := h.agg_inv
    rw [D.shift]; exact .agg (noRd_cells hm h1 hd)
  | tup l =>
    obtain ⟨us, rfl, h1⟩ := h.tup_inv
    rw [D.shift]; exact .tup (key h1 hd)
  | lit _ => exact noRd_cell hm h rfl
  | nil => exact noRd_cell hm h rfl
  | own _ => exact noRd_cell hm h rfl
  | _ => simp [noRd] at hd

/-- A call that is handed memory of the call's own. -/
theorem R_callv {f : FuncId} {fo : Operand} {args : Array Operand} {tys : Array TypeId} {ds caps : List D} {d : D} {rh : List Blk} (hf : evD (look sl) fo = .fn f caps)
    (hds : mapK (evD (look sl)) args.toList (fun l => argsFK hp (l ++ caps) fun l => some l) = some ds) (hd : Nat.blt dst n = true) (hF : Fn P f ds d rh) (hno : noRd d = true) (hdeep : rh.all Blk.isDeep = true)
    (hk : WO P w0 A ops rest ⟨n, (dst, d.shift hp.length) :: sl, hp ++ rh⟩ K) : WO P w0 A ops (⟨some dst, .call ⟨.value fo, args, tys⟩, ty, pos, after, none⟩ :: rest) ⟨n, sl, hp⟩ K := by
  refine ⟨fun ms a w hr Q hq => ?_⟩
  refine wpList_plain rfl fun Kn hKn => ?_
  obtain ⟨cs, e1, hcs⟩ := (hr.ev_at hf).fn_inv
  have hds := mapK_eq hds
  have hv : VXs ms w (OkB w0.heap.size A ms w) (args.toList.map (evD (look sl)) ++ caps) (args.toList.map a.eval ++ cs) := (VXs.of_map fun x _ => hr.ev x).append hcs
  obtain ⟨l, h1, h2⟩ := argsFK_ok hr hv hds
  simp only [Option.some.injEq] at h2
  subst h2
  refine enter_call (run_call (o := ⟨some dst, .call ⟨.value fo, args, tys⟩, ty, pos, after, none⟩) rfl hF.plain e1) ((hF.calls (Lt w) w _ (fun k hk => hk) h1).mono ?_)
  rintro e w' ⟨v, mr, rfl, hpost⟩
  have hr' := hr.called hF.arrs (Or.inr hdeep) hpost
  have hlen := hr.len
  simp only at hlen
  have hval : VX (ms ++ mr) w' (OkB w0.heap.size A (ms ++ mr) w') (d.shift hp.length) v := noRd_ok (fun i e he => by rw [List.getElem?_append_right (by omega), hlen, Nat.add_sub_cancel_left]; exact he) hpost.val hno
  exact ⟨v, rfl, hKn _ _ (hk.run _ _ w' (Rel.put (t := some dst) hr' hval (dstOk_all (s := ⟨n, _, _⟩) (t := some dst) hd)) Q hq)⟩

/-- append of scalars of another array of the call's own. -/
theorem R_appendOwn {tab : Nat → Option TI} (hT : TabOk P tab) {i k m : Nat} {T T2 t : TypeId} {xs ys : List (List D)} {di dk : Bool} {agg : Bool} {size bytes : Nat} {zero : List Value}
    {k' : TK} {agg' : Bool} {bytes' : Nat} {zero' : List Value} {sl' : List (Nat × D)} {hp' : List Blk} (hx : evD (look sl) x = .own i) (hy : evD (look sl) y = .own k) (hb : hp[i]? = some (.arr T m xs di)) (hc : hp[k]? = some (.arr T2 m ys dk)) (ht : tab t = some ⟨.sl T, agg, size, bytes, zero⟩) (hT' : tab T = some ⟨k', agg', m, bytes', zero'⟩)
    (hz : Nat.beq zero'.length m = true) (hm : Nat.blt 0 m = true) (hby : Nat.ble bytes' 1024 = true) (hd : Nat.blt dst n = true) (hs : killK (isI i) sl (fun l => some l) = some sl') (hh : newK (isI i) noneI i (.arr T m (xs ++ ys) di) 0 hp (fun l => some l) = some hp')
    (hf : Flat ys) (hlen : xs.length + ys.length ≤ 4294967296) (hk : WO P w0 A ops rest ⟨n, (dst, .own i) :: sl', hp'⟩ K) :
    WO P w0 A ops (⟨some dst, .call ⟨.builtin .append, #[x, y], #[t, t]⟩, ty, pos, after, none⟩ :: rest) ⟨n, sl, hp⟩ K := by
  refine ⟨fun ms a w hr Q hq => ?_⟩
  refine wpList_plain rfl fun Kn hKn => ?_
  obtain ⟨e, hi, e1, hsl⟩ := (hr.ev_at hx).own_inv
  obtain ⟨ek, hik, e2, _⟩ := (hr.ev_at hy).own_inv
  obtain ⟨bs, hv, hok⟩ := hr.view hik hc
  obtain ⟨bn, hsrc, hsub⟩ := src_of_vr hv
  have hbn : bn = [] := by
    obtain ⟨_, ⟨_, _, h⟩ | ⟨_, _, news, _, h, _⟩⟩ := hsrc
    · exact h
    · exact VRs.flat (fun d hd => by obtain ⟨r, hr, hd⟩ := List.mem_flatten.1 hd; exact hf r hr d hd) h
  subst hbn
  obtain ⟨v', w', hrun, ms', r1, e', r2, r3, r4⟩ := hr.append hT (p := isI i) (c := noneI) (ty := ty) ht hT' (Nat.eq_of_beq_eq_true hz) (by simpa [Nat.blt_eq] using hm) (Nat.le_of_ble_eq_true hby) hi hb rfl (by simp [isI]) (fun j h => by simp [noneI] at h) hlen hsrc (nk := []) (by simp) (by simp) (d' := di)
    (by cases di with
      | true => exact Or.inl ⟨rfl, rfl, rfl, by simp⟩
      | false => exact Or.inr ⟨rfl, by simp⟩)
  have hs' := killK_eq hs; have hh' := newK_eq hh
  simp only [Option.some.injEq] at hs' hh'
  subst hs'; subst hh'
  refine upon_value (run_append_op (ρ' := a.eval) rfl (by rw [e1, e2]; exact hrun)) (hKn _ _ (hk.run ms' _ w' (Rel.put (t := some dst) r1 (by rw [← r3]; exact VX.own r2 (by rw [r3]; exact r4)) (dstOk_all (s := ⟨n, _, _⟩) (t := some dst) hd)) Q hq))
theorem flat_part {xs : List (List D)} {a b : Nat} (h : Flat xs) : Flat ((xs.take a).drop b) := fun r hr => h r (List.mem_of_mem_take (List.mem_of_mem_drop hr))
/-- append of scalars of a part of another array of the call's own. -/
theorem R_appendPart {tab : Nat → Option TI} (hT : TabOk P tab) {i k m : Nat} {T T2 t : TypeId} {xs zs : List (List D)} {lo hi : Nat} {di dk : Bool} {agg : Bool} {size bytes : Nat} {zero : List Value}
    {k' : TK} {agg' : Bool} {bytes' : Nat} {zero' : List Value} {sl' : List (Nat × D)} {hp' : List Blk} (hx : evD (look sl) x = .own i) (hy : evD (look sl) y = .part k m lo hi) (hb : hp[i]? = some (.arr T m xs di)) (hc : hp[k]? = some (.arr T2 m zs dk)) (ht : tab t = some ⟨.sl T, agg, size, bytes, zero⟩) (hT' : tab T = some ⟨k', agg', m, bytes', zero'⟩)
    (hz : Nat.beq zero'.length m = true) (hm : Nat.blt 0 m = true) (hby : Nat.ble bytes' 1024 = true) (hd : Nat.blt dst n = true) (hs : killK (isI i) sl (fun l => some l) = some sl') (hh : newK (isI i) noneI i (.arr T m (xs ++ (zs.take hi).drop lo) di) 0 hp (fun l => some l) = some hp')
    (hf : Flat ((zs.take hi).drop lo)) (hlen : xs.length + ((zs.take hi).drop lo).length ≤ 4294967296) (hk : WO P w0 A ops rest ⟨n, (dst, .own i) :: sl', hp'⟩ K) :
    WO P w0 A ops (⟨some dst, .call ⟨.builtin .append, #[x, y], #[t, t]⟩, ty, pos, after, none⟩ :: rest) ⟨n, sl, hp⟩ K := by
  refine ⟨fun ms a w hr Q hq => ?_⟩
  refine wpList_plain rfl fun Kn hKn => ?_
  obtain ⟨e, hi, e1, hsl⟩ := (hr.ev_at hx).own_inv
  obtain ⟨ek, av0, n0, c0, hik, ev0, hbd, e2⟩ := (hr.ev_at hy).part_inv
  obtain ⟨bs0, hv0, hok0⟩ := hr.view hik hc
  have hn0 : n0 = zs.length := by
    obtain ⟨_, _, ⟨_, ⟨q1, q2⟩ | ⟨_, _, _, q1, _⟩⟩, _⟩ := hr.ents k _ ek hc hik
    · rw [q1] at ev0; cases ev0; omega
    · rw [q1] at ev0; cases ev0; rfl
  subst hn0
  obtain ⟨a1, m1, c1, f1, f2, f3, bs, hv, hsub0⟩ := hv0.cut hbd.1 hbd.2
  rw [ev0] at f1; cases f1
  rw [← e2] at hv
  have hok := fun k hk => hok0 k (hsub0 k hk)
  obtain ⟨bn, hsrc, hsub⟩ := src_of_vr hv
  have hbn : bn = [] := by
    obtain ⟨_, ⟨_, _, h⟩ | ⟨_, _, news, _, h, _⟩⟩ := hsrc
    · exact h
    · exact VRs.flat (fun d hd => by obtain ⟨r, hr, hd⟩ := List.mem_flatten.1 hd; exact hf r hr d hd) h
  subst hbn
  obtain ⟨v', w', hrun, ms', r1, e', r2, r3, r4⟩ := hr.append hT (p := isI i) (c := noneI) (ty := ty) ht hT' (Nat.eq_of_beq_eq_true hz) (by simpa [Nat.blt_eq] using hm) (Nat.le_of_ble_eq_true hby) hi hb rfl (by simp [isI]) (fun j h => by simp [noneI] at h) hlen hsrc (nk := []) (by simp) (by simp) (d' := di)
    (by cases di with
      | true => exact Or.inl ⟨rfl, rfl, rfl, by simp⟩
      | false => exact Or.inr ⟨rfl, by simp⟩)
  have hs' := killK_eq hs; have hh' := newK_eq hh
  simp only [Option.some.injEq] at hs' hh'
  subst hs'; subst hh'
  refine upon_value (run_append_op (ρ' := a.eval) rfl (by rw [e1]; exact hrun)) (hKn _ _ (hk.run ms' _ w' (Rel.put (t := some dst) r1 (by rw [← r3]; exact VX.own r2 (by rw [r3]; exact r4)) (dstOk_all (s := ⟨n, _, _⟩) (t := some dst) hd)) Q hq))
end
end Go.Proofs.YtcpjhpjlcgcigaaGreatDoor
