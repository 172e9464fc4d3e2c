/- Symbolic states: entering a function, what it hands back; states that tell less. No condition. -/
import Derived.Test.YtidfmgahnmpcdaaAbsH
set_option linter.unusedSimpArgs false
set_option linter.unusedVariables false
namespace Go.Proofs.Ytidfmgahnmpcdaa
open Go.ChangeShapes Go.WideShapes Go.ChangeAt Go.RowKit

/-! ### What is handed back, against what is there at the end -/
mutual
def cv (heap : List Blk) (js : List (Option Nat)) : D → D → Prop
  | .lit v, d => match d with | .lit v' => v = v' | _ => False
  | .nil, d => match d with | .nil => True | .sh _ xs => xs = [] | .own k => js[k]? = some none | _ => False
  | .sh n xs, d => match d with | .sh n' xs' => n = n' ∧ xs = xs' | _ => False
  | .own i, d => match d with | .sh n xs => (∃ t dp, heap[i]? = some (.arr t n xs dp)) ∧ js.contains (some i) = false | .own k => js[k]? = some (some i) | _ => False
  | .agg ds, d => match d with | .agg ds' => cvL heap js ds ds' | _ => False
  | .tup ds, d => match d with | .tup ds' => cvL heap js ds ds' | _ => False
  | _, _ => False
def cvL (heap : List Blk) (js : List (Option Nat)) : List D → List D → Prop
  | [], l => match l with | [] => True | _ :: _ => False
  | d :: ds, l => match l with | d' :: ds' => cv heap js d d' ∧ cvL heap js ds ds' | [] => False
end
def rhOk (heap : List Blk) : List (Option Nat) → List Blk → Prop
  | [], [] => True
  | some i :: js, b :: rh => heap[i]? = some b ∧ b.isArr = true ∧ rhOk heap js rh
  | none :: js, .arr _ _ xs _ :: rh => xs = [] ∧ rhOk heap js rh
  | _, _ => False

def nilEnt : Ent := ⟨.slice none 0 0, none, []⟩
def pickE (ms : List Ent) : Option Nat → Ent
  | some i => (ms[i]?).getD nilEnt
  | none => nilEnt

section
variable {P : Program} {w0 w : World} {A : Nat → Prop} {s : St} {ms : List Ent} {a : Act}

theorem owned_disjoint (h : (owned ms).Nodup) {i j : Nat} {e e' : Ent} (hij : i ≠ j) (hi : ms[i]? = some e) (hj : ms[j]? = some e') {k : Nat} (hk : k ∈ e.top.toList ++ e.nest) (hk' : k ∈ e'.top.toList ++ e'.nest) : False := by
  unfold owned at h
  rw [List.nodup_iff_pairwise_ne, List.pairwise_flatMap] at h
  obtain ⟨_, hp⟩ := h
  have hi' := List.getElem?_eq_some_iff.1 hi; have hj' := List.getElem?_eq_some_iff.1 hj
  rw [List.pairwise_iff_getElem] at hp
  rcases Nat.lt_or_gt_of_ne hij with hl | hl
  · exact hp i j hi'.1 hj'.1 hl k (by rw [hi'.2]; exact hk) k (by rw [hj'.2]; exact hk') rfl
  · exact hp j i hj'.1 hi'.1 hl k (by rw [hj'.2]; exact hk') k (by rw [hi'.2]; exact hk) rfl
theorem owned_self (h : (owned ms).Nodup) {i : Nat} {e : Ent} (hi : ms[i]? = some e) : (e.top.toList ++ e.nest).Nodup := by
  unfold owned at h
  rw [List.nodup_iff_pairwise_ne, List.pairwise_flatMap] at h
  exact List.nodup_iff_pairwise_ne.2 (h.1 e (List.mem_of_getElem? hi))

theorem mem_pick {js : List (Option Nat)} {k : Nat} (h : k ∈ owned (js.map (pickE ms))) : ∃ i e, some i ∈ js ∧ ms[i]? = some e ∧ k ∈ e.top.toList ++ e.nest := by
  simp only [owned, List.mem_flatMap, List.mem_map] at h
  obtain ⟨e, ⟨j, hj, rfl⟩, hk⟩ := h
  cases j with
  | none => simp [pickE, nilEnt] at hk
  | some i =>
    cases hi : ms[i]? with
    | none => simp [pickE, hi, nilEnt] at hk
    | some e => simp only [pickE, hi, Option.getD_some] at hk; exact ⟨i, e, hj, hi, hk⟩

theorem pick_nodup (h : (owned ms).Nodup) : ∀ {js : List (Option Nat)}, (js.filterMap id).Nodup → (owned (js.map (pickE ms))).Nodup
  | [], _ => by simp [owned]
  | none :: js, hj => by
    have := pick_nodup h (js := js) (by simpa using hj)
    simpa [owned, pickE, nilEnt] using this
  | some i :: js, hj => by
    simp only [List.filterMap_cons, id, List.nodup_cons] at hj
    have ih := pick_nodup h hj.2
    cases hi : ms[i]? with
    | none => simpa [owned, pickE, nilEnt, hi] using ih
    | some e =>
      have e1 : owned ((some i :: js).map (pickE ms)) = (e.top.toList ++ e.nest) ++ owned (js.map (pickE ms)) := by simp [owned, pickE, hi]
      rw [e1]
      refine List.nodup_append.2 ⟨owned_self h hi, ih, fun p hp q hq e2 => ?_⟩
      subst e2
      obtain ⟨i', e', h1, h2, h3⟩ := mem_pick hq
      refine owned_disjoint h (fun e3 => ?_) hi h2 hp h3
      subst e3
      exact hj.1 (List.mem_filterMap.2 ⟨some i, h1, rfl⟩)

theorem pick_ok {js : List (Option Nat)} {k : Nat} (h : OkB w0.heap.size A ms w k) : OkB w0.heap.size A (js.map (pickE ms)) w k := by
  obtain ⟨h1, h2, h3⟩ := h
  refine ⟨h1, h2, fun h4 => h3 ?_⟩
  simp only [tops, List.mem_filterMap, List.mem_map] at h4 ⊢
  obtain ⟨e, ⟨j, _, rfl⟩, hk⟩ := h4
  cases j with
  | none => simp [pickE, nilEnt] at hk
  | some i =>
    cases hi : ms[i]? with
    | none => simp [pickE, hi, nilEnt] at hk
    | some e => simp only [pickE, hi, Option.getD_some] at hk; exact ⟨e, List.mem_of_getElem? hi, hk⟩

theorem rhOk_len : ∀ {heap : List Blk} {js : List (Option Nat)} {rh : List Blk}, rhOk heap js rh → js.length = rh.length
  | _, [], [], _ => rfl
  | _, [], _ :: _, h => by simp [rhOk] at h
  | _, some i :: js, [], h => by simp [rhOk] at h
  | _, none :: js, [], h => by simp [rhOk] at h
  | _, some i :: js, b :: rh, h => by simp only [rhOk] at h; simp [rhOk_len h.2.2]
  | _, none :: js, .arr _ _ _ _ :: rh, h => by simp only [rhOk] at h; simp [rhOk_len h.2]
  | _, none :: js, .gone :: rh, h => by simp [rhOk] at h
  | _, none :: js, .cust _ :: rh, h => by simp [rhOk] at h
  | _, none :: js, .cells _ _ :: rh, h => by simp [rhOk] at h
theorem rhOk_get : ∀ {heap : List Blk} {js : List (Option Nat)} {rh : List Blk}, rhOk heap js rh → ∀ {k : Nat} {b : Blk}, rh[k]? = some b → (∃ i, js[k]? = some (some i) ∧ heap[i]? = some b ∧ b.isArr = true) ∨ (js[k]? = some none ∧ ∃ t n dp, b = .arr t n [] dp)
  | _, [], [], _, k, b, hk => by simp at hk
  | _, [], _ :: _, h, _, _, _ => by simp [rhOk] at h
  | _, some i :: js, [], h, _, _, _ => by simp [rhOk] at h
  | _, none :: js, [], h, _, _, _ => by simp [rhOk] at h
  | _, none :: js, .gone :: rh, h, _, _, _ => by simp [rhOk] at h
  | _, none :: js, .cust _ :: rh, h, _, _, _ => by simp [rhOk] at h
  | _, none :: js, .cells _ _ :: rh, h, _, _, _ => by simp [rhOk] at h
  | _, some i :: js, b :: rh, h, 0, b', hk => by
    simp only [rhOk] at h; simp at hk; subst hk
    exact Or.inl ⟨i, by simp, h.1, h.2.1⟩
  | _, some i :: js, b :: rh, h, k + 1, b', hk => by
    simp only [rhOk] at h; simp at hk
    simpa using rhOk_get h.2.2 hk
  | _, none :: js, .arr t n xs dp :: rh, h, 0, b', hk => by
    simp only [rhOk] at h; simp at hk; subst hk
    exact Or.inr ⟨by simp, t, n, dp, by rw [h.1]⟩
  | _, none :: js, .arr t n xs dp :: rh, h, k + 1, b', hk => by
    simp only [rhOk] at h; simp at hk
    simpa using rhOk_get h.2 hk

/-- The slice of an entry, as one that is read alone. -/
theorem Rel.view (hr : Rel w0 A ms s a w) {i : Nat} {e : Ent} {t : TypeId} {n : Nat} {xs : List (List D)} {dp : Bool} (hi : ms[i]? = some e) (hb : s.heap[i]? = some (.arr t n xs dp)) : ∃ bs, VR w (.sh n xs) e.v bs ∧ ∀ k ∈ bs, k < w.heap.size ∧ (w0.heap.size ≤ k ∨ A k) ∧ (k ∈ tops ms → e.top = some k) := by
  obtain ⟨us, bs, h1, h2, h3, h4, h5⟩ := hr.ents i _ e hb hi
  have hnest : ∀ k ∈ bs, k < w.heap.size ∧ (w0.heap.size ≤ k ∨ A k) ∧ k ∉ tops ms := by
    intro k hk
    cases dp with
    | false => exact h5.2 k hk
    | true =>
      have hk' : k ∈ e.nest := by rw [h5.1]; exact hk
      have ho := hr.range k (ent_owned hi (List.mem_append_right _ hk'))
      refine ⟨ho.2, Or.inl ho.1, fun ht => ?_⟩
      simp only [tops, List.mem_filterMap] at ht
      obtain ⟨e', he', ht⟩ := ht
      obtain ⟨j, hj, he'⟩ := List.getElem_of_mem he'
      have hj' : ms[j]? = some e' := by rw [List.getElem?_eq_getElem hj, he']
      by_cases hij : j = i
      · subst hij
        rw [hi] at hj'; cases hj'
        have := owned_self hr.nodup hi
        rw [ht] at this
        simp at this
        exact this.1 hk'
      · exact owned_disjoint hr.nodup hij hj' hi (by simp [ht]) (List.mem_append_right _ hk')
  obtain ⟨hlen, ⟨hv, h0⟩ | ⟨g, cap, cur, hv, hg, hh, c1, c2, c3, c4⟩⟩ := h1
  · have : xs = [] := List.length_eq_zero_iff.1 h0
    subst this
    exact ⟨[], by rw [hv]; exact .shnil (by omega) (fun _ => rfl), by simp⟩
  · refine ⟨g :: bs, ?_, ?_⟩
    · rw [hv]
      unfold maxLen at c2
      refine .sh h2 c1 (by omega) (Array.getElem?_eq_some_iff.1 hh).1 h3 ?_
      intro j hj
      have : us[j]? = cur[j]? := by
        rw [← c4, List.getElem?_take, if_pos (by omega), Array.getElem?_toList]
      rw [this, Nat.zero_add]
      simp [World.cell?, hh]
    · intro k hk
      rcases List.mem_cons.1 hk with rfl | hk
      · have ht : e.top = some k := by rw [h4, hv]; rfl
        exact ⟨(hr.range k (ent_owned hi (by simp [ht]))).2, Or.inl hg, fun _ => ht⟩
      · exact ⟨(hnest k hk).1, (hnest k hk).2.1, fun h => ((hnest k hk).2.2 h).elim⟩

mutual
theorem cv_ok (hr : Rel w0 A ms s a w) {js : List (Option Nat)} : ∀ {d d' : D} {v : Value}, VX ms w (OkB w0.heap.size A ms w) d v → cv s.heap js d d' → VX (js.map (pickE ms)) w (OkB w0.heap.size A (js.map (pickE ms)) w) d' v
  | .no, _, _, _, h => by simp [cv] at h
  | .vec _ _, _, _, _, h => by simp [cv] at h
  | .ptr _ _, _, _, _, h => by simp [cv] at h
  | .eptr _ _ _ _, _, _, _, h => by simp [cv] at h
  | .sptr _, _, _, _, h => by simp [cv] at h
  | .fn _ _, _, _, _, h => by simp [cv] at h
  | .old _ _ _, _, _, _, h => by simp [cv] at h
  | .val _, _, _, _, h => by simp [cv] at h
  | .lit v0, d', v, hv, h => by
    cases d' <;> simp only [cv] at h
    subst h
    exact VX.mono (fun k hk => ⟨rfl, pick_ok hk⟩) hv fun i e hu _ => by simp [D.uses] at hu
  | .sh n xs, d', v, hv, h => by
    cases d' <;> simp only [cv] at h
    obtain ⟨rfl, rfl⟩ := h
    exact VX.mono (fun k hk => ⟨rfl, pick_ok hk⟩) hv fun i e hu _ => by simp [D.uses] at hu
  | .nil, d', v, hv, h => by
    have e := hv.nil_inv
    subst e
    cases d' <;> simp only [cv] at h
    · exact .rd .nil (by simp)
    · subst h; exact .rd (.shnil (by omega) fun _ => rfl) (by simp)
    · rename_i k
      have : (js.map (pickE ms))[k]? = some nilEnt := by rw [List.getElem?_map, h]; rfl
      exact VX.own this ⟨none, 0, 0, rfl⟩
  | .own i, d', v, hv, h => by
    obtain ⟨e, hi, rfl, hsl⟩ := hv.own_inv
    cases d' <;> simp only [cv] at h
    · obtain ⟨⟨t, dp, hb⟩, hc⟩ := h
      obtain ⟨bs, h1, h2⟩ := hr.view hi hb
      refine .rd h1 fun k hk => ⟨(h2 k hk).1, (h2 k hk).2.1, fun ht => ?_⟩
      simp only [tops, List.mem_filterMap, List.mem_map] at ht
      obtain ⟨e', ⟨j, hj, rfl⟩, ht⟩ := ht
      cases j with
      | none => simp [pickE, nilEnt] at ht
      | some i' =>
        cases hi' : ms[i']? with
        | none => simp [pickE, hi', nilEnt] at ht
        | some e' =>
          simp only [pickE, hi', Option.getD_some] at ht
          have hne : i ≠ i' := by
            rintro rfl
            have := List.contains_iff_mem.2 hj
            rw [hc] at this; exact Bool.noConfusion this
          have htop := (h2 k hk).2.2 (by simp only [tops, List.mem_filterMap]; exact ⟨e', List.mem_of_getElem? hi', ht⟩)
          exact owned_disjoint hr.nodup hne hi hi' (k := k) (by simp [htop]) (by simp [ht])
    · rename_i k
      have : (js.map (pickE ms))[k]? = some e := by rw [List.getElem?_map, h]; simp [pickE, hi]
      exact VX.own this hsl
  | .agg ds, d', v, hv, h => by
    obtain ⟨us, rfl, h2⟩ := hv.agg_inv
    cases d' <;> simp only [cv] at h
    exact .agg (cvL_ok hr h2 h)
  | .tup ds, d', v, hv, h => by
    obtain ⟨us, rfl, h2⟩ := hv.tup_inv
    cases d' <;> simp only [cv] at h
    exact .tup (cvL_ok hr h2 h)
theorem cvL_ok (hr : Rel w0 A ms s a w) {js : List (Option Nat)} : ∀ {ds ds' : List D} {us : List Value}, VXs ms w (OkB w0.heap.size A ms w) ds us → cvL s.heap js ds ds' → VXs (js.map (pickE ms)) w (OkB w0.heap.size A (js.map (pickE ms)) w) ds' us
  | [], l, us, hv, h => by
    cases l <;> simp only [cvL] at h
    cases hv; exact .nil
  | d :: ds, l, us, hv, h => by
    cases l with
    | nil => simp only [cvL] at h
    | cons d' ds' =>
      simp only [cvL] at h
      cases hv with
      | cons hv hvs => exact .cons (cv_ok hr hv h.1) (cvL_ok hr hvs h.2)
end

theorem Rel.post (hr : Rel w0 A ms s a w) {js : List (Option Nat)} {rh : List Blk} {d d' : D} {v : Value} (hrh : rhOk s.heap js rh) (hjs : (js.filterMap id).Nodup) (hv : VX ms w (OkB w0.heap.size A ms w) d v) (hc : cv s.heap js d d') : Post w0 A d' rh (js.map (pickE ms)) v w := by
  refine ⟨hr.ext, by simp [rhOk_len hrh], pick_nodup hr.nodup hjs, ?_, ?_, cv_ok hr hv hc⟩
  · intro k hk
    obtain ⟨i, e, _, h2, h3⟩ := mem_pick hk
    exact hr.range k (ent_owned h2 h3)
  · intro k b e hb he
    rcases rhOk_get hrh hb with ⟨i, h1, h2, h3⟩ | ⟨h1, t, n, dp, rfl⟩
    · rw [List.getElem?_map, h1] at he
      have hlt : i < ms.length := by rw [hr.len]; exact (List.getElem?_eq_some_iff.1 h2).1
      have hi : ms[i]? = some ms[i] := List.getElem?_eq_getElem hlt
      simp only [Option.map_some, pickE, hi, Option.getD_some, Option.some.injEq] at he
      subst he
      have hE := hr.ents i b _ h2 hi
      refine hE.mono (fun k hk => ⟨rfl, pick_ok hk⟩) (fun _ _ => rfl) (fun _ _ => rfl) fun j e hu _ => ?_
      cases b <;> simp [Blk.isArr] at h3 <;> simp [Blk.uses] at hu
    · rw [List.getElem?_map, h1] at he
      simp only [Option.map_some, pickE, Option.some.injEq] at he
      subst he
      refine ⟨[], [], World.ownsRow_nil _ _ _ _, by simp, .nil, rfl, ?_⟩
      cases dp <;> simp [nilEnt]

/-! ### A function -/
def argSlots : Nat → List D → List (Nat × D)
  | _, [] => []
  | i, d :: ds => (i, d) :: argSlots (i + 1) ds
def retD (s : St) : List ResultVar → Option D
  | [] => some (.tup [])
  | [.tmp t] => forceK (s.get t) some
  | [.tmp t, .tmp u] => forceK (s.get t) fun d => forceK (s.get u) fun d' => some (.tup [d, d'])
  | [.tmp t, .tmp u, .tmp x] => forceK (s.get t) fun d => forceK (s.get u) fun d' => forceK (s.get x) fun d'' => some (.tup [d, d', d''])
  | _ => none
def RetS (rs : Array ResultVar) (d : D) (rh : List Blk) (s : St) : Prop := ∃ dd js, retD s rs.toList = some dd ∧ cv s.heap js dd d ∧ rhOk s.heap js rh ∧ (js.filterMap id).Nodup
inductive retQ (rs : Array ResultVar) (d : D) (rh : List Blk) : Exit → St → Prop
  | r {s : St} : RetS rs d rh s → retQ rs d rh .ret s
  | n {s : St} : RetS rs d rh s → retQ rs d rh .normal s

theorem results_ok {fn : Func} {dd : D} (h : retD s fn.results.toList = some dd) (hr : Rel w0 A ms s a w) : ∃ v, (results fn a.tmps).run P w = .ok v w ∧ VX ms w (OkB w0.heap.size A ms w) dd v := by
  have e : ∀ l, fn.results.toList = l → fn.results = l.toArray := fun l h => by rw [← h]
  unfold retD at h
  split at h
  · rename_i hl
    simp only [Option.some.injEq] at h; subst h
    exact ⟨.tuple #[], by simp [results, e _ hl], .tup (us := []) .nil⟩
  · rename_i t hl
    have h := forceK_eq h
    simp only [Option.some.injEq] at h; subst h
    exact ⟨_, by simp [results, e _ hl], hr.slots t⟩
  · rename_i t u hl
    have h := forceK_eq (forceK_eq h)
    simp only [Option.some.injEq] at h; subst h
    exact ⟨.tuple [a.tmps.getD t undef, a.tmps.getD u undef].toArray, by simp [results, e _ hl], .tup (.cons (hr.slots t) (.cons (hr.slots u) .nil))⟩
  · rename_i t u x hl
    have h := forceK_eq (forceK_eq (forceK_eq h))
    simp only [Option.some.injEq] at h; subst h
    exact ⟨.tuple [a.tmps.getD t undef, a.tmps.getD u undef, a.tmps.getD x undef].toArray, by simp [results, e _ hl], .tup (.cons (hr.slots t) (.cons (hr.slots u) (.cons (hr.slots x) .nil)))⟩
  · simp at h

theorem look_arg {Ok : Nat → Prop} (r : List Value) : ∀ {ds : List D} {us : List Value}, VXs [] w Ok ds us → ∀ (i t : Nat) (u : Value), (i ≤ t → u = (us ++ r).getD (t - i) undef) → VX [] w Ok (look (argSlots i ds) t) u
  | _, _, .nil, _, _, _, _ => .no
  | _, _, .cons hd hs, i, t, u, hu => by
    simp only [argSlots, look]
    split
    · rename_i e
      subst e
      rw [hu (Nat.le_refl _), Nat.sub_self]; exact hd
    · rename_i e
      refine look_arg r hs (i + 1) t u fun h => ?_
      rw [hu (by omega), show t - i = (t - (i + 1)) + 1 by omega]; rfl

/-- The values that a function is called with. -/
def Given (w : World) (A : Nat → Prop) (ds : List D) : Prop := ∃ us, VXs [] w A ds us

theorem Fn_of {f : FuncId} {fn : Func} {c : Code} {ds : List D} {d : D} {rh : List Blk} (hf : P.funcs[f]? = some fn) (hb : fn.body = some c) (hname : (fn.name == "runtime.NumGoroutine") = false) (hn : Nat.ble ds.length fn.ntmps = true) (hrh : rh.all Blk.isArr = true)
    (h : ∀ w0 A, Given w0 A ds → W P w0 A c ⟨fn.ntmps, argSlots 0 ds, []⟩ (retQ fn.results d rh)) : Fn P f ds d rh := by
  refine ⟨?_, hrh, ?_⟩
  · intro args w
    have h1 : ¬ fn.name = "runtime.NumGoroutine" := by simpa using hname
    have h2 : ¬ fn.body = none := by rw [hb]; simp
    simp [callFunc, program, Sem.run, go_sem, hf, h1, h2]
  · intro A w us hA hus
    have hl := hus.len
    have hn' : ds.length ≤ fn.ntmps := Nat.le_of_ble_eq_true hn
    refine calls_of_wp hf hb (Code.wp_mono ?_ ((h w A ⟨us, hus⟩).run [] { tmps := us.toArray ++ Array.replicate (fn.ntmps - us.toArray.size) undef, defers := [] } w ?_))
    · rintro e a' w' ⟨ms, s, hr, hq⟩
      have key : RetS fn.results d rh s → a'.defers = [] ∧ ∃ v, (results fn a'.tmps).run P w' = .ok v w' ∧ ∃ v' ms, Ending.returned v = .returned v' ∧ Post w A d rh ms v' w' := by
        rintro ⟨dd, js, h1, h2, h3, h4⟩
        obtain ⟨v, h5, h6⟩ := results_ok (P := P) h1 hr
        exact ⟨hr.defers, v, h5, v, _, rfl, hr.post h3 h4 h6 h2⟩
      cases hq with
      | r h => exact key h
      | n h => exact key h
    · refine ⟨Ext.refl _, hA, by simp; omega, rfl, rfl, by simp [owned], by simp [owned], by simp, fun t => ?_⟩
      refine look_arg (List.replicate (fn.ntmps - us.length) undef) (VXs.mono (ms' := []) (w' := w) (Ok' := OkB w.heap.size A [] w) (fun k hk => ⟨rfl, hA k hk, Or.inr hk, by simp [tops]⟩) hus fun _ _ _ h => h) 0 t _ fun _ => ?_
      have e : (us.toArray ++ Array.replicate (fn.ntmps - us.toArray.size) undef) = (us ++ List.replicate (fn.ntmps - us.length) undef).toArray := by
        rw [← List.append_toArray, List.size_toArray, List.toArray_replicate]
      rw [e]; simp [Array.getD_eq_getD_getElem?, List.getD_eq_getElem?_getD]
end
end Go.Proofs.Ytidfmgahnmpcdaa
