/- Library functions that change an array of numbers of the call's own, in its place. No condition. -/
import Derived.Test.YtcbfpeplcbgpjaaMv
import Derived.Test.YtcbfpeplcbgpjaaNet
import Derived.Sort.Grow
set_option linter.unusedSimpArgs false
set_option linter.unusedVariables false
namespace Go.Proofs.Ytcbfpeplcbgpjaa
open Go.ChangeShapes Go.WideShapes Go.ChangeAt Go.RowKit

/-- f, called with a slice of the numbers l, leaves l' in its cells; it hands back nothing, or the slice cut. -/
structure InpI (P : Program) (f : FuncId) (l l' : List Int) (cut : Option Nat) : Prop where
  plain : ∀ args w, (callFunc f args).run P w = .ok (.enter f args) w
  len : l'.length = l.length
  le : ∀ c, cut = some c → c ≤ l.length
  mem : ∀ x ∈ l', x = 0 ∨ x ∈ l
  calls : ∀ (w : World) (g cap : Nat), g < w.heap.size → Go.Sort.Holds (Value.int .i64) w g 0 l.toArray → l.length ≤ cap → cap ≤ maxLen →
    Calls P f #[.slice (some ⟨g, 0, none⟩) l.length cap] w fun e w' => e = .returned (match cut with | some c => .slice (some ⟨g, 0, none⟩) c cap | none => .tuple #[]) ∧ ∃ q os, w' = Go.Sort.grow (Go.Sort.putRow (Value.int .i64) (Go.Sort.ahead w q) g 0 l'.toArray) os
  none : l = [] → ∀ w, Calls P f #[.slice none 0 0] w fun e w' => e = .returned (match cut with | some _ => .slice none 0 0 | none => .tuple #[]) ∧ w' = w

theorem litV_inv {w : World} : ∀ {us vs : List Value} {bs : List Nat}, VRs w (us.map D.lit) vs bs → vs = us
  | [], _, _, .nil => rfl
  | _ :: _, _, _, .cons h h' => by
    cases h with
    | lit _ => rw [litV_inv h']
theorem ints_lits (l : List Int) : (ints l).flatten = (l.map (Value.int .i64)).map D.lit := by
  induction l with
  | nil => rfl
  | cons x l ih => simp only [ints, List.map_cons, List.flatten_cons, List.cons_append, List.nil_append] at ih ⊢; rw [ih]
theorem ints_wf {w : World} : ∀ {l : List Int} {us : List Value} {bs : List Nat}, VRs w (ints l).flatten us bs → ∀ x ∈ l, -9223372036854775808 ≤ x ∧ x ≤ 9223372036854775807
  | [], _, _, _, x, hx => by simp at hx
  | y :: l, _, _, h, x, hx => by
    simp only [ints, List.map_cons, List.flatten_cons, List.cons_append, List.nil_append] at h
    cases h with
    | cons h1 h2 =>
      rcases List.mem_cons.1 hx with rfl | hx
      · cases h1 with
        | lit h3 => exact litOk_i64.1 h3
      · exact ints_wf (l := l) h2 x hx
theorem ints_vrs (w : World) : ∀ l : List Int, (∀ x ∈ l, -9223372036854775808 ≤ x ∧ x ≤ 9223372036854775807) → VRs w (ints l).flatten (l.map (Value.int .i64)) []
  | [], _ => .nil
  | x :: l, h => VRs.cons (bs := []) (.lit (litOk_i64.2 (h x (by simp)))) (ints_vrs w l fun y hy => h y (List.mem_cons_of_mem _ hy))
theorem ints_rows (l : List Int) : ∀ r ∈ ints l, r.length = 1 := by
  intro r hr; obtain ⟨x, _, rfl⟩ := List.mem_map.1 hr; rfl

section
variable {P : Program} {w0 w w' : World} {A : Nat → Prop} {n : Nat} {sl : List (Nat × D)} {hp : List Blk} {ms : List Ent} {a : Act} {i : Nat} {e : Ent}

/-- Where the numbers of an array of the call's own lie. -/
theorem own_ints (hr : Rel w0 A ms ⟨n, sl, hp⟩ a w) {T : TypeId} {l : List Int} (hi : ms[i]? = some e) (hb : hp[i]? = some (.arr T 1 (ints l) true)) :
    (e.v = .slice none 0 0 ∧ l = []) ∨ ∃ g cap cur, e.v = .slice (some ⟨g, 0, none⟩) l.length cap ∧ w0.heap.size ≤ g ∧ w.heap[g]? = some (.cells cur T (0, 0)) ∧ l.length ≤ cap ∧ cap ≤ maxLen ∧ cur.size = cap ∧ cur.toList.take l.length = l.map (Value.int .i64) ∧ e.top = some g ∧ e.nest = [] ∧ ∀ x ∈ l, -9223372036854775808 ≤ x ∧ x ≤ 9223372036854775807 := by
  have hne := flat_nest hr hi hb (flat_ints l)
  obtain ⟨us, bs, o1, o2, o3, o4, o5⟩ := hr.ents i _ e hb hi
  have hus := litV_inv (by rw [← ints_lits]; exact o3)
  subst hus
  have hwf := ints_wf o3
  rw [len_ints] at o1
  obtain ⟨_, ⟨hv, h0⟩ | ⟨g, cap, cur, hv, hg, hh, c1, c2, c3, c4⟩⟩ := o1
  · left; exact ⟨hv, List.length_eq_zero_iff.1 h0⟩
  · right
    rw [Nat.mul_one] at c3 c4
    exact ⟨g, cap, cur, hv, hg, hh, c1, c2, c3, c4, by rw [o4, hv]; rfl, hne, hwf⟩
theorem holds_of {g : Nat} {cur : Array Value} {T : TypeId} {l : List Int} (hh : w.heap[g]? = some (.cells cur T (0, 0))) (hc : cur.toList.take l.length = l.map (Value.int .i64)) : Go.Sort.Holds (Value.int .i64) w g 0 l.toArray := by
  intro j hj
  rw [List.size_toArray] at hj
  have h1 : (cur.toList.take l.length)[j]? = some (Value.int .i64 (l[j]'hj)) := by rw [hc]; simp [hj]
  rw [List.getElem?_take, if_pos hj, Array.getElem?_toList] at h1
  refine ⟨?_, ?_⟩
  · simp only [World.cell?, Nat.zero_add, hh, h1]
    simp [hj]
  · simp [World.frozen?, hh]
/-- What is left of the world. -/
theorem put_heap {g : Nat} {cur : Array Value} {T : TypeId} {l' : List Int} {q : Nat} {os : Array Obj} (hh : w.heap[g]? = some (.cells cur T (0, 0))) (hl : l'.length ≤ cur.size) :
    let w' := Go.Sort.grow (Go.Sort.putRow (Value.int .i64) (Go.Sort.ahead w q) g 0 l'.toArray) os
    w.heap.size ≤ w'.heap.size ∧ w'.os = w.os ∧ w'.tape = w.tape ∧ w'.output = w.output ∧ (∀ k, k < w.heap.size → k ≠ g → w'.heap[k]? = w.heap[k]?) ∧ ∃ cur' : Array Value, w'.heap[g]? = some (.cells cur' T (0, 0)) ∧ cur'.size = cur.size ∧ cur'.toList.take l'.length = l'.map (Value.int .i64) := by
  have hg : g < w.heap.size := (Array.getElem?_eq_some_iff.1 hh).1
  have hsz : (Go.Sort.putRow (Value.int .i64) (Go.Sort.ahead w q) g 0 l'.toArray).heap.size = w.heap.size := by rw [Go.Sort.size_putRow]; rfl
  refine ⟨by simp only [Go.Sort.size_grow, hsz]; omega, rfl, rfl, rfl, fun k hk hkg => ?_, Go.Sort.putCells (Value.int .i64) 0 l'.toArray cur, ?_, by simp [Go.Sort.putCells], ?_⟩
  · rw [Go.Sort.heap_grow_old _ _ (by rw [hsz]; exact hk)]
    simp only [Go.Sort.putRow, Go.Sort.mapBlock, Array.getElem?_modify, if_neg (Ne.symm hkg)]; rfl
  · rw [Go.Sort.heap_grow_old _ _ (by rw [hsz]; exact hg)]
    simp only [Go.Sort.putRow, Go.Sort.mapBlock, Array.getElem?_modify, if_true]
    have : (Go.Sort.ahead w q).heap[g]? = some (.cells cur T (0, 0)) := hh
    rw [this]; rfl
  · apply List.ext_getElem?
    intro j
    rw [List.getElem?_take]
    by_cases hj : j < l'.length
    · rw [if_pos hj, Array.getElem?_toList]
      simp only [Go.Sort.putCells, Array.getElem?_mapIdx]
      rw [Array.getElem?_eq_getElem (show j < cur.size by omega), Option.map_some, if_pos ⟨by omega, by simpa using hj⟩]
      simp [hj]
    · rw [if_neg hj, List.getElem?_eq_none (by simp; omega)]

theorem Rel.inp (hr : Rel w0 A ms ⟨n, sl, hp⟩ a w) {T : TypeId} {l l' : List Int} {g cap q : Nat} {cur : Array Value} {os : Array Obj} (hi : ms[i]? = some e) (hb : hp[i]? = some (.arr T 1 (ints l) true)) (hv : e.v = .slice (some ⟨g, 0, none⟩) l.length cap) (hg0 : w0.heap.size ≤ g) (hh : w.heap[g]? = some (.cells cur T (0, 0)))
    (c1 : l.length ≤ cap) (c2 : cap ≤ maxLen) (c3 : cur.size = cap) (ht : e.top = some g) (hne : e.nest = []) (hwf : ∀ x ∈ l', -9223372036854775808 ≤ x ∧ x ≤ 9223372036854775807) (hl : l'.length = l.length) (hw : w' = Go.Sort.grow (Go.Sort.putRow (Value.int .i64) (Go.Sort.ahead w q) g 0 l'.toArray) os) :
    Rel w0 A ms ⟨n, sl, hp.set i (.arr T 1 (ints l') true)⟩ a w' := by
  obtain ⟨p1, p2, p3, p4, p5, cur', p6, p7, p8⟩ := put_heap (w := w) (q := q) (os := os) (l' := l') hh (by omega)
  rw [← hw] at p1 p2 p3 p4 p5 p6
  have hgl : g < w.heap.size := (Array.getElem?_eq_some_iff.1 hh).1
  have hcs := cutW_size p1
  have hch : ∀ k, (cutW w' w.heap.size).heap[k]? = if k < w.heap.size then w'.heap[k]? else none := by
    intro k
    simp only [cutW, Array.getElem?_extract, Nat.sub_zero, Nat.zero_add]
    by_cases hk : k < w.heap.size
    · rw [if_pos (by omega), if_pos hk]
    · rw [if_neg (by omega), if_neg hk]
  have hgk : ∀ k, k ≠ g → (cutW w' w.heap.size).heap[k]? = w.heap[k]? := by
    intro k hk
    rw [hch]
    split
    · rename_i h; exact p5 k h hk
    · rw [Array.getElem?_eq_none (by omega)]
  have h1 : Rel w0 A ms ⟨n, sl, hp.set i (.arr T 1 (ints l') true)⟩ a (cutW w' w.heap.size) := by
    refine hr.change hi ht hgk hcs ⟨p2, p3, p4, by omega, fun k hk => hgk k (by omega)⟩ fun _ _ => ?_
    refine ⟨l'.map (Value.int .i64), [], ⟨by simp [len_ints], Or.inr ⟨g, cap, cur', by rw [hv, len_ints, hl], hg0, by rw [hch, if_pos hgl]; exact p6, by rw [len_ints]; omega, c2, by omega, ?_⟩⟩, ints_rows l', ints_vrs _ l' hwf, by rw [ht, hv]; rfl, by rw [if_pos rfl]; exact ⟨hne, by simp⟩⟩
    rw [Nat.mul_one, len_ints]; exact p8
  exact h1.later (cutW_ext p1)

variable {ops : Array Oper} {rest : List Oper} {K : St → Prop} {dst : Tmp} {ty : TypeId} {pos : String} {after : Array Edge} {hp2 : List Blk}
/-- The call, its array the same slice still. -/
theorem inp_run {f : FuncId} {fo x0 : Operand} {tys : Array TypeId} {l l' : List Int} {T : TypeId} {dsto : Option Tmp} (hr : Rel w0 A ms ⟨n, sl, hp⟩ a w) (hf : evD (look sl) fo = .fn f []) (hF : InpI P f l l' none) (hx : evD (look sl) x0 = .own i) (hb : hp[i]? = some (.arr T 1 (ints l) true)) {Kn : Act → World → Prop} {Q' : Exit → Act → World → Prop}
    (hk : ∀ w', Rel w0 A ms ⟨n, sl, hp.set i (.arr T 1 (ints l') true)⟩ a w' → Kn (a.put dsto (.tuple #[])) w') : (⟨dsto, .call ⟨.value fo, #[x0], tys⟩, ty, pos, after, none⟩ : Oper).wp P a w Kn Q' := by
  obtain ⟨e, hi, ev, hsl⟩ := (hr.ev_at hx).own_inv
  obtain ⟨cs, e1, hcs⟩ := (hr.ev_at hf).fn_inv
  cases hcs
  refine enter_call (run_call (o := ⟨dsto, .call ⟨.value fo, #[x0], tys⟩, ty, pos, after, none⟩) rfl hF.plain e1) ?_
  simp only [List.map_cons, List.map_nil, List.append_nil, ev]
  rcases own_ints hr hi hb with ⟨hv, hl0⟩ | ⟨g, cap, cur, hv, hg0, hh, c1, c2, c3, c4, ht, hne, hwf⟩
  · rw [hv]
    refine (hF.none hl0 w).mono ?_
    rintro e' w' ⟨rfl, rfl⟩
    have hl' : l' = [] := List.length_eq_zero_iff.1 (by rw [hF.len, hl0]; rfl)
    refine ⟨_, rfl, hk _ ?_⟩
    have e2 : hp.set i (.arr T 1 (ints l') true) = hp := by
      rw [hl', ← hl0]
      refine List.ext_getElem? fun q => ?_
      by_cases hq2 : q = i
      · subst hq2
        rw [List.getElem?_set_self (List.getElem?_eq_some_iff.1 hb).1, hb]
      · rw [List.getElem?_set_ne (Ne.symm hq2)]
    rw [e2]; exact hr
  · rw [hv]
    refine (hF.calls w g cap (Array.getElem?_eq_some_iff.1 hh).1 (holds_of hh c4) c1 c2).mono ?_
    rintro e' w' ⟨rfl, q, os, hw⟩
    exact ⟨_, rfl, hk _ (hr.inp hi hb hv hg0 hh c1 c2 c3 ht hne (fun x hx => by
      rcases hF.mem x hx with rfl | h
      · omega
      · exact hwf x h) hF.len hw)⟩
theorem R_inpS {f : FuncId} {fo x0 : Operand} {tys : Array TypeId} {l l' : List Int} {T : TypeId} (hf : evD (look sl) fo = .fn f []) (hF : InpI P f l l' none) (hx : evD (look sl) x0 = .own i) (hb : hp[i]? = some (.arr T 1 (ints l) true)) (hd : Nat.blt dst n = true) (hh : setK i (.arr T 1 (ints l') true) hp some = some hp2) (hK : WO P w0 A ops rest ⟨n, (dst, .tup []) :: sl, hp2⟩ K) :
    WO P w0 A ops (⟨some dst, .call ⟨.value fo, #[x0], tys⟩, ty, pos, after, none⟩ :: rest) ⟨n, sl, hp⟩ K := by
  have hh := setK_eq hh
  simp only [Option.some.injEq] at hh
  subst hh
  refine ⟨fun ms a w hr Q hq => ?_⟩
  refine wpList_plain rfl fun Kn hKn => ?_
  exact inp_run hr hf hF hx hb fun w' hr' => hKn _ _ (hK.run _ _ w' (Rel.put (t := some dst) hr' (.tup (us := []) .nil) (dstOk_all (s := ⟨n, _, _⟩) (t := some dst) hd)) Q hq)
theorem R_inpN {f : FuncId} {fo x0 : Operand} {tys : Array TypeId} {l l' : List Int} {T : TypeId} (hf : evD (look sl) fo = .fn f []) (hF : InpI P f l l' none) (hx : evD (look sl) x0 = .own i) (hb : hp[i]? = some (.arr T 1 (ints l) true)) (hh : setK i (.arr T 1 (ints l') true) hp some = some hp2) (hK : WO P w0 A ops rest ⟨n, sl, hp2⟩ K) :
    WO P w0 A ops (⟨none, .call ⟨.value fo, #[x0], tys⟩, ty, pos, after, none⟩ :: rest) ⟨n, sl, hp⟩ K := by
  have hh := setK_eq hh
  simp only [Option.some.injEq] at hh
  subst hh
  refine ⟨fun ms a w hr Q hq => ?_⟩
  refine wpList_plain rfl fun Kn hKn => ?_
  exact inp_run hr hf hF hx hb fun w' hr' => hKn _ _ (hK.run _ _ w' hr' Q hq)
/-- The call, the array cut. -/
theorem R_inpCut {f : FuncId} {fo x0 : Operand} {tys : Array TypeId} {l l' : List Int} {c : Nat} {T : TypeId} {sl' : List (Nat × D)} (hf : evD (look sl) fo = .fn f []) (hF : InpI P f l l' (some c)) (hx : evD (look sl) x0 = .own i) (hb : hp[i]? = some (.arr T 1 (ints l) true)) (hd : Nat.blt dst n = true)
    (hs : killK (isI i) sl (fun l => some l) = some sl') (hh : newK (isI i) noneI i (.arr T 1 (ints (l'.take c)) true) 0 hp (fun l => some l) = some hp2) (hK : WO P w0 A ops rest ⟨n, (dst, .own i) :: sl', hp2⟩ K) :
    WO P w0 A ops (⟨some dst, .call ⟨.value fo, #[x0], tys⟩, ty, pos, after, none⟩ :: rest) ⟨n, sl, hp⟩ K := by
  have hs := killK_eq hs; have hh := newK_eq hh
  simp only [Option.some.injEq] at hs hh
  refine ⟨fun ms a w hr Q hq => ?_⟩
  refine wpList_plain rfl fun Kn hKn => ?_
  obtain ⟨e, hi, ev, hsl⟩ := (hr.ev_at hx).own_inv
  obtain ⟨cs, e1, hcs⟩ := (hr.ev_at hf).fn_inv
  cases hcs
  refine enter_call (run_call (o := ⟨some dst, .call ⟨.value fo, #[x0], tys⟩, ty, pos, after, none⟩) rfl hF.plain e1) ?_
  simp only [List.map_cons, List.map_nil, List.append_nil, ev]
  have hilt : i < ms.length := (List.getElem?_eq_some_iff.1 hi).1
  have hiht : i < hp.length := (List.getElem?_eq_some_iff.1 hb).1
  have hle := hF.le c rfl
  have hlt : (l'.take c).length = c := by rw [List.length_take, hF.len]; omega
  have fin : ∀ (w' : World) (e' : Ent), Rel w0 A (ms.set i e') ⟨n, killS (isI i) sl, newH (isI i) noneI i (.arr T 1 (ints (l'.take c)) true) 0 hp⟩ a w' → (∃ av n c, e'.v = .slice av n c) → Kn (a.put (some dst) e'.v) w' := by
    intro w' e' hr' hsl'
    rw [hs, hh] at hr'
    refine hKn _ _ (hK.run _ _ w' (Rel.put (t := some dst) hr' (.own (e := e') ?_ hsl') (dstOk_all (s := ⟨n, _, _⟩) (t := some dst) hd)) Q hq)
    rw [List.getElem?_set_self hilt]
  have nset : ∀ b : Blk, newH (isI i) noneI i (.arr T 1 (ints (l'.take c)) true) 0 (hp.set i b) = newH (isI i) noneI i (.arr T 1 (ints (l'.take c)) true) 0 hp := by
    intro b
    refine List.ext_getElem? fun q => ?_
    rw [newH_get, newH_get]
    by_cases hq2 : q = i
    · subst hq2
      rw [List.getElem?_set_self hiht, hb]; simp
    · rw [List.getElem?_set_ne (Ne.symm hq2)]
  rcases own_ints hr hi hb with ⟨hv, hl0⟩ | ⟨g, cap, cur, hv, hg0, hh', c1, c2, c3, c4, ht, hne, hwf⟩
  · rw [hv]
    refine (hF.none hl0 w).mono ?_
    rintro e' w' ⟨rfl, rfl⟩
    have hl' : l' = [] := List.length_eq_zero_iff.1 (by rw [hF.len, hl0]; rfl)
    refine ⟨_, rfl, ?_⟩
    have h1 := fin w' e (hr.retold (b' := .arr T 1 (ints (l'.take c)) true) (e' := e) hi rfl rfl (fun ms' => ?_) fun _ => rfl) hsl
    · rw [hv] at h1; exact h1
    · rw [hl', List.take_nil, ← hl0]
      have := hr.ents i _ e hb hi
      exact this.mono (fun k hk => ⟨rfl, hk⟩) (fun _ _ => rfl) (fun _ _ => rfl) fun _ _ h _ => by simp [Blk.uses] at h
  · rw [hv]
    refine (hF.calls w g cap (Array.getElem?_eq_some_iff.1 hh').1 (holds_of hh' c4) c1 c2).mono ?_
    rintro e' w' ⟨rfl, q, os, hw⟩
    have hwf' : ∀ x ∈ l', -9223372036854775808 ≤ x ∧ x ≤ 9223372036854775807 := fun x hx => by
      rcases hF.mem x hx with rfl | h
      · omega
      · exact hwf x h
    have h1 := hr.inp hi hb hv hg0 hh' c1 c2 c3 ht hne hwf' hF.len hw
    obtain ⟨p1, p2, p3, p4, p5, cur', p6, p7, p8⟩ := put_heap (w := w) (q := q) (os := os) (l' := l') hh' (by rw [hF.len]; omega)
    rw [← hw] at p6
    refine ⟨_, rfl, ?_⟩
    have h2 := h1.retold (b' := .arr T 1 (ints (l'.take c)) true) (e' := ⟨.slice (some ⟨g, 0, none⟩) c cap, e.top, e.nest⟩) hi rfl rfl (fun ms' => ?_) fun _ => rfl
    · rw [nset] at h2
      exact fin w' _ h2 ⟨_, _, _, rfl⟩
    · refine ⟨(l'.take c).map (Value.int .i64), [], ⟨by simp [len_ints], Or.inr ⟨g, cap, cur', by rw [len_ints, hlt], hg0, p6, by rw [len_ints, hlt]; omega, c2, by omega, ?_⟩⟩, ints_rows _, ints_vrs _ _ fun x hx => hwf' x (List.mem_of_mem_take hx), by rw [ht]; rfl, by rw [if_pos rfl]; exact ⟨hne, by simp⟩⟩
      rw [Nat.mul_one, len_ints, hlt, List.map_take, ← p8, List.take_take, Nat.min_eq_left (by rw [hF.len]; exact hle)]
end
end Go.Proofs.Ytcbfpeplcbgpjaa
