/- Symbolic states: regions that draw their order, of operations that read, reckon and call. No condition. -/
import Derived.Test.YtidfmgahnmpcdaaAbsO
set_option linter.unusedSimpArgs false
set_option linter.unusedVariables false
namespace Go.Proofs.Ytidfmgahnmpcdaa
open Go.ChangeShapes Go.WideShapes Go.ChangeAt Go.RowKit

/-! ### An operation asks its operands alone -/
def asksHeap : Op → Bool
  | .load _ _ => true
  | .indexAddr _ _ _ => true
  | .call _ => true
  | _ => false
theorem mapK_congr {α : Type} {ρ ρ' : Operand → D} : ∀ {l : List Operand} {k : List D → Option α}, (∀ x ∈ l, ρ x = ρ' x) → mapK ρ l k = mapK ρ' l k
  | [], _, _ => rfl
  | x :: l, k, h => by
    simp only [mapK]
    rw [h x (by simp)]
    congr 1
    funext d
    exact mapK_congr fun y hy => h y (List.mem_cons_of_mem _ hy)
theorem buildK_congr {α : Type} {ρ ρ' : Operand → D} {fs : List (Nat × Nat)} : ∀ {parts : List (Nat × Operand)} {l : List D} {k : List D → Option α}, (∀ x ∈ parts, ρ x.2 = ρ' x.2) → buildK ρ fs parts l k = buildK ρ' fs parts l k
  | [], _, _, _ => rfl
  | (i, x) :: parts, l, k, h => by
    have ih : ∀ l', buildK ρ fs parts l' k = buildK ρ' fs parts l' k := fun l' => buildK_congr fun y hy => h y (List.mem_cons_of_mem _ hy)
    have hx : ρ x = ρ' x := h (i, x) (by simp)
    simp only [buildK, hx, ih]
theorem pop_congr {tab : Nat → Option TI} {hp hp' : List Blk} {ρ ρ' : Operand → D} {op : Op} (h : ∀ x ∈ op.operands, ρ x = ρ' x) (hh : asksHeap op = true → ∀ x ∈ op.operands, ∀ k, (ρ x).uses k = true → hp[k]? = hp'[k]?) : pop tab hp ρ op = pop tab hp' ρ' op := by
  have hload : ∀ {agg : Bool} {size : Nat} {d : D}, (∀ k, d.uses k = true → hp[k]? = hp'[k]?) → loadD hp agg size d = loadD hp' agg size d := by
    intro agg size d hd
    cases d with
    | ptr i o => simp only [loadD]; rw [hd i (by simp [D.uses])]
    | _ => rfl
  have hlen : ∀ {d : D}, (∀ k, d.uses k = true → hp[k]? = hp'[k]?) → lenD hp d = lenD hp' d := by
    intro d hd
    cases d with
    | own i => simp only [lenD]; rw [hd i (by simp [D.uses])]
    | lit v => cases v <;> rfl
    | old w A d => cases d <;> rfl
    | _ => rfl
  cases op <;> simp only [Op.operands, asksHeap] at h hh <;> try rfl
  case move x => simp only [pop]; rw [h x (by simp)]
  case assign x => simp only [pop]; rw [h x (by simp)]
  case pick c a b => simp only [pop]; rw [h c (by simp), h a (by simp), h b (by simp)]
  case build t parts =>
    simp only [pop]
    split
    · split
      · congr 1; funext l
        exact buildK_congr fun y hy => h y.2 (by simp; exact ⟨y.1, by simpa using hy⟩)
      · rfl
    · rfl
  case load t x =>
    simp only [pop]
    split
    · rw [hload (hh trivial x (by simp)), h x (by simp)]
    · rfl
  case binOp op t x y ty => simp only [pop]; rw [h x (by simp), h y (by simp)]
  case unOp op t x => simp only [pop]; rw [h x (by simp)]
  case slice t x lo hi mx =>
    have hx := h x (by simp)
    have hb : ∀ (len : Int) (f0 : D) (f1 f2 : Int → D) (f3 : Int → Int → D), boundsK ρ len lo hi f0 f1 f2 f3 = boundsK ρ' len lo hi f0 f1 f2 f3 := by
      intro len f0 f1 f2 f3
      cases lo with
      | none => cases hi with
        | none => rfl
        | some b => simp only [boundsK]; rw [h b (by simp)]
      | some a => cases hi with
        | none => simp only [boundsK]; rw [h a (by simp)]
        | some b => simp only [boundsK]; rw [h a (by simp), h b (by simp)]
    simp only [pop, sliceD, hx, hb]
  case convert s t x => simp only [pop]; rw [h x (by simp)]
  case makeFunc fn first cap =>
    simp only [pop]
    split
    · exact mapK_congr fun x hx => h x (by simp; exact Or.inr (by simpa using hx))
    · rfl
  case fieldAddr s x f => simp only [pop]; rw [h x (by simp)]
  case indexAddr t x i =>
    simp only [pop]
    have hk := hh trivial x (by simp)
    rw [← h x (by simp), ← h i (by simp)]
    generalize ρ x = dx at *
    cases dx with
    | own k => have e := hk k (by simp [D.uses]); simp only [idxOwn, e]
    | _ => rfl
  case index t x i => simp only [pop]; rw [h x (by simp), h i (by simp)]
  case extract x i => simp only [pop]; rw [h x (by simp)]
  case call c =>
    obtain ⟨callee, args, argTypes⟩ := c
    simp only [pop]
    split
    · rename_i x t e1 e2
      have hm : x ∈ ({ callee := .builtin .len, args := args, argTypes := argTypes } : Call).operands := by
        simp only [Call.operands]
        have : x ∈ args := by rw [← Array.mem_toList_iff, e1]; simp
        simpa using this
      have hx := h x hm
      have hk := hh trivial x hm
      unfold lenOp
      rw [← hx]
      split
      · rfl
      · split
        · rfl
        · rw [hlen hk]
      · rfl
    · rename_i x y e1
      have hx := h x (by simp only [Call.operands]; have : x ∈ args := by (rw [← Array.mem_toList_iff, e1]; simp)
                         simpa using this)
      have hy := h y (by simp only [Call.operands]; have : y ∈ args := by (rw [← Array.mem_toList_iff, e1]; simp)
                         simpa using this)
      rw [hx, hy]
    · rename_i x y e1
      have hx := h x (by simp only [Call.operands]; have : x ∈ args := by (rw [← Array.mem_toList_iff, e1]; simp)
                         simpa using this)
      have hy := h y (by simp only [Call.operands]; have : y ∈ args := by (rw [← Array.mem_toList_iff, e1]; simp)
                         simpa using this)
      rw [hx, hy]
    · rfl

/-! ### Entries that are not there yet -/
def phE : Ent := ⟨undef, none, []⟩
mutual
theorem VX.noPh {ms : List Ent} {w : World} {Ok : Nat → Prop} : ∀ {d : D} {u : Value} {k : Nat}, VX ms w Ok d u → d.uses k = true → ∃ e, ms[k]? = some e ∧ ((∃ a n c, e.v = .slice a n c) ∨ e.top ≠ none)
  | _, _, _, .no, h => by simp [D.uses] at h
  | _, _, _, .rd h _, hu => by cases h <;> simp [D.uses] at hu
  | _, _, _, .own h h', hu => by simp [D.uses] at hu; subst hu; exact ⟨_, h, Or.inl h'⟩
  | _, _, _, .vec h h', hu => by simp [D.uses] at hu; subst hu; exact ⟨_, h, Or.inr (by rw [h']; simp)⟩
  | _, _, _, .ptr h h', hu => by simp [D.uses] at hu; subst hu; exact ⟨_, h, Or.inr (by rw [h']; simp)⟩
  | _, _, _, .eptr h h', hu => by simp [D.uses] at hu; subst hu; exact ⟨_, h, Or.inr (by rw [h']; simp)⟩
  | _, _, _, .sptr _ _ _ _, h => by simp [D.uses] at h
  | _, _, _, .agg h, hu => VXs.noPh h (by simpa [D.uses] using hu)
  | _, _, _, .tup h, hu => VXs.noPh h (by simpa [D.uses] using hu)
  | _, _, _, .fn h, hu => VXs.noPh h (by simpa [D.uses] using hu)
  | _, _, _, .old _ _, hu => by simp [D.uses] at hu
  | _, _, _, .val, hu => by simp [D.uses] at hu
theorem VXs.noPh {ms : List Ent} {w : World} {Ok : Nat → Prop} : ∀ {ds : List D} {us : List Value} {k : Nat}, VXs ms w Ok ds us → D.usesL k ds = true → ∃ e, ms[k]? = some e ∧ ((∃ a n c, e.v = .slice a n c) ∨ e.top ≠ none)
  | _, _, _, .nil, h => by simp [D.usesL] at h
  | _, _, _, .cons h h', hu => by
    simp only [D.usesL, Bool.or_eq_true] at hu
    rcases hu with hu | hu
    · exact VX.noPh h hu
    · exact VXs.noPh h' hu
end

section
variable {P : Program} {w0 w w' : World} {A A' : Nat → Prop} {n : Nat} {sl : List (Nat × D)} {hp : List Blk} {ms mr : List Ent} {a : Act}

/-- Memory is made in the place that was kept for it. -/
theorem Rel.fill {h1 h2 rh : List Blk} (hr : Rel w0 A ms ⟨n, sl, h1 ++ rh.map (fun _ => .gone) ++ h2⟩ a w) (hph : ∀ k, h1.length ≤ k → k < h1.length + rh.length → ms[k]? = some phE) (x : Ext w w') (hl : mr.length = rh.length) (hn : (owned mr).Nodup) (hrg : ∀ k ∈ owned mr, w.heap.size ≤ k ∧ k < w'.heap.size)
    (he : ∀ ms' : List Ent, (∀ k, k ∈ tops ms' → k ∈ tops ms ∨ k ∈ tops mr) → ∀ (i : Nat) (b : Blk) (e : Ent), rh[i]? = some b → mr[i]? = some e → EntR w0.heap.size ms' w' (OkB w0.heap.size A ms' w') b e) :
    ∃ ms', Rel w0 A ms' ⟨n, sl, h1 ++ rh ++ h2⟩ a w' ∧ (∀ (i : Nat) (e : Ent), mr[i]? = some e → ms'[h1.length + i]? = some e) ∧ (∀ (i : Nat), i < h1.length ∨ h1.length + rh.length ≤ i → ms'[i]? = ms[i]?) ∧ (∀ k, k ∈ tops ms' → k ∈ tops ms ∨ k ∈ tops mr) ∧ (∀ k, OkB w0.heap.size A ms w k → w'.heap[k]? = w.heap[k]? ∧ OkB w0.heap.size A ms' w' k) := by
  have hb := hr.ext.size
  have hlen := hr.len
  simp only [List.length_append, List.length_map] at hlen
  have hA : (ms.take h1.length).length = h1.length := by rw [List.length_take]; omega
  have hget1 : ∀ (i : Nat) (e : Ent), mr[i]? = some e → (ms.take h1.length ++ mr ++ ms.drop (h1.length + rh.length))[h1.length + i]? = some e := by
    intro i e hi
    have hil := (List.getElem?_eq_some_iff.1 hi).1
    rw [List.append_assoc, List.getElem?_append_right (by omega), hA, Nat.add_sub_cancel_left, List.getElem?_append_left hil]; exact hi
  have hget2 : ∀ (i : Nat), i < h1.length ∨ h1.length + rh.length ≤ i → (ms.take h1.length ++ mr ++ ms.drop (h1.length + rh.length))[i]? = ms[i]? := by
    intro i hi
    rcases hi with hi | hi
    · rw [List.append_assoc, List.getElem?_append_left (by omega), List.getElem?_take, if_pos hi]
    · rw [List.getElem?_append_right (by simp [hA, hl]; omega), List.getElem?_drop]
      congr 1; simp [hA, hl]; omega
  have htops : ∀ k, k ∈ tops (ms.take h1.length ++ mr ++ ms.drop (h1.length + rh.length)) → k ∈ tops ms ∨ k ∈ tops mr := by
    intro k hk
    rw [tops_append, tops_append, List.mem_append, List.mem_append] at hk
    rcases hk with (hk | hk) | hk
    · left; simp only [tops, List.mem_filterMap] at hk ⊢; obtain ⟨e, he, ht⟩ := hk; exact ⟨e, List.mem_of_mem_take he, ht⟩
    · right; exact hk
    · left; simp only [tops, List.mem_filterMap] at hk ⊢; obtain ⟨e, he, ht⟩ := hk; exact ⟨e, List.mem_of_mem_drop he, ht⟩
  have hk : ∀ k, OkB w0.heap.size A ms w k → w'.heap[k]? = w.heap[k]? ∧ OkB w0.heap.size A (ms.take h1.length ++ mr ++ ms.drop (h1.length + rh.length)) w' k := by
    intro k ⟨k1, k2, k3⟩
    refine ⟨x.heap k1, Nat.lt_of_lt_of_le k1 x.size, k2, fun h => ?_⟩
    rcases htops k h with h | h
    · exact k3 h
    · have := hrg k (tops_owned h); omega
  have hm : ∀ (i : Nat) (e : Ent), ((∃ a n c, e.v = .slice a n c) ∨ e.top ≠ none) → ms[i]? = some e → (ms.take h1.length ++ mr ++ ms.drop (h1.length + rh.length))[i]? = some e := by
    intro i e hne hi
    by_cases hin : h1.length ≤ i ∧ i < h1.length + rh.length
    · have := hph i hin.1 hin.2
      rw [hi] at this
      cases this
      rcases hne with ⟨_, _, _, h⟩ | h
      · simp [phE, undef] at h
      · simp [phE] at h
    · rw [hget2 i (by omega)]; exact hi
  have hvx : ∀ {d : D} {u : Value}, VX ms w (OkB w0.heap.size A ms w) d u → VX (ms.take h1.length ++ mr ++ ms.drop (h1.length + rh.length)) w' (OkB w0.heap.size A (ms.take h1.length ++ mr ++ ms.drop (h1.length + rh.length)) w') d u := by
    intro d u h
    refine VX.mono hk h fun i e hu hi => ?_
    obtain ⟨e', h1', h2'⟩ := h.noPh hu
    rw [hi] at h1'; cases h1'
    exact hm i e h2' hi
  have hown : owned ms = owned (ms.take h1.length) ++ owned (ms.drop h1.length) := by rw [← owned_append, List.take_append_drop]
  have hown2 : owned (ms.drop h1.length) = owned ((ms.drop h1.length).take rh.length) ++ owned (ms.drop (h1.length + rh.length)) := by
    rw [← owned_append, ← List.drop_drop, List.take_append_drop]
  have hnd := hr.nodup
  rw [hown, hown2] at hnd
  have hnd1 := List.nodup_append.1 hnd
  have hnd2 := List.nodup_append.1 hnd1.2.1
  have hold : ∀ k, k ∈ owned (ms.take h1.length) ∨ k ∈ owned (ms.drop (h1.length + rh.length)) → k ∈ owned ms := by
    intro k hk
    rw [hown, hown2, List.mem_append, List.mem_append]
    rcases hk with hk | hk
    · exact Or.inl hk
    · exact Or.inr (Or.inr hk)
  refine ⟨_, ⟨hr.ext.trans x, hr.old, hr.size, hr.defers, ?_, ?_, ?_, ?_, fun t => hvx (hr.slots t)⟩, hget1, hget2, htops, hk⟩
  · simp [hl]; omega
  · rw [owned_append, owned_append]
    refine List.nodup_append.2 ⟨List.nodup_append.2 ⟨hnd1.1, hn, fun p hp q hq e => ?_⟩, hnd2.2.1, fun p hp q hq e => ?_⟩
    · subst e
      have := hr.range p (hold p (Or.inl hp)); have := hrg p hq; omega
    · subst e
      rcases List.mem_append.1 hp with hp | hp
      · exact hnd1.2.2 p hp p (List.mem_append_right _ hq) rfl
      · have := hr.range p (hold p (Or.inr hq)); have := hrg p hp; omega
  · intro k hk'
    rw [owned_append, owned_append, List.mem_append, List.mem_append] at hk'
    rcases hk' with (hk' | hk') | hk'
    · have := hr.range k (hold k (Or.inl hk')); exact ⟨this.1, Nat.lt_of_lt_of_le this.2 x.size⟩
    · have := hrg k hk'; exact ⟨by omega, this.2⟩
    · have := hr.range k (hold k (Or.inr hk')); exact ⟨this.1, Nat.lt_of_lt_of_le this.2 x.size⟩
  · intro i b e hi hei
    by_cases hin : h1.length ≤ i ∧ i < h1.length + rh.length
    · have hb' : rh[i - h1.length]? = some b := by
        simp only [List.append_assoc] at hi
        rw [List.getElem?_append_right (by omega), List.getElem?_append_left (by omega)] at hi; exact hi
      have he' : mr[i - h1.length]? = some e := by
        rw [List.append_assoc, List.getElem?_append_right (by omega), hA, List.getElem?_append_left (by omega)] at hei; exact hei
      exact he _ htops _ b e hb' he'
    · have hb' : (h1 ++ rh.map (fun _ => Blk.gone) ++ h2)[i]? = some b := by
        by_cases hlt : i < h1.length
        · simp only [List.append_assoc] at hi ⊢
          rw [List.getElem?_append_left hlt] at hi ⊢; exact hi
        · simp only [List.getElem?_append_right (show (h1 ++ rh).length ≤ i by simp; omega)] at hi
          rw [List.getElem?_append_right (by simp; omega)]
          simpa using hi
      rw [hget2 i (by omega)] at hei
      have hE := hr.ents i b e hb' hei
      have ho1 : ∀ k, k ∈ e.top.toList ++ e.nest → w'.heap[k]? = w.heap[k]? := fun k hk => x.heap (hr.range k (ent_owned hei hk)).2
      cases b with
      | gone => exact hE
      | fr _ _ => exact hE.mono hk (fun k h => ho1 k (by simp [h])) (fun k h => ho1 k (List.mem_append_right _ h)) fun _ _ hu _ => by simp [Blk.uses] at hu
      | cust _ => exact hE.mono hk (fun k h => ho1 k (by simp [h])) (fun k h => ho1 k (List.mem_append_right _ h)) fun _ _ hu _ => by simp [Blk.uses] at hu
      | arr _ _ _ _ => exact hE.mono hk (fun k h => ho1 k (by simp [h])) (fun k h => ho1 k (List.mem_append_right _ h)) fun _ _ hu _ => by simp [Blk.uses] at hu
      | cells t ds =>
        obtain ⟨g, us', rfl, h3, h4⟩ := hE
        refine ⟨g, us', rfl, by rw [ho1 g (by simp)]; exact h3, VXs.mono hk h4 fun j e2 hu hj => ?_⟩
        obtain ⟨e', h1', h2'⟩ := h4.noPh hu
        rw [hj] at h1'; cases h1'
        exact hm j e2 h2' hj

end

/-! ### Values of older worlds -/
def unold1 : D → D
  | .old _ _ d => d
  | d => d
def unold : D → D
  | .agg ds => .agg (ds.map unold1)
  | d => unold1 d
def oldOk1 (w0 : World) (A : Nat → Prop) : D → Prop
  | .old w B _ => w = w0 ∧ B = A
  | _ => True
def oldOkL1 (w0 : World) (A : Nat → Prop) : List D → Prop
  | [] => True
  | d :: l => oldOk1 w0 A d ∧ oldOkL1 w0 A l
def oldOk (w0 : World) (A : Nat → Prop) : D → Prop
  | .agg ds => oldOkL1 w0 A ds
  | d => oldOk1 w0 A d
def oldOks (w0 : World) (A : Nat → Prop) : List D → Prop
  | [] => True
  | d :: l => oldOk w0 A d ∧ oldOks w0 A l

section
variable {P : Program} {w0 w w' : World} {A : Nat → Prop} {n : Nat} {sl : List (Nat × D)} {hp : List Blk} {ms : List Ent} {a : Act} {s : St}

theorem unold1_ok (hr : Rel w0 A ms s a w) {d : D} {u : Value} (h : VX ms w (OkB w0.heap.size A ms w) d u) (ho : oldOk1 w0 A d) : VX ms w (OkB w0.heap.size A ms w) (unold1 d) u := by
  cases d with
  | old wo B d =>
    obtain ⟨rfl, rfl⟩ := ho
    cases h with
    | rd h _ => cases h
    | old h h' =>
      exact .rd (h.keep fun k m => hr.ext.heap (hr.old k (h' k m))) fun k m => ⟨Nat.lt_of_lt_of_le (hr.old k (h' k m)) hr.ext.size, Or.inr (h' k m), fun ht => by
        have := hr.range k (tops_owned ht); have := hr.old k (h' k m); omega⟩
  | _ => exact h
theorem unoldL1_ok (hr : Rel w0 A ms s a w) : ∀ {ds : List D} {us : List Value}, VXs ms w (OkB w0.heap.size A ms w) ds us → oldOkL1 w0 A ds → VXs ms w (OkB w0.heap.size A ms w) (ds.map unold1) us
  | [], _, .nil, _ => .nil
  | d :: ds, _, .cons h h', ho => .cons (unold1_ok hr h ho.1) (unoldL1_ok hr h' ho.2)
theorem unold_ok (hr : Rel w0 A ms s a w) {d : D} {u : Value} (h : VX ms w (OkB w0.heap.size A ms w) d u) (ho : oldOk w0 A d) : VX ms w (OkB w0.heap.size A ms w) (unold d) u := by
  cases d with
  | agg ds =>
    obtain ⟨us, rfl, h1⟩ := h.agg_inv
    exact .agg (unoldL1_ok hr h1 ho)
  | old wo B d => exact unold1_ok hr h ho
  | _ => exact h
theorem unolds_ok (hr : Rel w0 A ms s a w) : ∀ {ds : List D} {us : List Value}, VXs ms w (OkB w0.heap.size A ms w) ds us → oldOks w0 A ds → VXs ms w (OkB w0.heap.size A ms w) (ds.map unold) us
  | [], _, .nil, _ => .nil
  | d :: ds, _, .cons h h', ho => .cons (unold_ok hr h ho.1) (unolds_ok hr h' ho.2)

/-- A call that is handed memory of the call's own, or older values. -/
theorem R_callx {ops : Array Oper} {rest : List Oper} {K : St → Prop} {dst : Tmp} {ty : TypeId} {pos : String} {after : Array Edge} {f : FuncId} {fo : Operand} {args : Array Operand} {tys : Array TypeId} {ds caps : List D} {d : D} {rh : List Blk} (hf : evD (look sl) fo = .fn f caps)
    (hds : mapK (evD (look sl)) args.toList (fun l => argsFK hp ((l ++ caps).map unold) fun l => some l) = some ds) (hd : Nat.blt dst n = true) (hF : Fn P f ds d rh) (hno : noRd d = true) (hdeep : rh.all Blk.isDeep = true) (hold : oldOks w0 A (args.toList.map (evD (look sl)) ++ caps))
    (hk : WO P w0 A ops rest ⟨n, (dst, d.shift hp.length) :: sl, hp ++ rh⟩ K) : WO P w0 A ops (⟨some dst, .call ⟨.value fo, args, tys⟩, ty, pos, after, none⟩ :: rest) ⟨n, sl, hp⟩ K := by
  refine ⟨fun ms a w hr Q hq => ?_⟩
  refine wpList_plain rfl fun Kn hKn => ?_
  obtain ⟨cs, e1, hcs⟩ := (hr.ev_at hf).fn_inv
  have hds := mapK_eq hds
  have hv : VXs ms w (OkB w0.heap.size A ms w) (args.toList.map (evD (look sl)) ++ caps) (args.toList.map a.eval ++ cs) := (VXs.of_map fun x _ => hr.ev x).append hcs
  obtain ⟨l, h1, h2⟩ := argsFK_ok hr (unolds_ok hr hv hold) hds
  simp only [Option.some.injEq] at h2
  subst h2
  refine enter_call (run_call (o := ⟨some dst, .call ⟨.value fo, args, tys⟩, ty, pos, after, none⟩) rfl hF.plain e1) ((hF.calls (Lt w) w _ (fun k hk => hk) h1).mono ?_)
  rintro e w' ⟨v, mr, rfl, hpost⟩
  have hr' := hr.called hF.arrs (Or.inr hdeep) hpost
  have hlen := hr.len
  simp only at hlen
  have hval : VX (ms ++ mr) w' (OkB w0.heap.size A (ms ++ mr) w') (d.shift hp.length) v := noRd_ok (fun i e he => by rw [List.getElem?_append_right (by omega), hlen, Nat.add_sub_cancel_left]; exact he) hpost.val hno
  exact ⟨v, rfl, hKn _ _ (hk.run _ _ w' (Rel.put (t := some dst) hr' hval (dstOk_all (s := ⟨n, _, _⟩) (t := some dst) hd)) Q hq)⟩
end

/-! ### Arguments ask the entries that they name alone -/
section
variable {hp hp' : List Blk} {α : Type}
theorem cellV_mono {d d' : D} (hh : ∀ (k : Nat) (b : Blk), d.uses k = true → hp[k]? = some b → hp'[k]? = some b) (h : cellV hp d = some d') : cellV hp' d = some d' := by
  cases d with
  | own i =>
    simp only [cellV] at h ⊢
    cases hb : hp[i]? with
    | none => simp [hb] at h
    | some b => rw [hb] at h; rw [hh i b (by simp [D.uses]) hb]; exact h
  | _ => exact h
theorem cellsVK_mono : ∀ {ds : List D} {k k' : List D → Option α} {r : α}, (∀ (i : Nat) (b : Blk), D.usesL i ds = true → hp[i]? = some b → hp'[i]? = some b) → (∀ l, k l = some r → k' l = some r) → cellsVK hp ds k = some r → cellsVK hp' ds k' = some r
  | [], _, _, _, _, hk, h => hk _ h
  | d :: ds, k, k', r, hh, hk, h => by
    simp only [cellsVK] at h ⊢
    cases hd : cellV hp d with
    | none => simp [hd] at h
    | some d' =>
      rw [hd] at h
      rw [cellV_mono (fun k b hu hb => hh k b (by simp [D.usesL, hu]) hb) hd]
      exact cellsVK_mono (fun k b hu hb => hh k b (by simp [D.usesL, hu]) hb) (fun l h => hk _ h) h
/-- An argument that is no address. -/
def argO {α : Type} (hp : List Blk) : D → (D → Option α) → Option α
  | .agg ds, k => cellsVK hp ds fun l => k (.agg l)
  | d, k => match cellV hp d with
    | some d' => k d'
    | none => none
def argsOK {α : Type} (hp : List Blk) : List D → (List D → Option α) → Option α
  | [], k => k []
  | d :: ds, k => argO hp d fun d' => argsOK hp ds fun l => k (d' :: l)
theorem argO_mono {d : D} {k k' : D → Option α} {r : α} (hh : ∀ (i : Nat) (b : Blk), d.uses i = true → hp[i]? = some b → hp'[i]? = some b) (hk : ∀ l, k l = some r → k' l = some r) (h : argO hp d k = some r) : argO hp' d k' = some r := by
  have key : ∀ d', cellV hp d = some d' → k d' = some r → (match cellV hp' d with | some d' => k' d' | none => none) = some r := by
    intro d' hd h
    rw [cellV_mono hh hd]; exact hk _ h
  cases d with
  | agg ds => exact cellsVK_mono (fun i b hu hb => hh i b (by simpa [D.uses] using hu) hb) (fun l h => hk _ h) h
  | _ =>
    simp only [argO] at h ⊢
    split at h
    · rename_i d' hd; exact key d' hd h
    · simp at h
theorem argsOK_mono : ∀ {ds : List D} {k k' : List D → Option α} {r : α}, (∀ (i : Nat) (b : Blk), D.usesL i ds = true → hp[i]? = some b → hp'[i]? = some b) → (∀ l, k l = some r → k' l = some r) → argsOK hp ds k = some r → argsOK hp' ds k' = some r
  | [], _, _, _, _, hk, h => hk _ h
  | d :: ds, k, k', r, hh, hk, h => argO_mono (fun i b hu hb => hh i b (by simp [D.usesL, hu]) hb) (fun d' h => argsOK_mono (fun i b hu hb => hh i b (by simp [D.usesL, hu]) hb) (fun l h => hk _ h) h) h
end
section
variable {w0 w : World} {A : Nat → Prop} {n : Nat} {sl : List (Nat × D)} {hp : List Blk} {ms : List Ent} {a : Act} {α : Type}
theorem argO_ok (hr : Rel w0 A ms ⟨n, sl, hp⟩ a w) {d : D} {u : Value} {k : D → Option α} {r : α} (h : VX ms w (OkB w0.heap.size A ms w) d u) (hk : argO hp d k = some r) : ∃ d', VX [] w (Lt w) d' u ∧ k d' = some r := by
  unfold argO at hk
  split at hk
  · obtain ⟨us, rfl, h1⟩ := h.agg_inv
    obtain ⟨l, bs, h7, h8, h9⟩ := cellsVK_ok hr h1 hk
    exact ⟨_, .agg (VXs.of_rd h7 h8), h9⟩
  · split at hk
    · rename_i d' hd
      obtain ⟨bs, h1, h2⟩ := cellV_ok hr h hd
      exact ⟨d', .rd h1 h2, hk⟩
    · simp at hk
theorem argsOK_ok (hr : Rel w0 A ms ⟨n, sl, hp⟩ a w) : ∀ {ds : List D} {us : List Value} {k : List D → Option α} {r : α}, VXs ms w (OkB w0.heap.size A ms w) ds us → argsOK hp ds k = some r → ∃ l, VXs [] w (Lt w) l us ∧ k l = some r
  | [], _, _, _, .nil, h => ⟨[], .nil, h⟩
  | d :: ds, _, k, r, .cons h h', hk => by
    obtain ⟨d', h1, h2⟩ := argO_ok hr h hk
    obtain ⟨l, h3, h4⟩ := argsOK_ok hr h' h2
    exact ⟨_, .cons h1 h3, h4⟩
end

/-! ### The chain of operations, in the order of the text -/
structure Rec where
  o : Oper
  t : Tmp
  d : D
  rh : List Blk

def slotsS : List Rec → (Nat → Bool) → Nat → List (Nat × D) → List (Nat × D)
  | [], _, _, sl => sl
  | r :: rs, S, i, sl => slotsS rs S (i + 1) (if S i then (r.t, r.d) :: sl else sl)
def heapS : List Rec → (Nat → Bool) → Nat → List Blk → List Blk
  | [], _, _, hp => hp
  | r :: rs, S, i, hp => heapS rs S (i + 1) (hp ++ if S i then r.rh else r.rh.map fun _ => .gone)

theorem slotsS_none : ∀ (rs : List Rec) (i : Nat) (sl : List (Nat × D)), slotsS rs (fun _ => false) i sl = sl
  | [], _, _ => rfl
  | _ :: rs, i, sl => by simp only [slotsS]; exact slotsS_none rs (i + 1) sl

/-- How an operation comes by its value, at slots and memory of the text's order (H: the memory ahead of the region). -/
inductive DStep (P : Program) (w0 : World) (A : Nat → Prop) (tab : Nat → Option TI) (H : Nat) (sl : List (Nat × D)) (hp : List Blk) : Oper → D → List Blk → Prop
  | pop {t : Option Tmp} {op : Op} {ty : TypeId} {pos : String} {after : Array Edge} {c : Prop} {d : D} : pop tab hp (evD (look sl)) op = some (c, d) → (match asksHeap op with | true => op.operands.toList.all fun x => (evD (look sl) x).lt H | false => true) = true → c → DStep P w0 A tab H sl hp ⟨t, op, ty, pos, after, none⟩ d []
  | index {t : Option Tmp} {t' : TypeId} {x i : Operand} {ty : TypeId} {pos : String} {after : Array Edge} {m : Nat} {xs : List (List D)} {j : Int} {r : List D} {e : TypeId} {agg : Bool} {size bytes : Nat} {zero : List Value} {k' : TK} {agg' : Bool} {bytes' : Nat} {zero' : List Value} :
      evD (look sl) x = .sh m xs → evD (look sl) i = .lit (.int .i64 j) → tab t' = some ⟨.sl e, agg, size, bytes, zero⟩ → tab e = some ⟨k', agg', m, bytes', zero'⟩ → RowAt xs j r → DStep P w0 A tab H sl hp ⟨t, .indexAddr t' x i, ty, pos, after, none⟩ (.sptr r) []
  | call {t : Option Tmp} {f : FuncId} {fo : Operand} {args : Array Operand} {tys : Array TypeId} {ty : TypeId} {pos : String} {after : Array Edge} {ds caps : List D} {d : D} {rh : List Blk} : evD (look sl) fo = .fn f caps → mapK (evD (look sl)) args.toList (fun l => some (l ++ caps)) = some ds → D.plainL ds = true → Fn P f ds d rh →
      DStep P w0 A tab H sl hp ⟨t, .call ⟨.value fo, args, tys⟩, ty, pos, after, none⟩ (d.shift hp.length) rh
  | callx {t : Option Tmp} {f : FuncId} {fo : Operand} {args : Array Operand} {tys : Array TypeId} {ty : TypeId} {pos : String} {after : Array Edge} {ds caps : List D} {d : D} {rh : List Blk} : evD (look sl) fo = .fn f caps → mapK (evD (look sl)) args.toList (fun l => argsOK hp ((l ++ caps).map unold) fun l => some l) = some ds →
      oldOks w0 A (args.toList.map (evD (look sl)) ++ caps) → Fn P f ds d rh → noRd d = true → rh.all Blk.isDeep = true → DStep P w0 A tab H sl hp ⟨t, .call ⟨.value fo, args, tys⟩, ty, pos, after, none⟩ (d.shift hp.length) rh
/-- The whole chain. -/
inductive DRun (P : Program) (w0 : World) (A : Nat → Prop) (tab : Nat → Option TI) (ops : Array Oper) (H : Nat) : List Oper → List (Nat × D) → List Blk → List Rec → Prop
  | nil {sl : List (Nat × D)} {hp : List Blk} : DRun P w0 A tab ops H [] sl hp []
  | step {o : Oper} {rest : List Oper} {t : Tmp} {d : D} {rh : List Blk} {sl : List (Nat × D)} {hp : List Blk} {rs : List Rec} : o.dst = some t → o.guard = none → DStep P w0 A tab H sl hp o d rh → DRun P w0 A tab ops H rest ((t, d) :: sl) (hp ++ rh) rs → DRun P w0 A tab ops H (o :: rest) sl hp (⟨o, t, d, rh⟩ :: rs)
  | on {o : Oper} {rest : List Oper} {t : Tmp} {d : D} {rh : List Blk} {j : Nat} {u : Tmp} {b : Bool} {sl : List (Nat × D)} {hp : List Blk} {rs : List Rec} : o.dst = some t → o.guard = some (j, b) → (ops[j]?).bind (·.dst) = some u → look sl u = .lit (.bool b) → DStep P w0 A tab H sl hp { o with guard := none } d rh → DRun P w0 A tab ops H rest ((t, d) :: sl) (hp ++ rh) rs → DRun P w0 A tab ops H (o :: rest) sl hp (⟨o, t, d, rh⟩ :: rs)
  | off {o : Oper} {rest : List Oper} {t : Tmp} {j : Nat} {u : Tmp} {b : Bool} {sl : List (Nat × D)} {hp : List Blk} {rs : List Rec} : o.dst = some t → o.guard = some (j, b) → (ops[j]?).bind (·.dst) = some u → (look sl u = .lit (.bool !b) ∨ look sl u = .tup []) → DRun P w0 A tab ops H rest ((t, .tup []) :: sl) (hp ++ []) rs → DRun P w0 A tab ops H (o :: rest) sl hp (⟨o, t, .tup [], []⟩ :: rs)

/-- What is known of operation i. -/
inductive DAt (P : Program) (w0 : World) (A : Nat → Prop) (tab : Nat → Option TI) (ops : Array Oper) (H : Nat) (sl : List (Nat × D)) (hp : List Blk) (r : Rec) : Prop
  | step : r.o.guard = none → DStep P w0 A tab H sl hp r.o r.d r.rh → DAt P w0 A tab ops H sl hp r
  | on {j : Nat} {u : Tmp} {b : Bool} : r.o.guard = some (j, b) → (ops[j]?).bind (·.dst) = some u → look sl u = .lit (.bool b) → DStep P w0 A tab H sl hp { r.o with guard := none } r.d r.rh → DAt P w0 A tab ops H sl hp r
  | off {j : Nat} {u : Tmp} {b : Bool} : r.o.guard = some (j, b) → (ops[j]?).bind (·.dst) = some u → (look sl u = .lit (.bool !b) ∨ look sl u = .tup []) → r.d = .tup [] → r.rh = [] → DAt P w0 A tab ops H sl hp r

def lens (rs : List Rec) : Nat := (rs.map fun r => r.rh.length).sum

section
variable {P : Program} {w0 : World} {A : Nat → Prop} {tab : Nat → Option TI} {ops : Array Oper} {H : Nat}

theorem DRun.opsOf {l : List Oper} {sl : List (Nat × D)} {hp : List Blk} {rs : List Rec} (h : DRun P w0 A tab ops H l sl hp rs) : rs.map Rec.o = l ∧ ∀ r ∈ rs, r.o.dst = some r.t := by
  induction h with
  | nil => simp
  | step h1 _ _ _ ih => exact ⟨by simp [ih.1], fun r hr => by rcases List.mem_cons.1 hr with rfl | hr; exact h1; exact ih.2 r hr⟩
  | on h1 _ _ _ _ _ ih => exact ⟨by simp [ih.1], fun r hr => by rcases List.mem_cons.1 hr with rfl | hr; exact h1; exact ih.2 r hr⟩
  | off h1 _ _ _ _ ih => exact ⟨by simp [ih.1], fun r hr => by rcases List.mem_cons.1 hr with rfl | hr; exact h1; exact ih.2 r hr⟩
theorem slotsS_congr {S S' : Nat → Bool} : ∀ {rs : List Rec} {i : Nat} {sl : List (Nat × D)}, (∀ j, j < rs.length → S (i + j) = S' (i + j)) → slotsS rs S i sl = slotsS rs S' i sl
  | [], _, _, _ => rfl
  | r :: rs, i, sl, h => by
    simp only [slotsS]
    rw [show S i = S' i from h 0 (by simp)]
    exact slotsS_congr fun j hj => by have := h (j + 1) (by simpa using hj); rwa [show i + (j + 1) = i + 1 + j by omega] at this
theorem slotsS_before (rs : List Rec) (m : Nat) (sl : List (Nat × D)) : slotsS rs (fun j => decide (j < m + 0)) m sl = sl := by
  rw [slotsS_congr (S' := fun _ => false) (fun j _ => by simp)]
  exact slotsS_none _ _ _
theorem DRun.get : ∀ {l : List Oper} {sl : List (Nat × D)} {hp : List Blk} {rs : List Rec}, DRun P w0 A tab ops H l sl hp rs → ∀ (m i : Nat) {r : Rec}, rs[i]? = some r → ∃ hp', hp'.length = hp.length + lens (rs.take i) ∧ (∀ k, k < hp.length → hp'[k]? = hp[k]?) ∧ DAt P w0 A tab ops H (slotsS rs (fun j => decide (j < m + i)) m sl) hp' r ∧ hp' = heapS (rs.take i) (fun _ => true) m hp
  | _, _, _, _, .nil, _, _, _, h => by simp at h
  | _, sl, hp, _, .step (rs := rs) (t := t) (d := d) (rh := rh) h1 h2 h3 h4, m, 0, r, h => by
    simp at h; subst h
    refine ⟨hp, by simp [lens], fun _ _ => rfl, ?_, by simp [heapS]⟩
    rw [slotsS_before]; exact .step h2 h3
  | _, sl, hp, _, .on (rs := rs) (t := t) (d := d) (rh := rh) h1 h2 h3 h4 h5 h6, m, 0, r, h => by
    simp at h; subst h
    refine ⟨hp, by simp [lens], fun _ _ => rfl, ?_, by simp [heapS]⟩
    rw [slotsS_before]; exact .on h2 h3 h4 h5
  | _, sl, hp, _, .off (rs := rs) (t := t) h1 h2 h3 h4 h6, m, 0, r, h => by
    simp at h; subst h
    refine ⟨hp, by simp [lens], fun _ _ => rfl, ?_, by simp [heapS]⟩
    rw [slotsS_before]; exact .off h2 h3 h4 rfl rfl
  | _, sl, hp, _, .step (rs := rs) (rh := rh) h1 h2 h3 h4, m, i + 1, r, h => by
    simp at h
    obtain ⟨hp', q1, q2, q3, q4⟩ := DRun.get h4 (m + 1) i h
    refine ⟨hp', by simp [q1, lens, List.take_succ_cons]; omega, fun k hk => by rw [q2 k (by simp; omega), List.getElem?_append_left hk], ?_, by rw [q4, List.take_succ_cons, heapS, if_pos rfl]⟩
    simp only [slotsS]
    rw [if_pos (by simp)]
    rwa [show m + 1 + i = m + (i + 1) by omega] at q3
  | _, sl, hp, _, .on (rs := rs) (rh := rh) h1 h2 h3 h4 h5 h6, m, i + 1, r, h => by
    simp at h
    obtain ⟨hp', q1, q2, q3, q4⟩ := DRun.get h6 (m + 1) i h
    refine ⟨hp', by simp [q1, lens, List.take_succ_cons]; omega, fun k hk => by rw [q2 k (by simp; omega), List.getElem?_append_left hk], ?_, by rw [q4, List.take_succ_cons, heapS, if_pos rfl]⟩
    simp only [slotsS]
    rw [if_pos (by simp)]
    rwa [show m + 1 + i = m + (i + 1) by omega] at q3
  | _, sl, hp, _, .off (rs := rs) h1 h2 h3 h4 h6, m, i + 1, r, h => by
    simp at h
    obtain ⟨hp', q1, q2, q3, q4⟩ := DRun.get h6 (m + 1) i h
    refine ⟨hp', by simp [q1, lens, List.take_succ_cons], fun k hk => by rw [q2 k (by simp; omega), List.getElem?_append_left hk], ?_, by rw [q4, List.take_succ_cons, heapS, if_pos rfl]⟩
    simp only [slotsS]
    rw [if_pos (by simp)]
    rwa [show m + 1 + i = m + (i + 1) by omega] at q3

/-- Whose memory a number is. -/
theorem lens_at : ∀ {rs : List Rec} {i k : Nat}, k < lens (rs.take i) → ∃ j r, j < i ∧ rs[j]? = some r ∧ lens (rs.take j) ≤ k ∧ k < lens (rs.take j) + r.rh.length
  | [], i, k, h => by simp [lens] at h
  | r :: rs, 0, k, h => by simp [lens] at h
  | r :: rs, i + 1, k, h => by
    by_cases hk : k < r.rh.length
    · exact ⟨0, r, by omega, rfl, by simp [lens], by simpa [lens] using hk⟩
    · have e : lens ((r :: rs).take (i + 1)) = r.rh.length + lens (rs.take i) := by simp [lens]
      rw [e] at h
      obtain ⟨j, r', h1, h2, h3, h4⟩ := lens_at (rs := rs) (i := i) (k := k - r.rh.length) (by omega)
      refine ⟨j + 1, r', by omega, by simpa using h2, ?_, ?_⟩ <;> simp only [List.take_succ_cons, lens, List.map_cons, List.sum_cons] <;> simp only [lens] at h3 h4 <;> omega

theorem look_congr {S S' : Nat → Bool} {t : Nat} : ∀ {rs : List Rec} {i : Nat} {sl sl' : List (Nat × D)}, look sl t = look sl' t → (∀ (j : Nat) (r : Rec), rs[j]? = some r → r.t = t → S (i + j) = S' (i + j)) → look (slotsS rs S i sl) t = look (slotsS rs S' i sl') t
  | [], _, _, _, h, _ => h
  | r :: rs, i, sl, sl', h, hs => by
    simp only [slotsS]
    refine look_congr ?_ fun j r' hj ht => by have := hs (j + 1) r' (by simpa using hj) ht; rwa [show i + (j + 1) = i + 1 + j by omega] at this
    by_cases e : r.t = t
    · have := hs 0 r (by simp) e
      rw [Nat.add_zero] at this
      rw [this]
      split
      · simp [look, e]
      · exact h
    · have h1 : ∀ (b : Bool) (l : List (Nat × D)), look (if b then (r.t, r.d) :: l else l) t = look l t := by
        intro b l
        cases b
        · rfl
        · simp only [if_true, look]; rw [if_neg (Ne.symm e)]
      rw [h1, h1]; exact h
theorem look_done {S : Nat → Bool} {t : Nat} : ∀ {rs : List Rec} {i j : Nat} {r : Rec} {sl : List (Nat × D)}, rs[j]? = some r → S (i + j) = true → r.t = t → (∀ (m : Nat) (r' : Rec), rs[m]? = some r' → r'.t = t → m = j) → look (slotsS rs S i sl) t = r.d
  | [], _, _, _, _, h, _, _, _ => by simp at h
  | r0 :: rs, i, 0, r, sl, h, hs, ht, hu => by
    simp at h; subst h
    simp only [slotsS]
    rw [if_pos (by simpa using hs)]
    have : look (slotsS rs S (i + 1) ((r0.t, r0.d) :: sl)) t = look (slotsS rs (fun _ => false) (i + 1) ((r0.t, r0.d) :: sl)) t := look_congr rfl fun m r' hm ht' => by
      have := hu (m + 1) r' (by simpa using hm) ht'; omega
    rw [this, slotsS_none]
    simp [look, ht]
  | r0 :: rs, i, j + 1, r, sl, h, hs, ht, hu => by
    simp at h
    simp only [slotsS]
    exact look_done h (by rw [show i + 1 + j = i + (j + 1) by omega]; exact hs) ht fun m r' hm ht' => by have := hu (m + 1) r' (by simpa using hm) ht'; omega

theorem heapS_len {S : Nat → Bool} : ∀ {rs : List Rec} {i : Nat} {hp : List Blk}, (heapS rs S i hp).length = hp.length + lens rs
  | [], _, hp => by simp [heapS, lens]
  | r :: rs, i, hp => by
    simp only [heapS]
    rw [heapS_len]
    split <;> simp [lens] <;> omega
/-- The memory around the place of operation j. -/
theorem heapS_split {S : Nat → Bool} : ∀ {rs : List Rec} {i j : Nat} {r : Rec} {hp : List Blk}, rs[j]? = some r → ∃ h1 h2, h1.length = hp.length + lens (rs.take j) ∧ (∀ k, k < hp.length → h1[k]? = hp[k]?) ∧
    ∀ (S' : Nat → Bool), (∀ m, m ≠ i + j → S' m = S m) → heapS rs S' i hp = h1 ++ (if S' (i + j) then r.rh else r.rh.map fun _ => .gone) ++ h2
  | [], _, _, _, _, h => by simp at h
  | r0 :: rs, i, 0, r, hp, h => by
    simp at h; subst h
    refine ⟨hp, (heapS rs S (i + 1) []), by simp [lens], fun _ _ => rfl, fun S' hS => ?_⟩
    simp only [heapS, Nat.add_zero]
    have gen : ∀ (rs : List Rec) (m : Nat) (hp : List Blk), i < m → heapS rs S' m hp = hp ++ heapS rs S m [] := by
      intro rs
      induction rs with
      | nil => intro m hp _; simp [heapS]
      | cons r rs ih =>
        intro m hp hm
        simp only [heapS]
        have hgen2 : ∀ (rs : List Rec) (m : Nat) (hp : List Blk), heapS rs S m hp = hp ++ heapS rs S m [] := by
          intro rs
          induction rs with
          | nil => intro m hp; simp [heapS]
          | cons r rs ih2 => intro m hp; simp only [heapS, List.nil_append]; rw [ih2 (m + 1) (hp ++ _), ih2 (m + 1) (if S m then _ else _), List.append_assoc]
        rw [ih (m + 1) _ (by omega), hS m (by simp; omega), hgen2 rs (m + 1) ([] ++ _), List.nil_append, List.append_assoc]
    exact gen rs (i + 1) _ (by omega)
  | r0 :: rs, i, j + 1, r, hp, h => by
    simp at h
    obtain ⟨h1, h2, q1, q2, q3⟩ := heapS_split (S := S) (i := i + 1) (hp := hp ++ if S i then r0.rh else r0.rh.map fun _ => .gone) h
    refine ⟨h1, h2, ?_, fun k hk => by rw [q2 k (by simp; omega), List.getElem?_append_left hk], fun S' hS => ?_⟩
    · rw [q1]; simp only [List.length_append, List.take_succ_cons, lens, List.map_cons, List.sum_cons]; split <;> simp <;> omega
    · have := q3 S' (fun m hm => hS m (by omega))
      simp only [heapS]
      rw [hS i (by omega), this, show i + 1 + j = i + (j + 1) by omega]

def opTmps (o : Oper) : List Nat := o.op.operands.toList.filterMap fun x => match x with | .tmp t => some t | _ => none
def afters (o : Oper) : List Nat := (o.after.toList.filter fun e => Region.binds .any e).map Edge.on
/-- Operation j waits for operation i. -/
def waits (l : List Oper) : Nat → Nat → Nat → Bool
  | 0, _, _ => false
  | f + 1, j, i => match l[j]? with
    | some o => (afters o).any fun m => Nat.beq m i || waits l f m i
    | none => false
def tmpOk (l : List Oper) (i t : Nat) : Bool := l.zipIdx.all fun x => !(match x.1.dst with | some d => Nat.beq d t | none => false) || (match l[i]? with | some o => memN x.2 (afters o) | none => false) || waits l l.length x.2 i
def guardTmp (l : List Oper) (o : Oper) : List Nat := match o.guard with
  | some (j, _) => match (l[j]?).bind (·.dst) with | some t => [t] | none => []
  | none => []
def drawOk (l : List Oper) : Bool :=
  (nodupN (l.filterMap Oper.dst) && l.zipIdx.all fun x => match x.1.guard with | some (j, _) => Nat.blt j l.length | none => true) && l.zipIdx.all fun x => (afters x.1).all (fun m => Nat.blt m x.2) && ((opTmps x.1 ++ guardTmp l x.1).all fun t => tmpOk l x.2 t)

theorem mem_afters {o : Oper} {m : Nat} : m ∈ afters o ↔ ∃ e ∈ o.after, Region.binds .any e = true ∧ e.on = m := by
  simp only [afters, List.mem_map, List.mem_filter]
  constructor
  · rintro ⟨e, ⟨h1, h2⟩, h3⟩; exact ⟨e, by simpa using h1, h2, h3⟩
  · rintro ⟨e, h1, h2, h3⟩; exact ⟨e, ⟨by simpa using h1, h2⟩, h3⟩
theorem waits_ok {l : List Oper} {S : Nat → Bool} (hc : ∀ (j : Nat) (o : Oper), l[j]? = some o → S j = true → ∀ e ∈ o.after, Region.binds .any e = true → S e.on = true) : ∀ {f j i : Nat}, waits l f j i = true → S j = true → S i = true
  | 0, _, _, h, _ => by simp [waits] at h
  | f + 1, j, i, h, hs => by
    simp only [waits] at h
    split at h
    · rename_i o ho
      rw [List.any_eq_true] at h
      obtain ⟨m, hm, h⟩ := h
      obtain ⟨e, he, hb, rfl⟩ := mem_afters.1 hm
      have h1 := hc j o ho hs e he hb
      rw [Bool.or_eq_true] at h
      rcases h with h | h
      · rw [← Nat.eq_of_beq_eq_true h]; exact h1
      · exact waits_ok hc h h1
    · simp at h
theorem waits_lt {l : List Oper} (hwf : ∀ (i : Nat) (o : Oper), l[i]? = some o → ∀ m ∈ afters o, m < i) : ∀ {f j i : Nat}, waits l f j i = true → i < j
  | 0, _, _, h => by simp [waits] at h
  | f + 1, j, i, h => by
    simp only [waits] at h
    split at h
    · rename_i o ho
      rw [List.any_eq_true] at h
      obtain ⟨m, hm, h⟩ := h
      have h1 := hwf j o ho m hm
      rw [Bool.or_eq_true] at h
      rcases h with h | h
      · rw [← Nat.eq_of_beq_eq_true h]; exact h1
      · have := waits_lt hwf h; omega
    · simp at h
end
end Go.Proofs.Ytidfmgahnmpcdaa
