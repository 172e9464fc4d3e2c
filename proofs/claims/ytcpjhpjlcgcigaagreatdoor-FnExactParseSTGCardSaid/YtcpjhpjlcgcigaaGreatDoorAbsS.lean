/- Symbolic states: regions that draw their order. No condition. Symbolic states: regions that draw their order, of operations that read, reckon and call. No condition. Symbolic states: a region that draws its order, walked once in the order of the text. No condition. Symbolic states: the rules of a region that draws its order, operation by operation; ends. No condition. Symbolic states: values by their types (Ty), and as plain data (D): the same. No condition. -/
import Derived.Test.YtcpjhpjlcgcigaaGreatDoorAbsN
set_option linter.unusedSimpArgs false
set_option linter.unusedVariables false
namespace Go.Proofs.YtcpjhpjlcgcigaaGreatDoor
open Go.ChangeShapes Go.WideShapes Go.ChangeAt Go.RowKit

section
variable {P : Program}

theorem wp_weak' {o : Oper} {a : Act} {w : World} {K : Act → World → Prop} {Q : Exit → Act → World → Prop} (hh : o.wp P a w K (fun _ _ _ => False)) : o.wp P a w K Q := by
  unfold Oper.wp at *
  generalize (execOp a.eval o).run P w = r at *
  cases r with
  | ok n w' =>
    cases n <;> simp only [Oper.upon] at hh ⊢
    case value => exact hh
    case skip => exact hh
    case defer => exact hh
    case enter => exact Calls.mono hh (fun e w'' he => by cases e with | returned v => exact he | panicked c => exact he.elim | outgrown => obtain ⟨_, _, h⟩ := he; exact h.elim)
    case row => exact hh
  | halt x w' => cases x <;> simp only [Oper.upon] at hh ⊢

/-- A region in whatever order: what holds of the states by which operations are done. -/
theorem wp_region_inv {l : List Oper} {id : Nat} {Q : Exit → Act → World → Prop} {a0 : Act} {w0 : World} (I : (Nat → Bool) → Act → World → Prop) (hm : P.follows .mixedOrders = true)
    (hwf : ∀ (i : Nat) (o : Oper), l[i]? = some o → ∀ e ∈ o.after, Region.binds .any e = true → e.on < i) (h0 : I (fun _ => false) a0 { w0 with drawn := w0.drawn + 1 })
    (step : ∀ (S : Nat → Bool) (a : Act) (w : World) (i : Nat) (o : Oper), (∀ j, S j = true → j < l.length) → (∀ (j : Nat) (o' : Oper), l[j]? = some o' → S j = true → ∀ e ∈ o'.after, Region.binds .any e = true → S e.on = true) → I S a w → l[i]? = some o → S i = false → (∀ e ∈ o.after, Region.binds .any e = true → S e.on = true) →
      if Region.wanted o (yielded l.toArray a.tmps) then o.wp P a w (fun a' w' => I (fun j => if j = i then true else S j) a' w') (fun _ _ _ => False) else I (fun j => if j = i then true else S j) (a.put o.dst undef) w)
    (fin : ∀ S a w, (∀ i, i < l.length → S i = true) → I S a w → Q .normal a w) : (Code.region id l.toArray true).wp P Q a0 w0 := by
  have hend : ∀ listed : Array Bool, listed.size = l.length → Region.ready .any l.toArray listed = [] → ∀ i, i < l.length → listed.getD i false = true := by
    intro listed hs hr i
    induction i using Nat.strongRecOn with
    | _ i ih =>
      intro hi
      apply Classical.byContradiction
      intro hno
      have hli : l[i]? = some l[i] := List.getElem?_eq_getElem hi
      have : i ∈ Region.ready .any l.toArray listed := by
        rw [mem_ready]
        refine ⟨?_, l[i], by simp [hi], fun e he hb => ih e.on (hwf i _ hli e he hb) (by have := hwf i _ hli e he hb; omega)⟩
        have e1 : listed.getD i true = listed.getD i false := by
          simp only [Array.getD_eq_getD_getElem?]; rw [Array.getElem?_eq_getElem (by omega)]; rfl
        rw [e1]; simpa using hno
      rw [hr] at this
      simp at this
  have hsame : ∀ (listed : Array Bool) (i : Nat), i < listed.size → (fun j => (listed.setIfInBounds i true).getD j false) = fun j => if j = i then true else listed.getD j false := by
    intro listed i hi
    funext j
    by_cases e : j = i
    · subst e; simp only [if_true, Array.getD_eq_getD_getElem?]; rw [Array.getElem?_setIfInBounds_self_of_lt hi]; rfl
    · rw [if_neg e]; simp only [Array.getD_eq_getD_getElem?]; rw [Array.getElem?_setIfInBounds_ne (Ne.symm e)]
  have hclosed : ∀ (listed : Array Bool), listed.size = l.length → ∀ i, i ∈ Region.ready .any l.toArray listed → (∀ (j : Nat) (o' : Oper), l[j]? = some o' → listed.getD j false = true → ∀ e ∈ o'.after, Region.binds .any e = true → listed.getD e.on false = true) →
      (∀ (j : Nat) (o' : Oper), l[j]? = some o' → (listed.setIfInBounds i true).getD j false = true → ∀ e ∈ o'.after, Region.binds .any e = true → (listed.setIfInBounds i true).getD e.on false = true) := by
    intro listed hs i hi hc j o' hj hlj e he hb
    obtain ⟨hn, o, ho, hall⟩ := mem_ready.1 hi
    simp only [List.getElem?_toArray] at ho
    have hil : i < l.length := (List.getElem?_eq_some_iff.1 ho).1
    have hfun := hsame listed i (by omega)
    have h1 := congrFun hfun j
    have h2 := congrFun hfun e.on
    rw [h2]
    split
    · rfl
    · rename_i hne
      by_cases hji : j = i
      · subst hji
        rw [ho] at hj; cases hj
        exact hall e he hb
      · rw [h1, if_neg hji] at hlj
        exact hc j o' hj hlj e he hb
  refine wp_region_any hm ?_
  have main : ∀ (fuel : Nat) (listed : Array Bool) (a : Act) (w : World), listed.size = l.length → I (fun j => listed.getD j false) a w → (∀ (j : Nat) (o' : Oper), l[j]? = some o' → listed.getD j false = true → ∀ e ∈ o'.after, Region.binds .any e = true → listed.getD e.on false = true) →
      ((List.range l.length).filter fun j => !listed.getD j false).length ≤ fuel → wpAny P .any l.toArray Q fuel listed a w := by
    intro fuel
    induction fuel with
    | zero =>
      intro listed a w hs h hcl hc
      have hnil := List.eq_nil_of_length_eq_zero (Nat.le_zero.1 hc)
      rw [List.filter_eq_nil_iff] at hnil
      have hall : ∀ i, i < l.length → listed.getD i false = true := fun i hi => by simpa using hnil i (List.mem_range.2 hi)
      have hr : Region.ready .any l.toArray listed = [] := by
        apply List.eq_nil_iff_forall_not_mem.2
        intro j hj
        obtain ⟨hn, o, ho, _⟩ := mem_ready.1 hj
        simp only [List.getElem?_toArray] at ho
        have hjl : j < l.length := (List.getElem?_eq_some_iff.1 ho).1
        have := hall j hjl
        simp only [Array.getD_eq_getD_getElem?] at this hn
        rw [Array.getElem?_eq_getElem (by omega)] at this hn
        simp only [Option.getD_some] at this hn
        rw [this] at hn; exact Bool.noConfusion hn
      exact ⟨hr, fin _ a w hall h⟩
    | succ fuel ih =>
      intro listed a w hs h hcl hc
      refine ⟨fun hr => fin _ a w (hend listed hs hr) h, fun i hi => ?_⟩
      have hcl' := hclosed listed hs i hi hcl
      obtain ⟨hn, o, ho, hall⟩ := mem_ready.1 hi
      simp only [List.getElem?_toArray] at ho
      have hil : i < l.length := (List.getElem?_eq_some_iff.1 ho).1
      have hnl : listed.getD i false = false := by
        have e1 : listed.getD i true = listed.getD i false := by
          simp only [Array.getD_eq_getD_getElem?]; rw [Array.getElem?_eq_getElem (by omega)]; rfl
        rw [← e1]; exact hn
      have hlt : ((List.range l.length).filter fun j => !(listed.setIfInBounds i true).getD j false).length ≤ fuel := by
        have hfun := hsame listed i (by omega)
        have hsub : ((List.range l.length).filter fun j => !(listed.setIfInBounds i true).getD j false) = (((List.range l.length).filter fun j => !listed.getD j false).filter fun j => !(listed.setIfInBounds i true).getD j false) := by
          rw [List.filter_filter]
          refine List.filter_congr fun j _ => ?_
          have := congrFun hfun j
          rw [this]
          split <;> simp
        have : ((List.range l.length).filter fun j => !(listed.setIfInBounds i true).getD j false).length < ((List.range l.length).filter fun j => !listed.getD j false).length := by
          rw [hsub]
          refine List.length_filter_lt_length_iff_exists.2 ⟨i, ?_, ?_⟩
          · rw [List.mem_filter]
            exact ⟨List.mem_range.2 hil, by simp only [hnl]; rfl⟩
          · have := congrFun hfun i
            simp only [if_true] at this
            rw [this]; simp
        omega
      have hs' : (listed.setIfInBounds i true).size = l.length := by simpa using hs
      have hst := step (fun j => listed.getD j false) a w i o (fun j hj => by
        apply Classical.byContradiction; intro h'
        simp only [Array.getD_eq_getD_getElem?] at hj
        rw [Array.getElem?_eq_none (by omega)] at hj; exact Bool.noConfusion hj) hcl h ho hnl hall
      rw [← hsame listed i (by omega)] at hst
      unfold wpOp
      simp only [List.getElem?_toArray, ho]
      split
      · rename_i hw
        rw [if_pos hw] at hst
        refine Or.inl (wp_weak' (Oper.wp_mono ?_ hst))
        intro a' w' h'
        exact ih _ a' w' hs' h' hcl' hlt
      · rename_i hw
        rw [if_neg hw] at hst
        exact ih _ _ w hs' hst hcl' hlt
  have hf0 : (fun j => (Array.replicate l.toArray.size false).getD j false) = fun _ => false := by
    funext j
    simp only [Array.getD_eq_getD_getElem?, Array.getElem?_replicate]
    split <;> rfl
  refine main _ _ _ _ (by simp) (by rw [hf0]; exact h0) ?_ (Nat.le_trans (List.length_filter_le _ _) (by simp))
  intro j o' _ hl
  have := congrFun hf0 j
  rw [this] at hl; exact Bool.noConfusion hl
end
end Go.Proofs.YtcpjhpjlcgcigaaGreatDoor
namespace Go.Proofs.YtcpjhpjlcgcigaaGreatDoor
open Go.ChangeShapes Go.WideShapes Go.ChangeAt Go.RowKit

/-! ### An operation asks its operands alone -/
def asksHeap : Op → Bool
  | .load _ _ => true
  | .indexAddr _ _ _ => true
  | .call _ => true
  | _ => false
theorem mapK_congr {α : Type} {ρ ρ' : Operand → D} : ∀ {l : List Operand} {k : List D → Option α}, (∀ x ∈ l, ρ x = ρ' x) → mapK ρ l k = mapK ρ' l k
  | [], _, _ => rfl
  | x :: l, k, h => by
    simp only [mapK]
    rw [h x (by simp)]
    congr 1
    funext d
    exact mapK_congr fun y hy => h y (List.mem_cons_of_mem _ hy)
theorem buildK_congr {α : Type} {ρ ρ' : Operand → D} {fs : List (Nat × Nat)} : ∀ {parts : List (Nat × Operand)} {l : List D} {k : List D → Option α}, (∀ x ∈ parts, ρ x.2 = ρ' x.2) → buildK ρ fs parts l k = buildK ρ' fs parts l k
  | [], _, _, _ => rfl
  | (i, x) :: parts, l, k, h => by
    have ih : ∀ l', buildK ρ fs parts l' k = buildK ρ' fs parts l' k := fun l' => buildK_congr fun y hy => h y (List.mem_cons_of_mem _ hy)
    have hx : ρ x = ρ' x := h (i, x) (by simp)
    simp only [buildK, hx, ih]
theorem pop_congr {tab : Nat → Option TI} {hp hp' : List Blk} {ρ ρ' : Operand → D} {op : Op} (h : ∀ x ∈ op.operands, ρ x = ρ' x) (hh : asksHeap op = true → ∀ x ∈ op.operands, ∀ k, (ρ x).uses k = true → hp[k]? = hp'[k]?) : pop tab hp ρ op = pop tab hp' ρ' op := by
  have hload : ∀ {agg : Bool} {size : Nat} {d : D}, (∀ k, d.uses k = true → hp[k]? = hp'[k]?) → loadD hp agg size d = loadD hp' agg size d := by
    intro agg size d hd
    cases d with
    | ptr i o => simp only [loadD]; rw [hd i (by simp [D.uses])]
    | _ => rfl
  have hlen : ∀ {d : D}, (∀ k, d.uses k = true → hp[k]? = hp'[k]?) → lenD hp d = lenD hp' d := by
    intro d hd
    cases d with
    | own i => simp only [lenD]; rw [hd i (by simp [D.uses])]
    | lit v => cases v <;> rfl
    | old w A d => cases d <;> rfl
    | _ => rfl
  cases op <;> simp only [Op.operands, asksHeap] at h hh <;> try rfl
  case move x => simp only [pop]; rw [h x (by simp)]
  case assign x => simp only [pop]; rw [h x (by simp)]
  case pick c a b => simp only [pop]; rw [h c (by simp), h a (by simp), h b (by simp)]
  case build t parts =>
    simp only [pop]
    split
    · split
      · congr 1; funext l
        exact buildK_congr fun y hy => h y.2 (by simp; exact ⟨y.1, by simpa using hy⟩)
      · rfl
    · rfl
  case load t x =>
    simp only [pop]
    split
    · rw [hload (hh trivial x (by simp)), h x (by simp)]
    · rfl
  case binOp op t x y ty => simp only [pop]; rw [h x (by simp), h y (by simp)]
  case unOp op t x => simp only [pop]; rw [h x (by simp)]
  case slice t x lo hi mx =>
    have hx := h x (by simp)
    have hb : ∀ (len : Int) (f0 : D) (f1 f2 : Int → D) (f3 : Int → Int → D), boundsK ρ len lo hi f0 f1 f2 f3 = boundsK ρ' len lo hi f0 f1 f2 f3 := by
      intro len f0 f1 f2 f3
      cases lo with
      | none => cases hi with
        | none => rfl
        | some b => simp only [boundsK]; rw [h b (by simp)]
      | some a => cases hi with
        | none => simp only [boundsK]; rw [h a (by simp)]
        | some b => simp only [boundsK]; rw [h a (by simp), h b (by simp)]
    simp only [pop, sliceD, hx, hb]
  case convert s t x => simp only [pop]; rw [h x (by simp)]
  case nilCheck x => simp only [pop]; rw [h x (by simp)]
  case makeFunc fn first cap =>
    simp only [pop]
    split
    · exact mapK_congr fun x hx => h x (by simp; exact Or.inr (by simpa using hx))
    · rfl
  case fieldAddr s x f => simp only [pop]; rw [h x (by simp)]
  case indexAddr t x i =>
    simp only [pop]
    have hk := hh trivial x (by simp)
    rw [← h x (by simp), ← h i (by simp)]
    generalize ρ x = dx at *
    cases dx with
    | own k => have e := hk k (by simp [D.uses]); simp only [idxOwn, e]
    | _ => rfl
  case index t x i => simp only [pop]; rw [h x (by simp), h i (by simp)]
  case extract x i => simp only [pop]; rw [h x (by simp)]
  case call c =>
    obtain ⟨callee, args, argTypes⟩ := c
    simp only [pop]
    split
    · rename_i x t e1 e2
      have hm : x ∈ ({ callee := .builtin .len, args := args, argTypes := argTypes } : Call).operands := by
        simp only [Call.operands]
        have : x ∈ args := by rw [← Array.mem_toList_iff, e1]; simp
        simpa using this
      have hx := h x hm
      have hk := hh trivial x hm
      unfold lenOp
      rw [← hx]
      split
      · rfl
      · split
        · rfl
        · rw [hlen hk]
      · rfl
    · rename_i x y e1
      have hx := h x (by simp only [Call.operands]; have : x ∈ args := by (rw [← Array.mem_toList_iff, e1]; simp)
                         simpa using this)
      have hy := h y (by simp only [Call.operands]; have : y ∈ args := by (rw [← Array.mem_toList_iff, e1]; simp)
                         simpa using this)
      rw [hx, hy]
    · rename_i x y e1
      have hx := h x (by simp only [Call.operands]; have : x ∈ args := by (rw [← Array.mem_toList_iff, e1]; simp)
                         simpa using this)
      have hy := h y (by simp only [Call.operands]; have : y ∈ args := by (rw [← Array.mem_toList_iff, e1]; simp)
                         simpa using this)
      rw [hx, hy]
    · rfl

/-! ### Entries that are not there yet -/
def phE : Ent := ⟨undef, none, []⟩
mutual
theorem VX.noPh {ms : List Ent} {w : World} {Ok : Nat → Prop} : ∀ {d : D} {u : Value} {k : Nat}, VX ms w Ok d u → d.uses k = true → ∃ e, ms[k]? = some e ∧ ((∃ a n c, e.v = .slice a n c) ∨ e.top ≠ none)
  | _, _, _, .no, h => by simp [D.uses] at h
  | _, _, _, .rd h _, hu => by cases h <;> simp [D.uses] at hu
  | _, _, _, .own h h', hu => by simp [D.uses] at hu; subst hu; exact ⟨_, h, Or.inl h'⟩
  | _, _, _, .vec h h', hu => by simp [D.uses] at hu; subst hu; exact ⟨_, h, Or.inr (by rw [h']; simp)⟩
  | _, _, _, .ptr h h', hu => by simp [D.uses] at hu; subst hu; exact ⟨_, h, Or.inr (by rw [h']; simp)⟩
  | _, _, _, .pin h h', hu => by simp [D.uses] at hu; subst hu; exact ⟨_, h, Or.inr (by rw [h']; simp)⟩
  | _, _, _, .eptr h h', hu => by simp [D.uses] at hu; subst hu; exact ⟨_, h, Or.inr (by rw [h']; simp)⟩
  | _, _, _, .part h h' _, hu => by simp [D.uses] at hu; subst hu; exact ⟨_, h, Or.inl ⟨_, _, _, h'⟩⟩
  | _, _, _, .sptr _ _ _ _, h => by simp [D.uses] at h
  | _, _, _, .agg h, hu => VXs.noPh h (by simpa [D.uses] using hu)
  | _, _, _, .tup h, hu => VXs.noPh h (by simpa [D.uses] using hu)
  | _, _, _, .fn h, hu => VXs.noPh h (by simpa [D.uses] using hu)
  | _, _, _, .old _ _, hu => by simp [D.uses] at hu
  | _, _, _, .val, hu => by simp [D.uses] at hu
theorem VXs.noPh {ms : List Ent} {w : World} {Ok : Nat → Prop} : ∀ {ds : List D} {us : List Value} {k : Nat}, VXs ms w Ok ds us → D.usesL k ds = true → ∃ e, ms[k]? = some e ∧ ((∃ a n c, e.v = .slice a n c) ∨ e.top ≠ none)
  | _, _, _, .nil, h => by simp [D.usesL] at h
  | _, _, _, .cons h h', hu => by
    simp only [D.usesL, Bool.or_eq_true] at hu
    rcases hu with hu | hu
    · exact VX.noPh h hu
    · exact VXs.noPh h' hu
end

section
variable {P : Program} {w0 w w' : World} {A A' : Nat → Prop} {n : Nat} {sl : List (Nat × D)} {hp : List Blk} {ms mr : List Ent} {a : Act}

/-- Memory is made in the place that was kept for it. -/
theorem Rel.fill {h1 h2 rh : List Blk} (hr : Rel w0 A ms ⟨n, sl, h1 ++ rh.map (fun _ => .gone) ++ h2⟩ a w) (hph : ∀ k, h1.length ≤ k → k < h1.length + rh.length → ms[k]? = some phE) (x : Ext w w') (hl : mr.length = rh.length) (hn : (owned mr).Nodup) (hrg : ∀ k ∈ owned mr, w.heap.size ≤ k ∧ k < w'.heap.size)
    (he : ∀ ms' : List Ent, (∀ k, k ∈ tops ms' → k ∈ tops ms ∨ k ∈ tops mr) → ∀ (i : Nat) (b : Blk) (e : Ent), rh[i]? = some b → mr[i]? = some e → EntR w0.heap.size ms' w' (OkB w0.heap.size A ms' w') b e) :
    ∃ ms', Rel w0 A ms' ⟨n, sl, h1 ++ rh ++ h2⟩ a w' ∧ (∀ (i : Nat) (e : Ent), mr[i]? = some e → ms'[h1.length + i]? = some e) ∧ (∀ (i : Nat), i < h1.length ∨ h1.length + rh.length ≤ i → ms'[i]? = ms[i]?) ∧ (∀ k, k ∈ tops ms' → k ∈ tops ms ∨ k ∈ tops mr) ∧ (∀ k, OkB w0.heap.size A ms w k → w'.heap[k]? = w.heap[k]? ∧ OkB w0.heap.size A ms' w' k) := by
  have hb := hr.ext.size
  have hlen := hr.len
  simp only [List.length_append, List.length_map] at hlen
  have hA : (ms.take h1.length).length = h1.length := by rw [List.length_take]; omega
  have hget1 : ∀ (i : Nat) (e : Ent), mr[i]? = some e → (ms.take h1.length ++ mr ++ ms.drop (h1.length + rh.length))[h1.length + i]? = some e := by
    intro i e hi
    have hil := (List.getElem?_eq_some_iff.1 hi).1
    rw [List.append_assoc, List.getElem?_append_right (by omega), hA, Nat.add_sub_cancel_left, List.getElem?_append_left hil]; exact hi
  have hget2 : ∀ (i : Nat), i < h1.length ∨ h1.length + rh.length ≤ i → (ms.take h1.length ++ mr ++ ms.drop (h1.length + rh.length))[i]? = ms[i]? := by
    intro i hi
    rcases hi with hi | hi
    · rw [List.append_assoc, List.getElem?_append_left (by omega), List.getElem?_take, if_pos hi]
    · rw [List.getElem?_append_right (by simp [hA, hl]; omega), List.getElem?_drop]
      congr 1; simp [hA, hl]; omega
  have htops : ∀ k, k ∈ tops (ms.take h1.length ++ mr ++ ms.drop (h1.length + rh.length)) → k ∈ tops ms ∨ k ∈ tops mr := by
    intro k hk
    rw [tops_append, tops_append, List.mem_append, List.mem_append] at hk
    rcases hk with (hk | hk) | hk
    · left; simp only [tops, List.mem_filterMap] at hk ⊢; obtain ⟨e, he, ht⟩ := hk; exact ⟨e, List.mem_of_mem_take he, ht⟩
    · right; exact hk
    · left; simp only [tops, List.mem_filterMap] at hk ⊢; obtain ⟨e, he, ht⟩ := hk; exact ⟨e, List.mem_of_mem_drop he, ht⟩
  have hk : ∀ k, OkB w0.heap.size A ms w k → w'.heap[k]? = w.heap[k]? ∧ OkB w0.heap.size A (ms.take h1.length ++ mr ++ ms.drop (h1.length + rh.length)) w' k := by
    intro k ⟨k1, k2, k3⟩
    refine ⟨x.heap k1, Nat.lt_of_lt_of_le k1 x.size, k2, fun h => ?_⟩
    rcases htops k h with h | h
    · exact k3 h
    · have := hrg k (tops_owned h); omega
  have hm : ∀ (i : Nat) (e : Ent), ((∃ a n c, e.v = .slice a n c) ∨ e.top ≠ none) → ms[i]? = some e → (ms.take h1.length ++ mr ++ ms.drop (h1.length + rh.length))[i]? = some e := by
    intro i e hne hi
    by_cases hin : h1.length ≤ i ∧ i < h1.length + rh.length
    · have := hph i hin.1 hin.2
      rw [hi] at this
      cases this
      rcases hne with ⟨_, _, _, h⟩ | h
      · simp [phE, undef] at h
      · simp [phE] at h
    · rw [hget2 i (by omega)]; exact hi
  have hvx : ∀ {d : D} {u : Value}, VX ms w (OkB w0.heap.size A ms w) d u → VX (ms.take h1.length ++ mr ++ ms.drop (h1.length + rh.length)) w' (OkB w0.heap.size A (ms.take h1.length ++ mr ++ ms.drop (h1.length + rh.length)) w') d u := by
    intro d u h
    refine VX.mono hk h fun i e hu hi => ?_
    obtain ⟨e', h1', h2'⟩ := h.noPh hu
    rw [hi] at h1'; cases h1'
    exact hm i e h2' hi
  have hown : owned ms = owned (ms.take h1.length) ++ owned (ms.drop h1.length) := by rw [← owned_append, List.take_append_drop]
  have hown2 : owned (ms.drop h1.length) = owned ((ms.drop h1.length).take rh.length) ++ owned (ms.drop (h1.length + rh.length)) := by
    rw [← owned_append, ← List.drop_drop, List.take_append_drop]
  have hnd := hr.nodup
  rw [hown, hown2] at hnd
  have hnd1 := List.nodup_append.1 hnd
  have hnd2 := List.nodup_append.1 hnd1.2.1
  have hold : ∀ k, k ∈ owned (ms.take h1.length) ∨ k ∈ owned (ms.drop (h1.length + rh.length)) → k ∈ owned ms := by
    intro k hk
    rw [hown, hown2, List.mem_append, List.mem_append]
    rcases hk with hk | hk
    · exact Or.inl hk
    · exact Or.inr (Or.inr hk)
  refine ⟨_, ⟨hr.ext.trans x, hr.old, hr.size, hr.defers, ?_, ?_, ?_, ?_, fun t => hvx (hr.slots t)⟩, hget1, hget2, htops, hk⟩
  · simp [hl]; omega
  · rw [owned_append, owned_append]
    refine List.nodup_append.2 ⟨List.nodup_append.2 ⟨hnd1.1, hn, fun p hp q hq e => ?_⟩, hnd2.2.1, fun p hp q hq e => ?_⟩
    · subst e
      have := hr.range p (hold p (Or.inl hp)); have := hrg p hq; omega
    · subst e
      rcases List.mem_append.1 hp with hp | hp
      · exact hnd1.2.2 p hp p (List.mem_append_right _ hq) rfl
      · have := hr.range p (hold p (Or.inr hq)); have := hrg p hp; omega
  · intro k hk'
    rw [owned_append, owned_append, List.mem_append, List.mem_append] at hk'
    rcases hk' with (hk' | hk') | hk'
    · have := hr.range k (hold k (Or.inl hk')); exact ⟨this.1, Nat.lt_of_lt_of_le this.2 x.size⟩
    · have := hrg k hk'; exact ⟨by omega, this.2⟩
    · have := hr.range k (hold k (Or.inr hk')); exact ⟨this.1, Nat.lt_of_lt_of_le this.2 x.size⟩
  · intro i b e hi hei
    by_cases hin : h1.length ≤ i ∧ i < h1.length + rh.length
    · have hb' : rh[i - h1.length]? = some b := by
        simp only [List.append_assoc] at hi
        rw [List.getElem?_append_right (by omega), List.getElem?_append_left (by omega)] at hi; exact hi
      have he' : mr[i - h1.length]? = some e := by
        rw [List.append_assoc, List.getElem?_append_right (by omega), hA, List.getElem?_append_left (by omega)] at hei; exact hei
      exact he _ htops _ b e hb' he'
    · have hb' : (h1 ++ rh.map (fun _ => Blk.gone) ++ h2)[i]? = some b := by
        by_cases hlt : i < h1.length
        · simp only [List.append_assoc] at hi ⊢
          rw [List.getElem?_append_left hlt] at hi ⊢; exact hi
        · simp only [List.getElem?_append_right (show (h1 ++ rh).length ≤ i by simp; omega)] at hi
          rw [List.getElem?_append_right (by simp; omega)]
          simpa using hi
      rw [hget2 i (by omega)] at hei
      have hE := hr.ents i b e hb' hei
      have ho1 : ∀ k, k ∈ e.top.toList ++ e.nest → w'.heap[k]? = w.heap[k]? := fun k hk => x.heap (hr.range k (ent_owned hei hk)).2
      cases b with
      | gone => exact hE
      | fr _ _ => exact hE.mono hk (fun k h => ho1 k (by simp [h])) (fun k h => ho1 k (List.mem_append_right _ h)) fun _ _ hu _ => by simp [Blk.uses] at hu
      | cust _ => exact hE.mono hk (fun k h => ho1 k (by simp [h])) (fun k h => ho1 k (List.mem_append_right _ h)) fun _ _ hu _ => by simp [Blk.uses] at hu
      | arr _ _ _ _ => exact hE.mono hk (fun k h => ho1 k (by simp [h])) (fun k h => ho1 k (List.mem_append_right _ h)) fun _ _ hu _ => by simp [Blk.uses] at hu
      | cells t ds =>
        obtain ⟨g, us', rfl, h3, h4⟩ := hE
        refine ⟨g, us', rfl, by rw [ho1 g (by simp)]; exact h3, VXs.mono hk h4 fun j e2 hu hj => ?_⟩
        obtain ⟨e', h1', h2'⟩ := h4.noPh hu
        rw [hj] at h1'; cases h1'
        exact hm j e2 h2' hj

end

/-! ### Values of older worlds -/
def unold1 : D → D
  | .old _ _ d => d
  | d => d
def unold : D → D
  | .agg ds => .agg (ds.map unold1)
  | d => unold1 d
def oldOk1 (w0 : World) (A : Nat → Prop) : D → Prop
  | .old w B _ => w = w0 ∧ B = A
  | _ => True
def oldOkL1 (w0 : World) (A : Nat → Prop) : List D → Prop
  | [] => True
  | d :: l => oldOk1 w0 A d ∧ oldOkL1 w0 A l
def oldOk (w0 : World) (A : Nat → Prop) : D → Prop
  | .agg ds => oldOkL1 w0 A ds
  | d => oldOk1 w0 A d
def oldOks (w0 : World) (A : Nat → Prop) : List D → Prop
  | [] => True
  | d :: l => oldOk w0 A d ∧ oldOks w0 A l

section
variable {P : Program} {w0 w w' : World} {A : Nat → Prop} {n : Nat} {sl : List (Nat × D)} {hp : List Blk} {ms : List Ent} {a : Act} {s : St}

theorem unold1_ok (hr : Rel w0 A ms s a w) {d : D} {u : Value} (h : VX ms w (OkB w0.heap.size A ms w) d u) (ho : oldOk1 w0 A d) : VX ms w (OkB w0.heap.size A ms w) (unold1 d) u := by
  cases d with
  | old wo B d =>
    obtain ⟨rfl, rfl⟩ := ho
    cases h with
    | rd h _ => cases h
    | old h h' =>
      exact .rd (h.keep fun k m => hr.ext.heap (hr.old k (h' k m))) fun k m => ⟨Nat.lt_of_lt_of_le (hr.old k (h' k m)) hr.ext.size, Or.inr (h' k m), fun ht => by
        have := hr.range k (tops_owned ht); have := hr.old k (h' k m); omega⟩
  | _ => exact h
theorem unoldL1_ok (hr : Rel w0 A ms s a w) : ∀ {ds : List D} {us : List Value}, VXs ms w (OkB w0.heap.size A ms w) ds us → oldOkL1 w0 A ds → VXs ms w (OkB w0.heap.size A ms w) (ds.map unold1) us
  | [], _, .nil, _ => .nil
  | d :: ds, _, .cons h h', ho => .cons (unold1_ok hr h ho.1) (unoldL1_ok hr h' ho.2)
theorem unold_ok (hr : Rel w0 A ms s a w) {d : D} {u : Value} (h : VX ms w (OkB w0.heap.size A ms w) d u) (ho : oldOk w0 A d) : VX ms w (OkB w0.heap.size A ms w) (unold d) u := by
  cases d with
  | agg ds =>
    obtain ⟨us, rfl, h1⟩ := h.agg_inv
    exact .agg (unoldL1_ok hr h1 ho)
  | old wo B d => exact unold1_ok hr h ho
  | _ => exact h
theorem unolds_ok (hr : Rel w0 A ms s a w) : ∀ {ds : List D} {us : List Value}, VXs ms w (OkB w0.heap.size A ms w) ds us → oldOks w0 A ds → VXs ms w (OkB w0.heap.size A ms w) (ds.map unold) us
  | [], _, .nil, _ => .nil
  | d :: ds, _, .cons h h', ho => .cons (unold_ok hr h ho.1) (unolds_ok hr h' ho.2)

/-- A call that is handed memory of the call's own, or older values. -/
theorem R_callx {ops : Array Oper} {rest : List Oper} {K : St → Prop} {dst : Tmp} {ty : TypeId} {pos : String} {after : Array Edge} {f : FuncId} {fo : Operand} {args : Array Operand} {tys : Array TypeId} {ds caps : List D} {d : D} {rh : List Blk} (hf : evD (look sl) fo = .fn f caps)
    (hds : mapK (evD (look sl)) args.toList (fun l => argsFK hp ((l ++ caps).map unold) fun l => some l) = some ds) (hd : Nat.blt dst n = true) (hF : Fn P f ds d rh) (hno : noRd d = true) (hdeep : rh.all Blk.isDeep = true) (hold : oldOks w0 A (args.toList.map (evD (look sl)) ++ caps))
    (hk : WO P w0 A ops rest ⟨n, (dst, d.shift hp.length) :: sl, hp ++ rh⟩ K) : WO P w0 A ops (⟨some dst, .call ⟨.value fo, args, tys⟩, ty, pos, after, none⟩ :: rest) ⟨n, sl, hp⟩ K := by
  refine ⟨fun ms a w hr Q hq => ?_⟩
  refine wpList_plain rfl fun Kn hKn => ?_
  obtain ⟨cs, e1, hcs⟩ := (hr.ev_at hf).fn_inv
  have hds := mapK_eq hds
  have hv : VXs ms w (OkB w0.heap.size A ms w) (args.toList.map (evD (look sl)) ++ caps) (args.toList.map a.eval ++ cs) := (VXs.of_map fun x _ => hr.ev x).append hcs
  obtain ⟨l, h1, h2⟩ := argsFK_ok hr (unolds_ok hr hv hold) hds
  simp only [Option.some.injEq] at h2
  subst h2
  refine enter_call (run_call (o := ⟨some dst, .call ⟨.value fo, args, tys⟩, ty, pos, after, none⟩) rfl hF.plain e1) ((hF.calls (Lt w) w _ (fun k hk => hk) h1).mono ?_)
  rintro e w' ⟨v, mr, rfl, hpost⟩
  have hr' := hr.called hF.arrs (Or.inr hdeep) hpost
  have hlen := hr.len
  simp only at hlen
  have hval : VX (ms ++ mr) w' (OkB w0.heap.size A (ms ++ mr) w') (d.shift hp.length) v := noRd_ok (fun i e he => by rw [List.getElem?_append_right (by omega), hlen, Nat.add_sub_cancel_left]; exact he) hpost.val hno
  exact ⟨v, rfl, hKn _ _ (hk.run _ _ w' (Rel.put (t := some dst) hr' hval (dstOk_all (s := ⟨n, _, _⟩) (t := some dst) hd)) Q hq)⟩
end

/-! ### Arguments ask the entries that they name alone -/
section
variable {hp hp' : List Blk} {α : Type}
theorem cellV_mono {d d' : D} (hh : ∀ (k : Nat) (b : Blk), d.uses k = true → hp[k]? = some b → hp'[k]? = some b) (h : cellV hp d = some d') : cellV hp' d = some d' := by
  cases d with
  | own i =>
    simp only [cellV] at h ⊢
    cases hb : hp[i]? with
    | none => simp [hb] at h
    | some b => rw [hb] at h; rw [hh i b (by simp [D.uses]) hb]; exact h
  | _ => exact h
theorem cellsVK_mono : ∀ {ds : List D} {k k' : List D → Option α} {r : α}, (∀ (i : Nat) (b : Blk), D.usesL i ds = true → hp[i]? = some b → hp'[i]? = some b) → (∀ l, k l = some r → k' l = some r) → cellsVK hp ds k = some r → cellsVK hp' ds k' = some r
  | [], _, _, _, _, hk, h => hk _ h
  | d :: ds, k, k', r, hh, hk, h => by
    simp only [cellsVK] at h ⊢
    cases hd : cellV hp d with
    | none => simp [hd] at h
    | some d' =>
      rw [hd] at h
      rw [cellV_mono (fun k b hu hb => hh k b (by simp [D.usesL, hu]) hb) hd]
      exact cellsVK_mono (fun k b hu hb => hh k b (by simp [D.usesL, hu]) hb) (fun l h => hk _ h) h
/-- An argument that is no address. -/
def argO {α : Type} (hp : List Blk) : D → (D → Option α) → Option α
  | .agg ds, k => cellsVK hp ds fun l => k (.agg l)
  | d, k => match cellV hp d with
    | some d' => k d'
    | none => none
def argsOK {α : Type} (hp : List Blk) : List D → (List D → Option α) → Option α
  | [], k => k []
  | d :: ds, k => argO hp d fun d' => argsOK hp ds fun l => k (d' :: l)
theorem argO_mono {d : D} {k k' : D → Option α} {r : α} (hh : ∀ (i : Nat) (b : Blk), d.uses i = true → hp[i]? = some b → hp'[i]? = some b) (hk : ∀ l, k l = some r → k' l = some r) (h : argO hp d k = some r) : argO hp' d k' = some r := by
  have key : ∀ d', cellV hp d = some d' → k d' = some r → (match cellV hp' d with | some d' => k' d' | none => none) = some r := by
    intro d' hd h
    rw [cellV_mono hh hd]; exact hk _ h
  cases d with
  | agg ds => exact cellsVK_mono (fun i b hu hb => hh i b (by simpa [D.uses] using hu) hb) (fun l h => hk _ h) h
  | _ =>
    simp only [argO] at h ⊢
    split at h
    · rename_i d' hd; exact key d' hd h
    · simp at h
theorem argsOK_mono : ∀ {ds : List D} {k k' : List D → Option α} {r : α}, (∀ (i : Nat) (b : Blk), D.usesL i ds = true → hp[i]? = some b → hp'[i]? = some b) → (∀ l, k l = some r → k' l = some r) → argsOK hp ds k = some r → argsOK hp' ds k' = some r
  | [], _, _, _, _, hk, h => hk _ h
  | d :: ds, k, k', r, hh, hk, h => argO_mono (fun i b hu hb => hh i b (by simp [D.usesL, hu]) hb) (fun d' h => argsOK_mono (fun i b hu hb => hh i b (by simp [D.usesL, hu]) hb) (fun l h => hk _ h) h) h
end
section
variable {w0 w : World} {A : Nat → Prop} {n : Nat} {sl : List (Nat × D)} {hp : List Blk} {ms : List Ent} {a : Act} {α : Type}
theorem argO_ok (hr : Rel w0 A ms ⟨n, sl, hp⟩ a w) {d : D} {u : Value} {k : D → Option α} {r : α} (h : VX ms w (OkB w0.heap.size A ms w) d u) (hk : argO hp d k = some r) : ∃ d', VX [] w (Lt w) d' u ∧ k d' = some r := by
  unfold argO at hk
  split at hk
  · obtain ⟨us, rfl, h1⟩ := h.agg_inv
    obtain ⟨l, bs, h7, h8, h9⟩ := cellsVK_ok hr h1 hk
    exact ⟨_, .agg (VXs.of_rd h7 h8), h9⟩
  · split at hk
    · rename_i d' hd
      obtain ⟨bs, h1, h2⟩ := cellV_ok hr h hd
      exact ⟨d', .rd h1 h2, hk⟩
    · simp at hk
theorem argsOK_ok (hr : Rel w0 A ms ⟨n, sl, hp⟩ a w) : ∀ {ds : List D} {us : List Value} {k : List D → Option α} {r : α}, VXs ms w (OkB w0.heap.size A ms w) ds us → argsOK hp ds k = some r → ∃ l, VXs [] w (Lt w) l us ∧ k l = some r
  | [], _, _, _, .nil, h => ⟨[], .nil, h⟩
  | d :: ds, _, k, r, .cons h h', hk => by
    obtain ⟨d', h1, h2⟩ := argO_ok hr h hk
    obtain ⟨l, h3, h4⟩ := argsOK_ok hr h' h2
    exact ⟨_, .cons h1 h3, h4⟩
end

/-! ### The chain of operations, in the order of the text -/
structure Rec where
  o : Oper
  t : Tmp
  d : D
  rh : List Blk

def slotsS : List Rec → (Nat → Bool) → Nat → List (Nat × D) → List (Nat × D)
  | [], _, _, sl => sl
  | r :: rs, S, i, sl => slotsS rs S (i + 1) (if S i then (r.t, r.d) :: sl else sl)
def heapS : List Rec → (Nat → Bool) → Nat → List Blk → List Blk
  | [], _, _, hp => hp
  | r :: rs, S, i, hp => heapS rs S (i + 1) (hp ++ if S i then r.rh else r.rh.map fun _ => .gone)

theorem slotsS_none : ∀ (rs : List Rec) (i : Nat) (sl : List (Nat × D)), slotsS rs (fun _ => false) i sl = sl
  | [], _, _ => rfl
  | _ :: rs, i, sl => by simp only [slotsS]; exact slotsS_none rs (i + 1) sl

/-- What is read alone. -/
def isRd : D → Bool
  | .lit _ => true
  | .nil => true
  | .sh _ _ => true
  | _ => false
theorem isRd_ok {ms : List Ent} {w : World} {Ok : Nat → Prop} {d : D} {u : Value} (h : VX ms w Ok d u) (hd : isRd d = true) : ∃ bs, VR w d u bs ∧ ∀ k ∈ bs, Ok k := by
  cases h with
  | rd h1 h2 => exact ⟨_, h1, h2⟩
  | _ => simp [isRd] at hd
theorem isRds_ok {ms : List Ent} {w : World} {Ok : Nat → Prop} : ∀ {ds : List D} {us : List Value}, VXs ms w Ok ds us → ds.all isRd = true → ∃ bs, VRs w ds us bs ∧ ∀ k ∈ bs, Ok k
  | _, _, .nil, _ => ⟨[], .nil, by simp⟩
  | _, _, .cons h h', hd => by
    rw [List.all_cons, Bool.and_eq_true] at hd
    obtain ⟨b1, h1, h2⟩ := isRd_ok h hd.1
    obtain ⟨b2, h3, h4⟩ := isRds_ok h' hd.2
    exact ⟨b1 ++ b2, .cons h1 h3, fun k hk => by rcases List.mem_append.1 hk with hk | hk; exact h2 k hk; exact h4 k hk⟩
theorem litCells_congr {ρ ρ' : Operand → D} {size len : Nat} {zero : List Value} {parts : List (Nat × Operand)} (h : ∀ x ∈ parts, ρ x.2 = ρ' x.2) : litCells ρ size len zero parts = litCells ρ' size len zero parts := by
  unfold litCells
  congr 1; funext z
  exact buildK_congr h

/-- How an operation comes by its value, at slots and memory of the text's order (H: the memory ahead of the region). -/
inductive DStep (P : Program) (w0 : World) (A : Nat → Prop) (tab : Nat → Option TI) (H : Nat) (sl : List (Nat × D)) (hp : List Blk) : Oper → D → List Blk → Prop
  | pop {t : Option Tmp} {op : Op} {ty : TypeId} {pos : String} {after : Array Edge} {c : Prop} {d : D} : pop tab hp (evD (look sl)) op = some (c, d) → (match asksHeap op with | true => op.operands.toList.all fun x => (evD (look sl) x).lt H | false => true) = true → c → DStep P w0 A tab H sl hp ⟨t, op, ty, pos, after, none⟩ d []
  | index {t : Option Tmp} {t' : TypeId} {x i : Operand} {ty : TypeId} {pos : String} {after : Array Edge} {m : Nat} {xs : List (List D)} {j : Int} {r : List D} {e : TypeId} {agg : Bool} {size bytes : Nat} {zero : List Value} {k' : TK} {agg' : Bool} {bytes' : Nat} {zero' : List Value} :
      evD (look sl) x = .sh m xs → evD (look sl) i = .lit (.int .i64 j) → tab t' = some ⟨.sl e, agg, size, bytes, zero⟩ → tab e = some ⟨k', agg', m, bytes', zero'⟩ → RowAt xs j r → DStep P w0 A tab H sl hp ⟨t, .indexAddr t' x i, ty, pos, after, none⟩ (.sptr r) []
  | eload {t : Option Tmp} {t' T : TypeId} {x : Operand} {ty : TypeId} {pos : String} {after : Array Edge} {i m o : Nat} {j : Int} {xs : List (List D)} {r : List D} {dp : Bool} {k : TK} {agg : Bool} {size bytes : Nat} {zero : List Value} {c : Prop} {d : D} :
      evD (look sl) x = .eptr i m j o → Nat.blt i H = true → hp[i]? = some (.arr T m xs dp) → tab t' = some ⟨k, agg, size, bytes, zero⟩ → RowAt xs j r → dropK o r (fun ds => partD agg size ds) = some (c, d) → DStep P w0 A tab H sl hp ⟨t, .load t' x, ty, pos, after, none⟩ d []
  | call {t : Option Tmp} {f : FuncId} {fo : Operand} {args : Array Operand} {tys : Array TypeId} {ty : TypeId} {pos : String} {after : Array Edge} {ds caps : List D} {d : D} {rh : List Blk} : evD (look sl) fo = .fn f caps → mapK (evD (look sl)) args.toList (fun l => some (l ++ caps)) = some ds → D.plainL ds = true → Fn P f ds d rh →
      DStep P w0 A tab H sl hp ⟨t, .call ⟨.value fo, args, tys⟩, ty, pos, after, none⟩ (d.shift hp.length) rh
  | alloc {t : Option Tmp} {T : TypeId} {ty : TypeId} {pos : String} {after : Array Edge} {ds : List D} {k : TK} {agg : Bool} {size bytes : Nat} {zero : List Value} : tab T = some ⟨k, agg, size, bytes, zero⟩ → constK zero (fun l => some l) = some ds → DStep P w0 A tab H sl hp ⟨t, .alloc T, ty, pos, after, none⟩ (.ptr hp.length 0) [.cells T ds]
  | mkS {t : Option Tmp} {t' T : TypeId} {len m : Nat} {parts : Array (Nat × Operand)} {ty : TypeId} {pos : String} {after : Array Edge} {agg : Bool} {size bytes : Nat} {zero : List Value} {k' : TK} {agg' : Bool} {bytes' : Nat} {zero' : List Value} {l : List D} {rs : List (List D)} :
      tab t' = some ⟨.sl T, agg, size, bytes, zero⟩ → tab T = some ⟨k', agg', m, bytes', zero'⟩ → Nat.beq zero'.length m = true → Nat.blt 0 m = true → Nat.ble (len * m) 16777216 = true → litCells (evD (look sl)) m len zero' parts.toList = some l → l.all isRd = true → rowsK m len l = some rs →
      DStep P w0 A tab H sl hp ⟨t, .buildSlice t' len parts, ty, pos, after, none⟩ (.own hp.length) [.arr T m rs false]
  | callx {t : Option Tmp} {f : FuncId} {fo : Operand} {args : Array Operand} {tys : Array TypeId} {ty : TypeId} {pos : String} {after : Array Edge} {ds caps : List D} {d : D} {rh : List Blk} : evD (look sl) fo = .fn f caps → mapK (evD (look sl)) args.toList (fun l => argsOK hp ((l ++ caps).map unold) fun l => some l) = some ds →
      oldOks w0 A (args.toList.map (evD (look sl)) ++ caps) → Fn P f ds d rh → noRd d = true → rh.all Blk.isDeep = true → DStep P w0 A tab H sl hp ⟨t, .call ⟨.value fo, args, tys⟩, ty, pos, after, none⟩ (d.shift hp.length) rh
/-- The whole chain. -/
inductive DRun (P : Program) (w0 : World) (A : Nat → Prop) (tab : Nat → Option TI) (ops : Array Oper) (H : Nat) : List Oper → List (Nat × D) → List Blk → List Rec → Prop
  | nil {sl : List (Nat × D)} {hp : List Blk} : DRun P w0 A tab ops H [] sl hp []
  | step {o : Oper} {rest : List Oper} {t : Tmp} {d : D} {rh : List Blk} {sl : List (Nat × D)} {hp : List Blk} {rs : List Rec} : o.dst = some t → o.guard = none → DStep P w0 A tab H sl hp o d rh → DRun P w0 A tab ops H rest ((t, d) :: sl) (hp ++ rh) rs → DRun P w0 A tab ops H (o :: rest) sl hp (⟨o, t, d, rh⟩ :: rs)
  | on {o : Oper} {rest : List Oper} {t : Tmp} {d : D} {rh : List Blk} {j : Nat} {u : Tmp} {b : Bool} {sl : List (Nat × D)} {hp : List Blk} {rs : List Rec} : o.dst = some t → o.guard = some (j, b) → (ops[j]?).bind (·.dst) = some u → look sl u = .lit (.bool b) → DStep P w0 A tab H sl hp { o with guard := none } d rh → DRun P w0 A tab ops H rest ((t, d) :: sl) (hp ++ rh) rs → DRun P w0 A tab ops H (o :: rest) sl hp (⟨o, t, d, rh⟩ :: rs)
  | off {o : Oper} {rest : List Oper} {t : Tmp} {j : Nat} {u : Tmp} {b : Bool} {sl : List (Nat × D)} {hp : List Blk} {rs : List Rec} : o.dst = some t → o.guard = some (j, b) → (ops[j]?).bind (·.dst) = some u → (look sl u = .lit (.bool !b) ∨ look sl u = .tup []) → DRun P w0 A tab ops H rest ((t, .tup []) :: sl) (hp ++ []) rs → DRun P w0 A tab ops H (o :: rest) sl hp (⟨o, t, .tup [], []⟩ :: rs)

/-- What is known of operation i. -/
inductive DAt (P : Program) (w0 : World) (A : Nat → Prop) (tab : Nat → Option TI) (ops : Array Oper) (H : Nat) (sl : List (Nat × D)) (hp : List Blk) (r : Rec) : Prop
  | step : r.o.guard = none → DStep P w0 A tab H sl hp r.o r.d r.rh → DAt P w0 A tab ops H sl hp r
  | on {j : Nat} {u : Tmp} {b : Bool} : r.o.guard = some (j, b) → (ops[j]?).bind (·.dst) = some u → look sl u = .lit (.bool b) → DStep P w0 A tab H sl hp { r.o with guard := none } r.d r.rh → DAt P w0 A tab ops H sl hp r
  | off {j : Nat} {u : Tmp} {b : Bool} : r.o.guard = some (j, b) → (ops[j]?).bind (·.dst) = some u → (look sl u = .lit (.bool !b) ∨ look sl u = .tup []) → r.d = .tup [] → r.rh = [] → DAt P w0 A tab ops H sl hp r

def lens (rs : List Rec) : Nat := (rs.map fun r => r.rh.length).sum

section
variable {P : Program} {w0 : World} {A : Nat → Prop} {tab : Nat → Option TI} {ops : Array Oper} {H : Nat}

theorem DRun.opsOf {l : List Oper} {sl : List (Nat × D)} {hp : List Blk} {rs : List Rec} (h : DRun P w0 A tab ops H l sl hp rs) : rs.map Rec.o = l ∧ ∀ r ∈ rs, r.o.dst = some r.t := by
  induction h with
  | nil => simp
  | step h1 _ _ _ ih => exact ⟨by simp [ih.1], fun r hr => by rcases List.mem_cons.1 hr with rfl | hr; exact h1; exact ih.2 r hr⟩
  | on h1 _ _ _ _ _ ih => exact ⟨by simp [ih.1], fun r hr => by rcases List.mem_cons.1 hr with rfl | hr; exact h1; exact ih.2 r hr⟩
  | off h1 _ _ _ _ ih => exact ⟨by simp [ih.1], fun r hr => by rcases List.mem_cons.1 hr with rfl | hr; exact h1; exact ih.2 r hr⟩
theorem slotsS_congr {S S' : Nat → Bool} : ∀ {rs : List Rec} {i : Nat} {sl : List (Nat × D)}, (∀ j, j < rs.length → S (i + j) = S' (i + j)) → slotsS rs S i sl = slotsS rs S' i sl
  | [], _, _, _ => rfl
  | r :: rs, i, sl, h => by
    simp only [slotsS]
    rw [show S i = S' i from h 0 (by simp)]
    exact slotsS_congr fun j hj => by have := h (j + 1) (by simpa using hj); rwa [show i + (j + 1) = i + 1 + j by omega] at this
theorem slotsS_before (rs : List Rec) (m : Nat) (sl : List (Nat × D)) : slotsS rs (fun j => decide (j < m + 0)) m sl = sl := by
  rw [slotsS_congr (S' := fun _ => false) (fun j _ => by simp)]
  exact slotsS_none _ _ _
theorem DRun.get : ∀ {l : List Oper} {sl : List (Nat × D)} {hp : List Blk} {rs : List Rec}, DRun P w0 A tab ops H l sl hp rs → ∀ (m i : Nat) {r : Rec}, rs[i]? = some r → ∃ hp', hp'.length = hp.length + lens (rs.take i) ∧ (∀ k, k < hp.length → hp'[k]? = hp[k]?) ∧ DAt P w0 A tab ops H (slotsS rs (fun j => decide (j < m + i)) m sl) hp' r ∧ hp' = heapS (rs.take i) (fun _ => true) m hp
  | _, _, _, _, .nil, _, _, _, h => by simp at h
  | _, sl, hp, _, .step (rs := rs) (t := t) (d := d) (rh := rh) h1 h2 h3 h4, m, 0, r, h => by
    simp at h; subst h
    refine ⟨hp, by simp [lens], fun _ _ => rfl, ?_, by simp [heapS]⟩
    rw [slotsS_before]; exact .step h2 h3
  | _, sl, hp, _, .on (rs := rs) (t := t) (d := d) (rh := rh) h1 h2 h3 h4 h5 h6, m, 0, r, h => by
    simp at h; subst h
    refine ⟨hp, by simp [lens], fun _ _ => rfl, ?_, by simp [heapS]⟩
    rw [slotsS_before]; exact .on h2 h3 h4 h5
  | _, sl, hp, _, .off (rs := rs) (t := t) h1 h2 h3 h4 h6, m, 0, r, h => by
    simp at h; subst h
    refine ⟨hp, by simp [lens], fun _ _ => rfl, ?_, by simp [heapS]⟩
    rw [slotsS_before]; exact .off h2 h3 h4 rfl rfl
  | _, sl, hp, _, .step (rs := rs) (rh := rh) h1 h2 h3 h4, m, i + 1, r, h => by
    simp at h
    obtain ⟨hp', q1, q2, q3, q4⟩ := DRun.get h4 (m + 1) i h
    refine ⟨hp', by simp [q1, lens, List.take_succ_cons]; omega, fun k hk => by rw [q2 k (by simp; omega), List.getElem?_append_left hk], ?_, by rw [q4, List.take_succ_cons, heapS, if_pos rfl]⟩
    simp only [slotsS]
    rw [if_pos (by simp)]
    rwa [show m + 1 + i = m + (i + 1) by omega] at q3
  | _, sl, hp, _, .on (rs := rs) (rh := rh) h1 h2 h3 h4 h5 h6, m, i + 1, r, h => by
    simp at h
    obtain ⟨hp', q1, q2, q3, q4⟩ := DRun.get h6 (m + 1) i h
    refine ⟨hp', by simp [q1, lens, List.take_succ_cons]; omega, fun k hk => by rw [q2 k (by simp; omega), List.getElem?_append_left hk], ?_, by rw [q4, List.take_succ_cons, heapS, if_pos rfl]⟩
    simp only [slotsS]
    rw [if_pos (by simp)]
    rwa [show m + 1 + i = m + (i + 1) by omega] at q3
  | _, sl, hp, _, .off (rs := rs) h1 h2 h3 h4 h6, m, i + 1, r, h => by
    simp at h
    obtain ⟨hp', q1, q2, q3, q4⟩ := DRun.get h6 (m + 1) i h
    refine ⟨hp', by simp [q1, lens, List.take_succ_cons], fun k hk => by rw [q2 k (by simp; omega), List.getElem?_append_left hk], ?_, by rw [q4, List.take_succ_cons, heapS, if_pos rfl]⟩
    simp only [slotsS]
    rw [if_pos (by simp)]
    rwa [show m + 1 + i = m + (i + 1) by omega] at q3

/-- Whose memory a number is. -/
theorem lens_at : ∀ {rs : List Rec} {i k : Nat}, k < lens (rs.take i) → ∃ j r, j < i ∧ rs[j]? = some r ∧ lens (rs.take j) ≤ k ∧ k < lens (rs.take j) + r.rh.length
  | [], i, k, h => by simp [lens] at h
  | r :: rs, 0, k, h => by simp [lens] at h
  | r :: rs, i + 1, k, h => by
    by_cases hk : k < r.rh.length
    · exact ⟨0, r, by omega, rfl, by simp [lens], by simpa [lens] using hk⟩
    · have e : lens ((r :: rs).take (i + 1)) = r.rh.length + lens (rs.take i) := by simp [lens]
      rw [e] at h
      obtain ⟨j, r', h1, h2, h3, h4⟩ := lens_at (rs := rs) (i := i) (k := k - r.rh.length) (by omega)
      refine ⟨j + 1, r', by omega, by simpa using h2, ?_, ?_⟩ <;> simp only [List.take_succ_cons, lens, List.map_cons, List.sum_cons] <;> simp only [lens] at h3 h4 <;> omega

theorem look_congr {S S' : Nat → Bool} {t : Nat} : ∀ {rs : List Rec} {i : Nat} {sl sl' : List (Nat × D)}, look sl t = look sl' t → (∀ (j : Nat) (r : Rec), rs[j]? = some r → r.t = t → S (i + j) = S' (i + j)) → look (slotsS rs S i sl) t = look (slotsS rs S' i sl') t
  | [], _, _, _, h, _ => h
  | r :: rs, i, sl, sl', h, hs => by
    simp only [slotsS]
    refine look_congr ?_ fun j r' hj ht => by have := hs (j + 1) r' (by simpa using hj) ht; rwa [show i + (j + 1) = i + 1 + j by omega] at this
    by_cases e : r.t = t
    · have := hs 0 r (by simp) e
      rw [Nat.add_zero] at this
      rw [this]
      split
      · simp [look, e]
      · exact h
    · have h1 : ∀ (b : Bool) (l : List (Nat × D)), look (if b then (r.t, r.d) :: l else l) t = look l t := by
        intro b l
        cases b
        · rfl
        · simp only [if_true, look]; rw [if_neg (Ne.symm e)]
      rw [h1, h1]; exact h
theorem look_done {S : Nat → Bool} {t : Nat} : ∀ {rs : List Rec} {i j : Nat} {r : Rec} {sl : List (Nat × D)}, rs[j]? = some r → S (i + j) = true → r.t = t → (∀ (m : Nat) (r' : Rec), rs[m]? = some r' → r'.t = t → m = j) → look (slotsS rs S i sl) t = r.d
  | [], _, _, _, _, h, _, _, _ => by simp at h
  | r0 :: rs, i, 0, r, sl, h, hs, ht, hu => by
    simp at h; subst h
    simp only [slotsS]
    rw [if_pos (by simpa using hs)]
    have : look (slotsS rs S (i + 1) ((r0.t, r0.d) :: sl)) t = look (slotsS rs (fun _ => false) (i + 1) ((r0.t, r0.d) :: sl)) t := look_congr rfl fun m r' hm ht' => by
      have := hu (m + 1) r' (by simpa using hm) ht'; omega
    rw [this, slotsS_none]
    simp [look, ht]
  | r0 :: rs, i, j + 1, r, sl, h, hs, ht, hu => by
    simp at h
    simp only [slotsS]
    exact look_done h (by rw [show i + 1 + j = i + (j + 1) by omega]; exact hs) ht fun m r' hm ht' => by have := hu (m + 1) r' (by simpa using hm) ht'; omega

theorem heapS_len {S : Nat → Bool} : ∀ {rs : List Rec} {i : Nat} {hp : List Blk}, (heapS rs S i hp).length = hp.length + lens rs
  | [], _, hp => by simp [heapS, lens]
  | r :: rs, i, hp => by
    simp only [heapS]
    rw [heapS_len]
    split <;> simp [lens] <;> omega
/-- The memory around the place of operation j. -/
theorem heapS_split {S : Nat → Bool} : ∀ {rs : List Rec} {i j : Nat} {r : Rec} {hp : List Blk}, rs[j]? = some r → ∃ h1 h2, h1.length = hp.length + lens (rs.take j) ∧ (∀ k, k < hp.length → h1[k]? = hp[k]?) ∧
    ∀ (S' : Nat → Bool), (∀ m, m ≠ i + j → S' m = S m) → heapS rs S' i hp = h1 ++ (if S' (i + j) then r.rh else r.rh.map fun _ => .gone) ++ h2
  | [], _, _, _, _, h => by simp at h
  | r0 :: rs, i, 0, r, hp, h => by
    simp at h; subst h
    refine ⟨hp, (heapS rs S (i + 1) []), by simp [lens], fun _ _ => rfl, fun S' hS => ?_⟩
    simp only [heapS, Nat.add_zero]
    have gen : ∀ (rs : List Rec) (m : Nat) (hp : List Blk), i < m → heapS rs S' m hp = hp ++ heapS rs S m [] := by
      intro rs
      induction rs with
      | nil => intro m hp _; simp [heapS]
      | cons r rs ih =>
        intro m hp hm
        simp only [heapS]
        have hgen2 : ∀ (rs : List Rec) (m : Nat) (hp : List Blk), heapS rs S m hp = hp ++ heapS rs S m [] := by
          intro rs
          induction rs with
          | nil => intro m hp; simp [heapS]
          | cons r rs ih2 => intro m hp; simp only [heapS, List.nil_append]; rw [ih2 (m + 1) (hp ++ _), ih2 (m + 1) (if S m then _ else _), List.append_assoc]
        rw [ih (m + 1) _ (by omega), hS m (by simp; omega), hgen2 rs (m + 1) ([] ++ _), List.nil_append, List.append_assoc]
    exact gen rs (i + 1) _ (by omega)
  | r0 :: rs, i, j + 1, r, hp, h => by
    simp at h
    obtain ⟨h1, h2, q1, q2, q3⟩ := heapS_split (S := S) (i := i + 1) (hp := hp ++ if S i then r0.rh else r0.rh.map fun _ => .gone) h
    refine ⟨h1, h2, ?_, fun k hk => by rw [q2 k (by simp; omega), List.getElem?_append_left hk], fun S' hS => ?_⟩
    · rw [q1]; simp only [List.length_append, List.take_succ_cons, lens, List.map_cons, List.sum_cons]; split <;> simp <;> omega
    · have := q3 S' (fun m hm => hS m (by omega))
      simp only [heapS]
      rw [hS i (by omega), this, show i + 1 + j = i + (j + 1) by omega]

def opTmps (o : Oper) : List Nat := o.op.operands.toList.filterMap fun x => match x with | .tmp t => some t | _ => none
def afters (o : Oper) : List Nat := (o.after.toList.filter fun e => Region.binds .any e).map Edge.on
/-- Operation j waits for operation i. -/
def waits (l : List Oper) : Nat → Nat → Nat → Bool
  | 0, _, _ => false
  | f + 1, j, i => match l[j]? with
    | some o => (afters o).any fun m => Nat.beq m i || waits l f m i
    | none => false
def tmpOk (l : List Oper) (i t : Nat) : Bool := l.zipIdx.all fun x => !(match x.1.dst with | some d => Nat.beq d t | none => false) || (match l[i]? with | some o => memN x.2 (afters o) | none => false) || waits l l.length x.2 i
def guardTmp (l : List Oper) (o : Oper) : List Nat := match o.guard with
  | some (j, _) => match (l[j]?).bind (·.dst) with | some t => [t] | none => []
  | none => []
def drawOk (l : List Oper) : Bool :=
  (nodupN (l.filterMap Oper.dst) && l.zipIdx.all fun x => match x.1.guard with | some (j, _) => Nat.blt j l.length | none => true) && l.zipIdx.all fun x => (afters x.1).all (fun m => Nat.blt m x.2) && ((opTmps x.1 ++ guardTmp l x.1).all fun t => tmpOk l x.2 t)

theorem mem_afters {o : Oper} {m : Nat} : m ∈ afters o ↔ ∃ e ∈ o.after, Region.binds .any e = true ∧ e.on = m := by
  simp only [afters, List.mem_map, List.mem_filter]
  constructor
  · rintro ⟨e, ⟨h1, h2⟩, h3⟩; exact ⟨e, by simpa using h1, h2, h3⟩
  · rintro ⟨e, h1, h2, h3⟩; exact ⟨e, ⟨by simpa using h1, h2⟩, h3⟩
theorem waits_ok {l : List Oper} {S : Nat → Bool} (hc : ∀ (j : Nat) (o : Oper), l[j]? = some o → S j = true → ∀ e ∈ o.after, Region.binds .any e = true → S e.on = true) : ∀ {f j i : Nat}, waits l f j i = true → S j = true → S i = true
  | 0, _, _, h, _ => by simp [waits] at h
  | f + 1, j, i, h, hs => by
    simp only [waits] at h
    split at h
    · rename_i o ho
      rw [List.any_eq_true] at h
      obtain ⟨m, hm, h⟩ := h
      obtain ⟨e, he, hb, rfl⟩ := mem_afters.1 hm
      have h1 := hc j o ho hs e he hb
      rw [Bool.or_eq_true] at h
      rcases h with h | h
      · rw [← Nat.eq_of_beq_eq_true h]; exact h1
      · exact waits_ok hc h h1
    · simp at h
theorem waits_lt {l : List Oper} (hwf : ∀ (i : Nat) (o : Oper), l[i]? = some o → ∀ m ∈ afters o, m < i) : ∀ {f j i : Nat}, waits l f j i = true → i < j
  | 0, _, _, h => by simp [waits] at h
  | f + 1, j, i, h => by
    simp only [waits] at h
    split at h
    · rename_i o ho
      rw [List.any_eq_true] at h
      obtain ⟨m, hm, h⟩ := h
      have h1 := hwf j o ho m hm
      rw [Bool.or_eq_true] at h
      rcases h with h | h
      · rw [← Nat.eq_of_beq_eq_true h]; exact h1
      · have := waits_lt hwf h; omega
    · simp at h
end
end Go.Proofs.YtcpjhpjlcgcigaaGreatDoor
namespace Go.Proofs.YtcpjhpjlcgcigaaGreatDoor
open Go.ChangeShapes Go.WideShapes Go.ChangeAt Go.RowKit

section
variable {P : Program} {w0 : World} {A : Nat → Prop} {n : Nat} {tab : Nat → Option TI} {Q : Exit → St → Prop}

theorem heapS_congr {S S' : Nat → Bool} : ∀ {rs : List Rec} {i : Nat} {hp : List Blk}, (∀ j, j < rs.length → S (i + j) = S' (i + j)) → heapS rs S i hp = heapS rs S' i hp
  | [], _, _, _ => rfl
  | r :: rs, i, hp, h => by
    simp only [heapS]
    rw [show S i = S' i from h 0 (by simp)]
    exact heapS_congr fun j hj => by have := h (j + 1) (by simpa using hj); rwa [show i + (j + 1) = i + 1 + j by omega] at this
theorem heapS_none : ∀ (rs : List Rec) (i : Nat) (hp : List Blk), heapS rs (fun _ => false) i hp = hp ++ List.replicate (lens rs) .gone
  | [], _, hp => by simp [heapS, lens]
  | r :: rs, i, hp => by
    simp only [heapS]
    rw [heapS_none rs (i + 1)]
    simp [lens, List.append_assoc, List.map_const', List.replicate_append_replicate]

theorem Rel.slotsEq {ms : List Ent} {sl sl' : List (Nat × D)} {hp : List Blk} {a : Act} {w : World} (hr : Rel w0 A ms ⟨n, sl, hp⟩ a w) (h : ∀ t, look sl' t = look sl t) : Rel w0 A ms ⟨n, sl', hp⟩ a w :=
  ⟨hr.ext, hr.old, hr.size, hr.defers, hr.len, hr.nodup, hr.range, hr.ents, fun t => by have := hr.slots t; simp only [St.get] at this ⊢; rw [h t]; exact this⟩

/-- What holds when the operations in S are done. -/
def DInv (w0 : World) (A : Nat → Prop) (n : Nat) (rs : List Rec) (sl : List (Nat × D)) (hp : List Blk) (S : Nat → Bool) (a : Act) (w : World) : Prop :=
  ∃ ms, Rel w0 A ms ⟨n, slotsS rs S 0 sl, heapS rs S 0 hp⟩ a w ∧ ∀ (j : Nat) (r : Rec), rs[j]? = some r → S j = false → ∀ k, hp.length + lens (rs.take j) ≤ k → k < hp.length + lens (rs.take j) + r.rh.length → ms[k]? = some phE

theorem lens_lt {rs : List Rec} {i j : Nat} {r : Rec} (hr : rs[i]? = some r) (h : i < j) : lens (rs.take i) + r.rh.length ≤ lens (rs.take j) := by
  have hi := (List.getElem?_eq_some_iff.1 hr)
  have e1 : rs.take (i + 1) = rs.take i ++ [r] := by rw [List.take_succ_eq_append_getElem hi.1, hi.2]
  have e2 := (List.take_append_drop (i + 1) (rs.take j)).symm
  rw [List.take_take, Nat.min_eq_left (by omega)] at e2
  rw [e2, e1]
  simp [lens]

/-- One operation more. -/
theorem DInv.next {rs : List Rec} {sl : List (Nat × D)} {hp : List Blk} {S : Nat → Bool} {a : Act} {w' : World} {i : Nat} {r : Rec} {ms' : List Ent} {v : Value} (hi : rs[i]? = some r) (hnd : ∀ (m : Nat) (r' : Rec), rs[m]? = some r' → r'.t = r.t → m = i) (hd : r.o.dst = some r.t) (ht : r.t < n)
    (hr : Rel w0 A ms' ⟨n, slotsS rs S 0 sl, heapS rs (fun j => if j = i then true else S j) 0 hp⟩ a w') (hv : VX ms' w' (OkB w0.heap.size A ms' w') r.d v)
    (hph : ∀ (j : Nat) (r : Rec), j ≠ i → rs[j]? = some r → S j = false → ∀ k, hp.length + lens (rs.take j) ≤ k → k < hp.length + lens (rs.take j) + r.rh.length → ms'[k]? = some phE) : DInv w0 A n rs sl hp (fun j => if j = i then true else S j) (a.put r.o.dst v) w' := by
  refine ⟨ms', ?_, fun j r' hj hs => hph j r' (fun e => by simp [e] at hs) hj (by by_cases e : j = i; simp [e] at hs; simpa [e] using hs)⟩
  have h1 := Rel.put (t := r.o.dst) hr hv (by rw [hd]; simpa using ht)
  rw [hd] at h1 ⊢
  refine Rel.slotsEq (sl := (r.t, r.d) :: slotsS rs S 0 sl) h1 fun t => ?_
  simp only [look]
  split
  · rename_i e
    subst e
    exact look_done hi (by simp) rfl hnd
  · rename_i e
    refine look_congr rfl fun j r' hj ht' => ?_
    have : j ≠ i := by rintro rfl; rw [hi] at hj; cases hj; exact e ht'.symm
    simp [this]

/-- What a chain of operations, checked, gives in whatever order: its start, a step, its end. -/
structure DGood (P : Program) (w0 : World) (A : Nat → Prop) (n : Nat) (ops : Array Oper) (l : List Oper) (rs : List Rec) (sl : List (Nat × D)) (hp : List Blk) : Prop where
  start : ∀ {ms : List Ent} {a : Act} {w : World}, Rel w0 A ms ⟨n, sl, hp⟩ a w → DInv w0 A n rs sl hp (fun _ => false) a { w with drawn := w.drawn + 1 }
  step : ∀ (S : Nat → Bool) (a : Act) (w : World) (i : Nat) (o : Oper), (∀ (j : Nat) (o' : Oper), l[j]? = some o' → S j = true → ∀ e ∈ o'.after, Region.binds .any e = true → S e.on = true) → DInv w0 A n rs sl hp S a w → l[i]? = some o → S i = false → (∀ e ∈ o.after, Region.binds .any e = true → S e.on = true) →
      if Region.wanted o (yielded ops a.tmps) then o.wp P a w (fun a' w' => DInv w0 A n rs sl hp (fun j => if j = i then true else S j) a' w') (fun _ _ _ => False) else DInv w0 A n rs sl hp (fun j => if j = i then true else S j) (a.put o.dst undef) w
  fin : ∀ {S : Nat → Bool} {a : Act} {w : World}, (∀ i, i < l.length → S i = true) → DInv w0 A n rs sl hp S a w → ∃ ms, Rel w0 A ms ⟨n, slotsS rs (fun _ => true) 0 sl, heapS rs (fun _ => true) 0 hp⟩ a w
  wf : ∀ (i : Nat) (o : Oper), l[i]? = some o → ∀ e ∈ o.after, Region.binds .any e = true → e.on < i

theorem dgood (hT : TabOk P tab) {ops : Array Oper} {l : List Oper} {sl : List (Nat × D)} {hp : List Blk} {rs : List Rec} (hpre : ∀ i, i < l.length → ops[i]? = l[i]?) (hok : drawOk l = true) (hrun : DRun P w0 A tab ops hp.length l sl hp rs) (hn : rs.all (fun r => Nat.blt r.t n) = true) : DGood P w0 A n ops l rs sl hp := by
  obtain ⟨hops, hdst⟩ := hrun.opsOf
  have hlenr : rs.length = l.length := by rw [← hops]; simp
  simp only [drawOk, Bool.and_eq_true, List.all_eq_true] at hok
  obtain ⟨⟨hok1, hokg⟩, hok2⟩ := hok
  have hok1 := nodupN_iff hok1
  have hget : ∀ (i : Nat) (o : Oper), l[i]? = some o → ∃ r, rs[i]? = some r ∧ r.o = o := by
    intro i o ho
    have : i < rs.length := by rw [hlenr]; exact (List.getElem?_eq_some_iff.1 ho).1
    refine ⟨rs[i], List.getElem?_eq_getElem this, ?_⟩
    have h2 : (rs.map Rec.o)[i]? = some o := by rw [hops]; exact ho
    rw [List.getElem?_map, List.getElem?_eq_getElem this] at h2
    simpa using h2
  have hwf' : ∀ (i : Nat) (o : Oper), l[i]? = some o → ∀ m ∈ afters o, m < i := by
    intro i o ho m hm'
    have := (hok2 (o, i) (by rw [List.mem_zipIdx_iff_getElem?]; simpa using ho)).1
    have := this m hm'
    simpa [Nat.blt_eq] using this
  have hwf : ∀ (i : Nat) (o : Oper), l[i]? = some o → ∀ e ∈ o.after, Region.binds .any e = true → e.on < i := fun i o ho e he hb => hwf' i o ho e.on (mem_afters.2 ⟨e, he, hb, rfl⟩)
  have hdl : rs.map Rec.t = l.filterMap Oper.dst := by
    rw [← hops, List.filterMap_map]
    have : ∀ (rs : List Rec), (∀ r ∈ rs, r.o.dst = some r.t) → rs.map Rec.t = rs.filterMap (Oper.dst ∘ Rec.o) := by
      intro rs
      induction rs with
      | nil => simp
      | cons r rs ih => intro h; rw [List.filterMap_cons_some (f := Oper.dst ∘ Rec.o) (h r (by simp)), List.map_cons, ih fun r' hr' => h r' (List.mem_cons_of_mem _ hr')]
    exact this rs hdst
  have hnd : ∀ (i : Nat) (r : Rec), rs[i]? = some r → ∀ (m : Nat) (r' : Rec), rs[m]? = some r' → r'.t = r.t → m = i := by
    intro i r hi m r' hm' ht
    have h1 : (rs.map Rec.t).Nodup := by rw [hdl]; exact hok1
    have hi' := List.getElem?_eq_some_iff.1 hi
    have hm'' := List.getElem?_eq_some_iff.1 hm'
    exact (List.getElem_inj (h₀ := by simpa using hm''.1) (h₁ := by simpa using hi'.1) h1).1 (by simp [hi'.2, hm''.2, ht])
  have htn : ∀ (i : Nat) (r : Rec), rs[i]? = some r → r.t < n := fun i r hi => by
    have := (List.all_eq_true.1 hn) r (List.mem_of_getElem? hi)
    simpa [Nat.blt_eq] using this
  have hguard : ∀ (i : Nat) (o : Oper), l[i]? = some o → ∀ (j : Nat) (b : Bool), o.guard = some (j, b) → ops[j]? = l[j]? := by
    intro i o ho j b hg
    have := hokg (o, i) (by rw [List.mem_zipIdx_iff_getElem?]; simpa using ho)
    simp only [hg] at this
    exact hpre j (by simpa [Nat.blt_eq] using this)
  refine ⟨?_, ?_, ?_, hwf⟩
  · -- at first
    intro ms a w hr
    have hd : Rel w0 A ms ⟨n, sl, hp⟩ a { w with drawn := w.drawn + 1 } := hr.later (Ext.drew (Ext.refl w))
    have hlen := hr.len
    simp only at hlen
    have := hd.grow (Ext.refl _) (List.replicate (lens rs) phE) (List.replicate (lens rs) .gone) (by simp) (by
        have : owned (List.replicate (lens rs) phE) = [] := by simp [owned, phE]
        rw [this]; simp) (by
        have : owned (List.replicate (lens rs) phE) = [] := by simp [owned, phE]
        rw [this]; simp) (by
        intro i b e hb he
        have hb := List.eq_of_mem_replicate (List.mem_of_getElem? hb)
        have he := List.eq_of_mem_replicate (List.mem_of_getElem? he)
        subst hb; subst he
        exact ⟨rfl, rfl⟩)
    refine ⟨_, by rw [slotsS_none, heapS_none]; exact this, ?_⟩
    intro j r hj _ k h1 h2
    have hj' := lens_lt hj (show j < rs.length from (List.getElem?_eq_some_iff.1 hj).1)
    rw [List.take_length] at hj'
    rw [List.getElem?_append_right (by omega), List.getElem?_replicate, if_pos (by omega)]
  · -- one operation
    rintro S a w i o hc ⟨ms, hr, hph⟩ ho hSi haft
    obtain ⟨r, hi, rfl⟩ := hget i o ho
    obtain ⟨hp', q1, q2, hat, qh⟩ := hrun.get 0 i hi
    simp only [Nat.zero_add] at hat
    have hil : i < l.length := (List.getElem?_eq_some_iff.1 ho).1
    have hokt := (hok2 (r.o, i) (by rw [List.mem_zipIdx_iff_getElem?]; simpa using ho)).2
    have hlook : ∀ t ∈ opTmps r.o ++ guardTmp l r.o, look (slotsS rs S 0 sl) t = look (slotsS rs (fun j => decide (j < i)) 0 sl) t := by
      intro t ht
      refine look_congr rfl fun j r' hj htr => ?_
      rw [Nat.zero_add]
      have hjl : j < l.length := by rw [← hlenr]; exact (List.getElem?_eq_some_iff.1 hj).1
      have hjo : l[j]? = some r'.o := by
        rw [← hops, List.getElem?_map, hj]; rfl
      have := hokt t ht
      simp only [tmpOk, List.all_eq_true] at this
      have := this (r'.o, j) (by rw [List.mem_zipIdx_iff_getElem?]; simpa using hjo)
      simp only [hdst r' (List.mem_of_getElem? hj), htr, ho, Bool.or_eq_true] at this
      rcases this with (h | h) | h
      · simp at h
      · have hm' := memN_iff.1 h
        obtain ⟨e, he, hb, rfl⟩ := mem_afters.1 hm'
        rw [haft e he hb]
        have := hwf i r.o ho e he hb
        simp [this]
      · have hlt := waits_lt hwf' h
        have hSj : S j = false := by
          cases hs : S j
          · rfl
          · have := waits_ok hc h hs
            rw [hSi] at this; exact Bool.noConfusion this
        rw [hSj]; simp; omega
    have hev : ∀ x ∈ r.o.op.operands, evD (look (slotsS rs (fun j => decide (j < i)) 0 sl)) x = evD (look (slotsS rs S 0 sl)) x := by
      intro x hx
      cases x with
      | tmp t => exact (hlook t (List.mem_append_left _ (by simp only [opTmps, List.mem_filterMap]; exact ⟨.tmp t, by simpa using hx, rfl⟩))).symm
      | _ => rfl
    obtain ⟨h1, h2, s1, s2, s3⟩ := heapS_split (S := S) (i := 0) (hp := hp) hi
    simp only [Nat.zero_add] at s3
    have hS0 := s3 S fun _ _ => rfl
    have hS1 := s3 (fun j => if j = i then true else S j) fun m hm' => by simp [hm']
    rw [hSi] at hS0
    simp only [Bool.false_eq_true, if_false] at hS0
    simp only [if_true] at hS1
    have hpre : ∀ k, k < hp.length → (heapS rs S 0 hp)[k]? = hp[k]? := by
      intro k hk
      rw [hS0, List.append_assoc, List.getElem?_append_left (by omega)]; exact s2 k hk
    -- what an operation that is carried out leaves
    have hexec : ∀ (o' : Oper) (d' : D) (rh' : List Blk), o'.op = r.o.op → o'.type = r.o.type → d' = r.d → rh' = r.rh → DStep P w0 A tab hp.length (slotsS rs (fun j => decide (j < i)) 0 sl) hp' o' d' rh' → r.o.wp P a w (fun a' w' => DInv w0 A n rs sl hp (fun j => if j = i then true else S j) a' w') (fun _ _ _ => False) := by
      intro o' d' rh' eop ety ed erh hst
      have hsame : ∀ {v : Value}, r.rh = [] → (execOp a.eval o').run P w = .ok (.value v) w → VX ms w (OkB w0.heap.size A ms w) r.d v → r.o.wp P a w (fun a' w' => DInv w0 A n rs sl hp (fun j => if j = i then true else S j) a' w') (fun _ _ _ => False) := by
        intro v hrh hrun' hv
        have hx : (execOp a.eval r.o).run P w = .ok (.value v) w := by
          have : execOp a.eval r.o = execOp a.eval o' := by unfold execOp; rw [eop, ety]
          rw [this]; exact hrun'
        refine upon_value hx (DInv.next hi (hnd i r hi) (hdst r (List.mem_of_getElem? hi)) (htn i r hi) ?_ hv fun j r' hji hj hs k hk1 hk2 => hph j r' hj hs k hk1 hk2)
        rw [hS1, hrh]
        rw [hS0, hrh] at hr
        simpa using hr
      cases hst with
      | pop hpop hlt hc' =>
        rename_i t op ty pos after c
        simp only at eop
        subst eop
        subst ed
        have hpop' : pop tab (heapS rs S 0 hp) (evD (look (slotsS rs S 0 sl))) r.o.op = some (c, r.d) := by
          rw [← hpop]
          refine (pop_congr hev fun hask x hx k hu => ?_).symm
          rw [hask] at hlt
          simp only [List.all_eq_true] at hlt
          have := D.lt_uses (hlt x (by simpa using hx)) hu
          rw [q2 k this, hpre k this]
        obtain ⟨v, g1, g2⟩ := pop_ok hT hr.ents ⟨t, r.o.op, ty, pos, after, none⟩ (ρ := evD (look (slotsS rs S 0 sl))) (fun x _ => hr.ev x) hpop' hc'
        exact hsame erh.symm g1 g2
      | index hx hi' ht he hrow =>
        rename_i t t' x j0 ty pos after m xs j r0 e agg size bytes zero k' agg' bytes' zero'
        simp only at eop
        have hmx : x ∈ r.o.op.operands := by rw [← eop]; simp [Op.operands]
        have hmi : j0 ∈ r.o.op.operands := by rw [← eop]; simp [Op.operands]
        rw [hev x hmx] at hx
        rw [hev j0 hmi] at hi'
        obtain ⟨v, g1, g2⟩ := index_ok (o := ⟨t, .indexAddr t' x j0, ty, pos, after, none⟩) hT ht he rfl (hr.ev_at hx) (hr.ev_at hi') hrow
        exact hsame erh.symm g1 (by rw [← ed]; exact g2)
      | eload hx hiH hb ht hrow hp2 =>
        rename_i t t' T x ty pos after i0 m o j0 xs r0 dp k agg size bytes zero c
        simp only at eop
        have hmx : x ∈ r.o.op.operands := by rw [← eop]; simp [Op.operands]
        rw [hev x hmx] at hx
        have hlt0 : i0 < hp.length := Nat.le_of_ble_eq_true hiH
        rw [q2 i0 hlt0, ← hpre i0 hlt0] at hb
        obtain ⟨v, g1, g2⟩ := eload_ok hT hr (hr.ev_at hx) hb ht hrow hp2
        exact hsame (v := v) erh.symm (by simp only [execOp, Sem.run_bind, g1, Result.andThen, Sem.run, pure]) (by rw [← ed]; exact g2)
      | call hf hds hpl hF =>
        rename_i t f fo args tys ty pos after ds caps d
        simp only at eop
        subst erh
        have hmem : ∀ x, x = fo ∨ x ∈ args → x ∈ r.o.op.operands := by
          intro x hx
          rw [← eop]
          simp only [Op.operands, Call.operands]
          rcases hx with rfl | hx
          · simp
          · simp [hx]
        rw [hev fo (hmem fo (Or.inl rfl))] at hf
        rw [mapK_congr (fun x hx => hev x (hmem x (Or.inr (by simpa using hx))))] at hds
        obtain ⟨cs, e1, hcs⟩ := (hr.ev_at hf).fn_inv
        have hds := mapK_eq hds
        simp only [Option.some.injEq] at hds
        subst hds
        have hv : VXs ms w (OkB w0.heap.size A ms w) (args.toList.map (evD (look (slotsS rs S 0 sl))) ++ caps) (args.toList.map a.eval ++ cs) := (VXs.of_map fun x _ => hr.ev x).append hcs
        refine enter_call (run_call (o := r.o) eop.symm hF.plain e1) ((hF.calls (OkB w0.heap.size A ms w) w _ (fun k hk => hk.1) (hv.plain hpl fun _ h => h)).mono ?_)
        rintro e w' ⟨v, mr, rfl, hpost⟩
        have hr0 := hr
        rw [hS0] at hr0
        have hb := hr.ext.size
        have hphi : ∀ k, h1.length ≤ k → k < h1.length + r.rh.length → ms[k]? = some phE := fun k k1 k2 => hph i r hi hSi k (by omega) (by omega)
        obtain ⟨ms', g1, g2, g3, g4, g5⟩ := Rel.fill hr0 hphi hpost.ext hpost.len hpost.nodup hpost.range (by
          intro ms'' ht i' b e hb' he'
          have hE := hpost.ents i' b e hb' he'
          have hab := (List.all_eq_true.1 hF.arrs) b (List.mem_of_getElem? hb')
          cases b with
          | gone => simp [Blk.isArr] at hab
          | cells t ds => simp [Blk.isArr] at hab
          | fr n xs => exact hE
          | cust R => exact hE
          | arr t n xs deep =>
            obtain ⟨us, bs, p1, p2, p3, p4, p5⟩ := hE
            refine ⟨us, bs, ownsRow_base p1 hb, p2, p3, p4, ?_⟩
            cases deep with
            | true => exact p5
            | false =>
              refine ⟨p5.1, fun k hk => ?_⟩
              obtain ⟨k1, k2, k3⟩ := p5.2 k hk
              refine ⟨k1, ?_, fun h => ?_⟩
              · rcases k2 with k2 | k2
                · exact Or.inl (by omega)
                · exact k2.2.1
              · rcases ht k h with h | h
                · rcases k2 with k2 | k2
                  · have := hr.range k (tops_owned h); omega
                  · exact k2.2.2 h
                · exact k3 h)
        refine ⟨v, rfl, DInv.next (v := v) hi (hnd i r hi) (hdst r (List.mem_of_getElem? hi)) (htn i r hi) (by rw [hS1]; exact g1) ?_ ?_⟩
        · have hl1 : hp'.length = h1.length := by rw [q1, s1]
          have := hpost.val.shift (ms' := ms') (w' := w') (Ok' := OkB w0.heap.size A ms' w') hp'.length (fun k ⟨k1, k2, k3⟩ => by
            refine ⟨rfl, k1, ?_, fun h => ?_⟩
            · rcases k2 with k2 | k2
              · exact Or.inl (by omega)
              · exact k2.2.1
            · rcases g4 k h with h | h
              · rcases k2 with k2 | k2
                · have := hr.range k (tops_owned h); omega
                · exact k2.2.2 h
              · exact k3 h) (fun m e he => by rw [hl1]; exact g2 m e he)
          rw [← ed]; exact this
        · intro j r' hji hj hs k k1 k2
          rw [g3 k ?_]
          · exact hph j r' hj hs k k1 k2
          · rcases Nat.lt_or_gt_of_ne hji with h | h
            · have := lens_lt hj h; omega
            · have := lens_lt hi h; omega
      | alloc ht hz =>
        rename_i t T ty pos after ds k agg size bytes zero
        simp only at eop
        obtain ⟨inf, td, z, e1, e2, e3, e4, e5, e6, e7, e8⟩ := hT.get ht
        have hz8 : z.cells = zero.toArray := by rw [← e8]
        have hrun' : (execOp a.eval r.o).run P w = .ok (.value (.pointer (some ⟨w.heap.size, 0, none⟩))) (w.alloc (.cells zero.toArray T (0, 0))) := by
          simp only [execOp, ← eop, Instr.alloc, Sem.run_bind, run_zero e1 e3, Result.andThen, newVar, newRow, newObj, hz8]; rfl
        have hr0 := hr
        rw [hS0] at hr0
        have hb := hr.ext.size
        have hx : Ext w (w.alloc (.cells zero.toArray T (0, 0))) := (Ext.refl w).alloc _
        have hphi : ∀ k, h1.length ≤ k → k < h1.length + r.rh.length → ms[k]? = some phE := fun k k1 k2 => hph i r hi hSi k (by omega) (by omega)
        obtain ⟨ms', g1, g2, g3, g4, g5⟩ := Rel.fill (mr := [⟨.pointer (some ⟨w.heap.size, 0, none⟩), some w.heap.size, []⟩]) hr0 hphi hx (by rw [← erh]; rfl) (List.nodup_cons.2 ⟨List.not_mem_nil, List.nodup_nil⟩) (fun k hk => by have hk : k = w.heap.size := List.mem_singleton.1 hk; subst hk; exact ⟨Nat.le_refl _, by rw [World.size_alloc]; omega⟩) (by
          intro ms'' _ i' b e hb' he'
          rw [← erh] at hb'
          cases i' with
          | succ i' => simp at hb'
          | zero =>
            simp at hb' he'
            subst hb'; subst he'
            exact ⟨w.heap.size, zero, rfl, heap_alloc_new w _, constK_list hz⟩)
        refine upon_value hrun' (DInv.next (v := .pointer (some ⟨w.heap.size, 0, none⟩)) hi (hnd i r hi) (hdst r (List.mem_of_getElem? hi)) (htn i r hi) (by rw [hS1]; exact g1) ?_ ?_)
        · have hl1 : hp'.length = h1.length := by rw [q1, s1]
          rw [← ed, hl1]
          exact .ptr (e := ⟨.pointer (some ⟨w.heap.size, 0, none⟩), some w.heap.size, []⟩) (g2 0 _ rfl) rfl
        · intro j r' hji hj hs k k1 k2
          rw [g3 k ?_]
          · exact hph j r' hj hs k k1 k2
          · rcases Nat.lt_or_gt_of_ne hji with h | h
            · have := lens_lt hj h; omega
            · have := lens_lt hi h; omega
      | mkS ht hT' hz hm hlm hl hrd hrs =>
        rename_i t t' T len m parts ty pos after agg size bytes zero k' agg' bytes' zero' l rows
        simp only at eop
        have hz := Nat.eq_of_beq_eq_true hz
        have hm : 0 < m := by simpa [Nat.blt_eq] using hm
        have hlm := Nat.le_of_ble_eq_true hlm
        have hmem : ∀ x ∈ parts.toList, x.2 ∈ r.o.op.operands := by
          intro x hx
          rw [← eop]
          simp only [Op.operands]
          simpa using ⟨x.1, by simpa using hx⟩
        rw [litCells_congr (fun x hx => hev x.2 (hmem x hx))] at hl
        obtain ⟨vs, hf, hv⟩ := litCells_ok (fun x _ => hr.ev x.2) hl
        have hrun := run_buildSlice (w := w) (o := r.o) hT eop.symm ht hT' hz hm hlm hf
        obtain ⟨q1', q2', q3'⟩ := rowsK_ok hrs
        have hl' := hv.len
        have hlen : vs.length = len * m := by rw [hl', ← q1', flatten_len q3', q2']
        have hx : Ext w (w.alloc (.cells vs.toArray T (0, 0))) := (Ext.refl w).alloc _
        obtain ⟨bs, hvr, hbs⟩ := isRds_ok hv hrd
        have hr0 := hr
        rw [hS0] at hr0
        have hb := hr.ext.size
        have hphi : ∀ k, h1.length ≤ k → k < h1.length + r.rh.length → ms[k]? = some phE := fun k k1 k2 => hph i r hi hSi k (by omega) (by omega)
        obtain ⟨ms', g1, g2, g3, g4, g5⟩ := Rel.fill (mr := [⟨.slice (some ⟨w.heap.size, 0, none⟩) len len, some w.heap.size, []⟩]) hr0 hphi hx (by rw [← erh]; rfl) (List.nodup_cons.2 ⟨List.not_mem_nil, List.nodup_nil⟩) (fun k hk => by have hk : k = w.heap.size := List.mem_singleton.1 hk; subst hk; exact ⟨Nat.le_refl _, by rw [World.size_alloc]; omega⟩) (by
          intro ms'' htp i' b e hb' he'
          rw [← erh] at hb'
          cases i' with
          | succ i' => simp at hb'
          | zero =>
            simp at hb' he'
            subst hb'; subst he'
            refine ⟨vs, bs, ?_, q3', by rw [q1']; exact hvr.keep fun k hk => hx.heap (hbs k hk).1, rfl, ?_⟩
            · rw [q2']
              refine ⟨hlen, Or.inr ⟨w.heap.size, len, vs.toArray, rfl, hb, heap_alloc_new w _, Nat.le_refl _, ?_, by simp [hlen], by simp [← hlen]⟩⟩
              have : len ≤ len * m := Nat.le_mul_of_pos_right len hm
              unfold maxLen; omega
            · refine ⟨rfl, fun k hk => ?_⟩
              obtain ⟨k1, k2, k3⟩ := hbs k hk
              refine ⟨Nat.lt_of_lt_of_le k1 hx.size, k2, fun h => ?_⟩
              rcases htp k h with h | h
              · exact k3 h
              · simp [tops] at h; omega)
        refine upon_value hrun (DInv.next (v := .slice (some ⟨w.heap.size, 0, none⟩) len len) hi (hnd i r hi) (hdst r (List.mem_of_getElem? hi)) (htn i r hi) (by rw [hS1]; exact g1) ?_ ?_)
        · have hl1 : hp'.length = h1.length := by rw [q1, s1]
          rw [← ed, hl1]
          exact .own (e := ⟨.slice (some ⟨w.heap.size, 0, none⟩) len len, some w.heap.size, []⟩) (g2 0 _ rfl) ⟨_, _, _, rfl⟩
        · intro j r' hji hj hs k k1 k2
          rw [g3 k ?_]
          · exact hph j r' hj hs k k1 k2
          · rcases Nat.lt_or_gt_of_ne hji with h | h
            · have := lens_lt hj h; omega
            · have := lens_lt hi h; omega
      | callx hf hds hol hF hno hdeep =>
        rename_i t f fo args tys ty pos after ds caps d
        simp only at eop
        subst erh
        have hmem : ∀ x, x = fo ∨ x ∈ args → x ∈ r.o.op.operands := by
          intro x hx
          rw [← eop]
          simp only [Op.operands, Call.operands]
          rcases hx with rfl | hx
          · simp
          · simp [hx]
        rw [hev fo (hmem fo (Or.inl rfl))] at hf
        rw [mapK_congr (fun x hx => hev x (hmem x (Or.inr (by simpa using hx))))] at hds
        rw [List.map_congr_left (fun x hx => hev x (hmem x (Or.inr (by simpa using hx))))] at hol
        obtain ⟨cs, e1, hcs⟩ := (hr.ev_at hf).fn_inv
        have hds := mapK_eq hds
        have hv : VXs ms w (OkB w0.heap.size A ms w) (args.toList.map (evD (look (slotsS rs S 0 sl))) ++ caps) (args.toList.map a.eval ++ cs) := (VXs.of_map fun x _ => hr.ev x).append hcs
        have hv' := unolds_ok hr hv hol
        have hds := argsOK_mono (hp' := heapS rs S 0 hp) (k' := fun l => some l) (fun k b hu hb => by
          obtain ⟨e, g1, g2⟩ := hv'.noPh hu
          by_cases hk : k < hp.length
          · rw [hpre k hk, ← q2 k hk]; exact hb
          · have hkl : k < hp'.length := (List.getElem?_eq_some_iff.1 hb).1
            obtain ⟨j, rj, j1, j2, j3, j4⟩ := lens_at (rs := rs) (i := i) (k := k - hp.length) (by omega)
            have hSj : S j = true := by
              cases hs : S j with
              | true => rfl
              | false =>
                have := hph j rj j2 hs k (by omega) (by omega)
                rw [g1] at this; cases this
                rcases g2 with ⟨_, _, _, h⟩ | h
                · simp [phE, undef] at h
                · simp [phE] at h
            obtain ⟨u1, u2, t1, _, t3⟩ := heapS_split (S := S) (i := 0) (hp := hp) j2
            have e1 := t3 S fun _ _ => rfl
            rw [Nat.zero_add, if_pos hSj] at e1
            have j2' : (rs.take i)[j]? = some rj := by rw [List.getElem?_take, if_pos j1]; exact j2
            obtain ⟨v1, v2, x1, _, x3⟩ := heapS_split (S := fun _ => true) (i := 0) (hp := hp) j2'
            have e2 := x3 (fun _ => true) fun _ _ => rfl
            rw [if_pos rfl, List.take_take, Nat.min_eq_left (by omega)] at *
            rw [qh, e2, List.append_assoc, List.getElem?_append_right (by omega), List.getElem?_append_left (by omega)] at hb
            rw [e1, List.append_assoc, List.getElem?_append_right (by omega), List.getElem?_append_left (by omega)]
            rw [show k - u1.length = k - v1.length by omega]; exact hb) (fun l h => h) hds
        obtain ⟨l, p1, p2⟩ := argsOK_ok hr hv' hds
        simp only [Option.some.injEq] at p2
        subst p2
        refine enter_call (run_call (o := r.o) eop.symm hF.plain e1) ((hF.calls (Lt w) w _ (fun k hk => hk) p1).mono ?_)
        rintro e w' ⟨v, mr, rfl, hpost⟩
        have hr0 := hr
        rw [hS0] at hr0
        have hb := hr.ext.size
        have hphi : ∀ k, h1.length ≤ k → k < h1.length + r.rh.length → ms[k]? = some phE := fun k k1 k2 => hph i r hi hSi k (by omega) (by omega)
        obtain ⟨ms', g1, g2, g3, g4, g5⟩ := Rel.fill hr0 hphi hpost.ext hpost.len hpost.nodup hpost.range (by
          intro ms'' ht i' b e hb' he'
          have hE := hpost.ents i' b e hb' he'
          have hab := (List.all_eq_true.1 hF.arrs) b (List.mem_of_getElem? hb')
          have hdb := (List.all_eq_true.1 hdeep) b (List.mem_of_getElem? hb')
          cases b with
          | gone => simp [Blk.isArr] at hab
          | cells t ds => simp [Blk.isArr] at hab
          | fr n xs => exact hE
          | cust R => exact hE
          | arr t n xs deep =>
            obtain ⟨us, bs, p1, p2, p3, p4, p5⟩ := hE
            refine ⟨us, bs, ownsRow_base p1 hb, p2, p3, p4, ?_⟩
            cases deep with
            | true => exact p5
            | false => simp [Blk.isDeep] at hdb)
        refine ⟨v, rfl, DInv.next (v := v) hi (hnd i r hi) (hdst r (List.mem_of_getElem? hi)) (htn i r hi) (by rw [hS1]; exact g1) ?_ ?_⟩
        · have hl1 : hp'.length = h1.length := by rw [q1, s1]
          have := noRd_ok (ms' := ms') (w' := w') (Ok' := OkB w0.heap.size A ms' w') (k := hp'.length) (fun m e he => by rw [hl1]; exact g2 m e he) hpost.val hno
          rw [← ed]; exact this
        · intro j r' hji hj hs k k1 k2
          rw [g3 k ?_]
          · exact hph j r' hj hs k k1 k2
          · rcases Nat.lt_or_gt_of_ne hji with h | h
            · have := lens_lt hj h; omega
            · have := lens_lt hi h; omega
    cases hat with
    | step hg hst =>
      have hw : Region.wanted r.o (yielded ops a.tmps) = true := by simp [Region.wanted, hg]
      rw [if_pos hw]
      exact hexec r.o r.d r.rh rfl rfl rfl rfl hst
    | on hg hj hl hst =>
      rename_i j u b
      have hmu : u ∈ guardTmp l r.o := by
        simp only [guardTmp, hg]
        rw [hguard i r.o ho j b hg] at hj
        simp [hj]
      have hl' : look (slotsS rs S 0 sl) u = .lit (.bool b) := by rw [hlook u (List.mem_append_right _ hmu)]; exact hl
      have hs := hr.slots u
      simp only [St.get, hl'] at hs
      obtain ⟨e, _⟩ := hs.lit_inv
      have hw : Region.wanted r.o (yielded ops a.tmps) = true := by simp [Region.wanted, hg, yielded_of hj e]
      rw [if_pos hw]
      exact hexec { r.o with guard := none } r.d r.rh rfl rfl rfl rfl hst
    | off hg hj hl hd hrh =>
      rename_i j u b
      have hmu : u ∈ guardTmp l r.o := by
        simp only [guardTmp, hg]
        rw [hguard i r.o ho j b hg] at hj
        simp [hj]
      rw [← hlook u (List.mem_append_right _ hmu)] at hl
      have hs := hr.slots u
      simp only [St.get] at hs
      have hw : Region.wanted r.o (yielded ops a.tmps) = false := by
        rcases hl with hl | hl
        · rw [hl] at hs
          obtain ⟨e, _⟩ := hs.lit_inv
          simp [Region.wanted, hg, yielded_of hj e]
        · rw [hl] at hs
          obtain ⟨us, e, h2⟩ := hs.tup_inv
          cases h2
          simp [Region.wanted, hg, yielded_no hj e]
      rw [if_neg (by rw [hw]; simp)]
      refine DInv.next hi (hnd i r hi) (hdst r (List.mem_of_getElem? hi)) (htn i r hi) ?_ (by rw [hd]; exact .tup (us := []) .nil) fun j r' hji hj hs k hk1 hk2 => hph j r' hj hs k hk1 hk2
      rw [hS1, hrh]
      rw [hS0, hrh] at hr
      simpa using hr
  · -- at the end
    rintro S a w hS ⟨ms, hr, _⟩
    refine ⟨ms, ?_⟩
    rw [slotsS_congr (S' := fun _ => true) (fun j hj => by rw [Nat.zero_add]; exact hS j (by omega)), heapS_congr (S' := fun _ => true) (fun j hj => by rw [Nat.zero_add]; exact hS j (by omega))] at hr
    exact hr

theorem W_draw (hm : P.follows .mixedOrders = true) (hT : TabOk P tab) {l : List Oper} {id : Nat} {sl : List (Nat × D)} {hp : List Blk} {rs : List Rec} (hok : drawOk l = true) (hrun : DRun P w0 A tab l.toArray hp.length l sl hp rs) (hn : rs.all (fun r => Nat.blt r.t n) = true)
    (hK : Q .normal ⟨n, slotsS rs (fun _ => true) 0 sl, heapS rs (fun _ => true) 0 hp⟩) : W P w0 A (.region id l.toArray true) ⟨n, sl, hp⟩ Q := by
  refine ⟨fun ms a w hr => ?_⟩
  have hg : DGood P w0 A n l.toArray l rs sl hp := dgood hT (fun i _ => by simp) hok hrun hn
  refine wp_region_inv (I := DInv w0 A n rs sl hp) hm hg.wf (hg.start hr) (fun S a w i o _ hc hI ho hS ha => hg.step S a w i o hc hI ho hS ha) ?_
  intro S a w hS hI
  obtain ⟨ms', hr'⟩ := hg.fin hS hI
  exact ⟨ms', _, hr', hK⟩

/-- All of the operations from k on wait for all that stand ahead of them. -/
def tailOk (l : List Oper) (k : Nat) : Bool := l.zipIdx.all fun x => Nat.blt x.2 k || ((afters x.1).all (fun m => Nat.blt m x.2) && (List.range x.2).all fun j => waits l l.length x.2 j)

theorem W_drawT (hm : P.follows .mixedOrders = true) (hT : TabOk P tab) {l1 l2 : List Oper} {id : Nat} {sl : List (Nat × D)} {hp : List Blk} {rs : List Rec} (hok : drawOk l1 = true) (hto : tailOk (l1 ++ l2) l1.length = true) (hrun : DRun P w0 A tab (l1 ++ l2).toArray hp.length l1 sl hp rs) (hn : rs.all (fun r => Nat.blt r.t n) = true)
    (hK : WO P w0 A (l1 ++ l2).toArray l2 ⟨n, slotsS rs (fun _ => true) 0 sl, heapS rs (fun _ => true) 0 hp⟩ fun s => Q .normal s) : W P w0 A (.region id (l1 ++ l2).toArray true) ⟨n, sl, hp⟩ Q := by
  refine ⟨fun ms a w hr => ?_⟩
  have hg : DGood P w0 A n (l1 ++ l2).toArray l1 rs sl hp := dgood hT (fun i hi => by simp [List.getElem?_append_left hi]) hok hrun hn
  have hleft : ∀ (i : Nat), i < l1.length → (l1 ++ l2)[i]? = l1[i]? := fun i hi => List.getElem?_append_left hi
  simp only [tailOk, List.all_eq_true] at hto
  have hta : ∀ (i : Nat) (o : Oper), (l1 ++ l2)[i]? = some o → l1.length ≤ i → (∀ m ∈ afters o, m < i) ∧ ∀ j, j < i → waits (l1 ++ l2) (l1 ++ l2).length i j = true := by
    intro i o ho hi
    have := hto (o, i) (by rw [List.mem_zipIdx_iff_getElem?]; simpa using ho)
    simp only [Bool.or_eq_true, Bool.and_eq_true, List.all_eq_true] at this
    rcases this with h | ⟨h1, h2⟩
    · have : i < l1.length := by simpa [Nat.blt_eq] using h
      omega
    · exact ⟨fun m hm => by simpa [Nat.blt_eq] using h1 m hm, fun j hj => h2 j (List.mem_range.2 hj)⟩
  have hwf : ∀ (i : Nat) (o : Oper), (l1 ++ l2)[i]? = some o → ∀ e ∈ o.after, Region.binds .any e = true → e.on < i := by
    intro i o ho e he hb
    by_cases hi : i < l1.length
    · rw [hleft i hi] at ho; exact hg.wf i o ho e he hb
    · exact (hta i o ho (by omega)).1 e.on (mem_afters.2 ⟨e, he, hb, rfl⟩)
  let Q' : Exit → Act → World → Prop := fun e a' w' => e = .normal ∧ ∃ ms' s', Rel w0 A ms' s' a' w' ∧ Q .normal s'
  -- an operation of the tail comes up: all ahead of it are done
  have hall : ∀ (S : Nat → Bool) (i : Nat) (o : Oper), (∀ (j : Nat) (o' : Oper), (l1 ++ l2)[j]? = some o' → S j = true → ∀ e ∈ o'.after, Region.binds .any e = true → S e.on = true) → (l1 ++ l2)[i]? = some o → (∀ e ∈ o.after, Region.binds .any e = true → S e.on = true) → l1.length ≤ i → ∀ j, j < i → S j = true := by
    intro S i o hc ho ha hi j hj
    have h := (hta i o ho hi).2 j hj
    have hpos : (l1 ++ l2).length = (l1 ++ l2).length - 1 + 1 := by have := (List.getElem?_eq_some_iff.1 ho).1; omega
    rw [hpos] at h
    simp only [waits, ho, List.any_eq_true] at h
    obtain ⟨m, hm', h⟩ := h
    obtain ⟨e, he, hb, rfl⟩ := mem_afters.1 hm'
    have h1 := ha e he hb
    rw [Bool.or_eq_true] at h
    rcases h with h | h
    · rw [← Nat.eq_of_beq_eq_true h]; exact h1
    · exact waits_ok hc h h1
  refine wp_region_inv (I := fun S a w => ((∀ j, l1.length ≤ j → S j = false) ∧ DInv w0 A n rs sl hp S a w) ∨ ∃ m, l1.length ≤ m ∧ (∀ j, S j = decide (j < m)) ∧ wpList P (l1 ++ l2).toArray Q' ((l1 ++ l2).drop m) a w) hm hwf (Or.inl ⟨fun _ _ => rfl, hg.start hr⟩) ?_ ?_
  · intro S a w i o hSl hc hI ho hSi ha
    have htail : ∀ m, l1.length ≤ m → (∀ j, S j = decide (j < m)) → i = m → wpList P (l1 ++ l2).toArray Q' ((l1 ++ l2).drop m) a w →
        if Region.wanted o (yielded (l1 ++ l2).toArray a.tmps) then o.wp P a w (fun a' w' => ((∀ j, l1.length ≤ j → (if j = i then true else S j) = false) ∧ DInv w0 A n rs sl hp (fun j => if j = i then true else S j) a' w') ∨ ∃ m, l1.length ≤ m ∧ (∀ j, (if j = i then true else S j) = decide (j < m)) ∧ wpList P (l1 ++ l2).toArray Q' ((l1 ++ l2).drop m) a' w') (fun _ _ _ => False)
        else ((∀ j, l1.length ≤ j → (if j = i then true else S j) = false) ∧ DInv w0 A n rs sl hp (fun j => if j = i then true else S j) (a.put o.dst undef) w) ∨ ∃ m, l1.length ≤ m ∧ (∀ j, (if j = i then true else S j) = decide (j < m)) ∧ wpList P (l1 ++ l2).toArray Q' ((l1 ++ l2).drop m) (a.put o.dst undef) w := by
      intro m hm' hSm him hl
      subst him
      have hdrop : (l1 ++ l2).drop i = o :: (l1 ++ l2).drop (i + 1) := by
        have hi := List.getElem?_eq_some_iff.1 ho
        rw [List.drop_eq_getElem_cons hi.1, hi.2]
      rw [hdrop] at hl
      unfold wpList at hl
      have hS' : ∀ j, (if j = i then true else S j) = decide (j < i + 1) := by
        intro j
        split
        · rename_i e; subst e; simp
        · rw [hSm j]; simp; omega
      split
      · rename_i hw
        rw [if_pos hw] at hl
        rcases hl with hl | ⟨_, ⟨_, _, h⟩⟩
        · have : o.wp P a w (wpList P (l1 ++ l2).toArray Q' ((l1 ++ l2).drop (i + 1))) (fun _ _ _ => False) := by
            have hq : ∀ (a' : Act) (w' : World) (e : Exit), e ≠ .normal → ¬ Q' e a' w' := fun _ _ _ h1 h2 => h1 h2.1
            unfold Oper.wp at hl ⊢
            generalize (execOp a.eval o).run P w = r at *
            cases r with
            | ok x w' =>
              cases x <;> simp only [Oper.upon] at hl ⊢
              case value => exact hl
              case skip => exact hl
              case defer => exact hl
              case enter => exact Calls.mono hl (fun e w'' he => by cases e with | returned v => exact he | panicked c => exact (hq _ _ _ (by simp) he).elim | outgrown => obtain ⟨_, _, h⟩ := he; exact (hq _ _ _ (by simp) h).elim)
              case row => exact hl
            | halt x w' =>
              cases x <;> simp only [Oper.upon] at hl ⊢
              exact (hq _ _ _ (by simp) hl).elim
          exact Oper.wp_mono (fun a' w' h => Or.inr ⟨i + 1, by omega, hS', h⟩) this
        · exact absurd h.1 (by simp)
      · rename_i hw
        rw [if_neg hw] at hl
        exact Or.inr ⟨i + 1, by omega, hS', hl⟩
    rcases hI with ⟨hno, hI⟩ | ⟨m, hm', hSm, hl⟩
    · by_cases hi : i < l1.length
      · have ho' : l1[i]? = some o := by rw [← hleft i hi]; exact ho
        have hc' : ∀ (j : Nat) (o' : Oper), l1[j]? = some o' → S j = true → ∀ e ∈ o'.after, Region.binds .any e = true → S e.on = true := fun j o' hj => hc j o' (by rw [hleft j (List.getElem?_eq_some_iff.1 hj).1]; exact hj)
        have hst := hg.step S a w i o hc' hI ho' hSi ha
        have hno' : ∀ j, l1.length ≤ j → (if j = i then true else S j) = false := fun j hj => by rw [if_neg (by omega)]; exact hno j hj
        split
        · rename_i hw
          rw [if_pos hw] at hst
          exact Oper.wp_mono (fun a' w' h => Or.inl ⟨hno', h⟩) hst
        · rename_i hw
          rw [if_neg hw] at hst
          exact Or.inl ⟨hno', hst⟩
      · have hi := Nat.le_of_not_lt hi
        have hlt := hall S i o hc ho ha hi
        have him : i = l1.length := by
          apply Classical.byContradiction; intro hne
          have := hlt l1.length (by omega)
          rw [hno _ (Nat.le_refl _)] at this; exact Bool.noConfusion this
        obtain ⟨ms', hr'⟩ := hg.fin (fun j hj => hlt j (by omega)) hI
        have hl := hK.run ms' a w hr' Q' fun ms'' s' a' w' h1 h2 => ⟨rfl, ms'', s', h1, h2⟩
        refine htail l1.length (Nat.le_refl _) (fun j => ?_) him (by rw [List.drop_left]; exact hl)
        by_cases hj : j < l1.length
        · rw [hlt j (by omega)]; simp [hj]
        · rw [hno j (by omega)]; simp; omega
    · have hi : m ≤ i := by
        apply Classical.byContradiction; intro hne
        rw [hSm i] at hSi; simp at hSi; omega
      have hlt := hall S i o hc ho ha (by omega)
      have him : i = m := by
        apply Classical.byContradiction; intro hne
        have := hlt m (by omega)
        rw [hSm m] at this; simp at this
      exact htail m hm' hSm him hl
  · intro S a w hS hI
    have fin : ∀ {a w}, Q' .normal a w → ∃ ms' s', Rel w0 A ms' s' a w ∧ Q .normal s' := fun h => h.2
    rcases hI with ⟨hno, hI⟩ | ⟨m, hm', hSm, hl⟩
    · have hl2 : l2 = [] := by
        cases l2 with
        | nil => rfl
        | cons o l2 =>
          have := hS l1.length (by simp)
          rw [hno _ (Nat.le_refl _)] at this; exact Bool.noConfusion this
      subst hl2
      obtain ⟨ms', hr'⟩ := hg.fin (fun j hj => hS j (by simpa using hj)) hI
      exact fin (hK.run ms' a w hr' Q' fun ms'' s' a' w' h1 h2 => ⟨rfl, ms'', s', h1, h2⟩)
    · have hml : (l1 ++ l2).length ≤ m := by
        apply Classical.byContradiction; intro hne
        have := hS m (by omega)
        rw [hSm m] at this; simp at this
      rw [List.drop_of_length_le hml] at hl
      exact fin hl
end
end Go.Proofs.YtcpjhpjlcgcigaaGreatDoor
namespace Go.Proofs.YtcpjhpjlcgcigaaGreatDoor
open Go.ChangeShapes Go.WideShapes Go.ChangeAt Go.RowKit

structure DW (P : Program) (w0 : World) (A : Nat → Prop) (tab : Nat → Option TI) (ops : Array Oper) (H n : Nat) (l : List Oper) (sl : List (Nat × D)) (hp : List Blk) (K : St → Prop) : Prop where
  run : ∃ rs, DRun P w0 A tab ops H l sl hp rs ∧ rs.all (fun r => Nat.blt r.t n) = true ∧ K ⟨n, slotsS rs (fun _ => true) 0 sl, heapS rs (fun _ => true) 0 hp⟩

section
variable {P : Program} {w0 : World} {A : Nat → Prop} {tab : Nat → Option TI} {ops : Array Oper} {H n : Nat} {rest : List Oper} {sl : List (Nat × D)} {hp : List Blk} {K : St → Prop} {Q : Exit → St → Prop}
variable {t : Tmp} {op : Op} {ty : TypeId} {pos : String} {after : Array Edge}

theorem slotsS_ix (rs : List Rec) (i j : Nat) (sl : List (Nat × D)) : slotsS rs (fun _ => true) i sl = slotsS rs (fun _ => true) j sl := by
  induction rs generalizing i j sl with
  | nil => rfl
  | cons r rs ih => simp only [slotsS, if_true]; exact ih _ _ _
theorem heapS_ix (rs : List Rec) (i j : Nat) (hp : List Blk) : heapS rs (fun _ => true) i hp = heapS rs (fun _ => true) j hp := by
  induction rs generalizing i j hp with
  | nil => rfl
  | cons r rs ih => simp only [heapS, if_true]; exact ih _ _ _

theorem W_drawR (hm : P.follows .mixedOrders = true) (hT : TabOk P tab) {l : List Oper} {id : Nat} (hok : drawOk l = true) (h : DW P w0 A tab l.toArray hp.length n l sl hp fun s => Q .normal s) : W P w0 A (.region id l.toArray true) ⟨n, sl, hp⟩ Q := by
  obtain ⟨rs, h1, h2, h3⟩ := h.run
  exact W_draw hm hT hok h1 h2 h3
/-- Operations that may come in whatever order. -/
def isFree : Op → Bool
  | .move _ => true
  | .assign _ => true
  | .pick _ _ _ => true
  | .binOp _ _ _ _ _ => true
  | .unOp _ _ _ => true
  | .extract _ _ => true
  | .makeFunc _ _ _ => true
  | .fieldAddr _ _ _ => true
  | .load _ _ => true
  | .build _ _ => true
  | .index _ _ _ => true
  | .indexAddr _ _ _ => true
  | .convert _ _ _ => true
  | .slice _ _ _ _ _ => true
  | .nilCheck _ => true
  | .alloc _ => true
  | .call c => match c.callee with | .value _ => true | .builtin .len => true | .builtin .min => true | .builtin .max => true | _ => false
  | _ => false
def splitK {α : Type} : List Oper → (List Oper → List Oper → Option α) → Option α
  | [], k => k [] []
  | o :: l, k => match isFree o.op with
    | true => splitK l fun a b => k (o :: a) b
    | false => k [] (o :: l)
theorem splitK_eq {α : Type} : ∀ {l : List Oper} {k : List Oper → List Oper → Option α} {r : α}, splitK l k = some r → ∃ a b, k a b = some r ∧ l = a ++ b
  | [], k, r, h => ⟨[], [], h, rfl⟩
  | o :: l, k, r, h => by
    simp only [splitK] at h
    split at h
    · obtain ⟨a, b, h1, rfl⟩ := splitK_eq h
      exact ⟨o :: a, b, h1, rfl⟩
    · exact ⟨[], o :: l, h, rfl⟩
theorem W_drawTR (hm : P.follows .mixedOrders = true) (hT : TabOk P tab) {l l1 l2 : List Oper} {id : Nat} (hs : splitK l (fun a b => some (a, b)) = some (l1, l2)) (hok : drawOk l1 = true) (hto : tailOk l l1.length = true) (h : DW P w0 A tab l.toArray hp.length n l1 sl hp fun s => WO P w0 A l.toArray l2 s fun s => Q .normal s) :
    W P w0 A (.region id l.toArray true) ⟨n, sl, hp⟩ Q := by
  obtain ⟨a, b, h1, rfl⟩ := splitK_eq hs
  simp only [Option.some.injEq, Prod.mk.injEq] at h1
  obtain ⟨rfl, rfl⟩ := h1
  obtain ⟨rs, h1, h2, h3⟩ := h.run
  exact W_drawT hm hT hok hto h1 h2 h3
/-- The same, slices that are written out among them. -/
def isFreeS (o : Op) : Bool := match o with | .buildSlice _ _ _ => true | o => isFree o
def splitKS {α : Type} : List Oper → (List Oper → List Oper → Option α) → Option α
  | [], k => k [] []
  | o :: l, k => match isFreeS o.op with
    | true => splitKS l fun a b => k (o :: a) b
    | false => k [] (o :: l)
theorem splitKS_eq {α : Type} : ∀ {l : List Oper} {k : List Oper → List Oper → Option α} {r : α}, splitKS l k = some r → ∃ a b, k a b = some r ∧ l = a ++ b
  | [], k, r, h => ⟨[], [], h, rfl⟩
  | o :: l, k, r, h => by
    simp only [splitKS] at h
    split at h
    · obtain ⟨a, b, h1, rfl⟩ := splitKS_eq h
      exact ⟨o :: a, b, h1, rfl⟩
    · exact ⟨[], o :: l, h, rfl⟩
theorem W_drawTS (hm : P.follows .mixedOrders = true) (hT : TabOk P tab) {l l1 l2 : List Oper} {id : Nat} (hs : splitKS l (fun a b => some (a, b)) = some (l1, l2)) (hok : drawOk l1 = true) (hto : tailOk l l1.length = true) (h : DW P w0 A tab l.toArray hp.length n l1 sl hp fun s => WO P w0 A l.toArray l2 s fun s => Q .normal s) :
    W P w0 A (.region id l.toArray true) ⟨n, sl, hp⟩ Q := by
  obtain ⟨a, b, h1, rfl⟩ := splitKS_eq hs
  simp only [Option.some.injEq, Prod.mk.injEq] at h1
  obtain ⟨rfl, rfl⟩ := h1
  obtain ⟨rs, h1, h2, h3⟩ := h.run
  exact W_drawT hm hT hok hto h1 h2 h3
theorem D_nil (h : K ⟨n, sl, hp⟩) : DW P w0 A tab ops H n [] sl hp K := ⟨[], .nil, rfl, h⟩
theorem D_step {d : D} {rh : List Blk} (hs : DStep P w0 A tab H sl hp ⟨some t, op, ty, pos, after, none⟩ d rh) (hd : Nat.blt t n = true) (h : DW P w0 A tab ops H n rest ((t, d) :: sl) (hp ++ rh) K) : DW P w0 A tab ops H n (⟨some t, op, ty, pos, after, none⟩ :: rest) sl hp K := by
  obtain ⟨rs, h1, h2, h3⟩ := h.run
  refine ⟨_, .step rfl rfl hs h1, ?_, ?_⟩
  · simp only [List.all_cons, hd, h2, Bool.and_self]
  · simp only [slotsS, heapS, if_true]
    rw [slotsS_ix _ _ 0, heapS_ix _ _ 0]; exact h3
theorem D_pop {c : Prop} {d : D} (h : pop tab hp (evD (look sl)) op = some (c, d)) (hh : (match asksHeap op with | true => op.operands.toList.all fun x => (evD (look sl) x).lt H | false => true) = true) (hd : Nat.blt t n = true) (hc : c) (hk : DW P w0 A tab ops H n rest ((t, d) :: sl) hp K) : DW P w0 A tab ops H n (⟨some t, op, ty, pos, after, none⟩ :: rest) sl hp K :=
  D_step (.pop h hh hc) hd (by rw [List.append_nil]; exact hk)
theorem D_index {t' : TypeId} {x i : Operand} {m : Nat} {xs : List (List D)} {j : Int} {r : List D} {e : TypeId} {agg : Bool} {size bytes : Nat} {zero : List Value} {k' : TK} {agg' : Bool} {bytes' : Nat} {zero' : List Value}
    (hx : evD (look sl) x = .sh m xs) (hi : evD (look sl) i = .lit (.int .i64 j)) (ht : tab t' = some ⟨.sl e, agg, size, bytes, zero⟩) (he : tab e = some ⟨k', agg', m, bytes', zero'⟩) (hd : Nat.blt t n = true) (hrow : RowAt xs j r) (hk : DW P w0 A tab ops H n rest ((t, .sptr r) :: sl) hp K) :
    DW P w0 A tab ops H n (⟨some t, .indexAddr t' x i, ty, pos, after, none⟩ :: rest) sl hp K := D_step (.index hx hi ht he hrow) hd (by rw [List.append_nil]; exact hk)
theorem D_eload {t' T : TypeId} {x : Operand} {i m o : Nat} {j : Int} {xs : List (List D)} {r : List D} {dp : Bool} {k : TK} {agg : Bool} {size bytes : Nat} {zero : List Value} {c : Prop} {d : D}
    (hx : evD (look sl) x = .eptr i m j o) (hiH : Nat.blt i H = true) (hb : hp[i]? = some (.arr T m xs dp)) (ht : tab t' = some ⟨k, agg, size, bytes, zero⟩) (hrow : RowAt xs j r) (hp' : dropK o r (fun ds => partD agg size ds) = some (c, d)) (hd : Nat.blt t n = true) (hk : DW P w0 A tab ops H n rest ((t, d) :: sl) hp K) :
    DW P w0 A tab ops H n (⟨some t, .load t' x, ty, pos, after, none⟩ :: rest) sl hp K := D_step (.eload hx hiH hb ht hrow hp') hd (by simpa using hk)
theorem D_call {f : FuncId} {fo : Operand} {args : Array Operand} {tys : Array TypeId} {ds caps : List D} {d : D} {rh : List Blk} (hf : evD (look sl) fo = .fn f caps) (hds : mapK (evD (look sl)) args.toList (fun l => some (l ++ caps)) = some ds) (hp' : D.plainL ds = true) (hd : Nat.blt t n = true) (hF : Fn P f ds d rh)
    (hk : DW P w0 A tab ops H n rest ((t, d.shift hp.length) :: sl) (hp ++ rh) K) : DW P w0 A tab ops H n (⟨some t, .call ⟨.value fo, args, tys⟩, ty, pos, after, none⟩ :: rest) sl hp K := D_step (.call hf hds hp' hF) hd hk
theorem D_callx {f : FuncId} {fo : Operand} {args : Array Operand} {tys : Array TypeId} {ds caps : List D} {d : D} {rh : List Blk} (hf : evD (look sl) fo = .fn f caps) (hds : mapK (evD (look sl)) args.toList (fun l => argsOK hp ((l ++ caps).map unold) fun l => some l) = some ds) (hd : Nat.blt t n = true) (hF : Fn P f ds d rh) (hno : noRd d = true) (hdeep : rh.all Blk.isDeep = true) (hold : oldOks w0 A (args.toList.map (evD (look sl)) ++ caps))
    (hk : DW P w0 A tab ops H n rest ((t, d.shift hp.length) :: sl) (hp ++ rh) K) : DW P w0 A tab ops H n (⟨some t, .call ⟨.value fo, args, tys⟩, ty, pos, after, none⟩ :: rest) sl hp K := D_step (.callx hf hds hold hF hno hdeep) hd hk
theorem D_on {j : Nat} {want b : Bool} {u : Tmp} (hj : (ops[j]?).bind (·.dst) = some u) (hv : look sl u = .lit (.bool b)) (hb : b = want) (h : DW P w0 A tab ops H n (⟨some t, op, ty, pos, after, none⟩ :: rest) sl hp K) : DW P w0 A tab ops H n (⟨some t, op, ty, pos, after, some (j, want)⟩ :: rest) sl hp K := by
  obtain ⟨rs, h1, h2, h3⟩ := h.run
  subst hb
  cases h1 with
  | step e1 e2 e3 e4 => exact ⟨_, .on e1 rfl hj hv e3 e4, h2, h3⟩
  | on _ e => cases e
  | off _ e => cases e
theorem D_off {j : Nat} {want b : Bool} {u : Tmp} (hj : (ops[j]?).bind (·.dst) = some u) (hv : look sl u = .lit (.bool b)) (hb : b = !want) (hd : Nat.blt t n = true) (h : DW P w0 A tab ops H n rest ((t, .tup []) :: sl) hp K) : DW P w0 A tab ops H n (⟨some t, op, ty, pos, after, some (j, want)⟩ :: rest) sl hp K := by
  obtain ⟨rs, h1, h2, h3⟩ := h.run
  refine ⟨_, .off rfl rfl hj (Or.inl (by rw [hv, hb])) (by rw [List.append_nil]; exact h1), ?_, ?_⟩
  · simp only [List.all_cons, hd, h2, Bool.and_self]
  · simp only [slotsS, heapS, if_true, List.append_nil]
    rw [slotsS_ix _ _ 0, heapS_ix _ _ 0]; exact h3
theorem D_out {j : Nat} {want : Bool} {u : Tmp} (hj : (ops[j]?).bind (·.dst) = some u) (hv : look sl u = .tup []) (hd : Nat.blt t n = true) (h : DW P w0 A tab ops H n rest ((t, .tup []) :: sl) hp K) : DW P w0 A tab ops H n (⟨some t, op, ty, pos, after, some (j, want)⟩ :: rest) sl hp K := by
  obtain ⟨rs, h1, h2, h3⟩ := h.run
  refine ⟨_, .off rfl rfl hj (Or.inr hv) (by rw [List.append_nil]; exact h1), ?_, ?_⟩
  · simp only [List.all_cons, hd, h2, Bool.and_self]
  · simp only [slotsS, heapS, if_true, List.append_nil]
    rw [slotsS_ix _ _ 0, heapS_ix _ _ 0]; exact h3
theorem D_guardT {j : Nat} {b : Bool} {u : Tmp} (hj : (ops[j]?).bind (·.dst) = some u) (hv : look sl u = .lit (.bool b)) (hd : Nat.blt t n = true) (ht : b = true → DW P w0 A tab ops H n (⟨some t, op, ty, pos, after, none⟩ :: rest) sl hp K) (hf : b = false → DW P w0 A tab ops H n rest ((t, .tup []) :: sl) hp K) :
    DW P w0 A tab ops H n (⟨some t, op, ty, pos, after, some (j, true)⟩ :: rest) sl hp K := by
  cases b
  · exact D_off hj hv rfl hd (hf rfl)
  · exact D_on hj hv rfl (ht rfl)
theorem D_guardF {j : Nat} {b : Bool} {u : Tmp} (hj : (ops[j]?).bind (·.dst) = some u) (hv : look sl u = .lit (.bool b)) (hd : Nat.blt t n = true) (ht : b = false → DW P w0 A tab ops H n (⟨some t, op, ty, pos, after, none⟩ :: rest) sl hp K) (hf : b = true → DW P w0 A tab ops H n rest ((t, .tup []) :: sl) hp K) :
    DW P w0 A tab ops H n (⟨some t, op, ty, pos, after, some (j, false)⟩ :: rest) sl hp K := by
  cases b
  · exact D_on hj hv rfl (ht rfl)
  · exact D_off hj hv rfl hd (hf rfl)

theorem not_t {b : Bool} (h : (!b) = true) : b = false := by cases b; rfl; exact Bool.noConfusion h
theorem not_f {b : Bool} (h : (!b) = false) : b = true := by cases b; exact Bool.noConfusion h; rfl

theorem idW {c : Code} {s : St} (h : W P w0 A c s Q) : W P w0 A c s Q := h
theorem idO {l : List Oper} {s : St} (h : WO P w0 A ops l s K) : WO P w0 A ops l s K := h
theorem idD {l : List Oper} (h : DW P w0 A tab ops H n l sl hp K) : DW P w0 A tab ops H n l sl hp K := h
/-- A choice whose test is known. -/
def pickL : D → D → D → Option D
  | .lit (.bool true), a, _ => forceK a some
  | .lit (.bool false), _, b => forceK b some
  | _, _, _ => none
theorem R_pickL (hT : TabOk P tab) {c a b : Operand} {d : D} (hd : pickL (evD (look sl) c) (evD (look sl) a) (evD (look sl) b) = some d) (h : pop tab hp (evD (look sl)) (.pick c a b) = some (True, d)) (ht : Nat.blt t n = true) (hk : WO P w0 A ops rest ⟨n, (t, d) :: sl, hp⟩ K) :
    WO P w0 A ops (⟨some t, .pick c a b, ty, pos, after, none⟩ :: rest) ⟨n, sl, hp⟩ K := R_pop hT h ht trivial hk
theorem D_pickL {c a b : Operand} {d : D} (hd : pickL (evD (look sl) c) (evD (look sl) a) (evD (look sl) b) = some d) (h : pop tab hp (evD (look sl)) (.pick c a b) = some (True, d)) (ht : Nat.blt t n = true) (hk : DW P w0 A tab ops H n rest ((t, d) :: sl) hp K) :
    DW P w0 A tab ops H n (⟨some t, .pick c a b, ty, pos, after, none⟩ :: rest) sl hp K := D_pop h rfl ht trivial hk

/-! ### Ends -/
theorem ret_lit {rs : Array ResultVar} {v v' : Value} {s : St} (h : retD s rs.toList = some (.lit v)) (e : v = v') : RetS rs (.lit v') [] s := ⟨_, [], h, e, trivial, List.nodup_nil⟩
theorem ret_bool' {rs : Array ResultVar} {b b' : Bool} {s : St} (h : retD s rs.toList = some (.lit (.bool b))) (e : b = b') : RetS rs (.lit (.bool b')) [] s := ret_lit h (by rw [e])
theorem ret_int' {rs : Array ResultVar} {k : IntKind} {b b' : Int} {s : St} (h : retD s rs.toList = some (.lit (.int k b))) (e : b = b') : RetS rs (.lit (.int k b')) [] s := ret_lit h (by rw [e])
theorem ret_lit2 {rs : Array ResultVar} {u v u' v' : Value} {s : St} (h : retD s rs.toList = some (.tup [.lit u, .lit v])) (e : u = u') (e' : v = v') : RetS rs (.tup [.lit u', .lit v']) [] s := ⟨_, [], h, ⟨e, e', trivial⟩, trivial, List.nodup_nil⟩
/-- A slice of the call's own. -/
theorem ret_own {rs : Array ResultVar} {i : Nat} {s : St} {t : TypeId} {n : Nat} {xs xs' : List (List D)} {dp : Bool} (h : retD s rs.toList = some (.own i)) (hb : s.heap[i]? = some (.arr t n xs dp)) (e : xs = xs') : RetS rs (.own 0) [.arr t n xs' dp] s :=
  ⟨_, [some i], h, rfl, ⟨by rw [← e]; exact hb, rfl, trivial⟩, by simp⟩
/-- The nil slice, as one of the call's own. -/
theorem ret_nil {rs : Array ResultVar} {s : St} {t : TypeId} {n : Nat} {xs' : List (List D)} {dp : Bool} (h : retD s rs.toList = some .nil) (e : xs' = []) : RetS rs (.own 0) [.arr t n xs' dp] s :=
  ⟨_, [none], h, rfl, ⟨e, trivial⟩, by simp⟩
theorem ret_own_lit {rs : Array ResultVar} {i : Nat} {s : St} {t : TypeId} {n : Nat} {xs xs' : List (List D)} {dp : Bool} {v v' : Value} (h : retD s rs.toList = some (.tup [.own i, .lit v])) (hb : s.heap[i]? = some (.arr t n xs dp)) (e : xs = xs') (e' : v = v') : RetS rs (.tup [.own 0, .lit v']) [.arr t n xs' dp] s :=
  ⟨_, [some i], h, ⟨rfl, e', trivial⟩, ⟨by rw [← e]; exact hb, rfl, trivial⟩, by simp⟩
theorem ret_nil_lit {rs : Array ResultVar} {s : St} {t : TypeId} {n : Nat} {xs' : List (List D)} {dp : Bool} {v v' : Value} (h : retD s rs.toList = some (.tup [.nil, .lit v])) (e : xs' = []) (e' : v = v') : RetS rs (.tup [.own 0, .lit v']) [.arr t n xs' dp] s :=
  ⟨_, [none], h, ⟨rfl, e', trivial⟩, ⟨e, trivial⟩, by simp⟩
/-- A slice that is read alone. -/
theorem ret_sh {rs : Array ResultVar} {s : St} {n : Nat} {xs xs' : List (List D)} (h : retD s rs.toList = some (.sh n xs)) (e : xs = xs') : RetS rs (.sh n xs') [] s := ⟨_, [], h, ⟨rfl, e⟩, trivial, List.nodup_nil⟩
theorem ret_own_sh {rs : Array ResultVar} {i : Nat} {s : St} {t : TypeId} {n : Nat} {xs xs' : List (List D)} {dp : Bool} (h : retD s rs.toList = some (.own i)) (hb : s.heap[i]? = some (.arr t n xs dp)) (e : xs = xs') : RetS rs (.sh n xs') [] s :=
  ⟨_, [], h, ⟨⟨t, dp, by rw [← e]; exact hb⟩, rfl⟩, trivial, List.nodup_nil⟩
theorem ret_nil_sh {rs : Array ResultVar} {s : St} {n : Nat} {xs' : List (List D)} (h : retD s rs.toList = some .nil) (e : xs' = []) : RetS rs (.sh n xs') [] s := ⟨_, [], h, e, trivial, List.nodup_nil⟩

/-! ### What a function is given -/
theorem given_vr {w : World} {A : Nat → Prop} {ds : List D} (h : Given w A ds) {i : Nat} {d : D} (hd : ds[i]? = some d) : ∃ u, VX [] w A d u := by
  obtain ⟨us, h⟩ := h
  obtain ⟨u, _, h2⟩ := h.get hd
  exact ⟨u, h2⟩
theorem given_int {w : World} {A : Nat → Prop} {ds : List D} (h : Given w A ds) {i : Nat} {n : Int} (hd : ds[i]? = some (.lit (.int .i64 n))) : -9223372036854775808 ≤ n ∧ n ≤ 9223372036854775807 := by
  obtain ⟨u, h2⟩ := given_vr h hd
  exact litOk_i64.1 h2.lit_inv.2
theorem given_len {w : World} {A : Nat → Prop} {ds : List D} (h : Given w A ds) {i m : Nat} {xs : List (List D)} (hd : ds[i]? = some (.sh m xs)) : xs.length ≤ 9223372036854775807 := by
  obtain ⟨u, h2⟩ := given_vr h hd
  obtain ⟨bs, h3, _⟩ := h2.sh_inv
  cases h3 with
  | shnil _ _ => simp
  | sh _ h1 h2 _ _ _ => omega
theorem vr_row {w : World} {m : Nat} {xs : List (List D)} {u : Value} {bs : List Nat} (h : VR w (.sh m xs) u bs) {r : List D} (hr : r ∈ xs) : ∃ us bs', VRs w r us bs' := by
  cases h with
  | shnil _ _ => simp at hr
  | sh h1 _ _ _ h2 _ =>
    obtain ⟨i, hi, rfl⟩ := List.getElem_of_mem hr
    obtain ⟨bs', h3, _⟩ := h2.part (i * m) m
    rw [flatten_part h1 (List.getElem?_eq_getElem hi)] at h3
    exact ⟨_, _, h3⟩
theorem given_ints {w : World} {A : Nat → Prop} {ds : List D} (h : Given w A ds) {i : Nat} {l : List Int} (hd : ds[i]? = some (.sh 1 (ints l))) : ∀ x ∈ l, -9223372036854775808 ≤ x ∧ x ≤ 9223372036854775807 := by
  intro x hx
  obtain ⟨u, h2⟩ := given_vr h hd
  obtain ⟨bs, h3, _⟩ := h2.sh_inv
  obtain ⟨us, bs', h4⟩ := vr_row h3 (r := [.lit (.int .i64 x)]) (List.mem_map.2 ⟨x, hx, rfl⟩)
  cases h4 with
  | cons h5 _ => cases h5 with | lit h5 => exact litOk_i64.1 h5
end

section
variable {P : Program} {w0 : World} {A : Nat → Prop} {tab : Nat → Option TI} {ops : Array Oper} {H n : Nat} {rest : List Oper} {sl : List (Nat × D)} {hp hp2 : List Blk} {K : St → Prop} {Q : Exit → St → Prop}
variable {t dst : Tmp} {op : Op} {ty : TypeId} {pos : String} {after : Array Edge} {x y : Operand}
variable {f : FuncId} {fo : Operand} {args : Array Operand} {tys : Array TypeId} {ds caps : List D} {d d2 : D} {rh : List Blk} {m : Nat}
/-- The rules of calls, the function's contract ahead; the state behind them written out. -/
theorem R_callZ (hf : evD (look sl) fo = .fn f caps) (hF : Fn P f ds d rh) (hds : mapK (evD (look sl)) args.toList (fun l => some (l ++ caps)) = some ds) (hp' : D.plainL ds = true) (hd : Nat.blt dst n = true)
    (hk : WO P w0 A ops rest ⟨n, (dst, d2) :: sl, hp2⟩ K) (e1 : d.shift hp.length = d2 := by first | (dsimp only [D.shift, D.shiftL, List.cons_append, List.nil_append, List.append_nil, List.length_cons, List.length_nil, Nat.reduceAdd]; done) | exact rfl) (e2 : hp ++ rh = hp2 := by first | (dsimp only [D.shift, D.shiftL, List.cons_append, List.nil_append, List.append_nil, List.length_cons, List.length_nil, Nat.reduceAdd]; done) | exact rfl) : WO P w0 A ops (⟨some dst, .call ⟨.value fo, args, tys⟩, ty, pos, after, none⟩ :: rest) ⟨n, sl, hp⟩ K := by
  subst e1; subst e2; exact R_call hf hds hp' hd hF hk
theorem R_callvZ (hf : evD (look sl) fo = .fn f caps) (hF : Fn P f ds d rh) (hds : mapK (evD (look sl)) args.toList (fun l => argsFK hp (l ++ caps) fun l => some l) = some ds) (hd : Nat.blt dst n = true) (hno : noRd d = true) (hdeep : rh.all Blk.isDeep = true)
    (hk : WO P w0 A ops rest ⟨n, (dst, d2) :: sl, hp2⟩ K) (e1 : d.shift hp.length = d2 := by first | (dsimp only [D.shift, D.shiftL, List.cons_append, List.nil_append, List.append_nil, List.length_cons, List.length_nil, Nat.reduceAdd]; done) | exact rfl) (e2 : hp ++ rh = hp2 := by first | (dsimp only [D.shift, D.shiftL, List.cons_append, List.nil_append, List.append_nil, List.length_cons, List.length_nil, Nat.reduceAdd]; done) | exact rfl) : WO P w0 A ops (⟨some dst, .call ⟨.value fo, args, tys⟩, ty, pos, after, none⟩ :: rest) ⟨n, sl, hp⟩ K := by
  subst e1; subst e2; exact R_callv hf hds hd hF hno hdeep hk
theorem R_callxZ (hf : evD (look sl) fo = .fn f caps) (hF : Fn P f ds d rh) (hds : mapK (evD (look sl)) args.toList (fun l => argsFK hp ((l ++ caps).map unold) fun l => some l) = some ds) (hd : Nat.blt dst n = true) (hno : noRd d = true) (hdeep : rh.all Blk.isDeep = true) (hold : oldOks w0 A (args.toList.map (evD (look sl)) ++ caps))
    (hk : WO P w0 A ops rest ⟨n, (dst, d2) :: sl, hp2⟩ K) (e1 : d.shift hp.length = d2 := by first | (dsimp only [D.shift, D.shiftL, List.cons_append, List.nil_append, List.append_nil, List.length_cons, List.length_nil, Nat.reduceAdd]; done) | exact rfl) (e2 : hp ++ rh = hp2 := by first | (dsimp only [D.shift, D.shiftL, List.cons_append, List.nil_append, List.append_nil, List.length_cons, List.length_nil, Nat.reduceAdd]; done) | exact rfl) : WO P w0 A ops (⟨some dst, .call ⟨.value fo, args, tys⟩, ty, pos, after, none⟩ :: rest) ⟨n, sl, hp⟩ K := by
  subst e1; subst e2; exact R_callx hf hds hd hF hno hdeep hold hk
theorem D_callZ (hf : evD (look sl) fo = .fn f caps) (hF : Fn P f ds d rh) (hds : mapK (evD (look sl)) args.toList (fun l => some (l ++ caps)) = some ds) (hp' : D.plainL ds = true) (hd : Nat.blt t n = true)
    (hk : DW P w0 A tab ops H n rest ((t, d2) :: sl) hp2 K) (e1 : d.shift hp.length = d2 := by first | (dsimp only [D.shift, D.shiftL, List.cons_append, List.nil_append, List.append_nil, List.length_cons, List.length_nil, Nat.reduceAdd]; done) | exact rfl) (e2 : hp ++ rh = hp2 := by first | (dsimp only [D.shift, D.shiftL, List.cons_append, List.nil_append, List.append_nil, List.length_cons, List.length_nil, Nat.reduceAdd]; done) | exact rfl) : DW P w0 A tab ops H n (⟨some t, .call ⟨.value fo, args, tys⟩, ty, pos, after, none⟩ :: rest) sl hp K := by
  subst e1; subst e2; exact D_call hf hds hp' hd hF hk
theorem D_callxZ (hf : evD (look sl) fo = .fn f caps) (hF : Fn P f ds d rh) (hds : mapK (evD (look sl)) args.toList (fun l => argsOK hp ((l ++ caps).map unold) fun l => some l) = some ds) (hd : Nat.blt t n = true) (hno : noRd d = true) (hdeep : rh.all Blk.isDeep = true) (hold : oldOks w0 A (args.toList.map (evD (look sl)) ++ caps))
    (hk : DW P w0 A tab ops H n rest ((t, d2) :: sl) hp2 K) (e1 : d.shift hp.length = d2 := by first | (dsimp only [D.shift, D.shiftL, List.cons_append, List.nil_append, List.append_nil, List.length_cons, List.length_nil, Nat.reduceAdd]; done) | exact rfl) (e2 : hp ++ rh = hp2 := by first | (dsimp only [D.shift, D.shiftL, List.cons_append, List.nil_append, List.append_nil, List.length_cons, List.length_nil, Nat.reduceAdd]; done) | exact rfl) : DW P w0 A tab ops H n (⟨some t, .call ⟨.value fo, args, tys⟩, ty, pos, after, none⟩ :: rest) sl hp K := by
  subst e1; subst e2; exact D_callx hf hds hd hF hno hdeep hold hk
theorem D_allocZ {T : TypeId} {ds : List D} {k : TK} {agg : Bool} {size bytes : Nat} {zero : List Value} (ht : tab T = some ⟨k, agg, size, bytes, zero⟩) (hz : constK zero (fun l => some l) = some ds) (hd : Nat.blt t n = true)
    (hk : DW P w0 A tab ops H n rest ((t, .ptr m 0) :: sl) hp2 K) (e1 : hp.length = m := by first | (dsimp only [D.shift, D.shiftL, List.cons_append, List.nil_append, List.append_nil, List.length_cons, List.length_nil, Nat.reduceAdd]; done) | exact rfl) (e2 : hp ++ [.cells T ds] = hp2 := by first | (dsimp only [D.shift, D.shiftL, List.cons_append, List.nil_append, List.append_nil, List.length_cons, List.length_nil, Nat.reduceAdd]; done) | exact rfl) : DW P w0 A tab ops H n (⟨some t, .alloc T, ty, pos, after, none⟩ :: rest) sl hp K := by
  subst e1; subst e2; exact D_step (.alloc ht hz) hd hk
theorem D_mkS {t' T : TypeId} {len m' : Nat} {parts : Array (Nat × Operand)} {agg : Bool} {size bytes : Nat} {zero : List Value} {k' : TK} {agg' : Bool} {bytes' : Nat} {zero' : List Value} {l : List D} {rs : List (List D)} (ht : tab t' = some ⟨.sl T, agg, size, bytes, zero⟩) (hT' : tab T = some ⟨k', agg', m', bytes', zero'⟩) (hz : Nat.beq zero'.length m' = true) (hm : Nat.blt 0 m' = true) (hlm : Nat.ble (len * m') 16777216 = true) (hl : litCells (evD (look sl)) m' len zero' parts.toList = some l) (hrd : l.all isRd = true) (hrs : rowsK m' len l = some rs) (hd : Nat.blt t n = true)
    (hk : DW P w0 A tab ops H n rest ((t, .own m) :: sl) hp2 K) (e1 : hp.length = m := by first | (dsimp only [D.shift, D.shiftL, List.cons_append, List.nil_append, List.append_nil, List.length_cons, List.length_nil, Nat.reduceAdd]; done) | exact rfl) (e2 : hp ++ [.arr T m' rs false] = hp2 := by first | (dsimp only [D.shift, D.shiftL, List.cons_append, List.nil_append, List.append_nil, List.length_cons, List.length_nil, Nat.reduceAdd]; done) | exact rfl) : DW P w0 A tab ops H n (⟨some t, .buildSlice t' len parts, ty, pos, after, none⟩ :: rest) sl hp K := by
  subst e1; subst e2; exact D_step (.mkS ht hT' hz hm hlm hl hrd hrs) hd hk
theorem R_boxZ {t : TypeId} {ds : List D} (hx : cellsD (evD (look sl) x) = some ds) (hd : Nat.blt dst n = true)
    (hk : WO P w0 A ops rest ⟨n, (dst, .ptr m 0) :: sl, hp2⟩ K) (e1 : hp.length = m := by first | (dsimp only [D.shift, D.shiftL, List.cons_append, List.nil_append, List.append_nil, List.length_cons, List.length_nil, Nat.reduceAdd]; done) | exact rfl) (e2 : hp ++ [.cells t ds] = hp2 := by first | (dsimp only [D.shift, D.shiftL, List.cons_append, List.nil_append, List.append_nil, List.length_cons, List.length_nil, Nat.reduceAdd]; done) | exact rfl) : WO P w0 A ops (⟨some dst, .box t x, ty, pos, after, none⟩ :: rest) ⟨n, sl, hp⟩ K := by
  subst e1; subst e2; exact R_box hx hd hk
theorem R_allocZ (hT : TabOk P tab) {t : TypeId} {ds : List D} {k : TK} {agg : Bool} {size bytes : Nat} {zero : List Value} (ht : tab t = some ⟨k, agg, size, bytes, zero⟩) (hz : constK zero (fun l => some l) = some ds) (hd : Nat.blt dst n = true)
    (hk : WO P w0 A ops rest ⟨n, (dst, .ptr m 0) :: sl, hp2⟩ K) (e1 : hp.length = m := by first | (dsimp only [D.shift, D.shiftL, List.cons_append, List.nil_append, List.append_nil, List.length_cons, List.length_nil, Nat.reduceAdd]; done) | exact rfl) (e2 : hp ++ [.cells t ds] = hp2 := by first | (dsimp only [D.shift, D.shiftL, List.cons_append, List.nil_append, List.append_nil, List.length_cons, List.length_nil, Nat.reduceAdd]; done) | exact rfl) : WO P w0 A ops (⟨some dst, .alloc t, ty, pos, after, none⟩ :: rest) ⟨n, sl, hp⟩ K := by
  subst e1; subst e2; exact R_alloc hT ht hz hd hk
theorem R_makeZ (hT : TabOk P tab) {k m' : Nat} {T t : TypeId} {row : List D} {j : Int} {agg : Bool} {size bytes : Nat} {zero : List Value}
    {k' : TK} {agg' : Bool} {bytes' : Nat} {zero' : List Value} (hx : evD (look sl) x = .lit (.int .i64 j)) (hy : evD (look sl) y = .lit (.int .i64 j)) (hj : j = (k : Int)) (ht : tab t = some ⟨.sl T, agg, size, bytes, zero⟩) (hT' : tab T = some ⟨k', agg', m', bytes', zero'⟩)
    (hz : Nat.beq zero'.length m' = true) (hm : Nat.blt 0 m' = true) (hby : Nat.ble bytes' 1024 = true) (hrow : zeroRow zero' = some row) (hl : row.all isLit = true) (hd : Nat.blt dst n = true) (hk : k ≤ 4294967296)
    (hK : WO P w0 A ops rest ⟨n, (dst, .own m) :: sl, hp2⟩ K) (e1 : hp.length = m := by first | (dsimp only [D.shift, D.shiftL, List.cons_append, List.nil_append, List.append_nil, List.length_cons, List.length_nil, Nat.reduceAdd]; done) | exact rfl) (e2 : hp ++ [.arr T m' (List.replicate k row) true] = hp2 := by first | (dsimp only [D.shift, D.shiftL, List.cons_append, List.nil_append, List.append_nil, List.length_cons, List.length_nil, Nat.reduceAdd]; done) | exact rfl) : WO P w0 A ops (⟨some dst, .makeSlice t x y, ty, pos, after, none⟩ :: rest) ⟨n, sl, hp⟩ K := by
  subst e1; subst e2; exact R_make hT hx hy hj ht hT' hz hm hby hrow hl hd hk hK
theorem R_buildZ (hT : TabOk P tab) {t T : TypeId} {len m' : Nat} {parts : Array (Nat × Operand)} {agg : Bool} {size bytes : Nat} {zero : List Value}
    {k' : TK} {agg' : Bool} {bytes' : Nat} {zero' : List Value} {l : List D} {rs : List (List D)} (ht : tab t = some ⟨.sl T, agg, size, bytes, zero⟩) (hT' : tab T = some ⟨k', agg', m', bytes', zero'⟩) (hz : Nat.beq zero'.length m' = true) (hm : Nat.blt 0 m' = true) (hlm : Nat.ble (len * m') 16777216 = true)
    (hl : litCells (evD (look sl)) m' len zero' parts.toList = some l) (hlit : l.all isLit = true) (hrs : rowsK m' len l = some rs) (hd : Nat.blt dst n = true) (hK : WO P w0 A ops rest ⟨n, (dst, .own m) :: sl, hp2⟩ K) (e1 : hp.length = m := by first | (dsimp only [D.shift, D.shiftL, List.cons_append, List.nil_append, List.append_nil, List.length_cons, List.length_nil, Nat.reduceAdd]; done) | exact rfl) (e2 : hp ++ [.arr T m' rs true] = hp2 := by first | (dsimp only [D.shift, D.shiftL, List.cons_append, List.nil_append, List.append_nil, List.length_cons, List.length_nil, Nat.reduceAdd]; done) | exact rfl) :
    WO P w0 A ops (⟨some dst, .buildSlice t len parts, ty, pos, after, none⟩ :: rest) ⟨n, sl, hp⟩ K := by
  subst e1; subst e2; exact R_build hT ht hT' hz hm hlm hl hlit hrs hd hK
theorem R_vecZ (hT : TabOk P tab) {t T : TypeId} {len m' : Nat} {parts : Array (Nat × Operand)} {agg : Bool} {size bytes : Nat} {zero : List Value}
    {k' : TK} {agg' : Bool} {bytes' : Nat} {zero' : List Value} {l : List D} (ht : tab t = some ⟨.sl T, agg, size, bytes, zero⟩) (hT' : tab T = some ⟨k', agg', m', bytes', zero'⟩) (hz : Nat.beq zero'.length m' = true) (hm : Nat.blt 0 m' = true) (hlm : Nat.ble (len * m') 16777216 = true)
    (hl : litCells (evD (look sl)) m' len zero' parts.toList = some l) (hd : Nat.blt dst n = true) (hK : WO P w0 A ops rest ⟨n, (dst, .vec m len) :: sl, hp2⟩ K) (e1 : hp.length = m := by first | (dsimp only [D.shift, D.shiftL, List.cons_append, List.nil_append, List.append_nil, List.length_cons, List.length_nil, Nat.reduceAdd]; done) | exact rfl) (e2 : hp ++ [.cells T l] = hp2 := by first | (dsimp only [D.shift, D.shiftL, List.cons_append, List.nil_append, List.append_nil, List.length_cons, List.length_nil, Nat.reduceAdd]; done) | exact rfl) :
    WO P w0 A ops (⟨some dst, .buildSlice t len parts, ty, pos, after, none⟩ :: rest) ⟨n, sl, hp⟩ K := by
  subst e1; subst e2; exact R_vec hT ht hT' hz hm hlm hl hd hK
/-- One entry of a row put anew, the row written out. -/
def setK {α β : Type} : Nat → β → List β → (List β → Option α) → Option α
  | _, _, [], k => k []
  | 0, b, _ :: l, k => k (b :: l)
  | i + 1, b, c :: l, k => setK i b l fun l' => k (c :: l')
theorem setK_eq {α β : Type} : ∀ {i : Nat} {b : β} {l : List β} {k : List β → Option α} {r : α}, setK i b l k = some r → k (l.set i b) = some r
  | i, _, [], k, r, h => by cases i <;> simpa [setK] using h
  | 0, b, _ :: l, k, r, h => h
  | i + 1, b, c :: l, k, r, h => setK_eq (k := fun l' => k (c :: l')) h
theorem R_storeZ (hT : TabOk P tab) {t T : TypeId} {i o : Nat} {ds cs cs' : List D} {k : TK} {agg : Bool} {size bytes : Nat} {zero : List Value}
    (hx : evD (look sl) x = .ptr i o) (hb : hp[i]? = some (.cells T cs)) (ht : tab t = some ⟨k, agg, size, bytes, zero⟩) (hy : cellsD (evD (look sl) y) = some ds) (hz : Nat.beq ds.length size = true) (h1 : ds.all oneD = true) (hle : Nat.ble (o + ds.length) cs.length = true)
    (hcs : putK o ds cs (fun l => some l) = some cs') (hh : setK i (.cells T cs') hp some = some hp2) (hK : WO P w0 A ops rest ⟨n, sl, hp2⟩ K) :
    WO P w0 A ops (⟨none, .store t x y, ty, pos, after, none⟩ :: rest) ⟨n, sl, hp⟩ K := by
  have hh := setK_eq hh
  simp only [Option.some.injEq] at hh
  exact R_store hT hx hb ht hy hz h1 hle hcs rfl hh hK
theorem R_estoreZ (hT : TabOk P tab) {t T : TypeId} {i m o : Nat} {j : Int} {ds r r' : List D} {xs xs' : List (List D)} {dp : Bool} {k : TK} {agg : Bool} {size bytes : Nat} {zero : List Value}
    (hx : evD (look sl) x = .eptr i m j o) (hb : hp[i]? = some (.arr T m xs dp)) (ht : tab t = some ⟨k, agg, size, bytes, zero⟩) (hy : cellsD (evD (look sl) y) = some ds) (hz : Nat.beq ds.length size = true) (h1 : ds.all isLit = true) (hle : Nat.ble (o + ds.length) m = true)
    (hrow : RowAt xs j r) (hol : ((r.drop o).take ds.length).all isLit = true) (hr' : putK o ds r (fun l => some l) = some r') (hset : SetAt xs j r' xs') (hh : setK i (.arr T m xs' dp) hp some = some hp2) (hK : WO P w0 A ops rest ⟨n, sl, hp2⟩ K) :
    WO P w0 A ops (⟨none, .store t x y, ty, pos, after, none⟩ :: rest) ⟨n, sl, hp⟩ K := by
  have hh := setK_eq hh
  simp only [Option.some.injEq] at hh
  exact R_estore hT hx hb ht hy hz h1 hle hrow hol hr' hset rfl hh hK
/-- The state at the start, written out. -/
theorem W_start {c : Code} {sl2 : List (Nat × D)} (h : W P w0 A c ⟨n, sl2, hp⟩ Q) (e : sl = sl2) : W P w0 A c ⟨n, sl, hp⟩ Q := by subst e; exact h
/-- A part of an array of the call's own. -/
theorem R_slicePart (hT : TabOk P tab) {t T : TypeId} {i m' : Nat} {xs : List (List D)} {lo hi : Option Operand} {dp : Bool} {agg : Bool} {size bytes : Nat} {zero : List Value} {k' : TK} {agg' : Bool} {bytes' : Nat} {zero' : List Value} {c : Prop} {d : D}
    (hx : evD (look sl) x = .own i) (hb : hp[i]? = some (.arr T m' xs dp)) (ht : tab t = some ⟨.sl T, agg, size, bytes, zero⟩) (hT' : tab T = some ⟨k', agg', m', bytes', zero'⟩)
    (hbk : boundsK (evD (look sl)) xs.length lo hi (.part i m' 0 xs.length) (fun h => .part i m' 0 h.toNat) (fun l => .part i m' l.toNat xs.length) (fun l h => .part i m' l.toNat h.toNat) = some (c, d)) (hd : Nat.blt dst n = true) (hc : c)
    (hk : WO P w0 A ops rest ⟨n, (dst, d) :: sl, hp⟩ K) : WO P w0 A ops (⟨some dst, .slice t x lo hi none, ty, pos, after, none⟩ :: rest) ⟨n, sl, hp⟩ K := by
  refine ⟨fun ms a w hr Q hq => ?_⟩
  refine wpList_plain rfl fun Kn hKn => ?_
  obtain ⟨inf, td, z, q1, q2, q3, q4, q5, q6, _⟩ := hT.get ht
  obtain ⟨inf', td', z', g1, g2, g3, g4, g5, g6, _⟩ := hT.get hT'
  have htd := TK.sl_inv q4
  subst htd
  obtain ⟨e, hi', e1, _⟩ := (hr.ev_at hx).own_inv
  obtain ⟨us, bs, o1, o2, o3, o4, o5⟩ := hr.ents i _ e hb hi'
  have hcap : ∃ av cap, e.v = .slice av xs.length cap ∧ xs.length ≤ cap := by
    obtain ⟨_, ⟨hv, h0⟩ | ⟨g, cap, cur, hv, _, _, c1, _⟩⟩ := o1
    · exact ⟨none, 0, by rw [hv, h0], by omega⟩
    · exact ⟨_, cap, hv, c1⟩
  obtain ⟨av, cap, ev, hle⟩ := hcap
  obtain ⟨l, h, k1, k2, rfl, k3⟩ := boundsK_ok (P := P) (w := w) (ms := ms) (Ok := OkB w0.heap.size A ms w) (ρ' := a.eval) hbk hc (fun y hy => hr.ev y) true (cap := cap) hle (by simp) (fun l h => .part i m' l h) rfl (fun _ => rfl) (fun _ => rfl) (fun _ _ => rfl)
  have hrun : (execOp a.eval ⟨some dst, .slice t x lo hi none, ty, pos, after, none⟩).run P w = .ok (.value (.slice (if cap = l then av else av.map (·.add (l * m'))) (h - l) (cap - l))) w := by
    simp only [execOp, Instr.sliceAt, Instr.slice, Sem.run_bind, run_underlying q2, Result.andThen, e1, ev, Option.map_none, k3, run_sizeOf g1, g6]; rfl
  exact upon_value hrun (hKn _ _ (hk.run ms _ w (Rel.put (t := some dst) hr (.part hi' ev ⟨k1, k2⟩) (dstOk_all (s := ⟨n, _, _⟩) (t := some dst) hd)) Q hq))
/-- A choice whose test is known by a hypothesis. -/
theorem R_pickF (hT : TabOk P tab) {c a b : Operand} {q : Bool} {d : D} (hc : evD (look sl) c = .lit (.bool q)) (hq : q = false) (h : pickD (.lit (.bool false)) (evD (look sl) a) (evD (look sl) b) = some (True, d)) (hd : Nat.blt dst n = true) (hk : WO P w0 A ops rest ⟨n, (dst, d) :: sl, hp⟩ K) :
    WO P w0 A ops (⟨some dst, .pick c a b, ty, pos, after, none⟩ :: rest) ⟨n, sl, hp⟩ K := by
  subst hq; exact R_pop hT (by simp only [pop, hc, h]) hd trivial hk
theorem R_pickT (hT : TabOk P tab) {c a b : Operand} {q : Bool} {d : D} (hc : evD (look sl) c = .lit (.bool q)) (hq : q = true) (h : pickD (.lit (.bool true)) (evD (look sl) a) (evD (look sl) b) = some (True, d)) (hd : Nat.blt dst n = true) (hk : WO P w0 A ops rest ⟨n, (dst, d) :: sl, hp⟩ K) :
    WO P w0 A ops (⟨some dst, .pick c a b, ty, pos, after, none⟩ :: rest) ⟨n, sl, hp⟩ K := by
  subst hq; exact R_pop hT (by simp only [pop, hc, h]) hd trivial hk
theorem D_pickF {c a b : Operand} {q : Bool} {d : D} (hc : evD (look sl) c = .lit (.bool q)) (hq : q = false) (h : pickD (.lit (.bool false)) (evD (look sl) a) (evD (look sl) b) = some (True, d)) (hd : Nat.blt t n = true) (hk : DW P w0 A tab ops H n rest ((t, d) :: sl) hp K) :
    DW P w0 A tab ops H n (⟨some t, .pick c a b, ty, pos, after, none⟩ :: rest) sl hp K := by
  subst hq; exact D_pop (by simp only [pop, hc, h]) rfl hd trivial hk
theorem D_pickT {c a b : Operand} {q : Bool} {d : D} (hc : evD (look sl) c = .lit (.bool q)) (hq : q = true) (h : pickD (.lit (.bool true)) (evD (look sl) a) (evD (look sl) b) = some (True, d)) (hd : Nat.blt t n = true) (hk : DW P w0 A tab ops H n rest ((t, d) :: sl) hp K) :
    DW P w0 A tab ops H n (⟨some t, .pick c a b, ty, pos, after, none⟩ :: rest) sl hp K := by
  subst hq; exact D_pop (by simp only [pop, hc, h]) rfl hd trivial hk
/-- Which slots are worth keeping from region to region: the first ones. -/
structure Keep (T : Nat) : Prop where
  one : True
def firstK {α : Type} (T : Nat) : List (Nat × D) → (List (Nat × D) → Option α) → Option α
  | [], k => k []
  | (t, d) :: l, k => match Nat.blt t T with | true => firstK T l fun l' => k ((t, d) :: l') | false => firstK T l k
def firstS (T : Nat) : List (Nat × D) → List (Nat × D)
  | [] => []
  | (t, d) :: l => match Nat.blt t T with | true => (t, d) :: firstS T l | false => firstS T l
theorem firstK_eq {α : Type} {T : Nat} : ∀ {l : List (Nat × D)} {k : List (Nat × D) → Option α} {r : α}, firstK T l k = some r → k (firstS T l) = some r
  | [], k, r, h => h
  | (t, d) :: l, k, r, h => by
    unfold firstK at h; unfold firstS
    cases hb : Nat.blt t T <;> simp only [hb] at h ⊢
    · exact firstK_eq h
    · exact firstK_eq (k := fun l' => k ((t, d) :: l')) h
theorem look_firstS {T x : Nat} : ∀ {l : List (Nat × D)}, look (firstS T l) x = look l x ∨ look (firstS T l) x = .no
  | [] => Or.inl rfl
  | (t, d) :: l => by
    by_cases hx : x < T
    · left
      have key : ∀ l : List (Nat × D), look (firstS T l) x = look l x := by
        intro l
        induction l with
        | nil => rfl
        | cons p l ih =>
          obtain ⟨t, d⟩ := p
          unfold firstS
          cases hb : Nat.blt t T
          · have : x ≠ t := by intro e; subst e; have h2 : Nat.blt x T = true := (by simp only [Nat.blt, Nat.ble_eq]; omega); rw [h2] at hb; cases hb
            simp only [look, if_neg this]; exact ih
          · simp only [look]; split
            · rfl
            · exact ih
      exact key _
    · right
      have key : ∀ l : List (Nat × D), look (firstS T l) x = .no := by
        intro l
        induction l with
        | nil => rfl
        | cons p l ih =>
          obtain ⟨t, d⟩ := p
          unfold firstS
          cases hb : Nat.blt t T
          · exact ih
          · have : x ≠ t := by intro e; subst e; simp only [Nat.blt, Nat.ble_eq] at hb; omega
            simp only [look, if_neg this]; exact ih
      exact key _
theorem Rel.first {ms : List Ent} {a : Act} {w : World} {T : Nat} (h : Rel w0 A ms ⟨n, sl, hp⟩ a w) : Rel w0 A ms ⟨n, firstS T sl, hp⟩ a w := by
  refine ⟨h.ext, h.old, h.size, h.defers, h.len, h.nodup, h.range, h.ents, fun t => ?_⟩
  simp only [St.get]
  rcases look_firstS (T := T) (x := t) (l := sl) with e | e <;> rw [e]
  · exact h.slots t
  · exact .no
theorem W_regionK {T id : Nat} {l : List Oper} {sl' : List (Nat × D)} (_kp : Keep T) (e : firstK T sl some = some sl') (h : WO P w0 A l.toArray l ⟨n, sl', hp⟩ fun s' => Q .normal s') : W P w0 A (.region id l.toArray false) ⟨n, sl, hp⟩ Q := by
  have e := firstK_eq e
  simp only [Option.some.injEq] at e
  subst e
  exact W_weak (fun ms a w h => ⟨ms, h.first⟩) (W_region h)
theorem W_drawTRK {T : Nat} (_kp : Keep T) (hm : P.follows .mixedOrders = true) (hT : TabOk P tab) {l l1 l2 : List Oper} {id : Nat} {sl' : List (Nat × D)} (e : firstK T sl some = some sl') (hs : splitK l (fun a b => some (a, b)) = some (l1, l2)) (hok : drawOk l1 = true) (hto : tailOk l l1.length = true) (h : DW P w0 A tab l.toArray hp.length n l1 sl' hp fun s => WO P w0 A l.toArray l2 s fun s => Q .normal s) :
    W P w0 A (.region id l.toArray true) ⟨n, sl, hp⟩ Q := by
  have e := firstK_eq e
  simp only [Option.some.injEq] at e
  subst e
  exact W_weak (fun ms a w h => ⟨ms, h.first⟩) (W_drawTR hm hT hs hok hto h)
end
/-- What is left to be shown, behind a wall. -/
structure Wall (G : Prop) : Prop where
  out : G
/-- As many steps as follow by themselves, one after the other. -/
theorem goZ {G G' : Prop} (k : G') (h : Wall G' → G := by
  intro zz
  (first | refine R_pickL tabOk rfl rfl rfl ?_ | refine R_pop tabOk rfl rfl trivial ?_ | refine WO_nil ?_ | refine seqQ.n ?_ | (refine idW ?_; first | refine W_seq ?_ | refine W_regionK (by assumption) rfl ?_ | refine W_region ?_ | refine W_block ?_ | refine W_exit ?_ | refine W_ret ?_ | refine W_skip ?_ | refine R_condT rfl (by first | rfl | assumption) ?_ | refine R_condF rfl (by first | rfl | assumption) ?_ | refine W_drawTRK (by assumption) mixed tabOk rfl rfl rfl rfl ?_ | refine W_drawTR mixed tabOk rfl rfl rfl ?_) | (refine idO ?_; first | refine R_pop tabOk rfl rfl (by omega) ?_ | refine R_index tabOk rfl rfl rfl rfl rfl (by first | exact rowAt_nat (by omega) | exact rowAt_int (by omega) (by omega)) ?_ | refine R_pickF tabOk rfl (by assumption) rfl rfl ?_ | refine R_pickT tabOk rfl (by assumption) rfl rfl ?_ | refine R_on rfl rfl (by first | rfl | assumption) ?_ | refine R_off rfl rfl (by first | rfl | assumption) rfl ?_ | refine R_out rfl rfl rfl ?_ | refine R_boxZ rfl rfl ?_ | refine R_allocZ tabOk rfl rfl rfl ?_ | refine R_eload tabOk rfl rfl rfl (by first | exact rowAt_nat (by omega) | exact rowAt_int (by omega) (by omega)) rfl rfl ?_ | refine R_storeZ tabOk rfl rfl rfl rfl rfl rfl rfl rfl rfl ?_ | refine R_store tabOk rfl rfl rfl rfl rfl rfl rfl rfl rfl rfl ?_ | refine R_estoreZ tabOk rfl rfl rfl rfl rfl rfl rfl (by first | exact rowAt_nat (by omega) | exact rowAt_int (by omega) (by omega)) rfl rfl (by first | exact setAt_nat rfl | exact setAt_int rfl) rfl ?_ | refine R_estore tabOk rfl rfl rfl rfl rfl rfl rfl (by first | exact rowAt_nat (by omega) | exact rowAt_int (by omega) (by omega)) rfl rfl (by first | exact setAt_nat rfl | exact setAt_int rfl) rfl rfl ?_ | refine R_buildZ tabOk rfl rfl rfl rfl rfl rfl rfl rfl rfl ?_ | refine R_vecZ tabOk rfl rfl rfl rfl rfl rfl rfl ?_ | refine R_append tabOk rfl rfl rfl rfl rfl rfl rfl rfl rfl rfl rfl (by first | exact flat_ints _ | exact flat_strs _ | exact flat_bools _ | exact hfl _ | (refine flat_map ?_; simp [isLit]; done) | (intro r hr; simp at hr; subst hr; simp [isLit])) (by simp [ints, strs, bools]; omega) ?_ | refine R_slicePart tabOk rfl rfl rfl rfl rfl rfl (by omega) ?_ | refine R_appendPart tabOk rfl rfl rfl rfl rfl rfl rfl rfl rfl rfl rfl rfl (by first | exact flat_part (flat_ints _) | exact flat_part (hfl _) | exact flat_part (flat_strs _)) (by simp [ints, strs, bools]; omega) ?_ | refine R_appendOwn tabOk rfl rfl rfl rfl rfl rfl rfl rfl rfl rfl rfl rfl (by first | exact flat_ints _ | exact flat_strs _ | exact flat_bools _ | exact hfl _ | (refine flat_map ?_; simp [isLit]; done) | (intro r hr; simp at hr; subst hr; simp [isLit])) (by simp [ints, strs, bools]; omega) ?_ | refine R_appendVec tabOk rfl rfl rfl rfl rfl rfl rfl rfl rfl rfl rfl rfl rfl rfl rfl (by simp [ints, strs, bools]; omega) ?_ | refine R_makeZ tabOk rfl rfl rfl rfl rfl rfl rfl rfl rfl rfl rfl (by omega) ?_) | (refine idD ?_; first | refine D_pickL rfl rfl rfl ?_ | refine D_pop rfl rfl rfl trivial ?_ | refine D_nil ?_ | refine D_allocZ rfl rfl rfl ?_ | refine D_mkS rfl rfl rfl rfl rfl rfl rfl rfl rfl ?_ | refine D_pop rfl rfl rfl (by omega) ?_ | refine D_index rfl rfl rfl rfl rfl (by first | exact rowAt_nat (by omega) | exact rowAt_int (by omega) (by omega)) ?_ | refine D_eload rfl rfl rfl rfl (by first | exact rowAt_nat (by omega) | exact rowAt_int (by omega) (by omega)) rfl rfl ?_ | refine D_pickF rfl (by assumption) rfl rfl ?_ | refine D_pickT rfl (by assumption) rfl rfl ?_ | refine D_on rfl rfl (by first | rfl | assumption) ?_ | refine D_off rfl rfl (by first | rfl | assumption) rfl ?_ | refine D_out rfl rfl rfl ?_) | refine blockQ.x rfl ?_ | refine blockQ.y rfl ?_ | refine blockQ.n ?_ | refine blockQ.r ?_ | refine seqQ.e ?_ | refine seqQ.r ?_ | refine retQ.r ?_ | refine retQ.n ?_ | refine loopQ.n ?_ | refine loopQ.e ?_ | refine loopQ.r ?_)
  (repeat (first | refine R_pickL tabOk rfl rfl rfl ?_ | refine R_pop tabOk rfl rfl trivial ?_ | refine WO_nil ?_ | refine seqQ.n ?_ | (refine idW ?_; first | refine W_seq ?_ | refine W_regionK (by assumption) rfl ?_ | refine W_region ?_ | refine W_block ?_ | refine W_exit ?_ | refine W_ret ?_ | refine W_skip ?_ | refine R_condT rfl (by first | rfl | assumption) ?_ | refine R_condF rfl (by first | rfl | assumption) ?_ | refine W_drawTRK (by assumption) mixed tabOk rfl rfl rfl rfl ?_ | refine W_drawTR mixed tabOk rfl rfl rfl ?_) | (refine idO ?_; first | refine R_pop tabOk rfl rfl (by omega) ?_ | refine R_index tabOk rfl rfl rfl rfl rfl (by first | exact rowAt_nat (by omega) | exact rowAt_int (by omega) (by omega)) ?_ | refine R_pickF tabOk rfl (by assumption) rfl rfl ?_ | refine R_pickT tabOk rfl (by assumption) rfl rfl ?_ | refine R_on rfl rfl (by first | rfl | assumption) ?_ | refine R_off rfl rfl (by first | rfl | assumption) rfl ?_ | refine R_out rfl rfl rfl ?_ | refine R_boxZ rfl rfl ?_ | refine R_allocZ tabOk rfl rfl rfl ?_ | refine R_eload tabOk rfl rfl rfl (by first | exact rowAt_nat (by omega) | exact rowAt_int (by omega) (by omega)) rfl rfl ?_ | refine R_storeZ tabOk rfl rfl rfl rfl rfl rfl rfl rfl rfl ?_ | refine R_store tabOk rfl rfl rfl rfl rfl rfl rfl rfl rfl rfl ?_ | refine R_estoreZ tabOk rfl rfl rfl rfl rfl rfl rfl (by first | exact rowAt_nat (by omega) | exact rowAt_int (by omega) (by omega)) rfl rfl (by first | exact setAt_nat rfl | exact setAt_int rfl) rfl ?_ | refine R_estore tabOk rfl rfl rfl rfl rfl rfl rfl (by first | exact rowAt_nat (by omega) | exact rowAt_int (by omega) (by omega)) rfl rfl (by first | exact setAt_nat rfl | exact setAt_int rfl) rfl rfl ?_ | refine R_buildZ tabOk rfl rfl rfl rfl rfl rfl rfl rfl rfl ?_ | refine R_vecZ tabOk rfl rfl rfl rfl rfl rfl rfl ?_ | refine R_append tabOk rfl rfl rfl rfl rfl rfl rfl rfl rfl rfl rfl (by first | exact flat_ints _ | exact flat_strs _ | exact flat_bools _ | exact hfl _ | (refine flat_map ?_; simp [isLit]; done) | (intro r hr; simp at hr; subst hr; simp [isLit])) (by simp [ints, strs, bools]; omega) ?_ | refine R_slicePart tabOk rfl rfl rfl rfl rfl rfl (by omega) ?_ | refine R_appendPart tabOk rfl rfl rfl rfl rfl rfl rfl rfl rfl rfl rfl rfl (by first | exact flat_part (flat_ints _) | exact flat_part (hfl _) | exact flat_part (flat_strs _)) (by simp [ints, strs, bools]; omega) ?_ | refine R_appendOwn tabOk rfl rfl rfl rfl rfl rfl rfl rfl rfl rfl rfl rfl (by first | exact flat_ints _ | exact flat_strs _ | exact flat_bools _ | exact hfl _ | (refine flat_map ?_; simp [isLit]; done) | (intro r hr; simp at hr; subst hr; simp [isLit])) (by simp [ints, strs, bools]; omega) ?_ | refine R_appendVec tabOk rfl rfl rfl rfl rfl rfl rfl rfl rfl rfl rfl rfl rfl rfl rfl (by simp [ints, strs, bools]; omega) ?_ | refine R_makeZ tabOk rfl rfl rfl rfl rfl rfl rfl rfl rfl rfl rfl (by omega) ?_) | (refine idD ?_; first | refine D_pickL rfl rfl rfl ?_ | refine D_pop rfl rfl rfl trivial ?_ | refine D_nil ?_ | refine D_allocZ rfl rfl rfl ?_ | refine D_mkS rfl rfl rfl rfl rfl rfl rfl rfl rfl ?_ | refine D_pop rfl rfl rfl (by omega) ?_ | refine D_index rfl rfl rfl rfl rfl (by first | exact rowAt_nat (by omega) | exact rowAt_int (by omega) (by omega)) ?_ | refine D_eload rfl rfl rfl rfl (by first | exact rowAt_nat (by omega) | exact rowAt_int (by omega) (by omega)) rfl rfl ?_ | refine D_pickF rfl (by assumption) rfl rfl ?_ | refine D_pickT rfl (by assumption) rfl rfl ?_ | refine D_on rfl rfl (by first | rfl | assumption) ?_ | refine D_off rfl rfl (by first | rfl | assumption) rfl ?_ | refine D_out rfl rfl rfl ?_) | refine blockQ.x rfl ?_ | refine blockQ.y rfl ?_ | refine blockQ.n ?_ | refine blockQ.r ?_ | refine seqQ.e ?_ | refine seqQ.r ?_ | refine retQ.r ?_ | refine retQ.n ?_ | refine loopQ.n ?_ | refine loopQ.e ?_ | refine loopQ.r ?_))
  exact zz.out) : G := h ⟨k⟩
/-- One step. -/
theorem go1 {G G' : Prop} (k : G') (h : Wall G' → G := by
  intro zz
  (first | refine R_pickL tabOk rfl rfl rfl ?_ | refine R_pop tabOk rfl rfl trivial ?_ | refine WO_nil ?_ | refine seqQ.n ?_ | (refine idW ?_; first | refine W_seq ?_ | refine W_regionK (by assumption) rfl ?_ | refine W_region ?_ | refine W_block ?_ | refine W_exit ?_ | refine W_ret ?_ | refine W_skip ?_ | refine R_condT rfl (by first | rfl | assumption) ?_ | refine R_condF rfl (by first | rfl | assumption) ?_ | refine W_drawTRK (by assumption) mixed tabOk rfl rfl rfl rfl ?_ | refine W_drawTR mixed tabOk rfl rfl rfl ?_) | (refine idO ?_; first | refine R_pop tabOk rfl rfl (by omega) ?_ | refine R_index tabOk rfl rfl rfl rfl rfl (by first | exact rowAt_nat (by omega) | exact rowAt_int (by omega) (by omega)) ?_ | refine R_pickF tabOk rfl (by assumption) rfl rfl ?_ | refine R_pickT tabOk rfl (by assumption) rfl rfl ?_ | refine R_on rfl rfl (by first | rfl | assumption) ?_ | refine R_off rfl rfl (by first | rfl | assumption) rfl ?_ | refine R_out rfl rfl rfl ?_ | refine R_boxZ rfl rfl ?_ | refine R_allocZ tabOk rfl rfl rfl ?_ | refine R_eload tabOk rfl rfl rfl (by first | exact rowAt_nat (by omega) | exact rowAt_int (by omega) (by omega)) rfl rfl ?_ | refine R_storeZ tabOk rfl rfl rfl rfl rfl rfl rfl rfl rfl ?_ | refine R_store tabOk rfl rfl rfl rfl rfl rfl rfl rfl rfl rfl ?_ | refine R_estoreZ tabOk rfl rfl rfl rfl rfl rfl rfl (by first | exact rowAt_nat (by omega) | exact rowAt_int (by omega) (by omega)) rfl rfl (by first | exact setAt_nat rfl | exact setAt_int rfl) rfl ?_ | refine R_estore tabOk rfl rfl rfl rfl rfl rfl rfl (by first | exact rowAt_nat (by omega) | exact rowAt_int (by omega) (by omega)) rfl rfl (by first | exact setAt_nat rfl | exact setAt_int rfl) rfl rfl ?_ | refine R_buildZ tabOk rfl rfl rfl rfl rfl rfl rfl rfl rfl ?_ | refine R_vecZ tabOk rfl rfl rfl rfl rfl rfl rfl ?_ | refine R_append tabOk rfl rfl rfl rfl rfl rfl rfl rfl rfl rfl rfl (by first | exact flat_ints _ | exact flat_strs _ | exact flat_bools _ | exact hfl _ | (refine flat_map ?_; simp [isLit]; done) | (intro r hr; simp at hr; subst hr; simp [isLit])) (by simp [ints, strs, bools]; omega) ?_ | refine R_slicePart tabOk rfl rfl rfl rfl rfl rfl (by omega) ?_ | refine R_appendPart tabOk rfl rfl rfl rfl rfl rfl rfl rfl rfl rfl rfl rfl (by first | exact flat_part (flat_ints _) | exact flat_part (hfl _) | exact flat_part (flat_strs _)) (by simp [ints, strs, bools]; omega) ?_ | refine R_appendOwn tabOk rfl rfl rfl rfl rfl rfl rfl rfl rfl rfl rfl rfl (by first | exact flat_ints _ | exact flat_strs _ | exact flat_bools _ | exact hfl _ | (refine flat_map ?_; simp [isLit]; done) | (intro r hr; simp at hr; subst hr; simp [isLit])) (by simp [ints, strs, bools]; omega) ?_ | refine R_appendVec tabOk rfl rfl rfl rfl rfl rfl rfl rfl rfl rfl rfl rfl rfl rfl rfl (by simp [ints, strs, bools]; omega) ?_ | refine R_makeZ tabOk rfl rfl rfl rfl rfl rfl rfl rfl rfl rfl rfl (by omega) ?_) | (refine idD ?_; first | refine D_pickL rfl rfl rfl ?_ | refine D_pop rfl rfl rfl trivial ?_ | refine D_nil ?_ | refine D_allocZ rfl rfl rfl ?_ | refine D_mkS rfl rfl rfl rfl rfl rfl rfl rfl rfl ?_ | refine D_pop rfl rfl rfl (by omega) ?_ | refine D_index rfl rfl rfl rfl rfl (by first | exact rowAt_nat (by omega) | exact rowAt_int (by omega) (by omega)) ?_ | refine D_eload rfl rfl rfl rfl (by first | exact rowAt_nat (by omega) | exact rowAt_int (by omega) (by omega)) rfl rfl ?_ | refine D_pickF rfl (by assumption) rfl rfl ?_ | refine D_pickT rfl (by assumption) rfl rfl ?_ | refine D_on rfl rfl (by first | rfl | assumption) ?_ | refine D_off rfl rfl (by first | rfl | assumption) rfl ?_ | refine D_out rfl rfl rfl ?_) | refine blockQ.x rfl ?_ | refine blockQ.y rfl ?_ | refine blockQ.n ?_ | refine blockQ.r ?_ | refine seqQ.e ?_ | refine seqQ.r ?_ | refine retQ.r ?_ | refine retQ.n ?_ | refine loopQ.n ?_ | refine loopQ.e ?_ | refine loopQ.r ?_)
  exact zz.out) : G := h ⟨k⟩

end Go.Proofs.YtcpjhpjlcgcigaaGreatDoor
namespace Go.Proofs.YtcpjhpjlcgcigaaGreatDoor
open Go.ChangeShapes Go.WideShapes Go.ChangeAt Go.RowKit

/-- The cells of a value of a type, as data. -/
structure Br {α : Type} (T : Ty α) (f : α → List D) : Prop where
  n : ∀ x, (f x).length = T.n
  to : ∀ {w : World} {x : α} {us : List Value} {bs : List Nat}, VRs w (f x) us bs → T.rep w x bs us
  of : ∀ {w : World} {x : α} {us : List Value} {bs : List Nat}, T.rep w x bs us → VRs w (f x) us bs

theorem vrs_one {w : World} {d : D} {us : List Value} {bs : List Nat} (h : VRs w [d] us bs) : ∃ u, us = [u] ∧ VR w d u bs := by
  cases h with
  | cons h1 h2 => cases h2; exact ⟨_, rfl, by simpa using h1⟩
theorem vrs_split {w : World} : ∀ {ds ds' : List D} {us : List Value} {bs : List Nat}, VRs w (ds ++ ds') us bs → ∃ u1 u2 b1 b2, us = u1 ++ u2 ∧ bs = b1 ++ b2 ∧ VRs w ds u1 b1 ∧ VRs w ds' u2 b2
  | [], _, us, bs, h => ⟨[], us, [], bs, rfl, rfl, .nil, h⟩
  | d :: ds, ds', _, _, .cons h h' => by
    obtain ⟨u1, u2, b1, b2, rfl, rfl, h1, h2⟩ := vrs_split h'
    exact ⟨_ :: u1, u2, _ ++ b1, b2, rfl, by rw [List.append_assoc], .cons h h1, h2⟩

theorem br_int : Br tInt fun x => [.lit (.int .i64 x)] where
  n _ := rfl
  to h := by
    obtain ⟨u, rfl, hu⟩ := vrs_one h
    cases hu with | lit hl => exact ⟨rfl, rfl, litOk_i64.1 hl⟩
  of h := by obtain ⟨rfl, rfl, h⟩ := h; exact VRs.cons (bs := []) (.lit (litOk_i64.2 h)) .nil
theorem br_bool : Br tBool fun x => [.lit (.bool x)] where
  n _ := rfl
  to h := by
    obtain ⟨u, rfl, hu⟩ := vrs_one h
    cases hu with | lit hl => exact ⟨rfl, rfl⟩
  of h := by obtain ⟨rfl, rfl⟩ := h; exact VRs.cons (bs := []) (.lit trivial) .nil
theorem br_str : Br tStr fun x => [.lit (.string x)] where
  n _ := rfl
  to h := by
    obtain ⟨u, rfl, hu⟩ := vrs_one h
    cases hu with | lit hl => exact ⟨rfl, rfl, hl⟩
  of h := by obtain ⟨rfl, rfl, h⟩ := h; exact VRs.cons (bs := []) (.lit h) .nil
theorem br_pair {α β : Type} {T : Ty α} {U : Ty β} {f : α → List D} {g : β → List D} (hf : Br T f) (hg : Br U g) : Br (tPair T U) fun x => f x.1 ++ g x.2 where
  n x := by simp [hf.n, hg.n, tPair]
  to h := by
    obtain ⟨u1, u2, b1, b2, rfl, rfl, h1, h2⟩ := vrs_split h
    exact ⟨b1, b2, u1, u2, rfl, rfl, hf.to h1, hg.to h2⟩
  of h := by
    obtain ⟨b1, b2, u1, u2, rfl, rfl, h1, h2⟩ := h
    exact (hf.of h1).append (hg.of h2)
theorem br_iso {α β : Type} {T : Ty α} {f : α → List D} (hf : Br T f) (g : β → α) : Br (tIso T g) fun x => f (g x) where
  n _ := hf.n _
  to h := hf.to h
  of h := hf.of h

theorem rows_of {α : Type} [Inhabited α] {f : α → List D} {n : Nat} (hn : ∀ x, (f x).length = n) {w : World} : ∀ {l : List α} {us : List Value} {bs : List Nat}, VRs w (l.map f).flatten us bs → ∃ bss, bs = bss.flatten ∧ bss.length = l.length ∧ ∀ i, i < l.length → VRs w (f (nth l i)) ((us.drop (i * n)).take n) (nth bss i)
  | [], us, bs, h => by
    cases h; exact ⟨[], rfl, rfl, fun i hi => by simp at hi⟩
  | x :: l, us, bs, h => by
    rw [List.map_cons, List.flatten_cons] at h
    obtain ⟨u1, u2, b1, b2, rfl, rfl, h1, h2⟩ := vrs_split h
    obtain ⟨bss, rfl, h3, h4⟩ := rows_of hn h2
    have hl : u1.length = n := by rw [h1.len, hn]
    refine ⟨b1 :: bss, rfl, by simp [h3], fun i hi => ?_⟩
    cases i with
    | zero => simp only [nth_cons_zero, Nat.zero_mul, List.drop_zero]; rw [← hl, List.take_left]; exact h1
    | succ i =>
      rw [nth_cons_succ, nth_cons_succ, show (i + 1) * n = u1.length + i * n by rw [hl, Nat.add_mul]; omega, ← List.drop_drop, List.drop_left]
      exact h4 i (by simpa using hi)
theorem of_rows {α : Type} [Inhabited α] {f : α → List D} {n : Nat} (hn : ∀ x, (f x).length = n) {w : World} : ∀ {l : List α} {us : List Value} {bss : List (List Nat)}, us.length = l.length * n → bss.length = l.length → (∀ i, i < l.length → VRs w (f (nth l i)) ((us.drop (i * n)).take n) (nth bss i)) → VRs w (l.map f).flatten us bss.flatten
  | [], us, bss, h1, h2, _ => by
    have e1 : us = [] := List.length_eq_zero_iff.1 (by simpa using h1)
    have e2 : bss = [] := List.length_eq_zero_iff.1 (by simpa using h2)
    subst e1; subst e2; exact .nil
  | x :: l, us, [], h1, h2, _ => by simp at h2
  | x :: l, us, b1 :: bss, h1, h2, h3 => by
    have h0 := h3 0 (by simp)
    simp only [nth_cons_zero, Nat.zero_mul, List.drop_zero] at h0
    have := of_rows hn (l := l) (us := us.drop n) (bss := bss) (by simp [h1, Nat.add_mul]) (by simpa using h2) (fun i hi => by
      have := h3 (i + 1) (by simpa using hi)
      rw [nth_cons_succ, nth_cons_succ, show (i + 1) * n = n + i * n by rw [Nat.add_mul]; omega, ← List.drop_drop] at this; exact this)
    rw [List.map_cons, List.flatten_cons, List.flatten_cons, ← List.take_append_drop n us]
    exact h0.append this

theorem br_sl {α : Type} [Inhabited α] {T : Ty α} {f : α → List D} (hf : Br T f) : Br (tSl T) fun l => [.sh T.n (l.map f)] where
  n _ := rfl
  to := by
    intro w l us bs h
    obtain ⟨u, rfl, hu⟩ := vrs_one h
    generalize hxs : l.map f = xs at hu
    cases hu with
    | shnil h1 h2 =>
      have hl : l = [] := by simpa using hxs
      subst hl
      exact ⟨_, _, rfl, by simp, h1, h2, Or.inl ⟨rfl, rfl⟩⟩
    | sh h1 h2 h3 h4 h5 h6 =>
      rename_i b o cap us bs
      subst hxs
      obtain ⟨bss, rfl, q1, q2⟩ := rows_of hf.n h5
      refine ⟨_, _, by rw [List.length_map], by simpa using h2, h3, by simp, Or.inr ⟨b, o, bss, rfl, h4, rfl, q1, fun i hi => ⟨_, hf.to (q2 i hi), fun j hj => ?_⟩⟩⟩
      have hlen := h5.len
      rw [flatten_len h1, List.length_map] at hlen
      have := mul_lt_of (m := T.n) hi
      rw [List.getElem?_take, if_pos hj, List.getElem?_drop, Nat.add_assoc]
      exact h6 _ (by omega)
  of := by
    intro w l us bs h
    obtain ⟨a, cap, rfl, h1, h2, h3, h4⟩ := h
    refine VRs.cons (bs' := []) ?_ .nil |> fun h => by simpa using h
    rcases h4 with ⟨rfl, rfl⟩ | ⟨b, o, bss, rfl, hb, rfl, hl, he⟩
    · exact .shnil h2 h3
    · have hex : ∀ i, i < l.length → ∃ cs, T.rep w (nth l i) (nth bss i) cs ∧ ∀ j, j < T.n → w.cell? ⟨b, o + i * T.n + j, none⟩ = cs[j]? := he
      let us : List Value := (List.range (l.length * T.n)).map fun k => (w.cell? ⟨b, o + k, none⟩).getD undef
      have hus : ∀ i, i < l.length → ∀ cs, T.rep w (nth l i) (nth bss i) cs → (∀ j, j < T.n → w.cell? ⟨b, o + i * T.n + j, none⟩ = cs[j]?) → (us.drop (i * T.n)).take T.n = cs := by
        intro i hi cs hr hc
        have hlen := T.len hr
        have hm := mul_lt_of (m := T.n) hi
        apply List.ext_getElem?
        intro j
        by_cases hj : j < T.n
        · rw [List.getElem?_take, if_pos hj, List.getElem?_drop]
          have e := hc j hj
          have hjc : j < cs.length := by omega
          rw [List.getElem?_eq_getElem hjc] at e ⊢
          simp only [us, List.getElem?_map, List.getElem?_range (show i * T.n + j < l.length * T.n by omega), Option.map_some]
          rw [← Nat.add_assoc, e]; rfl
        · rw [List.getElem?_eq_none (by simp [us]; omega), List.getElem?_eq_none (by omega)]
      have hv : VRs w (l.map f).flatten us bss.flatten := of_rows hf.n (by simp [us]) hl fun i hi => by
        obtain ⟨cs, hr, hc⟩ := hex i hi
        rw [hus i hi cs hr hc]; exact hf.of hr
      have := VR.sh (n := T.n) (o := o) (cap := cap) (fun r hr => by obtain ⟨x, _, rfl⟩ := List.mem_map.1 hr; exact hf.n x) (by simpa using h1) h2 hb hv (fun k hk => by
        have hk' : k < l.length * T.n := by simpa [us] using hk
        have hT : 0 < T.n := by
          rcases Nat.eq_zero_or_pos T.n with h | h
          · rw [h] at hk'; simp at hk'
          · exact h
        have hi : k / T.n < l.length := Nat.div_lt_of_lt_mul (by rw [Nat.mul_comm]; exact hk')
        obtain ⟨cs, hr, hc⟩ := hex (k / T.n) hi
        have hj : k % T.n < T.n := Nat.mod_lt _ hT
        have e := hc (k % T.n) hj
        have ek : o + k / T.n * T.n + k % T.n = o + k := by rw [Nat.add_assoc, Nat.mul_comm, Nat.div_add_mod]
        rw [ek] at e
        have hjc : k % T.n < cs.length := by rw [T.len hr]; exact hj
        rw [List.getElem?_eq_getElem hjc] at e
        simp only [us, List.getElem?_map, List.getElem?_range hk', Option.map_some]
        rw [e]; rfl)
      simpa using this

section
variable {P : Program} {w : World} {A : Nat → Prop} {α : Type} {T : Ty α} {f : α → List D}
/-- A value that reads so, as an argument. -/
theorem Br.vxs (hf : Br T f) {x : α} {us : List Value} (h : T.R w x us) : VXs [] w (Lt w) (f x) us := by
  obtain ⟨bs, h⟩ := h
  exact VXs.of_rd (hf.of h) (T.inb h)
theorem given_str {ds : List D} (h : Given w A ds) {i : Nat} {s : ByteArray} (hd : ds[i]? = some (.lit (.string s))) : s.size ≤ 9223372036854775807 := by
  obtain ⟨u, hu⟩ := given_vr h hd
  exact hu.lit_inv.2
def cellsOnly : List D → Bool
  | [] => true
  | .lit _ :: l => cellsOnly l
  | .nil :: l => cellsOnly l
  | .sh _ _ :: l => cellsOnly l
  | _ :: _ => false
theorem rds_of {Ok : Nat → Prop} {ms : List Ent} : ∀ {ds : List D} {us : List Value}, cellsOnly ds = true → VXs ms w Ok ds us → ∃ bs, VRs w ds us bs ∧ ∀ k ∈ bs, Ok k
  | [], _, _, .nil => ⟨[], .nil, by simp⟩
  | d :: ds, u :: us, hc, .cons h h' => by
    have key : (∃ bs, VR w d u bs ∧ ∀ k ∈ bs, Ok k) ∧ cellsOnly ds = true := by
      cases d <;> simp only [cellsOnly, Bool.false_eq_true] at hc
      · obtain ⟨rfl, hl⟩ := h.lit_inv; exact ⟨⟨[], .lit hl, by simp⟩, hc⟩
      · rw [h.nil_inv]; exact ⟨⟨[], .nil, by simp⟩, hc⟩
      · exact ⟨h.sh_inv, hc⟩
    obtain ⟨⟨b1, h1, h2⟩, h3⟩ := key
    obtain ⟨b2, h4, h5⟩ := rds_of h3 h'
    exact ⟨_, .cons h1 h4, fun k hk => (List.mem_append.1 hk).elim (h2 k) (h5 k)⟩
theorem Br.of_vxs (hf : Br T f) {x : α} {us : List Value} {ms : List Ent} {Ok : Nat → Prop} (hc : cellsOnly (f x) = true) (h : VXs ms w Ok (f x) us) : T.R w x us := by
  obtain ⟨bs, h, _⟩ := rds_of hc h
  exact ⟨bs, hf.to h⟩
theorem vxs_one {ms : List Ent} {Ok : Nat → Prop} {d : D} {us : List Value} (h : VXs ms w Ok [d] us) : ∃ u, us = [u] ∧ VX ms w Ok d u := by
  cases h with
  | cons h1 h2 => cases h2; exact ⟨_, rfl, h1⟩
theorem vxs_cons {ms : List Ent} {Ok : Nat → Prop} {d : D} {ds : List D} {us : List Value} (h : VXs ms w Ok (d :: ds) us) : ∃ u us', us = u :: us' ∧ VX ms w Ok d u ∧ VXs ms w Ok ds us' := by
  cases h with
  | cons h1 h2 => exact ⟨_, _, rfl, h1, h2⟩
theorem Br.R (hf : Br T f) {x : α} {us : List Value} {bs : List Nat} (h : VRs w (f x) us bs) : T.R w x us := ⟨bs, hf.to h⟩
/-- The contract of a function with a scalar result, for the walk of a law. -/
theorem Fn.lit {fid : FuncId} {ds : List D} {v : Value} (hF : Fn P fid ds (.lit v) []) {us : List Value} (hv : VXs [] w (Lt w) ds us) : Calls P fid us.toArray w fun e w' => e = .returned v ∧ Ext w w' :=
  (hF.calls (Lt w) w us (fun _ h => h) hv).mono fun e w' ⟨u, ms, he, hp⟩ => ⟨by rw [he]; congr 1; exact hp.val.lit_inv.1, hp.ext⟩
theorem Fn.lit2 {fid : FuncId} {ds : List D} {v v' : Value} (hF : Fn P fid ds (.tup [.lit v, .lit v']) []) {us : List Value} (hv : VXs [] w (Lt w) ds us) : Calls P fid us.toArray w fun e w' => e = .returned (.tuple #[v, v']) ∧ Ext w w' :=
  (hF.calls (Lt w) w us (fun _ h => h) hv).mono fun e w' ⟨u, ms, he, hp⟩ => by
    obtain ⟨us, hu, hv⟩ := hp.val.tup_inv
    cases hv with
    | cons h1 h2 => cases h2 with
      | cons h3 h4 => cases h4; rw [h1.lit_inv.1, h3.lit_inv.1] at hu; exact ⟨by rw [he, hu], hp.ext⟩
/-- And back: a function whose contract was proved elsewhere. -/
theorem Fn.of_lit {fid : FuncId} {ds : List D} {v : Value} (hl : litOk v) (hp : ∀ args w, (callFunc fid args).run P w = .ok (.enter fid args) w) (h : ∀ (w : World) (us : List Value), VXs [] w (Lt w) ds us → Calls P fid us.toArray w fun e w' => e = .returned v ∧ Ext w w') : Fn P fid ds (.lit v) [] := by
  refine ⟨hp, rfl, fun A w us hA hus => (h w us (VXs.mono (fun k hk => ⟨rfl, hA k hk⟩) hus fun _ _ _ h => h)).mono ?_⟩
  rintro e w' ⟨rfl, hx⟩
  exact ⟨v, [], rfl, hx, rfl, by simp [owned], by simp [owned], by simp, VX.of_lit hl⟩
theorem plain_of {fid : FuncId} {fn : Func} (hf : P.funcs[fid]? = some fn) (hname : (fn.name == "runtime.NumGoroutine") = false) (hb : fn.body.isNone = false) : ∀ args w, (callFunc fid args).run P w = .ok (.enter fid args) w := by
  intro args w
  have h1 : ¬ fn.name = "runtime.NumGoroutine" := by simpa using hname
  have h2 : ¬ fn.body = none := by intro e; rw [e] at hb; simp at hb
  simp [callFunc, program, Sem.run, go_sem, hf, h1, h2]
end
end Go.Proofs.YtcpjhpjlcgcigaaGreatDoor
