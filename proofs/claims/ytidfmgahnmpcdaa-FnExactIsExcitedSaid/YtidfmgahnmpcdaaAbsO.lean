/- Symbolic states: regions that draw their order. No condition. -/
import Derived.Test.YtidfmgahnmpcdaaAbsN
set_option linter.unusedSimpArgs false
set_option linter.unusedVariables false
namespace Go.Proofs.Ytidfmgahnmpcdaa
open Go.ChangeShapes Go.WideShapes Go.ChangeAt Go.RowKit

section
variable {P : Program}

theorem wp_weak' {o : Oper} {a : Act} {w : World} {K : Act → World → Prop} {Q : Exit → Act → World → Prop} (hh : o.wp P a w K (fun _ _ _ => False)) : o.wp P a w K Q := by
  unfold Oper.wp at *
  generalize (execOp a.eval o).run P w = r at *
  cases r with
  | ok n w' =>
    cases n <;> simp only [Oper.upon] at hh ⊢
    case value => exact hh
    case skip => exact hh
    case defer => exact hh
    case enter => exact Calls.mono hh (fun e w'' he => by cases e with | returned v => exact he | panicked c => exact he.elim | outgrown => obtain ⟨_, _, h⟩ := he; exact h.elim)
    case row => exact hh
  | halt x w' => cases x <;> simp only [Oper.upon] at hh ⊢

/-- A region in whatever order: what holds of the states by which operations are done. -/
theorem wp_region_inv {l : List Oper} {id : Nat} {Q : Exit → Act → World → Prop} {a0 : Act} {w0 : World} (I : (Nat → Bool) → Act → World → Prop) (hm : P.follows .mixedOrders = true)
    (hwf : ∀ (i : Nat) (o : Oper), l[i]? = some o → ∀ e ∈ o.after, Region.binds .any e = true → e.on < i) (h0 : I (fun _ => false) a0 { w0 with drawn := w0.drawn + 1 })
    (step : ∀ (S : Nat → Bool) (a : Act) (w : World) (i : Nat) (o : Oper), (∀ j, S j = true → j < l.length) → (∀ (j : Nat) (o' : Oper), l[j]? = some o' → S j = true → ∀ e ∈ o'.after, Region.binds .any e = true → S e.on = true) → I S a w → l[i]? = some o → S i = false → (∀ e ∈ o.after, Region.binds .any e = true → S e.on = true) →
      if Region.wanted o (yielded l.toArray a.tmps) then o.wp P a w (fun a' w' => I (fun j => if j = i then true else S j) a' w') (fun _ _ _ => False) else I (fun j => if j = i then true else S j) (a.put o.dst undef) w)
    (fin : ∀ S a w, (∀ i, i < l.length → S i = true) → I S a w → Q .normal a w) : (Code.region id l.toArray true).wp P Q a0 w0 := by
  have hend : ∀ listed : Array Bool, listed.size = l.length → Region.ready .any l.toArray listed = [] → ∀ i, i < l.length → listed.getD i false = true := by
    intro listed hs hr i
    induction i using Nat.strongRecOn with
    | _ i ih =>
      intro hi
      apply Classical.byContradiction
      intro hno
      have hli : l[i]? = some l[i] := List.getElem?_eq_getElem hi
      have : i ∈ Region.ready .any l.toArray listed := by
        rw [mem_ready]
        refine ⟨?_, l[i], by simp [hi], fun e he hb => ih e.on (hwf i _ hli e he hb) (by have := hwf i _ hli e he hb; omega)⟩
        have e1 : listed.getD i true = listed.getD i false := by
          simp only [Array.getD_eq_getD_getElem?]; rw [Array.getElem?_eq_getElem (by omega)]; rfl
        rw [e1]; simpa using hno
      rw [hr] at this
      simp at this
  have hsame : ∀ (listed : Array Bool) (i : Nat), i < listed.size → (fun j => (listed.setIfInBounds i true).getD j false) = fun j => if j = i then true else listed.getD j false := by
    intro listed i hi
    funext j
    by_cases e : j = i
    · subst e; simp only [if_true, Array.getD_eq_getD_getElem?]; rw [Array.getElem?_setIfInBounds_self_of_lt hi]; rfl
    · rw [if_neg e]; simp only [Array.getD_eq_getD_getElem?]; rw [Array.getElem?_setIfInBounds_ne (Ne.symm e)]
  have hclosed : ∀ (listed : Array Bool), listed.size = l.length → ∀ i, i ∈ Region.ready .any l.toArray listed → (∀ (j : Nat) (o' : Oper), l[j]? = some o' → listed.getD j false = true → ∀ e ∈ o'.after, Region.binds .any e = true → listed.getD e.on false = true) →
      (∀ (j : Nat) (o' : Oper), l[j]? = some o' → (listed.setIfInBounds i true).getD j false = true → ∀ e ∈ o'.after, Region.binds .any e = true → (listed.setIfInBounds i true).getD e.on false = true) := by
    intro listed hs i hi hc j o' hj hlj e he hb
    obtain ⟨hn, o, ho, hall⟩ := mem_ready.1 hi
    simp only [List.getElem?_toArray] at ho
    have hil : i < l.length := (List.getElem?_eq_some_iff.1 ho).1
    have hfun := hsame listed i (by omega)
    have h1 := congrFun hfun j
    have h2 := congrFun hfun e.on
    rw [h2]
    split
    · rfl
    · rename_i hne
      by_cases hji : j = i
      · subst hji
        rw [ho] at hj; cases hj
        exact hall e he hb
      · rw [h1, if_neg hji] at hlj
        exact hc j o' hj hlj e he hb
  refine wp_region_any hm ?_
  have main : ∀ (fuel : Nat) (listed : Array Bool) (a : Act) (w : World), listed.size = l.length → I (fun j => listed.getD j false) a w → (∀ (j : Nat) (o' : Oper), l[j]? = some o' → listed.getD j false = true → ∀ e ∈ o'.after, Region.binds .any e = true → listed.getD e.on false = true) →
      ((List.range l.length).filter fun j => !listed.getD j false).length ≤ fuel → wpAny P .any l.toArray Q fuel listed a w := by
    intro fuel
    induction fuel with
    | zero =>
      intro listed a w hs h hcl hc
      have hnil := List.eq_nil_of_length_eq_zero (Nat.le_zero.1 hc)
      rw [List.filter_eq_nil_iff] at hnil
      have hall : ∀ i, i < l.length → listed.getD i false = true := fun i hi => by simpa using hnil i (List.mem_range.2 hi)
      have hr : Region.ready .any l.toArray listed = [] := by
        apply List.eq_nil_iff_forall_not_mem.2
        intro j hj
        obtain ⟨hn, o, ho, _⟩ := mem_ready.1 hj
        simp only [List.getElem?_toArray] at ho
        have hjl : j < l.length := (List.getElem?_eq_some_iff.1 ho).1
        have := hall j hjl
        simp only [Array.getD_eq_getD_getElem?] at this hn
        rw [Array.getElem?_eq_getElem (by omega)] at this hn
        simp only [Option.getD_some] at this hn
        rw [this] at hn; exact Bool.noConfusion hn
      exact ⟨hr, fin _ a w hall h⟩
    | succ fuel ih =>
      intro listed a w hs h hcl hc
      refine ⟨fun hr => fin _ a w (hend listed hs hr) h, fun i hi => ?_⟩
      have hcl' := hclosed listed hs i hi hcl
      obtain ⟨hn, o, ho, hall⟩ := mem_ready.1 hi
      simp only [List.getElem?_toArray] at ho
      have hil : i < l.length := (List.getElem?_eq_some_iff.1 ho).1
      have hnl : listed.getD i false = false := by
        have e1 : listed.getD i true = listed.getD i false := by
          simp only [Array.getD_eq_getD_getElem?]; rw [Array.getElem?_eq_getElem (by omega)]; rfl
        rw [← e1]; exact hn
      have hlt : ((List.range l.length).filter fun j => !(listed.setIfInBounds i true).getD j false).length ≤ fuel := by
        have hfun := hsame listed i (by omega)
        have hsub : ((List.range l.length).filter fun j => !(listed.setIfInBounds i true).getD j false) = (((List.range l.length).filter fun j => !listed.getD j false).filter fun j => !(listed.setIfInBounds i true).getD j false) := by
          rw [List.filter_filter]
          refine List.filter_congr fun j _ => ?_
          have := congrFun hfun j
          rw [this]
          split <;> simp
        have : ((List.range l.length).filter fun j => !(listed.setIfInBounds i true).getD j false).length < ((List.range l.length).filter fun j => !listed.getD j false).length := by
          rw [hsub]
          refine List.length_filter_lt_length_iff_exists.2 ⟨i, ?_, ?_⟩
          · rw [List.mem_filter]
            exact ⟨List.mem_range.2 hil, by simp only [hnl]; rfl⟩
          · have := congrFun hfun i
            simp only [if_true] at this
            rw [this]; simp
        omega
      have hs' : (listed.setIfInBounds i true).size = l.length := by simpa using hs
      have hst := step (fun j => listed.getD j false) a w i o (fun j hj => by
        apply Classical.byContradiction; intro h'
        simp only [Array.getD_eq_getD_getElem?] at hj
        rw [Array.getElem?_eq_none (by omega)] at hj; exact Bool.noConfusion hj) hcl h ho hnl hall
      rw [← hsame listed i (by omega)] at hst
      unfold wpOp
      simp only [List.getElem?_toArray, ho]
      split
      · rename_i hw
        rw [if_pos hw] at hst
        refine Or.inl (wp_weak' (Oper.wp_mono ?_ hst))
        intro a' w' h'
        exact ih _ a' w' hs' h' hcl' hlt
      · rename_i hw
        rw [if_neg hw] at hst
        exact ih _ _ w hs' hst hcl' hlt
  have hf0 : (fun j => (Array.replicate l.toArray.size false).getD j false) = fun _ => false := by
    funext j
    simp only [Array.getD_eq_getD_getElem?, Array.getElem?_replicate]
    split <;> rfl
  refine main _ _ _ _ (by simp) (by rw [hf0]; exact h0) ?_ (Nat.le_trans (List.length_filter_le _ _) (by simp))
  intro j o' _ hl
  have := congrFun hf0 j
  rw [this] at hl; exact Bool.noConfusion hl
end
end Go.Proofs.Ytidfmgahnmpcdaa
