/- A region that draws its order, by what each operation leaves in its slot: one premise an operation, whatever the order. No condition. -/
import Derived.Test.YtidfmgahnmpcdaaLibb
set_option linter.unusedSimpArgs false
set_option linter.unusedVariables false
namespace Go.Proofs.Ytidfmgahnmpcdaa
open Go.ChangeShapes Go.WideShapes Go.ChangeAt Go.RowKit

/-- What an operation leaves: a value in its slot of which the fact holds, and a later world. -/
def Wpv (P : Program) (o : Oper) (a : Act) (w : World) (F : Value → World → Prop) : Prop :=
  o.wp P a w (fun a' w' => ∃ v, a' = a.put o.dst v ∧ Ext w w' ∧ F v w') (fun _ _ _ => False)

def dstsOf (l : List Oper) : List Tmp := l.filterMap (·.dst)

/-- No guards; every operation has a slot of its own; what must come before stands before. -/
def factsOk (l : List Oper) (n : Nat) : Bool :=
  (l.all fun o => o.guard.isNone && o.dst.any (· < n)) && (dstsOf l).Nodup && (l.zipIdx.all fun x => x.1.after.all fun e => !Region.binds .any e || e.on < x.2)

/-- The frame behind the region. -/
def fillF (tmps : Array Value) (vs : Nat → Value) : List Oper → Nat → Array Value
  | [], _ => tmps
  | o :: l, i => fillF (match o.dst with | some d => tmps.setIfInBounds d (vs i) | none => tmps) vs l (i + 1)

section
variable {P : Program} {l : List Oper} {a0 : Act} {w0 : World}

/-- What holds of a state in which the operations that are listed are done. -/
structure StateOk (l : List Oper) (Φ : Nat → Value → World → Prop) (a0 : Act) (w0 : World) (listed : Array Bool) (a : Act) (w : World) : Prop where
  ext : Ext w0 w
  size : a.tmps.size = a0.tmps.size
  defers : a.defers = a0.defers
  other : ∀ t, t ∉ dstsOf l → a.tmps.getD t undef = a0.tmps.getD t undef
  fact : ∀ (i : Nat) (o : Oper) (d : Tmp), l[i]? = some o → o.dst = some d → listed.getD i false = true → Φ i (a.tmps.getD d undef) w

theorem Oper.wp_weak {o : Oper} {a : Act} {w : World} {K : Act → World → Prop} {Q : Exit → Act → World → Prop} (hh : o.wp P a w K (fun _ _ _ => False)) : o.wp P a w K Q := by
  unfold Oper.wp at *
  generalize (execOp a.eval o).run P w = r at *
  cases r with
  | ok n w' =>
    cases n <;> simp only [Oper.upon] at hh ⊢
    case value => exact hh
    case skip => exact hh
    case defer => exact hh
    case enter => exact Calls.mono hh (fun e w'' he => by cases e with | returned v => exact he | panicked c => exact he.elim | outgrown => obtain ⟨_, _, h⟩ := he; exact h.elim)
    case row => exact hh
  | halt x w' => cases x <;> simp only [Oper.upon] at hh ⊢

theorem wp_region_facts {id : Nat} {Q : Exit → Act → World → Prop} (Φ : Nat → Value → World → Prop) (hm : P.follows .mixedOrders = true) (hok : factsOk l a0.tmps.size = true)
    (hst : ∀ i v w1 w2, i < l.length → Φ i v w1 → Ext w1 w2 → Φ i v w2)
    (hop : ∀ (i : Nat) (o : Oper), l[i]? = some o → ∀ a w, Ext w0 w → (∀ t, t ∉ dstsOf l → a.tmps.getD t undef = a0.tmps.getD t undef) →
      (∀ e ∈ o.after, Region.binds .any e = true → ∀ (o' : Oper) (d : Tmp), l[e.on]? = some o' → o'.dst = some d → Φ e.on (a.tmps.getD d undef) w) → Wpv P o a w (Φ i))
    (hk : ∀ vs w, Ext w0 w → (∀ i, i < l.length → Φ i (vs i) w) → Q .normal ⟨fillF a0.tmps vs l 0, a0.defers⟩ w) :
    (Code.region id l.toArray true).wp P Q a0 w0 := by
  simp only [factsOk, Bool.and_eq_true, List.all_eq_true, decide_eq_true_eq] at hok
  obtain ⟨⟨h1, h2⟩, h3⟩ := hok
  have hdst : ∀ (i : Nat) (o : Oper), l[i]? = some o → ∃ d, o.dst = some d ∧ d < a0.tmps.size ∧ o.guard = none := by
    intro i o hi
    have := h1 o (List.mem_of_getElem? hi)
    obtain ⟨g, x⟩ := this
    cases hd : o.dst with
    | none => simp [hd] at x
    | some d => exact ⟨d, rfl, by simpa [hd] using x, by simpa using g⟩
  have hafter : ∀ (i : Nat) (o : Oper), l[i]? = some o → ∀ e ∈ o.after, Region.binds .any e = true → e.on < i := by
    intro i o hi e he hb
    have := h3 (o, i) (by rw [List.mem_zipIdx_iff_getElem?]; simpa using hi)
    simp only [Array.all_eq_true_iff_forall_mem] at this
    have := this e he
    simpa [hb] using this
  have hinj : ∀ (i j : Nat) (o o' : Oper) (d : Tmp), l[i]? = some o → l[j]? = some o' → o.dst = some d → o'.dst = some d → i = j := by
    intro i j o o' d hi hj ho ho'
    clear hop hk hst hafter hdst h1 h3
    revert i j
    induction l with
    | nil => intro i j hi; simp at hi
    | cons x xs ih =>
      intro i j hi hj
      unfold dstsOf at h2 ih
      cases hx : x.dst with
      | none =>
        rw [List.filterMap_cons_none hx] at h2
        cases i with
        | zero => simp at hi; subst hi; rw [hx] at ho; cases ho
        | succ i => cases j with
          | zero => simp at hj; subst hj; rw [hx] at ho'; cases ho'
          | succ j => simp at hi hj; rw [ih h2 i j hi hj]
      | some dx =>
        rw [List.filterMap_cons_some hx, List.nodup_cons] at h2
        have key : ∀ (k : Nat) (o'' : Oper), xs[k]? = some o'' → o''.dst = some dx → False := fun k o'' hk hd => h2.1 (List.mem_filterMap.2 ⟨o'', List.mem_of_getElem? hk, hd⟩)
        cases i with
        | zero =>
          simp at hi; subst hi
          rw [hx] at ho; cases ho
          cases j with
          | zero => rfl
          | succ j => simp at hj; exact (key j o' hj ho').elim
        | succ i => cases j with
          | zero =>
            simp at hj; subst hj
            rw [hx] at ho'; cases ho'
            simp at hi; exact (key i o hi ho).elim
          | succ j => simp at hi hj; rw [ih h2.2 i j hi hj]
  -- the frame at the end
  have hfill : ∀ (k : List Oper) (t : Array Value) (vs : Nat → Value) (i : Nat), (fillF t vs k i).size = t.size := by
    intro k
    induction k with
    | nil => intro t vs i; rfl
    | cons o k ih => intro t vs i; rw [fillF, ih]; cases o.dst <;> simp
  have hout : ∀ (k : List Oper) (t : Array Value) (vs : Nat → Value) (i x : Nat), x ∉ dstsOf k → (fillF t vs k i).getD x undef = t.getD x undef := by
    intro k
    induction k with
    | nil => intro t vs i x _; rfl
    | cons o k ih =>
      intro t vs i x hx
      cases ho : o.dst with
      | none =>
        unfold dstsOf at hx ih
        rw [List.filterMap_cons_none ho] at hx
        rw [fillF, ho]; exact ih _ _ _ _ hx
      | some d =>
        unfold dstsOf at hx ih
        rw [List.filterMap_cons_some ho, List.mem_cons, not_or] at hx
        rw [fillF, ho, ih _ _ _ _ hx.2]
        simp only [Array.getD_eq_getD_getElem?]
        rw [Array.getElem?_setIfInBounds_ne (Ne.symm hx.1)]
  have hin : ∀ (k : List Oper) (t : Array Value) (vs : Nat → Value) (i j : Nat) (o : Oper) (d : Tmp), (dstsOf k).Nodup → k[j]? = some o → o.dst = some d → d < t.size → (fillF t vs k i).getD d undef = vs (i + j) := by
    intro k
    induction k with
    | nil => intro t vs i j o d _ hj; simp at hj
    | cons o k ih =>
      intro t vs i j o' d hn hj hd hlt
      unfold dstsOf at hn
      cases j with
      | zero =>
        simp at hj; subst hj
        rw [List.filterMap_cons_some hd, List.nodup_cons] at hn
        rw [fillF, hd, hout _ _ _ _ _ hn.1]
        simp only [Array.getD_eq_getD_getElem?]
        rw [Array.getElem?_setIfInBounds_self_of_lt hlt]; rfl
      | succ j =>
        simp at hj
        have hn' : (dstsOf k).Nodup := by
          cases ho : o.dst with
          | none => rw [List.filterMap_cons_none ho] at hn; exact hn
          | some d' => rw [List.filterMap_cons_some ho, List.nodup_cons] at hn; exact hn.2
        rw [fillF, ih _ _ _ j o' d hn' hj hd (by cases o.dst <;> simpa using hlt)]
        congr 1; omega
  -- when nothing is ready any more, all is done
  have hend : ∀ listed : Array Bool, listed.size = l.length → Region.ready .any l.toArray listed = [] → ∀ i, i < l.length → listed.getD i false = true := by
    intro listed hs hr
    intro i
    induction i using Nat.strongRecOn with
    | _ i ih =>
      intro hi
      apply Classical.byContradiction
      intro hno
      have hli : l[i]? = some l[i] := List.getElem?_eq_getElem hi
      have : i ∈ Region.ready .any l.toArray listed := by
        simp only [Region.ready, List.mem_filter, List.mem_range, List.size_toArray]
        refine ⟨hi, ?_⟩
        simp only [Bool.and_eq_true]
        have hf : listed.getD i true = false := by
          have e1 : listed.getD i true = listed.getD i false := by
            simp only [Array.getD_eq_getD_getElem?]; rw [Array.getElem?_eq_getElem (by omega)]; rfl
          rw [e1]; simpa using hno
        refine ⟨by rw [hf]; rfl, ?_⟩
        simp only [List.getElem?_toArray, hli, Option.map_some, Option.getD_some]
        rw [Array.all_eq_true_iff_forall_mem]
        intro e he
        cases hb : Region.binds .any e with
        | false => simp
        | true =>
          have hlt := hafter i _ hli e he hb
          have := ih e.on hlt (by omega)
          simp [this]
      rw [hr] at this
      simp at this
  have hfin : ∀ (listed : Array Bool) (a : Act) (w : World), listed.size = l.length → Region.ready .any l.toArray listed = [] → StateOk l Φ a0 w0 listed a w → Q .normal a w := by
    intro listed a w hs hr h
    have hall := hend listed hs hr
    let vs : Nat → Value := fun i => match l[i]? with | some o => (match o.dst with | some d => a.tmps.getD d undef | none => undef) | none => undef
    have := hk vs w h.ext (fun i hi => by
      have hli : l[i]? = some l[i] := List.getElem?_eq_getElem hi
      obtain ⟨d, hd, _, _⟩ := hdst i _ hli
      have := h.fact i _ d hli hd (hall i hi)
      simpa only [vs, hli, hd] using this)
    have e : a = ⟨fillF a0.tmps vs l 0, a0.defers⟩ := by
      obtain ⟨at', ad⟩ := a
      have hd := h.defers
      simp only at hd
      subst hd
      congr 1
      apply Array.ext
      · rw [hfill]; exact h.size
      · intro t ht1 ht2
        have hg : ∀ (x : Array Value) (hx : t < x.size), x[t] = x.getD t undef := fun x hx => by simp [Array.getD_eq_getD_getElem?, Array.getElem?_eq_getElem hx]
        rw [hg _ ht1, hg _ ht2]
        by_cases hm' : t ∈ dstsOf l
        · obtain ⟨o, ho, hd⟩ := List.mem_filterMap.1 hm'
          obtain ⟨j, hj⟩ := List.getElem?_of_mem ho
          have hsz : t < a0.tmps.size := by obtain ⟨d', hd', hlt, _⟩ := hdst j o hj; rw [hd] at hd'; cases hd'; exact hlt
          rw [hin l _ vs 0 j o t h2 hj hd hsz]
          simp only [vs, Nat.zero_add, hj, hd]
        · rw [hout _ _ _ _ _ hm']; exact h.other t hm'
    rw [e]; exact this
  refine wp_region_any hm ?_
  have hget : ∀ (listed : Array Bool) (i j : Nat), (listed.setIfInBounds i true).getD j false = true ∨ (listed.setIfInBounds i true).getD j false = listed.getD j false := by
    intro listed i j
    by_cases e : i = j
    · subst e
      by_cases hi : i < listed.size
      · left; simp only [Array.getD_eq_getD_getElem?]; rw [Array.getElem?_setIfInBounds_self_of_lt hi]; rfl
      · right; rw [Array.setIfInBounds_eq_of_size_le (by omega)]
    · right; simp only [Array.getD_eq_getD_getElem?]; rw [Array.getElem?_setIfInBounds_ne e]
  have main : ∀ (fuel : Nat) (listed : Array Bool) (a : Act) (w : World), listed.size = l.length → StateOk l Φ a0 w0 listed a w →
      ((List.range l.length).filter fun j => !listed.getD j false).length ≤ fuel → wpAny P .any l.toArray Q fuel listed a w := by
    intro fuel
    induction fuel with
    | zero =>
      intro listed a w hs h hc
      have hnil := List.eq_nil_of_length_eq_zero (Nat.le_zero.1 hc)
      rw [List.filter_eq_nil_iff] at hnil
      have hr : Region.ready .any l.toArray listed = [] := by
        simp only [Region.ready]
        rw [List.filter_eq_nil_iff]
        intro j hj
        simp only [List.size_toArray, List.mem_range] at hj
        have := hnil j (List.mem_range.2 hj)
        simp only [Bool.not_eq_true, Bool.not_eq_false', Array.getD_eq_getD_getElem?] at this ⊢
        rw [Array.getElem?_eq_getElem (by omega)] at this ⊢
        simp only [Option.getD_some] at this ⊢
        simp [this]
      exact ⟨hr, hfin listed a w hs hr h⟩
    | succ fuel ih =>
      intro listed a w hs h hc
      refine ⟨fun hr => hfin listed a w hs hr h, fun i hi => ?_⟩
      simp only [Region.ready, List.mem_filter, List.mem_range, List.size_toArray, Bool.and_eq_true] at hi
      obtain ⟨hil, hn, haft⟩ := hi
      have hli : l[i]? = some l[i] := List.getElem?_eq_getElem hil
      obtain ⟨d, hd, hdl, hg⟩ := hdst i _ hli
      simp only [List.getElem?_toArray, hli, Option.map_some, Option.getD_some] at haft
      rw [Array.all_eq_true_iff_forall_mem] at haft
      unfold wpOp
      simp only [List.getElem?_toArray, hli]
      have hw : Region.wanted l[i] (yielded l.toArray a.tmps) = true := by simp [Region.wanted, hg]
      rw [if_pos hw]
      refine Or.inl ?_
      have hv := hop i _ hli a w h.ext h.other (fun e he hb o' d' ho' hd' => h.fact _ _ _ ho' hd' (by have := haft e he; simpa [hb] using this))
      unfold Wpv at hv
      have hno : listed.getD i true = false := by simpa using hn
      have hnl : listed[i]'(by omega) = false := by
        have : listed.getD i true = listed[i]'(by omega) := by simp [Array.getD_eq_getD_getElem?, Array.getElem?_eq_getElem (show i < listed.size by omega)]
        rw [← this]; exact hno
      have hv' : l[i].wp P a w (wpAny P .any l.toArray Q fuel (listed.setIfInBounds i true)) (fun _ _ _ => False) := by
        refine Oper.wp_mono ?_ hv
        rintro a' w' ⟨v, rfl, hx, hv⟩
        refine ih _ _ _ (by simpa using hs) ?_ ?_
        · refine ⟨h.ext.trans hx, ?_, ?_, ?_, ?_⟩
          · simp [Act.put, hd, h.size]
          · simp [Act.put, hd, h.defers]
          · intro t ht
            have hne : t ≠ d := fun e => ht (by rw [e]; exact List.mem_filterMap.2 ⟨_, List.mem_of_getElem? hli, hd⟩)
            have : (a.put l[i].dst v).tmps.getD t undef = a.tmps.getD t undef := by
              simp only [Act.put, hd, Array.getD_eq_getD_getElem?]
              rw [Array.getElem?_setIfInBounds_ne (Ne.symm hne)]
            rw [this]; exact h.other t ht
          · intro j o' d' hj hd' hlj
            by_cases e : j = i
            · subst e
              rw [hli] at hj; cases hj
              rw [hd] at hd'; cases hd'
              have : (a.put l[j].dst v).tmps.getD d undef = v := by
                simp only [Act.put, hd, Array.getD_eq_getD_getElem?]
                rw [Array.getElem?_setIfInBounds_self_of_lt (by rw [h.size]; exact hdl)]; rfl
              rw [this]; exact hv
            · have hne : d' ≠ d := fun e' => e (hinj j i _ _ d hj hli (by rw [hd', e']) hd)
              have : (a.put l[i].dst v).tmps.getD d' undef = a.tmps.getD d' undef := by
                simp only [Act.put, hd, Array.getD_eq_getD_getElem?]
                rw [Array.getElem?_setIfInBounds_ne (Ne.symm hne)]
              rw [this]
              refine hst j _ _ _ (by have := List.getElem?_eq_some_iff.1 hj; exact this.1) (h.fact j o' d' hj hd' ?_) hx
              simp only [Array.getD_eq_getD_getElem?] at hlj ⊢
              rwa [Array.getElem?_setIfInBounds_ne (Ne.symm e)] at hlj
        · have hlt : ((List.range l.length).filter fun j => !(listed.setIfInBounds i true).getD j false).length < ((List.range l.length).filter fun j => !listed.getD j false).length := by
            have hsub : ((List.range l.length).filter fun j => !(listed.setIfInBounds i true).getD j false) = (((List.range l.length).filter fun j => !listed.getD j false).filter fun j => !(listed.setIfInBounds i true).getD j false) := by
              rw [List.filter_filter]
              refine List.filter_congr fun j _ => ?_
              rcases hget listed i j with e | e <;> rw [e] <;> simp
            rw [hsub]
            refine List.length_filter_lt_length_iff_exists.2 ⟨i, ?_, ?_⟩
            · rw [List.mem_filter]
              refine ⟨List.mem_range.2 hil, ?_⟩
              simp only [Array.getD_eq_getD_getElem?]
              rw [Array.getElem?_eq_getElem (by omega)]
              simp [hnl]
            · simp only [Array.getD_eq_getD_getElem?]
              rw [Array.getElem?_setIfInBounds_self_of_lt (by omega)]
              simp
          omega
      exact Oper.wp_weak hv'
  exact main _ _ _ _ (by simp) ⟨(Ext.refl _).drewN 1, rfl, rfl, fun _ _ => rfl, fun i o d hi hd hl => by simp [Array.getD_eq_getD_getElem?, Array.getElem?_replicate] at hl; split at hl <;> simp_all⟩ (Nat.le_trans (List.length_filter_le _ _) (by simp))

theorem wpv_value {o : Oper} {a : Act} {w : World} {F : Value → World → Prop} {v : Value} (h : (execOp a.eval o).run P w = .ok (.value v) w) (hf : F v w) : Wpv P o a w F := by
  unfold Wpv Oper.wp
  rw [h]
  exact ⟨v, rfl, Ext.refl _, hf⟩
theorem wpv_enter {o : Oper} {a : Act} {w : World} {F : Value → World → Prop} {f : FuncId} {args : Array Value} (h : (execOp a.eval o).run P w = .ok (.enter f args) w) (hc : Calls P f args w fun e w' => ∃ v, e = .returned v ∧ Ext w w' ∧ F v w') : Wpv P o a w F := by
  unfold Wpv Oper.wp
  rw [h]
  refine hc.mono ?_
  rintro e w' ⟨v, rfl, hx, hf⟩
  exact ⟨v, rfl, hx, hf⟩
end
end Go.Proofs.Ytidfmgahnmpcdaa
