/- Symbolic states: regions that draw their order and make, append or store: what only reckons, and loads of variables that the region leaves alone, are taken first. No condition. Symbolic states: states agreed on in the middle, entries renumbered; memory that a statement tells of; arrays of arrays that grow in place. No condition. Symbolic states: arrays of arrays: made, a row grown, a row stored. No condition. -/
import Derived.Test.YtcpjhpjlcgcigaaGreatDoorAbsV
import Derived.OrdersHeld
set_option linter.unusedSimpArgs false
set_option linter.unusedVariables false
namespace Go.Proofs.YtcpjhpjlcgcigaaGreatDoor
open Go.ChangeShapes Go.WideShapes Go.ChangeAt Go.RowKit

/-- What is held of cells for the whole of a region: a slot that holds an address, an offset, the scalar that lies there. -/
def HeldC (L : List (Tmp × Nat × Value)) (a : Act) (w : World) : Prop := ∀ x ∈ L, ∀ b o, a.tmps.getD x.1 undef = .pointer (some ⟨b, o, none⟩) → w.cell? ⟨b, o + x.2.1, none⟩ = some x.2.2
/-- And that the world is a later one than the call's first. -/
structure HeldF (w0 : World) (L : List (Tmp × Nat × Value)) (a : Act) (w : World) : Prop where
  ext : Ext w0 w
  cells : HeldC L a w
def cellAt (s : St) (t : Tmp) (o : Nat) : Option D := match s.get t with
  | .ptr i o0 => match s.heap[i]? with
    | some (.cells _ ds) => ds[o0 + o]?
    | _ => none
  | _ => none
def heldOk (s : St) : List (Tmp × Nat × Value) → Prop
  | [] => True
  | x :: l => cellAt s x.1 x.2.1 = some (.lit x.2.2) ∧ heldOk s l

section
variable {P : Program} {w0 w : World} {A : Nat → Prop} {s : St} {ms : List Ent} {a : Act} {L : List (Tmp × Nat × Value)}
theorem HeldC.of (hr : Rel w0 A ms s a w) : ∀ {L : List (Tmp × Nat × Value)}, heldOk s L → HeldC L a w
  | [], _ => fun x hx => by simp at hx
  | y :: l, h => by
    intro x hx b o hb
    rcases List.mem_cons.1 hx with rfl | hx
    · have h1 := h.1
      unfold cellAt at h1
      split at h1
      · rename_i i o0 hs
        split at h1
        · rename_i t ds hh
          have h2 := hr.slots x.1
          rw [hs] at h2
          obtain ⟨e, b', hi, ht, hv⟩ := h2.ptr_inv
          rw [hb] at hv
          simp only [Value.pointer.injEq, Option.some.injEq, Addr.mk.injEq, and_true] at hv
          obtain ⟨rfl, rfl⟩ := hv
          obtain ⟨b2, us, rfl, h3, h4⟩ := hr.ents i _ e hh hi
          simp only [Option.some.injEq] at ht
          subst ht
          obtain ⟨u, h5, h6⟩ := h4.get h1
          obtain ⟨rfl, _⟩ := h6.lit_inv
          simp [World.cell?, h3, h5]
        · simp at h1
      · simp at h1
    · exact HeldC.of hr h.2 x hx b o hb
theorem HeldF.of (hr : Rel w0 A ms s a w) {L : List (Tmp × Nat × Value)} (h : heldOk s L) : HeldF w0 L a w := ⟨hr.ext, HeldC.of hr h⟩

/-- What is ready, and what may be taken first, reckoned without arrays' loops. -/
def rdyE (listed : Array Bool) : List Edge → Bool
  | [] => true
  | e :: l => (!Region.binds .any e || listed.getD e.on false) && rdyE listed l
def rdyO (listed : Array Bool) : Nat → List Oper → List Nat
  | _, [] => []
  | i, o :: l => match (!listed.getD i true) && rdyE listed o.after.toList with
    | true => i :: rdyO listed (i + 1) l
    | false => rdyO listed (i + 1) l
def rdyH (ops : Array Oper) (listed : Array Bool) : List Nat := rdyO listed 0 ops.toList
theorem rdyE_eq (listed : Array Bool) : ∀ l : List Edge, rdyE listed l = l.all fun e => !Region.binds .any e || listed.getD e.on false
  | [] => rfl
  | e :: l => by rw [rdyE, rdyE_eq listed l, List.all_cons]
theorem rdyO_eq (listed : Array Bool) : ∀ (l : List Oper) (i : Nat), rdyO listed i l = (List.range' i l.length).filter fun k => !listed.getD k true && ((l[k - i]?).map fun x => x.after.toList.all fun e => !Region.binds .any e || listed.getD e.on false).getD false
  | [], i => by simp [rdyO]
  | o :: l, i => by
    rw [rdyO, rdyO_eq listed l (i + 1), List.length_cons, List.range'_succ, List.filter_cons]
    simp only [Nat.sub_self, List.getElem?_cons_zero, Option.map_some, Option.getD_some, rdyE_eq]
    have e : (List.range' (i + 1) l.length).filter (fun k => !listed.getD k true && ((l[k - (i + 1)]?).map fun x => x.after.toList.all fun e => !Region.binds .any e || listed.getD e.on false).getD false)
        = (List.range' (i + 1) l.length).filter (fun k => !listed.getD k true && (((o :: l)[k - i]?).map fun x => x.after.toList.all fun e => !Region.binds .any e || listed.getD e.on false).getD false) := by
      apply List.filter_congr
      intro k hk
      have := (List.mem_range'_1.1 hk).1
      rw [show k - i = (k - (i + 1)) + 1 by omega, List.getElem?_cons_succ]
    rw [e]
    cases (!listed.getD i true) && (o.after.toList.all fun e => !Region.binds .any e || listed.getD e.on false) <;> rfl
theorem rdyH_eq (ops : Array Oper) (listed : Array Bool) : Region.ready .any ops listed = rdyH ops listed := by
  unfold rdyH Region.ready
  rw [rdyO_eq, List.range_eq_range']
  apply List.filter_congr
  intro k _
  simp only [Nat.sub_zero, Array.getElem?_toList, Array.all_toList]
def hasT (d : Tmp) : List Operand → Bool
  | [] => false
  | x :: l => match x with
    | .tmp t => match Nat.beq d t with | true => true | false => hasT d l
    | .const _ => hasT d l
    | .global _ => hasT d l
    | .func _ => hasT d l
def eqT (x y : Option Tmp) : Bool := match x, y with
  | some a, some b => Nat.beq a b
  | none, none => true
  | _, _ => false
/-- Operations that may change places; none of them under a guard. -/
def aprt (x y : Oper) : Bool :=
  (match x.guard, y.guard with | none, none => true | _, _ => false) &&
  ((match x.dst with | some d => !hasT d y.op.operands.toList && !eqT y.dst (some d) | none => true) &&
  (match y.dst with | some d => !hasT d x.op.operands.toList | none => true))
theorem hasT_eq (d : Tmp) : ∀ l : List Operand, (l.filterMap fun | .tmp t => some t | _ => none).contains d = hasT d l
  | [] => rfl
  | x :: l => by
    cases x with
    | tmp t =>
      rw [hasT, List.filterMap_cons]
      simp only [List.contains_cons]
      rw [hasT_eq d l]
      cases h : Nat.beq d t
      · have : (d == t) = false := by simpa using Nat.ne_of_beq_eq_false h
        simp [this]
      · have : (d == t) = true := by simpa using Nat.eq_of_beq_eq_true h
        simp [this]
    | const _ => rw [hasT, List.filterMap_cons]; exact hasT_eq d l
    | global _ => rw [hasT, List.filterMap_cons]; exact hasT_eq d l
    | func _ => rw [hasT, List.filterMap_cons]; exact hasT_eq d l
theorem aprt_ok {ops : Array Oper} {x y : Oper} (h : aprt x y = true) : x.apart ops y = true := by
  unfold aprt at h
  simp only [Bool.and_eq_true] at h
  obtain ⟨h0, h1, h2⟩ := h
  have hg : x.guard = none ∧ y.guard = none := by
    split at h0
    · rename_i a b; exact ⟨a, b⟩
    · simp at h0
  unfold Oper.apart Oper.looksAt
  rw [hg.1, hg.2]
  simp only [List.append_nil, Bool.and_eq_true]
  refine ⟨?_, ?_⟩
  · cases hx : x.dst with
    | none => rfl
    | some d =>
      rw [hx] at h1
      simp only [Bool.and_eq_true] at h1 ⊢
      refine ⟨(congrArg (fun b => !b) (hasT_eq d _)).trans h1.1, ?_⟩
      cases hy : y.dst with
      | none => rfl
      | some d' =>
        have := h1.2
        rw [hy] at this
        simp only [eqT, Bool.not_eq_true', bne_iff_ne, ne_eq, Option.some.injEq] at this ⊢
        exact Nat.ne_of_beq_eq_false this
  · cases hy : y.dst with
    | none => rfl
    | some d => rw [hy] at h2; exact (congrArg (fun b => !b) (hasT_eq d _)).trans h2
def freeO (listed : Array Bool) (i : Nat) (oi : Oper) : Nat → List Oper → Bool
  | _, [] => true
  | j, o :: l => (Nat.beq j i || listed.getD j true || hasE i o.after.toList || aprt oi o) && freeO listed i oi (j + 1) l
where hasE (i : Nat) : List Edge → Bool
  | [] => false
  | e :: l => (Region.binds .any e && e.on == i) || hasE i l
theorem hasE_eq (i : Nat) : ∀ l : List Edge, freeO.hasE i l = l.any fun e => Region.binds .any e && e.on == i
  | [] => rfl
  | e :: l => by rw [freeO.hasE, hasE_eq i l, List.any_cons]
theorem freeO_ok {ops : Array Oper} {listed : Array Bool} {i : Nat} {oi : Oper} : ∀ (l : List Oper) (j : Nat), (∀ k, l[k]? = ops[j + k]?) → freeO listed i oi j l = true → ∀ k, j ≤ k → k < j + l.length → (k == i || listed.getD k true || (match ops[k]? with | some oj => (oj.after.any fun e => Region.binds .any e && e.on == i) || Oper.apart ops oi oj | none => true)) = true
  | [], j, _, _, k, h1, h2 => by simp at h2; omega
  | o :: l, j, hl, h, k, h1, h2 => by
    rw [freeO, Bool.and_eq_true] at h
    by_cases e : k = j
    · subst e
      have h0 : ops[k]? = some o := by simpa using (hl 0).symm
      rw [h0]
      have h3 := h.1
      simp only [Bool.or_eq_true, hasE_eq] at h3 ⊢
      rcases h3 with ((h3 | h3) | h3) | h3
      · exact Or.inl (Or.inl (by have := Nat.eq_of_beq_eq_true h3; simp [this]))
      · exact Or.inl (Or.inr h3)
      · refine Or.inr (Or.inl ?_)
        rw [← Array.any_toList]; exact h3
      · exact Or.inr (Or.inr (aprt_ok h3))
    · exact freeO_ok l (j + 1) (fun m => by have := hl (m + 1); simpa [Nat.add_assoc, Nat.add_comm 1 m] using this) h.2 k (by omega) (by simp at h2; omega)
def candO (ops : Array Oper) (listed : Array Bool) : List Nat → Nat → Option Nat
  | [], _ => none
  | i :: l, k => match ops.toList[i]? with
    | some oi => match freeO listed i oi 0 ops.toList with
      | true => match k with | 0 => some i | k + 1 => candO ops listed l k
      | false => candO ops listed l k
    | none => candO ops listed l k
/-- Which operations may be taken first now: the k-th of them. -/
def cand (ops : Array Oper) (listed : Array Bool) (k : Nat) : Option Nat := candO ops listed (rdyH ops listed) k
theorem candO_spec {ops : Array Oper} {listed : Array Bool} {i : Nat} : ∀ {l : List Nat} {k : Nat}, candO ops listed l k = some i → i ∈ l ∧ Region.free .any ops listed i = true
  | [], _, h => by simp [candO] at h
  | j :: l, k, h => by
    have hrec : ∀ k, candO ops listed l k = some i → i ∈ j :: l ∧ Region.free .any ops listed i = true := fun k h => ⟨List.mem_cons_of_mem _ (candO_spec h).1, (candO_spec h).2⟩
    unfold candO at h
    split at h
    · rename_i oi hoi
      split at h
      · rename_i hf
        cases k with
        | zero =>
          simp only [Option.some.injEq] at h
          subst h
          refine ⟨by simp, ?_⟩
          unfold Region.free
          rw [Array.getElem?_toList] at hoi
          rw [hoi]
          simp only [List.all_eq_true]
          intro k hk
          exact freeO_ok ops.toList 0 (fun k => by simp) hf k (Nat.zero_le _) (by simpa using hk)
        | succ k => exact hrec k h
      · exact hrec k h
    · exact hrec k h
theorem cand_spec {ops : Array Oper} {listed : Array Bool} {k i : Nat} (h : cand ops listed k = some i) : Region.free .any ops listed i = true ∧ (Region.ready .any ops listed).contains i = true := by
  have h1 := candO_spec h
  exact ⟨h1.2, by rw [rdyH_eq]; simpa using h1.1⟩

def noSel : List Oper → Bool
  | [] => true
  | o :: l => match o.op with | .select .. => false | _ => noSel l
theorem noSel_ok {ops : Array Oper} (h : noSel ops.toList = true) : Region.noSelect ops = true := by
  have key : ∀ l : List Oper, noSel l = true → (l.all fun o => match o.op with | .select .. => false | _ => true) = true := by
    intro l
    induction l with
    | nil => intro _; rfl
    | cons o l ih =>
      intro h
      rw [noSel] at h
      rw [List.all_cons, Bool.and_eq_true]
      split at h
      · simp at h
      · exact ⟨rfl, ih h⟩
  have := key _ h
  unfold Region.noSelect
  rw [← Array.all_toList]; exact this

/-- What a region's end asks. -/
def QK (w0 : World) (A : Nat → Prop) (K : St → Prop) : Exit → Act → World → Prop := fun e a' w' => e = .normal ∧ ∃ ms' s', Rel w0 A ms' s' a' w' ∧ K s'

/-- From every state that s tells of, in whatever order the rest comes up, the region ends in a state that K allows. -/
structure WH (P : Program) (w0 : World) (A : Nat → Prop) (ops : Array Oper) (L : List (Tmp × Nat × Value)) (fuel : Nat) (listed : Array Bool) (s : St) (K : St → Prop) : Prop where
  run : ∀ ms a w a0, Rel w0 A ms s a w → (∀ x ∈ L, a.tmps.getD x.1 undef = a0.tmps.getD x.1 undef) → wpAnyH P .any ops (QK w0 A K) (HeldF w0 L a0) fuel listed a w

variable {n : Nat} {sl : List (Nat × D)} {hp : List Blk} {Q : Exit → St → Prop} {K : St → Prop} {ops : Array Oper} {fuel : Nat} {listed : Array Bool}

theorem W_held (hm : P.follows .mixedOrders = true) {l : List Oper} {id : Nat} (L : List (Tmp × Nat × Value)) (h : WH P w0 A l.toArray L l.length (Array.replicate l.length false) ⟨n, sl, hp⟩ fun s => Q .normal s) : W P w0 A (.region id l.toArray true) ⟨n, sl, hp⟩ Q := by
  refine ⟨fun ms a w hr => ?_⟩
  have hd : Rel w0 A ms ⟨n, sl, hp⟩ a { w with drawn := w.drawn + 1 } := hr.later (Ext.drew (Ext.refl w))
  have h1 := h.run ms a _ a hd fun _ _ => rfl
  refine Code.wp_mono ?_ (wp_region_held (Q := QK w0 A fun s => Q .normal s) (S := HeldF w0 L a) hm (by simpa using h1))
  rintro e a' w' ⟨rfl, h⟩
  exact h

theorem H_done (hr : rdyH ops listed = []) (h : K s) : WH P w0 A ops L fuel listed s K :=
  ⟨fun ms a w _ hr' _ => wpAnyH_done ((rdyH_eq _ _).trans hr) ⟨rfl, ms, s, hr', h⟩ fuel⟩

/-- An operation that yields its value in every world that keeps what is held. -/
theorem H_take' {i : Nat} {t : Tmp} {d : D} {op : Op} {ty : TypeId} {pos : String} {after : Array Edge} (hi : ops[i]? = some ⟨some t, op, ty, pos, after, none⟩) (hs : noSel ops.toList = true) (hf : Region.free .any ops listed i = true) (hrd : (Region.ready .any ops listed).contains i = true) (hL : L.all (fun x => !Nat.beq x.1 t) = true) (hheld : heldOk ⟨n, sl, hp⟩ L) (htn : Nat.blt t n = true)
    (hy : ∀ ms a w a0, Rel w0 A ms ⟨n, sl, hp⟩ a w → (∀ x ∈ L, a.tmps.getD x.1 undef = a0.tmps.getD x.1 undef) → ∃ v, (∀ w', HeldF w0 L a0 w' → (execOp a.eval ⟨some t, op, ty, pos, after, none⟩).run P w' = .ok (.value v) w') ∧ VX ms w (OkB w0.heap.size A ms w) d v)
    (h : WH P w0 A ops L fuel (listed.setIfInBounds i true) ⟨n, (t, d) :: sl, hp⟩ K) : WH P w0 A ops L (fuel + 1) listed ⟨n, sl, hp⟩ K := by
  refine ⟨fun ms a w a0 hr ha => ?_⟩
  obtain ⟨v, h1, h2⟩ := hy ms a w a0 hr ha
  have hHF : HeldF w0 L a0 w := by
    refine ⟨hr.ext, fun x hx b o hb => ?_⟩
    exact HeldC.of hr hheld x hx b o (by rw [ha x hx]; exact hb)
  refine wpAnyH_take (v := v) hi (noSel_ok hs) hf hrd (fun c a w h => by exact absurd h.1 (by simp)) (Or.inl ⟨by simp [Region.wanted], h1⟩) hHF ?_
  refine h.run ms _ w a0 (Rel.put (t := some t) hr h2 (dstOk_all (s := ⟨n, sl, hp⟩) (t := some t) htn)) fun x hx => ?_
  have hne : x.1 ≠ t := by
    have := List.all_eq_true.1 hL x hx
    intro e; subst e; simp at this
  rw [← ha x hx]
  simp only [Act.put, Array.getD_eq_getD_getElem?]
  rw [Array.getElem?_setIfInBounds_ne (Ne.symm hne)]

theorem H_move (k0 : Nat) {i : Nat} {t : Tmp} {x : Operand} {ty : TypeId} {pos : String} {after : Array Edge} {d : D} (hcd : cand ops listed k0 = some i) (hi : ops[i]? = some ⟨some t, .move x, ty, pos, after, none⟩) (hs : noSel ops.toList = true) (hL : L.all (fun x => !Nat.beq x.1 t) = true) (hheld : heldOk ⟨n, sl, hp⟩ L) (htn : Nat.blt t n = true)
    (hx : forceK (evD (look sl) x) some = some d) (h : WH P w0 A ops L fuel (listed.setIfInBounds i true) ⟨n, (t, d) :: sl, hp⟩ K) : WH P w0 A ops L (fuel + 1) listed ⟨n, sl, hp⟩ K :=
  H_take' hi hs (cand_spec hcd).1 (cand_spec hcd).2 hL hheld htn (fun ms a w a0 hr _ => ⟨a.eval x, fun w' _ => rfl, by have := forceK_eq hx; simp only [Option.some.injEq] at this; exact hr.ev_at this⟩) h
theorem H_assign (k0 : Nat) {i : Nat} {t : Tmp} {x : Operand} {ty : TypeId} {pos : String} {after : Array Edge} {d : D} (hcd : cand ops listed k0 = some i) (hi : ops[i]? = some ⟨some t, .assign x, ty, pos, after, none⟩) (hs : noSel ops.toList = true) (hL : L.all (fun x => !Nat.beq x.1 t) = true) (hheld : heldOk ⟨n, sl, hp⟩ L) (htn : Nat.blt t n = true)
    (hx : forceK (evD (look sl) x) some = some d) (h : WH P w0 A ops L fuel (listed.setIfInBounds i true) ⟨n, (t, d) :: sl, hp⟩ K) : WH P w0 A ops L (fuel + 1) listed ⟨n, sl, hp⟩ K :=
  H_take' hi hs (cand_spec hcd).1 (cand_spec hcd).2 hL hheld htn (fun ms a w a0 hr _ => ⟨a.eval x, fun w' _ => rfl, by have := forceK_eq hx; simp only [Option.some.injEq] at this; exact hr.ev_at this⟩) h

/-! ### What no world turns -/
def detD1 : D → Bool
  | .lit _ => true
  | .nil => true
  | .own _ => true
  | .vec _ _ => true
  | .ptr _ _ => true
  | .eptr _ _ _ _ => true
  | _ => false
def detD : D → Bool
  | .agg ds => ds.all detD1
  | .tup ds => ds.all detD1
  | .fn _ ds => ds.all detD1
  | d => detD1 d
theorem det1_any {Ok Ok' : Nat → Prop} {w w' : World} {d : D} {u : Value} (hd : detD1 d = true) (h : VX ms w Ok d u) : VX ms w' Ok' d u := by
  cases d with
  | lit v => obtain ⟨rfl, h1⟩ := h.lit_inv; exact VX.of_lit h1
  | nil => rw [h.nil_inv]; exact .rd .nil (by simp)
  | own i => obtain ⟨e, h1, rfl, h2⟩ := h.own_inv; exact .own h1 h2
  | vec i l => obtain ⟨e, b, h1, h2, rfl⟩ := h.vec_inv; exact .vec h1 h2
  | ptr i o => obtain ⟨e, b, h1, h2, rfl⟩ := h.ptr_inv; exact .ptr h1 h2
  | eptr i n k o => obtain ⟨e, b, h1, h2, rfl⟩ := h.eptr_inv; exact .eptr h1 h2
  | _ => simp [detD1] at hd
theorem det1L_any {Ok Ok' : Nat → Prop} {w w' : World} : ∀ {ds : List D} {us : List Value}, ds.all detD1 = true → VXs ms w Ok ds us → VXs ms w' Ok' ds us
  | _, _, _, .nil => .nil
  | d :: ds, _, hd, .cons h h' => by
    rw [List.all_cons, Bool.and_eq_true] at hd
    exact .cons (det1_any hd.1 h) (det1L_any hd.2 h')
theorem det_any {Ok Ok' : Nat → Prop} {w w' : World} {d : D} {u : Value} (hd : detD d = true) (h : VX ms w Ok d u) : VX ms w' Ok' d u := by
  cases d with
  | agg ds => obtain ⟨us, rfl, h1⟩ := h.agg_inv; exact .agg (det1L_any hd h1)
  | tup ds => obtain ⟨us, rfl, h1⟩ := h.tup_inv; exact .tup (det1L_any hd h1)
  | fn f ds => obtain ⟨us, rfl, h1⟩ := h.fn_inv; exact .fn (det1L_any hd h1)
  | _ => exact det1_any hd h
theorem det1_eq {Ok Ok' : Nat → Prop} {w w' : World} {d : D} {u u' : Value} (hd : detD1 d = true) (h : VX ms w Ok d u) (h' : VX ms w' Ok' d u') : u = u' := by
  cases d with
  | lit v => rw [h.lit_inv.1, h'.lit_inv.1]
  | nil => rw [h.nil_inv, h'.nil_inv]
  | own i => obtain ⟨e, h1, rfl, _⟩ := h.own_inv; obtain ⟨e', h2, rfl, _⟩ := h'.own_inv; rw [h1] at h2; cases h2; rfl
  | vec i l => obtain ⟨e, b, h1, h2, rfl⟩ := h.vec_inv; obtain ⟨e', b', h3, h4, rfl⟩ := h'.vec_inv; rw [h1] at h3; cases h3; rw [h2] at h4; cases h4; rfl
  | ptr i o => obtain ⟨e, b, h1, h2, rfl⟩ := h.ptr_inv; obtain ⟨e', b', h3, h4, rfl⟩ := h'.ptr_inv; rw [h1] at h3; cases h3; rw [h2] at h4; cases h4; rfl
  | eptr i n k o => obtain ⟨e, b, h1, h2, rfl⟩ := h.eptr_inv; obtain ⟨e', b', h3, h4, rfl⟩ := h'.eptr_inv; rw [h1] at h3; cases h3; rw [h2] at h4; cases h4; rfl
  | _ => simp [detD1] at hd
theorem det1L_eq {Ok Ok' : Nat → Prop} {w w' : World} : ∀ {ds : List D} {us us' : List Value}, ds.all detD1 = true → VXs ms w Ok ds us → VXs ms w' Ok' ds us' → us = us'
  | _, _, _, _, .nil, .nil => rfl
  | d :: ds, _, _, hd, .cons h h1, .cons h' h1' => by
    rw [List.all_cons, Bool.and_eq_true] at hd
    rw [det1_eq hd.1 h h', det1L_eq hd.2 h1 h1']
theorem det_eq {Ok Ok' : Nat → Prop} {w w' : World} {d : D} {u u' : Value} (hd : detD d = true) (h : VX ms w Ok d u) (h' : VX ms w' Ok' d u') : u = u' := by
  cases d with
  | agg ds => obtain ⟨us, rfl, h1⟩ := h.agg_inv; obtain ⟨us', rfl, h2⟩ := h'.agg_inv; rw [det1L_eq hd h1 h2]
  | tup ds => obtain ⟨us, rfl, h1⟩ := h.tup_inv; obtain ⟨us', rfl, h2⟩ := h'.tup_inv; rw [det1L_eq hd h1 h2]
  | fn f ds => obtain ⟨us, rfl, h1⟩ := h.fn_inv; obtain ⟨us', rfl, h2⟩ := h'.fn_inv; rw [det1L_eq hd h1 h2]
  | _ => exact det1_eq (by exact hd) h h'

/-- An operation that asks no memory, of what no world turns. -/
theorem H_pop {tab : Nat → Option TI} (hT : TabOk P tab) (k0 : Nat) {i : Nat} {t : Tmp} {op : Op} {ty : TypeId} {pos : String} {after : Array Edge} {c : Prop} {d : D} (hcd : cand ops listed k0 = some i) (hi : ops[i]? = some ⟨some t, op, ty, pos, after, none⟩) (hs : noSel ops.toList = true) (hL : L.all (fun x => !Nat.beq x.1 t) = true) (hheld : heldOk ⟨n, sl, hp⟩ L) (htn : Nat.blt t n = true)
    (hdet : (op.operands.toList.all fun x => detD (evD (look sl) x)) = true) (hpop : pop tab [] (evD (look sl)) op = some (c, d)) (hdd : detD d = true) (hc : c) (h : WH P w0 A ops L fuel (listed.setIfInBounds i true) ⟨n, (t, d) :: sl, hp⟩ K) : WH P w0 A ops L (fuel + 1) listed ⟨n, sl, hp⟩ K := by
  refine H_take' hi hs (cand_spec hcd).1 (cand_spec hcd).2 hL hheld htn (fun ms a w a0 hr _ => ?_) h
  have hev : ∀ (w' : World) x, x ∈ op.operands → VX ms w' (fun _ => True) (evD (look sl) x) (a.eval x) := fun w' x hx => det_any ((List.all_eq_true.1 hdet) x (by simpa using hx)) (hr.ev (s := ⟨n, sl, hp⟩) x)
  have key := fun w' => pop_ok (P := P) (w := w') (heap := []) (base := 0) (ms := ms) (Ok := fun _ => True) hT (fun i b e h => by simp at h) ⟨some t, op, ty, pos, after, none⟩ (hev w') hpop hc
  obtain ⟨v, h1, h2⟩ := key w
  refine ⟨v, fun w' _ => ?_, det_any hdd h2⟩
  obtain ⟨v', h3, h4⟩ := key w'
  rw [det_eq hdd h2 h4]; exact h3

/-- A load of a scalar that is held. -/
def heldAt (s : St) (i o : Nat) : List (Tmp × Nat × Value) → Option Value
  | [] => none
  | x :: l => match s.get x.1 with
    | .ptr j o0 => match Nat.beq j i, Nat.beq (o0 + x.2.1) o with
      | true, true => some x.2.2
      | _, _ => heldAt s i o l
    | _ => heldAt s i o l
theorem heldAt_mem {i o : Nat} {v : Value} : ∀ {L : List (Tmp × Nat × Value)}, heldAt s i o L = some v → ∃ x ∈ L, x.2.2 = v ∧ ∃ o0, s.get x.1 = .ptr i o0 ∧ o0 + x.2.1 = o
  | [], h => by simp [heldAt] at h
  | y :: l, h => by
    unfold heldAt at h
    have hrc : heldAt s i o l = some v → ∃ x ∈ y :: l, x.2.2 = v ∧ ∃ o0, s.get x.1 = .ptr i o0 ∧ o0 + x.2.1 = o := fun h => by
      obtain ⟨x, h1, h2⟩ := heldAt_mem h
      exact ⟨x, List.mem_cons_of_mem _ h1, h2⟩
    split at h
    · rename_i j o0 hs
      split at h
      · rename_i e1 e2
        simp only [Option.some.injEq] at h
        have e1 := Nat.eq_of_beq_eq_true e1; have e2 := Nat.eq_of_beq_eq_true e2
        subst e1
        exact ⟨y, by simp, h, o0, hs, e2⟩
      · exact hrc h
    · exact hrc h
theorem H_load {tab : Nat → Option TI} (hT : TabOk P tab) (k0 : Nat) {i : Nat} {t : Tmp} {x : Operand} {tl ty : TypeId} {pos : String} {after : Array Edge} {j o : Nat} {v : Value} {k : TK} {size bytes : Nat} {zero : List Value} (hcd : cand ops listed k0 = some i) (hi : ops[i]? = some ⟨some t, .load tl x, ty, pos, after, none⟩) (hs : noSel ops.toList = true) (hL : L.all (fun x => !Nat.beq x.1 t) = true) (hheld : heldOk ⟨n, sl, hp⟩ L) (htn : Nat.blt t n = true)
    (hx : evD (look sl) x = .ptr j o) (ht : tab tl = some ⟨k, false, size, bytes, zero⟩) (hv : heldAt ⟨n, sl, hp⟩ j o L = some v) (h : WH P w0 A ops L fuel (listed.setIfInBounds i true) ⟨n, (t, .lit v) :: sl, hp⟩ K) : WH P w0 A ops L (fuel + 1) listed ⟨n, sl, hp⟩ K := by
  refine H_take' hi hs (cand_spec hcd).1 (cand_spec hcd).2 hL hheld htn (fun ms a w a0 hr ha => ?_) h
  obtain ⟨y, hy, rfl, o0, hy1, rfl⟩ := heldAt_mem hv
  obtain ⟨inf, td, z, h1, h2, h3, h4, h5, h6, _⟩ := hT.get ht
  obtain ⟨e, b, hi', ht', e1⟩ := (hr.ev_at hx).ptr_inv
  have h7 := hr.slots y.1
  rw [hy1] at h7
  obtain ⟨e', b', hi'', ht'', e2⟩ := h7.ptr_inv
  rw [hi'] at hi''; cases hi''
  rw [ht'] at ht''; cases ht''
  have hlit : litOk y.2.2 := by
    have : ∀ {l : List (Tmp × Nat × Value)}, heldOk ⟨n, sl, hp⟩ l → y ∈ l → cellAt ⟨n, sl, hp⟩ y.1 y.2.1 = some (.lit y.2.2) := by
      intro l
      induction l with
      | nil => intro _ h; simp at h
      | cons q l ih => intro h hm; rcases List.mem_cons.1 hm with rfl | hm; exact h.1; exact ih h.2 hm
    have h8 := this hheld hy
    unfold cellAt at h8
    rw [hy1] at h8
    simp only at h8
    split at h8
    · rename_i t' ds hh
      obtain ⟨b2, us, rfl, h9, h10⟩ := hr.ents j _ e hh hi'
      obtain ⟨u, _, h11⟩ := h10.get h8
      exact h11.lit_inv.2
    · simp at h8
  refine ⟨y.2.2, fun w' hw' => ?_, VX.of_lit hlit⟩
  have hc := hw'.cells y hy b o0 (by rw [← ha y hy]; exact e2)
  have hag : aggDesc td = false := h5.symm
  have hld : (loadVar tl ⟨b, o0 + y.2.1, none⟩).run P w' = .ok y.2.2 w' := by
    unfold loadVar
    simp only [Sem.run_bind, run_isAgg h2, Result.andThen, hag]
    simp only [Bool.false_eq_true, if_false, Go.load, Sem.run, hc]
  have hld2 : (Instr.loadAt tl (.pointer (some ⟨b, o0 + y.2.1, none⟩))).run P w' = .ok y.2.2 w' := by
    simp only [Instr.loadAt, Instr.sureAddr, Sem.run_bind, Sem.run, Result.andThen, pure]; exact hld
  simp only [execOp, e1, Sem.run_bind, hld2, Result.andThen]; rfl

/-! ### What comes up -/
theorem wp_put {o : Oper} {a : Act} {w : World} {K1 : Act → World → Prop} {Q1 : Exit → Act → World → Prop} (hd : ∀ (a' : Act) (w' : World) (e : Exit), e ≠ .normal → ¬ Q1 e a' w') (h : o.wp P a w K1 Q1) :
    o.wp P a w (fun a' w' => K1 a' w' ∧ ∀ t, o.dst ≠ some t → a'.tmps.getD t undef = a.tmps.getD t undef) (fun _ _ _ => False) := by
  have hput : ∀ (ds : List Deferred) (v : Value) (t : Tmp), o.dst ≠ some t → (Act.put { tmps := a.tmps, defers := ds } o.dst v).tmps.getD t undef = a.tmps.getD t undef := by
    intro ds v t ht
    cases ho : o.dst with
    | none => rfl
    | some d =>
      have : d ≠ t := fun e => ht (by rw [ho, e])
      simp only [Act.put, Array.getD_eq_getD_getElem?]
      rw [Array.getElem?_setIfInBounds_ne this]
  unfold Oper.wp at *
  generalize (execOp a.eval o).run P w = r at *
  cases r with
  | ok nx w' =>
    cases nx <;> simp only [Oper.upon] at h ⊢
    case value v => exact ⟨h, hput _ v⟩
    case skip => exact ⟨h, hput _ _⟩
    case defer d => exact ⟨h, hput _ _⟩
    case enter f args =>
      refine Calls.mono h fun e w'' he => ?_
      cases e with
      | returned u => exact ⟨he, hput _ u⟩
      | panicked c => exact absurd he (hd _ _ _ (by simp))
      | outgrown => obtain ⟨_, _, he⟩ := he; exact absurd he (hd _ _ _ (by simp))
    case row row args => exact Rows.mono h fun u w'' he => ⟨he, hput _ u⟩
  | halt x w' =>
    cases x <;> simp only [Oper.upon] at h ⊢
    case panic u => exact absurd h (hd _ _ _ (by simp))

/-- Operation i comes up. -/
structure HStep (P : Program) (w0 : World) (A : Nat → Prop) (ops : Array Oper) (L : List (Tmp × Nat × Value)) (fuel : Nat) (listed : Array Bool) (s : St) (K : St → Prop) (i : Nat) : Prop where
  ex : ∃ o, ops[i]? = some o ∧ (∀ x ∈ L, o.dst ≠ some x.1) ∧ WO P w0 A ops [o] s fun s' => heldOk s' L ∧ WH P w0 A ops L fuel (listed.setIfInBounds i true) s' K

theorem H_all {rs : List Nat} (hr : Region.ready .any ops listed = rs) (hne : rs ≠ []) (h : ∀ i ∈ rs, HStep P w0 A ops L fuel listed s K i) : WH P w0 A ops L (fuel + 1) listed s K := by
  refine ⟨fun ms a w a0 hr' ha => wpAnyH_all hr hne fun i hi => ?_⟩
  obtain ⟨o, ho, hL, hw⟩ := (h i hi).ex
  let Q0 : Exit → Act → World → Prop := fun e a' w' => e = .normal ∧ ∃ ms' s', Rel w0 A ms' s' a' w' ∧ heldOk s' L ∧ WH P w0 A ops L fuel (listed.setIfInBounds i true) s' K
  have h1 : wpList P ops Q0 [o] a w := hw.run ms a w hr' Q0 fun ms' s' a' w' h1 h2 => ⟨rfl, ms', s', h1, h2⟩
  have fin : ∀ a' w', Q0 .normal a' w' → (∀ t, o.dst ≠ some t → a'.tmps.getD t undef = a.tmps.getD t undef) → HeldF w0 L a0 w' ∧ wpAnyH P .any ops (QK w0 A K) (HeldF w0 L a0) fuel (listed.setIfInBounds i true) a' w' := by
    rintro a' w' ⟨_, ms', s', g1, g2, g3⟩ g4
    have g5 : ∀ x ∈ L, a'.tmps.getD x.1 undef = a0.tmps.getD x.1 undef := fun x hx => (g4 _ (hL x hx)).trans (ha x hx)
    exact ⟨⟨g1.ext, fun x hx b o hb => HeldC.of g1 g2 x hx b o (by rw [g5 x hx]; exact hb)⟩, g3.run ms' a' w' a0 g1 g5⟩
  have hnil : ∀ a' w', wpList P ops Q0 [] a' w' → Q0 .normal a' w' := fun a' w' h => by unfold wpList at h; exact h
  have hout : ∀ (a' : Act) (w' : World) (e : Exit), e ≠ .normal → ¬ Q0 e a' w' := fun _ _ _ h1 h2 => h1 h2.1
  unfold wpList at h1
  unfold wpOp
  simp only [ho]
  split
  · rename_i hwt
    rw [if_pos hwt] at h1
    rcases h1 with h1 | ⟨_, ⟨_, _, h1⟩⟩
    · exact Or.inl (wp_weak' (Oper.wp_mono (fun a' w' h2 => fin a' w' (hnil a' w' h2.1) h2.2) (wp_put hout h1)))
    · exact absurd h1.1 (by simp)
  · rename_i hwt
    rw [if_neg hwt] at h1
    refine fin _ _ (hnil _ _ h1) fun t ht => ?_
    cases hd : o.dst with
    | none => rfl
    | some d =>
      have : d ≠ t := fun e => ht (by rw [hd, e])
      simp only [Act.put, Array.getD_eq_getD_getElem?]
      rw [Array.getElem?_setIfInBounds_ne this]

def notIn (L : List (Tmp × Nat × Value)) : Option Tmp → Bool
  | none => true
  | some d => L.all fun x => !Nat.beq x.1 d
theorem notIn_spec {L : List (Tmp × Nat × Value)} {t : Option Tmp} (h : notIn L t = true) : ∀ x ∈ L, t ≠ some x.1 := by
  rintro x hx rfl
  have := List.all_eq_true.1 h x hx
  simp at this
theorem H_one {i : Nat} {o : Oper} (hr : rdyH ops listed = [i]) (ho : ops[i]? = some o) (hL : notIn L o.dst = true) (h : WO P w0 A ops [o] s fun s' => heldOk s' L ∧ WH P w0 A ops L fuel (listed.setIfInBounds i true) s' K) : WH P w0 A ops L (fuel + 1) listed s K :=
  H_all ((rdyH_eq _ _).trans hr) (by simp) fun j hj => by rw [List.mem_singleton] at hj; subst hj; exact ⟨o, ho, notIn_spec hL, h⟩
theorem H_two {i i' : Nat} {o o' : Oper} (hr : rdyH ops listed = [i, i']) (ho : ops[i]? = some o) (ho' : ops[i']? = some o') (hL : notIn L o.dst = true) (hL' : notIn L o'.dst = true) (h : WO P w0 A ops [o] s fun s' => heldOk s' L ∧ WH P w0 A ops L fuel (listed.setIfInBounds i true) s' K)
    (h' : WO P w0 A ops [o'] s fun s' => heldOk s' L ∧ WH P w0 A ops L fuel (listed.setIfInBounds i' true) s' K) : WH P w0 A ops L (fuel + 1) listed s K :=
  H_all ((rdyH_eq _ _).trans hr) (by simp) fun j hj => by
    simp only [List.mem_cons, List.not_mem_nil, or_false] at hj
    rcases hj with rfl | rfl
    · exact ⟨o, ho, notIn_spec hL, h⟩
    · exact ⟨o', ho', notIn_spec hL', h'⟩
theorem H_three {i i' i'' : Nat} {o o' o'' : Oper} (hr : rdyH ops listed = [i, i', i'']) (ho : ops[i]? = some o) (ho' : ops[i']? = some o') (ho'' : ops[i'']? = some o'') (hL : notIn L o.dst = true) (hL' : notIn L o'.dst = true) (hL'' : notIn L o''.dst = true) (h : WO P w0 A ops [o] s fun s' => heldOk s' L ∧ WH P w0 A ops L fuel (listed.setIfInBounds i true) s' K)
    (h' : WO P w0 A ops [o'] s fun s' => heldOk s' L ∧ WH P w0 A ops L fuel (listed.setIfInBounds i' true) s' K) (h'' : WO P w0 A ops [o''] s fun s' => heldOk s' L ∧ WH P w0 A ops L fuel (listed.setIfInBounds i'' true) s' K) : WH P w0 A ops L (fuel + 1) listed s K :=
  H_all ((rdyH_eq _ _).trans hr) (by simp) fun j hj => by
    simp only [List.mem_cons, List.not_mem_nil, or_false] at hj
    rcases hj with rfl | rfl | rfl
    · exact ⟨o, ho, notIn_spec hL, h⟩
    · exact ⟨o', ho', notIn_spec hL', h'⟩
    · exact ⟨o'', ho'', notIn_spec hL'', h''⟩
theorem idH {s : St} (h : WH P w0 A ops L fuel listed s K) : WH P w0 A ops L fuel listed s K := h

/-! ### Older values, read where they stand -/
variable {rest : List Oper} {dst : Tmp} {ty : TypeId} {pos : String} {after : Array Edge}
theorem R_indexOld {tab : Nat → Option TI} (hT : TabOk P tab) {t' : TypeId} {x i : Operand} {m : Nat} {xs : List (List D)} {j : Int} {r : List D} {e : TypeId} {agg : Bool} {size bytes : Nat} {zero : List Value} {k' : TK} {agg' : Bool} {bytes' : Nat} {zero' : List Value}
    (hx : evD (look sl) x = .old w0 A (.sh m xs)) (hi : evD (look sl) i = .lit (.int .i64 j)) (ht : tab t' = some ⟨.sl e, agg, size, bytes, zero⟩) (he : tab e = some ⟨k', agg', m, bytes', zero'⟩) (hd : Nat.blt dst n = true) (hrow : RowAt xs j r)
    (hk : WO P w0 A ops rest ⟨n, (dst, .sptr r) :: sl, hp⟩ K) : WO P w0 A ops (⟨some dst, .indexAddr t' x i, ty, pos, after, none⟩ :: rest) ⟨n, sl, hp⟩ K := by
  refine ⟨fun ms a w hr Q hq => ?_⟩
  refine wpList_plain rfl fun Kn hKn => ?_
  have h1 := unold1_ok hr (hr.ev_at hx) ⟨rfl, rfl⟩
  obtain ⟨v, h2, h3⟩ := index_ok (o := ⟨some dst, .indexAddr t' x i, ty, pos, after, none⟩) hT ht he rfl h1 (hr.ev_at hi) hrow
  exact upon_value h2 (hKn _ _ (hk.run ms _ w (Rel.put (t := some dst) hr h3 (dstOk_all (s := ⟨n, _, _⟩) (t := some dst) hd)) Q hq))
end

/-- As many steps in a region that draws its order as follow by themselves. -/
theorem goH {G G' : Prop} (k : G') (h : Wall G' → G := by
  intro zz
  (first | refine And.intro (by first | exact trivial | exact And.intro rfl trivial | exact And.intro rfl (And.intro rfl trivial) | exact And.intro rfl (And.intro rfl (And.intro rfl trivial))) (idH ?_) | (refine idH ?_; first | refine H_move 0 (by exact rfl) (by exact rfl) (by exact rfl) (by exact rfl) (by first | exact trivial | exact And.intro rfl trivial | exact And.intro rfl (And.intro rfl trivial) | exact And.intro rfl (And.intro rfl (And.intro rfl trivial))) (by exact rfl) (by exact rfl) ?_ | refine H_assign 0 (by exact rfl) (by exact rfl) (by exact rfl) (by exact rfl) (by first | exact trivial | exact And.intro rfl trivial | exact And.intro rfl (And.intro rfl trivial) | exact And.intro rfl (And.intro rfl (And.intro rfl trivial))) (by exact rfl) (by exact rfl) ?_ | refine H_pop tabOk 0 (by exact rfl) (by exact rfl) (by exact rfl) (by exact rfl) (by first | exact trivial | exact And.intro rfl trivial | exact And.intro rfl (And.intro rfl trivial) | exact And.intro rfl (And.intro rfl (And.intro rfl trivial))) (by exact rfl) (by exact rfl) (by exact rfl) (by exact rfl) (by first | exact trivial | omega) ?_ | refine H_load tabOk 0 (by exact rfl) (by exact rfl) (by exact rfl) (by exact rfl) (by first | exact trivial | exact And.intro rfl trivial | exact And.intro rfl (And.intro rfl trivial) | exact And.intro rfl (And.intro rfl (And.intro rfl trivial))) (by exact rfl) (by exact rfl) (by exact rfl) (by exact rfl) ?_ | refine H_move 1 (by exact rfl) (by exact rfl) (by exact rfl) (by exact rfl) (by first | exact trivial | exact And.intro rfl trivial | exact And.intro rfl (And.intro rfl trivial) | exact And.intro rfl (And.intro rfl (And.intro rfl trivial))) (by exact rfl) (by exact rfl) ?_ | refine H_assign 1 (by exact rfl) (by exact rfl) (by exact rfl) (by exact rfl) (by first | exact trivial | exact And.intro rfl trivial | exact And.intro rfl (And.intro rfl trivial) | exact And.intro rfl (And.intro rfl (And.intro rfl trivial))) (by exact rfl) (by exact rfl) ?_ | refine H_pop tabOk 1 (by exact rfl) (by exact rfl) (by exact rfl) (by exact rfl) (by first | exact trivial | exact And.intro rfl trivial | exact And.intro rfl (And.intro rfl trivial) | exact And.intro rfl (And.intro rfl (And.intro rfl trivial))) (by exact rfl) (by exact rfl) (by exact rfl) (by exact rfl) (by first | exact trivial | omega) ?_ | refine H_load tabOk 1 (by exact rfl) (by exact rfl) (by exact rfl) (by exact rfl) (by first | exact trivial | exact And.intro rfl trivial | exact And.intro rfl (And.intro rfl trivial) | exact And.intro rfl (And.intro rfl (And.intro rfl trivial))) (by exact rfl) (by exact rfl) (by exact rfl) (by exact rfl) ?_ | refine H_move 2 (by exact rfl) (by exact rfl) (by exact rfl) (by exact rfl) (by first | exact trivial | exact And.intro rfl trivial | exact And.intro rfl (And.intro rfl trivial) | exact And.intro rfl (And.intro rfl (And.intro rfl trivial))) (by exact rfl) (by exact rfl) ?_ | refine H_assign 2 (by exact rfl) (by exact rfl) (by exact rfl) (by exact rfl) (by first | exact trivial | exact And.intro rfl trivial | exact And.intro rfl (And.intro rfl trivial) | exact And.intro rfl (And.intro rfl (And.intro rfl trivial))) (by exact rfl) (by exact rfl) ?_ | refine H_pop tabOk 2 (by exact rfl) (by exact rfl) (by exact rfl) (by exact rfl) (by first | exact trivial | exact And.intro rfl trivial | exact And.intro rfl (And.intro rfl trivial) | exact And.intro rfl (And.intro rfl (And.intro rfl trivial))) (by exact rfl) (by exact rfl) (by exact rfl) (by exact rfl) (by first | exact trivial | omega) ?_ | refine H_load tabOk 2 (by exact rfl) (by exact rfl) (by exact rfl) (by exact rfl) (by first | exact trivial | exact And.intro rfl trivial | exact And.intro rfl (And.intro rfl trivial) | exact And.intro rfl (And.intro rfl (And.intro rfl trivial))) (by exact rfl) (by exact rfl) (by exact rfl) (by exact rfl) ?_ | refine H_one (by exact rfl) (by exact rfl) (by exact rfl) ?_ | refine H_done (by exact rfl) ?_))
  (repeat (first | refine And.intro (by first | exact trivial | exact And.intro rfl trivial | exact And.intro rfl (And.intro rfl trivial) | exact And.intro rfl (And.intro rfl (And.intro rfl trivial))) (idH ?_) | (refine idH ?_; first | refine H_move 0 (by exact rfl) (by exact rfl) (by exact rfl) (by exact rfl) (by first | exact trivial | exact And.intro rfl trivial | exact And.intro rfl (And.intro rfl trivial) | exact And.intro rfl (And.intro rfl (And.intro rfl trivial))) (by exact rfl) (by exact rfl) ?_ | refine H_assign 0 (by exact rfl) (by exact rfl) (by exact rfl) (by exact rfl) (by first | exact trivial | exact And.intro rfl trivial | exact And.intro rfl (And.intro rfl trivial) | exact And.intro rfl (And.intro rfl (And.intro rfl trivial))) (by exact rfl) (by exact rfl) ?_ | refine H_pop tabOk 0 (by exact rfl) (by exact rfl) (by exact rfl) (by exact rfl) (by first | exact trivial | exact And.intro rfl trivial | exact And.intro rfl (And.intro rfl trivial) | exact And.intro rfl (And.intro rfl (And.intro rfl trivial))) (by exact rfl) (by exact rfl) (by exact rfl) (by exact rfl) (by first | exact trivial | omega) ?_ | refine H_load tabOk 0 (by exact rfl) (by exact rfl) (by exact rfl) (by exact rfl) (by first | exact trivial | exact And.intro rfl trivial | exact And.intro rfl (And.intro rfl trivial) | exact And.intro rfl (And.intro rfl (And.intro rfl trivial))) (by exact rfl) (by exact rfl) (by exact rfl) (by exact rfl) ?_ | refine H_move 1 (by exact rfl) (by exact rfl) (by exact rfl) (by exact rfl) (by first | exact trivial | exact And.intro rfl trivial | exact And.intro rfl (And.intro rfl trivial) | exact And.intro rfl (And.intro rfl (And.intro rfl trivial))) (by exact rfl) (by exact rfl) ?_ | refine H_assign 1 (by exact rfl) (by exact rfl) (by exact rfl) (by exact rfl) (by first | exact trivial | exact And.intro rfl trivial | exact And.intro rfl (And.intro rfl trivial) | exact And.intro rfl (And.intro rfl (And.intro rfl trivial))) (by exact rfl) (by exact rfl) ?_ | refine H_pop tabOk 1 (by exact rfl) (by exact rfl) (by exact rfl) (by exact rfl) (by first | exact trivial | exact And.intro rfl trivial | exact And.intro rfl (And.intro rfl trivial) | exact And.intro rfl (And.intro rfl (And.intro rfl trivial))) (by exact rfl) (by exact rfl) (by exact rfl) (by exact rfl) (by first | exact trivial | omega) ?_ | refine H_load tabOk 1 (by exact rfl) (by exact rfl) (by exact rfl) (by exact rfl) (by first | exact trivial | exact And.intro rfl trivial | exact And.intro rfl (And.intro rfl trivial) | exact And.intro rfl (And.intro rfl (And.intro rfl trivial))) (by exact rfl) (by exact rfl) (by exact rfl) (by exact rfl) ?_ | refine H_move 2 (by exact rfl) (by exact rfl) (by exact rfl) (by exact rfl) (by first | exact trivial | exact And.intro rfl trivial | exact And.intro rfl (And.intro rfl trivial) | exact And.intro rfl (And.intro rfl (And.intro rfl trivial))) (by exact rfl) (by exact rfl) ?_ | refine H_assign 2 (by exact rfl) (by exact rfl) (by exact rfl) (by exact rfl) (by first | exact trivial | exact And.intro rfl trivial | exact And.intro rfl (And.intro rfl trivial) | exact And.intro rfl (And.intro rfl (And.intro rfl trivial))) (by exact rfl) (by exact rfl) ?_ | refine H_pop tabOk 2 (by exact rfl) (by exact rfl) (by exact rfl) (by exact rfl) (by first | exact trivial | exact And.intro rfl trivial | exact And.intro rfl (And.intro rfl trivial) | exact And.intro rfl (And.intro rfl (And.intro rfl trivial))) (by exact rfl) (by exact rfl) (by exact rfl) (by exact rfl) (by first | exact trivial | omega) ?_ | refine H_load tabOk 2 (by exact rfl) (by exact rfl) (by exact rfl) (by exact rfl) (by first | exact trivial | exact And.intro rfl trivial | exact And.intro rfl (And.intro rfl trivial) | exact And.intro rfl (And.intro rfl (And.intro rfl trivial))) (by exact rfl) (by exact rfl) (by exact rfl) (by exact rfl) ?_ | refine H_one (by exact rfl) (by exact rfl) (by exact rfl) ?_ | refine H_done (by exact rfl) ?_)))
  exact zz.out) : G := h ⟨k⟩

end Go.Proofs.YtcpjhpjlcgcigaaGreatDoor
namespace Go.Proofs.YtcpjhpjlcgcigaaGreatDoor
open Go.ChangeShapes Go.WideShapes Go.ChangeAt Go.RowKit

inductive midQ (w0 : World) (A : Nat → Prop) (S : St) (Q : Exit → St → Prop) : Exit → St → Prop
  | n {s : St} : Weak w0 A s S → midQ w0 A S Q .normal s
  | e {s : St} {id : Nat} : Q (.exit id) s → midQ w0 A S Q (.exit id) s
  | r {s : St} : Q .ret s → midQ w0 A S Q .ret s
section
variable {P : Program} {w0 w w' : World} {A : Nat → Prop} {s : St} {Q : Exit → St → Prop} {ms : List Ent} {a : Act}
/-- A state agreed on between two pieces. -/
theorem W_mid (S : St) {x y : Code} (h1 : W P w0 A x s (midQ w0 A S Q)) (h2 : W P w0 A y S Q) : W P w0 A (.seq x y) s Q := by
  refine ⟨fun ms a w hr => ?_⟩
  refine wp_seq (Code.wp_mono ?_ (h1.run ms a w hr))
  rintro e a' w' ⟨ms', s', hr', hq⟩
  cases hq with
  | n h => obtain ⟨ms'', hr''⟩ := h ms' a' w' hr'; exact h2.run ms'' a' w' hr''
  | e h => exact ⟨ms', s', hr', h⟩
  | r h => exact ⟨ms', s', hr', h⟩

theorem W_midS (S : St) {x y : Code} (h1 : W P w0 A x s (midQ w0 A S Q)) (h2 : W P w0 A y S Q) : W P w0 A x s (seqQ P w0 A y Q) := by
  refine ⟨fun ms a w hr => Code.wp_mono ?_ (h1.run ms a w hr)⟩
  rintro e a' w' ⟨ms', s', hr', hq⟩
  cases hq with
  | n h => obtain ⟨ms'', hr''⟩ := h ms' a' w' hr'; exact ⟨ms'', S, hr'', .n h2⟩
  | e h => exact ⟨ms', s', hr', .e h⟩
  | r h => exact ⟨ms', s', hr', .r h⟩

/-! ### Entries renumbered -/
def renD (js : List (Option Nat)) : D → D → Prop
  | .own i, d => match d with | .own k => js[k]? = some (some i) | _ => False
  | .ptr i o, d => match d with | .ptr k o' => js[k]? = some (some i) ∧ o = o' | _ => False
  | .pin b i o, d => match d with | .pin b' k o' => js[k]? = some (some i) ∧ b = b' ∧ o = o' | _ => False
  | d, d' => d = d' ∧ d.plain = true
def renS (s : St) (js : List (Option Nat)) : List (Nat × D) → Prop
  | [] => True
  | (t, d') :: l => renD js (s.get t) d' ∧ renS s js l
def renB : Blk → Bool
  | .cells _ ds => D.plainL ds
  | .arr _ _ _ dp => dp
  | .gone => true
  | .fr _ _ => true
  | .cust _ => true
def renH (hp : List Blk) : List (Option Nat) → List Blk → Prop
  | [], l => l = []
  | j :: js, l => match j, l with
    | some i, b :: l' => hp[i]? = some b ∧ renB b = true ∧ renH hp js l'
    | _, _ => False
theorem renH_get {hp : List Blk} : ∀ {js : List (Option Nat)} {l : List Blk}, renH hp js l → js.length = l.length ∧ ∀ {k : Nat} {b : Blk}, l[k]? = some b → ∃ i, js[k]? = some (some i) ∧ hp[i]? = some b ∧ renB b = true
  | [], l, h => by simp only [renH] at h; subst h; exact ⟨rfl, fun h => by simp at h⟩
  | none :: js, l, h => by simp [renH] at h
  | some i :: js, [], h => by simp [renH] at h
  | some i :: js, b :: l, h => by
    simp only [renH] at h
    obtain ⟨h1, h2, h3⟩ := h
    obtain ⟨g1, g2⟩ := renH_get h3
    refine ⟨by simp [g1], fun {k b'} hk => ?_⟩
    cases k with
    | zero => simp at hk; subst hk; exact ⟨i, by simp, h1, h2⟩
    | succ k => obtain ⟨i', p1, p2⟩ := g2 (by simpa using hk); exact ⟨i', by simpa using p1, p2⟩
theorem renS_look {js : List (Option Nat)} : ∀ {l : List (Nat × D)} (t : Nat), renS s js l → look l t = .no ∨ renD js (s.get t) (look l t)
  | [], _, _ => Or.inl rfl
  | (t', d) :: l, t, h => by
    simp only [look]
    split
    · rename_i e; subst e; exact Or.inr h.1
    · exact renS_look t h.2
theorem Weak_ren {s' : St} (js : List (Option Nat)) (hnd : nodupN (js.filterMap id) = true) (hn : s'.n = s.n) (hh : renH s.heap js s'.heap) (hs : renS s js s'.slots) : Weak w0 A s s' := by
  intro ms a w hr
  obtain ⟨hl, hget⟩ := renH_get hh
  have hnd := nodupN_iff hnd
  have hk : ∀ k, OkB w0.heap.size A ms w k → w.heap[k]? = w.heap[k]? ∧ OkB w0.heap.size A (js.map (pickE ms)) w k := fun k h => ⟨rfl, pick_ok h⟩
  refine ⟨js.map (pickE ms), hr.ext, hr.old, by rw [hn]; exact hr.size, hr.defers, by simp [hl], pick_nodup hr.nodup hnd, ?_, ?_, ?_⟩
  · intro k hk
    obtain ⟨i, e, _, h2, h3⟩ := mem_pick hk
    exact hr.range k (ent_owned h2 h3)
  · intro k b e hb he
    obtain ⟨i, h1, h2, h3⟩ := hget hb
    rw [List.getElem?_map, h1] at he
    have hlt : i < ms.length := by rw [hr.len]; exact (List.getElem?_eq_some_iff.1 h2).1
    have hi : ms[i]? = some ms[i] := List.getElem?_eq_getElem hlt
    simp only [Option.map_some, pickE, hi, Option.getD_some, Option.some.injEq] at he
    subst he
    refine (hr.ents i b _ h2 hi).mono hk (fun _ _ => rfl) (fun _ _ => rfl) fun j e hu _ => ?_
    cases b with
    | cells t ds =>
      have := D.plainL_uses j h3
      simp only [Blk.uses] at hu
      rw [this] at hu; exact Bool.noConfusion hu
    | _ => simp [Blk.uses] at hu
  · intro t
    rcases renS_look t hs with h | h
    · rw [St.get, h]; exact .no
    · have hv := hr.slots t
      simp only [St.get] at h hv ⊢
      generalize look s.slots t = d at *
      generalize look s'.slots t = d' at *
      cases d with
      | own i =>
        cases d' with
        | own k =>
          simp only [renD] at h
          obtain ⟨e, h1, e1, h2⟩ := hv.own_inv
          rw [e1]
          refine .own ?_ h2
          rw [List.getElem?_map, h]
          simp [pickE, h1]
        | _ => simp [renD] at h
      | ptr i o =>
        cases d' with
        | ptr k o' =>
          simp only [renD] at h
          obtain ⟨h0, rfl⟩ := h
          obtain ⟨e, b, h1, h2, e1⟩ := hv.ptr_inv
          rw [e1]
          refine .ptr (e := e) ?_ h2
          rw [List.getElem?_map, h0]
          simp [pickE, h1]
        | _ => simp [renD] at h
      | pin b i o =>
        cases d' with
        | pin b' k o' =>
          simp only [renD] at h
          obtain ⟨h0, rfl, rfl⟩ := h
          obtain ⟨e, h1, h2, e1⟩ := hv.pin_inv
          rw [e1]
          refine .pin (e := e) ?_ h2
          rw [List.getElem?_map, h0]
          simp [pickE, h1]
        | _ => simp [renD] at h
      | _ =>
        simp only [renD] at h
        obtain ⟨rfl, hp⟩ := h
        exact VX.mono hk hv fun i e hu _ => by rw [D.plain_uses i hp] at hu; exact Bool.noConfusion hu

/-! ### Memory that a statement tells of -/
variable {n : Nat} {sl : List (Nat × D)} {hp : List Blk}
def keepI (i j : Nat) : Bool := !Nat.beq j i
def ownI (i : Nat) (_ : Nat) : D := .own i
/-- The blocks of one entry turn; the entry tells anew. -/
theorem Rel.recust (hr : Rel w0 A ms ⟨n, sl, hp⟩ a w) {i : Nat} {e e' : Ent} {R : World → Value → Option Nat → List Nat → Prop} (hi : ms[i]? = some e) (hev : e'.v = e.v) (hsl : ∃ a n c, e.v = .slice a n c)
    (hkp : ∀ (j : Nat) (b : Blk), j ≠ i → hp[j]? = some b → renB b = true ∨ ∃ t ds, b = .cells t ds)
    (hos : w'.os = w.os) (htape : w'.tape = w.tape) (hout : w'.output = w.output) (hsz : w.heap.size ≤ w'.heap.size) (hblk : ∀ k, k < w.heap.size → k ∉ e.top.toList ++ e.nest → w'.heap[k]? = w.heap[k]?)
    (hsub : ∀ k ∈ e'.top.toList ++ e'.nest, k < w'.heap.size ∧ (k ∈ e.top.toList ++ e.nest ∨ w.heap.size ≤ k)) (hnd : (e'.top.toList ++ e'.nest).Nodup)
    (hR : R w' e'.v e'.top e'.nest) (hF : ∀ w2 : World, (∀ k ∈ e'.top.toList ++ e'.nest, w2.heap[k]? = w'.heap[k]?) → R w2 e'.v e'.top e'.nest) :
    Rel w0 A (ms.set i e') ⟨n, survS (keepI i) (ownI i) sl, (survH (keepI i) (ownI i) 0 hp).set i (.cust R)⟩ a w' := by
  have hlen := hr.len
  simp only at hlen
  have hb := hr.ext.size
  have hilt : i < ms.length := (List.getElem?_eq_some_iff.1 hi).1
  have hm : ∀ (j : Nat) (x : Ent), keepI i j = true → ms[j]? = some x → (ms.set i e')[j]? = some x := by
    intro j x hk hj
    have : i ≠ j := by rintro rfl; simp [keepI] at hk
    rw [List.getElem?_set_ne this]; exact hj
  have hrp : ∀ (j : Nat) (x : Ent), keepI i j = false → ms[j]? = some x → VX (ms.set i e') w' (OkB w0.heap.size A (ms.set i e') w') (ownI i j) x.v := by
    intro j x hk hj
    have : j = i := by simpa [keepI] using hk
    subst this
    rw [hi] at hj; cases hj
    rw [← hev]
    exact .own (by rw [List.getElem?_set_self hilt]) (by rw [hev]; exact hsl)
  have hget : ∀ (j : Nat) (x : Ent), (ms.set i e')[j]? = some x → (j = i ∧ x = e') ∨ (j ≠ i ∧ ms[j]? = some x) := by
    intro j x hj
    by_cases hji : j = i
    · subst hji; rw [List.getElem?_set_self hilt] at hj; cases hj; exact Or.inl ⟨rfl, rfl⟩
    · rw [List.getElem?_set_ne (Ne.symm hji)] at hj; exact Or.inr ⟨hji, hj⟩
  have hkeep : ∀ (j : Nat) (x : Ent) (k : Nat), j ≠ i → ms[j]? = some x → k ∈ x.top.toList ++ x.nest → w'.heap[k]? = w.heap[k]? :=
    fun j x k hji hj hk => hblk k (hr.range k (ent_owned hj hk)).2 fun h => owned_disjoint hr.nodup hji hj hi hk h
  refine ⟨⟨hos.trans hr.ext.os, htape.trans hr.ext.tape, hout.trans hr.ext.output, Nat.le_trans hb hsz, fun k hk => ?_⟩, hr.old, hr.size, hr.defers, by simp [survH_len, hlen], ?_, ?_, ?_, ?_⟩
  · have h1 := hr.ext.heap hk
    rw [hblk k (Nat.lt_of_lt_of_le hk hb) fun h => by have := (hr.range k (ent_owned hi h)).1; omega]; exact h1
  · refine owned_nodup_of ?_ ?_
    · intro j x hj
      rcases hget j x hj with ⟨rfl, rfl⟩ | ⟨_, h⟩
      · exact hnd
      · exact owned_self hr.nodup h
    · intro j j' x x' k hne hj hj' hk hk'
      rcases hget j x hj with ⟨rfl, rfl⟩ | ⟨h1, h2⟩ <;> rcases hget j' x' hj' with ⟨rfl, rfl⟩ | ⟨h3, h4⟩
      · exact hne rfl
      · rcases (hsub k hk).2 with h | h
        · exact owned_disjoint hr.nodup (Ne.symm h3) hi h4 h hk'
        · have := (hr.range k (ent_owned h4 hk')).2; omega
      · rcases (hsub k hk').2 with h | h
        · exact owned_disjoint hr.nodup h1 h2 hi hk h
        · have := (hr.range k (ent_owned h2 hk)).2; omega
      · exact owned_disjoint hr.nodup hne h2 h4 hk hk'
  · intro k hk
    obtain ⟨j, x, hj, hx⟩ := mem_owned hk
    rcases hget j x hj with ⟨rfl, rfl⟩ | ⟨h1, h2⟩
    · obtain ⟨h3, h4⟩ := hsub k hx
      refine ⟨?_, h3⟩
      rcases h4 with h4 | h4
      · exact (hr.range k (ent_owned hi h4)).1
      · omega
    · have := hr.range k (ent_owned h2 hx); exact ⟨this.1, by omega⟩
  · intro j b x hbj hj
    rcases hget j x hj with ⟨rfl, rfl⟩ | ⟨h1, h2⟩
    · simp only at hbj
      rw [List.getElem?_set_self (by rw [survH_len, ← hlen]; exact hilt)] at hbj
      cases hbj
      exact ⟨hR, hF⟩
    · simp only at hbj
      rw [List.getElem?_set_ne (Ne.symm h1), survH_get, Nat.zero_add] at hbj
      cases hb0 : hp[j]? with
      | none => rw [hb0] at hbj; simp at hbj
      | some b0 =>
        rw [hb0] at hbj
        have hkj : keepI i j = true := by
          unfold keepI
          cases h : Nat.beq j i
          · rfl
          · exact absurd (Nat.eq_of_beq_eq_true h) h1
        simp only [Option.map_some, hkj, Option.some.injEq] at hbj
        have hE := hr.ents j b0 x hb0 h2
        have hk1 := hkeep j x
        cases b0 with
        | gone => subst hbj; exact hE
        | cells t ds =>
          subst hbj
          obtain ⟨g, us, rfl, h3, h4⟩ := hE
          exact ⟨g, us, rfl, by rw [hk1 g h1 h2 (by simp)]; exact h3, VXs.surv hm hrp h4⟩
        | fr m xs =>
          subst hbj
          have hk' := fun k (hk' : k ∈ x.nest) => hk1 k h1 h2 (List.mem_append_right _ hk')
          exact ⟨hE.1, hE.2.1.keep hk', fun k hkn => (hE.2.2 k hkn).keep (hk' k hkn)⟩
        | cust R' =>
          subst hbj
          exact ⟨hE.2 w' fun k hk' => hk1 k h1 h2 hk', fun w2 g2 => hE.2 w2 fun k hk' => (g2 k hk').trans (hk1 k h1 h2 hk')⟩
        | arr t m xs dp =>
          have hdp : dp = true := by
            rcases hkp j _ h1 hb0 with h | ⟨_, _, h⟩
            · exact h
            · cases h
          subst hdp
          subst hbj
          obtain ⟨us, bs', g1, g2, g3, g4, g5⟩ := hE
          exact ⟨us, bs', ownsRow_keep g1 (fun k hk' => hk1 k h1 h2 (by rw [g4]; simp [hk'])), g2, g3.keep fun k hk' => hk1 k h1 h2 (List.mem_append_right _ (by rw [g5.1]; exact hk')), g4, g5.1, fun k hk' => (g5.2 k hk').keep (hk1 k h1 h2 (List.mem_append_right _ (by rw [g5.1]; exact hk')))⟩
  · intro t
    simp only [St.get]
    rw [look_survS]
    exact VX.surv hm hrp (hr.slots t)

/-! ### Arrays of arrays, grown in place -/
/-- An array of the call's own whose elements are scalars. -/
def Inner (w : World) (t : TypeId) (m : Nat) (u : Value) (xs : List (List D)) : Prop := ∃ us, w.ownsRow 0 t m u xs.length us ∧ (∀ r ∈ xs, r.length = m ∧ ∀ d ∈ r, isLit d = true) ∧ VRs w xs.flatten us []
/-- The array's cells hold vs; the arrays vs' hold the rows. -/
def MatR (T t : TypeId) (m : Nat) (vs vs' : List Value) (rows : List (List (List D))) (w : World) (v : Value) (top : Option Nat) (nest : List Nat) : Prop :=
  w.ownsRow 0 T 1 v vs.length vs ∧ top = v.ownBlock ∧ vs'.length = vs.length ∧ rows.length = vs.length ∧ nest = vs'.flatMap (fun u => u.ownBlock.toList) ∧ ∀ j, j < vs.length → Inner w t m (nth vs' j) (nth rows j)
theorem VRs.lits_keep : ∀ {ds : List D} {us : List Value} {bs : List Nat}, (∀ d ∈ ds, isLit d = true) → VRs w ds us bs → VRs w' ds us []
  | _, _, _, _, .nil => .nil
  | d :: ds, _, _, h, .cons h1 h2 => by
    have hd := h d (by simp)
    cases d <;> simp [isLit] at hd
    cases h1 with
    | lit h1 => exact VRs.cons (bs := []) (.lit h1) (VRs.lits_keep (fun d hd => h d (List.mem_cons_of_mem _ hd)) h2)
theorem Inner.keep {t : TypeId} {m : Nat} {u : Value} {xs : List (List D)} (h : Inner w t m u xs) (hk : ∀ k, u.ownBlock = some k → w'.heap[k]? = w.heap[k]?) : Inner w' t m u xs := by
  obtain ⟨us, h1, h2, h3⟩ := h
  exact ⟨us, ownsRow_keep h1 hk, h2, VRs.lits_keep (fun d hd => by obtain ⟨r, hr, hd⟩ := List.mem_flatten.1 hd; exact (h2 r hr).2 d hd) h3⟩
theorem mem_nest {vs : List Value} {j k : Nat} (hj : j < vs.length) (h : (nth vs j).ownBlock = some k) : k ∈ vs.flatMap (fun u => u.ownBlock.toList) := by
  rw [List.mem_flatMap]; exact ⟨_, nth_mem hj, by simp [h]⟩
theorem MatR.keep {T t : TypeId} {m : Nat} {vs vs' : List Value} {rows : List (List (List D))} {v : Value} {top : Option Nat} {nest : List Nat} (h : MatR T t m vs vs' rows w v top nest) (hk : ∀ k ∈ top.toList ++ nest, w'.heap[k]? = w.heap[k]?) : MatR T t m vs vs' rows w' v top nest := by
  obtain ⟨h1, h2, h3, h4, h5, h6⟩ := h
  refine ⟨ownsRow_keep h1 fun k hk' => hk k (by rw [h2, hk']; simp), h2, h3, h4, h5, fun j hj => (h6 j hj).keep fun k hk' => hk k (List.mem_append_right _ ?_)⟩
  rw [h5]; exact mem_nest (by omega) hk'
end

section
variable {P : Program} {w0 w w' : World} {A : Nat → Prop} {ms : List Ent} {a : Act} {n : Nat} {sl : List (Nat × D)} {hp : List Blk} {ops : Array Oper} {rest : List Oper} {K : St → Prop} {x y : Operand} {dst : Tmp} {ty : TypeId} {pos : String} {after : Array Edge}
variable {tab : Nat → Option TI}

/-- The address of a row. -/
theorem R_matAddr (hT : TabOk P tab) (i : Nat) {T t tt : TypeId} {m : Nat} {j : Int} {vs vs' : List Value} {rows : List (List (List D))} {agg : Bool} {size bytes : Nat} {zero : List Value} {k' : TK} {agg' : Bool} {bytes' : Nat} {zero' : List Value}
    (hx : evD (look sl) x = .own i) (hy : evD (look sl) y = .lit (.int .i64 j)) (hb : hp[i]? = some (.cust (MatR T t m vs vs' rows))) (ht : tab tt = some ⟨.sl T, agg, size, bytes, zero⟩) (hT' : tab T = some ⟨k', agg', 1, bytes', zero'⟩) (hd : Nat.blt dst n = true) (hj : 0 ≤ j ∧ j < vs.length)
    (hk : WO P w0 A ops rest ⟨n, (dst, .eptr i 1 j 0) :: sl, hp⟩ K) : WO P w0 A ops (⟨some dst, .indexAddr tt x y, ty, pos, after, none⟩ :: rest) ⟨n, sl, hp⟩ K := by
  refine ⟨fun ms a w hr Q hq => ?_⟩
  refine wpList_plain rfl fun Kn hKn => ?_
  obtain ⟨e, he, e1, aa, len, cap, hv⟩ := (hr.ev_at hx).own_inv
  obtain ⟨e2, _⟩ := (hr.ev_at hy).lit_inv
  obtain ⟨inf, td, z, h1, h2, h3, h4, _⟩ := hT.get ht
  obtain ⟨inf', td', z', g1, g2, g3, g4, g5, g6, _⟩ := hT.get hT'
  have htd := TK.sl_inv h4
  obtain ⟨⟨o1, htop, _⟩, _⟩ := hr.ents i _ e hb he
  obtain ⟨_, ⟨_, h0⟩ | ⟨g, cap', cur, hv', _⟩⟩ := o1
  · omega
  · have hrun : (execOp a.eval ⟨some dst, .indexAddr tt x y, ty, pos, after, none⟩).run P w = .ok (.value (.pointer (some ⟨g, j.toNat * 1 + 0, none⟩))) w := by
      have : (Instr.indexAt tt (a.eval x) (a.eval y)).run P w = .ok (.pointer (some ⟨g, j.toNat * 1 + 0, none⟩)) w := by
        simp only [Instr.indexAt, e1, hv', e2, asIntOf, Sem.run_bind, Sem.run, pure, Result.andThen, run_underlying h2, htd]
        have : (0 ≤ j ∧ j < (vs.length : Int)) := hj
        simp only [this, and_self, if_true, Addr.add]
        by_cases e : j.toNat = 0 <;> simp [e, run_sizeOf g1, g6]
      simp only [execOp, Sem.run_bind, this, Result.andThen]; rfl
    exact upon_value hrun (hKn _ _ (hk.run ms _ w (Rel.put (t := some dst) hr (.eptr he (by rw [htop, hv']; rfl)) (dstOk_all (s := ⟨n, _, _⟩) (t := some dst) hd)) Q hq))

theorem mat_load (hT : TabOk P tab) (hr : Rel w0 A ms ⟨n, sl, hp⟩ a w) {i : Nat} {T t : TypeId} {m : Nat} {j : Int} {vs vs' : List Value} {rows : List (List (List D))} {size bytes : Nat} {zero : List Value} {k' : TK}
    (hx : evD (look sl) x = .eptr i 1 j 0) (hb : hp[i]? = some (.cust (MatR T t m vs vs' rows))) (ht : tab T = some ⟨k', false, size, bytes, zero⟩) (hj : 0 ≤ j ∧ j < vs.length) : ∃ e, ms[i]? = some e ∧ MatR T t m vs vs' rows w e.v e.top e.nest ∧ (execOp a.eval ⟨some dst, .load T x, ty, pos, after, none⟩).run P w = .ok (.value (nth vs j.toNat)) w := by
  obtain ⟨e, b, he, htop, e1⟩ := (hr.ev_at hx).eptr_inv
  obtain ⟨inf, td, z, h1, h2, h3, h4, h5, h6, _⟩ := hT.get ht
  have hE := hr.ents i _ e hb he
  refine ⟨e, he, hE.1, ?_⟩
  obtain ⟨⟨o1, ot, _⟩, _⟩ := hE
  obtain ⟨_, ⟨_, h0⟩ | ⟨g, cap', cur, hv', _, hh, c1, c2, c3, c4⟩⟩ := o1
  · omega
  · rw [ot, hv'] at htop
    simp only [Value.ownBlock, Option.some.injEq] at htop
    subst htop
    have hc : w.cell? ⟨g, j.toNat * 1 + 0, none⟩ = some (nth vs j.toNat) := by
      have hlt : j.toNat < vs.length := by omega
      have h7 : (cur.toList.take (vs.length * 1))[j.toNat]? = vs[j.toNat]? := by rw [c4]
      rw [List.getElem?_take, if_pos (by omega), Array.getElem?_toList] at h7
      simp only [World.cell?, hh, Nat.mul_one, Nat.add_zero]
      rw [nth_get hlt, ← List.getElem?_eq_getElem hlt, ← h7]
      simp
    have hld : (loadVar T ⟨g, j.toNat * 1 + 0, none⟩).run P w = .ok (nth vs j.toNat) w := by
      unfold loadVar
      simp only [Sem.run_bind, run_isAgg h2, Result.andThen, ← h5]
      simp only [Bool.false_eq_true, if_false, Go.load, Sem.run, hc]
    have hld2 : (Instr.loadAt T (.pointer (some ⟨g, j.toNat * 1 + 0, none⟩))).run P w = .ok (nth vs j.toNat) w := by
      simp only [Instr.loadAt, Instr.sureAddr, Sem.run_bind, Sem.run, Result.andThen, pure]; exact hld
    simp only [execOp, e1, Sem.run_bind, hld2, Result.andThen]; rfl
theorem R_matLoad (hT : TabOk P tab) (i : Nat) {T t : TypeId} {m : Nat} {j : Int} {vs vs' : List Value} {rows : List (List (List D))} {size bytes : Nat} {zero : List Value} {k' : TK}
    (hx : evD (look sl) x = .eptr i 1 j 0) (hb : hp[i]? = some (.cust (MatR T t m vs vs' rows))) (ht : tab T = some ⟨k', false, size, bytes, zero⟩) (hd : Nat.blt dst n = true) (hj : 0 ≤ j ∧ j < vs.length)
    (hk : WO P w0 A ops rest ⟨n, (dst, .val (nth vs j.toNat)) :: sl, hp⟩ K) : WO P w0 A ops (⟨some dst, .load T x, ty, pos, after, none⟩ :: rest) ⟨n, sl, hp⟩ K := by
  refine ⟨fun ms a w hr Q hq => ?_⟩
  refine wpList_plain rfl fun Kn hKn => ?_
  obtain ⟨e, _, _, hrun⟩ := mat_load (dst := dst) (ty := ty) (pos := pos) (after := after) hT hr hx hb ht hj
  exact upon_value hrun (hKn _ _ (hk.run ms _ w (Rel.put (t := some dst) hr .val (dstOk_all (s := ⟨n, _, _⟩) (t := some dst) hd)) Q hq))
/-- A row, read. -/
theorem R_matRead (hT : TabOk P tab) (i : Nat) {T t : TypeId} {m : Nat} {j : Int} {vs : List Value} {rows : List (List (List D))} {size bytes : Nat} {zero : List Value} {k' : TK}
    (hx : evD (look sl) x = .eptr i 1 j 0) (hb : hp[i]? = some (.cust (MatR T t m vs vs rows))) (ht : tab T = some ⟨k', false, size, bytes, zero⟩) (hd : Nat.blt dst n = true) (hj : 0 ≤ j ∧ j < vs.length)
    (hk : WO P w0 A ops rest ⟨n, (dst, .sh m (nth rows j.toNat)) :: sl, hp⟩ K) : WO P w0 A ops (⟨some dst, .load T x, ty, pos, after, none⟩ :: rest) ⟨n, sl, hp⟩ K := by
  refine ⟨fun ms a w hr Q hq => ?_⟩
  refine wpList_plain rfl fun Kn hKn => ?_
  obtain ⟨e, he, ⟨o1, o2, o3, o4, o5, o6⟩, hrun⟩ := mat_load (dst := dst) (ty := ty) (pos := pos) (after := after) hT hr hx hb ht hj
  have hlt : j.toNat < vs.length := by omega
  obtain ⟨us, q1, q2, q3⟩ := o6 j.toNat hlt
  have hv : ∃ bs, VR w (.sh m (nth rows j.toNat)) (nth vs j.toNat) bs ∧ ∀ k ∈ bs, OkB w0.heap.size A ms w k := by
    obtain ⟨hlen, ⟨hv, h0⟩ | ⟨g, cap, cur, hv, hg, hh, c1, c2, c3, c4⟩⟩ := q1
    · rw [List.length_eq_zero_iff.1 h0, hv]
      exact ⟨[], .shnil (by omega) (fun _ => rfl), by simp⟩
    · refine ⟨[g], ?_, ?_⟩
      · rw [hv]
        unfold maxLen at c2
        refine .sh (fun r hr => (q2 r hr).1) c1 (by omega) (Array.getElem?_eq_some_iff.1 hh).1 q3 ?_
        intro p hp'
        have : us[p]? = cur[p]? := by rw [← c4, List.getElem?_take, if_pos (by omega), Array.getElem?_toList]
        rw [this, Nat.zero_add]
        simp [World.cell?, hh]
      · intro k hk
        simp only [List.mem_singleton] at hk
        subst hk
        have hm : k ∈ e.nest := by rw [o5]; exact mem_nest hlt (by rw [hv]; rfl)
        have ho := hr.range k (ent_owned he (List.mem_append_right _ hm))
        refine ⟨ho.2, Or.inl ho.1, fun ht => ?_⟩
        obtain ⟨j', e', hj', ht⟩ := mem_tops ht
        by_cases hij : j' = i
        · subst hij
          rw [he] at hj'; cases hj'
          have := owned_self hr.nodup he
          rw [ht] at this
          simp at this
          exact this.1 hm
        · exact owned_disjoint hr.nodup hij hj' he (by simp [ht]) (List.mem_append_right _ hm)
  obtain ⟨bs, g1, g2⟩ := hv
  exact upon_value hrun (hKn _ _ (hk.run ms _ w (Rel.put (t := some dst) hr (.rd g1 g2) (dstOk_all (s := ⟨n, _, _⟩) (t := some dst) hd)) Q hq))
end
end Go.Proofs.YtcpjhpjlcgcigaaGreatDoor
namespace Go.Proofs.YtcpjhpjlcgcigaaGreatDoor
open Go.ChangeShapes Go.WideShapes Go.ChangeAt Go.RowKit

def mkE (u : Value) : Ent := ⟨u, u.ownBlock, []⟩
theorem nest_owned (vs : List Value) : vs.flatMap (fun u => u.ownBlock.toList) = owned (vs.map mkE) := by
  simp [owned, mkE, List.flatMap_map]
theorem nest_ne {vs : List Value} (h : (vs.flatMap (fun u => u.ownBlock.toList)).Nodup) {j l k : Nat} (hj : j < vs.length) (hl : l < vs.length) (hne : j ≠ l) (h1 : (nth vs j).ownBlock = some k) (h2 : (nth vs l).ownBlock = some k) : False := by
  rw [nest_owned] at h
  have e1 : (vs.map mkE)[j]? = some (mkE (nth vs j)) := by rw [List.getElem?_map, List.getElem?_eq_getElem hj, nth_get hj]; rfl
  have e2 : (vs.map mkE)[l]? = some (mkE (nth vs l)) := by rw [List.getElem?_map, List.getElem?_eq_getElem hl, nth_get hl]; rfl
  exact owned_disjoint h hne e1 e2 (k := k) (by simp [mkE, h1]) (by simp [mkE, h2])
theorem nth_set_self {α : Type} [Inhabited α] {l : List α} {j : Nat} {x : α} (h : j < l.length) : nth (l.set j x) j = x := by
  rw [nth_get (by simpa using h)]; simp
theorem nth_set_ne {α : Type} [Inhabited α] {l : List α} {j k : Nat} {x : α} (h : j ≠ k) : nth (l.set j x) k = nth l k := by
  unfold nth; rw [List.getD_eq_getElem?_getD, List.getD_eq_getElem?_getD, List.getElem?_set_ne h]
theorem nest_mem {vs : List Value} {k : Nat} (h : k ∈ vs.flatMap (fun u => u.ownBlock.toList)) : ∃ j, j < vs.length ∧ (nth vs j).ownBlock = some k := by
  obtain ⟨u, hu, hk⟩ := List.mem_flatMap.1 h
  obtain ⟨j, hj, rfl⟩ := List.getElem_of_mem hu
  exact ⟨j, hj, by rw [nth_get hj]; simpa using hk⟩
theorem nest_nodup {vs : List Value} (h : ∀ j l k : Nat, j < vs.length → l < vs.length → j ≠ l → (nth vs j).ownBlock = some k → (nth vs l).ownBlock = some k → False) : (vs.flatMap (fun u => u.ownBlock.toList)).Nodup := by
  rw [nest_owned]
  have hget : ∀ {i : Nat} {e : Ent}, (vs.map mkE)[i]? = some e → i < vs.length ∧ e = mkE (nth vs i) := by
    intro i e hi
    have hlt : i < vs.length := by have := (List.getElem?_eq_some_iff.1 hi).1; simpa using this
    rw [List.getElem?_map, List.getElem?_eq_getElem hlt] at hi
    simp only [Option.map_some, Option.some.injEq] at hi
    exact ⟨hlt, by rw [nth_get hlt]; exact hi.symm⟩
  refine owned_nodup_of (fun i e hi => ?_) fun i j e e' k hne hi hj hk hk' => ?_
  · obtain ⟨_, rfl⟩ := hget hi
    simp only [mkE, List.append_nil]
    cases (nth vs i).ownBlock <;> simp
  · obtain ⟨h1, rfl⟩ := hget hi
    obtain ⟨h2, rfl⟩ := hget hj
    simp only [mkE, List.append_nil, Option.mem_toList] at hk hk'
    exact h i j k h1 h2 hne (by simpa using hk) (by simpa using hk')

section
variable {P : Program} {w0 w w' : World} {A : Nat → Prop} {ms : List Ent} {a : Act} {n : Nat} {sl : List (Nat × D)} {hp : List Blk} {ops : Array Oper} {rest : List Oper} {K : St → Prop} {x y : Operand} {dst : Tmp} {ty : TypeId} {pos : String} {after : Array Edge}
variable {tab : Nat → Option TI}

def nilV : Value := .slice none 0 0
theorem R_matMake (hT : TabOk P tab) {k m : Nat} {T t tt : TypeId} {j : Int} {agg : Bool} {size bytes : Nat} {zero : List Value}
    {agg' : Bool} {bytes' : Nat} {kt : TK} {aggt : Bool} {bytest : Nat} {zerot : List Value} (hx : evD (look sl) x = .lit (.int .i64 j)) (hy : evD (look sl) y = .lit (.int .i64 j)) (hj : j = (k : Int)) (ht : tab tt = some ⟨.sl T, agg, size, bytes, zero⟩) (hT' : tab T = some ⟨.sl t, agg', 1, bytes', [.slice none 0 0]⟩)
    (ht2 : tab t = some ⟨kt, aggt, m, bytest, zerot⟩) (hby : Nat.ble bytes' 1024 = true) (hd : Nat.blt dst n = true) (hk : k ≤ 4294967296)
    (hK : WO P w0 A ops rest ⟨n, (dst, .own hp.length) :: sl, hp ++ [.cust (MatR T t m (List.replicate k nilV) (List.replicate k nilV) (List.replicate k []))]⟩ K) : WO P w0 A ops (⟨some dst, .makeSlice tt x y, ty, pos, after, none⟩ :: rest) ⟨n, sl, hp⟩ K := by
  refine ⟨fun ms a w hr Q hq => ?_⟩
  refine wpList_plain rfl fun Kn hKn => ?_
  obtain ⟨inf, td, z, h1, h2, h3, h4, _⟩ := hT.get ht
  obtain ⟨inf', td', z', g1, g2, g3, g4, g5, g6, g7, g8⟩ := hT.get hT'
  have htd := TK.sl_inv h4
  rw [htd] at h2
  have hby := Nat.le_of_ble_eq_true hby
  obtain ⟨e1, _⟩ := (hr.ev_at hx).lit_inv
  obtain ⟨e2, _⟩ := (hr.ev_at hy).lit_inv
  subst hj
  have hb2 : inf'.bytes * k ≤ 281474976710656 := by rw [g7]; exact Nat.le_trans (Nat.mul_le_mul hby hk) (by decide)
  obtain ⟨w', hrun, q1, q2⟩ := run_make_full (P := P) (w := w) w0.heap.size tt T inf' z' 1 h2 g1 g3 g6 .i64 .i64 k hb2 (by unfold maxLen; omega) hr.ext.size
  have hx' : Ext w w' := ⟨q2.os, q2.tape, q2.output, q2.size, fun i hi => q2.block i hi (by simp)⟩
  have hzs : z'.cells.size = 1 := by rw [← Array.length_toList, g8]; rfl
  have hus : (madeCells z'.cells (k * 1)).toList = List.replicate k nilV := by
    have := madeCells_eq z'.cells (by omega) k
    rw [hzs] at this
    rw [this, g8]
    have key : ∀ k, (List.replicate k [Value.slice none 0 0]).flatten = List.replicate k nilV := by
      intro k
      induction k with
      | zero => rfl
      | succ k ih => rw [List.replicate_succ, List.flatten_cons, ih, List.replicate_succ]; rfl
    exact key k
  rw [hus] at q1
  have hlt := (q1.lt w.heap.size rfl).2
  have hM : MatR T t m (List.replicate k nilV) (List.replicate k nilV) (List.replicate k []) w' (.slice (some ⟨w.heap.size, 0, none⟩) k k) (some w.heap.size) [] := by
    refine ⟨by rw [List.length_replicate]; exact ownsRow_base q1 (Nat.zero_le _), rfl, by simp, by simp, ?_, fun j hj => ?_⟩
    · have : ∀ k, ([] : List Nat) = (List.replicate k nilV).flatMap (fun u => u.ownBlock.toList) := by
        intro k
        induction k with
        | zero => rfl
        | succ k ih => rw [List.replicate_succ, List.flatMap_cons, ← ih]; rfl
      exact this k
    · rw [List.length_replicate] at hj
      rw [nth_get (by simpa using hj), nth_get (by simpa using hj), List.getElem_replicate, List.getElem_replicate]
      exact ⟨[], ⟨by simp, Or.inl ⟨rfl, rfl⟩⟩, by simp, .nil⟩
  have hg := hr.grow hx' [⟨.slice (some ⟨w.heap.size, 0, none⟩) k k, some w.heap.size, []⟩] [.cust (MatR T t m (List.replicate k nilV) (List.replicate k nilV) (List.replicate k []))] rfl (by simp [owned]) (by simp [owned]; exact hlt) (by
    intro i b e hi hei
    cases i with
    | succ i => simp at hi
    | zero =>
      simp at hi hei
      subst hi; subst hei
      exact ⟨hM, fun w2 h2 => hM.keep h2⟩)
  have hlen := hr.len
  have hrun' : (execOp a.eval ⟨some dst, .makeSlice tt x y, ty, pos, after, none⟩).run P w = .ok (.value (.slice (some ⟨w.heap.size, 0, none⟩) k k)) w' := by
    simp only [execOp, e1, e2, Sem.run_bind, hrun, Result.andThen]; rfl
  exact upon_value hrun' (hKn _ _ (hK.run _ _ w' (Rel.put (t := some dst) hg (VX.own (e := ⟨.slice (some ⟨w.heap.size, 0, none⟩) k k, some w.heap.size, []⟩) (by rw [List.getElem?_append_right (by rw [hlen]; exact Nat.le_refl _), hlen]; simp) ⟨_, _, _, rfl⟩) (dstOk_all (s := ⟨n, _, _⟩) (t := some dst) hd)) Q hq))

def keepOk : List Blk → Bool
  | [] => true
  | .arr _ _ _ dp :: l => match dp with | true => keepOk l | false => false
  | _ :: l => keepOk l
theorem keepOk_get : ∀ {l : List Blk} {j : Nat} {b : Blk}, keepOk l = true → l[j]? = some b → renB b = true ∨ ∃ t ds, b = .cells t ds
  | [], _, _, _, h => by simp at h
  | b0 :: l, 0, b, hk, h => by
    simp at h; subst h
    cases b0 with
    | cells t ds => exact Or.inr ⟨_, _, rfl⟩
    | arr t n xs dp => cases dp <;> simp [keepOk] at hk; exact Or.inl rfl
    | _ => exact Or.inl rfl
  | b0 :: l, j + 1, b, hk, h => by
    have : keepOk l = true := by
      cases b0 with
      | arr t n xs dp => cases dp <;> simp [keepOk] at hk; exact hk
      | _ => exact hk
    exact keepOk_get this (by simpa using h)

/-- One row grows by scalars. -/
theorem R_matAppend (hT : TabOk P tab) (i j : Nat) {k m : Nat} {T t : TypeId} {u : Value} {vs vs' : List Value} {rows : List (List (List D))} {ys : List (List D)} {dp : Bool} {agg : Bool} {size bytes : Nat} {zero : List Value} {k' : TK} {agg' : Bool} {bytes' : Nat} {zero' : List Value} {sl' : List (Nat × D)} {hp1 : List Blk}
    (hx : evD (look sl) x = .val u) (hy : evD (look sl) y = .own k) (hbi : hp[i]? = some (.cust (MatR T t m vs vs' rows))) (hbk : hp[k]? = some (.arr t m ys dp)) (ht : tab T = some ⟨.sl t, agg, size, bytes, zero⟩) (hT' : tab t = some ⟨k', agg', m, bytes', zero'⟩)
    (hz : Nat.beq zero'.length m = true) (hm : Nat.blt 0 m = true) (hby : Nat.ble bytes' 1024 = true) (hd : Nat.blt dst n = true) (hko : keepOk hp = true) (hs : survSK (keepI i) (ownI i) sl some = some sl') (hh : survHK (keepI i) (ownI i) 0 hp some = some hp1)
    (hf : Flat ys) (hu : j < vs.length ∧ u = nth vs' j) (hlen : (nth rows j).length + ys.length ≤ 4294967296)
    (hK : ∀ v', (∃ a n c, v' = .slice a n c) → WO P w0 A ops rest ⟨n, (dst, .val v') :: sl', hp1.set i (.cust (MatR T t m vs (vs'.set j v') (rows.set j (nth rows j ++ ys))))⟩ K) :
    WO P w0 A ops (⟨some dst, .call ⟨.builtin .append, #[x, y], #[T, T]⟩, ty, pos, after, none⟩ :: rest) ⟨n, sl, hp⟩ K := by
  have hs := survSK_eq hs; have hh := survHK_eq hh
  simp only [Option.some.injEq] at hs hh
  subst hs; subst hh
  obtain ⟨hj, hu⟩ := hu
  have hm : 0 < m := by simpa [Nat.blt_eq] using hm
  have hby := Nat.le_of_ble_eq_true hby
  have hz := Nat.eq_of_beq_eq_true hz
  refine ⟨fun ms a w hr Q hq => ?_⟩
  refine wpList_plain rfl fun Kn hKn => ?_
  have e1 : a.eval x = u := by
    have := hr.ev_at hx
    cases this with
    | rd h _ => cases h
    | val => rfl
  obtain ⟨ek, hik, e2, _⟩ := (hr.ev_at hy).own_inv
  obtain ⟨inf, td, z, h1, h2, h3, h4, _⟩ := hT.get ht
  obtain ⟨inf', td', z', g1, g2, g3, g4, g5, g6, g7, g8⟩ := hT.get hT'
  have htd := TK.sl_inv h4
  rw [htd] at h2
  have hzs : z'.cells.size = m := by rw [← hz, ← g8]; simp
  -- the entry
  have hex : ∃ e, ms[i]? = some e := by
    have hlt : i < ms.length := by rw [hr.len]; exact (List.getElem?_eq_some_iff.1 hbi).1
    exact ⟨_, List.getElem?_eq_getElem hlt⟩
  obtain ⟨e, hi⟩ := hex
  have hE := hr.ents i _ e hbi hi
  obtain ⟨⟨o1, o2, o3, o4, o5, o6⟩, _⟩ := hE
  have hjv : j < vs'.length := by omega
  obtain ⟨us, q1, q2, q3⟩ := o6 j hj
  rw [← hu] at q1
  -- what is appended
  obtain ⟨bs, hvy, _⟩ := hr.view hik hbk
  obtain ⟨bn, hsrc, _⟩ := src_of_vr hvy
  have happ : ∃ v' w' news, (Builtin.append_ #[T, T] ty #[u, ek.v]).run P w = .ok v' w' ∧ w'.ownsRow 0 t m v' ((nth rows j).length + ys.length) (us ++ news) ∧ w.grownBy w' u.ownBlock ∧ (v'.ownBlock = u.ownBlock ∨ v'.ownBlock = some w.heap.size) ∧ VRs w ys.flatten news bn ∧ ∀ r ∈ ys, r.length = m := by
    obtain ⟨hrows, ⟨hnil, rfl, rfl⟩ | ⟨ad, cap, news, e3, hv, hcell⟩⟩ := hsrc
    · rw [hnil]
      refine ⟨u, w, [], run_append_owned_none (P := P) (w := w) 0 T ty t inf' m h2 g1 u _ us q1, by simpa using q1, ⟨rfl, rfl, rfl, Nat.le_refl _, fun _ _ _ => rfl⟩, Or.inl rfl, .nil, by simp⟩
    · have hl : news.length = ys.length * m := by rw [hv.len, flatten_len hrows]
      have hsz : (nth rows j).length + ys.length ≤ maxLen := by unfold maxLen; omega
      have hbb : ((nth rows j).length + ys.length) * bytes' ≤ 140737488355328 := Nat.le_trans (Nat.mul_le_mul hlen hby) (by decide)
      obtain ⟨v', w', hrun, r1, r2, r3, r4⟩ := run_append_own_at (P := P) w 0 T ty t inf' z' m bytes' h2 g1 g3 g6 g7 hzs hm u _ us q1 ad ys.length cap news hl hcell hv.one hsz hbb (Nat.zero_le _)
      exact ⟨v', w', news, by rw [e3]; exact hrun, r1, r2, r4, hv, hrows⟩
  obtain ⟨v', w', news, hrun, r1, r2, r4, r5, r6⟩ := happ
  have hself := owned_self hr.nodup hi
  rw [o5] at hself
  have hnd : (vs'.flatMap (fun u => u.ownBlock.toList)).Nodup := (List.nodup_append.1 hself).2.1
  have hrng : ∀ k ∈ e.top.toList ++ e.nest, k < w.heap.size := fun k hk => (hr.range k (ent_owned hi hk)).2
  have hun : ∀ k, u.ownBlock = some k → k ∈ e.nest := fun k hk => by rw [o5]; exact mem_nest hjv (by rw [← hu]; exact hk)
  have hnest' : ∀ k ∈ (vs'.set j v').flatMap (fun u => u.ownBlock.toList), (k ∈ e.nest ∨ k = w.heap.size) ∧ k < w'.heap.size := by
    intro k hk
    obtain ⟨l, hl, hlk⟩ := nest_mem hk
    by_cases hlj : j = l
    · subst hlj
      rw [nth_set_self hjv] at hlk
      refine ⟨?_, (r1.lt k hlk).2⟩
      rcases r4 with r4 | r4
      · exact Or.inl (hun k (by rw [← r4]; exact hlk))
      · right; rw [hlk] at r4; simpa using r4
    · rw [nth_set_ne hlj] at hlk
      have hkn : k ∈ e.nest := by rw [o5]; exact mem_nest (by simpa using hl) hlk
      exact ⟨Or.inl hkn, Nat.lt_of_lt_of_le (hrng k (List.mem_append_right _ hkn)) r2.size⟩
  have hnd' : ((vs'.set j v').flatMap (fun u => u.ownBlock.toList)).Nodup := by
    refine nest_nodup fun p l k hp' hl hne h1 h2 => ?_
    rw [List.length_set] at hp' hl
    by_cases hpj : j = p
    · subst hpj
      rw [nth_set_self hjv] at h1
      rw [nth_set_ne hne] at h2
      rcases r4 with r4 | r4
      · exact nest_ne hnd hp' hl hne (by rw [← hu, ← r4]; exact h1) h2
      · rw [h1] at r4
        simp only [Option.some.injEq] at r4
        have := hrng k (List.mem_append_right _ (by rw [o5]; exact mem_nest hl h2)); omega
    · rw [nth_set_ne hpj] at h1
      by_cases hlj : j = l
      · subst hlj
        rw [nth_set_self hjv] at h2
        rcases r4 with r4 | r4
        · exact nest_ne hnd hp' hl hne h1 (by rw [← hu, ← r4]; exact h2)
        · rw [h2] at r4
          simp only [Option.some.injEq] at r4
          have := hrng k (List.mem_append_right _ (by rw [o5]; exact mem_nest hp' h1)); omega
      · rw [nth_set_ne hlj] at h2
        exact nest_ne hnd hp' hl hne h1 h2
  have hlit : ∀ d ∈ ys.flatten, isLit d = true := fun d hd => by obtain ⟨r, hr, hd⟩ := List.mem_flatten.1 hd; exact hf r hr d hd
  have htopn : ∀ k, e.v.ownBlock = some k → k ∉ e.nest := by
    intro k hk hkn
    have := (List.nodup_append.1 hself).2.2 k (by rw [o2, hk]; simp) k (by rw [← o5]; exact hkn)
    exact this rfl
  have hM : MatR T t m vs (vs'.set j v') (rows.set j (nth rows j ++ ys)) w' e.v e.top ((vs'.set j v').flatMap (fun u => u.ownBlock.toList)) := by
    refine ⟨ownsRow_keep o1 fun k hk => r2.block k (hrng k (by rw [o2, hk]; simp)) fun h => htopn k hk (hun k h.symm), o2, by simpa using o3, by simpa using o4, rfl, fun l hl => ?_⟩
    by_cases hlj : j = l
    · subst hlj
      rw [nth_set_self hjv, nth_set_self (by omega)]
      refine ⟨us ++ news, by simpa using r1, ?_, ?_⟩
      · intro r hr
        rcases List.mem_append.1 hr with h | h
        · exact q2 r h
        · exact ⟨r6 r h, fun d hd => hf r h d hd⟩
      · rw [List.flatten_append]
        have a1 : VRs w' (nth rows j).flatten us [] := VRs.lits_keep (fun d hd => by obtain ⟨r, hr, hd⟩ := List.mem_flatten.1 hd; exact (q2 r hr).2 d hd) q3
        have a2 : VRs w' ys.flatten news [] := VRs.lits_keep hlit r5
        exact a1.append a2
    · rw [nth_set_ne hlj, nth_set_ne hlj]
      refine (o6 l hl).keep fun k hk => r2.block k ?_ fun h => nest_ne hnd hjv (by omega) hlj (by rw [← hu]; exact h.symm) hk
      exact hrng k (List.mem_append_right _ (by rw [o5]; exact mem_nest (by omega) hk))
  have hsl : ∃ a n c, e.v = .slice a n c := by
    obtain ⟨_, ⟨h, _⟩ | ⟨g, cap, cur, h, _⟩⟩ := o1
    · exact ⟨_, _, _, h⟩
    · exact ⟨_, _, _, h⟩
  have hrel := hr.recust (e' := ⟨e.v, e.top, (vs'.set j v').flatMap (fun u => u.ownBlock.toList)⟩) hi rfl hsl (fun p b hne hb => keepOk_get hko hb) r2.os r2.tape r2.output r2.size
    (fun k hk hkn => r2.block k hk fun h => hkn (List.mem_append_right _ (hun k h.symm)))
    (fun k hk => by
      rcases List.mem_append.1 hk with hk | hk
      · exact ⟨Nat.lt_of_lt_of_le (hrng k (List.mem_append_left _ hk)) r2.size, Or.inl (List.mem_append_left _ hk)⟩
      · obtain ⟨h1 | h1, h2⟩ := hnest' k hk
        · exact ⟨h2, Or.inl (List.mem_append_right _ h1)⟩
        · exact ⟨h2, Or.inr (by omega)⟩)
    (by
      refine List.nodup_append.2 ⟨(List.nodup_append.1 hself).1, hnd', fun p hp' q hq' hpq => ?_⟩
      subst hpq
      rcases (hnest' p hq').1 with h | h
      · rw [o5] at h
        exact (List.nodup_append.1 hself).2.2 p hp' p h rfl
      · have := hrng p (List.mem_append_left _ hp'); omega)
    hM (fun w2 h2 => hM.keep h2)
  have hsv : ∃ a n c, v' = .slice a n c := by
    obtain ⟨_, ⟨h, _⟩ | ⟨g, cap, cur, h, _⟩⟩ := r1
    · exact ⟨_, _, _, h⟩
    · exact ⟨_, _, _, h⟩
  exact upon_value (run_append_op (ρ' := a.eval) rfl (by rw [e1, e2]; exact hrun)) (hKn _ _ ((hK v' hsv).run _ _ w' (Rel.put (t := some dst) hrel .val (dstOk_all (s := ⟨n, _, _⟩) (t := some dst) hd)) Q hq))

/-- A row's slice is stored. -/
theorem R_matStore (hT : TabOk P tab) (i : Nat) {T t : TypeId} {m : Nat} {j : Int} {u : Value} {vs vs' : List Value} {rows : List (List (List D))} {k : TK} {agg : Bool} {bytes : Nat} {zero : List Value} {dst : Option Tmp}
    (hx : evD (look sl) x = .eptr i 1 j 0) (hb : hp[i]? = some (.cust (MatR T t m vs vs' rows))) (ht : tab T = some ⟨k, agg, 1, bytes, zero⟩) (hy : evD (look sl) y = .val u) (hu : ∃ a n c, u = .slice a n c) (hd : dstOk ⟨n, sl, hp⟩ dst = true) (hj : 0 ≤ j ∧ j < vs.length)
    (hK : WO P w0 A ops rest (St.put ⟨n, sl, hp.set i (.cust (MatR T t m (vs.set j.toNat u) vs' rows))⟩ dst (.tup [])) K) : WO P w0 A ops (⟨dst, .store T x y, ty, pos, after, none⟩ :: rest) ⟨n, sl, hp⟩ K := by
  refine ⟨fun ms a w hr Q hq => ?_⟩
  refine wpList_plain rfl fun Kn hKn => ?_
  obtain ⟨inf, td, z, q1, q2, q3, q4, q5, q6, _⟩ := hT.get ht
  obtain ⟨e, b, hi, htop, e1⟩ := (hr.ev_at hx).eptr_inv
  have e2 : a.eval y = u := by
    have := hr.ev_at hy
    cases this with
    | rd h _ => cases h
    | val => rfl
  obtain ⟨aa, nn, cc, rfl⟩ := hu
  have hE := hr.ents i _ e hb hi
  obtain ⟨⟨o1, o2, o3, o4, o5, o6⟩, _⟩ := hE
  have hlt : j.toNat < vs.length := by omega
  obtain ⟨hl, ⟨_, h0⟩ | ⟨g, cap, cur, hv, hg, hh1, c1, c2, c3, c4⟩⟩ := o1
  · omega
  have hbg : b = g := by rw [o2, hv] at htop; simpa [Value.ownBlock] using htop.symm
  subst hbg
  have hcl : vs.length ≤ cur.toList.length := by simp; omega
  have hst := run_storeCells_at P b (j.toNat * 1 + 0) T [Value.slice aa nn cc] 0 cur w hh1 (by simp; omega) (by simp [Value.oneCell'])
  have hput : (cur.toList.take (j.toNat * 1 + 0 + 0) ++ [Value.slice aa nn cc] ++ cur.toList.drop (j.toNat * 1 + 0 + 0 + [Value.slice aa nn cc].length)) = cur.toList.set j.toNat (.slice aa nn cc) := by
    simp only [Nat.mul_one, Nat.add_zero, List.length_cons, List.length_nil, Nat.zero_add]
    rw [List.set_eq_take_append_cons_drop, if_pos (by omega)]; simp
  rw [hput] at hst
  have hrun : (execOp a.eval ⟨dst, .store T x y, ty, pos, after, none⟩).run P w = .ok .skip (w.setRow b (cur.toList.set j.toNat (.slice aa nn cc)).toArray) := by
    simp only [execOp, e1, Instr.storeAt, Instr.sureAddr, storeVar, Sem.run_bind, Sem.run, Result.andThen, pure, run_sizeOf q1, e2, q6, Value.cells, ne_eq]
    simp only [List.size_toArray, List.length_cons, List.length_nil, Nat.zero_add, not_true_eq_false, if_false]
    simp only [hst]
  have hg0 := (hr.range b (ent_owned hi (by rw [htop]; simp))).1
  have hself := owned_self hr.nodup hi
  have hrel := hr.change (i := i) (g := b) (b' := .cust (MatR T t m (vs.set j.toNat (.slice aa nn cc)) vs' rows)) (w' := w.setRow b (cur.toList.set j.toNat (.slice aa nn cc)).toArray) hi htop (fun k hk => setRow_other w b k _ hk) (by simp [World.setRow]) (Ext_setRow _ hg0)
    (fun hk hn => by
      have hM : MatR T t m (vs.set j.toNat (.slice aa nn cc)) vs' rows (w.setRow b (cur.toList.set j.toNat (.slice aa nn cc)).toArray) e.v e.top e.nest := by
        refine ⟨⟨by simp, Or.inr ⟨b, cap, (cur.toList.set j.toNat (.slice aa nn cc)).toArray, by simpa using hv, Nat.zero_le _, setRow_heap w b cur _ T _ hh1, by simpa using c1, c2, by simpa using c3, ?_⟩⟩, o2, by simpa using o3, by simpa using o4, o5, fun l hl' => ?_⟩
        · rw [List.length_set]
          simp only [Nat.mul_one] at c4 ⊢
          conv => rhs; rw [← c4]
          show List.take vs.length (cur.toList.set _ _) = _
          rw [List.take_set]
        · rw [List.length_set] at hl'
          exact (o6 l hl').keep fun k hk' => hn k (by rw [o5]; exact mem_nest (by omega) hk')
      exact ⟨hM, fun w2 h2 => hM.keep h2⟩)
  exact upon_skip hrun (hKn _ _ (hK.run _ _ _ (Rel.put hrel (.tup (us := []) .nil) (dstOk_all hd)) Q hq))
end
end Go.Proofs.YtcpjhpjlcgcigaaGreatDoor
