/- Symbolic states: regions that draw their order and make, append or store: what only reckons, and loads of variables that the region leaves alone, are taken first. No condition. -/
import Derived.Test.YtidfmgahnmpcdaaAbsV
import Derived.OrdersHeld
set_option linter.unusedSimpArgs false
set_option linter.unusedVariables false
namespace Go.Proofs.Ytidfmgahnmpcdaa
open Go.ChangeShapes Go.WideShapes Go.ChangeAt Go.RowKit

/-- What is held of cells for the whole of a region: a slot that holds an address, an offset, the scalar that lies there. -/
def HeldF (L : List (Tmp × Nat × Value)) (a : Act) (w : World) : Prop := ∀ x ∈ L, ∀ b o, a.tmps.getD x.1 undef = .pointer (some ⟨b, o, none⟩) → w.cell? ⟨b, o + x.2.1, none⟩ = some x.2.2
def cellAt (s : St) (t : Tmp) (o : Nat) : Option D := match s.get t with
  | .ptr i o0 => match s.heap[i]? with
    | some (.cells _ ds) => ds[o0 + o]?
    | _ => none
  | _ => none
def heldOk (s : St) : List (Tmp × Nat × Value) → Prop
  | [] => True
  | x :: l => cellAt s x.1 x.2.1 = some (.lit x.2.2) ∧ heldOk s l

section
variable {P : Program} {w0 w : World} {A : Nat → Prop} {s : St} {ms : List Ent} {a : Act} {L : List (Tmp × Nat × Value)}
theorem HeldF.of (hr : Rel w0 A ms s a w) : ∀ {L : List (Tmp × Nat × Value)}, heldOk s L → HeldF L a w
  | [], _ => fun x hx => by simp at hx
  | y :: l, h => by
    intro x hx b o hb
    rcases List.mem_cons.1 hx with rfl | hx
    · have h1 := h.1
      unfold cellAt at h1
      split at h1
      · rename_i i o0 hs
        split at h1
        · rename_i t ds hh
          have h2 := hr.slots x.1
          rw [hs] at h2
          obtain ⟨e, b', hi, ht, hv⟩ := h2.ptr_inv
          rw [hb] at hv
          simp only [Value.pointer.injEq, Option.some.injEq, Addr.mk.injEq, and_true] at hv
          obtain ⟨rfl, rfl⟩ := hv
          obtain ⟨b2, us, rfl, h3, h4⟩ := hr.ents i _ e hh hi
          simp only [Option.some.injEq] at ht
          subst ht
          obtain ⟨u, h5, h6⟩ := h4.get h1
          obtain ⟨rfl, _⟩ := h6.lit_inv
          simp [World.cell?, h3, h5]
        · simp at h1
      · simp at h1
    · exact HeldF.of hr h.2 x hx b o hb

/-- What is ready, and what may be taken first, reckoned without arrays' loops. -/
def rdyE (listed : Array Bool) : List Edge → Bool
  | [] => true
  | e :: l => (!Region.binds .any e || listed.getD e.on false) && rdyE listed l
def rdyO (listed : Array Bool) : Nat → List Oper → List Nat
  | _, [] => []
  | i, o :: l => match (!listed.getD i true) && rdyE listed o.after.toList with
    | true => i :: rdyO listed (i + 1) l
    | false => rdyO listed (i + 1) l
def rdy (ops : Array Oper) (listed : Array Bool) : List Nat := rdyO listed 0 ops.toList
theorem rdyE_eq (listed : Array Bool) : ∀ l : List Edge, rdyE listed l = l.all fun e => !Region.binds .any e || listed.getD e.on false
  | [] => rfl
  | e :: l => by rw [rdyE, rdyE_eq listed l, List.all_cons]
theorem rdyO_eq (listed : Array Bool) : ∀ (l : List Oper) (i : Nat), rdyO listed i l = (List.range' i l.length).filter fun k => !listed.getD k true && ((l[k - i]?).map fun x => x.after.toList.all fun e => !Region.binds .any e || listed.getD e.on false).getD false
  | [], i => by simp [rdyO]
  | o :: l, i => by
    rw [rdyO, rdyO_eq listed l (i + 1), List.length_cons, List.range'_succ, List.filter_cons]
    simp only [Nat.sub_self, List.getElem?_cons_zero, Option.map_some, Option.getD_some, rdyE_eq]
    have e : (List.range' (i + 1) l.length).filter (fun k => !listed.getD k true && ((l[k - (i + 1)]?).map fun x => x.after.toList.all fun e => !Region.binds .any e || listed.getD e.on false).getD false)
        = (List.range' (i + 1) l.length).filter (fun k => !listed.getD k true && (((o :: l)[k - i]?).map fun x => x.after.toList.all fun e => !Region.binds .any e || listed.getD e.on false).getD false) := by
      apply List.filter_congr
      intro k hk
      have := (List.mem_range'_1.1 hk).1
      rw [show k - i = (k - (i + 1)) + 1 by omega, List.getElem?_cons_succ]
    rw [e]
    cases (!listed.getD i true) && (o.after.toList.all fun e => !Region.binds .any e || listed.getD e.on false) <;> rfl
theorem rdy_eq (ops : Array Oper) (listed : Array Bool) : Region.ready .any ops listed = rdy ops listed := by
  unfold rdy Region.ready
  rw [rdyO_eq, List.range_eq_range']
  apply List.filter_congr
  intro k _
  simp only [Nat.sub_zero, Array.getElem?_toList, Array.all_toList]
def hasT (d : Tmp) : List Operand → Bool
  | [] => false
  | x :: l => match x with
    | .tmp t => match Nat.beq d t with | true => true | false => hasT d l
    | .const _ => hasT d l
    | .global _ => hasT d l
    | .func _ => hasT d l
def eqT (x y : Option Tmp) : Bool := match x, y with
  | some a, some b => Nat.beq a b
  | none, none => true
  | _, _ => false
/-- Operations that may change places; none of them under a guard. -/
def aprt (x y : Oper) : Bool :=
  (match x.guard, y.guard with | none, none => true | _, _ => false) &&
  ((match x.dst with | some d => !hasT d y.op.operands.toList && !eqT y.dst (some d) | none => true) &&
  (match y.dst with | some d => !hasT d x.op.operands.toList | none => true))
theorem hasT_eq (d : Tmp) : ∀ l : List Operand, (l.filterMap fun | .tmp t => some t | _ => none).contains d = hasT d l
  | [] => rfl
  | x :: l => by
    cases x with
    | tmp t =>
      rw [hasT, List.filterMap_cons]
      simp only [List.contains_cons]
      rw [hasT_eq d l]
      cases h : Nat.beq d t
      · have : (d == t) = false := by simpa using Nat.ne_of_beq_eq_false h
        simp [this]
      · have : (d == t) = true := by simpa using Nat.eq_of_beq_eq_true h
        simp [this]
    | const _ => rw [hasT, List.filterMap_cons]; exact hasT_eq d l
    | global _ => rw [hasT, List.filterMap_cons]; exact hasT_eq d l
    | func _ => rw [hasT, List.filterMap_cons]; exact hasT_eq d l
theorem aprt_ok {ops : Array Oper} {x y : Oper} (h : aprt x y = true) : x.apart ops y = true := by
  unfold aprt at h
  simp only [Bool.and_eq_true] at h
  obtain ⟨h0, h1, h2⟩ := h
  have hg : x.guard = none ∧ y.guard = none := by
    split at h0
    · rename_i a b; exact ⟨a, b⟩
    · simp at h0
  unfold Oper.apart Oper.looksAt
  rw [hg.1, hg.2]
  simp only [List.append_nil, Bool.and_eq_true]
  refine ⟨?_, ?_⟩
  · cases hx : x.dst with
    | none => rfl
    | some d =>
      rw [hx] at h1
      simp only [Bool.and_eq_true] at h1 ⊢
      refine ⟨(congrArg (fun b => !b) (hasT_eq d _)).trans h1.1, ?_⟩
      cases hy : y.dst with
      | none => rfl
      | some d' =>
        have := h1.2
        rw [hy] at this
        simp only [eqT, Bool.not_eq_true', bne_iff_ne, ne_eq, Option.some.injEq] at this ⊢
        exact Nat.ne_of_beq_eq_false this
  · cases hy : y.dst with
    | none => rfl
    | some d => rw [hy] at h2; exact (congrArg (fun b => !b) (hasT_eq d _)).trans h2
def freeO (listed : Array Bool) (i : Nat) (oi : Oper) : Nat → List Oper → Bool
  | _, [] => true
  | j, o :: l => (Nat.beq j i || listed.getD j true || hasE i o.after.toList || aprt oi o) && freeO listed i oi (j + 1) l
where hasE (i : Nat) : List Edge → Bool
  | [] => false
  | e :: l => (Region.binds .any e && e.on == i) || hasE i l
theorem hasE_eq (i : Nat) : ∀ l : List Edge, freeO.hasE i l = l.any fun e => Region.binds .any e && e.on == i
  | [] => rfl
  | e :: l => by rw [freeO.hasE, hasE_eq i l, List.any_cons]
theorem freeO_ok {ops : Array Oper} {listed : Array Bool} {i : Nat} {oi : Oper} : ∀ (l : List Oper) (j : Nat), (∀ k, l[k]? = ops[j + k]?) → freeO listed i oi j l = true → ∀ k, j ≤ k → k < j + l.length → (k == i || listed.getD k true || (match ops[k]? with | some oj => (oj.after.any fun e => Region.binds .any e && e.on == i) || Oper.apart ops oi oj | none => true)) = true
  | [], j, _, _, k, h1, h2 => by simp at h2; omega
  | o :: l, j, hl, h, k, h1, h2 => by
    rw [freeO, Bool.and_eq_true] at h
    by_cases e : k = j
    · subst e
      have h0 : ops[k]? = some o := by simpa using (hl 0).symm
      rw [h0]
      have h3 := h.1
      simp only [Bool.or_eq_true, hasE_eq] at h3 ⊢
      rcases h3 with ((h3 | h3) | h3) | h3
      · exact Or.inl (Or.inl (by have := Nat.eq_of_beq_eq_true h3; simp [this]))
      · exact Or.inl (Or.inr h3)
      · refine Or.inr (Or.inl ?_)
        rw [← Array.any_toList]; exact h3
      · exact Or.inr (Or.inr (aprt_ok h3))
    · exact freeO_ok l (j + 1) (fun m => by have := hl (m + 1); simpa [Nat.add_assoc, Nat.add_comm 1 m] using this) h.2 k (by omega) (by simp at h2; omega)
def candO (ops : Array Oper) (listed : Array Bool) : List Nat → Nat → Option Nat
  | [], _ => none
  | i :: l, k => match ops.toList[i]? with
    | some oi => match freeO listed i oi 0 ops.toList with
      | true => match k with | 0 => some i | k + 1 => candO ops listed l k
      | false => candO ops listed l k
    | none => candO ops listed l k
/-- Which operations may be taken first now: the k-th of them. -/
def cand (ops : Array Oper) (listed : Array Bool) (k : Nat) : Option Nat := candO ops listed (rdy ops listed) k
theorem candO_spec {ops : Array Oper} {listed : Array Bool} {i : Nat} : ∀ {l : List Nat} {k : Nat}, candO ops listed l k = some i → i ∈ l ∧ Region.free .any ops listed i = true
  | [], _, h => by simp [candO] at h
  | j :: l, k, h => by
    have hrec : ∀ k, candO ops listed l k = some i → i ∈ j :: l ∧ Region.free .any ops listed i = true := fun k h => ⟨List.mem_cons_of_mem _ (candO_spec h).1, (candO_spec h).2⟩
    unfold candO at h
    split at h
    · rename_i oi hoi
      split at h
      · rename_i hf
        cases k with
        | zero =>
          simp only [Option.some.injEq] at h
          subst h
          refine ⟨by simp, ?_⟩
          unfold Region.free
          rw [Array.getElem?_toList] at hoi
          rw [hoi]
          simp only [List.all_eq_true]
          intro k hk
          exact freeO_ok ops.toList 0 (fun k => by simp) hf k (Nat.zero_le _) (by simpa using hk)
        | succ k => exact hrec k h
      · exact hrec k h
    · exact hrec k h
theorem cand_spec {ops : Array Oper} {listed : Array Bool} {k i : Nat} (h : cand ops listed k = some i) : Region.free .any ops listed i = true ∧ (Region.ready .any ops listed).contains i = true := by
  have h1 := candO_spec h
  exact ⟨h1.2, by rw [rdy_eq]; simpa using h1.1⟩

def noSel : List Oper → Bool
  | [] => true
  | o :: l => match o.op with | .select .. => false | _ => noSel l
theorem noSel_ok {ops : Array Oper} (h : noSel ops.toList = true) : Region.noSelect ops = true := by
  have key : ∀ l : List Oper, noSel l = true → (l.all fun o => match o.op with | .select .. => false | _ => true) = true := by
    intro l
    induction l with
    | nil => intro _; rfl
    | cons o l ih =>
      intro h
      rw [noSel] at h
      rw [List.all_cons, Bool.and_eq_true]
      split at h
      · simp at h
      · exact ⟨rfl, ih h⟩
  have := key _ h
  unfold Region.noSelect
  rw [← Array.all_toList]; exact this

/-- What a region's end asks. -/
def QK (w0 : World) (A : Nat → Prop) (K : St → Prop) : Exit → Act → World → Prop := fun e a' w' => e = .normal ∧ ∃ ms' s', Rel w0 A ms' s' a' w' ∧ K s'

/-- From every state that s tells of, in whatever order the rest comes up, the region ends in a state that K allows. -/
structure WH (P : Program) (w0 : World) (A : Nat → Prop) (ops : Array Oper) (L : List (Tmp × Nat × Value)) (fuel : Nat) (listed : Array Bool) (s : St) (K : St → Prop) : Prop where
  run : ∀ ms a w a0, Rel w0 A ms s a w → (∀ x ∈ L, a.tmps.getD x.1 undef = a0.tmps.getD x.1 undef) → wpAnyH P .any ops (QK w0 A K) (HeldF L a0) fuel listed a w

variable {n : Nat} {sl : List (Nat × D)} {hp : List Blk} {Q : Exit → St → Prop} {K : St → Prop} {ops : Array Oper} {fuel : Nat} {listed : Array Bool}

theorem W_held (hm : P.follows .mixedOrders = true) {l : List Oper} {id : Nat} (L : List (Tmp × Nat × Value)) (h : WH P w0 A l.toArray L l.length (Array.replicate l.length false) ⟨n, sl, hp⟩ fun s => Q .normal s) : W P w0 A (.region id l.toArray true) ⟨n, sl, hp⟩ Q := by
  refine ⟨fun ms a w hr => ?_⟩
  have hd : Rel w0 A ms ⟨n, sl, hp⟩ a { w with drawn := w.drawn + 1 } := hr.later (Ext.drew (Ext.refl w))
  have h1 := h.run ms a _ a hd fun _ _ => rfl
  refine Code.wp_mono ?_ (wp_region_held (Q := QK w0 A fun s => Q .normal s) (S := HeldF L a) hm (by simpa using h1))
  rintro e a' w' ⟨rfl, h⟩
  exact h

theorem H_done (hr : rdy ops listed = []) (h : K s) : WH P w0 A ops L fuel listed s K :=
  ⟨fun ms a w _ hr' _ => wpAnyH_done ((rdy_eq _ _).trans hr) ⟨rfl, ms, s, hr', h⟩ fuel⟩

/-- An operation that yields its value in every world that keeps what is held. -/
theorem H_take' {i : Nat} {t : Tmp} {d : D} {op : Op} {ty : TypeId} {pos : String} {after : Array Edge} (hi : ops[i]? = some ⟨some t, op, ty, pos, after, none⟩) (hs : noSel ops.toList = true) (hf : Region.free .any ops listed i = true) (hrd : (Region.ready .any ops listed).contains i = true) (hL : L.all (fun x => !Nat.beq x.1 t) = true) (hheld : heldOk ⟨n, sl, hp⟩ L) (htn : Nat.blt t n = true)
    (hy : ∀ ms a w a0, Rel w0 A ms ⟨n, sl, hp⟩ a w → (∀ x ∈ L, a.tmps.getD x.1 undef = a0.tmps.getD x.1 undef) → ∃ v, (∀ w', HeldF L a0 w' → (execOp a.eval ⟨some t, op, ty, pos, after, none⟩).run P w' = .ok (.value v) w') ∧ VX ms w (OkB w0.heap.size A ms w) d v)
    (h : WH P w0 A ops L fuel (listed.setIfInBounds i true) ⟨n, (t, d) :: sl, hp⟩ K) : WH P w0 A ops L (fuel + 1) listed ⟨n, sl, hp⟩ K := by
  refine ⟨fun ms a w a0 hr ha => ?_⟩
  obtain ⟨v, h1, h2⟩ := hy ms a w a0 hr ha
  have hHF : HeldF L a0 w := by
    intro x hx b o hb
    exact HeldF.of hr hheld x hx b o (by rw [ha x hx]; exact hb)
  refine wpAnyH_take (v := v) hi (noSel_ok hs) hf hrd (fun c a w h => by exact absurd h.1 (by simp)) (Or.inl ⟨by simp [Region.wanted], h1⟩) hHF ?_
  refine h.run ms _ w a0 (Rel.put (t := some t) hr h2 (dstOk_all (s := ⟨n, sl, hp⟩) (t := some t) htn)) fun x hx => ?_
  have hne : x.1 ≠ t := by
    have := List.all_eq_true.1 hL x hx
    intro e; subst e; simp at this
  rw [← ha x hx]
  simp only [Act.put, Array.getD_eq_getD_getElem?]
  rw [Array.getElem?_setIfInBounds_ne (Ne.symm hne)]

theorem H_move (k0 : Nat) {i : Nat} {t : Tmp} {x : Operand} {ty : TypeId} {pos : String} {after : Array Edge} {d : D} (hcd : cand ops listed k0 = some i) (hi : ops[i]? = some ⟨some t, .move x, ty, pos, after, none⟩) (hs : noSel ops.toList = true) (hL : L.all (fun x => !Nat.beq x.1 t) = true) (hheld : heldOk ⟨n, sl, hp⟩ L) (htn : Nat.blt t n = true)
    (hx : forceK (evD (look sl) x) some = some d) (h : WH P w0 A ops L fuel (listed.setIfInBounds i true) ⟨n, (t, d) :: sl, hp⟩ K) : WH P w0 A ops L (fuel + 1) listed ⟨n, sl, hp⟩ K :=
  H_take' hi hs (cand_spec hcd).1 (cand_spec hcd).2 hL hheld htn (fun ms a w a0 hr _ => ⟨a.eval x, fun w' _ => rfl, by have := forceK_eq hx; simp only [Option.some.injEq] at this; exact hr.ev_at this⟩) h
theorem H_assign (k0 : Nat) {i : Nat} {t : Tmp} {x : Operand} {ty : TypeId} {pos : String} {after : Array Edge} {d : D} (hcd : cand ops listed k0 = some i) (hi : ops[i]? = some ⟨some t, .assign x, ty, pos, after, none⟩) (hs : noSel ops.toList = true) (hL : L.all (fun x => !Nat.beq x.1 t) = true) (hheld : heldOk ⟨n, sl, hp⟩ L) (htn : Nat.blt t n = true)
    (hx : forceK (evD (look sl) x) some = some d) (h : WH P w0 A ops L fuel (listed.setIfInBounds i true) ⟨n, (t, d) :: sl, hp⟩ K) : WH P w0 A ops L (fuel + 1) listed ⟨n, sl, hp⟩ K :=
  H_take' hi hs (cand_spec hcd).1 (cand_spec hcd).2 hL hheld htn (fun ms a w a0 hr _ => ⟨a.eval x, fun w' _ => rfl, by have := forceK_eq hx; simp only [Option.some.injEq] at this; exact hr.ev_at this⟩) h

/-! ### What no world turns -/
def detD1 : D → Bool
  | .lit _ => true
  | .nil => true
  | .own _ => true
  | .vec _ _ => true
  | .ptr _ _ => true
  | .eptr _ _ _ _ => true
  | _ => false
def detD : D → Bool
  | .agg ds => ds.all detD1
  | .tup ds => ds.all detD1
  | .fn _ ds => ds.all detD1
  | d => detD1 d
theorem det1_any {Ok Ok' : Nat → Prop} {w w' : World} {d : D} {u : Value} (hd : detD1 d = true) (h : VX ms w Ok d u) : VX ms w' Ok' d u := by
  cases d with
  | lit v => obtain ⟨rfl, h1⟩ := h.lit_inv; exact VX.of_lit h1
  | nil => rw [h.nil_inv]; exact .rd .nil (by simp)
  | own i => obtain ⟨e, h1, rfl, h2⟩ := h.own_inv; exact .own h1 h2
  | vec i l => obtain ⟨e, b, h1, h2, rfl⟩ := h.vec_inv; exact .vec h1 h2
  | ptr i o => obtain ⟨e, b, h1, h2, rfl⟩ := h.ptr_inv; exact .ptr h1 h2
  | eptr i n k o => obtain ⟨e, b, h1, h2, rfl⟩ := h.eptr_inv; exact .eptr h1 h2
  | _ => simp [detD1] at hd
theorem det1L_any {Ok Ok' : Nat → Prop} {w w' : World} : ∀ {ds : List D} {us : List Value}, ds.all detD1 = true → VXs ms w Ok ds us → VXs ms w' Ok' ds us
  | _, _, _, .nil => .nil
  | d :: ds, _, hd, .cons h h' => by
    rw [List.all_cons, Bool.and_eq_true] at hd
    exact .cons (det1_any hd.1 h) (det1L_any hd.2 h')
theorem det_any {Ok Ok' : Nat → Prop} {w w' : World} {d : D} {u : Value} (hd : detD d = true) (h : VX ms w Ok d u) : VX ms w' Ok' d u := by
  cases d with
  | agg ds => obtain ⟨us, rfl, h1⟩ := h.agg_inv; exact .agg (det1L_any hd h1)
  | tup ds => obtain ⟨us, rfl, h1⟩ := h.tup_inv; exact .tup (det1L_any hd h1)
  | fn f ds => obtain ⟨us, rfl, h1⟩ := h.fn_inv; exact .fn (det1L_any hd h1)
  | _ => exact det1_any hd h
theorem det1_eq {Ok Ok' : Nat → Prop} {w w' : World} {d : D} {u u' : Value} (hd : detD1 d = true) (h : VX ms w Ok d u) (h' : VX ms w' Ok' d u') : u = u' := by
  cases d with
  | lit v => rw [h.lit_inv.1, h'.lit_inv.1]
  | nil => rw [h.nil_inv, h'.nil_inv]
  | own i => obtain ⟨e, h1, rfl, _⟩ := h.own_inv; obtain ⟨e', h2, rfl, _⟩ := h'.own_inv; rw [h1] at h2; cases h2; rfl
  | vec i l => obtain ⟨e, b, h1, h2, rfl⟩ := h.vec_inv; obtain ⟨e', b', h3, h4, rfl⟩ := h'.vec_inv; rw [h1] at h3; cases h3; rw [h2] at h4; cases h4; rfl
  | ptr i o => obtain ⟨e, b, h1, h2, rfl⟩ := h.ptr_inv; obtain ⟨e', b', h3, h4, rfl⟩ := h'.ptr_inv; rw [h1] at h3; cases h3; rw [h2] at h4; cases h4; rfl
  | eptr i n k o => obtain ⟨e, b, h1, h2, rfl⟩ := h.eptr_inv; obtain ⟨e', b', h3, h4, rfl⟩ := h'.eptr_inv; rw [h1] at h3; cases h3; rw [h2] at h4; cases h4; rfl
  | _ => simp [detD1] at hd
theorem det1L_eq {Ok Ok' : Nat → Prop} {w w' : World} : ∀ {ds : List D} {us us' : List Value}, ds.all detD1 = true → VXs ms w Ok ds us → VXs ms w' Ok' ds us' → us = us'
  | _, _, _, _, .nil, .nil => rfl
  | d :: ds, _, _, hd, .cons h h1, .cons h' h1' => by
    rw [List.all_cons, Bool.and_eq_true] at hd
    rw [det1_eq hd.1 h h', det1L_eq hd.2 h1 h1']
theorem det_eq {Ok Ok' : Nat → Prop} {w w' : World} {d : D} {u u' : Value} (hd : detD d = true) (h : VX ms w Ok d u) (h' : VX ms w' Ok' d u') : u = u' := by
  cases d with
  | agg ds => obtain ⟨us, rfl, h1⟩ := h.agg_inv; obtain ⟨us', rfl, h2⟩ := h'.agg_inv; rw [det1L_eq hd h1 h2]
  | tup ds => obtain ⟨us, rfl, h1⟩ := h.tup_inv; obtain ⟨us', rfl, h2⟩ := h'.tup_inv; rw [det1L_eq hd h1 h2]
  | fn f ds => obtain ⟨us, rfl, h1⟩ := h.fn_inv; obtain ⟨us', rfl, h2⟩ := h'.fn_inv; rw [det1L_eq hd h1 h2]
  | _ => exact det1_eq (by exact hd) h h'

/-- An operation that asks no memory, of what no world turns. -/
theorem H_pop {tab : Nat → Option TI} (hT : TabOk P tab) (k0 : Nat) {i : Nat} {t : Tmp} {op : Op} {ty : TypeId} {pos : String} {after : Array Edge} {c : Prop} {d : D} (hcd : cand ops listed k0 = some i) (hi : ops[i]? = some ⟨some t, op, ty, pos, after, none⟩) (hs : noSel ops.toList = true) (hL : L.all (fun x => !Nat.beq x.1 t) = true) (hheld : heldOk ⟨n, sl, hp⟩ L) (htn : Nat.blt t n = true)
    (hdet : (op.operands.toList.all fun x => detD (evD (look sl) x)) = true) (hpop : pop tab [] (evD (look sl)) op = some (c, d)) (hdd : detD d = true) (hc : c) (h : WH P w0 A ops L fuel (listed.setIfInBounds i true) ⟨n, (t, d) :: sl, hp⟩ K) : WH P w0 A ops L (fuel + 1) listed ⟨n, sl, hp⟩ K := by
  refine H_take' hi hs (cand_spec hcd).1 (cand_spec hcd).2 hL hheld htn (fun ms a w a0 hr _ => ?_) h
  have hev : ∀ (w' : World) x, x ∈ op.operands → VX ms w' (fun _ => True) (evD (look sl) x) (a.eval x) := fun w' x hx => det_any ((List.all_eq_true.1 hdet) x (by simpa using hx)) (hr.ev (s := ⟨n, sl, hp⟩) x)
  have key := fun w' => pop_ok (P := P) (w := w') (heap := []) (base := 0) (ms := ms) (Ok := fun _ => True) hT (fun i b e h => by simp at h) ⟨some t, op, ty, pos, after, none⟩ (hev w') hpop hc
  obtain ⟨v, h1, h2⟩ := key w
  refine ⟨v, fun w' _ => ?_, det_any hdd h2⟩
  obtain ⟨v', h3, h4⟩ := key w'
  rw [det_eq hdd h2 h4]; exact h3

/-- A load of a scalar that is held. -/
def heldAt (s : St) (i o : Nat) : List (Tmp × Nat × Value) → Option Value
  | [] => none
  | x :: l => match s.get x.1 with
    | .ptr j o0 => match Nat.beq j i, Nat.beq (o0 + x.2.1) o with
      | true, true => some x.2.2
      | _, _ => heldAt s i o l
    | _ => heldAt s i o l
theorem heldAt_mem {i o : Nat} {v : Value} : ∀ {L : List (Tmp × Nat × Value)}, heldAt s i o L = some v → ∃ x ∈ L, x.2.2 = v ∧ ∃ o0, s.get x.1 = .ptr i o0 ∧ o0 + x.2.1 = o
  | [], h => by simp [heldAt] at h
  | y :: l, h => by
    unfold heldAt at h
    have hrc : heldAt s i o l = some v → ∃ x ∈ y :: l, x.2.2 = v ∧ ∃ o0, s.get x.1 = .ptr i o0 ∧ o0 + x.2.1 = o := fun h => by
      obtain ⟨x, h1, h2⟩ := heldAt_mem h
      exact ⟨x, List.mem_cons_of_mem _ h1, h2⟩
    split at h
    · rename_i j o0 hs
      split at h
      · rename_i e1 e2
        simp only [Option.some.injEq] at h
        have e1 := Nat.eq_of_beq_eq_true e1; have e2 := Nat.eq_of_beq_eq_true e2
        subst e1
        exact ⟨y, by simp, h, o0, hs, e2⟩
      · exact hrc h
    · exact hrc h
theorem H_load {tab : Nat → Option TI} (hT : TabOk P tab) (k0 : Nat) {i : Nat} {t : Tmp} {x : Operand} {tl ty : TypeId} {pos : String} {after : Array Edge} {j o : Nat} {v : Value} {k : TK} {size bytes : Nat} {zero : List Value} (hcd : cand ops listed k0 = some i) (hi : ops[i]? = some ⟨some t, .load tl x, ty, pos, after, none⟩) (hs : noSel ops.toList = true) (hL : L.all (fun x => !Nat.beq x.1 t) = true) (hheld : heldOk ⟨n, sl, hp⟩ L) (htn : Nat.blt t n = true)
    (hx : evD (look sl) x = .ptr j o) (ht : tab tl = some ⟨k, false, size, bytes, zero⟩) (hv : heldAt ⟨n, sl, hp⟩ j o L = some v) (h : WH P w0 A ops L fuel (listed.setIfInBounds i true) ⟨n, (t, .lit v) :: sl, hp⟩ K) : WH P w0 A ops L (fuel + 1) listed ⟨n, sl, hp⟩ K := by
  refine H_take' hi hs (cand_spec hcd).1 (cand_spec hcd).2 hL hheld htn (fun ms a w a0 hr ha => ?_) h
  obtain ⟨y, hy, rfl, o0, hy1, rfl⟩ := heldAt_mem hv
  obtain ⟨inf, td, z, h1, h2, h3, h4, h5, h6, _⟩ := hT.get ht
  obtain ⟨e, b, hi', ht', e1⟩ := (hr.ev_at hx).ptr_inv
  have h7 := hr.slots y.1
  rw [hy1] at h7
  obtain ⟨e', b', hi'', ht'', e2⟩ := h7.ptr_inv
  rw [hi'] at hi''; cases hi''
  rw [ht'] at ht''; cases ht''
  have hlit : litOk y.2.2 := by
    have : ∀ {l : List (Tmp × Nat × Value)}, heldOk ⟨n, sl, hp⟩ l → y ∈ l → cellAt ⟨n, sl, hp⟩ y.1 y.2.1 = some (.lit y.2.2) := by
      intro l
      induction l with
      | nil => intro _ h; simp at h
      | cons q l ih => intro h hm; rcases List.mem_cons.1 hm with rfl | hm; exact h.1; exact ih h.2 hm
    have h8 := this hheld hy
    unfold cellAt at h8
    rw [hy1] at h8
    simp only at h8
    split at h8
    · rename_i t' ds hh
      obtain ⟨b2, us, rfl, h9, h10⟩ := hr.ents j _ e hh hi'
      obtain ⟨u, _, h11⟩ := h10.get h8
      exact h11.lit_inv.2
    · simp at h8
  refine ⟨y.2.2, fun w' hw' => ?_, VX.of_lit hlit⟩
  have hc := hw' y hy b o0 (by rw [← ha y hy]; exact e2)
  have hag : aggDesc td = false := h5.symm
  have hld : (loadVar tl ⟨b, o0 + y.2.1, none⟩).run P w' = .ok y.2.2 w' := by
    unfold loadVar
    simp only [Sem.run_bind, run_isAgg h2, Result.andThen, hag]
    simp only [Bool.false_eq_true, if_false, Go.load, Sem.run, hc]
  have hld2 : (Instr.loadAt tl (.pointer (some ⟨b, o0 + y.2.1, none⟩))).run P w' = .ok y.2.2 w' := by
    simp only [Instr.loadAt, Instr.sureAddr, Sem.run_bind, Sem.run, Result.andThen, pure]; exact hld
  simp only [execOp, e1, Sem.run_bind, hld2, Result.andThen]; rfl

/-! ### What comes up -/
theorem wp_put {o : Oper} {a : Act} {w : World} {K1 : Act → World → Prop} {Q1 : Exit → Act → World → Prop} (hd : ∀ (a' : Act) (w' : World) (e : Exit), e ≠ .normal → ¬ Q1 e a' w') (h : o.wp P a w K1 Q1) :
    o.wp P a w (fun a' w' => K1 a' w' ∧ ∀ t, o.dst ≠ some t → a'.tmps.getD t undef = a.tmps.getD t undef) (fun _ _ _ => False) := by
  have hput : ∀ (ds : List Deferred) (v : Value) (t : Tmp), o.dst ≠ some t → (Act.put { tmps := a.tmps, defers := ds } o.dst v).tmps.getD t undef = a.tmps.getD t undef := by
    intro ds v t ht
    cases ho : o.dst with
    | none => rfl
    | some d =>
      have : d ≠ t := fun e => ht (by rw [ho, e])
      simp only [Act.put, Array.getD_eq_getD_getElem?]
      rw [Array.getElem?_setIfInBounds_ne this]
  unfold Oper.wp at *
  generalize (execOp a.eval o).run P w = r at *
  cases r with
  | ok nx w' =>
    cases nx <;> simp only [Oper.upon] at h ⊢
    case value v => exact ⟨h, hput _ v⟩
    case skip => exact ⟨h, hput _ _⟩
    case defer d => exact ⟨h, hput _ _⟩
    case enter f args =>
      refine Calls.mono h fun e w'' he => ?_
      cases e with
      | returned u => exact ⟨he, hput _ u⟩
      | panicked c => exact absurd he (hd _ _ _ (by simp))
      | outgrown => obtain ⟨_, _, he⟩ := he; exact absurd he (hd _ _ _ (by simp))
    case row row args => exact Rows.mono h fun u w'' he => ⟨he, hput _ u⟩
  | halt x w' =>
    cases x <;> simp only [Oper.upon] at h ⊢
    case panic u => exact absurd h (hd _ _ _ (by simp))

/-- Operation i comes up. -/
structure HStep (P : Program) (w0 : World) (A : Nat → Prop) (ops : Array Oper) (L : List (Tmp × Nat × Value)) (fuel : Nat) (listed : Array Bool) (s : St) (K : St → Prop) (i : Nat) : Prop where
  ex : ∃ o, ops[i]? = some o ∧ (∀ x ∈ L, o.dst ≠ some x.1) ∧ WO P w0 A ops [o] s fun s' => heldOk s' L ∧ WH P w0 A ops L fuel (listed.setIfInBounds i true) s' K

theorem H_all {rs : List Nat} (hr : Region.ready .any ops listed = rs) (hne : rs ≠ []) (h : ∀ i ∈ rs, HStep P w0 A ops L fuel listed s K i) : WH P w0 A ops L (fuel + 1) listed s K := by
  refine ⟨fun ms a w a0 hr' ha => wpAnyH_all hr hne fun i hi => ?_⟩
  obtain ⟨o, ho, hL, hw⟩ := (h i hi).ex
  let Q0 : Exit → Act → World → Prop := fun e a' w' => e = .normal ∧ ∃ ms' s', Rel w0 A ms' s' a' w' ∧ heldOk s' L ∧ WH P w0 A ops L fuel (listed.setIfInBounds i true) s' K
  have h1 : wpList P ops Q0 [o] a w := hw.run ms a w hr' Q0 fun ms' s' a' w' h1 h2 => ⟨rfl, ms', s', h1, h2⟩
  have fin : ∀ a' w', Q0 .normal a' w' → (∀ t, o.dst ≠ some t → a'.tmps.getD t undef = a.tmps.getD t undef) → HeldF L a0 w' ∧ wpAnyH P .any ops (QK w0 A K) (HeldF L a0) fuel (listed.setIfInBounds i true) a' w' := by
    rintro a' w' ⟨_, ms', s', g1, g2, g3⟩ g4
    have g5 : ∀ x ∈ L, a'.tmps.getD x.1 undef = a0.tmps.getD x.1 undef := fun x hx => (g4 _ (hL x hx)).trans (ha x hx)
    exact ⟨fun x hx b o hb => HeldF.of g1 g2 x hx b o (by rw [g5 x hx]; exact hb), g3.run ms' a' w' a0 g1 g5⟩
  have hnil : ∀ a' w', wpList P ops Q0 [] a' w' → Q0 .normal a' w' := fun a' w' h => by unfold wpList at h; exact h
  have hout : ∀ (a' : Act) (w' : World) (e : Exit), e ≠ .normal → ¬ Q0 e a' w' := fun _ _ _ h1 h2 => h1 h2.1
  unfold wpList at h1
  unfold wpOp
  simp only [ho]
  split
  · rename_i hwt
    rw [if_pos hwt] at h1
    rcases h1 with h1 | ⟨_, ⟨_, _, h1⟩⟩
    · exact Or.inl (wp_weak' (Oper.wp_mono (fun a' w' h2 => fin a' w' (hnil a' w' h2.1) h2.2) (wp_put hout h1)))
    · exact absurd h1.1 (by simp)
  · rename_i hwt
    rw [if_neg hwt] at h1
    refine fin _ _ (hnil _ _ h1) fun t ht => ?_
    cases hd : o.dst with
    | none => rfl
    | some d =>
      have : d ≠ t := fun e => ht (by rw [hd, e])
      simp only [Act.put, Array.getD_eq_getD_getElem?]
      rw [Array.getElem?_setIfInBounds_ne this]

def notIn (L : List (Tmp × Nat × Value)) : Option Tmp → Bool
  | none => true
  | some d => L.all fun x => !Nat.beq x.1 d
theorem notIn_spec {L : List (Tmp × Nat × Value)} {t : Option Tmp} (h : notIn L t = true) : ∀ x ∈ L, t ≠ some x.1 := by
  rintro x hx rfl
  have := List.all_eq_true.1 h x hx
  simp at this
theorem H_one {i : Nat} {o : Oper} (hr : rdy ops listed = [i]) (ho : ops[i]? = some o) (hL : notIn L o.dst = true) (h : WO P w0 A ops [o] s fun s' => heldOk s' L ∧ WH P w0 A ops L fuel (listed.setIfInBounds i true) s' K) : WH P w0 A ops L (fuel + 1) listed s K :=
  H_all ((rdy_eq _ _).trans hr) (by simp) fun j hj => by rw [List.mem_singleton] at hj; subst hj; exact ⟨o, ho, notIn_spec hL, h⟩
theorem H_two {i i' : Nat} {o o' : Oper} (hr : rdy ops listed = [i, i']) (ho : ops[i]? = some o) (ho' : ops[i']? = some o') (hL : notIn L o.dst = true) (hL' : notIn L o'.dst = true) (h : WO P w0 A ops [o] s fun s' => heldOk s' L ∧ WH P w0 A ops L fuel (listed.setIfInBounds i true) s' K)
    (h' : WO P w0 A ops [o'] s fun s' => heldOk s' L ∧ WH P w0 A ops L fuel (listed.setIfInBounds i' true) s' K) : WH P w0 A ops L (fuel + 1) listed s K :=
  H_all ((rdy_eq _ _).trans hr) (by simp) fun j hj => by
    simp only [List.mem_cons, List.not_mem_nil, or_false] at hj
    rcases hj with rfl | rfl
    · exact ⟨o, ho, notIn_spec hL, h⟩
    · exact ⟨o', ho', notIn_spec hL', h'⟩
theorem H_three {i i' i'' : Nat} {o o' o'' : Oper} (hr : rdy ops listed = [i, i', i'']) (ho : ops[i]? = some o) (ho' : ops[i']? = some o') (ho'' : ops[i'']? = some o'') (hL : notIn L o.dst = true) (hL' : notIn L o'.dst = true) (hL'' : notIn L o''.dst = true) (h : WO P w0 A ops [o] s fun s' => heldOk s' L ∧ WH P w0 A ops L fuel (listed.setIfInBounds i true) s' K)
    (h' : WO P w0 A ops [o'] s fun s' => heldOk s' L ∧ WH P w0 A ops L fuel (listed.setIfInBounds i' true) s' K) (h'' : WO P w0 A ops [o''] s fun s' => heldOk s' L ∧ WH P w0 A ops L fuel (listed.setIfInBounds i'' true) s' K) : WH P w0 A ops L (fuel + 1) listed s K :=
  H_all ((rdy_eq _ _).trans hr) (by simp) fun j hj => by
    simp only [List.mem_cons, List.not_mem_nil, or_false] at hj
    rcases hj with rfl | rfl | rfl
    · exact ⟨o, ho, notIn_spec hL, h⟩
    · exact ⟨o', ho', notIn_spec hL', h'⟩
    · exact ⟨o'', ho'', notIn_spec hL'', h''⟩
theorem idH {s : St} (h : WH P w0 A ops L fuel listed s K) : WH P w0 A ops L fuel listed s K := h

/-! ### Older values, read where they stand -/
variable {rest : List Oper} {dst : Tmp} {ty : TypeId} {pos : String} {after : Array Edge}
theorem R_indexOld {tab : Nat → Option TI} (hT : TabOk P tab) {t' : TypeId} {x i : Operand} {m : Nat} {xs : List (List D)} {j : Int} {r : List D} {e : TypeId} {agg : Bool} {size bytes : Nat} {zero : List Value} {k' : TK} {agg' : Bool} {bytes' : Nat} {zero' : List Value}
    (hx : evD (look sl) x = .old w0 A (.sh m xs)) (hi : evD (look sl) i = .lit (.int .i64 j)) (ht : tab t' = some ⟨.sl e, agg, size, bytes, zero⟩) (he : tab e = some ⟨k', agg', m, bytes', zero'⟩) (hd : Nat.blt dst n = true) (hrow : RowAt xs j r)
    (hk : WO P w0 A ops rest ⟨n, (dst, .sptr r) :: sl, hp⟩ K) : WO P w0 A ops (⟨some dst, .indexAddr t' x i, ty, pos, after, none⟩ :: rest) ⟨n, sl, hp⟩ K := by
  refine ⟨fun ms a w hr Q hq => ?_⟩
  refine wpList_plain rfl fun Kn hKn => ?_
  have h1 := unold1_ok hr (hr.ev_at hx) ⟨rfl, rfl⟩
  obtain ⟨v, h2, h3⟩ := index_ok (o := ⟨some dst, .indexAddr t' x i, ty, pos, after, none⟩) hT ht he rfl h1 (hr.ev_at hi) hrow
  exact upon_value h2 (hKn _ _ (hk.run ms _ w (Rel.put (t := some dst) hr h3 (dstOk_all (s := ⟨n, _, _⟩) (t := some dst) hd)) Q hq))
end
end Go.Proofs.Ytidfmgahnmpcdaa
