/- Symbolic states: calls that are handed memory of the call's own, to be read alone; append of scalars of another array of the call's own. No condition. -/
import Derived.Test.YtidfmgahnmpcdaaAbsM
set_option linter.unusedSimpArgs false
set_option linter.unusedVariables false
namespace Go.Proofs.Ytidfmgahnmpcdaa
open Go.ChangeShapes Go.WideShapes Go.ChangeAt Go.RowKit

/-- A cell as one that is read alone. -/
def cellV (hp : List Blk) : D → Option D
  | .lit v => some (.lit v)
  | .nil => some .nil
  | .sh n xs => some (.sh n xs)
  | .own i => match hp[i]? with
    | some (.arr _ n xs _) => some (.sh n xs)
    | some (.fr n xs) => some (.sh n xs)
    | _ => none
  | _ => none
def cellsVK {α : Type} (hp : List Blk) : List D → (List D → Option α) → Option α
  | [], k => k []
  | d :: ds, k => match cellV hp d with
    | some d' => cellsVK hp ds fun l => k (d' :: l)
    | none => none
/-- An argument as one that is read alone. -/
def argV {α : Type} (hp : List Blk) : D → (D → Option α) → Option α
  | .sptr ds, k => k (.sptr ds)
  | .ptr i o, k => match hp[i]? with
    | some (.cells _ ds) => dropK o ds fun ds' => cellsVK hp ds' fun l => k (.sptr l)
    | _ => none
  | .agg ds, k => cellsVK hp ds fun l => k (.agg l)
  | d, k => match cellV hp d with
    | some d' => k d'
    | none => none
def argsVK {α : Type} (hp : List Blk) : List D → (List D → Option α) → Option α
  | [], k => k []
  | d :: ds, k => argV hp d fun d' => argsVK hp ds fun l => k (d' :: l)
/-- Functions with what they captured, too. -/
def argF {α : Type} (hp : List Blk) : D → (D → Option α) → Option α
  | .fn f caps, k => argsVK hp caps fun l => k (.fn f l)
  | d, k => argV hp d k
def argsFK {α : Type} (hp : List Blk) : List D → (List D → Option α) → Option α
  | [], k => k []
  | d :: ds, k => argF hp d fun d' => argsFK hp ds fun l => k (d' :: l)
def rdFree : D → Bool
  | .lit _ => true
  | .nil => true
  | .own _ => true
  | _ => false
def rdFree2 : D → Bool
  | .agg ds => ds.all rdFree
  | d => rdFree d
/-- Nothing in it is read in memory that it does not bring along. -/
def noRd : D → Bool
  | .lit _ => true
  | .nil => true
  | .own _ => true
  | .agg ds => ds.all rdFree
  | .tup ds => ds.all rdFree2
  | _ => false

section
variable {P : Program} {w0 w w' : World} {A A' : Nat → Prop} {n : Nat} {sl : List (Nat × D)} {hp : List Blk} {ms mr : List Ent} {a : Act}
variable {ops : Array Oper} {rest : List Oper} {K : St → Prop} {x y : Operand} {dst : Tmp} {ty : TypeId} {pos : String} {after : Array Edge}

abbrev Lt (w : World) : Nat → Prop := fun k => k < w.heap.size

theorem cellV_ok (hr : Rel w0 A ms ⟨n, sl, hp⟩ a w) {d d' : D} {u : Value} (h : VX ms w (OkB w0.heap.size A ms w) d u) (hd : cellV hp d = some d') : ∃ bs, VR w d' u bs ∧ ∀ k ∈ bs, k < w.heap.size := by
  unfold cellV at hd
  split at hd
  · simp only [Option.some.injEq] at hd; subst hd
    obtain ⟨rfl, h1⟩ := h.lit_inv; exact ⟨[], .lit h1, by simp⟩
  · simp only [Option.some.injEq] at hd; subst hd
    rw [h.nil_inv]; exact ⟨[], .nil, by simp⟩
  · simp only [Option.some.injEq] at hd; subst hd
    obtain ⟨bs, h1, h2⟩ := h.sh_inv; exact ⟨bs, h1, fun k hk => (h2 k hk).1⟩
  · split at hd
    · rename_i hb
      simp only [Option.some.injEq] at hd; subst hd
      obtain ⟨e, hi, rfl, _⟩ := h.own_inv
      obtain ⟨bs, h1, h2⟩ := hr.view hi hb
      exact ⟨bs, h1, fun k hk => (h2 k hk).1⟩
    · rename_i hb
      simp only [Option.some.injEq] at hd; subst hd
      obtain ⟨e, hi, rfl, _⟩ := h.own_inv
      obtain ⟨_, h1, h2⟩ := hr.ents _ _ e hb hi
      exact ⟨e.nest, h1, fun k hk => (h2 k hk).lt⟩
    · simp at hd
  · simp at hd
theorem cellsVK_ok {α : Type} (hr : Rel w0 A ms ⟨n, sl, hp⟩ a w) : ∀ {ds : List D} {us : List Value} {k : List D → Option α} {r : α}, VXs ms w (OkB w0.heap.size A ms w) ds us → cellsVK hp ds k = some r → ∃ l bs, VRs w l us bs ∧ (∀ k ∈ bs, k < w.heap.size) ∧ k l = some r
  | [], _, _, _, .nil, h => ⟨[], [], .nil, by simp, h⟩
  | d :: ds, _, k, r, .cons h h', hk => by
    simp only [cellsVK] at hk
    split at hk
    · rename_i d' hd
      obtain ⟨bs, h1, h2⟩ := cellV_ok hr h hd
      obtain ⟨l, bs', h3, h4, h5⟩ := cellsVK_ok hr h' hk
      exact ⟨_, _, .cons h1 h3, fun k hk => (List.mem_append.1 hk).elim (h2 k) (h4 k), h5⟩
    · simp at hk
theorem argV_ok {α : Type} (hr : Rel w0 A ms ⟨n, sl, hp⟩ a w) {d : D} {u : Value} {k : D → Option α} {r : α} (h : VX ms w (OkB w0.heap.size A ms w) d u) (hk : argV hp d k = some r) : ∃ d', VX [] w (Lt w) d' u ∧ k d' = some r := by
  unfold argV at hk
  split at hk
  · obtain ⟨us, b, o, bs, rfl, h1, h2, h3, h4⟩ := h.sptr_inv
    exact ⟨_, .sptr h1 h2.1 (fun k hk => (h3 k hk).1) h4, hk⟩
  · rename_i i o
    obtain ⟨e, b, hi, ht, rfl⟩ := h.ptr_inv
    split at hk
    · rename_i T ds hb
      obtain ⟨b', us, rfl, h3, h4⟩ := hr.ents i _ e hb hi
      simp only [Option.some.injEq] at ht
      subst ht
      obtain ⟨h5, h6⟩ := dropK_eq _ _ _ hk
      obtain ⟨l, bs, h7, h8, h9⟩ := cellsVK_ok hr (h4.drop o) h5
      refine ⟨_, .sptr h7 ?_ h8 ?_, h9⟩
      · exact (Array.getElem?_eq_some_iff.1 h3).1
      · intro j hj
        simp only [List.length_drop] at hj
        simp [World.cell?, h3]
    · simp at hk
  · obtain ⟨us, rfl, h1⟩ := h.agg_inv
    obtain ⟨l, bs, h7, h8, h9⟩ := cellsVK_ok hr h1 hk
    exact ⟨_, .agg (VXs.of_rd h7 h8), h9⟩
  · split at hk
    · rename_i d' hd
      obtain ⟨bs, h1, h2⟩ := cellV_ok hr h hd
      exact ⟨d', .rd h1 h2, hk⟩
    · simp at hk
theorem argsVK_ok {α : Type} (hr : Rel w0 A ms ⟨n, sl, hp⟩ a w) : ∀ {ds : List D} {us : List Value} {k : List D → Option α} {r : α}, VXs ms w (OkB w0.heap.size A ms w) ds us → argsVK hp ds k = some r → ∃ l, VXs [] w (Lt w) l us ∧ k l = some r
  | [], _, _, _, .nil, h => ⟨[], .nil, h⟩
  | d :: ds, _, k, r, .cons h h', hk => by
    obtain ⟨d', h1, h2⟩ := argV_ok hr h hk
    obtain ⟨l, h3, h4⟩ := argsVK_ok hr h' h2
    exact ⟨_, .cons h1 h3, h4⟩
theorem argF_ok {α : Type} (hr : Rel w0 A ms ⟨n, sl, hp⟩ a w) {d : D} {u : Value} {k : D → Option α} {r : α} (h : VX ms w (OkB w0.heap.size A ms w) d u) (hk : argF hp d k = some r) : ∃ d', VX [] w (Lt w) d' u ∧ k d' = some r := by
  unfold argF at hk
  split at hk
  · obtain ⟨us, rfl, h1⟩ := h.fn_inv
    obtain ⟨l, h2, h3⟩ := argsVK_ok hr h1 hk
    exact ⟨_, .fn h2, h3⟩
  · exact argV_ok hr h hk
theorem argsFK_ok {α : Type} (hr : Rel w0 A ms ⟨n, sl, hp⟩ a w) : ∀ {ds : List D} {us : List Value} {k : List D → Option α} {r : α}, VXs ms w (OkB w0.heap.size A ms w) ds us → argsFK hp ds k = some r → ∃ l, VXs [] w (Lt w) l us ∧ k l = some r
  | [], _, _, _, .nil, h => ⟨[], .nil, h⟩
  | d :: ds, _, k, r, .cons h h', hk => by
    obtain ⟨d', h1, h2⟩ := argF_ok hr h hk
    obtain ⟨l, h3, h4⟩ := argsFK_ok hr h' h2
    exact ⟨_, .cons h1 h3, h4⟩

theorem noRd_cell {d : D} {v : Value} {Ok Ok' : Nat → Prop} {k : Nat} {ms' : List Ent} (hm : ∀ (i : Nat) (e : Ent), mr[i]? = some e → ms'[k + i]? = some e) (h : VX mr w' Ok d v) (hd : rdFree d = true) : VX ms' w' Ok' (d.shift k) v := by
  cases d <;> simp [rdFree] at hd
  · obtain ⟨rfl, h1⟩ := h.lit_inv; exact VX.of_lit h1
  · rw [h.nil_inv]; exact .rd .nil (by simp)
  · obtain ⟨e, h1, rfl, h2⟩ := h.own_inv; exact .own (hm _ _ h1) h2
theorem noRd_cells {Ok Ok' : Nat → Prop} {k : Nat} {ms' : List Ent} (hm : ∀ (i : Nat) (e : Ent), mr[i]? = some e → ms'[k + i]? = some e) : ∀ {ds : List D} {us : List Value}, VXs mr w' Ok ds us → ds.all rdFree = true → VXs ms' w' Ok' (D.shiftL k ds) us
  | [], _, .nil, _ => .nil
  | d :: ds, _, .cons h h', hd => by
    simp only [List.all_cons, Bool.and_eq_true] at hd
    exact .cons (noRd_cell hm h hd.1) (noRd_cells hm h' hd.2)
theorem noRd_ok {d : D} {v : Value} {Ok Ok' : Nat → Prop} {k : Nat} {ms' : List Ent} (hm : ∀ (i : Nat) (e : Ent), mr[i]? = some e → ms'[k + i]? = some e) (h : VX mr w' Ok d v) (hd : noRd d = true) : VX ms' w' Ok' (d.shift k) v := by
  have key : ∀ {ds : List D} {us : List Value}, VXs mr w' Ok ds us → (ds.all rdFree2) = true → VXs ms' w' Ok' (D.shiftL k ds) us := by
    intro ds
    induction ds with
    | nil => intro us h _; cases h; exact .nil
    | cons d ds ih =>
      intro us h hd
      cases h with
      | cons h h' =>
        simp only [List.all_cons, Bool.and_eq_true] at hd
        refine .cons ?_ (ih h' hd.2)
        cases d with
        | agg l =>
          obtain ⟨us, rfl, h1⟩ := h.agg_inv
          rw [D.shift]; exact .agg (noRd_cells hm h1 hd.1)
        | lit _ => exact noRd_cell hm h rfl
        | nil => exact noRd_cell hm h rfl
        | own _ => exact noRd_cell hm h rfl
        | _ => simp [rdFree2, rdFree] at hd
  cases d with
  | agg l =>
    obtain ⟨us, rfl, h1⟩ := h.agg_inv
    rw [D.shift]; exact .agg (noRd_cells hm h1 hd)
  | tup l =>
    obtain ⟨us, rfl, h1⟩ := h.tup_inv
    rw [D.shift]; exact .tup (key h1 hd)
  | lit _ => exact noRd_cell hm h rfl
  | nil => exact noRd_cell hm h rfl
  | own _ => exact noRd_cell hm h rfl
  | _ => simp [noRd] at hd

/-- A call that is handed memory of the call's own. -/
theorem R_callv {f : FuncId} {fo : Operand} {args : Array Operand} {tys : Array TypeId} {ds caps : List D} {d : D} {rh : List Blk} (hf : evD (look sl) fo = .fn f caps)
    (hds : mapK (evD (look sl)) args.toList (fun l => argsFK hp (l ++ caps) fun l => some l) = some ds) (hd : Nat.blt dst n = true) (hF : Fn P f ds d rh) (hno : noRd d = true) (hdeep : rh.all Blk.isDeep = true)
    (hk : WO P w0 A ops rest ⟨n, (dst, d.shift hp.length) :: sl, hp ++ rh⟩ K) : WO P w0 A ops (⟨some dst, .call ⟨.value fo, args, tys⟩, ty, pos, after, none⟩ :: rest) ⟨n, sl, hp⟩ K := by
  refine ⟨fun ms a w hr Q hq => ?_⟩
  refine wpList_plain rfl fun Kn hKn => ?_
  obtain ⟨cs, e1, hcs⟩ := (hr.ev_at hf).fn_inv
  have hds := mapK_eq hds
  have hv : VXs ms w (OkB w0.heap.size A ms w) (args.toList.map (evD (look sl)) ++ caps) (args.toList.map a.eval ++ cs) := (VXs.of_map fun x _ => hr.ev x).append hcs
  obtain ⟨l, h1, h2⟩ := argsFK_ok hr hv hds
  simp only [Option.some.injEq] at h2
  subst h2
  refine enter_call (run_call (o := ⟨some dst, .call ⟨.value fo, args, tys⟩, ty, pos, after, none⟩) rfl hF.plain e1) ((hF.calls (Lt w) w _ (fun k hk => hk) h1).mono ?_)
  rintro e w' ⟨v, mr, rfl, hpost⟩
  have hr' := hr.called hF.arrs (Or.inr hdeep) hpost
  have hlen := hr.len
  simp only at hlen
  have hval : VX (ms ++ mr) w' (OkB w0.heap.size A (ms ++ mr) w') (d.shift hp.length) v := noRd_ok (fun i e he => by rw [List.getElem?_append_right (by omega), hlen, Nat.add_sub_cancel_left]; exact he) hpost.val hno
  exact ⟨v, rfl, hKn _ _ (hk.run _ _ w' (Rel.put (t := some dst) hr' hval (dstOk_all (s := ⟨n, _, _⟩) (t := some dst) hd)) Q hq)⟩

/-- append of scalars of another array of the call's own. -/
theorem R_appendOwn {tab : Nat → Option TI} (hT : TabOk P tab) {i k m : Nat} {T T2 t : TypeId} {xs ys : List (List D)} {di dk : Bool} {agg : Bool} {size bytes : Nat} {zero : List Value}
    {k' : TK} {agg' : Bool} {bytes' : Nat} {zero' : List Value} {sl' : List (Nat × D)} {hp' : List Blk} (hx : evD (look sl) x = .own i) (hy : evD (look sl) y = .own k) (hb : hp[i]? = some (.arr T m xs di)) (hc : hp[k]? = some (.arr T2 m ys dk)) (ht : tab t = some ⟨.sl T, agg, size, bytes, zero⟩) (hT' : tab T = some ⟨k', agg', m, bytes', zero'⟩)
    (hz : Nat.beq zero'.length m = true) (hm : Nat.blt 0 m = true) (hby : Nat.ble bytes' 1024 = true) (hd : Nat.blt dst n = true) (hs : killK (isI i) sl (fun l => some l) = some sl') (hh : newK (isI i) noneI i (.arr T m (xs ++ ys) di) 0 hp (fun l => some l) = some hp')
    (hf : Flat ys) (hlen : xs.length + ys.length ≤ 4294967296) (hk : WO P w0 A ops rest ⟨n, (dst, .own i) :: sl', hp'⟩ K) :
    WO P w0 A ops (⟨some dst, .call ⟨.builtin .append, #[x, y], #[t, t]⟩, ty, pos, after, none⟩ :: rest) ⟨n, sl, hp⟩ K := by
  refine ⟨fun ms a w hr Q hq => ?_⟩
  refine wpList_plain rfl fun Kn hKn => ?_
  obtain ⟨e, hi, e1, hsl⟩ := (hr.ev_at hx).own_inv
  obtain ⟨ek, hik, e2, _⟩ := (hr.ev_at hy).own_inv
  obtain ⟨bs, hv, hok⟩ := hr.view hik hc
  obtain ⟨bn, hsrc, hsub⟩ := src_of_vr hv
  have hbn : bn = [] := by
    obtain ⟨_, ⟨_, _, h⟩ | ⟨_, _, news, _, h, _⟩⟩ := hsrc
    · exact h
    · exact VRs.flat (fun d hd => by obtain ⟨r, hr, hd⟩ := List.mem_flatten.1 hd; exact hf r hr d hd) h
  subst hbn
  obtain ⟨v', w', hrun, ms', r1, e', r2, r3, r4⟩ := hr.append hT (p := isI i) (c := noneI) (ty := ty) ht hT' (Nat.eq_of_beq_eq_true hz) (by simpa [Nat.blt_eq] using hm) (Nat.le_of_ble_eq_true hby) hi hb rfl (by simp [isI]) (fun j h => by simp [noneI] at h) hlen hsrc (nk := []) (by simp) (by simp) (d' := di)
    (by cases di with
      | true => exact Or.inl ⟨rfl, rfl, rfl, by simp⟩
      | false => exact Or.inr ⟨rfl, by simp⟩)
  have hs' := killK_eq hs; have hh' := newK_eq hh
  simp only [Option.some.injEq] at hs' hh'
  subst hs'; subst hh'
  refine upon_value (run_append_op (ρ' := a.eval) rfl (by rw [e1, e2]; exact hrun)) (hKn _ _ (hk.run ms' _ w' (Rel.put (t := some dst) r1 (by rw [← r3]; exact VX.own r2 (by rw [r3]; exact r4)) (dstOk_all (s := ⟨n, _, _⟩) (t := some dst) hd)) Q hq))
end
end Go.Proofs.Ytidfmgahnmpcdaa
