/- Symbolic states: functions by what they hand back; calls; new variables; states that tell less. No condition. -/
import Derived.Test.YtidfmgahnmpcdaaAbsG
set_option linter.unusedSimpArgs false
set_option linter.unusedVariables false
namespace Go.Proofs.Ytidfmgahnmpcdaa
open Go.ChangeShapes Go.WideShapes Go.ChangeAt Go.RowKit

def Blk.isArr : Blk → Bool
  | .arr _ _ _ _ => true
  | .fr _ _ => true
  | .cust _ => true
  | _ => false
def Blk.isDeep : Blk → Bool
  | .arr _ _ _ d => d
  | .fr _ _ => true
  | .cust _ => true
  | _ => false

/-- What a call hands back: the value d, over new memory rh. -/
structure Post (w : World) (A : Nat → Prop) (d : D) (rh : List Blk) (ms : List Ent) (v : Value) (w' : World) : Prop where
  ext : Ext w w'
  len : ms.length = rh.length
  nodup : (owned ms).Nodup
  range : ∀ k ∈ owned ms, w.heap.size ≤ k ∧ k < w'.heap.size
  ents : ∀ (i : Nat) (b : Blk) (e : Ent), rh[i]? = some b → ms[i]? = some e → EntR w.heap.size ms w' (OkB w.heap.size A ms w') b e
  val : VX ms w' (OkB w.heap.size A ms w') d v

/-- The function f, called with values that read as ds, in whatever world, returns d. -/
structure Fn (P : Program) (f : FuncId) (ds : List D) (d : D) (rh : List Blk) : Prop where
  plain : ∀ args w, (callFunc f args).run P w = .ok (.enter f args) w
  arrs : rh.all Blk.isArr = true
  calls : ∀ (A : Nat → Prop) (w : World) (us : List Value), (∀ k, A k → k < w.heap.size) → VXs [] w A ds us → Calls P f us.toArray w fun e w' => ∃ v ms, e = .returned v ∧ Post w A d rh ms v w'

/-! ### Values without entries -/
mutual
def D.plain : D → Bool
  | .own _ => false
  | .vec _ _ => false
  | .ptr _ _ => false
  | .eptr _ _ _ _ => false
  | .agg ds => D.plainL ds
  | .tup ds => D.plainL ds
  | .fn _ ds => D.plainL ds
  | _ => true
def D.plainL : List D → Bool
  | [] => true
  | d :: ds => match d.plain with | true => D.plainL ds | false => false
end
mutual
theorem D.plain_uses : ∀ {d : D} (i : Nat), d.plain = true → d.uses i = false
  | .no, _, _ => rfl
  | .lit _, _, _ => rfl
  | .nil, _, _ => rfl
  | .sh _ _, _, _ => rfl
  | .sptr _, _, _ => rfl
  | .old _ _ _, _, _ => rfl
  | .val _, _, _ => rfl
  | .own _, _, h => by simp [D.plain] at h
  | .vec _ _, _, h => by simp [D.plain] at h
  | .ptr _ _, _, h => by simp [D.plain] at h
  | .eptr _ _ _ _, _, h => by simp [D.plain] at h
  | .agg ds, i, h => by rw [D.plain] at h; rw [D.uses]; exact D.plainL_uses i h
  | .tup ds, i, h => by rw [D.plain] at h; rw [D.uses]; exact D.plainL_uses i h
  | .fn _ ds, i, h => by rw [D.plain] at h; rw [D.uses]; exact D.plainL_uses i h
theorem D.plainL_uses : ∀ {ds : List D} (i : Nat), D.plainL ds = true → D.usesL i ds = false
  | [], _, _ => rfl
  | d :: ds, i, h => by
    rw [D.plainL] at h
    cases hd : d.plain
    · rw [hd] at h; exact Bool.noConfusion h
    · rw [hd] at h
      rw [D.usesL, D.plain_uses i hd, D.plainL_uses i h]; rfl
end

/-! ### Entries under other numbers -/
mutual
def D.shift (k : Nat) : D → D
  | .own i => .own (k + i)
  | .vec i len => .vec (k + i) len
  | .ptr i o => .ptr (k + i) o
  | .eptr i n j o => .eptr (k + i) n j o
  | .agg ds => .agg (D.shiftL k ds)
  | .tup ds => .tup (D.shiftL k ds)
  | .fn f ds => .fn f (D.shiftL k ds)
  | d => d
def D.shiftL (k : Nat) : List D → List D
  | [] => []
  | d :: ds => d.shift k :: D.shiftL k ds
end
mutual
theorem VX.shift {ms ms' : List Ent} {w w' : World} {Ok Ok' : Nat → Prop} (k : Nat) (hk : ∀ k, Ok k → w'.heap[k]? = w.heap[k]? ∧ Ok' k) (hm : ∀ (i : Nat) (e : Ent), ms[i]? = some e → ms'[k + i]? = some e) : ∀ {d : D} {u : Value}, VX ms w Ok d u → VX ms' w' Ok' (d.shift k) u
  | _, _, .no => .no
  | _, _, .rd (d := .lit _) h h' => .rd (h.keep fun k m => (hk k (h' k m)).1) fun k m => (hk k (h' k m)).2
  | _, _, .rd (d := .nil) h h' => .rd (h.keep fun k m => (hk k (h' k m)).1) fun k m => (hk k (h' k m)).2
  | _, _, .rd (d := .sh _ _) h h' => .rd (h.keep fun k m => (hk k (h' k m)).1) fun k m => (hk k (h' k m)).2
  | _, _, .own h h' => .own (hm _ _ h) h'
  | _, _, .vec h h' => .vec (hm _ _ h) h'
  | _, _, .ptr h h' => .ptr (hm _ _ h) h'
  | _, _, .eptr h h' => .eptr (hm _ _ h) h'
  | _, _, .sptr h h1 h2 h3 => .sptr (h.keep fun k m => (hk k (h2 k m)).1) (hk _ h1).2 (fun k m => (hk k (h2 k m)).2) fun j hj => by rw [cell_of_heap (hk _ h1).1]; exact h3 j hj
  | _, _, .agg h => by rw [D.shift]; exact .agg (VXs.shift k hk hm h)
  | _, _, .tup h => by rw [D.shift]; exact .tup (VXs.shift k hk hm h)
  | _, _, .fn h => by rw [D.shift]; exact .fn (VXs.shift k hk hm h)
  | _, _, .old h h' => .old h h'
  | _, _, .val => .val
theorem VXs.shift {ms ms' : List Ent} {w w' : World} {Ok Ok' : Nat → Prop} (k : Nat) (hk : ∀ k, Ok k → w'.heap[k]? = w.heap[k]? ∧ Ok' k) (hm : ∀ (i : Nat) (e : Ent), ms[i]? = some e → ms'[k + i]? = some e) : ∀ {ds : List D} {us : List Value}, VXs ms w Ok ds us → VXs ms' w' Ok' (D.shiftL k ds) us
  | _, _, .nil => .nil
  | _, _, .cons h h' => .cons (VX.shift k hk hm h) (VXs.shift k hk hm h')
end

section
variable {P : Program} {w0 w w' : World} {A A' : Nat → Prop} {s : St} {ms : List Ent} {a : Act}

theorem ownsRow_base {base base' : Nat} {e : TypeId} {size : Nat} {v : Value} {n : Nat} {xs : List Value} (h : w.ownsRow base e size v n xs) (hb : base' ≤ base) : w.ownsRow base' e size v n xs := by
  obtain ⟨h1, h2⟩ := h
  refine ⟨h1, ?_⟩
  rcases h2 with h2 | ⟨g, cap, cur, rfl, hg, r⟩
  · exact Or.inl h2
  · exact Or.inr ⟨g, cap, cur, rfl, by omega, r⟩

/-- Behind a call: its new memory becomes the caller's. -/
theorem Rel.called (h : Rel w0 A ms s a w) {d : D} {rh : List Blk} {mr : List Ent} {v : Value} (harr : rh.all Blk.isArr = true) (hA : (∀ k, A' k → OkB w0.heap.size A ms w k) ∨ rh.all Blk.isDeep = true)
    (hp : Post w A' d rh mr v w') : Rel w0 A (ms ++ mr) ⟨s.n, s.slots, s.heap ++ rh⟩ a w' := by
  have hb := h.ext.size
  refine h.grow hp.ext mr rh hp.len hp.nodup hp.range fun i b e hi he => ?_
  have hE := hp.ents i b e hi he
  have hab := (List.all_eq_true.1 harr) b (List.mem_of_getElem? hi)
  cases b with
  | gone => simp [Blk.isArr] at hab
  | cells t ds => simp [Blk.isArr] at hab
  | fr n xs => exact hE
  | cust R => exact hE
  | arr t n xs deep =>
    obtain ⟨us, bs, h1, h2, h3, h4, h5⟩ := hE
    refine ⟨us, bs, ownsRow_base h1 hb, h2, h3, h4, ?_⟩
    cases deep with
    | true => exact h5
    | false =>
      rcases hA with hA | hA
      · refine ⟨h5.1, fun k hk => ?_⟩
        obtain ⟨k1, k2, k3⟩ := h5.2 k hk
        refine ⟨k1, ?_, ?_⟩
        · rcases k2 with k2 | k2
          · exact Or.inl (by omega)
          · exact (hA k k2).2.1
        · rw [tops_append, List.mem_append]
          rintro (k4 | k4)
          · rcases k2 with k2 | k2
            · have := h.range k (tops_owned k4); omega
            · exact (hA k k2).2.2 k4
          · exact k3 k4
      · have := (List.all_eq_true.1 hA) _ (List.mem_of_getElem? hi)
        simp [Blk.isDeep] at this

theorem Rel.called_val (h : Rel w0 A ms s a w) {d : D} {rh : List Blk} {mr : List Ent} {v : Value} (hA : ∀ k, A' k → OkB w0.heap.size A ms w k) (hp : Post w A' d rh mr v w') : VX (ms ++ mr) w' (OkB w0.heap.size A (ms ++ mr) w') (d.shift s.heap.length) v := by
  have hb := h.ext.size
  refine hp.val.shift s.heap.length ?_ ?_
  · intro k ⟨k1, k2, k3⟩
    refine ⟨rfl, k1, ?_, ?_⟩
    · rcases k2 with k2 | k2
      · exact Or.inl (by omega)
      · exact (hA k k2).2.1
    · rw [tops_append, List.mem_append]
      rintro (k4 | k4)
      · rcases k2 with k2 | k2
        · have := h.range k (tops_owned k4); omega
        · exact (hA k k2).2.2 k4
      · exact k3 k4
  · intro i e he
    rw [List.getElem?_append_right (by rw [h.len]; omega), h.len]
    rw [Nat.add_sub_cancel_left]; exact he

/-! ### Calls -/
variable {ops : Array Oper} {rest : List Oper} {o : Oper} {K : St → Prop}

theorem enter_call {a : Act} {w : World} {f : FuncId} {args : Array Value} {Kn : Act → World → Prop} {Q' : Exit → Act → World → Prop} (h : (execOp a.eval o).run P w = .ok (.enter f args) w) (hc : Calls P f args w fun e w' => ∃ v, e = .returned v ∧ Kn (a.put o.dst v) w') : o.wp P a w Kn Q' := by
  unfold Oper.wp; rw [h]
  refine hc.mono ?_
  rintro e w' ⟨v, rfl, hk⟩
  exact hk

theorem run_call {f : FuncId} {fo : Operand} {args : Array Operand} {tys : Array TypeId} {ρ' : Operand → Value} {caps : List Value} (ho : o.op = .call ⟨.value fo, args, tys⟩) (hp : ∀ args w, (callFunc f args).run P w = .ok (.enter f args) w) (hf : ρ' fo = .func (.func f) #[] caps.toArray) :
    (execOp ρ' o).run P w = .ok (.enter f ((args.toList.map ρ') ++ caps).toArray) w := by
  simp only [execOp, ho, resolve, hf, Deferred.ofValue]
  have e : (args.map ρ' ++ caps.toArray) = ((args.toList.map ρ') ++ caps).toArray := by
    rw [← List.append_toArray, ← Array.toList_map, Array.toArray_toList]
  simp [invoke, e, hp]

theorem VXs.plain {Ok Ok' : Nat → Prop} {ds : List D} {us : List Value} (h : VXs ms w Ok ds us) (hp : D.plainL ds = true) (hk : ∀ k, Ok k → Ok' k) : VXs [] w Ok' ds us :=
  VXs.mono (fun k hk' => ⟨rfl, hk k hk'⟩) h fun i e hu _ => by rw [D.plainL_uses i hp] at hu; exact Bool.noConfusion hu

/-- A call of a function by its contract; the arguments are read alone. -/
theorem WO_call {f : FuncId} {fo : Operand} {args : Array Operand} {tys : Array TypeId} {ds caps : List D} {d : D} {rh : List Blk} (hg : o.guard = none) (ho : o.op = .call ⟨.value fo, args, tys⟩) (hf : evD s.get fo = .fn f caps)
    (hds : mapK (evD s.get) args.toList (fun l => some (l ++ caps)) = some ds) (hp : D.plainL ds = true) (hd : dstOk s o.dst = true) (hF : Fn P f ds d rh)
    (hk : WO P w0 A ops rest (St.put ⟨s.n, s.slots, s.heap ++ rh⟩ o.dst (d.shift s.heap.length)) K) : WO P w0 A ops (o :: rest) s K := by
  refine ⟨fun ms a w hr Q hq => ?_⟩
  refine wpList_plain hg fun Kn hKn => ?_
  obtain ⟨cs, e1, hcs⟩ := (hr.ev_at hf).fn_inv
  have hds := mapK_eq hds
  simp only [Option.some.injEq] at hds
  subst hds
  have hv : VXs ms w (OkB w0.heap.size A ms w) (args.toList.map (evD s.get) ++ caps) (args.toList.map a.eval ++ cs) := (VXs.of_map fun x _ => hr.ev x).append hcs
  refine enter_call (run_call ho hF.plain e1) ((hF.calls (OkB w0.heap.size A ms w) w _ (fun k hk => hk.1) (hv.plain hp fun _ h => h)).mono ?_)
  rintro e w' ⟨v, mr, rfl, hpost⟩
  refine ⟨v, rfl, hKn _ _ (hk.run _ _ w' (Rel.put (hr.called hF.arrs (Or.inl fun _ h => h) hpost) (hr.called_val (fun _ h => h) hpost) (dstOk_all hd)) Q hq)⟩

/-! ### New variables -/
theorem WO_box {t : TypeId} {x : Operand} {ds : List D} (hg : o.guard = none) (ho : o.op = .box t x) (hx : cellsD (evD s.get x) = some ds) (hd : dstOk s o.dst = true)
    (hk : WO P w0 A ops rest (St.put ⟨s.n, s.slots, s.heap ++ [.cells t ds]⟩ o.dst (.ptr s.heap.length 0)) K) : WO P w0 A ops (o :: rest) s K := by
  refine ⟨fun ms a w hr Q hq => ?_⟩
  refine wpList_plain hg fun Kn hKn => ?_
  obtain ⟨us, e1, hv⟩ := cellsD_ok (hr.ev x) hx
  have hb := hr.box (t := t) hv
  have hrun : (execOp a.eval o).run P w = .ok (.value (.pointer (some ⟨w.heap.size, 0, none⟩))) (w.alloc (.cells us.toArray t (0, 0))) := by
    simp only [execOp, ho, Instr.box, newVar, newRow, newObj, e1]; rfl
  refine upon_value hrun (hKn _ _ (hk.run _ _ _ (Rel.put hb (.ptr (e := ⟨.pointer (some ⟨w.heap.size, 0, none⟩), some w.heap.size, []⟩) ?_ rfl) (dstOk_all hd)) Q hq))
  rw [List.getElem?_append_right (by rw [hr.len]; exact Nat.le_refl _), hr.len]; simp

theorem constK_list : ∀ {vs : List Value} {r : List D}, constK vs (fun l => some l) = some r → VXs ms w A r vs
  | vs, r, h => by
    have gen : ∀ (vs : List Value) (k : List D → Option (List D)) (r : List D), constK vs k = some r → ∃ ds, VXs ms w A ds vs ∧ k ds = some r := by
      intro vs
      induction vs with
      | nil => intro k r h; exact ⟨[], .nil, h⟩
      | cons v vs ih =>
        intro k r h
        obtain ⟨ds, h1, h2⟩ := ih _ _ (forceK_eq h)
        exact ⟨_, .cons (constD_ok v) h1, h2⟩
    obtain ⟨ds, h1, h2⟩ := gen _ _ _ h
    simp only [Option.some.injEq] at h2
    subst h2; exact h1

theorem WO_alloc {tab : Nat → Option TI} (hT : TabOk P tab) {t : TypeId} {ds : List D} {k : TK} {agg : Bool} {size bytes : Nat} {zero : List Value} (hg : o.guard = none) (ho : o.op = .alloc t) (ht : tab t = some ⟨k, agg, size, bytes, zero⟩) (hz : constK zero (fun l => some l) = some ds) (hd : dstOk s o.dst = true)
    (hk : WO P w0 A ops rest (St.put ⟨s.n, s.slots, s.heap ++ [.cells t ds]⟩ o.dst (.ptr s.heap.length 0)) K) : WO P w0 A ops (o :: rest) s K := by
  refine ⟨fun ms a w hr Q hq => ?_⟩
  refine wpList_plain hg fun Kn hKn => ?_
  obtain ⟨inf, td, z, h1, h2, h3, h4, h5, h6, h7, h8⟩ := hT.get ht
  have hb := hr.box (t := t) (constK_list hz)
  have hz8 : z.cells = zero.toArray := by rw [← h8]
  have hrun : (execOp a.eval o).run P w = .ok (.value (.pointer (some ⟨w.heap.size, 0, none⟩))) (w.alloc (.cells zero.toArray t (0, 0))) := by
    simp only [execOp, ho, Instr.alloc, Sem.run_bind, run_zero h1 h3, Result.andThen, newVar, newRow, newObj, hz8]; rfl
  refine upon_value hrun (hKn _ _ (hk.run _ _ _ (Rel.put hb (.ptr (e := ⟨.pointer (some ⟨w.heap.size, 0, none⟩), some w.heap.size, []⟩) ?_ rfl) (dstOk_all hd)) Q hq))
  rw [List.getElem?_append_right (by rw [hr.len]; exact Nat.le_refl _), hr.len]; simp

variable {n : Nat} {sl : List (Nat × D)} {hp : List Blk} {x : Operand} {dst : Tmp} {ty : TypeId} {pos : String} {after : Array Edge}
theorem R_call {f : FuncId} {fo : Operand} {args : Array Operand} {tys : Array TypeId} {ds caps : List D} {d : D} {rh : List Blk} (hf : evD (look sl) fo = .fn f caps)
    (hds : mapK (evD (look sl)) args.toList (fun l => some (l ++ caps)) = some ds) (hp' : D.plainL ds = true) (hd : Nat.blt dst n = true) (hF : Fn P f ds d rh)
    (hk : WO P w0 A ops rest ⟨n, (dst, d.shift hp.length) :: sl, hp ++ rh⟩ K) : WO P w0 A ops (⟨some dst, .call ⟨.value fo, args, tys⟩, ty, pos, after, none⟩ :: rest) ⟨n, sl, hp⟩ K := WO_call rfl rfl hf hds hp' hd hF hk
theorem R_box {t : TypeId} {ds : List D} (hx : cellsD (evD (look sl) x) = some ds) (hd : Nat.blt dst n = true)
    (hk : WO P w0 A ops rest ⟨n, (dst, .ptr hp.length 0) :: sl, hp ++ [.cells t ds]⟩ K) : WO P w0 A ops (⟨some dst, .box t x, ty, pos, after, none⟩ :: rest) ⟨n, sl, hp⟩ K := WO_box rfl rfl hx hd hk
theorem R_alloc {tab : Nat → Option TI} (hT : TabOk P tab) {t : TypeId} {ds : List D} {k : TK} {agg : Bool} {size bytes : Nat} {zero : List Value} (ht : tab t = some ⟨k, agg, size, bytes, zero⟩) (hz : constK zero (fun l => some l) = some ds) (hd : Nat.blt dst n = true)
    (hk : WO P w0 A ops rest ⟨n, (dst, .ptr hp.length 0) :: sl, hp ++ [.cells t ds]⟩ K) : WO P w0 A ops (⟨some dst, .alloc t, ty, pos, after, none⟩ :: rest) ⟨n, sl, hp⟩ K := WO_alloc hT rfl rfl ht hz hd hk
end
end Go.Proofs.Ytidfmgahnmpcdaa
