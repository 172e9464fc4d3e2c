/- Functions that hand back the address of a variable of their own, and an array that lies in it. No condition. -/
import Derived.Test.YtcbfpeplcbgpjaaRet
set_option linter.unusedSimpArgs false
set_option linter.unusedVariables false
namespace Go.Proofs.Ytcbfpeplcbgpjaa
open Go.ChangeShapes Go.WideShapes Go.ChangeAt Go.RowKit

/-- The function f, called with values that read as ds, hands back the address of cells of its own that read as cs (element 1 there: the array). -/
structure FnB (P : Program) (f : FuncId) (ds : List D) (T : TypeId) (cs : List D) (Te : TypeId) (m : Nat) (xs : List (List D)) : Prop where
  plain : ∀ args w, (callFunc f args).run P w = .ok (.enter f args) w
  calls : ∀ (A : Nat → Prop) (w : World) (us : List Value), (∀ k, A k → k < w.heap.size) → VXs [] w A ds us → Calls P f us.toArray w fun e w' => ∃ v ms, e = .returned v ∧ Post w A (.ptr 0 0) [.cells T cs, .arr Te m xs true] ms v w'
/-- What the cells tell: nothing, nil, or that the array lies there. -/
def boxL (j : Nat) : List D → List D → Prop
  | [], l => match l with | [] => True | _ => False
  | d :: ds, l => match l with
    | d' :: ds' => (match d' with | .no => True | .nil => (match d with | .nil => True | _ => False) | .own k => (match d with | .own i => i = j ∧ k = 1 | _ => False) | _ => False) ∧ boxL j ds ds'
    | [] => False
section
variable {P : Program} {w0 w w' : World} {A A' : Nat → Prop} {s : St} {ms : List Ent} {a : Act}
theorem boxL_ok {Ok Ok' : Nat → Prop} {j : Nat} {ms' : List Ent} (hm : ∀ e, ms[j]? = some e → ms'[1]? = some e) : ∀ {ds ds' : List D} {us : List Value}, boxL j ds ds' → VXs ms w Ok ds us → VXs ms' w Ok' ds' us
  | [], l, _, h, .nil => by cases l with | nil => exact .nil | cons _ _ => exact h.elim
  | d :: ds, [], _, h, _ => h.elim
  | d :: ds, d' :: ds', _, ⟨h1, h2⟩, .cons h3 h4 => by
    refine .cons ?_ (boxL_ok hm h2 h4)
    cases d' with
    | no => exact .no
    | nil =>
      cases d with
      | nil => rw [h3.nil_inv]; exact .rd .nil (by simp)
      | _ => exact h1.elim
    | own k =>
      cases d with
      | own i =>
        obtain ⟨rfl, rfl⟩ := h1
        obtain ⟨e, h5, rfl, h6⟩ := h3.own_inv
        exact .own (hm e h5) h6
      | _ => exact h1.elim
    | _ => exact h1.elim
theorem Rel.postB (hr : Rel w0 A ms s a w) {i j : Nat} {T Te : TypeId} {ds cs : List D} {m : Nat} {xs : List (List D)} {v : Value} (hi : s.heap[i]? = some (.cells T ds)) (hj : s.heap[j]? = some (.arr Te m xs true)) (hij : i ≠ j) (hc : boxL j ds cs) (hv : VX ms w (OkB w0.heap.size A ms w) (.ptr i 0) v) : ∃ mr, Post w0 A (.ptr 0 0) [.cells T cs, .arr Te m xs true] mr v w := by
  have hil : i < ms.length := by rw [hr.len]; exact (List.getElem?_eq_some_iff.1 hi).1
  have hjl : j < ms.length := by rw [hr.len]; exact (List.getElem?_eq_some_iff.1 hj).1
  obtain ⟨e1, he1⟩ : ∃ e, ms[i]? = some e := ⟨_, List.getElem?_eq_getElem hil⟩
  obtain ⟨e2, he2⟩ : ∃ e, ms[j]? = some e := ⟨_, List.getElem?_eq_getElem hjl⟩
  obtain ⟨b, us, q1, q2, q3⟩ := hr.ents i _ e1 hi he1
  obtain ⟨us2, bs, g1, g2, g3, g4, g5⟩ := hr.ents j _ e2 hj he2
  have hn : (owned [e1, e2]).Nodup := by
    have := pick_nodup (ms := ms) hr.nodup (js := [some i, some j]) (by simp [hij])
    simpa [pickE, he1, he2] using this
  refine ⟨[e1, e2], hr.ext, rfl, hn, ?_, ?_, ?_⟩
  · intro k hk
    simp only [owned, List.flatMap_cons, List.flatMap_nil, List.append_nil, List.mem_append] at hk
    rcases hk with hk | hk
    · exact hr.range k (ent_owned he1 (by simpa [List.mem_append] using hk))
    · exact hr.range k (ent_owned he2 (by simpa [List.mem_append] using hk))
  · intro q b' e hb' he
    match q with
    | 0 =>
      simp at hb' he; subst hb'; subst he
      refine ⟨b, us, q1, q2, boxL_ok (fun e he => ?_) hc q3⟩
      rw [he2] at he; simpa using he
    | 1 =>
      simp at hb' he; subst hb'; subst he
      exact ⟨us2, bs, g1, g2, g3, g4, g5⟩
    | q + 2 => simp at hb'
  · obtain ⟨e, b', p1, p2, p3⟩ := hv.ptr_inv
    rw [he1] at p1; cases p1
    rw [p3]
    exact .ptr (e := e1) rfl p2
/-- What the walk of such a function ends in. -/
def RetB (rs : Array ResultVar) (T : TypeId) (cs : List D) (Te : TypeId) (m : Nat) (xs : List (List D)) (s : St) : Prop := ∃ i j ds, retD s rs.toList = some (.ptr i 0) ∧ s.heap[i]? = some (.cells T ds) ∧ s.heap[j]? = some (.arr Te m xs true) ∧ i ≠ j ∧ boxL j ds cs
inductive retB (rs : Array ResultVar) (T : TypeId) (cs : List D) (Te : TypeId) (m : Nat) (xs : List (List D)) : Exit → St → Prop
  | r {s : St} : RetB rs T cs Te m xs s → retB rs T cs Te m xs .ret s
  | n {s : St} : RetB rs T cs Te m xs s → retB rs T cs Te m xs .normal s
theorem FnB_of {f : FuncId} {fn : Func} {c : Code} {ds : List D} {T : TypeId} {cs : List D} {Te : TypeId} {m : Nat} {xs : List (List D)} (hf : P.funcs[f]? = some fn) (hb : fn.body = some c) (hname : (fn.name == "runtime.NumGoroutine") = false) (hn : Nat.ble ds.length fn.ntmps = true)
    (h : ∀ w0 A, Given w0 A ds → W P w0 A c ⟨fn.ntmps, argSlots 0 ds, []⟩ (retB fn.results T cs Te m xs)) : FnB P f ds T cs Te m xs := by
  refine ⟨?_, ?_⟩
  · intro args w
    have h1 : ¬ fn.name = "runtime.NumGoroutine" := by simpa using hname
    have h2 : ¬ fn.body = none := by rw [hb]; simp
    simp [callFunc, program, Sem.run, go_sem, hf, h1, h2]
  · intro A w us hA hus
    have hl := hus.len
    have hn' : ds.length ≤ fn.ntmps := Nat.le_of_ble_eq_true hn
    refine calls_of_wp hf hb (Code.wp_mono ?_ ((h w A ⟨us, hus⟩).run [] { tmps := us.toArray ++ Array.replicate (fn.ntmps - us.toArray.size) undef, defers := [] } w ?_))
    · rintro e a' w' ⟨ms, s, hr, hq⟩
      have key : RetB fn.results T cs Te m xs s → a'.defers = [] ∧ ∃ v, (results fn a'.tmps).run P w' = .ok v w' ∧ ∃ v' ms, Ending.returned v = .returned v' ∧ Post w A (.ptr 0 0) [.cells T cs, .arr Te m xs true] ms v' w' := by
        rintro ⟨i, j, ds, h1, h2, h3, h4, h5⟩
        obtain ⟨v, h6, h7⟩ := results_ok (P := P) h1 hr
        obtain ⟨mr, h8⟩ := hr.postB h2 h3 h4 h5 h7
        exact ⟨hr.defers, v, h6, v, mr, rfl, h8⟩
      cases hq with
      | r h => exact key h
      | n h => exact key h
    · refine ⟨Ext.refl _, hA, by simp; omega, rfl, rfl, by simp [owned], by simp [owned], by simp, fun t => ?_⟩
      refine look_arg (List.replicate (fn.ntmps - us.length) undef) (VXs.mono (ms' := []) (w' := w) (Ok' := OkB w.heap.size A [] w) (fun k hk => ⟨rfl, hA k hk, Or.inr hk, by simp [tops]⟩) hus fun _ _ _ h => h) 0 t _ fun _ => ?_
      have e : (us.toArray ++ Array.replicate (fn.ntmps - us.toArray.size) undef) = (us ++ List.replicate (fn.ntmps - us.length) undef).toArray := by
        rw [← List.append_toArray, List.size_toArray, List.toArray_replicate]
      rw [e]; simp [Array.getD_eq_getD_getElem?, List.getD_eq_getElem?_getD]
theorem Rel.calledB (h : Rel w0 A ms s a w) {d : D} {T : TypeId} {cs : List D} {Te : TypeId} {m : Nat} {xs : List (List D)} {mr : List Ent} {v : Value} (hA : ∀ k, A' k → OkB w0.heap.size A ms w k)
    (hp : Post w A' d [.cells T cs, .arr Te m xs true] mr v w') : Rel w0 A (ms ++ mr) ⟨s.n, s.slots, s.heap ++ [.cells T (D.shiftL s.heap.length cs), .arr Te m xs true]⟩ a w' := by
  have hb := h.ext.size
  refine h.grow hp.ext mr _ (by simpa using hp.len) hp.nodup hp.range fun i b e hi he => ?_
  match i with
  | 0 =>
    simp at hi; subst hi
    obtain ⟨b1, us, q1, q2, q3⟩ := hp.ents 0 _ e rfl he
    refine ⟨b1, us, q1, q2, q3.shift s.heap.length ?_ ?_⟩
    · intro k ⟨k1, k2, k3⟩
      refine ⟨rfl, k1, ?_, ?_⟩
      · rcases k2 with k2 | k2
        · exact Or.inl (by omega)
        · exact (hA k k2).2.1
      · rw [tops_append, List.mem_append]
        rintro (k4 | k4)
        · rcases k2 with k2 | k2
          · have := h.range k (tops_owned k4); omega
          · exact (hA k k2).2.2 k4
        · exact k3 k4
    · intro i e he
      rw [List.getElem?_append_right (by rw [h.len]; omega), h.len]
      rw [Nat.add_sub_cancel_left]; exact he
  | 1 =>
    simp at hi; subst hi
    obtain ⟨us, bs, h1, h2, h3, h4, h5⟩ := hp.ents 1 _ e rfl he
    exact ⟨us, bs, ownsRow_base h1 hb, h2, h3, h4, h5⟩
  | i + 2 => simp at hi
set_option maxHeartbeats 1600000 in
theorem R_callB {ops : Array Oper} {rest : List Oper} {K : St → Prop} {n : Nat} {sl : List (Nat × D)} {hp : List Blk} {dst : Tmp} {ty : TypeId} {pos : String} {after : Array Edge} {f : FuncId} {fo : Operand} {args : Array Operand} {tys : Array TypeId} {ds : List D} {T : TypeId} {cs : List D} {Te : TypeId} {m : Nat} {xs : List (List D)} (hf : evD (look sl) fo = .fn f []) (hF : FnB P f ds T cs Te m xs)
    (hds : mapK (evD (look sl)) args.toList (fun l => some l) = some ds) (hp' : D.plainL ds = true) (hd : Nat.blt dst n = true)
    (hk : WO P w0 A ops rest ⟨n, (dst, .ptr hp.length 0) :: sl, hp ++ [.cells T (D.shiftL hp.length cs), .arr Te m xs true]⟩ K) : WO P w0 A ops (⟨some dst, .call ⟨.value fo, args, tys⟩, ty, pos, after, none⟩ :: rest) ⟨n, sl, hp⟩ K := by
  refine ⟨fun ms a w hr Q hq => ?_⟩
  refine wpList_plain rfl fun Kn hKn => ?_
  obtain ⟨cs, e1, hcs⟩ := (hr.ev_at hf).fn_inv
  cases hcs
  have hds := mapK_eq hds
  simp only [Option.some.injEq] at hds
  subst hds
  have hv : VXs ms w (OkB w0.heap.size A ms w) (args.toList.map (evD (look sl))) (args.toList.map a.eval) := VXs.of_map fun x _ => hr.ev x
  refine enter_call (run_call (o := ⟨some dst, .call ⟨.value fo, args, tys⟩, ty, pos, after, none⟩) rfl hF.plain e1) ((show Calls P f (args.toList.map a.eval ++ []).toArray w _ by rw [List.append_nil]; exact hF.calls (OkB w0.heap.size A ms w) w _ (fun k hk => hk.1) (hv.plain hp' fun _ h => h)).mono ?_)
  rintro e w' ⟨v, mr, rfl, hpost⟩
  exact ⟨v, rfl, hKn _ _ (hk.run _ _ w' (Rel.put (t := some dst) (hr.calledB (fun _ h => h) hpost) (hr.called_val (fun _ h => h) hpost) (dstOk_all (s := ⟨n, _, _⟩) (t := some dst) hd)) Q hq)⟩
theorem R_assignConst {ops : Array Oper} {rest : List Oper} {K : St → Prop} {n : Nat} {sl : List (Nat × D)} {hp : List Blk} {dst : Tmp} {ty : TypeId} {pos : String} {after : Array Edge} {v : Value} (hd : Nat.blt dst n = true)
    (hk : WO P w0 A ops rest ⟨n, (dst, .val v) :: sl, hp⟩ K) : WO P w0 A ops (⟨some dst, .assign (.const v), ty, pos, after, none⟩ :: rest) ⟨n, sl, hp⟩ K := by
  refine ⟨fun ms a w hr Q hq => ?_⟩
  refine wpList_plain rfl fun Kn hKn => ?_
  exact upon_value (v := v) rfl (hKn _ _ (hk.run ms _ w (Rel.put (t := some dst) hr .val (dstOk_all (s := ⟨n, _, _⟩) (t := some dst) hd)) Q hq))
/-- An address of a variable of the call's own is not nil. -/
theorem R_nilCheck {ops : Array Oper} {rest : List Oper} {K : St → Prop} {n : Nat} {sl : List (Nat × D)} {hp : List Blk} {dst : Tmp} {ty : TypeId} {pos : String} {after : Array Edge} {x : Operand} {i o : Nat} (hx : evD (look sl) x = .ptr i o) (hd : Nat.blt dst n = true)
    (hk : WO P w0 A ops rest ⟨n, (dst, .ptr i o) :: sl, hp⟩ K) : WO P w0 A ops (⟨some dst, .nilCheck x, ty, pos, after, none⟩ :: rest) ⟨n, sl, hp⟩ K := by
  refine ⟨fun ms a w hr Q hq => ?_⟩
  refine wpList_plain rfl fun Kn hKn => ?_
  have h1 := hr.ev_at hx
  obtain ⟨e, b, p1, p2, p3⟩ := h1.ptr_inv
  have hrun : (execOp a.eval ⟨some dst, .nilCheck x, ty, pos, after, none⟩).run P w = .ok (.value (a.eval x)) w := by
    simp only [execOp, p3]
    simp [Sem.run_bind, Sem.run, pure, Result.andThen, asAddr]
  exact upon_value hrun (hKn _ _ (hk.run ms _ w (Rel.put (t := some dst) hr h1 (dstOk_all (s := ⟨n, _, _⟩) (t := some dst) hd)) Q hq))
theorem R_callBZ {ops : Array Oper} {rest : List Oper} {K : St → Prop} {n : Nat} {sl : List (Nat × D)} {hp hp2 : List Blk} {k2 : Nat} {dst : Tmp} {ty : TypeId} {pos : String} {after : Array Edge} {f : FuncId} {fo : Operand} {args : Array Operand} {tys : Array TypeId} {ds : List D} {T : TypeId} {cs : List D} {Te : TypeId} {m : Nat} {xs : List (List D)} (hf : evD (look sl) fo = .fn f []) (hF : FnB P f ds T cs Te m xs)
    (hds : mapK (evD (look sl)) args.toList (fun l => some l) = some ds) (hp' : D.plainL ds = true) (hd : Nat.blt dst n = true)
    (hk : WO P w0 A ops rest ⟨n, (dst, .ptr k2 0) :: sl, hp2⟩ K) (e1 : hp.length = k2 := by first | (dsimp only [List.length_cons, List.length_nil, Nat.reduceAdd]; done) | (dsimp only [List.length_cons, List.length_nil, Nat.reduceAdd]; exact rfl) | exact rfl) (e2 : hp ++ [.cells T (D.shiftL hp.length cs), .arr Te m xs true] = hp2 := by first | (dsimp only [D.shift, D.shiftL, List.cons_append, List.nil_append, List.append_nil, List.length_cons, List.length_nil, Nat.reduceAdd]; done) | exact rfl) : WO P w0 A ops (⟨some dst, .call ⟨.value fo, args, tys⟩, ty, pos, after, none⟩ :: rest) ⟨n, sl, hp⟩ K := by
  subst e1; subst e2; exact R_callB hf hF hds hp' hd hk
end
end Go.Proofs.Ytcbfpeplcbgpjaa
