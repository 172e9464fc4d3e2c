/- Functions that read a package-level table whose content is known: contracts under a condition on the world that later worlds keep. No condition. -/
import Derived.Test.YtkegeacjalechaaDoorAbsV
set_option linter.unusedSimpArgs false
set_option linter.unusedVariables false
namespace Go.Proofs.YtkegeacjalechaaDoor
open Go.ChangeShapes Go.WideShapes Go.ChangeAt Go.RowKit

/-- As Fn, in worlds that meet X. -/
structure FnG (X : World → Prop) (P : Program) (f : FuncId) (ds : List D) (d : D) (rh : List Blk) : Prop where
  plain : ∀ args w, (callFunc f args).run P w = .ok (.enter f args) w
  arrs : rh.all Blk.isArr = true
  calls : ∀ (A : Nat → Prop) (w : World) (us : List Value), X w → (∀ k, A k → k < w.heap.size) → VXs [] w A ds us → Calls P f us.toArray w fun e w' => ∃ v ms, e = .returned v ∧ Post w A d rh ms v w'
section
variable {P : Program} {X : World → Prop}
theorem FnG_of {f : FuncId} {fn : Func} {c : Code} {ds : List D} {d : D} {rh : List Blk} (hf : P.funcs[f]? = some fn) (hb : fn.body = some c) (hname : (fn.name == "runtime.NumGoroutine") = false) (hn : Nat.ble ds.length fn.ntmps = true) (hrh : rh.all Blk.isArr = true)
    (h : ∀ w0 A, X w0 → Given w0 A ds → W P w0 A c ⟨fn.ntmps, argSlots 0 ds, []⟩ (retQ fn.results d rh)) : FnG X P f ds d rh := by
  refine ⟨?_, hrh, ?_⟩
  · intro args w
    have h1 : ¬ fn.name = "runtime.NumGoroutine" := by simpa using hname
    have h2 : ¬ fn.body = none := by rw [hb]; simp
    simp [callFunc, program, Sem.run, go_sem, hf, h1, h2]
  · intro A w us hX hA hus
    have hl := hus.len
    have hn' : ds.length ≤ fn.ntmps := Nat.le_of_ble_eq_true hn
    refine calls_of_wp hf hb (Code.wp_mono ?_ ((h w A hX ⟨us, hus⟩).run [] { tmps := us.toArray ++ Array.replicate (fn.ntmps - us.toArray.size) undef, defers := [] } w ?_))
    · rintro e a' w' ⟨ms, s, hr, hq⟩
      have key : RetS fn.results d rh s → a'.defers = [] ∧ ∃ v, (results fn a'.tmps).run P w' = .ok v w' ∧ ∃ v' ms, Ending.returned v = .returned v' ∧ Post w A d rh ms v' w' := by
        rintro ⟨dd, js, h1, h2, h3, h4⟩
        obtain ⟨v, h5, h6⟩ := results_ok (P := P) h1 hr
        exact ⟨hr.defers, v, h5, v, _, rfl, hr.post h3 h4 h6 h2⟩
      cases hq with
      | r h => exact key h
      | n h => exact key h
    · refine ⟨Ext.refl _, hA, by simp; omega, rfl, rfl, by simp [owned], by simp [owned], by simp, fun t => ?_⟩
      refine look_arg (List.replicate (fn.ntmps - us.length) undef) (VXs.mono (ms' := []) (w' := w) (Ok' := OkB w.heap.size A [] w) (fun k hk => ⟨rfl, hA k hk, Or.inr hk, by simp [tops]⟩) hus fun _ _ _ h => h) 0 t _ fun _ => ?_
      have e : (us.toArray ++ Array.replicate (fn.ntmps - us.toArray.size) undef) = (us ++ List.replicate (fn.ntmps - us.length) undef).toArray := by
        rw [← List.append_toArray, List.size_toArray, List.toArray_replicate]
      rw [e]; simp [Array.getD_eq_getD_getElem?, List.getD_eq_getElem?_getD]
theorem FnG_old {f : FuncId} {fn : Func} {c : Code} {ds : List D} {d : D} {rh : List Blk} (hf : P.funcs[f]? = some fn) (hb : fn.body = some c) (hname : (fn.name == "runtime.NumGoroutine") = false) (hn : Nat.ble ds.length fn.ntmps = true) (hrh : rh.all Blk.isArr = true)
    (h : ∀ w0 A, X w0 → Given w0 A ds → W P w0 A c ⟨fn.ntmps, argSlots 0 (ds.map (oldA w0 A)), []⟩ (retQ fn.results d rh)) : FnG X P f ds d rh := by
  refine ⟨?_, hrh, ?_⟩
  · intro args w
    have h1 : ¬ fn.name = "runtime.NumGoroutine" := by simpa using hname
    have h2 : ¬ fn.body = none := by rw [hb]; simp
    simp [callFunc, program, Sem.run, go_sem, hf, h1, h2]
  · intro A w us hX hA hus
    have hl := hus.len
    have hn' : ds.length ≤ fn.ntmps := Nat.le_of_ble_eq_true hn
    refine calls_of_wp hf hb (Code.wp_mono ?_ ((h w A hX ⟨us, hus⟩).run [] { tmps := us.toArray ++ Array.replicate (fn.ntmps - us.toArray.size) undef, defers := [] } w ?_))
    · rintro e a' w' ⟨ms, s, hr, hq⟩
      have key : RetS fn.results d rh s → a'.defers = [] ∧ ∃ v, (results fn a'.tmps).run P w' = .ok v w' ∧ ∃ v' ms, Ending.returned v = .returned v' ∧ Post w A d rh ms v' w' := by
        rintro ⟨dd, js, h1, h2, h3, h4⟩
        obtain ⟨v, h5, h6⟩ := results_ok (P := P) h1 hr
        exact ⟨hr.defers, v, h5, v, _, rfl, hr.post h3 h4 h6 h2⟩
      cases hq with
      | r h => exact key h
      | n h => exact key h
    · refine ⟨Ext.refl _, hA, by simp; omega, rfl, rfl, by simp [owned], by simp [owned], by simp, fun t => ?_⟩
      refine look_arg (List.replicate (fn.ntmps - us.length) undef) (VXs.mono (ms' := []) (w' := w) (Ok' := OkB w.heap.size A [] w) (fun k hk => ⟨rfl, hA k hk, Or.inr hk, by simp [tops]⟩) (oldAL_ok hus) fun _ _ _ h => h) 0 t _ fun _ => ?_
      have e : (us.toArray ++ Array.replicate (fn.ntmps - us.toArray.size) undef) = (us ++ List.replicate (fn.ntmps - us.length) undef).toArray := by
        rw [← List.append_toArray, List.size_toArray, List.toArray_replicate]
      rw [e]; simp [Array.getD_eq_getD_getElem?, List.getD_eq_getElem?_getD]
theorem FnG.lit {w : World} {fid : FuncId} {ds : List D} {v : Value} (hF : FnG X P fid ds (.lit v) []) (hX : X w) {us : List Value} (hv : VXs [] w (Lt w) ds us) : Calls P fid us.toArray w fun e w' => e = .returned v ∧ Ext w w' :=
  (hF.calls (Lt w) w us hX (fun _ h => h) hv).mono fun e w' ⟨u, ms, he, hp⟩ => ⟨by rw [he]; congr 1; exact hp.val.lit_inv.1, hp.ext⟩
end
section
variable {P : Program} {X : World → Prop} {w0 : World} {A : Nat → Prop} {s : St} {ops : Array Oper} {o : Oper} {rest : List Oper} {K : St → Prop}
theorem WO_callG {f : FuncId} {fo : Operand} {args : Array Operand} {tys : Array TypeId} {ds caps : List D} {d : D} {rh : List Blk} (hg : o.guard = none) (ho : o.op = .call ⟨.value fo, args, tys⟩) (hf : evD s.get fo = .fn f caps)
    (hds : mapK (evD s.get) args.toList (fun l => some (l ++ caps)) = some ds) (hp : D.plainL ds = true) (hd : dstOk s o.dst = true) (hF : FnG X P f ds d rh) (hX : ∀ w, Ext w0 w → X w)
    (hk : WO P w0 A ops rest (St.put ⟨s.n, s.slots, s.heap ++ rh⟩ o.dst (d.shift s.heap.length)) K) : WO P w0 A ops (o :: rest) s K := by
  refine ⟨fun ms a w hr Q hq => ?_⟩
  refine wpList_plain hg fun Kn hKn => ?_
  obtain ⟨cs, e1, hcs⟩ := (hr.ev_at hf).fn_inv
  have hds := mapK_eq hds
  simp only [Option.some.injEq] at hds
  subst hds
  have hv : VXs ms w (OkB w0.heap.size A ms w) (args.toList.map (evD s.get) ++ caps) (args.toList.map a.eval ++ cs) := (VXs.of_map fun x _ => hr.ev x).append hcs
  refine enter_call (run_call ho hF.plain e1) ((hF.calls (OkB w0.heap.size A ms w) w _ (hX w hr.ext) (fun k hk => hk.1) (hv.plain hp fun _ h => h)).mono ?_)
  rintro e w' ⟨v, mr, rfl, hpost⟩
  refine ⟨v, rfl, hKn _ _ (hk.run _ _ w' (Rel.put (hr.called hF.arrs (Or.inl fun _ h => h) hpost) (hr.called_val (fun _ h => h) hpost) (dstOk_all hd)) Q hq)⟩

end
section
variable {P : Program} {X : World → Prop} {w0 : World} {A : Nat → Prop} {n : Nat} {sl : List (Nat × D)} {hp : List Blk}
theorem R_callxG {ops : Array Oper} {rest : List Oper} {K : St → Prop} {dst : Tmp} {ty : TypeId} {pos : String} {after : Array Edge} {f : FuncId} {fo : Operand} {args : Array Operand} {tys : Array TypeId} {ds caps : List D} {d : D} {rh : List Blk} (hf : evD (look sl) fo = .fn f caps)
    (hds : mapK (evD (look sl)) args.toList (fun l => argsFK hp ((l ++ caps).map unold) fun l => some l) = some ds) (hd : Nat.blt dst n = true) (hF : FnG X P f ds d rh) (hX : ∀ w, Ext w0 w → X w) (hno : noRd d = true) (hdeep : rh.all Blk.isDeep = true) (hold : oldOks w0 A (args.toList.map (evD (look sl)) ++ caps))
    (hk : WO P w0 A ops rest ⟨n, (dst, d.shift hp.length) :: sl, hp ++ rh⟩ K) : WO P w0 A ops (⟨some dst, .call ⟨.value fo, args, tys⟩, ty, pos, after, none⟩ :: rest) ⟨n, sl, hp⟩ K := by
  refine ⟨fun ms a w hr Q hq => ?_⟩
  refine wpList_plain rfl fun Kn hKn => ?_
  obtain ⟨cs, e1, hcs⟩ := (hr.ev_at hf).fn_inv
  have hds := mapK_eq hds
  have hv : VXs ms w (OkB w0.heap.size A ms w) (args.toList.map (evD (look sl)) ++ caps) (args.toList.map a.eval ++ cs) := (VXs.of_map fun x _ => hr.ev x).append hcs
  obtain ⟨l, h1, h2⟩ := argsFK_ok hr (unolds_ok hr hv hold) hds
  simp only [Option.some.injEq] at h2
  subst h2
  refine enter_call (run_call (o := ⟨some dst, .call ⟨.value fo, args, tys⟩, ty, pos, after, none⟩) rfl hF.plain e1) ((hF.calls (Lt w) w _ (hX w hr.ext) (fun k hk => hk) h1).mono ?_)
  rintro e w' ⟨v, mr, rfl, hpost⟩
  have hr' := hr.called hF.arrs (Or.inr hdeep) hpost
  have hlen := hr.len
  simp only at hlen
  have hval : VX (ms ++ mr) w' (OkB w0.heap.size A (ms ++ mr) w') (d.shift hp.length) v := noRd_ok (fun i e he => by rw [List.getElem?_append_right (by omega), hlen, Nat.add_sub_cancel_left]; exact he) hpost.val hno
  exact ⟨v, rfl, hKn _ _ (hk.run _ _ w' (Rel.put (t := some dst) hr' hval (dstOk_all (s := ⟨n, _, _⟩) (t := some dst) hd)) Q hq)⟩
variable {ops : Array Oper} {rest : List Oper} {K : St → Prop} {dst : Tmp} {ty : TypeId} {pos : String} {after : Array Edge}
theorem R_callG {f : FuncId} {fo : Operand} {args : Array Operand} {tys : Array TypeId} {ds caps : List D} {d d2 : D} {rh hp2 : List Blk} (hX : ∀ w, Ext w0 w → X w) (hf : evD (look sl) fo = .fn f caps) (hF : FnG X P f ds d rh)
    (hds : mapK (evD (look sl)) args.toList (fun l => some (l ++ caps)) = some ds) (hp' : D.plainL ds = true) (hd : Nat.blt dst n = true)
    (hk : WO P w0 A ops rest ⟨n, (dst, d2) :: sl, hp2⟩ K) (e1 : d.shift hp.length = d2 := by first | (dsimp only [D.shift, D.shiftL, List.cons_append, List.nil_append, List.append_nil, List.length_cons, List.length_nil, Nat.reduceAdd]; done) | exact rfl) (e2 : hp ++ rh = hp2 := by first | (dsimp only [D.shift, D.shiftL, List.cons_append, List.nil_append, List.append_nil, List.length_cons, List.length_nil, Nat.reduceAdd]; done) | exact rfl) : WO P w0 A ops (⟨some dst, .call ⟨.value fo, args, tys⟩, ty, pos, after, none⟩ :: rest) ⟨n, sl, hp⟩ K := by
  subst e1; subst e2; exact WO_callG rfl rfl hf hds hp' hd hF hX hk
theorem R_callxGZ {f : FuncId} {fo : Operand} {args : Array Operand} {tys : Array TypeId} {ds caps : List D} {d d2 : D} {rh hp2 : List Blk} (hX : ∀ w, Ext w0 w → X w) (hf : evD (look sl) fo = .fn f caps) (hF : FnG X P f ds d rh) (hds : mapK (evD (look sl)) args.toList (fun l => argsFK hp ((l ++ caps).map unold) fun l => some l) = some ds) (hd : Nat.blt dst n = true) (hno : noRd d = true) (hdeep : rh.all Blk.isDeep = true) (hold : oldOks w0 A (args.toList.map (evD (look sl)) ++ caps))
    (hk : WO P w0 A ops rest ⟨n, (dst, d2) :: sl, hp2⟩ K) (e1 : d.shift hp.length = d2 := by first | (dsimp only [D.shift, D.shiftL, List.cons_append, List.nil_append, List.append_nil, List.length_cons, List.length_nil, Nat.reduceAdd]; done) | exact rfl) (e2 : hp ++ rh = hp2 := by first | (dsimp only [D.shift, D.shiftL, List.cons_append, List.nil_append, List.append_nil, List.length_cons, List.length_nil, Nat.reduceAdd]; done) | exact rfl) : WO P w0 A ops (⟨some dst, .call ⟨.value fo, args, tys⟩, ty, pos, after, none⟩ :: rest) ⟨n, sl, hp⟩ K := by
  subst e1; subst e2; exact R_callxG hf hds hd hF hX hno hdeep hold hk
theorem valG_ev {ms : List Ent} {a : Act} {w : World} {Ok : Nat → Prop} {v u : Value} (h : VX ms w Ok (.val v) u) : u = v := by
  cases h with
  | rd h _ => cases h
  | val => rfl
/-- The address of an element of a table of the package. -/
theorem R_globIdx {tab : Nat → Option TI} (hT : TabOk P tab) {g : Nat} {y : Operand} {t T : TypeId} {len : Nat} {j : Int} {kk : TK} {agg : Bool} {bytes : Nat} {zero : List Value} (hu : P.underlying t = some (.array len T)) (ht : tab T = some ⟨kk, agg, 1, bytes, zero⟩) (hy : evD (look sl) y = .lit (.int .i64 j)) (hj : 0 ≤ j ∧ j < (len : Int)) (hd : Nat.blt dst n = true)
    (hK : WO P w0 A ops rest ⟨n, (dst, .val (.pointer (some ⟨g, j.toNat, none⟩))) :: sl, hp⟩ K) : WO P w0 A ops (⟨some dst, .indexAddr t (.global g) y, ty, pos, after, none⟩ :: rest) ⟨n, sl, hp⟩ K := by
  refine ⟨fun ms a w hr Q hq => ?_⟩
  refine wpList_plain rfl fun Kn hKn => ?_
  obtain ⟨e2, _⟩ := (hr.ev_at hy).lit_inv
  obtain ⟨inf', td', z', g1, g2, g3, g4, g5, g6, _⟩ := hT.get ht
  have hrun : (execOp a.eval ⟨some dst, .indexAddr t (.global g) y, ty, pos, after, none⟩).run P w = .ok (.value (.pointer (some ⟨g, j.toNat, none⟩))) w := by
    have e1 : a.eval (.global g) = .pointer (some ⟨g, 0, none⟩) := rfl
    simp only [execOp, Instr.indexAt, e1, e2, asIntOf, Sem.run_bind, Sem.run, pure, Result.andThen, run_underlying hu, Instr.sureAddr]
    simp only [hj.1, hj.2, and_self, if_true, run_sizeOf g1, g6]
    simp only [Addr.add]
    by_cases hb : j.toNat * 1 = 0 <;> simp [hb, run_sizeOf g1, g6]
    all_goals omega
  exact upon_value hrun (hKn _ _ (hK.run ms _ w (Rel.put (t := some dst) hr .val (dstOk_all (s := ⟨n, _, _⟩) (t := some dst) hd)) Q hq))
/-- A scalar of a table of the package is read. -/
theorem R_globLoad {tab : Nat → Option TI} (hT : TabOk P tab) {x : Operand} {tl : TypeId} {g o : Nat} {v : Value} {kk : TK} {bytes : Nat} {zero : List Value} (hx : evD (look sl) x = .val (.pointer (some ⟨g, o, none⟩))) (hc : w0.cell? ⟨g, o, none⟩ = some v) (hl : litOk v) (ht : tab tl = some ⟨kk, false, 1, bytes, zero⟩) (hd : Nat.blt dst n = true)
    (hK : WO P w0 A ops rest ⟨n, (dst, .lit v) :: sl, hp⟩ K) : WO P w0 A ops (⟨some dst, .load tl x, ty, pos, after, none⟩ :: rest) ⟨n, sl, hp⟩ K := by
  refine ⟨fun ms a w hr Q hq => ?_⟩
  refine wpList_plain rfl fun Kn hKn => ?_
  obtain ⟨inf, td, z, h1, h2, h3, h4, h5, h6, _⟩ := hT.get ht
  have hc1 : w.cell? ⟨g, o, none⟩ = some v := by rw [hr.ext.cell (lt_of_cell hc)]; exact hc
  have hgx := valG_ev (a := a) (hr.ev_at hx)
  have hag : aggDesc td = false := h5.symm
  have hld : (loadVar tl ⟨g, o, none⟩).run P w = .ok v w := by
    unfold loadVar
    simp only [Sem.run_bind, run_isAgg h2, Result.andThen, hag]
    simp only [Bool.false_eq_true, if_false, Go.load, Sem.run, hc1]
  have hld2 : (Instr.loadAt tl (.pointer (some ⟨g, o, none⟩))).run P w = .ok v w := by
    simp only [Instr.loadAt, Instr.sureAddr, Sem.run_bind, Sem.run, Result.andThen, pure]; exact hld
  have hrun : (execOp a.eval ⟨some dst, .load tl x, ty, pos, after, none⟩).run P w = .ok (.value v) w := by
    simp only [execOp, hgx, Sem.run_bind, hld2, Result.andThen]; rfl
  exact upon_value hrun (hKn _ _ (hK.run ms _ w (Rel.put (t := some dst) hr (VX.of_lit hl) (dstOk_all (s := ⟨n, _, _⟩) (t := some dst) hd)) Q hq))
end
end Go.Proofs.YtkegeacjalechaaDoor
