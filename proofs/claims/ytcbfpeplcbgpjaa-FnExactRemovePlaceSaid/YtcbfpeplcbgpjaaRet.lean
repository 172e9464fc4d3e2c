/- Symbolic states: functions whose first result lies in a variable; functions that hand back what they are handed. No condition. -/
import Derived.Test.YtcbfpeplcbgpjaaMv
set_option linter.unusedSimpArgs false
set_option linter.unusedVariables false
namespace Go.Proofs.Ytcbfpeplcbgpjaa
open Go.ChangeShapes Go.WideShapes Go.ChangeAt Go.RowKit

/-- What lies in a result's variable. -/
def cellK {α : Type} (tab : Nat → Option TI) (s : St) (t : Tmp) (T : TypeId) (k : D → Option α) : Option α :=
  match tab T with
  | some ⟨_, agg, size, _, _⟩ => match s.get t with
    | .ptr i o => match loadD s.heap agg size (.ptr i o) with
      | some (_, d) => k d
      | none => none
    | _ => none
  | none => none
def retDC (tab : Nat → Option TI) (s : St) : List ResultVar → Option D
  | [.cell t T] => cellK tab s t T fun d => some d
  | [.cell t T, .tmp u] => cellK tab s t T fun d => forceK (s.get u) fun d' => some (.tup [d, d'])
  | [.cell t T, .tmp u, .tmp x, .tmp y] => cellK tab s t T fun d => forceK (s.get u) fun d' => forceK (s.get x) fun d2 => forceK (s.get y) fun d3 => some (.tup [d, d', d2, d3])
  | _ => none
def RetC (tab : Nat → Option TI) (rs : Array ResultVar) (d : D) (rh : List Blk) (s : St) : Prop := ∃ dd js, retDC tab s rs.toList = some dd ∧ cv s.heap js dd d ∧ rhOk s.heap js rh ∧ (js.filterMap id).Nodup
inductive retC (tab : Nat → Option TI) (rs : Array ResultVar) (d : D) (rh : List Blk) : Exit → St → Prop
  | r {s : St} : RetC tab rs d rh s → retC tab rs d rh .ret s
  | n {s : St} : RetC tab rs d rh s → retC tab rs d rh .normal s

section
variable {P : Program} {w0 w : World} {A : Nat → Prop} {s : St} {ms : List Ent} {a : Act} {tab : Nat → Option TI}
theorem cell_ok {α : Type} (hT : TabOk P tab) (hr : Rel w0 A ms s a w) {t : Tmp} {T : TypeId} {k : D → Option α} {r : α} (h : cellK tab s t T k = some r) : ∃ ad d v, (asAddr (a.tmps.getD t undef)).run P w = .ok ad w ∧ (loadVar T ad).run P w = .ok v w ∧ VX ms w (OkB w0.heap.size A ms w) d v ∧ k d = some r := by
  unfold cellK at h
  split at h
  · rename_i kk agg size bytes zero ht
    obtain ⟨inf, td, z, h1, h2, h3, h4, h5, h6, _⟩ := hT.get ht
    split at h
    · rename_i i o hp
      split at h
      · rename_i c d hl
        have hv := hr.slots t
        rw [hp] at hv
        obtain ⟨e, b, q1, q2, q3⟩ := hv.ptr_inv
        obtain ⟨v, g1, g2⟩ := load_ok (P := P) hr.ents h1 h2 h5 h6 hv hl
        rw [q3] at g1 ⊢
        refine ⟨⟨b, o, none⟩, d, v, rfl, ?_, g2, h⟩
        simpa only [Instr.loadAt, Instr.sureAddr, Sem.run_bind, Sem.run, Result.andThen, pure] using g1
      · simp at h
    · simp at h
  · simp at h

theorem resultsC_ok {fn : Func} {dd : D} (hT : TabOk P tab) (h : retDC tab s fn.results.toList = some dd) (hr : Rel w0 A ms s a w) : ∃ v, (results fn a.tmps).run P w = .ok v w ∧ VX ms w (OkB w0.heap.size A ms w) dd v := by
  have e : ∀ l, fn.results.toList = l → fn.results = l.toArray := fun l h => by rw [← h]
  unfold retDC at h
  split at h
  · rename_i t T hl
    obtain ⟨ad, d, v, h1, h2, h3, h4⟩ := cell_ok hT hr h
    simp only [Option.some.injEq] at h4; subst h4
    have h1' : (asAddr (a.tmps[t]?.getD undef)).run P w = .ok ad w := by simpa [Array.getD_eq_getD_getElem?] using h1
    exact ⟨v, by simp [results, e _ hl, h1', h2, Result.andThen], h3⟩
  · rename_i t T u hl
    obtain ⟨ad, d, v, h1, h2, h3, h4⟩ := cell_ok hT hr h
    have h4 := forceK_eq h4
    simp only [Option.some.injEq] at h4; subst h4
    have h1' : (asAddr (a.tmps[t]?.getD undef)).run P w = .ok ad w := by simpa [Array.getD_eq_getD_getElem?] using h1
    exact ⟨.tuple [v, a.tmps.getD u undef].toArray, by simp [results, e _ hl, h1', h2, Result.andThen], .tup (.cons h3 (.cons (hr.slots u) .nil))⟩
  · rename_i t T u x y hl
    obtain ⟨ad, d, v, h1, h2, h3, h4⟩ := cell_ok hT hr h
    have h4 := forceK_eq (forceK_eq (forceK_eq h4))
    simp only [Option.some.injEq] at h4; subst h4
    have h1' : (asAddr (a.tmps[t]?.getD undef)).run P w = .ok ad w := by simpa [Array.getD_eq_getD_getElem?] using h1
    exact ⟨.tuple [v, a.tmps.getD u undef, a.tmps.getD x undef, a.tmps.getD y undef].toArray, by simp [results, e _ hl, h1', h2, Result.andThen], .tup (.cons h3 (.cons (hr.slots u) (.cons (hr.slots x) (.cons (hr.slots y) .nil))))⟩
  · simp at h

theorem Fn_ofC {f : FuncId} {fn : Func} {c : Code} {ds : List D} {d : D} {rh : List Blk} (hT : TabOk P tab) (hf : P.funcs[f]? = some fn) (hb : fn.body = some c) (hname : (fn.name == "runtime.NumGoroutine") = false) (hn : Nat.ble ds.length fn.ntmps = true) (hrh : rh.all Blk.isArr = true)
    (h : ∀ w0 A, Given w0 A ds → W P w0 A c ⟨fn.ntmps, argSlots 0 ds, []⟩ (retC tab fn.results d rh)) : Fn P f ds d rh := by
  refine ⟨?_, hrh, ?_⟩
  · intro args w
    have h1 : ¬ fn.name = "runtime.NumGoroutine" := by simpa using hname
    have h2 : ¬ fn.body = none := by rw [hb]; simp
    simp [callFunc, program, Sem.run, go_sem, hf, h1, h2]
  · intro A w us hA hus
    have hl := hus.len
    have hn' : ds.length ≤ fn.ntmps := Nat.le_of_ble_eq_true hn
    refine calls_of_wp hf hb (Code.wp_mono ?_ ((h w A ⟨us, hus⟩).run [] { tmps := us.toArray ++ Array.replicate (fn.ntmps - us.toArray.size) undef, defers := [] } w ?_))
    · rintro e a' w' ⟨ms, s, hr, hq⟩
      have key : RetC tab fn.results d rh s → a'.defers = [] ∧ ∃ v, (results fn a'.tmps).run P w' = .ok v w' ∧ ∃ v' ms, Ending.returned v = .returned v' ∧ Post w A d rh ms v' w' := by
        rintro ⟨dd, js, h1, h2, h3, h4⟩
        obtain ⟨v, h5, h6⟩ := resultsC_ok (P := P) hT h1 hr
        exact ⟨hr.defers, v, h5, v, _, rfl, hr.post h3 h4 h6 h2⟩
      cases hq with
      | r h => exact key h
      | n h => exact key h
    · refine ⟨Ext.refl _, hA, by simp; omega, rfl, rfl, by simp [owned], by simp [owned], by simp, fun t => ?_⟩
      refine look_arg (List.replicate (fn.ntmps - us.length) undef) (VXs.mono (ms' := []) (w' := w) (Ok' := OkB w.heap.size A [] w) (fun k hk => ⟨rfl, hA k hk, Or.inr hk, by simp [tops]⟩) hus fun _ _ _ h => h) 0 t _ fun _ => ?_
      have e : (us.toArray ++ Array.replicate (fn.ntmps - us.toArray.size) undef) = (us ++ List.replicate (fn.ntmps - us.length) undef).toArray := by
        rw [← List.append_toArray, List.size_toArray, List.toArray_replicate]
      rw [e]; simp [Array.getD_eq_getD_getElem?, List.getD_eq_getElem?_getD]
/-- A nil slice in a variable of the call's own becomes an array of its own, without elements. -/
theorem W_openC {Q : Exit → St → Prop} {c : Code} (i o : Nat) (T : TypeId) (m : Nat) {Tc : TypeId} {ds : List D} (h : s.heap[i]? = some (.cells Tc ds)) (h2 : ds[o]? = some .nil) {hp' : List Blk} (e : hp' = s.heap.set i (.cells Tc (ds.set o (.own s.heap.length))) ++ [.arr T m [] true]) (hw : W P w0 A c ⟨s.n, s.slots, hp'⟩ Q) : W P w0 A c s Q := by
  refine W_weak (s' := ⟨s.n, s.slots, hp'⟩) ?_ hw
  subst e
  intro ms a w hr
  have hg := hr.grow (Ext.refl w) [nilEnt] [.arr T m [] true] rfl (by simp [owned, nilEnt]) (by simp [owned, nilEnt]) (by
    intro i b e hb he
    cases i with
    | succ i => simp at hb
    | zero =>
      simp at hb he
      subst hb; subst he
      exact ⟨[], [], World.ownsRow_nil _ _ _ _, by simp, .nil, rfl, rfl, by simp⟩)
  have hil : i < s.heap.length := by
    rcases Nat.lt_or_ge i s.heap.length with h' | h'
    · exact h'
    · rw [List.getElem?_eq_none h'] at h; simp at h
  refine ⟨_, hg.ext, hg.old, hg.size, hg.defers, by simpa using hg.len, hg.nodup, hg.range, fun j b e' hb he => ?_, fun x => hg.slots x⟩
  by_cases hj : j = i
  · subst hj
    have hb' : b = .cells Tc (ds.set o (.own s.heap.length)) := by
      have : j < (s.heap.set j (.cells Tc (ds.set o (.own s.heap.length)))).length := by simpa using hil
      rw [List.getElem?_append_left this, List.getElem?_set_self hil] at hb
      exact (Option.some.inj hb).symm
    subst hb'
    obtain ⟨b1, us, q1, q2, q3⟩ := hg.ents j (.cells Tc ds) e' (by show (s.heap ++ _)[j]? = _; rw [List.getElem?_append_left hil, h]) he
    obtain ⟨u, q4, q5⟩ := q3.get h2
    refine ⟨b1, us, q1, q2, ?_⟩
    have q6 := q3.set o (d := .own s.heap.length) (u := u) (by
      rw [q5.nil_inv]
      exact VX.own (e := nilEnt) (by rw [List.getElem?_append_right (by rw [hr.len]; exact Nat.le_refl _), hr.len]; simp) ⟨none, 0, 0, rfl⟩)
    have q7 : us.set o u = us := by
      obtain ⟨hlt, rfl⟩ := List.getElem?_eq_some_iff.1 q4
      exact List.set_getElem_self hlt
    rwa [q7] at q6
  · refine hg.ents j b e' ?_ he
    show (s.heap ++ _)[j]? = _
    rw [← hb]
    rcases Nat.lt_or_ge j s.heap.length with h' | h'
    · rw [List.getElem?_append_left h', List.getElem?_append_left (by simpa using h'), List.getElem?_set_ne (Ne.symm hj)]
    · rw [List.getElem?_append_right h', List.getElem?_append_right (by simpa using h')]; simp
/-- A structure of a number and a slice, and a bool. -/
theorem retC_own {rs : Array ResultVar} {i : Nat} {t : TypeId} {m : Nat} {xs xs' : List (List D)} {dp : Bool} {u u' v v' : Value} (h : retDC tab s rs.toList = some (.tup [.agg [.lit u, .own i], .lit v])) (hb : s.heap[i]? = some (.arr t m xs dp)) (e : xs = xs') (e1 : u = u') (e2 : v = v') : RetC tab rs (.tup [.agg [.lit u', .own 0], .lit v']) [.arr t m xs' dp] s :=
  ⟨_, [some i], h, ⟨⟨e1, rfl, trivial⟩, e2, trivial⟩, ⟨by rw [← e]; exact hb, rfl, trivial⟩, by simp⟩
theorem retC_nil {rs : Array ResultVar} {t : TypeId} {m : Nat} {xs' : List (List D)} {dp : Bool} {u u' v v' : Value} (h : retDC tab s rs.toList = some (.tup [.agg [.lit u, .nil], .lit v])) (e : xs' = []) (e1 : u = u') (e2 : v = v') : RetC tab rs (.tup [.agg [.lit u', .own 0], .lit v']) [.arr t m xs' dp] s :=
  ⟨_, [none], h, ⟨⟨e1, rfl, trivial⟩, e2, trivial⟩, ⟨e, trivial⟩, by simp⟩
/-- A function that hands back what it is handed, and true. -/
structure FnId (P : Program) (f : FuncId) (ds : List D) : Prop where
  plain : ∀ args w, (callFunc f args).run P w = .ok (.enter f args) w
  calls : ∀ (w : World) (u : Value), VXs [] w (Lt w) ds [u] → Calls P f #[u] w fun e w' => e = .returned (.tuple #[u, .bool true]) ∧ Ext w w'
theorem R_callId {ops : Array Oper} {rest : List Oper} {K : St → Prop} {n : Nat} {sl : List (Nat × D)} {hp : List Blk} {dst : Tmp} {ty : TypeId} {pos : String} {after : Array Edge} {f : FuncId} {fo x : Operand} {tys : Array TypeId} {ds : List D} {d : D} (hf : evD (look sl) fo = .fn f []) (hF : FnId P f ds)
    (hds : argsFK hp [evD (look sl) x] (fun l => some l) = some ds) (hd : Nat.blt dst n = true) (hx : forceK (evD (look sl) x) some = some d)
    (hk : WO P w0 A ops rest ⟨n, (dst, .tup [d, .lit (.bool true)]) :: sl, hp⟩ K) : WO P w0 A ops (⟨some dst, .call ⟨.value fo, #[x], tys⟩, ty, pos, after, none⟩ :: rest) ⟨n, sl, hp⟩ K := by
  refine ⟨fun ms a w hr Q hq => ?_⟩
  refine wpList_plain rfl fun Kn hKn => ?_
  have hx := forceK_eq hx
  simp only [Option.some.injEq] at hx
  obtain ⟨cs, e1, hcs⟩ := (hr.ev_at hf).fn_inv
  cases hcs
  have hv : VXs ms w (OkB w0.heap.size A ms w) [evD (look sl) x] [a.eval x] := .cons (hr.ev x) .nil
  obtain ⟨l, h1, h2⟩ := argsFK_ok hr hv hds
  simp only [Option.some.injEq] at h2
  subst h2
  refine enter_call (run_call (o := ⟨some dst, .call ⟨.value fo, #[x], tys⟩, ty, pos, after, none⟩) rfl hF.plain e1) ((show Calls P f #[a.eval x] w _ from hF.calls w _ h1).mono ?_)
  rintro e w' ⟨rfl, hext⟩
  have hr' := hr.grow hext [] [] rfl (by simp [owned]) (by simp [owned]) (by simp)
  simp only [List.append_nil] at hr'
  have hval : VX ms w' (OkB w0.heap.size A ms w') (.tup [d, .lit (.bool true)]) (.tuple [a.eval x, .bool true].toArray) := .tup (.cons (by rw [← hx]; exact hr'.ev x) (.cons (VX.of_lit trivial) .nil))
  exact ⟨_, rfl, hKn _ _ (hk.run _ _ w' (Rel.put (t := some dst) hr' hval (dstOk_all (s := ⟨n, _, _⟩) (t := some dst) hd)) Q hq)⟩
end
end Go.Proofs.Ytcbfpeplcbgpjaa
