/- Slices that are known as values: read in regions that draw their order. No condition. -/
import Derived.Test.YtcbfpeplcbgpjaaIf
import Derived.Test.YtcbfpeplcbgpjaaAbsY
set_option linter.unusedSimpArgs false
set_option linter.unusedVariables false
namespace Go.Proofs.Ytcbfpeplcbgpjaa
open Go.ChangeShapes Go.WideShapes Go.ChangeAt Go.RowKit

section
variable {P : Program} {tab : Nat → Option TI} {w0 : World} {A : Nat → Prop} {n : Nat} {sl : List (Nat × D)} {hp : List Blk} {ops : Array Oper} {l : List Oper} {K : St → Prop}
theorem pin_vr {ms : List Ent} {a : Act} {w : World} (hr : Rel w0 A ms ⟨n, sl, hp⟩ a w) {d : D} {u : Value} {b : List Nat} (hv : VR w0 d u b) (hA : ∀ k ∈ b, A k) : VX ms w (OkB w0.heap.size A ms w) d u := by
  refine .rd (hv.keep fun k hk => hr.ext.heap (hr.old k (hA k hk))) fun k hk => ?_
  have h1 := hr.old k (hA k hk)
  exact ⟨Nat.lt_of_lt_of_le h1 hr.ext.size, Or.inr (hA k hk), fun h => by have := hr.range k (tops_owned h); omega⟩
/-- A slot that holds a slice's value, read as the slice. -/
theorem WO_unpin (t : Nat) {m : Nat} {ys : List (List D)} {u : Value} {b : List Nat} (h : look sl t = .lit u) (hv : VR w0 (.sh m ys) u b) (hA : ∀ k ∈ b, A k) (hk : WO P w0 A ops l ⟨n, (t, .sh m ys) :: sl, hp⟩ K) : WO P w0 A ops l ⟨n, sl, hp⟩ K := by
  refine ⟨fun ms a w hr Q hq => hk.run ms a w ?_ Q hq⟩
  refine ⟨hr.ext, hr.old, hr.size, hr.defers, hr.len, hr.nodup, hr.range, hr.ents, fun t' => ?_⟩
  have h1 := hr.slots t'
  simp only [St.get, look] at h1 ⊢
  split
  · rename_i e
    subst e
    rw [h] at h1
    rw [h1.lit_inv.1]; exact pin_vr hr hv hA
  · exact h1
/-- A function whose arguments may be told otherwise, call by call. -/
theorem Fn_ofX {f : FuncId} {fn : Func} {c : Code} {ds : List D} {d : D} {rh : List Blk} (hf : P.funcs[f]? = some fn) (hb : fn.body = some c) (hname : (fn.name == "runtime.NumGoroutine") = false) (hn : Nat.ble ds.length fn.ntmps = true) (hrh : rh.all Blk.isArr = true)
    (h : ∀ w0 A us, (∀ k, A k → k < w0.heap.size) → VXs [] w0 A ds us → ∃ ds', VXs [] w0 A ds' us ∧ W P w0 A c ⟨fn.ntmps, argSlots 0 ds', []⟩ (retQ fn.results d rh)) : Fn P f ds d rh := by
  refine ⟨?_, hrh, ?_⟩
  · intro args w
    have h1 : ¬ fn.name = "runtime.NumGoroutine" := by simpa using hname
    have h2 : ¬ fn.body = none := by rw [hb]; simp
    simp [callFunc, program, Sem.run, go_sem, hf, h1, h2]
  · intro A w us hA hus
    have hl := hus.len
    have hn' : ds.length ≤ fn.ntmps := Nat.le_of_ble_eq_true hn
    obtain ⟨ds', hus', hW⟩ := h w A us hA hus
    refine calls_of_wp hf hb (Code.wp_mono ?_ (hW.run [] { tmps := us.toArray ++ Array.replicate (fn.ntmps - us.toArray.size) undef, defers := [] } w ?_))
    · rintro e a' w' ⟨ms, s, hr, hq⟩
      have key : RetS fn.results d rh s → a'.defers = [] ∧ ∃ v, (results fn a'.tmps).run P w' = .ok v w' ∧ ∃ v' ms, Ending.returned v = .returned v' ∧ Post w A d rh ms v' w' := by
        rintro ⟨dd, js, h1, h2, h3, h4⟩
        obtain ⟨v, h5, h6⟩ := results_ok (P := P) h1 hr
        exact ⟨hr.defers, v, h5, v, _, rfl, hr.post h3 h4 h6 h2⟩
      cases hq with
      | r h => exact key h
      | n h => exact key h
    · refine ⟨Ext.refl _, hA, by simp; omega, rfl, rfl, by simp [owned], by simp [owned], by simp, fun t => ?_⟩
      refine look_arg (List.replicate (fn.ntmps - us.length) undef) (VXs.mono (ms' := []) (w' := w) (Ok' := OkB w.heap.size A [] w) (fun k hk => ⟨rfl, hA k hk, Or.inr hk, by simp [tops]⟩) hus' fun _ _ _ h => h) 0 t _ fun _ => ?_
      have e : (us.toArray ++ Array.replicate (fn.ntmps - us.toArray.size) undef) = (us ++ List.replicate (fn.ntmps - us.length) undef).toArray := by
        rw [← List.append_toArray, List.size_toArray, List.toArray_replicate]
      rw [e]; simp [Array.getD_eq_getD_getElem?, List.getD_eq_getElem?_getD]

theorem vr_lit {w : World} {m : Nat} {xs : List (List D)} {u : Value} {b : List Nat} (h : VR w (.sh m xs) u b) : litOk u := by cases h <;> exact trivial
/-- A function that is handed a net ahead of something else; the net's slice is known as a value, and as what it reads as at the call. -/
theorem Fn_netV {f : FuncId} {fn : Func} {c : Code} {d : D} {ds : List D} {rh : List Blk} (s : NetD) (hf : P.funcs[f]? = some fn) (hb : fn.body = some c) (hname : (fn.name == "runtime.NumGoroutine") = false) (hn : Nat.ble (ds.length + 1) fn.ntmps = true) (hrh : rh.all Blk.isArr = true)
    (h : ∀ w0 A (u : Value) (b : List Nat), VR w0 (.sh 2 (s.trs.map dTr)) u b → (∀ k ∈ b, A k) → (∀ k, A k → k < w0.heap.size) →
      W P w0 A c ⟨fn.ntmps, argSlots 0 (.agg [.lit (.int .i64 s.places), .lit u] :: ds), []⟩ (retQ fn.results d rh)) : Fn P f (.agg (dNetD s) :: ds) d rh := by
  refine Fn_ofX hf hb hname hn hrh fun w0 A us hA hus => ?_
  obtain ⟨u, us', rfl, hu, hv⟩ := vxs_cons hus
  obtain ⟨us, rfl, hw⟩ := hu.agg_inv
  obtain ⟨v1, us1, rfl, p1, t1⟩ := vxs_cons hw
  obtain ⟨v2, rfl, p2⟩ := vxs_one t1
  obtain ⟨b2, q2, a2⟩ := p2.sh_inv
  refine ⟨_, ?_, h w0 A v2 b2 q2 a2 hA⟩
  exact .cons (.agg (us := [v1, v2]) (.cons p1 (.cons (VX.of_lit (vr_lit q2)) .nil))) hv
/-- Where a row of a slice lies. -/
theorem row_at {w : World} {m : Nat} {xs : List (List D)} {u : Value} {bs : List Nat} (h : VR w (.sh m xs) u bs) {j : Nat} (hj : j < xs.length) : ∃ g o cap vs bs', u = .slice (some ⟨g, o, none⟩) xs.length cap ∧ g ∈ bs ∧ g < w.heap.size ∧ VRs w (nth xs j) vs bs' ∧ (∀ k ∈ bs', k ∈ bs) ∧ ∀ i, i < m → w.cell? ⟨g, o + j * m + i, none⟩ = vs[i]? := by
  cases h with
  | shnil _ _ => simp at hj
  | sh h1 h2 h3 h4 h5 h6 =>
    rename_i b o cap us bs
    obtain ⟨bs', g1, g2⟩ := h5.part (j * m) m
    have hrow := flatten_part h1 (m := j) (r := nth xs j) (by rw [nth_get hj]; exact List.getElem?_eq_getElem hj)
    rw [hrow] at g1
    refine ⟨b, o, cap, _, bs', rfl, List.mem_cons_self .., h4, g1, fun k hk => List.mem_cons_of_mem _ (g2 k hk), fun i hi => ?_⟩
    have hl := h5.len
    have hfl : xs.flatten.length = xs.length * m := flatten_len h1
    have hle : j * m + m ≤ xs.length * m := by
      rw [← Nat.succ_mul]; exact Nat.mul_le_mul_right m hj
    rw [Nat.add_assoc, h6 (j * m + i) (by omega)]
    rw [List.getElem?_take, if_pos hi, List.getElem?_drop]
theorem loadVar_at (hT : TabOk P tab) {T : TypeId} {k : TK} {size bytes : Nat} {zero : List Value} (ht : tab T = some ⟨k, true, size, bytes, zero⟩) (w : World) (b o : Nat) (cs : List Value) (hs : cs.length = size) (hc : w.rangeAt b o cs) : (loadVar T ⟨b, o, none⟩).run P w = .ok (.agg cs.toArray) w := by
  obtain ⟨inf, td, z, h1, h2, h3, h4, h5, h6, _⟩ := hT.get ht
  refine run_loadVar_mid w b o T cs td hc h2 ?_ (by rw [h1, hs]; simp [h6])
  clear h1 h2 h3 h4 hc
  cases td <;> first | rfl | (simp [aggDesc] at h5)
/-- The address of an element of a slice that is known as a value. -/
theorem H_idxLit {L : List (Tmp × Nat × Value)} {fuel : Nat} {listed : Array Bool} (hT : TabOk P tab) (k0 : Nat) {i : Nat} {t : Tmp} {x y : Operand} {tl T ty : TypeId} {pos : String} {after : Array Edge} {g o len cap m : Nat} {j : Int} {agg : Bool} {size bytes : Nat} {zero : List Value} {k' : TK} {agg' : Bool} {bytes' : Nat} {zero' : List Value} (hcd : cand ops listed k0 = some i) (hi : ops[i]? = some ⟨some t, .indexAddr tl x y, ty, pos, after, none⟩) (hs : noSel ops.toList = true) (hL : L.all (fun x => !Nat.beq x.1 t) = true) (hheld : heldOk ⟨n, sl, hp⟩ L) (htn : Nat.blt t n = true)
    (hx : evD (look sl) x = .lit (.slice (some ⟨g, o, none⟩) len cap)) (hy : evD (look sl) y = .lit (.int .i64 j)) (ht : tab tl = some ⟨.sl T, agg, size, bytes, zero⟩) (hT' : tab T = some ⟨k', agg', m, bytes', zero'⟩) (hj : 0 ≤ j ∧ j < (len : Int))
    (h : WH P w0 A ops L fuel (listed.setIfInBounds i true) ⟨n, (t, .val (.pointer (some ⟨g, o + j.toNat * m, none⟩))) :: sl, hp⟩ K) : WH P w0 A ops L (fuel + 1) listed ⟨n, sl, hp⟩ K := by
  refine H_take' hi hs (cand_spec hcd).1 (cand_spec hcd).2 hL hheld htn (fun ms a w a0 hr ha => ?_) h
  obtain ⟨inf, td, z, q1, q2, q3, q4, q5, q6, _⟩ := hT.get ht
  obtain ⟨inf', td', z', g1, g2, g3, g4, g5, g6, _⟩ := hT.get hT'
  have htd := TK.sl_inv q4
  subst htd
  obtain ⟨e1, _⟩ := (hr.ev_at hx).lit_inv
  obtain ⟨e2, _⟩ := (hr.ev_at hy).lit_inv
  refine ⟨_, fun w' _ => ?_, .val⟩
  simp only [execOp, Instr.indexAt, e1, e2, asIntOf, Sem.run_bind, Sem.run, pure, Result.andThen, run_underlying q2]
  simp only [hj.1, hj.2, and_self, if_true, run_sizeOf g1, g6]
  simp only [Addr.add]
  by_cases hb : j.toNat * m = 0 <;> simp [hb, run_sizeOf g1, g6]
/-- A load of two cells that lie where the call's callers vouch for them. -/
theorem H_loadOld2 {L : List (Tmp × Nat × Value)} {fuel : Nat} {listed : Array Bool} (hT : TabOk P tab) (k0 : Nat) {i : Nat} {t : Tmp} {x : Operand} {tl ty : TypeId} {pos : String} {after : Array Edge} {g o : Nat} {v1 v2 : Value} {k : TK} {bytes : Nat} {zero : List Value} (hcd : cand ops listed k0 = some i) (hi : ops[i]? = some ⟨some t, .load tl x, ty, pos, after, none⟩) (hs : noSel ops.toList = true) (hL : L.all (fun x => !Nat.beq x.1 t) = true) (hheld : heldOk ⟨n, sl, hp⟩ L) (htn : Nat.blt t n = true)
    (hx : evD (look sl) x = .val (.pointer (some ⟨g, o, none⟩))) (ht : tab tl = some ⟨k, true, 2, bytes, zero⟩) (hc : ∀ w', Ext w0 w' → w'.cell? ⟨g, o, none⟩ = some v1 ∧ w'.cell? ⟨g, o + 1, none⟩ = some v2) (l1 : litOk v1) (l2 : litOk v2) (h : WH P w0 A ops L fuel (listed.setIfInBounds i true) ⟨n, (t, .agg [.lit v1, .lit v2]) :: sl, hp⟩ K) : WH P w0 A ops L (fuel + 1) listed ⟨n, sl, hp⟩ K := by
  refine H_take' hi hs (cand_spec hcd).1 (cand_spec hcd).2 hL hheld htn (fun ms a w a0 hr ha => ?_) h
  have hgx : a.eval x = .pointer (some ⟨g, o, none⟩) := by
    have h := hr.ev_at hx
    generalize a.eval x = ux at h
    cases h with
    | rd h _ => cases h
    | val => rfl
  refine ⟨.agg #[v1, v2], fun w' hw' => ?_, .agg (us := [v1, v2]) (.cons (VX.of_lit l1) (.cons (VX.of_lit l2) .nil))⟩
  obtain ⟨c1, c2⟩ := hc w' hw'.ext
  have hld := loadVar_at (P := P) hT ht w' g o [v1, v2] rfl (by
    intro q v hv
    match q with
    | 0 => simp at hv; subst hv; exact c1
    | 1 => simp at hv; subst hv; exact c2
    | q + 2 => simp at hv)
  have hld2 : (Instr.loadAt tl (.pointer (some ⟨g, o, none⟩))).run P w' = .ok (.agg #[v1, v2]) w' := by
    simp only [Instr.loadAt, Instr.sureAddr, Sem.run_bind, Sem.run, Result.andThen, pure]; exact hld
  simp only [execOp, hgx, Sem.run_bind, hld2, Result.andThen]; rfl
/-- A slot that holds a struct of a scalar and a slice's value, read as the slice. -/
theorem WO_unpinN (t : Nat) {m : Nat} {q : D} {ys : List (List D)} {u : Value} {b : List Nat} (h : look sl t = .agg [q, .lit u]) (hv : VR w0 (.sh m ys) u b) (hA : ∀ k ∈ b, A k) (hk : WO P w0 A ops l ⟨n, (t, .agg [q, .sh m ys]) :: sl, hp⟩ K) : WO P w0 A ops l ⟨n, sl, hp⟩ K := by
  refine ⟨fun ms a w hr Q hq => hk.run ms a w ?_ Q hq⟩
  refine ⟨hr.ext, hr.old, hr.size, hr.defers, hr.len, hr.nodup, hr.range, hr.ents, fun t' => ?_⟩
  have h1 := hr.slots t'
  simp only [St.get, look] at h1 ⊢
  split
  · rename_i e
    subst e
    rw [h] at h1
    obtain ⟨us, e1, h2⟩ := h1.agg_inv
    rw [e1]
    cases h2 with
    | cons h3 h4 =>
      cases h4 with
      | cons h5 h6 =>
        cases h6
        refine .agg (.cons h3 (.cons ?_ .nil))
        rw [h5.lit_inv.1]; exact pin_vr hr hv hA
  · exact h1
/-- A variable's cells, told otherwise. -/
theorem Rel.recell {ms : List Ent} {a : Act} {w : World} (hr : Rel w0 A ms ⟨n, sl, hp⟩ a w) {i : Nat} {t : TypeId} {ds ds' : List D} (hb : hp[i]? = some (.cells t ds)) (h : ∀ us, VXs ms w (OkB w0.heap.size A ms w) ds us → VXs ms w (OkB w0.heap.size A ms w) ds' us) : Rel w0 A ms ⟨n, sl, hp.set i (.cells t ds')⟩ a w := by
  refine ⟨hr.ext, hr.old, hr.size, hr.defers, by simpa using hr.len, hr.nodup, hr.range, fun j b e hj he => ?_, hr.slots⟩
  simp only at hj
  rw [List.getElem?_set] at hj
  split at hj
  · rename_i e'
    subst e'
    split at hj
    · simp only [Option.some.injEq] at hj
      subst hj
      obtain ⟨b, us, e1, e2, e3⟩ := hr.ents i _ e hb he
      exact ⟨b, us, e1, e2, h us e3⟩
    · simp at hj
  · exact hr.ents j b e hj he
/-- A variable that holds two slices' values, told as the slices. -/
theorem W_recell2 {c : Code} {Q : Exit → St → Prop} (i : Nat) {t : TypeId} {m1 m2 : Nat} {y1 y2 : List (List D)} {u1 u2 : Value} {hp' : List Blk} (hb : hp[i]? = some (.cells t [.lit u1, .lit u2])) (h1 : ∃ b, VR w0 (.sh m1 y1) u1 b ∧ ∀ k ∈ b, A k) (h2 : ∃ b, VR w0 (.sh m2 y2) u2 b ∧ ∀ k ∈ b, A k) (e : setK i (.cells t [.sh m1 y1, .sh m2 y2]) hp some = some hp') (hk : W P w0 A c ⟨n, sl, hp'⟩ Q) : W P w0 A c ⟨n, sl, hp⟩ Q := by
  have e := setK_eq e
  simp only [Option.some.injEq] at e
  subst e
  obtain ⟨b1, q1, a1⟩ := h1
  obtain ⟨b2, q2, a2⟩ := h2
  refine W_weak (fun ms a w hr => ⟨ms, hr.recell hb fun us h => ?_⟩) hk
  cases h with
  | cons h3 h4 =>
    cases h4 with
    | cons h5 h6 =>
      cases h6
      refine .cons ?_ (.cons ?_ .nil)
      · rw [h3.lit_inv.1]; exact pin_vr hr q1 a1
      · rw [h5.lit_inv.1]; exact pin_vr hr q2 a2
end
end Go.Proofs.Ytcbfpeplcbgpjaa
