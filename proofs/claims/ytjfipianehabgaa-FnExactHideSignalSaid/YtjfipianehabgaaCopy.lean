/- Graphs copied: what the program's and the reference's functions hand back. No condition. -/
import Derived.Test.YtjfipianehabgaaTag
import Derived.Test.YtjfipianehabgaaUniE
set_option linter.unusedSimpArgs false
set_option linter.unusedVariables false
set_option maxHeartbeats 2000000
namespace Go.Proofs.Ytjfipianehabgaa
open Go.ChangeShapes Go.WideShapes Go.ChangeAt Go.RowKit

section
variable {P : Program} {tab : Nat → Option TI} {w0 : World} {A : Nat → Prop} {n : Nat} {sl : List (Nat × D)} {hp : List Blk} {ops : Array Oper} {l : List Oper} {K : St → Prop}
theorem old_vr {ms : List Ent} {a : Act} {w : World} (hr : Rel w0 A ms ⟨n, sl, hp⟩ a w) {d : D} {u : Value} {b : List Nat} (hv : VR w0 d u b) (hA : ∀ k ∈ b, A k) : VX ms w (OkB w0.heap.size A ms w) d u := by
  refine .rd (hv.keep fun k hk => hr.ext.heap (hr.old k (hA k hk))) fun k hk => ?_
  have h1 := hr.old k (hA k hk)
  exact ⟨Nat.lt_of_lt_of_le h1 hr.ext.size, Or.inr (hA k hk), fun h => by have := hr.range k (tops_owned h); omega⟩
/-- A slot that holds a slice's value, read as the slice. -/
theorem WO_unlit (t : Nat) {m : Nat} {ys : List (List D)} {u : Value} {b : List Nat} (h : look sl t = .lit u) (hv : VR w0 (.sh m ys) u b) (hA : ∀ k ∈ b, A k) (hk : WO P w0 A ops l ⟨n, (t, .sh m ys) :: sl, hp⟩ K) : WO P w0 A ops l ⟨n, sl, hp⟩ K := by
  refine ⟨fun ms a w hr Q hq => hk.run ms a w ?_ Q hq⟩
  refine ⟨hr.ext, hr.old, hr.size, hr.defers, hr.len, hr.nodup, hr.range, hr.ents, fun t' => ?_⟩
  have h1 := hr.slots t'
  simp only [St.get, look] at h1 ⊢
  split
  · rename_i e
    subst e
    rw [h] at h1
    rw [h1.lit_inv.1]; exact old_vr hr hv hA
  · exact h1
theorem WO_unlitA (t : Nat) {p u : Value} {m : Nat} {ys : List (List D)} {b : List Nat} (h : look sl t = .agg [.lit p, .lit u]) (hv : VR w0 (.sh m ys) u b) (hA : ∀ k ∈ b, A k) (hk : WO P w0 A ops l ⟨n, (t, .agg [.lit p, .sh m ys]) :: sl, hp⟩ K) : WO P w0 A ops l ⟨n, sl, hp⟩ K := by
  refine ⟨fun ms a w hr Q hq => hk.run ms a w ?_ Q hq⟩
  refine ⟨hr.ext, hr.old, hr.size, hr.defers, hr.len, hr.nodup, hr.range, hr.ents, fun t' => ?_⟩
  have h1 := hr.slots t'
  simp only [St.get, look] at h1 ⊢
  split
  · rename_i e
    subst e
    rw [h] at h1
    obtain ⟨us, e1, h2⟩ := h1.agg_inv
    rw [e1]
    cases h2 with
    | cons h3 h4 =>
      cases h4 with
      | cons h5 h6 =>
        cases h6
        refine .agg (.cons h3 (.cons ?_ .nil))
        rw [h5.lit_inv.1]; exact old_vr hr hv hA
  · exact h1
/-- A function that is handed a graph; its slices are known as values, and as what they read as at the call. -/
theorem Fn_stgC {f : FuncId} {fn : Func} {c : Code} {d : D} {rh : List Blk} (s : Stg) (hT : TabOk P tab) (hf : P.funcs[f]? = some fn) (hb : fn.body = some c) (hname : (fn.name == "runtime.NumGoroutine") = false) (hn : Nat.ble 1 fn.ntmps = true) (hrh : rh.all Blk.isArr = true)
    (h : ∀ w0 A (u1 u2 u3 : Value) (b1 b2 b3 : List Nat), VR w0 (.sh 2 (s.net.trs.map dTr)) u1 b1 → (∀ k ∈ b1, A k) → VR w0 (.sh 2 (s.signals.map dSig)) u2 b2 → (∀ k ∈ b2, A k) → VR w0 (.sh 2 (s.labels.map dLab)) u3 b3 → (∀ k ∈ b3, A k) →
      W P w0 A c ⟨fn.ntmps, argSlots 0 [.agg [.lit (.int .i64 s.net.places), .lit u1, .lit u2, .lit u3, .lit (.string s.start)]], []⟩ (retC tab fn.results d rh)) : Fn P f [.agg (dStg s)] d rh := by
  refine ⟨?_, hrh, ?_⟩
  · intro args w
    have h1 : ¬ fn.name = "runtime.NumGoroutine" := by simpa using hname
    have h2 : ¬ fn.body = none := by rw [hb]; simp
    simp [callFunc, program, Sem.run, go_sem, hf, h1, h2]
  · intro A w us hA hus
    obtain ⟨u, rfl, hu⟩ := vxs_one hus
    obtain ⟨us, rfl, hw⟩ := hu.agg_inv
    obtain ⟨v0, us0, rfl, p0, t0⟩ := vxs_cons hw
    obtain ⟨v1, us1, rfl, p1, t1⟩ := vxs_cons t0
    obtain ⟨v2, us2, rfl, p2, t2⟩ := vxs_cons t1
    obtain ⟨v3, us3, rfl, p3, t3⟩ := vxs_cons t2
    obtain ⟨v4, us4, rfl, p4, t4⟩ := vxs_cons t3
    cases t4
    obtain ⟨b1, q1, a1⟩ := p1.sh_inv
    obtain ⟨b2, q2, a2⟩ := p2.sh_inv
    obtain ⟨b3, q3, a3⟩ := p3.sh_inv
    have hn' : 1 ≤ fn.ntmps := Nat.le_of_ble_eq_true hn
    refine calls_of_wp hf hb (Code.wp_mono ?_ ((h w A v1 v2 v3 b1 b2 b3 q1 a1 q2 a2 q3 a3).run [] { tmps := [Value.agg #[v0, v1, v2, v3, v4]].toArray ++ Array.replicate (fn.ntmps - [Value.agg #[v0, v1, v2, v3, v4]].toArray.size) undef, defers := [] } w ?_))
    · rintro e a' w' ⟨ms, s, hr, hq⟩
      have key : RetC tab fn.results d rh s → a'.defers = [] ∧ ∃ v, (results fn a'.tmps).run P w' = .ok v w' ∧ ∃ v' ms, Ending.returned v = .returned v' ∧ Post w A d rh ms v' w' := by
        rintro ⟨dd, js, h1, h2, h3, h4⟩
        obtain ⟨v, h5, h6⟩ := resultsC_ok (P := P) hT h1 hr
        exact ⟨hr.defers, v, h5, v, _, rfl, hr.post h3 h4 h6 h2⟩
      cases hq with
      | r h => exact key h
      | n h => exact key h
    · refine ⟨Ext.refl _, hA, by simp; omega, rfl, rfl, by simp [owned], by simp [owned], by simp, fun t => ?_⟩
      have hlits : VXs [] w A [.agg [.lit (.int .i64 s.net.places), .lit v1, .lit v2, .lit v3, .lit (.string s.start)]] [Value.agg #[v0, v1, v2, v3, v4]] :=
        .cons (.agg (us := [v0, v1, v2, v3, v4]) (.cons p0 (.cons (VX.of_lit (isSl_lit q1.isSlice)) (.cons (VX.of_lit (isSl_lit q2.isSlice)) (.cons (VX.of_lit (isSl_lit q3.isSlice)) (.cons p4 .nil)))))) .nil
      refine look_arg (List.replicate (fn.ntmps - [Value.agg #[v0, v1, v2, v3, v4]].length) undef) (VXs.mono (ms' := []) (w' := w) (Ok' := OkB w.heap.size A [] w) (fun k hk => ⟨rfl, hA k hk, Or.inr hk, by simp [tops]⟩) hlits fun _ _ _ h => h) 0 t _ fun _ => ?_
      have e : ([Value.agg #[v0, v1, v2, v3, v4]].toArray ++ Array.replicate (fn.ntmps - [Value.agg #[v0, v1, v2, v3, v4]].toArray.size) undef) = ([Value.agg #[v0, v1, v2, v3, v4]] ++ List.replicate (fn.ntmps - [Value.agg #[v0, v1, v2, v3, v4]].length) undef).toArray := by
        rw [← List.append_toArray, List.size_toArray, List.toArray_replicate]
      rw [e]; simp [Array.getD_eq_getD_getElem?, List.getD_eq_getElem?_getD]
/-- A load of two held cells at once. -/
theorem H_load2 (hT : TabOk P tab) (k0 : Nat) {L : List (Tmp × Nat × Value)} {fuel : Nat} {listed : Array Bool} {i : Nat} {t : Tmp} {x : Operand} {tl ty : TypeId} {pos : String} {after : Array Edge} {j : Nat} {va vb : Value} {k : TK} {bytes : Nat} {zero : List Value} (hcd : cand ops listed k0 = some i) (hi : ops[i]? = some ⟨some t, .load tl x, ty, pos, after, none⟩) (hs : noSel ops.toList = true) (hL : L.all (fun x => !Nat.beq x.1 t) = true) (hheld : heldOk ⟨n, sl, hp⟩ L) (htn : Nat.blt t n = true)
    (hx : evD (look sl) x = .ptr j 0) (ht : tab tl = some ⟨k, true, 2, bytes, zero⟩) (hva : heldAt ⟨n, sl, hp⟩ j 0 L = some va) (hvb : heldAt ⟨n, sl, hp⟩ j 1 L = some vb) (h : WH P w0 A ops L fuel (listed.setIfInBounds i true) ⟨n, (t, .agg [.lit va, .lit vb]) :: sl, hp⟩ K) : WH P w0 A ops L (fuel + 1) listed ⟨n, sl, hp⟩ K := by
  refine H_take' hi hs (cand_spec hcd).1 (cand_spec hcd).2 hL hheld htn (fun ms a w a0 hr ha => ?_) h
  obtain ⟨e, b, hi', ht', e1⟩ := (hr.ev_at hx).ptr_inv
  have one : ∀ {o : Nat} {v : Value}, heldAt ⟨n, sl, hp⟩ j o L = some v → litOk v ∧ ∀ w', HeldF L a0 w' → w'.cell? ⟨b, o, none⟩ = some v := by
    intro o v hv
    obtain ⟨y, hy, rfl, o0, hy1, rfl⟩ := heldAt_mem hv
    have h7 := hr.slots y.1
    rw [hy1] at h7
    obtain ⟨e', b', hi'', ht'', e2⟩ := h7.ptr_inv
    rw [hi'] at hi''; cases hi''
    rw [ht'] at ht''; cases ht''
    refine ⟨?_, fun w' hw' => hw' y hy b o0 (by rw [← ha y hy]; exact e2)⟩
    have : ∀ {l : List (Tmp × Nat × Value)}, heldOk ⟨n, sl, hp⟩ l → y ∈ l → cellAt ⟨n, sl, hp⟩ y.1 y.2.1 = some (.lit y.2.2) := by
      intro l
      induction l with
      | nil => intro _ h; simp at h
      | cons q l ih => intro h hm; rcases List.mem_cons.1 hm with rfl | hm; exact h.1; exact ih h.2 hm
    have h8 := this hheld hy
    unfold cellAt at h8
    rw [hy1] at h8
    simp only at h8
    split at h8
    · rename_i t' ds hh
      obtain ⟨b2, us, rfl, h9, h10⟩ := hr.ents j _ e hh hi'
      obtain ⟨u, _, h11⟩ := h10.get h8
      exact h11.lit_inv.2
    · simp at h8
  obtain ⟨l1, c1⟩ := one hva
  obtain ⟨l2, c2⟩ := one hvb
  refine ⟨.agg #[va, vb], fun w' hw' => ?_, .agg (us := [va, vb]) (.cons (VX.of_lit l1) (.cons (VX.of_lit l2) .nil))⟩
  have hld := loadVar_tab (P := P) hT ht w' b [va, vb] rfl (by
    intro q v hv
    match q with
    | 0 => simp at hv; subst hv; exact c1 w' hw'
    | 1 => simp at hv; subst hv; simpa using c2 w' hw'
    | q + 2 => simp at hv)
  have hld2 : (Instr.loadAt tl (.pointer (some ⟨b, 0, none⟩))).run P w' = .ok (.agg #[va, vb]) w' := by
    simp only [Instr.loadAt, Instr.sureAddr, Sem.run_bind, Sem.run, Result.andThen, pure]; exact hld
  simp only [execOp, e1, Sem.run_bind, hld2, Result.andThen]; rfl
theorem Fn.argw {f : FuncId} {ds ds' : List D} {d : D} {rh : List Blk} (h : Fn P f ds d rh) (hc : ∀ (w : World) (A : Nat → Prop) (vs : List Value), VXs [] w A ds' vs → VXs [] w A ds vs) : Fn P f ds' d rh :=
  ⟨h.plain, h.arrs, fun A w vs hA hv => h.calls A w vs hA (hc w A vs hv)⟩
end

theorem uniN_nil (c : NetD) : uniN c ⟨0, []⟩ = c := by
  simp only [uniN, uniT, List.take_length, List.map_nil, List.take_nil, List.append_nil]
  rw [show shTr 0 = id from funext shTr_0, List.map_id]
  cases c; simp

theorem copyNet_f (c : NetD) (h : NetOk c) : Fn Try.prog 203 [.agg (dNetD c)] (.agg [.lit (.int .i64 c.places), .own 0]) [.arr 149 2 (c.trs.map dTr) true] := by
  refine Fn_ofC tabOk Try.func203 rfl (by kernel_rfl) rfl rfl ?_
  intro w0 A hin
  have h0 : NetOk ⟨0, []⟩ := ⟨by simp, by simp, by simp⟩
  have hU := unionNets_f c ⟨0, []⟩ h h0
  rw [uniN_nil] at hU
  have hU2 : Fn Try.prog 140 [.agg (dNetD c), .agg [.lit (.int .i64 0), .nil]] (.agg [.lit (.int .i64 c.places), .own 0]) [.arr 149 2 (c.trs.map dTr) true] := hU.argw fun w A vs hv => by
    obtain ⟨v0, vs, rfl, p0, t0⟩ := vxs_cons hv
    obtain ⟨v1, rfl, p1⟩ := vxs_one t0
    obtain ⟨us, rfl, p2⟩ := p1.agg_inv
    obtain ⟨x0, us, rfl, r0, r1⟩ := vxs_cons p2
    obtain ⟨x1, rfl, r2⟩ := vxs_one r1
    have := r2.nil_inv
    subst this
    exact .cons p0 (.cons (.agg (us := [x0, .slice none 0 0]) (.cons r0 (.cons (.rd (.shnil (by omega) fun _ => rfl) (by simp)) .nil))) .nil)
  repeat' (first | refine goZ ?_ | refine R_callZ rfl (hU2) rfl rfl rfl ?_ | refine R_callvZ rfl (hU2) rfl rfl rfl rfl ?_ | refine D_callZ rfl (hU2) rfl rfl rfl ?_ | ((first | refine R_cond rfl (fun hq => ?_) fun hq => ?_ | refine R_guardT rfl rfl rfl (fun hq => ?_) fun hq => ?_ | refine R_guardF rfl rfl rfl (fun hq => ?_) fun hq => ?_ | refine D_guardT rfl rfl rfl (fun hq => ?_) fun hq => ?_ | refine D_guardF rfl rfl rfl (fun hq => ?_) fun hq => ?_) <;> (try rw [hq]) <;> first | have hp := of_decide_eq_true hq | have hp := of_decide_eq_false hq | have hp := of_decide_eq_false (not_t hq) | have hp := of_decide_eq_true (not_f hq) | have hp := hq))
  first | exact .n (retC_ownA rfl rfl rfl rfl) | exact .r (retC_ownA rfl rfl rfl rfl)
end Go.Proofs.Ytjfipianehabgaa
