/- Graphs copied: what the program's and the reference's functions hand back. No condition. Graphs copied: what the program's and the reference's functions hand back. No condition. Graphs mirrored: what the program's and the reference's functions hand back. No condition. -/
import Derived.Test.YtcbfpeplcbgpjaaTag
import Derived.Test.YtcbfpeplcbgpjaaUniE
import Derived.Test.YtcbfpeplcbgpjaaStg
import Derived.Test.YtcbfpeplcbgpjaaMarkStg
set_option linter.unusedSimpArgs false
set_option linter.unusedVariables false
set_option maxHeartbeats 2000000
namespace Go.Proofs.Ytcbfpeplcbgpjaa
open Go.ChangeShapes Go.WideShapes Go.ChangeAt Go.RowKit

section
variable {P : Program} {tab : Nat → Option TI} {w0 : World} {A : Nat → Prop} {n : Nat} {sl : List (Nat × D)} {hp : List Blk} {ops : Array Oper} {l : List Oper} {K : St → Prop}
theorem old_vr {ms : List Ent} {a : Act} {w : World} (hr : Rel w0 A ms ⟨n, sl, hp⟩ a w) {d : D} {u : Value} {b : List Nat} (hv : VR w0 d u b) (hA : ∀ k ∈ b, A k) : VX ms w (OkB w0.heap.size A ms w) d u := by
  refine .rd (hv.keep fun k hk => hr.ext.heap (hr.old k (hA k hk))) fun k hk => ?_
  have h1 := hr.old k (hA k hk)
  exact ⟨Nat.lt_of_lt_of_le h1 hr.ext.size, Or.inr (hA k hk), fun h => by have := hr.range k (tops_owned h); omega⟩
/-- A slot that holds a slice's value, read as the slice. -/
theorem WO_unlit (t : Nat) {m : Nat} {ys : List (List D)} {u : Value} {b : List Nat} (h : look sl t = .lit u) (hv : VR w0 (.sh m ys) u b) (hA : ∀ k ∈ b, A k) (hk : WO P w0 A ops l ⟨n, (t, .sh m ys) :: sl, hp⟩ K) : WO P w0 A ops l ⟨n, sl, hp⟩ K := by
  refine ⟨fun ms a w hr Q hq => hk.run ms a w ?_ Q hq⟩
  refine ⟨hr.ext, hr.old, hr.size, hr.defers, hr.len, hr.nodup, hr.range, hr.ents, fun t' => ?_⟩
  have h1 := hr.slots t'
  simp only [St.get, look] at h1 ⊢
  split
  · rename_i e
    subst e
    rw [h] at h1
    rw [h1.lit_inv.1]; exact old_vr hr hv hA
  · exact h1
theorem WO_unlitA (t : Nat) {p u : Value} {m : Nat} {ys : List (List D)} {b : List Nat} (h : look sl t = .agg [.lit p, .lit u]) (hv : VR w0 (.sh m ys) u b) (hA : ∀ k ∈ b, A k) (hk : WO P w0 A ops l ⟨n, (t, .agg [.lit p, .sh m ys]) :: sl, hp⟩ K) : WO P w0 A ops l ⟨n, sl, hp⟩ K := by
  refine ⟨fun ms a w hr Q hq => hk.run ms a w ?_ Q hq⟩
  refine ⟨hr.ext, hr.old, hr.size, hr.defers, hr.len, hr.nodup, hr.range, hr.ents, fun t' => ?_⟩
  have h1 := hr.slots t'
  simp only [St.get, look] at h1 ⊢
  split
  · rename_i e
    subst e
    rw [h] at h1
    obtain ⟨us, e1, h2⟩ := h1.agg_inv
    rw [e1]
    cases h2 with
    | cons h3 h4 =>
      cases h4 with
      | cons h5 h6 =>
        cases h6
        refine .agg (.cons h3 (.cons ?_ .nil))
        rw [h5.lit_inv.1]; exact old_vr hr hv hA
  · exact h1
/-- A function that is handed a graph; its slices are known as values, and as what they read as at the call. -/
theorem Fn_stgC {f : FuncId} {fn : Func} {c : Code} {d : D} {rh : List Blk} (s : Stg) (hT : TabOk P tab) (hf : P.funcs[f]? = some fn) (hb : fn.body = some c) (hname : (fn.name == "runtime.NumGoroutine") = false) (hn : Nat.ble 1 fn.ntmps = true) (hrh : rh.all Blk.isArr = true)
    (h : ∀ w0 A (u1 u2 u3 : Value) (b1 b2 b3 : List Nat), VR w0 (.sh 2 (s.net.trs.map dTr)) u1 b1 → (∀ k ∈ b1, A k) → VR w0 (.sh 2 (s.signals.map dSig)) u2 b2 → (∀ k ∈ b2, A k) → VR w0 (.sh 2 (s.labels.map dLab)) u3 b3 → (∀ k ∈ b3, A k) →
      W P w0 A c ⟨fn.ntmps, argSlots 0 [.agg [.lit (.int .i64 s.net.places), .lit u1, .lit u2, .lit u3, .lit (.string s.start)]], []⟩ (retC tab fn.results d rh)) : Fn P f [.agg (dStg s)] d rh := by
  refine ⟨?_, hrh, ?_⟩
  · intro args w
    have h1 : ¬ fn.name = "runtime.NumGoroutine" := by simpa using hname
    have h2 : ¬ fn.body = none := by rw [hb]; simp
    simp [callFunc, program, Sem.run, go_sem, hf, h1, h2]
  · intro A w us hA hus
    obtain ⟨u, rfl, hu⟩ := vxs_one hus
    obtain ⟨us, rfl, hw⟩ := hu.agg_inv
    obtain ⟨v0, us0, rfl, p0, t0⟩ := vxs_cons hw
    obtain ⟨v1, us1, rfl, p1, t1⟩ := vxs_cons t0
    obtain ⟨v2, us2, rfl, p2, t2⟩ := vxs_cons t1
    obtain ⟨v3, us3, rfl, p3, t3⟩ := vxs_cons t2
    obtain ⟨v4, us4, rfl, p4, t4⟩ := vxs_cons t3
    cases t4
    obtain ⟨b1, q1, a1⟩ := p1.sh_inv
    obtain ⟨b2, q2, a2⟩ := p2.sh_inv
    obtain ⟨b3, q3, a3⟩ := p3.sh_inv
    have hn' : 1 ≤ fn.ntmps := Nat.le_of_ble_eq_true hn
    refine calls_of_wp hf hb (Code.wp_mono ?_ ((h w A v1 v2 v3 b1 b2 b3 q1 a1 q2 a2 q3 a3).run [] { tmps := [Value.agg #[v0, v1, v2, v3, v4]].toArray ++ Array.replicate (fn.ntmps - [Value.agg #[v0, v1, v2, v3, v4]].toArray.size) undef, defers := [] } w ?_))
    · rintro e a' w' ⟨ms, s, hr, hq⟩
      have key : RetC tab fn.results d rh s → a'.defers = [] ∧ ∃ v, (results fn a'.tmps).run P w' = .ok v w' ∧ ∃ v' ms, Ending.returned v = .returned v' ∧ Post w A d rh ms v' w' := by
        rintro ⟨dd, js, h1, h2, h3, h4⟩
        obtain ⟨v, h5, h6⟩ := resultsC_ok (P := P) hT h1 hr
        exact ⟨hr.defers, v, h5, v, _, rfl, hr.post h3 h4 h6 h2⟩
      cases hq with
      | r h => exact key h
      | n h => exact key h
    · refine ⟨Ext.refl _, hA, by simp; omega, rfl, rfl, by simp [owned], by simp [owned], by simp, fun t => ?_⟩
      have hlits : VXs [] w A [.agg [.lit (.int .i64 s.net.places), .lit v1, .lit v2, .lit v3, .lit (.string s.start)]] [Value.agg #[v0, v1, v2, v3, v4]] :=
        .cons (.agg (us := [v0, v1, v2, v3, v4]) (.cons p0 (.cons (VX.of_lit (isSl_lit q1.isSlice)) (.cons (VX.of_lit (isSl_lit q2.isSlice)) (.cons (VX.of_lit (isSl_lit q3.isSlice)) (.cons p4 .nil)))))) .nil
      refine look_arg (List.replicate (fn.ntmps - [Value.agg #[v0, v1, v2, v3, v4]].length) undef) (VXs.mono (ms' := []) (w' := w) (Ok' := OkB w.heap.size A [] w) (fun k hk => ⟨rfl, hA k hk, Or.inr hk, by simp [tops]⟩) hlits fun _ _ _ h => h) 0 t _ fun _ => ?_
      have e : ([Value.agg #[v0, v1, v2, v3, v4]].toArray ++ Array.replicate (fn.ntmps - [Value.agg #[v0, v1, v2, v3, v4]].toArray.size) undef) = ([Value.agg #[v0, v1, v2, v3, v4]] ++ List.replicate (fn.ntmps - [Value.agg #[v0, v1, v2, v3, v4]].length) undef).toArray := by
        rw [← List.append_toArray, List.size_toArray, List.toArray_replicate]
      rw [e]; simp [Array.getD_eq_getD_getElem?, List.getD_eq_getElem?_getD]
/-- A load of two held cells at once. -/
theorem H_load2 (hT : TabOk P tab) (k0 : Nat) {L : List (Tmp × Nat × Value)} {fuel : Nat} {listed : Array Bool} {i : Nat} {t : Tmp} {x : Operand} {tl ty : TypeId} {pos : String} {after : Array Edge} {j : Nat} {va vb : Value} {k : TK} {bytes : Nat} {zero : List Value} (hcd : cand ops listed k0 = some i) (hi : ops[i]? = some ⟨some t, .load tl x, ty, pos, after, none⟩) (hs : noSel ops.toList = true) (hL : L.all (fun x => !Nat.beq x.1 t) = true) (hheld : heldOk ⟨n, sl, hp⟩ L) (htn : Nat.blt t n = true)
    (hx : evD (look sl) x = .ptr j 0) (ht : tab tl = some ⟨k, true, 2, bytes, zero⟩) (hva : heldAt ⟨n, sl, hp⟩ j 0 L = some va) (hvb : heldAt ⟨n, sl, hp⟩ j 1 L = some vb) (h : WH P w0 A ops L fuel (listed.setIfInBounds i true) ⟨n, (t, .agg [.lit va, .lit vb]) :: sl, hp⟩ K) : WH P w0 A ops L (fuel + 1) listed ⟨n, sl, hp⟩ K := by
  refine H_take' hi hs (cand_spec hcd).1 (cand_spec hcd).2 hL hheld htn (fun ms a w a0 hr ha => ?_) h
  obtain ⟨e, b, hi', ht', e1⟩ := (hr.ev_at hx).ptr_inv
  have one : ∀ {o : Nat} {v : Value}, heldAt ⟨n, sl, hp⟩ j o L = some v → litOk v ∧ ∀ w', HeldF w0 L a0 w' → w'.cell? ⟨b, o, none⟩ = some v := by
    intro o v hv
    obtain ⟨y, hy, rfl, o0, hy1, rfl⟩ := heldAt_mem hv
    have h7 := hr.slots y.1
    rw [hy1] at h7
    obtain ⟨e', b', hi'', ht'', e2⟩ := h7.ptr_inv
    rw [hi'] at hi''; cases hi''
    rw [ht'] at ht''; cases ht''
    refine ⟨?_, fun w' hw' => hw'.cells y hy b o0 (by rw [← ha y hy]; exact e2)⟩
    have : ∀ {l : List (Tmp × Nat × Value)}, heldOk ⟨n, sl, hp⟩ l → y ∈ l → cellAt ⟨n, sl, hp⟩ y.1 y.2.1 = some (.lit y.2.2) := by
      intro l
      induction l with
      | nil => intro _ h; simp at h
      | cons q l ih => intro h hm; rcases List.mem_cons.1 hm with rfl | hm; exact h.1; exact ih h.2 hm
    have h8 := this hheld hy
    unfold cellAt at h8
    rw [hy1] at h8
    simp only at h8
    split at h8
    · rename_i t' ds hh
      obtain ⟨b2, us, rfl, h9, h10⟩ := hr.ents j _ e hh hi'
      obtain ⟨u, _, h11⟩ := h10.get h8
      exact h11.lit_inv.2
    · simp at h8
  obtain ⟨l1, c1⟩ := one hva
  obtain ⟨l2, c2⟩ := one hvb
  refine ⟨.agg #[va, vb], fun w' hw' => ?_, .agg (us := [va, vb]) (.cons (VX.of_lit l1) (.cons (VX.of_lit l2) .nil))⟩
  have hld := loadVar_tab (P := P) hT ht w' b [va, vb] rfl (by
    intro q v hv
    match q with
    | 0 => simp at hv; subst hv; exact c1 w' hw'
    | 1 => simp at hv; subst hv; simpa using c2 w' hw'
    | q + 2 => simp at hv)
  have hld2 : (Instr.loadAt tl (.pointer (some ⟨b, 0, none⟩))).run P w' = .ok (.agg #[va, vb]) w' := by
    simp only [Instr.loadAt, Instr.sureAddr, Sem.run_bind, Sem.run, Result.andThen, pure]; exact hld
  simp only [execOp, e1, Sem.run_bind, hld2, Result.andThen]; rfl
theorem Fn.argw {f : FuncId} {ds ds' : List D} {d : D} {rh : List Blk} (h : Fn P f ds d rh) (hc : ∀ (w : World) (A : Nat → Prop) (vs : List Value), VXs [] w A ds' vs → VXs [] w A ds vs) : Fn P f ds' d rh :=
  ⟨h.plain, h.arrs, fun A w vs hA hv => h.calls A w vs hA (hc w A vs hv)⟩
end

theorem uniN_nil (c : NetD) : uniN c ⟨0, []⟩ = c := by
  simp only [uniN, uniT, List.take_length, List.map_nil, List.take_nil, List.append_nil]
  rw [show shTr 0 = id from funext shTr_0, List.map_id]
  cases c; simp

theorem copyNet_f (c : NetD) (h : NetOk c) : Fn Try.prog 164 [.agg (dNetD c)] (.agg [.lit (.int .i64 c.places), .own 0]) [.arr 88 2 (c.trs.map dTr) true] := by
  refine Fn_ofC tabOk Try.func164 rfl (by kernel_rfl) rfl rfl ?_
  intro w0 A hin
  have h0 : NetOk ⟨0, []⟩ := ⟨by simp, by simp, by simp⟩
  have hU := unionNets_f c ⟨0, []⟩ h h0
  rw [uniN_nil] at hU
  have hU2 : Fn Try.prog 88 [.agg (dNetD c), .agg [.lit (.int .i64 0), .nil]] (.agg [.lit (.int .i64 c.places), .own 0]) [.arr 88 2 (c.trs.map dTr) true] := hU.argw fun w A vs hv => by
    obtain ⟨v0, vs, rfl, p0, t0⟩ := vxs_cons hv
    obtain ⟨v1, rfl, p1⟩ := vxs_one t0
    obtain ⟨us, rfl, p2⟩ := p1.agg_inv
    obtain ⟨x0, us, rfl, r0, r1⟩ := vxs_cons p2
    obtain ⟨x1, rfl, r2⟩ := vxs_one r1
    have := r2.nil_inv
    subst this
    exact .cons p0 (.cons (.agg (us := [x0, .slice none 0 0]) (.cons r0 (.cons (.rd (.shnil (by omega) fun _ => rfl) (by simp)) .nil))) .nil)
  repeat' (first | refine goZ ?_ | refine R_callZ rfl (hU2) rfl rfl rfl ?_ | refine R_callvZ rfl (hU2) rfl rfl rfl rfl ?_ | refine D_callZ rfl (hU2) rfl rfl rfl ?_ | ((first | refine R_cond rfl (fun hq => ?_) fun hq => ?_ | refine R_guardT rfl rfl rfl (fun hq => ?_) fun hq => ?_ | refine R_guardF rfl rfl rfl (fun hq => ?_) fun hq => ?_ | refine D_guardT rfl rfl rfl (fun hq => ?_) fun hq => ?_ | refine D_guardF rfl rfl rfl (fun hq => ?_) fun hq => ?_) <;> (try rw [hq]) <;> first | have hp := of_decide_eq_true hq | have hp := of_decide_eq_false hq | have hp := of_decide_eq_false (not_t hq) | have hp := of_decide_eq_true (not_f hq) | have hp := hq))
  first | exact .n (retC_ownA rfl rfl rfl rfl) | exact .r (retC_ownA rfl rfl rfl rfl)
end Go.Proofs.Ytcbfpeplcbgpjaa
namespace Go.Proofs.Ytcbfpeplcbgpjaa
open Go.ChangeShapes Go.WideShapes Go.ChangeAt Go.RowKit

theorem retC_own3 {tab : Nat → Option TI} {s : St} {rs : Array ResultVar} {i j k : Nat} {t1 t2 t3 : TypeId} {m1 m2 m3 : Nat} {xs xs' ys ys' zs zs' : List (List D)} {u u' v v' : Value} (h : retDC tab s rs.toList = some (.agg [.lit u, .own i, .own j, .own k, .lit v])) (h1 : s.heap[i]? = some (.arr t1 m1 xs true)) (h2 : s.heap[j]? = some (.arr t2 m2 ys true)) (h3 : s.heap[k]? = some (.arr t3 m3 zs true))
    (hn : (i ≠ j ∧ i ≠ k) ∧ j ≠ k) (e1 : u = u') (e2 : v = v') (e3 : xs = xs') (e4 : ys = ys') (e5 : zs = zs') : RetC tab rs (.agg [.lit u', .own 0, .own 1, .own 2, .lit v']) [.arr t1 m1 xs' true, .arr t2 m2 ys' true, .arr t3 m3 zs' true] s := by
  subst e3; subst e4; subst e5
  exact ⟨_, [some i, some j, some k], h, ⟨e1, rfl, rfl, rfl, e2, trivial⟩, ⟨h1, rfl, h2, rfl, h3, rfl, trivial⟩, by simp [hn]⟩

set_option maxHeartbeats 4000000 in
theorem copySTG_f (s : Stg) (hN : NetOk s.net) (hs : s.signals.length ≤ 1000000) (hl : s.labels.length ≤ 1000000) : Fn Try.prog 103 [.agg (dStg s)] (.agg [.lit (.int .i64 s.net.places), .own 0, .own 1, .own 2, .lit (.string s.start)]) [.arr 88 2 (s.net.trs.map dTr) true, .arr 132 2 (s.signals.map dSig) true, .arr 105 2 (s.labels.map dLab) true] := by
  refine Fn_stgC s tabOk Try.func103 rfl (by kernel_rfl) rfl rfl ?_
  intro w0 A u1 u2 u3 b1 b2 b3 q1 a1 q2 a2 q3 a3
  have hz1 := len_dSig s.signals; have hz2 := len_dLab s.labels
  have hf1 : Flat (s.signals.map dSig) := flat_map (by simp [dSig, isLit])
  have hf2 : Flat (s.labels.map dLab) := flat_map (by simp [dLab, isLit])
  repeat' (first | refine goZ ?_ | refine goH ?_ | refine H_two (by exact rfl) (by exact rfl) (by exact rfl) (by exact rfl) (by exact rfl) ?_ ?_ | refine H_three (by exact rfl) (by exact rfl) (by exact rfl) (by exact rfl) (by exact rfl) (by exact rfl) (by exact rfl) ?_ ?_ ?_  | refine R_callZ rfl (copyNet_f s.net hN) rfl rfl rfl ?_ | refine R_callvZ rfl (copyNet_f s.net hN) rfl rfl rfl rfl ?_ | refine WO_unlitA 4 rfl q1 a1 ?_ | refine WO_unlit 8 rfl q2 a2 ?_ | refine WO_unlit 12 rfl q3 a3 ?_ | refine R_append tabOk rfl rfl rfl rfl rfl rfl rfl rfl rfl rfl rfl (hf1) (by simp only [List.length_nil]; omega) ?_ | refine R_append tabOk rfl rfl rfl rfl rfl rfl rfl rfl rfl rfl rfl (hf2) (by simp only [List.length_nil]; omega) ?_ | refine D_callZ rfl (copyNet_f s.net hN) rfl rfl rfl ?_ | ((first | refine R_cond rfl (fun hq => ?_) fun hq => ?_ | refine R_guardT rfl rfl rfl (fun hq => ?_) fun hq => ?_ | refine R_guardF rfl rfl rfl (fun hq => ?_) fun hq => ?_ | refine D_guardT rfl rfl rfl (fun hq => ?_) fun hq => ?_ | refine D_guardF rfl rfl rfl (fun hq => ?_) fun hq => ?_) <;> (try rw [hq]) <;> first | have hp := of_decide_eq_true hq | have hp := of_decide_eq_false hq | have hp := of_decide_eq_false (not_t hq) | have hp := of_decide_eq_true (not_f hq) | have hp := hq) | refine W_held mixed [(1, 0, .int .i64 s.net.places), (1, 1, u1), (1, 2, u2), (1, 3, u3), (1, 4, .string s.start)] ?_ | refine And.intro (by exact ⟨rfl, rfl, rfl, rfl, rfl, trivial⟩) (idH ?_) | refine H_pop tabOk 0 (by exact rfl) (by exact rfl) (by exact rfl) (by exact rfl) (by exact ⟨rfl, rfl, rfl, rfl, rfl, trivial⟩) (by exact rfl) (by exact rfl) (by exact rfl) (by exact rfl) (by exact trivial) ?_ | refine H_load tabOk 0 (by exact rfl) (by exact rfl) (by exact rfl) (by exact rfl) (by exact ⟨rfl, rfl, rfl, rfl, rfl, trivial⟩) (by exact rfl) (by exact rfl) (by exact rfl) (by exact rfl) ?_ | refine H_load2 tabOk 0 (by exact rfl) (by exact rfl) (by exact rfl) (by exact rfl) (by exact ⟨rfl, rfl, rfl, rfl, rfl, trivial⟩) (by exact rfl) (by exact rfl) (by exact rfl) (by exact rfl) (by exact rfl) ?_ | refine H_pop tabOk 1 (by exact rfl) (by exact rfl) (by exact rfl) (by exact rfl) (by exact ⟨rfl, rfl, rfl, rfl, rfl, trivial⟩) (by exact rfl) (by exact rfl) (by exact rfl) (by exact rfl) (by exact trivial) ?_ | refine H_load tabOk 1 (by exact rfl) (by exact rfl) (by exact rfl) (by exact rfl) (by exact ⟨rfl, rfl, rfl, rfl, rfl, trivial⟩) (by exact rfl) (by exact rfl) (by exact rfl) (by exact rfl) ?_ | refine H_load2 tabOk 1 (by exact rfl) (by exact rfl) (by exact rfl) (by exact rfl) (by exact ⟨rfl, rfl, rfl, rfl, rfl, trivial⟩) (by exact rfl) (by exact rfl) (by exact rfl) (by exact rfl) (by exact rfl) ?_ | refine H_pop tabOk 2 (by exact rfl) (by exact rfl) (by exact rfl) (by exact rfl) (by exact ⟨rfl, rfl, rfl, rfl, rfl, trivial⟩) (by exact rfl) (by exact rfl) (by exact rfl) (by exact rfl) (by exact trivial) ?_ | refine H_load tabOk 2 (by exact rfl) (by exact rfl) (by exact rfl) (by exact rfl) (by exact ⟨rfl, rfl, rfl, rfl, rfl, trivial⟩) (by exact rfl) (by exact rfl) (by exact rfl) (by exact rfl) ?_ | refine H_load2 tabOk 2 (by exact rfl) (by exact rfl) (by exact rfl) (by exact rfl) (by exact ⟨rfl, rfl, rfl, rfl, rfl, trivial⟩) (by exact rfl) (by exact rfl) (by exact rfl) (by exact rfl) (by exact rfl) ?_ | refine H_pop tabOk 3 (by exact rfl) (by exact rfl) (by exact rfl) (by exact rfl) (by exact ⟨rfl, rfl, rfl, rfl, rfl, trivial⟩) (by exact rfl) (by exact rfl) (by exact rfl) (by exact rfl) (by exact trivial) ?_ | refine H_load tabOk 3 (by exact rfl) (by exact rfl) (by exact rfl) (by exact rfl) (by exact ⟨rfl, rfl, rfl, rfl, rfl, trivial⟩) (by exact rfl) (by exact rfl) (by exact rfl) (by exact rfl) ?_ | refine H_load2 tabOk 3 (by exact rfl) (by exact rfl) (by exact rfl) (by exact rfl) (by exact ⟨rfl, rfl, rfl, rfl, rfl, trivial⟩) (by exact rfl) (by exact rfl) (by exact rfl) (by exact rfl) (by exact rfl) ?_)
  all_goals exact .r (retC_own3 rfl rfl rfl rfl (by simp) rfl rfl rfl rfl rfl)

set_option maxHeartbeats 4000000 in
theorem l2Own_f (s : Stg) (hN : NetOk s.net) (hs : s.signals.length ≤ 1000000) (hl : s.labels.length ≤ 1000000) : Fn Try.prog 99 [.agg (dStg s)] (.agg [.lit (.int .i64 s.net.places), .own 0, .own 1, .own 2, .lit (.string s.start)]) [.arr 88 2 (s.net.trs.map dTr) true, .arr 132 2 (s.signals.map dSig) true, .arr 105 2 (s.labels.map dLab) true] := by
  refine Fn_stgC s tabOk Try.func99 rfl (by kernel_rfl) rfl rfl ?_
  intro w0 A u1 u2 u3 b1 b2 b3 q1 a1 q2 a2 q3 a3
  have hz1 := len_dSig s.signals; have hz2 := len_dLab s.labels
  have hf1 : Flat (s.signals.map dSig) := flat_map (by simp [dSig, isLit])
  have hf2 : Flat (s.labels.map dLab) := flat_map (by simp [dLab, isLit])
  repeat' (first | refine goZ ?_ | refine goH ?_ | refine H_two (by exact rfl) (by exact rfl) (by exact rfl) (by exact rfl) (by exact rfl) ?_ ?_ | refine H_three (by exact rfl) (by exact rfl) (by exact rfl) (by exact rfl) (by exact rfl) (by exact rfl) (by exact rfl) ?_ ?_ ?_  | refine R_callZ rfl (l1OwnN_f s.net (by have := hN.len; omega) (fun t ht => (hN.row t ht).1)) rfl rfl rfl ?_ | refine R_callvZ rfl (l1OwnN_f s.net (by have := hN.len; omega) (fun t ht => (hN.row t ht).1)) rfl rfl rfl rfl ?_ | refine WO_unlitA 4 rfl q1 a1 ?_ | refine WO_unlit 8 rfl q2 a2 ?_ | refine WO_unlit 12 rfl q3 a3 ?_ | refine R_append tabOk rfl rfl rfl rfl rfl rfl rfl rfl rfl rfl rfl (hf1) (by simp only [List.length_nil]; omega) ?_ | refine R_append tabOk rfl rfl rfl rfl rfl rfl rfl rfl rfl rfl rfl (hf2) (by simp only [List.length_nil]; omega) ?_ | refine D_callZ rfl (l1OwnN_f s.net (by have := hN.len; omega) (fun t ht => (hN.row t ht).1)) rfl rfl rfl ?_ | ((first | refine R_cond rfl (fun hq => ?_) fun hq => ?_ | refine R_guardT rfl rfl rfl (fun hq => ?_) fun hq => ?_ | refine R_guardF rfl rfl rfl (fun hq => ?_) fun hq => ?_ | refine D_guardT rfl rfl rfl (fun hq => ?_) fun hq => ?_ | refine D_guardF rfl rfl rfl (fun hq => ?_) fun hq => ?_) <;> (try rw [hq]) <;> first | have hp := of_decide_eq_true hq | have hp := of_decide_eq_false hq | have hp := of_decide_eq_false (not_t hq) | have hp := of_decide_eq_true (not_f hq) | have hp := hq) | refine W_held mixed [(1, 0, .int .i64 s.net.places), (1, 1, u1), (1, 2, u2), (1, 3, u3), (1, 4, .string s.start)] ?_ | refine And.intro (by exact ⟨rfl, rfl, rfl, rfl, rfl, trivial⟩) (idH ?_) | refine H_pop tabOk 0 (by exact rfl) (by exact rfl) (by exact rfl) (by exact rfl) (by exact ⟨rfl, rfl, rfl, rfl, rfl, trivial⟩) (by exact rfl) (by exact rfl) (by exact rfl) (by exact rfl) (by exact trivial) ?_ | refine H_load tabOk 0 (by exact rfl) (by exact rfl) (by exact rfl) (by exact rfl) (by exact ⟨rfl, rfl, rfl, rfl, rfl, trivial⟩) (by exact rfl) (by exact rfl) (by exact rfl) (by exact rfl) ?_ | refine H_load2 tabOk 0 (by exact rfl) (by exact rfl) (by exact rfl) (by exact rfl) (by exact ⟨rfl, rfl, rfl, rfl, rfl, trivial⟩) (by exact rfl) (by exact rfl) (by exact rfl) (by exact rfl) (by exact rfl) ?_ | refine H_pop tabOk 1 (by exact rfl) (by exact rfl) (by exact rfl) (by exact rfl) (by exact ⟨rfl, rfl, rfl, rfl, rfl, trivial⟩) (by exact rfl) (by exact rfl) (by exact rfl) (by exact rfl) (by exact trivial) ?_ | refine H_load tabOk 1 (by exact rfl) (by exact rfl) (by exact rfl) (by exact rfl) (by exact ⟨rfl, rfl, rfl, rfl, rfl, trivial⟩) (by exact rfl) (by exact rfl) (by exact rfl) (by exact rfl) ?_ | refine H_load2 tabOk 1 (by exact rfl) (by exact rfl) (by exact rfl) (by exact rfl) (by exact ⟨rfl, rfl, rfl, rfl, rfl, trivial⟩) (by exact rfl) (by exact rfl) (by exact rfl) (by exact rfl) (by exact rfl) ?_ | refine H_pop tabOk 2 (by exact rfl) (by exact rfl) (by exact rfl) (by exact rfl) (by exact ⟨rfl, rfl, rfl, rfl, rfl, trivial⟩) (by exact rfl) (by exact rfl) (by exact rfl) (by exact rfl) (by exact trivial) ?_ | refine H_load tabOk 2 (by exact rfl) (by exact rfl) (by exact rfl) (by exact rfl) (by exact ⟨rfl, rfl, rfl, rfl, rfl, trivial⟩) (by exact rfl) (by exact rfl) (by exact rfl) (by exact rfl) ?_ | refine H_load2 tabOk 2 (by exact rfl) (by exact rfl) (by exact rfl) (by exact rfl) (by exact ⟨rfl, rfl, rfl, rfl, rfl, trivial⟩) (by exact rfl) (by exact rfl) (by exact rfl) (by exact rfl) (by exact rfl) ?_ | refine H_pop tabOk 3 (by exact rfl) (by exact rfl) (by exact rfl) (by exact rfl) (by exact ⟨rfl, rfl, rfl, rfl, rfl, trivial⟩) (by exact rfl) (by exact rfl) (by exact rfl) (by exact rfl) (by exact trivial) ?_ | refine H_load tabOk 3 (by exact rfl) (by exact rfl) (by exact rfl) (by exact rfl) (by exact ⟨rfl, rfl, rfl, rfl, rfl, trivial⟩) (by exact rfl) (by exact rfl) (by exact rfl) (by exact rfl) ?_ | refine H_load2 tabOk 3 (by exact rfl) (by exact rfl) (by exact rfl) (by exact rfl) (by exact ⟨rfl, rfl, rfl, rfl, rfl, trivial⟩) (by exact rfl) (by exact rfl) (by exact rfl) (by exact rfl) (by exact rfl) ?_)
  all_goals exact .r (retC_own3 rfl rfl rfl rfl (by simp) rfl rfl rfl rfl rfl)
end Go.Proofs.Ytcbfpeplcbgpjaa
namespace Go.Proofs.Ytcbfpeplcbgpjaa
open Go.ChangeShapes Go.WideShapes Go.ChangeAt Go.RowKit

theorem retC_own3t {tab : Nat → Option TI} {s : St} {rs : Array ResultVar} {i j k : Nat} {t1 t2 t3 : TypeId} {m1 m2 m3 : Nat} {xs xs' ys ys' zs zs' : List (List D)} {u u' v v' q q' : Value} (h : retDC tab s rs.toList = some (.tup [.agg [.lit u, .own i, .own j, .own k, .lit v], .lit q])) (h1 : s.heap[i]? = some (.arr t1 m1 xs true)) (h2 : s.heap[j]? = some (.arr t2 m2 ys true)) (h3 : s.heap[k]? = some (.arr t3 m3 zs true))
    (hn : (i ≠ j ∧ i ≠ k) ∧ j ≠ k) (e1 : u = u') (e2 : v = v') (e6 : q = q') (e3 : xs = xs') (e4 : ys = ys') (e5 : zs = zs') : RetC tab rs (.tup [.agg [.lit u', .own 0, .own 1, .own 2, .lit v'], .lit q']) [.arr t1 m1 xs' true, .arr t2 m2 ys' true, .arr t3 m3 zs' true] s := by
  subst e3; subst e4; subst e5
  exact ⟨_, [some i, some j, some k], h, ⟨⟨e1, rfl, rfl, rfl, e2, trivial⟩, e6, trivial⟩, ⟨h1, rfl, h2, rfl, h3, rfl, trivial⟩, by simp [hn]⟩
theorem retC_nil3t {tab : Nat → Option TI} {s : St} {rs : Array ResultVar} {t1 t2 t3 : TypeId} {m1 m2 m3 : Nat} {xs' ys' zs' : List (List D)} {u u' v v' q q' : Value} (h : retDC tab s rs.toList = some (.tup [.agg [.lit u, .nil, .nil, .nil, .lit v], .lit q]))
    (e1 : u = u') (e2 : v = v') (e6 : q = q') (e3 : xs' = []) (e4 : ys' = []) (e5 : zs' = []) : RetC tab rs (.tup [.agg [.lit u', .own 0, .own 1, .own 2, .lit v'], .lit q']) [.arr t1 m1 xs' true, .arr t2 m2 ys' true, .arr t3 m3 zs' true] s :=
  ⟨_, [none, none, none], h, ⟨⟨e1, rfl, rfl, rfl, e2, trivial⟩, e6, trivial⟩, ⟨e3, e4, e5, trivial⟩, by simp⟩

def mirSig (x : Sig) : Sig := ⟨x.name, 3 - x.kind⟩
def mirL (l : List Sig) (i : Nat) : List Sig := (l.take i).map mirSig ++ l.drop i
theorem mirL_len (l : List Sig) (i : Nat) : (mirL l i).length = l.length := by simp [mirL]; omega
theorem mirL_nth {l : List Sig} {i : Nat} (h : i < l.length) : nth (mirL l i) i = nth l i := by
  rw [nth_get (by rw [mirL_len]; exact h), nth_get h]
  simp only [mirL]
  rw [List.getElem_append_right (by simp; omega)]
  simp [Nat.min_eq_left (Nat.le_of_lt h)]
theorem mirL_step {l : List Sig} {i : Nat} (h : i < l.length) : (mirL l i).set i ⟨(nth (mirL l i) i).name, 3 - (nth l i).kind⟩ = mirL l (i + 1) := by
  rw [mirL_nth h]
  simp only [mirL]
  rw [take_nth h, drop_nth h, List.map_append, List.append_assoc, List.set_append_right _ _ (by simp; omega)]
  congr 1
  simp [Nat.min_eq_left (Nat.le_of_lt h), mirSig]
theorem mirL_zero (l : List Sig) : mirL l 0 = l := by simp [mirL]
theorem mirL_all (l : List Sig) : mirL l l.length = l.map mirSig := by simp [mirL]
def notInt (x : Sig) : Bool := !decide (x.kind = 3)
def noStg : Stg := ⟨⟨0, []⟩, [], [], ⟨#[]⟩⟩
noncomputable def mirB (s : Stg) : Bool := goodStg s && s.signals.all notInt
noncomputable def mirR (s : Stg) : Stg := if mirB s then ⟨s.net, s.signals.map mirSig, s.labels, s.start⟩ else noStg
theorem mirR_no {s : Stg} (h : mirB s = false) : mirR s = noStg := by simp [mirR, h]
theorem mirR_yes {s : Stg} (h : mirB s = true) : mirR s = ⟨s.net, s.signals.map mirSig, s.labels, s.start⟩ := by simp [mirR, h]
theorem stg_ok {s : Stg} (h : goodStg s = true) (hz : szStg s ≤ 1048576) : NetOk s.net ∧ s.signals.length ≤ 1000000 ∧ s.labels.length ≤ 1000000 ∧ ∀ x ∈ s.signals, 1 ≤ x.kind ∧ x.kind ≤ 3 := by
  have h' := h
  simp only [goodStg, goodMark, sigsB, Bool.and_eq_true, decide_eq_true_eq] at h'
  obtain ⟨⟨h1, _⟩, ⟨h2, h3⟩, h4, _⟩ := h'
  have hN := NetOk.of s.net h1 (by simp only [szStg] at hz; omega)
  have hl := hN.len
  refine ⟨hN, by omega, by omega, fun x hx => ?_⟩
  obtain ⟨j, hj, rfl⟩ := List.getElem_of_mem hx
  have := (h2 j hj).1
  rw [nth_get hj] at this
  simp only [sigOk, Bool.and_eq_true, decide_eq_true_eq] at this
  exact this.2

theorem stg_le {s t : Stg} (h : goodStg s = true) (e1 : t.net = s.net) (e2 : t.signals.length = s.signals.length) (e3 : t.labels.length = s.labels.length) : ((cntTrs t.net.trs ≤ szStg s ∧ t.net.trs.length ≤ 24) ∧ t.signals.length ≤ 8 ∧ t.labels.length ≤ 24) ∧ -9223372036854775808 ≤ t.net.places ∧ t.net.places ≤ 9223372036854775807 := by
  have h' := h
  simp only [goodStg, goodMark, sigsB, Bool.and_eq_true, decide_eq_true_eq] at h'
  obtain ⟨⟨h1, _⟩, ⟨_, h3⟩, h4, _⟩ := h'
  simp only [goodNet, Bool.and_eq_true, decide_eq_true_eq] at h1
  have hsz : cntTrs s.net.trs ≤ szStg s := by
    have e : szNetD s.net = s.net.trs.length + cntTrs s.net.trs := rfl
    simp only [szStg]; omega
  rw [e1]
  have h12 := h1.1.2
  exact ⟨⟨⟨hsz, by omega⟩, by omega, by omega⟩, by omega, by omega⟩
theorem mirR_le (s : Stg) : ((cntTrs (mirR s).net.trs ≤ szStg s ∧ (mirR s).net.trs.length ≤ 24) ∧ (mirR s).signals.length ≤ 8 ∧ (mirR s).labels.length ≤ 24) ∧ -9223372036854775808 ≤ (mirR s).net.places ∧ (mirR s).net.places ≤ 9223372036854775807 := by
  cases hb : mirB s
  · rw [mirR_no hb]; simp [noStg, cntTrs]
  · rw [mirR_yes hb]
    simp only [mirB, Bool.and_eq_true] at hb
    exact stg_le hb.1 rfl (by simp) rfl
end Go.Proofs.Ytcbfpeplcbgpjaa
