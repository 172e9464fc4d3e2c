/- Nets and STGs that are handed back if they are right. No condition. Slices that are known as values: read in regions that draw their order. No condition. Arrays of the call's own whose slice is known as a value for a while; functions of two graphs whose slices are known as values. No condition. Regions that draw their order: four operations that may come up; slices that are known as values, told as arrays of the call's own again. No condition. Regions that draw their order and end in a row of operations that wait for all ahead of them: what is held need be held up to that row alone. No condition. -/
import Derived.Test.YtcpjhpjlcgcigaaGreatDoorRen
import Derived.Test.YtcpjhpjlcgcigaaGreatDoorNetX
import Derived.Test.YtcpjhpjlcgcigaaGreatDoorNet
import Derived.Deep.MidRow
import Derived.Laws.ResultCell
import Derived.Test.YtcpjhpjlcgcigaaGreatDoorAbsY
import Derived.Test.YtcpjhpjlcgcigaaGreatDoorFsb
set_option linter.unusedSimpArgs false
set_option linter.unusedVariables false
namespace Go.Proofs.YtcpjhpjlcgcigaaGreatDoor
open Go.ChangeShapes Go.WideShapes Go.ChangeAt Go.RowKit

theorem loadVar_tab {P : Program} {tab : Nat → Option TI} (hT : TabOk P tab) {T : TypeId} {k : TK} {size bytes : Nat} {zero : List Value} (ht : tab T = some ⟨k, true, size, bytes, zero⟩) (w : World) (b : Nat) (cs : List Value) (hs : cs.length = size) (hc : w.rangeAt b 0 cs) : (loadVar T ⟨b, 0, none⟩).run P w = .ok (.agg cs.toArray) w := by
  obtain ⟨inf, td, z, h1, h2, h3, h4, h5, h6, _⟩ := hT.get ht
  refine run_loadVar_mid w b 0 T cs td hc h2 ?_ (by rw [h1, hs]; simp [h6])
  clear h1 h2 h3 h4 hc
  cases td <;> first | rfl | (simp [aggDesc] at h5)

end Go.Proofs.YtcpjhpjlcgcigaaGreatDoor
namespace Go.Proofs.YtcpjhpjlcgcigaaGreatDoor
open Go.ChangeShapes Go.WideShapes Go.ChangeAt Go.RowKit

section
variable {P : Program} {tab : Nat → Option TI} {w0 : World} {A : Nat → Prop} {n : Nat} {sl : List (Nat × D)} {hp : List Blk} {ops : Array Oper} {l : List Oper} {K : St → Prop}
theorem pin_vr {ms : List Ent} {a : Act} {w : World} (hr : Rel w0 A ms ⟨n, sl, hp⟩ a w) {d : D} {u : Value} {b : List Nat} (hv : VR w0 d u b) (hA : ∀ k ∈ b, A k) : VX ms w (OkB w0.heap.size A ms w) d u := by
  refine .rd (hv.keep fun k hk => hr.ext.heap (hr.old k (hA k hk))) fun k hk => ?_
  have h1 := hr.old k (hA k hk)
  exact ⟨Nat.lt_of_lt_of_le h1 hr.ext.size, Or.inr (hA k hk), fun h => by have := hr.range k (tops_owned h); omega⟩
/-- A slot that holds a slice's value, read as the slice. -/
theorem WO_unpin (t : Nat) {m : Nat} {ys : List (List D)} {u : Value} {b : List Nat} (h : look sl t = .lit u) (hv : VR w0 (.sh m ys) u b) (hA : ∀ k ∈ b, A k) (hk : WO P w0 A ops l ⟨n, (t, .sh m ys) :: sl, hp⟩ K) : WO P w0 A ops l ⟨n, sl, hp⟩ K := by
  refine ⟨fun ms a w hr Q hq => hk.run ms a w ?_ Q hq⟩
  refine ⟨hr.ext, hr.old, hr.size, hr.defers, hr.len, hr.nodup, hr.range, hr.ents, fun t' => ?_⟩
  have h1 := hr.slots t'
  simp only [St.get, look] at h1 ⊢
  split
  · rename_i e
    subst e
    rw [h] at h1
    rw [h1.lit_inv.1]; exact pin_vr hr hv hA
  · exact h1
/-- A function whose arguments may be told otherwise, call by call. -/
theorem Fn_ofX {f : FuncId} {fn : Func} {c : Code} {ds : List D} {d : D} {rh : List Blk} (hf : P.funcs[f]? = some fn) (hb : fn.body = some c) (hname : (fn.name == "runtime.NumGoroutine") = false) (hn : Nat.ble ds.length fn.ntmps = true) (hrh : rh.all Blk.isArr = true)
    (h : ∀ w0 A us, (∀ k, A k → k < w0.heap.size) → VXs [] w0 A ds us → ∃ ds', VXs [] w0 A ds' us ∧ W P w0 A c ⟨fn.ntmps, argSlots 0 ds', []⟩ (retQ fn.results d rh)) : Fn P f ds d rh := by
  refine ⟨?_, hrh, ?_⟩
  · intro args w
    have h1 : ¬ fn.name = "runtime.NumGoroutine" := by simpa using hname
    have h2 : ¬ fn.body = none := by rw [hb]; simp
    simp [callFunc, program, Sem.run, go_sem, hf, h1, h2]
  · intro A w us hA hus
    have hl := hus.len
    have hn' : ds.length ≤ fn.ntmps := Nat.le_of_ble_eq_true hn
    obtain ⟨ds', hus', hW⟩ := h w A us hA hus
    refine calls_of_wp hf hb (Code.wp_mono ?_ (hW.run [] { tmps := us.toArray ++ Array.replicate (fn.ntmps - us.toArray.size) undef, defers := [] } w ?_))
    · rintro e a' w' ⟨ms, s, hr, hq⟩
      have key : RetS fn.results d rh s → a'.defers = [] ∧ ∃ v, (results fn a'.tmps).run P w' = .ok v w' ∧ ∃ v' ms, Ending.returned v = .returned v' ∧ Post w A d rh ms v' w' := by
        rintro ⟨dd, js, h1, h2, h3, h4⟩
        obtain ⟨v, h5, h6⟩ := results_ok (P := P) h1 hr
        exact ⟨hr.defers, v, h5, v, _, rfl, hr.post h3 h4 h6 h2⟩
      cases hq with
      | r h => exact key h
      | n h => exact key h
    · refine ⟨Ext.refl _, hA, by simp; omega, rfl, rfl, by simp [owned], by simp [owned], by simp, fun t => ?_⟩
      refine look_arg (List.replicate (fn.ntmps - us.length) undef) (VXs.mono (ms' := []) (w' := w) (Ok' := OkB w.heap.size A [] w) (fun k hk => ⟨rfl, hA k hk, Or.inr hk, by simp [tops]⟩) hus' fun _ _ _ h => h) 0 t _ fun _ => ?_
      have e : (us.toArray ++ Array.replicate (fn.ntmps - us.toArray.size) undef) = (us ++ List.replicate (fn.ntmps - us.length) undef).toArray := by
        rw [← List.append_toArray, List.size_toArray, List.toArray_replicate]
      rw [e]; simp [Array.getD_eq_getD_getElem?, List.getD_eq_getElem?_getD]

theorem vr_lit {w : World} {m : Nat} {xs : List (List D)} {u : Value} {b : List Nat} (h : VR w (.sh m xs) u b) : litOk u := by cases h <;> exact trivial
/-- A function that is handed a net ahead of something else; the net's slice is known as a value, and as what it reads as at the call. -/
theorem Fn_netV {f : FuncId} {fn : Func} {c : Code} {d : D} {ds : List D} {rh : List Blk} (s : NetD) (hf : P.funcs[f]? = some fn) (hb : fn.body = some c) (hname : (fn.name == "runtime.NumGoroutine") = false) (hn : Nat.ble (ds.length + 1) fn.ntmps = true) (hrh : rh.all Blk.isArr = true)
    (h : ∀ w0 A (u : Value) (b : List Nat), VR w0 (.sh 2 (s.trs.map dTr)) u b → (∀ k ∈ b, A k) → (∀ k, A k → k < w0.heap.size) →
      W P w0 A c ⟨fn.ntmps, argSlots 0 (.agg [.lit (.int .i64 s.places), .lit u] :: ds), []⟩ (retQ fn.results d rh)) : Fn P f (.agg (dNetD s) :: ds) d rh := by
  refine Fn_ofX hf hb hname hn hrh fun w0 A us hA hus => ?_
  obtain ⟨u, us', rfl, hu, hv⟩ := vxs_cons hus
  obtain ⟨us, rfl, hw⟩ := hu.agg_inv
  obtain ⟨v1, us1, rfl, p1, t1⟩ := vxs_cons hw
  obtain ⟨v2, rfl, p2⟩ := vxs_one t1
  obtain ⟨b2, q2, a2⟩ := p2.sh_inv
  refine ⟨_, ?_, h w0 A v2 b2 q2 a2 hA⟩
  exact .cons (.agg (us := [v1, v2]) (.cons p1 (.cons (VX.of_lit (vr_lit q2)) .nil))) hv
/-- Where a row of a slice lies. -/
theorem row_at {w : World} {m : Nat} {xs : List (List D)} {u : Value} {bs : List Nat} (h : VR w (.sh m xs) u bs) {j : Nat} (hj : j < xs.length) : ∃ g o cap vs bs', u = .slice (some ⟨g, o, none⟩) xs.length cap ∧ g ∈ bs ∧ g < w.heap.size ∧ VRs w (nth xs j) vs bs' ∧ (∀ k ∈ bs', k ∈ bs) ∧ ∀ i, i < m → w.cell? ⟨g, o + j * m + i, none⟩ = vs[i]? := by
  cases h with
  | shnil _ _ => simp at hj
  | sh h1 h2 h3 h4 h5 h6 =>
    rename_i b o cap us bs
    obtain ⟨bs', g1, g2⟩ := h5.part (j * m) m
    have hrow := flatten_part h1 (m := j) (r := nth xs j) (by rw [nth_get hj]; exact List.getElem?_eq_getElem hj)
    rw [hrow] at g1
    refine ⟨b, o, cap, _, bs', rfl, List.mem_cons_self .., h4, g1, fun k hk => List.mem_cons_of_mem _ (g2 k hk), fun i hi => ?_⟩
    have hl := h5.len
    have hfl : xs.flatten.length = xs.length * m := flatten_len h1
    have hle : j * m + m ≤ xs.length * m := by
      rw [← Nat.succ_mul]; exact Nat.mul_le_mul_right m hj
    rw [Nat.add_assoc, h6 (j * m + i) (by omega)]
    rw [List.getElem?_take, if_pos hi, List.getElem?_drop]
theorem loadVar_at (hT : TabOk P tab) {T : TypeId} {k : TK} {size bytes : Nat} {zero : List Value} (ht : tab T = some ⟨k, true, size, bytes, zero⟩) (w : World) (b o : Nat) (cs : List Value) (hs : cs.length = size) (hc : w.rangeAt b o cs) : (loadVar T ⟨b, o, none⟩).run P w = .ok (.agg cs.toArray) w := by
  obtain ⟨inf, td, z, h1, h2, h3, h4, h5, h6, _⟩ := hT.get ht
  refine run_loadVar_mid w b o T cs td hc h2 ?_ (by rw [h1, hs]; simp [h6])
  clear h1 h2 h3 h4 hc
  cases td <;> first | rfl | (simp [aggDesc] at h5)
/-- The address of an element of a slice that is known as a value. -/
theorem H_idxLit {L : List (Tmp × Nat × Value)} {fuel : Nat} {listed : Array Bool} (hT : TabOk P tab) (k0 : Nat) {i : Nat} {t : Tmp} {x y : Operand} {tl T ty : TypeId} {pos : String} {after : Array Edge} {g o len cap m : Nat} {j : Int} {agg : Bool} {size bytes : Nat} {zero : List Value} {k' : TK} {agg' : Bool} {bytes' : Nat} {zero' : List Value} (hcd : cand ops listed k0 = some i) (hi : ops[i]? = some ⟨some t, .indexAddr tl x y, ty, pos, after, none⟩) (hs : noSel ops.toList = true) (hL : L.all (fun x => !Nat.beq x.1 t) = true) (hheld : heldOk ⟨n, sl, hp⟩ L) (htn : Nat.blt t n = true)
    (hx : evD (look sl) x = .lit (.slice (some ⟨g, o, none⟩) len cap)) (hy : evD (look sl) y = .lit (.int .i64 j)) (ht : tab tl = some ⟨.sl T, agg, size, bytes, zero⟩) (hT' : tab T = some ⟨k', agg', m, bytes', zero'⟩) (hj : 0 ≤ j ∧ j < (len : Int))
    (h : WH P w0 A ops L fuel (listed.setIfInBounds i true) ⟨n, (t, .val (.pointer (some ⟨g, o + j.toNat * m, none⟩))) :: sl, hp⟩ K) : WH P w0 A ops L (fuel + 1) listed ⟨n, sl, hp⟩ K := by
  refine H_take' hi hs (cand_spec hcd).1 (cand_spec hcd).2 hL hheld htn (fun ms a w a0 hr ha => ?_) h
  obtain ⟨inf, td, z, q1, q2, q3, q4, q5, q6, _⟩ := hT.get ht
  obtain ⟨inf', td', z', g1, g2, g3, g4, g5, g6, _⟩ := hT.get hT'
  have htd := TK.sl_inv q4
  subst htd
  obtain ⟨e1, _⟩ := (hr.ev_at hx).lit_inv
  obtain ⟨e2, _⟩ := (hr.ev_at hy).lit_inv
  refine ⟨_, fun w' _ => ?_, .val⟩
  simp only [execOp, Instr.indexAt, e1, e2, asIntOf, Sem.run_bind, Sem.run, pure, Result.andThen, run_underlying q2]
  simp only [hj.1, hj.2, and_self, if_true, run_sizeOf g1, g6]
  simp only [Addr.add]
  by_cases hb : j.toNat * m = 0 <;> simp [hb, run_sizeOf g1, g6]
/-- A load of two cells that lie where the call's callers vouch for them. -/
theorem H_loadOld2 {L : List (Tmp × Nat × Value)} {fuel : Nat} {listed : Array Bool} (hT : TabOk P tab) (k0 : Nat) {i : Nat} {t : Tmp} {x : Operand} {tl ty : TypeId} {pos : String} {after : Array Edge} {g o : Nat} {v1 v2 : Value} {k : TK} {bytes : Nat} {zero : List Value} (hcd : cand ops listed k0 = some i) (hi : ops[i]? = some ⟨some t, .load tl x, ty, pos, after, none⟩) (hs : noSel ops.toList = true) (hL : L.all (fun x => !Nat.beq x.1 t) = true) (hheld : heldOk ⟨n, sl, hp⟩ L) (htn : Nat.blt t n = true)
    (hx : evD (look sl) x = .val (.pointer (some ⟨g, o, none⟩))) (ht : tab tl = some ⟨k, true, 2, bytes, zero⟩) (hc : ∀ w', Ext w0 w' → w'.cell? ⟨g, o, none⟩ = some v1 ∧ w'.cell? ⟨g, o + 1, none⟩ = some v2) (l1 : litOk v1) (l2 : litOk v2) (h : WH P w0 A ops L fuel (listed.setIfInBounds i true) ⟨n, (t, .agg [.lit v1, .lit v2]) :: sl, hp⟩ K) : WH P w0 A ops L (fuel + 1) listed ⟨n, sl, hp⟩ K := by
  refine H_take' hi hs (cand_spec hcd).1 (cand_spec hcd).2 hL hheld htn (fun ms a w a0 hr ha => ?_) h
  have hgx : a.eval x = .pointer (some ⟨g, o, none⟩) := by
    have h := hr.ev_at hx
    generalize a.eval x = ux at h
    cases h with
    | rd h _ => cases h
    | val => rfl
  refine ⟨.agg #[v1, v2], fun w' hw' => ?_, .agg (us := [v1, v2]) (.cons (VX.of_lit l1) (.cons (VX.of_lit l2) .nil))⟩
  obtain ⟨c1, c2⟩ := hc w' hw'.ext
  have hld := loadVar_at (P := P) hT ht w' g o [v1, v2] rfl (by
    intro q v hv
    match q with
    | 0 => simp at hv; subst hv; exact c1
    | 1 => simp at hv; subst hv; exact c2
    | q + 2 => simp at hv)
  have hld2 : (Instr.loadAt tl (.pointer (some ⟨g, o, none⟩))).run P w' = .ok (.agg #[v1, v2]) w' := by
    simp only [Instr.loadAt, Instr.sureAddr, Sem.run_bind, Sem.run, Result.andThen, pure]; exact hld
  simp only [execOp, hgx, Sem.run_bind, hld2, Result.andThen]; rfl
/-- A slot that holds a struct of a scalar and a slice's value, read as the slice. -/
theorem WO_unpinN (t : Nat) {m : Nat} {q : D} {ys : List (List D)} {u : Value} {b : List Nat} (h : look sl t = .agg [q, .lit u]) (hv : VR w0 (.sh m ys) u b) (hA : ∀ k ∈ b, A k) (hk : WO P w0 A ops l ⟨n, (t, .agg [q, .sh m ys]) :: sl, hp⟩ K) : WO P w0 A ops l ⟨n, sl, hp⟩ K := by
  refine ⟨fun ms a w hr Q hq => hk.run ms a w ?_ Q hq⟩
  refine ⟨hr.ext, hr.old, hr.size, hr.defers, hr.len, hr.nodup, hr.range, hr.ents, fun t' => ?_⟩
  have h1 := hr.slots t'
  simp only [St.get, look] at h1 ⊢
  split
  · rename_i e
    subst e
    rw [h] at h1
    obtain ⟨us, e1, h2⟩ := h1.agg_inv
    rw [e1]
    cases h2 with
    | cons h3 h4 =>
      cases h4 with
      | cons h5 h6 =>
        cases h6
        refine .agg (.cons h3 (.cons ?_ .nil))
        rw [h5.lit_inv.1]; exact pin_vr hr hv hA
  · exact h1
/-- A variable's cells, told otherwise. -/
theorem Rel.recell {ms : List Ent} {a : Act} {w : World} (hr : Rel w0 A ms ⟨n, sl, hp⟩ a w) {i : Nat} {t : TypeId} {ds ds' : List D} (hb : hp[i]? = some (.cells t ds)) (h : ∀ us, VXs ms w (OkB w0.heap.size A ms w) ds us → VXs ms w (OkB w0.heap.size A ms w) ds' us) : Rel w0 A ms ⟨n, sl, hp.set i (.cells t ds')⟩ a w := by
  refine ⟨hr.ext, hr.old, hr.size, hr.defers, by simpa using hr.len, hr.nodup, hr.range, fun j b e hj he => ?_, hr.slots⟩
  simp only at hj
  rw [List.getElem?_set] at hj
  split at hj
  · rename_i e'
    subst e'
    split at hj
    · simp only [Option.some.injEq] at hj
      subst hj
      obtain ⟨b, us, e1, e2, e3⟩ := hr.ents i _ e hb he
      exact ⟨b, us, e1, e2, h us e3⟩
    · simp at hj
  · exact hr.ents j b e hj he
/-- A variable that holds two slices' values, told as the slices. -/
theorem W_recell2 {c : Code} {Q : Exit → St → Prop} (i : Nat) {t : TypeId} {m1 m2 : Nat} {y1 y2 : List (List D)} {u1 u2 : Value} {hp' : List Blk} (hb : hp[i]? = some (.cells t [.lit u1, .lit u2])) (h1 : ∃ b, VR w0 (.sh m1 y1) u1 b ∧ ∀ k ∈ b, A k) (h2 : ∃ b, VR w0 (.sh m2 y2) u2 b ∧ ∀ k ∈ b, A k) (e : setK i (.cells t [.sh m1 y1, .sh m2 y2]) hp some = some hp') (hk : W P w0 A c ⟨n, sl, hp'⟩ Q) : W P w0 A c ⟨n, sl, hp⟩ Q := by
  have e := setK_eq e
  simp only [Option.some.injEq] at e
  subst e
  obtain ⟨b1, q1, a1⟩ := h1
  obtain ⟨b2, q2, a2⟩ := h2
  refine W_weak (fun ms a w hr => ⟨ms, hr.recell hb fun us h => ?_⟩) hk
  cases h with
  | cons h3 h4 =>
    cases h4 with
    | cons h5 h6 =>
      cases h6
      refine .cons ?_ (.cons ?_ .nil)
      · rw [h3.lit_inv.1]; exact pin_vr hr q1 a1
      · rw [h5.lit_inv.1]; exact pin_vr hr q2 a2
end
end Go.Proofs.YtcpjhpjlcgcigaaGreatDoor
namespace Go.Proofs.YtcpjhpjlcgcigaaGreatDoor
open Go.ChangeShapes Go.WideShapes Go.ChangeAt Go.RowKit

/-- The array lies there, its slice the value u. -/
def ArrU (base : Nat) (u : Value) (T : TypeId) (m : Nat) (xs : List (List D)) (w : World) (v : Value) (top : Option Nat) (nest : List Nat) : Prop :=
  v = u ∧ ∃ us bs, w.ownsRow base T m v xs.length us ∧ (∀ r ∈ xs, r.length = m) ∧ VRs w xs.flatten us bs ∧ top = v.ownBlock ∧ nest = bs ∧ ∀ k ∈ bs, Un w k
section
variable {P : Program} {tab : Nat → Option TI} {w0 w w' : World} {A : Nat → Prop} {n : Nat} {sl : List (Nat × D)} {hp : List Blk} {ms : List Ent} {a : Act}
theorem ArrU.keep {base : Nat} {u v : Value} {T : TypeId} {m : Nat} {xs : List (List D)} {top : Option Nat} {nest : List Nat} (h : ArrU base u T m xs w v top nest) (hk : ∀ k ∈ top.toList ++ nest, w'.heap[k]? = w.heap[k]?) : ArrU base u T m xs w' v top nest := by
  obtain ⟨rfl, us, bs, h1, h2, h3, h4, h5, h6⟩ := h
  refine ⟨rfl, us, bs, ownsRow_keep h1 fun k hk' => hk k ?_, h2, h3.keep fun k hk' => hk k ?_, h4, h5, fun k hk' => (h6 k hk').keep (hk k ?_)⟩
  · rw [h4, hk']; simp
  · rw [h5]; exact List.mem_append_right _ hk'
  · rw [h5]; exact List.mem_append_right _ hk'
theorem Rel.pinO (hr : Rel w0 A ms ⟨n, sl, hp⟩ a w) {i c o m : Nat} {T Tc : TypeId} {xs : List (List D)} {ds : List D} (hb : hp[i]? = some (.arr T m xs true)) (hc : hp[c]? = some (.cells Tc ds)) (ho : ds[o]? = some (.own i)) : ∃ u, litOk u ∧ Rel w0 A ms ⟨n, sl, (hp.set i (.cust (ArrU w0.heap.size u T m xs))).set c (.cells Tc (ds.set o (.lit u)))⟩ a w := by
  have hil : i < ms.length := by rw [hr.len]; exact (List.getElem?_eq_some_iff.1 hb).1
  obtain ⟨e, hi⟩ : ∃ e, ms[i]? = some e := ⟨_, List.getElem?_eq_getElem hil⟩
  have hE := hr.ents i _ e hb hi
  have hlit : litOk e.v := by
    obtain ⟨us, bs, ⟨_, ⟨h, _⟩ | ⟨g, cap, cur, h, _⟩⟩, _⟩ := hE <;> rw [h] <;> exact trivial
  have hcl : c < hp.length := (List.getElem?_eq_some_iff.1 hc).1
  have hic : i ≠ c := by intro e'; subst e'; rw [hb] at hc; cases hc
  refine ⟨e.v, hlit, hr.ext, hr.old, hr.size, hr.defers, by simpa using hr.len, hr.nodup, hr.range, fun j b x hj hx => ?_, hr.slots⟩
  simp only at hj
  by_cases hjc : j = c
  · subst hjc
    rw [List.getElem?_set_self (by simpa using hcl)] at hj
    cases hj
    obtain ⟨b1, us, q1, q2, q3⟩ := hr.ents j _ x hc hx
    refine ⟨b1, us, q1, q2, ?_⟩
    obtain ⟨u, q4, q5⟩ := q3.get ho
    obtain ⟨e2, p1, p2, _⟩ := q5.own_inv
    rw [hi] at p1; cases p1
    subst p2
    have q6 := q3.set o (d := .lit e.v) (VX.of_lit (ms := ms) (w := w) (Ok := OkB w0.heap.size A ms w) hlit)
    have q7 : us.set o e.v = us := by
      obtain ⟨hlt, he⟩ := List.getElem?_eq_some_iff.1 q4
      rw [← he]; exact List.set_getElem_self hlt
    rwa [q7] at q6
  · rw [List.getElem?_set_ne (Ne.symm hjc)] at hj
    by_cases hji : j = i
    · subst hji
      rw [List.getElem?_set_self (List.getElem?_eq_some_iff.1 hb).1] at hj
      cases hj
      rw [hi] at hx; cases hx
      obtain ⟨us, bs, o1, o2, o3, o4, o5⟩ := hE
      have hR : ArrU w0.heap.size e.v T m xs w e.v e.top e.nest := ⟨rfl, us, bs, o1, o2, o3, o4, o5.1, o5.2⟩
      exact ⟨hR, fun w' hk => hR.keep hk⟩
    · rw [List.getElem?_set_ne (Ne.symm hji)] at hj
      exact hr.ents j b x hj hx
theorem W_pinO {code : Code} {Q : Exit → St → Prop} (i c o : Nat) {m : Nat} {T Tc : TypeId} {xs : List (List D)} {ds : List D} (hb : hp[i]? = some (.arr T m xs true)) (hc : hp[c]? = some (.cells Tc ds)) (ho : ds[o]? = some (.own i)) (h : ∀ u, litOk u → W P w0 A code ⟨n, sl, (hp.set i (.cust (ArrU w0.heap.size u T m xs))).set c (.cells Tc (ds.set o (.lit u)))⟩ Q) : W P w0 A code ⟨n, sl, hp⟩ Q := by
  refine ⟨fun ms a w hr => ?_⟩
  obtain ⟨u, h1, h2⟩ := hr.pinO hb hc ho
  exact (h u h1).run ms a w h2
theorem Rel.unpinO (hr : Rel w0 A ms ⟨n, sl, hp⟩ a w) {i c o m : Nat} {T Tc : TypeId} {xs : List (List D)} {ds : List D} {u : Value} (hb : hp[i]? = some (.cust (ArrU w0.heap.size u T m xs))) (hc : hp[c]? = some (.cells Tc ds)) (ho : ds[o]? = some (.lit u)) : Rel w0 A ms ⟨n, sl, (hp.set i (.arr T m xs true)).set c (.cells Tc (ds.set o (.own i)))⟩ a w := by
  have hil : i < ms.length := by rw [hr.len]; exact (List.getElem?_eq_some_iff.1 hb).1
  obtain ⟨e, hi⟩ : ∃ e, ms[i]? = some e := ⟨_, List.getElem?_eq_getElem hil⟩
  obtain ⟨⟨hv, us, bs, o1, o2, o3, o4, o5, o6⟩, _⟩ := hr.ents i _ e hb hi
  have hcl : c < hp.length := (List.getElem?_eq_some_iff.1 hc).1
  have hsl : ∃ a n c, e.v = .slice a n c := by
    obtain ⟨_, ⟨h, _⟩ | ⟨g, cap, cur, h, _⟩⟩ := o1 <;> exact ⟨_, _, _, h⟩
  refine ⟨hr.ext, hr.old, hr.size, hr.defers, by simpa using hr.len, hr.nodup, hr.range, fun j b x hj hx => ?_, hr.slots⟩
  simp only at hj
  by_cases hjc : j = c
  · subst hjc
    rw [List.getElem?_set_self (by simpa using hcl)] at hj
    cases hj
    obtain ⟨b1, us1, q1, q2, q3⟩ := hr.ents j _ x hc hx
    refine ⟨b1, us1, q1, q2, ?_⟩
    obtain ⟨u', q4, q5⟩ := q3.get ho
    obtain ⟨rfl, _⟩ := q5.lit_inv
    have q6 := q3.set o (d := .own i) (u := u') (by rw [← hv]; exact VX.own hi hsl)
    have q7 : us1.set o u' = us1 := by
      obtain ⟨hlt, he⟩ := List.getElem?_eq_some_iff.1 q4
      rw [← he]; exact List.set_getElem_self hlt
    rwa [q7] at q6
  · rw [List.getElem?_set_ne (Ne.symm hjc)] at hj
    by_cases hji : j = i
    · subst hji
      rw [List.getElem?_set_self (List.getElem?_eq_some_iff.1 hb).1] at hj
      cases hj
      rw [hi] at hx; cases hx
      exact ⟨us, bs, o1, o2, o3, o4, by rw [if_pos rfl]; exact ⟨o5, o6⟩⟩
    · rw [List.getElem?_set_ne (Ne.symm hji)] at hj
      exact hr.ents j b x hj hx
theorem W_unpinO {code : Code} {Q : Exit → St → Prop} (i c o : Nat) {m : Nat} {T Tc : TypeId} {xs : List (List D)} {ds : List D} {u : Value} (hb : hp[i]? = some (.cust (ArrU w0.heap.size u T m xs))) (hc : hp[c]? = some (.cells Tc ds)) (ho : ds[o]? = some (.lit u)) (h : W P w0 A code ⟨n, sl, (hp.set i (.arr T m xs true)).set c (.cells Tc (ds.set o (.own i)))⟩ Q) : W P w0 A code ⟨n, sl, hp⟩ Q :=
  ⟨fun ms a w hr => h.run ms a w (hr.unpinO hb hc ho)⟩
/-- A function that is handed two graphs; their slices are known as values, and as what they read as at the call. -/
theorem Fn_stg2 {f : FuncId} {fn : Func} {c : Code} {d : D} {rh : List Blk} (s t : Stg) (hT : TabOk P tab) (hf : P.funcs[f]? = some fn) (hb : fn.body = some c) (hname : (fn.name == "runtime.NumGoroutine") = false) (hn : Nat.ble 2 fn.ntmps = true) (hrh : rh.all Blk.isArr = true)
    (h : ∀ w0 A (u1 u2 u3 v1 v2 v3 : Value), (∃ b, VR w0 (.sh 2 (s.net.trs.map dTr)) u1 b ∧ ∀ k ∈ b, A k) → (∃ b, VR w0 (.sh 2 (s.signals.map dSig)) u2 b ∧ ∀ k ∈ b, A k) → (∃ b, VR w0 (.sh 2 (s.labels.map dLab)) u3 b ∧ ∀ k ∈ b, A k) →
      (∃ b, VR w0 (.sh 2 (t.net.trs.map dTr)) v1 b ∧ ∀ k ∈ b, A k) → (∃ b, VR w0 (.sh 2 (t.signals.map dSig)) v2 b ∧ ∀ k ∈ b, A k) → (∃ b, VR w0 (.sh 2 (t.labels.map dLab)) v3 b ∧ ∀ k ∈ b, A k) →
      W P w0 A c ⟨fn.ntmps, argSlots 0 [.agg [.lit (.int .i64 s.net.places), .lit u1, .lit u2, .lit u3, .lit (.string s.start)], .agg [.lit (.int .i64 t.net.places), .lit v1, .lit v2, .lit v3, .lit (.string t.start)]], []⟩ (retC tab fn.results d rh)) : Fn P f [.agg (dStg s), .agg (dStg t)] d rh := by
  refine ⟨?_, hrh, ?_⟩
  · intro args w
    have h1 : ¬ fn.name = "runtime.NumGoroutine" := by simpa using hname
    have h2 : ¬ fn.body = none := by rw [hb]; simp
    simp [callFunc, program, Sem.run, go_sem, hf, h1, h2]
  · intro A w us hA hus
    have hl := hus.len
    have hn' : 2 ≤ fn.ntmps := Nat.le_of_ble_eq_true hn
    obtain ⟨x, us', rfl, hx, hy⟩ := vxs_cons hus
    obtain ⟨y, rfl, hz⟩ := vxs_one hy
    have open5 : ∀ {s : Stg} {x : Value}, VX [] w A (.agg (dStg s)) x → ∃ u1 u2 u3, (∃ b, VR w (.sh 2 (s.net.trs.map dTr)) u1 b ∧ ∀ k ∈ b, A k) ∧ (∃ b, VR w (.sh 2 (s.signals.map dSig)) u2 b ∧ ∀ k ∈ b, A k) ∧ (∃ b, VR w (.sh 2 (s.labels.map dLab)) u3 b ∧ ∀ k ∈ b, A k) ∧ VX [] w A (.agg [.lit (.int .i64 s.net.places), .lit u1, .lit u2, .lit u3, .lit (.string s.start)]) x := by
      intro s x hx
      obtain ⟨us, rfl, hw⟩ := hx.agg_inv
      obtain ⟨v0, us0, rfl, p0, t0⟩ := vxs_cons hw
      obtain ⟨v1, us1, rfl, p1, t1⟩ := vxs_cons t0
      obtain ⟨v2, us2, rfl, p2, t2⟩ := vxs_cons t1
      obtain ⟨v3, us3, rfl, p3, t3⟩ := vxs_cons t2
      obtain ⟨v4, rfl, p4⟩ := vxs_one t3
      obtain ⟨b1, q1, a1⟩ := p1.sh_inv
      obtain ⟨b2, q2, a2⟩ := p2.sh_inv
      obtain ⟨b3, q3, a3⟩ := p3.sh_inv
      exact ⟨v1, v2, v3, ⟨b1, q1, a1⟩, ⟨b2, q2, a2⟩, ⟨b3, q3, a3⟩, .agg (us := [v0, v1, v2, v3, v4]) (.cons p0 (.cons (VX.of_lit (vr_lit q1)) (.cons (VX.of_lit (vr_lit q2)) (.cons (VX.of_lit (vr_lit q3)) (.cons p4 .nil)))))⟩
    obtain ⟨u1, u2, u3, g1, g2, g3, hx'⟩ := open5 hx
    obtain ⟨v1, v2, v3, k1, k2, k3, hy'⟩ := open5 hz
    refine calls_of_wp hf hb (Code.wp_mono ?_ ((h w A u1 u2 u3 v1 v2 v3 g1 g2 g3 k1 k2 k3).run [] { tmps := [x, y].toArray ++ Array.replicate (fn.ntmps - [x, y].toArray.size) undef, defers := [] } w ?_))
    · rintro e a' w' ⟨ms, s, hr, hq⟩
      have key : RetC tab fn.results d rh s → a'.defers = [] ∧ ∃ v, (results fn a'.tmps).run P w' = .ok v w' ∧ ∃ v' ms, Ending.returned v = .returned v' ∧ Post w A d rh ms v' w' := by
        rintro ⟨dd, js, h1, h2, h3, h4⟩
        obtain ⟨v, h5, h6⟩ := resultsC_ok (P := P) hT h1 hr
        exact ⟨hr.defers, v, h5, v, _, rfl, hr.post h3 h4 h6 h2⟩
      cases hq with
      | r h => exact key h
      | n h => exact key h
    · refine ⟨Ext.refl _, hA, by simp; omega, rfl, rfl, by simp [owned], by simp [owned], by simp, fun t => ?_⟩
      refine look_arg (List.replicate (fn.ntmps - [x, y].length) undef) (VXs.mono (ms' := []) (w' := w) (Ok' := OkB w.heap.size A [] w) (fun k hk => ⟨rfl, hA k hk, Or.inr hk, by simp [tops]⟩) (VXs.cons hx' (VXs.cons hy' .nil)) fun _ _ _ h => h) 0 t _ fun _ => ?_
      have e : ([x, y].toArray ++ Array.replicate (fn.ntmps - [x, y].toArray.size) undef) = ([x, y] ++ List.replicate (fn.ntmps - [x, y].length) undef).toArray := by
        rw [← List.append_toArray, List.size_toArray, List.toArray_replicate]
      rw [e]; simp [Array.getD_eq_getD_getElem?, List.getD_eq_getElem?_getD]
theorem WO_unpin5 {ops : Array Oper} {l : List Oper} {K : St → Prop} (t : Nat) {p v u1 u2 u3 : Value} {m1 m2 m3 : Nat} {y1 y2 y3 : List (List D)} (h : look sl t = .agg [.lit p, .lit u1, .lit u2, .lit u3, .lit v]) (q1 : ∃ b, VR w0 (.sh m1 y1) u1 b ∧ ∀ k ∈ b, A k) (q2 : ∃ b, VR w0 (.sh m2 y2) u2 b ∧ ∀ k ∈ b, A k) (q3 : ∃ b, VR w0 (.sh m3 y3) u3 b ∧ ∀ k ∈ b, A k)
    (hk : WO P w0 A ops l ⟨n, (t, .agg [.lit p, .sh m1 y1, .sh m2 y2, .sh m3 y3, .lit v]) :: sl, hp⟩ K) : WO P w0 A ops l ⟨n, sl, hp⟩ K := by
  obtain ⟨b1, q1, a1⟩ := q1
  obtain ⟨b2, q2, a2⟩ := q2
  obtain ⟨b3, q3, a3⟩ := q3
  refine ⟨fun ms a w hr Q hq => hk.run ms a w ?_ Q hq⟩
  refine ⟨hr.ext, hr.old, hr.size, hr.defers, hr.len, hr.nodup, hr.range, hr.ents, fun t' => ?_⟩
  have h1 := hr.slots t'
  simp only [St.get, look] at h1 ⊢
  split
  · rename_i e
    subst e
    rw [h] at h1
    obtain ⟨us, e1, h2⟩ := h1.agg_inv
    rw [e1]
    obtain ⟨w1, us1, rfl, p1, t1⟩ := vxs_cons h2
    obtain ⟨w2, us2, rfl, p2, t2⟩ := vxs_cons t1
    obtain ⟨w3, us3, rfl, p3, t3⟩ := vxs_cons t2
    obtain ⟨w4, us4, rfl, p4, t4⟩ := vxs_cons t3
    obtain ⟨w5, rfl, p5⟩ := vxs_one t4
    refine .agg (us := [w1, w2, w3, w4, w5]) (.cons p1 (.cons ?_ (.cons ?_ (.cons ?_ (.cons p5 .nil)))))
    · rw [p2.lit_inv.1]; exact pin_vr hr q1 a1
    · rw [p3.lit_inv.1]; exact pin_vr hr q2 a2
    · rw [p4.lit_inv.1]; exact pin_vr hr q3 a3
  · exact h1
end
end Go.Proofs.YtcpjhpjlcgcigaaGreatDoor
namespace Go.Proofs.YtcpjhpjlcgcigaaGreatDoor
open Go.ChangeShapes Go.WideShapes Go.ChangeAt Go.RowKit

section
variable {P : Program} {tab : Nat → Option TI} {w0 w : World} {A : Nat → Prop} {n : Nat} {sl : List (Nat × D)} {hp : List Blk} {ops : Array Oper} {l : List Oper} {K : St → Prop} {ms : List Ent} {a : Act}
theorem Rel.unpinS (hr : Rel w0 A ms ⟨n, sl, hp⟩ a w) {i m : Nat} {T : TypeId} {xs : List (List D)} {u : Value} (hb : hp[i]? = some (.cust (ArrU w0.heap.size u T m xs))) : Rel w0 A ms ⟨n, sl, hp.set i (.arr T m xs true)⟩ a w ∧ ∃ e, ms[i]? = some e ∧ e.v = u ∧ ∃ a n c, e.v = .slice a n c := by
  have hil : i < ms.length := by rw [hr.len]; exact (List.getElem?_eq_some_iff.1 hb).1
  obtain ⟨e, hi⟩ : ∃ e, ms[i]? = some e := ⟨_, List.getElem?_eq_getElem hil⟩
  obtain ⟨⟨hv, us, bs, o1, o2, o3, o4, o5, o6⟩, _⟩ := hr.ents i _ e hb hi
  have hsl : ∃ a n c, e.v = .slice a n c := by
    obtain ⟨_, ⟨h, _⟩ | ⟨g, cap, cur, h, _⟩⟩ := o1 <;> exact ⟨_, _, _, h⟩
  refine ⟨⟨hr.ext, hr.old, hr.size, hr.defers, by simpa using hr.len, hr.nodup, hr.range, fun j b x hj hx => ?_, hr.slots⟩, e, hi, hv, hsl⟩
  simp only at hj
  by_cases hji : j = i
  · subst hji
    rw [List.getElem?_set_self (List.getElem?_eq_some_iff.1 hb).1] at hj
    cases hj
    rw [hi] at hx; cases hx
    exact ⟨us, bs, o1, o2, o3, o4, by rw [if_pos rfl]; exact ⟨o5, o6⟩⟩
  · rw [List.getElem?_set_ne (Ne.symm hji)] at hj
    exact hr.ents j b x hj hx
/-- A slot that holds a slice's value, told as the array of the call's own. -/
theorem WO_unpin1 (t i : Nat) {m : Nat} {T : TypeId} {xs : List (List D)} {u : Value} {hp' : List Blk} (h : look sl t = .lit u) (hi : hp[i]? = some (.cust (ArrU w0.heap.size u T m xs))) (e : setK i (.arr T m xs true) hp some = some hp')
    (hk : WO P w0 A ops l ⟨n, (t, .own i) :: sl, hp'⟩ K) : WO P w0 A ops l ⟨n, sl, hp⟩ K := by
  have e := setK_eq e
  simp only [Option.some.injEq] at e
  subst e
  refine ⟨fun ms a w hr Q hq => hk.run ms a w ?_ Q hq⟩
  obtain ⟨h1, e1, k1, k2, k3⟩ := hr.unpinS hi
  refine ⟨h1.ext, h1.old, h1.size, h1.defers, h1.len, h1.nodup, h1.range, h1.ents, fun x => ?_⟩
  simp only [St.get, look]
  split
  · rename_i ex
    subst ex
    have h3 := hr.slots x
    simp only [St.get, h] at h3
    obtain ⟨e3, _⟩ := h3.lit_inv
    rw [e3, ← k2]
    exact .own k1 k3
  · exact h1.slots x
/-- A slot that holds a struct of two slices' values, told as the arrays of the call's own. -/
theorem WO_unpinP (t i j : Nat) {m m' : Nat} {T T' : TypeId} {xs ys : List (List D)} {u v : Value} {hp' : List Blk} (h : look sl t = .agg [.lit u, .lit v]) (hi : hp[i]? = some (.cust (ArrU w0.heap.size u T m xs))) (hj : hp[j]? = some (.cust (ArrU w0.heap.size v T' m' ys))) (hij : Nat.beq i j = false) (e : setK i (.arr T m xs true) hp (fun h => setK j (.arr T' m' ys true) h some) = some hp')
    (hk : WO P w0 A ops l ⟨n, (t, .agg [.own i, .own j]) :: sl, hp'⟩ K) : WO P w0 A ops l ⟨n, sl, hp⟩ K := by
  have e := setK_eq (setK_eq e)
  simp only [Option.some.injEq] at e
  subst e
  refine ⟨fun ms a w hr Q hq => hk.run ms a w ?_ Q hq⟩
  obtain ⟨h1, e1, k1, k2, k3⟩ := hr.unpinS hi
  have hne : j ≠ i := by intro e; subst e; rw [Nat.beq_refl] at hij; cases hij
  obtain ⟨h2, e2, k4, k5, k6⟩ := h1.unpinS (i := j) (by rw [List.getElem?_set_ne (Ne.symm hne)]; exact hj)
  refine ⟨h2.ext, h2.old, h2.size, h2.defers, h2.len, h2.nodup, h2.range, h2.ents, fun x => ?_⟩
  simp only [St.get, look]
  split
  · rename_i ex
    subst ex
    have h3 := hr.slots x
    simp only [St.get, h] at h3
    obtain ⟨us, e3, h4⟩ := h3.agg_inv
    rw [e3]
    cases h4 with
    | cons h5 h6 =>
      cases h6 with
      | cons h6 h7 =>
        cases h7
        obtain ⟨rfl, _⟩ := h5.lit_inv
        obtain ⟨rfl, _⟩ := h6.lit_inv
        refine .agg (.cons ?_ (.cons ?_ .nil))
        · rw [← k2]; exact .own k1 k3
        · rw [← k5]; exact .own k4 k6
  · exact h2.slots x
/-- A load of two held cells at once. -/
theorem H_load2 (hT : TabOk P tab) (k0 : Nat) {L : List (Tmp × Nat × Value)} {fuel : Nat} {listed : Array Bool} {i : Nat} {t : Tmp} {x : Operand} {tl ty : TypeId} {pos : String} {after : Array Edge} {j : Nat} {va vb : Value} {k : TK} {bytes : Nat} {zero : List Value} (hcd : cand ops listed k0 = some i) (hi : ops[i]? = some ⟨some t, .load tl x, ty, pos, after, none⟩) (hs : noSel ops.toList = true) (hL : L.all (fun x => !Nat.beq x.1 t) = true) (hheld : heldOk ⟨n, sl, hp⟩ L) (htn : Nat.blt t n = true)
    (hx : evD (look sl) x = .ptr j 0) (ht : tab tl = some ⟨k, true, 2, bytes, zero⟩) (hva : heldAt ⟨n, sl, hp⟩ j 0 L = some va) (hvb : heldAt ⟨n, sl, hp⟩ j 1 L = some vb) (h : WH P w0 A ops L fuel (listed.setIfInBounds i true) ⟨n, (t, .agg [.lit va, .lit vb]) :: sl, hp⟩ K) : WH P w0 A ops L (fuel + 1) listed ⟨n, sl, hp⟩ K := by
  refine H_take' hi hs (cand_spec hcd).1 (cand_spec hcd).2 hL hheld htn (fun ms a w a0 hr ha => ?_) h
  obtain ⟨e, b, hi', ht', e1⟩ := (hr.ev_at hx).ptr_inv
  have one : ∀ {o : Nat} {v : Value}, heldAt ⟨n, sl, hp⟩ j o L = some v → litOk v ∧ ∀ w', HeldF w0 L a0 w' → w'.cell? ⟨b, o, none⟩ = some v := by
    intro o v hv
    obtain ⟨y, hy, rfl, o0, hy1, rfl⟩ := heldAt_mem hv
    have h7 := hr.slots y.1
    rw [hy1] at h7
    obtain ⟨e', b', hi'', ht'', e2⟩ := h7.ptr_inv
    rw [hi'] at hi''; cases hi''
    rw [ht'] at ht''; cases ht''
    refine ⟨?_, fun w' hw' => hw'.cells y hy b o0 (by rw [← ha y hy]; exact e2)⟩
    have : ∀ {l : List (Tmp × Nat × Value)}, heldOk ⟨n, sl, hp⟩ l → y ∈ l → cellAt ⟨n, sl, hp⟩ y.1 y.2.1 = some (.lit y.2.2) := by
      intro l
      induction l with
      | nil => intro _ h; simp at h
      | cons q l ih => intro h hm; rcases List.mem_cons.1 hm with rfl | hm; exact h.1; exact ih h.2 hm
    have h8 := this hheld hy
    unfold cellAt at h8
    rw [hy1] at h8
    simp only at h8
    split at h8
    · rename_i t' ds hh
      obtain ⟨b2, us, rfl, h9, h10⟩ := hr.ents j _ e hh hi'
      obtain ⟨u, _, h11⟩ := h10.get h8
      exact h11.lit_inv.2
    · simp at h8
  obtain ⟨l1, c1⟩ := one hva
  obtain ⟨l2, c2⟩ := one hvb
  refine ⟨.agg #[va, vb], fun w' hw' => ?_, .agg (us := [va, vb]) (.cons (VX.of_lit l1) (.cons (VX.of_lit l2) .nil))⟩
  have hld := loadVar_tab (P := P) hT ht w' b [va, vb] rfl (by
    intro q v hv
    match q with
    | 0 => simp at hv; subst hv; exact c1 w' hw'
    | 1 => simp at hv; subst hv; simpa using c2 w' hw'
    | q + 2 => simp at hv)
  have hld2 : (Instr.loadAt tl (.pointer (some ⟨b, 0, none⟩))).run P w' = .ok (.agg #[va, vb]) w' := by
    simp only [Instr.loadAt, Instr.sureAddr, Sem.run_bind, Sem.run, Result.andThen, pure]; exact hld
  simp only [execOp, e1, Sem.run_bind, hld2, Result.andThen]; rfl
theorem H_four {s : St} {L : List (Tmp × Nat × Value)} {fuel : Nat} {listed : Array Bool} {i i1 i2 i3 : Nat} {o o1 o2 o3 : Oper} (hr : rdyH ops listed = [i, i1, i2, i3]) (ho : ops[i]? = some o) (ho1 : ops[i1]? = some o1) (ho2 : ops[i2]? = some o2) (ho3 : ops[i3]? = some o3) (hL : notIn L o.dst = true) (hL1 : notIn L o1.dst = true) (hL2 : notIn L o2.dst = true) (hL3 : notIn L o3.dst = true) (h : WO P w0 A ops [o] s fun s' => heldOk s' L ∧ WH P w0 A ops L fuel (listed.setIfInBounds i true) s' K)
    (h1 : WO P w0 A ops [o1] s fun s' => heldOk s' L ∧ WH P w0 A ops L fuel (listed.setIfInBounds i1 true) s' K) (h2 : WO P w0 A ops [o2] s fun s' => heldOk s' L ∧ WH P w0 A ops L fuel (listed.setIfInBounds i2 true) s' K) (h3 : WO P w0 A ops [o3] s fun s' => heldOk s' L ∧ WH P w0 A ops L fuel (listed.setIfInBounds i3 true) s' K) : WH P w0 A ops L (fuel + 1) listed s K :=
  H_all ((rdyH_eq _ _).trans hr) (by simp) fun j hj => by
    simp only [List.mem_cons, List.not_mem_nil, or_false] at hj
    rcases hj with rfl | rfl | rfl | rfl
    · exact ⟨o, ho, notIn_spec hL, h⟩
    · exact ⟨o1, ho1, notIn_spec hL1, h1⟩
    · exact ⟨o2, ho2, notIn_spec hL2, h2⟩
    · exact ⟨o3, ho3, notIn_spec hL3, h3⟩
end
section
variable {P : Program} {X : World → Prop} {w0 : World} {A : Nat → Prop} {n : Nat} {sl : List (Nat × D)} {hp : List Blk} {ops : Array Oper} {rest : List Oper} {K : St → Prop} {dst : Tmp} {ty : TypeId} {pos : String} {after : Array Edge}
theorem R_callxGQ {f : FuncId} {fo : Operand} {args : Array Operand} {tys : Array TypeId} {ds caps : List D} {d d2 : D} {rh hp2 : List Blk} (hX : ∀ w, Ext w0 w → X w) (hf : evD (look sl) fo = .fn f caps) (hF : FnG X P f ds d rh) (hds : mapK (evD (look sl)) args.toList (fun l => argsFK hp ((l ++ caps).map unold) fun l => some l) = some ds) (hd : Nat.blt dst n = true) (hno : noRd d = true) (hdeep : rh.all Blk.isDeep = true)
    (hk : WO P w0 A ops rest ⟨n, (dst, d2) :: sl, hp2⟩ K) (hold : oldOks w0 A (args.toList.map (evD (look sl)) ++ caps) := by repeat' (first | exact trivial | rfl | refine And.intro ?_ ?_)) (e1 : d.shift hp.length = d2 := by first | (dsimp only [D.shift, D.shiftL, List.cons_append, List.nil_append, List.append_nil, List.length_cons, List.length_nil, Nat.reduceAdd]; done) | exact rfl) (e2 : hp ++ rh = hp2 := by first | (dsimp only [D.shift, D.shiftL, List.cons_append, List.nil_append, List.append_nil, List.length_cons, List.length_nil, Nat.reduceAdd]; done) | exact rfl) : WO P w0 A ops (⟨some dst, .call ⟨.value fo, args, tys⟩, ty, pos, after, none⟩ :: rest) ⟨n, sl, hp⟩ K := by
  exact R_callxGZ hX hf hF hds hd hno hdeep hold hk e1 e2
end
section
variable {P : Program} {w0 : World} {A : Nat → Prop} {s : St} {Q : Exit → St → Prop}
/-- A block's last part, led to one state. -/
theorem W_midB (S : St) {id : Nat} {x y : Code} (h1 : W P w0 A x s (midQ w0 A S fun _ _ => False)) (h2 : W P w0 A y S Q) : W P w0 A x s (blockQ id (seqQ P w0 A y Q)) := by
  refine ⟨fun ms a w hr => Code.wp_mono ?_ (h1.run ms a w hr)⟩
  rintro e a' w' ⟨ms', s', hr', hq⟩
  cases hq with
  | n h => obtain ⟨ms'', hr''⟩ := h ms' a' w' hr'; exact ⟨ms'', S, hr'', .n (.n h2)⟩
  | e h => exact h.elim
  | r h => exact h.elim
end
end Go.Proofs.YtcpjhpjlcgcigaaGreatDoor
namespace Go.Proofs.YtcpjhpjlcgcigaaGreatDoor
open Go.ChangeShapes Go.WideShapes Go.ChangeAt Go.RowKit

/-- Each operation waits for none behind it, and none is under a guard. -/
def headOk (l : List Oper) : Bool := l.zipIdx.all fun x => x.1.guard.isNone && (afters x.1).all fun m => Nat.blt m x.2
theorem wanted_none {o : Oper} (h : o.guard.isNone = true) (f : Nat → Option Bool) : Region.wanted o f = true := by
  cases hg : o.guard with
  | none => simp [Region.wanted, hg]
  | some _ => rw [hg] at h; cases h
theorem wp_false {P : Program} {o : Oper} {a : Act} {w : World} {K1 K2 : Act → World → Prop} {Q1 : Exit → Act → World → Prop} (hq : ∀ (a' : Act) (w' : World) (e : Exit), e ≠ .normal → ¬ Q1 e a' w') (h : o.wp P a w K1 Q1) (hk : ∀ a w, K1 a w → K2 a w) : o.wp P a w K2 (fun _ _ _ => False) := by
  have : o.wp P a w K1 (fun _ _ _ => False) := by
    unfold Oper.wp at h ⊢
    generalize (execOp a.eval o).run P w = r at *
    cases r with
    | ok x w' =>
      cases x <;> simp only [Oper.upon] at h ⊢
      case value => exact h
      case skip => exact h
      case defer => exact h
      case enter => exact Calls.mono h (fun e w'' he => by cases e with | returned v => exact he | panicked c => exact (hq _ _ _ (by simp) he).elim | outgrown => obtain ⟨_, _, h⟩ := he; exact (hq _ _ _ (by simp) h).elim)
      case row => exact h
    | halt x w' =>
      cases x <;> simp only [Oper.upon] at h ⊢
      exact (hq _ _ _ (by simp) h).elim
  exact Oper.wp_mono hk this
section
variable {P : Program} {w0 : World} {A : Nat → Prop} {n : Nat} {sl : List (Nat × D)} {hp : List Blk} {Q : Exit → St → Prop}
theorem W_heldS (hm : P.follows .mixedOrders = true) {l1 l2 : List Oper} {id : Nat} (hto : tailOk (l1 ++ l2) l1.length = true) (hh : headOk l1 = true) (L : List (Tmp × Nat × Value)) (h : WH P w0 A l1.toArray L l1.length (Array.replicate l1.length false) ⟨n, sl, hp⟩ fun s => WO P w0 A (l1 ++ l2).toArray l2 s fun s => Q .normal s) : W P w0 A (.region id (l1 ++ l2).toArray true) ⟨n, sl, hp⟩ Q := by
  refine ⟨fun ms a w hr => ?_⟩
  have hd : Rel w0 A ms ⟨n, sl, hp⟩ a { w with drawn := w.drawn + 1 } := hr.later (Ext.drew (Ext.refl w))
  have hstart := wpAny_of_held _ _ _ _ (h.run ms a _ a hd fun _ _ => rfl)
  have hleft : ∀ (i : Nat), i < l1.length → (l1 ++ l2)[i]? = l1[i]? := fun i hi => List.getElem?_append_left hi
  simp only [headOk, List.all_eq_true] at hh
  have hho : ∀ (i : Nat) (o : Oper), l1[i]? = some o → o.guard.isNone = true ∧ ∀ m ∈ afters o, m < i := by
    intro i o ho
    have := hh (o, i) (by rw [List.mem_zipIdx_iff_getElem?]; simpa using ho)
    simp only [Bool.and_eq_true, List.all_eq_true] at this
    exact ⟨this.1, fun m hm => by simpa [Nat.blt_eq] using this.2 m hm⟩
  simp only [tailOk, List.all_eq_true] at hto
  have hta : ∀ (i : Nat) (o : Oper), (l1 ++ l2)[i]? = some o → l1.length ≤ i → (∀ m ∈ afters o, m < i) ∧ ∀ j, j < i → waits (l1 ++ l2) (l1 ++ l2).length i j = true := by
    intro i o ho hi
    have := hto (o, i) (by rw [List.mem_zipIdx_iff_getElem?]; simpa using ho)
    simp only [Bool.or_eq_true, Bool.and_eq_true, List.all_eq_true] at this
    rcases this with h | ⟨h1, h2⟩
    · have : i < l1.length := by simpa [Nat.blt_eq] using h
      omega
    · exact ⟨fun m hm => by simpa [Nat.blt_eq] using h1 m hm, fun j hj => h2 j (List.mem_range.2 hj)⟩
  have hwf : ∀ (i : Nat) (o : Oper), (l1 ++ l2)[i]? = some o → ∀ e ∈ o.after, Region.binds .any e = true → e.on < i := by
    intro i o ho e he hb
    by_cases hi : i < l1.length
    · rw [hleft i hi] at ho; exact (hho i o ho).2 e.on (mem_afters.2 ⟨e, he, hb, rfl⟩)
    · exact (hta i o ho (by omega)).1 e.on (mem_afters.2 ⟨e, he, hb, rfl⟩)
  let Q' : Exit → Act → World → Prop := fun e a' w' => e = .normal ∧ ∃ ms' s', Rel w0 A ms' s' a' w' ∧ Q .normal s'
  let Q1 : Exit → Act → World → Prop := QK w0 A fun s => WO P w0 A (l1 ++ l2).toArray l2 s fun s => Q .normal s
  let J : (Nat → Bool) → Act → World → Prop := fun S a w => ∃ (f : Nat) (listed : Array Bool), listed.size = l1.length ∧ (∀ j, j < l1.length → listed.getD j true = S j) ∧ wpAny P .any l1.toArray Q1 f listed a w
  have hgd : ∀ {listed : Array Bool} {j : Nat} {b b' : Bool}, j < listed.size → listed.getD j b = listed.getD j b' := by
    intro listed j b b' hj
    simp only [Array.getD_eq_getD_getElem?]; rw [Array.getElem?_eq_getElem hj]; rfl
  have hJstep : ∀ (S : Nat → Bool) (a : Act) (w : World) (i : Nat) (o : Oper), J S a w → l1[i]? = some o → S i = false → (∀ e ∈ o.after, Region.binds .any e = true → S e.on = true) → o.wp P a w (fun a' w' => J (fun j => if j = i then true else S j) a' w') (fun _ _ _ => False) := by
    rintro S a w i o ⟨f, listed, hsz, hS, hw⟩ ho hSi ha
    have hil : i < l1.length := (List.getElem?_eq_some_iff.1 ho).1
    have hmem : i ∈ Region.ready .any l1.toArray listed := by
      rw [mem_ready]
      refine ⟨by rw [hS i hil]; exact hSi, o, by simpa using ho, fun e he hb => ?_⟩
      have hlt : e.on < l1.length := by
        have := (hho i o ho).2 e.on (mem_afters.2 ⟨e, he, hb, rfl⟩); omega
      rw [hgd (b' := true) (by omega), hS _ hlt]
      exact ha e he hb
    cases f with
    | zero => rw [hw.1] at hmem; simp at hmem
    | succ f =>
      have h1 := hw.2 i hmem
      unfold wpOp at h1
      have ho' : l1.toArray[i]? = some o := by simpa using ho
      simp only [ho'] at h1
      rw [if_pos (wanted_none (hho i o ho).1 _)] at h1
      rcases h1 with h1 | ⟨_, ⟨_, _, h1⟩⟩
      · refine wp_false (fun _ _ _ h1 h2 => h1 h2.1) h1 fun a' w' h2 => ⟨f, listed.setIfInBounds i true, by simpa using hsz, fun j hj => ?_, h2⟩
        show (listed.setIfInBounds i true).getD j true = if j = i then true else S j
        by_cases e : j = i
        · rw [if_pos e, e, Array.getD_eq_getD_getElem?, Array.getElem?_setIfInBounds_self_of_lt (by omega)]; rfl
        · rw [if_neg e, ← hS j hj, Array.getD_eq_getD_getElem?, Array.getD_eq_getD_getElem?, Array.getElem?_setIfInBounds_ne (Ne.symm e)]
      · exact absurd h1.1 (by simp)
  have hJfin : ∀ (S : Nat → Bool) (a : Act) (w : World), (∀ j, j < l1.length → S j = true) → J S a w → ∃ ms' s', Rel w0 A ms' s' a w ∧ WO P w0 A (l1 ++ l2).toArray l2 s' fun s => Q .normal s := by
    rintro S a w hall ⟨f, listed, hsz, hS, hw⟩
    have hnil : Region.ready .any l1.toArray listed = [] := by
      rw [List.eq_nil_iff_forall_not_mem]
      intro i hi
      obtain ⟨h1, o, ho, _⟩ := mem_ready.1 hi
      have hil : i < l1.length := by
        have : l1[i]? = some o := by simpa using ho
        exact (List.getElem?_eq_some_iff.1 this).1
      rw [hS i hil, hall i hil] at h1
      cases h1
    cases f with
    | zero => exact hw.2.2
    | succ f => exact (hw.1 hnil).2
  have hall : ∀ (S : Nat → Bool) (i : Nat) (o : Oper), (∀ (j : Nat) (o' : Oper), (l1 ++ l2)[j]? = some o' → S j = true → ∀ e ∈ o'.after, Region.binds .any e = true → S e.on = true) → (l1 ++ l2)[i]? = some o → (∀ e ∈ o.after, Region.binds .any e = true → S e.on = true) → l1.length ≤ i → ∀ j, j < i → S j = true := by
    intro S i o hc ho ha hi j hj
    have h := (hta i o ho hi).2 j hj
    have hpos : (l1 ++ l2).length = (l1 ++ l2).length - 1 + 1 := by have := (List.getElem?_eq_some_iff.1 ho).1; omega
    rw [hpos] at h
    simp only [waits, ho, List.any_eq_true] at h
    obtain ⟨m, hm', h⟩ := h
    obtain ⟨e, he, hb, rfl⟩ := mem_afters.1 hm'
    have h1 := ha e he hb
    rw [Bool.or_eq_true] at h
    rcases h with h | h
    · rw [← Nat.eq_of_beq_eq_true h]; exact h1
    · exact waits_ok hc h h1
  have h0 : J (fun _ => false) a { w with drawn := w.drawn + 1 } := ⟨l1.length, Array.replicate l1.length false, by simp, fun j hj => by simp [Array.getD_eq_getD_getElem?, hj], by simpa using hstart⟩
  refine wp_region_inv (I := fun S a w => ((∀ j, l1.length ≤ j → S j = false) ∧ J S a w) ∨ ∃ m, l1.length ≤ m ∧ (∀ j, S j = decide (j < m)) ∧ wpList P (l1 ++ l2).toArray Q' ((l1 ++ l2).drop m) a w) hm hwf (Or.inl ⟨fun _ _ => rfl, h0⟩) ?_ ?_
  · intro S a w i o hSl hc hI ho hSi ha
    have htail : ∀ m, l1.length ≤ m → (∀ j, S j = decide (j < m)) → i = m → wpList P (l1 ++ l2).toArray Q' ((l1 ++ l2).drop m) a w →
        if Region.wanted o (yielded (l1 ++ l2).toArray a.tmps) then o.wp P a w (fun a' w' => ((∀ j, l1.length ≤ j → (if j = i then true else S j) = false) ∧ J (fun j => if j = i then true else S j) a' w') ∨ ∃ m, l1.length ≤ m ∧ (∀ j, (if j = i then true else S j) = decide (j < m)) ∧ wpList P (l1 ++ l2).toArray Q' ((l1 ++ l2).drop m) a' w') (fun _ _ _ => False)
        else ((∀ j, l1.length ≤ j → (if j = i then true else S j) = false) ∧ J (fun j => if j = i then true else S j) (a.put o.dst undef) w) ∨ ∃ m, l1.length ≤ m ∧ (∀ j, (if j = i then true else S j) = decide (j < m)) ∧ wpList P (l1 ++ l2).toArray Q' ((l1 ++ l2).drop m) (a.put o.dst undef) w := by
      intro m hm' hSm him hl
      subst him
      have hdrop : (l1 ++ l2).drop i = o :: (l1 ++ l2).drop (i + 1) := by
        have hi := List.getElem?_eq_some_iff.1 ho
        rw [List.drop_eq_getElem_cons hi.1, hi.2]
      rw [hdrop] at hl
      unfold wpList at hl
      have hS' : ∀ j, (if j = i then true else S j) = decide (j < i + 1) := by
        intro j
        split
        · rename_i e; subst e; simp
        · rw [hSm j]; simp; omega
      split
      · rename_i hw
        rw [if_pos hw] at hl
        rcases hl with hl | ⟨_, ⟨_, _, h⟩⟩
        · exact wp_false (fun _ _ _ h1 h2 => h1 h2.1) hl fun a' w' h => Or.inr ⟨i + 1, by omega, hS', h⟩
        · exact absurd h.1 (by simp)
      · rename_i hw
        rw [if_neg hw] at hl
        exact Or.inr ⟨i + 1, by omega, hS', hl⟩
    rcases hI with ⟨hno, hI⟩ | ⟨m, hm', hSm, hl⟩
    · by_cases hi : i < l1.length
      · have ho' : l1[i]? = some o := by rw [← hleft i hi]; exact ho
        have hno' : ∀ j, l1.length ≤ j → (if j = i then true else S j) = false := fun j hj => by rw [if_neg (by omega)]; exact hno j hj
        rw [if_pos (wanted_none (hho i o ho').1 _)]
        exact Oper.wp_mono (fun a' w' h => Or.inl ⟨hno', h⟩) (hJstep S a w i o hI ho' hSi ha)
      · have hi := Nat.le_of_not_lt hi
        have hlt := hall S i o hc ho ha hi
        have him : i = l1.length := by
          apply Classical.byContradiction; intro hne
          have := hlt l1.length (by omega)
          rw [hno _ (Nat.le_refl _)] at this; exact Bool.noConfusion this
        obtain ⟨ms', s', hr', hK⟩ := hJfin S a w (fun j hj => hlt j (by omega)) hI
        have hl := hK.run ms' a w hr' Q' fun ms'' s' a' w' h1 h2 => ⟨rfl, ms'', s', h1, h2⟩
        refine htail l1.length (Nat.le_refl _) (fun j => ?_) him (by rw [List.drop_left]; exact hl)
        by_cases hj : j < l1.length
        · rw [hlt j (by omega)]; simp [hj]
        · rw [hno j (by omega)]; simp; omega
    · have hi : m ≤ i := by
        apply Classical.byContradiction; intro hne
        rw [hSm i] at hSi; simp at hSi; omega
      have hlt := hall S i o hc ho ha (by omega)
      have him : i = m := by
        apply Classical.byContradiction; intro hne
        have := hlt m (by omega)
        rw [hSm m] at this; simp at this
      exact htail m hm' hSm him hl
  · intro S a w hS hI
    have fin : ∀ {a w}, Q' .normal a w → ∃ ms' s', Rel w0 A ms' s' a w ∧ Q .normal s' := fun h => h.2
    rcases hI with ⟨hno, hI⟩ | ⟨m, hm', hSm, hl⟩
    · have hl2 : l2 = [] := by
        cases l2 with
        | nil => rfl
        | cons o l2 =>
          have := hS l1.length (by simp)
          rw [hno _ (Nat.le_refl _)] at this; exact Bool.noConfusion this
      subst hl2
      obtain ⟨ms', s', hr', hK⟩ := hJfin S a w (fun j hj => hS j (by simpa using hj)) hI
      exact fin (hK.run ms' a w hr' Q' fun ms'' s' a' w' h1 h2 => ⟨rfl, ms'', s', h1, h2⟩)
    · have hml : (l1 ++ l2).length ≤ m := by
        apply Classical.byContradiction; intro hne
        have := hS m (by omega)
        rw [hSm m] at this; simp at this
      rw [List.drop_of_length_le hml] at hl
      exact fin hl
theorem W_heldT (c : Nat) (hm : P.follows .mixedOrders = true) {l l1 l2 : List Oper} {id : Nat} (hs : cutK c l (fun a b => some (a, b)) = some (l1, l2)) (hto : tailOk l l1.length = true) (hh : headOk l1 = true) (L : List (Tmp × Nat × Value)) (h : WH P w0 A l1.toArray L l1.length (Array.replicate l1.length false) ⟨n, sl, hp⟩ fun s => WO P w0 A l.toArray l2 s fun s => Q .normal s) : W P w0 A (.region id l.toArray true) ⟨n, sl, hp⟩ Q := by
  obtain ⟨a, b, h1, rfl⟩ := cutK_eq hs
  simp only [Option.some.injEq, Prod.mk.injEq] at h1
  obtain ⟨rfl, rfl⟩ := h1
  exact W_heldS hm hto hh L h
end
end Go.Proofs.YtcpjhpjlcgcigaaGreatDoor
