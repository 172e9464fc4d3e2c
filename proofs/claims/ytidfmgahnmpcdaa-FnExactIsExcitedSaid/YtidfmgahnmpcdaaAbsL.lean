/- Symbolic states: arrays that a call makes, stores, loads of its own elements. No condition. -/
import Derived.Test.YtidfmgahnmpcdaaAbsK
set_option linter.unusedSimpArgs false
set_option linter.unusedVariables false
namespace Go.Proofs.Ytidfmgahnmpcdaa
open Go.ChangeShapes Go.WideShapes Go.ChangeAt Go.RowKit

section
variable {P : Program} {w0 w w' : World} {A : Nat → Prop} {n : Nat} {sl : List (Nat × D)} {hp : List Blk} {ms ms' : List Ent} {a : Act}
variable {ops : Array Oper} {rest : List Oper} {K : St → Prop} {x y : Operand} {dst : Tmp} {ty : TypeId} {pos : String} {after : Array Edge}

/-- A new array. -/
theorem Rel.newArr (hr : Rel w0 A ms ⟨n, sl, hp⟩ a w) {T : TypeId} {m g : Nat} {xs : List (List D)} {us : List Value} {v : Value} (hx : Ext w w') (hg : v.ownBlock = some g) (hge : w.heap.size ≤ g ∧ g < w'.heap.size) (ho : w'.ownsRow w0.heap.size T m v xs.length us) (hrow : ∀ r ∈ xs, r.length = m) (hv : VRs w' xs.flatten us []) :
    Rel w0 A (ms ++ [⟨v, some g, []⟩]) ⟨n, sl, hp ++ [.arr T m xs true]⟩ a w' ∧ (ms ++ [⟨v, some g, []⟩])[hp.length]? = some ⟨v, some g, []⟩ := by
  refine ⟨hr.grow hx _ _ rfl (by simp [owned]) (by simp [owned]; exact hge) ?_, ?_⟩
  · intro i b e hb he
    cases i with
    | succ i => simp at hb
    | zero =>
      simp at hb he
      subst hb; subst he
      exact ⟨us, [], ho, hrow, hv, hg.symm, rfl, by simp⟩
  · have := hr.len
    simp only at this
    rw [List.getElem?_append_right (by omega), this]; simp

def zeroRow (zero : List Value) : Option (List D) := constK zero fun l => some l
theorem VRs.of_lits {Ok : Nat → Prop} : ∀ {ds : List D} {us : List Value}, (∀ d ∈ ds, isLit d = true) → VXs ms w Ok ds us → VRs w' ds us []
  | _, _, _, .nil => .nil
  | d :: ds, _, h, .cons h1 h2 => by
    have := h d (by simp)
    cases d <;> simp [isLit] at this
    obtain ⟨rfl, h3⟩ := h1.lit_inv
    exact VRs.cons (bs := []) (bs' := []) (.lit h3) (VRs.of_lits (fun d hd => h d (List.mem_cons_of_mem _ hd)) h2)

theorem zeros_ok {row : List D} {zs : List Value} (hl : ∀ d ∈ row, isLit d = true) (hv : VXs [] w (fun _ => True) row zs) : ∀ k, VRs w' (List.replicate k row).flatten (List.replicate k zs).flatten []
  | 0 => by simp; exact .nil
  | k + 1 => by
    rw [List.replicate_succ, List.replicate_succ, List.flatten_cons, List.flatten_cons]
    exact VRs.append (VRs.of_lits hl hv) (zeros_ok hl hv k)

theorem madeCells_eq (zs : Array Value) (hz : 0 < zs.size) : ∀ k, (madeCells zs (k * zs.size)).toList = (List.replicate k zs.toList).flatten := by
  intro k
  have hfl : ∀ k i, i < k * zs.size → (List.replicate k zs.toList).flatten[i]? = zs[i % zs.size]? := by
    intro k
    induction k with
    | zero => intro i h; simp at h
    | succ k ih =>
      intro i h
      rw [List.replicate_succ, List.flatten_cons]
      by_cases hi : i < zs.size
      · rw [List.getElem?_append_left (by simpa using hi), Nat.mod_eq_of_lt hi, Array.getElem?_toList]
      · rw [List.getElem?_append_right (by simpa using hi), Array.length_toList, ih _ (by rw [Nat.add_mul] at h; omega), ← Nat.mod_eq_sub_mod (by omega)]
  apply List.ext_getElem?
  intro i
  by_cases h : i < k * zs.size
  · rw [hfl k i h]
    have hm : i % zs.size < zs.size := Nat.mod_lt _ hz
    simp [madeCells, h, hm]
  · rw [List.getElem?_eq_none (by simp [madeCells]; omega), List.getElem?_eq_none (by simp [List.length_flatten]; omega)]

theorem R_make {tab : Nat → Option TI} (hT : TabOk P tab) {k m : Nat} {T t : TypeId} {row : List D} {j : Int} {agg : Bool} {size bytes : Nat} {zero : List Value}
    {k' : TK} {agg' : Bool} {bytes' : Nat} {zero' : List Value} (hx : evD (look sl) x = .lit (.int .i64 j)) (hy : evD (look sl) y = .lit (.int .i64 j)) (hj : j = (k : Int)) (ht : tab t = some ⟨.sl T, agg, size, bytes, zero⟩) (hT' : tab T = some ⟨k', agg', m, bytes', zero'⟩)
    (hz : Nat.beq zero'.length m = true) (hm : Nat.blt 0 m = true) (hby : Nat.ble bytes' 1024 = true) (hrow : zeroRow zero' = some row) (hl : row.all isLit = true) (hd : Nat.blt dst n = true) (hk : k ≤ 4294967296)
    (hK : WO P w0 A ops rest ⟨n, (dst, .own hp.length) :: sl, hp ++ [.arr T m (List.replicate k row) true]⟩ K) : WO P w0 A ops (⟨some dst, .makeSlice t x y, ty, pos, after, none⟩ :: rest) ⟨n, sl, hp⟩ K := by
  refine ⟨fun ms a w hr Q hq => ?_⟩
  refine wpList_plain rfl fun Kn hKn => ?_
  obtain ⟨inf, td, z, h1, h2, h3, h4, _⟩ := hT.get ht
  obtain ⟨inf', td', z', g1, g2, g3, g4, g5, g6, g7, g8⟩ := hT.get hT'
  have htd := TK.sl_inv h4
  rw [htd] at h2
  have hz := Nat.eq_of_beq_eq_true hz
  have hm : 0 < m := by simpa [Nat.blt_eq] using hm
  have hby := Nat.le_of_ble_eq_true hby
  have hzs : z'.cells.size = m := by rw [← hz, ← g8]; simp
  obtain ⟨e1, _⟩ := (hr.ev_at hx).lit_inv
  obtain ⟨e2, _⟩ := (hr.ev_at hy).lit_inv
  subst hj
  have hb2 : inf'.bytes * k ≤ 281474976710656 := by rw [g7]; exact Nat.le_trans (Nat.mul_le_mul hby hk) (by decide)
  obtain ⟨w', hrun, q1, q2⟩ := run_make_full (P := P) (w := w) w0.heap.size t T inf' z' m h2 g1 g3 g6 .i64 .i64 k hb2 (by unfold maxLen; omega) hr.ext.size
  have hx' : Ext w w' := ⟨q2.os, q2.tape, q2.output, q2.size, fun i hi => q2.block i hi (by simp)⟩
  have hzr : VXs [] w (fun _ => True) row zero' := constK_list hrow
  have hlit : ∀ d ∈ row, isLit d = true := List.all_eq_true.1 hl
  have hus : (madeCells z'.cells (k * m)).toList = (List.replicate k zero').flatten := by rw [← hzs, madeCells_eq _ (by omega), g8]
  have hlen : row.length = m := by rw [← hzr.len, hz]
  rw [hus] at q1
  have hlt := (q1.lt w.heap.size rfl).2
  obtain ⟨r1, r2⟩ := hr.newArr (T := T) (m := m) (g := w.heap.size) (xs := List.replicate k row) hx' rfl ⟨Nat.le_refl _, hlt⟩ (by simpa using q1) (fun r h => by rw [(List.mem_replicate.1 h).2]; exact hlen) (zeros_ok hlit hzr k)
  have hrun' : (execOp a.eval ⟨some dst, .makeSlice t x y, ty, pos, after, none⟩).run P w = .ok (.value (.slice (some ⟨w.heap.size, 0, none⟩) k k)) w' := by
    simp only [execOp, e1, e2, Sem.run_bind, hrun, Result.andThen]; rfl
  exact upon_value hrun' (hKn _ _ (hK.run _ _ w' (Rel.put (t := some dst) r1 (VX.own r2 ⟨_, _, _, rfl⟩) (dstOk_all (s := ⟨n, _, _⟩) (t := some dst) hd)) Q hq))

/-! ### A load of an element of an array of the call's own -/
theorem R_eload {tab : Nat → Option TI} (hT : TabOk P tab) {t T : TypeId} {i m o : Nat} {j : Int} {xs : List (List D)} {r : List D} {dp : Bool} {k : TK} {agg : Bool} {size bytes : Nat} {zero : List Value} {c : Prop} {d : D}
    (hx : evD (look sl) x = .eptr i m j o) (hb : hp[i]? = some (.arr T m xs dp)) (ht : tab t = some ⟨k, agg, size, bytes, zero⟩) (hrow : RowAt xs j r) (hp' : dropK o r (fun ds => partD agg size ds) = some (c, d)) (hd : Nat.blt dst n = true) (hK : WO P w0 A ops rest ⟨n, (dst, d) :: sl, hp⟩ K) :
    WO P w0 A ops (⟨some dst, .load t x, ty, pos, after, none⟩ :: rest) ⟨n, sl, hp⟩ K := by
  refine ⟨fun ms a w hr Q hq => ?_⟩
  refine wpList_plain rfl fun Kn hKn => ?_
  obtain ⟨inf, td, z, h1, h2, h3, h4, h5, h6, _⟩ := hT.get ht
  obtain ⟨e, b, hi, htop, e1⟩ := (hr.ev_at hx).eptr_inv
  obtain ⟨us, bs, o1, o2, o3, o4, o5⟩ := hr.ents i _ e hb hi
  have hno := hr.nest_ok hi o5
  obtain ⟨h7, h8⟩ := dropK_eq _ _ _ hp'
  have hlt := (List.getElem?_eq_some_iff.1 hrow.2).1
  have hlr : r.length = m := o2 r (List.mem_of_getElem? hrow.2)
  obtain ⟨hl, ⟨hv, h0⟩ | ⟨g, cap, cur, hv, hg, hh, c1, c2, c3, c4⟩⟩ := o1
  · omega
  · have hbg : b = g := by rw [o4, hv] at htop; simpa [Value.ownBlock] using htop.symm
    subst hbg
    obtain ⟨bs', p1, p2⟩ := o3.part (j.toNat * m) m
    rw [flatten_part o2 hrow.2] at p1
    have hml := mul_lt_of (m := m) hlt
    have hvx : VXs ms w (OkB w0.heap.size A ms w) (r.drop o) (((us.drop (j.toNat * m)).take m).drop o) := (VXs.of_rd p1 fun k hk => hno k (p2 k hk)).drop o
    have hcell : ∀ q, q < (((us.drop (j.toNat * m)).take m).drop o).length → w.cell? ⟨b, j.toNat * m + o + q, none⟩ = (((us.drop (j.toNat * m)).take m).drop o)[q]? := by
      intro q hq
      simp only [List.length_drop, List.length_take] at hq
      rw [List.getElem?_drop, List.getElem?_take, if_pos (by omega), List.getElem?_drop, ← c4, List.getElem?_take, if_pos (by rw [hl] at hq; omega), Array.getElem?_toList]
      simp [World.cell?, hh, Nat.add_assoc]
    obtain ⟨v, hrun, hvv⟩ := load_part (P := P) h1 h2 h5 h6 hvx hcell h7
    have hrun' : (execOp a.eval ⟨some dst, .load t x, ty, pos, after, none⟩).run P w = .ok (.value v) w := by
      simp only [execOp, e1, Instr.loadAt, Instr.sureAddr, Sem.run_bind, Sem.run, Result.andThen, pure, hrun]
    exact upon_value hrun' (hKn _ _ (hK.run _ _ w (Rel.put (t := some dst) hr hvv (dstOk_all (s := ⟨n, _, _⟩) (t := some dst) hd)) Q hq))

/-! ### Stores -/
def oneD : D → Bool
  | .lit _ => true
  | .nil => true
  | .sh _ _ => true
  | .own _ => true
  | _ => false
theorem oneD_ok {Ok : Nat → Prop} {d : D} {u : Value} (h : VX ms w Ok d u) (hd : oneD d = true) : u.oneCell' = true := by
  cases d <;> simp [oneD] at hd
  · obtain ⟨rfl, h1⟩ := h.lit_inv; exact (VR.lit (w := w) h1).one
  · rw [h.nil_inv]; rfl
  · obtain ⟨_, h1, _⟩ := h.sh_inv; exact h1.one
  · obtain ⟨e, _, rfl, _, _, _, h3⟩ := h.own_inv; rw [h3]; rfl
theorem oneDs_ok {Ok : Nat → Prop} : ∀ {ds : List D} {us : List Value}, VXs ms w Ok ds us → ds.all oneD = true → ∀ u ∈ us, u.oneCell' = true
  | _, _, .nil, _ => by simp
  | _, _, .cons h h', hd => by
    simp only [List.all_cons, Bool.and_eq_true] at hd
    intro u hu
    rcases List.mem_cons.1 hu with rfl | hu
    · exact oneD_ok h hd.1
    · exact oneDs_ok h' hd.2 u hu

theorem putL_splice {β : Type} : ∀ (o : Nat) (us cur : List β), o + us.length ≤ cur.length → putL o us cur = cur.take o ++ us ++ cur.drop (o + us.length)
  | 0, [], cur, _ => by rw [putL_nil]; simp
  | 0, u :: us, [], h => by simp at h
  | 0, u :: us, c :: cur, h => by
    have := putL_splice 0 us cur (by simpa using h)
    simp only [Nat.zero_add, List.take_zero, List.nil_append] at this
    simp [putL, this]
  | o + 1, us, [], h => by simp at h
  | o + 1, [], c :: cur, h => by rw [putL_nil]; simp
  | o + 1, u :: us, c :: cur, h => by
    have := putL_splice o (u :: us) cur (by simp at h ⊢; omega)
    show c :: putL o (u :: us) cur = _
    rw [this, show o + 1 + (u :: us).length = (o + (u :: us).length) + 1 by omega]
    rfl

theorem Ext_setRow {g : Nat} {cs : Array Value} (B : Nat) (hg : B ≤ g) : Below B w (w.setRow g cs) :=
  ⟨rfl, rfl, rfl, by simp [World.setRow], fun k hk => setRow_other w g k cs (by omega)⟩

/-- A store to a variable of the call's own. -/
theorem R_store {tab : Nat → Option TI} (hT : TabOk P tab) {t T : TypeId} {i o : Nat} {ds cs cs' : List D} {hp' : List Blk} {k : TK} {agg : Bool} {size bytes : Nat} {zero : List Value} {dst : Option Tmp}
    (hx : evD (look sl) x = .ptr i o) (hb : hp[i]? = some (.cells T cs)) (ht : tab t = some ⟨k, agg, size, bytes, zero⟩) (hy : cellsD (evD (look sl) y) = some ds) (hz : Nat.beq ds.length size = true) (h1 : ds.all oneD = true) (hle : Nat.ble (o + ds.length) cs.length = true)
    (hcs : putK o ds cs (fun l => some l) = some cs') (hd : dstOk ⟨n, sl, hp⟩ dst = true) (hh : hp.set i (.cells T cs') = hp') (hK : WO P w0 A ops rest (St.put ⟨n, sl, hp'⟩ dst (.tup [])) K) :
    WO P w0 A ops (⟨dst, .store t x y, ty, pos, after, none⟩ :: rest) ⟨n, sl, hp⟩ K := by
  refine ⟨fun ms a w hr Q hq => ?_⟩
  refine wpList_plain rfl fun Kn hKn => ?_
  obtain ⟨inf, td, z, q1, q2, q3, q4, q5, q6, _⟩ := hT.get ht
  have hz := Nat.eq_of_beq_eq_true hz
  have hle := Nat.le_of_ble_eq_true hle
  obtain ⟨e, b, hi, htop, e1⟩ := (hr.ev_at hx).ptr_inv
  obtain ⟨b', us, rfl, hh1, hv⟩ := hr.ents i _ e hb hi
  simp only [Option.some.injEq] at htop
  subst htop
  obtain ⟨vs, e2, hvs⟩ := cellsD_ok (hr.ev y) hy
  have hcs' := (putK_eq _ _ _ hcs).1
  simp only [Option.some.injEq] at hcs'
  subst hcs'
  have hl := hv.len
  have hlv := hvs.len
  have hone := oneDs_ok hvs h1
  have hst := run_storeCells_at P b' o T vs 0 us.toArray w hh1 (by simp; omega) hone
  simp only [Nat.add_zero] at hst
  have hput : (us.take o ++ vs ++ us.drop (o + vs.length)) = putL o vs us := (putL_splice o vs us (by omega)).symm
  simp only [hput] at hst
  have hrun : (execOp a.eval ⟨dst, .store t x y, ty, pos, after, none⟩).run P w = .ok .skip (w.setRow b' (putL o vs us).toArray) := by
    simp only [execOp, e1, Instr.storeAt, Instr.sureAddr, storeVar, Sem.run_bind, Sem.run, Result.andThen, pure, run_sizeOf q1, e2, q6, List.size_toArray, hlv, hz, ne_eq, not_true_eq_false, if_false]
    simp only [hst]
  subst hh
  have hrel := hr.change (i := i) (g := b') (b' := .cells T (putL o ds cs)) (w' := w.setRow b' (putL o vs us).toArray) hi rfl (fun k hk => setRow_other w b' k _ hk) (by simp [World.setRow]) (Ext_setRow _ ((hr.range b' (ent_owned hi (by simp))).1))
    (fun hk _ => ⟨b', putL o vs us, rfl, setRow_heap w b' _ _ T _ hh1, putL_vxs o (VXs.mono hk hvs fun _ _ _ h => h) (VXs.mono hk hv fun _ _ _ h => h)⟩)
  exact upon_skip hrun (hKn _ _ (hK.run _ _ _ (Rel.put hrel (.tup (us := []) .nil) (dstOk_all hd)) Q hq))

/-- A store to an element of an array of the call's own; scalars over scalars. -/
theorem VRs.setLits : ∀ {ds : List D} {us : List Value} {bs : List Nat}, VRs w ds us bs → ∀ (i : Nat) {cs : List D} {vs : List Value} {bc : List Nat}, VRs w' cs vs bc → (∀ d ∈ cs, isLit d = true) → (∀ d ∈ (ds.drop i).take cs.length, isLit d = true) → (∀ k ∈ bs, w'.heap[k]? = w.heap[k]?) → VRs w' (putL i cs ds) (putL i vs us) bs
  | _, _, _, h, i, _, _, _, .nil, _, _, hk => by rw [putL_nil, putL_nil]; exact h.keep hk
  | _, _, _, .nil, i, _, _, _, .cons _ _, _, _, _ => by cases i <;> exact .nil
  | _, _, _, .cons h h', 0, _, _, _, .cons hc hc', hl, ho, hk => by
    have hd := ho _ (by simp; exact Or.inl rfl)
    have hb1 := VRs.flat (ds := [_]) (by simpa using hd) (.cons h .nil)
    simp only [List.append_nil] at hb1
    subst hb1
    have hcl := hl _ (List.mem_cons_self ..)
    have hb2 := VRs.flat (ds := [_]) (by simpa using hcl) (.cons hc .nil)
    simp only [List.append_nil] at hb2
    subst hb2
    exact VRs.cons (bs := []) hc (VRs.setLits h' 0 hc' (fun d hd => hl d (List.mem_cons_of_mem _ hd)) (fun d hd => ho d (by simp at hd ⊢; exact Or.inr hd)) (fun k hk' => hk k (by simpa using hk')))
  | _, _, _, .cons h h', i + 1, _, _, _, .cons hc hc', hl, ho, hk => VRs.cons (h.keep fun k hk' => hk k (List.mem_append_left _ hk')) (VRs.setLits h' i (.cons hc hc') hl (fun d hd => ho d (by simpa using hd)) (fun k hk' => hk k (List.mem_append_right _ hk')))
end
end Go.Proofs.Ytidfmgahnmpcdaa
