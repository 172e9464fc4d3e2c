/- Slices cut to their length, and what append makes of them: always a new array. No condition. -/
import Derived.Test.YtcbfpeplcbgpjaaMv
import Derived.ArgAppend
set_option linter.unusedSimpArgs false
set_option linter.unusedVariables false
namespace Go.Proofs.Ytcbfpeplcbgpjaa
open Go.ChangeShapes Go.WideShapes Go.ChangeAt Go.RowKit

section
variable {P : Program} {tab : Nat → Option TI} {w0 w w' : World} {A : Nat → Prop} {n : Nat} {sl : List (Nat × D)} {hp : List Blk} {ops : Array Oper} {rest : List Oper} {K : St → Prop} {dst : Tmp} {ty : TypeId} {pos : String} {after : Array Edge}
/-- A slice that is read alone, cut to its length. -/
theorem R_slice3 (hT : TabOk P tab) {x h mx : Operand} {t T : TypeId} {m : Nat} {xs : List (List D)} {j : Int} {agg : Bool} {size bytes : Nat} {zero : List Value} {k' : TK} {agg' : Bool} {bytes' : Nat} {zero' : List Value} (hx : evD (look sl) x = .sh m xs) (hh : evD (look sl) h = .lit (.int .i64 j)) (hmx : evD (look sl) mx = .lit (.int .i64 j)) (ht : tab t = some ⟨.sl T, agg, size, bytes, zero⟩) (hT' : tab T = some ⟨k', agg', m, bytes', zero'⟩) (hd : Nat.blt dst n = true) (hj : j = (xs.length : Int)) (hne : 0 < xs.length)
    (hK : ∀ b o, WO P w0 A ops rest ⟨n, (dst, .tag (.slice (some ⟨b, o, none⟩) xs.length xs.length) (.sh m xs)) :: sl, hp⟩ K) : WO P w0 A ops (⟨some dst, .slice t x none (some h) (some mx), ty, pos, after, none⟩ :: rest) ⟨n, sl, hp⟩ K := by
  refine ⟨fun ms a w hr Q hq => ?_⟩
  refine wpList_plain rfl fun Kn hKn => ?_
  obtain ⟨inf, td, z, q1, q2, q3, q4, q5, q6, _⟩ := hT.get ht
  obtain ⟨inf', td', z', g1, g2, g3, g4, g5, g6, _⟩ := hT.get hT'
  have htd := TK.sl_inv q4
  subst htd
  obtain ⟨e2, _⟩ := (hr.ev_at hh).lit_inv
  obtain ⟨e3, _⟩ := (hr.ev_at hmx).lit_inv
  have hv := hr.ev_at hx
  generalize hu : a.eval x = u at hv
  cases hv with
  | rd h1 hok =>
    cases h1 with
    | shnil _ _ => simp at hne
    | sh r1 r2 r3 r4 r5 r6 =>
      rename_i b o cap us bs
      subst hj
      have hel : P.underlying t = some (.slice (P.elem t)) := by
        have : P.elem t = T := by simp [Program.elem, q2]
        rw [this]; exact q2
      have hel2 : P.elem t = T := by simp [Program.elem, q2]
      have hrun : (execOp a.eval ⟨some dst, .slice t x none (some h) (some mx), ty, pos, after, none⟩).run P w = .ok (.value (.slice (some ⟨b, o, none⟩) xs.length xs.length)) w := by
        simp only [execOp, hu, Option.map_some, Option.map_none, e2, e3, Sem.run_bind, run_sliceAt_slice _ _ _ _ _ _ hel]
        rw [run_slice_hm w t _ _ _ hel .i64 .i64 _ _ (by omega) (Int.le_refl _) (by omega), hel2, run_sizeOf g1]
        simp only [Result.andThen, sliced, Int.toNat_natCast, Nat.sub_zero, Nat.zero_mul]
        have e0 : (if xs.length = 0 then some (⟨b, o, none⟩ : Addr) else (some (⟨b, o, none⟩ : Addr)).map (·.add 0)) = some ⟨b, o, none⟩ := by
          simp [Addr.add]
        rw [e0]; rfl
      have hvr : VR w (.tag (.slice (some ⟨b, o, none⟩) xs.length xs.length) (.sh m xs)) (.slice (some ⟨b, o, none⟩) xs.length xs.length) (b :: bs) := .tag (.sh r1 (Nat.le_refl _) (by omega) r4 r5 r6)
      exact upon_value hrun (hKn _ _ ((hK b o).run ms _ w (Rel.put (t := some dst) hr (.rd hvr hok) (dstOk_all (s := ⟨n, _, _⟩) (t := some dst) hd)) Q hq))
/-- The nil slice, cut to its length: an array of the call's own, without elements. -/
theorem R_slice3N (hT : TabOk P tab) {x h mx : Operand} {t T : TypeId} {m : Nat} {agg : Bool} {size bytes : Nat} {zero : List Value} {k' : TK} {agg' : Bool} {bytes' : Nat} {zero' : List Value} (hx : evD (look sl) x = .nil) (hh : evD (look sl) h = .lit (.int .i64 0)) (hmx : evD (look sl) mx = .lit (.int .i64 0)) (ht : tab t = some ⟨.sl T, agg, size, bytes, zero⟩) (hT' : tab T = some ⟨k', agg', m, bytes', zero'⟩) (hd : Nat.blt dst n = true)
    {k2 : Nat} {hp2 : List Blk} (hK : WO P w0 A ops rest ⟨n, (dst, .own k2) :: sl, hp2⟩ K) (e1 : hp.length = k2 := by first | (dsimp only [List.length_cons, List.length_nil, Nat.reduceAdd]; done) | (dsimp only [List.length_cons, List.length_nil, Nat.reduceAdd]; exact rfl) | exact rfl) (e2 : hp ++ [.arr T m [] true] = hp2 := by first | (dsimp only [List.cons_append, List.nil_append]; done) | exact rfl) : WO P w0 A ops (⟨some dst, .slice t x none (some h) (some mx), ty, pos, after, none⟩ :: rest) ⟨n, sl, hp⟩ K := by
  subst e1; subst e2
  refine ⟨fun ms a w hr Q hq => ?_⟩
  refine wpList_plain rfl fun Kn hKn => ?_
  obtain ⟨inf, td, z, q1, q2, q3, q4, q5, q6, _⟩ := hT.get ht
  obtain ⟨inf', td', z', g1, g2, g3, g4, g5, g6, _⟩ := hT.get hT'
  have htd := TK.sl_inv q4
  subst htd
  obtain ⟨e2, _⟩ := (hr.ev_at hh).lit_inv
  obtain ⟨e3, _⟩ := (hr.ev_at hmx).lit_inv
  have e1 := (hr.ev_at hx).nil_inv
  have hel2 : P.elem t = T := by simp [Program.elem, q2]
  have hel : P.underlying t = some (.slice (P.elem t)) := by rw [hel2]; exact q2
  have hrun : (execOp a.eval ⟨some dst, .slice t x none (some h) (some mx), ty, pos, after, none⟩).run P w = .ok (.value (.slice none 0 0)) w := by
    simp only [execOp, e1, Option.map_some, Option.map_none, e2, e3, Sem.run_bind, run_sliceAt_slice _ _ _ _ _ _ hel]
    rw [run_slice_hm w t _ _ _ hel .i64 .i64 _ _ (by omega) (Int.le_refl _) (by omega), hel2, run_sizeOf g1]
    rfl
  have hg := hr.grow (Ext.refl w) [nilEnt] [.arr T m [] true] rfl (by simp [owned, nilEnt]) (by simp [owned, nilEnt]) (by
    intro i b e hb he
    cases i with
    | succ i => simp at hb
    | zero =>
      simp at hb he
      subst hb; subst he
      exact ⟨[], [], World.ownsRow_nil _ _ _ _, by simp, .nil, rfl, rfl, by simp⟩)
  have hlen := hr.len
  simp only at hlen
  exact upon_value hrun (hKn _ _ (hK.run _ _ w (Rel.put (t := some dst) hg (VX.own (e := nilEnt) (by rw [List.getElem?_append_right (by rw [hlen]; exact Nat.le_refl _), hlen]; simp) ⟨none, 0, 0, rfl⟩) (dstOk_all (s := ⟨n, _, _⟩) (t := some dst) hd)) Q hq))
/-- append to a slice that is full: a new array. -/
theorem R_appFull (hT : TabOk P tab) {x y : Operand} {t T : TypeId} {b o k m : Nat} {xs ys : List (List D)} {dp : Bool} {agg : Bool} {size bytes : Nat} {zero : List Value} {k' : TK} {agg' : Bool} {bytes' : Nat} {zero' : List Value} (hx : evD (look sl) x = .tag (.slice (some ⟨b, o, none⟩) xs.length xs.length) (.sh m xs)) (hy : evD (look sl) y = .own k) (hb : hp[k]? = some (.arr T m ys dp)) (ht : tab t = some ⟨.sl T, agg, size, bytes, zero⟩) (hT' : tab T = some ⟨k', agg', m, bytes', zero'⟩)
    (hz : Nat.beq zero'.length m = true) (hm : Nat.blt 0 m = true) (hby : Nat.ble bytes' 1024 = true) (hd : Nat.blt dst n = true) (hfx : Flat xs) (hfy : Flat ys) (hne : 0 < ys.length) (hlen : xs.length + ys.length ≤ 4294967296)
    {k2 : Nat} {hp2 : List Blk} (hK : WO P w0 A ops rest ⟨n, (dst, .own k2) :: sl, hp2⟩ K) (e1 : hp.length = k2 := by first | (dsimp only [List.length_cons, List.length_nil, Nat.reduceAdd]; done) | (dsimp only [List.length_cons, List.length_nil, Nat.reduceAdd]; exact rfl) | exact rfl) (e2 : hp ++ [.arr T m (xs ++ ys) true] = hp2 := by first | (dsimp only [List.cons_append, List.nil_append]; done) | exact rfl) : WO P w0 A ops (⟨some dst, .call ⟨.builtin .append, #[x, y], #[t, t]⟩, ty, pos, after, none⟩ :: rest) ⟨n, sl, hp⟩ K := by
  subst e1; subst e2
  refine ⟨fun ms a w hr Q hq => ?_⟩
  refine wpList_plain rfl fun Kn hKn => ?_
  obtain ⟨inf, td, z, q1, q2, q3, q4, q5, q6, _⟩ := hT.get ht
  obtain ⟨inf', td', z', g1, g2, g3, g4, g5, g6, g7, g8⟩ := hT.get hT'
  have htd := TK.sl_inv q4
  subst htd
  have hz := Nat.eq_of_beq_eq_true hz
  have hm : 0 < m := by simpa [Nat.blt_eq] using hm
  have hby := Nat.le_of_ble_eq_true hby
  have hzs : z'.cells.size = m := by rw [← hz, ← g8]; simp
  obtain ⟨ek, hik, e2, hslk⟩ := (hr.ev_at hy).own_inv
  have hv := hr.ev_at hx
  generalize hu : a.eval x = u at hv
  have hu2 : u = .slice (some ⟨b, o, none⟩) xs.length xs.length ∧ ∃ us, VRs w xs.flatten us [] ∧ (∀ r ∈ xs, r.length = m) ∧ us.length = xs.length * m ∧ ∀ j, j < us.length → w.cell? ⟨b, o + j, none⟩ = us[j]? := by
    cases hv with
    | rd h1 hok =>
      cases h1 with
      | tag h1 =>
        refine ⟨rfl, ?_⟩
        cases h1 with
        | shnil _ _ => exact ⟨[], .nil, by simp, by simp, by simp⟩
        | sh r1 r2 r3 r4 r5 r6 =>
          have hbs := VRs.flat (fun d hd => by obtain ⟨r, hr1, hr2⟩ := List.mem_flatten.1 hd; exact hfx r hr1 d hr2) r5
          subst hbs
          exact ⟨_, r5, r1, by rw [r5.len, flatten_len r1], r6⟩
  obtain ⟨rfl, us, v1, v2, v3, v4⟩ := hu2
  obtain ⟨news, bn, o1, o2, o3, o4, o5⟩ := hr.ents k _ ek hb hik
  have hbn := VRs.flat (fun d hd => by obtain ⟨r, hr1, hr2⟩ := List.mem_flatten.1 hd; exact hfy r hr1 d hr2) o3
  subst hbn
  obtain ⟨hnl, ⟨_, h0⟩ | ⟨g, cap, cur, hvk, hg0, hh, c1, c2, c3, c4⟩⟩ := o1
  · omega
  have hnews : ∀ j u, news[j]? = some u → w.cell? ((⟨g, 0, none⟩ : Addr).add j) = some u := by
    intro j u hj
    have ea : (⟨g, 0, none⟩ : Addr).add j = ⟨g, j, none⟩ := by unfold Addr.add; split <;> simp_all
    have hjl := (List.getElem?_eq_some_iff.1 hj).1
    have hc : cur[j]? = some u := by
      rw [← hj, ← c4, List.getElem?_take, if_pos (by omega), Array.getElem?_toList]
    rw [ea]; simp [World.cell?, hh, hc]
  have holds : ∀ j u, us[j]? = some u → w.cell? ((⟨b, o, none⟩ : Addr).add j) = some u := by
    intro j u hj
    have hjl := (List.getElem?_eq_some_iff.1 hj).1
    have ea : (⟨b, o, none⟩ : Addr).add j = ⟨b, o + j, none⟩ := by unfold Addr.add; split <;> simp_all
    rw [ea, v4 j hjl]; exact hj
  have hbb : (xs.length + ys.length) * bytes' ≤ 140737488355328 := Nat.le_trans (Nat.mul_le_mul hlen hby) (by decide)
  obtain ⟨v', w', hrun, r1, r2⟩ := run_append_arg_grows (P := P) w t ty T inf' z' m bytes' q2 g1 g3 g6 g7 hzs hm ⟨b, o, none⟩ xs.length xs.length us v3 holds ⟨g, 0, none⟩ ys.length cap news (by rw [hnl]) hnews (by omega) (by unfold maxLen; omega) hbb
  have hx' : Ext w w' := ⟨r2.os, r2.tape, r2.output, r2.size, fun i hi => r2.block i hi (by simp)⟩
  obtain ⟨gn, hgn, hsl'⟩ : ∃ gn, v'.ownBlock = some gn ∧ ∃ a n c, v' = .slice a n c := by
    obtain ⟨_, ⟨h, h0⟩ | ⟨gn, cap', cur', h, _⟩⟩ := r1
    · omega
    · exact ⟨gn, by rw [h]; rfl, _, _, _, h⟩
  have hge : w.heap.size ≤ gn ∧ gn < w'.heap.size := by
    refine ⟨?_, (r1.lt gn hgn).2⟩
    exact (r1.lt gn hgn).1
  have hvr : VRs w' (xs ++ ys).flatten (us ++ news) [] := by
    rw [List.flatten_append]
    have h1 := (v1.append o3).keep (w' := w') (by simp)
    simpa using h1
  obtain ⟨s1, s2⟩ := hr.newArr (T := T) (m := m) (g := gn) (xs := xs ++ ys) hx' hgn hge (ownsRow_base (by simpa using r1) hr.ext.size) (fun r hr' => by
    rcases List.mem_append.1 hr' with h | h
    · exact v2 r h
    · exact o2 r h) hvr
  refine upon_value (run_append_op (ρ' := a.eval) rfl (by rw [hu, e2, hvk]; exact hrun)) (hKn _ _ (hK.run _ _ w' (Rel.put (t := some dst) s1 (VX.own s2 hsl') (dstOk_all (s := ⟨n, _, _⟩) (t := some dst) hd)) Q hq))
end
end Go.Proofs.Ytcbfpeplcbgpjaa
