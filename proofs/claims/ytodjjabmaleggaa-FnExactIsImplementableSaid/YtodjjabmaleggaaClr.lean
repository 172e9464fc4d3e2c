/- The tail of an array of the call's own, cleared: at any zero value. No condition. -/
import Derived.Test.YtodjjabmaleggaaMv
set_option linter.unusedSimpArgs false
set_option linter.unusedVariables false
namespace Go.Proofs.Ytodjjabmaleggaa
open Go.ChangeShapes Go.WideShapes Go.ChangeAt Go.RowKit
section
variable {P : Program} {w0 w w' : World} {A : Nat → Prop} {n : Nat} {sl : List (Nat × D)} {hp : List Blk} {ms mr : List Ent} {a : Act} {i : Nat} {e : Ent}
variable {ops : Array Oper} {rest : List Oper} {K : St → Prop} {dst : Tmp} {ty : TypeId} {pos : String} {after : Array Edge}
/-- The tail of an array of the call's own, cleared. -/
theorem R_clearTailG {tab : Nat → Option TI} (hT : TabOk P tab) {t T : TypeId} {m : Nat} {j : Int} {xs : List (List D)} {x y : Operand} {t1 : Tmp} {row : List D} {ty2 : TypeId} {pos2 : String} {after2 : Array Edge} {agg : Bool} {size bytes : Nat} {zero : List Value} {k' : TK} {agg' : Bool} {bytes' : Nat} {zero' : List Value} {hp' : List Blk}
    (hx : evD (look sl) x = .own i) (hy : evD (look sl) y = .lit (.int .i64 j)) (hb : hp[i]? = some (.arr T m xs true)) (ht : tab t = some ⟨.sl T, agg, size, bytes, zero⟩) (hT' : tab T = some ⟨k', agg', m, bytes', zero'⟩)
    (hz : Nat.beq zero'.length m = true) (hm : Nat.blt 0 m = true) (hrow : ∀ w : World, VXs [] w (fun _ => True) row zero') (hl : row.all isLit = true) (hd : Nat.blt t1 n = true)
    (hh : setK i (.arr T m (xs.take j.toNat ++ List.replicate (xs.length - j.toNat) row) true) hp some = some hp') (hf : Flat xs) (hj : 0 ≤ j ∧ j ≤ xs.length)
    (hK : WO P w0 A ops rest ⟨n, (t1, .no) :: sl, hp'⟩ K) : WO P w0 A ops (⟨some t1, .slice t x (some y) none none, ty, pos, after, none⟩ :: ⟨none, .call ⟨.builtin .clear, #[.tmp t1], #[t]⟩, ty2, pos2, after2, none⟩ :: rest) ⟨n, sl, hp⟩ K := by
  refine ⟨fun ms a w hr Q hq => ?_⟩
  refine wpList_plain rfl fun Kn hKn => ?_
  obtain ⟨inf, td, z, q1, q2, q3, q4, q5, q6, _⟩ := hT.get ht
  obtain ⟨inf', td', z', g1, g2, g3, g4, g5, g6, g7⟩ := hT.get hT'
  have htd := TK.sl_inv q4
  subst htd
  have hz := Nat.eq_of_beq_eq_true hz
  have hm : 0 < m := Nat.le_of_ble_eq_true hm
  have hh := setK_eq hh
  simp only [Option.some.injEq] at hh
  obtain ⟨e, hi, e1, hsl⟩ := (hr.ev_at hx).own_inv
  obtain ⟨e2, e3⟩ := (hr.ev_at hy).lit_inv
  have hne := flat_nest hr hi hb hf
  obtain ⟨us, bs, o1, o2, o3, o4, o5⟩ := hr.ents i _ e hb hi
  have hbs : bs = [] := by rw [← o5.1]; exact hne
  subst hbs
  have hjn : j.toNat ≤ xs.length := by omega
  have ht1 : t1 < n := Nat.le_of_ble_eq_true hd
  have hzl := hrow w
  have hlit : ∀ d ∈ row, isLit d = true := List.all_eq_true.1 hl
  have hrl : row.length = m := by rw [← hzl.len, hz]
  have hrow2 : ∀ r ∈ xs.take j.toNat ++ List.replicate (xs.length - j.toNat) row, r.length = m := by
    intro r hr
    rcases List.mem_append.1 hr with h | h
    · exact o2 r (List.mem_of_mem_take h)
    · rw [List.eq_of_mem_replicate h]; exact hrl
  -- the slice of the tail
  have hev : ∀ v, (a.put (some t1) v).eval (.tmp t1) = v := by
    intro v
    have : t1 < a.tmps.size := by rw [hr.size]; exact ht1
    simp [Act.put, Act.eval, Array.getD_eq_getD_getElem?, Array.getElem?_setIfInBounds_self_of_lt this]
  have hsl1 : ∀ v1, (Instr.sliceAt t e.v (some (.int .i64 j)) none none).run P w = .ok v1 w → (execOp a.eval ⟨some t1, .slice t x (some y) none none, ty, pos, after, none⟩).run P w = .ok (.value v1) w := by
    intro v1 h
    have : (Instr.sliceAt t (a.eval x) (some (a.eval y)) none none).run P w = .ok v1 w := by rw [e1, e2]; exact h
    simp only [execOp, Sem.run_bind, Option.map_some, Option.map_none, this, Result.andThen, Sem.run, pure]
  have hcl : ∀ v1 w', (Builtin.clear_ #[t] ty2 #[v1]).run P w = .ok (.tuple #[]) w' → (execOp (a.put (some t1) v1).eval ⟨none, .call ⟨.builtin .clear, #[.tmp t1], #[t]⟩, ty2, pos2, after2, none⟩).run P w = .ok (.value (.tuple #[])) w' := by
    intro v1 w' h
    have he := hev v1
    simp only [execOp, resolve, invoke, builtin, Sem.run_bind, Sem.run_pure, Result.andThen_ok, List.map_toArray, List.map_cons, List.map_nil, he, h]
  have hsame : xs.length = j.toNat → hp' = hp := by
    intro h
    rw [← hh, ← h, Nat.sub_self, List.take_length]
    simp only [List.replicate_zero, List.append_nil]
    refine List.ext_getElem? fun q => ?_
    by_cases hq2 : q = i
    · subst hq2
      rw [List.getElem?_set_self (List.getElem?_eq_some_iff.1 hb).1, hb]
    · rw [List.getElem?_set_ne (Ne.symm hq2)]
  have hput : ∀ v1, (a.put (some t1) v1).put none (.tuple #[]) = a.put (some t1) v1 := fun _ => rfl
  -- behind both operations
  have fin : ∀ v1 w', (Instr.sliceAt t e.v (some (.int .i64 j)) none none).run P w = .ok v1 w → (Builtin.clear_ #[t] ty2 #[v1]).run P w = .ok (.tuple #[]) w' → Rel w0 A ms ⟨n, sl, hp'⟩ a w' →
      (⟨some t1, .slice t x (some y) none none, ty, pos, after, none⟩ : Oper).wp P a w Kn Q := by
    intro v1 w' h1 h2 h3
    refine upon_value (hsl1 v1 h1) (hKn _ _ ?_)
    refine wpList_plain rfl fun Kn2 hKn2 => ?_
    refine upon_value (hcl v1 w' h2) (hKn2 _ _ ?_)
    rw [hput]
    exact hK.run _ _ _ (Rel.put (t := some t1) h3 .no (dstOk_all (s := ⟨n, _, _⟩) (t := some t1) hd)) Q hq
  by_cases heq : xs.length = j.toNat
  · have hlen0 : xs.length - j.toNat = 0 := by omega
    obtain ⟨hl', ⟨hv, h0⟩ | ⟨g, cap, cur, hv, hg, hh1, c1, c2, c3, c4⟩⟩ := o1
    · have h1 := run_tail (P := P) (w := w) (m := m) q2 g1 g6 (av := none) (len := 0) (cap := 0) (j := j) hj.1 (by omega) (Nat.le_refl _)
      rw [show (0 : Nat) - j.toNat = 0 by omega] at h1
      rw [← hv] at h1
      refine fin _ w h1 ?_ (by rw [hsame heq]; exact hr)
      split <;> simp [Builtin.clear_, run_underlying q2]
    · have h1 := run_tail (P := P) (w := w) (m := m) q2 g1 g6 (av := some ⟨g, 0, none⟩) (len := xs.length) (cap := cap) (j := j) hj.1 hj.2 c1
      rw [hlen0, ← hv] at h1
      refine fin _ w h1 ?_ (by rw [hsame heq]; exact hr)
      split <;> simp [Builtin.clear_, run_underlying q2]
  · obtain ⟨hl', ⟨hv, h0⟩ | ⟨g, cap, cur, hv, hg, hh1, c1, c2, c3, c4⟩⟩ := o1
    · omega
    have hjl : j.toNat < xs.length := by omega
    have h1 := run_tail (P := P) (w := w) (m := m) q2 g1 g6 (av := some ⟨g, 0, none⟩) (len := xs.length) (cap := cap) (j := j) hj.1 hj.2 c1
    rw [if_neg (by omega), ← hv] at h1
    have hadd : (some (⟨g, 0, none⟩ : Addr)).map (·.add (j.toNat * m)) = some ⟨g, j.toNat * m, none⟩ := by simp only [Option.map_some, Option.some.injEq]; unfold Addr.add; split <;> simp_all
    rw [hadd] at h1
    have hzs : z'.cells.size = m := by rw [← hz, ← g7.2, Array.length_toList]
    have hmade : (Builtin.zeroCells z'.cells (xs.length - j.toNat)).toList = (List.replicate (xs.length - j.toNat) zero').flatten := by
      rw [← g7.2]; exact madeCells_eq z'.cells (by omega) _
    have hvl : ((List.replicate (xs.length - j.toNat) zero').flatten).length = (xs.length - j.toNat) * m := by simp [hz]
    have hmul : j.toNat * m + (xs.length - j.toNat) * m = xs.length * m := by rw [← Nat.add_mul]; congr 1; omega
    have hcap : xs.length * m ≤ cap * m := Nat.mul_le_mul_right m c1
    have hvz := zeros_ok (w' := w) hlit (VXs.mono (ms' := []) (w' := w) (Ok' := fun _ => True) (fun _ _ => ⟨rfl, trivial⟩) hzl fun _ _ _ h => h) (xs.length - j.toNat)
    have hst := run_storeCells_at P g (j.toNat * m) T ((List.replicate (xs.length - j.toNat) zero').flatten) 0 cur w hh1 (by omega) hvz.one
    simp only [Nat.add_zero] at hst
    have hclr : (Builtin.clear_ #[t] ty2 #[.slice (some ⟨g, j.toNat * m, none⟩) (xs.length - j.toNat) (cap - j.toNat)]).run P w = .ok (.tuple #[]) (w.setRow g (cur.toList.take (j.toNat * m) ++ (List.replicate (xs.length - j.toNat) zero').flatten ++ cur.toList.drop (j.toNat * m + ((List.replicate (xs.length - j.toNat) zero').flatten).length)).toArray) := by
      obtain ⟨q, hq⟩ : ∃ q, xs.length - j.toNat = q + 1 := ⟨xs.length - j.toNat - 1, by omega⟩
      rw [hq] at hst hmade ⊢
      simp [Builtin.clear_, run_underlying q2, run_zero g1 g3, hmade, hst]
    refine fin _ _ h1 hclr ?_
    have htop : e.top = some g := by rw [o4, hv]; rfl
    have hrel := hr.change (i := i) (g := g) (b' := .arr T m (xs.take j.toNat ++ List.replicate (xs.length - j.toNat) row) true) (w' := w.setRow g (cur.toList.take (j.toNat * m) ++ (List.replicate (xs.length - j.toNat) zero').flatten ++ cur.toList.drop (j.toNat * m + ((List.replicate (xs.length - j.toNat) zero').flatten).length)).toArray) hi htop (fun k hk => setRow_other w g k _ hk) (by simp [World.setRow]) (Ext_setRow _ hg)
      (fun hk hn => by
        have hlr : (xs.take j.toNat ++ List.replicate (xs.length - j.toNat) row).length = xs.length := by simp; omega
        have hpt := o3.part 0 (j.toNat * m)
        obtain ⟨bs', hv', hb'⟩ := hpt
        have hbs' : bs' = [] := by
          refine List.eq_nil_iff_forall_not_mem.2 fun k hk => ?_
          have := hb' k hk; cases this
        subst hbs'
        simp only [List.drop_zero] at hv'
        refine ⟨us.take (j.toNat * m) ++ (List.replicate (xs.length - j.toNat) zero').flatten, [], ?_, hrow2, ?_, o4, ?_⟩
        · rw [hlr]
          refine ⟨by rw [List.length_append, hvl]; simp; omega, Or.inr ⟨g, cap, _, hv, hg, setRow_heap w g cur _ T _ hh1, c1, c2, ?_, ?_⟩⟩
          · simp [hz]; omega
          · have hA : (cur.toList.take (j.toNat * m)).length = j.toNat * m := by rw [List.length_take, Array.length_toList]; omega
            rw [List.toList_toArray, List.take_append_of_le_length (by rw [List.length_append, hA, hvl]; omega), List.take_of_length_le (by rw [List.length_append, hA, hvl]; omega), ← c4, List.take_take, Nat.min_eq_left (by omega)]
        · rw [List.flatten_append, flat_take _ o2]
          have := (hv'.keep (w' := w.setRow g _) (fun k hk => by cases hk)).append (zeros_ok (w' := w.setRow g (cur.toList.take (j.toNat * m) ++ (List.replicate (xs.length - j.toNat) zero').flatten ++ cur.toList.drop (j.toNat * m + ((List.replicate (xs.length - j.toNat) zero').flatten).length)).toArray) hlit (VXs.mono (ms' := []) (w' := w) (Ok' := fun _ => True) (fun _ _ => ⟨rfl, trivial⟩) hzl fun _ _ _ h => h) (xs.length - j.toNat))
          simpa using this
        · simp only [if_true]; exact ⟨hne, by simp⟩)
    rw [← hh]; exact hrel
end
end Go.Proofs.Ytodjjabmaleggaa
