/- Maps of the call's own, from keys to numbers: made, read, written. No condition. -/
import Derived.Test.YtjfipianehabgaaMv
import Derived.Test.YtjfipianehabgaaNet
import Derived.Test.YtjfipianehabgaaAbsU
import Derived.Maps.OwnOps
import Derived.Maps.Views
import Derived.Laws.IdiomMaps
import Derived.DeepKeys4
set_option linter.unusedSimpArgs false
set_option linter.unusedVariables false
namespace Go.Proofs.Ytjfipianehabgaa
open Go.ChangeShapes Go.WideShapes Go.ChangeAt Go.RowKit

def MapR (P : Program) (kt et : TypeId) (b N : Nat) (Dm : DataW Unit) (w : World) (v : Value) (top : Option Nat) (nest : List Nat) : Prop := v = .map (some b) ∧ top = some b ∧ nest = [] ∧ w.ownsMap P kt (plainElem P et) b N Dm
section
variable {P : Program} {w0 w w' : World} {A : Nat → Prop} {n : Nat} {sl : List (Nat × D)} {hp : List Blk} {ms : List Ent} {a : Act} {i : Nat} {e : Ent} {ops : Array Oper} {rest : List Oper} {K : St → Prop} {dst : Tmp} {ty : TypeId} {pos : String} {after : Array Edge} {hp2 : List Blk}
theorem MapR.keep {kt et : TypeId} {b N : Nat} {Dm : DataW Unit} {v : Value} {top : Option Nat} {nest : List Nat} (h : MapR P kt et b N Dm w v top nest) (hk : ∀ k ∈ top.toList ++ nest, w'.heap[k]? = w.heap[k]?) : MapR P kt et b N Dm w' v top nest := by
  obtain ⟨h1, h2, h3, es, clock, h4, h5⟩ := h
  exact ⟨h1, h2, h3, es, clock, (hk b (by rw [h2]; simp)).trans h4, h5⟩
theorem val_inv {Ok : Nat → Prop} {u v : Value} (h : VX ms w Ok (.val v) u) : u = v := by
  cases h with
  | rd h _ => cases h
  | val => rfl
/-- A map made. -/
theorem R_makeMap {t : TypeId} (kt et : TypeId) (hd : Nat.blt dst n = true) (hK : ∀ b, WO P w0 A ops rest ⟨n, (dst, .val (.map (some b))) :: sl, hp ++ [.cust (MapR P kt et b 0 (.map []))]⟩ K) : WO P w0 A ops (⟨some dst, .makeMap t none, ty, pos, after, none⟩ :: rest) ⟨n, sl, hp⟩ K := by
  refine ⟨fun ms a w hr Q hq => ?_⟩
  refine wpList_plain rfl fun Kn hKn => ?_
  have hx' : Ext w (w.alloc (.map #[] 0)) := (Ext.refl w).alloc _
  have hM : MapR P kt et w.heap.size 0 (.map []) (w.alloc (.map #[] 0)) (.map (some w.heap.size)) (some w.heap.size) [] := ⟨rfl, rfl, rfl, World.ownsMap_made w P kt _⟩
  have hg := hr.grow hx' [⟨.map (some w.heap.size), some w.heap.size, []⟩] [.cust (MapR P kt et w.heap.size 0 (.map []))] rfl (by simp [owned]) (by simp [owned]) (by
    intro i b e hi hei
    cases i with
    | succ i => simp at hi
    | zero =>
      simp at hi hei
      subst hi; subst hei
      exact ⟨hM, fun w2 h2 => hM.keep h2⟩)
  have hrun : (execOp a.eval ⟨some dst, .makeMap t none, ty, pos, after, none⟩).run P w = .ok (.value (.map (some w.heap.size))) (w.alloc (.map #[] 0)) := by
    simp only [execOp, Option.map_none, Sem.run_bind, run_makeMap, Result.andThen]; rfl
  exact upon_value hrun (hKn _ _ ((hK w.heap.size).run _ _ _ (Rel.put (t := some dst) hg .val (dstOk_all (s := ⟨n, _, _⟩) (t := some dst) hd)) Q hq))
/-- A number looked up, and whether it was there. -/
theorem R_mapLook {t kt et : TypeId} {b N : Nat} {Dm : DataW Unit} {m x : Operand} {us : List Value} {kl : Lit} (hm : evD (look sl) m = .val (.map (some b))) (hx : evD (look sl) x = .agg (us.map D.lit)) (hi : hp[i]? = some (.cust (MapR P kt et b N Dm))) (KL : Go.WideMaps.KeyLaw P kt) (ht : P.underlying t = some (.map kt et)) (he : P.underlying et = some (.int .i64)) (hz : ∀ w, (zeroValue et).run P w = .ok (.int .i64 0) w)
    (hkey : keyOf P kt (.agg us.toArray) = some kl) (f : Option Int) (hf : ∀ zd, Dm.atKey kl zd = match f with | some k => .lit (.int .i64 k) | none => zd) (hfr : ∀ k, f = some k → -9223372036854775808 ≤ k ∧ k ≤ 9223372036854775807) (hd : Nat.blt dst n = true)
    (hK : WO P w0 A ops rest ⟨n, (dst, .tup [.lit (.int .i64 (f.getD 0)), .lit (.bool f.isSome)]) :: sl, hp⟩ K) : WO P w0 A ops (⟨some dst, .lookup t m x true, ty, pos, after, none⟩ :: rest) ⟨n, sl, hp⟩ K := by
  refine ⟨fun ms a w hr Q hq => ?_⟩
  refine wpList_plain rfl fun Kn hKn => ?_
  have hlen := hr.len
  simp only at hlen
  have hil : i < ms.length := by rw [hlen]; exact (List.getElem?_eq_some_iff.1 hi).1
  obtain ⟨hM, _⟩ := hr.ents i _ ms[i] hi (List.getElem?_eq_getElem hil)
  obtain ⟨h1, h2, h3, es, clock, hb, F, hN, hD⟩ := hM
  have em : a.eval m = .map (some b) := by
    exact val_inv (hr.ev_at hm)
  have ex : a.eval x = .agg us.toArray := agg_lits (hr.ev_at hx)
  have fin : (execOp a.eval ⟨some dst, .lookup t m x true, ty, pos, after, none⟩).run P w = .ok (.value (.tuple #[.int .i64 (f.getD 0), .bool f.isSome])) w := by
    rcases Go.WideElems.fit_lookup_ok KL ht (hz w) hb F hkey with ⟨hrun, hat⟩ | ⟨v, y, hrun, hRv, hat, _⟩
    · have hn : f = none := by
        cases hf2 : f with
        | none => rfl
        | some k =>
          have h5 := hat (.lit (.bool true))
          rw [← hD, hf, hf2] at h5
          simp at h5
      rw [hn]
      simp [execOp, em, ex, hrun, Result.andThen]
    · cases hf2 : f with
      | none =>
        have h5 := hat (.lit (.bool true)); have h6 := hat (.lit (.bool false))
        rw [← hD, hf, hf2] at h5 h6
        simp only at h5 h6
        rw [← h5] at h6
        simp at h6
      | some k =>
        have h5 := hat (.lit (.bool true))
        rw [← hD, hf, hf2] at h5
        simp only at h5
        obtain ⟨c, rfl, rfl, _⟩ := plainElem_int_inv he hRv
        simp only [DataW.lit.injEq, Lit.int.injEq, true_and] at h5
        subst h5
        simp [execOp, em, ex, hrun, Result.andThen]
  refine upon_value fin (hKn _ _ (hK.run ms _ w (Rel.put (t := some dst) hr (.tup (us := [.int .i64 (f.getD 0), .bool f.isSome]) (.cons (int_vx (litOk_i64.2 ?_)) (.cons bool_vx .nil))) (dstOk_all (s := ⟨n, _, _⟩) (t := some dst) hd)) Q hq))
  cases hf2 : f with
  | none => exact ⟨by decide, by decide⟩
  | some k => exact hfr k hf2
/-- A number stored. -/
theorem R_mapStore {t kt et : TypeId} {b N : Nat} {Dm : DataW Unit} {m x y : Operand} {us : List Value} {kl : Lit} {k : Int} (hm : evD (look sl) m = .val (.map (some b))) (hx : evD (look sl) x = .agg (us.map D.lit)) (hy : evD (look sl) y = .lit (.int .i64 k)) (hi : hp[i]? = some (.cust (MapR P kt et b N Dm))) (KL : Go.WideMaps.KeyLaw P kt) (ht : P.underlying t = some (.map kt et)) (he : P.underlying et = some (.int .i64))
    (hkey : keyOf P kt (.agg us.toArray) = some kl) (hN : N < maxLen) (hwf : (Lit.int .i64 k).wf = true) (hh : setK i (.cust (MapR P kt et b (N + 1) (Dm.put kl (.lit (.int .i64 k))))) hp some = some hp2)
    (hK : WO P w0 A ops rest ⟨n, sl, hp2⟩ K) : WO P w0 A ops (⟨none, .mapUpdate t m x y, ty, pos, after, none⟩ :: rest) ⟨n, sl, hp⟩ K := by
  have hh := setK_eq hh
  simp only [Option.some.injEq] at hh
  subst hh
  refine ⟨fun ms a w hr Q hq => ?_⟩
  refine wpList_plain rfl fun Kn hKn => ?_
  have hlen := hr.len
  simp only at hlen
  have hil : i < ms.length := by rw [hlen]; exact (List.getElem?_eq_some_iff.1 hi).1
  have hie : ms[i]? = some ms[i] := List.getElem?_eq_getElem hil
  obtain ⟨⟨h1, h2, h3, hown⟩, _⟩ := hr.ents i _ ms[i] hi hie
  have em : a.eval m = .map (some b) := by
    exact val_inv (hr.ev_at hm)
  have ex : a.eval x = .agg us.toArray := agg_lits (hr.ev_at hx)
  have ey : a.eval y = .int .i64 k := (hr.ev_at hy).lit_inv.1
  obtain ⟨w', hrun, hown', hg⟩ := hown.update (Go.Maps.Keyed.of_law KL) ht hN hkey (plainElem_int he hwf)
  have hsz := hg.size
  have hcs := cutW_size hsz
  have hch : ∀ q, (cutW w' w.heap.size).heap[q]? = if q < w.heap.size then w'.heap[q]? else none := by
    intro q
    simp only [cutW, Array.getElem?_extract, Nat.sub_zero, Nat.zero_add]
    by_cases hq : q < w.heap.size
    · rw [if_pos (by omega), if_pos hq]
    · rw [if_neg (by omega), if_neg hq]
  have hgk : ∀ q, q ≠ b → (cutW w' w.heap.size).heap[q]? = w.heap[q]? := by
    intro q hq
    rw [hch]
    split
    · rename_i h; exact hg.block q h (by simpa using hq)
    · rw [Array.getElem?_eq_none (by omega)]
  have hbl := hown.lt
  have hr0 := hr.range b (ent_owned hie (by rw [h2]; simp))
  have hMc : MapR P kt et b (N + 1) (Dm.put kl (.lit (.int .i64 k))) (cutW w' w.heap.size) ms[i].v ms[i].top ms[i].nest := by
    obtain ⟨es, clock, p1, p2⟩ := hown'
    exact ⟨h1, h2, h3, es, clock, by rw [hch, if_pos hbl]; exact p1, p2⟩
  have hr1 : Rel w0 A ms ⟨n, sl, hp.set i (.cust (MapR P kt et b (N + 1) (Dm.put kl (.lit (.int .i64 k)))))⟩ a (cutW w' w.heap.size) :=
    hr.change hie h2 hgk hcs ⟨hg.os, hg.tape, hg.output, by omega, fun q hq => hgk q (by omega)⟩ fun _ _ => ⟨hMc, fun w2 h2' => hMc.keep h2'⟩
  have hr2 := hr1.later (cutW_ext hsz)
  have hexec : (execOp a.eval ⟨none, .mapUpdate t m x y, ty, pos, after, none⟩).run P w = .ok .skip w' := by
    simp [execOp, em, ex, ey, hrun, Result.andThen]
  exact upon_skip hexec (hKn _ _ (hK.run ms _ w' hr2 Q hq))
end
end Go.Proofs.Ytjfipianehabgaa
