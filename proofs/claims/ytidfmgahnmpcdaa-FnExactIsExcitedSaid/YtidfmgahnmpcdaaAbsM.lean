/- Symbolic states: stores to elements; slices that are written out; append of one element that may hold arrays of the call's own. No condition. -/
import Derived.Test.YtidfmgahnmpcdaaAbsL
set_option linter.unusedSimpArgs false
set_option linter.unusedVariables false
namespace Go.Proofs.Ytidfmgahnmpcdaa
open Go.ChangeShapes Go.WideShapes Go.ChangeAt Go.RowKit

section
variable {P : Program} {w0 w w' : World} {A : Nat → Prop} {n : Nat} {sl : List (Nat × D)} {hp : List Blk} {ms ms' : List Ent} {a : Act}
variable {ops : Array Oper} {rest : List Oper} {K : St → Prop} {x y : Operand} {dst : Tmp} {ty : TypeId} {pos : String} {after : Array Edge}

def SetAt (xs : List (List D)) (j : Int) (r : List D) (xs' : List (List D)) : Prop := xs' = xs.set j.toNat r
theorem setAt_nat {α : Type} {l : List α} {f : α → List D} {k : Nat} {v : α} {r : List D} (h : f v = r) : SetAt (l.map f) (k : Int) r ((l.set k v).map f) := by
  unfold SetAt; rw [Int.toNat_natCast, List.map_set, h]
theorem setAt_int {α : Type} {l : List α} {f : α → List D} {j : Int} {v : α} {r : List D} (h : f v = r) : SetAt (l.map f) j r ((l.set j.toNat v).map f) := by
  unfold SetAt; rw [List.map_set, h]

theorem putL_append_left {β : Type} : ∀ (o : Nat) (ds l l' : List β), o + ds.length ≤ l.length → putL o ds (l ++ l') = putL o ds l ++ l'
  | o, [], l, l', _ => by rw [putL_nil, putL_nil]
  | o, d :: ds, [], l', h => by simp at h
  | 0, d :: ds, c :: l, l', h => by show d :: putL 0 ds (l ++ l') = d :: putL 0 ds l ++ l'; rw [putL_append_left 0 ds l l' (by simpa using h)]; rfl
  | o + 1, d :: ds, c :: l, l', h => by show c :: putL o (d :: ds) (l ++ l') = c :: putL o (d :: ds) l ++ l'; rw [putL_append_left o (d :: ds) l l' (by simp at h ⊢; omega)]; rfl
theorem putL_append_right {β : Type} : ∀ (o : Nat) (ds l l' : List β), putL (l.length + o) ds (l ++ l') = l ++ putL o ds l'
  | o, [], l, l' => by rw [putL_nil, putL_nil]
  | o, d :: ds, [], l' => by simp
  | o, d :: ds, c :: l, l' => by
    rw [List.length_cons, show l.length + 1 + o = (l.length + o) + 1 by omega]
    show c :: putL (l.length + o) (d :: ds) (l ++ l') = c :: (l ++ putL o (d :: ds) l')
    rw [putL_append_right]
theorem flatten_set {m o : Nat} {ds : List D} (ho : o + ds.length ≤ m) : ∀ {xs : List (List D)} {k : Nat} {r : List D}, (∀ r ∈ xs, r.length = m) → xs[k]? = some r → (xs.set k (putL o ds r)).flatten = putL (k * m + o) ds xs.flatten
  | [], k, r, _, h => by simp at h
  | y :: xs, 0, r, hy, h => by
    simp at h; subst h
    simp only [List.set_cons_zero, List.flatten_cons, Nat.zero_mul, Nat.zero_add]
    rw [putL_append_left _ _ _ _ (by rw [hy y (by simp)]; exact ho)]
  | y :: xs, k + 1, r, hy, h => by
    simp at h
    simp only [List.set_cons_succ, List.flatten_cons]
    rw [flatten_set ho (fun z hz => hy z (List.mem_cons_of_mem _ hz)) h, show (k + 1) * m + o = y.length + (k * m + o) by rw [hy y (by simp), Nat.add_mul]; omega, putL_append_right]
theorem length_putL {β : Type} : ∀ (o : Nat) (ds l : List β), o + ds.length ≤ l.length → (putL o ds l).length = l.length := by
  intro o ds l h; rw [putL_splice o ds l h]; simp; omega

theorem R_estore {tab : Nat → Option TI} (hT : TabOk P tab) {t T : TypeId} {i m o : Nat} {j : Int} {ds r r' : List D} {xs xs' : List (List D)} {hp' : List Blk} {dp : Bool} {k : TK} {agg : Bool} {size bytes : Nat} {zero : List Value} {dst : Option Tmp}
    (hx : evD (look sl) x = .eptr i m j o) (hb : hp[i]? = some (.arr T m xs dp)) (ht : tab t = some ⟨k, agg, size, bytes, zero⟩) (hy : cellsD (evD (look sl) y) = some ds) (hz : Nat.beq ds.length size = true) (h1 : ds.all isLit = true) (hle : Nat.ble (o + ds.length) m = true)
    (hrow : RowAt xs j r) (hol : ((r.drop o).take ds.length).all isLit = true) (hr' : putK o ds r (fun l => some l) = some r') (hset : SetAt xs j r' xs') (hd : dstOk ⟨n, sl, hp⟩ dst = true) (hh : hp.set i (.arr T m xs' dp) = hp') (hK : WO P w0 A ops rest (St.put ⟨n, sl, hp'⟩ dst (.tup [])) K) :
    WO P w0 A ops (⟨dst, .store t x y, ty, pos, after, none⟩ :: rest) ⟨n, sl, hp⟩ K := by
  refine ⟨fun ms a w hr Q hq => ?_⟩
  refine wpList_plain rfl fun Kn hKn => ?_
  obtain ⟨inf, td, z, q1, q2, q3, q4, q5, q6, _⟩ := hT.get ht
  have hz := Nat.eq_of_beq_eq_true hz
  have hle := Nat.le_of_ble_eq_true hle
  have hlit : ∀ d ∈ ds, isLit d = true := List.all_eq_true.1 h1
  have hr'' := (putK_eq _ _ _ hr').1
  simp only [Option.some.injEq] at hr''
  subst hr''
  have hset : xs' = xs.set j.toNat (putL o ds r) := hset
  subst hset
  obtain ⟨e, b, hi, htop, e1⟩ := (hr.ev_at hx).eptr_inv
  obtain ⟨us, bs, o1, o2, o3, o4, o5⟩ := hr.ents i _ e hb hi
  have hno := hr.nest_ok hi o5
  obtain ⟨vs, e2, hvs⟩ := cellsD_ok (hr.ev y) hy
  have hlv := hvs.len
  have hvr : VRs w ds vs [] := VRs.of_lits hlit hvs
  have hlt := (List.getElem?_eq_some_iff.1 hrow.2).1
  have hml := mul_lt_of (m := m) hlt
  obtain ⟨hl, ⟨hv, h0⟩ | ⟨g, cap, cur, hv, hg, hh1, c1, c2, c3, c4⟩⟩ := o1
  · omega
  have hbg : b = g := by rw [o4, hv] at htop; simpa [Value.ownBlock] using htop.symm
  subst hbg
  have hcap : xs.length * m ≤ cap * m := Nat.mul_le_mul_right m c1
  have hst := run_storeCells_at P b (j.toNat * m + o) T vs 0 cur w hh1 (by omega) hvr.one
  simp only [Nat.add_zero] at hst
  have hput : (cur.toList.take (j.toNat * m + o) ++ vs ++ cur.toList.drop (j.toNat * m + o + vs.length)) = putL (j.toNat * m + o) vs cur.toList := (putL_splice _ vs cur.toList (by simp; omega)).symm
  simp only [hput] at hst
  have hrun : (execOp a.eval ⟨dst, .store t x y, ty, pos, after, none⟩).run P w = .ok .skip (w.setRow b (putL (j.toNat * m + o) vs cur.toList).toArray) := by
    simp only [execOp, e1, Instr.storeAt, Instr.sureAddr, storeVar, Sem.run_bind, Sem.run, Result.andThen, pure, run_sizeOf q1, e2, q6, List.size_toArray, hlv, hz, ne_eq, not_true_eq_false, if_false]
    simp only [hst]
  subst hh
  have htake : (putL (j.toNat * m + o) vs cur.toList).take (xs.length * m) = putL (j.toNat * m + o) vs us := by
    conv => lhs; rw [← List.take_append_drop (xs.length * m) cur.toList]
    rw [putL_append_left _ _ _ _ (by simp; omega), List.take_left' (by rw [length_putL _ _ _ (by simp; omega)]; simp; omega), c4]
  have hrel := hr.change (i := i) (g := b) (b' := .arr T m (xs.set j.toNat (putL o ds r)) dp) (w' := w.setRow b (putL (j.toNat * m + o) vs cur.toList).toArray) hi htop (fun k hk => setRow_other w b k _ hk) (by simp [World.setRow]) (Ext_setRow _ hg)
    (fun hk hn => by
      have hbs : ∀ k ∈ bs, (w.setRow b (putL (j.toNat * m + o) vs cur.toList).toArray).heap[k]? = w.heap[k]? := fun k hk' => (hk k (hno k hk')).1
      refine ⟨putL (j.toNat * m + o) vs us, bs, ?_, ?_, ?_, o4, ?_⟩
      · rw [List.length_set]
        refine ⟨by rw [length_putL _ _ _ (by omega)]; exact hl, Or.inr ⟨b, cap, (putL (j.toNat * m + o) vs cur.toList).toArray, hv, hg, setRow_heap w b cur _ T _ hh1, c1, c2, ?_, by simpa using htake⟩⟩
        simp [length_putL _ _ _ (show j.toNat * m + o + vs.length ≤ cur.toList.length by simp; omega), c3]
      · intro r2 hr2
        rcases List.mem_or_eq_of_mem_set hr2 with h | h
        · exact o2 r2 h
        · have hrm := o2 r (List.mem_of_getElem? hrow.2)
          rw [h, length_putL _ _ _ (by rw [hrm]; exact hle), hrm]
      · rw [flatten_set hle o2 hrow.2]
        have hpart : ((xs.flatten.drop (j.toNat * m + o)).take ds.length) = (r.drop o).take ds.length := by
          have := flatten_part o2 hrow.2
          rw [← this, ← List.drop_drop, List.drop_take, List.take_take, Nat.min_eq_left (by omega)]
        exact VRs.setLits o3 _ (VRs.of_lits (w' := w.setRow b _) hlit hvs) hlit (by rw [hpart]; exact List.all_eq_true.1 hol) hbs
      · cases dp with
        | true => exact ⟨o5.1, fun k hk' => (o5.2 k hk').keep (hbs k hk')⟩
        | false => exact ⟨o5.1, fun k hk' => (hk k (o5.2 k hk')).2⟩)
  exact upon_skip hrun (hKn _ _ (hK.run _ _ _ (Rel.put hrel (.tup (us := []) .nil) (dstOk_all hd)) Q hq))

/-! ### Slices that are written out -/
theorem fill_congr {p q : Nat → Option (Nat × Nat)} (h : ∀ i x, p i = some x → q i = some x) : ∀ {parts : List (Nat × Value)} {cs vs : Array Value}, Instr.fill p cs parts = some vs → Instr.fill q cs parts = some vs
  | [], _, _, hf => hf
  | (i, v) :: r, cs, vs, hf => by
    simp only [Instr.fill] at hf ⊢
    cases hp : p i with
    | none => rw [hp] at hf; simp at hf
    | some x =>
      rw [hp] at hf
      rw [h i x hp]
      simp only at hf ⊢
      split at hf
      · simp at hf
      · rename_i hc; rw [if_neg hc]; exact fill_congr h hf

def placesOf (size : Nat) : Nat → List (Nat × Nat)
  | 0 => []
  | k + 1 => placesOf size k ++ [(k * size, size)]
theorem placesOf_get {size : Nat} : ∀ {k i : Nat} {x : Nat × Nat}, (placesOf size k)[i]? = some x → x = (i * size, size)
  | 0, i, x, h => by simp [placesOf] at h
  | k + 1, i, x, h => by
    have hl : ∀ k, (placesOf size k).length = k := by intro k; induction k with | zero => rfl | succ k ih => simp [placesOf, ih]
    rw [placesOf] at h
    by_cases hi : i < k
    · rw [List.getElem?_append_left (by rw [hl]; exact hi)] at h; exact placesOf_get h
    · rw [List.getElem?_append_right (by rw [hl]; omega), hl] at h
      have : i = k := by
        have := (List.getElem?_eq_some_iff.1 h).1; simp at this; omega
      subst this
      simpa using h.symm
/-- The cells of a slice that is written out. -/
def litCells (ρ : Operand → D) (size len : Nat) (zero : List Value) (parts : List (Nat × Operand)) : Option (List D) :=
  constK zero fun z => buildK ρ (placesOf size len) parts (List.replicate len z).flatten fun l => some l
def rowsK (m : Nat) : Nat → List D → Option (List (List D))
  | 0, [] => some []
  | 0, _ :: _ => none
  | k + 1, l => takeK m l fun r => dropK m l fun l' => match rowsK m k l' with | some rs => some (r :: rs) | none => none

theorem buildK_gen {α : Type} {Ok : Nat → Prop} {ρ : Operand → D} {ρ' : Operand → Value} {fs : List (Nat × Nat)} {k : List D → Option α} {r : α} : ∀ {parts : List (Nat × Operand)} {l : List D} {us : List Value},
    (∀ x ∈ parts, VX ms w Ok (ρ x.2) (ρ' x.2)) → VXs ms w Ok l us → buildK ρ fs parts l k = some r →
      ∃ l' vs, Instr.fill (fun i => fs[i]?) us.toArray (parts.map fun x => (x.1, ρ' x.2)) = some vs.toArray ∧ VXs ms w Ok l' vs ∧ k l' = some r
  | [], l, us, _, hv, h => ⟨l, us, rfl, hv, h⟩
  | (i, x) :: parts, l, us, hp, hv, h => by
    simp only [buildK] at h
    split at h
    · rename_i o z hi
      split at h
      · rename_i ds hds
        split at h
        · rename_i hz
          have hz := Nat.eq_of_beq_eq_true hz
          obtain ⟨h1, h2⟩ := putK_eq _ _ _ h
          obtain ⟨cs, h3, h4⟩ := cellsD_ok (hp (i, x) (by simp)) hds
          obtain ⟨l', vs, h5, h6⟩ := buildK_gen (fun y hy => hp y (List.mem_cons_of_mem _ hy)) (putL_vxs o h4 hv) h1
          refine ⟨l', vs, ?_, h6⟩
          simp only [List.map_cons, Instr.fill, hi, h3, List.size_toArray]
          have hl := h4.len
          have hl2 := hv.len
          have hm : o + ds.length ≤ us.length := by
            rw [hl2]; rcases Nat.le_total l.length o with hh | hh
            · rw [Nat.max_eq_right hh] at h2; omega
            · rw [Nat.max_eq_left hh] at h2; exact h2
          rw [if_neg (by simp; omega)]
          have := foldl_put o cs 0 us (by omega)
          simp only [Nat.add_zero] at this
          rw [← Array.foldl_toList, Array.toList_zipIdx, this]
          exact h5
        · simp at h
      · simp at h
    · simp at h

theorem constK_gen {α : Type} {Ok : Nat → Prop} : ∀ {vs : List Value} {k : List D → Option α} {r : α}, constK vs k = some r → ∃ ds, VXs ms w Ok ds vs ∧ k ds = some r
  | [], _, _, h => ⟨[], .nil, h⟩
  | v :: vs, _, _, h => by
    obtain ⟨ds, h1, h2⟩ := constK_gen (forceK_eq h)
    exact ⟨_, .cons (constD_ok v) h1, h2⟩
theorem VXs.repl {Ok : Nat → Prop} {ds : List D} {us : List Value} (h : VXs ms w Ok ds us) : ∀ k, VXs ms w Ok (List.replicate k ds).flatten (List.replicate k us).flatten
  | 0 => .nil
  | k + 1 => by rw [List.replicate_succ, List.replicate_succ, List.flatten_cons, List.flatten_cons]; exact h.append (VXs.repl h k)

theorem litCells_ok {Ok : Nat → Prop} {ρ : Operand → D} {ρ' : Operand → Value} {size len : Nat} {zero : List Value} {parts : List (Nat × Operand)} {l : List D} (hp : ∀ x ∈ parts, VX ms w Ok (ρ x.2) (ρ' x.2)) (h : litCells ρ size len zero parts = some l) :
    ∃ vs, Instr.fill (fun i => some (i * size, size)) (List.replicate len zero).flatten.toArray (parts.map fun x => (x.1, ρ' x.2)) = some vs.toArray ∧ VXs ms w Ok l vs := by
  obtain ⟨z, h1, h2⟩ := constK_gen (ms := ms) (w := w) (Ok := Ok) h
  obtain ⟨l', vs, h3, h4, h5⟩ := buildK_gen hp (h1.repl len) h2
  simp only [Option.some.injEq] at h5
  subst h5
  exact ⟨vs, fill_congr (fun i x hx => by rw [placesOf_get hx]) h3, h4⟩

theorem run_buildSlice {tab : Nat → Option TI} (hT : TabOk P tab) {t T : TypeId} {len m : Nat} {parts : Array (Nat × Operand)} {ρ' : Operand → Value} {agg : Bool} {size bytes : Nat} {zero : List Value}
    {k' : TK} {agg' : Bool} {bytes' : Nat} {zero' : List Value} {vs : List Value} {o : Oper} (ho : o.op = .buildSlice t len parts) (ht : tab t = some ⟨.sl T, agg, size, bytes, zero⟩) (hT' : tab T = some ⟨k', agg', m, bytes', zero'⟩) (hz : zero'.length = m) (hm : 0 < m) (hlm : len * m ≤ 16777216)
    (hf : Instr.fill (fun i => some (i * m, m)) (List.replicate len zero').flatten.toArray (parts.toList.map fun x => (x.1, ρ' x.2)) = some vs.toArray) :
    (execOp ρ' o).run P w = .ok (.value (.slice (some ⟨w.heap.size, 0, none⟩) len len)) (w.alloc (.cells vs.toArray T (0, 0))) := by
  obtain ⟨inf, td, z, h1, h2, h3, h4, _⟩ := hT.get ht
  obtain ⟨inf', td', z', g1, g2, g3, g4, g5, g6, g7, g8⟩ := hT.get hT'
  have htd := TK.sl_inv h4
  rw [htd] at h2
  have hzs : z'.cells.size = m := by rw [← hz, ← g8]; simp
  have hzero : (madeCells z'.cells (len * m)) = (List.replicate len zero').flatten.toArray := by
    rw [← Array.toArray_toList (xs := madeCells _ _), ← hzs, madeCells_eq _ (by omega), g8]
  have hmap : (Array.map (fun x => (x.1, ρ' x.2)) parts).toList = parts.toList.map fun x => (x.1, ρ' x.2) := by simp
  have hno : ¬ len * m > 2 ^ 24 := by omega
  by_cases h0 : len * m = 0
  · have hl0 : len = 0 := by rcases Nat.mul_eq_zero.1 h0 with h | h <;> omega
    subst hl0
    simp only [List.replicate_zero, List.flatten_nil] at hf
    have e0 : ∀ f : Nat → Value, Array.map f (Array.range 0) = #[] := fun f => by simp
    have hno0 : ¬ (0 > 2 ^ 24) := by omega
    simp only [execOp, ho, Instr.buildSlice, Sem.run_bind, run_underlying h2, Result.andThen, run_sizeOf g1, g6, Nat.zero_mul, hno0, if_false, if_true, hmap, newRow, newObj]
    simp only [pure, Sem.run, e0, hf]
    rfl
  · simp only [execOp, ho, Instr.buildSlice, Sem.run_bind, run_underlying h2, Result.andThen, run_sizeOf g1, g6, hno, if_false, h0, run_zero g1 g3, hmap, newRow, newObj]
    unfold madeCells at hzero
    simp [Sem.run, hzero, hf]

theorem rowsK_ok {m : Nat} : ∀ {k : Nat} {l : List D} {rs : List (List D)}, rowsK m k l = some rs → rs.flatten = l ∧ rs.length = k ∧ ∀ r ∈ rs, r.length = m
  | 0, [], rs, h => by simp only [rowsK, Option.some.injEq] at h; subst h; simp
  | 0, _ :: _, rs, h => by simp [rowsK] at h
  | k + 1, l, rs, h => by
    simp only [rowsK] at h
    obtain ⟨h1, h2⟩ := takeK_eq _ _ _ h
    obtain ⟨h3, _⟩ := dropK_eq _ _ _ h1
    cases hr : rowsK m k (l.drop m) with
    | none => rw [hr] at h3; simp at h3
    | some rs' =>
      rw [hr] at h3
      simp only [Option.some.injEq] at h3
      subst h3
      obtain ⟨q1, q2, q3⟩ := rowsK_ok hr
      refine ⟨by rw [List.flatten_cons, q1, List.take_append_drop], by simp [q2], fun r hr => ?_⟩
      rcases List.mem_cons.1 hr with rfl | hr
      · simp; omega
      · exact q3 r hr

/-- A slice of scalars that is written out. -/
theorem R_build {tab : Nat → Option TI} (hT : TabOk P tab) {t T : TypeId} {len m : Nat} {parts : Array (Nat × Operand)} {agg : Bool} {size bytes : Nat} {zero : List Value}
    {k' : TK} {agg' : Bool} {bytes' : Nat} {zero' : List Value} {l : List D} {rs : List (List D)} (ht : tab t = some ⟨.sl T, agg, size, bytes, zero⟩) (hT' : tab T = some ⟨k', agg', m, bytes', zero'⟩) (hz : Nat.beq zero'.length m = true) (hm : Nat.blt 0 m = true) (hlm : Nat.ble (len * m) 16777216 = true)
    (hl : litCells (evD (look sl)) m len zero' parts.toList = some l) (hlit : l.all isLit = true) (hrs : rowsK m len l = some rs) (hd : Nat.blt dst n = true) (hK : WO P w0 A ops rest ⟨n, (dst, .own hp.length) :: sl, hp ++ [.arr T m rs true]⟩ K) :
    WO P w0 A ops (⟨some dst, .buildSlice t len parts, ty, pos, after, none⟩ :: rest) ⟨n, sl, hp⟩ K := by
  refine ⟨fun ms a w hr Q hq => ?_⟩
  refine wpList_plain rfl fun Kn hKn => ?_
  have hz := Nat.eq_of_beq_eq_true hz
  have hm : 0 < m := by simpa [Nat.blt_eq] using hm
  have hlm := Nat.le_of_ble_eq_true hlm
  obtain ⟨vs, hf, hv⟩ := litCells_ok (fun x _ => hr.ev x.2) hl
  have hrun := run_buildSlice (w := w) (o := ⟨some dst, .buildSlice t len parts, ty, pos, after, none⟩) hT rfl ht hT' hz hm hlm hf
  obtain ⟨q1, q2, q3⟩ := rowsK_ok hrs
  have hl' := hv.len
  have hlen : vs.length = len * m := by rw [hl', ← q1, flatten_len q3, q2]
  have hx : Ext w (w.alloc (.cells vs.toArray T (0, 0))) := (Ext.refl w).alloc _
  have hvr : VRs (w.alloc (.cells vs.toArray T (0, 0))) rs.flatten vs [] := by rw [q1]; exact VRs.of_lits (List.all_eq_true.1 hlit) hv
  have hown : (w.alloc (.cells vs.toArray T (0, 0))).ownsRow w0.heap.size T m (.slice (some ⟨w.heap.size, 0, none⟩) len len) rs.length vs := by
    rw [q2]
    refine ⟨hlen, Or.inr ⟨w.heap.size, len, vs.toArray, rfl, hr.ext.size, heap_alloc_new w _, Nat.le_refl _, ?_, by simp [hlen], by simp [← hlen]⟩⟩
    have : len ≤ len * m := Nat.le_mul_of_pos_right len hm
    unfold maxLen; omega
  obtain ⟨r1, r2⟩ := hr.newArr (T := T) (m := m) (g := w.heap.size) (xs := rs) hx rfl ⟨Nat.le_refl _, by simp⟩ hown q3 hvr
  exact upon_value hrun (hKn _ _ (hK.run _ _ _ (Rel.put (t := some dst) r1 (VX.own r2 ⟨_, _, _, rfl⟩) (dstOk_all (s := ⟨n, _, _⟩) (t := some dst) hd)) Q hq))

/-- A slice that is written out, of whatever: a variable's cells. -/
theorem R_vec {tab : Nat → Option TI} (hT : TabOk P tab) {t T : TypeId} {len m : Nat} {parts : Array (Nat × Operand)} {agg : Bool} {size bytes : Nat} {zero : List Value}
    {k' : TK} {agg' : Bool} {bytes' : Nat} {zero' : List Value} {l : List D} (ht : tab t = some ⟨.sl T, agg, size, bytes, zero⟩) (hT' : tab T = some ⟨k', agg', m, bytes', zero'⟩) (hz : Nat.beq zero'.length m = true) (hm : Nat.blt 0 m = true) (hlm : Nat.ble (len * m) 16777216 = true)
    (hl : litCells (evD (look sl)) m len zero' parts.toList = some l) (hd : Nat.blt dst n = true) (hK : WO P w0 A ops rest ⟨n, (dst, .vec hp.length len) :: sl, hp ++ [.cells T l]⟩ K) :
    WO P w0 A ops (⟨some dst, .buildSlice t len parts, ty, pos, after, none⟩ :: rest) ⟨n, sl, hp⟩ K := by
  refine ⟨fun ms a w hr Q hq => ?_⟩
  refine wpList_plain rfl fun Kn hKn => ?_
  obtain ⟨vs, hf, hv⟩ := litCells_ok (fun x _ => hr.ev x.2) hl
  have hrun := run_buildSlice (w := w) (o := ⟨some dst, .buildSlice t len parts, ty, pos, after, none⟩) hT rfl ht hT' (Nat.eq_of_beq_eq_true hz) (by simpa [Nat.blt_eq] using hm) (Nat.le_of_ble_eq_true hlm) hf
  have hb := hr.box (t := T) hv
  have hlen := hr.len
  simp only at hlen
  refine upon_value hrun (hKn _ _ (hK.run _ _ _ (Rel.put (t := some dst) hb (VX.vec (e := ⟨.pointer (some ⟨w.heap.size, 0, none⟩), some w.heap.size, []⟩) ?_ rfl) (dstOk_all (s := ⟨n, _, _⟩) (t := some dst) hd)) Q hq))
  rw [List.getElem?_append_right (by omega), hlen]; simp

/-! ### append of elements that may hold arrays of the call's own -/
def absK {α : Type} (hp : List Blk) : List D → (List D → List Nat → Option α) → Option α
  | [], k => k [] []
  | d :: ds, k => match d with
    | .lit v => absK hp ds fun l js => k (.lit v :: l) js
    | .nil => absK hp ds fun l js => k (.nil :: l) js
    | .own j => match hp[j]? with
      | some (.arr _ m xs true) => absK hp ds fun l js => k (.sh m xs :: l) (j :: js)
      | _ => none
    | _ => none
def memN (j : Nat) : List Nat → Bool
  | [] => false
  | i :: l => match Nat.beq i j with | true => true | false => memN j l
def nodupN : List Nat → Bool
  | [] => true
  | i :: l => match memN i l with | true => false | false => nodupN l
theorem memN_iff {j : Nat} : ∀ {l : List Nat}, memN j l = true ↔ j ∈ l
  | [] => by simp [memN]
  | i :: l => by
    simp only [memN]
    cases h : Nat.beq i j
    · have := Nat.ne_of_beq_eq_false h
      simp only [List.mem_cons, memN_iff]
      exact ⟨Or.inr, fun h => h.resolve_left (Ne.symm this)⟩
    · simp [Nat.eq_of_beq_eq_true h]
theorem nodupN_iff : ∀ {l : List Nat}, nodupN l = true → l.Nodup
  | [], _ => by simp
  | i :: l, h => by
    simp only [nodupN] at h
    cases hm : memN i l
    · rw [hm] at h
      exact List.nodup_cons.2 ⟨fun hi => by rw [memN_iff.2 hi] at hm; exact Bool.noConfusion hm, nodupN_iff h⟩
    · rw [hm] at h; exact Bool.noConfusion h

theorem absK_ok {α : Type} (hr : Rel w0 A ms ⟨n, sl, hp⟩ a w) : ∀ {ds : List D} {us : List Value} {k : List D → List Nat → Option α} {r : α}, VXs ms w (OkB w0.heap.size A ms w) ds us → absK hp ds k = some r →
    ∃ l js, k l js = some r ∧ VRs w l us (js.flatMap fun j => match ms[j]? with | some e => e.top.toList ++ e.nest | none => []) ∧ ∀ j ∈ js, ∃ e, ms[j]? = some e ∧ (∀ k ∈ e.top.toList ++ e.nest, Un w k)
  | [], _, _, _, .nil, h => ⟨[], [], h, .nil, by simp⟩
  | d :: ds, _, k, r, .cons hd hds, h => by
    cases d <;> simp only [absK, reduceCtorEq] at h
    · obtain ⟨l, js, h1, h2, h3⟩ := absK_ok hr hds h
      obtain ⟨rfl, h4⟩ := hd.lit_inv
      exact ⟨_, js, h1, VRs.cons (bs := []) (.lit h4) h2, h3⟩
    · obtain ⟨l, js, h1, h2, h3⟩ := absK_ok hr hds h
      have e := hd.nil_inv
      subst e
      exact ⟨_, js, h1, VRs.cons (bs := []) .nil h2, h3⟩
    · rename_i j
      split at h
      · rename_i T m xs hb
        obtain ⟨l, js, h1, h2, h3⟩ := absK_ok hr hds h
        obtain ⟨e, hi, rfl, _⟩ := hd.own_inv
        obtain ⟨us, bs, o1, o2, o3, o4, o5⟩ := hr.ents j _ e hb hi
        refine ⟨_, j :: js, h1, ?_, ?_⟩
        · rw [List.flatMap_cons, hi]
          refine VRs.cons ?_ h2
          simp only [o5.1]
          obtain ⟨hl, ⟨hv, h0⟩ | ⟨g, cap, cur, hv, hg, hh, c1, c2, c3, c4⟩⟩ := o1
          · have hx : xs = [] := List.length_eq_zero_iff.1 h0
            subst hx
            have ht : e.top = none := by rw [o4, hv]; rfl
            have hbs : bs = [] := by
              simp only [List.flatten_nil] at o3; cases o3; rfl
            rw [hv, ht, hbs]
            exact .shnil (by omega) fun _ => rfl
          · have ht : e.top = some g := by rw [o4, hv]; rfl
            rw [hv, ht]
            unfold maxLen at c2
            refine .sh o2 c1 (by omega) (Array.getElem?_eq_some_iff.1 hh).1 o3 ?_
            intro q hq
            have : us[q]? = cur[q]? := by rw [← c4, List.getElem?_take, if_pos (by omega), Array.getElem?_toList]
            rw [this, Nat.zero_add]
            simp [World.cell?, hh]
        · intro q hq
          rcases List.mem_cons.1 hq with rfl | hq
          · refine ⟨e, hi, fun k hk => ?_⟩
            rcases List.mem_append.1 hk with hk | hk
            · obtain ⟨hl, ⟨hv, h0⟩ | ⟨g, cap, cur, hv, hg, hh, c1, c2, c3, c4⟩⟩ := o1
              · rw [o4, hv] at hk; simp [Value.ownBlock] at hk
              · rw [o4, hv] at hk; simp [Value.ownBlock] at hk; subst hk
                exact ⟨cur, T, hh⟩
            · exact o5.2 k (by rw [← o5.1]; exact hk)
          · exact h3 q hq
      · simp at h

theorem R_appendVec {tab : Nat → Option TI} (hT : TabOk P tab) {i k len m : Nat} {T T2 t : TypeId} {xs ys : List (List D)} {ds l : List D} {js : List Nat} {agg : Bool} {size bytes : Nat} {zero : List Value}
    {k' : TK} {agg' : Bool} {bytes' : Nat} {zero' : List Value} {sl' : List (Nat × D)} {hp' : List Blk} (hx : evD (look sl) x = .own i) (hy : evD (look sl) y = .vec k len) (hb : hp[i]? = some (.arr T m xs true)) (hc : hp[k]? = some (.cells T2 ds)) (hab : absK hp ds (fun l js => some (l, js)) = some (l, js)) (hrs : rowsK m len l = some ys)
    (ht : tab t = some ⟨.sl T, agg, size, bytes, zero⟩) (hT' : tab T = some ⟨k', agg', m, bytes', zero'⟩)
    (hz : Nat.beq zero'.length m = true) (hm : Nat.blt 0 m = true) (hby : Nat.ble bytes' 1024 = true) (hd : Nat.blt dst n = true) (hnd : nodupN (i :: k :: js) = true) (hs : killK (fun j => memN j (i :: k :: js)) sl (fun l => some l) = some sl')
    (hh : newK (fun j => memN j (i :: k :: js)) (fun j => memN j (k :: js)) i (.arr T m (xs ++ ys) true) 0 hp (fun l => some l) = some hp') (hlen : xs.length + len ≤ 4294967296) (hk : WO P w0 A ops rest ⟨n, (dst, .own i) :: sl', hp'⟩ K) :
    WO P w0 A ops (⟨some dst, .call ⟨.builtin .append, #[x, y], #[t, t]⟩, ty, pos, after, none⟩ :: rest) ⟨n, sl, hp⟩ K := by
  refine ⟨fun ms a w hr Q hq => ?_⟩
  refine wpList_plain rfl fun Kn hKn => ?_
  obtain ⟨e, hi, e1, hsl⟩ := (hr.ev_at hx).own_inv
  obtain ⟨ek, b, hik, htk, e2⟩ := (hr.ev_at hy).vec_inv
  obtain ⟨b', us, rfl, hh1, hv⟩ := hr.ents k _ ek hc hik
  simp only [Option.some.injEq] at htk
  subst htk
  obtain ⟨l', js', h1, h2, h3⟩ := absK_ok hr hv hab
  simp only [Option.some.injEq, Prod.mk.injEq] at h1
  obtain ⟨rfl, rfl⟩ := h1
  obtain ⟨q1, q2, q3⟩ := rowsK_ok hrs
  have hnd' := nodupN_iff hnd
  rw [List.nodup_cons] at hnd'
  have hci : memN i (k :: js') = false := by
    cases h : memN i (k :: js')
    · rfl
    · exact (hnd'.1 (memN_iff.1 h)).elim
  have hsrc : Src w (.slice (some ⟨b', 0, none⟩) len len) m ys (js'.flatMap fun j => match ms[j]? with | some e => e.top.toList ++ e.nest | none => []) := by
    refine ⟨q3, Or.inr ⟨⟨b', 0, none⟩, len, us, by rw [q2], by rw [q1]; exact h2, fun j x hj => ?_⟩⟩
    have ea : (⟨b', 0, none⟩ : Addr).add j = ⟨b', j, none⟩ := by unfold Addr.add; split <;> simp_all
    rw [ea]; simp [World.cell?, hh1, hj]
  have hmem : ∀ q ∈ (js'.flatMap fun j => match ms[j]? with | some e => e.top.toList ++ e.nest | none => []), ∃ (j : Nat) (e' : Ent), j ∈ js' ∧ ms[j]? = some e' ∧ q ∈ e'.top.toList ++ e'.nest := by
    intro q hq
    obtain ⟨j, hj, hq⟩ := List.mem_flatMap.1 hq
    obtain ⟨e', he', _⟩ := h3 j hj
    rw [he'] at hq
    exact ⟨j, e', hj, he', hq⟩
  have hnn : (js'.flatMap fun j => match ms[j]? with | some e => e.top.toList ++ e.nest | none => []).Nodup := by
    rw [List.nodup_iff_pairwise_ne, List.pairwise_flatMap]
    refine ⟨fun j hj => ?_, ?_⟩
    · obtain ⟨e', he', _⟩ := h3 j hj
      rw [he']
      exact List.nodup_iff_pairwise_ne.1 (owned_self hr.nodup he')
    · have hn2 : js'.Nodup := (List.nodup_cons.1 hnd'.2).2
      rw [List.nodup_iff_pairwise_ne] at hn2
      refine List.Pairwise.imp_of_mem ?_ hn2
      intro j1 j2 hj1 hj2 hne q1 hq1 q2 hq2 e
      subst e
      obtain ⟨e1', he1, _⟩ := h3 j1 hj1
      obtain ⟨e2', he2, _⟩ := h3 j2 hj2
      rw [he1] at hq1; rw [he2] at hq2
      exact owned_disjoint hr.nodup hne he1 he2 hq1 hq2
  obtain ⟨v', w', hrun, ms', r1, e', r2, r3, r4⟩ := hr.append hT (p := fun j => memN j (i :: k :: js')) (c := fun j => memN j (k :: js')) (ty := ty) ht hT' (Nat.eq_of_beq_eq_true hz) (by simpa [Nat.blt_eq] using hm) (Nat.le_of_ble_eq_true hby) hi hb hci (memN_iff.2 (by simp)) (fun j h => memN_iff.2 (List.mem_cons_of_mem _ (memN_iff.1 h))) (by rw [q2]; exact hlen) hsrc
    (fun q hq => by obtain ⟨j, e', hj, h4, h5⟩ := hmem q hq; exact ⟨j, e', memN_iff.2 (List.mem_cons_of_mem _ hj), h4, h5⟩) hnn (d' := true) (Or.inl ⟨rfl, rfl, rfl, fun q hq => by obtain ⟨j, e', hj, h4, h5⟩ := hmem q hq; obtain ⟨e'', h6, h7⟩ := h3 j hj; rw [h4] at h6; cases h6; exact h7 q h5⟩)
  have hs' := killK_eq hs; have hh' := newK_eq hh
  simp only [Option.some.injEq] at hs' hh'
  subst hs'; subst hh'
  refine upon_value (run_append_op (ρ' := a.eval) rfl (by rw [e1, e2]; exact hrun)) (hKn _ _ (hk.run ms' _ w' (Rel.put (t := some dst) r1 (by rw [← r3]; exact VX.own r2 (by rw [r3]; exact r4)) (dstOk_all (s := ⟨n, _, _⟩) (t := some dst) hd)) Q hq))
end
end Go.Proofs.Ytidfmgahnmpcdaa
