/- Symbolic states: what an operation that only reckons or reads yields is so. No condition. -/
import Derived.Test.YtidfmgahnmpcdaaAbsE
import Derived.Laws.Tables
import Derived.DataBytes
set_option linter.unusedSimpArgs false
set_option linter.unusedVariables false
namespace Go.Proofs.Ytidfmgahnmpcdaa
open Go.ChangeShapes Go.WideShapes Go.ChangeAt Go.RowKit

section
variable {P : Program} {tab : Nat → Option TI} {heap : List Blk} {ms : List Ent} {w : World} {Ok : Nat → Prop} {base : Nat}

theorem run_underlying {t : TypeId} {d : TypeDesc} (h : P.underlying t = some d) : (Go.underlying t).run P w = .ok d w := by simp [Go.underlying, go_sem, h]
theorem run_typeInfo {t : TypeId} {i : TypeInfo} (h : P.info? t = some i) : (typeInfo t).run P w = .ok i w := by simp [typeInfo, go_sem, h]
theorem run_sizeOf {t : TypeId} {i : TypeInfo} (h : P.info? t = some i) : (sizeOf t).run P w = .ok i.size w := by simp [sizeOf, run_typeInfo h, Result.andThen]
theorem run_isAgg {t : TypeId} {d : TypeDesc} (h : P.underlying t = some d) : (isAgg t).run P w = .ok (aggDesc d) w := by
  simp only [isAgg, Sem.run_bind, run_underlying h, Result.andThen]
  cases d <;> rfl
theorem run_zero {t : TypeId} {i : TypeInfo} {z : Value} (h : P.info? t = some i) (hz : i.zero = some z) : (zeroValue t).run P w = .ok z w := by
  simp only [zeroValue, Sem.run_bind, run_typeInfo h, Result.andThen, hz]; rfl

theorem forceK_vx {d d' : D} {c : Prop} (h : forceK d (fun d => some (True, d)) = some (c, d')) : d' = d := by
  have := forceK_eq h
  simp only [Option.some.injEq, Prod.mk.injEq] at this
  exact this.2.symm

/-- A part of a row of cells, loaded. -/
theorem load_part {t : TypeId} {inf : TypeInfo} {td : TypeDesc} {b o : Nat} {ds : List D} {us : List Value} {agg : Bool} {size : Nat} (hi : P.info? t = some inf) (hu : P.underlying t = some td) (ha : agg = aggDesc td) (hs : inf.size = size)
    (hv : VXs ms w Ok ds us) (hc : ∀ j, j < us.length → w.cell? ⟨b, o + j, none⟩ = us[j]?) {c : Prop} {d : D}
    (h : partD agg size ds = some (c, d)) : ∃ v, (loadVar t ⟨b, o, none⟩).run P w = .ok v w ∧ VX ms w Ok d v := by
  subst hs
  unfold loadVar
  unfold partD at h
  simp only [Sem.run_bind, run_isAgg hu, Result.andThen, ← ha]
  cases agg with
  | true =>
    obtain ⟨h1, h2⟩ := takeK_eq _ _ _ h
    simp only [Option.some.injEq, Prod.mk.injEq] at h1
    obtain ⟨_, rfl⟩ := h1
    have hl := hv.len
    have hcells : (loadCells ⟨b, o, none⟩ inf.size).run P w = .ok (us.take inf.size).toArray w := by
      have := loadCellsFrom_ok (P := P) (w := w) (b := b) (o := o) (us.take inf.size) 0 #[] (fun j hj => by
        simp only [List.length_take] at hj
        rw [Nat.zero_add, hc j (by omega), List.getElem?_take, if_pos (by omega)])
      rw [List.length_take, Nat.min_eq_left (by omega)] at this
      simpa [loadCells] using this
    refine ⟨.agg (us.take inf.size).toArray, ?_, .agg (hv.take _)⟩
    simp only [if_true, Sem.run_bind, run_sizeOf hi, Result.andThen, hcells]; rfl
  | false =>
    cases hv with
    | nil => simp at h
    | cons hd _ =>
      simp only at h
      have := forceK_vx h
      subst this
      have h0 := hc 0 (by simp)
      refine ⟨_, ?_, hd⟩
      simp only [Nat.add_zero, List.getElem?_cons_zero] at h0
      simp only [Bool.false_eq_true, if_false, Go.load, Sem.run, h0]

theorem load_ok (hE : ∀ (i : Nat) (b : Blk) (e : Ent), heap[i]? = some b → ms[i]? = some e → EntR base ms w Ok b e) {t : TypeId} {inf : TypeInfo} {td : TypeDesc} {agg : Bool} {size : Nat} (hi : P.info? t = some inf) (hu : P.underlying t = some td) (ha : agg = aggDesc td) (hs : inf.size = size)
    {p : D} {u : Value} (hv : VX ms w Ok p u) {c : Prop} {d : D} (h : loadD heap agg size p = some (c, d)) : ∃ v, (Instr.loadAt t u).run P w = .ok v w ∧ VX ms w Ok d v := by
  unfold loadD at h
  split at h
  · obtain ⟨us, b, o, bs, rfl, h1, h2, h3, h4⟩ := hv.sptr_inv
    simp only [Instr.loadAt, Instr.sureAddr, Sem.run_bind, Sem.run, Result.andThen, pure]
    exact load_part hi hu ha hs (VXs.of_rd h1 h3) h4 h
  · rename_i i o
    obtain ⟨e, b, h1, h2, rfl⟩ := hv.ptr_inv
    split at h
    · rename_i t' ds hb
      obtain ⟨b', us, rfl, h3, h4⟩ := hE _ _ _ hb h1
      simp only [Option.some.injEq] at h2
      subst h2
      obtain ⟨h5, h6⟩ := dropK_eq _ _ _ h
      simp only [Instr.loadAt, Instr.sureAddr, Sem.run_bind, Sem.run, Result.andThen, pure]
      refine load_part hi hu ha hs (h4.drop o) ?_ h5
      intro j hj
      simp only [List.length_drop] at hj
      simp [World.cell?, h3]
    · simp at h
  · simp at h

theorem fieldPtr_ok {s : TypeId} {fs : Array Field} {f : Nat} {off z : Nat} (hu : P.underlying s = some (.struct fs)) (hf : (fs.toList.map fun f => (f.offset, P.cellsOf f.type))[f]? = some (off, z + 1))
    {p : D} {u : Value} (hv : VX ms w Ok p u) {c : Prop} {d : D} (h : fieldPtr off p = some (c, d)) : ∃ v, (Instr.fieldAt s u f).run P w = .ok v w ∧ VX ms w Ok d v := by
  rw [List.getElem?_map] at hf
  obtain ⟨fl, hfl, hfe⟩ := Option.map_eq_some_iff.1 hf
  simp only [Prod.mk.injEq] at hfe
  obtain ⟨rfl, hz⟩ := hfe
  have hfl' : fs[f]? = some fl := by simpa using hfl
  have key : ∀ b o, (Instr.fieldAt s (.pointer (some ⟨b, o, none⟩)) f).run P w = .ok (.pointer (some ⟨b, o + fl.offset, none⟩)) w := by
    intro b o
    have hsz : ∃ i, P.info? fl.type = some i ∧ i.size = z + 1 := by
      unfold Program.cellsOf at hz
      cases hi : P.info? fl.type with
      | none => simp [hi] at hz
      | some i => simp [hi] at hz; exact ⟨i, rfl, hz⟩
    obtain ⟨i, hi, hiz⟩ := hsz
    simp only [Instr.fieldAt, Sem.run_bind, run_underlying hu, Result.andThen, hfl', Instr.sureAddr, fieldPlace, pure, Sem.run, run_sizeOf hi, hiz, Nat.add_one_ne_zero, if_false]
    simp only [Addr.add]
    by_cases e : fl.offset = 0 <;> simp [e]
  unfold fieldPtr at h
  split at h
  · simp only [Option.some.injEq, Prod.mk.injEq] at h
    obtain ⟨_, rfl⟩ := h
    obtain ⟨e, b, h1, h2, rfl⟩ := hv.ptr_inv
    exact ⟨_, key _ _, .ptr h1 h2⟩
  · simp only [Option.some.injEq, Prod.mk.injEq] at h
    obtain ⟨_, rfl⟩ := h
    obtain ⟨e, b, h1, h2, rfl⟩ := hv.eptr_inv
    refine ⟨_, key _ _, ?_⟩
    rw [Nat.add_assoc]
    exact .eptr h1 h2
  · obtain ⟨h5, h6⟩ := dropK_eq _ _ _ h
    simp only [Option.some.injEq, Prod.mk.injEq] at h5
    obtain ⟨_, rfl⟩ := h5
    obtain ⟨us, b, o, bs, rfl, h1, h2, h3, h4⟩ := hv.sptr_inv
    refine ⟨_, key _ _, ?_⟩
    obtain ⟨bs', h7, h8⟩ := h1.part fl.offset ((us.drop fl.offset).length)
    have hl := h1.len
    rw [List.take_of_length_le (by simp [hl]), List.take_of_length_le (by simp)] at h7
    refine .sptr h7 h2 (fun k hk => h3 k (h8 k hk)) ?_
    intro j hj
    simp only [List.length_drop] at hj
    rw [Nat.add_assoc, h4 _ (by omega), List.getElem?_drop]
  · simp at h

theorem putL_nil {β : Type} (n : Nat) (l : List β) : putL n [] l = l := by cases n <;> cases l <;> rfl
theorem putL_cons : ∀ {β : Type} (l : List β) (n : Nat) (d : β) (ds : List β), n + ds.length < l.length → putL n (d :: ds) l = putL (n + 1) ds (l.set n d)
  | _, [], n, d, ds, h => by simp at h
  | _, c :: l, 0, d, [], _ => by rw [putL_nil]; show d :: putL 0 [] l = _; rw [putL_nil]; rfl
  | _, c :: l, 0, d, e :: ds, h => rfl
  | _, c :: l, n + 1, d, [], h => by
    show c :: putL n [d] l = _
    rw [putL_cons l n d [] (by simpa using h), putL_nil, putL_nil]; rfl
  | _, c :: l, n + 1, d, e :: ds, h => by
    show c :: putL n (d :: e :: ds) l = _
    rw [putL_cons l n d (e :: ds) (by simp at h ⊢; omega)]; rfl
theorem putL_vxs : ∀ (n : Nat) {ds l : List D} {us k : List Value}, VXs ms w Ok ds us → VXs ms w Ok l k → VXs ms w Ok (putL n ds l) (putL n us k)
  | 0, _, _, _, _, .nil, h => by cases h <;> (simp only [putL]; first | exact .nil | exact .cons ‹_› ‹_›)
  | n + 1, _, _, _, _, .nil, h => by cases h <;> (simp only [putL]; first | exact .nil | exact .cons ‹_› ‹_›)
  | 0, _, _, _, _, .cons _ _, .nil => .nil
  | n + 1, _, _, _, _, .cons _ _, .nil => .nil
  | 0, _, _, _, _, .cons h h', .cons _ h2 => .cons h (putL_vxs 0 h' h2)
  | n + 1, _, _, _, _, h@(.cons _ _), .cons h1 h2 => .cons h1 (putL_vxs n h h2)
theorem foldl_put (off : Nat) : ∀ (us : List Value) (j : Nat) (k : List Value), off + j + us.length ≤ k.length → (us.zipIdx j).foldl (fun cs (x : Value × Nat) => cs.setIfInBounds (off + x.2) x.1) k.toArray = (putL (off + j) us k).toArray
  | [], j, k, _ => by rw [putL_nil]; rfl
  | u :: us, j, k, h => by
    simp only [List.length_cons] at h
    rw [List.zipIdx_cons, List.foldl_cons, putL_cons k (off + j) u us (by omega)]
    have := foldl_put off us (j + 1) (k.set (off + j) u) (by simp; omega)
    simp only [List.setIfInBounds_toArray]
    rw [this, Nat.add_assoc]

theorem cellsD_ok {p : D} {u : Value} {ds : List D} (hv : VX ms w Ok p u) (h : cellsD p = some ds) : ∃ us, u.cells = us.toArray ∧ VXs ms w Ok ds us := by
  unfold cellsD at h
  split at h <;> simp only [Option.some.injEq, reduceCtorEq] at h <;> subst h
  · obtain ⟨us, rfl, h2⟩ := hv.agg_inv; exact ⟨us, rfl, h2⟩
  · have h2 := hv
    obtain ⟨rfl, h1⟩ := hv.lit_inv
    exact ⟨[_], by cases u <;> first | rfl | exact h1.elim, .cons h2 .nil⟩
  · have h2 := hv
    have := hv.nil_inv; subst this; exact ⟨[_], rfl, .cons h2 .nil⟩
  · have h2 := hv
    obtain ⟨bs, h1, _⟩ := hv.sh_inv
    exact ⟨[u], by cases h1 <;> rfl, .cons h2 .nil⟩
  · have h2 := hv
    obtain ⟨e, _, rfl, a, n, c, h3⟩ := hv.own_inv
    exact ⟨[e.v], by rw [h3]; rfl, .cons h2 .nil⟩

theorem constK_ok : ∀ {vs : List Value} {k : List D → Option (Prop × D)} {r : Prop × D}, constK vs k = some r → ∃ ds, VXs ms w Ok ds vs ∧ k ds = some r
  | [], _, _, h => ⟨[], .nil, h⟩
  | v :: vs, _, _, h => by
    obtain ⟨ds, h1, h2⟩ := constK_ok (forceK_eq h)
    exact ⟨_, .cons (constD_ok v) h1, h2⟩

theorem buildK_ok {ρ : Operand → D} {ρ' : Operand → Value} {fs : List (Nat × Nat)} {d : D} {c : Prop} : ∀ {parts : List (Nat × Operand)} {l : List D} {us : List Value},
    (∀ x ∈ parts, VX ms w Ok (ρ x.2) (ρ' x.2)) → VXs ms w Ok l us → buildK ρ fs parts l (fun l => some (True, .agg l)) = some (c, d) →
      ∃ vs, Instr.fill (fun i => fs[i]?) us.toArray (parts.map fun x => (x.1, ρ' x.2)) = some vs ∧ VX ms w Ok d (.agg vs)
  | [], l, us, _, hv, h => by
    simp only [buildK, Option.some.injEq, Prod.mk.injEq] at h
    obtain ⟨_, rfl⟩ := h
    exact ⟨us.toArray, rfl, .agg hv⟩
  | (i, x) :: parts, l, us, hp, hv, h => by
    simp only [buildK] at h
    split at h
    · rename_i o z hi
      split at h
      · rename_i ds hds
        split at h
        · rename_i hz
          have hz := Nat.eq_of_beq_eq_true hz
          obtain ⟨h1, h2⟩ := putK_eq _ _ _ h
          obtain ⟨cs, h3, h4⟩ := cellsD_ok (hp (i, x) (by simp)) hds
          obtain ⟨vs, h5, h6⟩ := buildK_ok (fun y hy => hp y (List.mem_cons_of_mem _ hy)) (putL_vxs o h4 hv) h1
          refine ⟨vs, ?_, h6⟩
          simp only [List.map_cons, Instr.fill, hi, h3, List.size_toArray]
          have hl := h4.len
          have hl2 := hv.len
          have hm : o + ds.length ≤ us.length := by
            rw [hl2]; rcases Nat.le_total l.length o with hh | hh
            · rw [Nat.max_eq_right hh] at h2; omega
            · rw [Nat.max_eq_left hh] at h2; exact h2
          rw [if_neg (by simp; omega)]
          have := foldl_put o cs 0 us (by omega)
          simp only [Nat.add_zero] at this
          rw [← Array.foldl_toList, Array.toList_zipIdx, this]
          exact h5
        · simp at h
      · simp at h
    · simp at h

theorem VXs.of_map {ρ : Operand → D} {ρ' : Operand → Value} : ∀ {l : List Operand}, (∀ x ∈ l, VX ms w Ok (ρ x) (ρ' x)) → VXs ms w Ok (l.map ρ) (l.map ρ')
  | [], _ => .nil
  | x :: _, h => .cons (h x (by simp)) (VXs.of_map fun y hy => h y (List.mem_cons_of_mem _ hy))

theorem run_bound {i : Int} {y : Nat} {code : BoundsCode} (h : 0 ≤ i ∧ i ≤ y) : (Instr.sliceBound (.int .i64 i) y code).run P w = .ok i.toNat w := by
  simp only [Instr.sliceBound, asIntOf, Sem.run_bind, Sem.run, pure, Result.andThen, if_pos h]
theorem boundsK_ok {ρ : Operand → D} {ρ' : Operand → Value} {len : Nat} {lo hi : Option Operand} {f0 : D} {f1 f2 : Int → D} {f3 : Int → Int → D} {c : Prop} {d : D} (h : boundsK ρ len lo hi f0 f1 f2 f3 = some (c, d)) (hc : c)
    (hρ : ∀ x, (lo = some x ∨ hi = some x) → VX ms w Ok (ρ x) (ρ' x)) (b : Bool) {cap : Nat} (hcap : len ≤ cap) (hs : b = false → cap = len) (g : Nat → Nat → D) (g0 : f0 = g 0 len) (g1 : ∀ h, f1 h = g 0 h.toNat) (g2 : ∀ l, f2 l = g l.toNat len) (g3 : ∀ l h, f3 l h = g l.toNat h.toNat) :
    ∃ l h, l ≤ h ∧ h ≤ len ∧ d = g l h ∧ (Instr.sliceBounds b len cap (lo.map ρ') (hi.map ρ') none).run P w = .ok (l, h, cap) w := by
  unfold boundsK at h
  split at h
  · simp only [Option.some.injEq, Prod.mk.injEq] at h
    obtain ⟨_, rfl⟩ := h
    exact ⟨0, len, Nat.zero_le _, Nat.le_refl _, g0, by simp [Instr.sliceBounds, Sem.run_bind, Sem.run, pure, Result.andThen]⟩
  · rename_i y
    split at h
    · rename_i j hy
      simp only [Option.some.injEq, Prod.mk.injEq] at h
      obtain ⟨rfl, rfl⟩ := h
      have h1 := hρ y (Or.inr rfl)
      rw [hy] at h1
      obtain ⟨e1, _⟩ := h1.lit_inv
      refine ⟨0, j.toNat, Nat.zero_le _, by omega, g1 _, ?_⟩
      simp only [Instr.sliceBounds, Option.map_none, Option.map_some, e1, Sem.run_bind, Sem.run, pure, Result.andThen, run_bound (w := w) (y := cap) (i := j) ⟨hc.1, by omega⟩]
    · simp at h
  · rename_i x
    split at h
    · rename_i j hy
      simp only [Option.some.injEq, Prod.mk.injEq] at h
      obtain ⟨rfl, rfl⟩ := h
      have h1 := hρ x (Or.inl rfl)
      rw [hy] at h1
      obtain ⟨e1, _⟩ := h1.lit_inv
      refine ⟨j.toNat, len, by omega, Nat.le_refl _, g2 _, ?_⟩
      simp only [Instr.sliceBounds, Option.map_none, Option.map_some, e1, Sem.run_bind, Sem.run, pure, Result.andThen, run_bound (w := w) (y := len) (i := j) hc]
    · simp at h
  · rename_i x y
    split at h
    · rename_i j i hx hy
      simp only [Option.some.injEq, Prod.mk.injEq] at h
      obtain ⟨rfl, rfl⟩ := h
      have h1 := hρ x (Or.inl rfl)
      have h2 := hρ y (Or.inr rfl)
      rw [hx] at h1; rw [hy] at h2
      obtain ⟨e1, _⟩ := h1.lit_inv
      obtain ⟨e2, _⟩ := h2.lit_inv
      refine ⟨j.toNat, i.toNat, by omega, by omega, g3 _ _, ?_⟩
      simp only [Instr.sliceBounds, Option.map_some, e1, e2, Sem.run_bind, Sem.run, pure, Result.andThen, run_bound (w := w) (y := cap) (i := i) ⟨by omega, by omega⟩, run_bound (w := w) (y := i.toNat) (i := j) ⟨hc.1, by omega⟩]
    · simp at h
theorem flat_drop {n : Nat} : ∀ (l : Nat) {xs : List (List D)}, (∀ r ∈ xs, r.length = n) → (xs.drop l).flatten = xs.flatten.drop (l * n)
  | 0, xs, _ => by simp
  | l + 1, [], _ => by simp
  | l + 1, y :: xs, h => by
    rw [List.drop_succ_cons, flat_drop l fun r hr => h r (List.mem_cons_of_mem _ hr), List.flatten_cons, show (l + 1) * n = y.length + l * n by rw [h y (by simp), Nat.add_mul]; omega, ← List.drop_drop, List.drop_left]
theorem flat_take {n : Nat} : ∀ (l : Nat) {xs : List (List D)}, (∀ r ∈ xs, r.length = n) → (xs.take l).flatten = xs.flatten.take (l * n)
  | 0, xs, _ => by simp
  | l + 1, [], _ => by simp
  | l + 1, y :: xs, h => by
    rw [List.take_succ_cons, List.flatten_cons, flat_take l fun r hr => h r (List.mem_cons_of_mem _ hr), List.flatten_cons, show (l + 1) * n = y.length + l * n by rw [h y (by simp), Nat.add_mul]; omega, List.take_length_add_append]
theorem flat_len {n : Nat} : ∀ {l : List (List D)}, (∀ y ∈ l, y.length = n) → l.flatten.length = l.length * n
  | [], _ => by simp
  | y :: l, h => by rw [List.flatten_cons, List.length_append, flat_len fun z hz => h z (List.mem_cons_of_mem _ hz), h y (by simp), List.length_cons, Nat.add_mul]; omega
/-- A part of a slice that is read alone. -/
theorem VR.cut {n : Nat} {xs : List (List D)} {u : Value} {bs : List Nat} (h : VR w (.sh n xs) u bs) {l k : Nat} (h1 : l ≤ k) (h2 : k ≤ xs.length) : ∃ a m cap, u = .slice a m cap ∧ m = xs.length ∧ m ≤ cap ∧
    ∃ bs', VR w (.sh n ((xs.take k).drop l)) (.slice (if cap = l then a else a.map (·.add (l * n))) (k - l) (cap - l)) bs' ∧ ∀ i ∈ bs', i ∈ bs := by
  cases h with
  | shnil q1 q2 =>
    simp only [List.length_nil, Nat.le_zero] at h2
    subst h2
    obtain rfl : l = 0 := by omega
    rename_i a cap
    refine ⟨a, 0, cap, rfl, rfl, Nat.zero_le _, [], ?_, by simp⟩
    have : VR w (.sh n []) (.slice (if cap = 0 then a else a.map (·.add (0 * n))) 0 cap) [] := by
      refine .shnil q1 fun e => ?_
      by_cases hc : cap = 0
      · exact hc
      · rw [if_neg hc] at e; exact q2 (by simpa using e)
    simpa using this
  | sh q1 q2 q3 q4 q5 q6 =>
    rename_i b o cap us bs
    refine ⟨_, _, cap, rfl, rfl, q2, ?_⟩
    by_cases e : l = k
    · subst e
      have e0 : (xs.take l).drop l = [] := by simp
      rw [e0]
      refine ⟨[], ?_, by simp⟩
      rw [Nat.sub_self]
      refine .shnil (by omega) fun e => ?_
      by_cases hc : cap = l
      · omega
      · rw [if_neg hc] at e; simp at e
    · have hne : cap ≠ l := by omega
      rw [if_neg hne]
      obtain ⟨bs', p1, p2⟩ := q5.part (l * n) ((k - l) * n)
      have hmem : ∀ r ∈ (xs.take k).drop l, r.length = n := fun r hr => q1 r (List.mem_of_mem_take (List.mem_of_mem_drop hr))
      have hfl : ((xs.take k).drop l).flatten = (xs.flatten.drop (l * n)).take ((k - l) * n) := by
        rw [flat_drop l fun r hr => q1 r (List.mem_of_mem_take hr), flat_take k q1, List.drop_take]
        congr 1; rw [Nat.sub_mul]
      rw [← hfl] at p1
      have hk : ((xs.take k).drop l).length = k - l := by simp; omega
      have ha : (Option.map (fun x => Addr.add x (l * n)) (some ⟨b, o, none⟩)) = some ⟨b, o + l * n, none⟩ := by
        simp only [Option.map_some, Addr.add]
        by_cases e0 : l * n = 0 <;> simp [e0]
      rw [ha]
      refine ⟨b :: bs', ?_, fun i hi => ?_⟩
      · rw [← hk]
        exact .sh hmem (by omega) (by omega) q4 p1 (fun j hj => by
          have hl := q5.len; rw [flat_len q1] at hl
          have hjl : j < (k - l) * n := by simp at hj; omega
          have : l * n + j < us.length := by
            have h3 : k * n ≤ xs.length * n := Nat.mul_le_mul_right n h2
            have h4 : (k - l) * n = k * n - l * n := Nat.sub_mul ..
            omega
          rw [Nat.add_assoc, q6 _ this, List.getElem?_take, if_pos hjl, List.getElem?_drop])
      · rcases List.mem_cons.1 hi with rfl | hi
        · exact List.mem_cons_self ..
        · exact List.mem_cons_of_mem _ (p2 i hi)
theorem sliceD_ok (hT : TabOk P tab) {ρ : Operand → D} {ρ' : Operand → Value} {t : TypeId} {x : Operand} {lo hi mx : Option Operand} (hρ : ∀ y, (y = x ∨ lo = some y ∨ hi = some y) → VX ms w Ok (ρ y) (ρ' y))
    {c : Prop} {d : D} (h : sliceD tab ρ t x lo hi mx = some (c, d)) (hc : c) : ∃ v, (Instr.sliceAt t (ρ' x) (lo.map ρ') (hi.map ρ') (mx.map ρ')).run P w = .ok v w ∧ VX ms w Ok d v := by
  unfold sliceD at h
  split at h
  · simp at h
  have h5 := hρ x (Or.inl rfl)
  generalize ρ x = px at *
  split at h
  · rename_i s ht
    obtain ⟨inf, td, z, h1, h2, h3, h4, _⟩ := hT.get ht
    have htd := TK.str_inv h4
    obtain ⟨e1, e2⟩ := h5.lit_inv
    obtain ⟨l, k, k1, k2, rfl, k3⟩ := boundsK_ok (P := P) (w := w) h hc (fun y hy => hρ y (Or.inr hy)) false (cap := s.size) (Nat.le_refl _) (fun _ => rfl) (fun l h => .lit (.string (s.extract l h))) (by simp) (fun _ => rfl) (fun _ => rfl) (fun _ _ => rfl)
    refine ⟨.string (s.extract l k), ?_, VX.of_lit ?_⟩
    · simp only [Instr.sliceAt, Instr.slice, Sem.run_bind, run_underlying h2, Result.andThen, e1, htd, Option.map_none, Option.isSome_none, Bool.false_eq_true, if_false, k3]; rfl
    · simp only [litOk] at e2 ⊢
      simp; omega
  · rename_i n xs ht
    split at h
    · rename_i ht'
      split at h
      · rename_i hn
        have hn := Nat.eq_of_beq_eq_true hn
        obtain ⟨inf, td, z, h1, h2, h3, h4, _⟩ := hT.get ht
        obtain ⟨inf', td', z', g1, g2, g3, g4, g5, g6, _⟩ := hT.get ht'
        have htd := TK.sl_inv h4
        obtain ⟨bs, hv, hb⟩ := h5.sh_inv
        have hcap : ∃ a cap, ρ' x = .slice a xs.length cap ∧ xs.length ≤ cap := by
          obtain ⟨a, m, cap, e, rfl, hm, _⟩ := hv.cut (l := 0) (k := 0) (Nat.le_refl _) (Nat.zero_le _)
          exact ⟨a, cap, e, hm⟩
        obtain ⟨a, cap, e, hle⟩ := hcap
        obtain ⟨l, k, k1, k2, rfl, k3⟩ := boundsK_ok (P := P) (w := w) h hc (fun y hy => hρ y (Or.inr hy)) true (cap := cap) hle (by simp) (fun l h => .sh n ((xs.take h).drop l)) (by simp) (fun _ => by simp) (fun _ => by simp) (fun _ _ => rfl)
        obtain ⟨a', m, cap', e', rfl, _, bs', hv', hb'⟩ := hv.cut k1 k2
        rw [e] at e'
        simp only [Value.slice.injEq, true_and] at e'
        obtain ⟨rfl, rfl⟩ := e'
        refine ⟨_, ?_, .rd hv' fun i hi => hb i (hb' i hi)⟩
        simp only [Instr.sliceAt, Instr.slice, Sem.run_bind, run_underlying h2, Result.andThen, e, htd, Option.map_none, k3, run_sizeOf g1, g6, ← hn]; rfl
      · simp at h
    · simp at h
  · simp at h

theorem pop_ok (hT : TabOk P tab) (hE : ∀ (i : Nat) (b : Blk) (e : Ent), heap[i]? = some b → ms[i]? = some e → EntR base ms w Ok b e) (o : Oper) {ρ : Operand → D} {ρ' : Operand → Value} (hρ : ∀ x ∈ o.op.operands, VX ms w Ok (ρ x) (ρ' x))
    {c : Prop} {d : D} (h : pop tab heap ρ o.op = some (c, d)) (hc : c) : ∃ v, (execOp ρ' o).run P w = .ok (.value v) w ∧ VX ms w Ok d v := by
  have fin : ∀ {s : Sem Value} {q : D}, (∃ v, s.run P w = .ok v w ∧ VX ms w Ok q v) → ∃ v, (do pure (.value (← s)) : Sem Next).run P w = .ok (.value v) w ∧ VX ms w Ok q v := by
    rintro s q ⟨v, h1, h2⟩
    exact ⟨v, by simp only [Sem.run_bind, h1, Result.andThen]; rfl, h2⟩
  obtain ⟨dst, op, ty, pos, after, guard⟩ := o
  simp only at h hρ ⊢
  unfold pop at h
  split at h
  · -- move
    rename_i x
    rw [forceK_vx h]
    exact ⟨_, rfl, hρ x (by simp [Op.operands])⟩
  · rename_i x
    rw [forceK_vx h]
    exact ⟨_, rfl, hρ x (by simp [Op.operands])⟩
  · -- pick
    rename_i cc a b
    have h1 := hρ cc (by simp [Op.operands])
    have h2 := hρ a (by simp [Op.operands])
    have h3 := hρ b (by simp [Op.operands])
    simp only [execOp]
    generalize ρ cc = pc at *
    generalize ρ a = pa at *
    generalize ρ b = pb at *
    unfold pickD at h
    split at h
    · rename_i x y z
      simp only [Option.some.injEq, Prod.mk.injEq] at h
      obtain ⟨_, rfl⟩ := h
      obtain ⟨e1, _⟩ := h1.lit_inv
      obtain ⟨e2, _⟩ := h2.lit_inv
      obtain ⟨e3, _⟩ := h3.lit_inv
      simp only [e1, e2, e3, asBool, Sem.run_bind]
      cases x <;> exact ⟨_, rfl, bool_vx⟩
    · rename_i x _
      obtain ⟨e1, _⟩ := h1.lit_inv
      simp only [e1, asBool, Sem.run_bind]
      cases x <;> simp only at h <;> rw [forceK_vx h]
      · exact ⟨_, rfl, h3⟩
      · exact ⟨_, rfl, h2⟩
    · simp at h
  · -- binOp
    rename_i op t x y _
    exact fin (binD_ok hT h hc (hρ x (by simp [Op.operands])) (hρ y (by simp [Op.operands])))
  · -- unOp
    rename_i op _ x
    have h1 := hρ x (by simp [Op.operands])
    simp only [execOp]
    generalize ρ x = px at *
    split at h
    · simp only [Option.some.injEq, Prod.mk.injEq] at h
      obtain ⟨_, rfl⟩ := h
      obtain ⟨e1, _⟩ := h1.lit_inv
      rw [e1]
      exact ⟨_, rfl, bool_vx⟩
    · simp only [Option.some.injEq, Prod.mk.injEq] at h
      obtain ⟨rfl, rfl⟩ := h
      obtain ⟨e1, _⟩ := h1.lit_inv
      rw [e1]
      exact fin ⟨_, by simp only [Op.unary, Op.intArith, Int.zero_sub, wrap_i64 hc]; rfl, int_vx (litOk_i64.2 hc)⟩
    · simp at h
  · -- extract
    rename_i x i
    have h1 := hρ x (by simp [Op.operands])
    simp only [execOp]
    generalize ρ x = px at *
    split at h
    · split at h
      · rename_i hd
        rw [forceK_vx h]
        obtain ⟨us, e1, h2⟩ := h1.tup_inv
        obtain ⟨u, h3, h4⟩ := h2.get hd
        rw [e1]
        exact fin ⟨u, by simp only [Instr.extract, List.getElem?_toArray, h3]; rfl, h4⟩
      · simp at h
    · simp at h
  · -- makeFunc
    rename_i fn first cap
    split at h
    case h_2 => simp at h
    rename_i f hfirst
    have hfirst : first = #[] := Array.toList_eq_nil_iff.1 hfirst
    subst hfirst
    have := mapK_eq h
    simp only [Option.some.injEq, Prod.mk.injEq] at this
    obtain ⟨_, rfl⟩ := this
    refine ⟨.func (.func f) #[] (cap.toList.map ρ').toArray, ?_, .fn ?_⟩
    · simp only [execOp, Instr.makeFunc]
      have : Array.map ρ' cap = (cap.toList.map ρ').toArray := by rw [← Array.toList_map]
      rw [← this, List.map_toArray, List.map_nil]; rfl
    · have hq : ∀ x ∈ cap.toList, VX ms w Ok (ρ x) (ρ' x) := fun x hx => hρ x (by simp [Op.operands]; simpa using hx)
      exact VXs.of_map hq
  · -- fieldAddr
    rename_i s x f
    split at h
    · rename_i fs agg size bytes zero ht
      obtain ⟨inf, td, z, h1, h2, h3, h4, _⟩ := hT.get ht
      obtain ⟨fl, rfl, rfl⟩ := TK.st_inv h4
      split at h
      · rename_i hf
        exact fin (fieldPtr_ok h2 hf (hρ x (by simp [Op.operands])) h)
      · simp at h
    · simp at h
  · -- load
    rename_i t x
    split at h
    · rename_i k agg size bytes zero ht
      obtain ⟨inf, td, z, h1, h2, h3, h4, h5, h6, _⟩ := hT.get ht
      exact fin (load_ok hE h1 h2 h5 h6 (hρ x (by simp [Op.operands])) h)
    · simp at h
  · -- build
    rename_i t parts
    split at h
    · rename_i fs agg size bytes zero ht
      obtain ⟨inf, td, z, h1, h2, h3, h4, h5, h6, h7, h8⟩ := hT.get ht
      obtain ⟨fl, rfl, rfl⟩ := TK.st_inv h4
      split at h
      case h_2 => simp at h
      rename_i hall
      obtain ⟨ds, h9, h10⟩ := constK_ok (ms := ms) (w := w) (Ok := Ok) h
      obtain ⟨vs, h11, h12⟩ := buildK_ok (ρ' := ρ') (fun y hy => hρ y.2 (by simp [Op.operands]; exact ⟨y.1, by simpa using hy⟩)) h9 h10
      refine fin ⟨.agg vs, ?_, h12⟩
      refine run_build w t _ vs ?_
      have hm : fl.toList.mapM (fun f => (P.info? f.type).map fun i => (f.offset, i.size)) = some (fl.toList.map fun f => (f.offset, P.cellsOf f.type)) := by
        refine mapM_some_of_forall _ fun f hf => ?_
        have := (List.all_eq_true.1 hall) (f.offset, P.cellsOf f.type) (List.mem_map.2 ⟨f, hf, rfl⟩)
        unfold Program.cellsOf at this ⊢
        cases hi : P.info? f.type with
        | none => simp [hi] at this
        | some i => simp
      have hz8 : z.cells = zero.toArray := by rw [← h8]
      simp only [Program.built, h1, h2, h3, hm, Array.toList_map, hz8, List.getElem?_toArray]
      exact h11
    · simp at h
  · -- index
    rename_i t x i
    split at h
    · rename_i agg size bytes zero s j ht hx hi
      simp only [Option.some.injEq, Prod.mk.injEq] at h
      obtain ⟨rfl, rfl⟩ := h
      obtain ⟨inf, td, z, h1, h2, h3, h4, _⟩ := hT.get ht
      have htd := TK.str_inv h4
      have h5 := hρ x (by simp [Op.operands])
      have h6 := hρ i (by simp [Op.operands])
      rw [hx] at h5; rw [hi] at h6
      obtain ⟨e1, _⟩ := h5.lit_inv
      obtain ⟨e2, _⟩ := h6.lit_inv
      have hlt : j.toNat < s.size := by omega
      refine fin ⟨.int .u8 (bAt s j), ?_, int_vx (litOk_u8.2 ?_)⟩
      · simp only [Instr.index, e1, e2, asIntOf, Sem.run_bind, Sem.run, pure, Result.andThen, run_underlying h2, htd, if_pos hc.1]
        simp only [bAt, getElem?_pos s j.toNat hlt, Option.getD_some]
        rfl
      · unfold bAt
        have := ((s[j.toNat]?).getD 0).toNat_lt
        omega
    · simp at h
  · -- indexAddr
    rename_i t x i
    unfold idxOwn at h
    split at h
    case h_2 => simp at h
    rename_i k hx
    split at h
    · rename_i el agg size bytes zero j ht hi
      split at h
      · rename_i n xs deep k' agg' size' bytes' zero' hb hel
        split at h
        · rename_i hn
          have hn := Nat.eq_of_beq_eq_true hn
          simp only [Option.some.injEq, Prod.mk.injEq] at h
          obtain ⟨rfl, rfl⟩ := h
          obtain ⟨inf, td, z, h1, h2, h3, h4, _⟩ := hT.get ht
          obtain ⟨inf', td', z', g1, g2, g3, g4, g5, g6, _⟩ := hT.get hel
          have htd := TK.sl_inv h4
          have h5 := hρ x (by simp [Op.operands])
          have h6 := hρ i (by simp [Op.operands])
          rw [hx] at h5; rw [hi] at h6
          obtain ⟨e, he, e1, a, len, cap, hv⟩ := h5.own_inv
          obtain ⟨e2, _⟩ := h6.lit_inv
          obtain ⟨us, bs, o1, o2, o3, o4, _⟩ := hE _ _ _ hb he
          have hne : 0 < xs.length := by omega
          obtain ⟨_, ⟨_, h0⟩ | ⟨g, cap', cur, hv', _⟩⟩ := o1
          · omega
          · refine fin ⟨.pointer (some ⟨g, j.toNat * n + 0, none⟩), ?_, .eptr he (by rw [o4, hv']; rfl)⟩
            simp only [Instr.indexAt, e1, hv', e2, asIntOf, Sem.run_bind, Sem.run, pure, Result.andThen, run_underlying h2, htd]
            have : (0 ≤ j ∧ j < (xs.length : Int)) := hc
            simp only [this, and_self, if_true, Addr.add]
            by_cases e : j.toNat * n = 0 <;> simp [e, run_sizeOf g1, g6, ← hn]
        · simp at h
      · simp at h
    · simp at h
  · -- convert
    rename_i s t x
    split at h
    · rename_i k agg size bytes zero k' agg' size' bytes' zero' k'' n ht ht' hx
      simp only [Option.some.injEq, Prod.mk.injEq] at h
      obtain ⟨rfl, rfl⟩ := h
      obtain ⟨inf, td, z, h1, h2, h3, h4, _⟩ := hT.get ht
      obtain ⟨inf', td', z', g1, g2, g3, g4, _⟩ := hT.get ht'
      have h5 := hρ x (by simp [Op.operands])
      rw [hx] at h5
      obtain ⟨e1, _⟩ := h5.lit_inv
      refine fin ⟨.int k' n, ?_, int_vx hc⟩
      simp only [convert, Sem.run_bind, run_underlying h2, run_underlying g2, Result.andThen, e1, TK.int_inv h4, TK.int_inv g4, Conv.intToInt, hc]; rfl
    · simp at h
  · -- len
    rename_i cl
    obtain ⟨callee, args, argTypes⟩ := cl
    simp only at h
    have mm : ∀ {x y : Operand} {bi : Builtin} {n : Int}, args = #[x, y] → callee = .builtin bi → (∀ cs, (builtin bi argTypes ty cs #[ρ' x, ρ' y]).run P w = .ok (.value (.int .i64 n)) w) → (execOp ρ' ⟨dst, .call ⟨callee, args, argTypes⟩, ty, pos, after, guard⟩).run P w = .ok (.value (.int .i64 n)) w := by
      rintro x y bi n rfl rfl hb
      simp only [execOp, resolve, invoke, Sem.run_bind, Sem.run, pure, Result.andThen, List.map_toArray, List.map_cons, List.map_nil]
      exact hb _
    split at h
    case h_4 => simp at h
    case h_2 =>
      rename_i x y e1
      have e1 : args = #[x, y] := by rw [← Array.toArray_toList (xs := args), e1]
      have h5 := hρ x (by rw [e1]; simp [Op.operands, Call.operands])
      have h6 := hρ y (by rw [e1]; simp [Op.operands, Call.operands])
      generalize hpx : ρ x = px at *
      generalize hpy : ρ y = py at *
      unfold minmaxD at h
      split at h
      · rename_i a b
        simp only [Option.some.injEq, Prod.mk.injEq] at h
        obtain ⟨_, rfl⟩ := h
        obtain ⟨q1, l1⟩ := h5.lit_inv
        obtain ⟨q2, l2⟩ := h6.lit_inv
        refine ⟨.int .i64 (min a b), mm e1 rfl ?_, int_vx ?_⟩
        · intro cs
          rw [q1, q2]
          have : (if b < a then b else a) = min a b := by omega
          rw [← this]; simp [builtin, Builtin.min_, Builtin.min2, Sem.run_bind, Result.andThen]; try rfl
        · have : min a b = a ∨ min a b = b := by omega
          rcases this with e | e <;> rw [e] <;> assumption
      · simp at h
    case h_3 =>
      rename_i x y e1
      have e1 : args = #[x, y] := by rw [← Array.toArray_toList (xs := args), e1]
      have h5 := hρ x (by rw [e1]; simp [Op.operands, Call.operands])
      have h6 := hρ y (by rw [e1]; simp [Op.operands, Call.operands])
      generalize hpx : ρ x = px at *
      generalize hpy : ρ y = py at *
      unfold minmaxD at h
      split at h
      · rename_i a b
        simp only [Option.some.injEq, Prod.mk.injEq] at h
        obtain ⟨_, rfl⟩ := h
        obtain ⟨q1, l1⟩ := h5.lit_inv
        obtain ⟨q2, l2⟩ := h6.lit_inv
        refine ⟨.int .i64 (max a b), mm e1 rfl ?_, int_vx ?_⟩
        · intro cs
          rw [q1, q2]
          have : (if b > a then b else a) = max a b := by omega
          rw [← this]; simp [builtin, Builtin.max_, Builtin.max2, Sem.run_bind, Result.andThen]; try rfl
        · have : max a b = a ∨ max a b = b := by omega
          rcases this with e | e <;> rw [e] <;> assumption
      · simp at h
    rename_i x t e1 e2
    have e1 : args = #[x] := by rw [← Array.toArray_toList (xs := args), e1]
    have e2 : argTypes = #[t] := by rw [← Array.toArray_toList (xs := argTypes), e2]
    subst e1; subst e2
    have h5 := hρ x (by simp [Op.operands, Call.operands])
    have key : ∀ {d : D}, (∃ v, (Builtin.len_ #[t] ty #[ρ' x]).run P w = .ok v w ∧ VX ms w Ok d v) → ∃ v, (execOp ρ' ⟨dst, .call ⟨.builtin .len, #[x], #[t]⟩, ty, pos, after, guard⟩).run P w = .ok (.value v) w ∧ VX ms w Ok d v := by
      rintro d ⟨v, h1, h2⟩
      refine ⟨v, ?_, h2⟩
      simp only [execOp, resolve, invoke, builtin, Sem.run_bind, Sem.run, pure, Result.andThen, List.map_toArray, List.map_cons, List.map_nil, h1]
      try rfl
    unfold lenOp at h
    split at h
    · rename_i agg size bytes zero ht
      obtain ⟨inf, td, z, h1, h2, h3, h4, _⟩ := hT.get ht
      generalize ρ x = px at *
      split at h
      · rename_i s
        simp only [Option.some.injEq, Prod.mk.injEq] at h
        obtain ⟨_, rfl⟩ := h
        obtain ⟨e1, e2⟩ := h5.lit_inv
        refine key ⟨.int .i64 s.size, ?_, int_vx (litOk_i64.2 ⟨by omega, by simp only [litOk] at e2; omega⟩)⟩
        simp [Builtin.len_, Sem.run_bind, run_underlying h2, Result.andThen, e1, TK.str_inv h4, goInt]
      · simp at h
    · rename_i el agg size bytes zero ht
      obtain ⟨inf, td, z, h1, h2, h3, h4, _⟩ := hT.get ht
      generalize ρ x = px at *
      split at h
      · simp at h
      · split at h
        · rename_i n hn
          simp only [Option.some.injEq, Prod.mk.injEq] at h
          obtain ⟨_, rfl⟩ := h
          have hsl : ∃ a m cap, ρ' x = .slice a m cap ∧ (m : Int) = n ∧ n ≤ 9223372036854775807 ∧ 0 ≤ n := by
            unfold lenD at hn
            split at hn <;> (try simp only [Option.some.injEq, reduceCtorEq] at hn)
            · rename_i s hl; exact (hl _ rfl).elim
            · subst hn; exact ⟨none, 0, 0, h5.nil_inv, rfl, by omega, by omega⟩
            · subst hn
              obtain ⟨bs, hr, _⟩ := h5.sh_inv
              generalize ρ' x = u at *
              cases hr with
              | shnil q1 q2 => exact ⟨_, _, _, rfl, by simp, by simp, by simp⟩
              | sh q1 q2 q3 q4 q5 q6 => exact ⟨_, _, _, rfl, by simp, by omega, by omega⟩
            · split at hn
              · rename_i hb
                simp only [Option.some.injEq] at hn
                subst hn
                obtain ⟨e, he, e1, _⟩ := h5.own_inv
                obtain ⟨us, bs, o1, _⟩ := hE _ _ _ hb he
                obtain ⟨_, ⟨hv, h0⟩ | ⟨g, cap', cur, hv', _, _, q1, q2, _⟩⟩ := o1
                · exact ⟨none, 0, 0, by rw [e1, hv], by omega, by omega, by omega⟩
                · unfold maxLen at q2
                  exact ⟨_, _, _, by rw [e1, hv'], rfl, by omega, by omega⟩
              · simp at hn
            · subst hn
              generalize ρ' x = u at *
              cases h5 with
              | rd h _ => cases h
              | old hr _ =>
                cases hr with
                | shnil q1 q2 => exact ⟨_, _, _, rfl, by simp, by simp, by simp⟩
                | sh q1 q2 q3 q4 q5 q6 => exact ⟨_, _, _, rfl, by simp, by omega, by omega⟩
          obtain ⟨a, m, cap, e1, rfl, e3, e4⟩ := hsl
          refine key ⟨.int .i64 m, ?_, int_vx (litOk_i64.2 ⟨by omega, e3⟩)⟩
          simp [Builtin.len_, Sem.run_bind, run_underlying h2, Result.andThen, e1, TK.sl_inv h4, goInt]
        · simp at h
    · simp at h
  · -- slice
    rename_i t x lo hi mx
    have hq : ∀ y, (y = x ∨ lo = some y ∨ hi = some y) → VX ms w Ok (ρ y) (ρ' y) := by
      intro y hy
      refine hρ y ?_
      simp only [Op.operands]
      rcases hy with rfl | hy | hy
      · simp
      · simp [hy]
      · simp [hy]
    have h1 := sliceD_ok hT hq h hc
    exact fin h1
  · simp at h
end
end Go.Proofs.Ytidfmgahnmpcdaa
