/- Symbolic states: judgements of code, of operations, of functions, and their rules. No condition. -/
import Derived.Test.YtidfmgahnmpcdaaAbsF
set_option linter.unusedSimpArgs false
set_option linter.unusedVariables false
namespace Go.Proofs.Ytidfmgahnmpcdaa
open Go.ChangeShapes Go.WideShapes Go.ChangeAt Go.RowKit

/-- From every state that s tells of, the code ends, in a way and a state that Q allows. -/
structure W (P : Program) (w0 : World) (A : Nat → Prop) (c : Code) (s : St) (Q : Exit → St → Prop) : Prop where
  run : ∀ ms a w, Rel w0 A ms s a w → c.wp P (fun e a' w' => ∃ ms' s', Rel w0 A ms' s' a' w' ∧ Q e s') a w
/-- The same of operations, in their order. -/
structure WO (P : Program) (w0 : World) (A : Nat → Prop) (ops : Array Oper) (l : List Oper) (s : St) (K : St → Prop) : Prop where
  run : ∀ ms a w, Rel w0 A ms s a w → ∀ Q : Exit → Act → World → Prop, (∀ ms' s' a' w', Rel w0 A ms' s' a' w' → K s' → Q .normal a' w') → wpList P ops Q l a w
/-- Everything that s tells, s' tells too, or less. -/
def Weak (w0 : World) (A : Nat → Prop) (s s' : St) : Prop := ∀ ms a w, Rel w0 A ms s a w → ∃ ms', Rel w0 A ms' s' a w

inductive seqQ (P : Program) (w0 : World) (A : Nat → Prop) (y : Code) (Q : Exit → St → Prop) : Exit → St → Prop
  | n {s : St} : W P w0 A y s Q → seqQ P w0 A y Q .normal s
  | e {s : St} {id : Nat} : Q (.exit id) s → seqQ P w0 A y Q (.exit id) s
  | r {s : St} : Q .ret s → seqQ P w0 A y Q .ret s
inductive blockQ (id : Nat) (Q : Exit → St → Prop) : Exit → St → Prop
  | n {s : St} : Q .normal s → blockQ id Q .normal s
  | r {s : St} : Q .ret s → blockQ id Q .ret s
  | x {s : St} {id' : Nat} : Nat.beq id' id = true → Q .normal s → blockQ id Q (.exit id') s
  | y {s : St} {id' : Nat} : Nat.beq id' id = false → Q (.exit id') s → blockQ id Q (.exit id') s
inductive loopQ (I : St → Prop) (Q : Exit → St → Prop) : Exit → St → Prop
  | n {s : St} : I s → loopQ I Q .normal s
  | e {s : St} {id : Nat} : Q (.exit id) s → loopQ I Q (.exit id) s
  | r {s : St} : Q .ret s → loopQ I Q .ret s

section
variable {P : Program} {w0 : World} {A : Nat → Prop} {s : St} {Q : Exit → St → Prop}

theorem W_skip (h : Q .normal s) : W P w0 A .skip s Q := ⟨fun ms _ _ hr => wp_skip ⟨ms, s, hr, h⟩⟩
theorem W_ret (h : Q .ret s) : W P w0 A .ret s Q := ⟨fun ms _ _ hr => wp_ret ⟨ms, s, hr, h⟩⟩
theorem W_exit {id : Nat} (h : Q (.exit id) s) : W P w0 A (.exit id) s Q := ⟨fun ms _ _ hr => wp_exit ⟨ms, s, hr, h⟩⟩
theorem W_seq {x y : Code} (h : W P w0 A x s (seqQ P w0 A y Q)) : W P w0 A (.seq x y) s Q := by
  refine ⟨fun ms a w hr => ?_⟩
  refine wp_seq (Code.wp_mono ?_ (h.run ms a w hr))
  rintro e a' w' ⟨ms', s', hr', hq⟩
  cases hq with
  | n h => exact h.run ms' a' w' hr'
  | e h => exact ⟨ms', s', hr', h⟩
  | r h => exact ⟨ms', s', hr', h⟩
theorem W_block {id : Nat} {c : Code} (h : W P w0 A c s (blockQ id Q)) : W P w0 A (.block id c) s Q := by
  refine ⟨fun ms a w hr => ?_⟩
  refine wp_block (Code.wp_mono ?_ (h.run ms a w hr))
  rintro e a' w' ⟨ms', s', hr', hq⟩
  cases hq with
  | n h => exact ⟨ms', s', hr', h⟩
  | r h => exact ⟨ms', s', hr', h⟩
  | x hb h => simp only [Exit.inBlock, if_pos (Nat.eq_of_beq_eq_true hb)]; exact ⟨ms', s', hr', h⟩
  | y hb h => simp only [Exit.inBlock, if_neg (Nat.ne_of_beq_eq_false hb)]; exact ⟨ms', s', hr', h⟩
theorem W_cond {c : Operand} {x y : Code} {b : Bool} (hc : evD s.get c = .lit (.bool b)) (ht : b = true → W P w0 A x s Q) (hf : b = false → W P w0 A y s Q) : W P w0 A (.cond c x y) s Q := by
  refine ⟨fun ms a w hr => ?_⟩
  have h1 : VX ms w (OkB w0.heap.size A ms w) (evD s.get c) (a.eval c) := evD_ok fun t _ => hr.slots t
  rw [hc] at h1
  obtain ⟨e, _⟩ := h1.lit_inv
  cases b
  · exact wp_cond_false e ((hf rfl).run ms a w hr)
  · exact wp_cond_true e ((ht rfl).run ms a w hr)
theorem W_weak {c : Code} {s' : St} (h : Weak w0 A s s') (h' : W P w0 A c s' Q) : W P w0 A c s Q := by
  refine ⟨fun ms a w hr => ?_⟩
  obtain ⟨ms', hr'⟩ := h ms a w hr
  exact h'.run ms' a w hr'

theorem least_exists (p : Nat → Prop) : ∀ n, p n → ∃ m, p m ∧ ∀ k, p k → m ≤ k := by
  intro n
  induction n using Nat.strongRecOn with
  | _ n ih =>
    intro h
    by_cases hh : ∃ k, k < n ∧ p k
    · obtain ⟨k, hk, hp⟩ := hh; exact ih k hk hp
    · exact ⟨n, h, fun k hk => Nat.le_of_not_lt fun hlt => hh ⟨k, hlt, hk⟩⟩
open Classical in
noncomputable def leastOf (p : Nat → Prop) : Nat := if h : ∃ m, p m ∧ ∀ k, p k → m ≤ k then Classical.choose h else 0
theorem leastOf_spec {p : Nat → Prop} {n : Nat} (h : p n) : p (leastOf p) ∧ ∀ k, p k → leastOf p ≤ k := by
  have := least_exists p n h
  unfold leastOf
  rw [dif_pos this]
  exact Classical.choose_spec this

theorem W_loop {ι : Type} (S : ι → St) (C : ι → Prop) (μ : ι → Nat) {c : Code} (i0 : ι) (h0 : C i0) (hs : Weak w0 A s (S i0))
    (round : ∀ i, C i → W P w0 A c (S i) (loopQ (fun s' => ∃ j, C j ∧ μ j < μ i ∧ Weak w0 A s' (S j)) Q)) : W P w0 A (.loop c) s Q := by
  refine ⟨fun ms a w hr => ?_⟩
  obtain ⟨ms0, hr0⟩ := hs ms a w hr
  let p : Act → World → Nat → Prop := fun a w n => ∃ i ms, C i ∧ μ i = n ∧ Rel w0 A ms (S i) a w
  refine wp_loop (fun a w => ∃ n, p a w n) (fun a w => leastOf (p a w)) ⟨_, i0, ms0, h0, rfl, hr0⟩ ?_
  rintro a w ⟨n, hn⟩
  obtain ⟨⟨i, ms, hi, hμ, hr⟩, hmin⟩ := leastOf_spec (p := p a w) hn
  refine Code.wp_mono ?_ ((round i hi).run ms a w hr)
  rintro e a' w' ⟨ms', s', hr', hq⟩
  cases hq with
  | n h =>
    obtain ⟨j, hj, hlt, hw⟩ := h
    obtain ⟨ms'', hr''⟩ := hw ms' a' w' hr'
    have hpj : p a' w' (μ j) := ⟨j, ms'', hj, rfl, hr''⟩
    refine ⟨⟨_, hpj⟩, ?_⟩
    have := (leastOf_spec hpj).2 _ hpj
    show leastOf (p a' w') < leastOf (p a w)
    rw [← hμ]; omega
  | e h => exact ⟨ms', s', hr', h⟩
  | r h => exact ⟨ms', s', hr', h⟩

theorem W_region {id : Nat} {l : List Oper} (h : WO P w0 A l.toArray l s fun s' => Q .normal s') : W P w0 A (.region id l.toArray false) s Q := by
  refine ⟨fun ms a w hr => ?_⟩
  exact wp_region_lit (h.run ms a w hr _ fun ms' s' a' w' hr' hk => ⟨ms', s', hr', hk⟩)

/-! ### Operations -/
variable {ops : Array Oper} {rest : List Oper} {o : Oper} {K : St → Prop}

theorem WO_nil (h : K s) : WO P w0 A ops [] s K := ⟨fun ms a w hr _ hq => wpList_nil (hq ms s a w hr h)⟩

theorem upon_value {a : Act} {w w' : World} {v : Value} {Kn : Act → World → Prop} {Q' : Exit → Act → World → Prop} (h : (execOp a.eval o).run P w = .ok (.value v) w') (hk : Kn (a.put o.dst v) w') : o.wp P a w Kn Q' := by
  unfold Oper.wp; rw [h]; exact hk
theorem upon_skip {a : Act} {w w' : World} {Kn : Act → World → Prop} {Q' : Exit → Act → World → Prop} (h : (execOp a.eval o).run P w = .ok .skip w') (hk : Kn (a.put o.dst undef) w') : o.wp P a w Kn Q' := by
  unfold Oper.wp; rw [h]; exact hk

def dstOk (s : St) (t : Option Tmp) : Bool := t.all fun x => Nat.blt x s.n
theorem dstOk_all {s : St} {t : Option Tmp} (h : dstOk s t = true) : t.all (· < s.n) = true := by
  cases t with
  | none => rfl
  | some x => simpa [dstOk, Nat.blt_eq] using h

theorem Rel.ev {ms : List Ent} {a : Act} {w : World} (hr : Rel w0 A ms s a w) (x : Operand) : VX ms w (OkB w0.heap.size A ms w) (evD s.get x) (a.eval x) := evD_ok fun t _ => hr.slots t
theorem Rel.ev_at {ms : List Ent} {a : Act} {w : World} {x : Operand} {d : D} (hr : Rel w0 A ms s a w) (h : evD s.get x = d) : VX ms w (OkB w0.heap.size A ms w) d (a.eval x) := by rw [← h]; exact hr.ev x

/-- An operation that reckons or reads. -/
theorem WO_pop {tab : Nat → Option TI} (hT : TabOk P tab) {c : Prop} {d : D} (hg : o.guard = none) (h : pop tab s.heap (evD s.get) o.op = some (c, d)) (hd : dstOk s o.dst = true) (hc : c) (hk : WO P w0 A ops rest (s.put o.dst d) K) : WO P w0 A ops (o :: rest) s K := by
  refine ⟨fun ms a w hr Q hq => ?_⟩
  refine wpList_plain hg fun Kn hKn => ?_
  obtain ⟨v, h1, h2⟩ := pop_ok hT hr.ents o (fun x _ => hr.ev x) h hc
  exact upon_value h1 (hKn _ _ (hk.run ms _ w (hr.put h2 (dstOk_all hd)) Q hq))

/-- A slice that is read alone, at an index. -/
def RowAt (xs : List (List D)) (j : Int) (r : List D) : Prop := 0 ≤ j ∧ xs[j.toNat]? = some r

theorem flatten_part {n : Nat} : ∀ {l : List (List D)} {m : Nat}, (∀ y ∈ l, y.length = n) → ∀ {r : List D}, l[m]? = some r → (l.flatten.drop (m * n)).take n = r
  | [], m, _, r, h => by simp at h
  | y :: l, 0, hy, r, h => by
    simp at h; subst h
    simp [← hy y (by simp)]
  | y :: l, m + 1, hy, r, h => by
    simp at h
    have := flatten_part (fun z hz => hy z (List.mem_cons_of_mem _ hz)) h
    have e : (m + 1) * n = y.length + m * n := by rw [hy y (by simp), Nat.add_mul]; omega
    rw [List.flatten_cons, e, ← List.drop_drop, List.drop_left]
    exact this
theorem flatten_len {n : Nat} : ∀ {l : List (List D)}, (∀ y ∈ l, y.length = n) → l.flatten.length = l.length * n
  | [], _ => by simp
  | y :: l, h => by rw [List.flatten_cons, List.length_append, flatten_len fun z hz => h z (List.mem_cons_of_mem _ hz), h y (by simp), List.length_cons, Nat.add_mul]; omega
theorem index_ok {t : TypeId} {x i : Operand} {n : Nat} {xs : List (List D)} {j : Int} {r : List D} {tab : Nat → Option TI} (hT : TabOk P tab) {e : TypeId} {agg : Bool} {size bytes : Nat} {zero : List Value}
    {k' : TK} {agg' : Bool} {bytes' : Nat} {zero' : List Value} (ht : tab t = some ⟨.sl e, agg, size, bytes, zero⟩) (he : tab e = some ⟨k', agg', n, bytes', zero'⟩) (ho : o.op = .indexAddr t x i)
    {ms : List Ent} {w : World} {Ok : Nat → Prop} {ρ' : Operand → Value} (hx : VX ms w Ok (.sh n xs) (ρ' x)) (hi : VX ms w Ok (.lit (.int .i64 j)) (ρ' i)) (hrow : RowAt xs j r) :
    ∃ v, (execOp ρ' o).run P w = .ok (.value v) w ∧ VX ms w Ok (.sptr r) v := by
  obtain ⟨bs, h1, h2⟩ := hx.sh_inv
  obtain ⟨e2, _⟩ := hi.lit_inv
  obtain ⟨inf, td, z, g1, g2, g3, g4, _⟩ := hT.get ht
  obtain ⟨inf', td', z', f1, f2, f3, f4, f5, f6, _⟩ := hT.get he
  have htd := TK.sl_inv g4
  obtain ⟨hj0, hj⟩ := hrow
  have hlt := (List.getElem?_eq_some_iff.1 hj).1
  generalize hu : ρ' x = u at *
  cases h1 with
  | shnil => simp at hlt
  | sh q1 q2 q3 q4 q5 q6 =>
    rename_i b off cap us bs
    have hlen : ∀ y ∈ xs, y.length = n := q1
    obtain ⟨bs', p1, p2⟩ := q5.part (j.toNat * n) n
    rw [flatten_part hlen hj] at p1
    have hlr : r.length = n := hlen r (List.mem_of_getElem? hj)
    refine ⟨.pointer (some ⟨b, off + j.toNat * n, none⟩), ?_, .sptr p1 (h2 b (by simp)) (fun k hk => h2 k (List.mem_cons_of_mem _ (p2 k hk))) ?_⟩
    · simp only [execOp, ho, Instr.indexAt, hu, e2, asIntOf, Sem.run_bind, Sem.run, pure, Result.andThen, run_underlying g2, htd]
      have hjj : (0 ≤ j ∧ j < (xs.length : Int)) := ⟨hj0, by omega⟩
      simp only [hjj, and_self, if_true, Addr.add]
      by_cases e0 : j.toNat * n = 0 <;> simp [e0, run_sizeOf f1, f6]
    · intro m hm
      have hl := p1.len
      have hus := q5.len
      have hmn : m < n := by rw [hl, hlr] at hm; exact hm
      have : j.toNat * n + m < us.length := by
        have hfl := flatten_len hlen
        rw [hus, hfl]
        have := mul_lt_of (m := n) hlt
        omega
      rw [Nat.add_assoc, q6 _ this, List.getElem?_take, if_pos hmn, List.getElem?_drop]

theorem WO_index {tab : Nat → Option TI} (hT : TabOk P tab) {t : TypeId} {x i : Operand} {n : Nat} {xs : List (List D)} {j : Int} {r : List D} {e : TypeId} {agg : Bool} {size bytes : Nat} {zero : List Value}
    {k' : TK} {agg' : Bool} {bytes' : Nat} {zero' : List Value} (hg : o.guard = none) (ho : o.op = .indexAddr t x i) (hx : evD s.get x = .sh n xs) (hi : evD s.get i = .lit (.int .i64 j)) (ht : tab t = some ⟨.sl e, agg, size, bytes, zero⟩) (he : tab e = some ⟨k', agg', n, bytes', zero'⟩)
    (hd : dstOk s o.dst = true) (hrow : RowAt xs j r) (hk : WO P w0 A ops rest (s.put o.dst (.sptr r)) K) : WO P w0 A ops (o :: rest) s K := by
  refine ⟨fun ms a w hr Q hq => ?_⟩
  refine wpList_plain hg fun Kn hKn => ?_
  obtain ⟨v, h1, h2⟩ := index_ok hT ht he ho (hr.ev_at hx) (hr.ev_at hi) hrow
  exact upon_value h1 (hKn _ _ (hk.run ms _ w (hr.put h2 (dstOk_all hd)) Q hq))

/-! ### Guards -/
theorem yielded_of {ops : Array Oper} {a : Act} {j : Nat} {t : Tmp} {b : Bool} (hj : (ops[j]?).bind (·.dst) = some t) (h : a.tmps.getD t undef = .bool b) : yielded ops a.tmps j = some b := by
  unfold yielded
  rw [hj]
  simp only [Option.bind_some]
  cases ht : a.tmps[t]? with
  | none => simp [Array.getD_eq_getD_getElem?, ht, undef] at h
  | some v => simp [Array.getD_eq_getD_getElem?, ht] at h; rw [h]
theorem yielded_no {ops : Array Oper} {a : Act} {j : Nat} {t : Tmp} (hj : (ops[j]?).bind (·.dst) = some t) (h : a.tmps.getD t undef = .tuple #[]) : yielded ops a.tmps j = none := by
  unfold yielded
  rw [hj]
  simp only [Option.bind_some]
  cases ht : a.tmps[t]? with
  | none => rfl
  | some v => simp [Array.getD_eq_getD_getElem?, ht] at h; rw [h]

/-- An operation under a guard that holds: as without it. -/
theorem WO_on {j : Nat} {want b : Bool} {t : Tmp} (hg : o.guard = some (j, want)) (hj : (ops[j]?).bind (·.dst) = some t) (hv : s.get t = .lit (.bool b)) (hb : b = want) (h : WO P w0 A ops ({ o with guard := none } :: rest) s K) : WO P w0 A ops (o :: rest) s K := by
  refine ⟨fun ms a w hr Q hq => ?_⟩
  have hs := hr.slots t
  rw [hv] at hs
  obtain ⟨e, _⟩ := hs.lit_inv
  have hw : Region.wanted o (yielded ops a.tmps) = true := by simp [Region.wanted, hg, yielded_of hj e, hb]
  have hw' : Region.wanted { o with guard := none } (yielded ops a.tmps) = true := rfl
  have := h.run ms a w hr Q hq
  unfold wpList at this ⊢
  rw [if_pos hw]
  rw [if_pos hw'] at this
  exact this
theorem WO_off {j : Nat} {want b : Bool} {t : Tmp} (hg : o.guard = some (j, want)) (hj : (ops[j]?).bind (·.dst) = some t) (hv : s.get t = .lit (.bool b)) (hb : b = !want) (hd : dstOk s o.dst = true) (h : WO P w0 A ops rest (s.put o.dst (.tup [])) K) : WO P w0 A ops (o :: rest) s K := by
  refine ⟨fun ms a w hr Q hq => ?_⟩
  have hs := hr.slots t
  rw [hv] at hs
  obtain ⟨e, _⟩ := hs.lit_inv
  have hw : Region.wanted o (yielded ops a.tmps) = false := by simp [Region.wanted, hg, yielded_of hj e, hb]
  exact wpList_skip hw (h.run ms _ w (hr.put (.tup (us := []) .nil) (dstOk_all hd)) Q hq)
theorem WO_out {j : Nat} {want : Bool} {t : Tmp} (hg : o.guard = some (j, want)) (hj : (ops[j]?).bind (·.dst) = some t) (hv : s.get t = .tup []) (hd : dstOk s o.dst = true) (h : WO P w0 A ops rest (s.put o.dst (.tup [])) K) : WO P w0 A ops (o :: rest) s K := by
  refine ⟨fun ms a w hr Q hq => ?_⟩
  have hs := hr.slots t
  rw [hv] at hs
  obtain ⟨us, e, h2⟩ := hs.tup_inv
  cases h2
  have hw : Region.wanted o (yielded ops a.tmps) = false := by simp [Region.wanted, hg, yielded_no hj e]
  exact wpList_skip hw (h.run ms _ w (hr.put (.tup (us := []) .nil) (dstOk_all hd)) Q hq)

/-! ### The same rules, for states and operations that are written out -/
variable {n : Nat} {sl : List (Nat × D)} {hp : List Blk} {t : Tmp} {op : Op} {ty : TypeId} {pos : String} {after : Array Edge}

theorem R_pop {tab : Nat → Option TI} (hT : TabOk P tab) {c : Prop} {d : D} (h : pop tab hp (evD (look sl)) op = some (c, d)) (hd : Nat.blt t n = true) (hc : c) (hk : WO P w0 A ops rest ⟨n, (t, d) :: sl, hp⟩ K) :
    WO P w0 A ops (⟨some t, op, ty, pos, after, none⟩ :: rest) ⟨n, sl, hp⟩ K := WO_pop hT rfl h hd hc hk
theorem R_index {tab : Nat → Option TI} (hT : TabOk P tab) {t' : TypeId} {x i : Operand} {m : Nat} {xs : List (List D)} {j : Int} {r : List D} {e : TypeId} {agg : Bool} {size bytes : Nat} {zero : List Value}
    {k' : TK} {agg' : Bool} {bytes' : Nat} {zero' : List Value} (hx : evD (look sl) x = .sh m xs) (hi : evD (look sl) i = .lit (.int .i64 j)) (ht : tab t' = some ⟨.sl e, agg, size, bytes, zero⟩) (he : tab e = some ⟨k', agg', m, bytes', zero'⟩)
    (hd : Nat.blt t n = true) (hrow : RowAt xs j r) (hk : WO P w0 A ops rest ⟨n, (t, .sptr r) :: sl, hp⟩ K) : WO P w0 A ops (⟨some t, .indexAddr t' x i, ty, pos, after, none⟩ :: rest) ⟨n, sl, hp⟩ K :=
  WO_index hT rfl rfl hx hi ht he hd hrow hk
/-- A guard: both ways. -/
theorem R_guardT {j : Nat} {b : Bool} {u : Tmp} (hj : (ops[j]?).bind (·.dst) = some u) (hv : look sl u = .lit (.bool b)) (hd : Nat.blt t n = true)
    (ht : b = true → WO P w0 A ops (⟨some t, op, ty, pos, after, none⟩ :: rest) ⟨n, sl, hp⟩ K) (hf : b = false → WO P w0 A ops rest ⟨n, (t, .tup []) :: sl, hp⟩ K) : WO P w0 A ops (⟨some t, op, ty, pos, after, some (j, true)⟩ :: rest) ⟨n, sl, hp⟩ K := by
  cases b
  · exact WO_off rfl hj hv rfl hd (hf rfl)
  · exact WO_on rfl hj hv rfl (ht rfl)
theorem R_guardF {j : Nat} {b : Bool} {u : Tmp} (hj : (ops[j]?).bind (·.dst) = some u) (hv : look sl u = .lit (.bool b)) (hd : Nat.blt t n = true)
    (ht : b = false → WO P w0 A ops (⟨some t, op, ty, pos, after, none⟩ :: rest) ⟨n, sl, hp⟩ K) (hf : b = true → WO P w0 A ops rest ⟨n, (t, .tup []) :: sl, hp⟩ K) : WO P w0 A ops (⟨some t, op, ty, pos, after, some (j, false)⟩ :: rest) ⟨n, sl, hp⟩ K := by
  cases b
  · exact WO_on rfl hj hv rfl (ht rfl)
  · exact WO_off rfl hj hv rfl hd (hf rfl)
theorem R_on {dst : Option Tmp} {j : Nat} {want b : Bool} {u : Tmp} (hj : (ops[j]?).bind (·.dst) = some u) (hv : look sl u = .lit (.bool b)) (hb : b = want) (h : WO P w0 A ops (⟨dst, op, ty, pos, after, none⟩ :: rest) ⟨n, sl, hp⟩ K) :
    WO P w0 A ops (⟨dst, op, ty, pos, after, some (j, want)⟩ :: rest) ⟨n, sl, hp⟩ K := WO_on rfl hj hv hb h
theorem R_off {j : Nat} {want b : Bool} {u : Tmp} (hj : (ops[j]?).bind (·.dst) = some u) (hv : look sl u = .lit (.bool b)) (hb : b = !want) (hd : Nat.blt t n = true) (h : WO P w0 A ops rest ⟨n, (t, .tup []) :: sl, hp⟩ K) :
    WO P w0 A ops (⟨some t, op, ty, pos, after, some (j, want)⟩ :: rest) ⟨n, sl, hp⟩ K := WO_off rfl hj hv hb hd h
theorem R_out {j : Nat} {want : Bool} {u : Tmp} (hj : (ops[j]?).bind (·.dst) = some u) (hv : look sl u = .tup []) (hd : Nat.blt t n = true) (h : WO P w0 A ops rest ⟨n, (t, .tup []) :: sl, hp⟩ K) :
    WO P w0 A ops (⟨some t, op, ty, pos, after, some (j, want)⟩ :: rest) ⟨n, sl, hp⟩ K := WO_out rfl hj hv hd h
theorem R_cond {c : Operand} {x y : Code} {b : Bool} (hc : evD (look sl) c = .lit (.bool b)) (ht : b = true → W P w0 A x ⟨n, sl, hp⟩ Q) (hf : b = false → W P w0 A y ⟨n, sl, hp⟩ Q) : W P w0 A (.cond c x y) ⟨n, sl, hp⟩ Q := W_cond hc ht hf
theorem R_condT {c : Operand} {x y : Code} {b : Bool} (hc : evD (look sl) c = .lit (.bool b)) (hb : b = true) (ht : W P w0 A x ⟨n, sl, hp⟩ Q) : W P w0 A (.cond c x y) ⟨n, sl, hp⟩ Q := W_cond hc (fun _ => ht) fun h => by rw [hb] at h; exact Bool.noConfusion h
theorem R_condF {c : Operand} {x y : Code} {b : Bool} (hc : evD (look sl) c = .lit (.bool b)) (hb : b = false) (ht : W P w0 A y ⟨n, sl, hp⟩ Q) : W P w0 A (.cond c x y) ⟨n, sl, hp⟩ Q := W_cond hc (fun h => by rw [hb] at h; exact Bool.noConfusion h) fun _ => ht
end
end Go.Proofs.Ytidfmgahnmpcdaa
