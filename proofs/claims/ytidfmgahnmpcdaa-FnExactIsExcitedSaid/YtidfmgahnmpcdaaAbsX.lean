/- Symbolic states: states agreed on in the middle, entries renumbered; memory that a statement tells of; arrays of arrays that grow in place. No condition. -/
import Derived.Test.YtidfmgahnmpcdaaAbsW
set_option linter.unusedSimpArgs false
set_option linter.unusedVariables false
namespace Go.Proofs.Ytidfmgahnmpcdaa
open Go.ChangeShapes Go.WideShapes Go.ChangeAt Go.RowKit

inductive midQ (w0 : World) (A : Nat → Prop) (S : St) (Q : Exit → St → Prop) : Exit → St → Prop
  | n {s : St} : Weak w0 A s S → midQ w0 A S Q .normal s
  | e {s : St} {id : Nat} : Q (.exit id) s → midQ w0 A S Q (.exit id) s
  | r {s : St} : Q .ret s → midQ w0 A S Q .ret s
section
variable {P : Program} {w0 w w' : World} {A : Nat → Prop} {s : St} {Q : Exit → St → Prop} {ms : List Ent} {a : Act}
/-- A state agreed on between two pieces. -/
theorem W_mid (S : St) {x y : Code} (h1 : W P w0 A x s (midQ w0 A S Q)) (h2 : W P w0 A y S Q) : W P w0 A (.seq x y) s Q := by
  refine ⟨fun ms a w hr => ?_⟩
  refine wp_seq (Code.wp_mono ?_ (h1.run ms a w hr))
  rintro e a' w' ⟨ms', s', hr', hq⟩
  cases hq with
  | n h => obtain ⟨ms'', hr''⟩ := h ms' a' w' hr'; exact h2.run ms'' a' w' hr''
  | e h => exact ⟨ms', s', hr', h⟩
  | r h => exact ⟨ms', s', hr', h⟩

theorem W_midS (S : St) {x y : Code} (h1 : W P w0 A x s (midQ w0 A S Q)) (h2 : W P w0 A y S Q) : W P w0 A x s (seqQ P w0 A y Q) := by
  refine ⟨fun ms a w hr => Code.wp_mono ?_ (h1.run ms a w hr)⟩
  rintro e a' w' ⟨ms', s', hr', hq⟩
  cases hq with
  | n h => obtain ⟨ms'', hr''⟩ := h ms' a' w' hr'; exact ⟨ms'', S, hr'', .n h2⟩
  | e h => exact ⟨ms', s', hr', .e h⟩
  | r h => exact ⟨ms', s', hr', .r h⟩

/-! ### Entries renumbered -/
def renD (js : List (Option Nat)) : D → D → Prop
  | .own i, d => match d with | .own k => js[k]? = some (some i) | _ => False
  | d, d' => d = d' ∧ d.plain = true
def renS (s : St) (js : List (Option Nat)) : List (Nat × D) → Prop
  | [] => True
  | (t, d') :: l => renD js (s.get t) d' ∧ renS s js l
def renB : Blk → Bool
  | .cells _ ds => D.plainL ds
  | .arr _ _ _ dp => dp
  | .gone => true
  | .fr _ _ => true
  | .cust _ => true
def renH (hp : List Blk) : List (Option Nat) → List Blk → Prop
  | [], l => l = []
  | j :: js, l => match j, l with
    | some i, b :: l' => hp[i]? = some b ∧ renB b = true ∧ renH hp js l'
    | _, _ => False
theorem renH_get {hp : List Blk} : ∀ {js : List (Option Nat)} {l : List Blk}, renH hp js l → js.length = l.length ∧ ∀ {k : Nat} {b : Blk}, l[k]? = some b → ∃ i, js[k]? = some (some i) ∧ hp[i]? = some b ∧ renB b = true
  | [], l, h => by simp only [renH] at h; subst h; exact ⟨rfl, fun h => by simp at h⟩
  | none :: js, l, h => by simp [renH] at h
  | some i :: js, [], h => by simp [renH] at h
  | some i :: js, b :: l, h => by
    simp only [renH] at h
    obtain ⟨h1, h2, h3⟩ := h
    obtain ⟨g1, g2⟩ := renH_get h3
    refine ⟨by simp [g1], fun {k b'} hk => ?_⟩
    cases k with
    | zero => simp at hk; subst hk; exact ⟨i, by simp, h1, h2⟩
    | succ k => obtain ⟨i', p1, p2⟩ := g2 (by simpa using hk); exact ⟨i', by simpa using p1, p2⟩
theorem renS_look {js : List (Option Nat)} : ∀ {l : List (Nat × D)} (t : Nat), renS s js l → look l t = .no ∨ renD js (s.get t) (look l t)
  | [], _, _ => Or.inl rfl
  | (t', d) :: l, t, h => by
    simp only [look]
    split
    · rename_i e; subst e; exact Or.inr h.1
    · exact renS_look t h.2
theorem Weak_ren {s' : St} (js : List (Option Nat)) (hnd : nodupN (js.filterMap id) = true) (hn : s'.n = s.n) (hh : renH s.heap js s'.heap) (hs : renS s js s'.slots) : Weak w0 A s s' := by
  intro ms a w hr
  obtain ⟨hl, hget⟩ := renH_get hh
  have hnd := nodupN_iff hnd
  have hk : ∀ k, OkB w0.heap.size A ms w k → w.heap[k]? = w.heap[k]? ∧ OkB w0.heap.size A (js.map (pickE ms)) w k := fun k h => ⟨rfl, pick_ok h⟩
  refine ⟨js.map (pickE ms), hr.ext, hr.old, by rw [hn]; exact hr.size, hr.defers, by simp [hl], pick_nodup hr.nodup hnd, ?_, ?_, ?_⟩
  · intro k hk
    obtain ⟨i, e, _, h2, h3⟩ := mem_pick hk
    exact hr.range k (ent_owned h2 h3)
  · intro k b e hb he
    obtain ⟨i, h1, h2, h3⟩ := hget hb
    rw [List.getElem?_map, h1] at he
    have hlt : i < ms.length := by rw [hr.len]; exact (List.getElem?_eq_some_iff.1 h2).1
    have hi : ms[i]? = some ms[i] := List.getElem?_eq_getElem hlt
    simp only [Option.map_some, pickE, hi, Option.getD_some, Option.some.injEq] at he
    subst he
    refine (hr.ents i b _ h2 hi).mono hk (fun _ _ => rfl) (fun _ _ => rfl) fun j e hu _ => ?_
    cases b with
    | cells t ds =>
      have := D.plainL_uses j h3
      simp only [Blk.uses] at hu
      rw [this] at hu; exact Bool.noConfusion hu
    | _ => simp [Blk.uses] at hu
  · intro t
    rcases renS_look t hs with h | h
    · rw [St.get, h]; exact .no
    · have hv := hr.slots t
      simp only [St.get] at h hv ⊢
      generalize look s.slots t = d at *
      generalize look s'.slots t = d' at *
      cases d with
      | own i =>
        cases d' with
        | own k =>
          simp only [renD] at h
          obtain ⟨e, h1, e1, h2⟩ := hv.own_inv
          rw [e1]
          refine .own ?_ h2
          rw [List.getElem?_map, h]
          simp [pickE, h1]
        | _ => simp [renD] at h
      | _ =>
        simp only [renD] at h
        obtain ⟨rfl, hp⟩ := h
        exact VX.mono hk hv fun i e hu _ => by rw [D.plain_uses i hp] at hu; exact Bool.noConfusion hu

/-! ### Memory that a statement tells of -/
variable {n : Nat} {sl : List (Nat × D)} {hp : List Blk}
def keepI (i j : Nat) : Bool := !Nat.beq j i
def ownI (i : Nat) (_ : Nat) : D := .own i
/-- The blocks of one entry turn; the entry tells anew. -/
theorem Rel.recust (hr : Rel w0 A ms ⟨n, sl, hp⟩ a w) {i : Nat} {e e' : Ent} {R : World → Value → Option Nat → List Nat → Prop} (hi : ms[i]? = some e) (hev : e'.v = e.v) (hsl : ∃ a n c, e.v = .slice a n c)
    (hkp : ∀ (j : Nat) (b : Blk), j ≠ i → hp[j]? = some b → renB b = true ∨ ∃ t ds, b = .cells t ds)
    (hos : w'.os = w.os) (htape : w'.tape = w.tape) (hout : w'.output = w.output) (hsz : w.heap.size ≤ w'.heap.size) (hblk : ∀ k, k < w.heap.size → k ∉ e.top.toList ++ e.nest → w'.heap[k]? = w.heap[k]?)
    (hsub : ∀ k ∈ e'.top.toList ++ e'.nest, k < w'.heap.size ∧ (k ∈ e.top.toList ++ e.nest ∨ w.heap.size ≤ k)) (hnd : (e'.top.toList ++ e'.nest).Nodup)
    (hR : R w' e'.v e'.top e'.nest) (hF : ∀ w2 : World, (∀ k ∈ e'.top.toList ++ e'.nest, w2.heap[k]? = w'.heap[k]?) → R w2 e'.v e'.top e'.nest) :
    Rel w0 A (ms.set i e') ⟨n, survS (keepI i) (ownI i) sl, (survH (keepI i) (ownI i) 0 hp).set i (.cust R)⟩ a w' := by
  have hlen := hr.len
  simp only at hlen
  have hb := hr.ext.size
  have hilt : i < ms.length := (List.getElem?_eq_some_iff.1 hi).1
  have hm : ∀ (j : Nat) (x : Ent), keepI i j = true → ms[j]? = some x → (ms.set i e')[j]? = some x := by
    intro j x hk hj
    have : i ≠ j := by rintro rfl; simp [keepI] at hk
    rw [List.getElem?_set_ne this]; exact hj
  have hrp : ∀ (j : Nat) (x : Ent), keepI i j = false → ms[j]? = some x → VX (ms.set i e') w' (OkB w0.heap.size A (ms.set i e') w') (ownI i j) x.v := by
    intro j x hk hj
    have : j = i := by simpa [keepI] using hk
    subst this
    rw [hi] at hj; cases hj
    rw [← hev]
    exact .own (by rw [List.getElem?_set_self hilt]) (by rw [hev]; exact hsl)
  have hget : ∀ (j : Nat) (x : Ent), (ms.set i e')[j]? = some x → (j = i ∧ x = e') ∨ (j ≠ i ∧ ms[j]? = some x) := by
    intro j x hj
    by_cases hji : j = i
    · subst hji; rw [List.getElem?_set_self hilt] at hj; cases hj; exact Or.inl ⟨rfl, rfl⟩
    · rw [List.getElem?_set_ne (Ne.symm hji)] at hj; exact Or.inr ⟨hji, hj⟩
  have hkeep : ∀ (j : Nat) (x : Ent) (k : Nat), j ≠ i → ms[j]? = some x → k ∈ x.top.toList ++ x.nest → w'.heap[k]? = w.heap[k]? :=
    fun j x k hji hj hk => hblk k (hr.range k (ent_owned hj hk)).2 fun h => owned_disjoint hr.nodup hji hj hi hk h
  refine ⟨⟨hos.trans hr.ext.os, htape.trans hr.ext.tape, hout.trans hr.ext.output, Nat.le_trans hb hsz, fun k hk => ?_⟩, hr.old, hr.size, hr.defers, by simp [survH_len, hlen], ?_, ?_, ?_, ?_⟩
  · have h1 := hr.ext.heap hk
    rw [hblk k (Nat.lt_of_lt_of_le hk hb) fun h => by have := (hr.range k (ent_owned hi h)).1; omega]; exact h1
  · refine owned_nodup_of ?_ ?_
    · intro j x hj
      rcases hget j x hj with ⟨rfl, rfl⟩ | ⟨_, h⟩
      · exact hnd
      · exact owned_self hr.nodup h
    · intro j j' x x' k hne hj hj' hk hk'
      rcases hget j x hj with ⟨rfl, rfl⟩ | ⟨h1, h2⟩ <;> rcases hget j' x' hj' with ⟨rfl, rfl⟩ | ⟨h3, h4⟩
      · exact hne rfl
      · rcases (hsub k hk).2 with h | h
        · exact owned_disjoint hr.nodup (Ne.symm h3) hi h4 h hk'
        · have := (hr.range k (ent_owned h4 hk')).2; omega
      · rcases (hsub k hk').2 with h | h
        · exact owned_disjoint hr.nodup h1 h2 hi hk h
        · have := (hr.range k (ent_owned h2 hk)).2; omega
      · exact owned_disjoint hr.nodup hne h2 h4 hk hk'
  · intro k hk
    obtain ⟨j, x, hj, hx⟩ := mem_owned hk
    rcases hget j x hj with ⟨rfl, rfl⟩ | ⟨h1, h2⟩
    · obtain ⟨h3, h4⟩ := hsub k hx
      refine ⟨?_, h3⟩
      rcases h4 with h4 | h4
      · exact (hr.range k (ent_owned hi h4)).1
      · omega
    · have := hr.range k (ent_owned h2 hx); exact ⟨this.1, by omega⟩
  · intro j b x hbj hj
    rcases hget j x hj with ⟨rfl, rfl⟩ | ⟨h1, h2⟩
    · simp only at hbj
      rw [List.getElem?_set_self (by rw [survH_len, ← hlen]; exact hilt)] at hbj
      cases hbj
      exact ⟨hR, hF⟩
    · simp only at hbj
      rw [List.getElem?_set_ne (Ne.symm h1), survH_get, Nat.zero_add] at hbj
      cases hb0 : hp[j]? with
      | none => rw [hb0] at hbj; simp at hbj
      | some b0 =>
        rw [hb0] at hbj
        have hkj : keepI i j = true := by
          unfold keepI
          cases h : Nat.beq j i
          · rfl
          · exact absurd (Nat.eq_of_beq_eq_true h) h1
        simp only [Option.map_some, hkj, Option.some.injEq] at hbj
        have hE := hr.ents j b0 x hb0 h2
        have hk1 := hkeep j x
        cases b0 with
        | gone => subst hbj; exact hE
        | cells t ds =>
          subst hbj
          obtain ⟨g, us, rfl, h3, h4⟩ := hE
          exact ⟨g, us, rfl, by rw [hk1 g h1 h2 (by simp)]; exact h3, VXs.surv hm hrp h4⟩
        | fr m xs =>
          subst hbj
          have hk' := fun k (hk' : k ∈ x.nest) => hk1 k h1 h2 (List.mem_append_right _ hk')
          exact ⟨hE.1, hE.2.1.keep hk', fun k hkn => (hE.2.2 k hkn).keep (hk' k hkn)⟩
        | cust R' =>
          subst hbj
          exact ⟨hE.2 w' fun k hk' => hk1 k h1 h2 hk', fun w2 g2 => hE.2 w2 fun k hk' => (g2 k hk').trans (hk1 k h1 h2 hk')⟩
        | arr t m xs dp =>
          have hdp : dp = true := by
            rcases hkp j _ h1 hb0 with h | ⟨_, _, h⟩
            · exact h
            · cases h
          subst hdp
          subst hbj
          obtain ⟨us, bs', g1, g2, g3, g4, g5⟩ := hE
          exact ⟨us, bs', ownsRow_keep g1 (fun k hk' => hk1 k h1 h2 (by rw [g4]; simp [hk'])), g2, g3.keep fun k hk' => hk1 k h1 h2 (List.mem_append_right _ (by rw [g5.1]; exact hk')), g4, g5.1, fun k hk' => (g5.2 k hk').keep (hk1 k h1 h2 (List.mem_append_right _ (by rw [g5.1]; exact hk')))⟩
  · intro t
    simp only [St.get]
    rw [look_survS]
    exact VX.surv hm hrp (hr.slots t)

/-! ### Arrays of arrays, grown in place -/
/-- An array of the call's own whose elements are scalars. -/
def Inner (w : World) (t : TypeId) (m : Nat) (u : Value) (xs : List (List D)) : Prop := ∃ us, w.ownsRow 0 t m u xs.length us ∧ (∀ r ∈ xs, r.length = m ∧ ∀ d ∈ r, isLit d = true) ∧ VRs w xs.flatten us []
/-- The array's cells hold vs; the arrays vs' hold the rows. -/
def MatR (T t : TypeId) (m : Nat) (vs vs' : List Value) (rows : List (List (List D))) (w : World) (v : Value) (top : Option Nat) (nest : List Nat) : Prop :=
  w.ownsRow 0 T 1 v vs.length vs ∧ top = v.ownBlock ∧ vs'.length = vs.length ∧ rows.length = vs.length ∧ nest = vs'.flatMap (fun u => u.ownBlock.toList) ∧ ∀ j, j < vs.length → Inner w t m (nth vs' j) (nth rows j)
theorem VRs.lits_keep : ∀ {ds : List D} {us : List Value} {bs : List Nat}, (∀ d ∈ ds, isLit d = true) → VRs w ds us bs → VRs w' ds us []
  | _, _, _, _, .nil => .nil
  | d :: ds, _, _, h, .cons h1 h2 => by
    have hd := h d (by simp)
    cases d <;> simp [isLit] at hd
    cases h1 with
    | lit h1 => exact VRs.cons (bs := []) (.lit h1) (VRs.lits_keep (fun d hd => h d (List.mem_cons_of_mem _ hd)) h2)
theorem Inner.keep {t : TypeId} {m : Nat} {u : Value} {xs : List (List D)} (h : Inner w t m u xs) (hk : ∀ k, u.ownBlock = some k → w'.heap[k]? = w.heap[k]?) : Inner w' t m u xs := by
  obtain ⟨us, h1, h2, h3⟩ := h
  exact ⟨us, ownsRow_keep h1 hk, h2, VRs.lits_keep (fun d hd => by obtain ⟨r, hr, hd⟩ := List.mem_flatten.1 hd; exact (h2 r hr).2 d hd) h3⟩
theorem mem_nest {vs : List Value} {j k : Nat} (hj : j < vs.length) (h : (nth vs j).ownBlock = some k) : k ∈ vs.flatMap (fun u => u.ownBlock.toList) := by
  rw [List.mem_flatMap]; exact ⟨_, nth_mem hj, by simp [h]⟩
theorem MatR.keep {T t : TypeId} {m : Nat} {vs vs' : List Value} {rows : List (List (List D))} {v : Value} {top : Option Nat} {nest : List Nat} (h : MatR T t m vs vs' rows w v top nest) (hk : ∀ k ∈ top.toList ++ nest, w'.heap[k]? = w.heap[k]?) : MatR T t m vs vs' rows w' v top nest := by
  obtain ⟨h1, h2, h3, h4, h5, h6⟩ := h
  refine ⟨ownsRow_keep h1 fun k hk' => hk k (by rw [h2, hk']; simp), h2, h3, h4, h5, fun j hj => (h6 j hj).keep fun k hk' => hk k (List.mem_append_right _ ?_)⟩
  rw [h5]; exact mem_nest (by omega) hk'
end

section
variable {P : Program} {w0 w w' : World} {A : Nat → Prop} {ms : List Ent} {a : Act} {n : Nat} {sl : List (Nat × D)} {hp : List Blk} {ops : Array Oper} {rest : List Oper} {K : St → Prop} {x y : Operand} {dst : Tmp} {ty : TypeId} {pos : String} {after : Array Edge}
variable {tab : Nat → Option TI}

/-- The address of a row. -/
theorem R_matAddr (hT : TabOk P tab) (i : Nat) {T t tt : TypeId} {m : Nat} {j : Int} {vs vs' : List Value} {rows : List (List (List D))} {agg : Bool} {size bytes : Nat} {zero : List Value} {k' : TK} {agg' : Bool} {bytes' : Nat} {zero' : List Value}
    (hx : evD (look sl) x = .own i) (hy : evD (look sl) y = .lit (.int .i64 j)) (hb : hp[i]? = some (.cust (MatR T t m vs vs' rows))) (ht : tab tt = some ⟨.sl T, agg, size, bytes, zero⟩) (hT' : tab T = some ⟨k', agg', 1, bytes', zero'⟩) (hd : Nat.blt dst n = true) (hj : 0 ≤ j ∧ j < vs.length)
    (hk : WO P w0 A ops rest ⟨n, (dst, .eptr i 1 j 0) :: sl, hp⟩ K) : WO P w0 A ops (⟨some dst, .indexAddr tt x y, ty, pos, after, none⟩ :: rest) ⟨n, sl, hp⟩ K := by
  refine ⟨fun ms a w hr Q hq => ?_⟩
  refine wpList_plain rfl fun Kn hKn => ?_
  obtain ⟨e, he, e1, aa, len, cap, hv⟩ := (hr.ev_at hx).own_inv
  obtain ⟨e2, _⟩ := (hr.ev_at hy).lit_inv
  obtain ⟨inf, td, z, h1, h2, h3, h4, _⟩ := hT.get ht
  obtain ⟨inf', td', z', g1, g2, g3, g4, g5, g6, _⟩ := hT.get hT'
  have htd := TK.sl_inv h4
  obtain ⟨⟨o1, htop, _⟩, _⟩ := hr.ents i _ e hb he
  obtain ⟨_, ⟨_, h0⟩ | ⟨g, cap', cur, hv', _⟩⟩ := o1
  · omega
  · have hrun : (execOp a.eval ⟨some dst, .indexAddr tt x y, ty, pos, after, none⟩).run P w = .ok (.value (.pointer (some ⟨g, j.toNat * 1 + 0, none⟩))) w := by
      have : (Instr.indexAt tt (a.eval x) (a.eval y)).run P w = .ok (.pointer (some ⟨g, j.toNat * 1 + 0, none⟩)) w := by
        simp only [Instr.indexAt, e1, hv', e2, asIntOf, Sem.run_bind, Sem.run, pure, Result.andThen, run_underlying h2, htd]
        have : (0 ≤ j ∧ j < (vs.length : Int)) := hj
        simp only [this, and_self, if_true, Addr.add]
        by_cases e : j.toNat = 0 <;> simp [e, run_sizeOf g1, g6]
      simp only [execOp, Sem.run_bind, this, Result.andThen]; rfl
    exact upon_value hrun (hKn _ _ (hk.run ms _ w (Rel.put (t := some dst) hr (.eptr he (by rw [htop, hv']; rfl)) (dstOk_all (s := ⟨n, _, _⟩) (t := some dst) hd)) Q hq))

theorem mat_load (hT : TabOk P tab) (hr : Rel w0 A ms ⟨n, sl, hp⟩ a w) {i : Nat} {T t : TypeId} {m : Nat} {j : Int} {vs vs' : List Value} {rows : List (List (List D))} {size bytes : Nat} {zero : List Value} {k' : TK}
    (hx : evD (look sl) x = .eptr i 1 j 0) (hb : hp[i]? = some (.cust (MatR T t m vs vs' rows))) (ht : tab T = some ⟨k', false, size, bytes, zero⟩) (hj : 0 ≤ j ∧ j < vs.length) : ∃ e, ms[i]? = some e ∧ MatR T t m vs vs' rows w e.v e.top e.nest ∧ (execOp a.eval ⟨some dst, .load T x, ty, pos, after, none⟩).run P w = .ok (.value (nth vs j.toNat)) w := by
  obtain ⟨e, b, he, htop, e1⟩ := (hr.ev_at hx).eptr_inv
  obtain ⟨inf, td, z, h1, h2, h3, h4, h5, h6, _⟩ := hT.get ht
  have hE := hr.ents i _ e hb he
  refine ⟨e, he, hE.1, ?_⟩
  obtain ⟨⟨o1, ot, _⟩, _⟩ := hE
  obtain ⟨_, ⟨_, h0⟩ | ⟨g, cap', cur, hv', _, hh, c1, c2, c3, c4⟩⟩ := o1
  · omega
  · rw [ot, hv'] at htop
    simp only [Value.ownBlock, Option.some.injEq] at htop
    subst htop
    have hc : w.cell? ⟨g, j.toNat * 1 + 0, none⟩ = some (nth vs j.toNat) := by
      have hlt : j.toNat < vs.length := by omega
      have h7 : (cur.toList.take (vs.length * 1))[j.toNat]? = vs[j.toNat]? := by rw [c4]
      rw [List.getElem?_take, if_pos (by omega), Array.getElem?_toList] at h7
      simp only [World.cell?, hh, Nat.mul_one, Nat.add_zero]
      rw [nth_get hlt, ← List.getElem?_eq_getElem hlt, ← h7]
      simp
    have hld : (loadVar T ⟨g, j.toNat * 1 + 0, none⟩).run P w = .ok (nth vs j.toNat) w := by
      unfold loadVar
      simp only [Sem.run_bind, run_isAgg h2, Result.andThen, ← h5]
      simp only [Bool.false_eq_true, if_false, Go.load, Sem.run, hc]
    have hld2 : (Instr.loadAt T (.pointer (some ⟨g, j.toNat * 1 + 0, none⟩))).run P w = .ok (nth vs j.toNat) w := by
      simp only [Instr.loadAt, Instr.sureAddr, Sem.run_bind, Sem.run, Result.andThen, pure]; exact hld
    simp only [execOp, e1, Sem.run_bind, hld2, Result.andThen]; rfl
theorem R_matLoad (hT : TabOk P tab) (i : Nat) {T t : TypeId} {m : Nat} {j : Int} {vs vs' : List Value} {rows : List (List (List D))} {size bytes : Nat} {zero : List Value} {k' : TK}
    (hx : evD (look sl) x = .eptr i 1 j 0) (hb : hp[i]? = some (.cust (MatR T t m vs vs' rows))) (ht : tab T = some ⟨k', false, size, bytes, zero⟩) (hd : Nat.blt dst n = true) (hj : 0 ≤ j ∧ j < vs.length)
    (hk : WO P w0 A ops rest ⟨n, (dst, .val (nth vs j.toNat)) :: sl, hp⟩ K) : WO P w0 A ops (⟨some dst, .load T x, ty, pos, after, none⟩ :: rest) ⟨n, sl, hp⟩ K := by
  refine ⟨fun ms a w hr Q hq => ?_⟩
  refine wpList_plain rfl fun Kn hKn => ?_
  obtain ⟨e, _, _, hrun⟩ := mat_load (dst := dst) (ty := ty) (pos := pos) (after := after) hT hr hx hb ht hj
  exact upon_value hrun (hKn _ _ (hk.run ms _ w (Rel.put (t := some dst) hr .val (dstOk_all (s := ⟨n, _, _⟩) (t := some dst) hd)) Q hq))
/-- A row, read. -/
theorem R_matRead (hT : TabOk P tab) (i : Nat) {T t : TypeId} {m : Nat} {j : Int} {vs : List Value} {rows : List (List (List D))} {size bytes : Nat} {zero : List Value} {k' : TK}
    (hx : evD (look sl) x = .eptr i 1 j 0) (hb : hp[i]? = some (.cust (MatR T t m vs vs rows))) (ht : tab T = some ⟨k', false, size, bytes, zero⟩) (hd : Nat.blt dst n = true) (hj : 0 ≤ j ∧ j < vs.length)
    (hk : WO P w0 A ops rest ⟨n, (dst, .sh m (nth rows j.toNat)) :: sl, hp⟩ K) : WO P w0 A ops (⟨some dst, .load T x, ty, pos, after, none⟩ :: rest) ⟨n, sl, hp⟩ K := by
  refine ⟨fun ms a w hr Q hq => ?_⟩
  refine wpList_plain rfl fun Kn hKn => ?_
  obtain ⟨e, he, ⟨o1, o2, o3, o4, o5, o6⟩, hrun⟩ := mat_load (dst := dst) (ty := ty) (pos := pos) (after := after) hT hr hx hb ht hj
  have hlt : j.toNat < vs.length := by omega
  obtain ⟨us, q1, q2, q3⟩ := o6 j.toNat hlt
  have hv : ∃ bs, VR w (.sh m (nth rows j.toNat)) (nth vs j.toNat) bs ∧ ∀ k ∈ bs, OkB w0.heap.size A ms w k := by
    obtain ⟨hlen, ⟨hv, h0⟩ | ⟨g, cap, cur, hv, hg, hh, c1, c2, c3, c4⟩⟩ := q1
    · rw [List.length_eq_zero_iff.1 h0, hv]
      exact ⟨[], .shnil (by omega) (fun _ => rfl), by simp⟩
    · refine ⟨[g], ?_, ?_⟩
      · rw [hv]
        unfold maxLen at c2
        refine .sh (fun r hr => (q2 r hr).1) c1 (by omega) (Array.getElem?_eq_some_iff.1 hh).1 q3 ?_
        intro p hp'
        have : us[p]? = cur[p]? := by rw [← c4, List.getElem?_take, if_pos (by omega), Array.getElem?_toList]
        rw [this, Nat.zero_add]
        simp [World.cell?, hh]
      · intro k hk
        simp only [List.mem_singleton] at hk
        subst hk
        have hm : k ∈ e.nest := by rw [o5]; exact mem_nest hlt (by rw [hv]; rfl)
        have ho := hr.range k (ent_owned he (List.mem_append_right _ hm))
        refine ⟨ho.2, Or.inl ho.1, fun ht => ?_⟩
        obtain ⟨j', e', hj', ht⟩ := mem_tops ht
        by_cases hij : j' = i
        · subst hij
          rw [he] at hj'; cases hj'
          have := owned_self hr.nodup he
          rw [ht] at this
          simp at this
          exact this.1 hm
        · exact owned_disjoint hr.nodup hij hj' he (by simp [ht]) (List.mem_append_right _ hm)
  obtain ⟨bs, g1, g2⟩ := hv
  exact upon_value hrun (hKn _ _ (hk.run ms _ w (Rel.put (t := some dst) hr (.rd g1 g2) (dstOk_all (s := ⟨n, _, _⟩) (t := some dst) hd)) Q hq))
end
end Go.Proofs.Ytidfmgahnmpcdaa
