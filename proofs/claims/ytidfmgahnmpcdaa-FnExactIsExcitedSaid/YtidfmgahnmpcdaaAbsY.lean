/- Symbolic states: arrays of arrays: made, a row grown, a row stored. No condition. -/
import Derived.Test.YtidfmgahnmpcdaaAbsX
set_option linter.unusedSimpArgs false
set_option linter.unusedVariables false
namespace Go.Proofs.Ytidfmgahnmpcdaa
open Go.ChangeShapes Go.WideShapes Go.ChangeAt Go.RowKit

def mkE (u : Value) : Ent := ⟨u, u.ownBlock, []⟩
theorem nest_owned (vs : List Value) : vs.flatMap (fun u => u.ownBlock.toList) = owned (vs.map mkE) := by
  simp [owned, mkE, List.flatMap_map]
theorem nest_ne {vs : List Value} (h : (vs.flatMap (fun u => u.ownBlock.toList)).Nodup) {j l k : Nat} (hj : j < vs.length) (hl : l < vs.length) (hne : j ≠ l) (h1 : (nth vs j).ownBlock = some k) (h2 : (nth vs l).ownBlock = some k) : False := by
  rw [nest_owned] at h
  have e1 : (vs.map mkE)[j]? = some (mkE (nth vs j)) := by rw [List.getElem?_map, List.getElem?_eq_getElem hj, nth_get hj]; rfl
  have e2 : (vs.map mkE)[l]? = some (mkE (nth vs l)) := by rw [List.getElem?_map, List.getElem?_eq_getElem hl, nth_get hl]; rfl
  exact owned_disjoint h hne e1 e2 (k := k) (by simp [mkE, h1]) (by simp [mkE, h2])
theorem nth_set_self {α : Type} [Inhabited α] {l : List α} {j : Nat} {x : α} (h : j < l.length) : nth (l.set j x) j = x := by
  rw [nth_get (by simpa using h)]; simp
theorem nth_set_ne {α : Type} [Inhabited α] {l : List α} {j k : Nat} {x : α} (h : j ≠ k) : nth (l.set j x) k = nth l k := by
  unfold nth; rw [List.getD_eq_getElem?_getD, List.getD_eq_getElem?_getD, List.getElem?_set_ne h]
theorem nest_mem {vs : List Value} {k : Nat} (h : k ∈ vs.flatMap (fun u => u.ownBlock.toList)) : ∃ j, j < vs.length ∧ (nth vs j).ownBlock = some k := by
  obtain ⟨u, hu, hk⟩ := List.mem_flatMap.1 h
  obtain ⟨j, hj, rfl⟩ := List.getElem_of_mem hu
  exact ⟨j, hj, by rw [nth_get hj]; simpa using hk⟩
theorem nest_nodup {vs : List Value} (h : ∀ j l k : Nat, j < vs.length → l < vs.length → j ≠ l → (nth vs j).ownBlock = some k → (nth vs l).ownBlock = some k → False) : (vs.flatMap (fun u => u.ownBlock.toList)).Nodup := by
  rw [nest_owned]
  have hget : ∀ {i : Nat} {e : Ent}, (vs.map mkE)[i]? = some e → i < vs.length ∧ e = mkE (nth vs i) := by
    intro i e hi
    have hlt : i < vs.length := by have := (List.getElem?_eq_some_iff.1 hi).1; simpa using this
    rw [List.getElem?_map, List.getElem?_eq_getElem hlt] at hi
    simp only [Option.map_some, Option.some.injEq] at hi
    exact ⟨hlt, by rw [nth_get hlt]; exact hi.symm⟩
  refine owned_nodup_of (fun i e hi => ?_) fun i j e e' k hne hi hj hk hk' => ?_
  · obtain ⟨_, rfl⟩ := hget hi
    simp only [mkE, List.append_nil]
    cases (nth vs i).ownBlock <;> simp
  · obtain ⟨h1, rfl⟩ := hget hi
    obtain ⟨h2, rfl⟩ := hget hj
    simp only [mkE, List.append_nil, Option.mem_toList] at hk hk'
    exact h i j k h1 h2 hne (by simpa using hk) (by simpa using hk')

section
variable {P : Program} {w0 w w' : World} {A : Nat → Prop} {ms : List Ent} {a : Act} {n : Nat} {sl : List (Nat × D)} {hp : List Blk} {ops : Array Oper} {rest : List Oper} {K : St → Prop} {x y : Operand} {dst : Tmp} {ty : TypeId} {pos : String} {after : Array Edge}
variable {tab : Nat → Option TI}

def nilV : Value := .slice none 0 0
theorem R_matMake (hT : TabOk P tab) {k m : Nat} {T t tt : TypeId} {j : Int} {agg : Bool} {size bytes : Nat} {zero : List Value}
    {agg' : Bool} {bytes' : Nat} {kt : TK} {aggt : Bool} {bytest : Nat} {zerot : List Value} (hx : evD (look sl) x = .lit (.int .i64 j)) (hy : evD (look sl) y = .lit (.int .i64 j)) (hj : j = (k : Int)) (ht : tab tt = some ⟨.sl T, agg, size, bytes, zero⟩) (hT' : tab T = some ⟨.sl t, agg', 1, bytes', [.slice none 0 0]⟩)
    (ht2 : tab t = some ⟨kt, aggt, m, bytest, zerot⟩) (hby : Nat.ble bytes' 1024 = true) (hd : Nat.blt dst n = true) (hk : k ≤ 4294967296)
    (hK : WO P w0 A ops rest ⟨n, (dst, .own hp.length) :: sl, hp ++ [.cust (MatR T t m (List.replicate k nilV) (List.replicate k nilV) (List.replicate k []))]⟩ K) : WO P w0 A ops (⟨some dst, .makeSlice tt x y, ty, pos, after, none⟩ :: rest) ⟨n, sl, hp⟩ K := by
  refine ⟨fun ms a w hr Q hq => ?_⟩
  refine wpList_plain rfl fun Kn hKn => ?_
  obtain ⟨inf, td, z, h1, h2, h3, h4, _⟩ := hT.get ht
  obtain ⟨inf', td', z', g1, g2, g3, g4, g5, g6, g7, g8⟩ := hT.get hT'
  have htd := TK.sl_inv h4
  rw [htd] at h2
  have hby := Nat.le_of_ble_eq_true hby
  obtain ⟨e1, _⟩ := (hr.ev_at hx).lit_inv
  obtain ⟨e2, _⟩ := (hr.ev_at hy).lit_inv
  subst hj
  have hb2 : inf'.bytes * k ≤ 281474976710656 := by rw [g7]; exact Nat.le_trans (Nat.mul_le_mul hby hk) (by decide)
  obtain ⟨w', hrun, q1, q2⟩ := run_make_full (P := P) (w := w) w0.heap.size tt T inf' z' 1 h2 g1 g3 g6 .i64 .i64 k hb2 (by unfold maxLen; omega) hr.ext.size
  have hx' : Ext w w' := ⟨q2.os, q2.tape, q2.output, q2.size, fun i hi => q2.block i hi (by simp)⟩
  have hzs : z'.cells.size = 1 := by rw [← Array.length_toList, g8]; rfl
  have hus : (madeCells z'.cells (k * 1)).toList = List.replicate k nilV := by
    have := madeCells_eq z'.cells (by omega) k
    rw [hzs] at this
    rw [this, g8]
    have key : ∀ k, (List.replicate k [Value.slice none 0 0]).flatten = List.replicate k nilV := by
      intro k
      induction k with
      | zero => rfl
      | succ k ih => rw [List.replicate_succ, List.flatten_cons, ih, List.replicate_succ]; rfl
    exact key k
  rw [hus] at q1
  have hlt := (q1.lt w.heap.size rfl).2
  have hM : MatR T t m (List.replicate k nilV) (List.replicate k nilV) (List.replicate k []) w' (.slice (some ⟨w.heap.size, 0, none⟩) k k) (some w.heap.size) [] := by
    refine ⟨by rw [List.length_replicate]; exact ownsRow_base q1 (Nat.zero_le _), rfl, by simp, by simp, ?_, fun j hj => ?_⟩
    · have : ∀ k, ([] : List Nat) = (List.replicate k nilV).flatMap (fun u => u.ownBlock.toList) := by
        intro k
        induction k with
        | zero => rfl
        | succ k ih => rw [List.replicate_succ, List.flatMap_cons, ← ih]; rfl
      exact this k
    · rw [List.length_replicate] at hj
      rw [nth_get (by simpa using hj), nth_get (by simpa using hj), List.getElem_replicate, List.getElem_replicate]
      exact ⟨[], ⟨by simp, Or.inl ⟨rfl, rfl⟩⟩, by simp, .nil⟩
  have hg := hr.grow hx' [⟨.slice (some ⟨w.heap.size, 0, none⟩) k k, some w.heap.size, []⟩] [.cust (MatR T t m (List.replicate k nilV) (List.replicate k nilV) (List.replicate k []))] rfl (by simp [owned]) (by simp [owned]; exact hlt) (by
    intro i b e hi hei
    cases i with
    | succ i => simp at hi
    | zero =>
      simp at hi hei
      subst hi; subst hei
      exact ⟨hM, fun w2 h2 => hM.keep h2⟩)
  have hlen := hr.len
  have hrun' : (execOp a.eval ⟨some dst, .makeSlice tt x y, ty, pos, after, none⟩).run P w = .ok (.value (.slice (some ⟨w.heap.size, 0, none⟩) k k)) w' := by
    simp only [execOp, e1, e2, Sem.run_bind, hrun, Result.andThen]; rfl
  exact upon_value hrun' (hKn _ _ (hK.run _ _ w' (Rel.put (t := some dst) hg (VX.own (e := ⟨.slice (some ⟨w.heap.size, 0, none⟩) k k, some w.heap.size, []⟩) (by rw [List.getElem?_append_right (by rw [hlen]; exact Nat.le_refl _), hlen]; simp) ⟨_, _, _, rfl⟩) (dstOk_all (s := ⟨n, _, _⟩) (t := some dst) hd)) Q hq))

def keepOk : List Blk → Bool
  | [] => true
  | .arr _ _ _ dp :: l => match dp with | true => keepOk l | false => false
  | _ :: l => keepOk l
theorem keepOk_get : ∀ {l : List Blk} {j : Nat} {b : Blk}, keepOk l = true → l[j]? = some b → renB b = true ∨ ∃ t ds, b = .cells t ds
  | [], _, _, _, h => by simp at h
  | b0 :: l, 0, b, hk, h => by
    simp at h; subst h
    cases b0 with
    | cells t ds => exact Or.inr ⟨_, _, rfl⟩
    | arr t n xs dp => cases dp <;> simp [keepOk] at hk; exact Or.inl rfl
    | _ => exact Or.inl rfl
  | b0 :: l, j + 1, b, hk, h => by
    have : keepOk l = true := by
      cases b0 with
      | arr t n xs dp => cases dp <;> simp [keepOk] at hk; exact hk
      | _ => exact hk
    exact keepOk_get this (by simpa using h)

/-- One row grows by scalars. -/
theorem R_matAppend (hT : TabOk P tab) (i j : Nat) {k m : Nat} {T t : TypeId} {u : Value} {vs vs' : List Value} {rows : List (List (List D))} {ys : List (List D)} {dp : Bool} {agg : Bool} {size bytes : Nat} {zero : List Value} {k' : TK} {agg' : Bool} {bytes' : Nat} {zero' : List Value} {sl' : List (Nat × D)} {hp1 : List Blk}
    (hx : evD (look sl) x = .val u) (hy : evD (look sl) y = .own k) (hbi : hp[i]? = some (.cust (MatR T t m vs vs' rows))) (hbk : hp[k]? = some (.arr t m ys dp)) (ht : tab T = some ⟨.sl t, agg, size, bytes, zero⟩) (hT' : tab t = some ⟨k', agg', m, bytes', zero'⟩)
    (hz : Nat.beq zero'.length m = true) (hm : Nat.blt 0 m = true) (hby : Nat.ble bytes' 1024 = true) (hd : Nat.blt dst n = true) (hko : keepOk hp = true) (hs : survSK (keepI i) (ownI i) sl some = some sl') (hh : survHK (keepI i) (ownI i) 0 hp some = some hp1)
    (hf : Flat ys) (hu : j < vs.length ∧ u = nth vs' j) (hlen : (nth rows j).length + ys.length ≤ 4294967296)
    (hK : ∀ v', (∃ a n c, v' = .slice a n c) → WO P w0 A ops rest ⟨n, (dst, .val v') :: sl', hp1.set i (.cust (MatR T t m vs (vs'.set j v') (rows.set j (nth rows j ++ ys))))⟩ K) :
    WO P w0 A ops (⟨some dst, .call ⟨.builtin .append, #[x, y], #[T, T]⟩, ty, pos, after, none⟩ :: rest) ⟨n, sl, hp⟩ K := by
  have hs := survSK_eq hs; have hh := survHK_eq hh
  simp only [Option.some.injEq] at hs hh
  subst hs; subst hh
  obtain ⟨hj, hu⟩ := hu
  have hm : 0 < m := by simpa [Nat.blt_eq] using hm
  have hby := Nat.le_of_ble_eq_true hby
  have hz := Nat.eq_of_beq_eq_true hz
  refine ⟨fun ms a w hr Q hq => ?_⟩
  refine wpList_plain rfl fun Kn hKn => ?_
  have e1 : a.eval x = u := by
    have := hr.ev_at hx
    cases this with
    | rd h _ => cases h
    | val => rfl
  obtain ⟨ek, hik, e2, _⟩ := (hr.ev_at hy).own_inv
  obtain ⟨inf, td, z, h1, h2, h3, h4, _⟩ := hT.get ht
  obtain ⟨inf', td', z', g1, g2, g3, g4, g5, g6, g7, g8⟩ := hT.get hT'
  have htd := TK.sl_inv h4
  rw [htd] at h2
  have hzs : z'.cells.size = m := by rw [← hz, ← g8]; simp
  -- the entry
  have hex : ∃ e, ms[i]? = some e := by
    have hlt : i < ms.length := by rw [hr.len]; exact (List.getElem?_eq_some_iff.1 hbi).1
    exact ⟨_, List.getElem?_eq_getElem hlt⟩
  obtain ⟨e, hi⟩ := hex
  have hE := hr.ents i _ e hbi hi
  obtain ⟨⟨o1, o2, o3, o4, o5, o6⟩, _⟩ := hE
  have hjv : j < vs'.length := by omega
  obtain ⟨us, q1, q2, q3⟩ := o6 j hj
  rw [← hu] at q1
  -- what is appended
  obtain ⟨bs, hvy, _⟩ := hr.view hik hbk
  obtain ⟨bn, hsrc, _⟩ := src_of_vr hvy
  have happ : ∃ v' w' news, (Builtin.append_ #[T, T] ty #[u, ek.v]).run P w = .ok v' w' ∧ w'.ownsRow 0 t m v' ((nth rows j).length + ys.length) (us ++ news) ∧ w.grownBy w' u.ownBlock ∧ (v'.ownBlock = u.ownBlock ∨ v'.ownBlock = some w.heap.size) ∧ VRs w ys.flatten news bn ∧ ∀ r ∈ ys, r.length = m := by
    obtain ⟨hrows, ⟨hnil, rfl, rfl⟩ | ⟨ad, cap, news, e3, hv, hcell⟩⟩ := hsrc
    · rw [hnil]
      refine ⟨u, w, [], run_append_owned_none (P := P) (w := w) 0 T ty t inf' m h2 g1 u _ us q1, by simpa using q1, ⟨rfl, rfl, rfl, Nat.le_refl _, fun _ _ _ => rfl⟩, Or.inl rfl, .nil, by simp⟩
    · have hl : news.length = ys.length * m := by rw [hv.len, flatten_len hrows]
      have hsz : (nth rows j).length + ys.length ≤ maxLen := by unfold maxLen; omega
      have hbb : ((nth rows j).length + ys.length) * bytes' ≤ 140737488355328 := Nat.le_trans (Nat.mul_le_mul hlen hby) (by decide)
      obtain ⟨v', w', hrun, r1, r2, r3, r4⟩ := run_append_own_at (P := P) w 0 T ty t inf' z' m bytes' h2 g1 g3 g6 g7 hzs hm u _ us q1 ad ys.length cap news hl hcell hv.one hsz hbb (Nat.zero_le _)
      exact ⟨v', w', news, by rw [e3]; exact hrun, r1, r2, r4, hv, hrows⟩
  obtain ⟨v', w', news, hrun, r1, r2, r4, r5, r6⟩ := happ
  have hself := owned_self hr.nodup hi
  rw [o5] at hself
  have hnd : (vs'.flatMap (fun u => u.ownBlock.toList)).Nodup := (List.nodup_append.1 hself).2.1
  have hrng : ∀ k ∈ e.top.toList ++ e.nest, k < w.heap.size := fun k hk => (hr.range k (ent_owned hi hk)).2
  have hun : ∀ k, u.ownBlock = some k → k ∈ e.nest := fun k hk => by rw [o5]; exact mem_nest hjv (by rw [← hu]; exact hk)
  have hnest' : ∀ k ∈ (vs'.set j v').flatMap (fun u => u.ownBlock.toList), (k ∈ e.nest ∨ k = w.heap.size) ∧ k < w'.heap.size := by
    intro k hk
    obtain ⟨l, hl, hlk⟩ := nest_mem hk
    by_cases hlj : j = l
    · subst hlj
      rw [nth_set_self hjv] at hlk
      refine ⟨?_, (r1.lt k hlk).2⟩
      rcases r4 with r4 | r4
      · exact Or.inl (hun k (by rw [← r4]; exact hlk))
      · right; rw [hlk] at r4; simpa using r4
    · rw [nth_set_ne hlj] at hlk
      have hkn : k ∈ e.nest := by rw [o5]; exact mem_nest (by simpa using hl) hlk
      exact ⟨Or.inl hkn, Nat.lt_of_lt_of_le (hrng k (List.mem_append_right _ hkn)) r2.size⟩
  have hnd' : ((vs'.set j v').flatMap (fun u => u.ownBlock.toList)).Nodup := by
    refine nest_nodup fun p l k hp' hl hne h1 h2 => ?_
    rw [List.length_set] at hp' hl
    by_cases hpj : j = p
    · subst hpj
      rw [nth_set_self hjv] at h1
      rw [nth_set_ne hne] at h2
      rcases r4 with r4 | r4
      · exact nest_ne hnd hp' hl hne (by rw [← hu, ← r4]; exact h1) h2
      · rw [h1] at r4
        simp only [Option.some.injEq] at r4
        have := hrng k (List.mem_append_right _ (by rw [o5]; exact mem_nest hl h2)); omega
    · rw [nth_set_ne hpj] at h1
      by_cases hlj : j = l
      · subst hlj
        rw [nth_set_self hjv] at h2
        rcases r4 with r4 | r4
        · exact nest_ne hnd hp' hl hne h1 (by rw [← hu, ← r4]; exact h2)
        · rw [h2] at r4
          simp only [Option.some.injEq] at r4
          have := hrng k (List.mem_append_right _ (by rw [o5]; exact mem_nest hp' h1)); omega
      · rw [nth_set_ne hlj] at h2
        exact nest_ne hnd hp' hl hne h1 h2
  have hlit : ∀ d ∈ ys.flatten, isLit d = true := fun d hd => by obtain ⟨r, hr, hd⟩ := List.mem_flatten.1 hd; exact hf r hr d hd
  have htopn : ∀ k, e.v.ownBlock = some k → k ∉ e.nest := by
    intro k hk hkn
    have := (List.nodup_append.1 hself).2.2 k (by rw [o2, hk]; simp) k (by rw [← o5]; exact hkn)
    exact this rfl
  have hM : MatR T t m vs (vs'.set j v') (rows.set j (nth rows j ++ ys)) w' e.v e.top ((vs'.set j v').flatMap (fun u => u.ownBlock.toList)) := by
    refine ⟨ownsRow_keep o1 fun k hk => r2.block k (hrng k (by rw [o2, hk]; simp)) fun h => htopn k hk (hun k h.symm), o2, by simpa using o3, by simpa using o4, rfl, fun l hl => ?_⟩
    by_cases hlj : j = l
    · subst hlj
      rw [nth_set_self hjv, nth_set_self (by omega)]
      refine ⟨us ++ news, by simpa using r1, ?_, ?_⟩
      · intro r hr
        rcases List.mem_append.1 hr with h | h
        · exact q2 r h
        · exact ⟨r6 r h, fun d hd => hf r h d hd⟩
      · rw [List.flatten_append]
        have a1 : VRs w' (nth rows j).flatten us [] := VRs.lits_keep (fun d hd => by obtain ⟨r, hr, hd⟩ := List.mem_flatten.1 hd; exact (q2 r hr).2 d hd) q3
        have a2 : VRs w' ys.flatten news [] := VRs.lits_keep hlit r5
        exact a1.append a2
    · rw [nth_set_ne hlj, nth_set_ne hlj]
      refine (o6 l hl).keep fun k hk => r2.block k ?_ fun h => nest_ne hnd hjv (by omega) hlj (by rw [← hu]; exact h.symm) hk
      exact hrng k (List.mem_append_right _ (by rw [o5]; exact mem_nest (by omega) hk))
  have hsl : ∃ a n c, e.v = .slice a n c := by
    obtain ⟨_, ⟨h, _⟩ | ⟨g, cap, cur, h, _⟩⟩ := o1
    · exact ⟨_, _, _, h⟩
    · exact ⟨_, _, _, h⟩
  have hrel := hr.recust (e' := ⟨e.v, e.top, (vs'.set j v').flatMap (fun u => u.ownBlock.toList)⟩) hi rfl hsl (fun p b hne hb => keepOk_get hko hb) r2.os r2.tape r2.output r2.size
    (fun k hk hkn => r2.block k hk fun h => hkn (List.mem_append_right _ (hun k h.symm)))
    (fun k hk => by
      rcases List.mem_append.1 hk with hk | hk
      · exact ⟨Nat.lt_of_lt_of_le (hrng k (List.mem_append_left _ hk)) r2.size, Or.inl (List.mem_append_left _ hk)⟩
      · obtain ⟨h1 | h1, h2⟩ := hnest' k hk
        · exact ⟨h2, Or.inl (List.mem_append_right _ h1)⟩
        · exact ⟨h2, Or.inr (by omega)⟩)
    (by
      refine List.nodup_append.2 ⟨(List.nodup_append.1 hself).1, hnd', fun p hp' q hq' hpq => ?_⟩
      subst hpq
      rcases (hnest' p hq').1 with h | h
      · rw [o5] at h
        exact (List.nodup_append.1 hself).2.2 p hp' p h rfl
      · have := hrng p (List.mem_append_left _ hp'); omega)
    hM (fun w2 h2 => hM.keep h2)
  have hsv : ∃ a n c, v' = .slice a n c := by
    obtain ⟨_, ⟨h, _⟩ | ⟨g, cap, cur, h, _⟩⟩ := r1
    · exact ⟨_, _, _, h⟩
    · exact ⟨_, _, _, h⟩
  exact upon_value (run_append_op (ρ' := a.eval) rfl (by rw [e1, e2]; exact hrun)) (hKn _ _ ((hK v' hsv).run _ _ w' (Rel.put (t := some dst) hrel .val (dstOk_all (s := ⟨n, _, _⟩) (t := some dst) hd)) Q hq))

/-- A row's slice is stored. -/
theorem R_matStore (hT : TabOk P tab) (i : Nat) {T t : TypeId} {m : Nat} {j : Int} {u : Value} {vs vs' : List Value} {rows : List (List (List D))} {k : TK} {agg : Bool} {bytes : Nat} {zero : List Value} {dst : Option Tmp}
    (hx : evD (look sl) x = .eptr i 1 j 0) (hb : hp[i]? = some (.cust (MatR T t m vs vs' rows))) (ht : tab T = some ⟨k, agg, 1, bytes, zero⟩) (hy : evD (look sl) y = .val u) (hu : ∃ a n c, u = .slice a n c) (hd : dstOk ⟨n, sl, hp⟩ dst = true) (hj : 0 ≤ j ∧ j < vs.length)
    (hK : WO P w0 A ops rest (St.put ⟨n, sl, hp.set i (.cust (MatR T t m (vs.set j.toNat u) vs' rows))⟩ dst (.tup [])) K) : WO P w0 A ops (⟨dst, .store T x y, ty, pos, after, none⟩ :: rest) ⟨n, sl, hp⟩ K := by
  refine ⟨fun ms a w hr Q hq => ?_⟩
  refine wpList_plain rfl fun Kn hKn => ?_
  obtain ⟨inf, td, z, q1, q2, q3, q4, q5, q6, _⟩ := hT.get ht
  obtain ⟨e, b, hi, htop, e1⟩ := (hr.ev_at hx).eptr_inv
  have e2 : a.eval y = u := by
    have := hr.ev_at hy
    cases this with
    | rd h _ => cases h
    | val => rfl
  obtain ⟨aa, nn, cc, rfl⟩ := hu
  have hE := hr.ents i _ e hb hi
  obtain ⟨⟨o1, o2, o3, o4, o5, o6⟩, _⟩ := hE
  have hlt : j.toNat < vs.length := by omega
  obtain ⟨hl, ⟨_, h0⟩ | ⟨g, cap, cur, hv, hg, hh1, c1, c2, c3, c4⟩⟩ := o1
  · omega
  have hbg : b = g := by rw [o2, hv] at htop; simpa [Value.ownBlock] using htop.symm
  subst hbg
  have hcl : vs.length ≤ cur.toList.length := by simp; omega
  have hst := run_storeCells_at P b (j.toNat * 1 + 0) T [Value.slice aa nn cc] 0 cur w hh1 (by simp; omega) (by simp [Value.oneCell'])
  have hput : (cur.toList.take (j.toNat * 1 + 0 + 0) ++ [Value.slice aa nn cc] ++ cur.toList.drop (j.toNat * 1 + 0 + 0 + [Value.slice aa nn cc].length)) = cur.toList.set j.toNat (.slice aa nn cc) := by
    simp only [Nat.mul_one, Nat.add_zero, List.length_cons, List.length_nil, Nat.zero_add]
    rw [List.set_eq_take_append_cons_drop, if_pos (by omega)]; simp
  rw [hput] at hst
  have hrun : (execOp a.eval ⟨dst, .store T x y, ty, pos, after, none⟩).run P w = .ok .skip (w.setRow b (cur.toList.set j.toNat (.slice aa nn cc)).toArray) := by
    simp only [execOp, e1, Instr.storeAt, Instr.sureAddr, storeVar, Sem.run_bind, Sem.run, Result.andThen, pure, run_sizeOf q1, e2, q6, Value.cells, ne_eq]
    simp only [List.size_toArray, List.length_cons, List.length_nil, Nat.zero_add, not_true_eq_false, if_false]
    simp only [hst]
  have hg0 := (hr.range b (ent_owned hi (by rw [htop]; simp))).1
  have hself := owned_self hr.nodup hi
  have hrel := hr.change (i := i) (g := b) (b' := .cust (MatR T t m (vs.set j.toNat (.slice aa nn cc)) vs' rows)) (w' := w.setRow b (cur.toList.set j.toNat (.slice aa nn cc)).toArray) hi htop (fun k hk => setRow_other w b k _ hk) (by simp [World.setRow]) (Ext_setRow _ hg0)
    (fun hk hn => by
      have hM : MatR T t m (vs.set j.toNat (.slice aa nn cc)) vs' rows (w.setRow b (cur.toList.set j.toNat (.slice aa nn cc)).toArray) e.v e.top e.nest := by
        refine ⟨⟨by simp, Or.inr ⟨b, cap, (cur.toList.set j.toNat (.slice aa nn cc)).toArray, by simpa using hv, Nat.zero_le _, setRow_heap w b cur _ T _ hh1, by simpa using c1, c2, by simpa using c3, ?_⟩⟩, o2, by simpa using o3, by simpa using o4, o5, fun l hl' => ?_⟩
        · rw [List.length_set]
          simp only [Nat.mul_one] at c4 ⊢
          conv => rhs; rw [← c4]
          show List.take vs.length (cur.toList.set _ _) = _
          rw [List.take_set]
        · rw [List.length_set] at hl'
          exact (o6 l hl').keep fun k hk' => hn k (by rw [o5]; exact mem_nest (by omega) hk')
      exact ⟨hM, fun w2 h2 => hM.keep h2⟩)
  exact upon_skip hrun (hKn _ _ (hK.run _ _ _ (Rel.put hrel (.tup (us := []) .nil) (dstOk_all hd)) Q hq))
end
end Go.Proofs.Ytidfmgahnmpcdaa
