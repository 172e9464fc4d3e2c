/- Symbolic states: calls that write marks all over memory of the call's own; functions whose arguments are held for later. No condition. -/
import Derived.Test.YtcpjhpjlcgcigaaGreatDoorAbsS
import Derived.Test.YtcpjhpjlcgcigaaGreatDoorMarkA
set_option linter.unusedSimpArgs false
set_option linter.unusedVariables false
namespace Go.Proofs.YtcpjhpjlcgcigaaGreatDoor
open Go.ChangeShapes Go.WideShapes Go.ChangeAt Go.RowKit

/-! ### Arguments that are held for later -/
def old1 (w : World) (A : Nat → Prop) : D → D
  | .sh n xs => .old w A (.sh n xs)
  | d => d
def oldA (w : World) (A : Nat → Prop) : D → D
  | .agg ds => .agg (ds.map (old1 w A))
  | d => old1 w A d
section
variable {P : Program} {w0 w w' : World} {A : Nat → Prop} {ms : List Ent} {Ok Ok' : Nat → Prop}
theorem old1_ok {d : D} {u : Value} (h : VX ms w Ok d u) : VX ms w Ok (old1 w Ok d) u := by
  cases d with
  | sh n xs => obtain ⟨bs, h1, h2⟩ := h.sh_inv; exact .old h1 h2
  | _ => exact h
theorem old1L_ok : ∀ {ds : List D} {us : List Value}, VXs ms w Ok ds us → VXs ms w Ok (ds.map (old1 w Ok)) us
  | [], _, .nil => .nil
  | d :: ds, _, .cons h h' => .cons (old1_ok h) (old1L_ok h')
theorem oldA_ok {d : D} {u : Value} (h : VX ms w Ok d u) : VX ms w Ok (oldA w Ok d) u := by
  cases d with
  | agg ds => obtain ⟨us, rfl, h1⟩ := h.agg_inv; exact .agg (old1L_ok h1)
  | sh n xs => exact old1_ok h
  | _ => exact h
theorem oldAL_ok : ∀ {ds : List D} {us : List Value}, VXs ms w Ok ds us → VXs ms w Ok (ds.map (oldA w Ok)) us
  | [], _, .nil => .nil
  | d :: ds, _, .cons h h' => .cons (oldA_ok h) (oldAL_ok h')
theorem Fn_old {f : FuncId} {fn : Func} {c : Code} {ds : List D} {d : D} {rh : List Blk} (hf : P.funcs[f]? = some fn) (hb : fn.body = some c) (hname : (fn.name == "runtime.NumGoroutine") = false) (hn : Nat.ble ds.length fn.ntmps = true) (hrh : rh.all Blk.isArr = true)
    (h : ∀ w0 A, Given w0 A ds → W P w0 A c ⟨fn.ntmps, argSlots 0 (ds.map (oldA w0 A)), []⟩ (retQ fn.results d rh)) : Fn P f ds d rh := by
  refine ⟨?_, hrh, ?_⟩
  · intro args w
    have h1 : ¬ fn.name = "runtime.NumGoroutine" := by simpa using hname
    have h2 : ¬ fn.body = none := by rw [hb]; simp
    simp [callFunc, program, Sem.run, go_sem, hf, h1, h2]
  · intro A w us hA hus
    have hl := hus.len
    have hn' : ds.length ≤ fn.ntmps := Nat.le_of_ble_eq_true hn
    refine calls_of_wp hf hb (Code.wp_mono ?_ ((h w A ⟨us, hus⟩).run [] { tmps := us.toArray ++ Array.replicate (fn.ntmps - us.toArray.size) undef, defers := [] } w ?_))
    · rintro e a' w' ⟨ms, s, hr, hq⟩
      have key : RetS fn.results d rh s → a'.defers = [] ∧ ∃ v, (results fn a'.tmps).run P w' = .ok v w' ∧ ∃ v' ms, Ending.returned v = .returned v' ∧ Post w A d rh ms v' w' := by
        rintro ⟨dd, js, h1, h2, h3, h4⟩
        obtain ⟨v, h5, h6⟩ := results_ok (P := P) h1 hr
        exact ⟨hr.defers, v, h5, v, _, rfl, hr.post h3 h4 h6 h2⟩
      cases hq with
      | r h => exact key h
      | n h => exact key h
    · refine ⟨Ext.refl _, hA, by simp; omega, rfl, rfl, by simp [owned], by simp [owned], by simp, fun t => ?_⟩
      refine look_arg (List.replicate (fn.ntmps - us.length) undef) (VXs.mono (ms' := []) (w' := w) (Ok' := OkB w.heap.size A [] w) (fun k hk => ⟨rfl, hA k hk, Or.inr hk, by simp [tops]⟩) (oldAL_ok hus) fun _ _ _ h => h) 0 t _ fun _ => ?_
      have e : (us.toArray ++ Array.replicate (fn.ntmps - us.toArray.size) undef) = (us ++ List.replicate (fn.ntmps - us.length) undef).toArray := by
        rw [← List.append_toArray, List.size_toArray, List.toArray_replicate]
      rw [e]; simp [Array.getD_eq_getD_getElem?, List.getD_eq_getElem?_getD]
end

/-! ### What writing all over some entries leaves of what is known -/
mutual
def D.surv (kp : Nat → Bool) (rp : Nat → D) : D → D
  | .lit v => .lit v
  | .nil => .nil
  | .old w A d => .old w A d
  | .val u => .val u
  | .own j => match kp j with | true => .own j | false => rp j
  | .ptr j o => match kp j with | true => .ptr j o | false => .no
  | .pin b j o => match kp j with | true => .pin b j o | false => .no
  | .agg ds => .agg (D.survL kp rp ds)
  | .tup ds => .tup (D.survL kp rp ds)
  | .fn f ds => .fn f (D.survL kp rp ds)
  | _ => .no
def D.survL (kp : Nat → Bool) (rp : Nat → D) : List D → List D
  | [] => []
  | d :: ds => d.surv kp rp :: D.survL kp rp ds
end
def survS (kp : Nat → Bool) (rp : Nat → D) : List (Nat × D) → List (Nat × D)
  | [] => []
  | (t, d) :: l => (t, d.surv kp rp) :: survS kp rp l
def Blk.surv (kp : Nat → Bool) (rp : Nat → D) : Blk → Blk
  | .cells t ds => .cells t (D.survL kp rp ds)
  | b => b
def survH (kp : Nat → Bool) (rp : Nat → D) : Nat → List Blk → List Blk
  | _, [] => []
  | j, b :: l => (match kp j with | true => b.surv kp rp | false => .gone) :: survH kp rp (j + 1) l
def survM (kp : Nat → Bool) : Nat → List Ent → List Ent
  | _, [] => []
  | j, e :: l => (match kp j with | true => e | false => ⟨e.v, none, []⟩) :: survM kp (j + 1) l
theorem survH_get {kp : Nat → Bool} {rp : Nat → D} : ∀ {l : List Blk} {j m : Nat}, (survH kp rp j l)[m]? = (l[m]?).map fun b => match kp (j + m) with | true => b.surv kp rp | false => .gone
  | [], _, _ => by simp [survH]
  | b :: l, j, 0 => by simp [survH]
  | b :: l, j, m + 1 => by
    simp only [survH, List.getElem?_cons_succ]
    rw [survH_get, show j + 1 + m = j + (m + 1) by omega]
theorem survM_get {kp : Nat → Bool} : ∀ {l : List Ent} {j m : Nat}, (survM kp j l)[m]? = (l[m]?).map fun e => match kp (j + m) with | true => e | false => ⟨e.v, none, []⟩
  | [], _, _ => by simp [survM]
  | b :: l, j, 0 => by simp [survM]
  | b :: l, j, m + 1 => by
    simp only [survM, List.getElem?_cons_succ]
    rw [survM_get, show j + 1 + m = j + (m + 1) by omega]
theorem survH_len {kp : Nat → Bool} {rp : Nat → D} : ∀ {l : List Blk} {j : Nat}, (survH kp rp j l).length = l.length
  | [], _ => rfl
  | _ :: l, j => by simp [survH, survH_len]
theorem survM_len {kp : Nat → Bool} : ∀ {l : List Ent} {j : Nat}, (survM kp j l).length = l.length
  | [], _ => rfl
  | _ :: l, j => by simp [survM, survM_len]
theorem survM_owned {kp : Nat → Bool} : ∀ {l : List Ent} {j : Nat}, (owned (survM kp j l)).Sublist (owned l)
  | [], _ => by simp [survM, owned]
  | e :: l, j => by
    have ih := survM_owned (kp := kp) (l := l) (j := j + 1)
    simp only [survM, owned, List.flatMap_cons] at ih ⊢
    cases kp j
    · exact (List.nil_sublist _).append ih
    · exact (List.Sublist.refl _).append ih
theorem look_survS {kp : Nat → Bool} {rp : Nat → D} {t : Nat} : ∀ {l : List (Nat × D)}, look (survS kp rp l) t = (look l t).surv kp rp
  | [] => rfl
  | (t', d) :: l => by
    simp only [survS, look]
    split
    · rfl
    · exact look_survS

/-! The same, reckoned out. -/
mutual
def D.survK {α : Type} (kp : Nat → Bool) (rp : Nat → D) : D → (D → Option α) → Option α
  | .lit v, k => k (.lit v)
  | .nil, k => k .nil
  | .old w A d, k => k (.old w A d)
  | .val u, k => k (.val u)
  | .own j, k => match kp j with | true => k (.own j) | false => forceN (rp j) k
  | .ptr j o, k => match kp j with | true => k (.ptr j o) | false => k .no
  | .pin b j o, k => match kp j with | true => k (.pin b j o) | false => k .no
  | .agg ds, k => D.survLK kp rp ds fun l => k (.agg l)
  | .tup ds, k => D.survLK kp rp ds fun l => k (.tup l)
  | .fn f ds, k => D.survLK kp rp ds fun l => k (.fn f l)
  | .no, k => k .no
  | .sh _ _, k => k .no
  | .tag _ _, k => k .no
  | .vec _ _, k => k .no
  | .eptr _ _ _ _, k => k .no
  | .part _ _ _ _, k => k .no
  | .sptr _, k => k .no
def D.survLK {α : Type} (kp : Nat → Bool) (rp : Nat → D) : List D → (List D → Option α) → Option α
  | [], k => k []
  | d :: ds, k => d.survK kp rp fun d' => D.survLK kp rp ds fun l => k (d' :: l)
end
mutual
theorem D.survK_eq {α : Type} {kp : Nat → Bool} {rp : Nat → D} : ∀ {d : D} {k : D → Option α} {r : α}, d.survK kp rp k = some r → k (d.surv kp rp) = some r
  | .lit _, _, _, h => by simpa only [D.survK, D.surv] using h
  | .nil, _, _, h => by simpa only [D.survK, D.surv] using h
  | .old _ _ _, _, _, h => by simpa only [D.survK, D.surv] using h
  | .val _, _, _, h => by simpa only [D.survK, D.surv] using h
  | .own j, _, _, h => by
    simp only [D.survK, D.surv] at h ⊢
    cases hk : kp j <;> rw [hk] at h
    · exact forceN_eq h
    · exact h
  | .ptr j o, _, _, h => by
    simp only [D.survK, D.surv] at h ⊢
    cases hk : kp j <;> rw [hk] at h <;> exact h
  | .pin b j o, _, _, h => by
    simp only [D.survK, D.surv] at h ⊢
    cases hk : kp j <;> rw [hk] at h <;> exact h
  | .agg ds, k, _, h => by simp only [D.survK, D.surv] at h ⊢; exact D.survLK_eq (k := fun l => k (.agg l)) h
  | .tup ds, k, _, h => by simp only [D.survK, D.surv] at h ⊢; exact D.survLK_eq (k := fun l => k (.tup l)) h
  | .fn f ds, k, _, h => by simp only [D.survK, D.surv] at h ⊢; exact D.survLK_eq (k := fun l => k (.fn f l)) h
  | .no, _, _, h => by simpa only [D.survK, D.surv] using h
  | .sh _ _, _, _, h => by simpa only [D.survK, D.surv] using h
  | .tag _ _, _, _, h => by simpa only [D.survK, D.surv] using h
  | .vec _ _, _, _, h => by simpa only [D.survK, D.surv] using h
  | .eptr _ _ _ _, _, _, h => by simpa only [D.survK, D.surv] using h
  | .part _ _ _ _, _, _, h => by simpa only [D.survK, D.surv] using h
  | .sptr _, _, _, h => by simpa only [D.survK, D.surv] using h
theorem D.survLK_eq {α : Type} {kp : Nat → Bool} {rp : Nat → D} : ∀ {ds : List D} {k : List D → Option α} {r : α}, D.survLK kp rp ds k = some r → k (D.survL kp rp ds) = some r
  | [], _, _, h => by simpa only [D.survLK, D.survL] using h
  | d :: ds, k, _, h => by
    simp only [D.survLK] at h
    have h1 := D.survK_eq h
    have h2 := D.survLK_eq (k := fun l => k (d.surv kp rp :: l)) h1
    simpa only [D.survL] using h2
end
def survSK {α : Type} (kp : Nat → Bool) (rp : Nat → D) : List (Nat × D) → (List (Nat × D) → Option α) → Option α
  | [], k => k []
  | (t, d) :: l, k => d.survK kp rp fun d' => survSK kp rp l fun l' => k ((t, d') :: l')
theorem survSK_eq {α : Type} {kp : Nat → Bool} {rp : Nat → D} : ∀ {l : List (Nat × D)} {k : List (Nat × D) → Option α} {r : α}, survSK kp rp l k = some r → k (survS kp rp l) = some r
  | [], _, _, h => h
  | (t, d) :: l, k, _, h => survSK_eq (k := fun l' => k ((t, d.surv kp rp) :: l')) (D.survK_eq h)
def survHK {α : Type} (kp : Nat → Bool) (rp : Nat → D) : Nat → List Blk → (List Blk → Option α) → Option α
  | _, [], k => k []
  | j, b :: l, k => match kp j with
    | false => survHK kp rp (j + 1) l fun l' => k (.gone :: l')
    | true => match b with
      | .cells t ds => D.survLK kp rp ds fun ds' => survHK kp rp (j + 1) l fun l' => k (.cells t ds' :: l')
      | .gone => survHK kp rp (j + 1) l fun l' => k (.gone :: l')
      | .arr t n xs dp => survHK kp rp (j + 1) l fun l' => k (.arr t n xs dp :: l')
      | .fr n xs => survHK kp rp (j + 1) l fun l' => k (.fr n xs :: l')
      | .cust R => survHK kp rp (j + 1) l fun l' => k (.cust R :: l')
theorem survHK_eq {α : Type} {kp : Nat → Bool} {rp : Nat → D} : ∀ {l : List Blk} {j : Nat} {k : List Blk → Option α} {r : α}, survHK kp rp j l k = some r → k (survH kp rp j l) = some r
  | [], _, _, _, h => h
  | b :: l, j, k, r, h => by
    unfold survHK at h
    rw [survH]
    cases hk : kp j <;> simp only [hk] at h
    · exact survHK_eq (k := fun l' => k (.gone :: l')) h
    · cases b with
      | cells t ds => exact survHK_eq (k := fun l' => k (.cells t (D.survL kp rp ds) :: l')) (D.survLK_eq (k := fun ds' => survHK kp rp (j + 1) l fun l' => k (.cells t ds' :: l')) h)
      | gone => exact survHK_eq (k := fun l' => k (.gone :: l')) h
      | arr t n xs dp => exact survHK_eq (k := fun l' => k (.arr t n xs dp :: l')) h
      | fr n xs => exact survHK_eq (k := fun l' => k (.fr n xs :: l')) h
      | cust R => exact survHK_eq (k := fun l' => k (.cust R :: l')) h

section
variable {P : Program} {w0 w w' : World} {A : Nat → Prop} {n : Nat} {sl : List (Nat × D)} {hp : List Blk} {ms ms' : List Ent} {a : Act} {Ok Ok' : Nat → Prop} {kp : Nat → Bool} {rp : Nat → D}

mutual
theorem VX.surv (hm : ∀ (i : Nat) (e : Ent), kp i = true → ms[i]? = some e → ms'[i]? = some e) (hr : ∀ (i : Nat) (e : Ent), kp i = false → ms[i]? = some e → VX ms' w' Ok' (rp i) e.v) : ∀ {d : D} {u : Value}, VX ms w Ok d u → VX ms' w' Ok' (d.surv kp rp) u
  | .no, _, _ => .no
  | .lit v, _, h => by obtain ⟨rfl, h1⟩ := h.lit_inv; exact VX.of_lit h1
  | .nil, _, h => by rw [h.nil_inv]; exact .rd .nil (by simp)
  | .old _ _ _, _, h => by
    cases h with
    | rd h _ => cases h
    | old h h' => exact .old h h'
  | .val _, _, h => by
    cases h with
    | rd h _ => cases h
    | val => exact .val
  | .own j, _, h => by
    obtain ⟨e, h1, rfl, h2⟩ := h.own_inv
    simp only [D.surv]
    cases hk : kp j
    · exact hr j e hk h1
    · exact .own (hm j e hk h1) h2
  | .ptr j o, _, h => by
    obtain ⟨e, b, h1, h2, rfl⟩ := h.ptr_inv
    simp only [D.surv]
    cases hk : kp j
    · exact .no
    · exact .ptr (hm j e hk h1) h2
  | .pin b j o, _, h => by
    obtain ⟨e, h1, h2, rfl⟩ := h.pin_inv
    simp only [D.surv]
    cases hk : kp j
    · exact .no
    · exact .pin (hm j e hk h1) h2
  | .agg ds, _, h => by
    obtain ⟨us, rfl, h1⟩ := h.agg_inv
    rw [D.surv]; exact .agg (VXs.surv hm hr h1)
  | .tup ds, _, h => by
    obtain ⟨us, rfl, h1⟩ := h.tup_inv
    rw [D.surv]; exact .tup (VXs.surv hm hr h1)
  | .fn f ds, _, h => by
    obtain ⟨us, rfl, h1⟩ := h.fn_inv
    rw [D.surv]; exact .fn (VXs.surv hm hr h1)
  | .sh _ _, _, _ => .no
  | .tag _ _, _, _ => .no
  | .vec _ _, _, _ => .no
  | .eptr _ _ _ _, _, _ => .no
  | .part _ _ _ _, _, _ => .no
  | .sptr _, _, _ => .no
theorem VXs.surv (hm : ∀ (i : Nat) (e : Ent), kp i = true → ms[i]? = some e → ms'[i]? = some e) (hr : ∀ (i : Nat) (e : Ent), kp i = false → ms[i]? = some e → VX ms' w' Ok' (rp i) e.v) : ∀ {ds : List D} {us : List Value}, VXs ms w Ok ds us → VXs ms' w' Ok' (D.survL kp rp ds) us
  | [], _, .nil => .nil
  | d :: ds, _, .cons h h' => .cons (VX.surv hm hr h) (VXs.surv hm hr h')
end

/-- Behind a call that writes in blocks of entries that are not kept. -/
theorem Rel.turned (hr : Rel w0 A ms ⟨n, sl, hp⟩ a w) (hkp : ∀ (j : Nat) (b : Blk), kp j = true → hp[j]? = some b → (∃ t ds, b = .cells t ds) ∨ (∃ m xs, b = .fr m xs) ∨ (∃ t m xs, b = .arr t m xs true) ∨ ∃ R, b = .cust R) {bs : List Nat} (ht : Turn bs w w')
    (hbs : ∀ k ∈ bs, ∃ (j : Nat) (e : Ent), kp j = false ∧ ms[j]? = some e ∧ k ∈ e.top.toList ++ e.nest)
    (hrp : ∀ (i : Nat) (e : Ent), kp i = false → ms[i]? = some e → VX (survM kp 0 ms) w' (OkB w0.heap.size A (survM kp 0 ms) w') (rp i) e.v) : Rel w0 A (survM kp 0 ms) ⟨n, survS kp rp sl, survH kp rp 0 hp⟩ a w' := by
  have hlen := hr.len
  simp only at hlen
  have hm : ∀ (i : Nat) (e : Ent), kp i = true → ms[i]? = some e → (survM kp 0 ms)[i]? = some e := by
    intro i e hk hi
    rw [survM_get, hi, Nat.zero_add, hk]; rfl
  have hdis : ∀ (m : Nat) (e : Ent) (k : Nat), kp m = true → ms[m]? = some e → k ∈ e.top.toList ++ e.nest → k ∉ bs := by
    intro m e k hk hme hke hb
    obtain ⟨j, e', hj, hje, hke'⟩ := hbs k hb
    have hne : m ≠ j := by rintro rfl; rw [hk] at hj; exact Bool.noConfusion hj
    exact owned_disjoint hr.nodup hne hme hje hke hke'
  have hkeep : ∀ (m : Nat) (e : Ent) (k : Nat), kp m = true → ms[m]? = some e → k ∈ e.top.toList ++ e.nest → w'.heap[k]? = w.heap[k]? :=
    fun m e k hk hme hke => ht.block k (hr.range k (ent_owned hme hke)).2 (hdis m e k hk hme hke)
  refine ⟨hr.ext.turn ht fun i hi => ?_, hr.old, hr.size, hr.defers, by simp [survM_len, survH_len, hlen], hr.nodup.sublist survM_owned, fun k hk => ?_, ?_, fun t => ?_⟩
  · obtain ⟨j, e, _, h2, h3⟩ := hbs i hi
    exact (hr.range i (ent_owned h2 h3)).1
  · have := hr.range k (survM_owned.mem hk)
    exact ⟨this.1, Nat.lt_of_lt_of_le this.2 ht.size⟩
  · intro i b e hb he
    simp only at hb
    rw [survH_get] at hb
    rw [survM_get] at he
    rw [Nat.zero_add] at hb he
    cases hb0 : hp[i]? with
    | none => rw [hb0] at hb; simp at hb
    | some b0 =>
      cases he0 : ms[i]? with
      | none => rw [he0] at he; simp at he
      | some e0 =>
        rw [hb0] at hb; rw [he0] at he
        simp only [Option.map_some, Option.some.injEq] at hb he
        cases hk : kp i with
        | false => rw [hk] at hb he; subst hb; subst he; exact ⟨rfl, rfl⟩
        | true =>
          rw [hk] at hb he
          simp only at hb he
          subst he
          have hE := hr.ents i b0 e0 hb0 he0
          rcases hkp i b0 hk hb0 with ⟨t, ds, rfl⟩ | ⟨m, xs, rfl⟩ | ⟨t, m, xs, rfl⟩ | ⟨R, rfl⟩
          · subst hb
            obtain ⟨g, us, rfl, h3, h4⟩ := hE
            exact ⟨g, us, rfl, by rw [hkeep i _ g hk he0 (by simp)]; exact h3, VXs.surv hm hrp h4⟩
          · subst hb
            have hk' := fun k (hk' : k ∈ e0.nest) => hkeep i e0 k hk he0 (List.mem_append_right _ hk')
            exact ⟨hE.1, hE.2.1.keep hk', fun k hkn => (hE.2.2 k hkn).keep (hk' k hkn)⟩
          · subst hb
            obtain ⟨us, bs', h1, h2, h3, h4, h5⟩ := hE
            refine ⟨us, bs', ownsRow_keep h1 (fun k hk' => hkeep i e0 k hk he0 (by rw [h4]; simp [hk'])), h2, h3.keep fun k hk' => hkeep i e0 k hk he0 (List.mem_append_right _ (by rw [h5.1]; exact hk')), h4, h5.1, fun k hk' => (h5.2 k hk').keep (hkeep i e0 k hk he0 (List.mem_append_right _ (by rw [h5.1]; exact hk')))⟩
          · subst hb
            exact ⟨hE.2 w' fun k hk' => hkeep i e0 k hk he0 hk', fun w2 h2 => hE.2 w2 fun k hk' => (h2 k hk').trans (hkeep i e0 k hk he0 hk')⟩
  · simp only [St.get]
    rw [look_survS]
    exact VX.surv hm hrp (hr.slots t)
end

/-! ### A call that marks its argument -/
def pack : Bool → List Value → Value
  | true, us => .agg us.toArray
  | false, us => us.headD undef
/-- The function f marks a value whose cells read as ds (a struct, or one cell), from the number k on, and returns v; then the cells read as out tells. -/
structure MFn (P : Program) (f : FuncId) (agg : Bool) (ds : List D) (k v : Int) (out : Option (List D)) : Prop where
  plain : ∀ args w, (callFunc f args).run P w = .ok (.enter f args) w
  small : litOk (.int .i64 v)
  calls : ∀ (w : World) (us : List Value) (bs : List Nat), VRs w ds us bs → bs.Nodup → (∀ k ∈ bs, Un w k) → Calls P f #[pack agg us, .int .i64 k] w fun e w' => e = .returned (.int .i64 v) ∧ Turn bs w w' ∧ ∀ l, out = some l → VRs w' l us bs

def cellM (hp : List Blk) : D → Option D
  | .lit v => some (.lit v)
  | .nil => some .nil
  | .own i => match hp[i]? with
    | some (.arr _ n xs true) => some (.sh n xs)
    | some (.fr n xs) => some (.sh n xs)
    | _ => none
  | _ => none
def cellsMK {α : Type} (hp : List Blk) : List D → (List D → Option α) → Option α
  | [], k => k []
  | d :: ds, k => match cellM hp d with
    | some d' => cellsMK hp ds fun l => k (d' :: l)
    | none => none
def ownsOf : List D → List Nat
  | [] => []
  | .own i :: l => i :: ownsOf l
  | _ :: l => ownsOf l
/-- The cells of an argument: of a struct, or the one. -/
def cellsOf : Bool → D → List D
  | true, .agg ds => ds
  | true, _ => []
  | false, d => [d]
def isAgg : D → Bool
  | .agg _ => true
  | _ => false
def keepB (hp : List Blk) (is : List Nat) (j : Nat) : Bool := match memN j is with
  | true => false
  | false => match hp[j]? with
    | some (.cells _ _) => true
    | some (.arr _ _ _ true) => true
    | some (.fr _ _) => true
    | some (.cust _) => true
    | _ => false
/-- What a marked entry reads as, then. -/
def repl : List D → List D → Nat → D
  | .own j :: l, d :: l', i => match Nat.beq j i with | true => d | false => repl l l' i
  | _ :: l, _ :: l', i => repl l l' i
  | _, _, _ => .no

section
variable {P : Program} {w0 w w' : World} {A : Nat → Prop} {n : Nat} {sl : List (Nat × D)} {hp : List Blk} {ms ms' : List Ent} {a : Act}

theorem cellM_ok (hr : Rel w0 A ms ⟨n, sl, hp⟩ a w) {d d' : D} {u : Value} (h : VX ms w (OkB w0.heap.size A ms w) d u) (hd : cellM hp d = some d') :
    ∃ bs, VR w d' u bs ∧ bs.Nodup ∧ (∀ k ∈ bs, Un w k) ∧ ∀ k ∈ bs, ∃ i e, d = .own i ∧ ms[i]? = some e ∧ k ∈ e.top.toList ++ e.nest := by
  unfold cellM at hd
  split at hd
  · simp only [Option.some.injEq] at hd; subst hd
    obtain ⟨rfl, h1⟩ := h.lit_inv; exact ⟨[], .lit h1, by simp, by simp, by simp⟩
  · simp only [Option.some.injEq] at hd; subst hd
    rw [h.nil_inv]; exact ⟨[], .nil, by simp, by simp, by simp⟩
  · rename_i i
    split at hd
    · rename_i T m xs hb
      simp only [Option.some.injEq] at hd; subst hd
      obtain ⟨e, hi, rfl, _⟩ := h.own_inv
      obtain ⟨us, bs, h1, h2, h3, h4, h5, h6⟩ := hr.ents i _ e hb hi
      have hself := owned_self hr.nodup hi
      obtain ⟨hlen, ⟨hv, h0⟩ | ⟨g, cap, cur, hv, hg, hh, c1, c2, c3, c4⟩⟩ := h1
      · have : xs = [] := List.length_eq_zero_iff.1 h0
        subst this
        exact ⟨[], by rw [hv]; exact .shnil (by omega) (fun _ => rfl), by simp, by simp, by simp⟩
      · have ht : e.top = some g := by rw [h4, hv]; rfl
        rw [ht, h5] at hself
        refine ⟨g :: bs, ?_, by simpa using hself, ?_, ?_⟩
        · rw [hv]
          unfold maxLen at c2
          refine .sh h2 c1 (by omega) (Array.getElem?_eq_some_iff.1 hh).1 h3 ?_
          intro j hj
          have : us[j]? = cur[j]? := by
            rw [← c4, List.getElem?_take, if_pos (by omega), Array.getElem?_toList]
          rw [this, Nat.zero_add]
          simp [World.cell?, hh]
        · intro k hk
          rcases List.mem_cons.1 hk with rfl | hk
          · exact ⟨cur, _, hh⟩
          · exact h6 k hk
        · intro k hk
          refine ⟨i, e, rfl, hi, ?_⟩
          rw [ht, h5]; simpa using hk
    · rename_i m xs hb
      simp only [Option.some.injEq] at hd; subst hd
      obtain ⟨e, hi, rfl, _⟩ := h.own_inv
      obtain ⟨h1, h2, h3⟩ := hr.ents i _ e hb hi
      have hself := owned_self hr.nodup hi
      rw [h1] at hself
      exact ⟨e.nest, h2, by simpa using hself, h3, fun k hk => ⟨i, e, rfl, hi, List.mem_append_right _ hk⟩⟩
    · simp at hd
  · simp at hd
theorem cellsMK_ok {α : Type} (hr : Rel w0 A ms ⟨n, sl, hp⟩ a w) : ∀ {ds : List D} {us : List Value} {k : List D → Option α} {r : α}, VXs ms w (OkB w0.heap.size A ms w) ds us → (ownsOf ds).Nodup → cellsMK hp ds k = some r →
    ∃ l bs, VRs w l us bs ∧ bs.Nodup ∧ (∀ k ∈ bs, Un w k) ∧ (∀ k ∈ bs, ∃ i e, i ∈ ownsOf ds ∧ ms[i]? = some e ∧ k ∈ e.top.toList ++ e.nest) ∧ k l = some r
  | [], _, _, _, .nil, _, h => ⟨[], [], .nil, by simp, by simp, by simp, h⟩
  | d :: ds, _, k, r, .cons h h', hnd, hk => by
    simp only [cellsMK] at hk
    split at hk
    · rename_i d' hd
      have hsub : ∀ i, i ∈ ownsOf ds → i ∈ ownsOf (d :: ds) := by intro i hi; cases d <;> simp [ownsOf, hi]
      have hnd' : (ownsOf ds).Nodup := by
        cases d <;> simp only [ownsOf] at hnd <;> first | exact hnd | exact (List.nodup_cons.1 hnd).2
      obtain ⟨b1, p1, p2, p3, p4⟩ := cellM_ok hr h hd
      obtain ⟨l, b2, q1, q2, q3, q4, q5⟩ := cellsMK_ok hr h' hnd' hk
      refine ⟨_, _, .cons p1 q1, List.nodup_append.2 ⟨p2, q2, ?_⟩, ?_, ?_, q5⟩
      · intro x hx y hy hxy
        subst hxy
        obtain ⟨i, e, rfl, e1, e2⟩ := p4 x hx
        obtain ⟨j, e', hj, f1, f2⟩ := q4 x hy
        simp only [ownsOf] at hnd
        have hne : i ≠ j := by rintro rfl; exact (List.nodup_cons.1 hnd).1 hj
        exact owned_disjoint hr.nodup hne e1 f1 e2 f2
      · intro x hx
        rcases List.mem_append.1 hx with hx | hx
        · exact p3 x hx
        · exact q3 x hx
      · intro x hx
        rcases List.mem_append.1 hx with hx | hx
        · obtain ⟨i, e, rfl, e1, e2⟩ := p4 x hx
          exact ⟨i, e, by simp [ownsOf], e1, e2⟩
        · obtain ⟨j, e', hj, f1, f2⟩ := q4 x hx
          exact ⟨j, e', hsub j hj, f1, f2⟩
    · simp at hk
theorem repl_ok : ∀ {ds l : List D} {us : List Value} {bs : List Nat} {Ok Ok' : Nat → Prop} {i : Nat} {e : Ent}, VXs ms w Ok ds us → VRs w' l us bs → (∀ k ∈ bs, Ok' k) → ms[i]? = some e → VX ms' w' Ok' (repl ds l i) e.v
  | [], l, _, _, _, _, i, e, .nil, h, _, _ => by cases h; exact .no
  | d :: ds, l, _, _, Ok, Ok', i, e, .cons hd hds, h, hok, he => by
    cases h with
    | cons h1 h2 =>
      rename_i d' b1 ds' b2
      have ih : VX ms' w' Ok' (repl ds ds' i) e.v := repl_ok hds h2 (fun k hk => hok k (List.mem_append_right _ hk)) he
      cases d with
      | own j =>
        simp only [repl]
        cases hj : Nat.beq j i
        · exact ih
        · have := Nat.eq_of_beq_eq_true hj
          subst this
          obtain ⟨e', f1, rfl, _⟩ := hd.own_inv
          rw [he] at f1; cases f1
          exact .rd h1 fun k hk => hok k (List.mem_append_left _ hk)
      | _ => exact ih
theorem keepB_ok {is : List Nat} (j : Nat) (b : Blk) (hk : keepB hp is j = true) (hb : hp[j]? = some b) : (∃ t ds, b = .cells t ds) ∨ (∃ m xs, b = .fr m xs) ∨ (∃ t m xs, b = .arr t m xs true) ∨ ∃ R, b = .cust R := by
  unfold keepB at hk
  split at hk
  · exact Bool.noConfusion hk
  · rw [hb] at hk
    split at hk
    · rename_i h; cases h; exact Or.inl ⟨_, _, rfl⟩
    · rename_i h; cases h; exact Or.inr (Or.inr (Or.inl ⟨_, _, _, rfl⟩))
    · rename_i h; cases h; exact Or.inr (Or.inl ⟨_, _, rfl⟩)
    · rename_i h; cases h; exact Or.inr (Or.inr (Or.inr ⟨_, rfl⟩))
    · exact Bool.noConfusion hk
theorem keepB_no {is : List Nat} {j : Nat} (h : j ∈ is) : keepB hp is j = false := by
  unfold keepB
  rw [memN_iff.2 h]

theorem R_mark {ops : Array Oper} {rest : List Oper} {K : St → Prop} {dst : Tmp} {ty : TypeId} {pos : String} {after : Array Edge} {f : FuncId} {fo x y : Operand} {tys : Array TypeId} {dx : D} {ds : List D} {k v : Int} {out : Option (List D)} {sl' : List (Nat × D)} {hp' : List Blk}
    (hf : evD (look sl) fo = .fn f []) (hx : evD (look sl) x = dx) (hy : evD (look sl) y = .lit (.int .i64 k)) (hds : cellsMK hp (cellsOf (isAgg dx) dx) some = some ds) (hnd : nodupN (ownsOf (cellsOf (isAgg dx) dx)) = true) (hd : Nat.blt dst n = true) (hF : MFn P f (isAgg dx) ds k v out)
    (hs : survSK (keepB hp (ownsOf (cellsOf (isAgg dx) dx))) (repl (cellsOf (isAgg dx) dx) (out.getD [])) sl some = some sl') (hh : survHK (keepB hp (ownsOf (cellsOf (isAgg dx) dx))) (repl (cellsOf (isAgg dx) dx) (out.getD [])) 0 hp some = some hp')
    (hk : WO P w0 A ops rest ⟨n, (dst, .lit (.int .i64 v)) :: sl', hp'⟩ K) : WO P w0 A ops (⟨some dst, .call ⟨.value fo, #[x, y], tys⟩, ty, pos, after, none⟩ :: rest) ⟨n, sl, hp⟩ K := by
  have hs := survSK_eq hs; have hh := survHK_eq hh
  simp only [Option.some.injEq] at hs hh
  subst hs; subst hh
  refine ⟨fun ms a w hr Q hq => ?_⟩
  refine wpList_plain rfl fun Kn hKn => ?_
  obtain ⟨cs, e1, hcs⟩ := (hr.ev_at hf).fn_inv
  cases hcs
  have hvx := hr.ev_at hx
  obtain ⟨ey, _⟩ := (hr.ev_at hy).lit_inv
  have hcells : ∃ us, a.eval x = pack (isAgg dx) us ∧ VXs ms w (OkB w0.heap.size A ms w) (cellsOf (isAgg dx) dx) us := by
    cases dx with
    | agg ds => obtain ⟨us, h1, h2⟩ := hvx.agg_inv; exact ⟨us, h1, h2⟩
    | _ => exact ⟨[a.eval x], rfl, .cons hvx .nil⟩
  obtain ⟨us, e2, hv⟩ := hcells
  obtain ⟨l, bs, h1, h2, h3, h4, h5⟩ := cellsMK_ok hr hv (nodupN_iff hnd) hds
  simp only [Option.some.injEq] at h5
  subst h5
  refine enter_call (run_call (o := ⟨some dst, .call ⟨.value fo, #[x, y], tys⟩, ty, pos, after, none⟩) rfl hF.plain e1) ?_
  have eargs : ((#[x, y].toList.map a.eval) ++ ([] : List Value)).toArray = #[pack (isAgg dx) us, .int .i64 k] := by simp [e2, ey]
  rw [eargs]
  refine (hF.calls w us bs h1 h2 h3).mono ?_
  rintro e w' ⟨rfl, ht, hout⟩
  have hb := hr.ext.size
  have hr' := hr.turned (kp := keepB hp (ownsOf (cellsOf (isAgg dx) dx))) (rp := repl (cellsOf (isAgg dx) dx) (out.getD [])) keepB_ok ht (fun k hk => by
    obtain ⟨i, e, g1, g2, g3⟩ := h4 k hk
    exact ⟨i, e, keepB_no g1, g2, g3⟩) (fun i e hk he => by
      cases out with
      | none =>
        have : ∀ (l : List D), repl l [] i = .no := by intro l; cases l with | nil => rfl | cons d l => cases d <;> rfl
        simp only [Option.getD_none, this]; exact .no
      | some l =>
        refine repl_ok hv (hout l rfl) (fun k hk => ?_) he
        obtain ⟨j, e', g1, g2, g3⟩ := h4 k hk
        have hrg := hr.range k (ent_owned g2 g3)
        refine ⟨Nat.lt_of_lt_of_le hrg.2 ht.size, Or.inl hrg.1, fun hto => ?_⟩
        obtain ⟨m, e'', m1, m2⟩ := mem_tops hto
        rw [survM_get, Nat.zero_add] at m1
        cases hm0 : ms[m]? with
        | none => rw [hm0] at m1; simp at m1
        | some e0 =>
          rw [hm0] at m1
          simp only [Option.map_some, Option.some.injEq] at m1
          cases hkm : keepB hp (ownsOf (cellsOf (isAgg dx) dx)) m with
          | false => rw [hkm] at m1; subst m1; simp at m2
          | true =>
            rw [hkm] at m1; simp only at m1; subst m1
            have hne : m ≠ j := by rintro rfl; rw [keepB_no g1] at hkm; exact Bool.noConfusion hkm
            exact owned_disjoint hr.nodup hne hm0 g2 (by simp [m2]) g3)
  exact ⟨_, rfl, hKn _ _ (hk.run _ _ w' (Rel.put (t := some dst) hr' (VX.of_lit hF.small) (dstOk_all (s := ⟨n, _, _⟩) (t := some dst) hd)) Q hq)⟩
theorem R_markZ {ops : Array Oper} {rest : List Oper} {K : St → Prop} {dst : Tmp} {ty : TypeId} {pos : String} {after : Array Edge} {f : FuncId} {fo x y : Operand} {tys : Array TypeId} {dx : D} {g : Bool} {ds : List D} {k v : Int} {out : Option (List D)} {sl' : List (Nat × D)} {hp' : List Blk}
    (hf : evD (look sl) fo = .fn f []) (hF : MFn P f g ds k v out) (hx : evD (look sl) x = dx) (hg : isAgg dx = g) (hy : evD (look sl) y = .lit (.int .i64 k)) (hds : cellsMK hp (cellsOf (isAgg dx) dx) some = some ds) (hnd : nodupN (ownsOf (cellsOf (isAgg dx) dx)) = true) (hd : Nat.blt dst n = true)
    (hs : survSK (keepB hp (ownsOf (cellsOf (isAgg dx) dx))) (repl (cellsOf (isAgg dx) dx) (out.getD [])) sl some = some sl') (hh : survHK (keepB hp (ownsOf (cellsOf (isAgg dx) dx))) (repl (cellsOf (isAgg dx) dx) (out.getD [])) 0 hp some = some hp')
    (hk : WO P w0 A ops rest ⟨n, (dst, .lit (.int .i64 v)) :: sl', hp'⟩ K) : WO P w0 A ops (⟨some dst, .call ⟨.value fo, #[x, y], tys⟩, ty, pos, after, none⟩ :: rest) ⟨n, sl, hp⟩ K := by
  subst hg; exact R_mark hf hx hy hds hnd hd hF hs hh hk
end
end Go.Proofs.YtcpjhpjlcgcigaaGreatDoor
