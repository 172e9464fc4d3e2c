/- An array of the call's own that is read elsewhere while it goes into another one; functions that change an array in its place and hand back the same slice. No condition. -/
import Derived.Test.YtcbfpeplcbgpjaaInp
import Derived.Test.YtcbfpeplcbgpjaaTidy
set_option linter.unusedSimpArgs false
set_option linter.unusedVariables false
namespace Go.Proofs.Ytcbfpeplcbgpjaa
open Go.ChangeShapes Go.WideShapes Go.ChangeAt Go.RowKit

section
variable {P : Program} {w0 w w' : World} {A : Nat → Prop} {n : Nat} {sl : List (Nat × D)} {hp : List Blk} {ms : List Ent} {a : Act} {i : Nat} {e : Ent}
variable {ops : Array Oper} {rest : List Oper} {K : St → Prop} {dst : Tmp} {ty : TypeId} {pos : String} {after : Array Edge} {hp2 : List Blk}
/-- The call, its array the same slice still, and handed back. -/
theorem R_inpSame {f : FuncId} {fo x0 : Operand} {tys : Array TypeId} {l l' : List Int} {T : TypeId} (hf : evD (look sl) fo = .fn f []) (hF : InpI P f l l' (some l.length)) (hx : evD (look sl) x0 = .own i) (hb : hp[i]? = some (.arr T 1 (ints l) true)) (hd : Nat.blt dst n = true) (hh : setK i (.arr T 1 (ints l') true) hp some = some hp2) (hK : WO P w0 A ops rest ⟨n, (dst, .own i) :: sl, hp2⟩ K) :
    WO P w0 A ops (⟨some dst, .call ⟨.value fo, #[x0], tys⟩, ty, pos, after, none⟩ :: rest) ⟨n, sl, hp⟩ K := by
  have hh := setK_eq hh
  simp only [Option.some.injEq] at hh
  subst hh
  refine ⟨fun ms a w hr Q hq => ?_⟩
  refine wpList_plain rfl fun Kn hKn => ?_
  obtain ⟨e, hi, ev, hsl⟩ := (hr.ev_at hx).own_inv
  obtain ⟨cs, e1, hcs⟩ := (hr.ev_at hf).fn_inv
  cases hcs
  have fin : ∀ w', Rel w0 A ms ⟨n, sl, hp.set i (.arr T 1 (ints l') true)⟩ a w' → Kn (a.put (some dst) e.v) w' := fun w' hr' =>
    hKn _ _ (hK.run _ _ w' (Rel.put (t := some dst) hr' (.own hi hsl) (dstOk_all (s := ⟨n, _, _⟩) (t := some dst) hd)) Q hq)
  refine enter_call (run_call (o := ⟨some dst, .call ⟨.value fo, #[x0], tys⟩, ty, pos, after, none⟩) rfl hF.plain e1) ?_
  simp only [List.map_cons, List.map_nil, List.append_nil, ev]
  rcases own_ints hr hi hb with ⟨hv, hl0⟩ | ⟨g, cap, cur, hv, hg0, hh, c1, c2, c3, c4, ht, hne, hwf⟩
  · rw [hv]
    refine (hF.none hl0 w).mono ?_
    rintro e' w' ⟨rfl, rfl⟩
    have hl' : l' = [] := List.length_eq_zero_iff.1 (by rw [hF.len, hl0]; rfl)
    have e2 : hp.set i (.arr T 1 (ints l') true) = hp := by
      rw [hl', ← hl0]
      refine List.ext_getElem? fun q => ?_
      by_cases hq2 : q = i
      · subst hq2
        rw [List.getElem?_set_self (List.getElem?_eq_some_iff.1 hb).1, hb]
      · rw [List.getElem?_set_ne (Ne.symm hq2)]
    have := fin w' (by rw [e2]; exact hr)
    rw [hv] at this
    exact ⟨_, rfl, this⟩
  · rw [hv]
    refine (hF.calls w g cap (Array.getElem?_eq_some_iff.1 hh).1 (holds_of hh c4) c1 c2).mono ?_
    rintro e' w' ⟨rfl, q, os, hw⟩
    have := fin w' (hr.inp hi hb hv hg0 hh c1 c2 c3 ht hne (fun x hx => by
      rcases hF.mem x hx with rfl | h
      · omega
      · exact hwf x h) hF.len hw)
    rw [hv] at this
    exact ⟨_, rfl, this⟩

/-- An array of the call's own is only read from now on; a variable that holds it is told as what it reads as. -/
theorem Rel.freeze (hr : Rel w0 A ms ⟨n, sl, hp⟩ a w) {k c m : Nat} {T Tc : TypeId} {xs : List (List D)} (hb : hp[k]? = some (.arr T m xs true)) (hc : hp[c]? = some (.cells Tc [.own k])) (hkc : k ≠ c) {t : Nat} (ht0 : look sl t = .own k) : ∃ ms', Rel w0 A ms' ⟨n, (t, .own k) :: killS (isI k) sl, (newH (isI k) noneI k (.fr m xs) 0 hp).set c (.cells Tc [.sh m xs])⟩ a w := by
  have hkl : k < ms.length := by rw [hr.len]; exact (List.getElem?_eq_some_iff.1 hb).1
  obtain ⟨e, hi⟩ : ∃ e, ms[k]? = some e := ⟨_, List.getElem?_eq_getElem hkl⟩
  obtain ⟨us, bs, o1, o2, o3, o4, o5⟩ := hr.ents k _ e hb hi
  simp only [if_true] at o5
  obtain ⟨o5, o6⟩ := o5
  -- what it reads as
  have hvr : VR w (.sh m xs) e.v (e.top.toList ++ e.nest) ∧ ∀ q ∈ e.top.toList ++ e.nest, Un w q := by
    obtain ⟨hl, ⟨hv, h0⟩ | ⟨g, cap, cur, hv, hg, hh, c1, c2, c3, c4⟩⟩ := o1
    · have hx : xs = [] := List.length_eq_zero_iff.1 h0
      subst hx
      have ht : e.top = none := by rw [o4, hv]; rfl
      have hbs : bs = [] := by
        simp only [List.flatten_nil] at o3; cases o3; rfl
      rw [hv, ht, o5, hbs]
      exact ⟨.shnil (by omega) fun _ => rfl, by simp⟩
    · have ht : e.top = some g := by rw [o4, hv]; rfl
      rw [hv, ht, o5]
      unfold maxLen at c2
      refine ⟨.sh o2 c1 (by omega) (Array.getElem?_eq_some_iff.1 hh).1 o3 ?_, ?_⟩
      · intro q hq
        have : us[q]? = cur[q]? := by rw [← c4, List.getElem?_take, if_pos (by omega), Array.getElem?_toList]
        rw [this, Nat.zero_add]
        simp [World.cell?, hh]
      · intro q hq
        rcases List.mem_cons.1 hq with rfl | hq
        · exact ⟨cur, T, hh⟩
        · exact o6 q hq
  let e' : Ent := ⟨e.v, none, e.top.toList ++ e.nest⟩
  have hget : ∀ j, (ms.set k e')[j]? = if j = k then some e' else ms[j]? := by
    intro j
    by_cases h : j = k
    · subst h; rw [if_pos rfl, List.getElem?_set_self hkl]
    · rw [if_neg h, List.getElem?_set_ne (Ne.symm h)]
  have htops : ∀ q ∈ tops (ms.set k e'), q ∈ tops ms := by
    intro q hq
    obtain ⟨j, x, h1, h2⟩ := mem_tops hq
    rw [hget] at h1
    split at h1
    · cases h1; cases h2
    · exact tops_mem h1 h2
  have hOk : ∀ q, OkB w0.heap.size A ms w q → OkB w0.heap.size A (ms.set k e') w q := fun q ⟨h1, h2, h3⟩ => ⟨h1, h2, fun h => h3 (htops q h)⟩
  have hown : owned (ms.set k e') = owned ms := by
    have : ∀ (l : List Ent) (k : Nat), l[k]? = some e → owned (l.set k e') = owned l := by
      intro l
      induction l with
      | nil => intro k h; simp at h
      | cons x l ih =>
        intro k h
        cases k with
        | zero => simp at h; subst h; simp [owned, e']
        | succ k => simp only [List.getElem?_cons_succ] at h; simp only [List.set_cons_succ, owned, List.flatMap_cons] at ih ⊢; rw [ih k h]
    exact this ms k hi
  have hself := owned_self hr.nodup hi
  have hnt : ∀ q ∈ e.top.toList ++ e.nest, OkB w0.heap.size A (ms.set k e') w q := by
    intro q hq
    have hrg := hr.range q (ent_owned hi hq)
    refine ⟨hrg.2, Or.inl hrg.1, fun h => ?_⟩
    obtain ⟨j, x, h1, h2⟩ := mem_tops h
    rw [hget] at h1
    split at h1
    · cases h1; cases h2
    · rename_i hne
      exact owned_disjoint hr.nodup hne h1 hi (k := q) (by rw [h2]; simp) hq
  have hm : ∀ (i : Nat) (x : Ent), isI k i = false → ms[i]? = some x → (ms.set k e')[i]? = some x := by
    intro i x h1 h2
    rw [hget, if_neg]
    · exact h2
    · rintro rfl; simp [isI] at h1
  have hOk' : ∀ q, OkB w0.heap.size A ms w q → w.heap[q]? = w.heap[q]? ∧ OkB w0.heap.size A (ms.set k e') w q := fun q h => ⟨rfl, hOk q h⟩
  refine ⟨ms.set k e', hr.ext, hr.old, hr.size, hr.defers, ?_, by rw [hown]; exact hr.nodup, by rw [hown]; exact hr.range, ?_, ?_⟩
  · simp only [List.length_set, newH_len]; exact hr.len
  · intro j b x hj hx
    simp only at hj
    have hcl : c < (newH (isI k) noneI k (.fr m xs) 0 hp).length := by rw [newH_len]; exact (List.getElem?_eq_some_iff.1 hc).1
    by_cases hjc : j = c
    · subst hjc
      rw [List.getElem?_set_self hcl] at hj
      cases hj
      rw [hget, if_neg (Ne.symm hkc)] at hx
      obtain ⟨b1, us1, q1, q2, q3⟩ := hr.ents j _ x hc hx
      refine ⟨b1, us1, q1, q2, ?_⟩
      cases q3 with
      | cons q3 q4 =>
        cases q4
        obtain ⟨e2, p1, p2, _⟩ := q3.own_inv
        rw [hi] at p1; cases p1
        refine .cons ?_ .nil
        rw [p2]; exact .rd hvr.1 hnt
    · rw [List.getElem?_set_ne (Ne.symm hjc), newH_get] at hj
      obtain ⟨b0, hb0, hb1⟩ := Option.map_eq_some_iff.1 hj
      simp only [Nat.zero_add] at hb1
      rw [hget] at hx
      by_cases hjk : j = k
      · subst hjk
        rw [if_pos rfl] at hb1 hx
        cases hb1; cases hx
        exact ⟨rfl, hvr.1, hvr.2⟩
      · rw [if_neg hjk] at hb1 hx
        have hb1 : b0.kill (isI k) = b := by simpa [noneI] using hb1
        subst hb1
        have h0 := hr.ents j b0 x hb0 hx
        cases b0 with
        | cells t ds =>
          obtain ⟨b1, us1, q1, q2, q3⟩ := h0
          exact ⟨b1, us1, q1, q2, killD_mono hOk' hm q3⟩
        | gone => exact h0
        | cust R => exact h0
        | fr n xs => exact h0
        | arr t n xs deep =>
          obtain ⟨us1, bs1, q1, q2, q3, q4, q5⟩ := h0
          refine ⟨us1, bs1, q1, q2, q3, q4, ?_⟩
          cases deep
          · exact ⟨q5.1, fun q hq => hOk q (q5.2 q hq)⟩
          · exact q5
  · intro x
    simp only [St.get, look]
    split
    · rename_i ex
      subst ex
      have h1 := hr.slots x
      simp only [St.get] at h1
      rw [ht0] at h1
      obtain ⟨e2, p1, p2, p3⟩ := h1.own_inv
      rw [hi] at p1; cases p1
      rw [p2]
      exact VX.own (e := e') (by rw [hget, if_pos rfl]) p3
    · rcases look_kill (p := isI k) (t := x) (l := sl) with h | h
      · rw [h]; exact kill_mono hOk' hm (hr.slots x)
      · rw [h]; exact .no
/-- The same as a step ahead of an operation. -/
theorem WO_freeze (k c t : Nat) {l : List Oper} {m : Nat} {T Tc : TypeId} {xs : List (List D)} {sl' : List (Nat × D)} {hp1 hp2 : List Blk} (ht0 : look sl t = .own k) (hb : hp[k]? = some (.arr T m xs true)) (hc : hp[c]? = some (.cells Tc [.own k])) (hkc : Nat.beq k c = false)
    (hs : killK (isI k) sl (fun l => some l) = some sl') (hh : newK (isI k) noneI k (.fr m xs) 0 hp (fun l => some l) = some hp1) (hh2 : setK c (.cells Tc [.sh m xs]) hp1 some = some hp2) (hk : WO P w0 A ops l ⟨n, (t, .own k) :: sl', hp2⟩ K) : WO P w0 A ops l ⟨n, sl, hp⟩ K := by
  have hs := killK_eq hs; have hh := newK_eq hh; have hh2 := setK_eq hh2
  simp only [Option.some.injEq] at hs hh hh2
  subst hs; subst hh; subst hh2
  refine ⟨fun ms a w hr Q hq => ?_⟩
  obtain ⟨ms', hr'⟩ := hr.freeze hb hc (by intro e; subst e; simp at hkc) ht0
  exact hk.run ms' a w hr' Q hq
/-- append of one slice that lies in a variable and is only read from now on. -/
theorem R_appendRowF {tab : Nat → Option TI} (hT : TabOk P tab) {x y : Operand} {i k j m m' : Nat} {T T2 t : TypeId} {xs xs' : List (List D)} {agg : Bool} {size bytes : Nat} {zero : List Value}
    {k' : TK} {agg' : Bool} {bytes' : Nat} {zero' : List Value} {sl' : List (Nat × D)} {hp' : List Blk} (hx : evD (look sl) x = .own i) (hy : evD (look sl) y = .vec k 1) (hb : hp[i]? = some (.arr T m xs true)) (hc : hp[k]? = some (.cells T2 [.own j])) (hf : hp[j]? = some (.fr m' xs'))
    (ht : tab t = some ⟨.sl T, agg, size, bytes, zero⟩) (hT' : tab T = some ⟨k', agg', m, bytes', zero'⟩) (hm1 : m = 1)
    (hz : Nat.beq zero'.length m = true) (hm : Nat.blt 0 m = true) (hby : Nat.ble bytes' 1024 = true) (hd : Nat.blt dst n = true) (hnd : nodupN [i, k, j] = true) (hs : killK (fun q => memN q [i, k, j]) sl (fun l => some l) = some sl')
    (hh : newK (fun q => memN q [i, k, j]) (fun q => memN q [k, j]) i (.arr T m (xs ++ [[.sh m' xs']]) true) 0 hp (fun l => some l) = some hp') (hlen : xs.length + 1 ≤ 4294967296) (hk : WO P w0 A ops rest ⟨n, (dst, .own i) :: sl', hp'⟩ K) :
    WO P w0 A ops (⟨some dst, .call ⟨.builtin .append, #[x, y], #[t, t]⟩, ty, pos, after, none⟩ :: rest) ⟨n, sl, hp⟩ K := by
  subst hm1
  refine ⟨fun ms a w hr Q hq => ?_⟩
  refine wpList_plain rfl fun Kn hKn => ?_
  obtain ⟨e, hi, e1, hsl⟩ := (hr.ev_at hx).own_inv
  obtain ⟨ek, b, hik, htk, e2⟩ := (hr.ev_at hy).vec_inv
  obtain ⟨b', us, rfl, hh1, hv⟩ := hr.ents k _ ek hc hik
  simp only [Option.some.injEq] at htk
  subst htk
  have hnd' := nodupN_iff hnd
  have hjl : j < ms.length := by rw [hr.len]; exact (List.getElem?_eq_some_iff.1 hf).1
  obtain ⟨ej, hij⟩ : ∃ e, ms[j]? = some e := ⟨_, List.getElem?_eq_getElem hjl⟩
  obtain ⟨f1, f2, f3⟩ := hr.ents j _ ej hf hij
  have hus : us = [ej.v] := by
    cases hv with
    | cons h1 h2 =>
      cases h2
      obtain ⟨e', p1, p2, _⟩ := h1.own_inv
      rw [hij] at p1; cases p1
      rw [p2]
  subst hus
  have hci : memN i [k, j] = false := by
    cases h : memN i [k, j]
    · rfl
    · exact absurd (memN_iff.1 h) (List.nodup_cons.1 hnd').1
  have hsrc : Src w (.slice (some ⟨b', 0, none⟩) 1 1) 1 [[.sh m' xs']] ej.nest := by
    refine ⟨by simp, Or.inr ⟨⟨b', 0, none⟩, 1, [ej.v], rfl, ?_, fun q x hj => ?_⟩⟩
    · have := VRs.cons f2 (VRs.nil (w := w))
      simpa using this
    · have ea : (⟨b', 0, none⟩ : Addr).add q = ⟨b', q, none⟩ := by unfold Addr.add; split <;> simp_all
      rw [ea]; simp [World.cell?, hh1, hj]
  have hmem : ∀ q ∈ ej.nest, ∃ (j' : Nat) (e' : Ent), memN j' [k, j] = true ∧ ms[j']? = some e' ∧ q ∈ e'.top.toList ++ e'.nest := fun q hq => ⟨j, ej, memN_iff.2 (by simp), hij, List.mem_append_right _ hq⟩
  have hnn : ej.nest.Nodup := (List.nodup_append.1 (owned_self hr.nodup hij)).2.1
  obtain ⟨v', w', hrun, ms', r1, e', r2, r3, r4⟩ := hr.append hT (p := fun q => memN q [i, k, j]) (c := fun q => memN q [k, j]) (ty := ty) ht hT' (Nat.eq_of_beq_eq_true hz) (by decide) (Nat.le_of_ble_eq_true hby) hi hb hci (memN_iff.2 (by simp)) (fun q h => memN_iff.2 (List.mem_cons_of_mem _ (memN_iff.1 h))) (by simpa using hlen) hsrc
    hmem hnn (d' := true) (Or.inl ⟨rfl, rfl, rfl, f3⟩)
  have hs' := killK_eq hs; have hh' := newK_eq hh
  simp only [Option.some.injEq] at hs' hh'
  subst hs'; subst hh'
  refine upon_value (run_append_op (ρ' := a.eval) rfl (by rw [e1, e2]; exact hrun)) (hKn _ _ (hk.run ms' _ w' (Rel.put (t := some dst) r1 (by rw [← r3]; exact VX.own r2 (by rw [r3]; exact r4)) (dstOk_all (s := ⟨n, _, _⟩) (t := some dst) hd)) Q hq))
end

/-- tidy over numbers of which each stands once: the same slice, sorted in its place. -/
theorem tidy_I (l : List Int) (hl : l.length ≤ 1000000) (hn : (tidyL l).length = l.length) : InpI Try.prog 137 l (tidyL l) (some l.length) := by
  have hS := Sort_I l hl
  have hsl := sortL_len l
  have hC := Compact_I (sortL l) (by omega)
  have ec : Go.Lib.compact (sortL l) = tidyL l := rfl
  have e0 : (sortL l).length - (Go.Lib.compact (sortL l)).length = 0 := by rw [ec]; omega
  rw [e0, List.replicate_zero, List.append_nil, ec, hn] at hC
  refine ⟨plain_of Try.func137 (by kernel_rfl) (by kernel_rfl), hn, fun c hc => by cases hc; exact Nat.le_refl _, fun x hx => Or.inr ((tidyL_mem l x).1 hx), fun w g cap hg hH hc hm => ?_, fun h0 w => ?_⟩
  · have H1 : Hid (Calls Try.prog 180 #[.slice (some ⟨g, 0, none⟩) l.length cap] w fun e w' => e = .returned (.tuple #[]) ∧ ∃ q os, w' = Go.Sort.grow (Go.Sort.putRow (Value.int .i64) (Go.Sort.ahead w q) g 0 (sortL l).toArray) os) := Lib.hid (hS.calls w g cap hg hH hc hm)
    show Calls Try.prog 137 #[.slice (some ⟨g, 0, none⟩) l.length cap] w fun e w' => e = .returned (.slice (some ⟨g, 0, none⟩) l.length cap) ∧ ∃ q os, w' = Go.Sort.grow (Go.Sort.putRow (Value.int .i64) (Go.Sort.ahead w q) g 0 (tidyL l).toArray) os
    have H2 : Hid (∀ q os, Calls Try.prog 181 #[.slice (some ⟨g, 0, none⟩) l.length cap] (Go.Sort.grow (Go.Sort.putRow (Value.int .i64) (Go.Sort.ahead w q) g 0 (sortL l).toArray) os) fun e w' => e = .returned (.slice (some ⟨g, 0, none⟩) l.length cap) ∧ ∃ q2 os2, w' = Go.Sort.grow (Go.Sort.putRow (Value.int .i64) (Go.Sort.ahead (Go.Sort.grow (Go.Sort.putRow (Value.int .i64) (Go.Sort.ahead w q) g 0 (sortL l).toArray) os) q2) g 0 (tidyL l).toArray) os2) := Lib.hid fun q os => by
      have h := hC.calls (Go.Sort.grow (Go.Sort.putRow (Value.int .i64) (Go.Sort.ahead w q) g 0 (sortL l).toArray) os) g cap (by simp only [Go.Sort.size_grow, Go.Sort.size_putRow]; exact Nat.lt_of_lt_of_le hg (Nat.le_add_right _ _)) (Go.Sort.holds_grow _ _ _ _ _ _ (by rw [Go.Sort.size_putRow]; exact hg) (Go.Sort.holds_putRow _ _ _ _ l.toArray _ (Go.Sort.holds_ahead _ _ _ _ _ _ hH) (by simp [hsl]))) (by omega) hm
      simp only [hsl] at h
      exact h
    have HG := Lib.hid hg
    have HZ : Hid ((tidyL l).toArray.size = (sortL l).toArray.size) := Lib.hid (by simp [hsl, hn])
    clear hS hC hH hg
    go_enter Try.func137, Try.ntmps137
    go_wp2_with fail
    refine H1.out.mono ?_
    rintro e w1 ⟨rfl, q, os, rfl⟩
    go_wp2_with fail
    refine (H2.out q os).mono ?_
    rintro e w1 ⟨rfl, q2, os2, rfl⟩
    go_wp2
    go_ret
    refine ⟨rfl, q + q2, os ++ os2, ?_⟩
    rw [Go.Sort.grow_step_grow _ _ _ _ _ _ _ _ _ _ HG.out HZ.out]
  · subst h0
    have H1 : Hid (Calls Try.prog 180 #[.slice none 0 0] w fun e w' => e = .returned (.tuple #[]) ∧ w' = w) := Lib.hid (hS.none rfl w)
    have H2 : Hid (Calls Try.prog 181 #[.slice none 0 0] w fun e w' => e = .returned (.slice none 0 0) ∧ w' = w) := Lib.hid (hC.none (List.length_eq_zero_iff.1 hsl) w)
    show Calls Try.prog 137 #[.slice none 0 0] w fun e w' => e = .returned (.slice none 0 0) ∧ w' = w
    clear hS hC hl hn hsl ec e0
    go_enter Try.func137, Try.ntmps137
    go_wp2_with fail
    refine H1.out.mono ?_
    rintro e w1 ⟨rfl, rfl⟩
    go_wp2_with fail
    refine H2.out.mono ?_
    rintro e w1 ⟨rfl, rfl⟩
    go_wp2
    go_ret
    exact ⟨rfl, rfl⟩
end Go.Proofs.Ytcbfpeplcbgpjaa
