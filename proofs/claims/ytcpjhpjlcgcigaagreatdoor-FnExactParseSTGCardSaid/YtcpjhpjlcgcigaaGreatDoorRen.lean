/- Symbolic states: functions that are handed an array of the caller's own, to change it and to hand it back. No condition. Functions that are handed a pointer to a variable of the caller's own, with the arrays behind it, and change it. No condition. Calls of functions that change a variable of the caller's own: the caller's side. No condition. Symbolic states: functions whose first result lies in a variable; functions that hand back what they are handed. No condition. Functions that hand back the address of a variable of their own, and an array that lies in it. No condition. Entries renumbered, in variables too. No condition. -/
import Derived.Test.YtcpjhpjlcgcigaaGreatDoorAbsS
import Derived.Test.YtcpjhpjlcgcigaaGreatDoorLibc
import Derived.Lib.SliceRun
import Derived.Test.YtcpjhpjlcgcigaaGreatDoorAbsY
set_option linter.unusedSimpArgs false
set_option linter.unusedVariables false
namespace Go.Proofs.YtcpjhpjlcgcigaaGreatDoor
open Go.ChangeShapes Go.WideShapes Go.ChangeAt Go.RowKit

/-- The world cut to its first blocks. -/
def cutW (w : World) (base : Nat) : World := { w with heap := w.heap.extract 0 base }
theorem cutW_size {w : World} {base : Nat} (h : base ≤ w.heap.size) : (cutW w base).heap.size = base := by simp [cutW]; omega
theorem cutW_ext {w : World} {base : Nat} (h : base ≤ w.heap.size) : Ext (cutW w base) w := by
  refine ⟨rfl, rfl, rfl, by rw [cutW_size h]; exact h, fun k hk => ?_⟩
  rw [cutW_size h] at hk
  simp only [cutW, Array.getElem?_extract]
  rw [if_pos (by omega)]; simp

/-- Behind a call that was handed the array e0: what was not its own is as it was. -/
structure PostM (base : Nat) (e0 : Ent) (d : D) (rh : List Blk) (ms : List Ent) (v : Value) (w w' : World) : Prop where
  os : w'.os = w.os
  tape : w'.tape = w.tape
  output : w'.output = w.output
  size : base ≤ w'.heap.size
  block : ∀ k, k < w.heap.size → k ∉ owned [e0] → w'.heap[k]? = w.heap[k]?
  len : ms.length = rh.length
  nodup : (owned ms).Nodup
  range : ∀ k ∈ owned ms, base ≤ k ∧ k < w'.heap.size ∧ (k < w.heap.size → k ∈ owned [e0])
  ents : ∀ (i : Nat) (b : Blk) (e : Ent), rh[i]? = some b → ms[i]? = some e → EntR base ms w' (OkB base (fun k => k < base) ms w') b e
  val : VX ms w' (OkB base (fun k => k < base) ms w') d v

/-- The function f, called with an array of the caller's own that b tells of (.own 0 in ds) and with values that read as ds tells, hands back d over rh; the array is then no more the caller's. -/
structure FnM (P : Program) (f : FuncId) (b : Blk) (ds : List D) (d : D) (rh : List Blk) : Prop where
  plain : ∀ args w, (callFunc f args).run P w = .ok (.enter f args) w
  arrs : rh.all Blk.isArr = true
  deep : rh.all Blk.isDeep = true
  calls : ∀ (base : Nat) (w : World) (e0 : Ent) (us : List Value), base ≤ w.heap.size → (owned [e0]).Nodup → (∀ k ∈ owned [e0], base ≤ k ∧ k < w.heap.size) → EntR base [e0] w (OkB base (fun k => k < base) [e0] w) b e0 →
    VXs [e0] w (OkB base (fun k => k < base) [e0] w) ds us → Calls P f us.toArray w fun e w' => ∃ v ms, e = .returned v ∧ PostM base e0 d rh ms v w w'

inductive retM (rs : Array ResultVar) (d : D) (rh : List Blk) (R : World → Value → Option Nat → List Nat → Prop) : Exit → St → Prop
  | r {s : St} : RetS rs d rh s → s.heap[1]? = some (.cust R) → retM rs d rh R .ret s
  | n {s : St} : RetS rs d rh s → s.heap[1]? = some (.cust R) → retM rs d rh R .normal s

def noCust : Blk → Bool
  | .cust _ => false
  | _ => true

theorem look_argM {ms : List Ent} {w : World} {Ok : Nat → Prop} (r : List Value) : ∀ {ds : List D} {us : List Value}, VXs ms w Ok ds us → ∀ (i t : Nat) (u : Value), (i ≤ t → u = (us ++ r).getD (t - i) undef) → VX ms w Ok (look (argSlots i ds) t) u
  | _, _, .nil, _, _, _, _ => .no
  | _, _, .cons hd hs, i, t, u, hu => by
    simp only [argSlots, look]
    split
    · rename_i e
      subst e
      rw [hu (Nat.le_refl _), Nat.sub_self]; exact hd
    · rename_i e
      refine look_argM r hs (i + 1) t u fun h => ?_
      rw [hu (by omega), show t - i = (t - (i + 1)) + 1 by omega]; rfl

def frozenE (v : Value) (l : List Nat) : Ent := ⟨v, none, l⟩
theorem owned_frozen (e0 : Ent) (v : Value) (l : List Nat) : owned [e0, frozenE v l] = owned [e0] ++ l := by simp [owned, frozenE]
theorem tops_frozen (e0 : Ent) (v : Value) (l : List Nat) : tops [e0, frozenE v l] = tops [e0] := by cases h : e0.top <;> simp [tops, frozenE, List.filterMap_cons, h]

theorem FnM_of {P : Program} {f : FuncId} {fn : Func} {c : Code} {b : Blk} {ds : List D} {d : D} {rh : List Blk} (hf : P.funcs[f]? = some fn) (hb : fn.body = some c) (hname : (fn.name == "runtime.NumGoroutine") = false) (hn : Nat.ble ds.length fn.ntmps = true)
    (hrh : rh.all Blk.isArr = true) (hdp : rh.all Blk.isDeep = true) (hnc : rh.all noCust = true) (hba : b.isArr = true)
    (h : ∀ w0 A R, W P w0 A c ⟨fn.ntmps, argSlots 0 ds, [b, .cust R]⟩ (retM fn.results d rh R)) : FnM P f b ds d rh := by
  refine ⟨?_, hrh, hdp, ?_⟩
  · intro args w
    have h1 : ¬ fn.name = "runtime.NumGoroutine" := by simpa using hname
    have h2 : ¬ fn.body = none := by rw [hb]; simp
    simp [callFunc, program, Sem.run, go_sem, hf, h1, h2]
  · intro base w e0 us hbase hnd hrg hE hus
    have hl := hus.len
    have hn' : ds.length ≤ fn.ntmps := Nat.le_of_ble_eq_true hn
    have hz := cutW_size hbase
    let fz := (List.range w.heap.size).filter fun k => decide (base ≤ k ∧ k ∉ owned [e0])
    have hfz : ∀ k, k ∈ fz ↔ k < w.heap.size ∧ base ≤ k ∧ k ∉ owned [e0] := by intro k; simp only [fz, List.mem_filter, List.mem_range, decide_eq_true_eq]
    let R : World → Value → Option Nat → List Nat → Prop := fun w2 _ top nest => top = none ∧ nest = fz ∧ ∀ k ∈ nest, w2.heap[k]? = w.heap[k]?
    let ms := [e0, frozenE undef fz]
    have hok : ∀ k, OkB base (fun k => k < base) [e0] w k → OkB base (fun k => k < base) ms w k := by
      rintro k ⟨k1, k2, k3⟩; exact ⟨k1, k2, by rw [show ms = [e0, frozenE undef fz] from rfl, tops_frozen]; exact k3⟩
    have hrun := (h (cutW w base) (fun k => k < base) R).run ms { tmps := us.toArray ++ Array.replicate (fn.ntmps - us.toArray.size) undef, defers := [] } w ?_
    · refine calls_of_wp hf hb (Code.wp_mono ?_ hrun)
      rintro e a' w' ⟨ms', s, hr, hq⟩
      have key : RetS fn.results d rh s → s.heap[1]? = some (.cust R) → a'.defers = [] ∧ ∃ v, (results fn a'.tmps).run P w' = .ok v w' ∧ ∃ v' ms, Ending.returned v = .returned v' ∧ PostM base e0 d rh ms v' w w' := by
        rintro ⟨dd, js, h1, h2, h3, h4⟩ hc
        obtain ⟨v, h5, h6⟩ := results_ok (P := P) h1 hr
        have hpost := hr.post h3 h4 h6 h2
        have hlt : 1 < ms'.length := by rw [hr.len]; exact (List.getElem?_eq_some_iff.1 hc).1
        have hm1 : ms'[1]? = some ms'[1] := List.getElem?_eq_getElem hlt
        obtain ⟨⟨r1, r2, r3⟩, _⟩ := hr.ents 1 _ _ hc hm1
        have hx : Below base (cutW w base) w' := by have := hpost.ext; unfold Ext at this; rwa [hz] at this
        have hpick : ∀ k ∈ owned (js.map (pickE ms')), k ∉ fz := by
          intro k hk hk2
          obtain ⟨i, e, hi, hie, hke⟩ := mem_pick hk
          have hi1 : i ≠ 1 := by
            rintro rfl
            obtain ⟨j, hj⟩ := List.getElem?_of_mem hi
            have hjl : j < rh.length := by rw [← rhOk_len h3]; exact (List.getElem?_eq_some_iff.1 hj).1
            rcases rhOk_get h3 (List.getElem?_eq_getElem hjl) with ⟨i', q1, q2, _⟩ | ⟨q1, _⟩
            · rw [hj] at q1; cases q1
              rw [hc] at q2
              simp only [Option.some.injEq] at q2
              have := (List.all_eq_true.1 hnc) _ (List.getElem_mem hjl)
              rw [← q2] at this; cases this
            · rw [hj] at q1; cases q1
          exact owned_disjoint hr.nodup hi1 hie hm1 hke (List.mem_append_right _ (by rw [r2]; exact hk2))
        refine ⟨hr.defers, v, h5, v, _, rfl, hx.os, hx.tape, hx.output, by have := hx.size; rwa [hz] at this, ?_, hpost.len, hpost.nodup, ?_, ?_, ?_⟩
        · intro k hk hko
          by_cases hkb : k < base
          · rw [hx.block k hkb]
            simp only [cutW, Array.getElem?_extract]
            rw [if_pos (by omega)]; simp
          · exact r3 k (by rw [r2]; exact (hfz k).2 ⟨hk, by omega, hko⟩)
        · intro k hk
          have hk1 := hpost.range k hk
          rw [hz] at hk1
          refine ⟨hk1.1, hk1.2, fun hlt2 => ?_⟩
          by_cases hko : k ∈ owned [e0]
          · exact hko
          · exact absurd ((hfz k).2 ⟨hlt2, hk1.1, hko⟩) (hpick k hk)
        · intro i b e hi he
          have := hpost.ents i b e hi he
          rwa [hz] at this
        · have := hpost.val
          rwa [hz] at this
      cases hq with
      | r h hc => exact key h hc
      | n h hc => exact key h hc
    · have hown : owned ms = owned [e0] ++ fz := owned_frozen e0 undef fz
      refine ⟨cutW_ext hbase, fun k hk => by rw [hz]; exact hk, by simp; omega, rfl, rfl, ?_, ?_, ?_, fun t => ?_⟩
      · rw [hown]
        refine List.nodup_append.2 ⟨hnd, (List.nodup_range).filter _, fun p hp q hq e => ?_⟩
        subst e
        exact ((hfz p).1 hq).2.2 hp
      · intro k hk
        rw [hown, List.mem_append] at hk
        rw [hz]
        rcases hk with hk | hk
        · exact hrg k hk
        · exact ⟨((hfz k).1 hk).2.1, ((hfz k).1 hk).1⟩
      · intro i b' e hi he
        rw [hz]
        match i, hi, he with
        | 0, hi, he =>
          simp only [ms, List.getElem?_cons_zero, Option.some.injEq] at hi he
          subst hi; subst he
          refine hE.mono (fun k hk => ⟨rfl, hok k hk⟩) (fun _ _ => rfl) (fun _ _ => rfl) fun j e hu _ => ?_
          cases b <;> simp [Blk.isArr] at hba <;> simp [Blk.uses] at hu
        | 1, hi, he =>
          simp only [ms, List.getElem?_cons_succ, List.getElem?_cons_zero, Option.some.injEq] at hi he
          subst hi; subst he
          refine ⟨⟨rfl, rfl, fun _ _ => rfl⟩, fun w2 h2 => ⟨rfl, rfl, fun k hk => h2 k (by simpa [frozenE] using hk)⟩⟩
        | i + 2, hi, _ => simp at hi
      · rw [hz]
        have hus' : VXs ms w (OkB base (fun k => k < base) ms w) ds us := VXs.mono (fun k hk => ⟨rfl, hok k hk⟩) hus fun i e _ hi => by
          rw [show ms = [e0] ++ [frozenE undef fz] from rfl, List.getElem?_append_left (List.getElem?_eq_some_iff.1 hi).1]; exact hi
        refine look_argM (List.replicate (fn.ntmps - us.length) undef) hus' 0 t _ fun _ => ?_
        have e : (us.toArray ++ Array.replicate (fn.ntmps - us.toArray.size) undef) = (us ++ List.replicate (fn.ntmps - us.length) undef).toArray := by
          rw [← List.append_toArray, List.size_toArray, List.toArray_replicate]
        rw [e]; simp [Array.getD_eq_getD_getElem?, List.getD_eq_getElem?_getD]

/-! ### The caller's side -/
section
variable {P : Program} {w0 w w' : World} {A : Nat → Prop} {n : Nat} {sl : List (Nat × D)} {hp : List Blk} {ms mr : List Ent} {a : Act} {i : Nat} {e : Ent}
theorem mem_owned1 {k : Nat} (hn : e.nest = []) : k ∈ owned [e] ↔ e.top = some k := by simp [owned, hn]
theorem mem_tops1 {k : Nat} : k ∈ tops [e] ↔ e.top = some k := by cases h : e.top <;> simp [tops, List.filterMap_cons, h]; exact eq_comm
theorem flat_nest (hr : Rel w0 A ms ⟨n, sl, hp⟩ a w) {T : TypeId} {m : Nat} {xs : List (List D)} (hi : ms[i]? = some e) (hb : hp[i]? = some (.arr T m xs true)) (hf : Flat xs) : e.nest = [] := by
  obtain ⟨us, bs, h1, h2, h3, h4, h5⟩ := hr.ents i _ e hb hi
  rw [h5.1]
  exact VRs.flat (fun d hd => by obtain ⟨r, hr, hd⟩ := List.mem_flatten.1 hd; exact hf r hr d hd) h3

theorem Rel.calledM (hr : Rel w0 A ms ⟨n, sl, hp⟩ a w) {T : TypeId} {m : Nat} {xs : List (List D)} (hi : ms[i]? = some e) (hb : hp[i]? = some (.arr T m xs true)) (hf : Flat xs) {d : D} {rh : List Blk} {v : Value} (harr : rh.all Blk.isArr = true) (hdeep : rh.all Blk.isDeep = true)
    (hp' : PostM w0.heap.size e d rh mr v w w') : Rel w0 A (ms.set i ⟨e.v, none, []⟩ ++ mr) ⟨n, killS (isI i) sl, newH (isI i) noneI i .gone 0 hp ++ rh⟩ a w' := by
  have hne := flat_nest hr hi hb hf
  have hilt : i < ms.length := (List.getElem?_eq_some_iff.1 hi).1
  have hlen : ms.length = hp.length := hr.len
  have hget : ∀ j, (ms.set i ⟨e.v, none, []⟩)[j]? = if j = i then some ⟨e.v, none, []⟩ else ms[j]? := by
    intro j
    by_cases hji : j = i
    · subst hji; rw [if_pos rfl, List.getElem?_set_self hilt]
    · rw [if_neg hji, List.getElem?_set_ne (Ne.symm hji)]
  have hkeep : ∀ k, k < w.heap.size → e.top ≠ some k → w'.heap[k]? = w.heap[k]? := fun k h1 h2 => hp'.block k h1 fun h => h2 ((mem_owned1 hne).1 h)
  have hlt : ∀ k, k < w.heap.size → e.top ≠ some k → k < w'.heap.size := fun k h1 h2 => (Array.getElem?_eq_some_iff.1 ((hkeep k h1 h2).trans (Array.getElem?_eq_getElem h1))).1
  have htop : ∀ j x k, ms[j]? = some x → j ≠ i → k ∈ x.top.toList ++ x.nest → e.top ≠ some k := fun j x k hj hji hk h => owned_disjoint hr.nodup hji hj hi hk (by simp [h])
  have hmr : ∀ k ∈ owned mr, k < w.heap.size → e.top = some k := fun k hk h => (mem_owned1 hne).1 ((hp'.range k hk).2.2 h)
  have hk : ∀ k, OkB w0.heap.size A ms w k → w'.heap[k]? = w.heap[k]? ∧ OkB w0.heap.size A (ms.set i ⟨e.v, none, []⟩ ++ mr) w' k := by
    rintro k ⟨k1, k2, k3⟩
    have hnt : e.top ≠ some k := fun h => k3 (tops_mem hi h)
    refine ⟨hkeep k k1 hnt, hlt k k1 hnt, k2, ?_⟩
    rw [tops_append, List.mem_append]
    rintro (h | h)
    · obtain ⟨j, x, hj, ht⟩ := mem_tops h
      rw [hget] at hj
      split at hj
      · cases hj; cases ht
      · exact k3 (tops_mem hj ht)
    · exact hnt (hmr k (tops_owned h) k1)
  have hm : ∀ (j : Nat) (x : Ent), isI i j = false → ms[j]? = some x → (ms.set i ⟨e.v, none, []⟩ ++ mr)[j]? = some x := by
    intro j x hj hx
    have hji : j ≠ i := by rintro rfl; simp [isI] at hj
    rw [List.getElem?_append_left (by simpa using (List.getElem?_eq_some_iff.1 hx).1), hget, if_neg hji]; exact hx
  refine ⟨?_, hr.old, hr.size, hr.defers, by simp [newH_len, hlen, hp'.len], ?_, ?_, ?_, ?_⟩
  · have hx := hr.ext
    refine ⟨hp'.os.trans hx.os, hp'.tape.trans hx.tape, hp'.output.trans hx.output, hp'.size, fun k hk0 => ?_⟩
    have h1 : k < w.heap.size := Nat.lt_of_lt_of_le hk0 hx.size
    rw [hkeep k h1 fun h => ?_]
    · exact hx.block k hk0
    · have := (hr.range k (ent_owned hi (by simp [h]))).1; omega
  · rw [owned_append]
    refine List.nodup_append.2 ⟨?_, hp'.nodup, ?_⟩
    · refine owned_nodup_of ?_ ?_
      · intro j x hj
        rw [hget] at hj
        split at hj
        · cases hj; simp
        · exact owned_self hr.nodup hj
      · intro j1 j2 x1 x2 k hne2 h1 h2 hk1 hk2
        rw [hget] at h1 h2
        split at h1
        · cases h1; simp at hk1
        · split at h2
          · cases h2; simp at hk2
          · exact owned_disjoint hr.nodup hne2 h1 h2 hk1 hk2
    · intro p hp1 q hq e2
      subst e2
      obtain ⟨j, x, hj, hk2⟩ := mem_owned hp1
      rw [hget] at hj
      split at hj
      · cases hj; simp at hk2
      · rename_i hji
        exact htop j x p hj hji hk2 (hmr p hq (hr.range p (ent_owned hj hk2)).2)
  · intro k hk2
    rw [owned_append, List.mem_append] at hk2
    rcases hk2 with hk2 | hk2
    · obtain ⟨j, x, hj, hk2⟩ := mem_owned hk2
      rw [hget] at hj
      split at hj
      · cases hj; simp at hk2
      · rename_i hji
        have h1 := hr.range k (ent_owned hj hk2)
        exact ⟨h1.1, hlt k h1.2 (htop j x k hj hji hk2)⟩
    · exact ⟨(hp'.range k hk2).1, (hp'.range k hk2).2.1⟩
  · intro j b x hj hx
    by_cases hjl : j < hp.length
    · rw [List.getElem?_append_left (by simpa [newH_len] using hjl), newH_get] at hj
      rw [List.getElem?_append_left (by simpa [hlen] using hjl), hget] at hx
      simp only [Nat.zero_add] at hj
      obtain ⟨b0, hb0, rfl⟩ := Option.map_eq_some_iff.1 hj
      by_cases hji : j = i
      · subst hji
        simp only [if_true, Option.some.injEq] at hx
        rw [if_pos rfl]
        subst hx; exact ⟨rfl, rfl⟩
      · rw [if_neg hji] at hx
        rw [if_neg hji]
        simp only [noneI, Bool.false_eq_true, if_false]
        have hE := hr.ents j b0 x hb0 hx
        have ht : ∀ k, k ∈ x.top.toList ++ x.nest → w'.heap[k]? = w.heap[k]? := fun k hk2 => hkeep k (hr.range k (ent_owned hx hk2)).2 (htop j x k hx hji hk2)
        cases b0 with
        | cells t ds =>
          obtain ⟨b, us, rfl, h2, h3⟩ := hE
          exact ⟨b, us, rfl, by rw [ht b (by simp)]; exact h2, killD_mono hk hm h3⟩
        | gone => exact hE
        | fr n xs => exact hE.mono (ms := ms) (b := .fr n xs) hk (fun k h => ht k (by simp [h])) (fun k h => ht k (List.mem_append_right _ h)) fun _ _ h _ => by simp [Blk.uses] at h
        | cust R => exact hE.mono (ms := ms) (b := .cust R) hk (fun k h => ht k (by simp [h])) (fun k h => ht k (List.mem_append_right _ h)) fun _ _ h _ => by simp [Blk.uses] at h
        | arr t n xs dp => exact hE.mono (ms := ms) (b := .arr t n xs dp) hk (fun k h => ht k (by simp [h])) (fun k h => ht k (List.mem_append_right _ h)) fun _ _ h _ => by simp [Blk.uses] at h
    · rw [List.getElem?_append_right (by simp [newH_len]; omega)] at hj
      rw [List.getElem?_append_right (by simp; omega)] at hx
      simp only [newH_len, List.length_set, hlen] at hj hx
      have hE := hp'.ents _ b x hj hx
      have hbd := List.all_eq_true.1 hdeep _ (List.mem_of_getElem? hj)
      have hba := List.all_eq_true.1 harr _ (List.mem_of_getElem? hj)
      cases b with
      | cells t ds => simp [Blk.isArr] at hba
      | gone => simp [Blk.isArr] at hba
      | fr n xs => exact hE
      | cust R => exact hE
      | arr t n xs dp =>
        simp only [Blk.isDeep] at hbd
        subst hbd
        exact hE
  · intro t
    simp only [St.get]
    rcases look_kill (p := isI i) (t := t) (l := sl) with h | h <;> rw [h]
    · exact kill_mono hk hm (hr.slots t)
    · exact .no

/-- Values that do not lie in the array i. -/
abbrev Av (w0 : World) (e : Ent) (w : World) : Nat → Prop := OkB w0.heap.size (fun k => k < w0.heap.size) [e] w
theorem av_of {k : Nat} (h1 : k < w.heap.size) (h2 : e.top ≠ some k) : Av w0 e w k := ⟨h1, by omega, fun h => h2 (mem_tops1.1 h)⟩
theorem av_ok (hi : ms[i]? = some e) {k : Nat} (h : OkB w0.heap.size A ms w k) : Av w0 e w k := av_of h.1 fun h2 => h.2.2 (tops_mem hi h2)
theorem get_set_gone {j : Nat} {b : Blk} (h : (hp.set i .gone)[j]? = some b) (hb : b.isArr = true ∨ ∃ t ds, b = .cells t ds) : j ≠ i ∧ hp[j]? = some b := by
  by_cases hji : j = i
  · subst hji
    by_cases hl : j < hp.length
    · rw [List.getElem?_set_self hl] at h; cases h
      rcases hb with hb | ⟨t, ds, hb⟩
      · simp [Blk.isArr] at hb
      · cases hb
    · rw [List.getElem?_eq_none (by simpa using Nat.le_of_not_lt hl)] at h; cases h
  · rw [List.getElem?_set_ne (Ne.symm hji)] at h; exact ⟨hji, h⟩

theorem cellV_av (hr : Rel w0 A ms ⟨n, sl, hp⟩ a w) (hi : ms[i]? = some e) {d d' : D} {u : Value} (h : VX ms w (OkB w0.heap.size A ms w) d u) (hd : cellV (hp.set i .gone) d = some d') : ∃ bs, VR w d' u bs ∧ ∀ k ∈ bs, Av w0 e w k := by
  unfold cellV at hd
  split at hd
  · simp only [Option.some.injEq] at hd; subst hd
    obtain ⟨rfl, h1⟩ := h.lit_inv; exact ⟨[], .lit h1, by simp⟩
  · simp only [Option.some.injEq] at hd; subst hd
    rw [h.nil_inv]; exact ⟨[], .nil, by simp⟩
  · simp only [Option.some.injEq] at hd; subst hd
    obtain ⟨bs, h1, h2⟩ := h.sh_inv; exact ⟨bs, h1, fun k hk => av_ok hi (h2 k hk)⟩
  · rename_i j
    split at hd
    · rename_i hb
      simp only [Option.some.injEq] at hd; subst hd
      obtain ⟨hji, hb⟩ := get_set_gone hb (Or.inl rfl)
      obtain ⟨e', hj, rfl, _⟩ := h.own_inv
      obtain ⟨bs, h1, h2⟩ := hr.view hj hb
      exact ⟨bs, h1, fun k hk => av_of (h2 k hk).1 fun ht => owned_disjoint (k := k) hr.nodup hji hj hi (by simp [(h2 k hk).2.2 (tops_mem hi ht)]) (by simp [ht])⟩
    · rename_i hb
      simp only [Option.some.injEq] at hd; subst hd
      obtain ⟨hji, hb⟩ := get_set_gone hb (Or.inl rfl)
      obtain ⟨e', hj, rfl, _⟩ := h.own_inv
      obtain ⟨_, h1, h2⟩ := hr.ents _ _ e' hb hj
      exact ⟨e'.nest, h1, fun k hk => av_of (h2 k hk).lt fun ht => owned_disjoint (k := k) hr.nodup hji hj hi (List.mem_append_right _ hk) (by simp [ht])⟩
    · simp at hd
  · simp at hd
theorem cellsVK_av {α : Type} (hr : Rel w0 A ms ⟨n, sl, hp⟩ a w) (hi : ms[i]? = some e) : ∀ {ds : List D} {us : List Value} {k : List D → Option α} {r : α}, VXs ms w (OkB w0.heap.size A ms w) ds us → cellsVK (hp.set i .gone) ds k = some r → ∃ l bs, VRs w l us bs ∧ (∀ k ∈ bs, Av w0 e w k) ∧ k l = some r
  | [], _, _, _, .nil, h => ⟨[], [], .nil, by simp, h⟩
  | d :: ds, _, k, r, .cons h h', hk => by
    simp only [cellsVK] at hk
    split at hk
    · rename_i d' hd
      obtain ⟨bs, h1, h2⟩ := cellV_av hr hi h hd
      obtain ⟨l, bs', h3, h4, h5⟩ := cellsVK_av hr hi h' hk
      exact ⟨_, _, .cons h1 h3, fun k hk => (List.mem_append.1 hk).elim (h2 k) (h4 k), h5⟩
    · simp at hk
theorem argV_av {α : Type} (hr : Rel w0 A ms ⟨n, sl, hp⟩ a w) (hi : ms[i]? = some e) {d : D} {u : Value} {k : D → Option α} {r : α} (h : VX ms w (OkB w0.heap.size A ms w) d u) (hk : argV (hp.set i .gone) d k = some r) : ∃ d', VX [e] w (Av w0 e w) d' u ∧ k d' = some r := by
  unfold argV at hk
  split at hk
  · obtain ⟨us, b, o, bs, rfl, h1, h2, h3, h4⟩ := h.sptr_inv
    exact ⟨_, .sptr h1 (av_ok hi h2) (fun k hk => av_ok hi (h3 k hk)) h4, hk⟩
  · rename_i j o
    obtain ⟨e', b, hj, ht, rfl⟩ := h.ptr_inv
    split at hk
    · rename_i T ds hb
      obtain ⟨hji, hb⟩ := get_set_gone hb (Or.inr ⟨_, _, rfl⟩)
      obtain ⟨b', us, rfl, h3, h4⟩ := hr.ents j _ e' hb hj
      simp only [Option.some.injEq] at ht
      subst ht
      obtain ⟨h5, h6⟩ := dropK_eq _ _ _ hk
      obtain ⟨l, bs, h7, h8, h9⟩ := cellsVK_av hr hi (h4.drop o) h5
      refine ⟨_, .sptr h7 ?_ h8 ?_, h9⟩
      · exact av_of (Array.getElem?_eq_some_iff.1 h3).1 fun ht => owned_disjoint (k := b') hr.nodup hji hj hi (by simp) (by simp [ht])
      · intro j hj
        simp only [List.length_drop] at hj
        simp [World.cell?, h3]
    · simp at hk
  · obtain ⟨us, rfl, h1⟩ := h.agg_inv
    obtain ⟨l, bs, h7, h8, h9⟩ := cellsVK_av hr hi h1 hk
    exact ⟨_, .agg (VXs.of_rd h7 h8), h9⟩
  · split at hk
    · rename_i d' hd
      obtain ⟨bs, h1, h2⟩ := cellV_av hr hi h hd
      exact ⟨d', .rd h1 h2, hk⟩
    · simp at hk
theorem argsVK_av {α : Type} (hr : Rel w0 A ms ⟨n, sl, hp⟩ a w) (hi : ms[i]? = some e) : ∀ {ds : List D} {us : List Value} {k : List D → Option α} {r : α}, VXs ms w (OkB w0.heap.size A ms w) ds us → argsVK (hp.set i .gone) ds k = some r → ∃ l, VXs [e] w (Av w0 e w) l us ∧ k l = some r
  | [], _, _, _, .nil, h => ⟨[], .nil, h⟩
  | d :: ds, _, k, r, .cons h h', hk => by
    obtain ⟨d', h1, h2⟩ := argV_av hr hi h hk
    obtain ⟨l, h3, h4⟩ := argsVK_av hr hi h' h2
    exact ⟨_, .cons h1 h3, h4⟩
theorem argF_av {α : Type} (hr : Rel w0 A ms ⟨n, sl, hp⟩ a w) (hi : ms[i]? = some e) {d : D} {u : Value} {k : D → Option α} {r : α} (h : VX ms w (OkB w0.heap.size A ms w) d u) (hk : argF (hp.set i .gone) d k = some r) : ∃ d', VX [e] w (Av w0 e w) d' u ∧ k d' = some r := by
  unfold argF at hk
  split at hk
  · obtain ⟨us, rfl, h1⟩ := h.fn_inv
    obtain ⟨l, h2, h3⟩ := argsVK_av hr hi h1 hk
    exact ⟨_, .fn h2, h3⟩
  · exact argV_av hr hi h hk
theorem argsFK_av {α : Type} (hr : Rel w0 A ms ⟨n, sl, hp⟩ a w) (hi : ms[i]? = some e) : ∀ {ds : List D} {us : List Value} {k : List D → Option α} {r : α}, VXs ms w (OkB w0.heap.size A ms w) ds us → argsFK (hp.set i .gone) ds k = some r → ∃ l, VXs [e] w (Av w0 e w) l us ∧ k l = some r
  | [], _, _, _, .nil, h => ⟨[], .nil, h⟩
  | d :: ds, _, k, r, .cons h h', hk => by
    obtain ⟨d', h1, h2⟩ := argF_av hr hi h hk
    obtain ⟨l, h3, h4⟩ := argsFK_av hr hi h' h2
    exact ⟨_, .cons h1 h3, h4⟩

variable {ops : Array Oper} {rest : List Oper} {K : St → Prop} {dst : Tmp} {ty : TypeId} {pos : String} {after : Array Edge}
/-- A call that is handed an array of the call's own, for good. -/
theorem R_callM {f : FuncId} {fo x0 : Operand} {args : Array Operand} {xs0 : List Operand} {tys : Array TypeId} {ds caps : List D} {d d2 : D} {rh hp1 hp2 : List Blk} {sl' : List (Nat × D)} {T : TypeId} {m : Nat} {xs : List (List D)} (hf : evD (look sl) fo = .fn f caps) (hF : FnM P f (.arr T m xs true) (.own 0 :: ds) d rh)
    (ha : args.toList = x0 :: xs0) (hx : evD (look sl) x0 = .own i) (hb : hp[i]? = some (.arr T m xs true)) (hds : mapK (evD (look sl)) xs0 (fun l => argsFK (hp.set i .gone) (l ++ caps) fun l => some l) = some ds) (hd : Nat.blt dst n = true) (hno : noRd d = true)
    (hs : killK (isI i) sl (fun l => some l) = some sl') (hh : newK (isI i) noneI i .gone 0 hp (fun l => some l) = some hp1) (hflat : Flat xs)
    (hk : WO P w0 A ops rest ⟨n, (dst, d2) :: sl', hp2⟩ K) (e1 : d.shift hp1.length = d2 := by first | (dsimp only [D.shift, D.shiftL, List.cons_append, List.nil_append, List.append_nil, List.length_cons, List.length_nil, Nat.reduceAdd]; done) | exact rfl) (e2 : hp1 ++ rh = hp2 := by first | (dsimp only [D.shift, D.shiftL, List.cons_append, List.nil_append, List.append_nil, List.length_cons, List.length_nil, Nat.reduceAdd]; done) | exact rfl) : WO P w0 A ops (⟨some dst, .call ⟨.value fo, args, tys⟩, ty, pos, after, none⟩ :: rest) ⟨n, sl, hp⟩ K := by
  subst e1; subst e2
  refine ⟨fun ms a w hr Q hq => ?_⟩
  refine wpList_plain rfl fun Kn hKn => ?_
  have hs := killK_eq hs; have hh := newK_eq hh; have hds := mapK_eq hds
  simp only [Option.some.injEq] at hs hh
  obtain ⟨e, hi, ev, hsl⟩ := (hr.ev_at hx).own_inv
  obtain ⟨cs, e1, hcs⟩ := (hr.ev_at hf).fn_inv
  have hv : VXs ms w (OkB w0.heap.size A ms w) (xs0.map (evD (look sl)) ++ caps) (xs0.map a.eval ++ cs) := (VXs.of_map fun x _ => hr.ev x).append hcs
  obtain ⟨l, h1, h2⟩ := argsFK_av hr hi hv hds
  simp only [Option.some.injEq] at h2
  subst h2
  have hne := flat_nest hr hi hb hflat
  have hnd : (owned [e]).Nodup := by
    have := owned_self hr.nodup hi
    simpa [owned] using this
  have hE : EntR w0.heap.size [e] w (Av w0 e w) (.arr T m xs true) e := by
    refine (hr.ents i _ e hb hi).mono (fun k hk => ⟨rfl, av_ok hi hk⟩) (fun _ _ => rfl) (fun _ _ => rfl) fun _ _ h _ => by simp [Blk.uses] at h
  have hargs : args.toList.map a.eval ++ cs = e.v :: (xs0.map a.eval ++ cs) := by rw [ha, List.map_cons, List.cons_append, ev]
  refine enter_call (run_call (o := ⟨some dst, .call ⟨.value fo, args, tys⟩, ty, pos, after, none⟩) rfl hF.plain e1) ?_
  rw [hargs]
  refine (hF.calls w0.heap.size w e _ hr.ext.size hnd (fun k hk => ?_) hE (.cons (.own (i := 0) rfl hsl) h1)).mono ?_
  · have ht := (mem_owned1 hne).1 hk
    exact hr.range k (ent_owned hi (by simp [ht]))
  rintro e' w' ⟨v, mr, rfl, hpost⟩
  have hr' := hr.calledM hi hb hflat hF.arrs hF.deep hpost
  rw [hs, hh] at hr'
  have hlen : hp1.length = ms.length := by rw [← hh, newH_len]; exact hr.len.symm
  have hval : VX (ms.set i ⟨e.v, none, []⟩ ++ mr) w' (OkB w0.heap.size A (ms.set i ⟨e.v, none, []⟩ ++ mr) w') (d.shift hp1.length) v := noRd_ok (fun j x hj => by rw [List.getElem?_append_right (by simp; omega)]; simp only [List.length_set]; rw [hlen, Nat.add_sub_cancel_left]; exact hj) hpost.val hno
  exact ⟨v, rfl, hKn _ _ (hk.run _ _ w' (Rel.put (t := some dst) hr' hval (dstOk_all (s := ⟨n, _, _⟩) (t := some dst) hd)) Q hq)⟩

/-! ### A part of an array of the call's own; its tail cleared -/
theorem run_cut {t T : TypeId} {inf : TypeInfo} {m : Nat} (h : P.underlying t = some (.slice T)) (hT : P.info? T = some inf) (hm : inf.size = m) {av : Option Addr} {len cap : Nat} {j : Int} (h0 : 0 ≤ j) (h1 : j ≤ len) (h2 : len ≤ cap) :
    (Instr.sliceAt t (.slice av len cap) none (some (.int .i64 j)) none).run P w = .ok (.slice av j.toNat cap) w := by
  have hb := run_bound (P := P) (w := w) (i := j) (y := cap) (code := .sliceAcap) ⟨h0, by omega⟩
  simp only [Instr.sliceAt, Instr.slice, Instr.sliceBounds, Sem.run_bind, run_underlying h, Result.andThen, run_sizeOf hT, hm]
  simp only [if_true, hb, Sem.run, pure, Result.andThen, Nat.sub_zero]
  cases av with
  | none => simp
  | some ad => by_cases hc : cap = 0 <;> simp [hc, Addr.add]
theorem run_tail {t T : TypeId} {inf : TypeInfo} {m : Nat} (h : P.underlying t = some (.slice T)) (hT : P.info? T = some inf) (hm : inf.size = m) {av : Option Addr} {len cap : Nat} {j : Int} (h0 : 0 ≤ j) (h1 : j ≤ len) (h2 : len ≤ cap) :
    (Instr.sliceAt t (.slice av len cap) (some (.int .i64 j)) none none).run P w = .ok (.slice (if cap = j.toNat then av else av.map (·.add (j.toNat * m))) (len - j.toNat) (cap - j.toNat)) w := by
  have hb := run_bound (P := P) (w := w) (i := j) (y := len) (code := .sliceB) ⟨h0, h1⟩
  simp only [Instr.sliceAt, Instr.slice, Instr.sliceBounds, Sem.run_bind, run_underlying h, Result.andThen, run_sizeOf hT, hm]
  simp only [hb, Sem.run, pure, Result.andThen, Option.isSome_none, Bool.false_eq_true, if_false]

/-- The array i told anew: another slice over the same block. -/
theorem Rel.retold (hr : Rel w0 A ms ⟨n, sl, hp⟩ a w) {b' : Blk} {e' : Ent} (hi : ms[i]? = some e) (ht : e'.top = e.top) (hn : e'.nest = e.nest) (hE : ∀ ms', EntR w0.heap.size ms' w (OkB w0.heap.size A ms w) b' e') (hu : ∀ j, b'.uses j = false) :
    Rel w0 A (ms.set i e') ⟨n, killS (isI i) sl, newH (isI i) noneI i b' 0 hp⟩ a w := by
  have hilt : i < ms.length := (List.getElem?_eq_some_iff.1 hi).1
  have hget : ∀ j, (ms.set i e')[j]? = if j = i then some e' else ms[j]? := by
    intro j
    by_cases hji : j = i
    · subst hji; rw [if_pos rfl, List.getElem?_set_self hilt]
    · rw [if_neg hji, List.getElem?_set_ne (Ne.symm hji)]
  have hsame : ∀ (j : Nat) (x : Ent), (ms.set i e')[j]? = some x → ∃ y : Ent, ms[j]? = some y ∧ x.top = y.top ∧ x.nest = y.nest := by
    intro j x hj
    rw [hget] at hj
    split at hj
    · rename_i h; subst h; cases hj; exact ⟨e, hi, ht, hn⟩
    · exact ⟨x, hj, rfl, rfl⟩
  have htops : ∀ k, k ∈ tops (ms.set i e') ↔ k ∈ tops ms := by
    intro k
    constructor
    · intro h
      obtain ⟨j, x, hj, h1⟩ := mem_tops h
      obtain ⟨y, h2, h3, _⟩ := hsame j x hj
      exact tops_mem h2 (h3 ▸ h1)
    · intro h
      obtain ⟨j, x, hj, h1⟩ := mem_tops h
      by_cases hji : j = i
      · subst hji
        rw [hi] at hj; cases hj
        exact tops_mem (i := j) (e := e') (by rw [hget, if_pos rfl]) (by rw [ht]; exact h1)
      · exact tops_mem (i := j) (e := x) (by rw [hget, if_neg hji]; exact hj) h1
  have hk : ∀ k, OkB w0.heap.size A ms w k → w.heap[k]? = w.heap[k]? ∧ OkB w0.heap.size A (ms.set i e') w k := by
    rintro k ⟨k1, k2, k3⟩; exact ⟨rfl, k1, k2, fun h => k3 ((htops k).1 h)⟩
  have hm : ∀ (j : Nat) (x : Ent), isI i j = false → ms[j]? = some x → (ms.set i e')[j]? = some x := by
    intro j x hj hx
    have hji : j ≠ i := by rintro rfl; simp [isI] at hj
    rw [hget, if_neg hji]; exact hx
  refine ⟨hr.ext, hr.old, hr.size, hr.defers, by have := hr.len; simp only at this; simp [newH_len, this], ?_, ?_, ?_, ?_⟩
  · refine owned_nodup_of ?_ ?_
    · intro j x hj
      obtain ⟨y, h1, h2, h3⟩ := hsame j x hj
      rw [h2, h3]; exact owned_self hr.nodup h1
    · intro j1 j2 x1 x2 k hne h1 h2 hk1 hk2
      obtain ⟨y1, q1, q2, q3⟩ := hsame j1 x1 h1
      obtain ⟨y2, r1, r2, r3⟩ := hsame j2 x2 h2
      rw [q2, q3] at hk1; rw [r2, r3] at hk2
      exact owned_disjoint hr.nodup hne q1 r1 hk1 hk2
  · intro k hk2
    obtain ⟨j, x, hj, hk2⟩ := mem_owned hk2
    obtain ⟨y, q1, q2, q3⟩ := hsame j x hj
    rw [q2, q3] at hk2
    exact hr.range k (ent_owned q1 hk2)
  · intro j b x hj hx
    simp only [newH_get, Nat.zero_add] at hj
    obtain ⟨b0, hb0, rfl⟩ := Option.map_eq_some_iff.1 hj
    rw [hget] at hx
    by_cases hji : j = i
    · subst hji
      simp only [if_true, Option.some.injEq] at hx
      rw [if_pos rfl]
      subst hx
      exact (hE ms).mono hk (fun _ _ => rfl) (fun _ _ => rfl) fun j e h _ => by rw [hu j] at h; cases h
    · rw [if_neg hji] at hx
      rw [if_neg hji]
      simp only [noneI, Bool.false_eq_true, if_false]
      have hE := hr.ents j b0 x hb0 hx
      cases b0 with
      | cells t ds =>
        obtain ⟨b, us, rfl, h2, h3⟩ := hE
        exact ⟨b, us, rfl, h2, killD_mono hk hm h3⟩
      | gone => exact hE
      | fr n xs => exact hE.mono (ms := ms) (b := .fr n xs) hk (fun _ _ => rfl) (fun _ _ => rfl) fun _ _ h _ => by simp [Blk.uses] at h
      | cust R => exact hE.mono (ms := ms) (b := .cust R) hk (fun _ _ => rfl) (fun _ _ => rfl) fun _ _ h _ => by simp [Blk.uses] at h
      | arr t n xs dp => exact hE.mono (ms := ms) (b := .arr t n xs dp) hk (fun _ _ => rfl) (fun _ _ => rfl) fun _ _ h _ => by simp [Blk.uses] at h
  · intro t
    simp only [St.get]
    rcases look_kill (p := isI i) (t := t) (l := sl) with h | h <;> rw [h]
    · exact kill_mono hk hm (hr.slots t)
    · exact .no

/-- The first part of an array of the call's own. -/
theorem R_cutOwn {tab : Nat → Option TI} (hT : TabOk P tab) {t T : TypeId} {m : Nat} {j : Int} {xs : List (List D)} {x y : Operand} {agg : Bool} {size bytes : Nat} {zero : List Value} {k' : TK} {agg' : Bool} {bytes' : Nat} {zero' : List Value} {sl' : List (Nat × D)} {hp' : List Blk}
    (hx : evD (look sl) x = .own i) (hy : evD (look sl) y = .lit (.int .i64 j)) (hb : hp[i]? = some (.arr T m xs true)) (ht : tab t = some ⟨.sl T, agg, size, bytes, zero⟩) (hT' : tab T = some ⟨k', agg', m, bytes', zero'⟩) (hd : Nat.blt dst n = true)
    (hs : killK (isI i) sl (fun l => some l) = some sl') (hh : newK (isI i) noneI i (.arr T m (xs.take j.toNat) true) 0 hp (fun l => some l) = some hp') (hf : Flat xs) (hj : 0 ≤ j ∧ j ≤ xs.length)
    (hK : WO P w0 A ops rest ⟨n, (dst, .own i) :: sl', hp'⟩ K) : WO P w0 A ops (⟨some dst, .slice t x none (some y) none, ty, pos, after, none⟩ :: rest) ⟨n, sl, hp⟩ K := by
  refine ⟨fun ms a w hr Q hq => ?_⟩
  refine wpList_plain rfl fun Kn hKn => ?_
  obtain ⟨inf, td, z, q1, q2, q3, q4, q5, q6, _⟩ := hT.get ht
  obtain ⟨inf', td', z', g1, g2, g3, g4, g5, g6, _⟩ := hT.get hT'
  have htd := TK.sl_inv q4
  subst htd
  have hs := killK_eq hs; have hh := newK_eq hh
  simp only [Option.some.injEq] at hs hh
  obtain ⟨e, hi, e1, hsl⟩ := (hr.ev_at hx).own_inv
  obtain ⟨e2, e3⟩ := (hr.ev_at hy).lit_inv
  have hne := flat_nest hr hi hb hf
  obtain ⟨us, bs, o1, o2, o3, o4, o5⟩ := hr.ents i _ e hb hi
  have hjn : j.toNat ≤ xs.length := by omega
  have hil : i < ms.length := (List.getElem?_eq_some_iff.1 hi).1
  have hbs : bs = [] := by rw [← o5.1]; exact hne
  have hfl : ∀ d ∈ xs.flatten, isLit d = true := fun d hd => by obtain ⟨r, hr, hd⟩ := List.mem_flatten.1 hd; exact hf r hr d hd
  have htk : (xs.take j.toNat).flatten = xs.flatten.take (j.toNat * m) := flat_take _ o2
  obtain ⟨bs', hv', hb'⟩ := o3.part 0 (j.toNat * m)
  have hbs' : bs' = [] := by
    refine List.eq_nil_iff_forall_not_mem.2 fun k hk => ?_
    have := hb' k hk; rw [hbs] at this; cases this
  subst hbs'
  simp only [List.drop_zero] at hv'
  rw [← htk] at hv'
  have hrow' : ∀ r ∈ xs.take j.toNat, r.length = m := fun r hr => o2 r (List.mem_of_mem_take hr)
  have key : ∃ v', (Instr.sliceAt t e.v none (some (.int .i64 j)) none).run P w = .ok v' w ∧ v'.ownBlock = e.v.ownBlock ∧ (∃ a n c, v' = .slice a n c) ∧ w.ownsRow w0.heap.size T m v' (xs.take j.toNat).length (us.take (j.toNat * m)) := by
    obtain ⟨hl, ⟨hv, h0⟩ | ⟨g, cap, cur, hv, hg, hh1, c1, c2, c3, c4⟩⟩ := o1
    · have h0' : xs = [] := List.length_eq_zero_iff.1 h0
      subst h0'
      have hj0 : j = 0 := by simp at hj; omega
      subst hj0
      rw [hv]
      refine ⟨.slice none 0 0, ?_, rfl, ⟨_, _, _, rfl⟩, by simpa using World.ownsRow_nil _ _ _ _⟩
      have := run_cut (P := P) (w := w) (T := T) (m := m) q2 g1 g6 (av := none) (len := 0) (cap := 0) (j := 0) (by omega) (by omega) (by omega)
      simpa using this
    · rw [hv]
      refine ⟨.slice (some ⟨g, 0, none⟩) j.toNat cap, run_cut q2 g1 g6 hj.1 (by omega) c1, rfl, ⟨_, _, _, rfl⟩, ?_⟩
      have hlt : (xs.take j.toNat).length = j.toNat := by simp; omega
      have hmul : j.toNat * m ≤ xs.length * m := Nat.mul_le_mul_right m hjn
      refine ⟨by rw [hlt]; simp; omega, Or.inr ⟨g, cap, cur, by rw [hlt], hg, hh1, by rw [hlt]; omega, c2, c3, ?_⟩⟩
      rw [hlt, ← c4, List.take_take, Nat.min_eq_left hmul]
  obtain ⟨v', k1, k2, k3, k4⟩ := key
  have hrun : (execOp a.eval ⟨some dst, .slice t x none (some y) none, ty, pos, after, none⟩).run P w = .ok (.value v') w := by
    have : (Instr.sliceAt t (a.eval x) none (some (a.eval y)) none).run P w = .ok v' w := by rw [e1, e2]; exact k1
    simp only [execOp, Sem.run_bind, Option.map_some, Option.map_none, this, Result.andThen, Sem.run, pure]
  have hr' := hr.retold (b' := .arr T m (xs.take j.toNat) true) (e' := ⟨v', e.top, e.nest⟩) hi rfl rfl (fun ms' => ⟨_, [], k4, hrow', hv', by rw [o4]; exact k2.symm, by simp only [if_true]; exact ⟨hne, by simp⟩⟩) (fun _ => rfl)
  rw [hs, hh] at hr'
  refine upon_value hrun (hKn _ _ (hK.run _ _ _ (Rel.put (t := some dst) hr' (.own (i := i) (e := ⟨v', e.top, e.nest⟩) (by rw [List.getElem?_set_self hil]) k3) (dstOk_all (s := ⟨n, _, _⟩) (t := some dst) hd)) Q hq))

/-- The tail of an array of the call's own, cleared. -/
theorem R_clearTail {tab : Nat → Option TI} (hT : TabOk P tab) {t T : TypeId} {m : Nat} {j : Int} {xs : List (List D)} {x y : Operand} {t1 : Tmp} {row : List D} {ty2 : TypeId} {pos2 : String} {after2 : Array Edge} {agg : Bool} {size bytes : Nat} {zero : List Value} {k' : TK} {agg' : Bool} {bytes' : Nat} {zero' : List Value} {hp' : List Blk}
    (hx : evD (look sl) x = .own i) (hy : evD (look sl) y = .lit (.int .i64 j)) (hb : hp[i]? = some (.arr T m xs true)) (ht : tab t = some ⟨.sl T, agg, size, bytes, zero⟩) (hT' : tab T = some ⟨k', agg', m, bytes', zero'⟩)
    (hz : Nat.beq zero'.length m = true) (hm : Nat.blt 0 m = true) (hrow : zeroRow zero' = some row) (hl : row.all isLit = true) (hd : Nat.blt t1 n = true)
    (hh : setK i (.arr T m (xs.take j.toNat ++ List.replicate (xs.length - j.toNat) row) true) hp some = some hp') (hf : Flat xs) (hj : 0 ≤ j ∧ j ≤ xs.length)
    (hK : WO P w0 A ops rest ⟨n, (t1, .no) :: sl, hp'⟩ K) : WO P w0 A ops (⟨some t1, .slice t x (some y) none none, ty, pos, after, none⟩ :: ⟨none, .call ⟨.builtin .clear, #[.tmp t1], #[t]⟩, ty2, pos2, after2, none⟩ :: rest) ⟨n, sl, hp⟩ K := by
  refine ⟨fun ms a w hr Q hq => ?_⟩
  refine wpList_plain rfl fun Kn hKn => ?_
  obtain ⟨inf, td, z, q1, q2, q3, q4, q5, q6, _⟩ := hT.get ht
  obtain ⟨inf', td', z', g1, g2, g3, g4, g5, g6, g7⟩ := hT.get hT'
  have htd := TK.sl_inv q4
  subst htd
  have hz := Nat.eq_of_beq_eq_true hz
  have hm : 0 < m := Nat.le_of_ble_eq_true hm
  have hh := setK_eq hh
  simp only [Option.some.injEq] at hh
  obtain ⟨e, hi, e1, hsl⟩ := (hr.ev_at hx).own_inv
  obtain ⟨e2, e3⟩ := (hr.ev_at hy).lit_inv
  have hne := flat_nest hr hi hb hf
  obtain ⟨us, bs, o1, o2, o3, o4, o5⟩ := hr.ents i _ e hb hi
  have hbs : bs = [] := by rw [← o5.1]; exact hne
  subst hbs
  have hjn : j.toNat ≤ xs.length := by omega
  have ht1 : t1 < n := Nat.le_of_ble_eq_true hd
  have hzl := constK_list (ms := []) (w := w) (A := fun _ => True) hrow
  have hlit : ∀ d ∈ row, isLit d = true := List.all_eq_true.1 hl
  have hrl : row.length = m := by rw [← hzl.len, hz]
  have hrow2 : ∀ r ∈ xs.take j.toNat ++ List.replicate (xs.length - j.toNat) row, r.length = m := by
    intro r hr
    rcases List.mem_append.1 hr with h | h
    · exact o2 r (List.mem_of_mem_take h)
    · rw [List.eq_of_mem_replicate h]; exact hrl
  -- the slice of the tail
  have hev : ∀ v, (a.put (some t1) v).eval (.tmp t1) = v := by
    intro v
    have : t1 < a.tmps.size := by rw [hr.size]; exact ht1
    simp [Act.put, Act.eval, Array.getD_eq_getD_getElem?, Array.getElem?_setIfInBounds_self_of_lt this]
  have hsl1 : ∀ v1, (Instr.sliceAt t e.v (some (.int .i64 j)) none none).run P w = .ok v1 w → (execOp a.eval ⟨some t1, .slice t x (some y) none none, ty, pos, after, none⟩).run P w = .ok (.value v1) w := by
    intro v1 h
    have : (Instr.sliceAt t (a.eval x) (some (a.eval y)) none none).run P w = .ok v1 w := by rw [e1, e2]; exact h
    simp only [execOp, Sem.run_bind, Option.map_some, Option.map_none, this, Result.andThen, Sem.run, pure]
  have hcl : ∀ v1 w', (Builtin.clear_ #[t] ty2 #[v1]).run P w = .ok (.tuple #[]) w' → (execOp (a.put (some t1) v1).eval ⟨none, .call ⟨.builtin .clear, #[.tmp t1], #[t]⟩, ty2, pos2, after2, none⟩).run P w = .ok (.value (.tuple #[])) w' := by
    intro v1 w' h
    have he := hev v1
    simp only [execOp, resolve, invoke, builtin, Sem.run_bind, Sem.run_pure, Result.andThen_ok, List.map_toArray, List.map_cons, List.map_nil, he, h]
  have hsame : xs.length = j.toNat → hp' = hp := by
    intro h
    rw [← hh, ← h, Nat.sub_self, List.take_length]
    simp only [List.replicate_zero, List.append_nil]
    refine List.ext_getElem? fun q => ?_
    by_cases hq2 : q = i
    · subst hq2
      rw [List.getElem?_set_self (List.getElem?_eq_some_iff.1 hb).1, hb]
    · rw [List.getElem?_set_ne (Ne.symm hq2)]
  have hput : ∀ v1, (a.put (some t1) v1).put none (.tuple #[]) = a.put (some t1) v1 := fun _ => rfl
  -- behind both operations
  have fin : ∀ v1 w', (Instr.sliceAt t e.v (some (.int .i64 j)) none none).run P w = .ok v1 w → (Builtin.clear_ #[t] ty2 #[v1]).run P w = .ok (.tuple #[]) w' → Rel w0 A ms ⟨n, sl, hp'⟩ a w' →
      (⟨some t1, .slice t x (some y) none none, ty, pos, after, none⟩ : Oper).wp P a w Kn Q := by
    intro v1 w' h1 h2 h3
    refine upon_value (hsl1 v1 h1) (hKn _ _ ?_)
    refine wpList_plain rfl fun Kn2 hKn2 => ?_
    refine upon_value (hcl v1 w' h2) (hKn2 _ _ ?_)
    rw [hput]
    exact hK.run _ _ _ (Rel.put (t := some t1) h3 .no (dstOk_all (s := ⟨n, _, _⟩) (t := some t1) hd)) Q hq
  by_cases heq : xs.length = j.toNat
  · have hlen0 : xs.length - j.toNat = 0 := by omega
    obtain ⟨hl', ⟨hv, h0⟩ | ⟨g, cap, cur, hv, hg, hh1, c1, c2, c3, c4⟩⟩ := o1
    · have h1 := run_tail (P := P) (w := w) (m := m) q2 g1 g6 (av := none) (len := 0) (cap := 0) (j := j) hj.1 (by omega) (Nat.le_refl _)
      rw [show (0 : Nat) - j.toNat = 0 by omega] at h1
      rw [← hv] at h1
      refine fin _ w h1 ?_ (by rw [hsame heq]; exact hr)
      split <;> simp [Builtin.clear_, run_underlying q2]
    · have h1 := run_tail (P := P) (w := w) (m := m) q2 g1 g6 (av := some ⟨g, 0, none⟩) (len := xs.length) (cap := cap) (j := j) hj.1 hj.2 c1
      rw [hlen0, ← hv] at h1
      refine fin _ w h1 ?_ (by rw [hsame heq]; exact hr)
      split <;> simp [Builtin.clear_, run_underlying q2]
  · obtain ⟨hl', ⟨hv, h0⟩ | ⟨g, cap, cur, hv, hg, hh1, c1, c2, c3, c4⟩⟩ := o1
    · omega
    have hjl : j.toNat < xs.length := by omega
    have h1 := run_tail (P := P) (w := w) (m := m) q2 g1 g6 (av := some ⟨g, 0, none⟩) (len := xs.length) (cap := cap) (j := j) hj.1 hj.2 c1
    rw [if_neg (by omega), ← hv] at h1
    have hadd : (some (⟨g, 0, none⟩ : Addr)).map (·.add (j.toNat * m)) = some ⟨g, j.toNat * m, none⟩ := by simp only [Option.map_some, Option.some.injEq]; unfold Addr.add; split <;> simp_all
    rw [hadd] at h1
    have hzs : z'.cells.size = m := by rw [← hz, ← g7.2, Array.length_toList]
    have hmade : (Builtin.zeroCells z'.cells (xs.length - j.toNat)).toList = (List.replicate (xs.length - j.toNat) zero').flatten := by
      rw [← g7.2]; exact madeCells_eq z'.cells (by omega) _
    have hvl : ((List.replicate (xs.length - j.toNat) zero').flatten).length = (xs.length - j.toNat) * m := by simp [hz]
    have hmul : j.toNat * m + (xs.length - j.toNat) * m = xs.length * m := by rw [← Nat.add_mul]; congr 1; omega
    have hcap : xs.length * m ≤ cap * m := Nat.mul_le_mul_right m c1
    have hvz := zeros_ok (w' := w) hlit (VXs.mono (ms' := []) (w' := w) (Ok' := fun _ => True) (fun _ _ => ⟨rfl, trivial⟩) hzl fun _ _ _ h => h) (xs.length - j.toNat)
    have hst := run_storeCells_at P g (j.toNat * m) T ((List.replicate (xs.length - j.toNat) zero').flatten) 0 cur w hh1 (by omega) hvz.one
    simp only [Nat.add_zero] at hst
    have hclr : (Builtin.clear_ #[t] ty2 #[.slice (some ⟨g, j.toNat * m, none⟩) (xs.length - j.toNat) (cap - j.toNat)]).run P w = .ok (.tuple #[]) (w.setRow g (cur.toList.take (j.toNat * m) ++ (List.replicate (xs.length - j.toNat) zero').flatten ++ cur.toList.drop (j.toNat * m + ((List.replicate (xs.length - j.toNat) zero').flatten).length)).toArray) := by
      obtain ⟨q, hq⟩ : ∃ q, xs.length - j.toNat = q + 1 := ⟨xs.length - j.toNat - 1, by omega⟩
      rw [hq] at hst hmade ⊢
      simp [Builtin.clear_, run_underlying q2, run_zero g1 g3, hmade, hst]
    refine fin _ _ h1 hclr ?_
    have htop : e.top = some g := by rw [o4, hv]; rfl
    have hrel := hr.change (i := i) (g := g) (b' := .arr T m (xs.take j.toNat ++ List.replicate (xs.length - j.toNat) row) true) (w' := w.setRow g (cur.toList.take (j.toNat * m) ++ (List.replicate (xs.length - j.toNat) zero').flatten ++ cur.toList.drop (j.toNat * m + ((List.replicate (xs.length - j.toNat) zero').flatten).length)).toArray) hi htop (fun k hk => setRow_other w g k _ hk) (by simp [World.setRow]) (Ext_setRow _ hg)
      (fun hk hn => by
        have hlr : (xs.take j.toNat ++ List.replicate (xs.length - j.toNat) row).length = xs.length := by simp; omega
        have hpt := o3.part 0 (j.toNat * m)
        obtain ⟨bs', hv', hb'⟩ := hpt
        have hbs' : bs' = [] := by
          refine List.eq_nil_iff_forall_not_mem.2 fun k hk => ?_
          have := hb' k hk; cases this
        subst hbs'
        simp only [List.drop_zero] at hv'
        refine ⟨us.take (j.toNat * m) ++ (List.replicate (xs.length - j.toNat) zero').flatten, [], ?_, hrow2, ?_, o4, ?_⟩
        · rw [hlr]
          refine ⟨by rw [List.length_append, hvl]; simp; omega, Or.inr ⟨g, cap, _, hv, hg, setRow_heap w g cur _ T _ hh1, c1, c2, ?_, ?_⟩⟩
          · simp [hz]; omega
          · have hA : (cur.toList.take (j.toNat * m)).length = j.toNat * m := by rw [List.length_take, Array.length_toList]; omega
            rw [List.toList_toArray, List.take_append_of_le_length (by rw [List.length_append, hA, hvl]; omega), List.take_of_length_le (by rw [List.length_append, hA, hvl]; omega), ← c4, List.take_take, Nat.min_eq_left (by omega)]
        · rw [List.flatten_append, flat_take _ o2]
          have := (hv'.keep (w' := w.setRow g _) (fun k hk => by cases hk)).append (zeros_ok (w' := w.setRow g (cur.toList.take (j.toNat * m) ++ (List.replicate (xs.length - j.toNat) zero').flatten ++ cur.toList.drop (j.toNat * m + ((List.replicate (xs.length - j.toNat) zero').flatten).length)).toArray) hlit (VXs.mono (ms' := []) (w' := w) (Ok' := fun _ => True) (fun _ _ => ⟨rfl, trivial⟩) hzl fun _ _ _ h => h) (xs.length - j.toNat))
          simpa using this
        · simp only [if_true]; exact ⟨hne, by simp⟩)
    rw [← hh]; exact hrel

/-- A slice against nil: if they are equal it has no elements. -/
theorem R_eqNil {tab : Nat → Option TI} (hT : TabOk P tab) {t t' e : TypeId} {m : Nat} {xs : List (List D)} {x y : Operand} {agg : Bool} {size bytes : Nat} {zero : List Value} (ht : tab t = some ⟨.sl e, agg, size, bytes, zero⟩)
    (hx : evD (look sl) x = .sh m xs) (hy : evD (look sl) y = .nil) (hd : Nat.blt dst n = true) (hk : ∀ b : Bool, (b = true → xs = []) → WO P w0 A ops rest ⟨n, (dst, .lit (.bool b)) :: sl, hp⟩ K) :
    WO P w0 A ops (⟨some dst, .binOp .eql t x y t', ty, pos, after, none⟩ :: rest) ⟨n, sl, hp⟩ K := by
  refine ⟨fun ms a w hr Q hq => ?_⟩
  refine wpList_plain rfl fun Kn hKn => ?_
  obtain ⟨inf, td, z, q1, q2, q3, q4, q5, q6, _⟩ := hT.get ht
  have htd := TK.sl_inv q4
  subst htd
  obtain ⟨bs, hv, _⟩ := (hr.ev_at hx).sh_inv
  have e2 := (hr.ev_at hy).nil_inv
  have key : ∃ av c, a.eval x = .slice av xs.length c ∧ (av.isNone = true → xs = []) := by
    generalize a.eval x = u at hv
    cases hv with
    | shnil q1 q2 => exact ⟨_, _, rfl, fun _ => rfl⟩
    | sh q1 q2 q3 q4 q5 q6 => exact ⟨_, _, rfl, fun h => by simp at h⟩
  obtain ⟨av, c, e1, h3⟩ := key
  refine upon_value (v := .bool av.isNone) (w' := w) ?_ (hKn _ _ ((hk av.isNone h3).run ms _ w (Rel.put (t := some dst) hr bool_vx (dstOk_all (s := ⟨n, sl, hp⟩) (t := some dst) hd)) Q hq))
  have hg : (eqGuard .eql t x y (.slice av xs.length c) (.slice none 0 0)).run P w = .ok () w := rfl
  have hb := Lib.run_eql_slice_nil (P := P) w t e av xs.length c 0 0 q2
  simp only [execOp, e1, e2, Sem.run_bind, hg, Result.andThen, hb]; rfl
theorem flat_tail {xs : List (List D)} {row : List D} {j k : Nat} (hf : Flat xs) (hl : row.all isLit = true) : Flat (xs.take j ++ List.replicate k row) := by
  intro r hr
  rcases List.mem_append.1 hr with h | h
  · exact hf r (List.mem_of_mem_take h)
  · rw [List.eq_of_mem_replicate h]; exact List.all_eq_true.1 hl
theorem cut_tail {α β : Type} {l : List α} {f : α → β} {ys : List β} {j : Nat} (h : j ≤ l.length) : ((l.map f).take (j : Int).toNat ++ ys).take (j : Int).toNat = (l.take j).map f := by
  rw [Int.toNat_natCast, List.take_append_of_le_length (by simp; omega), List.take_take, Nat.min_self, List.map_take]
theorem filter_none {α : Type} [Inhabited α] {p : α → Bool} {l : List α} (h : findIx p l = -1) : l.filter (fun x => !p x) = l := by
  have : l.any p = false := by rw [← findIx_any, h]; rfl
  refine List.filter_eq_self.2 fun x hx => ?_
  have := List.any_eq_false.1 this x hx
  simpa using this

theorem findIx_ge {α : Type} (p : α → Bool) : ∀ l : List α, -1 ≤ findIx p l
  | [] => by simp [findIx]
  | x :: l => by
    have := findIx_ge p l
    simp only [findIx]; split
    · omega
    · split <;> omega
theorem findIx_lt {α : Type} (p : α → Bool) : ∀ l : List α, findIx p l ≤ l.length
  | [] => by simp [findIx]
  | x :: l => by
    have := findIx_lt p l
    simp only [findIx, List.length_cons]; split
    · omega
    · split <;> omega
theorem findIx_spec {α : Type} [Inhabited α] {p : α → Bool} : ∀ {l : List α}, ¬ findIx p l = -1 → ∃ k : Nat, k < l.length ∧ findIx p l = k ∧ p (nth l k) = true ∧ ∀ j, j < k → p (nth l j) = false
  | [], h => by simp [findIx] at h
  | x :: l, h => by
    cases hx : p x
    · have hl : ¬ findIx p l = -1 := by intro e; apply h; simp [findIx, hx, e]
      obtain ⟨k, h1, h2, h3, h4⟩ := findIx_spec hl
      refine ⟨k + 1, by simp; omega, ?_, by rw [nth_cons_succ]; exact h3, fun j hj => ?_⟩
      · simp only [findIx, hx, h2]; rw [if_neg (by simp), if_neg (by omega)]; omega
      · cases j with
        | zero => rw [nth_cons_zero]; exact hx
        | succ j => rw [nth_cons_succ]; exact h4 j (by omega)
    · exact ⟨0, by simp, by simp [findIx, hx], by rw [nth_cons_zero]; exact hx, fun j hj => by omega⟩
theorem take_snoc {α : Type} [Inhabited α] {l : List α} {r : Nat} (h : r < l.length) : l.take (r + 1) = l.take r ++ [nth l r] := by
  rw [List.take_add_one, List.getElem?_eq_getElem h, nth_get h]; rfl
theorem nth_of_drop {α : Type} [Inhabited α] {l l' : List α} {r : Nat} (h : l.drop r = l'.drop r) : nth l r = nth l' r := by
  have h1 : (l.drop r)[0]? = (l'.drop r)[0]? := by rw [h]
  simp only [List.getElem?_drop, Nat.add_zero] at h1
  simp [nth, List.getD_eq_getElem?_getD, h1]
/-- What deleting has done so far: i elements kept of the first r. -/
structure DelInv {α : Type} [Inhabited α] (p : α → Bool) (l cur : List α) (i r : Nat) : Prop where
  len : cur.length = l.length
  lt : i < r
  le : r ≤ l.length
  kept : cur.take i = (l.take r).filter fun x => !p x
  rest : cur.drop r = l.drop r
section
variable {α : Type} [Inhabited α] {p : α → Bool} {l cur : List α} {i r k : Nat}
theorem DelInv.start (h1 : k < l.length) (h2 : p (nth l k) = true) (h3 : ∀ j, j < k → p (nth l j) = false) : DelInv p l l k (k + 1) := by
  refine ⟨rfl, by omega, by omega, ?_, rfl⟩
  rw [take_snoc h1, List.filter_append, List.filter_cons_of_neg (by simp [h2]), List.filter_nil, List.append_nil]
  refine (List.filter_eq_self.2 fun x hx => ?_).symm
  obtain ⟨j, hj, rfl⟩ := List.getElem_of_mem hx
  simp only [List.length_take] at hj
  rw [List.getElem_take, ← nth_get, h3 j (by omega)]; rfl
theorem DelInv.same (h : DelInv p l cur i r) : nth cur r = nth l r := nth_of_drop h.rest
theorem DelInv.mem (h : DelInv p l cur i r) (hr : r < l.length) : nth cur r ∈ l := by rw [h.same]; exact nth_mem hr
theorem DelInv.next (h : DelInv p l cur i r) : cur.drop (r + 1) = l.drop (r + 1) := by
  rw [← List.drop_drop, ← List.drop_drop, h.rest]
theorem DelInv.no (h : DelInv p l cur i r) (hr : r < l.length) (hp : p (nth cur r) = true) : DelInv p l cur i (r + 1) := by
  refine ⟨h.len, by have := h.lt; omega, by omega, ?_, h.next⟩
  rw [take_snoc hr, List.filter_append, List.filter_cons_of_neg (by rw [← h.same, hp]; simp), List.filter_nil, List.append_nil]; exact h.kept
theorem DelInv.yes (h : DelInv p l cur i r) (hr : r < l.length) (hp : p (nth cur r) = false) : DelInv p l (cur.set i (nth cur r)) (i + 1) (r + 1) := by
  have h1 := h.lt; have h2 := h.len
  refine ⟨by simp [h2], by omega, by omega, ?_, ?_⟩
  · rw [take_snoc (by simp; omega), List.take_set, List.set_eq_of_length_le (by simp; omega), nth, List.getD_eq_getElem?_getD, List.getElem?_set_self (by omega), take_snoc hr, List.filter_append, List.filter_cons_of_pos (by rw [← h.same, hp]; rfl), List.filter_nil, h.kept, ← h.same]; rfl
  · rw [List.drop_set_of_lt (by omega)]; exact h.next
theorem DelInv.fin (h : DelInv p l cur i r) (hr : ¬ r < l.length) : cur.take i = l.filter fun x => !p x := by
  have := h.le
  rw [h.kept, List.take_of_length_le (by omega)]
end
end
end Go.Proofs.YtcpjhpjlcgcigaaGreatDoor
namespace Go.Proofs.YtcpjhpjlcgcigaaGreatDoor
open Go.ChangeShapes Go.WideShapes Go.ChangeAt Go.RowKit

/-! ### What stands whatever happens to memory that is not named -/
mutual
def frm (N : Nat) : D → Bool
  | .no => true
  | .lit _ => true
  | .nil => true
  | .val _ => true
  | .own i => Nat.blt i N
  | .agg ds => frmL N ds
  | .tup ds => frmL N ds
  | _ => false
def frmL (N : Nat) : List D → Bool
  | [] => true
  | d :: ds => match frm N d with | true => frmL N ds | false => false
end
section
variable {ms ms' : List Ent} {w w' : World} {Ok Ok' : Nat → Prop} {N : Nat}
theorem frmL_cons {d : D} {ds : List D} (h : frmL N (d :: ds) = true) : frm N d = true ∧ frmL N ds = true := by
  unfold frmL at h
  cases hd : frm N d with
  | true => rw [hd] at h; exact ⟨rfl, h⟩
  | false => rw [hd] at h; cases h
mutual
theorem VX.frm (hm : ∀ (i : Nat) (e : Ent), i < N → ms[i]? = some e → ms'[i]? = some e) : ∀ {d : D} {u : Value}, Go.Proofs.YtcpjhpjlcgcigaaGreatDoor.frm N d = true → VX ms w Ok d u → VX ms' w' Ok' d u
  | .no, _, _, _ => .no
  | .lit _, _, _, h => by obtain ⟨rfl, h1⟩ := h.lit_inv; exact VX.of_lit h1
  | .nil, _, _, h => by rw [h.nil_inv]; exact .rd .nil (by simp)
  | .val _, _, _, h => by
    cases h with
    | rd h _ => cases h
    | val => exact .val
  | .own i, _, hf, h => by
    obtain ⟨e, h1, rfl, h2⟩ := h.own_inv
    exact .own (hm _ _ (by simpa [Go.Proofs.YtcpjhpjlcgcigaaGreatDoor.frm, Nat.blt_eq] using hf) h1) h2
  | .agg ds, _, hf, h => by
    obtain ⟨us, rfl, h1⟩ := h.agg_inv
    exact .agg (VXs.frm hm (by simpa [Go.Proofs.YtcpjhpjlcgcigaaGreatDoor.frm] using hf) h1)
  | .tup ds, _, hf, h => by
    obtain ⟨us, rfl, h1⟩ := h.tup_inv
    exact .tup (VXs.frm hm (by simpa [Go.Proofs.YtcpjhpjlcgcigaaGreatDoor.frm] using hf) h1)
  | .sh _ _, _, hf, _ => by simp [Go.Proofs.YtcpjhpjlcgcigaaGreatDoor.frm] at hf
  | .vec _ _, _, hf, _ => by simp [Go.Proofs.YtcpjhpjlcgcigaaGreatDoor.frm] at hf
  | .ptr _ _, _, hf, _ => by simp [Go.Proofs.YtcpjhpjlcgcigaaGreatDoor.frm] at hf
  | .pin _ _ _, _, hf, _ => by simp [Go.Proofs.YtcpjhpjlcgcigaaGreatDoor.frm] at hf
  | .eptr _ _ _ _, _, hf, _ => by simp [Go.Proofs.YtcpjhpjlcgcigaaGreatDoor.frm] at hf
  | .part _ _ _ _, _, hf, _ => by simp [Go.Proofs.YtcpjhpjlcgcigaaGreatDoor.frm] at hf
  | .sptr _, _, hf, _ => by simp [Go.Proofs.YtcpjhpjlcgcigaaGreatDoor.frm] at hf
  | .fn _ _, _, hf, _ => by simp [Go.Proofs.YtcpjhpjlcgcigaaGreatDoor.frm] at hf
  | .old _ _ _, _, hf, _ => by simp [Go.Proofs.YtcpjhpjlcgcigaaGreatDoor.frm] at hf
  | .tag _ _, _, hf, _ => by simp [Go.Proofs.YtcpjhpjlcgcigaaGreatDoor.frm] at hf
theorem VXs.frm (hm : ∀ (i : Nat) (e : Ent), i < N → ms[i]? = some e → ms'[i]? = some e) : ∀ {ds : List D} {us : List Value}, frmL N ds = true → VXs ms w Ok ds us → VXs ms' w' Ok' ds us
  | _, _, _, .nil => .nil
  | _, _, hf, .cons h h' => .cons (VX.frm hm (frmL_cons hf).1 h) (VXs.frm hm (frmL_cons hf).2 h')
end
/-- Entries of a callee's that its caller may take over: a variable, or an array that owns all behind it. -/
def frmB (N : Nat) : Blk → Bool
  | .cells _ ds => frmL N ds
  | .arr _ _ _ dp => dp
  | _ => false
theorem EntR.frm {base : Nat} (hm : ∀ (i : Nat) (e : Ent), i < N → ms[i]? = some e → ms'[i]? = some e) {b : Blk} {e : Ent} (hf : frmB N b = true) (h : EntR base ms w Ok b e) : EntR base ms' w Ok' b e := by
  cases b with
  | gone => exact h
  | cells t ds =>
    obtain ⟨g, us, h1, h2, h3⟩ := h
    exact ⟨g, us, h1, h2, h3.frm hm hf⟩
  | fr n xs => exact h
  | cust R => exact h
  | arr t n xs dp =>
    simp only [frmB] at hf
    subst hf
    exact h
end

/-- Behind a call that was handed the entries es: what was none of theirs is as it was; the first is where it was. -/
structure PostP (base : Nat) (es : List Ent) (bs' : List Blk) (es' : List Ent) (w w' : World) : Prop where
  os : w'.os = w.os
  tape : w'.tape = w.tape
  output : w'.output = w.output
  size : base ≤ w'.heap.size
  block : ∀ k, k < w.heap.size → k ∉ owned es → w'.heap[k]? = w.heap[k]?
  len : es'.length = bs'.length
  nodup : (owned es').Nodup
  range : ∀ k ∈ owned es', base ≤ k ∧ k < w'.heap.size ∧ (k < w.heap.size → k ∈ owned es)
  ents : ∀ (i : Nat) (b : Blk) (e : Ent), bs'[i]? = some b → es'[i]? = some e → EntR base es' w' (OkB base (fun k => k < base) es' w') b e
  top : ∀ (e e' : Ent), es[0]? = some e → es'[0]? = some e' → e'.top = e.top

/-- The function f, called with a pointer to the first of the entries that bs tells of (the caller's own) and with values that read as ds tells, hands back a scalar v and leaves the entries as Post tells. -/
structure FnP (P : Program) (f : FuncId) (bs : List Blk) (ds : List D) (Post : Value → List Blk → Prop) : Prop where
  plain : ∀ args w, (callFunc f args).run P w = .ok (.enter f args) w
  frm : bs.all (frmB bs.length) = true
  calls : ∀ (base : Nat) (w : World) (es : List Ent) (u0 : Value) (us : List Value), base ≤ w.heap.size → es.length = bs.length → (owned es).Nodup → (∀ k ∈ owned es, base ≤ k ∧ k < w.heap.size) →
    (∀ (i : Nat) (b : Blk) (e : Ent), bs[i]? = some b → es[i]? = some e → EntR base es w (OkB base (fun k => k < base) es w) b e) →
    VX es w (OkB base (fun k => k < base) es w) (.ptr 0 0) u0 → VXs [] w (OkB base (fun k => k < base) es w) ds us →
    Calls P f (u0 :: us).toArray w fun e w' => ∃ v bs' es', e = .returned v ∧ litOk v ∧ Post v bs' ∧ (bs'.length = bs.length ∧ bs'.all (frmB bs.length) = true) ∧ PostP base es bs' es' w w'

/-- The end of such a function's walk: a scalar, the entries ahead of the frozen one, and the pointer still in its place. -/
inductive retP (rs : Array ResultVar) (m b : Nat) (R : World → Value → Option Nat → List Nat → Prop) (Post : Value → List Blk → Prop) : Exit → St → Prop
  | r {s : St} {v : Value} (bs' : List Blk) : retD s rs.toList = some (.lit v) → s.get 0 = .pin b 0 0 → s.heap.take m = bs' → bs'.length = m → s.heap[m]? = some (.cust R) → bs'.all (frmB m) = true → Post v bs' → retP rs m b R Post .ret s
  | n {s : St} {v : Value} (bs' : List Blk) : retD s rs.toList = some (.lit v) → s.get 0 = .pin b 0 0 → s.heap.take m = bs' → bs'.length = m → s.heap[m]? = some (.cust R) → bs'.all (frmB m) = true → Post v bs' → retP rs m b R Post .normal s

theorem owned_app (a b : List Ent) : owned (a ++ b) = owned a ++ owned b := by simp [owned]
theorem owned_take {ms : List Ent} {m k : Nat} (h : k ∈ owned (ms.take m)) : k ∈ owned ms := by
  simp only [owned, List.mem_flatMap] at h ⊢
  obtain ⟨e, he, hk⟩ := h
  exact ⟨e, List.mem_of_mem_take he, hk⟩
theorem tops_froz (es : List Ent) (v : Value) (l : List Nat) : tops (es ++ [frozenE v l]) = tops es := by simp [tops, frozenE]

theorem FnP_of {P : Program} {f : FuncId} {fn : Func} {c : Code} {bs : List Blk} {ds : List D} {Post : Value → List Blk → Prop} (hf : P.funcs[f]? = some fn) (hb : fn.body = some c) (hname : (fn.name == "runtime.NumGoroutine") = false) (hn : Nat.ble (ds.length + 1) fn.ntmps = true) (hba : bs.all (frmB bs.length) = true)
    (h : ∀ w0 A R b, W P w0 A c ⟨fn.ntmps, argSlots 0 (.pin b 0 0 :: ds), bs ++ [.cust R]⟩ (retP fn.results bs.length b R Post)) : FnP P f bs ds Post := by
  refine ⟨?_, hba, ?_⟩
  · intro args w
    have h1 : ¬ fn.name = "runtime.NumGoroutine" := by simpa using hname
    have h2 : ¬ fn.body = none := by rw [hb]; simp
    simp [callFunc, program, Sem.run, go_sem, hf, h1, h2]
  · intro base w es u0 us hbase hel hnd hrg hE hu0 hus
    have hl := hus.len
    have hn' : ds.length + 1 ≤ fn.ntmps := Nat.le_of_ble_eq_true hn
    have hz := cutW_size hbase
    obtain ⟨e0, b0, hi0, ht0, rfl⟩ := hu0.ptr_inv
    let fz := (List.range w.heap.size).filter fun k => decide (base ≤ k ∧ k ∉ owned es)
    have hfz : ∀ k, k ∈ fz ↔ k < w.heap.size ∧ base ≤ k ∧ k ∉ owned es := by intro k; simp only [fz, List.mem_filter, List.mem_range, decide_eq_true_eq]
    let R : World → Value → Option Nat → List Nat → Prop := fun w2 _ top nest => top = none ∧ nest = fz ∧ ∀ k ∈ nest, w2.heap[k]? = w.heap[k]?
    let ms := es ++ [frozenE undef fz]
    have hown : owned ms = owned es ++ fz := by rw [owned_app]; simp [owned, frozenE]
    have hok : ∀ k, OkB base (fun k => k < base) es w k → OkB base (fun k => k < base) ms w k := by
      rintro k ⟨k1, k2, k3⟩; exact ⟨k1, k2, by rw [show ms = es ++ [frozenE undef fz] from rfl, tops_froz]; exact k3⟩
    have hmi : ∀ (i : Nat) (e : Ent), es[i]? = some e → ms[i]? = some e := fun i e h => by
      rw [show ms = es ++ [frozenE undef fz] from rfl, List.getElem?_append_left (List.getElem?_eq_some_iff.1 h).1]; exact h
    have hm0 : 0 < bs.length := by rw [← hel]; exact (List.getElem?_eq_some_iff.1 hi0).1
    have hrun := (h (cutW w base) (fun k => k < base) R b0).run ms { tmps := (.pointer (some ⟨b0, 0, none⟩) :: us).toArray ++ Array.replicate (fn.ntmps - (.pointer (some ⟨b0, 0, none⟩) :: us).toArray.size) undef, defers := [] } w ?_
    · refine calls_of_wp hf hb (Code.wp_mono ?_ hrun)
      rintro e a' w' ⟨ms', s, hr, hq⟩
      have key : ∀ {v : Value} (bs' : List Blk), retD s fn.results.toList = some (.lit v) → s.get 0 = .pin b0 0 0 → s.heap.take bs.length = bs' → bs'.length = bs.length → s.heap[bs.length]? = some (.cust R) → bs'.all (frmB bs.length) = true → Post v bs' →
          a'.defers = [] ∧ ∃ v, (results fn a'.tmps).run P w' = .ok v w' ∧ ∃ v' bs' es', Ending.returned v = .returned v' ∧ litOk v' ∧ Post v' bs' ∧ (bs'.length = bs.length ∧ bs'.all (frmB bs.length) = true) ∧ PostP base es bs' es' w w' := by
        intro v bs' h1 h2 h3 h4 h5 h6 h7
        obtain ⟨v', g1, g2⟩ := results_ok (P := P) h1 hr
        obtain ⟨rfl, g3⟩ := g2.lit_inv
        have hlt : bs.length < ms'.length := by rw [hr.len]; exact (List.getElem?_eq_some_iff.1 h5).1
        have hm1 : ms'[bs.length]? = some ms'[bs.length] := List.getElem?_eq_getElem hlt
        obtain ⟨⟨r1, r2, r3⟩, _⟩ := hr.ents bs.length _ _ h5 hm1
        have hp := hr.slots 0
        rw [h2] at hp
        obtain ⟨e', hpi, hpt, _⟩ := hp.pin_inv
        have hx : Below base (cutW w base) w' := by have := hr.ext; unfold Ext at this; rwa [hz] at this
        have hsp : owned ms' = owned (ms'.take bs.length) ++ owned (ms'.drop bs.length) := by rw [← owned_app, List.take_append_drop]
        have hnd' := hr.nodup
        rw [hsp] at hnd'
        have hfd : ∀ k ∈ fz, k ∈ owned (ms'.drop bs.length) := by
          intro k hk
          refine ent_owned (i := 0) (e := ms'[bs.length]) (by rw [List.getElem?_drop]; simp) ?_
          rw [r2]; exact List.mem_append_right _ hk
        have hget : ∀ i, i < bs.length → (ms'.take bs.length)[i]? = ms'[i]? := fun i hi => by rw [List.getElem?_take, if_pos hi]
        refine ⟨hr.defers, v', g1, v', bs', ms'.take bs.length, rfl, g3, h7, ⟨h4, h6⟩, hx.os, hx.tape, hx.output, by have := hx.size; rwa [hz] at this, ?_, ?_, (List.nodup_append.1 hnd').1, ?_, ?_, ?_⟩
        · intro k hk hko
          by_cases hkb : k < base
          · rw [hx.block k hkb]
            simp only [cutW, Array.getElem?_extract]
            rw [if_pos (by omega)]; simp
          · exact r3 k (by rw [r2]; exact (hfz k).2 ⟨hk, by omega, hko⟩)
        · rw [List.length_take, h4]; omega
        · intro k hk
          have hk1 := hr.range k (owned_take hk)
          rw [hz] at hk1
          refine ⟨hk1.1, hk1.2, fun hlt2 => ?_⟩
          by_cases hko : k ∈ owned es
          · exact hko
          · exact absurd rfl ((List.nodup_append.1 hnd').2.2 k hk k (hfd k ((hfz k).2 ⟨hlt2, hk1.1, hko⟩)))
        · intro i b e hi he
          have hib : i < bs.length := by rw [← h4]; exact (List.getElem?_eq_some_iff.1 hi).1
          rw [hget i hib] at he
          have hsi : s.heap[i]? = some b := by rw [← h3, List.getElem?_take, if_pos hib] at hi; exact hi
          have := hr.ents i b e hsi he
          rw [hz] at this
          exact this.frm (N := bs.length) (fun j e' hj hje => by rw [hget j hj]; exact hje) (List.all_eq_true.1 h6 b (List.mem_of_getElem? hi))
        · intro e1 e2 q1 q2
          rw [hget 0 hm0, hpi] at q2
          rw [hi0] at q1
          cases q1; cases q2
          rw [ht0, hpt]
      cases hq with
      | r bs' h1 h2 h3 h4 h5 h6 h7 => exact key bs' h1 h2 h3 h4 h5 h6 h7
      | n bs' h1 h2 h3 h4 h5 h6 h7 => exact key bs' h1 h2 h3 h4 h5 h6 h7
    · refine ⟨cutW_ext hbase, fun k hk => by rw [hz]; exact hk, by simp; omega, rfl, by simp [ms, hel], ?_, ?_, ?_, fun t => ?_⟩
      · rw [hown]
        refine List.nodup_append.2 ⟨hnd, (List.nodup_range).filter _, fun p hp q hq e => ?_⟩
        subst e
        exact ((hfz p).1 hq).2.2 hp
      · intro k hk
        rw [hown, List.mem_append] at hk
        rw [hz]
        rcases hk with hk | hk
        · exact hrg k hk
        · exact ⟨((hfz k).1 hk).2.1, ((hfz k).1 hk).1⟩
      · intro i b' e hi he
        rw [hz]
        rcases Nat.lt_or_ge i bs.length with hib | hib
        · simp only at hi
          rw [List.getElem?_append_left hib] at hi
          rw [show ms = es ++ [frozenE undef fz] from rfl, List.getElem?_append_left (by omega)] at he
          have hk := (hE i b' e hi he).frm (ms' := ms) (Ok' := OkB base (fun k => k < base) ms w) (N := bs.length) (fun j e' _ hje => hmi j e' hje) (List.all_eq_true.1 hba b' (List.mem_of_getElem? hi))
          exact hk
        · simp only at hi
          rw [List.getElem?_append_right hib] at hi
          rw [show ms = es ++ [frozenE undef fz] from rfl, List.getElem?_append_right (by omega)] at he
          match hj : i - bs.length, hi with
          | 0, hi =>
            rw [hel, hj] at he
            cases hi
            simp only [List.getElem?_cons_zero, Option.some.injEq] at he
            subst he
            refine ⟨⟨rfl, rfl, fun _ _ => rfl⟩, fun w2 h2 => ⟨rfl, rfl, fun k hk => h2 k (by simpa [frozenE] using hk)⟩⟩
          | q + 1, hi => simp at hi
      · rw [hz]
        have hus' : VXs ms w (OkB base (fun k => k < base) ms w) (.pin b0 0 0 :: ds) (.pointer (some ⟨b0, 0, none⟩) :: us) :=
          .cons (.pin (hmi 0 e0 hi0) ht0) (VXs.mono (fun k hk => ⟨rfl, hok k hk⟩) hus fun i e _ hi => by simp at hi)
        refine look_argM (List.replicate (fn.ntmps - (us.length + 1)) undef) hus' 0 t _ fun _ => ?_
        have e : ((.pointer (some ⟨b0, 0, none⟩) :: us).toArray ++ Array.replicate (fn.ntmps - (.pointer (some ⟨b0, 0, none⟩) :: us).toArray.size) undef) = ((.pointer (some ⟨b0, 0, none⟩) :: us) ++ List.replicate (fn.ntmps - (us.length + 1)) undef).toArray := by
          rw [← List.append_toArray, List.size_toArray, List.toArray_replicate]; rfl
        rw [e]; simp [Array.getD_eq_getD_getElem?, List.getD_eq_getElem?_getD]
end Go.Proofs.YtcpjhpjlcgcigaaGreatDoor
namespace Go.Proofs.YtcpjhpjlcgcigaaGreatDoor
open Go.ChangeShapes Go.WideShapes Go.ChangeAt Go.RowKit

mutual
/-- What names none of the first m entries, but for a pointer to the very first. -/
def calm (m : Nat) : D → Bool
  | .no => true
  | .lit _ => true
  | .nil => true
  | .val _ => true
  | .old _ _ _ => true
  | .own i => Nat.ble m i
  | .ptr i _ => Nat.beq i 0 || Nat.ble m i
  | .pin _ i _ => Nat.beq i 0 || Nat.ble m i
  | .agg ds => calmL m ds
  | .tup ds => calmL m ds
  | _ => false
def calmL (m : Nat) : List D → Bool
  | [] => true
  | d :: ds => match calm m d with | true => calmL m ds | false => false
end
def calmD (m : Nat) (d : D) : D := match calm m d with | true => d | false => .no
def calmS (m : Nat) : List (Nat × D) → List (Nat × D)
  | [] => []
  | (t, d) :: l => (t, calmD m d) :: calmS m l
def calmK {α : Type} (m : Nat) : List (Nat × D) → (List (Nat × D) → Option α) → Option α
  | [], k => k []
  | (t, d) :: l, k => forceN (calmD m d) fun d' => calmK m l fun l' => k ((t, d') :: l')
theorem calmK_eq {α : Type} {m : Nat} : ∀ {l : List (Nat × D)} {k : List (Nat × D) → Option α} {r : α}, calmK m l k = some r → k (calmS m l) = some r
  | [], _, _, h => h
  | (_, _) :: _, _, _, h => by
    have := calmK_eq (forceN_eq h)
    exact this
def calmB (m : Nat) : Blk → Bool
  | .cells _ ds => calmL m ds
  | .arr _ _ _ dp => dp
  | _ => true
section
variable {ms ms' : List Ent} {w w' : World} {Ok Ok' : Nat → Prop} {m : Nat}
theorem calmL_cons {d : D} {ds : List D} (h : calmL m (d :: ds) = true) : calm m d = true ∧ calmL m ds = true := by
  unfold calmL at h
  cases hd : calm m d with
  | true => rw [hd] at h; exact ⟨rfl, h⟩
  | false => rw [hd] at h; cases h
mutual
theorem VX.calm (hm : ∀ (i : Nat) (e : Ent), m ≤ i → ms[i]? = some e → ms'[i]? = some e) (h0 : ∀ e, ms[0]? = some e → ∃ e', ms'[0]? = some e' ∧ e'.top = e.top) : ∀ {d : D} {u : Value}, Go.Proofs.YtcpjhpjlcgcigaaGreatDoor.calm m d = true → VX ms w Ok d u → VX ms' w' Ok' d u
  | .no, _, _, _ => .no
  | .lit _, _, _, h => by obtain ⟨rfl, h1⟩ := h.lit_inv; exact VX.of_lit h1
  | .nil, _, _, h => by rw [h.nil_inv]; exact .rd .nil (by simp)
  | .val _, _, _, h => by
    cases h with
    | rd h _ => cases h
    | val => exact .val
  | .old _ _ _, _, _, h => by
    cases h with
    | rd h _ => cases h
    | old h h' => exact .old h h'
  | .own i, _, hf, h => by
    obtain ⟨e, h1, rfl, h2⟩ := h.own_inv
    exact .own (hm _ _ (Nat.le_of_ble_eq_true (by simpa only [Go.Proofs.YtcpjhpjlcgcigaaGreatDoor.calm] using hf)) h1) h2
  | .ptr i o, _, hf, h => by
    obtain ⟨e, b, h1, h2, rfl⟩ := h.ptr_inv
    simp only [Go.Proofs.YtcpjhpjlcgcigaaGreatDoor.calm, Bool.or_eq_true] at hf
    rcases hf with hf | hf
    · obtain rfl := Nat.eq_of_beq_eq_true hf
      obtain ⟨e', g1, g2⟩ := h0 e h1
      exact .ptr g1 (by rw [g2]; exact h2)
    · exact .ptr (hm _ _ (Nat.le_of_ble_eq_true hf) h1) h2
  | .pin b i o, _, hf, h => by
    obtain ⟨e, h1, h2, rfl⟩ := h.pin_inv
    simp only [Go.Proofs.YtcpjhpjlcgcigaaGreatDoor.calm, Bool.or_eq_true] at hf
    rcases hf with hf | hf
    · obtain rfl := Nat.eq_of_beq_eq_true hf
      obtain ⟨e', g1, g2⟩ := h0 e h1
      exact .pin g1 (by rw [g2]; exact h2)
    · exact .pin (hm _ _ (Nat.le_of_ble_eq_true hf) h1) h2
  | .agg ds, _, hf, h => by
    obtain ⟨us, rfl, h1⟩ := h.agg_inv
    exact .agg (VXs.calm hm h0 (by simpa [Go.Proofs.YtcpjhpjlcgcigaaGreatDoor.calm] using hf) h1)
  | .tup ds, _, hf, h => by
    obtain ⟨us, rfl, h1⟩ := h.tup_inv
    exact .tup (VXs.calm hm h0 (by simpa [Go.Proofs.YtcpjhpjlcgcigaaGreatDoor.calm] using hf) h1)
  | .sh _ _, _, hf, _ => by simp [Go.Proofs.YtcpjhpjlcgcigaaGreatDoor.calm] at hf
  | .vec _ _, _, hf, _ => by simp [Go.Proofs.YtcpjhpjlcgcigaaGreatDoor.calm] at hf
  | .eptr _ _ _ _, _, hf, _ => by simp [Go.Proofs.YtcpjhpjlcgcigaaGreatDoor.calm] at hf
  | .part _ _ _ _, _, hf, _ => by simp [Go.Proofs.YtcpjhpjlcgcigaaGreatDoor.calm] at hf
  | .sptr _, _, hf, _ => by simp [Go.Proofs.YtcpjhpjlcgcigaaGreatDoor.calm] at hf
  | .fn _ _, _, hf, _ => by simp [Go.Proofs.YtcpjhpjlcgcigaaGreatDoor.calm] at hf
  | .tag _ _, _, hf, _ => by simp [Go.Proofs.YtcpjhpjlcgcigaaGreatDoor.calm] at hf
theorem VXs.calm (hm : ∀ (i : Nat) (e : Ent), m ≤ i → ms[i]? = some e → ms'[i]? = some e) (h0 : ∀ e, ms[0]? = some e → ∃ e', ms'[0]? = some e' ∧ e'.top = e.top) : ∀ {ds : List D} {us : List Value}, calmL m ds = true → VXs ms w Ok ds us → VXs ms' w' Ok' ds us
  | _, _, _, .nil => .nil
  | _, _, hf, .cons h h' => .cons (VX.calm hm h0 (calmL_cons hf).1 h) (VXs.calm hm h0 (calmL_cons hf).2 h')
end
theorem look_calm {t : Nat} : ∀ {l : List (Nat × D)}, (look (calmS m l) t = look l t ∧ Go.Proofs.YtcpjhpjlcgcigaaGreatDoor.calm m (look l t) = true) ∨ look (calmS m l) t = .no
  | [] => Or.inr rfl
  | (t', d) :: l => by
    simp only [calmS, look]
    split
    · unfold calmD
      cases h : Go.Proofs.YtcpjhpjlcgcigaaGreatDoor.calm m d
      · exact Or.inr rfl
      · exact Or.inl ⟨rfl, rfl⟩
    · exact look_calm
end

/-- What a callee may be handed beside the pointer: scalars, and slices that it reads alone. -/
def argP (hp : List Blk) (m : Nat) : D → Option D
  | .lit v => some (.lit v)
  | .sh k xs => some (.sh k xs)
  | .own j => match Nat.ble m j with
    | true => match hp[j]? with
      | some (.arr _ k xs true) => some (.sh k xs)
      | _ => none
    | false => none
  | _ => none
def argPs (hp : List Blk) (m : Nat) : List D → Option (List D)
  | [] => some []
  | d :: l => match argP hp m d with
    | some d' => match argPs hp m l with
      | some l' => some (d' :: l')
      | none => none
    | none => none
section
variable {P : Program} {w0 w w' : World} {A : Nat → Prop} {n : Nat} {sl : List (Nat × D)} {hp hp2 bs bs' : List Blk} {ms es' : List Ent} {a : Act}
theorem tops_take {k m : Nat} (h : k ∈ tops (ms.take m)) : k ∈ tops ms := by
  simp only [tops, List.mem_filterMap] at h ⊢
  obtain ⟨e, he, hk⟩ := h
  exact ⟨e, List.mem_of_mem_take he, hk⟩
theorem arr_vr (hr : Rel w0 A ms ⟨n, sl, hp⟩ a w) {j k : Nat} {T : TypeId} {xs : List (List D)} {e : Ent} (hb : hp[j]? = some (.arr T k xs true)) (hi : ms[j]? = some e) : VR w (.sh k xs) e.v (e.top.toList ++ e.nest) := by
  obtain ⟨us, bs, o1, o2, o3, o4, o5⟩ := hr.ents j _ e hb hi
  rw [if_pos rfl] at o5
  rw [o5.1]
  obtain ⟨hl, ⟨hv, h0⟩ | ⟨g, cap, cur, hv, hg, hh, c1, c2, c3, c4⟩⟩ := o1
  · have hx : xs = [] := List.length_eq_zero_iff.1 h0
    subst hx
    have ht : e.top = none := by rw [o4, hv]; rfl
    have hbs : bs = [] := by
      simp only [List.flatten_nil] at o3; cases o3; rfl
    rw [hv, ht, hbs]
    exact .shnil (by omega) fun _ => rfl
  · have ht : e.top = some g := by rw [o4, hv]; rfl
    rw [hv, ht]
    unfold maxLen at c2
    refine .sh o2 c1 (by omega) (Array.getElem?_eq_some_iff.1 hh).1 o3 ?_
    intro q hq
    have : us[q]? = cur[q]? := by rw [← c4, List.getElem?_take, if_pos (by omega), Array.getElem?_toList]
    rw [this, Nat.zero_add]
    simp [World.cell?, hh]
theorem argP_ok (hr : Rel w0 A ms ⟨n, sl, hp⟩ a w) {m : Nat} {d d' : D} {u : Value} (h : VX ms w (OkB w0.heap.size A ms w) d u) (hd : argP hp m d = some d') : VX [] w (OkB w0.heap.size (fun k => k < w0.heap.size) (ms.take m) w) d' u := by
  cases d with
  | lit v =>
    cases hd
    obtain ⟨rfl, h1⟩ := h.lit_inv
    exact VX.of_lit h1
  | sh k xs =>
    cases hd
    obtain ⟨b, hv, hok⟩ := h.sh_inv
    exact .rd hv fun k hk => ⟨(hok k hk).1, by simp only; omega, fun ht => (hok k hk).2.2 (tops_take ht)⟩
  | own j =>
    simp only [argP] at hd
    split at hd
    · rename_i hble
      have hmj := Nat.le_of_ble_eq_true hble
      split at hd
      · rename_i T k xs hb
        cases hd
        obtain ⟨e, hi, rfl, _⟩ := h.own_inv
        refine .rd (arr_vr hr hb hi) fun q hq => ⟨(hr.range q (ent_owned hi hq)).2, by simp only; omega, fun ht => ?_⟩
        obtain ⟨i', e', hi', ht'⟩ := mem_tops ht
        have hlt : i' < m := by
          have := (List.getElem?_eq_some_iff.1 hi').1
          simp at this; omega
        rw [List.getElem?_take, if_pos hlt] at hi'
        exact owned_disjoint hr.nodup (show i' ≠ j by omega) hi' hi (by simp [ht']) hq
      · cases hd
    · cases hd
  | _ => cases hd
theorem argPs_ok (hr : Rel w0 A ms ⟨n, sl, hp⟩ a w) {m : Nat} : ∀ {ds ds' : List D} {us : List Value}, VXs ms w (OkB w0.heap.size A ms w) ds us → argPs hp m ds = some ds' → VXs [] w (OkB w0.heap.size (fun k => k < w0.heap.size) (ms.take m) w) ds' us
  | _, _, _, .nil, h => by cases h; exact .nil
  | _, _, _, .cons (d := d) (ds := ds) h h', hd => by
    simp only [argPs] at hd
    split at hd
    · rename_i d' h1
      split at hd
      · rename_i l' h2
        cases hd
        exact .cons (argP_ok hr h h1) (argPs_ok hr h' h2)
      · cases hd
    · cases hd
theorem Rel.calledP (hr : Rel w0 A ms ⟨n, sl, bs ++ hp2⟩ a w) (hp0 : PostP w0.heap.size (ms.take bs.length) bs' es' w w') (hlen : bs'.length = bs.length) (hfr : bs'.all (frmB bs.length) = true) (hc : hp2.all (calmB bs.length) = true) (hb0 : 0 < bs.length) :
    Rel w0 A (es' ++ ms.drop bs.length) ⟨n, calmS bs.length sl, bs' ++ hp2⟩ a w' := by
  have hml : ms.length = bs.length + hp2.length := by have := hr.len; simpa using this
  have hel : es'.length = bs.length := by rw [hp0.len, hlen]
  have hsp : owned ms = owned (ms.take bs.length) ++ owned (ms.drop bs.length) := by rw [← owned_app, List.take_append_drop]
  have hnd := hr.nodup
  rw [hsp] at hnd
  have hnd3 := (List.nodup_append.1 hnd).2.2
  have hdrop : ∀ i, (ms.drop bs.length)[i]? = ms[bs.length + i]? := fun i => by rw [List.getElem?_drop]
  have hrst : ∀ k ∈ owned (ms.drop bs.length), k < w.heap.size ∧ k ∉ owned (ms.take bs.length) ∧ w'.heap[k]? = w.heap[k]? := by
    intro k hk
    have h1 := hr.range k (by rw [hsp]; exact List.mem_append_right _ hk)
    have h2 : k ∉ owned (ms.take bs.length) := fun h => hnd3 k h k hk rfl
    exact ⟨h1.2, h2, hp0.block k h1.2 h2⟩
  have hm : ∀ (i : Nat) (e : Ent), bs.length ≤ i → ms[i]? = some e → (es' ++ ms.drop bs.length)[i]? = some e := by
    intro i e hi he
    rw [List.getElem?_append_right (by omega), hel, hdrop, show bs.length + (i - bs.length) = i by omega]; exact he
  have h0 : ∀ e, ms[0]? = some e → ∃ e', (es' ++ ms.drop bs.length)[0]? = some e' ∧ e'.top = e.top := by
    intro e he
    have hlt : 0 < es'.length := by omega
    refine ⟨es'[0], by rw [List.getElem?_append_left hlt]; exact List.getElem?_eq_getElem hlt, ?_⟩
    exact hp0.top e es'[0] (by rw [List.getElem?_take, if_pos hb0]; exact he) (List.getElem?_eq_getElem hlt)
  refine ⟨⟨hp0.os.trans hr.ext.os, hp0.tape.trans hr.ext.tape, hp0.output.trans hr.ext.output, hp0.size, fun k hk => ?_⟩, hr.old, hr.size, hr.defers, by simp [hel, hlen, hml], ?_, ?_, ?_, ?_⟩
  · have h1 : k < w.heap.size := Nat.lt_of_lt_of_le hk hr.ext.size
    rw [hp0.block k h1 fun h => by have := (hr.range k (owned_take h)).1; omega]
    exact hr.ext.block k hk
  · rw [owned_app]
    refine List.nodup_append.2 ⟨hp0.nodup, (List.nodup_append.1 hnd).2.1, fun p hp q hq h => ?_⟩
    subst h
    have h1 := hrst p hq
    exact h1.2.1 ((hp0.range p hp).2.2 h1.1)
  · intro k hk
    rw [owned_app, List.mem_append] at hk
    rcases hk with hk | hk
    · exact ⟨(hp0.range k hk).1, (hp0.range k hk).2.1⟩
    · have h1 := hrst k hk
      refine ⟨(hr.range k (by rw [hsp]; exact List.mem_append_right _ hk)).1, ?_⟩
      have h2 : w.heap[k]? = some w.heap[k] := Array.getElem?_eq_getElem h1.1
      rw [← h1.2.2] at h2
      exact (Array.getElem?_eq_some_iff.1 h2).1
  · intro i b e hi he
    rcases Nat.lt_or_ge i bs.length with hib | hib
    · simp only at hi
      rw [List.getElem?_append_left (by omega)] at hi
      rw [List.getElem?_append_left (by omega)] at he
      exact (hp0.ents i b e hi he).frm (N := bs.length) (fun j e' hj hje => by rw [List.getElem?_append_left (by omega)]; exact hje) (List.all_eq_true.1 hfr b (List.mem_of_getElem? hi))
    · simp only at hi
      rw [List.getElem?_append_right (by omega), hlen] at hi
      rw [List.getElem?_append_right (by omega), hel, hdrop, show bs.length + (i - bs.length) = i by omega] at he
      have hcb := List.all_eq_true.1 hc b (List.mem_of_getElem? hi)
      have hE := hr.ents i b e (by simp only; rw [List.getElem?_append_right hib]; exact hi) he
      have hko : ∀ k ∈ e.top.toList ++ e.nest, w'.heap[k]? = w.heap[k]? := by
        intro k hk
        exact (hrst k (ent_owned (i := i - bs.length) (by rw [hdrop, show bs.length + (i - bs.length) = i by omega]; exact he) hk)).2.2
      have ht : ∀ k, e.top = some k → w'.heap[k]? = w.heap[k]? := fun k hk => hko k (by simp [hk])
      have hn : ∀ k ∈ e.nest, w'.heap[k]? = w.heap[k]? := fun k hk => hko k (List.mem_append_right _ hk)
      cases b with
      | cells t ds =>
        obtain ⟨g, us, rfl, h3, h4⟩ := hE
        exact ⟨g, us, rfl, by rw [ht g rfl]; exact h3, h4.calm hm h0 hcb⟩
      | gone => exact hE
      | fr k xs => exact EntR.mono (ms := ms) (Ok := fun _ => False) hE (fun _ h => h.elim) ht hn fun _ _ hu _ => by simp [Blk.uses] at hu
      | cust R => exact EntR.mono (ms := ms) (Ok := fun _ => False) hE (fun _ h => h.elim) ht hn fun _ _ hu _ => by simp [Blk.uses] at hu
      | arr t k xs dp =>
        simp only [calmB] at hcb
        subst hcb
        exact EntR.mono (ms := ms) (Ok := fun _ => False) (show EntR w0.heap.size ms w (fun _ => False) (.arr t k xs true) e from hE) (fun _ h => h.elim) ht hn fun _ _ hu _ => by simp [Blk.uses] at hu
  · intro t
    rcases look_calm (m := bs.length) (t := t) (l := sl) with ⟨h, h1⟩ | h
    · simp only [St.get, h]; exact VX.calm hm h0 h1 (hr.slots t)
    · simp only [St.get, h]; exact .no
variable {ops : Array Oper} {rest : List Oper} {K : St → Prop} {dst : Tmp} {ty : TypeId} {pos : String} {after : Array Edge}
theorem R_callP {f : FuncId} {fo x0 : Operand} {args : Array Operand} {xs0 : List Operand} {tys : Array TypeId} {ds : List D} {Post : Value → List Blk → Prop} {sl' : List (Nat × D)} (hf : evD (look sl) fo = .fn f []) (hF : FnP P f bs ds Post) (hargs : args.toList = x0 :: xs0) (hx0 : evD (look sl) x0 = .ptr 0 0) (hhp : hp = bs ++ hp2)
    (hds : argPs hp bs.length (xs0.map (evD (look sl))) = some ds) (hc : hp2.all (calmB bs.length) = true) (hb0 : Nat.blt 0 bs.length = true) (hs : calmK bs.length sl (fun l => some l) = some sl') (hd : Nat.blt dst n = true)
    (hK : ∀ (v : Value) (bs' : List Blk), litOk v → Post v bs' → bs'.length = bs.length → WO P w0 A ops rest ⟨n, (dst, .lit v) :: sl', bs' ++ hp2⟩ K) : WO P w0 A ops (⟨some dst, .call ⟨.value fo, args, tys⟩, ty, pos, after, none⟩ :: rest) ⟨n, sl, hp⟩ K := by
  subst hhp
  have hs' := calmK_eq hs
  simp only [Option.some.injEq] at hs'
  subst hs'
  have hb0' : 0 < bs.length := by simpa [Nat.blt_eq] using hb0
  refine ⟨fun ms a w hr Q hq => ?_⟩
  refine wpList_plain rfl fun Kn hKn => ?_
  obtain ⟨cs, e1, hcs⟩ := (hr.ev_at hf).fn_inv
  cases hcs
  have hx := hr.ev_at hx0
  obtain ⟨e0, b0, hi0, ht0, hu0⟩ := hx.ptr_inv
  have hml : ms.length = bs.length + hp2.length := by have := hr.len; simpa using this
  have htl : (ms.take bs.length).length = bs.length := by rw [List.length_take]; omega
  have hget : ∀ i, i < bs.length → (ms.take bs.length)[i]? = ms[i]? := fun i hi => by rw [List.getElem?_take, if_pos hi]
  have hv : VXs ms w (OkB w0.heap.size A ms w) (xs0.map (evD (look sl))) (xs0.map a.eval) := VXs.of_map fun x _ => hr.ev x
  have hus := argPs_ok hr hv hds
  have hnd := hr.nodup
  rw [show owned ms = owned (ms.take bs.length) ++ owned (ms.drop bs.length) by rw [← owned_app, List.take_append_drop]] at hnd
  have hcalls := hF.calls w0.heap.size w (ms.take bs.length) (a.eval x0) (xs0.map a.eval) hr.ext.size htl (List.nodup_append.1 hnd).1 (fun k hk => hr.range k (owned_take hk))
    (fun i b e hi he => by
      have hib := (List.getElem?_eq_some_iff.1 hi).1
      rw [hget i hib] at he
      exact (hr.ents i b e (by simp only; rw [List.getElem?_append_left hib]; exact hi) he).frm (N := bs.length) (fun j e' hj hje => by rw [hget j hj]; exact hje) (List.all_eq_true.1 hF.frm b (List.mem_of_getElem? hi)))
    (by rw [hu0]; exact .ptr (by rw [hget 0 hb0']; exact hi0) ht0) hus
  have ea : (args.toList.map a.eval ++ []).toArray = (a.eval x0 :: xs0.map a.eval).toArray := by rw [hargs]; simp
  refine enter_call (run_call (o := ⟨some dst, .call ⟨.value fo, args, tys⟩, ty, pos, after, none⟩) rfl hF.plain e1) ?_
  rw [ea]
  refine hcalls.mono ?_
  rintro e w' ⟨v, bs', es', rfl, hl, hpost, ⟨hlen, hfr⟩, hp0⟩
  exact ⟨v, rfl, hKn _ _ ((hK v bs' hl hpost hlen).run _ _ w' (Rel.put (t := some dst) (hr.calledP hp0 hlen hfr hc hb0') (VX.of_lit hl) (dstOk_all (s := ⟨n, _, _⟩) (t := some dst) hd)) Q hq)⟩
end
end Go.Proofs.YtcpjhpjlcgcigaaGreatDoor
namespace Go.Proofs.YtcpjhpjlcgcigaaGreatDoor
open Go.ChangeShapes Go.WideShapes Go.ChangeAt Go.RowKit

/-- What lies in a result's variable. -/
def cellK {α : Type} (tab : Nat → Option TI) (s : St) (t : Tmp) (T : TypeId) (k : D → Option α) : Option α :=
  match tab T with
  | some ⟨_, agg, size, _, _⟩ => match s.get t with
    | .ptr i o => match loadD s.heap agg size (.ptr i o) with
      | some (_, d) => k d
      | none => none
    | _ => none
  | none => none
def retDC (tab : Nat → Option TI) (s : St) : List ResultVar → Option D
  | [.cell t T] => cellK tab s t T fun d => some d
  | [.cell t T, .tmp u] => cellK tab s t T fun d => forceK (s.get u) fun d' => some (.tup [d, d'])
  | [.cell t T, .tmp u, .tmp x, .tmp y] => cellK tab s t T fun d => forceK (s.get u) fun d' => forceK (s.get x) fun d2 => forceK (s.get y) fun d3 => some (.tup [d, d', d2, d3])
  | _ => none
def RetC (tab : Nat → Option TI) (rs : Array ResultVar) (d : D) (rh : List Blk) (s : St) : Prop := ∃ dd js, retDC tab s rs.toList = some dd ∧ cv s.heap js dd d ∧ rhOk s.heap js rh ∧ (js.filterMap id).Nodup
inductive retC (tab : Nat → Option TI) (rs : Array ResultVar) (d : D) (rh : List Blk) : Exit → St → Prop
  | r {s : St} : RetC tab rs d rh s → retC tab rs d rh .ret s
  | n {s : St} : RetC tab rs d rh s → retC tab rs d rh .normal s

section
variable {P : Program} {w0 w : World} {A : Nat → Prop} {s : St} {ms : List Ent} {a : Act} {tab : Nat → Option TI}
theorem cell_ok {α : Type} (hT : TabOk P tab) (hr : Rel w0 A ms s a w) {t : Tmp} {T : TypeId} {k : D → Option α} {r : α} (h : cellK tab s t T k = some r) : ∃ ad d v, (asAddr (a.tmps.getD t undef)).run P w = .ok ad w ∧ (loadVar T ad).run P w = .ok v w ∧ VX ms w (OkB w0.heap.size A ms w) d v ∧ k d = some r := by
  unfold cellK at h
  split at h
  · rename_i kk agg size bytes zero ht
    obtain ⟨inf, td, z, h1, h2, h3, h4, h5, h6, _⟩ := hT.get ht
    split at h
    · rename_i i o hp
      split at h
      · rename_i c d hl
        have hv := hr.slots t
        rw [hp] at hv
        obtain ⟨e, b, q1, q2, q3⟩ := hv.ptr_inv
        obtain ⟨v, g1, g2⟩ := load_ok (P := P) hr.ents h1 h2 h5 h6 hv hl
        rw [q3] at g1 ⊢
        refine ⟨⟨b, o, none⟩, d, v, rfl, ?_, g2, h⟩
        simpa only [Instr.loadAt, Instr.sureAddr, Sem.run_bind, Sem.run, Result.andThen, pure] using g1
      · simp at h
    · simp at h
  · simp at h

theorem resultsC_ok {fn : Func} {dd : D} (hT : TabOk P tab) (h : retDC tab s fn.results.toList = some dd) (hr : Rel w0 A ms s a w) : ∃ v, (results fn a.tmps).run P w = .ok v w ∧ VX ms w (OkB w0.heap.size A ms w) dd v := by
  have e : ∀ l, fn.results.toList = l → fn.results = l.toArray := fun l h => by rw [← h]
  unfold retDC at h
  split at h
  · rename_i t T hl
    obtain ⟨ad, d, v, h1, h2, h3, h4⟩ := cell_ok hT hr h
    simp only [Option.some.injEq] at h4; subst h4
    have h1' : (asAddr (a.tmps[t]?.getD undef)).run P w = .ok ad w := by simpa [Array.getD_eq_getD_getElem?] using h1
    exact ⟨v, by simp [results, e _ hl, h1', h2, Result.andThen], h3⟩
  · rename_i t T u hl
    obtain ⟨ad, d, v, h1, h2, h3, h4⟩ := cell_ok hT hr h
    have h4 := forceK_eq h4
    simp only [Option.some.injEq] at h4; subst h4
    have h1' : (asAddr (a.tmps[t]?.getD undef)).run P w = .ok ad w := by simpa [Array.getD_eq_getD_getElem?] using h1
    exact ⟨.tuple [v, a.tmps.getD u undef].toArray, by simp [results, e _ hl, h1', h2, Result.andThen], .tup (.cons h3 (.cons (hr.slots u) .nil))⟩
  · rename_i t T u x y hl
    obtain ⟨ad, d, v, h1, h2, h3, h4⟩ := cell_ok hT hr h
    have h4 := forceK_eq (forceK_eq (forceK_eq h4))
    simp only [Option.some.injEq] at h4; subst h4
    have h1' : (asAddr (a.tmps[t]?.getD undef)).run P w = .ok ad w := by simpa [Array.getD_eq_getD_getElem?] using h1
    exact ⟨.tuple [v, a.tmps.getD u undef, a.tmps.getD x undef, a.tmps.getD y undef].toArray, by simp [results, e _ hl, h1', h2, Result.andThen], .tup (.cons h3 (.cons (hr.slots u) (.cons (hr.slots x) (.cons (hr.slots y) .nil))))⟩
  · simp at h

theorem Fn_ofC {f : FuncId} {fn : Func} {c : Code} {ds : List D} {d : D} {rh : List Blk} (hT : TabOk P tab) (hf : P.funcs[f]? = some fn) (hb : fn.body = some c) (hname : (fn.name == "runtime.NumGoroutine") = false) (hn : Nat.ble ds.length fn.ntmps = true) (hrh : rh.all Blk.isArr = true)
    (h : ∀ w0 A, Given w0 A ds → W P w0 A c ⟨fn.ntmps, argSlots 0 ds, []⟩ (retC tab fn.results d rh)) : Fn P f ds d rh := by
  refine ⟨?_, hrh, ?_⟩
  · intro args w
    have h1 : ¬ fn.name = "runtime.NumGoroutine" := by simpa using hname
    have h2 : ¬ fn.body = none := by rw [hb]; simp
    simp [callFunc, program, Sem.run, go_sem, hf, h1, h2]
  · intro A w us hA hus
    have hl := hus.len
    have hn' : ds.length ≤ fn.ntmps := Nat.le_of_ble_eq_true hn
    refine calls_of_wp hf hb (Code.wp_mono ?_ ((h w A ⟨us, hus⟩).run [] { tmps := us.toArray ++ Array.replicate (fn.ntmps - us.toArray.size) undef, defers := [] } w ?_))
    · rintro e a' w' ⟨ms, s, hr, hq⟩
      have key : RetC tab fn.results d rh s → a'.defers = [] ∧ ∃ v, (results fn a'.tmps).run P w' = .ok v w' ∧ ∃ v' ms, Ending.returned v = .returned v' ∧ Post w A d rh ms v' w' := by
        rintro ⟨dd, js, h1, h2, h3, h4⟩
        obtain ⟨v, h5, h6⟩ := resultsC_ok (P := P) hT h1 hr
        exact ⟨hr.defers, v, h5, v, _, rfl, hr.post h3 h4 h6 h2⟩
      cases hq with
      | r h => exact key h
      | n h => exact key h
    · refine ⟨Ext.refl _, hA, by simp; omega, rfl, rfl, by simp [owned], by simp [owned], by simp, fun t => ?_⟩
      refine look_arg (List.replicate (fn.ntmps - us.length) undef) (VXs.mono (ms' := []) (w' := w) (Ok' := OkB w.heap.size A [] w) (fun k hk => ⟨rfl, hA k hk, Or.inr hk, by simp [tops]⟩) hus fun _ _ _ h => h) 0 t _ fun _ => ?_
      have e : (us.toArray ++ Array.replicate (fn.ntmps - us.toArray.size) undef) = (us ++ List.replicate (fn.ntmps - us.length) undef).toArray := by
        rw [← List.append_toArray, List.size_toArray, List.toArray_replicate]
      rw [e]; simp [Array.getD_eq_getD_getElem?, List.getD_eq_getElem?_getD]
/-- A nil slice in a variable of the call's own becomes an array of its own, without elements. -/
theorem W_openC {Q : Exit → St → Prop} {c : Code} (i o : Nat) (T : TypeId) (m : Nat) {Tc : TypeId} {ds : List D} (h : s.heap[i]? = some (.cells Tc ds)) (h2 : ds[o]? = some .nil) {hp' : List Blk} (e : hp' = s.heap.set i (.cells Tc (ds.set o (.own s.heap.length))) ++ [.arr T m [] true]) (hw : W P w0 A c ⟨s.n, s.slots, hp'⟩ Q) : W P w0 A c s Q := by
  refine W_weak (s' := ⟨s.n, s.slots, hp'⟩) ?_ hw
  subst e
  intro ms a w hr
  have hg := hr.grow (Ext.refl w) [nilEnt] [.arr T m [] true] rfl (by simp [owned, nilEnt]) (by simp [owned, nilEnt]) (by
    intro i b e hb he
    cases i with
    | succ i => simp at hb
    | zero =>
      simp at hb he
      subst hb; subst he
      exact ⟨[], [], World.ownsRow_nil _ _ _ _, by simp, .nil, rfl, rfl, by simp⟩)
  have hil : i < s.heap.length := by
    rcases Nat.lt_or_ge i s.heap.length with h' | h'
    · exact h'
    · rw [List.getElem?_eq_none h'] at h; simp at h
  refine ⟨_, hg.ext, hg.old, hg.size, hg.defers, by simpa using hg.len, hg.nodup, hg.range, fun j b e' hb he => ?_, fun x => hg.slots x⟩
  by_cases hj : j = i
  · subst hj
    have hb' : b = .cells Tc (ds.set o (.own s.heap.length)) := by
      have : j < (s.heap.set j (.cells Tc (ds.set o (.own s.heap.length)))).length := by simpa using hil
      rw [List.getElem?_append_left this, List.getElem?_set_self hil] at hb
      exact (Option.some.inj hb).symm
    subst hb'
    obtain ⟨b1, us, q1, q2, q3⟩ := hg.ents j (.cells Tc ds) e' (by show (s.heap ++ _)[j]? = _; rw [List.getElem?_append_left hil, h]) he
    obtain ⟨u, q4, q5⟩ := q3.get h2
    refine ⟨b1, us, q1, q2, ?_⟩
    have q6 := q3.set o (d := .own s.heap.length) (u := u) (by
      rw [q5.nil_inv]
      exact VX.own (e := nilEnt) (by rw [List.getElem?_append_right (by rw [hr.len]; exact Nat.le_refl _), hr.len]; simp) ⟨none, 0, 0, rfl⟩)
    have q7 : us.set o u = us := by
      obtain ⟨hlt, rfl⟩ := List.getElem?_eq_some_iff.1 q4
      exact List.set_getElem_self hlt
    rwa [q7] at q6
  · refine hg.ents j b e' ?_ he
    show (s.heap ++ _)[j]? = _
    rw [← hb]
    rcases Nat.lt_or_ge j s.heap.length with h' | h'
    · rw [List.getElem?_append_left h', List.getElem?_append_left (by simpa using h'), List.getElem?_set_ne (Ne.symm hj)]
    · rw [List.getElem?_append_right h', List.getElem?_append_right (by simpa using h')]; simp
/-- A structure of a number and a slice, and a bool. -/
theorem retC_own {rs : Array ResultVar} {i : Nat} {t : TypeId} {m : Nat} {xs xs' : List (List D)} {dp : Bool} {u u' v v' : Value} (h : retDC tab s rs.toList = some (.tup [.agg [.lit u, .own i], .lit v])) (hb : s.heap[i]? = some (.arr t m xs dp)) (e : xs = xs') (e1 : u = u') (e2 : v = v') : RetC tab rs (.tup [.agg [.lit u', .own 0], .lit v']) [.arr t m xs' dp] s :=
  ⟨_, [some i], h, ⟨⟨e1, rfl, trivial⟩, e2, trivial⟩, ⟨by rw [← e]; exact hb, rfl, trivial⟩, by simp⟩
theorem retC_nil {rs : Array ResultVar} {t : TypeId} {m : Nat} {xs' : List (List D)} {dp : Bool} {u u' v v' : Value} (h : retDC tab s rs.toList = some (.tup [.agg [.lit u, .nil], .lit v])) (e : xs' = []) (e1 : u = u') (e2 : v = v') : RetC tab rs (.tup [.agg [.lit u', .own 0], .lit v']) [.arr t m xs' dp] s :=
  ⟨_, [none], h, ⟨⟨e1, rfl, trivial⟩, e2, trivial⟩, ⟨e, trivial⟩, by simp⟩
/-- A function that hands back what it is handed, and true. -/
structure FnId (P : Program) (f : FuncId) (ds : List D) : Prop where
  plain : ∀ args w, (callFunc f args).run P w = .ok (.enter f args) w
  calls : ∀ (w : World) (u : Value), VXs [] w (Lt w) ds [u] → Calls P f #[u] w fun e w' => e = .returned (.tuple #[u, .bool true]) ∧ Ext w w'
theorem R_callId {ops : Array Oper} {rest : List Oper} {K : St → Prop} {n : Nat} {sl : List (Nat × D)} {hp : List Blk} {dst : Tmp} {ty : TypeId} {pos : String} {after : Array Edge} {f : FuncId} {fo x : Operand} {tys : Array TypeId} {ds : List D} {d : D} (hf : evD (look sl) fo = .fn f []) (hF : FnId P f ds)
    (hds : argsFK hp [evD (look sl) x] (fun l => some l) = some ds) (hd : Nat.blt dst n = true) (hx : forceK (evD (look sl) x) some = some d)
    (hk : WO P w0 A ops rest ⟨n, (dst, .tup [d, .lit (.bool true)]) :: sl, hp⟩ K) : WO P w0 A ops (⟨some dst, .call ⟨.value fo, #[x], tys⟩, ty, pos, after, none⟩ :: rest) ⟨n, sl, hp⟩ K := by
  refine ⟨fun ms a w hr Q hq => ?_⟩
  refine wpList_plain rfl fun Kn hKn => ?_
  have hx := forceK_eq hx
  simp only [Option.some.injEq] at hx
  obtain ⟨cs, e1, hcs⟩ := (hr.ev_at hf).fn_inv
  cases hcs
  have hv : VXs ms w (OkB w0.heap.size A ms w) [evD (look sl) x] [a.eval x] := .cons (hr.ev x) .nil
  obtain ⟨l, h1, h2⟩ := argsFK_ok hr hv hds
  simp only [Option.some.injEq] at h2
  subst h2
  refine enter_call (run_call (o := ⟨some dst, .call ⟨.value fo, #[x], tys⟩, ty, pos, after, none⟩) rfl hF.plain e1) ((show Calls P f #[a.eval x] w _ from hF.calls w _ h1).mono ?_)
  rintro e w' ⟨rfl, hext⟩
  have hr' := hr.grow hext [] [] rfl (by simp [owned]) (by simp [owned]) (by simp)
  simp only [List.append_nil] at hr'
  have hval : VX ms w' (OkB w0.heap.size A ms w') (.tup [d, .lit (.bool true)]) (.tuple [a.eval x, .bool true].toArray) := .tup (.cons (by rw [← hx]; exact hr'.ev x) (.cons (VX.of_lit trivial) .nil))
  exact ⟨_, rfl, hKn _ _ (hk.run _ _ w' (Rel.put (t := some dst) hr' hval (dstOk_all (s := ⟨n, _, _⟩) (t := some dst) hd)) Q hq)⟩
end
end Go.Proofs.YtcpjhpjlcgcigaaGreatDoor
namespace Go.Proofs.YtcpjhpjlcgcigaaGreatDoor
open Go.ChangeShapes Go.WideShapes Go.ChangeAt Go.RowKit

/-- The function f, called with values that read as ds, hands back the address of cells of its own that read as cs (element 1 there: the array). -/
structure FnB (P : Program) (f : FuncId) (ds : List D) (T : TypeId) (cs : List D) (Te : TypeId) (m : Nat) (xs : List (List D)) : Prop where
  plain : ∀ args w, (callFunc f args).run P w = .ok (.enter f args) w
  calls : ∀ (A : Nat → Prop) (w : World) (us : List Value), (∀ k, A k → k < w.heap.size) → VXs [] w A ds us → Calls P f us.toArray w fun e w' => ∃ v ms, e = .returned v ∧ Post w A (.ptr 0 0) [.cells T cs, .arr Te m xs true] ms v w'
/-- What the cells tell: nothing, nil, or that the array lies there. -/
def boxL (j : Nat) : List D → List D → Prop
  | [], l => match l with | [] => True | _ => False
  | d :: ds, l => match l with
    | d' :: ds' => (match d' with | .no => True | .nil => (match d with | .nil => True | _ => False) | .own k => (match d with | .own i => i = j ∧ k = 1 | _ => False) | _ => False) ∧ boxL j ds ds'
    | [] => False
section
variable {P : Program} {w0 w w' : World} {A A' : Nat → Prop} {s : St} {ms : List Ent} {a : Act}
theorem boxL_ok {Ok Ok' : Nat → Prop} {j : Nat} {ms' : List Ent} (hm : ∀ e, ms[j]? = some e → ms'[1]? = some e) : ∀ {ds ds' : List D} {us : List Value}, boxL j ds ds' → VXs ms w Ok ds us → VXs ms' w Ok' ds' us
  | [], l, _, h, .nil => by cases l with | nil => exact .nil | cons _ _ => exact h.elim
  | d :: ds, [], _, h, _ => h.elim
  | d :: ds, d' :: ds', _, ⟨h1, h2⟩, .cons h3 h4 => by
    refine .cons ?_ (boxL_ok hm h2 h4)
    cases d' with
    | no => exact .no
    | nil =>
      cases d with
      | nil => rw [h3.nil_inv]; exact .rd .nil (by simp)
      | _ => exact h1.elim
    | own k =>
      cases d with
      | own i =>
        obtain ⟨rfl, rfl⟩ := h1
        obtain ⟨e, h5, rfl, h6⟩ := h3.own_inv
        exact .own (hm e h5) h6
      | _ => exact h1.elim
    | _ => exact h1.elim
theorem Rel.postB (hr : Rel w0 A ms s a w) {i j : Nat} {T Te : TypeId} {ds cs : List D} {m : Nat} {xs : List (List D)} {v : Value} (hi : s.heap[i]? = some (.cells T ds)) (hj : s.heap[j]? = some (.arr Te m xs true)) (hij : i ≠ j) (hc : boxL j ds cs) (hv : VX ms w (OkB w0.heap.size A ms w) (.ptr i 0) v) : ∃ mr, Post w0 A (.ptr 0 0) [.cells T cs, .arr Te m xs true] mr v w := by
  have hil : i < ms.length := by rw [hr.len]; exact (List.getElem?_eq_some_iff.1 hi).1
  have hjl : j < ms.length := by rw [hr.len]; exact (List.getElem?_eq_some_iff.1 hj).1
  obtain ⟨e1, he1⟩ : ∃ e, ms[i]? = some e := ⟨_, List.getElem?_eq_getElem hil⟩
  obtain ⟨e2, he2⟩ : ∃ e, ms[j]? = some e := ⟨_, List.getElem?_eq_getElem hjl⟩
  obtain ⟨b, us, q1, q2, q3⟩ := hr.ents i _ e1 hi he1
  obtain ⟨us2, bs, g1, g2, g3, g4, g5⟩ := hr.ents j _ e2 hj he2
  have hn : (owned [e1, e2]).Nodup := by
    have := pick_nodup (ms := ms) hr.nodup (js := [some i, some j]) (by simp [hij])
    simpa [pickE, he1, he2] using this
  refine ⟨[e1, e2], hr.ext, rfl, hn, ?_, ?_, ?_⟩
  · intro k hk
    simp only [owned, List.flatMap_cons, List.flatMap_nil, List.append_nil, List.mem_append] at hk
    rcases hk with hk | hk
    · exact hr.range k (ent_owned he1 (by simpa [List.mem_append] using hk))
    · exact hr.range k (ent_owned he2 (by simpa [List.mem_append] using hk))
  · intro q b' e hb' he
    match q with
    | 0 =>
      simp at hb' he; subst hb'; subst he
      refine ⟨b, us, q1, q2, boxL_ok (fun e he => ?_) hc q3⟩
      rw [he2] at he; simpa using he
    | 1 =>
      simp at hb' he; subst hb'; subst he
      exact ⟨us2, bs, g1, g2, g3, g4, g5⟩
    | q + 2 => simp at hb'
  · obtain ⟨e, b', p1, p2, p3⟩ := hv.ptr_inv
    rw [he1] at p1; cases p1
    rw [p3]
    exact .ptr (e := e1) rfl p2
/-- What the walk of such a function ends in. -/
def RetB (rs : Array ResultVar) (T : TypeId) (cs : List D) (Te : TypeId) (m : Nat) (xs : List (List D)) (s : St) : Prop := ∃ i j ds, retD s rs.toList = some (.ptr i 0) ∧ s.heap[i]? = some (.cells T ds) ∧ s.heap[j]? = some (.arr Te m xs true) ∧ i ≠ j ∧ boxL j ds cs
inductive retB (rs : Array ResultVar) (T : TypeId) (cs : List D) (Te : TypeId) (m : Nat) (xs : List (List D)) : Exit → St → Prop
  | r {s : St} : RetB rs T cs Te m xs s → retB rs T cs Te m xs .ret s
  | n {s : St} : RetB rs T cs Te m xs s → retB rs T cs Te m xs .normal s
theorem FnB_of {f : FuncId} {fn : Func} {c : Code} {ds : List D} {T : TypeId} {cs : List D} {Te : TypeId} {m : Nat} {xs : List (List D)} (hf : P.funcs[f]? = some fn) (hb : fn.body = some c) (hname : (fn.name == "runtime.NumGoroutine") = false) (hn : Nat.ble ds.length fn.ntmps = true)
    (h : ∀ w0 A, Given w0 A ds → W P w0 A c ⟨fn.ntmps, argSlots 0 ds, []⟩ (retB fn.results T cs Te m xs)) : FnB P f ds T cs Te m xs := by
  refine ⟨?_, ?_⟩
  · intro args w
    have h1 : ¬ fn.name = "runtime.NumGoroutine" := by simpa using hname
    have h2 : ¬ fn.body = none := by rw [hb]; simp
    simp [callFunc, program, Sem.run, go_sem, hf, h1, h2]
  · intro A w us hA hus
    have hl := hus.len
    have hn' : ds.length ≤ fn.ntmps := Nat.le_of_ble_eq_true hn
    refine calls_of_wp hf hb (Code.wp_mono ?_ ((h w A ⟨us, hus⟩).run [] { tmps := us.toArray ++ Array.replicate (fn.ntmps - us.toArray.size) undef, defers := [] } w ?_))
    · rintro e a' w' ⟨ms, s, hr, hq⟩
      have key : RetB fn.results T cs Te m xs s → a'.defers = [] ∧ ∃ v, (results fn a'.tmps).run P w' = .ok v w' ∧ ∃ v' ms, Ending.returned v = .returned v' ∧ Post w A (.ptr 0 0) [.cells T cs, .arr Te m xs true] ms v' w' := by
        rintro ⟨i, j, ds, h1, h2, h3, h4, h5⟩
        obtain ⟨v, h6, h7⟩ := results_ok (P := P) h1 hr
        obtain ⟨mr, h8⟩ := hr.postB h2 h3 h4 h5 h7
        exact ⟨hr.defers, v, h6, v, mr, rfl, h8⟩
      cases hq with
      | r h => exact key h
      | n h => exact key h
    · refine ⟨Ext.refl _, hA, by simp; omega, rfl, rfl, by simp [owned], by simp [owned], by simp, fun t => ?_⟩
      refine look_arg (List.replicate (fn.ntmps - us.length) undef) (VXs.mono (ms' := []) (w' := w) (Ok' := OkB w.heap.size A [] w) (fun k hk => ⟨rfl, hA k hk, Or.inr hk, by simp [tops]⟩) hus fun _ _ _ h => h) 0 t _ fun _ => ?_
      have e : (us.toArray ++ Array.replicate (fn.ntmps - us.toArray.size) undef) = (us ++ List.replicate (fn.ntmps - us.length) undef).toArray := by
        rw [← List.append_toArray, List.size_toArray, List.toArray_replicate]
      rw [e]; simp [Array.getD_eq_getD_getElem?, List.getD_eq_getElem?_getD]
theorem Rel.calledB (h : Rel w0 A ms s a w) {d : D} {T : TypeId} {cs : List D} {Te : TypeId} {m : Nat} {xs : List (List D)} {mr : List Ent} {v : Value} (hA : ∀ k, A' k → OkB w0.heap.size A ms w k)
    (hp : Post w A' d [.cells T cs, .arr Te m xs true] mr v w') : Rel w0 A (ms ++ mr) ⟨s.n, s.slots, s.heap ++ [.cells T (D.shiftL s.heap.length cs), .arr Te m xs true]⟩ a w' := by
  have hb := h.ext.size
  refine h.grow hp.ext mr _ (by simpa using hp.len) hp.nodup hp.range fun i b e hi he => ?_
  match i with
  | 0 =>
    simp at hi; subst hi
    obtain ⟨b1, us, q1, q2, q3⟩ := hp.ents 0 _ e rfl he
    refine ⟨b1, us, q1, q2, q3.shift s.heap.length ?_ ?_⟩
    · intro k ⟨k1, k2, k3⟩
      refine ⟨rfl, k1, ?_, ?_⟩
      · rcases k2 with k2 | k2
        · exact Or.inl (by omega)
        · exact (hA k k2).2.1
      · rw [tops_append, List.mem_append]
        rintro (k4 | k4)
        · rcases k2 with k2 | k2
          · have := h.range k (tops_owned k4); omega
          · exact (hA k k2).2.2 k4
        · exact k3 k4
    · intro i e he
      rw [List.getElem?_append_right (by rw [h.len]; omega), h.len]
      rw [Nat.add_sub_cancel_left]; exact he
  | 1 =>
    simp at hi; subst hi
    obtain ⟨us, bs, h1, h2, h3, h4, h5⟩ := hp.ents 1 _ e rfl he
    exact ⟨us, bs, ownsRow_base h1 hb, h2, h3, h4, h5⟩
  | i + 2 => simp at hi
set_option maxHeartbeats 1600000 in
theorem R_callB {ops : Array Oper} {rest : List Oper} {K : St → Prop} {n : Nat} {sl : List (Nat × D)} {hp : List Blk} {dst : Tmp} {ty : TypeId} {pos : String} {after : Array Edge} {f : FuncId} {fo : Operand} {args : Array Operand} {tys : Array TypeId} {ds : List D} {T : TypeId} {cs : List D} {Te : TypeId} {m : Nat} {xs : List (List D)} (hf : evD (look sl) fo = .fn f []) (hF : FnB P f ds T cs Te m xs)
    (hds : mapK (evD (look sl)) args.toList (fun l => some l) = some ds) (hp' : D.plainL ds = true) (hd : Nat.blt dst n = true)
    (hk : WO P w0 A ops rest ⟨n, (dst, .ptr hp.length 0) :: sl, hp ++ [.cells T (D.shiftL hp.length cs), .arr Te m xs true]⟩ K) : WO P w0 A ops (⟨some dst, .call ⟨.value fo, args, tys⟩, ty, pos, after, none⟩ :: rest) ⟨n, sl, hp⟩ K := by
  refine ⟨fun ms a w hr Q hq => ?_⟩
  refine wpList_plain rfl fun Kn hKn => ?_
  obtain ⟨cs, e1, hcs⟩ := (hr.ev_at hf).fn_inv
  cases hcs
  have hds := mapK_eq hds
  simp only [Option.some.injEq] at hds
  subst hds
  have hv : VXs ms w (OkB w0.heap.size A ms w) (args.toList.map (evD (look sl))) (args.toList.map a.eval) := VXs.of_map fun x _ => hr.ev x
  refine enter_call (run_call (o := ⟨some dst, .call ⟨.value fo, args, tys⟩, ty, pos, after, none⟩) rfl hF.plain e1) ((show Calls P f (args.toList.map a.eval ++ []).toArray w _ by rw [List.append_nil]; exact hF.calls (OkB w0.heap.size A ms w) w _ (fun k hk => hk.1) (hv.plain hp' fun _ h => h)).mono ?_)
  rintro e w' ⟨v, mr, rfl, hpost⟩
  exact ⟨v, rfl, hKn _ _ (hk.run _ _ w' (Rel.put (t := some dst) (hr.calledB (fun _ h => h) hpost) (hr.called_val (fun _ h => h) hpost) (dstOk_all (s := ⟨n, _, _⟩) (t := some dst) hd)) Q hq)⟩
theorem R_assignConst {ops : Array Oper} {rest : List Oper} {K : St → Prop} {n : Nat} {sl : List (Nat × D)} {hp : List Blk} {dst : Tmp} {ty : TypeId} {pos : String} {after : Array Edge} {v : Value} (hd : Nat.blt dst n = true)
    (hk : WO P w0 A ops rest ⟨n, (dst, .val v) :: sl, hp⟩ K) : WO P w0 A ops (⟨some dst, .assign (.const v), ty, pos, after, none⟩ :: rest) ⟨n, sl, hp⟩ K := by
  refine ⟨fun ms a w hr Q hq => ?_⟩
  refine wpList_plain rfl fun Kn hKn => ?_
  exact upon_value (v := v) rfl (hKn _ _ (hk.run ms _ w (Rel.put (t := some dst) hr .val (dstOk_all (s := ⟨n, _, _⟩) (t := some dst) hd)) Q hq))
/-- An address of a variable of the call's own is not nil. -/
theorem R_nilCheck {ops : Array Oper} {rest : List Oper} {K : St → Prop} {n : Nat} {sl : List (Nat × D)} {hp : List Blk} {dst : Tmp} {ty : TypeId} {pos : String} {after : Array Edge} {x : Operand} {i o : Nat} (hx : evD (look sl) x = .ptr i o) (hd : Nat.blt dst n = true)
    (hk : WO P w0 A ops rest ⟨n, (dst, .ptr i o) :: sl, hp⟩ K) : WO P w0 A ops (⟨some dst, .nilCheck x, ty, pos, after, none⟩ :: rest) ⟨n, sl, hp⟩ K := by
  refine ⟨fun ms a w hr Q hq => ?_⟩
  refine wpList_plain rfl fun Kn hKn => ?_
  have h1 := hr.ev_at hx
  obtain ⟨e, b, p1, p2, p3⟩ := h1.ptr_inv
  have hrun : (execOp a.eval ⟨some dst, .nilCheck x, ty, pos, after, none⟩).run P w = .ok (.value (a.eval x)) w := by
    simp only [execOp, p3]
    simp [Sem.run_bind, Sem.run, pure, Result.andThen, asAddr]
  exact upon_value hrun (hKn _ _ (hk.run ms _ w (Rel.put (t := some dst) hr h1 (dstOk_all (s := ⟨n, _, _⟩) (t := some dst) hd)) Q hq))
theorem R_callBZ {ops : Array Oper} {rest : List Oper} {K : St → Prop} {n : Nat} {sl : List (Nat × D)} {hp hp2 : List Blk} {k2 : Nat} {dst : Tmp} {ty : TypeId} {pos : String} {after : Array Edge} {f : FuncId} {fo : Operand} {args : Array Operand} {tys : Array TypeId} {ds : List D} {T : TypeId} {cs : List D} {Te : TypeId} {m : Nat} {xs : List (List D)} (hf : evD (look sl) fo = .fn f []) (hF : FnB P f ds T cs Te m xs)
    (hds : mapK (evD (look sl)) args.toList (fun l => some l) = some ds) (hp' : D.plainL ds = true) (hd : Nat.blt dst n = true)
    (hk : WO P w0 A ops rest ⟨n, (dst, .ptr k2 0) :: sl, hp2⟩ K) (e1 : hp.length = k2 := by first | (dsimp only [List.length_cons, List.length_nil, Nat.reduceAdd]; done) | (dsimp only [List.length_cons, List.length_nil, Nat.reduceAdd]; exact rfl) | exact rfl) (e2 : hp ++ [.cells T (D.shiftL hp.length cs), .arr Te m xs true] = hp2 := by first | (dsimp only [D.shift, D.shiftL, List.cons_append, List.nil_append, List.append_nil, List.length_cons, List.length_nil, Nat.reduceAdd]; done) | exact rfl) : WO P w0 A ops (⟨some dst, .call ⟨.value fo, args, tys⟩, ty, pos, after, none⟩ :: rest) ⟨n, sl, hp⟩ K := by
  subst e1; subst e2; exact R_callB hf hF hds hp' hd hk
end
end Go.Proofs.YtcpjhpjlcgcigaaGreatDoor
namespace Go.Proofs.YtcpjhpjlcgcigaaGreatDoor
open Go.ChangeShapes Go.WideShapes Go.ChangeAt Go.RowKit

def renL (js : List (Option Nat)) : List D → List D → Prop
  | [], l => l = []
  | d :: ds, l => match l with | d' :: ds' => renD js d d' ∧ renL js ds ds' | [] => False
def renB2 (js : List (Option Nat)) : Blk → Blk → Prop
  | .cells t ds, b' => match b' with | .cells t' ds' => t = t' ∧ renL js ds ds' | _ => False
  | b, b' => b = b' ∧ renB b = true
def renH2 (hp : List Blk) (jz : List (Option Nat)) : List (Option Nat) → List Blk → Prop
  | [], l => l = []
  | j :: js, l => match j, l with
    | some i, b' :: l' => (match hp[i]? with | some b => renB2 jz b b' | none => False) ∧ renH2 hp jz js l'
    | _, _ => False
section
variable {w0 w : World} {A : Nat → Prop} {s : St} {ms : List Ent} {a : Act}
theorem renH2_get {hp : List Blk} {jz : List (Option Nat)} : ∀ {js : List (Option Nat)} {l : List Blk}, renH2 hp jz js l → js.length = l.length ∧ ∀ {k : Nat} {b' : Blk}, l[k]? = some b' → ∃ i b, js[k]? = some (some i) ∧ hp[i]? = some b ∧ renB2 jz b b'
  | [], l, h => by simp only [renH2] at h; subst h; exact ⟨rfl, fun h => by simp at h⟩
  | none :: js, l, h => by simp [renH2] at h
  | some i :: js, [], h => by simp [renH2] at h
  | some i :: js, b :: l, h => by
    simp only [renH2] at h
    obtain ⟨h1, h3⟩ := h
    obtain ⟨g1, g2⟩ := renH2_get h3
    refine ⟨by simp [g1], fun {k b'} hk => ?_⟩
    cases k with
    | zero =>
      simp at hk; subst hk
      cases hb : hp[i]? with
      | none => rw [hb] at h1; exact h1.elim
      | some b0 => rw [hb] at h1; exact ⟨i, b0, by simp, hb, h1⟩
    | succ k => obtain ⟨i', b0, p1, p2⟩ := g2 (by simpa using hk); exact ⟨i', b0, by simpa using p1, p2⟩
theorem renD_ok {js : List (Option Nat)} {d d' : D} {u : Value} (hv : VX ms w (OkB w0.heap.size A ms w) d u) (h : renD js d d') : VX (js.map (pickE ms)) w (OkB w0.heap.size A (js.map (pickE ms)) w) d' u := by
  have hk : ∀ k, OkB w0.heap.size A ms w k → w.heap[k]? = w.heap[k]? ∧ OkB w0.heap.size A (js.map (pickE ms)) w k := fun k h => ⟨rfl, pick_ok h⟩
  cases d with
  | own i =>
    cases d' with
    | own k =>
      simp only [renD] at h
      obtain ⟨e, h1, e1, h2⟩ := hv.own_inv
      rw [e1]
      refine .own ?_ h2
      rw [List.getElem?_map, h]
      simp [pickE, h1]
    | _ => simp [renD] at h
  | ptr i o =>
    cases d' with
    | ptr k o' =>
      simp only [renD] at h
      obtain ⟨h0, rfl⟩ := h
      obtain ⟨e, b, h1, h2, e1⟩ := hv.ptr_inv
      rw [e1]
      refine .ptr (e := e) ?_ h2
      rw [List.getElem?_map, h0]
      simp [pickE, h1]
    | _ => simp [renD] at h
  | pin b i o =>
    cases d' with
    | pin b' k o' =>
      simp only [renD] at h
      obtain ⟨h0, rfl, rfl⟩ := h
      obtain ⟨e, h1, h2, e1⟩ := hv.pin_inv
      rw [e1]
      refine .pin (e := e) ?_ h2
      rw [List.getElem?_map, h0]
      simp [pickE, h1]
    | _ => simp [renD] at h
  | _ =>
    simp only [renD] at h
    obtain ⟨rfl, hp⟩ := h
    exact VX.mono hk hv fun i e hu _ => by rw [D.plain_uses i hp] at hu; exact Bool.noConfusion hu
theorem renL_ok {js : List (Option Nat)} : ∀ {ds ds' : List D} {us : List Value}, VXs ms w (OkB w0.heap.size A ms w) ds us → renL js ds ds' → VXs (js.map (pickE ms)) w (OkB w0.heap.size A (js.map (pickE ms)) w) ds' us
  | [], ds', _, h, h' => by simp only [renL] at h'; subst h'; cases h; exact .nil
  | d :: ds, [], _, _, h' => by simp [renL] at h'
  | d :: ds, d' :: ds', _, .cons h1 h2, h' => by
    simp only [renL] at h'
    exact .cons (renD_ok h1 h'.1) (renL_ok h2 h'.2)
theorem Weak_ren2 {s' : St} (js : List (Option Nat)) (hnd : nodupN (js.filterMap id) = true) (hn : s'.n = s.n) (hh : renH2 s.heap js js s'.heap) (hs : renS s js s'.slots) : Weak w0 A s s' := by
  intro ms a w hr
  obtain ⟨hl, hget⟩ := renH2_get hh
  have hnd := nodupN_iff hnd
  have hk : ∀ k, OkB w0.heap.size A ms w k → w.heap[k]? = w.heap[k]? ∧ OkB w0.heap.size A (js.map (pickE ms)) w k := fun k h => ⟨rfl, pick_ok h⟩
  refine ⟨js.map (pickE ms), hr.ext, hr.old, by rw [hn]; exact hr.size, hr.defers, by simp [hl], pick_nodup hr.nodup hnd, ?_, ?_, ?_⟩
  · intro k hk
    obtain ⟨i, e, _, h2, h3⟩ := mem_pick hk
    exact hr.range k (ent_owned h2 h3)
  · intro k b' e hb he
    obtain ⟨i, b, h1, h2, h3⟩ := hget hb
    rw [List.getElem?_map, h1] at he
    have hlt : i < ms.length := by rw [hr.len]; exact (List.getElem?_eq_some_iff.1 h2).1
    have hi : ms[i]? = some ms[i] := List.getElem?_eq_getElem hlt
    simp only [Option.map_some, pickE, hi, Option.getD_some, Option.some.injEq] at he
    subst he
    have hE := hr.ents i b _ h2 hi
    cases b with
    | cells t ds =>
      cases b' with
      | cells t' ds' =>
        simp only [renB2] at h3
        obtain ⟨rfl, h4⟩ := h3
        obtain ⟨g, us, g1, g2, g3⟩ := hE
        exact ⟨g, us, g1, g2, renL_ok g3 h4⟩
      | _ => simp [renB2] at h3
    | _ =>
      simp only [renB2] at h3
      obtain ⟨rfl, h4⟩ := h3
      exact hE.mono hk (fun _ _ => rfl) (fun _ _ => rfl) fun j e hu _ => by simp [Blk.uses] at hu
  · intro t
    rcases renS_look t hs with h | h
    · rw [St.get, h]; exact .no
    · exact renD_ok (hr.slots t) h
end
end Go.Proofs.YtcpjhpjlcgcigaaGreatDoor
