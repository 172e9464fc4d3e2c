/- Symbolic states: functions that are handed an array of the caller's own, to change it and to hand it back. No condition. -/
import Derived.Test.YtcbfpeplcbgpjaaAbsS
import Derived.Test.YtcbfpeplcbgpjaaLibc
import Derived.Lib.SliceRun
set_option linter.unusedSimpArgs false
set_option linter.unusedVariables false
namespace Go.Proofs.Ytcbfpeplcbgpjaa
open Go.ChangeShapes Go.WideShapes Go.ChangeAt Go.RowKit

/-- The world cut to its first blocks. -/
def cutW (w : World) (base : Nat) : World := { w with heap := w.heap.extract 0 base }
theorem cutW_size {w : World} {base : Nat} (h : base ≤ w.heap.size) : (cutW w base).heap.size = base := by simp [cutW]; omega
theorem cutW_ext {w : World} {base : Nat} (h : base ≤ w.heap.size) : Ext (cutW w base) w := by
  refine ⟨rfl, rfl, rfl, by rw [cutW_size h]; exact h, fun k hk => ?_⟩
  rw [cutW_size h] at hk
  simp only [cutW, Array.getElem?_extract]
  rw [if_pos (by omega)]; simp

/-- Behind a call that was handed the array e0: what was not its own is as it was. -/
structure PostM (base : Nat) (e0 : Ent) (d : D) (rh : List Blk) (ms : List Ent) (v : Value) (w w' : World) : Prop where
  os : w'.os = w.os
  tape : w'.tape = w.tape
  output : w'.output = w.output
  size : base ≤ w'.heap.size
  block : ∀ k, k < w.heap.size → k ∉ owned [e0] → w'.heap[k]? = w.heap[k]?
  len : ms.length = rh.length
  nodup : (owned ms).Nodup
  range : ∀ k ∈ owned ms, base ≤ k ∧ k < w'.heap.size ∧ (k < w.heap.size → k ∈ owned [e0])
  ents : ∀ (i : Nat) (b : Blk) (e : Ent), rh[i]? = some b → ms[i]? = some e → EntR base ms w' (OkB base (fun k => k < base) ms w') b e
  val : VX ms w' (OkB base (fun k => k < base) ms w') d v

/-- The function f, called with an array of the caller's own that b tells of (.own 0 in ds) and with values that read as ds tells, hands back d over rh; the array is then no more the caller's. -/
structure FnM (P : Program) (f : FuncId) (b : Blk) (ds : List D) (d : D) (rh : List Blk) : Prop where
  plain : ∀ args w, (callFunc f args).run P w = .ok (.enter f args) w
  arrs : rh.all Blk.isArr = true
  deep : rh.all Blk.isDeep = true
  calls : ∀ (base : Nat) (w : World) (e0 : Ent) (us : List Value), base ≤ w.heap.size → (owned [e0]).Nodup → (∀ k ∈ owned [e0], base ≤ k ∧ k < w.heap.size) → EntR base [e0] w (OkB base (fun k => k < base) [e0] w) b e0 →
    VXs [e0] w (OkB base (fun k => k < base) [e0] w) ds us → Calls P f us.toArray w fun e w' => ∃ v ms, e = .returned v ∧ PostM base e0 d rh ms v w w'

inductive retM (rs : Array ResultVar) (d : D) (rh : List Blk) (R : World → Value → Option Nat → List Nat → Prop) : Exit → St → Prop
  | r {s : St} : RetS rs d rh s → s.heap[1]? = some (.cust R) → retM rs d rh R .ret s
  | n {s : St} : RetS rs d rh s → s.heap[1]? = some (.cust R) → retM rs d rh R .normal s

def noCust : Blk → Bool
  | .cust _ => false
  | _ => true

theorem look_argM {ms : List Ent} {w : World} {Ok : Nat → Prop} (r : List Value) : ∀ {ds : List D} {us : List Value}, VXs ms w Ok ds us → ∀ (i t : Nat) (u : Value), (i ≤ t → u = (us ++ r).getD (t - i) undef) → VX ms w Ok (look (argSlots i ds) t) u
  | _, _, .nil, _, _, _, _ => .no
  | _, _, .cons hd hs, i, t, u, hu => by
    simp only [argSlots, look]
    split
    · rename_i e
      subst e
      rw [hu (Nat.le_refl _), Nat.sub_self]; exact hd
    · rename_i e
      refine look_argM r hs (i + 1) t u fun h => ?_
      rw [hu (by omega), show t - i = (t - (i + 1)) + 1 by omega]; rfl

def frozenE (v : Value) (l : List Nat) : Ent := ⟨v, none, l⟩
theorem owned_frozen (e0 : Ent) (v : Value) (l : List Nat) : owned [e0, frozenE v l] = owned [e0] ++ l := by simp [owned, frozenE]
theorem tops_frozen (e0 : Ent) (v : Value) (l : List Nat) : tops [e0, frozenE v l] = tops [e0] := by cases h : e0.top <;> simp [tops, frozenE, List.filterMap_cons, h]

theorem FnM_of {P : Program} {f : FuncId} {fn : Func} {c : Code} {b : Blk} {ds : List D} {d : D} {rh : List Blk} (hf : P.funcs[f]? = some fn) (hb : fn.body = some c) (hname : (fn.name == "runtime.NumGoroutine") = false) (hn : Nat.ble ds.length fn.ntmps = true)
    (hrh : rh.all Blk.isArr = true) (hdp : rh.all Blk.isDeep = true) (hnc : rh.all noCust = true) (hba : b.isArr = true)
    (h : ∀ w0 A R, W P w0 A c ⟨fn.ntmps, argSlots 0 ds, [b, .cust R]⟩ (retM fn.results d rh R)) : FnM P f b ds d rh := by
  refine ⟨?_, hrh, hdp, ?_⟩
  · intro args w
    have h1 : ¬ fn.name = "runtime.NumGoroutine" := by simpa using hname
    have h2 : ¬ fn.body = none := by rw [hb]; simp
    simp [callFunc, program, Sem.run, go_sem, hf, h1, h2]
  · intro base w e0 us hbase hnd hrg hE hus
    have hl := hus.len
    have hn' : ds.length ≤ fn.ntmps := Nat.le_of_ble_eq_true hn
    have hz := cutW_size hbase
    let fz := (List.range w.heap.size).filter fun k => decide (base ≤ k ∧ k ∉ owned [e0])
    have hfz : ∀ k, k ∈ fz ↔ k < w.heap.size ∧ base ≤ k ∧ k ∉ owned [e0] := by intro k; simp only [fz, List.mem_filter, List.mem_range, decide_eq_true_eq]
    let R : World → Value → Option Nat → List Nat → Prop := fun w2 _ top nest => top = none ∧ nest = fz ∧ ∀ k ∈ nest, w2.heap[k]? = w.heap[k]?
    let ms := [e0, frozenE undef fz]
    have hok : ∀ k, OkB base (fun k => k < base) [e0] w k → OkB base (fun k => k < base) ms w k := by
      rintro k ⟨k1, k2, k3⟩; exact ⟨k1, k2, by rw [show ms = [e0, frozenE undef fz] from rfl, tops_frozen]; exact k3⟩
    have hrun := (h (cutW w base) (fun k => k < base) R).run ms { tmps := us.toArray ++ Array.replicate (fn.ntmps - us.toArray.size) undef, defers := [] } w ?_
    · refine calls_of_wp hf hb (Code.wp_mono ?_ hrun)
      rintro e a' w' ⟨ms', s, hr, hq⟩
      have key : RetS fn.results d rh s → s.heap[1]? = some (.cust R) → a'.defers = [] ∧ ∃ v, (results fn a'.tmps).run P w' = .ok v w' ∧ ∃ v' ms, Ending.returned v = .returned v' ∧ PostM base e0 d rh ms v' w w' := by
        rintro ⟨dd, js, h1, h2, h3, h4⟩ hc
        obtain ⟨v, h5, h6⟩ := results_ok (P := P) h1 hr
        have hpost := hr.post h3 h4 h6 h2
        have hlt : 1 < ms'.length := by rw [hr.len]; exact (List.getElem?_eq_some_iff.1 hc).1
        have hm1 : ms'[1]? = some ms'[1] := List.getElem?_eq_getElem hlt
        obtain ⟨⟨r1, r2, r3⟩, _⟩ := hr.ents 1 _ _ hc hm1
        have hx : Below base (cutW w base) w' := by have := hpost.ext; unfold Ext at this; rwa [hz] at this
        have hpick : ∀ k ∈ owned (js.map (pickE ms')), k ∉ fz := by
          intro k hk hk2
          obtain ⟨i, e, hi, hie, hke⟩ := mem_pick hk
          have hi1 : i ≠ 1 := by
            rintro rfl
            obtain ⟨j, hj⟩ := List.getElem?_of_mem hi
            have hjl : j < rh.length := by rw [← rhOk_len h3]; exact (List.getElem?_eq_some_iff.1 hj).1
            rcases rhOk_get h3 (List.getElem?_eq_getElem hjl) with ⟨i', q1, q2, _⟩ | ⟨q1, _⟩
            · rw [hj] at q1; cases q1
              rw [hc] at q2
              simp only [Option.some.injEq] at q2
              have := (List.all_eq_true.1 hnc) _ (List.getElem_mem hjl)
              rw [← q2] at this; cases this
            · rw [hj] at q1; cases q1
          exact owned_disjoint hr.nodup hi1 hie hm1 hke (List.mem_append_right _ (by rw [r2]; exact hk2))
        refine ⟨hr.defers, v, h5, v, _, rfl, hx.os, hx.tape, hx.output, by have := hx.size; rwa [hz] at this, ?_, hpost.len, hpost.nodup, ?_, ?_, ?_⟩
        · intro k hk hko
          by_cases hkb : k < base
          · rw [hx.block k hkb]
            simp only [cutW, Array.getElem?_extract]
            rw [if_pos (by omega)]; simp
          · exact r3 k (by rw [r2]; exact (hfz k).2 ⟨hk, by omega, hko⟩)
        · intro k hk
          have hk1 := hpost.range k hk
          rw [hz] at hk1
          refine ⟨hk1.1, hk1.2, fun hlt2 => ?_⟩
          by_cases hko : k ∈ owned [e0]
          · exact hko
          · exact absurd ((hfz k).2 ⟨hlt2, hk1.1, hko⟩) (hpick k hk)
        · intro i b e hi he
          have := hpost.ents i b e hi he
          rwa [hz] at this
        · have := hpost.val
          rwa [hz] at this
      cases hq with
      | r h hc => exact key h hc
      | n h hc => exact key h hc
    · have hown : owned ms = owned [e0] ++ fz := owned_frozen e0 undef fz
      refine ⟨cutW_ext hbase, fun k hk => by rw [hz]; exact hk, by simp; omega, rfl, rfl, ?_, ?_, ?_, fun t => ?_⟩
      · rw [hown]
        refine List.nodup_append.2 ⟨hnd, (List.nodup_range).filter _, fun p hp q hq e => ?_⟩
        subst e
        exact ((hfz p).1 hq).2.2 hp
      · intro k hk
        rw [hown, List.mem_append] at hk
        rw [hz]
        rcases hk with hk | hk
        · exact hrg k hk
        · exact ⟨((hfz k).1 hk).2.1, ((hfz k).1 hk).1⟩
      · intro i b' e hi he
        rw [hz]
        match i, hi, he with
        | 0, hi, he =>
          simp only [ms, List.getElem?_cons_zero, Option.some.injEq] at hi he
          subst hi; subst he
          refine hE.mono (fun k hk => ⟨rfl, hok k hk⟩) (fun _ _ => rfl) (fun _ _ => rfl) fun j e hu _ => ?_
          cases b <;> simp [Blk.isArr] at hba <;> simp [Blk.uses] at hu
        | 1, hi, he =>
          simp only [ms, List.getElem?_cons_succ, List.getElem?_cons_zero, Option.some.injEq] at hi he
          subst hi; subst he
          refine ⟨⟨rfl, rfl, fun _ _ => rfl⟩, fun w2 h2 => ⟨rfl, rfl, fun k hk => h2 k (by simpa [frozenE] using hk)⟩⟩
        | i + 2, hi, _ => simp at hi
      · rw [hz]
        have hus' : VXs ms w (OkB base (fun k => k < base) ms w) ds us := VXs.mono (fun k hk => ⟨rfl, hok k hk⟩) hus fun i e _ hi => by
          rw [show ms = [e0] ++ [frozenE undef fz] from rfl, List.getElem?_append_left (List.getElem?_eq_some_iff.1 hi).1]; exact hi
        refine look_argM (List.replicate (fn.ntmps - us.length) undef) hus' 0 t _ fun _ => ?_
        have e : (us.toArray ++ Array.replicate (fn.ntmps - us.toArray.size) undef) = (us ++ List.replicate (fn.ntmps - us.length) undef).toArray := by
          rw [← List.append_toArray, List.size_toArray, List.toArray_replicate]
        rw [e]; simp [Array.getD_eq_getD_getElem?, List.getD_eq_getElem?_getD]

/-! ### The caller's side -/
section
variable {P : Program} {w0 w w' : World} {A : Nat → Prop} {n : Nat} {sl : List (Nat × D)} {hp : List Blk} {ms mr : List Ent} {a : Act} {i : Nat} {e : Ent}
theorem mem_owned1 {k : Nat} (hn : e.nest = []) : k ∈ owned [e] ↔ e.top = some k := by simp [owned, hn]
theorem mem_tops1 {k : Nat} : k ∈ tops [e] ↔ e.top = some k := by cases h : e.top <;> simp [tops, List.filterMap_cons, h]; exact eq_comm
theorem flat_nest (hr : Rel w0 A ms ⟨n, sl, hp⟩ a w) {T : TypeId} {m : Nat} {xs : List (List D)} (hi : ms[i]? = some e) (hb : hp[i]? = some (.arr T m xs true)) (hf : Flat xs) : e.nest = [] := by
  obtain ⟨us, bs, h1, h2, h3, h4, h5⟩ := hr.ents i _ e hb hi
  rw [h5.1]
  exact VRs.flat (fun d hd => by obtain ⟨r, hr, hd⟩ := List.mem_flatten.1 hd; exact hf r hr d hd) h3

theorem Rel.calledM (hr : Rel w0 A ms ⟨n, sl, hp⟩ a w) {T : TypeId} {m : Nat} {xs : List (List D)} (hi : ms[i]? = some e) (hb : hp[i]? = some (.arr T m xs true)) (hf : Flat xs) {d : D} {rh : List Blk} {v : Value} (harr : rh.all Blk.isArr = true) (hdeep : rh.all Blk.isDeep = true)
    (hp' : PostM w0.heap.size e d rh mr v w w') : Rel w0 A (ms.set i ⟨e.v, none, []⟩ ++ mr) ⟨n, killS (isI i) sl, newH (isI i) noneI i .gone 0 hp ++ rh⟩ a w' := by
  have hne := flat_nest hr hi hb hf
  have hilt : i < ms.length := (List.getElem?_eq_some_iff.1 hi).1
  have hlen : ms.length = hp.length := hr.len
  have hget : ∀ j, (ms.set i ⟨e.v, none, []⟩)[j]? = if j = i then some ⟨e.v, none, []⟩ else ms[j]? := by
    intro j
    by_cases hji : j = i
    · subst hji; rw [if_pos rfl, List.getElem?_set_self hilt]
    · rw [if_neg hji, List.getElem?_set_ne (Ne.symm hji)]
  have hkeep : ∀ k, k < w.heap.size → e.top ≠ some k → w'.heap[k]? = w.heap[k]? := fun k h1 h2 => hp'.block k h1 fun h => h2 ((mem_owned1 hne).1 h)
  have hlt : ∀ k, k < w.heap.size → e.top ≠ some k → k < w'.heap.size := fun k h1 h2 => (Array.getElem?_eq_some_iff.1 ((hkeep k h1 h2).trans (Array.getElem?_eq_getElem h1))).1
  have htop : ∀ j x k, ms[j]? = some x → j ≠ i → k ∈ x.top.toList ++ x.nest → e.top ≠ some k := fun j x k hj hji hk h => owned_disjoint hr.nodup hji hj hi hk (by simp [h])
  have hmr : ∀ k ∈ owned mr, k < w.heap.size → e.top = some k := fun k hk h => (mem_owned1 hne).1 ((hp'.range k hk).2.2 h)
  have hk : ∀ k, OkB w0.heap.size A ms w k → w'.heap[k]? = w.heap[k]? ∧ OkB w0.heap.size A (ms.set i ⟨e.v, none, []⟩ ++ mr) w' k := by
    rintro k ⟨k1, k2, k3⟩
    have hnt : e.top ≠ some k := fun h => k3 (tops_mem hi h)
    refine ⟨hkeep k k1 hnt, hlt k k1 hnt, k2, ?_⟩
    rw [tops_append, List.mem_append]
    rintro (h | h)
    · obtain ⟨j, x, hj, ht⟩ := mem_tops h
      rw [hget] at hj
      split at hj
      · cases hj; cases ht
      · exact k3 (tops_mem hj ht)
    · exact hnt (hmr k (tops_owned h) k1)
  have hm : ∀ (j : Nat) (x : Ent), isI i j = false → ms[j]? = some x → (ms.set i ⟨e.v, none, []⟩ ++ mr)[j]? = some x := by
    intro j x hj hx
    have hji : j ≠ i := by rintro rfl; simp [isI] at hj
    rw [List.getElem?_append_left (by simpa using (List.getElem?_eq_some_iff.1 hx).1), hget, if_neg hji]; exact hx
  refine ⟨?_, hr.old, hr.size, hr.defers, by simp [newH_len, hlen, hp'.len], ?_, ?_, ?_, ?_⟩
  · have hx := hr.ext
    refine ⟨hp'.os.trans hx.os, hp'.tape.trans hx.tape, hp'.output.trans hx.output, hp'.size, fun k hk0 => ?_⟩
    have h1 : k < w.heap.size := Nat.lt_of_lt_of_le hk0 hx.size
    rw [hkeep k h1 fun h => ?_]
    · exact hx.block k hk0
    · have := (hr.range k (ent_owned hi (by simp [h]))).1; omega
  · rw [owned_append]
    refine List.nodup_append.2 ⟨?_, hp'.nodup, ?_⟩
    · refine owned_nodup_of ?_ ?_
      · intro j x hj
        rw [hget] at hj
        split at hj
        · cases hj; simp
        · exact owned_self hr.nodup hj
      · intro j1 j2 x1 x2 k hne2 h1 h2 hk1 hk2
        rw [hget] at h1 h2
        split at h1
        · cases h1; simp at hk1
        · split at h2
          · cases h2; simp at hk2
          · exact owned_disjoint hr.nodup hne2 h1 h2 hk1 hk2
    · intro p hp1 q hq e2
      subst e2
      obtain ⟨j, x, hj, hk2⟩ := mem_owned hp1
      rw [hget] at hj
      split at hj
      · cases hj; simp at hk2
      · rename_i hji
        exact htop j x p hj hji hk2 (hmr p hq (hr.range p (ent_owned hj hk2)).2)
  · intro k hk2
    rw [owned_append, List.mem_append] at hk2
    rcases hk2 with hk2 | hk2
    · obtain ⟨j, x, hj, hk2⟩ := mem_owned hk2
      rw [hget] at hj
      split at hj
      · cases hj; simp at hk2
      · rename_i hji
        have h1 := hr.range k (ent_owned hj hk2)
        exact ⟨h1.1, hlt k h1.2 (htop j x k hj hji hk2)⟩
    · exact ⟨(hp'.range k hk2).1, (hp'.range k hk2).2.1⟩
  · intro j b x hj hx
    by_cases hjl : j < hp.length
    · rw [List.getElem?_append_left (by simpa [newH_len] using hjl), newH_get] at hj
      rw [List.getElem?_append_left (by simpa [hlen] using hjl), hget] at hx
      simp only [Nat.zero_add] at hj
      obtain ⟨b0, hb0, rfl⟩ := Option.map_eq_some_iff.1 hj
      by_cases hji : j = i
      · subst hji
        simp only [if_true, Option.some.injEq] at hx
        rw [if_pos rfl]
        subst hx; exact ⟨rfl, rfl⟩
      · rw [if_neg hji] at hx
        rw [if_neg hji]
        simp only [noneI, Bool.false_eq_true, if_false]
        have hE := hr.ents j b0 x hb0 hx
        have ht : ∀ k, k ∈ x.top.toList ++ x.nest → w'.heap[k]? = w.heap[k]? := fun k hk2 => hkeep k (hr.range k (ent_owned hx hk2)).2 (htop j x k hx hji hk2)
        cases b0 with
        | cells t ds =>
          obtain ⟨b, us, rfl, h2, h3⟩ := hE
          exact ⟨b, us, rfl, by rw [ht b (by simp)]; exact h2, killD_mono hk hm h3⟩
        | gone => exact hE
        | fr n xs => exact hE.mono (ms := ms) (b := .fr n xs) hk (fun k h => ht k (by simp [h])) (fun k h => ht k (List.mem_append_right _ h)) fun _ _ h _ => by simp [Blk.uses] at h
        | cust R => exact hE.mono (ms := ms) (b := .cust R) hk (fun k h => ht k (by simp [h])) (fun k h => ht k (List.mem_append_right _ h)) fun _ _ h _ => by simp [Blk.uses] at h
        | arr t n xs dp => exact hE.mono (ms := ms) (b := .arr t n xs dp) hk (fun k h => ht k (by simp [h])) (fun k h => ht k (List.mem_append_right _ h)) fun _ _ h _ => by simp [Blk.uses] at h
    · rw [List.getElem?_append_right (by simp [newH_len]; omega)] at hj
      rw [List.getElem?_append_right (by simp; omega)] at hx
      simp only [newH_len, List.length_set, hlen] at hj hx
      have hE := hp'.ents _ b x hj hx
      have hbd := List.all_eq_true.1 hdeep _ (List.mem_of_getElem? hj)
      have hba := List.all_eq_true.1 harr _ (List.mem_of_getElem? hj)
      cases b with
      | cells t ds => simp [Blk.isArr] at hba
      | gone => simp [Blk.isArr] at hba
      | fr n xs => exact hE
      | cust R => exact hE
      | arr t n xs dp =>
        simp only [Blk.isDeep] at hbd
        subst hbd
        exact hE
  · intro t
    simp only [St.get]
    rcases look_kill (p := isI i) (t := t) (l := sl) with h | h <;> rw [h]
    · exact kill_mono hk hm (hr.slots t)
    · exact .no

/-- Values that do not lie in the array i. -/
abbrev Av (w0 : World) (e : Ent) (w : World) : Nat → Prop := OkB w0.heap.size (fun k => k < w0.heap.size) [e] w
theorem av_of {k : Nat} (h1 : k < w.heap.size) (h2 : e.top ≠ some k) : Av w0 e w k := ⟨h1, by omega, fun h => h2 (mem_tops1.1 h)⟩
theorem av_ok (hi : ms[i]? = some e) {k : Nat} (h : OkB w0.heap.size A ms w k) : Av w0 e w k := av_of h.1 fun h2 => h.2.2 (tops_mem hi h2)
theorem get_set_gone {j : Nat} {b : Blk} (h : (hp.set i .gone)[j]? = some b) (hb : b.isArr = true ∨ ∃ t ds, b = .cells t ds) : j ≠ i ∧ hp[j]? = some b := by
  by_cases hji : j = i
  · subst hji
    by_cases hl : j < hp.length
    · rw [List.getElem?_set_self hl] at h; cases h
      rcases hb with hb | ⟨t, ds, hb⟩
      · simp [Blk.isArr] at hb
      · cases hb
    · rw [List.getElem?_eq_none (by simpa using Nat.le_of_not_lt hl)] at h; cases h
  · rw [List.getElem?_set_ne (Ne.symm hji)] at h; exact ⟨hji, h⟩

theorem cellV_av (hr : Rel w0 A ms ⟨n, sl, hp⟩ a w) (hi : ms[i]? = some e) {d d' : D} {u : Value} (h : VX ms w (OkB w0.heap.size A ms w) d u) (hd : cellV (hp.set i .gone) d = some d') : ∃ bs, VR w d' u bs ∧ ∀ k ∈ bs, Av w0 e w k := by
  unfold cellV at hd
  split at hd
  · simp only [Option.some.injEq] at hd; subst hd
    obtain ⟨rfl, h1⟩ := h.lit_inv; exact ⟨[], .lit h1, by simp⟩
  · simp only [Option.some.injEq] at hd; subst hd
    rw [h.nil_inv]; exact ⟨[], .nil, by simp⟩
  · simp only [Option.some.injEq] at hd; subst hd
    obtain ⟨bs, h1, h2⟩ := h.sh_inv; exact ⟨bs, h1, fun k hk => av_ok hi (h2 k hk)⟩
  · rename_i j
    split at hd
    · rename_i hb
      simp only [Option.some.injEq] at hd; subst hd
      obtain ⟨hji, hb⟩ := get_set_gone hb (Or.inl rfl)
      obtain ⟨e', hj, rfl, _⟩ := h.own_inv
      obtain ⟨bs, h1, h2⟩ := hr.view hj hb
      exact ⟨bs, h1, fun k hk => av_of (h2 k hk).1 fun ht => owned_disjoint (k := k) hr.nodup hji hj hi (by simp [(h2 k hk).2.2 (tops_mem hi ht)]) (by simp [ht])⟩
    · rename_i hb
      simp only [Option.some.injEq] at hd; subst hd
      obtain ⟨hji, hb⟩ := get_set_gone hb (Or.inl rfl)
      obtain ⟨e', hj, rfl, _⟩ := h.own_inv
      obtain ⟨_, h1, h2⟩ := hr.ents _ _ e' hb hj
      exact ⟨e'.nest, h1, fun k hk => av_of (h2 k hk).lt fun ht => owned_disjoint (k := k) hr.nodup hji hj hi (List.mem_append_right _ hk) (by simp [ht])⟩
    · simp at hd
  · simp at hd
theorem cellsVK_av {α : Type} (hr : Rel w0 A ms ⟨n, sl, hp⟩ a w) (hi : ms[i]? = some e) : ∀ {ds : List D} {us : List Value} {k : List D → Option α} {r : α}, VXs ms w (OkB w0.heap.size A ms w) ds us → cellsVK (hp.set i .gone) ds k = some r → ∃ l bs, VRs w l us bs ∧ (∀ k ∈ bs, Av w0 e w k) ∧ k l = some r
  | [], _, _, _, .nil, h => ⟨[], [], .nil, by simp, h⟩
  | d :: ds, _, k, r, .cons h h', hk => by
    simp only [cellsVK] at hk
    split at hk
    · rename_i d' hd
      obtain ⟨bs, h1, h2⟩ := cellV_av hr hi h hd
      obtain ⟨l, bs', h3, h4, h5⟩ := cellsVK_av hr hi h' hk
      exact ⟨_, _, .cons h1 h3, fun k hk => (List.mem_append.1 hk).elim (h2 k) (h4 k), h5⟩
    · simp at hk
theorem argV_av {α : Type} (hr : Rel w0 A ms ⟨n, sl, hp⟩ a w) (hi : ms[i]? = some e) {d : D} {u : Value} {k : D → Option α} {r : α} (h : VX ms w (OkB w0.heap.size A ms w) d u) (hk : argV (hp.set i .gone) d k = some r) : ∃ d', VX [e] w (Av w0 e w) d' u ∧ k d' = some r := by
  unfold argV at hk
  split at hk
  · obtain ⟨us, b, o, bs, rfl, h1, h2, h3, h4⟩ := h.sptr_inv
    exact ⟨_, .sptr h1 (av_ok hi h2) (fun k hk => av_ok hi (h3 k hk)) h4, hk⟩
  · rename_i j o
    obtain ⟨e', b, hj, ht, rfl⟩ := h.ptr_inv
    split at hk
    · rename_i T ds hb
      obtain ⟨hji, hb⟩ := get_set_gone hb (Or.inr ⟨_, _, rfl⟩)
      obtain ⟨b', us, rfl, h3, h4⟩ := hr.ents j _ e' hb hj
      simp only [Option.some.injEq] at ht
      subst ht
      obtain ⟨h5, h6⟩ := dropK_eq _ _ _ hk
      obtain ⟨l, bs, h7, h8, h9⟩ := cellsVK_av hr hi (h4.drop o) h5
      refine ⟨_, .sptr h7 ?_ h8 ?_, h9⟩
      · exact av_of (Array.getElem?_eq_some_iff.1 h3).1 fun ht => owned_disjoint (k := b') hr.nodup hji hj hi (by simp) (by simp [ht])
      · intro j hj
        simp only [List.length_drop] at hj
        simp [World.cell?, h3]
    · simp at hk
  · obtain ⟨us, rfl, h1⟩ := h.agg_inv
    obtain ⟨l, bs, h7, h8, h9⟩ := cellsVK_av hr hi h1 hk
    exact ⟨_, .agg (VXs.of_rd h7 h8), h9⟩
  · split at hk
    · rename_i d' hd
      obtain ⟨bs, h1, h2⟩ := cellV_av hr hi h hd
      exact ⟨d', .rd h1 h2, hk⟩
    · simp at hk
theorem argsVK_av {α : Type} (hr : Rel w0 A ms ⟨n, sl, hp⟩ a w) (hi : ms[i]? = some e) : ∀ {ds : List D} {us : List Value} {k : List D → Option α} {r : α}, VXs ms w (OkB w0.heap.size A ms w) ds us → argsVK (hp.set i .gone) ds k = some r → ∃ l, VXs [e] w (Av w0 e w) l us ∧ k l = some r
  | [], _, _, _, .nil, h => ⟨[], .nil, h⟩
  | d :: ds, _, k, r, .cons h h', hk => by
    obtain ⟨d', h1, h2⟩ := argV_av hr hi h hk
    obtain ⟨l, h3, h4⟩ := argsVK_av hr hi h' h2
    exact ⟨_, .cons h1 h3, h4⟩
theorem argF_av {α : Type} (hr : Rel w0 A ms ⟨n, sl, hp⟩ a w) (hi : ms[i]? = some e) {d : D} {u : Value} {k : D → Option α} {r : α} (h : VX ms w (OkB w0.heap.size A ms w) d u) (hk : argF (hp.set i .gone) d k = some r) : ∃ d', VX [e] w (Av w0 e w) d' u ∧ k d' = some r := by
  unfold argF at hk
  split at hk
  · obtain ⟨us, rfl, h1⟩ := h.fn_inv
    obtain ⟨l, h2, h3⟩ := argsVK_av hr hi h1 hk
    exact ⟨_, .fn h2, h3⟩
  · exact argV_av hr hi h hk
theorem argsFK_av {α : Type} (hr : Rel w0 A ms ⟨n, sl, hp⟩ a w) (hi : ms[i]? = some e) : ∀ {ds : List D} {us : List Value} {k : List D → Option α} {r : α}, VXs ms w (OkB w0.heap.size A ms w) ds us → argsFK (hp.set i .gone) ds k = some r → ∃ l, VXs [e] w (Av w0 e w) l us ∧ k l = some r
  | [], _, _, _, .nil, h => ⟨[], .nil, h⟩
  | d :: ds, _, k, r, .cons h h', hk => by
    obtain ⟨d', h1, h2⟩ := argF_av hr hi h hk
    obtain ⟨l, h3, h4⟩ := argsFK_av hr hi h' h2
    exact ⟨_, .cons h1 h3, h4⟩

variable {ops : Array Oper} {rest : List Oper} {K : St → Prop} {dst : Tmp} {ty : TypeId} {pos : String} {after : Array Edge}
/-- A call that is handed an array of the call's own, for good. -/
theorem R_callM {f : FuncId} {fo x0 : Operand} {args : Array Operand} {xs0 : List Operand} {tys : Array TypeId} {ds caps : List D} {d d2 : D} {rh hp1 hp2 : List Blk} {sl' : List (Nat × D)} {T : TypeId} {m : Nat} {xs : List (List D)} (hf : evD (look sl) fo = .fn f caps) (hF : FnM P f (.arr T m xs true) (.own 0 :: ds) d rh)
    (ha : args.toList = x0 :: xs0) (hx : evD (look sl) x0 = .own i) (hb : hp[i]? = some (.arr T m xs true)) (hds : mapK (evD (look sl)) xs0 (fun l => argsFK (hp.set i .gone) (l ++ caps) fun l => some l) = some ds) (hd : Nat.blt dst n = true) (hno : noRd d = true)
    (hs : killK (isI i) sl (fun l => some l) = some sl') (hh : newK (isI i) noneI i .gone 0 hp (fun l => some l) = some hp1) (hflat : Flat xs)
    (hk : WO P w0 A ops rest ⟨n, (dst, d2) :: sl', hp2⟩ K) (e1 : d.shift hp1.length = d2 := by first | (dsimp only [D.shift, D.shiftL, List.cons_append, List.nil_append, List.append_nil, List.length_cons, List.length_nil, Nat.reduceAdd]; done) | exact rfl) (e2 : hp1 ++ rh = hp2 := by first | (dsimp only [D.shift, D.shiftL, List.cons_append, List.nil_append, List.append_nil, List.length_cons, List.length_nil, Nat.reduceAdd]; done) | exact rfl) : WO P w0 A ops (⟨some dst, .call ⟨.value fo, args, tys⟩, ty, pos, after, none⟩ :: rest) ⟨n, sl, hp⟩ K := by
  subst e1; subst e2
  refine ⟨fun ms a w hr Q hq => ?_⟩
  refine wpList_plain rfl fun Kn hKn => ?_
  have hs := killK_eq hs; have hh := newK_eq hh; have hds := mapK_eq hds
  simp only [Option.some.injEq] at hs hh
  obtain ⟨e, hi, ev, hsl⟩ := (hr.ev_at hx).own_inv
  obtain ⟨cs, e1, hcs⟩ := (hr.ev_at hf).fn_inv
  have hv : VXs ms w (OkB w0.heap.size A ms w) (xs0.map (evD (look sl)) ++ caps) (xs0.map a.eval ++ cs) := (VXs.of_map fun x _ => hr.ev x).append hcs
  obtain ⟨l, h1, h2⟩ := argsFK_av hr hi hv hds
  simp only [Option.some.injEq] at h2
  subst h2
  have hne := flat_nest hr hi hb hflat
  have hnd : (owned [e]).Nodup := by
    have := owned_self hr.nodup hi
    simpa [owned] using this
  have hE : EntR w0.heap.size [e] w (Av w0 e w) (.arr T m xs true) e := by
    refine (hr.ents i _ e hb hi).mono (fun k hk => ⟨rfl, av_ok hi hk⟩) (fun _ _ => rfl) (fun _ _ => rfl) fun _ _ h _ => by simp [Blk.uses] at h
  have hargs : args.toList.map a.eval ++ cs = e.v :: (xs0.map a.eval ++ cs) := by rw [ha, List.map_cons, List.cons_append, ev]
  refine enter_call (run_call (o := ⟨some dst, .call ⟨.value fo, args, tys⟩, ty, pos, after, none⟩) rfl hF.plain e1) ?_
  rw [hargs]
  refine (hF.calls w0.heap.size w e _ hr.ext.size hnd (fun k hk => ?_) hE (.cons (.own (i := 0) rfl hsl) h1)).mono ?_
  · have ht := (mem_owned1 hne).1 hk
    exact hr.range k (ent_owned hi (by simp [ht]))
  rintro e' w' ⟨v, mr, rfl, hpost⟩
  have hr' := hr.calledM hi hb hflat hF.arrs hF.deep hpost
  rw [hs, hh] at hr'
  have hlen : hp1.length = ms.length := by rw [← hh, newH_len]; exact hr.len.symm
  have hval : VX (ms.set i ⟨e.v, none, []⟩ ++ mr) w' (OkB w0.heap.size A (ms.set i ⟨e.v, none, []⟩ ++ mr) w') (d.shift hp1.length) v := noRd_ok (fun j x hj => by rw [List.getElem?_append_right (by simp; omega)]; simp only [List.length_set]; rw [hlen, Nat.add_sub_cancel_left]; exact hj) hpost.val hno
  exact ⟨v, rfl, hKn _ _ (hk.run _ _ w' (Rel.put (t := some dst) hr' hval (dstOk_all (s := ⟨n, _, _⟩) (t := some dst) hd)) Q hq)⟩

/-! ### A part of an array of the call's own; its tail cleared -/
theorem run_cut {t T : TypeId} {inf : TypeInfo} {m : Nat} (h : P.underlying t = some (.slice T)) (hT : P.info? T = some inf) (hm : inf.size = m) {av : Option Addr} {len cap : Nat} {j : Int} (h0 : 0 ≤ j) (h1 : j ≤ len) (h2 : len ≤ cap) :
    (Instr.sliceAt t (.slice av len cap) none (some (.int .i64 j)) none).run P w = .ok (.slice av j.toNat cap) w := by
  have hb := run_bound (P := P) (w := w) (i := j) (y := cap) (code := .sliceAcap) ⟨h0, by omega⟩
  simp only [Instr.sliceAt, Instr.slice, Instr.sliceBounds, Sem.run_bind, run_underlying h, Result.andThen, run_sizeOf hT, hm]
  simp only [if_true, hb, Sem.run, pure, Result.andThen, Nat.sub_zero]
  cases av with
  | none => simp
  | some ad => by_cases hc : cap = 0 <;> simp [hc, Addr.add]
theorem run_tail {t T : TypeId} {inf : TypeInfo} {m : Nat} (h : P.underlying t = some (.slice T)) (hT : P.info? T = some inf) (hm : inf.size = m) {av : Option Addr} {len cap : Nat} {j : Int} (h0 : 0 ≤ j) (h1 : j ≤ len) (h2 : len ≤ cap) :
    (Instr.sliceAt t (.slice av len cap) (some (.int .i64 j)) none none).run P w = .ok (.slice (if cap = j.toNat then av else av.map (·.add (j.toNat * m))) (len - j.toNat) (cap - j.toNat)) w := by
  have hb := run_bound (P := P) (w := w) (i := j) (y := len) (code := .sliceB) ⟨h0, h1⟩
  simp only [Instr.sliceAt, Instr.slice, Instr.sliceBounds, Sem.run_bind, run_underlying h, Result.andThen, run_sizeOf hT, hm]
  simp only [hb, Sem.run, pure, Result.andThen, Option.isSome_none, Bool.false_eq_true, if_false]

/-- The array i told anew: another slice over the same block. -/
theorem Rel.retold (hr : Rel w0 A ms ⟨n, sl, hp⟩ a w) {b' : Blk} {e' : Ent} (hi : ms[i]? = some e) (ht : e'.top = e.top) (hn : e'.nest = e.nest) (hE : ∀ ms', EntR w0.heap.size ms' w (OkB w0.heap.size A ms w) b' e') (hu : ∀ j, b'.uses j = false) :
    Rel w0 A (ms.set i e') ⟨n, killS (isI i) sl, newH (isI i) noneI i b' 0 hp⟩ a w := by
  have hilt : i < ms.length := (List.getElem?_eq_some_iff.1 hi).1
  have hget : ∀ j, (ms.set i e')[j]? = if j = i then some e' else ms[j]? := by
    intro j
    by_cases hji : j = i
    · subst hji; rw [if_pos rfl, List.getElem?_set_self hilt]
    · rw [if_neg hji, List.getElem?_set_ne (Ne.symm hji)]
  have hsame : ∀ (j : Nat) (x : Ent), (ms.set i e')[j]? = some x → ∃ y : Ent, ms[j]? = some y ∧ x.top = y.top ∧ x.nest = y.nest := by
    intro j x hj
    rw [hget] at hj
    split at hj
    · rename_i h; subst h; cases hj; exact ⟨e, hi, ht, hn⟩
    · exact ⟨x, hj, rfl, rfl⟩
  have htops : ∀ k, k ∈ tops (ms.set i e') ↔ k ∈ tops ms := by
    intro k
    constructor
    · intro h
      obtain ⟨j, x, hj, h1⟩ := mem_tops h
      obtain ⟨y, h2, h3, _⟩ := hsame j x hj
      exact tops_mem h2 (h3 ▸ h1)
    · intro h
      obtain ⟨j, x, hj, h1⟩ := mem_tops h
      by_cases hji : j = i
      · subst hji
        rw [hi] at hj; cases hj
        exact tops_mem (i := j) (e := e') (by rw [hget, if_pos rfl]) (by rw [ht]; exact h1)
      · exact tops_mem (i := j) (e := x) (by rw [hget, if_neg hji]; exact hj) h1
  have hk : ∀ k, OkB w0.heap.size A ms w k → w.heap[k]? = w.heap[k]? ∧ OkB w0.heap.size A (ms.set i e') w k := by
    rintro k ⟨k1, k2, k3⟩; exact ⟨rfl, k1, k2, fun h => k3 ((htops k).1 h)⟩
  have hm : ∀ (j : Nat) (x : Ent), isI i j = false → ms[j]? = some x → (ms.set i e')[j]? = some x := by
    intro j x hj hx
    have hji : j ≠ i := by rintro rfl; simp [isI] at hj
    rw [hget, if_neg hji]; exact hx
  refine ⟨hr.ext, hr.old, hr.size, hr.defers, by have := hr.len; simp only at this; simp [newH_len, this], ?_, ?_, ?_, ?_⟩
  · refine owned_nodup_of ?_ ?_
    · intro j x hj
      obtain ⟨y, h1, h2, h3⟩ := hsame j x hj
      rw [h2, h3]; exact owned_self hr.nodup h1
    · intro j1 j2 x1 x2 k hne h1 h2 hk1 hk2
      obtain ⟨y1, q1, q2, q3⟩ := hsame j1 x1 h1
      obtain ⟨y2, r1, r2, r3⟩ := hsame j2 x2 h2
      rw [q2, q3] at hk1; rw [r2, r3] at hk2
      exact owned_disjoint hr.nodup hne q1 r1 hk1 hk2
  · intro k hk2
    obtain ⟨j, x, hj, hk2⟩ := mem_owned hk2
    obtain ⟨y, q1, q2, q3⟩ := hsame j x hj
    rw [q2, q3] at hk2
    exact hr.range k (ent_owned q1 hk2)
  · intro j b x hj hx
    simp only [newH_get, Nat.zero_add] at hj
    obtain ⟨b0, hb0, rfl⟩ := Option.map_eq_some_iff.1 hj
    rw [hget] at hx
    by_cases hji : j = i
    · subst hji
      simp only [if_true, Option.some.injEq] at hx
      rw [if_pos rfl]
      subst hx
      exact (hE ms).mono hk (fun _ _ => rfl) (fun _ _ => rfl) fun j e h _ => by rw [hu j] at h; cases h
    · rw [if_neg hji] at hx
      rw [if_neg hji]
      simp only [noneI, Bool.false_eq_true, if_false]
      have hE := hr.ents j b0 x hb0 hx
      cases b0 with
      | cells t ds =>
        obtain ⟨b, us, rfl, h2, h3⟩ := hE
        exact ⟨b, us, rfl, h2, killD_mono hk hm h3⟩
      | gone => exact hE
      | fr n xs => exact hE.mono (ms := ms) (b := .fr n xs) hk (fun _ _ => rfl) (fun _ _ => rfl) fun _ _ h _ => by simp [Blk.uses] at h
      | cust R => exact hE.mono (ms := ms) (b := .cust R) hk (fun _ _ => rfl) (fun _ _ => rfl) fun _ _ h _ => by simp [Blk.uses] at h
      | arr t n xs dp => exact hE.mono (ms := ms) (b := .arr t n xs dp) hk (fun _ _ => rfl) (fun _ _ => rfl) fun _ _ h _ => by simp [Blk.uses] at h
  · intro t
    simp only [St.get]
    rcases look_kill (p := isI i) (t := t) (l := sl) with h | h <;> rw [h]
    · exact kill_mono hk hm (hr.slots t)
    · exact .no

/-- The first part of an array of the call's own. -/
theorem R_cutOwn {tab : Nat → Option TI} (hT : TabOk P tab) {t T : TypeId} {m : Nat} {j : Int} {xs : List (List D)} {x y : Operand} {agg : Bool} {size bytes : Nat} {zero : List Value} {k' : TK} {agg' : Bool} {bytes' : Nat} {zero' : List Value} {sl' : List (Nat × D)} {hp' : List Blk}
    (hx : evD (look sl) x = .own i) (hy : evD (look sl) y = .lit (.int .i64 j)) (hb : hp[i]? = some (.arr T m xs true)) (ht : tab t = some ⟨.sl T, agg, size, bytes, zero⟩) (hT' : tab T = some ⟨k', agg', m, bytes', zero'⟩) (hd : Nat.blt dst n = true)
    (hs : killK (isI i) sl (fun l => some l) = some sl') (hh : newK (isI i) noneI i (.arr T m (xs.take j.toNat) true) 0 hp (fun l => some l) = some hp') (hf : Flat xs) (hj : 0 ≤ j ∧ j ≤ xs.length)
    (hK : WO P w0 A ops rest ⟨n, (dst, .own i) :: sl', hp'⟩ K) : WO P w0 A ops (⟨some dst, .slice t x none (some y) none, ty, pos, after, none⟩ :: rest) ⟨n, sl, hp⟩ K := by
  refine ⟨fun ms a w hr Q hq => ?_⟩
  refine wpList_plain rfl fun Kn hKn => ?_
  obtain ⟨inf, td, z, q1, q2, q3, q4, q5, q6, _⟩ := hT.get ht
  obtain ⟨inf', td', z', g1, g2, g3, g4, g5, g6, _⟩ := hT.get hT'
  have htd := TK.sl_inv q4
  subst htd
  have hs := killK_eq hs; have hh := newK_eq hh
  simp only [Option.some.injEq] at hs hh
  obtain ⟨e, hi, e1, hsl⟩ := (hr.ev_at hx).own_inv
  obtain ⟨e2, e3⟩ := (hr.ev_at hy).lit_inv
  have hne := flat_nest hr hi hb hf
  obtain ⟨us, bs, o1, o2, o3, o4, o5⟩ := hr.ents i _ e hb hi
  have hjn : j.toNat ≤ xs.length := by omega
  have hil : i < ms.length := (List.getElem?_eq_some_iff.1 hi).1
  have hbs : bs = [] := by rw [← o5.1]; exact hne
  have hfl : ∀ d ∈ xs.flatten, isLit d = true := fun d hd => by obtain ⟨r, hr, hd⟩ := List.mem_flatten.1 hd; exact hf r hr d hd
  have htk : (xs.take j.toNat).flatten = xs.flatten.take (j.toNat * m) := flat_take _ o2
  obtain ⟨bs', hv', hb'⟩ := o3.part 0 (j.toNat * m)
  have hbs' : bs' = [] := by
    refine List.eq_nil_iff_forall_not_mem.2 fun k hk => ?_
    have := hb' k hk; rw [hbs] at this; cases this
  subst hbs'
  simp only [List.drop_zero] at hv'
  rw [← htk] at hv'
  have hrow' : ∀ r ∈ xs.take j.toNat, r.length = m := fun r hr => o2 r (List.mem_of_mem_take hr)
  have key : ∃ v', (Instr.sliceAt t e.v none (some (.int .i64 j)) none).run P w = .ok v' w ∧ v'.ownBlock = e.v.ownBlock ∧ (∃ a n c, v' = .slice a n c) ∧ w.ownsRow w0.heap.size T m v' (xs.take j.toNat).length (us.take (j.toNat * m)) := by
    obtain ⟨hl, ⟨hv, h0⟩ | ⟨g, cap, cur, hv, hg, hh1, c1, c2, c3, c4⟩⟩ := o1
    · have h0' : xs = [] := List.length_eq_zero_iff.1 h0
      subst h0'
      have hj0 : j = 0 := by simp at hj; omega
      subst hj0
      rw [hv]
      refine ⟨.slice none 0 0, ?_, rfl, ⟨_, _, _, rfl⟩, by simpa using World.ownsRow_nil _ _ _ _⟩
      have := run_cut (P := P) (w := w) (T := T) (m := m) q2 g1 g6 (av := none) (len := 0) (cap := 0) (j := 0) (by omega) (by omega) (by omega)
      simpa using this
    · rw [hv]
      refine ⟨.slice (some ⟨g, 0, none⟩) j.toNat cap, run_cut q2 g1 g6 hj.1 (by omega) c1, rfl, ⟨_, _, _, rfl⟩, ?_⟩
      have hlt : (xs.take j.toNat).length = j.toNat := by simp; omega
      have hmul : j.toNat * m ≤ xs.length * m := Nat.mul_le_mul_right m hjn
      refine ⟨by rw [hlt]; simp; omega, Or.inr ⟨g, cap, cur, by rw [hlt], hg, hh1, by rw [hlt]; omega, c2, c3, ?_⟩⟩
      rw [hlt, ← c4, List.take_take, Nat.min_eq_left hmul]
  obtain ⟨v', k1, k2, k3, k4⟩ := key
  have hrun : (execOp a.eval ⟨some dst, .slice t x none (some y) none, ty, pos, after, none⟩).run P w = .ok (.value v') w := by
    have : (Instr.sliceAt t (a.eval x) none (some (a.eval y)) none).run P w = .ok v' w := by rw [e1, e2]; exact k1
    simp only [execOp, Sem.run_bind, Option.map_some, Option.map_none, this, Result.andThen, Sem.run, pure]
  have hr' := hr.retold (b' := .arr T m (xs.take j.toNat) true) (e' := ⟨v', e.top, e.nest⟩) hi rfl rfl (fun ms' => ⟨_, [], k4, hrow', hv', by rw [o4]; exact k2.symm, by simp only [if_true]; exact ⟨hne, by simp⟩⟩) (fun _ => rfl)
  rw [hs, hh] at hr'
  refine upon_value hrun (hKn _ _ (hK.run _ _ _ (Rel.put (t := some dst) hr' (.own (i := i) (e := ⟨v', e.top, e.nest⟩) (by rw [List.getElem?_set_self hil]) k3) (dstOk_all (s := ⟨n, _, _⟩) (t := some dst) hd)) Q hq))

/-- The tail of an array of the call's own, cleared. -/
theorem R_clearTail {tab : Nat → Option TI} (hT : TabOk P tab) {t T : TypeId} {m : Nat} {j : Int} {xs : List (List D)} {x y : Operand} {t1 : Tmp} {row : List D} {ty2 : TypeId} {pos2 : String} {after2 : Array Edge} {agg : Bool} {size bytes : Nat} {zero : List Value} {k' : TK} {agg' : Bool} {bytes' : Nat} {zero' : List Value} {hp' : List Blk}
    (hx : evD (look sl) x = .own i) (hy : evD (look sl) y = .lit (.int .i64 j)) (hb : hp[i]? = some (.arr T m xs true)) (ht : tab t = some ⟨.sl T, agg, size, bytes, zero⟩) (hT' : tab T = some ⟨k', agg', m, bytes', zero'⟩)
    (hz : Nat.beq zero'.length m = true) (hm : Nat.blt 0 m = true) (hrow : zeroRow zero' = some row) (hl : row.all isLit = true) (hd : Nat.blt t1 n = true)
    (hh : setK i (.arr T m (xs.take j.toNat ++ List.replicate (xs.length - j.toNat) row) true) hp some = some hp') (hf : Flat xs) (hj : 0 ≤ j ∧ j ≤ xs.length)
    (hK : WO P w0 A ops rest ⟨n, (t1, .no) :: sl, hp'⟩ K) : WO P w0 A ops (⟨some t1, .slice t x (some y) none none, ty, pos, after, none⟩ :: ⟨none, .call ⟨.builtin .clear, #[.tmp t1], #[t]⟩, ty2, pos2, after2, none⟩ :: rest) ⟨n, sl, hp⟩ K := by
  refine ⟨fun ms a w hr Q hq => ?_⟩
  refine wpList_plain rfl fun Kn hKn => ?_
  obtain ⟨inf, td, z, q1, q2, q3, q4, q5, q6, _⟩ := hT.get ht
  obtain ⟨inf', td', z', g1, g2, g3, g4, g5, g6, g7⟩ := hT.get hT'
  have htd := TK.sl_inv q4
  subst htd
  have hz := Nat.eq_of_beq_eq_true hz
  have hm : 0 < m := Nat.le_of_ble_eq_true hm
  have hh := setK_eq hh
  simp only [Option.some.injEq] at hh
  obtain ⟨e, hi, e1, hsl⟩ := (hr.ev_at hx).own_inv
  obtain ⟨e2, e3⟩ := (hr.ev_at hy).lit_inv
  have hne := flat_nest hr hi hb hf
  obtain ⟨us, bs, o1, o2, o3, o4, o5⟩ := hr.ents i _ e hb hi
  have hbs : bs = [] := by rw [← o5.1]; exact hne
  subst hbs
  have hjn : j.toNat ≤ xs.length := by omega
  have ht1 : t1 < n := Nat.le_of_ble_eq_true hd
  have hzl := constK_list (ms := []) (w := w) (A := fun _ => True) hrow
  have hlit : ∀ d ∈ row, isLit d = true := List.all_eq_true.1 hl
  have hrl : row.length = m := by rw [← hzl.len, hz]
  have hrow2 : ∀ r ∈ xs.take j.toNat ++ List.replicate (xs.length - j.toNat) row, r.length = m := by
    intro r hr
    rcases List.mem_append.1 hr with h | h
    · exact o2 r (List.mem_of_mem_take h)
    · rw [List.eq_of_mem_replicate h]; exact hrl
  -- the slice of the tail
  have hev : ∀ v, (a.put (some t1) v).eval (.tmp t1) = v := by
    intro v
    have : t1 < a.tmps.size := by rw [hr.size]; exact ht1
    simp [Act.put, Act.eval, Array.getD_eq_getD_getElem?, Array.getElem?_setIfInBounds_self_of_lt this]
  have hsl1 : ∀ v1, (Instr.sliceAt t e.v (some (.int .i64 j)) none none).run P w = .ok v1 w → (execOp a.eval ⟨some t1, .slice t x (some y) none none, ty, pos, after, none⟩).run P w = .ok (.value v1) w := by
    intro v1 h
    have : (Instr.sliceAt t (a.eval x) (some (a.eval y)) none none).run P w = .ok v1 w := by rw [e1, e2]; exact h
    simp only [execOp, Sem.run_bind, Option.map_some, Option.map_none, this, Result.andThen, Sem.run, pure]
  have hcl : ∀ v1 w', (Builtin.clear_ #[t] ty2 #[v1]).run P w = .ok (.tuple #[]) w' → (execOp (a.put (some t1) v1).eval ⟨none, .call ⟨.builtin .clear, #[.tmp t1], #[t]⟩, ty2, pos2, after2, none⟩).run P w = .ok (.value (.tuple #[])) w' := by
    intro v1 w' h
    have he := hev v1
    simp only [execOp, resolve, invoke, builtin, Sem.run_bind, Sem.run_pure, Result.andThen_ok, List.map_toArray, List.map_cons, List.map_nil, he, h]
  have hsame : xs.length = j.toNat → hp' = hp := by
    intro h
    rw [← hh, ← h, Nat.sub_self, List.take_length]
    simp only [List.replicate_zero, List.append_nil]
    refine List.ext_getElem? fun q => ?_
    by_cases hq2 : q = i
    · subst hq2
      rw [List.getElem?_set_self (List.getElem?_eq_some_iff.1 hb).1, hb]
    · rw [List.getElem?_set_ne (Ne.symm hq2)]
  have hput : ∀ v1, (a.put (some t1) v1).put none (.tuple #[]) = a.put (some t1) v1 := fun _ => rfl
  -- behind both operations
  have fin : ∀ v1 w', (Instr.sliceAt t e.v (some (.int .i64 j)) none none).run P w = .ok v1 w → (Builtin.clear_ #[t] ty2 #[v1]).run P w = .ok (.tuple #[]) w' → Rel w0 A ms ⟨n, sl, hp'⟩ a w' →
      (⟨some t1, .slice t x (some y) none none, ty, pos, after, none⟩ : Oper).wp P a w Kn Q := by
    intro v1 w' h1 h2 h3
    refine upon_value (hsl1 v1 h1) (hKn _ _ ?_)
    refine wpList_plain rfl fun Kn2 hKn2 => ?_
    refine upon_value (hcl v1 w' h2) (hKn2 _ _ ?_)
    rw [hput]
    exact hK.run _ _ _ (Rel.put (t := some t1) h3 .no (dstOk_all (s := ⟨n, _, _⟩) (t := some t1) hd)) Q hq
  by_cases heq : xs.length = j.toNat
  · have hlen0 : xs.length - j.toNat = 0 := by omega
    obtain ⟨hl', ⟨hv, h0⟩ | ⟨g, cap, cur, hv, hg, hh1, c1, c2, c3, c4⟩⟩ := o1
    · have h1 := run_tail (P := P) (w := w) (m := m) q2 g1 g6 (av := none) (len := 0) (cap := 0) (j := j) hj.1 (by omega) (Nat.le_refl _)
      rw [show (0 : Nat) - j.toNat = 0 by omega] at h1
      rw [← hv] at h1
      refine fin _ w h1 ?_ (by rw [hsame heq]; exact hr)
      split <;> simp [Builtin.clear_, run_underlying q2]
    · have h1 := run_tail (P := P) (w := w) (m := m) q2 g1 g6 (av := some ⟨g, 0, none⟩) (len := xs.length) (cap := cap) (j := j) hj.1 hj.2 c1
      rw [hlen0, ← hv] at h1
      refine fin _ w h1 ?_ (by rw [hsame heq]; exact hr)
      split <;> simp [Builtin.clear_, run_underlying q2]
  · obtain ⟨hl', ⟨hv, h0⟩ | ⟨g, cap, cur, hv, hg, hh1, c1, c2, c3, c4⟩⟩ := o1
    · omega
    have hjl : j.toNat < xs.length := by omega
    have h1 := run_tail (P := P) (w := w) (m := m) q2 g1 g6 (av := some ⟨g, 0, none⟩) (len := xs.length) (cap := cap) (j := j) hj.1 hj.2 c1
    rw [if_neg (by omega), ← hv] at h1
    have hadd : (some (⟨g, 0, none⟩ : Addr)).map (·.add (j.toNat * m)) = some ⟨g, j.toNat * m, none⟩ := by simp only [Option.map_some, Option.some.injEq]; unfold Addr.add; split <;> simp_all
    rw [hadd] at h1
    have hzs : z'.cells.size = m := by rw [← hz, ← g7.2, Array.length_toList]
    have hmade : (Builtin.zeroCells z'.cells (xs.length - j.toNat)).toList = (List.replicate (xs.length - j.toNat) zero').flatten := by
      rw [← g7.2]; exact madeCells_eq z'.cells (by omega) _
    have hvl : ((List.replicate (xs.length - j.toNat) zero').flatten).length = (xs.length - j.toNat) * m := by simp [hz]
    have hmul : j.toNat * m + (xs.length - j.toNat) * m = xs.length * m := by rw [← Nat.add_mul]; congr 1; omega
    have hcap : xs.length * m ≤ cap * m := Nat.mul_le_mul_right m c1
    have hvz := zeros_ok (w' := w) hlit (VXs.mono (ms' := []) (w' := w) (Ok' := fun _ => True) (fun _ _ => ⟨rfl, trivial⟩) hzl fun _ _ _ h => h) (xs.length - j.toNat)
    have hst := run_storeCells_at P g (j.toNat * m) T ((List.replicate (xs.length - j.toNat) zero').flatten) 0 cur w hh1 (by omega) hvz.one
    simp only [Nat.add_zero] at hst
    have hclr : (Builtin.clear_ #[t] ty2 #[.slice (some ⟨g, j.toNat * m, none⟩) (xs.length - j.toNat) (cap - j.toNat)]).run P w = .ok (.tuple #[]) (w.setRow g (cur.toList.take (j.toNat * m) ++ (List.replicate (xs.length - j.toNat) zero').flatten ++ cur.toList.drop (j.toNat * m + ((List.replicate (xs.length - j.toNat) zero').flatten).length)).toArray) := by
      obtain ⟨q, hq⟩ : ∃ q, xs.length - j.toNat = q + 1 := ⟨xs.length - j.toNat - 1, by omega⟩
      rw [hq] at hst hmade ⊢
      simp [Builtin.clear_, run_underlying q2, run_zero g1 g3, hmade, hst]
    refine fin _ _ h1 hclr ?_
    have htop : e.top = some g := by rw [o4, hv]; rfl
    have hrel := hr.change (i := i) (g := g) (b' := .arr T m (xs.take j.toNat ++ List.replicate (xs.length - j.toNat) row) true) (w' := w.setRow g (cur.toList.take (j.toNat * m) ++ (List.replicate (xs.length - j.toNat) zero').flatten ++ cur.toList.drop (j.toNat * m + ((List.replicate (xs.length - j.toNat) zero').flatten).length)).toArray) hi htop (fun k hk => setRow_other w g k _ hk) (by simp [World.setRow]) (Ext_setRow _ hg)
      (fun hk hn => by
        have hlr : (xs.take j.toNat ++ List.replicate (xs.length - j.toNat) row).length = xs.length := by simp; omega
        have hpt := o3.part 0 (j.toNat * m)
        obtain ⟨bs', hv', hb'⟩ := hpt
        have hbs' : bs' = [] := by
          refine List.eq_nil_iff_forall_not_mem.2 fun k hk => ?_
          have := hb' k hk; cases this
        subst hbs'
        simp only [List.drop_zero] at hv'
        refine ⟨us.take (j.toNat * m) ++ (List.replicate (xs.length - j.toNat) zero').flatten, [], ?_, hrow2, ?_, o4, ?_⟩
        · rw [hlr]
          refine ⟨by rw [List.length_append, hvl]; simp; omega, Or.inr ⟨g, cap, _, hv, hg, setRow_heap w g cur _ T _ hh1, c1, c2, ?_, ?_⟩⟩
          · simp [hz]; omega
          · have hA : (cur.toList.take (j.toNat * m)).length = j.toNat * m := by rw [List.length_take, Array.length_toList]; omega
            rw [List.toList_toArray, List.take_append_of_le_length (by rw [List.length_append, hA, hvl]; omega), List.take_of_length_le (by rw [List.length_append, hA, hvl]; omega), ← c4, List.take_take, Nat.min_eq_left (by omega)]
        · rw [List.flatten_append, flat_take _ o2]
          have := (hv'.keep (w' := w.setRow g _) (fun k hk => by cases hk)).append (zeros_ok (w' := w.setRow g (cur.toList.take (j.toNat * m) ++ (List.replicate (xs.length - j.toNat) zero').flatten ++ cur.toList.drop (j.toNat * m + ((List.replicate (xs.length - j.toNat) zero').flatten).length)).toArray) hlit (VXs.mono (ms' := []) (w' := w) (Ok' := fun _ => True) (fun _ _ => ⟨rfl, trivial⟩) hzl fun _ _ _ h => h) (xs.length - j.toNat))
          simpa using this
        · simp only [if_true]; exact ⟨hne, by simp⟩)
    rw [← hh]; exact hrel

/-- A slice against nil: if they are equal it has no elements. -/
theorem R_eqNil {tab : Nat → Option TI} (hT : TabOk P tab) {t t' e : TypeId} {m : Nat} {xs : List (List D)} {x y : Operand} {agg : Bool} {size bytes : Nat} {zero : List Value} (ht : tab t = some ⟨.sl e, agg, size, bytes, zero⟩)
    (hx : evD (look sl) x = .sh m xs) (hy : evD (look sl) y = .nil) (hd : Nat.blt dst n = true) (hk : ∀ b : Bool, (b = true → xs = []) → WO P w0 A ops rest ⟨n, (dst, .lit (.bool b)) :: sl, hp⟩ K) :
    WO P w0 A ops (⟨some dst, .binOp .eql t x y t', ty, pos, after, none⟩ :: rest) ⟨n, sl, hp⟩ K := by
  refine ⟨fun ms a w hr Q hq => ?_⟩
  refine wpList_plain rfl fun Kn hKn => ?_
  obtain ⟨inf, td, z, q1, q2, q3, q4, q5, q6, _⟩ := hT.get ht
  have htd := TK.sl_inv q4
  subst htd
  obtain ⟨bs, hv, _⟩ := (hr.ev_at hx).sh_inv
  have e2 := (hr.ev_at hy).nil_inv
  have key : ∃ av c, a.eval x = .slice av xs.length c ∧ (av.isNone = true → xs = []) := by
    generalize a.eval x = u at hv
    cases hv with
    | shnil q1 q2 => exact ⟨_, _, rfl, fun _ => rfl⟩
    | sh q1 q2 q3 q4 q5 q6 => exact ⟨_, _, rfl, fun h => by simp at h⟩
  obtain ⟨av, c, e1, h3⟩ := key
  refine upon_value (v := .bool av.isNone) (w' := w) ?_ (hKn _ _ ((hk av.isNone h3).run ms _ w (Rel.put (t := some dst) hr bool_vx (dstOk_all (s := ⟨n, sl, hp⟩) (t := some dst) hd)) Q hq))
  have hg : (eqGuard .eql t x y (.slice av xs.length c) (.slice none 0 0)).run P w = .ok () w := rfl
  have hb := Lib.run_eql_slice_nil (P := P) w t e av xs.length c 0 0 q2
  simp only [execOp, e1, e2, Sem.run_bind, hg, Result.andThen, hb]; rfl
theorem flat_tail {xs : List (List D)} {row : List D} {j k : Nat} (hf : Flat xs) (hl : row.all isLit = true) : Flat (xs.take j ++ List.replicate k row) := by
  intro r hr
  rcases List.mem_append.1 hr with h | h
  · exact hf r (List.mem_of_mem_take h)
  · rw [List.eq_of_mem_replicate h]; exact List.all_eq_true.1 hl
theorem cut_tail {α β : Type} {l : List α} {f : α → β} {ys : List β} {j : Nat} (h : j ≤ l.length) : ((l.map f).take (j : Int).toNat ++ ys).take (j : Int).toNat = (l.take j).map f := by
  rw [Int.toNat_natCast, List.take_append_of_le_length (by simp; omega), List.take_take, Nat.min_self, List.map_take]
theorem filter_none {α : Type} [Inhabited α] {p : α → Bool} {l : List α} (h : findIx p l = -1) : l.filter (fun x => !p x) = l := by
  have : l.any p = false := by rw [← findIx_any, h]; rfl
  refine List.filter_eq_self.2 fun x hx => ?_
  have := List.any_eq_false.1 this x hx
  simpa using this

theorem findIx_ge {α : Type} (p : α → Bool) : ∀ l : List α, -1 ≤ findIx p l
  | [] => by simp [findIx]
  | x :: l => by
    have := findIx_ge p l
    simp only [findIx]; split
    · omega
    · split <;> omega
theorem findIx_lt {α : Type} (p : α → Bool) : ∀ l : List α, findIx p l ≤ l.length
  | [] => by simp [findIx]
  | x :: l => by
    have := findIx_lt p l
    simp only [findIx, List.length_cons]; split
    · omega
    · split <;> omega
theorem findIx_spec {α : Type} [Inhabited α] {p : α → Bool} : ∀ {l : List α}, ¬ findIx p l = -1 → ∃ k : Nat, k < l.length ∧ findIx p l = k ∧ p (nth l k) = true ∧ ∀ j, j < k → p (nth l j) = false
  | [], h => by simp [findIx] at h
  | x :: l, h => by
    cases hx : p x
    · have hl : ¬ findIx p l = -1 := by intro e; apply h; simp [findIx, hx, e]
      obtain ⟨k, h1, h2, h3, h4⟩ := findIx_spec hl
      refine ⟨k + 1, by simp; omega, ?_, by rw [nth_cons_succ]; exact h3, fun j hj => ?_⟩
      · simp only [findIx, hx, h2]; rw [if_neg (by simp), if_neg (by omega)]; omega
      · cases j with
        | zero => rw [nth_cons_zero]; exact hx
        | succ j => rw [nth_cons_succ]; exact h4 j (by omega)
    · exact ⟨0, by simp, by simp [findIx, hx], by rw [nth_cons_zero]; exact hx, fun j hj => by omega⟩
theorem take_snoc {α : Type} [Inhabited α] {l : List α} {r : Nat} (h : r < l.length) : l.take (r + 1) = l.take r ++ [nth l r] := by
  rw [List.take_add_one, List.getElem?_eq_getElem h, nth_get h]; rfl
theorem nth_of_drop {α : Type} [Inhabited α] {l l' : List α} {r : Nat} (h : l.drop r = l'.drop r) : nth l r = nth l' r := by
  have h1 : (l.drop r)[0]? = (l'.drop r)[0]? := by rw [h]
  simp only [List.getElem?_drop, Nat.add_zero] at h1
  simp [nth, List.getD_eq_getElem?_getD, h1]
/-- What deleting has done so far: i elements kept of the first r. -/
structure DelInv {α : Type} [Inhabited α] (p : α → Bool) (l cur : List α) (i r : Nat) : Prop where
  len : cur.length = l.length
  lt : i < r
  le : r ≤ l.length
  kept : cur.take i = (l.take r).filter fun x => !p x
  rest : cur.drop r = l.drop r
section
variable {α : Type} [Inhabited α] {p : α → Bool} {l cur : List α} {i r k : Nat}
theorem DelInv.start (h1 : k < l.length) (h2 : p (nth l k) = true) (h3 : ∀ j, j < k → p (nth l j) = false) : DelInv p l l k (k + 1) := by
  refine ⟨rfl, by omega, by omega, ?_, rfl⟩
  rw [take_snoc h1, List.filter_append, List.filter_cons_of_neg (by simp [h2]), List.filter_nil, List.append_nil]
  refine (List.filter_eq_self.2 fun x hx => ?_).symm
  obtain ⟨j, hj, rfl⟩ := List.getElem_of_mem hx
  simp only [List.length_take] at hj
  rw [List.getElem_take, ← nth_get, h3 j (by omega)]; rfl
theorem DelInv.same (h : DelInv p l cur i r) : nth cur r = nth l r := nth_of_drop h.rest
theorem DelInv.mem (h : DelInv p l cur i r) (hr : r < l.length) : nth cur r ∈ l := by rw [h.same]; exact nth_mem hr
theorem DelInv.next (h : DelInv p l cur i r) : cur.drop (r + 1) = l.drop (r + 1) := by
  rw [← List.drop_drop, ← List.drop_drop, h.rest]
theorem DelInv.no (h : DelInv p l cur i r) (hr : r < l.length) (hp : p (nth cur r) = true) : DelInv p l cur i (r + 1) := by
  refine ⟨h.len, by have := h.lt; omega, by omega, ?_, h.next⟩
  rw [take_snoc hr, List.filter_append, List.filter_cons_of_neg (by rw [← h.same, hp]; simp), List.filter_nil, List.append_nil]; exact h.kept
theorem DelInv.yes (h : DelInv p l cur i r) (hr : r < l.length) (hp : p (nth cur r) = false) : DelInv p l (cur.set i (nth cur r)) (i + 1) (r + 1) := by
  have h1 := h.lt; have h2 := h.len
  refine ⟨by simp [h2], by omega, by omega, ?_, ?_⟩
  · rw [take_snoc (by simp; omega), List.take_set, List.set_eq_of_length_le (by simp; omega), nth, List.getD_eq_getElem?_getD, List.getElem?_set_self (by omega), take_snoc hr, List.filter_append, List.filter_cons_of_pos (by rw [← h.same, hp]; rfl), List.filter_nil, h.kept, ← h.same]; rfl
  · rw [List.drop_set_of_lt (by omega)]; exact h.next
theorem DelInv.fin (h : DelInv p l cur i r) (hr : ¬ r < l.length) : cur.take i = l.filter fun x => !p x := by
  have := h.le
  rw [h.kept, List.take_of_length_le (by omega)]
end
end
end Go.Proofs.Ytcbfpeplcbgpjaa
