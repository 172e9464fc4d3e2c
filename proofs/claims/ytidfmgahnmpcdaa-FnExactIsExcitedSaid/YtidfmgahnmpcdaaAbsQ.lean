/- Symbolic states: a region that draws its order, walked once in the order of the text. No condition. -/
import Derived.Test.YtidfmgahnmpcdaaAbsP
set_option linter.unusedSimpArgs false
set_option linter.unusedVariables false
namespace Go.Proofs.Ytidfmgahnmpcdaa
open Go.ChangeShapes Go.WideShapes Go.ChangeAt Go.RowKit

section
variable {P : Program} {w0 : World} {A : Nat → Prop} {n : Nat} {tab : Nat → Option TI} {Q : Exit → St → Prop}

theorem heapS_congr {S S' : Nat → Bool} : ∀ {rs : List Rec} {i : Nat} {hp : List Blk}, (∀ j, j < rs.length → S (i + j) = S' (i + j)) → heapS rs S i hp = heapS rs S' i hp
  | [], _, _, _ => rfl
  | r :: rs, i, hp, h => by
    simp only [heapS]
    rw [show S i = S' i from h 0 (by simp)]
    exact heapS_congr fun j hj => by have := h (j + 1) (by simpa using hj); rwa [show i + (j + 1) = i + 1 + j by omega] at this
theorem heapS_none : ∀ (rs : List Rec) (i : Nat) (hp : List Blk), heapS rs (fun _ => false) i hp = hp ++ List.replicate (lens rs) .gone
  | [], _, hp => by simp [heapS, lens]
  | r :: rs, i, hp => by
    simp only [heapS]
    rw [heapS_none rs (i + 1)]
    simp [lens, List.append_assoc, List.map_const', List.replicate_append_replicate]

theorem Rel.slotsEq {ms : List Ent} {sl sl' : List (Nat × D)} {hp : List Blk} {a : Act} {w : World} (hr : Rel w0 A ms ⟨n, sl, hp⟩ a w) (h : ∀ t, look sl' t = look sl t) : Rel w0 A ms ⟨n, sl', hp⟩ a w :=
  ⟨hr.ext, hr.old, hr.size, hr.defers, hr.len, hr.nodup, hr.range, hr.ents, fun t => by have := hr.slots t; simp only [St.get] at this ⊢; rw [h t]; exact this⟩

/-- What holds when the operations in S are done. -/
def DInv (w0 : World) (A : Nat → Prop) (n : Nat) (rs : List Rec) (sl : List (Nat × D)) (hp : List Blk) (S : Nat → Bool) (a : Act) (w : World) : Prop :=
  ∃ ms, Rel w0 A ms ⟨n, slotsS rs S 0 sl, heapS rs S 0 hp⟩ a w ∧ ∀ (j : Nat) (r : Rec), rs[j]? = some r → S j = false → ∀ k, hp.length + lens (rs.take j) ≤ k → k < hp.length + lens (rs.take j) + r.rh.length → ms[k]? = some phE

theorem lens_lt {rs : List Rec} {i j : Nat} {r : Rec} (hr : rs[i]? = some r) (h : i < j) : lens (rs.take i) + r.rh.length ≤ lens (rs.take j) := by
  have hi := (List.getElem?_eq_some_iff.1 hr)
  have e1 : rs.take (i + 1) = rs.take i ++ [r] := by rw [List.take_succ_eq_append_getElem hi.1, hi.2]
  have e2 := (List.take_append_drop (i + 1) (rs.take j)).symm
  rw [List.take_take, Nat.min_eq_left (by omega)] at e2
  rw [e2, e1]
  simp [lens]

/-- One operation more. -/
theorem DInv.next {rs : List Rec} {sl : List (Nat × D)} {hp : List Blk} {S : Nat → Bool} {a : Act} {w' : World} {i : Nat} {r : Rec} {ms' : List Ent} {v : Value} (hi : rs[i]? = some r) (hnd : ∀ (m : Nat) (r' : Rec), rs[m]? = some r' → r'.t = r.t → m = i) (hd : r.o.dst = some r.t) (ht : r.t < n)
    (hr : Rel w0 A ms' ⟨n, slotsS rs S 0 sl, heapS rs (fun j => if j = i then true else S j) 0 hp⟩ a w') (hv : VX ms' w' (OkB w0.heap.size A ms' w') r.d v)
    (hph : ∀ (j : Nat) (r : Rec), j ≠ i → rs[j]? = some r → S j = false → ∀ k, hp.length + lens (rs.take j) ≤ k → k < hp.length + lens (rs.take j) + r.rh.length → ms'[k]? = some phE) : DInv w0 A n rs sl hp (fun j => if j = i then true else S j) (a.put r.o.dst v) w' := by
  refine ⟨ms', ?_, fun j r' hj hs => hph j r' (fun e => by simp [e] at hs) hj (by by_cases e : j = i; simp [e] at hs; simpa [e] using hs)⟩
  have h1 := Rel.put (t := r.o.dst) hr hv (by rw [hd]; simpa using ht)
  rw [hd] at h1 ⊢
  refine Rel.slotsEq (sl := (r.t, r.d) :: slotsS rs S 0 sl) h1 fun t => ?_
  simp only [look]
  split
  · rename_i e
    subst e
    exact look_done hi (by simp) rfl hnd
  · rename_i e
    refine look_congr rfl fun j r' hj ht' => ?_
    have : j ≠ i := by rintro rfl; rw [hi] at hj; cases hj; exact e ht'.symm
    simp [this]

/-- What a chain of operations, checked, gives in whatever order: its start, a step, its end. -/
structure DGood (P : Program) (w0 : World) (A : Nat → Prop) (n : Nat) (ops : Array Oper) (l : List Oper) (rs : List Rec) (sl : List (Nat × D)) (hp : List Blk) : Prop where
  start : ∀ {ms : List Ent} {a : Act} {w : World}, Rel w0 A ms ⟨n, sl, hp⟩ a w → DInv w0 A n rs sl hp (fun _ => false) a { w with drawn := w.drawn + 1 }
  step : ∀ (S : Nat → Bool) (a : Act) (w : World) (i : Nat) (o : Oper), (∀ (j : Nat) (o' : Oper), l[j]? = some o' → S j = true → ∀ e ∈ o'.after, Region.binds .any e = true → S e.on = true) → DInv w0 A n rs sl hp S a w → l[i]? = some o → S i = false → (∀ e ∈ o.after, Region.binds .any e = true → S e.on = true) →
      if Region.wanted o (yielded ops a.tmps) then o.wp P a w (fun a' w' => DInv w0 A n rs sl hp (fun j => if j = i then true else S j) a' w') (fun _ _ _ => False) else DInv w0 A n rs sl hp (fun j => if j = i then true else S j) (a.put o.dst undef) w
  fin : ∀ {S : Nat → Bool} {a : Act} {w : World}, (∀ i, i < l.length → S i = true) → DInv w0 A n rs sl hp S a w → ∃ ms, Rel w0 A ms ⟨n, slotsS rs (fun _ => true) 0 sl, heapS rs (fun _ => true) 0 hp⟩ a w
  wf : ∀ (i : Nat) (o : Oper), l[i]? = some o → ∀ e ∈ o.after, Region.binds .any e = true → e.on < i

theorem dgood (hT : TabOk P tab) {ops : Array Oper} {l : List Oper} {sl : List (Nat × D)} {hp : List Blk} {rs : List Rec} (hpre : ∀ i, i < l.length → ops[i]? = l[i]?) (hok : drawOk l = true) (hrun : DRun P w0 A tab ops hp.length l sl hp rs) (hn : rs.all (fun r => Nat.blt r.t n) = true) : DGood P w0 A n ops l rs sl hp := by
  obtain ⟨hops, hdst⟩ := hrun.opsOf
  have hlenr : rs.length = l.length := by rw [← hops]; simp
  simp only [drawOk, Bool.and_eq_true, List.all_eq_true] at hok
  obtain ⟨⟨hok1, hokg⟩, hok2⟩ := hok
  have hok1 := nodupN_iff hok1
  have hget : ∀ (i : Nat) (o : Oper), l[i]? = some o → ∃ r, rs[i]? = some r ∧ r.o = o := by
    intro i o ho
    have : i < rs.length := by rw [hlenr]; exact (List.getElem?_eq_some_iff.1 ho).1
    refine ⟨rs[i], List.getElem?_eq_getElem this, ?_⟩
    have h2 : (rs.map Rec.o)[i]? = some o := by rw [hops]; exact ho
    rw [List.getElem?_map, List.getElem?_eq_getElem this] at h2
    simpa using h2
  have hwf' : ∀ (i : Nat) (o : Oper), l[i]? = some o → ∀ m ∈ afters o, m < i := by
    intro i o ho m hm'
    have := (hok2 (o, i) (by rw [List.mem_zipIdx_iff_getElem?]; simpa using ho)).1
    have := this m hm'
    simpa [Nat.blt_eq] using this
  have hwf : ∀ (i : Nat) (o : Oper), l[i]? = some o → ∀ e ∈ o.after, Region.binds .any e = true → e.on < i := fun i o ho e he hb => hwf' i o ho e.on (mem_afters.2 ⟨e, he, hb, rfl⟩)
  have hdl : rs.map Rec.t = l.filterMap Oper.dst := by
    rw [← hops, List.filterMap_map]
    have : ∀ (rs : List Rec), (∀ r ∈ rs, r.o.dst = some r.t) → rs.map Rec.t = rs.filterMap (Oper.dst ∘ Rec.o) := by
      intro rs
      induction rs with
      | nil => simp
      | cons r rs ih => intro h; rw [List.filterMap_cons_some (f := Oper.dst ∘ Rec.o) (h r (by simp)), List.map_cons, ih fun r' hr' => h r' (List.mem_cons_of_mem _ hr')]
    exact this rs hdst
  have hnd : ∀ (i : Nat) (r : Rec), rs[i]? = some r → ∀ (m : Nat) (r' : Rec), rs[m]? = some r' → r'.t = r.t → m = i := by
    intro i r hi m r' hm' ht
    have h1 : (rs.map Rec.t).Nodup := by rw [hdl]; exact hok1
    have hi' := List.getElem?_eq_some_iff.1 hi
    have hm'' := List.getElem?_eq_some_iff.1 hm'
    exact (List.getElem_inj (h₀ := by simpa using hm''.1) (h₁ := by simpa using hi'.1) h1).1 (by simp [hi'.2, hm''.2, ht])
  have htn : ∀ (i : Nat) (r : Rec), rs[i]? = some r → r.t < n := fun i r hi => by
    have := (List.all_eq_true.1 hn) r (List.mem_of_getElem? hi)
    simpa [Nat.blt_eq] using this
  have hguard : ∀ (i : Nat) (o : Oper), l[i]? = some o → ∀ (j : Nat) (b : Bool), o.guard = some (j, b) → ops[j]? = l[j]? := by
    intro i o ho j b hg
    have := hokg (o, i) (by rw [List.mem_zipIdx_iff_getElem?]; simpa using ho)
    simp only [hg] at this
    exact hpre j (by simpa [Nat.blt_eq] using this)
  refine ⟨?_, ?_, ?_, hwf⟩
  · -- at first
    intro ms a w hr
    have hd : Rel w0 A ms ⟨n, sl, hp⟩ a { w with drawn := w.drawn + 1 } := hr.later (Ext.drew (Ext.refl w))
    have hlen := hr.len
    simp only at hlen
    have := hd.grow (Ext.refl _) (List.replicate (lens rs) phE) (List.replicate (lens rs) .gone) (by simp) (by
        have : owned (List.replicate (lens rs) phE) = [] := by simp [owned, phE]
        rw [this]; simp) (by
        have : owned (List.replicate (lens rs) phE) = [] := by simp [owned, phE]
        rw [this]; simp) (by
        intro i b e hb he
        have hb := List.eq_of_mem_replicate (List.mem_of_getElem? hb)
        have he := List.eq_of_mem_replicate (List.mem_of_getElem? he)
        subst hb; subst he
        exact ⟨rfl, rfl⟩)
    refine ⟨_, by rw [slotsS_none, heapS_none]; exact this, ?_⟩
    intro j r hj _ k h1 h2
    have hj' := lens_lt hj (show j < rs.length from (List.getElem?_eq_some_iff.1 hj).1)
    rw [List.take_length] at hj'
    rw [List.getElem?_append_right (by omega), List.getElem?_replicate, if_pos (by omega)]
  · -- one operation
    rintro S a w i o hc ⟨ms, hr, hph⟩ ho hSi haft
    obtain ⟨r, hi, rfl⟩ := hget i o ho
    obtain ⟨hp', q1, q2, hat, qh⟩ := hrun.get 0 i hi
    simp only [Nat.zero_add] at hat
    have hil : i < l.length := (List.getElem?_eq_some_iff.1 ho).1
    have hokt := (hok2 (r.o, i) (by rw [List.mem_zipIdx_iff_getElem?]; simpa using ho)).2
    have hlook : ∀ t ∈ opTmps r.o ++ guardTmp l r.o, look (slotsS rs S 0 sl) t = look (slotsS rs (fun j => decide (j < i)) 0 sl) t := by
      intro t ht
      refine look_congr rfl fun j r' hj htr => ?_
      rw [Nat.zero_add]
      have hjl : j < l.length := by rw [← hlenr]; exact (List.getElem?_eq_some_iff.1 hj).1
      have hjo : l[j]? = some r'.o := by
        rw [← hops, List.getElem?_map, hj]; rfl
      have := hokt t ht
      simp only [tmpOk, List.all_eq_true] at this
      have := this (r'.o, j) (by rw [List.mem_zipIdx_iff_getElem?]; simpa using hjo)
      simp only [hdst r' (List.mem_of_getElem? hj), htr, ho, Bool.or_eq_true] at this
      rcases this with (h | h) | h
      · simp at h
      · have hm' := memN_iff.1 h
        obtain ⟨e, he, hb, rfl⟩ := mem_afters.1 hm'
        rw [haft e he hb]
        have := hwf i r.o ho e he hb
        simp [this]
      · have hlt := waits_lt hwf' h
        have hSj : S j = false := by
          cases hs : S j
          · rfl
          · have := waits_ok hc h hs
            rw [hSi] at this; exact Bool.noConfusion this
        rw [hSj]; simp; omega
    have hev : ∀ x ∈ r.o.op.operands, evD (look (slotsS rs (fun j => decide (j < i)) 0 sl)) x = evD (look (slotsS rs S 0 sl)) x := by
      intro x hx
      cases x with
      | tmp t => exact (hlook t (List.mem_append_left _ (by simp only [opTmps, List.mem_filterMap]; exact ⟨.tmp t, by simpa using hx, rfl⟩))).symm
      | _ => rfl
    obtain ⟨h1, h2, s1, s2, s3⟩ := heapS_split (S := S) (i := 0) (hp := hp) hi
    simp only [Nat.zero_add] at s3
    have hS0 := s3 S fun _ _ => rfl
    have hS1 := s3 (fun j => if j = i then true else S j) fun m hm' => by simp [hm']
    rw [hSi] at hS0
    simp only [Bool.false_eq_true, if_false] at hS0
    simp only [if_true] at hS1
    have hpre : ∀ k, k < hp.length → (heapS rs S 0 hp)[k]? = hp[k]? := by
      intro k hk
      rw [hS0, List.append_assoc, List.getElem?_append_left (by omega)]; exact s2 k hk
    -- what an operation that is carried out leaves
    have hexec : ∀ (o' : Oper) (d' : D) (rh' : List Blk), o'.op = r.o.op → o'.type = r.o.type → d' = r.d → rh' = r.rh → DStep P w0 A tab hp.length (slotsS rs (fun j => decide (j < i)) 0 sl) hp' o' d' rh' → r.o.wp P a w (fun a' w' => DInv w0 A n rs sl hp (fun j => if j = i then true else S j) a' w') (fun _ _ _ => False) := by
      intro o' d' rh' eop ety ed erh hst
      have hsame : ∀ {v : Value}, r.rh = [] → (execOp a.eval o').run P w = .ok (.value v) w → VX ms w (OkB w0.heap.size A ms w) r.d v → r.o.wp P a w (fun a' w' => DInv w0 A n rs sl hp (fun j => if j = i then true else S j) a' w') (fun _ _ _ => False) := by
        intro v hrh hrun' hv
        have hx : (execOp a.eval r.o).run P w = .ok (.value v) w := by
          have : execOp a.eval r.o = execOp a.eval o' := by unfold execOp; rw [eop, ety]
          rw [this]; exact hrun'
        refine upon_value hx (DInv.next hi (hnd i r hi) (hdst r (List.mem_of_getElem? hi)) (htn i r hi) ?_ hv fun j r' hji hj hs k hk1 hk2 => hph j r' hj hs k hk1 hk2)
        rw [hS1, hrh]
        rw [hS0, hrh] at hr
        simpa using hr
      cases hst with
      | pop hpop hlt hc' =>
        rename_i t op ty pos after c
        simp only at eop
        subst eop
        subst ed
        have hpop' : pop tab (heapS rs S 0 hp) (evD (look (slotsS rs S 0 sl))) r.o.op = some (c, r.d) := by
          rw [← hpop]
          refine (pop_congr hev fun hask x hx k hu => ?_).symm
          rw [hask] at hlt
          simp only [List.all_eq_true] at hlt
          have := D.lt_uses (hlt x (by simpa using hx)) hu
          rw [q2 k this, hpre k this]
        obtain ⟨v, g1, g2⟩ := pop_ok hT hr.ents ⟨t, r.o.op, ty, pos, after, none⟩ (ρ := evD (look (slotsS rs S 0 sl))) (fun x _ => hr.ev x) hpop' hc'
        exact hsame erh.symm g1 g2
      | index hx hi' ht he hrow =>
        rename_i t t' x j0 ty pos after m xs j r0 e agg size bytes zero k' agg' bytes' zero'
        simp only at eop
        have hmx : x ∈ r.o.op.operands := by rw [← eop]; simp [Op.operands]
        have hmi : j0 ∈ r.o.op.operands := by rw [← eop]; simp [Op.operands]
        rw [hev x hmx] at hx
        rw [hev j0 hmi] at hi'
        obtain ⟨v, g1, g2⟩ := index_ok (o := ⟨t, .indexAddr t' x j0, ty, pos, after, none⟩) hT ht he rfl (hr.ev_at hx) (hr.ev_at hi') hrow
        exact hsame erh.symm g1 (by rw [← ed]; exact g2)
      | call hf hds hpl hF =>
        rename_i t f fo args tys ty pos after ds caps d
        simp only at eop
        subst erh
        have hmem : ∀ x, x = fo ∨ x ∈ args → x ∈ r.o.op.operands := by
          intro x hx
          rw [← eop]
          simp only [Op.operands, Call.operands]
          rcases hx with rfl | hx
          · simp
          · simp [hx]
        rw [hev fo (hmem fo (Or.inl rfl))] at hf
        rw [mapK_congr (fun x hx => hev x (hmem x (Or.inr (by simpa using hx))))] at hds
        obtain ⟨cs, e1, hcs⟩ := (hr.ev_at hf).fn_inv
        have hds := mapK_eq hds
        simp only [Option.some.injEq] at hds
        subst hds
        have hv : VXs ms w (OkB w0.heap.size A ms w) (args.toList.map (evD (look (slotsS rs S 0 sl))) ++ caps) (args.toList.map a.eval ++ cs) := (VXs.of_map fun x _ => hr.ev x).append hcs
        refine enter_call (run_call (o := r.o) eop.symm hF.plain e1) ((hF.calls (OkB w0.heap.size A ms w) w _ (fun k hk => hk.1) (hv.plain hpl fun _ h => h)).mono ?_)
        rintro e w' ⟨v, mr, rfl, hpost⟩
        have hr0 := hr
        rw [hS0] at hr0
        have hb := hr.ext.size
        have hphi : ∀ k, h1.length ≤ k → k < h1.length + r.rh.length → ms[k]? = some phE := fun k k1 k2 => hph i r hi hSi k (by omega) (by omega)
        obtain ⟨ms', g1, g2, g3, g4, g5⟩ := Rel.fill hr0 hphi hpost.ext hpost.len hpost.nodup hpost.range (by
          intro ms'' ht i' b e hb' he'
          have hE := hpost.ents i' b e hb' he'
          have hab := (List.all_eq_true.1 hF.arrs) b (List.mem_of_getElem? hb')
          cases b with
          | gone => simp [Blk.isArr] at hab
          | cells t ds => simp [Blk.isArr] at hab
          | fr n xs => exact hE
          | cust R => exact hE
          | arr t n xs deep =>
            obtain ⟨us, bs, p1, p2, p3, p4, p5⟩ := hE
            refine ⟨us, bs, ownsRow_base p1 hb, p2, p3, p4, ?_⟩
            cases deep with
            | true => exact p5
            | false =>
              refine ⟨p5.1, fun k hk => ?_⟩
              obtain ⟨k1, k2, k3⟩ := p5.2 k hk
              refine ⟨k1, ?_, fun h => ?_⟩
              · rcases k2 with k2 | k2
                · exact Or.inl (by omega)
                · exact k2.2.1
              · rcases ht k h with h | h
                · rcases k2 with k2 | k2
                  · have := hr.range k (tops_owned h); omega
                  · exact k2.2.2 h
                · exact k3 h)
        refine ⟨v, rfl, DInv.next (v := v) hi (hnd i r hi) (hdst r (List.mem_of_getElem? hi)) (htn i r hi) (by rw [hS1]; exact g1) ?_ ?_⟩
        · have hl1 : hp'.length = h1.length := by rw [q1, s1]
          have := hpost.val.shift (ms' := ms') (w' := w') (Ok' := OkB w0.heap.size A ms' w') hp'.length (fun k ⟨k1, k2, k3⟩ => by
            refine ⟨rfl, k1, ?_, fun h => ?_⟩
            · rcases k2 with k2 | k2
              · exact Or.inl (by omega)
              · exact k2.2.1
            · rcases g4 k h with h | h
              · rcases k2 with k2 | k2
                · have := hr.range k (tops_owned h); omega
                · exact k2.2.2 h
              · exact k3 h) (fun m e he => by rw [hl1]; exact g2 m e he)
          rw [← ed]; exact this
        · intro j r' hji hj hs k k1 k2
          rw [g3 k ?_]
          · exact hph j r' hj hs k k1 k2
          · rcases Nat.lt_or_gt_of_ne hji with h | h
            · have := lens_lt hj h; omega
            · have := lens_lt hi h; omega
      | callx hf hds hol hF hno hdeep =>
        rename_i t f fo args tys ty pos after ds caps d
        simp only at eop
        subst erh
        have hmem : ∀ x, x = fo ∨ x ∈ args → x ∈ r.o.op.operands := by
          intro x hx
          rw [← eop]
          simp only [Op.operands, Call.operands]
          rcases hx with rfl | hx
          · simp
          · simp [hx]
        rw [hev fo (hmem fo (Or.inl rfl))] at hf
        rw [mapK_congr (fun x hx => hev x (hmem x (Or.inr (by simpa using hx))))] at hds
        rw [List.map_congr_left (fun x hx => hev x (hmem x (Or.inr (by simpa using hx))))] at hol
        obtain ⟨cs, e1, hcs⟩ := (hr.ev_at hf).fn_inv
        have hds := mapK_eq hds
        have hv : VXs ms w (OkB w0.heap.size A ms w) (args.toList.map (evD (look (slotsS rs S 0 sl))) ++ caps) (args.toList.map a.eval ++ cs) := (VXs.of_map fun x _ => hr.ev x).append hcs
        have hv' := unolds_ok hr hv hol
        have hds := argsOK_mono (hp' := heapS rs S 0 hp) (k' := fun l => some l) (fun k b hu hb => by
          obtain ⟨e, g1, g2⟩ := hv'.noPh hu
          by_cases hk : k < hp.length
          · rw [hpre k hk, ← q2 k hk]; exact hb
          · have hkl : k < hp'.length := (List.getElem?_eq_some_iff.1 hb).1
            obtain ⟨j, rj, j1, j2, j3, j4⟩ := lens_at (rs := rs) (i := i) (k := k - hp.length) (by omega)
            have hSj : S j = true := by
              cases hs : S j with
              | true => rfl
              | false =>
                have := hph j rj j2 hs k (by omega) (by omega)
                rw [g1] at this; cases this
                rcases g2 with ⟨_, _, _, h⟩ | h
                · simp [phE, undef] at h
                · simp [phE] at h
            obtain ⟨u1, u2, t1, _, t3⟩ := heapS_split (S := S) (i := 0) (hp := hp) j2
            have e1 := t3 S fun _ _ => rfl
            rw [Nat.zero_add, if_pos hSj] at e1
            have j2' : (rs.take i)[j]? = some rj := by rw [List.getElem?_take, if_pos j1]; exact j2
            obtain ⟨v1, v2, x1, _, x3⟩ := heapS_split (S := fun _ => true) (i := 0) (hp := hp) j2'
            have e2 := x3 (fun _ => true) fun _ _ => rfl
            rw [if_pos rfl, List.take_take, Nat.min_eq_left (by omega)] at *
            rw [qh, e2, List.append_assoc, List.getElem?_append_right (by omega), List.getElem?_append_left (by omega)] at hb
            rw [e1, List.append_assoc, List.getElem?_append_right (by omega), List.getElem?_append_left (by omega)]
            rw [show k - u1.length = k - v1.length by omega]; exact hb) (fun l h => h) hds
        obtain ⟨l, p1, p2⟩ := argsOK_ok hr hv' hds
        simp only [Option.some.injEq] at p2
        subst p2
        refine enter_call (run_call (o := r.o) eop.symm hF.plain e1) ((hF.calls (Lt w) w _ (fun k hk => hk) p1).mono ?_)
        rintro e w' ⟨v, mr, rfl, hpost⟩
        have hr0 := hr
        rw [hS0] at hr0
        have hb := hr.ext.size
        have hphi : ∀ k, h1.length ≤ k → k < h1.length + r.rh.length → ms[k]? = some phE := fun k k1 k2 => hph i r hi hSi k (by omega) (by omega)
        obtain ⟨ms', g1, g2, g3, g4, g5⟩ := Rel.fill hr0 hphi hpost.ext hpost.len hpost.nodup hpost.range (by
          intro ms'' ht i' b e hb' he'
          have hE := hpost.ents i' b e hb' he'
          have hab := (List.all_eq_true.1 hF.arrs) b (List.mem_of_getElem? hb')
          have hdb := (List.all_eq_true.1 hdeep) b (List.mem_of_getElem? hb')
          cases b with
          | gone => simp [Blk.isArr] at hab
          | cells t ds => simp [Blk.isArr] at hab
          | fr n xs => exact hE
          | cust R => exact hE
          | arr t n xs deep =>
            obtain ⟨us, bs, p1, p2, p3, p4, p5⟩ := hE
            refine ⟨us, bs, ownsRow_base p1 hb, p2, p3, p4, ?_⟩
            cases deep with
            | true => exact p5
            | false => simp [Blk.isDeep] at hdb)
        refine ⟨v, rfl, DInv.next (v := v) hi (hnd i r hi) (hdst r (List.mem_of_getElem? hi)) (htn i r hi) (by rw [hS1]; exact g1) ?_ ?_⟩
        · have hl1 : hp'.length = h1.length := by rw [q1, s1]
          have := noRd_ok (ms' := ms') (w' := w') (Ok' := OkB w0.heap.size A ms' w') (k := hp'.length) (fun m e he => by rw [hl1]; exact g2 m e he) hpost.val hno
          rw [← ed]; exact this
        · intro j r' hji hj hs k k1 k2
          rw [g3 k ?_]
          · exact hph j r' hj hs k k1 k2
          · rcases Nat.lt_or_gt_of_ne hji with h | h
            · have := lens_lt hj h; omega
            · have := lens_lt hi h; omega
    cases hat with
    | step hg hst =>
      have hw : Region.wanted r.o (yielded ops a.tmps) = true := by simp [Region.wanted, hg]
      rw [if_pos hw]
      exact hexec r.o r.d r.rh rfl rfl rfl rfl hst
    | on hg hj hl hst =>
      rename_i j u b
      have hmu : u ∈ guardTmp l r.o := by
        simp only [guardTmp, hg]
        rw [hguard i r.o ho j b hg] at hj
        simp [hj]
      have hl' : look (slotsS rs S 0 sl) u = .lit (.bool b) := by rw [hlook u (List.mem_append_right _ hmu)]; exact hl
      have hs := hr.slots u
      simp only [St.get, hl'] at hs
      obtain ⟨e, _⟩ := hs.lit_inv
      have hw : Region.wanted r.o (yielded ops a.tmps) = true := by simp [Region.wanted, hg, yielded_of hj e]
      rw [if_pos hw]
      exact hexec { r.o with guard := none } r.d r.rh rfl rfl rfl rfl hst
    | off hg hj hl hd hrh =>
      rename_i j u b
      have hmu : u ∈ guardTmp l r.o := by
        simp only [guardTmp, hg]
        rw [hguard i r.o ho j b hg] at hj
        simp [hj]
      rw [← hlook u (List.mem_append_right _ hmu)] at hl
      have hs := hr.slots u
      simp only [St.get] at hs
      have hw : Region.wanted r.o (yielded ops a.tmps) = false := by
        rcases hl with hl | hl
        · rw [hl] at hs
          obtain ⟨e, _⟩ := hs.lit_inv
          simp [Region.wanted, hg, yielded_of hj e]
        · rw [hl] at hs
          obtain ⟨us, e, h2⟩ := hs.tup_inv
          cases h2
          simp [Region.wanted, hg, yielded_no hj e]
      rw [if_neg (by rw [hw]; simp)]
      refine DInv.next hi (hnd i r hi) (hdst r (List.mem_of_getElem? hi)) (htn i r hi) ?_ (by rw [hd]; exact .tup (us := []) .nil) fun j r' hji hj hs k hk1 hk2 => hph j r' hj hs k hk1 hk2
      rw [hS1, hrh]
      rw [hS0, hrh] at hr
      simpa using hr
  · -- at the end
    rintro S a w hS ⟨ms, hr, _⟩
    refine ⟨ms, ?_⟩
    rw [slotsS_congr (S' := fun _ => true) (fun j hj => by rw [Nat.zero_add]; exact hS j (by omega)), heapS_congr (S' := fun _ => true) (fun j hj => by rw [Nat.zero_add]; exact hS j (by omega))] at hr
    exact hr

theorem W_draw (hm : P.follows .mixedOrders = true) (hT : TabOk P tab) {l : List Oper} {id : Nat} {sl : List (Nat × D)} {hp : List Blk} {rs : List Rec} (hok : drawOk l = true) (hrun : DRun P w0 A tab l.toArray hp.length l sl hp rs) (hn : rs.all (fun r => Nat.blt r.t n) = true)
    (hK : Q .normal ⟨n, slotsS rs (fun _ => true) 0 sl, heapS rs (fun _ => true) 0 hp⟩) : W P w0 A (.region id l.toArray true) ⟨n, sl, hp⟩ Q := by
  refine ⟨fun ms a w hr => ?_⟩
  have hg : DGood P w0 A n l.toArray l rs sl hp := dgood hT (fun i _ => by simp) hok hrun hn
  refine wp_region_inv (I := DInv w0 A n rs sl hp) hm hg.wf (hg.start hr) (fun S a w i o _ hc hI ho hS ha => hg.step S a w i o hc hI ho hS ha) ?_
  intro S a w hS hI
  obtain ⟨ms', hr'⟩ := hg.fin hS hI
  exact ⟨ms', _, hr', hK⟩

/-- All of the operations from k on wait for all that stand ahead of them. -/
def tailOk (l : List Oper) (k : Nat) : Bool := l.zipIdx.all fun x => Nat.blt x.2 k || ((afters x.1).all (fun m => Nat.blt m x.2) && (List.range x.2).all fun j => waits l l.length x.2 j)

theorem W_drawT (hm : P.follows .mixedOrders = true) (hT : TabOk P tab) {l1 l2 : List Oper} {id : Nat} {sl : List (Nat × D)} {hp : List Blk} {rs : List Rec} (hok : drawOk l1 = true) (hto : tailOk (l1 ++ l2) l1.length = true) (hrun : DRun P w0 A tab (l1 ++ l2).toArray hp.length l1 sl hp rs) (hn : rs.all (fun r => Nat.blt r.t n) = true)
    (hK : WO P w0 A (l1 ++ l2).toArray l2 ⟨n, slotsS rs (fun _ => true) 0 sl, heapS rs (fun _ => true) 0 hp⟩ fun s => Q .normal s) : W P w0 A (.region id (l1 ++ l2).toArray true) ⟨n, sl, hp⟩ Q := by
  refine ⟨fun ms a w hr => ?_⟩
  have hg : DGood P w0 A n (l1 ++ l2).toArray l1 rs sl hp := dgood hT (fun i hi => by simp [List.getElem?_append_left hi]) hok hrun hn
  have hleft : ∀ (i : Nat), i < l1.length → (l1 ++ l2)[i]? = l1[i]? := fun i hi => List.getElem?_append_left hi
  simp only [tailOk, List.all_eq_true] at hto
  have hta : ∀ (i : Nat) (o : Oper), (l1 ++ l2)[i]? = some o → l1.length ≤ i → (∀ m ∈ afters o, m < i) ∧ ∀ j, j < i → waits (l1 ++ l2) (l1 ++ l2).length i j = true := by
    intro i o ho hi
    have := hto (o, i) (by rw [List.mem_zipIdx_iff_getElem?]; simpa using ho)
    simp only [Bool.or_eq_true, Bool.and_eq_true, List.all_eq_true] at this
    rcases this with h | ⟨h1, h2⟩
    · have : i < l1.length := by simpa [Nat.blt_eq] using h
      omega
    · exact ⟨fun m hm => by simpa [Nat.blt_eq] using h1 m hm, fun j hj => h2 j (List.mem_range.2 hj)⟩
  have hwf : ∀ (i : Nat) (o : Oper), (l1 ++ l2)[i]? = some o → ∀ e ∈ o.after, Region.binds .any e = true → e.on < i := by
    intro i o ho e he hb
    by_cases hi : i < l1.length
    · rw [hleft i hi] at ho; exact hg.wf i o ho e he hb
    · exact (hta i o ho (by omega)).1 e.on (mem_afters.2 ⟨e, he, hb, rfl⟩)
  let Q' : Exit → Act → World → Prop := fun e a' w' => e = .normal ∧ ∃ ms' s', Rel w0 A ms' s' a' w' ∧ Q .normal s'
  -- an operation of the tail comes up: all ahead of it are done
  have hall : ∀ (S : Nat → Bool) (i : Nat) (o : Oper), (∀ (j : Nat) (o' : Oper), (l1 ++ l2)[j]? = some o' → S j = true → ∀ e ∈ o'.after, Region.binds .any e = true → S e.on = true) → (l1 ++ l2)[i]? = some o → (∀ e ∈ o.after, Region.binds .any e = true → S e.on = true) → l1.length ≤ i → ∀ j, j < i → S j = true := by
    intro S i o hc ho ha hi j hj
    have h := (hta i o ho hi).2 j hj
    have hpos : (l1 ++ l2).length = (l1 ++ l2).length - 1 + 1 := by have := (List.getElem?_eq_some_iff.1 ho).1; omega
    rw [hpos] at h
    simp only [waits, ho, List.any_eq_true] at h
    obtain ⟨m, hm', h⟩ := h
    obtain ⟨e, he, hb, rfl⟩ := mem_afters.1 hm'
    have h1 := ha e he hb
    rw [Bool.or_eq_true] at h
    rcases h with h | h
    · rw [← Nat.eq_of_beq_eq_true h]; exact h1
    · exact waits_ok hc h h1
  refine wp_region_inv (I := fun S a w => ((∀ j, l1.length ≤ j → S j = false) ∧ DInv w0 A n rs sl hp S a w) ∨ ∃ m, l1.length ≤ m ∧ (∀ j, S j = decide (j < m)) ∧ wpList P (l1 ++ l2).toArray Q' ((l1 ++ l2).drop m) a w) hm hwf (Or.inl ⟨fun _ _ => rfl, hg.start hr⟩) ?_ ?_
  · intro S a w i o hSl hc hI ho hSi ha
    have htail : ∀ m, l1.length ≤ m → (∀ j, S j = decide (j < m)) → i = m → wpList P (l1 ++ l2).toArray Q' ((l1 ++ l2).drop m) a w →
        if Region.wanted o (yielded (l1 ++ l2).toArray a.tmps) then o.wp P a w (fun a' w' => ((∀ j, l1.length ≤ j → (if j = i then true else S j) = false) ∧ DInv w0 A n rs sl hp (fun j => if j = i then true else S j) a' w') ∨ ∃ m, l1.length ≤ m ∧ (∀ j, (if j = i then true else S j) = decide (j < m)) ∧ wpList P (l1 ++ l2).toArray Q' ((l1 ++ l2).drop m) a' w') (fun _ _ _ => False)
        else ((∀ j, l1.length ≤ j → (if j = i then true else S j) = false) ∧ DInv w0 A n rs sl hp (fun j => if j = i then true else S j) (a.put o.dst undef) w) ∨ ∃ m, l1.length ≤ m ∧ (∀ j, (if j = i then true else S j) = decide (j < m)) ∧ wpList P (l1 ++ l2).toArray Q' ((l1 ++ l2).drop m) (a.put o.dst undef) w := by
      intro m hm' hSm him hl
      subst him
      have hdrop : (l1 ++ l2).drop i = o :: (l1 ++ l2).drop (i + 1) := by
        have hi := List.getElem?_eq_some_iff.1 ho
        rw [List.drop_eq_getElem_cons hi.1, hi.2]
      rw [hdrop] at hl
      unfold wpList at hl
      have hS' : ∀ j, (if j = i then true else S j) = decide (j < i + 1) := by
        intro j
        split
        · rename_i e; subst e; simp
        · rw [hSm j]; simp; omega
      split
      · rename_i hw
        rw [if_pos hw] at hl
        rcases hl with hl | ⟨_, ⟨_, _, h⟩⟩
        · have : o.wp P a w (wpList P (l1 ++ l2).toArray Q' ((l1 ++ l2).drop (i + 1))) (fun _ _ _ => False) := by
            have hq : ∀ (a' : Act) (w' : World) (e : Exit), e ≠ .normal → ¬ Q' e a' w' := fun _ _ _ h1 h2 => h1 h2.1
            unfold Oper.wp at hl ⊢
            generalize (execOp a.eval o).run P w = r at *
            cases r with
            | ok x w' =>
              cases x <;> simp only [Oper.upon] at hl ⊢
              case value => exact hl
              case skip => exact hl
              case defer => exact hl
              case enter => exact Calls.mono hl (fun e w'' he => by cases e with | returned v => exact he | panicked c => exact (hq _ _ _ (by simp) he).elim | outgrown => obtain ⟨_, _, h⟩ := he; exact (hq _ _ _ (by simp) h).elim)
              case row => exact hl
            | halt x w' =>
              cases x <;> simp only [Oper.upon] at hl ⊢
              exact (hq _ _ _ (by simp) hl).elim
          exact Oper.wp_mono (fun a' w' h => Or.inr ⟨i + 1, by omega, hS', h⟩) this
        · exact absurd h.1 (by simp)
      · rename_i hw
        rw [if_neg hw] at hl
        exact Or.inr ⟨i + 1, by omega, hS', hl⟩
    rcases hI with ⟨hno, hI⟩ | ⟨m, hm', hSm, hl⟩
    · by_cases hi : i < l1.length
      · have ho' : l1[i]? = some o := by rw [← hleft i hi]; exact ho
        have hc' : ∀ (j : Nat) (o' : Oper), l1[j]? = some o' → S j = true → ∀ e ∈ o'.after, Region.binds .any e = true → S e.on = true := fun j o' hj => hc j o' (by rw [hleft j (List.getElem?_eq_some_iff.1 hj).1]; exact hj)
        have hst := hg.step S a w i o hc' hI ho' hSi ha
        have hno' : ∀ j, l1.length ≤ j → (if j = i then true else S j) = false := fun j hj => by rw [if_neg (by omega)]; exact hno j hj
        split
        · rename_i hw
          rw [if_pos hw] at hst
          exact Oper.wp_mono (fun a' w' h => Or.inl ⟨hno', h⟩) hst
        · rename_i hw
          rw [if_neg hw] at hst
          exact Or.inl ⟨hno', hst⟩
      · have hi := Nat.le_of_not_lt hi
        have hlt := hall S i o hc ho ha hi
        have him : i = l1.length := by
          apply Classical.byContradiction; intro hne
          have := hlt l1.length (by omega)
          rw [hno _ (Nat.le_refl _)] at this; exact Bool.noConfusion this
        obtain ⟨ms', hr'⟩ := hg.fin (fun j hj => hlt j (by omega)) hI
        have hl := hK.run ms' a w hr' Q' fun ms'' s' a' w' h1 h2 => ⟨rfl, ms'', s', h1, h2⟩
        refine htail l1.length (Nat.le_refl _) (fun j => ?_) him (by rw [List.drop_left]; exact hl)
        by_cases hj : j < l1.length
        · rw [hlt j (by omega)]; simp [hj]
        · rw [hno j (by omega)]; simp; omega
    · have hi : m ≤ i := by
        apply Classical.byContradiction; intro hne
        rw [hSm i] at hSi; simp at hSi; omega
      have hlt := hall S i o hc ho ha (by omega)
      have him : i = m := by
        apply Classical.byContradiction; intro hne
        have := hlt m (by omega)
        rw [hSm m] at this; simp at this
      exact htail m hm' hSm him hl
  · intro S a w hS hI
    have fin : ∀ {a w}, Q' .normal a w → ∃ ms' s', Rel w0 A ms' s' a w ∧ Q .normal s' := fun h => h.2
    rcases hI with ⟨hno, hI⟩ | ⟨m, hm', hSm, hl⟩
    · have hl2 : l2 = [] := by
        cases l2 with
        | nil => rfl
        | cons o l2 =>
          have := hS l1.length (by simp)
          rw [hno _ (Nat.le_refl _)] at this; exact Bool.noConfusion this
      subst hl2
      obtain ⟨ms', hr'⟩ := hg.fin (fun j hj => hS j (by simpa using hj)) hI
      exact fin (hK.run ms' a w hr' Q' fun ms'' s' a' w' h1 h2 => ⟨rfl, ms'', s', h1, h2⟩)
    · have hml : (l1 ++ l2).length ≤ m := by
        apply Classical.byContradiction; intro hne
        have := hS m (by omega)
        rw [hSm m] at this; simp at this
      rw [List.drop_of_length_le hml] at hl
      exact fin hl
end
end Go.Proofs.Ytidfmgahnmpcdaa
