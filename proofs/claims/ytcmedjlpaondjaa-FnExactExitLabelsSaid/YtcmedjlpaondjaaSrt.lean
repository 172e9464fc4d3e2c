/- slices.SortFunc over labels: the array of the call's own, sorted in its place. No condition. -/
import Derived.Test.YtcmedjlpaondjaaInp
import Derived.Test.YtcmedjlpaondjaaKey
import Derived.Test.YtcmedjlpaondjaaLaySF
set_option linter.unusedSimpArgs false
set_option linter.unusedVariables false
namespace Go.Proofs.Ytcmedjlpaondjaa
open Go.ChangeShapes Go.WideShapes Go.ChangeAt Go.RowKit

/-- The labels that stand in graphs. -/
abbrev LabR : Type := {x : Lab // -1 ≤ x.sig ∧ x.sig ≤ 1000}
instance : Inhabited LabR := ⟨⟨⟨0, false⟩, by decide⟩⟩
def encR (x : LabR) : List Value := [.int .i64 x.1.sig, .bool x.1.up]
def cmpR (x y : LabR) : Int := if x.1.sig = y.1.sig then (if x.1.up = y.1.up then 0 else if y.1.up then -1 else 1) else x.1.sig - y.1.sig
theorem ltR (x y : LabR) : ltOf cmpR x y = decide (keyL x.1 < keyL y.1) := by
  unfold ltOf
  rw [Bool.eq_iff_iff, decide_eq_true_eq, decide_eq_true_eq]
  obtain ⟨⟨a, b⟩, h1⟩ := x; obtain ⟨⟨c, d⟩, h2⟩ := y
  simp only [cmpR, keyL]
  by_cases e : a = c
  · subst e; cases b <;> cases d <;> simp <;> omega
  · rw [if_neg e]; cases b <;> cases d <;> simp <;> omega

/-- The comparison, in whatever world: two blocks are laid. -/
theorem compareLabels_c (x y : LabR) (W : World) : Calls Try.prog 114 #[.agg (encR x).toArray, .agg (encR y).toArray] W fun e w' => e = .returned (.int .i64 (cmpR x y)) ∧ ∃ q os', w' = Go.Sort.grow (W.drewN q) os' := by
  have key : ∀ (a c r : Int) (b d : Bool), -1 ≤ a ∧ a ≤ 1000 → -1 ≤ c ∧ c ≤ 1000 → (if a = c then (if b = d then 0 else if d then -1 else 1) else a - c) = r → Calls Try.prog 114 #[.agg #[.int .i64 a, .bool b], .agg #[.int .i64 c, .bool d]] W fun e w' => e = .returned (.int .i64 r) ∧ ∃ q os', w' = Go.Sort.grow (W.drewN q) os' := by
    intro a c r b d h1 h2 hr
    have HR : Hid ((if a = c then (if b = d then 0 else if d then -1 else 1) else a - c) = r) := Lib.hid hr
    clear hr
    go_enter Try.func114, Try.ntmps114
    go_wp2
    all_goals go_ret
    all_goals refine ⟨?_, 0, _, by rw [Go.Sort.alloc_eq_grow, Go.Sort.alloc_eq_grow, Go.Sort.grow_grow]; rfl⟩
    all_goals have hr := HR.out
    all_goals subst hr
    all_goals (simp_all)
  exact key _ _ _ _ _ x.2 y.2 rfl

def encL (x : Lab) : List Value := [.int .i64 x.sig, .bool x.up]
theorem flat_encL (l : List Lab) : (l.map dLab).flatten = (l.flatMap encL).map D.lit := by
  induction l with
  | nil => rfl
  | cons x l ih => rw [List.map_cons, List.flatten_cons, ih, List.flatMap_cons, List.map_append]; rfl
theorem len_encL (l : List Lab) : (l.flatMap encL).length = l.length * 2 := by
  induction l with
  | nil => rfl
  | cons x l ih => rw [List.flatMap_cons, List.length_append, ih, List.length_cons]; simp [encL]; omega
theorem flatK_list : ∀ l : List LabR, (Go.Sort.flatK encR 2 l.toArray).toList = (l.map (·.1)).flatMap encL := by
  intro l
  refine List.ext_getElem ?_ fun t h1 h2 => ?_
  · rw [show ((l.map (·.1)).flatMap encL).length = l.length * 2 by rw [len_encL, List.length_map]]; simp [Go.Sort.flatK]
  · have ht : t < l.length * 2 := by simpa [Go.Sort.flatK] using h1
    have e1 : (Go.Sort.flatK encR 2 l.toArray).toList[t] = (encR l.toArray[t / 2]!)[t % 2]! := by simp [Go.Sort.flatK]
    rw [e1]
    clear e1 h1
    induction l generalizing t with
    | nil => simp at ht
    | cons x l ih =>
      by_cases h : t < 2
      · have e : t = 0 ∨ t = 1 := by omega
        rcases e with rfl | rfl <;> simp [encR, encL]
      · obtain ⟨q, rfl⟩ : ∃ q, t = q + 2 := ⟨t - 2, by omega⟩
        have hq : q < l.length * 2 := by simp at ht; omega
        have h3 := ih q (by rw [len_encL]; simpa using hq) hq
        have e2 : (q + 2) / 2 = q / 2 + 1 := by omega
        have e3 : (q + 2) % 2 = q % 2 := by omega
        rw [e2, e3]
        have hlt : q / 2 < l.length := by omega
        have e4 : (x :: l).toArray[q / 2 + 1]! = l.toArray[q / 2]! := by simp [hlt]
        rw [e4, h3]
        simp only [List.map_cons, List.flatMap_cons]
        rw [List.getElem_append_right (by simp [encL])]
        congr 1

section
variable {P : Program} {w0 w w' : World} {A : Nat → Prop} {n : Nat} {sl : List (Nat × D)} {hp : List Blk} {ms : List Ent} {a : Act} {i : Nat} {e : Ent}
theorem flat_labs (l : List Lab) : Flat (l.map dLab) := flat_map (by simp [dLab, isLit])
theorem lab_vrs (w : World) : ∀ l : List Lab, (∀ x ∈ l, -1 ≤ x.sig ∧ x.sig ≤ 1000) → VRs w (l.map dLab).flatten (l.flatMap encL) []
  | [], _ => .nil
  | x :: l, h => by
    have hx := h x (by simp)
    exact VRs.cons (bs := []) (.lit (litOk_i64.2 (by omega))) (VRs.cons (bs := []) (.lit trivial) (lab_vrs w l fun y hy => h y (List.mem_cons_of_mem _ hy)))
theorem lab_rows (l : List Lab) : ∀ r ∈ l.map dLab, r.length = 2 := by
  intro r hr; obtain ⟨x, _, rfl⟩ := List.mem_map.1 hr; rfl
/-- Where the labels of an array of the call's own lie. -/
theorem own_labs (hr : Rel w0 A ms ⟨n, sl, hp⟩ a w) {T : TypeId} {l : List Lab} (hi : ms[i]? = some e) (hb : hp[i]? = some (.arr T 2 (l.map dLab) true)) :
    (e.v = .slice none 0 0 ∧ l = []) ∨ ∃ g cap cur, e.v = .slice (some ⟨g, 0, none⟩) l.length cap ∧ w0.heap.size ≤ g ∧ w.heap[g]? = some (.cells cur T (0, 0)) ∧ l.length ≤ cap ∧ cap ≤ maxLen ∧ cur.size = cap * 2 ∧ cur.toList.take (l.length * 2) = l.flatMap encL ∧ e.top = some g ∧ e.nest = [] := by
  have hne := flat_nest hr hi hb (flat_labs l)
  obtain ⟨us, bs, o1, o2, o3, o4, o5⟩ := hr.ents i _ e hb hi
  have hus := litV_inv (by rw [← flat_encL]; exact o3)
  subst hus
  rw [len_dLab] at o1
  obtain ⟨_, ⟨hv, h0⟩ | ⟨g, cap, cur, hv, hg, hh, c1, c2, c3, c4⟩⟩ := o1
  · left; exact ⟨hv, List.length_eq_zero_iff.1 h0⟩
  · right
    exact ⟨g, cap, cur, hv, hg, hh, c1, c2, c3, c4, by rw [o4, hv]; rfl, hne⟩
theorem holdsF_of {g : Nat} {cur : Array Value} {T : TypeId} {F : Array Value} (hh : w.heap[g]? = some (.cells cur T (0, 0))) (hc : cur.toList.take F.size = F.toList) : Go.Sort.Holds id w g 0 F := by
  intro j hj
  have h1 : (cur.toList.take F.size)[j]? = some F[j] := by rw [hc]; simp [hj]
  rw [List.getElem?_take, if_pos hj, Array.getElem?_toList] at h1
  refine ⟨?_, ?_⟩
  · simp only [World.cell?, Nat.zero_add, hh, h1]
    simp [hj]
  · simp [World.frozen?, hh]
theorem putF_heap {g : Nat} {cur : Array Value} {T : TypeId} {F : Array Value} {q : Nat} {os : Array Obj} (hh : w.heap[g]? = some (.cells cur T (0, 0))) (hl : F.size ≤ cur.size) :
    let w' := Go.Sort.grow (Go.Sort.putRow id (Go.Sort.ahead w q) g 0 F) os
    w.heap.size ≤ w'.heap.size ∧ w'.os = w.os ∧ w'.tape = w.tape ∧ w'.output = w.output ∧ (∀ k, k < w.heap.size → k ≠ g → w'.heap[k]? = w.heap[k]?) ∧ ∃ cur' : Array Value, w'.heap[g]? = some (.cells cur' T (0, 0)) ∧ cur'.size = cur.size ∧ cur'.toList.take F.size = F.toList := by
  have hg : g < w.heap.size := (Array.getElem?_eq_some_iff.1 hh).1
  have hsz : (Go.Sort.putRow id (Go.Sort.ahead w q) g 0 F).heap.size = w.heap.size := by rw [Go.Sort.size_putRow]; rfl
  refine ⟨by simp only [Go.Sort.size_grow, hsz]; omega, rfl, rfl, rfl, fun k hk hkg => ?_, Go.Sort.putCells id 0 F cur, ?_, by simp [Go.Sort.putCells], ?_⟩
  · rw [Go.Sort.heap_grow_old _ _ (by rw [hsz]; exact hk)]
    simp only [Go.Sort.putRow, Go.Sort.mapBlock, Array.getElem?_modify, if_neg (Ne.symm hkg)]; rfl
  · rw [Go.Sort.heap_grow_old _ _ (by rw [hsz]; exact hg)]
    simp only [Go.Sort.putRow, Go.Sort.mapBlock, Array.getElem?_modify, if_true]
    have : (Go.Sort.ahead w q).heap[g]? = some (.cells cur T (0, 0)) := hh
    rw [this]; rfl
  · apply List.ext_getElem?
    intro j
    rw [List.getElem?_take]
    by_cases hj : j < F.size
    · rw [if_pos hj, Array.getElem?_toList]
      simp only [Go.Sort.putCells, Array.getElem?_mapIdx]
      rw [Array.getElem?_eq_getElem (show j < cur.size by omega), Option.map_some, if_pos ⟨by omega, by simpa using hj⟩]
      simp [hj]
    · rw [if_neg hj, List.getElem?_eq_none (by simp; omega)]
theorem Rel.inpF (hr : Rel w0 A ms ⟨n, sl, hp⟩ a w) {T : TypeId} {l l' : List Lab} {g cap q : Nat} {cur : Array Value} {os : Array Obj} {F : Array Value} (hi : ms[i]? = some e) (hb : hp[i]? = some (.arr T 2 (l.map dLab) true)) (hv : e.v = .slice (some ⟨g, 0, none⟩) l.length cap) (hg0 : w0.heap.size ≤ g) (hh : w.heap[g]? = some (.cells cur T (0, 0)))
    (c1 : l.length ≤ cap) (c2 : cap ≤ maxLen) (c3 : cur.size = cap * 2) (ht : e.top = some g) (hne : e.nest = []) (hwf : ∀ x ∈ l', -1 ≤ x.sig ∧ x.sig ≤ 1000) (hl : l'.length = l.length) (hF : F.toList = l'.flatMap encL) (hw : w' = Go.Sort.grow (Go.Sort.putRow id (Go.Sort.ahead w q) g 0 F) os) :
    Rel w0 A ms ⟨n, sl, hp.set i (.arr T 2 (l'.map dLab) true)⟩ a w' := by
  have hFs : F.size = l'.length * 2 := by rw [← Array.length_toList, hF, len_encL]
  obtain ⟨p1, p2, p3, p4, p5, cur', p6, p7, p8⟩ := putF_heap (w := w) (q := q) (os := os) (F := F) hh (by omega)
  rw [← hw] at p1 p2 p3 p4 p5 p6
  have hgl : g < w.heap.size := (Array.getElem?_eq_some_iff.1 hh).1
  have hcs := cutW_size p1
  have hch : ∀ k, (cutW w' w.heap.size).heap[k]? = if k < w.heap.size then w'.heap[k]? else none := by
    intro k
    simp only [cutW, Array.getElem?_extract, Nat.sub_zero, Nat.zero_add]
    by_cases hk : k < w.heap.size
    · rw [if_pos (by omega), if_pos hk]
    · rw [if_neg (by omega), if_neg hk]
  have hgk : ∀ k, k ≠ g → (cutW w' w.heap.size).heap[k]? = w.heap[k]? := by
    intro k hk
    rw [hch]
    split
    · rename_i h; exact p5 k h hk
    · rw [Array.getElem?_eq_none (by omega)]
  have h1 : Rel w0 A ms ⟨n, sl, hp.set i (.arr T 2 (l'.map dLab) true)⟩ a (cutW w' w.heap.size) := by
    refine hr.change hi ht hgk hcs ⟨p2, p3, p4, by omega, fun k hk => hgk k (by omega)⟩ fun _ _ => ?_
    refine ⟨l'.flatMap encL, [], ⟨by rw [len_dLab, len_encL], Or.inr ⟨g, cap, cur', by rw [hv, len_dLab, hl], hg0, by rw [hch, if_pos hgl]; exact p6, by rw [len_dLab]; omega, c2, by omega, ?_⟩⟩, lab_rows l', lab_vrs _ l' hwf, by rw [ht, hv]; rfl, by rw [if_pos rfl]; exact ⟨hne, by simp⟩⟩
    rw [len_dLab, ← hFs, p8, hF]
  exact h1.later (cutW_ext p1)
end

def srtL (l : List Lab) : List Lab := l.mergeSort fun x y => !decide (keyL y < keyL x)
theorem srtL_perm (l : List Lab) : (srtL l).Perm l := List.mergeSort_perm _ _
theorem srtL_len (l : List Lab) : (srtL l).length = l.length := (srtL_perm l).length_eq
theorem srtL_sorted (l : List Lab) : (srtL l).Pairwise (fun x y => keyL x ≤ keyL y) := by
  have := List.pairwise_mergeSort (le := fun x y : Lab => !decide (keyL y < keyL x)) (fun a b c h1 h2 => by simp at *; omega) (fun a b => by simp; omega) l
  exact this.imp (by intro a b h; simpa using h)
theorem swoR : Go.Sort.SWO (ltOf cmpR) where
  irrefl x := by rw [ltR]; simp
  trans x y z h1 h2 := by rw [ltR] at *; simp at *; omega
  ntrans x y z h1 h2 := by rw [ltR] at *; simp at *; omega

section
variable {w0 w w' : World} {A : Nat → Prop} {n : Nat} {sl : List (Nat × D)} {hp : List Blk} {ms : List Ent} {a : Act} {i : Nat} {e : Ent} {ops : Array Oper} {rest : List Oper} {K : St → Prop} {dst : Tmp} {ty : TypeId} {pos : String} {after : Array Edge} {hp2 : List Blk}
theorem sort_calls (l : List Lab) (hl : l.length ≤ 1000000) (hR : ∀ x ∈ l, -1 ≤ x.sig ∧ x.sig ≤ 1000) {g cap : Nat} {cur : Array Value} {T : TypeId} (hh : w.heap[g]? = some (.cells cur T (0, 0))) (hc : cur.toList.take (l.length * 2) = l.flatMap encL) :
    Calls Try.prog 113 #[.slice (some ⟨g, 0, none⟩) l.length cap, .func (.func 114) #[] #[]] w fun e w' => e = .returned (.tuple #[]) ∧ ∃ q os F, w' = Go.Sort.grow (Go.Sort.putRow id (Go.Sort.ahead w q) g 0 F) os ∧ F.toList = (srtL l).flatMap encL := by
  obtain ⟨lr, rfl⟩ : ∃ lr : List LabR, lr.map (·.1) = l := ⟨l.attach.map fun x => ⟨x.1, hR x.1 x.2⟩, by simp⟩
  have hg : g < w.heap.size := (Array.getElem?_eq_some_iff.1 hh).1
  have hF : (Go.Sort.flatK encR 2 lr.toArray).size = lr.length * 2 := by simp [Go.Sort.flatK]
  have hH : Go.Sort.HoldsK encR 2 w g 0 lr.toArray := by
    refine holdsF_of hh ?_
    rw [hF, flatK_list, ← hc, List.length_map]
  have eg : ∀ args w, (callFunc 114 args).run Try.prog w = .ok (.enter 114 args) w := plain_of Try.func114 (by kernel_rfl) (by kernel_rfl)
  have hcon := AnyQ.slices_SortFunc_total laySF 2 Try.isAgg96 Try.sizeOf96 encR (fun _ => rfl) (fun x v hv => by simp [encR] at hv; rcases hv with rfl | rfl <;> rfl) cmpR swoR 114 #[] g 0 cap lr.toArray w eg (fun _ _ _ _ x y => compareLabels_c x y _) hH hg (by simp at hl ⊢; omega)
    (fun x y h1 h2 => by rw [ltR] at h1 h2; simp at h1 h2; exact Subtype.ext (keyL_inj (by omega)))
  simp only [List.size_toArray] at hcon
  rw [List.length_map]
  refine hcon.mono ?_
  rintro e w' ⟨h1, q, os, h2⟩
  refine ⟨h1, q, os, _, h2, ?_⟩
  rw [flatK_list]
  congr 1
  simp only [srtL]
  rw [List.map_mergeSort (s := fun x y : Lab => !decide (keyL y < keyL x)) (fun x _ y _ => by rw [ltR])]
theorem sort_none (w : World) : Calls Try.prog 113 #[.slice none 0 0, .func (.func 114) #[] #[]] w fun e w' => e = .returned (.tuple #[]) ∧ w' = w := by
  refine (AnyF.slices_SortFunc_none laySF none 0 _ w).mono ?_
  rintro e w' ⟨h1, h2⟩
  exact ⟨h1, h2⟩
/-- The sort's call. -/
theorem R_sortL {fo x0 x1 : Operand} {tys : Array TypeId} {l : List Lab} {T : TypeId} (hf : evD (look sl) fo = .fn 113 []) (hx : evD (look sl) x0 = .own i) (hg : evD (look sl) x1 = .fn 114 []) (hb : hp[i]? = some (.arr T 2 (l.map dLab) true)) (hl : l.length ≤ 1000000) (hR : ∀ x ∈ l, -1 ≤ x.sig ∧ x.sig ≤ 1000) (hd : Nat.blt dst n = true) (hh : setK i (.arr T 2 ((srtL l).map dLab) true) hp some = some hp2) (hK : WO Try.prog w0 A ops rest ⟨n, (dst, .tup []) :: sl, hp2⟩ K) :
    WO Try.prog w0 A ops (⟨some dst, .call ⟨.value fo, #[x0, x1], tys⟩, ty, pos, after, none⟩ :: rest) ⟨n, sl, hp⟩ K := by
  have hh := setK_eq hh
  simp only [Option.some.injEq] at hh
  subst hh
  refine ⟨fun ms a w hr Q hq => ?_⟩
  refine wpList_plain rfl fun Kn hKn => ?_
  obtain ⟨e, hi, ev, hsl⟩ := (hr.ev_at hx).own_inv
  obtain ⟨cs, e1, hcs⟩ := (hr.ev_at hf).fn_inv
  cases hcs
  obtain ⟨cs, e2, hcs⟩ := (hr.ev_at hg).fn_inv
  cases hcs
  have hplain : ∀ args w, (callFunc 113 args).run Try.prog w = .ok (.enter 113 args) w := plain_of Try.func113 (by kernel_rfl) (by kernel_rfl)
  refine enter_call (run_call (o := ⟨some dst, .call ⟨.value fo, #[x0, x1], tys⟩, ty, pos, after, none⟩) rfl hplain e1) ?_
  simp only [List.map_cons, List.map_nil, List.append_nil, ev, e2]
  have fin : ∀ w', Rel w0 A ms ⟨n, sl, hp.set i (.arr T 2 ((srtL l).map dLab) true)⟩ a w' → Kn (a.put (some dst) (.tuple #[])) w' := fun w' hr' =>
    hKn _ _ (hK.run _ _ w' (Rel.put (t := some dst) hr' (.tup (us := []) .nil) (dstOk_all (s := ⟨n, _, _⟩) (t := some dst) hd)) Q hq)
  rcases own_labs hr hi hb with ⟨hv, hl0⟩ | ⟨g, cap, cur, hv, hg0, hh, c1, c2, c3, c4, ht, hne⟩
  · rw [hv]
    refine (sort_none w).mono ?_
    rintro e' w' ⟨rfl, rfl⟩
    have hl' : srtL l = [] := List.length_eq_zero_iff.1 (by rw [srtL_len, hl0]; rfl)
    refine ⟨_, rfl, fin _ ?_⟩
    have e2 : hp.set i (.arr T 2 ((srtL l).map dLab) true) = hp := by
      rw [hl', ← hl0]
      refine List.ext_getElem? fun q => ?_
      by_cases hq2 : q = i
      · subst hq2
        rw [List.getElem?_set_self (List.getElem?_eq_some_iff.1 hb).1, hb]
      · rw [List.getElem?_set_ne (Ne.symm hq2)]
    rw [e2]; exact hr
  · rw [hv]
    refine (sort_calls l hl hR hh c4).mono ?_
    rintro e' w' ⟨rfl, q, os, F, hw, hF⟩
    exact ⟨_, rfl, fin _ (hr.inpF hi hb hv hg0 hh c1 c2 c3 ht hne (fun x hx => hR x ((srtL_perm l).mem_iff.1 hx)) (srtL_len l) hF hw)⟩
end
end Go.Proofs.Ytcmedjlpaondjaa
