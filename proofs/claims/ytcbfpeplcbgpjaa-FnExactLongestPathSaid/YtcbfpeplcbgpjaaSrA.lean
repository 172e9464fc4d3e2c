/- slices.SortFunc over arcs: the array of the call's own, sorted in its place. No condition. -/
import Derived.Test.YtcbfpeplcbgpjaaInp
import Derived.Test.YtcbfpeplcbgpjaaTidy
import Derived.Test.YtcbfpeplcbgpjaaLaySFA
set_option linter.unusedSimpArgs false
set_option linter.unusedVariables false
namespace Go.Proofs.Ytcbfpeplcbgpjaa
open Go.ChangeShapes Go.WideShapes Go.ChangeAt Go.RowKit

/-- The arcs that stand in graphs. -/
def ArcOk (x : ArcD) : Prop := (0 ≤ x.src ∧ x.src ≤ 1000) ∧ (0 ≤ x.dst ∧ x.dst ≤ 1000) ∧ -1 ≤ x.sig ∧ x.sig ≤ 1000
abbrev ArcR : Type := {x : ArcD // ArcOk x}
instance : Inhabited ArcR := ⟨⟨⟨0, 0, false, 0⟩, by simp [ArcOk]⟩⟩
def encR (x : ArcR) : List Value := [.int .i64 x.1.src, .int .i64 x.1.sig, .bool x.1.up, .int .i64 x.1.dst]
def cmpR (x y : ArcR) : Int := (x.1.src - y.1.src) * 1000 + x.1.dst - y.1.dst
theorem ltR (x y : ArcR) : ltOf cmpR x y = decide (x.1.src * 1000 + x.1.dst < y.1.src * 1000 + y.1.dst) := by
  unfold ltOf
  rw [Bool.eq_iff_iff, decide_eq_true_eq, decide_eq_true_eq]
  unfold cmpR
  omega

/-- The comparison, in whatever world: two blocks are laid. -/
theorem compareArcs_c (x y : ArcR) (W : World) : Calls Try.prog 112 #[.agg (encR x).toArray, .agg (encR y).toArray] W fun e w' => e = .returned (.int .i64 (cmpR x y)) ∧ ∃ q os', w' = Go.Sort.grow (W.drewN q) os' := by
  have key : ∀ (a s d a' s' d' r : Int) (u u' : Bool), 0 ≤ a ∧ a ≤ 1000 → 0 ≤ a' ∧ a' ≤ 1000 → 0 ≤ d ∧ d ≤ 1000 → 0 ≤ d' ∧ d' ≤ 1000 → (a - a') * 1000 + d - d' = r → Calls Try.prog 112 #[.agg #[.int .i64 a, .int .i64 s, .bool u, .int .i64 d], .agg #[.int .i64 a', .int .i64 s', .bool u', .int .i64 d']] W fun e w' => e = .returned (.int .i64 r) ∧ ∃ q os', w' = Go.Sort.grow (W.drewN q) os' := by
    intro a s d a' s' d' r u u' h1 h2 h3 h4 hr
    have HR : Hid ((a - a') * 1000 + d - d' = r) := Lib.hid hr
    have hm : -9223372036854775808 ≤ (a - a') * 1000 ∧ (a - a') * 1000 ≤ 9223372036854775807 := by omega
    clear hr
    go_enter Try.func112, Try.ntmps112
    go_wp2
    all_goals go_ret
    all_goals refine ⟨?_, 0, _, by rw [Go.Sort.alloc_eq_grow, Go.Sort.alloc_eq_grow, Go.Sort.grow_grow]; rfl⟩
    all_goals have hr := HR.out
    all_goals subst hr
    all_goals rfl
  exact key _ _ _ _ _ _ _ _ _ x.2.1 y.2.1 x.2.2.1 y.2.2.1 rfl

def encL (x : ArcD) : List Value := [.int .i64 x.src, .int .i64 x.sig, .bool x.up, .int .i64 x.dst]
theorem flat_encL (l : List ArcD) : (l.map dArcD).flatten = (l.flatMap encL).map D.lit := by
  induction l with
  | nil => rfl
  | cons x l ih => rw [List.map_cons, List.flatten_cons, ih, List.flatMap_cons, List.map_append]; rfl
theorem len_encL (l : List ArcD) : (l.flatMap encL).length = l.length * 4 := by
  induction l with
  | nil => rfl
  | cons x l ih => rw [List.flatMap_cons, List.length_append, ih, List.length_cons]; simp [encL]; omega
theorem flatK_list : ∀ l : List ArcR, (Go.Sort.flatK encR 4 l.toArray).toList = (l.map (·.1)).flatMap encL := by
  intro l
  refine List.ext_getElem ?_ fun t h1 h2 => ?_
  · rw [show ((l.map (·.1)).flatMap encL).length = l.length * 4 by rw [len_encL, List.length_map]]; simp [Go.Sort.flatK]
  · have ht : t < l.length * 4 := by simpa [Go.Sort.flatK] using h1
    have e1 : (Go.Sort.flatK encR 4 l.toArray).toList[t] = (encR l.toArray[t / 4]!)[t % 4]! := by simp [Go.Sort.flatK]
    rw [e1]
    clear e1 h1
    induction l generalizing t with
    | nil => simp at ht
    | cons x l ih =>
      by_cases h : t < 4
      · have e : t = 0 ∨ t = 1 ∨ t = 2 ∨ t = 3 := by omega
        rcases e with rfl | rfl | rfl | rfl <;> simp [encR, encL]
      · obtain ⟨q, rfl⟩ : ∃ q, t = q + 4 := ⟨t - 4, by omega⟩
        have hq : q < l.length * 4 := by simp at ht; omega
        have h3 := ih q (by rw [len_encL]; simpa using hq) hq
        have e2 : (q + 4) / 4 = q / 4 + 1 := by omega
        have e3 : (q + 4) % 4 = q % 4 := by omega
        rw [e2, e3]
        have hlt : q / 4 < l.length := by omega
        have e4 : (x :: l).toArray[q / 4 + 1]! = l.toArray[q / 4]! := by simp [hlt]
        rw [e4, h3]
        simp only [List.map_cons, List.flatMap_cons]
        rw [List.getElem_append_right (by simp [encL])]
        congr 1

section
variable {P : Program} {w0 w w' : World} {A : Nat → Prop} {n : Nat} {sl : List (Nat × D)} {hp : List Blk} {ms : List Ent} {a : Act} {i : Nat} {e : Ent}
theorem flat_labs (l : List ArcD) : Flat (l.map dArcD) := flat_map (by simp [dArcD, isLit])
theorem lab_vrs (w : World) : ∀ l : List ArcD, (∀ x ∈ l, ArcOk x) → VRs w (l.map dArcD).flatten (l.flatMap encL) []
  | [], _ => .nil
  | x :: l, h => by
    have hx := h x (by simp)
    unfold ArcOk at hx
    exact VRs.cons (bs := []) (.lit (litOk_i64.2 (by omega))) (VRs.cons (bs := []) (.lit (litOk_i64.2 (by omega))) (VRs.cons (bs := []) (.lit trivial) (VRs.cons (bs := []) (.lit (litOk_i64.2 (by omega))) (lab_vrs w l fun y hy => h y (List.mem_cons_of_mem _ hy)))))
theorem lab_rows (l : List ArcD) : ∀ r ∈ l.map dArcD, r.length = 4 := by
  intro r hr; obtain ⟨x, _, rfl⟩ := List.mem_map.1 hr; rfl
/-- Where the labels of an array of the call's own lie. -/
theorem own_labs (hr : Rel w0 A ms ⟨n, sl, hp⟩ a w) {T : TypeId} {l : List ArcD} (hi : ms[i]? = some e) (hb : hp[i]? = some (.arr T 4 (l.map dArcD) true)) :
    (e.v = .slice none 0 0 ∧ l = []) ∨ ∃ g cap cur, e.v = .slice (some ⟨g, 0, none⟩) l.length cap ∧ w0.heap.size ≤ g ∧ w.heap[g]? = some (.cells cur T (0, 0)) ∧ l.length ≤ cap ∧ cap ≤ maxLen ∧ cur.size = cap * 4 ∧ cur.toList.take (l.length * 4) = l.flatMap encL ∧ e.top = some g ∧ e.nest = [] := by
  have hne := flat_nest hr hi hb (flat_labs l)
  obtain ⟨us, bs, o1, o2, o3, o4, o5⟩ := hr.ents i _ e hb hi
  have hus := litV_inv (by rw [← flat_encL]; exact o3)
  subst hus
  rw [len_dArcD] at o1
  obtain ⟨_, ⟨hv, h0⟩ | ⟨g, cap, cur, hv, hg, hh, c1, c2, c3, c4⟩⟩ := o1
  · left; exact ⟨hv, List.length_eq_zero_iff.1 h0⟩
  · right
    exact ⟨g, cap, cur, hv, hg, hh, c1, c2, c3, c4, by rw [o4, hv]; rfl, hne⟩
theorem holdsF_of {g : Nat} {cur : Array Value} {T : TypeId} {F : Array Value} (hh : w.heap[g]? = some (.cells cur T (0, 0))) (hc : cur.toList.take F.size = F.toList) : Go.Sort.Holds id w g 0 F := by
  intro j hj
  have h1 : (cur.toList.take F.size)[j]? = some F[j] := by rw [hc]; simp [hj]
  rw [List.getElem?_take, if_pos hj, Array.getElem?_toList] at h1
  refine ⟨?_, ?_⟩
  · simp only [World.cell?, Nat.zero_add, hh, h1]
    simp [hj]
  · simp [World.frozen?, hh]
theorem putF_heap {g : Nat} {cur : Array Value} {T : TypeId} {F : Array Value} {q : Nat} {os : Array Obj} (hh : w.heap[g]? = some (.cells cur T (0, 0))) (hl : F.size ≤ cur.size) :
    let w' := Go.Sort.grow (Go.Sort.putRow id (Go.Sort.ahead w q) g 0 F) os
    w.heap.size ≤ w'.heap.size ∧ w'.os = w.os ∧ w'.tape = w.tape ∧ w'.output = w.output ∧ (∀ k, k < w.heap.size → k ≠ g → w'.heap[k]? = w.heap[k]?) ∧ ∃ cur' : Array Value, w'.heap[g]? = some (.cells cur' T (0, 0)) ∧ cur'.size = cur.size ∧ cur'.toList.take F.size = F.toList := by
  have hg : g < w.heap.size := (Array.getElem?_eq_some_iff.1 hh).1
  have hsz : (Go.Sort.putRow id (Go.Sort.ahead w q) g 0 F).heap.size = w.heap.size := by rw [Go.Sort.size_putRow]; rfl
  refine ⟨by simp only [Go.Sort.size_grow, hsz]; omega, rfl, rfl, rfl, fun k hk hkg => ?_, Go.Sort.putCells id 0 F cur, ?_, by simp [Go.Sort.putCells], ?_⟩
  · rw [Go.Sort.heap_grow_old _ _ (by rw [hsz]; exact hk)]
    simp only [Go.Sort.putRow, Go.Sort.mapBlock, Array.getElem?_modify, if_neg (Ne.symm hkg)]; rfl
  · rw [Go.Sort.heap_grow_old _ _ (by rw [hsz]; exact hg)]
    simp only [Go.Sort.putRow, Go.Sort.mapBlock, Array.getElem?_modify, if_true]
    have : (Go.Sort.ahead w q).heap[g]? = some (.cells cur T (0, 0)) := hh
    rw [this]; rfl
  · apply List.ext_getElem?
    intro j
    rw [List.getElem?_take]
    by_cases hj : j < F.size
    · rw [if_pos hj, Array.getElem?_toList]
      simp only [Go.Sort.putCells, Array.getElem?_mapIdx]
      rw [Array.getElem?_eq_getElem (show j < cur.size by omega), Option.map_some, if_pos ⟨by omega, by simpa using hj⟩]
      simp [hj]
    · rw [if_neg hj, List.getElem?_eq_none (by simp; omega)]
theorem Rel.inpF (hr : Rel w0 A ms ⟨n, sl, hp⟩ a w) {T : TypeId} {l l' : List ArcD} {g cap q : Nat} {cur : Array Value} {os : Array Obj} {F : Array Value} (hi : ms[i]? = some e) (hb : hp[i]? = some (.arr T 4 (l.map dArcD) true)) (hv : e.v = .slice (some ⟨g, 0, none⟩) l.length cap) (hg0 : w0.heap.size ≤ g) (hh : w.heap[g]? = some (.cells cur T (0, 0)))
    (c1 : l.length ≤ cap) (c2 : cap ≤ maxLen) (c3 : cur.size = cap * 4) (ht : e.top = some g) (hne : e.nest = []) (hwf : ∀ x ∈ l', ArcOk x) (hl : l'.length = l.length) (hF : F.toList = l'.flatMap encL) (hw : w' = Go.Sort.grow (Go.Sort.putRow id (Go.Sort.ahead w q) g 0 F) os) :
    Rel w0 A ms ⟨n, sl, hp.set i (.arr T 4 (l'.map dArcD) true)⟩ a w' := by
  have hFs : F.size = l'.length * 4 := by rw [← Array.length_toList, hF, len_encL]
  obtain ⟨p1, p2, p3, p4, p5, cur', p6, p7, p8⟩ := putF_heap (w := w) (q := q) (os := os) (F := F) hh (by omega)
  rw [← hw] at p1 p2 p3 p4 p5 p6
  have hgl : g < w.heap.size := (Array.getElem?_eq_some_iff.1 hh).1
  have hcs := cutW_size p1
  have hch : ∀ k, (cutW w' w.heap.size).heap[k]? = if k < w.heap.size then w'.heap[k]? else none := by
    intro k
    simp only [cutW, Array.getElem?_extract, Nat.sub_zero, Nat.zero_add]
    by_cases hk : k < w.heap.size
    · rw [if_pos (by omega), if_pos hk]
    · rw [if_neg (by omega), if_neg hk]
  have hgk : ∀ k, k ≠ g → (cutW w' w.heap.size).heap[k]? = w.heap[k]? := by
    intro k hk
    rw [hch]
    split
    · rename_i h; exact p5 k h hk
    · rw [Array.getElem?_eq_none (by omega)]
  have h1 : Rel w0 A ms ⟨n, sl, hp.set i (.arr T 4 (l'.map dArcD) true)⟩ a (cutW w' w.heap.size) := by
    refine hr.change hi ht hgk hcs ⟨p2, p3, p4, by omega, fun k hk => hgk k (by omega)⟩ fun _ _ => ?_
    refine ⟨l'.flatMap encL, [], ⟨by rw [len_dArcD, len_encL], Or.inr ⟨g, cap, cur', by rw [hv, len_dArcD, hl], hg0, by rw [hch, if_pos hgl]; exact p6, by rw [len_dArcD]; omega, c2, by omega, ?_⟩⟩, lab_rows l', lab_vrs _ l' hwf, by rw [ht, hv]; rfl, by rw [if_pos rfl]; exact ⟨hne, by simp⟩⟩
    rw [len_dArcD, ← hFs, p8, hF]
  exact h1.later (cutW_ext p1)
end

theorem swoR : Go.Sort.SWO (ltOf cmpR) where
  irrefl x := by rw [ltR]; simp
  trans x y z h1 h2 := by rw [ltR] at *; simp at *; omega
  ntrans x y z h1 h2 := by rw [ltR] at *; simp at *; omega

section
variable {w0 w w' : World} {A : Nat → Prop} {n : Nat} {sl : List (Nat × D)} {hp : List Blk} {ms : List Ent} {a : Act} {i : Nat} {e : Ent} {ops : Array Oper} {rest : List Oper} {K : St → Prop} {dst : Tmp} {ty : TypeId} {pos : String} {after : Array Edge} {hp2 : List Blk}
theorem sort_calls (l : List ArcD) (hl : l.length ≤ 1000000) (hR : ∀ x ∈ l, ArcOk x) {g cap : Nat} {cur : Array Value} {T : TypeId} (hh : w.heap[g]? = some (.cells cur T (0, 0))) (hc : cur.toList.take (l.length * 4) = l.flatMap encL) :
    Calls Try.prog 111 #[.slice (some ⟨g, 0, none⟩) l.length cap, .func (.func 112) #[] #[]] w fun e w' => e = .returned (.tuple #[]) ∧ ∃ l' : List ArcD, l'.Perm l ∧ ∃ q os F, w' = Go.Sort.grow (Go.Sort.putRow id (Go.Sort.ahead w q) g 0 F) os ∧ F.toList = l'.flatMap encL := by
  obtain ⟨lr, rfl⟩ : ∃ lr : List ArcR, lr.map (·.1) = l := ⟨l.attach.map fun x => ⟨x.1, hR x.1 x.2⟩, by simp⟩
  have hg : g < w.heap.size := (Array.getElem?_eq_some_iff.1 hh).1
  have hF : (Go.Sort.flatK encR 4 lr.toArray).size = lr.length * 4 := by simp [Go.Sort.flatK]
  have hH : Go.Sort.HoldsK encR 4 w g 0 lr.toArray := by
    refine holdsF_of hh ?_
    rw [hF, flatK_list, ← hc, List.length_map]
  have eg : ∀ args w, (callFunc 112 args).run Try.prog w = .ok (.enter 112 args) w := plain_of Try.func112 (by kernel_rfl) (by kernel_rfl)
  have hcon := AnyQ.slices_SortFunc laySFA 4 Try.isAgg148 Try.sizeOf148 encR (fun _ => rfl) (fun x v hv => by simp [encR] at hv; rcases hv with rfl | rfl | rfl | rfl <;> rfl) cmpR swoR 112 #[] g 0 cap lr.toArray w eg (fun _ _ _ _ x y => compareArcs_c x y _) hH hg (by simp at hl ⊢; omega)
  simp only [List.size_toArray] at hcon
  rw [List.length_map]
  refine hcon.mono ?_
  rintro e w' ⟨h1, d', q, os, hp, _, h2⟩
  refine ⟨h1, d'.toList.map (·.1), ?_, q, os, _, h2, ?_⟩
  · have hs := hp.1
    simp only [List.size_toArray] at hs
    have h3 : (d'.extract 0 d'.size).toList.Perm (lr.toArray.extract 0 lr.toArray.size).toList := by
      simp only [List.size_toArray, hs]; exact hp.2.2
    exact List.Perm.map _ (by simpa using h3)
  · rw [← Array.toArray_toList (xs := d'), flatK_list]
theorem sort_none (w : World) : Calls Try.prog 111 #[.slice none 0 0, .func (.func 112) #[] #[]] w fun e w' => e = .returned (.tuple #[]) ∧ w' = w := by
  refine (AnyF.slices_SortFunc_none laySFA none 0 _ w).mono ?_
  rintro e w' ⟨h1, h2⟩
  exact ⟨h1, h2⟩
/-- The sort's call. -/
theorem R_sortL {fo x0 x1 : Operand} {tys : Array TypeId} {l : List ArcD} {T : TypeId} (hf : evD (look sl) fo = .fn 111 []) (hx : evD (look sl) x0 = .own i) (hg : evD (look sl) x1 = .fn 112 []) (hb : hp[i]? = some (.arr T 4 (l.map dArcD) true)) (hl : l.length ≤ 1000000) (hR : ∀ x ∈ l, ArcOk x) (hd : Nat.blt dst n = true) (hK : ∀ l' : List ArcD, l'.Perm l → WO Try.prog w0 A ops rest ⟨n, (dst, .tup []) :: sl, hp.set i (.arr T 4 (l'.map dArcD) true)⟩ K) :
    WO Try.prog w0 A ops (⟨some dst, .call ⟨.value fo, #[x0, x1], tys⟩, ty, pos, after, none⟩ :: rest) ⟨n, sl, hp⟩ K := by
  refine ⟨fun ms a w hr Q hq => ?_⟩
  refine wpList_plain rfl fun Kn hKn => ?_
  obtain ⟨e, hi, ev, hsl⟩ := (hr.ev_at hx).own_inv
  obtain ⟨cs, e1, hcs⟩ := (hr.ev_at hf).fn_inv
  cases hcs
  obtain ⟨cs, e2, hcs⟩ := (hr.ev_at hg).fn_inv
  cases hcs
  have hplain : ∀ args w, (callFunc 111 args).run Try.prog w = .ok (.enter 111 args) w := plain_of Try.func111 (by kernel_rfl) (by kernel_rfl)
  refine enter_call (run_call (o := ⟨some dst, .call ⟨.value fo, #[x0, x1], tys⟩, ty, pos, after, none⟩) rfl hplain e1) ?_
  simp only [List.map_cons, List.map_nil, List.append_nil, ev, e2]
  have fin : ∀ (l' : List ArcD), l'.Perm l → ∀ w', Rel w0 A ms ⟨n, sl, hp.set i (.arr T 4 (l'.map dArcD) true)⟩ a w' → Kn (a.put (some dst) (.tuple #[])) w' := fun l' hp' w' hr' =>
    hKn _ _ ((hK l' hp').run _ _ w' (Rel.put (t := some dst) hr' (.tup (us := []) .nil) (dstOk_all (s := ⟨n, _, _⟩) (t := some dst) hd)) Q hq)
  rcases own_labs hr hi hb with ⟨hv, hl0⟩ | ⟨g, cap, cur, hv, hg0, hh, c1, c2, c3, c4, ht, hne⟩
  · rw [hv]
    refine (sort_none w).mono ?_
    rintro e' w' ⟨rfl, rfl⟩
    refine ⟨_, rfl, fin [] (by rw [hl0]) _ ?_⟩
    have e2 : hp.set i (.arr T 4 (([] : List ArcD).map dArcD) true) = hp := by
      rw [← hl0]
      refine List.ext_getElem? fun q => ?_
      by_cases hq2 : q = i
      · subst hq2
        rw [List.getElem?_set_self (List.getElem?_eq_some_iff.1 hb).1, hb]
      · rw [List.getElem?_set_ne (Ne.symm hq2)]
    rw [e2]; exact hr
  · rw [hv]
    refine (sort_calls l hl hR hh c4).mono ?_
    rintro e' w' ⟨rfl, l', hp', q, os, F, hw, hF⟩
    exact ⟨_, rfl, fin l' hp' _ (hr.inpF hi hb hv hg0 hh c1 c2 c3 ht hne (fun x hx => hR x (hp'.mem_iff.1 hx)) hp'.length_eq hF hw)⟩
end
end Go.Proofs.Ytcbfpeplcbgpjaa
