/- Symbolic states: the rules of a region that draws its order, operation by operation; ends. No condition. -/
import Derived.Test.YtidfmgahnmpcdaaAbsQ
set_option linter.unusedSimpArgs false
set_option linter.unusedVariables false
namespace Go.Proofs.Ytidfmgahnmpcdaa
open Go.ChangeShapes Go.WideShapes Go.ChangeAt Go.RowKit

structure DW (P : Program) (w0 : World) (A : Nat → Prop) (tab : Nat → Option TI) (ops : Array Oper) (H n : Nat) (l : List Oper) (sl : List (Nat × D)) (hp : List Blk) (K : St → Prop) : Prop where
  run : ∃ rs, DRun P w0 A tab ops H l sl hp rs ∧ rs.all (fun r => Nat.blt r.t n) = true ∧ K ⟨n, slotsS rs (fun _ => true) 0 sl, heapS rs (fun _ => true) 0 hp⟩

section
variable {P : Program} {w0 : World} {A : Nat → Prop} {tab : Nat → Option TI} {ops : Array Oper} {H n : Nat} {rest : List Oper} {sl : List (Nat × D)} {hp : List Blk} {K : St → Prop} {Q : Exit → St → Prop}
variable {t : Tmp} {op : Op} {ty : TypeId} {pos : String} {after : Array Edge}

theorem slotsS_ix (rs : List Rec) (i j : Nat) (sl : List (Nat × D)) : slotsS rs (fun _ => true) i sl = slotsS rs (fun _ => true) j sl := by
  induction rs generalizing i j sl with
  | nil => rfl
  | cons r rs ih => simp only [slotsS, if_true]; exact ih _ _ _
theorem heapS_ix (rs : List Rec) (i j : Nat) (hp : List Blk) : heapS rs (fun _ => true) i hp = heapS rs (fun _ => true) j hp := by
  induction rs generalizing i j hp with
  | nil => rfl
  | cons r rs ih => simp only [heapS, if_true]; exact ih _ _ _

theorem W_drawR (hm : P.follows .mixedOrders = true) (hT : TabOk P tab) {l : List Oper} {id : Nat} (hok : drawOk l = true) (h : DW P w0 A tab l.toArray hp.length n l sl hp fun s => Q .normal s) : W P w0 A (.region id l.toArray true) ⟨n, sl, hp⟩ Q := by
  obtain ⟨rs, h1, h2, h3⟩ := h.run
  exact W_draw hm hT hok h1 h2 h3
/-- Operations that may come in whatever order. -/
def isFree : Op → Bool
  | .move _ => true
  | .assign _ => true
  | .pick _ _ _ => true
  | .binOp _ _ _ _ _ => true
  | .unOp _ _ _ => true
  | .extract _ _ => true
  | .makeFunc _ _ _ => true
  | .fieldAddr _ _ _ => true
  | .load _ _ => true
  | .build _ _ => true
  | .index _ _ _ => true
  | .indexAddr _ _ _ => true
  | .convert _ _ _ => true
  | .slice _ _ _ _ _ => true
  | .call c => match c.callee with | .value _ => true | .builtin .len => true | .builtin .min => true | .builtin .max => true | _ => false
  | _ => false
def splitK {α : Type} : List Oper → (List Oper → List Oper → Option α) → Option α
  | [], k => k [] []
  | o :: l, k => match isFree o.op with
    | true => splitK l fun a b => k (o :: a) b
    | false => k [] (o :: l)
theorem splitK_eq {α : Type} : ∀ {l : List Oper} {k : List Oper → List Oper → Option α} {r : α}, splitK l k = some r → ∃ a b, k a b = some r ∧ l = a ++ b
  | [], k, r, h => ⟨[], [], h, rfl⟩
  | o :: l, k, r, h => by
    simp only [splitK] at h
    split at h
    · obtain ⟨a, b, h1, rfl⟩ := splitK_eq h
      exact ⟨o :: a, b, h1, rfl⟩
    · exact ⟨[], o :: l, h, rfl⟩
theorem W_drawTR (hm : P.follows .mixedOrders = true) (hT : TabOk P tab) {l l1 l2 : List Oper} {id : Nat} (hs : splitK l (fun a b => some (a, b)) = some (l1, l2)) (hok : drawOk l1 = true) (hto : tailOk l l1.length = true) (h : DW P w0 A tab l.toArray hp.length n l1 sl hp fun s => WO P w0 A l.toArray l2 s fun s => Q .normal s) :
    W P w0 A (.region id l.toArray true) ⟨n, sl, hp⟩ Q := by
  obtain ⟨a, b, h1, rfl⟩ := splitK_eq hs
  simp only [Option.some.injEq, Prod.mk.injEq] at h1
  obtain ⟨rfl, rfl⟩ := h1
  obtain ⟨rs, h1, h2, h3⟩ := h.run
  exact W_drawT hm hT hok hto h1 h2 h3
theorem D_nil (h : K ⟨n, sl, hp⟩) : DW P w0 A tab ops H n [] sl hp K := ⟨[], .nil, rfl, h⟩
theorem D_step {d : D} {rh : List Blk} (hs : DStep P w0 A tab H sl hp ⟨some t, op, ty, pos, after, none⟩ d rh) (hd : Nat.blt t n = true) (h : DW P w0 A tab ops H n rest ((t, d) :: sl) (hp ++ rh) K) : DW P w0 A tab ops H n (⟨some t, op, ty, pos, after, none⟩ :: rest) sl hp K := by
  obtain ⟨rs, h1, h2, h3⟩ := h.run
  refine ⟨_, .step rfl rfl hs h1, ?_, ?_⟩
  · simp only [List.all_cons, hd, h2, Bool.and_self]
  · simp only [slotsS, heapS, if_true]
    rw [slotsS_ix _ _ 0, heapS_ix _ _ 0]; exact h3
theorem D_pop {c : Prop} {d : D} (h : pop tab hp (evD (look sl)) op = some (c, d)) (hh : (match asksHeap op with | true => op.operands.toList.all fun x => (evD (look sl) x).lt H | false => true) = true) (hd : Nat.blt t n = true) (hc : c) (hk : DW P w0 A tab ops H n rest ((t, d) :: sl) hp K) : DW P w0 A tab ops H n (⟨some t, op, ty, pos, after, none⟩ :: rest) sl hp K :=
  D_step (.pop h hh hc) hd (by rw [List.append_nil]; exact hk)
theorem D_index {t' : TypeId} {x i : Operand} {m : Nat} {xs : List (List D)} {j : Int} {r : List D} {e : TypeId} {agg : Bool} {size bytes : Nat} {zero : List Value} {k' : TK} {agg' : Bool} {bytes' : Nat} {zero' : List Value}
    (hx : evD (look sl) x = .sh m xs) (hi : evD (look sl) i = .lit (.int .i64 j)) (ht : tab t' = some ⟨.sl e, agg, size, bytes, zero⟩) (he : tab e = some ⟨k', agg', m, bytes', zero'⟩) (hd : Nat.blt t n = true) (hrow : RowAt xs j r) (hk : DW P w0 A tab ops H n rest ((t, .sptr r) :: sl) hp K) :
    DW P w0 A tab ops H n (⟨some t, .indexAddr t' x i, ty, pos, after, none⟩ :: rest) sl hp K := D_step (.index hx hi ht he hrow) hd (by rw [List.append_nil]; exact hk)
theorem D_call {f : FuncId} {fo : Operand} {args : Array Operand} {tys : Array TypeId} {ds caps : List D} {d : D} {rh : List Blk} (hf : evD (look sl) fo = .fn f caps) (hds : mapK (evD (look sl)) args.toList (fun l => some (l ++ caps)) = some ds) (hp' : D.plainL ds = true) (hd : Nat.blt t n = true) (hF : Fn P f ds d rh)
    (hk : DW P w0 A tab ops H n rest ((t, d.shift hp.length) :: sl) (hp ++ rh) K) : DW P w0 A tab ops H n (⟨some t, .call ⟨.value fo, args, tys⟩, ty, pos, after, none⟩ :: rest) sl hp K := D_step (.call hf hds hp' hF) hd hk
theorem D_callx {f : FuncId} {fo : Operand} {args : Array Operand} {tys : Array TypeId} {ds caps : List D} {d : D} {rh : List Blk} (hf : evD (look sl) fo = .fn f caps) (hds : mapK (evD (look sl)) args.toList (fun l => argsOK hp ((l ++ caps).map unold) fun l => some l) = some ds) (hd : Nat.blt t n = true) (hF : Fn P f ds d rh) (hno : noRd d = true) (hdeep : rh.all Blk.isDeep = true) (hold : oldOks w0 A (args.toList.map (evD (look sl)) ++ caps))
    (hk : DW P w0 A tab ops H n rest ((t, d.shift hp.length) :: sl) (hp ++ rh) K) : DW P w0 A tab ops H n (⟨some t, .call ⟨.value fo, args, tys⟩, ty, pos, after, none⟩ :: rest) sl hp K := D_step (.callx hf hds hold hF hno hdeep) hd hk
theorem D_on {j : Nat} {want b : Bool} {u : Tmp} (hj : (ops[j]?).bind (·.dst) = some u) (hv : look sl u = .lit (.bool b)) (hb : b = want) (h : DW P w0 A tab ops H n (⟨some t, op, ty, pos, after, none⟩ :: rest) sl hp K) : DW P w0 A tab ops H n (⟨some t, op, ty, pos, after, some (j, want)⟩ :: rest) sl hp K := by
  obtain ⟨rs, h1, h2, h3⟩ := h.run
  subst hb
  cases h1 with
  | step e1 e2 e3 e4 => exact ⟨_, .on e1 rfl hj hv e3 e4, h2, h3⟩
  | on _ e => cases e
  | off _ e => cases e
theorem D_off {j : Nat} {want b : Bool} {u : Tmp} (hj : (ops[j]?).bind (·.dst) = some u) (hv : look sl u = .lit (.bool b)) (hb : b = !want) (hd : Nat.blt t n = true) (h : DW P w0 A tab ops H n rest ((t, .tup []) :: sl) hp K) : DW P w0 A tab ops H n (⟨some t, op, ty, pos, after, some (j, want)⟩ :: rest) sl hp K := by
  obtain ⟨rs, h1, h2, h3⟩ := h.run
  refine ⟨_, .off rfl rfl hj (Or.inl (by rw [hv, hb])) (by rw [List.append_nil]; exact h1), ?_, ?_⟩
  · simp only [List.all_cons, hd, h2, Bool.and_self]
  · simp only [slotsS, heapS, if_true, List.append_nil]
    rw [slotsS_ix _ _ 0, heapS_ix _ _ 0]; exact h3
theorem D_out {j : Nat} {want : Bool} {u : Tmp} (hj : (ops[j]?).bind (·.dst) = some u) (hv : look sl u = .tup []) (hd : Nat.blt t n = true) (h : DW P w0 A tab ops H n rest ((t, .tup []) :: sl) hp K) : DW P w0 A tab ops H n (⟨some t, op, ty, pos, after, some (j, want)⟩ :: rest) sl hp K := by
  obtain ⟨rs, h1, h2, h3⟩ := h.run
  refine ⟨_, .off rfl rfl hj (Or.inr hv) (by rw [List.append_nil]; exact h1), ?_, ?_⟩
  · simp only [List.all_cons, hd, h2, Bool.and_self]
  · simp only [slotsS, heapS, if_true, List.append_nil]
    rw [slotsS_ix _ _ 0, heapS_ix _ _ 0]; exact h3
theorem D_guardT {j : Nat} {b : Bool} {u : Tmp} (hj : (ops[j]?).bind (·.dst) = some u) (hv : look sl u = .lit (.bool b)) (hd : Nat.blt t n = true) (ht : b = true → DW P w0 A tab ops H n (⟨some t, op, ty, pos, after, none⟩ :: rest) sl hp K) (hf : b = false → DW P w0 A tab ops H n rest ((t, .tup []) :: sl) hp K) :
    DW P w0 A tab ops H n (⟨some t, op, ty, pos, after, some (j, true)⟩ :: rest) sl hp K := by
  cases b
  · exact D_off hj hv rfl hd (hf rfl)
  · exact D_on hj hv rfl (ht rfl)
theorem D_guardF {j : Nat} {b : Bool} {u : Tmp} (hj : (ops[j]?).bind (·.dst) = some u) (hv : look sl u = .lit (.bool b)) (hd : Nat.blt t n = true) (ht : b = false → DW P w0 A tab ops H n (⟨some t, op, ty, pos, after, none⟩ :: rest) sl hp K) (hf : b = true → DW P w0 A tab ops H n rest ((t, .tup []) :: sl) hp K) :
    DW P w0 A tab ops H n (⟨some t, op, ty, pos, after, some (j, false)⟩ :: rest) sl hp K := by
  cases b
  · exact D_on hj hv rfl (ht rfl)
  · exact D_off hj hv rfl hd (hf rfl)

theorem not_t {b : Bool} (h : (!b) = true) : b = false := by cases b; rfl; exact Bool.noConfusion h
theorem not_f {b : Bool} (h : (!b) = false) : b = true := by cases b; exact Bool.noConfusion h; rfl

theorem idW {c : Code} {s : St} (h : W P w0 A c s Q) : W P w0 A c s Q := h
theorem idO {l : List Oper} {s : St} (h : WO P w0 A ops l s K) : WO P w0 A ops l s K := h
theorem idD {l : List Oper} (h : DW P w0 A tab ops H n l sl hp K) : DW P w0 A tab ops H n l sl hp K := h
/-- A choice whose test is known. -/
def pickL : D → D → D → Option D
  | .lit (.bool true), a, _ => forceK a some
  | .lit (.bool false), _, b => forceK b some
  | _, _, _ => none
theorem R_pickL (hT : TabOk P tab) {c a b : Operand} {d : D} (hd : pickL (evD (look sl) c) (evD (look sl) a) (evD (look sl) b) = some d) (h : pop tab hp (evD (look sl)) (.pick c a b) = some (True, d)) (ht : Nat.blt t n = true) (hk : WO P w0 A ops rest ⟨n, (t, d) :: sl, hp⟩ K) :
    WO P w0 A ops (⟨some t, .pick c a b, ty, pos, after, none⟩ :: rest) ⟨n, sl, hp⟩ K := R_pop hT h ht trivial hk
theorem D_pickL {c a b : Operand} {d : D} (hd : pickL (evD (look sl) c) (evD (look sl) a) (evD (look sl) b) = some d) (h : pop tab hp (evD (look sl)) (.pick c a b) = some (True, d)) (ht : Nat.blt t n = true) (hk : DW P w0 A tab ops H n rest ((t, d) :: sl) hp K) :
    DW P w0 A tab ops H n (⟨some t, .pick c a b, ty, pos, after, none⟩ :: rest) sl hp K := D_pop h rfl ht trivial hk

/-! ### Ends -/
theorem ret_lit {rs : Array ResultVar} {v v' : Value} {s : St} (h : retD s rs.toList = some (.lit v)) (e : v = v') : RetS rs (.lit v') [] s := ⟨_, [], h, e, trivial, List.nodup_nil⟩
theorem ret_bool' {rs : Array ResultVar} {b b' : Bool} {s : St} (h : retD s rs.toList = some (.lit (.bool b))) (e : b = b') : RetS rs (.lit (.bool b')) [] s := ret_lit h (by rw [e])
theorem ret_int' {rs : Array ResultVar} {k : IntKind} {b b' : Int} {s : St} (h : retD s rs.toList = some (.lit (.int k b))) (e : b = b') : RetS rs (.lit (.int k b')) [] s := ret_lit h (by rw [e])
theorem ret_lit2 {rs : Array ResultVar} {u v u' v' : Value} {s : St} (h : retD s rs.toList = some (.tup [.lit u, .lit v])) (e : u = u') (e' : v = v') : RetS rs (.tup [.lit u', .lit v']) [] s := ⟨_, [], h, ⟨e, e', trivial⟩, trivial, List.nodup_nil⟩
/-- A slice of the call's own. -/
theorem ret_own {rs : Array ResultVar} {i : Nat} {s : St} {t : TypeId} {n : Nat} {xs xs' : List (List D)} {dp : Bool} (h : retD s rs.toList = some (.own i)) (hb : s.heap[i]? = some (.arr t n xs dp)) (e : xs = xs') : RetS rs (.own 0) [.arr t n xs' dp] s :=
  ⟨_, [some i], h, rfl, ⟨by rw [← e]; exact hb, rfl, trivial⟩, by simp⟩
/-- The nil slice, as one of the call's own. -/
theorem ret_nil {rs : Array ResultVar} {s : St} {t : TypeId} {n : Nat} {xs' : List (List D)} {dp : Bool} (h : retD s rs.toList = some .nil) (e : xs' = []) : RetS rs (.own 0) [.arr t n xs' dp] s :=
  ⟨_, [none], h, rfl, ⟨e, trivial⟩, by simp⟩
theorem ret_own_lit {rs : Array ResultVar} {i : Nat} {s : St} {t : TypeId} {n : Nat} {xs xs' : List (List D)} {dp : Bool} {v v' : Value} (h : retD s rs.toList = some (.tup [.own i, .lit v])) (hb : s.heap[i]? = some (.arr t n xs dp)) (e : xs = xs') (e' : v = v') : RetS rs (.tup [.own 0, .lit v']) [.arr t n xs' dp] s :=
  ⟨_, [some i], h, ⟨rfl, e', trivial⟩, ⟨by rw [← e]; exact hb, rfl, trivial⟩, by simp⟩
theorem ret_nil_lit {rs : Array ResultVar} {s : St} {t : TypeId} {n : Nat} {xs' : List (List D)} {dp : Bool} {v v' : Value} (h : retD s rs.toList = some (.tup [.nil, .lit v])) (e : xs' = []) (e' : v = v') : RetS rs (.tup [.own 0, .lit v']) [.arr t n xs' dp] s :=
  ⟨_, [none], h, ⟨rfl, e', trivial⟩, ⟨e, trivial⟩, by simp⟩
/-- A slice that is read alone. -/
theorem ret_sh {rs : Array ResultVar} {s : St} {n : Nat} {xs xs' : List (List D)} (h : retD s rs.toList = some (.sh n xs)) (e : xs = xs') : RetS rs (.sh n xs') [] s := ⟨_, [], h, ⟨rfl, e⟩, trivial, List.nodup_nil⟩
theorem ret_own_sh {rs : Array ResultVar} {i : Nat} {s : St} {t : TypeId} {n : Nat} {xs xs' : List (List D)} {dp : Bool} (h : retD s rs.toList = some (.own i)) (hb : s.heap[i]? = some (.arr t n xs dp)) (e : xs = xs') : RetS rs (.sh n xs') [] s :=
  ⟨_, [], h, ⟨⟨t, dp, by rw [← e]; exact hb⟩, rfl⟩, trivial, List.nodup_nil⟩
theorem ret_nil_sh {rs : Array ResultVar} {s : St} {n : Nat} {xs' : List (List D)} (h : retD s rs.toList = some .nil) (e : xs' = []) : RetS rs (.sh n xs') [] s := ⟨_, [], h, e, trivial, List.nodup_nil⟩

/-! ### What a function is given -/
theorem given_vr {w : World} {A : Nat → Prop} {ds : List D} (h : Given w A ds) {i : Nat} {d : D} (hd : ds[i]? = some d) : ∃ u, VX [] w A d u := by
  obtain ⟨us, h⟩ := h
  obtain ⟨u, _, h2⟩ := h.get hd
  exact ⟨u, h2⟩
theorem given_int {w : World} {A : Nat → Prop} {ds : List D} (h : Given w A ds) {i : Nat} {n : Int} (hd : ds[i]? = some (.lit (.int .i64 n))) : -9223372036854775808 ≤ n ∧ n ≤ 9223372036854775807 := by
  obtain ⟨u, h2⟩ := given_vr h hd
  exact litOk_i64.1 h2.lit_inv.2
theorem given_len {w : World} {A : Nat → Prop} {ds : List D} (h : Given w A ds) {i m : Nat} {xs : List (List D)} (hd : ds[i]? = some (.sh m xs)) : xs.length ≤ 9223372036854775807 := by
  obtain ⟨u, h2⟩ := given_vr h hd
  obtain ⟨bs, h3, _⟩ := h2.sh_inv
  cases h3 with
  | shnil _ _ => simp
  | sh _ h1 h2 _ _ _ => omega
theorem vr_row {w : World} {m : Nat} {xs : List (List D)} {u : Value} {bs : List Nat} (h : VR w (.sh m xs) u bs) {r : List D} (hr : r ∈ xs) : ∃ us bs', VRs w r us bs' := by
  cases h with
  | shnil _ _ => simp at hr
  | sh h1 _ _ _ h2 _ =>
    obtain ⟨i, hi, rfl⟩ := List.getElem_of_mem hr
    obtain ⟨bs', h3, _⟩ := h2.part (i * m) m
    rw [flatten_part h1 (List.getElem?_eq_getElem hi)] at h3
    exact ⟨_, _, h3⟩
theorem given_ints {w : World} {A : Nat → Prop} {ds : List D} (h : Given w A ds) {i : Nat} {l : List Int} (hd : ds[i]? = some (.sh 1 (ints l))) : ∀ x ∈ l, -9223372036854775808 ≤ x ∧ x ≤ 9223372036854775807 := by
  intro x hx
  obtain ⟨u, h2⟩ := given_vr h hd
  obtain ⟨bs, h3, _⟩ := h2.sh_inv
  obtain ⟨us, bs', h4⟩ := vr_row h3 (r := [.lit (.int .i64 x)]) (List.mem_map.2 ⟨x, hx, rfl⟩)
  cases h4 with
  | cons h5 _ => cases h5 with | lit h5 => exact litOk_i64.1 h5
end
end Go.Proofs.Ytidfmgahnmpcdaa
