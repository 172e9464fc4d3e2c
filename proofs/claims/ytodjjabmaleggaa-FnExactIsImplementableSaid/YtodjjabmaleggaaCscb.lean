/- Pairs that violate complete state coding: what the reference's and the program's functions hand back. No condition. -/
import Derived.Test.YtodjjabmaleggaaCsc
set_option linter.unusedSimpArgs false
set_option linter.unusedVariables false
set_option maxHeartbeats 2000000
namespace Go.Proofs.Ytodjjabmaleggaa
open Go.ChangeShapes Go.WideShapes Go.ChangeAt Go.RowKit

section
variable {P : Program} {w0 w w' : World} {A : Nat → Prop} {n : Nat} {sl : List (Nat × D)} {hp : List Blk} {ms mr : List Ent} {a : Act} {i : Nat} {e : Ent}
variable {ops : Array Oper} {rest : List Oper} {K : St → Prop} {dst : Tmp} {ty : TypeId} {pos : String} {after : Array Edge}
/-- A call that is handed an array of the call's own, for good; of all else nothing is told behind it. -/
theorem R_callLast {f : FuncId} {fo x0 : Operand} {args : Array Operand} {xs0 : List Operand} {tys : Array TypeId} {ds caps : List D} {d d2 : D} {rh : List Blk} {T : TypeId} {m : Nat} {xs : List (List D)} (hf : evD (look sl) fo = .fn f caps) (hF : FnM P f (.arr T m xs true) (.own 0 :: ds) d rh)
    (ha : args.toList = x0 :: xs0) (hx : evD (look sl) x0 = .own i) (hb : hp[i]? = some (.arr T m xs true)) (hds : mapK (evD (look sl)) xs0 (fun l => argsFK (hp.set i .gone) (l ++ caps) fun l => some l) = some ds) (hd : Nat.blt dst n = true) (hno : noRd d = true)
    (e1 : d.shift 0 = d2) (hk : WO P w0 A ops rest ⟨n, [(dst, d2)], rh⟩ K) : WO P w0 A ops (⟨some dst, .call ⟨.value fo, args, tys⟩, ty, pos, after, none⟩ :: rest) ⟨n, sl, hp⟩ K := by
  subst e1
  refine ⟨fun ms a w hr Q hq => ?_⟩
  refine wpList_plain rfl fun Kn hKn => ?_
  have hds := mapK_eq hds
  obtain ⟨e, hi, ev, hsl⟩ := (hr.ev_at hx).own_inv
  obtain ⟨cs, e1, hcs⟩ := (hr.ev_at hf).fn_inv
  have hv : VXs ms w (OkB w0.heap.size A ms w) (xs0.map (evD (look sl)) ++ caps) (xs0.map a.eval ++ cs) := (VXs.of_map fun x _ => hr.ev x).append hcs
  obtain ⟨l, h1, h2⟩ := argsFK_av hr hi hv hds
  simp only [Option.some.injEq] at h2
  subst h2
  have hnd : (owned [e]).Nodup := by
    have := owned_self hr.nodup hi
    simpa [owned] using this
  have hrg : ∀ k ∈ owned [e], w0.heap.size ≤ k ∧ k < w.heap.size := fun k hk => hr.range k (ent_owned hi (by simpa [owned] using hk))
  have hE : EntR w0.heap.size [e] w (Av w0 e w) (.arr T m xs true) e := by
    refine (hr.ents i _ e hb hi).mono (fun k hk => ⟨rfl, av_ok hi hk⟩) (fun _ _ => rfl) (fun _ _ => rfl) fun _ _ h _ => by simp [Blk.uses] at h
  have hargs : args.toList.map a.eval ++ cs = e.v :: (xs0.map a.eval ++ cs) := by rw [ha, List.map_cons, List.cons_append, ev]
  refine enter_call (run_call (o := ⟨some dst, .call ⟨.value fo, args, tys⟩, ty, pos, after, none⟩) rfl hF.plain e1) ?_
  rw [hargs]
  refine (hF.calls w0.heap.size w e _ hr.ext.size hnd hrg hE (.cons (.own (i := 0) rfl hsl) h1)).mono ?_
  rintro e' w' ⟨v, mr, rfl, hpost⟩
  have hr' : Rel w0 A mr ⟨n, [], rh⟩ a w' := by
    refine ⟨⟨hpost.os.trans hr.ext.os, hpost.tape.trans hr.ext.tape, hpost.output.trans hr.ext.output, hpost.size, fun k hk => ?_⟩, hr.old, hr.size, hr.defers, hpost.len, hpost.nodup, fun k hk => ⟨(hpost.range k hk).1, (hpost.range k hk).2.1⟩, fun j b x hj hx' => ?_, fun _ => .no⟩
    · rw [hpost.block k (Nat.lt_of_lt_of_le hk hr.ext.size) fun h => by have := (hrg k h).1; omega]
      exact hr.ext.heap hk
    · have hE := hpost.ents j b x hj hx'
      have hab := (List.all_eq_true.1 hF.arrs) b (List.mem_of_getElem? hj)
      have hdb := (List.all_eq_true.1 hF.deep) b (List.mem_of_getElem? hj)
      cases b with
      | gone => simp [Blk.isArr] at hab
      | cells t ds => simp [Blk.isArr] at hab
      | fr n xs => exact hE
      | cust R => exact hE
      | arr t n xs deep =>
        obtain ⟨us, bs, p1, p2, p3, p4, p5⟩ := hE
        refine ⟨us, bs, p1, p2, p3, p4, ?_⟩
        cases deep with
        | true => exact p5
        | false => simp [Blk.isDeep] at hdb
  have hval : VX mr w' (OkB w0.heap.size A mr w') (d.shift 0) v := noRd_ok (fun j x hj => by rw [Nat.zero_add]; exact hj) hpost.val hno
  exact ⟨v, rfl, hKn _ _ (hk.run _ _ w' (Rel.put (t := some dst) hr' hval (dstOk_all (s := ⟨n, _, _⟩) (t := some dst) hd)) Q hq)⟩
end

theorem conflicts_f (c : SGraph) (hg : goodSG c = true) : Fn Try.prog 113 [.agg (dSGraph c)] (.own 0) [.arr 51 1 ((cfL c).map dII) true] := by
  refine Fn_of Try.func113 rfl (by kernel_rfl) rfl rfl ?_
  intro w0 A hin
  have hb := goodSG_len hg
  have hS := sigs_of hg
  have hE := ends_ok hg
  have hlen := ecL_len (c := c) (by omega)
  have hD := DeleteFunc_II_m (ecL c) (fun p => !cfQ c p) 177 [.sh 1 (ints (outL c))] [.sh 1 (ints (mskL c.arcs c.codes.length))] (by omega) fun p hp => conflicts1_f c p (by omega) hS hp
  repeat' (first | refine goZ ?_ | refine R_callZ rfl (labelMasks_f c (by omega) (by omega) hS hE) rfl rfl rfl ?_ | refine R_callZ rfl (outputs_f c (by omega)) rfl rfl rfl ?_ | refine R_callZ rfl (equalCodes_f c (by omega)) rfl rfl rfl ?_ | refine R_callvZ rfl (labelMasks_f c (by omega) (by omega) hS hE) rfl rfl rfl rfl ?_ | refine R_callvZ rfl (outputs_f c (by omega)) rfl rfl rfl rfl ?_ | refine R_callvZ rfl (equalCodes_f c (by omega)) rfl rfl rfl rfl ?_ | refine R_callLast rfl hD rfl rfl rfl rfl rfl rfl rfl ?_ | refine D_callZ rfl (labelMasks_f c (by omega) (by omega) hS hE) rfl rfl rfl ?_ | refine D_callZ rfl (outputs_f c (by omega)) rfl rfl rfl ?_ | refine D_callZ rfl (equalCodes_f c (by omega)) rfl rfl rfl ?_ | ((first | refine R_cond rfl (fun hq => ?_) fun hq => ?_ | refine R_guardT rfl rfl rfl (fun hq => ?_) fun hq => ?_ | refine R_guardF rfl rfl rfl (fun hq => ?_) fun hq => ?_ | refine D_guardT rfl rfl rfl (fun hq => ?_) fun hq => ?_ | refine D_guardF rfl rfl rfl (fun hq => ?_) fun hq => ?_) <;> (try rw [hq]) <;> first | have hp := of_decide_eq_true hq | have hp := of_decide_eq_false hq | have hp := of_decide_eq_false (not_t hq) | have hp := of_decide_eq_true (not_f hq) | have hp := hq))
  exact ret_own rfl rfl (by rw [cfL]; simp only [Bool.not_not])

theorem CSCConflicts_f (c : SGraph) : Fn Try.prog 45 [.agg (dSGraph c)] (.tup [.own 0, .lit (.bool (goodSG c))]) [.arr 51 1 ((cfR c).map dII) true] := by
  refine Fn_of Try.func45 rfl (by kernel_rfl) rfl rfl ?_
  intro w0 A hin
  have hV := IsValidStateGraph_f c
  cases hg : goodSG c <;> rw [hg] at hV
  · repeat' (first | refine goZ ?_ | refine R_callZ rfl (hV) rfl rfl rfl ?_ | refine R_callvZ rfl (hV) rfl rfl rfl rfl ?_ | refine D_callZ rfl (hV) rfl rfl rfl ?_ | ((first | refine R_cond rfl (fun hq => ?_) fun hq => ?_ | refine R_guardT rfl rfl rfl (fun hq => ?_) fun hq => ?_ | refine R_guardF rfl rfl rfl (fun hq => ?_) fun hq => ?_ | refine D_guardT rfl rfl rfl (fun hq => ?_) fun hq => ?_ | refine D_guardF rfl rfl rfl (fun hq => ?_) fun hq => ?_) <;> (try rw [hq]) <;> first | have hp := of_decide_eq_true hq | have hp := of_decide_eq_false hq | have hp := of_decide_eq_false (not_t hq) | have hp := of_decide_eq_true (not_f hq) | have hp := hq))
    exact ret_nil_lit rfl (by simp [cfR, hg]) rfl
  · repeat' (first | refine goZ ?_ | refine R_callZ rfl (hV) rfl rfl rfl ?_ | refine R_callZ rfl (conflicts_f c hg) rfl rfl rfl ?_ | refine R_callvZ rfl (hV) rfl rfl rfl rfl ?_ | refine R_callvZ rfl (conflicts_f c hg) rfl rfl rfl rfl ?_ | refine D_callZ rfl (hV) rfl rfl rfl ?_ | refine D_callZ rfl (conflicts_f c hg) rfl rfl rfl ?_ | ((first | refine R_cond rfl (fun hq => ?_) fun hq => ?_ | refine R_guardT rfl rfl rfl (fun hq => ?_) fun hq => ?_ | refine R_guardF rfl rfl rfl (fun hq => ?_) fun hq => ?_ | refine D_guardT rfl rfl rfl (fun hq => ?_) fun hq => ?_ | refine D_guardF rfl rfl rfl (fun hq => ?_) fun hq => ?_) <;> (try rw [hq]) <;> first | have hp := of_decide_eq_true hq | have hp := of_decide_eq_false hq | have hp := of_decide_eq_false (not_t hq) | have hp := of_decide_eq_true (not_f hq) | have hp := hq))
    exact ret_own_lit rfl rfl (by rw [cfR, hg, if_pos rfl]) rfl

/-! ### The reference -/
def selZ (c : SGraph) (us : List Value) (k : Nat) : List (Value × List Int) := ((us.zip (ecL c)).take k).filter fun y => cfQ c y.2
theorem selZ_step {c : SGraph} {us : List Value} {k : Nat} (hl : us.length = (ecL c).length) (h : k < (ecL c).length) : ((selZ c us (k + 1)).map Prod.fst).map dVal = ((selZ c us k).map Prod.fst).map dVal ++ (if cfQ c (nth (ecL c) k) then [[.lit (nth us k)]] else []) := by
  rw [selZ, take_nth (by simp; omega), List.filter_append, nth_zip h hl, ← selZ]
  cases hq : cfQ c (nth (ecL c) k) <;> simp [hq, dVal]
theorem selZ_len {c : SGraph} {us : List Value} {k : Nat} : (selZ c us k).length ≤ k := by
  refine Nat.le_trans (List.length_filter_le _ _) (by simp; omega)
theorem outS_len (c : SGraph) : (outL c).length ≤ c.signals.length := pickN_len _ _

set_option maxHeartbeats 4000000 in
theorem l6Conflicts_f (c : SGraph) (hg : goodSG c = true) : Fn Try.prog 112 [.agg (dSGraph c)] (.own 0) [.arr 51 1 ((cfL c).map dII) true] := by
  refine Fn_of Try.func112 rfl (by kernel_rfl) rfl rfl ?_
  intro w0 A hin
  refine W_weakR ?_
  have hb := goodSG_len hg
  have hlen := ecL_len (c := c) (by omega)
  have hz := len_dII (ecL c)
  repeat' (first | refine goZ ?_ | refine R_callZ rfl (l6Pairs_f c (by omega)) rfl rfl rfl ?_ | refine R_callvZ rfl (l6Pairs_f c (by omega)) rfl rfl rfl rfl ?_ | refine D_callZ rfl (l6Pairs_f c (by omega)) rfl rfl rfl ?_ | ((first | refine R_cond rfl (fun hq => ?_) fun hq => ?_ | refine R_guardT rfl rfl rfl (fun hq => ?_) fun hq => ?_ | refine R_guardF rfl rfl rfl (fun hq => ?_) fun hq => ?_ | refine D_guardT rfl rfl rfl (fun hq => ?_) fun hq => ?_ | refine D_guardF rfl rfl rfl (fun hq => ?_) fun hq => ?_) <;> (try rw [hq]) <;> first | have hp := of_decide_eq_true hq | have hp := of_decide_eq_false hq | have hp := of_decide_eq_false (not_t hq) | have hp := of_decide_eq_true (not_f hq) | have hp := hq))
  refine W_shallow 1 51 (ecL c) rfl ?_
  intro us hus hsl
  refine W_open 3 51 1 rfl ?_
  refine W_loop (fun k : Nat => ⟨_, [(1, .ptr 0 0), (3, .own 3), (10, .own 1), (11, .lit (.int .i64 (ecL c).length)), (12, .lit (.int .i64 k))], [.cells 69 (dSGraph c), .arr 51 1 (us.map dVal) true, .cust (RowsR us (ecL c)), .arr 51 1 (((selZ c us k).map Prod.fst).map dVal) true]⟩) (fun k => k ≤ (ecL c).length) (fun k => (ecL c).length - k) 0 (Nat.zero_le _) (weakZ []) ?_
  intro k hk
  have hsel := selZ_len (c := c) (us := us) (k := k)
  have hzu := len_vals us
  have hzs : (((selZ c us k).map Prod.fst).map dVal).length = (selZ c us k).length := by simp
  have hin2 : k < (ecL c).length → _ := fun h => ecL_in c (nth (ecL c) k) (nth_mem h)
  have hzp := len_ints (nth (ecL c) k)
  have hzo := len_ints (outL c)
  have hol := outS_len c
  repeat' (first | refine R_assignTag 5 2 k us (ecL c) rfl rfl (by omega) rfl ?_ | refine go1 ?_ | refine R_callZ rfl (l6Owned_f c (by omega)) rfl rfl rfl ?_ | refine R_callvZ rfl (l6Owned_f c (by omega)) rfl rfl rfl rfl ?_ | refine D_callZ rfl (l6Owned_f c (by omega)) rfl rfl rfl ?_ | ((first | refine R_cond rfl (fun hq => ?_) fun hq => ?_ | refine R_guardT rfl rfl rfl (fun hq => ?_) fun hq => ?_ | refine R_guardF rfl rfl rfl (fun hq => ?_) fun hq => ?_ | refine D_guardT rfl rfl rfl (fun hq => ?_) fun hq => ?_ | refine D_guardF rfl rfl rfl (fun hq => ?_) fun hq => ?_) <;> (try rw [hq]) <;> first | have hp := of_decide_eq_true hq | have hp := of_decide_eq_false hq | have hp := of_decide_eq_false (not_t hq) | have hp := of_decide_eq_true (not_f hq) | have hp := hq))
  · have hkl : k < (ecL c).length := by omega
    have hst := selZ_step (c := c) hus hkl
    refine W_loop (fun j : Nat => ⟨_, [(1, .ptr 0 0), (3, .own 3), (5, .tag (nth us k) (.sh 1 (ints (nth (ecL c) k)))), (6, .lit (.bool (((outL c).take j).any (cfP c (nth (ecL c) k))))), (10, .own 1), (11, .lit (.int .i64 (ecL c).length)), (12, .lit (.int .i64 k)), (17, .own 4), (18, .lit (.int .i64 (outL c).length)), (19, .lit (.int .i64 j))], [.cells 69 (dSGraph c), .arr 51 1 (us.map dVal) true, .cust (RowsR us (ecL c)), .arr 51 1 (((selZ c us k).map Prod.fst).map dVal) true, .arr 3 1 (ints (outL c)) true]⟩) (fun j => j ≤ (outL c).length) (fun j => (outL c).length - j) 0 (Nat.zero_le _) (weakZ []) ?_
    intro j hj
    have hs : j < (outL c).length → ((outL c).take (j + 1)).any (cfP c (nth (ecL c) k)) = (((outL c).take j).any (cfP c (nth (ecL c) k)) || cfP c (nth (ecL c) k) (nth (outL c) j)) := fun h => by rw [take_nth h]; simp
    have ht : j = (outL c).length → ((outL c).take j).any (cfP c (nth (ecL c) k)) = cfQ c (nth (ecL c) k) := fun h => by rw [h, List.take_length, cfQ]
    repeat' (first | refine R_moveLit 42 rfl (hsl _ (nth_mem (by omega))) rfl ?_ | refine go1 ?_ | refine R_callZ rfl (l5Excited_f c (nth (nth (ecL c) k) 0) (nth (outL c) j)) rfl rfl rfl ?_ | refine R_callZ rfl (l5Excited_f c (nth (nth (ecL c) k) 1) (nth (outL c) j)) rfl rfl rfl ?_ | refine R_callvZ rfl (l5Excited_f c (nth (nth (ecL c) k) 0) (nth (outL c) j)) rfl rfl rfl rfl ?_ | refine R_callvZ rfl (l5Excited_f c (nth (nth (ecL c) k) 1) (nth (outL c) j)) rfl rfl rfl rfl ?_ | refine D_callZ rfl (l5Excited_f c (nth (nth (ecL c) k) 0) (nth (outL c) j)) rfl rfl rfl ?_ | refine D_callZ rfl (l5Excited_f c (nth (nth (ecL c) k) 1) (nth (outL c) j)) rfl rfl rfl ?_ | ((first | refine R_cond rfl (fun hq => ?_) fun hq => ?_ | refine R_guardT rfl rfl rfl (fun hq => ?_) fun hq => ?_ | refine R_guardF rfl rfl rfl (fun hq => ?_) fun hq => ?_ | refine D_guardT rfl rfl rfl (fun hq => ?_) fun hq => ?_ | refine D_guardF rfl rfl rfl (fun hq => ?_) fun hq => ?_) <;> (try rw [hq]) <;> first | have hp := of_decide_eq_true hq | have hp := of_decide_eq_false hq | have hp := of_decide_eq_false (not_t hq) | have hp := of_decide_eq_true (not_f hq) | have hp := hq))
    · refine ⟨j + 1, by omega, by omega, ?_⟩
      rw [hs (by omega), hp, Bool.false_or]
      exact weakZ _
    · refine ⟨j + 1, by omega, by omega, ?_⟩
      rw [hs (by omega), hp, Bool.true_or]
      exact weakZ _
    · refine ⟨k + 1, by omega, by omega, ?_⟩
      rw [hst, if_pos (by rw [← ht (by omega)]; exact hp)]
      exact weakZ _
    · refine ⟨k + 1, by omega, by omega, ?_⟩
      rw [hst, if_neg (by rw [← ht (by omega), hp]; simp), List.append_nil]
      exact weakZ _
  · have ek : k = (ecL c).length := by omega
    have ez : selZ c us k = (us.zip (ecL c)).filter fun y => cfQ c y.2 := by rw [selZ, List.take_of_length_le (by simp; omega)]
    refine ⟨_, Weak_deep 3 2 51 us (ecL c) ((us.zip (ecL c)).filter fun y => cfQ c y.2) (by omega) ?_ rfl List.filter_sublist rfl, .r (ret_own rfl rfl ?_)⟩
    · exact congrArg (fun x => some (Blk.arr 51 1 x true)) (by rw [ez])
    · rw [zip_filter (q := cfQ c) hus, cfL]

theorem specCSCConflicts_f (c : SGraph) : Fn Try.prog 44 [.agg (dSGraph c)] (.tup [.own 0, .lit (.bool (goodSG c))]) [.arr 51 1 ((cfR c).map dII) true] := by
  refine Fn_of Try.func44 rfl (by kernel_rfl) rfl rfl ?_
  intro w0 A hin
  have hV := l5Good_f c
  cases hg : goodSG c <;> rw [hg] at hV
  · repeat' (first | refine goZ ?_ | refine R_callZ rfl (hV) rfl rfl rfl ?_ | refine R_callvZ rfl (hV) rfl rfl rfl rfl ?_ | refine D_callZ rfl (hV) rfl rfl rfl ?_ | ((first | refine R_cond rfl (fun hq => ?_) fun hq => ?_ | refine R_guardT rfl rfl rfl (fun hq => ?_) fun hq => ?_ | refine R_guardF rfl rfl rfl (fun hq => ?_) fun hq => ?_ | refine D_guardT rfl rfl rfl (fun hq => ?_) fun hq => ?_ | refine D_guardF rfl rfl rfl (fun hq => ?_) fun hq => ?_) <;> (try rw [hq]) <;> first | have hp := of_decide_eq_true hq | have hp := of_decide_eq_false hq | have hp := of_decide_eq_false (not_t hq) | have hp := of_decide_eq_true (not_f hq) | have hp := hq))
    exact ret_nil_lit rfl (by simp [cfR, hg]) rfl
  · repeat' (first | refine goZ ?_ | refine R_callZ rfl (hV) rfl rfl rfl ?_ | refine R_callZ rfl (l6Conflicts_f c hg) rfl rfl rfl ?_ | refine R_callvZ rfl (hV) rfl rfl rfl rfl ?_ | refine R_callvZ rfl (l6Conflicts_f c hg) rfl rfl rfl rfl ?_ | refine D_callZ rfl (hV) rfl rfl rfl ?_ | refine D_callZ rfl (l6Conflicts_f c hg) rfl rfl rfl ?_ | ((first | refine R_cond rfl (fun hq => ?_) fun hq => ?_ | refine R_guardT rfl rfl rfl (fun hq => ?_) fun hq => ?_ | refine R_guardF rfl rfl rfl (fun hq => ?_) fun hq => ?_ | refine D_guardT rfl rfl rfl (fun hq => ?_) fun hq => ?_ | refine D_guardF rfl rfl rfl (fun hq => ?_) fun hq => ?_) <;> (try rw [hq]) <;> first | have hp := of_decide_eq_true hq | have hp := of_decide_eq_false hq | have hp := of_decide_eq_false (not_t hq) | have hp := of_decide_eq_true (not_f hq) | have hp := hq))
    exact ret_own_lit rfl rfl (by rw [cfR, hg, if_pos rfl]) rfl
theorem cfR_two (c : SGraph) : (∀ r ∈ cfR c, r.length = 2) ∧ (cfR c).length ≤ 16000000 := by
  unfold cfR
  split
  · rename_i h
    have hb := goodSG_len h
    have h1 := ecL_len (c := c) (by omega)
    have h2 : (cfL c).length ≤ (ecL c).length := List.length_filter_le _ _
    exact ⟨fun r hr => (ecL_in c r (List.mem_filter.1 hr).1).1, by omega⟩
  · exact ⟨fun r h => (by cases h), by simp⟩
end Go.Proofs.Ytodjjabmaleggaa
