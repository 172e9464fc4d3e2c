/- Symbolic states: a region that draws its order, cut by hand. No condition. Names of transitions: what the reference's and the program's functions hand back. No condition. Functions that read a package-level table whose content is known: contracts under a condition on the world that later worlds keep. No condition. Graphs as text: what the reference's and the program's functions hand back. No condition. Graphs as text: FormatSTG. No condition. -/
import Derived.Test.YtcpjhpjlcgcigaaGreatDoorAbsS
import Derived.Test.YtcpjhpjlcgcigaaGreatDoorUnu
import Derived.Test.YtcpjhpjlcgcigaaGreatDoorLayItoa
import Derived.Lib.ItoaNum
import Derived.Test.YtcpjhpjlcgcigaaGreatDoorAbsY
import Derived.Test.YtcpjhpjlcgcigaaGreatDoorAbsV
set_option linter.unusedSimpArgs false
set_option linter.unusedVariables false
set_option maxHeartbeats 2000000
namespace Go.Proofs.YtcpjhpjlcgcigaaGreatDoor
open Go.ChangeShapes Go.WideShapes Go.ChangeAt Go.RowKit
section
variable {P : Program} {w0 : World} {A : Nat → Prop} {tab : Nat → Option TI} {n : Nat} {sl : List (Nat × D)} {hp : List Blk} {Q : Exit → St → Prop}
def cutK {α : Type} : Nat → List Oper → (List Oper → List Oper → Option α) → Option α
  | 0, l, k => k [] l
  | n + 1, o :: l, k => cutK n l fun a b => k (o :: a) b
  | _ + 1, [], _ => none
theorem cutK_eq {α : Type} : ∀ {n : Nat} {l : List Oper} {k : List Oper → List Oper → Option α} {r : α}, cutK n l k = some r → ∃ a b, k a b = some r ∧ l = a ++ b
  | 0, l, _, _, h => ⟨[], l, h, rfl⟩
  | n + 1, [], _, _, h => by simp [cutK] at h
  | n + 1, o :: l, k, r, h => by
    obtain ⟨a, b, h1, rfl⟩ := cutK_eq (n := n) (l := l) (k := fun a b => k (o :: a) b) h
    exact ⟨o :: a, b, h1, rfl⟩
theorem W_drawAt (c : Nat) (hm : P.follows .mixedOrders = true) (hT : TabOk P tab) {l l1 l2 : List Oper} {id : Nat} (hs : cutK c l (fun a b => some (a, b)) = some (l1, l2)) (hok : drawOk l1 = true) (hto : tailOk l l1.length = true) (h : DW P w0 A tab l.toArray hp.length n l1 sl hp fun s => WO P w0 A l.toArray l2 s fun s => Q .normal s) :
    W P w0 A (.region id l.toArray true) ⟨n, sl, hp⟩ Q := by
  obtain ⟨a, b, h1, rfl⟩ := cutK_eq hs
  simp only [Option.some.injEq, Prod.mk.injEq] at h1
  obtain ⟨rfl, rfl⟩ := h1
  obtain ⟨rs, h1, h2, h3⟩ := h.run
  exact W_drawT hm hT hok hto h1 h2 h3
end
end Go.Proofs.YtcpjhpjlcgcigaaGreatDoor
namespace Go.Proofs.YtcpjhpjlcgcigaaGreatDoor
open Go.ChangeShapes Go.WideShapes Go.ChangeAt Go.RowKit

/-! ### Numbers as text -/
def numL (i : Nat) : List UInt8 := if i < 10 then [UInt8.ofNat (48 + i)] else [UInt8.ofNat (48 + i / 10), UInt8.ofNat (48 + i % 10)]
def numB (i : Nat) : ByteArray := ⟨(numL i).toArray⟩
theorem decDigits_num {i : Nat} (h : i < 100) : Go.Lib.decDigits i = numL i := by
  unfold Go.Lib.decDigits numL
  by_cases h1 : i < 10
  · rw [dif_pos h1, if_pos h1]
  · rw [dif_neg h1, if_neg h1]
    unfold Go.Lib.decDigits
    rw [dif_pos (by omega)]; rfl
theorem numB_size (i : Nat) : (numB i).size ≤ 2 := by
  unfold numB numL
  split <;> simp [ByteArray.size]
theorem Itoa_f (i : Nat) (hi : i < 100) : Fn Tryz.prog 71 [.lit (.int .i64 i)] (.lit (.string (numB i))) [] := by
  refine Fn.of_lit (show litOk (.string (numB i)) from by have := numB_size i; show (numB i).size ≤ 9223372036854775807; omega) (plain_of Tryz.func71 (by kernel_rfl) (by kernel_rfl)) fun w us hus => ?_
  cases hus with
  | cons h1 h2 =>
    cases h2
    obtain ⟨rfl, _⟩ := h1.lit_inv
    refine (Go.Proofs.Any.strconv_Itoa_small layItoa i hi w).mono ?_
    rintro e w' ⟨rfl, rfl⟩
    exact ⟨by rw [decDigits_num hi]; rfl, Ext.refl _⟩
section
variable {P : Program} {tab : Nat → Option TI} {w0 : World} {A : Nat → Prop} {n : Nat} {sl : List (Nat × D)} {hp : List Blk} {ops : Array Oper} {rest : List Oper} {K : St → Prop} {dst : Tmp} {ty : TypeId} {pos : String} {after : Array Edge}
/-- A slice of one byte that is written out, as text. -/
theorem R_byteStr (hT : TabOk P tab) {x : Operand} {i : Nat} {b : Int} {T t s e : TypeId} {dp agg agg' agg'' : Bool} {size size' size'' bytes bytes' bytes'' : Nat} {zero zero' zero'' : List Value} (hx : evD (look sl) x = .own i) (hb : hp[i]? = some (.arr T 1 [[.lit (.int .u8 b)]] dp))
    (hs : tab s = some ⟨.sl e, agg, size, bytes, zero⟩) (he : tab e = some ⟨.int .u8, agg', size', bytes', zero'⟩) (ht : tab t = some ⟨.str, agg'', size'', bytes'', zero''⟩) (hd : Nat.blt dst n = true)
    (hK : WO P w0 A ops rest ⟨n, (dst, .lit (.string ⟨#[UInt8.ofNat b.toNat]⟩)) :: sl, hp⟩ K) : WO P w0 A ops (⟨some dst, .convert s t x, ty, pos, after, none⟩ :: rest) ⟨n, sl, hp⟩ K := by
  refine ⟨fun ms a w hr Q hq => ?_⟩
  refine wpList_plain rfl fun Kn hKn => ?_
  obtain ⟨ek, hik, e2, _⟩ := (hr.ev_at hx).own_inv
  obtain ⟨us, bs, o1, o2, o3, o4, o5⟩ := hr.ents i _ ek hb hik
  obtain rfl : us = [.int .u8 b] := by
    cases o3 with
    | cons h1 h2 =>
      cases h2
      cases h1
      rfl
  obtain ⟨inf, td, z, q1, q2, q3, q4, q5, q6, _⟩ := hT.get hs
  obtain ⟨inf', td', z', g1, g2, g3, g4, g5, g6, _⟩ := hT.get he
  obtain ⟨inf'', td'', z'', k1, k2, k3, k4, k5, k6, _⟩ := hT.get ht
  have htd := TK.sl_inv q4
  subst htd
  have htd' := TK.int_inv g4
  subst htd'
  have htd'' := TK.str_inv k4
  subst htd''
  obtain ⟨hl, ⟨hv, h0⟩ | ⟨g, cap, cur, hv, hg, hh1, c1, c2, c3, c4⟩⟩ := o1
  · simp at h0
  have hcell : w.cell? ⟨g, 0, none⟩ = some (.int .u8 b) := by
    have : cur.toList[0]? = some (.int .u8 b) := by
      have h1 : (cur.toList.take (1 * 1))[0]? = some (.int .u8 b) := by
        have c4' : cur.toList.take (1 * 1) = [.int .u8 b] := c4
        rw [c4']; rfl
      rw [List.getElem?_take] at h1
      simpa using h1
    simp [World.cell?, hh1]
    simpa using this
  have hrun0 : (convert s t ek.v).run P w = .ok (.string ⟨#[UInt8.ofNat b.toNat]⟩) w := by
    rw [hv]
    show (convert s t (.slice (some ⟨g, 0, none⟩) 1 cap)).run P w = _
    rw [run_convert_bytes_string _ _ _ e _ _ _ q2 g2 k2, run_bytesToString (ns := [b])]
    · rfl
    · simp [go_sem, hcell]
  have hrun : (execOp a.eval ⟨some dst, .convert s t x, ty, pos, after, none⟩).run P w = .ok (.value (.string ⟨#[UInt8.ofNat b.toNat]⟩)) w := by
    simp only [execOp, e2, Sem.run_bind, hrun0, Result.andThen]; rfl
  exact upon_value hrun (hKn _ _ (hK.run ms _ w (Rel.put (t := some dst) hr (VX.of_lit (show litOk (.string ⟨#[UInt8.ofNat b.toNat]⟩) from by show (1 : Nat) ≤ 9223372036854775807; omega)) (dstOk_all (s := ⟨n, _, _⟩) (t := some dst) hd)) Q hq))
end
theorem numB_snoc {i : Nat} (h : ¬ i < 10) (h2 : i < 100) : numB (i / 10) ++ ⟨#[UInt8.ofNat (48 + i % 10)]⟩ = numB i := by
  unfold numB numL
  rw [if_pos (show i / 10 < 10 by omega), if_neg h]; rfl
theorem l1Num_one (i : Nat) (hi : i < 10) : Fn Tryz.prog 59 [.lit (.int .i64 i)] (.lit (.string (numB i))) [] := by
  refine Fn_of Tryz.func59 rfl (by kernel_rfl) rfl rfl ?_
  intro w0 A hin
  have e48 : (48 + (i : Int)).toNat = 48 + i := by omega
  have hw : IntKind.u8.wrap (48 + (i : Int)) = 48 + (i : Int) := wrap_u8 (by omega)
  repeat' (first | refine goZ ?_ | refine R_byteStr tabOk rfl rfl rfl rfl rfl rfl ?_ | ((first | refine R_cond rfl (fun hq => ?_) fun hq => ?_ | refine R_guardT rfl rfl rfl (fun hq => ?_) fun hq => ?_ | refine R_guardF rfl rfl rfl (fun hq => ?_) fun hq => ?_ | refine D_guardT rfl rfl rfl (fun hq => ?_) fun hq => ?_ | refine D_guardF rfl rfl rfl (fun hq => ?_) fun hq => ?_) <;> (try rw [hq]) <;> first | have hp := of_decide_eq_true hq | have hp := of_decide_eq_false hq | have hp := of_decide_eq_false (not_t hq) | have hp := of_decide_eq_true (not_f hq) | have hp := hq))
  all_goals first
    | (exfalso; omega)
    | exact ret_lit rfl (by rw [numB, numL, if_pos hi, e48])
theorem l1Num_f (i : Nat) (hi : i < 100) : Fn Tryz.prog 59 [.lit (.int .i64 i)] (.lit (.string (numB i))) [] := by
  by_cases h1 : i < 10
  · exact l1Num_one i h1
  refine Fn_of Tryz.func59 rfl (by kernel_rfl) rfl rfl ?_
  intro w0 A hin
  have hN := l1Num_one (i / 10) (by omega)
  have hs := numB_size (i / 10)
  have hq10 : (i : Int).tdiv 10 = ((i / 10 : Nat) : Int) := rfl
  have hr10 : (i : Int).tmod 10 = ((i % 10 : Nat) : Int) := rfl
  have hi0 : ¬ ((i : Int) < 10) := by omega
  have hw : IntKind.u8.wrap (48 + (i : Int) % 10) = 48 + (i : Int) % 10 := wrap_u8 (by omega)
  have e1b : (⟨#[UInt8.ofNat (48 + (i : Int) % 10).toNat]⟩ : ByteArray).size = 1 := rfl
  have e48 : (48 + (i : Int) % 10).toNat = 48 + i % 10 := by omega
  have hm10 : i % 10 < 10 := Nat.mod_lt _ (by omega)
  repeat' (first | refine goZ ?_ | refine goH ?_ | refine H_two (by exact rfl) (by exact rfl) (by exact rfl) (by exact rfl) (by exact rfl) ?_ ?_ | refine H_three (by exact rfl) (by exact rfl) (by exact rfl) (by exact rfl) (by exact rfl) (by exact rfl) (by exact rfl) ?_ ?_ ?_  | refine R_callZ rfl (hN) rfl rfl rfl ?_ | refine R_callvZ rfl (hN) rfl rfl rfl rfl ?_ | refine R_byteStr tabOk rfl rfl rfl rfl rfl rfl ?_ | refine D_callZ rfl (hN) rfl rfl rfl ?_ | ((first | refine R_cond rfl (fun hq => ?_) fun hq => ?_ | refine R_guardT rfl rfl rfl (fun hq => ?_) fun hq => ?_ | refine R_guardF rfl rfl rfl (fun hq => ?_) fun hq => ?_ | refine D_guardT rfl rfl rfl (fun hq => ?_) fun hq => ?_ | refine D_guardF rfl rfl rfl (fun hq => ?_) fun hq => ?_) <;> (try rw [hq]) <;> first | have hp := of_decide_eq_true hq | have hp := of_decide_eq_false hq | have hp := of_decide_eq_false (not_t hq) | have hp := of_decide_eq_true (not_f hq) | have hp := hq) | refine W_held mixed [] ?_)
  all_goals first
    | (exfalso; omega)
    | exact ret_lit rfl (by rw [e48, numB_snoc h1 hi])

def wordB (ss : List Sig) (sig : Int) (up : Bool) : ByteArray := if sig < 0 then ⟨#[126]⟩ else if up then (nth ss sig.toNat).name ++ ⟨#[43]⟩ else (nth ss sig.toNat).name ++ ⟨#[45]⟩
structure WordOk (ss : List Sig) (sig : Int) : Prop where
  lt : sig < ss.length
  nm : ∀ s ∈ ss, s.name.size ≤ 6
theorem wordB_size {ss : List Sig} {sig : Int} (h : WordOk ss sig) (up : Bool) : (wordB ss sig up).size ≤ 7 := by
  unfold wordB
  split
  · decide
  · have := h.nm _ (nth_mem (show sig.toNat < ss.length by have := h.lt; omega))
    have e1 : (⟨#[43]⟩ : ByteArray).size = 1 := rfl
    have e2 : (⟨#[45]⟩ : ByteArray).size = 1 := rfl
    split <;> rw [ByteArray.size_append] <;> omega
theorem edgeText_f (ss : List Sig) (l : Lab) (h : WordOk ss l.sig) : Fn Tryz.prog 45 [.sh 2 (ss.map dSig), .agg (dLab l)] (.lit (.string (wordB ss l.sig l.up))) [] := by
  refine Fn_of Tryz.func45 rfl (by kernel_rfl) rfl rfl ?_
  intro w0 A hin
  have hz := len_dSig ss
  have hlt := h.lt
  have hs : 0 ≤ l.sig → (nth ss l.sig.toNat).name.size ≤ 6 := fun h0 => h.nm _ (nth_mem (by omega))
  have e1 : (⟨#[43]⟩ : ByteArray).size = 1 := rfl
  have e2 : (⟨#[45]⟩ : ByteArray).size = 1 := rfl
  cases hu : l.up
  · repeat' (first | refine goZ ?_ | ((first | refine R_cond rfl (fun hq => ?_) fun hq => ?_ | refine R_guardT rfl rfl rfl (fun hq => ?_) fun hq => ?_ | refine R_guardF rfl rfl rfl (fun hq => ?_) fun hq => ?_ | refine D_guardT rfl rfl rfl (fun hq => ?_) fun hq => ?_ | refine D_guardF rfl rfl rfl (fun hq => ?_) fun hq => ?_) <;> (try rw [hq]) <;> first | have hp := of_decide_eq_true hq | have hp := of_decide_eq_false hq | have hp := of_decide_eq_false (not_t hq) | have hp := of_decide_eq_true (not_f hq) | have hp := hq))
    · exact ret_lit rfl (by rw [wordB, if_pos hp])
    · exact ret_lit rfl (by rw [wordB, if_neg hp, if_neg (by simp)])
  · repeat' (first | refine goZ ?_ | ((first | refine R_cond rfl (fun hq => ?_) fun hq => ?_ | refine R_guardT rfl rfl rfl (fun hq => ?_) fun hq => ?_ | refine R_guardF rfl rfl rfl (fun hq => ?_) fun hq => ?_ | refine D_guardT rfl rfl rfl (fun hq => ?_) fun hq => ?_ | refine D_guardF rfl rfl rfl (fun hq => ?_) fun hq => ?_) <;> (try rw [hq]) <;> first | have hp := of_decide_eq_true hq | have hp := of_decide_eq_false hq | have hp := of_decide_eq_false (not_t hq) | have hp := of_decide_eq_true (not_f hq) | have hp := hq))
    · exact ret_lit rfl (by rw [wordB, if_pos hp])
    · exact ret_lit rfl (by rw [wordB, if_neg hp, if_pos rfl])
theorem l2Word_f (s : Stg) (l : Lab) (h : WordOk s.signals l.sig) : Fn Tryz.prog 35 [.agg (dStg s), .agg (dLab l)] (.lit (.string (wordB s.signals l.sig l.up))) [] := by
  refine Fn_of Tryz.func35 rfl (by kernel_rfl) rfl rfl ?_
  intro w0 A hin
  have hz := len_dSig s.signals
  have hlt := h.lt
  have hs : 0 ≤ l.sig → (nth s.signals l.sig.toNat).name.size ≤ 6 := fun h0 => h.nm _ (nth_mem (by omega))
  have e1 : (⟨#[43]⟩ : ByteArray).size = 1 := rfl
  have e2 : (⟨#[45]⟩ : ByteArray).size = 1 := rfl
  cases hu : l.up
  · repeat' (first | refine goZ ?_ | ((first | refine R_cond rfl (fun hq => ?_) fun hq => ?_ | refine R_guardT rfl rfl rfl (fun hq => ?_) fun hq => ?_ | refine R_guardF rfl rfl rfl (fun hq => ?_) fun hq => ?_ | refine D_guardT rfl rfl rfl (fun hq => ?_) fun hq => ?_ | refine D_guardF rfl rfl rfl (fun hq => ?_) fun hq => ?_) <;> (try rw [hq]) <;> first | have hp := of_decide_eq_true hq | have hp := of_decide_eq_false hq | have hp := of_decide_eq_false (not_t hq) | have hp := of_decide_eq_true (not_f hq) | have hp := hq))
    · exact ret_lit rfl (by rw [wordB, if_pos hp])
    · exact ret_lit rfl (by rw [wordB, if_neg hp, if_neg (by simp)])
  · repeat' (first | refine goZ ?_ | ((first | refine R_cond rfl (fun hq => ?_) fun hq => ?_ | refine R_guardT rfl rfl rfl (fun hq => ?_) fun hq => ?_ | refine R_guardF rfl rfl rfl (fun hq => ?_) fun hq => ?_ | refine D_guardT rfl rfl rfl (fun hq => ?_) fun hq => ?_ | refine D_guardF rfl rfl rfl (fun hq => ?_) fun hq => ?_) <;> (try rw [hq]) <;> first | have hp := of_decide_eq_true hq | have hp := of_decide_eq_false hq | have hp := of_decide_eq_false (not_t hq) | have hp := of_decide_eq_true (not_f hq) | have hp := hq))
    · exact ret_lit rfl (by rw [wordB, if_pos hp])
    · exact ret_lit rfl (by rw [wordB, if_neg hp, if_pos rfl])
theorem wordOk_of {s : Stg} (hg : goodStg s = true) (t : Nat) (ht : t < s.labels.length) : WordOk s.signals (nth s.labels t).sig := by
  have h := hg
  simp only [goodStg, sigsB, Bool.and_eq_true, decide_eq_true_eq] at h
  obtain ⟨_, ⟨h2, h3⟩, _, h4⟩ := h
  have hl := List.all_eq_true.1 h4 _ (nth_mem ht)
  refine ⟨?_, fun x hx => ?_⟩
  · simp only [labB, Bool.or_eq_true, Bool.and_eq_true, decide_eq_true_eq] at hl; omega
  · obtain ⟨j, hj, rfl⟩ := List.getElem_of_mem hx
    have := (h2 j hj).1
    rw [nth_get hj] at this
    simp only [sigOk, nameB, Bool.and_eq_true, decide_eq_true_eq] at this
    omega

end Go.Proofs.YtcpjhpjlcgcigaaGreatDoor
namespace Go.Proofs.YtcpjhpjlcgcigaaGreatDoor
open Go.ChangeShapes Go.WideShapes Go.ChangeAt Go.RowKit

/-- As Fn, in worlds that meet X. -/
structure FnG (X : World → Prop) (P : Program) (f : FuncId) (ds : List D) (d : D) (rh : List Blk) : Prop where
  plain : ∀ args w, (callFunc f args).run P w = .ok (.enter f args) w
  arrs : rh.all Blk.isArr = true
  calls : ∀ (A : Nat → Prop) (w : World) (us : List Value), X w → (∀ k, A k → k < w.heap.size) → VXs [] w A ds us → Calls P f us.toArray w fun e w' => ∃ v ms, e = .returned v ∧ Post w A d rh ms v w'
section
variable {P : Program} {X : World → Prop}
theorem FnG_of {f : FuncId} {fn : Func} {c : Code} {ds : List D} {d : D} {rh : List Blk} (hf : P.funcs[f]? = some fn) (hb : fn.body = some c) (hname : (fn.name == "runtime.NumGoroutine") = false) (hn : Nat.ble ds.length fn.ntmps = true) (hrh : rh.all Blk.isArr = true)
    (h : ∀ w0 A, X w0 → Given w0 A ds → W P w0 A c ⟨fn.ntmps, argSlots 0 ds, []⟩ (retQ fn.results d rh)) : FnG X P f ds d rh := by
  refine ⟨?_, hrh, ?_⟩
  · intro args w
    have h1 : ¬ fn.name = "runtime.NumGoroutine" := by simpa using hname
    have h2 : ¬ fn.body = none := by rw [hb]; simp
    simp [callFunc, program, Sem.run, go_sem, hf, h1, h2]
  · intro A w us hX hA hus
    have hl := hus.len
    have hn' : ds.length ≤ fn.ntmps := Nat.le_of_ble_eq_true hn
    refine calls_of_wp hf hb (Code.wp_mono ?_ ((h w A hX ⟨us, hus⟩).run [] { tmps := us.toArray ++ Array.replicate (fn.ntmps - us.toArray.size) undef, defers := [] } w ?_))
    · rintro e a' w' ⟨ms, s, hr, hq⟩
      have key : RetS fn.results d rh s → a'.defers = [] ∧ ∃ v, (results fn a'.tmps).run P w' = .ok v w' ∧ ∃ v' ms, Ending.returned v = .returned v' ∧ Post w A d rh ms v' w' := by
        rintro ⟨dd, js, h1, h2, h3, h4⟩
        obtain ⟨v, h5, h6⟩ := results_ok (P := P) h1 hr
        exact ⟨hr.defers, v, h5, v, _, rfl, hr.post h3 h4 h6 h2⟩
      cases hq with
      | r h => exact key h
      | n h => exact key h
    · refine ⟨Ext.refl _, hA, by simp; omega, rfl, rfl, by simp [owned], by simp [owned], by simp, fun t => ?_⟩
      refine look_arg (List.replicate (fn.ntmps - us.length) undef) (VXs.mono (ms' := []) (w' := w) (Ok' := OkB w.heap.size A [] w) (fun k hk => ⟨rfl, hA k hk, Or.inr hk, by simp [tops]⟩) hus fun _ _ _ h => h) 0 t _ fun _ => ?_
      have e : (us.toArray ++ Array.replicate (fn.ntmps - us.toArray.size) undef) = (us ++ List.replicate (fn.ntmps - us.length) undef).toArray := by
        rw [← List.append_toArray, List.size_toArray, List.toArray_replicate]
      rw [e]; simp [Array.getD_eq_getD_getElem?, List.getD_eq_getElem?_getD]
theorem FnG_old {f : FuncId} {fn : Func} {c : Code} {ds : List D} {d : D} {rh : List Blk} (hf : P.funcs[f]? = some fn) (hb : fn.body = some c) (hname : (fn.name == "runtime.NumGoroutine") = false) (hn : Nat.ble ds.length fn.ntmps = true) (hrh : rh.all Blk.isArr = true)
    (h : ∀ w0 A, X w0 → Given w0 A ds → W P w0 A c ⟨fn.ntmps, argSlots 0 (ds.map (oldA w0 A)), []⟩ (retQ fn.results d rh)) : FnG X P f ds d rh := by
  refine ⟨?_, hrh, ?_⟩
  · intro args w
    have h1 : ¬ fn.name = "runtime.NumGoroutine" := by simpa using hname
    have h2 : ¬ fn.body = none := by rw [hb]; simp
    simp [callFunc, program, Sem.run, go_sem, hf, h1, h2]
  · intro A w us hX hA hus
    have hl := hus.len
    have hn' : ds.length ≤ fn.ntmps := Nat.le_of_ble_eq_true hn
    refine calls_of_wp hf hb (Code.wp_mono ?_ ((h w A hX ⟨us, hus⟩).run [] { tmps := us.toArray ++ Array.replicate (fn.ntmps - us.toArray.size) undef, defers := [] } w ?_))
    · rintro e a' w' ⟨ms, s, hr, hq⟩
      have key : RetS fn.results d rh s → a'.defers = [] ∧ ∃ v, (results fn a'.tmps).run P w' = .ok v w' ∧ ∃ v' ms, Ending.returned v = .returned v' ∧ Post w A d rh ms v' w' := by
        rintro ⟨dd, js, h1, h2, h3, h4⟩
        obtain ⟨v, h5, h6⟩ := results_ok (P := P) h1 hr
        exact ⟨hr.defers, v, h5, v, _, rfl, hr.post h3 h4 h6 h2⟩
      cases hq with
      | r h => exact key h
      | n h => exact key h
    · refine ⟨Ext.refl _, hA, by simp; omega, rfl, rfl, by simp [owned], by simp [owned], by simp, fun t => ?_⟩
      refine look_arg (List.replicate (fn.ntmps - us.length) undef) (VXs.mono (ms' := []) (w' := w) (Ok' := OkB w.heap.size A [] w) (fun k hk => ⟨rfl, hA k hk, Or.inr hk, by simp [tops]⟩) (oldAL_ok hus) fun _ _ _ h => h) 0 t _ fun _ => ?_
      have e : (us.toArray ++ Array.replicate (fn.ntmps - us.toArray.size) undef) = (us ++ List.replicate (fn.ntmps - us.length) undef).toArray := by
        rw [← List.append_toArray, List.size_toArray, List.toArray_replicate]
      rw [e]; simp [Array.getD_eq_getD_getElem?, List.getD_eq_getElem?_getD]
theorem FnG.lit {w : World} {fid : FuncId} {ds : List D} {v : Value} (hF : FnG X P fid ds (.lit v) []) (hX : X w) {us : List Value} (hv : VXs [] w (Lt w) ds us) : Calls P fid us.toArray w fun e w' => e = .returned v ∧ Ext w w' :=
  (hF.calls (Lt w) w us hX (fun _ h => h) hv).mono fun e w' ⟨u, ms, he, hp⟩ => ⟨by rw [he]; congr 1; exact hp.val.lit_inv.1, hp.ext⟩
end
section
variable {P : Program} {X : World → Prop} {w0 : World} {A : Nat → Prop} {s : St} {ops : Array Oper} {o : Oper} {rest : List Oper} {K : St → Prop}
theorem WO_callG {f : FuncId} {fo : Operand} {args : Array Operand} {tys : Array TypeId} {ds caps : List D} {d : D} {rh : List Blk} (hg : o.guard = none) (ho : o.op = .call ⟨.value fo, args, tys⟩) (hf : evD s.get fo = .fn f caps)
    (hds : mapK (evD s.get) args.toList (fun l => some (l ++ caps)) = some ds) (hp : D.plainL ds = true) (hd : dstOk s o.dst = true) (hF : FnG X P f ds d rh) (hX : ∀ w, Ext w0 w → X w)
    (hk : WO P w0 A ops rest (St.put ⟨s.n, s.slots, s.heap ++ rh⟩ o.dst (d.shift s.heap.length)) K) : WO P w0 A ops (o :: rest) s K := by
  refine ⟨fun ms a w hr Q hq => ?_⟩
  refine wpList_plain hg fun Kn hKn => ?_
  obtain ⟨cs, e1, hcs⟩ := (hr.ev_at hf).fn_inv
  have hds := mapK_eq hds
  simp only [Option.some.injEq] at hds
  subst hds
  have hv : VXs ms w (OkB w0.heap.size A ms w) (args.toList.map (evD s.get) ++ caps) (args.toList.map a.eval ++ cs) := (VXs.of_map fun x _ => hr.ev x).append hcs
  refine enter_call (run_call ho hF.plain e1) ((hF.calls (OkB w0.heap.size A ms w) w _ (hX w hr.ext) (fun k hk => hk.1) (hv.plain hp fun _ h => h)).mono ?_)
  rintro e w' ⟨v, mr, rfl, hpost⟩
  refine ⟨v, rfl, hKn _ _ (hk.run _ _ w' (Rel.put (hr.called hF.arrs (Or.inl fun _ h => h) hpost) (hr.called_val (fun _ h => h) hpost) (dstOk_all hd)) Q hq)⟩

end
section
variable {P : Program} {X : World → Prop} {w0 : World} {A : Nat → Prop} {n : Nat} {sl : List (Nat × D)} {hp : List Blk}
theorem R_callxG {ops : Array Oper} {rest : List Oper} {K : St → Prop} {dst : Tmp} {ty : TypeId} {pos : String} {after : Array Edge} {f : FuncId} {fo : Operand} {args : Array Operand} {tys : Array TypeId} {ds caps : List D} {d : D} {rh : List Blk} (hf : evD (look sl) fo = .fn f caps)
    (hds : mapK (evD (look sl)) args.toList (fun l => argsFK hp ((l ++ caps).map unold) fun l => some l) = some ds) (hd : Nat.blt dst n = true) (hF : FnG X P f ds d rh) (hX : ∀ w, Ext w0 w → X w) (hno : noRd d = true) (hdeep : rh.all Blk.isDeep = true) (hold : oldOks w0 A (args.toList.map (evD (look sl)) ++ caps))
    (hk : WO P w0 A ops rest ⟨n, (dst, d.shift hp.length) :: sl, hp ++ rh⟩ K) : WO P w0 A ops (⟨some dst, .call ⟨.value fo, args, tys⟩, ty, pos, after, none⟩ :: rest) ⟨n, sl, hp⟩ K := by
  refine ⟨fun ms a w hr Q hq => ?_⟩
  refine wpList_plain rfl fun Kn hKn => ?_
  obtain ⟨cs, e1, hcs⟩ := (hr.ev_at hf).fn_inv
  have hds := mapK_eq hds
  have hv : VXs ms w (OkB w0.heap.size A ms w) (args.toList.map (evD (look sl)) ++ caps) (args.toList.map a.eval ++ cs) := (VXs.of_map fun x _ => hr.ev x).append hcs
  obtain ⟨l, h1, h2⟩ := argsFK_ok hr (unolds_ok hr hv hold) hds
  simp only [Option.some.injEq] at h2
  subst h2
  refine enter_call (run_call (o := ⟨some dst, .call ⟨.value fo, args, tys⟩, ty, pos, after, none⟩) rfl hF.plain e1) ((hF.calls (Lt w) w _ (hX w hr.ext) (fun k hk => hk) h1).mono ?_)
  rintro e w' ⟨v, mr, rfl, hpost⟩
  have hr' := hr.called hF.arrs (Or.inr hdeep) hpost
  have hlen := hr.len
  simp only at hlen
  have hval : VX (ms ++ mr) w' (OkB w0.heap.size A (ms ++ mr) w') (d.shift hp.length) v := noRd_ok (fun i e he => by rw [List.getElem?_append_right (by omega), hlen, Nat.add_sub_cancel_left]; exact he) hpost.val hno
  exact ⟨v, rfl, hKn _ _ (hk.run _ _ w' (Rel.put (t := some dst) hr' hval (dstOk_all (s := ⟨n, _, _⟩) (t := some dst) hd)) Q hq)⟩
variable {ops : Array Oper} {rest : List Oper} {K : St → Prop} {dst : Tmp} {ty : TypeId} {pos : String} {after : Array Edge}
theorem R_callG {f : FuncId} {fo : Operand} {args : Array Operand} {tys : Array TypeId} {ds caps : List D} {d d2 : D} {rh hp2 : List Blk} (hX : ∀ w, Ext w0 w → X w) (hf : evD (look sl) fo = .fn f caps) (hF : FnG X P f ds d rh)
    (hds : mapK (evD (look sl)) args.toList (fun l => some (l ++ caps)) = some ds) (hp' : D.plainL ds = true) (hd : Nat.blt dst n = true)
    (hk : WO P w0 A ops rest ⟨n, (dst, d2) :: sl, hp2⟩ K) (e1 : d.shift hp.length = d2 := by first | (dsimp only [D.shift, D.shiftL, List.cons_append, List.nil_append, List.append_nil, List.length_cons, List.length_nil, Nat.reduceAdd]; done) | exact rfl) (e2 : hp ++ rh = hp2 := by first | (dsimp only [D.shift, D.shiftL, List.cons_append, List.nil_append, List.append_nil, List.length_cons, List.length_nil, Nat.reduceAdd]; done) | exact rfl) : WO P w0 A ops (⟨some dst, .call ⟨.value fo, args, tys⟩, ty, pos, after, none⟩ :: rest) ⟨n, sl, hp⟩ K := by
  subst e1; subst e2; exact WO_callG rfl rfl hf hds hp' hd hF hX hk
theorem R_callxGZ {f : FuncId} {fo : Operand} {args : Array Operand} {tys : Array TypeId} {ds caps : List D} {d d2 : D} {rh hp2 : List Blk} (hX : ∀ w, Ext w0 w → X w) (hf : evD (look sl) fo = .fn f caps) (hF : FnG X P f ds d rh) (hds : mapK (evD (look sl)) args.toList (fun l => argsFK hp ((l ++ caps).map unold) fun l => some l) = some ds) (hd : Nat.blt dst n = true) (hno : noRd d = true) (hdeep : rh.all Blk.isDeep = true) (hold : oldOks w0 A (args.toList.map (evD (look sl)) ++ caps))
    (hk : WO P w0 A ops rest ⟨n, (dst, d2) :: sl, hp2⟩ K) (e1 : d.shift hp.length = d2 := by first | (dsimp only [D.shift, D.shiftL, List.cons_append, List.nil_append, List.append_nil, List.length_cons, List.length_nil, Nat.reduceAdd]; done) | exact rfl) (e2 : hp ++ rh = hp2 := by first | (dsimp only [D.shift, D.shiftL, List.cons_append, List.nil_append, List.append_nil, List.length_cons, List.length_nil, Nat.reduceAdd]; done) | exact rfl) : WO P w0 A ops (⟨some dst, .call ⟨.value fo, args, tys⟩, ty, pos, after, none⟩ :: rest) ⟨n, sl, hp⟩ K := by
  subst e1; subst e2; exact R_callxG hf hds hd hF hX hno hdeep hold hk
theorem valG_ev {ms : List Ent} {a : Act} {w : World} {Ok : Nat → Prop} {v u : Value} (h : VX ms w Ok (.val v) u) : u = v := by
  cases h with
  | rd h _ => cases h
  | val => rfl
/-- The address of an element of a table of the package. -/
theorem R_globIdx {tab : Nat → Option TI} (hT : TabOk P tab) {g : Nat} {y : Operand} {t T : TypeId} {len : Nat} {j : Int} {kk : TK} {agg : Bool} {bytes : Nat} {zero : List Value} (hu : P.underlying t = some (.array len T)) (ht : tab T = some ⟨kk, agg, 1, bytes, zero⟩) (hy : evD (look sl) y = .lit (.int .i64 j)) (hj : 0 ≤ j ∧ j < (len : Int)) (hd : Nat.blt dst n = true)
    (hK : WO P w0 A ops rest ⟨n, (dst, .val (.pointer (some ⟨g, j.toNat, none⟩))) :: sl, hp⟩ K) : WO P w0 A ops (⟨some dst, .indexAddr t (.global g) y, ty, pos, after, none⟩ :: rest) ⟨n, sl, hp⟩ K := by
  refine ⟨fun ms a w hr Q hq => ?_⟩
  refine wpList_plain rfl fun Kn hKn => ?_
  obtain ⟨e2, _⟩ := (hr.ev_at hy).lit_inv
  obtain ⟨inf', td', z', g1, g2, g3, g4, g5, g6, _⟩ := hT.get ht
  have hrun : (execOp a.eval ⟨some dst, .indexAddr t (.global g) y, ty, pos, after, none⟩).run P w = .ok (.value (.pointer (some ⟨g, j.toNat, none⟩))) w := by
    have e1 : a.eval (.global g) = .pointer (some ⟨g, 0, none⟩) := rfl
    simp only [execOp, Instr.indexAt, e1, e2, asIntOf, Sem.run_bind, Sem.run, pure, Result.andThen, run_underlying hu, Instr.sureAddr]
    simp only [hj.1, hj.2, and_self, if_true, run_sizeOf g1, g6]
    simp only [Addr.add]
    by_cases hb : j.toNat * 1 = 0 <;> simp [hb, run_sizeOf g1, g6]
    all_goals omega
  exact upon_value hrun (hKn _ _ (hK.run ms _ w (Rel.put (t := some dst) hr .val (dstOk_all (s := ⟨n, _, _⟩) (t := some dst) hd)) Q hq))
/-- A scalar of a table of the package is read. -/
theorem R_globLoad {tab : Nat → Option TI} (hT : TabOk P tab) {x : Operand} {tl : TypeId} {g o : Nat} {v : Value} {kk : TK} {bytes : Nat} {zero : List Value} (hx : evD (look sl) x = .val (.pointer (some ⟨g, o, none⟩))) (hc : w0.cell? ⟨g, o, none⟩ = some v) (hl : litOk v) (ht : tab tl = some ⟨kk, false, 1, bytes, zero⟩) (hd : Nat.blt dst n = true)
    (hK : WO P w0 A ops rest ⟨n, (dst, .lit v) :: sl, hp⟩ K) : WO P w0 A ops (⟨some dst, .load tl x, ty, pos, after, none⟩ :: rest) ⟨n, sl, hp⟩ K := by
  refine ⟨fun ms a w hr Q hq => ?_⟩
  refine wpList_plain rfl fun Kn hKn => ?_
  obtain ⟨inf, td, z, h1, h2, h3, h4, h5, h6, _⟩ := hT.get ht
  have hc1 : w.cell? ⟨g, o, none⟩ = some v := by rw [hr.ext.cell (lt_of_cell hc)]; exact hc
  have hgx := valG_ev (a := a) (hr.ev_at hx)
  have hag : aggDesc td = false := h5.symm
  have hld : (loadVar tl ⟨g, o, none⟩).run P w = .ok v w := by
    unfold loadVar
    simp only [Sem.run_bind, run_isAgg h2, Result.andThen, hag]
    simp only [Bool.false_eq_true, if_false, Go.load, Sem.run, hc1]
  have hld2 : (Instr.loadAt tl (.pointer (some ⟨g, o, none⟩))).run P w = .ok v w := by
    simp only [Instr.loadAt, Instr.sureAddr, Sem.run_bind, Sem.run, Result.andThen, pure]; exact hld
  have hrun : (execOp a.eval ⟨some dst, .load tl x, ty, pos, after, none⟩).run P w = .ok (.value v) w := by
    simp only [execOp, hgx, Sem.run_bind, hld2, Result.andThen]; rfl
  exact upon_value hrun (hKn _ _ (hK.run ms _ w (Rel.put (t := some dst) hr (VX.of_lit hl) (dstOk_all (s := ⟨n, _, _⟩) (t := some dst) hd)) Q hq))
end
end Go.Proofs.YtcpjhpjlcgcigaaGreatDoor
namespace Go.Proofs.YtcpjhpjlcgcigaaGreatDoor
open Go.ChangeShapes Go.WideShapes Go.ChangeAt Go.RowKit

/-! ### What a good graph gives -/
theorem rising_memF {lo hi : Int} : ∀ {l : List Int} {p : Option Int}, risingFrom lo hi p l = true → ∀ x ∈ l, lo ≤ x ∧ x ≤ hi
  | [], _, _, x, h => by cases h
  | a :: l, p, h, x, hx => by
    rw [risingFrom_cons, Bool.and_eq_true, Bool.and_eq_true] at h
    rcases List.mem_cons.1 hx with rfl | hx
    · exact of_decide_eq_true h.1.1
    · exact rising_memF h.2 x hx
theorem le_szTrs {l : List Tr} {t : Tr} (h : t ∈ l) : t.pre.length ≤ szTrs l ∧ t.post.length ≤ szTrs l := by
  induction l with
  | nil => cases h
  | cons a l ih =>
    have e : szTrs (a :: l) = szTrs l + 1 + (a.pre.length + a.post.length) := by
      simp only [szTrs, List.length_cons, List.map_cons, List.sum_cons, szTr, szInts]; omega
    rcases List.mem_cons.1 h with rfl | h
    · omega
    · have := ih h; omega
structure RowF (t : Tr) : Prop where
  pl : t.pre.length ≤ 1048576
  ql : t.post.length ≤ 1048576
  p : ∀ x ∈ t.pre, 0 ≤ x ∧ x ≤ 30
  q : ∀ x ∈ t.post, 0 ≤ x ∧ x ≤ 30
theorem rowF_of {s : Stg} (hg : goodStg s = true) (hz : szStg s ≤ 1048576) {t : Tr} (ht : t ∈ s.net.trs) : RowF t := by
  have h := hg
  simp only [goodStg, goodMark, goodNet, Bool.and_eq_true, decide_eq_true_eq, Bool.not_eq_true', List.any_eq_false] at h
  have hb := h.1.1.2 t ht
  simp only [badTr, Bool.not_eq_true, Bool.or_eq_false_iff, Bool.not_eq_false'] at hb
  have h1 := rising_memF hb.1.2; have h2 := rising_memF hb.2
  have hc := le_szTrs ht
  have hs : szTrs s.net.trs ≤ szStg s := by
    have e : szNetD s.net = szTrs s.net.trs := rfl
    simp only [szStg]; omega
  exact ⟨by omega, by omega, fun x hx => by have := h1 x hx; omega, fun x hx => by have := h2 x hx; omega⟩
theorem namesF {s : Stg} (hg : goodStg s = true) : ∀ x ∈ s.signals, x.name.size ≤ 6 := by
  have h := hg
  simp only [goodStg, sigsB, Bool.and_eq_true, decide_eq_true_eq] at h
  obtain ⟨_, ⟨h2, h3⟩, _, h4⟩ := h
  intro x hx
  obtain ⟨j, hj, rfl⟩ := List.getElem_of_mem hx
  have := (h2 j hj).1
  rw [nth_get hj] at this
  simp only [sigOk, nameB, Bool.and_eq_true, decide_eq_true_eq] at this
  omega

/-! ### Rows of numbers -/
def numsB (l : List Int) : ByteArray := l.foldl (fun a x => a ++ (⟨#[32]⟩ ++ numB x.toNat)) ⟨#[]⟩
theorem numsB_snoc {l : List Int} {k : Nat} (h : k < l.length) : numsB (l.take (k + 1)) = numsB (l.take k) ++ (⟨#[32]⟩ ++ numB (nth l k).toNat) := by
  rw [take_nth h]; simp [numsB, List.foldl_append]
theorem space_size (i : Nat) : ((⟨#[32]⟩ : ByteArray) ++ numB i).size ≤ 3 := by
  have := numB_size i
  have e1 : (⟨#[32]⟩ : ByteArray).size = 1 := rfl
  rw [ByteArray.size_append]; omega
theorem numsB_size (l : List Int) : ∀ k, k ≤ l.length → (numsB (l.take k)).size ≤ 3 * k
  | 0, _ => Nat.le_refl 0
  | k + 1, h => by
    have := numsB_size l k (by omega)
    have := space_size (nth l k).toNat
    rw [numsB_snoc (by omega), ByteArray.size_append]; omega

theorem placesText_f (l : List Int) (hl : l.length ≤ 1048576) (h1 : ∀ x ∈ l, 0 ≤ x ∧ x ≤ 30) : Fn Tryz.prog 46 [.sh 1 (ints l)] (.lit (.string (numsB l))) [] := by
  refine Fn_of Tryz.func46 rfl (by kernel_rfl) rfl rfl ?_
  intro w0 A hin
  have hz := len_ints l
  repeat' (first | refine goZ ?_ | ((first | refine R_cond rfl (fun hq => ?_) fun hq => ?_ | refine R_guardT rfl rfl rfl (fun hq => ?_) fun hq => ?_ | refine R_guardF rfl rfl rfl (fun hq => ?_) fun hq => ?_ | refine D_guardT rfl rfl rfl (fun hq => ?_) fun hq => ?_ | refine D_guardF rfl rfl rfl (fun hq => ?_) fun hq => ?_) <;> (try rw [hq]) <;> first | have hp := of_decide_eq_true hq | have hp := of_decide_eq_false hq | have hp := of_decide_eq_false (not_t hq) | have hp := of_decide_eq_true (not_f hq) | have hp := hq))
  refine W_loop (fun k : Nat => ⟨_, [(3, .lit (.string (numsB (l.take k)))), (6, .sh 1 (ints l)), (7, .lit (.int .i64 l.length)), (8, .lit (.int .i64 k))], []⟩) (fun k => k ≤ l.length) (fun k => l.length - k) 0 (Nat.zero_le _) (weakZ []) ?_
  intro k hk
  have hb : k < l.length → 0 ≤ nth l k ∧ nth l k ≤ 30 := fun h => h1 _ (nth_mem h)
  have hN : k < l.length → Fn Tryz.prog 71 [.lit (.int .i64 (nth l k))] (.lit (.string (numB (nth l k).toNat))) [] := fun h => by
    have := Itoa_f (nth l k).toNat (by have := hb h; omega)
    rwa [show (((nth l k).toNat : Nat) : Int) = nth l k by have := hb h; omega] at this
  have hs := numsB_size l k hk
  have hs2 := space_size (nth l k).toNat
  have hs3 := numB_size (nth l k).toNat
  have e1 : (⟨#[32]⟩ : ByteArray).size = 1 := rfl
  repeat' (first | refine goZ ?_ | refine R_callZ rfl (hN (by omega)) rfl rfl rfl ?_ | refine R_callvZ rfl (hN (by omega)) rfl rfl rfl rfl ?_ | refine D_callZ rfl (hN (by omega)) rfl rfl rfl ?_ | ((first | refine R_cond rfl (fun hq => ?_) fun hq => ?_ | refine R_guardT rfl rfl rfl (fun hq => ?_) fun hq => ?_ | refine R_guardF rfl rfl rfl (fun hq => ?_) fun hq => ?_ | refine D_guardT rfl rfl rfl (fun hq => ?_) fun hq => ?_ | refine D_guardF rfl rfl rfl (fun hq => ?_) fun hq => ?_) <;> (try rw [hq]) <;> first | have hp := of_decide_eq_true hq | have hp := of_decide_eq_false hq | have hp := of_decide_eq_false (not_t hq) | have hp := of_decide_eq_true (not_f hq) | have hp := hq))
  · refine ⟨k + 1, by omega, by omega, ?_⟩
    rw [numsB_snoc (by omega)]
    exact weakZ _
  · exact ret_lit rfl (by rw [List.take_of_length_le (by omega)])
theorem l3Nums_f (l : List Int) (hl : l.length ≤ 1048576) (h1 : ∀ x ∈ l, 0 ≤ x ∧ x ≤ 30) : Fn Tryz.prog 36 [.sh 1 (ints l)] (.lit (.string (numsB l))) [] := by
  refine Fn_of Tryz.func36 rfl (by kernel_rfl) rfl rfl ?_
  intro w0 A hin
  have hz := len_ints l
  repeat' (first | refine goZ ?_ | ((first | refine R_cond rfl (fun hq => ?_) fun hq => ?_ | refine R_guardT rfl rfl rfl (fun hq => ?_) fun hq => ?_ | refine R_guardF rfl rfl rfl (fun hq => ?_) fun hq => ?_ | refine D_guardT rfl rfl rfl (fun hq => ?_) fun hq => ?_ | refine D_guardF rfl rfl rfl (fun hq => ?_) fun hq => ?_) <;> (try rw [hq]) <;> first | have hp := of_decide_eq_true hq | have hp := of_decide_eq_false hq | have hp := of_decide_eq_false (not_t hq) | have hp := of_decide_eq_true (not_f hq) | have hp := hq))
  refine W_loop (fun k : Nat => ⟨_, [(3, .lit (.string (numsB (l.take k)))), (6, .sh 1 (ints l)), (7, .lit (.int .i64 l.length)), (8, .lit (.int .i64 k))], []⟩) (fun k => k ≤ l.length) (fun k => l.length - k) 0 (Nat.zero_le _) (weakZ []) ?_
  intro k hk
  have hb : k < l.length → 0 ≤ nth l k ∧ nth l k ≤ 30 := fun h => h1 _ (nth_mem h)
  have hN : k < l.length → Fn Tryz.prog 59 [.lit (.int .i64 (nth l k))] (.lit (.string (numB (nth l k).toNat))) [] := fun h => by
    have := l1Num_f (nth l k).toNat (by have := hb h; omega)
    rwa [show (((nth l k).toNat : Nat) : Int) = nth l k by have := hb h; omega] at this
  have hs := numsB_size l k hk
  have hs2 := space_size (nth l k).toNat
  have hs3 := numB_size (nth l k).toNat
  have e1 : (⟨#[32]⟩ : ByteArray).size = 1 := rfl
  repeat' (first | refine goZ ?_ | refine R_callZ rfl (hN (by omega)) rfl rfl rfl ?_ | refine R_callvZ rfl (hN (by omega)) rfl rfl rfl rfl ?_ | refine D_callZ rfl (hN (by omega)) rfl rfl rfl ?_ | ((first | refine R_cond rfl (fun hq => ?_) fun hq => ?_ | refine R_guardT rfl rfl rfl (fun hq => ?_) fun hq => ?_ | refine R_guardF rfl rfl rfl (fun hq => ?_) fun hq => ?_ | refine D_guardT rfl rfl rfl (fun hq => ?_) fun hq => ?_ | refine D_guardF rfl rfl rfl (fun hq => ?_) fun hq => ?_) <;> (try rw [hq]) <;> first | have hp := of_decide_eq_true hq | have hp := of_decide_eq_false hq | have hp := of_decide_eq_false (not_t hq) | have hp := of_decide_eq_true (not_f hq) | have hp := hq))
  · refine ⟨k + 1, by omega, by omega, ?_⟩
    rw [numsB_snoc (by omega)]
    exact weakZ _
  · exact ret_lit rfl (by rw [List.take_of_length_le (by omega)])

/-! ### Lines of signals -/
def kwB (j : Nat) : ByteArray := match j with
  | 0 => ⟨#[]⟩
  | 1 => ⟨#[105, 110]⟩
  | 2 => ⟨#[111, 117, 116]⟩
  | _ => ⟨#[105, 110, 110, 101, 114]⟩
theorem kwB_size (j : Nat) : (kwB j).size ≤ 5 := by
  unfold kwB
  split <;> decide
/-- The package's table reads as its initialiser lays it. -/
def KW (w : World) : Prop := ∀ j, j < 4 → w.cell? ⟨0, j, none⟩ = some (.string (kwB j))
theorem KW.ext {w w' : World} (h : KW w) (hx : Ext w w') : KW w' := fun j hj => by rw [hx.cell (lt_of_cell (h j hj))]; exact h j hj
def lineF (kind : Int) (a : ByteArray) (x : Sig) : ByteArray := if x.kind = kind then a ++ (⟨#[32]⟩ ++ x.name) else a
def lineB (l : List Sig) (kind : Int) : ByteArray := l.foldl (lineF kind) ⟨#[]⟩
theorem lineB_yes {l : List Sig} {k : Nat} {kind : Int} (h : k < l.length) (hk : (nth l k).kind = kind) : lineB (l.take (k + 1)) kind = lineB (l.take k) kind ++ (⟨#[32]⟩ ++ (nth l k).name) := by
  rw [take_nth h]; simp [lineB, List.foldl_append, lineF, hk]
theorem lineB_no {l : List Sig} {k : Nat} {kind : Int} (h : k < l.length) (hk : ¬ (nth l k).kind = kind) : lineB (l.take (k + 1)) kind = lineB (l.take k) kind := by
  rw [take_nth h]; simp [lineB, List.foldl_append, lineF, hk]
theorem name_size {x : Sig} (h : x.name.size ≤ 6) : ((⟨#[32]⟩ : ByteArray) ++ x.name).size ≤ 7 := by
  have e1 : (⟨#[32]⟩ : ByteArray).size = 1 := rfl
  rw [ByteArray.size_append]; omega
theorem lineB_size {l : List Sig} (hn : ∀ x ∈ l, x.name.size ≤ 6) (kind : Int) : ∀ k, k ≤ l.length → (lineB (l.take k) kind).size ≤ 7 * k
  | 0, _ => Nat.le_refl 0
  | k + 1, h => by
    have := lineB_size hn kind k (by omega)
    by_cases hk : (nth l k).kind = kind
    · have := name_size (hn _ (nth_mem (show k < l.length by omega)))
      rw [lineB_yes (by omega) hk, ByteArray.size_append]; omega
    · rw [lineB_no (by omega) hk]; omega
def sglB (l : List Sig) : Nat → ByteArray
  | 0 => ⟨#[]⟩
  | n + 1 => if lineB l ((n + 1 : Nat) : Int) = ⟨#[]⟩ then sglB l n else sglB l n ++ ((kwB (n + 1) ++ lineB l ((n + 1 : Nat) : Int)) ++ ⟨#[10]⟩)
theorem nl_size {l : List Sig} (hn : ∀ x ∈ l, x.name.size ≤ 6) (j : Nat) (kind : Int) : (lineB l kind).size ≤ 7 * l.length ∧ (kwB j ++ lineB l kind).size ≤ 7 * l.length + 5 ∧ ((kwB j ++ lineB l kind) ++ ⟨#[10]⟩).size ≤ 7 * l.length + 6 := by
  have h := lineB_size hn kind l.length (Nat.le_refl _)
  rw [List.take_of_length_le (Nat.le_refl _)] at h
  have := kwB_size j
  have e1 : (⟨#[10]⟩ : ByteArray).size = 1 := rfl
  refine ⟨h, ?_, ?_⟩
  · rw [ByteArray.size_append]; omega
  · rw [ByteArray.size_append, ByteArray.size_append]; omega
theorem sglB_size {l : List Sig} (hn : ∀ x ∈ l, x.name.size ≤ 6) : ∀ n, (sglB l n).size ≤ n * (7 * l.length + 6)
  | 0 => by rw [Nat.zero_mul]; exact Nat.le_refl 0
  | n + 1 => by
    have := sglB_size hn n
    have := nl_size hn (n + 1) ((n + 1 : Nat) : Int)
    rw [sglB]
    split
    · rw [Nat.add_mul]; omega
    · rw [ByteArray.size_append, Nat.add_mul]; omega
def srtB (l : List Sig) : Bool := (List.range l.length).all fun k => decide (k = 0) || !decide ((nth l (k - 1)).kind > (nth l k).kind)
theorem srtB_no {l : List Sig} {k : Nat} (hk : k < l.length) (h0 : 0 < k) (h : (nth l (k - 1)).kind > (nth l k).kind) : srtB l = false :=
  List.all_eq_false.2 ⟨k, List.mem_range.2 hk, by simp; omega⟩
theorem srtB_at {l : List Sig} (hs : srtB l = true) {k : Nat} (hk : k < l.length) (h0 : 0 < k) : ¬ (nth l (k - 1)).kind > (nth l k).kind := by
  intro h
  rw [srtB_no hk h0 h] at hs; exact Bool.noConfusion hs
theorem srtB_yes {l : List Sig} (h : ∀ k, k < l.length → 0 < k → ¬ (nth l (k - 1)).kind > (nth l k).kind) : srtB l = true :=
  List.all_eq_true.2 fun k hk => by
    have := h k (List.mem_range.1 hk)
    by_cases h0 : k = 0
    · simp [h0]
    · simp [h0]; have := this (by omega); omega
def sglR (l : List Sig) : ByteArray := if srtB l then sglB l 3 else ⟨#[]⟩

set_option maxHeartbeats 4000000 in
theorem signalLines_g (l : List Sig) (hl : l.length ≤ 8) (hn : ∀ x ∈ l, x.name.size ≤ 6) (hk : ∀ x ∈ l, 1 ≤ x.kind ∧ x.kind ≤ 3) : FnG KW Tryz.prog 44 [.sh 2 (l.map dSig)] (.tup [.lit (.string (sglR l)), .lit (.bool (srtB l))]) [] := by
  refine FnG_of Tryz.func44 rfl (by kernel_rfl) rfl rfl ?_
  intro w0 A hX hin
  have hz := len_dSig l
  cases hs : srtB l
  · -- kinds out of order: found in the first round
    repeat' (first | refine goZ ?_ | ((first | refine R_cond rfl (fun hq => ?_) fun hq => ?_ | refine R_guardT rfl rfl rfl (fun hq => ?_) fun hq => ?_ | refine R_guardF rfl rfl rfl (fun hq => ?_) fun hq => ?_ | refine D_guardT rfl rfl rfl (fun hq => ?_) fun hq => ?_ | refine D_guardF rfl rfl rfl (fun hq => ?_) fun hq => ?_) <;> (try rw [hq]) <;> first | have hp := of_decide_eq_true hq | have hp := of_decide_eq_false hq | have hp := of_decide_eq_false (not_t hq) | have hp := of_decide_eq_true (not_f hq) | have hp := hq))
    refine W_loop (fun _ : Nat => ⟨_, [(0, .sh 2 (l.map dSig)), (4, .lit (.string ⟨#[]⟩)), (5, .lit (.int .i64 1))], []⟩) (fun _ => True) (fun k => k) 0 trivial (weakZ []) ?_
    intro _ _
    repeat' (first | refine goZ ?_ | ((first | refine R_cond rfl (fun hq => ?_) fun hq => ?_ | refine R_guardT rfl rfl rfl (fun hq => ?_) fun hq => ?_ | refine R_guardF rfl rfl rfl (fun hq => ?_) fun hq => ?_ | refine D_guardT rfl rfl rfl (fun hq => ?_) fun hq => ?_ | refine D_guardF rfl rfl rfl (fun hq => ?_) fun hq => ?_) <;> (try rw [hq]) <;> first | have hp := of_decide_eq_true hq | have hp := of_decide_eq_false hq | have hp := of_decide_eq_false (not_t hq) | have hp := of_decide_eq_true (not_f hq) | have hp := hq))
    refine W_loop (fun i : Nat => ⟨_, [(0, .sh 2 (l.map dSig)), (4, .lit (.string ⟨#[]⟩)), (5, .lit (.int .i64 1)), (6, .lit (.string (lineB (l.take i) 1))), (13, .sh 2 (l.map dSig)), (14, .lit (.int .i64 l.length)), (15, .lit (.int .i64 i))], []⟩) (fun i => i ≤ l.length ∧ ∀ j, j < i → 0 < j → ¬ (nth l (j - 1)).kind > (nth l j).kind) (fun i => l.length - i) 0 ⟨Nat.zero_le _, by omega⟩ (weakZ []) ?_
    rintro i ⟨hi, hj⟩
    have hls := lineB_size hn 1 i hi
    have hns : i < l.length → _ := fun h => name_size (hn _ (nth_mem h))
    have hns2 : i < l.length → _ := fun h => hn _ (nth_mem h)
    have e1 : (⟨#[32]⟩ : ByteArray).size = 1 := rfl
    have hpe : 0 < i → ((i : Int) - 1) = ((i - 1 : Nat) : Int) := fun h => by omega
    repeat' (first | refine goZ ?_ | ((first | refine R_cond rfl (fun hq => ?_) fun hq => ?_ | refine R_guardT rfl rfl rfl (fun hq => ?_) fun hq => ?_ | refine R_guardF rfl rfl rfl (fun hq => ?_) fun hq => ?_ | refine D_guardT rfl rfl rfl (fun hq => ?_) fun hq => ?_ | refine D_guardF rfl rfl rfl (fun hq => ?_) fun hq => ?_) <;> (try rw [hq]) <;> first | have hp := of_decide_eq_true hq | have hp := of_decide_eq_false hq | have hp := of_decide_eq_false (not_t hq) | have hp := of_decide_eq_true (not_f hq) | have hp := hq))
    all_goals first
      | exact ret_lit2 rfl (by simp [sglR, hs]) rfl
      | (exfalso
         have hc := srtB_yes (l := l) (fun k h h0 => hj k (by omega) h0)
         rw [hs] at hc; exact Bool.noConfusion hc)
      | (refine ⟨i + 1, ⟨by omega, fun j hj' h0 => ?_⟩, by omega, ?_⟩
         · rcases Nat.lt_or_ge j i with h | h
           · exact hj j h h0
           · obtain rfl : j = i := by omega
             have e : ((j : Int) - 1).toNat = j - 1 := by omega
             simp only [e] at *
             omega
         · first
             | (rw [lineB_yes (by omega) (by omega)]; exact weakZ _)
             | (rw [lineB_no (by omega) (by omega)]; exact weakZ _))
  repeat' (first | refine goZ ?_ | ((first | refine R_cond rfl (fun hq => ?_) fun hq => ?_ | refine R_guardT rfl rfl rfl (fun hq => ?_) fun hq => ?_ | refine R_guardF rfl rfl rfl (fun hq => ?_) fun hq => ?_ | refine D_guardT rfl rfl rfl (fun hq => ?_) fun hq => ?_ | refine D_guardF rfl rfl rfl (fun hq => ?_) fun hq => ?_) <;> (try rw [hq]) <;> first | have hp := of_decide_eq_true hq | have hp := of_decide_eq_false hq | have hp := of_decide_eq_false (not_t hq) | have hp := of_decide_eq_true (not_f hq) | have hp := hq))
  refine W_loop (fun k : Nat => ⟨_, [(0, .sh 2 (l.map dSig)), (4, .lit (.string (sglB l k))), (5, .lit (.int .i64 (k + 1 : Nat)))], []⟩) (fun k => k ≤ 3) (fun k => 3 - k) 0 (Nat.zero_le _) (weakZ []) ?_
  intro k hk3
  have hos := sglB_size hn k
  have hos2 : k * (7 * l.length + 6) ≤ 3 * (7 * 8 + 6) := Nat.mul_le_mul hk3 (by omega)
  repeat' (first | refine goZ ?_ | ((first | refine R_cond rfl (fun hq => ?_) fun hq => ?_ | refine R_guardT rfl rfl rfl (fun hq => ?_) fun hq => ?_ | refine R_guardF rfl rfl rfl (fun hq => ?_) fun hq => ?_ | refine D_guardT rfl rfl rfl (fun hq => ?_) fun hq => ?_ | refine D_guardF rfl rfl rfl (fun hq => ?_) fun hq => ?_) <;> (try rw [hq]) <;> first | have hp := of_decide_eq_true hq | have hp := of_decide_eq_false hq | have hp := of_decide_eq_false (not_t hq) | have hp := of_decide_eq_true (not_f hq) | have hp := hq))
  · refine W_loop (fun i : Nat => ⟨_, [(0, .sh 2 (l.map dSig)), (4, .lit (.string (sglB l k))), (5, .lit (.int .i64 (k + 1 : Nat))), (6, .lit (.string (lineB (l.take i) (k + 1 : Nat)))), (13, .sh 2 (l.map dSig)), (14, .lit (.int .i64 l.length)), (15, .lit (.int .i64 i))], []⟩) (fun i => i ≤ l.length) (fun i => l.length - i) 0 (Nat.zero_le _) (weakZ []) ?_
    intro i hi
    have hls := lineB_size hn ((k + 1 : Nat) : Int) i hi
    have hns : i < l.length → _ := fun h => name_size (hn _ (nth_mem h))
    have hns2 : i < l.length → _ := fun h => hn _ (nth_mem h)
    have e1 : (⟨#[32]⟩ : ByteArray).size = 1 := rfl
    have e2 : (⟨#[10]⟩ : ByteArray).size = 1 := rfl
    rcases Nat.lt_or_ge i l.length with hlt | hge
    · repeat' (first | refine goZ ?_ | ((first | refine R_cond rfl (fun hq => ?_) fun hq => ?_ | refine R_guardT rfl rfl rfl (fun hq => ?_) fun hq => ?_ | refine R_guardF rfl rfl rfl (fun hq => ?_) fun hq => ?_ | refine D_guardT rfl rfl rfl (fun hq => ?_) fun hq => ?_ | refine D_guardF rfl rfl rfl (fun hq => ?_) fun hq => ?_) <;> (try rw [hq]) <;> first | have hp := of_decide_eq_true hq | have hp := of_decide_eq_false hq | have hp := of_decide_eq_false (not_t hq) | have hp := of_decide_eq_true (not_f hq) | have hp := hq))
      all_goals first
        | (exfalso
           have e : ((i : Int) - 1).toNat = i - 1 := by omega
           have hc := srtB_at hs hlt (by omega)
           simp only [e] at *
           omega)
        | (refine ⟨i + 1, by omega, by omega, ?_⟩
           rw [lineB_yes (by omega) (by omega)]; exact weakZ _)
        | (refine ⟨i + 1, by omega, by omega, ?_⟩
           rw [lineB_no (by omega) (by omega)]; exact weakZ _)
        | (exfalso; omega)
    · rw [List.take_of_length_le hge]
      have hks := kwB_size (k + 1)
      have hnl := nl_size hn (k + 1) ((k + 1 : Nat) : Int)
      have hcell := hX (k + 1) (by omega)
      have hlit : litOk (.string (kwB (k + 1))) := show (kwB (k + 1)).size ≤ 9223372036854775807 by omega
      repeat' (first | refine goZ ?_ | refine R_globIdx tabOk Tryz.underlying69 rfl rfl (by omega) rfl ?_ | refine R_globLoad tabOk rfl hcell hlit rfl rfl ?_ | ((first | refine R_cond rfl (fun hq => ?_) fun hq => ?_ | refine R_guardT rfl rfl rfl (fun hq => ?_) fun hq => ?_ | refine R_guardF rfl rfl rfl (fun hq => ?_) fun hq => ?_ | refine D_guardT rfl rfl rfl (fun hq => ?_) fun hq => ?_ | refine D_guardF rfl rfl rfl (fun hq => ?_) fun hq => ?_) <;> (try rw [hq]) <;> first | have hp := of_decide_eq_true hq | have hp := of_decide_eq_false hq | have hp := of_decide_eq_false (not_t hq) | have hp := of_decide_eq_true (not_f hq) | have hp := hq))
      all_goals first
        | (exfalso; omega)
        | (refine ⟨k + 1, by omega, by omega, ?_⟩
           rcases Classical.em (lineB l ((k + 1 : Nat) : Int) = ⟨#[]⟩) with he | he
           · first
               | exact absurd he hp
               | (rw [sglB, if_pos he]; exact weakZ _)
           · first
               | exact absurd hp he
               | (rw [sglB, if_neg he]; exact weakZ _))
  · obtain rfl : k = 3 := by omega
    exact ret_lit2 rfl (by simp [sglR, hs]) rfl

theorem l3Words_f : Fn Tryz.prog 55 [] (.own 0) [.arr 9 1 (strs [kwB 0, kwB 1, kwB 2, kwB 3]) true] := by
  refine Fn_of Tryz.func55 rfl (by kernel_rfl) rfl rfl ?_
  intro w0 A hin
  repeat' (first | refine goZ ?_ | ((first | refine R_cond rfl (fun hq => ?_) fun hq => ?_ | refine R_guardT rfl rfl rfl (fun hq => ?_) fun hq => ?_ | refine R_guardF rfl rfl rfl (fun hq => ?_) fun hq => ?_ | refine D_guardT rfl rfl rfl (fun hq => ?_) fun hq => ?_ | refine D_guardF rfl rfl rfl (fun hq => ?_) fun hq => ?_) <;> (try rw [hq]) <;> first | have hp := of_decide_eq_true hq | have hp := of_decide_eq_false hq | have hp := of_decide_eq_false (not_t hq) | have hp := of_decide_eq_true (not_f hq) | have hp := hq))
  exact ret_own rfl rfl rfl

set_option maxHeartbeats 4000000 in
theorem l3Signals_f (s : Stg) (hl : s.signals.length ≤ 8) (hn : ∀ x ∈ s.signals, x.name.size ≤ 6) : Fn Tryz.prog 34 [.agg (dStg s)] (.lit (.string (sglB s.signals 3))) [] := by
  refine Fn_of Tryz.func34 rfl (by kernel_rfl) rfl rfl ?_
  intro w0 A hin
  have hz := len_dSig s.signals
  have hlw : (strs [kwB 0, kwB 1, kwB 2, kwB 3]).length = 4 := rfl
  repeat' (first | refine goZ ?_ | ((first | refine R_cond rfl (fun hq => ?_) fun hq => ?_ | refine R_guardT rfl rfl rfl (fun hq => ?_) fun hq => ?_ | refine R_guardF rfl rfl rfl (fun hq => ?_) fun hq => ?_ | refine D_guardT rfl rfl rfl (fun hq => ?_) fun hq => ?_ | refine D_guardF rfl rfl rfl (fun hq => ?_) fun hq => ?_) <;> (try rw [hq]) <;> first | have hp := of_decide_eq_true hq | have hp := of_decide_eq_false hq | have hp := of_decide_eq_false (not_t hq) | have hp := of_decide_eq_true (not_f hq) | have hp := hq))
  refine W_loop (fun k : Nat => ⟨_, [(1, .ptr 0 0), (3, .lit (.string (sglB s.signals k))), (4, .lit (.int .i64 (k + 1 : Nat)))], [.cells 28 (dStg s)]⟩) (fun k => k ≤ 3) (fun k => 3 - k) 0 (Nat.zero_le _) (weakZ []) ?_
  intro k hk3
  have hos := sglB_size hn k
  have hos2 : k * (7 * s.signals.length + 6) ≤ 3 * (7 * 8 + 6) := Nat.mul_le_mul hk3 (by omega)
  rcases Nat.lt_or_ge k 3 with hk2 | hk2
  · have hrow : RowAt (strs [kwB 0, kwB 1, kwB 2, kwB 3]) ((k + 1 : Nat) : Int) [.lit (.string (kwB (k + 1)))] := by
      have : k = 0 ∨ k = 1 ∨ k = 2 := by omega
      rcases this with rfl | rfl | rfl <;> exact ⟨by omega, rfl⟩
    repeat' (first | refine goZ ?_ | ((first | refine R_cond rfl (fun hq => ?_) fun hq => ?_ | refine R_guardT rfl rfl rfl (fun hq => ?_) fun hq => ?_ | refine R_guardF rfl rfl rfl (fun hq => ?_) fun hq => ?_ | refine D_guardT rfl rfl rfl (fun hq => ?_) fun hq => ?_ | refine D_guardF rfl rfl rfl (fun hq => ?_) fun hq => ?_) <;> (try rw [hq]) <;> first | have hp := of_decide_eq_true hq | have hp := of_decide_eq_false hq | have hp := of_decide_eq_false (not_t hq) | have hp := of_decide_eq_true (not_f hq) | have hp := hq))
    rotate_left
    · exfalso; omega
    refine W_loop (fun i : Nat => ⟨_, [(1, .ptr 0 0), (3, .lit (.string (sglB s.signals k))), (4, .lit (.int .i64 (k + 1 : Nat))), (5, .lit (.string (lineB (s.signals.take i) (k + 1 : Nat)))), (13, .sh 2 (s.signals.map dSig)), (14, .lit (.int .i64 s.signals.length)), (15, .lit (.int .i64 i))], [.cells 28 (dStg s)]⟩) (fun i => i ≤ s.signals.length) (fun i => s.signals.length - i) 0 (Nat.zero_le _) (weakZ []) ?_
    intro i hi
    have hls := lineB_size hn ((k + 1 : Nat) : Int) i hi
    have hns : i < s.signals.length → _ := fun h => name_size (hn _ (nth_mem h))
    have hns2 : i < s.signals.length → _ := fun h => hn _ (nth_mem h)
    have e1 : (⟨#[32]⟩ : ByteArray).size = 1 := rfl
    have e2 : (⟨#[10]⟩ : ByteArray).size = 1 := rfl
    rcases Nat.lt_or_ge i s.signals.length with hlt | hge
    · repeat' (first | refine goZ ?_ | ((first | refine R_cond rfl (fun hq => ?_) fun hq => ?_ | refine R_guardT rfl rfl rfl (fun hq => ?_) fun hq => ?_ | refine R_guardF rfl rfl rfl (fun hq => ?_) fun hq => ?_ | refine D_guardT rfl rfl rfl (fun hq => ?_) fun hq => ?_ | refine D_guardF rfl rfl rfl (fun hq => ?_) fun hq => ?_) <;> (try rw [hq]) <;> first | have hp := of_decide_eq_true hq | have hp := of_decide_eq_false hq | have hp := of_decide_eq_false (not_t hq) | have hp := of_decide_eq_true (not_f hq) | have hp := hq))
      all_goals first
        | (refine ⟨i + 1, by omega, by omega, ?_⟩
           rw [lineB_yes (by omega) (by omega)]; exact weakZ _)
        | (refine ⟨i + 1, by omega, by omega, ?_⟩
           rw [lineB_no (by omega) (by omega)]; exact weakZ _)
        | (exfalso; omega)
    · rw [List.take_of_length_le hge]
      have hks := kwB_size (k + 1)
      have hnl := nl_size hn (k + 1) ((k + 1 : Nat) : Int)
      repeat' (first | refine goZ ?_ | refine R_callZ rfl (l3Words_f) rfl rfl rfl ?_ | refine R_callvZ rfl (l3Words_f) rfl rfl rfl rfl ?_ | refine R_eload tabOk rfl rfl rfl (r := [.lit (.string (kwB (k + 1)))]) hrow rfl rfl ?_ | refine D_callZ rfl (l3Words_f) rfl rfl rfl ?_ | ((first | refine R_cond rfl (fun hq => ?_) fun hq => ?_ | refine R_guardT rfl rfl rfl (fun hq => ?_) fun hq => ?_ | refine R_guardF rfl rfl rfl (fun hq => ?_) fun hq => ?_ | refine D_guardT rfl rfl rfl (fun hq => ?_) fun hq => ?_ | refine D_guardF rfl rfl rfl (fun hq => ?_) fun hq => ?_) <;> (try rw [hq]) <;> first | have hp := of_decide_eq_true hq | have hp := of_decide_eq_false hq | have hp := of_decide_eq_false (not_t hq) | have hp := of_decide_eq_true (not_f hq) | have hp := hq))
      all_goals first
        | (exfalso; omega)
        | (refine ⟨k + 1, by omega, by omega, ?_⟩
           rcases Classical.em (lineB s.signals ((k + 1 : Nat) : Int) = ⟨#[]⟩) with he | he
           · first
               | exact absurd he hp
               | (rw [sglB, if_pos he]; exact weakZ _)
           · first
               | exact absurd hp he
               | (rw [sglB, if_neg he]; exact weakZ _))
  · obtain rfl : k = 3 := by omega
    repeat' (first | refine goZ ?_ | ((first | refine R_cond rfl (fun hq => ?_) fun hq => ?_ | refine R_guardT rfl rfl rfl (fun hq => ?_) fun hq => ?_ | refine R_guardF rfl rfl rfl (fun hq => ?_) fun hq => ?_ | refine D_guardT rfl rfl rfl (fun hq => ?_) fun hq => ?_ | refine D_guardF rfl rfl rfl (fun hq => ?_) fun hq => ?_) <;> (try rw [hq]) <;> first | have hp := of_decide_eq_true hq | have hp := of_decide_eq_false hq | have hp := of_decide_eq_false (not_t hq) | have hp := of_decide_eq_true (not_f hq) | have hp := hq))
    all_goals first
      | (exfalso; omega)
      | exact ret_lit rfl rfl

end Go.Proofs.YtcpjhpjlcgcigaaGreatDoor
namespace Go.Proofs.YtcpjhpjlcgcigaaGreatDoor
open Go.ChangeShapes Go.WideShapes Go.ChangeAt Go.RowKit

theorem kindsF {s : Stg} (hg : goodStg s = true) : ∀ x ∈ s.signals, 1 ≤ x.kind ∧ x.kind ≤ 3 := by
  have h := hg
  simp only [goodStg, sigsB, Bool.and_eq_true, decide_eq_true_eq] at h
  obtain ⟨_, ⟨h2, h3⟩, _, h4⟩ := h
  intro x hx
  obtain ⟨j, hj, rfl⟩ := List.getElem_of_mem hx
  have := (h2 j hj).1
  rw [nth_get hj] at this
  simp only [sigOk, Bool.and_eq_true, decide_eq_true_eq] at this
  exact this.2
def lineT (s : Stg) (k : Nat) : ByteArray := (((wordB s.signals (nth s.labels k).sig (nth s.labels k).up ++ numsB (nth s.net.trs k).pre) ++ ⟨#[32, 62]⟩) ++ numsB (nth s.net.trs k).post) ++ ⟨#[10]⟩
def headT (s : Stg) : ByteArray := (⟨#[115, 116, 97, 114, 116, 32]⟩ ++ s.start) ++ ⟨#[10]⟩
def fmtB (s : Stg) : Nat → ByteArray
  | 0 => sglB s.signals 3 ++ headT s
  | k + 1 => fmtB s k ++ lineT s k
structure LineF (s : Stg) (k : Nat) : Prop where
  w : (wordB s.signals (nth s.labels k).sig (nth s.labels k).up).size ≤ 7
  p : (numsB (nth s.net.trs k).pre).size ≤ 3145728
  wp : (wordB s.signals (nth s.labels k).sig (nth s.labels k).up ++ numsB (nth s.net.trs k).pre).size ≤ 3145735
  wpa : ((wordB s.signals (nth s.labels k).sig (nth s.labels k).up ++ numsB (nth s.net.trs k).pre) ++ ⟨#[32, 62]⟩).size ≤ 3145737
  q : (numsB (nth s.net.trs k).post).size ≤ 3145728
  wpq : (((wordB s.signals (nth s.labels k).sig (nth s.labels k).up ++ numsB (nth s.net.trs k).pre) ++ ⟨#[32, 62]⟩) ++ numsB (nth s.net.trs k).post).size ≤ 6291465
  t : (lineT s k).size ≤ 6291466
theorem lineF_of {s : Stg} (hg : goodStg s = true) (hz : szStg s ≤ 1048576) {k : Nat} (hk : k < s.net.trs.length) : LineF s k := by
  have hl := goodStg_len hg
  have h1 := wordB_size (wordOk_of hg k (by omega)) (nth s.labels k).up
  have hr := rowF_of hg hz (nth_mem hk)
  have h2 := numsB_size (nth s.net.trs k).pre _ (Nat.le_refl _)
  have h3 := numsB_size (nth s.net.trs k).post _ (Nat.le_refl _)
  rw [List.take_of_length_le (Nat.le_refl _)] at h2 h3
  have h4 := hr.pl
  have h5 := hr.ql
  have e1 : (⟨#[32, 62]⟩ : ByteArray).size = 2 := rfl
  have e2 : (⟨#[10]⟩ : ByteArray).size = 1 := rfl
  refine ⟨h1, by omega, ?_, ?_, by omega, ?_, ?_⟩
  · simp only [ByteArray.size_append]; omega
  · simp only [ByteArray.size_append]; omega
  · simp only [ByteArray.size_append]; omega
  · simp only [lineT, ByteArray.size_append]; omega
theorem headT_size (s : Stg) : (headT s).size = s.start.size + 7 := by
  have e1 : (⟨#[115, 116, 97, 114, 116, 32]⟩ : ByteArray).size = 6 := rfl
  have e2 : (⟨#[10]⟩ : ByteArray).size = 1 := rfl
  simp only [headT, ByteArray.size_append]; omega
theorem fmtB_size {s : Stg} (hg : goodStg s = true) (hz : szStg s ≤ 1048576) : ∀ k, k ≤ s.net.trs.length → (fmtB s k).size ≤ 2000000 + k * 6291466
  | 0, _ => by
    have hl := goodStg_len hg
    have h1 := sglB_size (namesF hg) 3
    have h2 := headT_size s
    have h3 := start_le s
    have h4 : 3 * (7 * s.signals.length + 6) ≤ 3 * (7 * 8 + 6) := Nat.mul_le_mul_left 3 (by omega)
    simp only [fmtB, ByteArray.size_append]; omega
  | k + 1, h => by
    have := fmtB_size hg hz k (by omega)
    have := (lineF_of hg hz (show k < s.net.trs.length by omega)).t
    simp only [fmtB, ByteArray.size_append]; omega
def fmOk (s : Stg) : Bool := goodStg s && srtB s.signals
def fmR (s : Stg) : ByteArray := if fmOk s then fmtB s s.net.trs.length else ⟨#[]⟩

set_option maxHeartbeats 4000000 in
theorem FormatSTG_g (s : Stg) (hz : szStg s ≤ 1048576) : FnG KW Tryz.prog 18 [.agg (dStg s)] (.tup [.lit (.string (fmR s)), .lit (.bool (fmOk s))]) [] := by
  refine FnG_of Tryz.func18 rfl (by kernel_rfl) rfl rfl ?_
  intro w0 A hX hin
  have hst := start_le s
  have hV := IsValidSTG_f s (by omega)
  cases hg : goodStg s <;> rw [hg] at hV
  · repeat' (first | refine goZ ?_ | refine R_callZ rfl (hV) rfl rfl rfl ?_ | refine R_callvZ rfl (hV) rfl rfl rfl rfl ?_ | refine D_callZ rfl (hV) rfl rfl rfl ?_ | ((first | refine R_cond rfl (fun hq => ?_) fun hq => ?_ | refine R_guardT rfl rfl rfl (fun hq => ?_) fun hq => ?_ | refine R_guardF rfl rfl rfl (fun hq => ?_) fun hq => ?_ | refine D_guardT rfl rfl rfl (fun hq => ?_) fun hq => ?_ | refine D_guardF rfl rfl rfl (fun hq => ?_) fun hq => ?_) <;> (try rw [hq]) <;> first | have hp := of_decide_eq_true hq | have hp := of_decide_eq_false hq | have hp := of_decide_eq_false (not_t hq) | have hp := of_decide_eq_true (not_f hq) | have hp := hq))
    exact ret_lit2 rfl (by simp [fmR, fmOk, hg]) (by simp [fmOk, hg])
  have hgl := goodStg_len hg
  have hS := signalLines_g s.signals (by omega) (namesF hg) (kindsF hg)
  cases hs : srtB s.signals <;> rw [hs] at hS
  · repeat' (first | refine goZ ?_ | refine R_callZ rfl (hV) rfl rfl rfl ?_ | refine R_callvZ rfl (hV) rfl rfl rfl rfl ?_ | refine R_callG (fun _ h => hX.ext h) rfl hS rfl rfl rfl ?_ | refine D_callZ rfl (hV) rfl rfl rfl ?_ | ((first | refine R_cond rfl (fun hq => ?_) fun hq => ?_ | refine R_guardT rfl rfl rfl (fun hq => ?_) fun hq => ?_ | refine R_guardF rfl rfl rfl (fun hq => ?_) fun hq => ?_ | refine D_guardT rfl rfl rfl (fun hq => ?_) fun hq => ?_ | refine D_guardF rfl rfl rfl (fun hq => ?_) fun hq => ?_) <;> (try rw [hq]) <;> first | have hp := of_decide_eq_true hq | have hp := of_decide_eq_false hq | have hp := of_decide_eq_false (not_t hq) | have hp := of_decide_eq_true (not_f hq) | have hp := hq))
    exact ret_lit2 rfl (by simp [fmR, fmOk, hg, hs]) (by simp [fmOk, hg, hs])
  have hR : sglR s.signals = sglB s.signals 3 := by simp [sglR, hs]
  rw [hR] at hS
  have hs1 := sglB_size (namesF hg) 3
  have hs2 : 3 * (7 * s.signals.length + 6) ≤ 3 * (7 * 8 + 6) := Nat.mul_le_mul_left 3 (by omega)
  have e1 : (⟨#[115, 116, 97, 114, 116, 32]⟩ : ByteArray).size = 6 := rfl
  have e2 : (⟨#[10]⟩ : ByteArray).size = 1 := rfl
  have e3 : ((⟨#[115, 116, 97, 114, 116, 32]⟩ : ByteArray) ++ s.start).size = s.start.size + 6 := by rw [ByteArray.size_append]; omega
  have e4 : (((⟨#[115, 116, 97, 114, 116, 32]⟩ : ByteArray) ++ s.start) ++ ⟨#[10]⟩).size = s.start.size + 7 := headT_size s
  have hzt := len_dTr s.net.trs
  have hzl := len_dLab s.labels
  repeat' (first | refine goZ ?_ | refine R_callZ rfl (hV) rfl rfl rfl ?_ | refine R_callvZ rfl (hV) rfl rfl rfl rfl ?_ | refine R_callG (fun _ h => hX.ext h) rfl hS rfl rfl rfl ?_ | refine D_callZ rfl (hV) rfl rfl rfl ?_ | ((first | refine R_cond rfl (fun hq => ?_) fun hq => ?_ | refine R_guardT rfl rfl rfl (fun hq => ?_) fun hq => ?_ | refine R_guardF rfl rfl rfl (fun hq => ?_) fun hq => ?_ | refine D_guardT rfl rfl rfl (fun hq => ?_) fun hq => ?_ | refine D_guardF rfl rfl rfl (fun hq => ?_) fun hq => ?_) <;> (try rw [hq]) <;> first | have hp := of_decide_eq_true hq | have hp := of_decide_eq_false hq | have hp := of_decide_eq_false (not_t hq) | have hp := of_decide_eq_true (not_f hq) | have hp := hq))
  refine W_loop (fun k : Nat => ⟨_, [(1, .ptr 0 0), (4, .lit (.string (fmtB s k))), (27, .sh 2 (s.net.trs.map dTr)), (28, .lit (.int .i64 s.net.trs.length)), (29, .lit (.int .i64 k))], [.cells 28 (dStg s)]⟩) (fun k => k ≤ s.net.trs.length) (fun k => s.net.trs.length - k) 0 (Nat.zero_le _) (weakZ []) ?_
  intro k hk
  have hfs := fmtB_size hg hz k hk
  have hk24 : k * 6291466 ≤ 24 * 6291466 := Nat.mul_le_mul_right _ (by omega)
  rcases Nat.lt_or_ge k s.net.trs.length with hlt | hge
  · obtain ⟨l1, l2, l3, l4, l5, l6, l7⟩ := lineF_of hg hz hlt
    have hr := rowF_of hg hz (nth_mem hlt)
    have hE := edgeText_f s.signals (nth s.labels k) (wordOk_of hg k (by omega))
    have hP := placesText_f (nth s.net.trs k).pre hr.pl hr.p
    have hQ := placesText_f (nth s.net.trs k).post hr.ql hr.q
    have e5 : (⟨#[32, 62]⟩ : ByteArray).size = 2 := rfl
    have l8 := l7
    simp only [lineT] at l8
    repeat' (first | refine goZ ?_ | refine R_callZ rfl (hE) rfl rfl rfl ?_ | refine R_callZ rfl (hP) rfl rfl rfl ?_ | refine R_callZ rfl (hQ) rfl rfl rfl ?_ | refine R_callvZ rfl (hE) rfl rfl rfl rfl ?_ | refine R_callvZ rfl (hP) rfl rfl rfl rfl ?_ | refine R_callvZ rfl (hQ) rfl rfl rfl rfl ?_ | refine D_callZ rfl (hE) rfl rfl rfl ?_ | refine D_callZ rfl (hP) rfl rfl rfl ?_ | refine D_callZ rfl (hQ) rfl rfl rfl ?_ | ((first | refine R_cond rfl (fun hq => ?_) fun hq => ?_ | refine R_guardT rfl rfl rfl (fun hq => ?_) fun hq => ?_ | refine R_guardF rfl rfl rfl (fun hq => ?_) fun hq => ?_ | refine D_guardT rfl rfl rfl (fun hq => ?_) fun hq => ?_ | refine D_guardF rfl rfl rfl (fun hq => ?_) fun hq => ?_) <;> (try rw [hq]) <;> first | have hp := of_decide_eq_true hq | have hp := of_decide_eq_false hq | have hp := of_decide_eq_false (not_t hq) | have hp := of_decide_eq_true (not_f hq) | have hp := hq))
    all_goals first
      | (exfalso; omega)
      | exact ⟨k + 1, by omega, by omega, weakZ _⟩
  · obtain rfl : k = s.net.trs.length := by omega
    repeat' (first | refine goZ ?_ | ((first | refine R_cond rfl (fun hq => ?_) fun hq => ?_ | refine R_guardT rfl rfl rfl (fun hq => ?_) fun hq => ?_ | refine R_guardF rfl rfl rfl (fun hq => ?_) fun hq => ?_ | refine D_guardT rfl rfl rfl (fun hq => ?_) fun hq => ?_ | refine D_guardF rfl rfl rfl (fun hq => ?_) fun hq => ?_) <;> (try rw [hq]) <;> first | have hp := of_decide_eq_true hq | have hp := of_decide_eq_false hq | have hp := of_decide_eq_false (not_t hq) | have hp := of_decide_eq_true (not_f hq) | have hp := hq))
    all_goals first
      | (exfalso; omega)
      | exact ret_lit2 rfl (by simp [fmR, fmOk, hg, hs]) (by simp [fmOk, hg, hs])

set_option maxHeartbeats 4000000 in
theorem l3Text_f (s : Stg) (hg : goodStg s = true) (hz : szStg s ≤ 1048576) : Fn Tryz.prog 12 [.agg (dStg s)] (.lit (.string (fmtB s s.net.trs.length))) [] := by
  refine Fn_of Tryz.func12 rfl (by kernel_rfl) rfl rfl ?_
  intro w0 A hin
  have hst := start_le s
  have hgl := goodStg_len hg
  have hS := l3Signals_f s (by omega) (namesF hg)
  have hs1 := sglB_size (namesF hg) 3
  have hs2 : 3 * (7 * s.signals.length + 6) ≤ 3 * (7 * 8 + 6) := Nat.mul_le_mul_left 3 (by omega)
  have e1 : (⟨#[115, 116, 97, 114, 116, 32]⟩ : ByteArray).size = 6 := rfl
  have e2 : (⟨#[10]⟩ : ByteArray).size = 1 := rfl
  have e3 : (sglB s.signals 3 ++ ⟨#[115, 116, 97, 114, 116, 32]⟩).size ≤ 1000 := by rw [ByteArray.size_append]; omega
  have e4 : ((sglB s.signals 3 ++ ⟨#[115, 116, 97, 114, 116, 32]⟩) ++ s.start).size ≤ 1000 + s.start.size := by rw [ByteArray.size_append]; omega
  have hzt := len_dTr s.net.trs
  have hzl := len_dLab s.labels
  repeat' (first | refine goZ ?_ | refine R_callZ rfl (hS) rfl rfl rfl ?_ | refine R_callvZ rfl (hS) rfl rfl rfl rfl ?_ | refine D_callZ rfl (hS) rfl rfl rfl ?_ | ((first | refine R_cond rfl (fun hq => ?_) fun hq => ?_ | refine R_guardT rfl rfl rfl (fun hq => ?_) fun hq => ?_ | refine R_guardF rfl rfl rfl (fun hq => ?_) fun hq => ?_ | refine D_guardT rfl rfl rfl (fun hq => ?_) fun hq => ?_ | refine D_guardF rfl rfl rfl (fun hq => ?_) fun hq => ?_) <;> (try rw [hq]) <;> first | have hp := of_decide_eq_true hq | have hp := of_decide_eq_false hq | have hp := of_decide_eq_false (not_t hq) | have hp := of_decide_eq_true (not_f hq) | have hp := hq))
  refine W_loop (fun k : Nat => ⟨_, [(1, .ptr 0 0), (3, .lit (.string (fmtB s k))), (15, .sh 2 (s.net.trs.map dTr)), (16, .lit (.int .i64 s.net.trs.length)), (17, .lit (.int .i64 k))], [.cells 28 (dStg s)]⟩) (fun k => k ≤ s.net.trs.length) (fun k => s.net.trs.length - k) 0 (Nat.zero_le _) (by
    have e : fmtB s 0 = ((sglB s.signals 3 ++ ⟨#[115, 116, 97, 114, 116, 32]⟩) ++ s.start) ++ ⟨#[10]⟩ := by simp only [fmtB, headT, ByteArray.append_assoc]
    rw [e]; exact weakZ []) ?_
  intro k hk
  have hfs := fmtB_size hg hz k hk
  have hk24 : k * 6291466 ≤ 24 * 6291466 := Nat.mul_le_mul_right _ (by omega)
  rcases Nat.lt_or_ge k s.net.trs.length with hlt | hge
  · obtain ⟨l1, l2, l3, l4, l5, l6, l7⟩ := lineF_of hg hz hlt
    have hr := rowF_of hg hz (nth_mem hlt)
    have hE := l2Word_f s (nth s.labels k) (wordOk_of hg k (by omega))
    have hP := l3Nums_f (nth s.net.trs k).pre hr.pl hr.p
    have hQ := l3Nums_f (nth s.net.trs k).post hr.ql hr.q
    have e5 : (⟨#[32, 62]⟩ : ByteArray).size = 2 := rfl
    have l8 := l7
    simp only [lineT] at l8
    repeat' (first | refine goZ ?_ | refine R_callZ rfl (hE) rfl rfl rfl ?_ | refine R_callZ rfl (hP) rfl rfl rfl ?_ | refine R_callZ rfl (hQ) rfl rfl rfl ?_ | refine R_callvZ rfl (hE) rfl rfl rfl rfl ?_ | refine R_callvZ rfl (hP) rfl rfl rfl rfl ?_ | refine R_callvZ rfl (hQ) rfl rfl rfl rfl ?_ | refine D_callZ rfl (hE) rfl rfl rfl ?_ | refine D_callZ rfl (hP) rfl rfl rfl ?_ | refine D_callZ rfl (hQ) rfl rfl rfl ?_ | ((first | refine R_cond rfl (fun hq => ?_) fun hq => ?_ | refine R_guardT rfl rfl rfl (fun hq => ?_) fun hq => ?_ | refine R_guardF rfl rfl rfl (fun hq => ?_) fun hq => ?_ | refine D_guardT rfl rfl rfl (fun hq => ?_) fun hq => ?_ | refine D_guardF rfl rfl rfl (fun hq => ?_) fun hq => ?_) <;> (try rw [hq]) <;> first | have hp := of_decide_eq_true hq | have hp := of_decide_eq_false hq | have hp := of_decide_eq_false (not_t hq) | have hp := of_decide_eq_true (not_f hq) | have hp := hq))
    all_goals first
      | (exfalso; omega)
      | exact ⟨k + 1, by omega, by omega, weakZ _⟩
  · obtain rfl : k = s.net.trs.length := by omega
    repeat' (first | refine goZ ?_ | ((first | refine R_cond rfl (fun hq => ?_) fun hq => ?_ | refine R_guardT rfl rfl rfl (fun hq => ?_) fun hq => ?_ | refine R_guardF rfl rfl rfl (fun hq => ?_) fun hq => ?_ | refine D_guardT rfl rfl rfl (fun hq => ?_) fun hq => ?_ | refine D_guardF rfl rfl rfl (fun hq => ?_) fun hq => ?_) <;> (try rw [hq]) <;> first | have hp := of_decide_eq_true hq | have hp := of_decide_eq_false hq | have hp := of_decide_eq_false (not_t hq) | have hp := of_decide_eq_true (not_f hq) | have hp := hq))
    all_goals first
      | (exfalso; omega)
      | exact ret_lit rfl rfl

end Go.Proofs.YtcpjhpjlcgcigaaGreatDoor
